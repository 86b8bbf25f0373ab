/- Ranging over a map of whole numbers: in whatever order. -/
import Derived.Test.YtebllnoeenginaaMaps
namespace Go.Proofs.Ytebllnoeenginaa
open Go.RowKit

/-- Block r is an iterator over the map m, which holds l; the entries 'done' were told. -/
structure MIter (w : World) (r m : Nat) (l done : List (Int × Value)) : Prop where
  inner : ∃ (es : Array MapEntry) (ck : Nat) (seen : Array Nat) (ds : List MapEntry), IMap w m l es ck ∧ w.heap[r]? = some (.mapIter (some m) ck seen ck) ∧ seen.toList = ds.map (·.born) ∧ (∀ e ∈ ds, e ∈ es.toList) ∧ (ds.map (·.born)).Nodup ∧ ds.map (fun e => (e.key, e.val)) = done.map fun p => (Value.int .i64 p.1, p.2)

section
variable {P : Program} {w w' : World} {r m : Nat} {l done : List (Int × Value)} {S : List Nat}
theorem MIter.keeps (h : MIter w r m l done) (hk : Keeps S w w') (hr : r ∉ S) (hm : m ∉ S) : MIter w' r m l done := by
  obtain ⟨es, ck, seen, ds, h1, h2, h3⟩ := h.inner
  exact ⟨es, ck, seen, ds, h1.keeps hk hm, (hk.block r (Array.getElem?_eq_some_iff.1 h2).1 hr).trans h2, h3⟩
theorem MIter.lt (h : MIter w r m l done) : r < w.heap.size := by
  obtain ⟨es, ck, seen, ds, h1, h2, h3⟩ := h.inner
  exact (Array.getElem?_eq_some_iff.1 h2).1
theorem MIter.ne_blk (h : MIter w r m l done) {g : Nat} {t : TypeId} {cs : Array Value} (hb : Blk w g t cs) : g ≠ r := by
  obtain ⟨es, ck, seen, ds, h1, h2, h3⟩ := h.inner
  rintro rfl
  unfold Blk at hb
  rw [hb] at h2; cases h2
theorem MIter.ne_map (h : MIter w r m l done) : r ≠ m := by
  obtain ⟨es, ck, seen, ds, h1, h2, h3⟩ := h.inner
  rintro rfl
  have := h1.heap
  rw [this] at h2; cases h2

theorem run_range_imap {es : Array MapEntry} {ck : Nat} (h : IMap w m l es ck) {t kt e : TypeId} (ht : P.underlying t = some (.map kt e)) :
    (Instr.range t (.map (some m))).run P w = .ok (.pointer (some ⟨w.heap.size, 0, none⟩)) (w.alloc (.mapIter (some m) ck #[] ck)) ∧ MIter (w.alloc (.mapIter (some m) ck #[] ck)) w.heap.size m l [] := by
  constructor
  · simp [Instr.range, run_underlying ht, MapKept.run_getObj_map h.heap, Result.andThen, newObj, Sem.run]
  · exact ⟨es, ck, #[], [], h.keeps ((Keeps.refl [] w).alloc _) (by simp), heap_alloc_new w _, rfl, by simp, by simp, rfl⟩

theorem nodup_inj {α β : Type} {f : α → β} : ∀ {l : List α}, (l.map f).Nodup → ∀ {a b}, a ∈ l → b ∈ l → f a = f b → a = b
  | [], _, _, _, h, _, _ => by cases h
  | x :: l, hn, a, b, ha, hb, e => by
    rw [List.map_cons, List.nodup_cons] at hn
    rcases List.mem_cons.1 ha with rfl | ha' <;> rcases List.mem_cons.1 hb with rfl | hb'
    · rfl
    · exact absurd (by rw [e]; exact List.mem_map_of_mem (f := f) hb') hn.1
    · exact absurd (by rw [← e]; exact List.mem_map_of_mem (f := f) ha') hn.1
    · exact nodup_inj hn.2 ha' hb' e
theorem nodup_of_map {α β : Type} {f : α → β} : ∀ {l : List α}, (l.map f).Nodup → l.Nodup
  | [], _ => List.nodup_nil
  | x :: l, hn => by
    rw [List.map_cons, List.nodup_cons] at hn
    exact List.nodup_cons.2 ⟨fun h => hn.1 (List.mem_map_of_mem (f := f) h), nodup_of_map hn.2⟩
theorem nodup_len {α : Type} [DecidableEq α] : ∀ {a b : List α}, a.Nodup → (∀ x ∈ a, x ∈ b) → a.length ≤ b.length
  | [], _, _, _ => Nat.zero_le _
  | x :: a, b, hn, h => by
    rw [List.nodup_cons] at hn
    have hx := h x (by simp)
    have := nodup_len (a := a) (b := b.erase x) hn.2 (fun y hy => by
      have hyx : y ≠ x := by rintro rfl; exact hn.1 hy
      exact (List.mem_erase_of_ne hyx).2 (h y (by simp [hy])))
    rw [List.length_erase_of_mem hx] at this
    have h0 : 0 < b.length := List.length_pos_of_mem hx
    rw [List.length_cons]
    omega
theorem pair_inj {p q : Int × Value} (h : ((Value.int .i64 p.1, p.2) : Value × Value) = (Value.int .i64 q.1, q.2)) : p = q := by
  obtain ⟨p1, p2⟩ := p
  obtain ⟨q1, q2⟩ := q
  simp only [Prod.mk.injEq, Value.int.injEq] at h
  rw [h.1.2, h.2]

/-- What stands at each told entry. -/
theorem MIter.mem (h : MIter w r m l done) : ∀ p ∈ done, p ∈ l := by
  obtain ⟨es, ck, seen, ds, h1, h2, h3, h4, h5, h6⟩ := h.inner
  intro p hp
  have : (Value.int .i64 p.1, p.2) ∈ ds.map (fun e => (e.key, e.val)) := by rw [h6]; exact List.mem_map_of_mem (f := fun p : Int × Value => (Value.int .i64 p.1, p.2)) hp
  obtain ⟨e, he, hee⟩ := List.mem_map.1 this
  have h7 : (e.key, e.val) ∈ es.toList.map (fun e => (e.key, e.val)) := List.mem_map_of_mem (f := fun e : MapEntry => (e.key, e.val)) (h4 e he)
  rw [h1.ents, hee] at h7
  obtain ⟨q, hq, hqe⟩ := List.mem_map.1 h7
  rw [← pair_inj hqe]; exact hq
theorem MIter.nodup (h : MIter w r m l done) : (done.map (·.1)).Nodup := by
  obtain ⟨es, ck, seen, ds, h1, h2, h3, h4, h5, h6⟩ := h.inner
  -- keys of entries of the map differ
  have hk : (es.toList.map (·.key)).Nodup := by
    have : es.toList.map (·.key) = (l.map (·.1)).map (Value.int .i64) := by
      have := congrArg (List.map (·.1)) h1.ents
      simpa [List.map_map, Function.comp_def] using this
    rw [this]
    have hn := h1.nodup
    generalize l.map (·.1) = ks at hn
    induction ks with
    | nil => simp
    | cons a ks ih =>
      rw [List.nodup_cons] at hn
      rw [List.map_cons, List.nodup_cons]
      refine ⟨fun hm => ?_, ih hn.2⟩
      obtain ⟨b, hb, e⟩ := List.mem_map.1 hm
      simp only [Value.int.injEq, true_and] at e
      subst e; exact hn.1 hb
  have hdk : done.map (fun p => Value.int .i64 p.1) = ds.map (·.key) := by
    have := congrArg (List.map (·.1)) h6
    simpa [List.map_map, Function.comp_def] using this.symm
  have hds : (ds.map (·.key)).Nodup := by
    have hdn : ds.Nodup := nodup_of_map h5
    clear h3 h5 h6 hdk
    induction ds with
    | nil => simp
    | cons e ds ih =>
      rw [List.nodup_cons] at hdn
      rw [List.map_cons, List.nodup_cons]
      refine ⟨fun hm => ?_, ih (fun x hx => h4 x (by simp [hx])) hdn.2⟩
      obtain ⟨x, hx, ex⟩ := List.mem_map.1 hm
      have := nodup_inj (f := fun e : MapEntry => e.key) hk (h4 x (by simp [hx])) (h4 e (by simp)) ex
      subst this; exact hdn.1 hx
  rw [← hdk, show done.map (fun p => Value.int .i64 p.1) = (done.map (·.1)).map (Value.int .i64) from by simp [List.map_map, Function.comp_def]] at hds
  exact nodup_of_map hds

theorem run_next_imap (h : MIter w r m l done) :
    ((∀ ty, (Instr.next (.pointer (some ⟨r, 0, none⟩)) false ty).run P w = .ok (.tuple #[.bool false]) w) ∧ (∀ p ∈ l, p ∈ done) ∧ done.length = l.length) ∨
    ∃ k v w', (∀ ty, (Instr.next (.pointer (some ⟨r, 0, none⟩)) false ty).run P w = .ok (.tuple #[.bool true, .int .i64 k, v]) w') ∧ (Instr.entry (.pointer (some ⟨r, 0, none⟩))).run P w' = .ok (.tuple #[.int .i64 k, v]) w' ∧
      MIter w' r m l (done ++ [(k, v)]) ∧ Keeps [r] w w' ∧ w'.heap.size = w.heap.size ∧ (k, v) ∈ l ∧ k ∉ done.map (·.1) ∧ done.length < l.length := by
  have hmem := h.mem
  have hnod := h.nodup
  obtain ⟨es, ck, seen, ds, h1, h2, h3, h4, h5, h6⟩ := h.inner
  have hrm : r ≠ m := h.ne_map
  have hgm : (getObj m).run P w = .ok (.map es ck) w := MapKept.run_getObj_map h1.heap
  have hgr : (getObj r).run P w = .ok (.mapIter (some m) ck seen ck) w := by simp [getObj, Sem.run, h2]
  have hseen : ∀ e, seen.contains e = true ↔ e ∈ ds.map (·.born) := by
    intro e; rw [← h3]; simp
  have hall : es.all (fun e => decide (e.born ≥ ck)) = true → es.isEmpty = true := by
    intro ha
    rw [Array.isEmpty_iff_size_eq_zero]
    rcases Nat.eq_zero_or_pos es.size with h | h
    · exact h
    · have := Array.all_eq_true.1 ha 0 h
      have h8 := h1.old es[0] (by simp)
      simp at this; omega
  have hchk : (!seen.isEmpty && !es.isEmpty && es.all (fun e => decide (e.born ≥ ck))) = false := by
    cases hq : es.all (fun e => decide (e.born ≥ ck)) with
    | false => simp
    | true => rw [hall hq]; simp
  have hlt : ∀ x ∈ (es.filter fun e => !seen.contains e.born).toList, x.born < ck := by
    intro x hx
    rw [Array.toList_filter, List.mem_filter] at hx
    exact h1.old x hx.1
  have hold : ((es.filter fun e => !seen.contains e.born).filter fun e => decide (e.born < ck)) = es.filter fun e => !seen.contains e.born := by
    apply Array.ext'
    rw [Array.toList_filter, List.filter_eq_self]
    intro x hx; simpa using hlt x hx
  have hnew : ((es.filter fun e => !seen.contains e.born).filter fun e => decide (e.born ≥ ck)) = #[] := by
    apply Array.ext'
    rw [Array.toList_filter]
    show _ = ([] : List MapEntry)
    rw [List.filter_eq_nil_iff]
    intro x hx; have := hlt x hx; simp; omega
  generalize hL : (es.filter fun e => !seen.contains e.born) = L at hlt hold hnew
  have hLm : ∀ x, x ∈ L.toList ↔ x ∈ es.toList ∧ x.born ∉ ds.map (·.born) := by
    intro x
    rw [← hL, Array.toList_filter, List.mem_filter]
    constructor
    · rintro ⟨a, b⟩
      refine ⟨a, fun hb => ?_⟩
      rw [(hseen x.born).2 hb] at b; cases b
    · rintro ⟨a, b⟩
      refine ⟨a, ?_⟩
      cases hc : seen.contains x.born with
      | false => rfl
      | true => exact absurd ((hseen x.born).1 hc) b
  have hdl : ds.length = done.length := by have := congrArg List.length h6; simpa using this
  have hel : es.toList.length = l.length := by have := congrArg List.length h1.ents; simpa using this
  have hesn : es.toList.Nodup := nodup_of_map h1.born
  have hln : l.Nodup := nodup_of_map h1.nodup
  have hdn : done.Nodup := nodup_of_map hnod
  by_cases hE : L = #[]
  · left
    have hin : ∀ e ∈ es.toList, e ∈ ds := by
      intro e he
      have : e.born ∈ ds.map (·.born) := by
        refine Classical.byContradiction fun hn => ?_
        have := (hLm e).2 ⟨he, hn⟩
        rw [hE] at this; simp at this
      obtain ⟨x, hx, hxe⟩ := List.mem_map.1 this
      have := nodup_inj (f := fun e : MapEntry => e.born) h1.born (h4 x hx) he hxe
      rw [← this]; exact hx
    have hall2 : ∀ p ∈ l, p ∈ done := by
      intro p hp
      have h7 : (Value.int .i64 p.1, p.2) ∈ es.toList.map (fun e => (e.key, e.val)) := by rw [h1.ents]; exact List.mem_map_of_mem (f := fun p : Int × Value => (Value.int .i64 p.1, p.2)) hp
      obtain ⟨e, he, hee⟩ := List.mem_map.1 h7
      have h8 : (e.key, e.val) ∈ ds.map (fun e => (e.key, e.val)) := List.mem_map_of_mem (f := fun e : MapEntry => (e.key, e.val)) (hin e he)
      rw [h6, hee] at h8
      obtain ⟨q, hq, hqe⟩ := List.mem_map.1 h8
      rw [← pair_inj hqe]; exact hq
    refine ⟨fun ty => ?_, hall2, ?_⟩
    · simp only [Instr.next, Sem.run_bind, hgr, Result.andThen_ok, hgm, hchk, Bool.false_eq_true, if_false, hL, hE]
      simp [choose, Sem.run, Question.forced, Result.andThen]
    · refine Nat.le_antisymm ?_ ?_
      · have hnl : (done.map (·.1)).length ≤ (l.map (·.1)).length := nodup_len hnod (fun x hx => by obtain ⟨q, hq, e⟩ := List.mem_map.1 hx; exact List.mem_map.2 ⟨q, hmem q hq, e⟩)
        simpa using hnl
      · have hnl : (l.map (·.1)).length ≤ (done.map (·.1)).length := nodup_len h1.nodup (fun x hx => by obtain ⟨q, hq, e⟩ := List.mem_map.1 hx; exact List.mem_map.2 ⟨q, hall2 q hq, e⟩)
        simpa using hnl
  · right
    have hsz : 0 < L.size := by
      rcases Nat.eq_zero_or_pos L.size with h | h
      · exact absurd (Array.eq_empty_of_size_eq_zero h) hE
      · exact h
    have hcand : ((if L.isEmpty then #[none] else #[]) ++ (L ++ #[]).map some : Array (Option MapEntry)) = L.map some := by
      have : L.isEmpty = false := by simp [Array.isEmpty]; omega
      rw [this]; simp
    obtain ⟨i, w1, hi, hch, hw1⟩ : ∃ i w1, i < L.size ∧ (choose (.mapNext L.size)).run P w = .ok i w1 ∧ (w1 = w ∨ w1 = w.drew) := by
      by_cases hf : L.size ≤ 1
      · exact ⟨0, w, hsz, by simp [choose, Sem.run, Question.forced, hf], .inl rfl⟩
      · exact ⟨w.tape w.drawn (.mapNext L.size) % L.size, w.drew, Nat.mod_lt _ hsz, by simp [choose, Sem.run, Question.forced, hf, Question.cut], .inr rfl⟩
    have hk1 : Keeps [] w w1 := by rcases hw1 with rfl | rfl; exact Keeps.refl _ _; exact (Keeps.refl _ _).drew
    have hz1 : w1.heap = w.heap := by rcases hw1 with rfl | rfl <;> rfl
    have heL : L[i] ∈ L.toList := by simp
    obtain ⟨hees, hnb⟩ := (hLm L[i]).1 heL
    obtain ⟨q, hq, hqe⟩ : ∃ q ∈ l, (Value.int .i64 q.1, q.2) = (L[i].key, L[i].val) := by
      have h7 : (L[i].key, L[i].val) ∈ es.toList.map (fun e => (e.key, e.val)) := List.mem_map_of_mem (f := fun e : MapEntry => (e.key, e.val)) hees
      rw [h1.ents] at h7
      obtain ⟨q, hq, e⟩ := List.mem_map.1 h7
      exact ⟨q, hq, e⟩
    have hke : L[i].key = .int .i64 q.1 := (congrArg Prod.fst hqe).symm
    have hve : L[i].val = q.2 := (congrArg Prod.snd hqe).symm
    have hrl : r < w1.heap.size := by rw [hz1]; exact (Array.getElem?_eq_some_iff.1 h2).1
    have hkp : Keeps [r] w (put w1 r (.mapIter (some m) ck (seen.push L[i].born) ck)) := (hk1.mono (by simp)).put (.inl (by simp)) _
    have hIM : IMap (put w1 r (.mapIter (some m) ck (seen.push L[i].born) ck)) m l es ck := h1.keeps hkp (by simp; exact fun e => hrm e.symm)
    have hgr2 : (getObj r).run P (put w1 r (.mapIter (some m) ck (seen.push L[i].born) ck)) = .ok (.mapIter (some m) ck (seen.push L[i].born) ck) (put w1 r (.mapIter (some m) ck (seen.push L[i].born) ck)) := by
      simp [getObj, Sem.run, put_same hrl]
    have hqd : q.1 ∉ done.map (·.1) := by
      intro hm
      obtain ⟨p, hp, hpe⟩ := List.mem_map.1 hm
      have hpl := hmem p hp
      have hpq : p = q := nodup_inj (f := fun p : Int × Value => p.1) h1.nodup hpl hq hpe
      subst hpq
      have h8 : (Value.int .i64 p.1, p.2) ∈ ds.map (fun e => (e.key, e.val)) := by rw [h6]; exact List.mem_map_of_mem (f := fun p : Int × Value => (Value.int .i64 p.1, p.2)) hp
      obtain ⟨x, hx, hxe⟩ := List.mem_map.1 h8
      -- two entries of one key are one entry
      have hkk : (es.toList.map (·.key)).Nodup := by
        have : es.toList.map (·.key) = (l.map (·.1)).map (Value.int .i64) := by
          have := congrArg (List.map (·.1)) h1.ents
          simpa [List.map_map, Function.comp_def] using this
        rw [this]
        have hn := h1.nodup
        generalize l.map (·.1) = ks at hn
        clear hqe hm hp hpe hpl hq hxe
        induction ks with
        | nil => simp
        | cons a ks ih =>
          rw [List.nodup_cons] at hn
          rw [List.map_cons, List.nodup_cons]
          refine ⟨fun hm => ?_, ih hn.2⟩
          obtain ⟨b, hb, e⟩ := List.mem_map.1 hm
          simp only [Value.int.injEq, true_and] at e
          subst e; exact hn.1 hb
      have hxk : x.key = L[i].key := by rw [hke]; exact congrArg Prod.fst hxe
      have := nodup_inj (f := fun e : MapEntry => e.key) hkk (h4 x hx) hees hxk
      subst this
      exact hnb (List.mem_map_of_mem (f := fun e : MapEntry => e.born) hx)
    refine ⟨q.1, q.2, put w1 r (.mapIter (some m) ck (seen.push L[i].born) ck), fun ty => ?_, ?_, ⟨es, ck, _, ds ++ [L[i]], hIM, put_same hrl, ?_, ?_, ?_, ?_⟩, hkp, by rw [put_size, hz1], hq, hqd, ?_⟩
    · simp only [Instr.next, Sem.run_bind, hgr, Result.andThen_ok, hgm, hchk, Bool.false_eq_true, if_false, hL, hold, hnew, hcand, Array.size_map, hch]
      have h2' : w1.heap[r]? = some (.mapIter (some m) ck seen ck) := by rw [hz1]; exact h2
      simp [hi, setObj, Sem.run, h2', Result.andThen, hke, hve, Ytebllnoeenginaa.put]
    · have hfind : es.find? (fun e => e.born == L[i].born) = some L[i] := by
        rw [← Array.find?_toList]
        have : ∀ (xs : List MapEntry), (xs.map (·.born)).Nodup → L[i] ∈ xs → xs.find? (fun e => e.born == L[i].born) = some L[i] := by
          intro xs
          induction xs with
          | nil => intro _ h; cases h
          | cons x xs ih =>
            intro hn hm
            rw [List.find?_cons]
            by_cases hx : x.born = L[i].born
            · have := nodup_inj (f := fun e : MapEntry => e.born) hn (List.mem_cons_self) hm hx
              subst this; simp
            · have hb : (x.born == L[i].born) = false := by simpa using hx
              rw [hb]
              rw [List.map_cons, List.nodup_cons] at hn
              rcases List.mem_cons.1 hm with e | e
              · rw [e] at hx; exact absurd rfl hx
              · exact ih hn.2 e
        exact this es.toList h1.born hees
      simp [Instr.entry, hgr2, MapKept.run_getObj_map hIM.heap, Result.andThen, hfind, hke, hve]
    · rw [Array.toList_push, h3, List.map_append]; rfl
    · intro e he
      rcases List.mem_append.1 he with h | h
      · exact h4 e h
      · rw [List.mem_singleton.1 h]; exact hees
    · rw [List.map_append, List.map_cons, List.map_nil]
      refine List.nodup_append.2 ⟨h5, by simp, ?_⟩
      rintro a ha b hb rfl
      have : a = L[i].born := by simpa using hb
      subst this; exact hnb ha
    · rw [List.map_append, List.map_append, h6]
      simp [hke, hve]
    · have hnl : ((q.1 :: done.map (·.1))).length ≤ (l.map (·.1)).length := nodup_len (List.nodup_cons.2 ⟨hqd, hnod⟩) (fun x hx => by
        rcases List.mem_cons.1 hx with rfl | hx
        · exact List.mem_map_of_mem (f := fun p : Int × Value => p.1) hq
        · obtain ⟨q', hq', e⟩ := List.mem_map.1 hx; exact List.mem_map.2 ⟨q', hmem q' hq', e⟩)
      simp at hnl; omega
end
end Go.Proofs.Ytebllnoeenginaa
