/- What the operations on maps of whole numbers do, said of association lists. -/
import Derived.Test.YtebllnoeenginaaBase
import Derived.MapKept
namespace Go.Proofs.Ytebllnoeenginaa
open Go.RowKit

section
variable {α : Type}
theorem AL.get_nil (k : Int) : AL.get ([] : List (Int × α)) k = none := rfl
theorem AL.get_cons (p : Int × α) (l : List (Int × α)) (k : Int) : AL.get (p :: l) k = if p.1 = k then some p.2 else AL.get l k := by
  unfold AL.get
  by_cases h : p.1 = k
  · simp [h]
  · have : (p.1 == k) = false := by simpa using h
    simp [this, h]
theorem AL.has_get (l : List (Int × α)) (k : Int) : AL.has l k = (AL.get l k).isSome := by
  unfold AL.has AL.get
  rw [Option.isSome_map]
  induction l with
  | nil => rfl
  | cons p l ih =>
    rw [List.any_cons, ih, List.find?_cons]
    cases p.1 == k <;> simp
theorem AL.get_append (a b : List (Int × α)) (k : Int) : AL.get (a ++ b) k = (AL.get a k).or (AL.get b k) := by
  unfold AL.get
  rw [List.find?_append]
  cases a.find? fun p => p.1 == k <;> rfl
theorem AL.get_mapval (l : List (Int × α)) (k k' : Int) (x : α) : AL.get (l.map fun p => if p.1 == k then (k, x) else p) k' = if k' = k then (AL.get l k).map (fun _ => x) else AL.get l k' := by
  induction l with
  | nil => simp [AL.get_nil]
  | cons p l ih =>
    rw [List.map_cons, AL.get_cons, ih, AL.get_cons, AL.get_cons]
    by_cases h : p.1 = k
    · subst h
      by_cases h2 : k' = p.1
      · subst h2; simp
      · have : ¬ p.1 = k' := fun e => h2 e.symm
        simp [this, h2]
    · have hb : (p.1 == k) = false := by simpa using h
      simp only [hb, Bool.false_eq_true, if_false]
      by_cases h2 : k' = k
      · subst h2; simp [h]
      · simp [h2]
theorem AL.get_put (l : List (Int × α)) (k k' : Int) (x : α) : AL.get (AL.put l k x) k' = if k' = k then some x else AL.get l k' := by
  unfold AL.put
  split
  · rename_i h
    rw [AL.get_mapval]
    split
    · rw [AL.has_get] at h
      cases hg : AL.get l k with
      | none => rw [hg] at h; cases h
      | some y => rfl
    · rfl
  · rename_i h
    rw [AL.get_append, AL.get_cons]
    by_cases h2 : k' = k
    · subst h2
      have : AL.get l k' = none := by
        cases hg : AL.get l k' with
        | none => rfl
        | some y => rw [AL.has_get, hg] at h; simp at h
      simp [this]
    · have h3 : ¬ k = k' := fun e => h2 e.symm
      rw [if_neg h2, if_neg h3]; cases AL.get l k' <;> simp [AL.get_nil]
theorem AL.get_del (l : List (Int × α)) (k k' : Int) : AL.get (AL.del l k) k' = if k' = k then none else AL.get l k' := by
  unfold AL.del
  induction l with
  | nil => simp [AL.get_nil]
  | cons p l ih =>
    by_cases h : p.1 = k
    · have hb : (p.1 == k) = true := by simpa using h
      rw [List.filter_cons_of_neg (by simp [hb]), ih, AL.get_cons]
      by_cases h2 : k' = k
      · simp [h2]
      · have : ¬ p.1 = k' := fun e => h2 (by rw [← e, h])
        simp [h2, this]
    · have hb : (p.1 == k) = false := by simpa using h
      rw [List.filter_cons_of_pos (by simp [hb]), AL.get_cons, ih, AL.get_cons]
      by_cases h2 : k' = k
      · subst h2; simp [h]
      · simp [h2]
theorem AL.keys_mapval (l : List (Int × α)) (k : Int) (x : α) : (l.map fun p => if p.1 == k then (k, x) else p).map (·.1) = l.map (·.1) := by
  rw [List.map_map]
  apply List.map_congr_left
  intro p _
  simp only [Function.comp]
  split
  · rename_i h; exact (by simpa using h : p.1 = k).symm
  · rfl
theorem AL.mem_of_get {l : List (Int × α)} {k : Int} {x : α} (h : AL.get l k = some x) : (k, x) ∈ l := by
  induction l with
  | nil => cases h
  | cons p l ih =>
    rw [AL.get_cons] at h
    split at h
    · rename_i e; cases h; subst e; exact List.mem_cons_self
    · exact List.mem_cons_of_mem _ (ih h)
theorem AL.get_of_mem {l : List (Int × α)} (hn : (l.map (·.1)).Nodup) {k : Int} {x : α} (h : (k, x) ∈ l) : AL.get l k = some x := by
  induction l with
  | nil => cases h
  | cons p l ih =>
    rw [AL.get_cons]
    rw [List.map_cons, List.nodup_cons] at hn
    rcases List.mem_cons.1 h with rfl | h
    · simp
    · have : p.1 ≠ k := fun e => hn.1 (e ▸ List.mem_map_of_mem (f := (·.1)) h)
      rw [if_neg this]; exact ih hn.2 h
theorem AL.has_iff (l : List (Int × α)) (k : Int) : AL.has l k = true ↔ k ∈ l.map (·.1) := by
  unfold AL.has
  rw [List.any_eq_true]
  constructor
  · rintro ⟨p, hp, e⟩; exact List.mem_map.2 ⟨p, hp, by simpa using e⟩
  · intro h; obtain ⟨p, hp, e⟩ := List.mem_map.1 h; exact ⟨p, hp, by simpa using e⟩
theorem AL.nodup_put {l : List (Int × α)} (h : (l.map (·.1)).Nodup) (k : Int) (x : α) : ((AL.put l k x).map (·.1)).Nodup := by
  unfold AL.put
  split
  · rw [AL.keys_mapval]; exact h
  · rename_i hh
    rw [List.map_append, List.map_cons, List.map_nil]
    refine List.nodup_append.2 ⟨h, by simp, ?_⟩
    intro a ha b hb
    have : b = k := by simpa using hb
    subst this
    rintro rfl
    exact hh ((AL.has_iff l a).2 ha)
theorem AL.nodup_del {l : List (Int × α)} (h : (l.map (·.1)).Nodup) (k : Int) : ((AL.del l k).map (·.1)).Nodup := by
  unfold AL.del
  exact List.Nodup.sublist (List.Sublist.map _ List.filter_sublist) h
end

/-! ### The search -/
theorem findNow_ix (k : Int) : ∀ (es : List MapEntry) (l : List (Int × Value)) (i : Nat), es.map (fun e => (e.key, e.val)) = l.map (fun p => (Value.int .i64 p.1, p.2)) →
    Instr.findNow (.int .i64) (.int .i64 k) es i = some ((l.findIdx? fun p => p.1 == k).bind fun j => (l[j]?).map fun p => (i + j, p.2))
  | [], l, i, h => by
    have : l = [] := by cases l <;> simp_all
    subst this; rfl
  | e :: es, l, i, h => by
    cases l with
    | nil => simp at h
    | cons p l =>
      rw [List.map_cons, List.map_cons, List.cons.injEq] at h
      obtain ⟨h1, h2⟩ := h
      have hk : e.key = .int .i64 p.1 := congrArg Prod.fst h1
      have hv : e.val = p.2 := congrArg Prod.snd h1
      unfold Instr.findNow
      rw [hk]
      simp only [Instr.sameNow, if_true]
      by_cases he : p.1 = k
      · have e1 : (k == p.1) = true := by simp [he]
        have e2 : (p.1 == k) = true := by simp [he]
        simp [e1, List.findIdx?_cons, e2, hv]
      · have e1 : (k == p.1) = false := by simpa using fun e : k = p.1 => he e.symm
        have e2 : (p.1 == k) = false := by simpa using he
        simp only [e1]
        rw [findNow_ix k es l (i + 1) h2, List.findIdx?_cons, e2]
        simp only [Bool.false_eq_true, if_false]
        congr 1
        cases l.findIdx? fun p => p.1 == k with
        | none => rfl
        | some j => simp [Nat.add_assoc, Nat.add_comm 1 j]
theorem get_ix (l : List (Int × Value)) (k : Int) : AL.get l k = (l.findIdx? fun p => p.1 == k).bind fun j => (l[j]?).map (·.2) := by
  induction l with
  | nil => rfl
  | cons p l ih =>
    rw [AL.get_cons, List.findIdx?_cons]
    by_cases he : p.1 = k
    · simp [he]
    · have e2 : (p.1 == k) = false := by simpa using he
      simp only [he, if_false, e2, Bool.false_eq_true]
      rw [ih]
      cases l.findIdx? fun p => p.1 == k with
      | none => rfl
      | some j => simp

section
variable {P : Program} {w : World} {m : Nat} {l : List (Int × Value)} {es : Array MapEntry} {ck : Nat}

theorem isKey_int (k : Int) : MapKept.IsKey (.int .i64) (.int .i64 k) := by simp [MapKept.IsKey]

theorem run_imap_lookup (h : IMap w m l es ck) {t kt e : TypeId} (ht : P.underlying t = some (.map kt e)) (hk : P.underlying kt = some (.int .i64)) {z : Value} (hz : (zeroValue e).run P w = .ok z w) (k : Int) (c : Bool) :
    (Instr.lookup t (.map (some m)) (.int .i64 k) c).run P w = .ok (if c then .tuple #[(AL.get l k).getD z, .bool (AL.get l k).isSome] else (AL.get l k).getD z) w := by
  have hf := findNow_ix k es.toList l 0 h.ents
  have hg := get_ix l k
  cases hi : l.findIdx? fun p => p.1 == k with
  | none =>
    rw [hi] at hg hf
    simp only [Option.bind_none] at hg hf
    rw [hg]
    simp only [Option.getD_none, Option.isSome_none]
    simp [Instr.lookup, run_underlying ht, MapKept.run_getObj_map h.heap, MapKept.run_checkKey hk (isKey_int k), MapKept.run_findKey hk hf, hz, Result.andThen]
  | some j =>
    rw [hi] at hg hf
    simp only [Option.bind_some] at hg hf
    cases hj : l[j]? with
    | none =>
      have := (List.findIdx?_eq_some_iff_getElem.1 hi).1
      rw [List.getElem?_eq_none_iff] at hj; omega
    | some p =>
      rw [hj] at hg hf
      simp only [Option.map_some] at hg hf
      rw [hg]
      simp only [Option.getD_some, Option.isSome_some]
      simp [Instr.lookup, run_underlying ht, MapKept.run_getObj_map h.heap, MapKept.run_checkKey hk (isKey_int k), MapKept.run_findKey hk hf, Result.andThen]

theorem run_nil_lookup {t kt e : TypeId} (ht : P.underlying t = some (.map kt e)) (hk : P.underlying kt = some (.int .i64)) {z : Value} (hz : (zeroValue e).run P w = .ok z w) (k : Int) (c : Bool) :
    (Instr.lookup t (.map none) (.int .i64 k) c).run P w = .ok (if c then .tuple #[z, .bool false] else z) w := by
  have hf : Instr.findNow (.int .i64) (.int .i64 k) [] 0 = some none := rfl
  simp [Instr.lookup, run_underlying ht, MapKept.run_checkKey hk (isKey_int k), MapKept.run_findKey hk hf, hz, Result.andThen]

theorem map_fst_ents (h : es.toList.map (fun e => (e.key, e.val)) = l.map fun p => (Value.int .i64 p.1, p.2)) : es.size = l.length := by
  have := congrArg List.length h
  simpa using this

theorem run_imap_update (h : IMap w m l es ck) {t kt e : TypeId} (ht : P.underlying t = some (.map kt e)) (hk : P.underlying kt = some (.int .i64)) (k : Int) (v : Value) :
    ∃ es' ck', (Instr.mapUpdate t (.map (some m)) (.int .i64 k) v).run P w = .ok () (put w m (.map es' ck')) ∧ IMap (put w m (.map es' ck')) m (AL.put l k v) es' ck' := by
  have hf := findNow_ix k es.toList l 0 h.ents
  have hlt : m < w.heap.size := (Array.getElem?_eq_some_iff.1 h.heap).1
  cases hi : l.findIdx? fun p => p.1 == k with
  | none =>
    rw [hi] at hf
    simp only [Option.bind_none] at hf
    have hn : ¬ AL.has l k = true := by
      rw [List.findIdx?_eq_none_iff] at hi
      unfold AL.has
      rw [List.any_eq_true]
      rintro ⟨p, hp, e⟩
      have := hi p hp
      rw [this] at e; cases e
    refine ⟨es.push { key := .int .i64 k, val := v, born := ck }, ck + 1, ?_, put_same hlt, ?_, AL.nodup_put h.nodup k v, ?_, ?_⟩
    · simp [Instr.mapUpdate, run_underlying ht, MapKept.run_getObj_map h.heap, MapKept.run_checkKey hk (isKey_int k), MapKept.run_findKey hk hf, MapKept.run_setObj_map _ h.heap, Result.andThen, Ytebllnoeenginaa.put]
    · unfold AL.put
      rw [if_neg hn]
      simp [h.ents]
    · rw [Array.toList_push, List.map_append, List.map_cons, List.map_nil]
      refine List.nodup_append.2 ⟨h.born, by simp, ?_⟩
      intro a ha b hb
      have : b = ck := by simpa using hb
      subst this
      obtain ⟨x, hx, rfl⟩ := List.mem_map.1 ha
      have := h.old x hx
      omega
    · intro x hx
      rw [Array.toList_push, List.mem_append] at hx
      rcases hx with hx | hx
      · have := h.old x hx; omega
      · have : x = { key := .int .i64 k, val := v, born := ck } := by simpa using hx
        subst this; simp
  | some j =>
    rw [hi] at hf
    obtain ⟨hjl, hjk, hjm⟩ := List.findIdx?_eq_some_iff_getElem.1 hi
    have hjk' : l[j].1 = k := by simpa using hjk
    have hsz := map_fst_ents h.ents
    have hjs : j < es.size := by omega
    rw [Option.bind_some, List.getElem?_eq_getElem hjl, Option.map_some, Nat.zero_add] at hf
    have hek : es[j].key = .int .i64 k := by
      have h1 := congrArg (fun x => x[j]?) h.ents
      simp only [List.getElem?_map, Array.getElem?_toList, Array.getElem?_eq_getElem hjs, List.getElem?_eq_getElem hjl, Option.map_some, Option.some.injEq, Prod.mk.injEq] at h1
      rw [h1.1, hjk']
    have hhas : AL.has l k = true := by
      unfold AL.has; rw [List.any_eq_true]; exact ⟨l[j], List.getElem_mem hjl, hjk⟩
    refine ⟨es.modify j fun e => { e with key := .int .i64 k, val := v }, ck, ?_, put_same hlt, ?_, AL.nodup_put h.nodup k v, ?_, ?_⟩
    · simp [Instr.mapUpdate, run_underlying ht, MapKept.run_getObj_map h.heap, MapKept.run_checkKey hk (isKey_int k), MapKept.run_findKey hk hf, Array.getElem?_eq_getElem hjs, hek, MapKept.run_keyThatStays (isKey_int k), MapKept.run_setObj_map _ h.heap, Result.andThen, Ytebllnoeenginaa.put]
    · unfold AL.put
      rw [if_pos hhas]
      apply List.ext_getElem?
      intro i
      have h1 := congrArg (fun x => x[i]?) h.ents
      simp only [List.getElem?_map, Array.getElem?_toList] at h1
      simp only [List.getElem?_map, Array.getElem?_toList, Array.getElem?_modify]
      by_cases hij : j = i
      · subst hij
        simp [Array.getElem?_eq_getElem hjs, List.getElem?_eq_getElem hjl, hjk']
      · rw [if_neg hij, h1]
        cases hli : l[i]? with
        | none => rfl
        | some p =>
          have hne : p.1 ≠ k := by
            intro e
            have hil : i < l.length := (List.getElem?_eq_some_iff.1 hli).1
            have hp : l[i] = p := (List.getElem?_eq_some_iff.1 hli).2
            have hpw := List.pairwise_iff_getElem.1 (show List.Pairwise (· ≠ ·) (l.map (·.1)) from h.nodup)
            rcases Nat.lt_or_gt_of_ne hij with hlt | hlt
            · exact hpw j i (by simpa using hjl) (by simpa using hil) hlt (by simp only [List.getElem_map]; rw [hp, e, hjk'])
            · exact hpw i j (by simpa using hil) (by simpa using hjl) hlt (by simp only [List.getElem_map]; rw [hp, e, hjk'])
          simp [hne]
    · have : (es.modify j fun e => { e with key := .int .i64 k, val := v }).toList.map (·.born) = es.toList.map (·.born) := by
        apply List.ext_getElem?
        intro i
        simp only [List.getElem?_map, Array.getElem?_toList, Array.getElem?_modify]
        split
        · cases es[i]? <;> rfl
        · rfl
      rw [this]; exact h.born
    · intro x hx
      obtain ⟨i, hi1⟩ := List.getElem?_of_mem hx
      rw [Array.getElem?_toList, Array.getElem?_modify] at hi1
      split at hi1
      · cases hx2 : es[i]? with
        | none => rw [hx2] at hi1; cases hi1
        | some y =>
          rw [hx2] at hi1
          simp only [Option.map_some, Option.some.injEq] at hi1
          subst hi1
          exact h.old y (List.mem_of_getElem? (by rw [Array.getElem?_toList]; exact hx2))
      · exact h.old x (List.mem_of_getElem? (by rw [Array.getElem?_toList]; exact hi1))

theorem map_eraseIdx' {α β : Type} (f : α → β) : ∀ (l : List α) (j : Nat), (l.map f).eraseIdx j = (l.eraseIdx j).map f
  | [], j => by simp
  | a :: l, 0 => by simp
  | a :: l, j + 1 => by simp [map_eraseIdx' f l j]

theorem run_imap_delete (h : IMap w m l es ck) {t kt e : TypeId} (ht : P.underlying t = some (.map kt e)) (hk : P.underlying kt = some (.int .i64)) (k : Int) :
    ∃ es', (∀ ty, (Builtin.delete_ #[t, kt] ty #[.map (some m), .int .i64 k]).run P w = .ok (.tuple #[]) (put w m (.map es' ck))) ∧ IMap (put w m (.map es' ck)) m (AL.del l k) es' ck := by
  have hf := findNow_ix k es.toList l 0 h.ents
  have hlt : m < w.heap.size := (Array.getElem?_eq_some_iff.1 h.heap).1
  cases hi : l.findIdx? fun p => p.1 == k with
  | none =>
    rw [hi] at hf
    simp only [Option.bind_none] at hf
    have hd : AL.del l k = l := by
      unfold AL.del
      rw [List.filter_eq_self]
      intro p hp
      rw [List.findIdx?_eq_none_iff] at hi
      simp [hi p hp]
    refine ⟨es, ?_, put_same hlt, by rw [hd]; exact h.ents, by rw [hd]; exact h.nodup, h.born, h.old⟩
    intro ty
    simp [Builtin.delete_, run_underlying ht, MapKept.run_getObj_map h.heap, MapKept.run_checkKey hk (isKey_int k), MapKept.run_findKey hk hf, MapKept.run_setObj_map _ h.heap, Result.andThen, Ytebllnoeenginaa.put]
  | some j =>
    rw [hi] at hf
    obtain ⟨hjl, hjk, hjm⟩ := List.findIdx?_eq_some_iff_getElem.1 hi
    have hsz := map_fst_ents h.ents
    have hjs : j < es.size := by omega
    rw [Option.bind_some, List.getElem?_eq_getElem hjl, Option.map_some, Nat.zero_add] at hf
    have hjk' : l[j].1 = k := by simpa using hjk
    have hd : AL.del l k = l.eraseIdx j := by
      have : ∀ (l : List (Int × Value)) (j : Nat) (hj : j < l.length), l[j].1 = k → (l.map (·.1)).Nodup → l.filter (fun p => !(p.1 == k)) = l.eraseIdx j := by
        intro l
        induction l with
        | nil => intro j hj; simp at hj
        | cons p l ih =>
          intro j hj hjk hn
          rw [List.map_cons, List.nodup_cons] at hn
          cases j with
          | zero =>
            have hp : p.1 = k := hjk
            rw [List.filter_cons_of_neg (by simp [hp]), List.eraseIdx_cons_zero, List.filter_eq_self]
            intro q hq
            have : q.1 ≠ k := fun e => hn.1 (by rw [hp, ← e]; exact List.mem_map_of_mem (f := (·.1)) hq)
            simpa using this
          | succ j =>
            have hjl : j < l.length := by simpa using hj
            have hjk2 : l[j].1 = k := hjk
            have : p.1 ≠ k := fun e => hn.1 (by rw [e, ← hjk2]; exact List.mem_map_of_mem (f := (·.1)) (List.getElem_mem hjl))
            rw [List.filter_cons_of_pos (by simpa using this), List.eraseIdx_cons_succ, ih j hjl hjk2 hn.2]
      exact this l j hjl hjk' h.nodup
    have he : (es.eraseIdxIfInBounds j).toList = es.toList.eraseIdx j := by
      unfold Array.eraseIdxIfInBounds
      rw [dif_pos hjs, Array.toList_eraseIdx]
    refine ⟨es.eraseIdxIfInBounds j, ?_, put_same hlt, ?_, by rw [hd]; exact List.Nodup.sublist (List.Sublist.map _ (List.eraseIdx_sublist _ _)) h.nodup, ?_, ?_⟩
    · intro ty
      simp [Builtin.delete_, run_underlying ht, MapKept.run_getObj_map h.heap, MapKept.run_checkKey hk (isKey_int k), MapKept.run_findKey hk hf, MapKept.run_setObj_map _ h.heap, Result.andThen, Ytebllnoeenginaa.put]
    · rw [he, hd, ← map_eraseIdx', ← map_eraseIdx', h.ents]
    · rw [he]; exact List.Nodup.sublist (List.Sublist.map _ (List.eraseIdx_sublist _ _)) h.born
    · intro x hx; rw [he] at hx; exact h.old x (List.mem_of_mem_eraseIdx hx)

theorem run_imap_len (h : IMap w m l es ck) {t kt e ty : TypeId} (ht : P.underlying t = some (.map kt e)) :
    (Builtin.len_ #[t] ty #[.map (some m)]).run P w = .ok (.int .i64 l.length) w := by
  have := map_fst_ents h.ents
  simp [Builtin.len_, run_underlying ht, MapKept.run_getObj_map h.heap, Result.andThen, this, goInt]

theorem IMap.keeps {S : List Nat} {w' : World} (h : IMap w m l es ck) (hk : Keeps S w w') (hm : m ∉ S) : IMap w' m l es ck :=
  ⟨(hk.block m (Array.getElem?_eq_some_iff.1 h.heap).1 hm).trans h.heap, h.ents, h.nodup, h.born, h.old⟩
theorem IMap.new (w : World) : IMap (w.alloc (.map #[] 0)) w.heap.size [] #[] 0 := ⟨heap_alloc_new w _, rfl, by simp, by simp, by simp⟩
end
end Go.Proofs.Ytebllnoeenginaa
