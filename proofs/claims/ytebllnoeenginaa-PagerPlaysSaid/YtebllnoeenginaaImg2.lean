/- The pager as a plain machine: a commit, whole or cut off. -/
import Derived.Test.YtebllnoeenginaaImg
namespace Go.Proofs.Ytebllnoeenginaa
open Go.RowKit

section
variable {X : Pager} {D : Disk} {root : List UInt8}
theorem Pager.ok.freed_not_fresh (hx : X.ok D) {k : Int} (h : AL.has X.freed k = true) : AL.has X.fresh k = false := by
  cases hf : AL.has X.fresh k with
  | false => rfl
  | true =>
    obtain ⟨bs, hb⟩ := AL.has_some hf
    have := (hx.frk k bs hb).2.2.1
    rw [hx.fdk k h] at this; cases this
theorem nextTaken_get (hx : X.ok D) (k : Int) (h0 : 0 ≤ k) : X.nextTaken.getD k.toNat false = ((AL.has X.fresh k || X.has k) && !AL.has X.freed k) := by
  have hfk : ∀ q : List Int, (∀ x ∈ q, 0 ≤ x) → ((∃ x ∈ q, x.toNat = k.toNat) ↔ k ∈ q) := by
    intro q hq
    constructor
    · rintro ⟨x, hx, e⟩
      have := hq x hx
      have : x = k := by omega
      rw [← this]; exact hx
    · intro h; exact ⟨k, h, rfl⟩
  have hlo := hx.first_lo
  have hfr : ∀ x ∈ X.fresh.map (·.1), 0 ≤ x := by
    intro x hm
    obtain ⟨bs, hb⟩ := AL.get_of_key hm
    have := hx.frk x bs hb; omega
  have hfd : ∀ x ∈ X.freed.map (·.1), 0 ≤ x := by
    intro x hm
    have := hx.tk x (hx.fdk x ((AL.has_iff _ _).2 hm)); omega
  unfold Pager.nextTaken
  rw [List.getD_eq_getElem?_getD, setAll_get, setAll_get]
  have c1 := (hfk _ hfr).trans (AL.has_iff _ _).symm
  have c2 := (hfk _ hfd).trans (AL.has_iff _ _).symm
  have hb : X.has k = X.taken.getD k.toNat false := by unfold Pager.has; rw [decide_eq_true h0, Bool.true_and]
  have hlen := hx.len
  cases hd : AL.has X.freed k with
  | true =>
    have := hx.tk k (hx.fdk k hd)
    rw [if_pos (c2.2 hd), if_neg (fun h => by rw [hx.freed_not_fresh hd] at c1; exact absurd (c1.1 h) (by simp)), List.getElem?_eq_getElem (by omega)]
    simp
  | false =>
    rw [if_neg (fun h => by rw [hd] at c2; exact absurd (c2.1 h) (by simp))]
    cases hf : AL.has X.fresh k with
    | true =>
      obtain ⟨bs, hbs⟩ := AL.has_some hf
      have := hx.frk k bs hbs
      rw [if_pos (c1.2 hf), List.getElem?_eq_getElem (by omega)]
      simp
    | false =>
      rw [if_neg (fun h => by rw [hf] at c1; exact absurd (c1.1 h) (by simp)), ← List.getD_eq_getElem?_getD, ← hb]
      simp
theorem next_has (hx : X.ok D) (k : Int) : (X.next_ D root).has k = ((AL.has X.fresh k || X.has k) && !AL.has X.freed k) := by
  by_cases h0 : 0 ≤ k
  · rw [← nextTaken_get hx k h0]
    unfold Pager.has Pager.next_
    rw [decide_eq_true h0, Bool.true_and]
  · have h1 : X.has k = false := by unfold Pager.has; rw [decide_eq_false h0, Bool.false_and]
    have h2 : AL.has X.fresh k = false := by
      cases hf : AL.has X.fresh k with
      | false => rfl
      | true =>
        obtain ⟨bs, hbs⟩ := AL.has_some hf
        have := hx.frk k bs hbs
        have := hx.first_lo
        omega
    rw [h1, h2]
    unfold Pager.has; rw [decide_eq_false h0]; simp
theorem next_many (hx : X.ok D) : X.many + X.fresh.length - X.freed.length = (X.nextTaken.count true : Nat) := by
  have hnext : ∀ k, k ∈ tkeys X.nextTaken ↔ ((AL.has X.fresh k || X.has k) && !AL.has X.freed k) = true := by
    intro k
    rw [← next_has (root := []) hx k, Pager.has_tkeys]; rfl
  have hfn : ∀ k, k ∈ X.freed.map (·.1) ↔ AL.has X.freed k = true := fun k => (AL.has_iff _ _).symm
  have hbn : ∀ k, k ∈ (X.fresh.map (·.1)) ++ tkeys X.taken ↔ (AL.has X.fresh k || X.has k) = true := by
    intro k
    rw [List.mem_append, ← AL.has_iff, ← Pager.has_tkeys, Bool.or_eq_true]
  have hn : (tkeys X.nextTaken ++ X.freed.map (·.1)).Nodup := by
    refine List.nodup_append.2 ⟨tkeys_nodup _, hx.nd, ?_⟩
    rintro a ha b hb rfl
    rw [hnext] at ha
    rw [hfn] at hb
    rw [hb] at ha; simp at ha
  have hm : ∀ k, k ∈ tkeys X.nextTaken ++ X.freed.map (·.1) ↔ k ∈ (X.fresh.map (·.1)) ++ tkeys X.taken := by
    intro k
    rw [hbn, List.mem_append, hnext, hfn]
    cases hd : AL.has X.freed k with
    | false => simp
    | true => have := hx.fdk k hd; simp [this]
  have e1 := nodup_len hn (fun x h => (hm x).1 h)
  have e2 := nodup_len hx.both (fun x h => (hm x).2 h)
  have e3 := hx.both_len
  simp only [List.length_append, tkeys_length, List.length_map] at e1 e2 e3
  omega

/-! ### The writes of a commit -/
theorem pageWrites_keys (X : Pager) : X.pageWrites.map (·.1) = rising (X.fresh.map (·.1)) := by
  unfold Pager.pageWrites; rw [List.map_map]; simp [Function.comp_def]
theorem pageWrites_len (X : Pager) : X.pageWrites.length = X.fresh.length := by unfold Pager.pageWrites; rw [List.length_map, rising_length, List.length_map]
theorem mapWrites_len (t : List Bool) (s m : Int) : (mapWrites t s m).length = m.toNat := by unfold mapWrites; rw [List.length_map, List.length_range]
theorem layWrites_len (X : Pager) (D : Disk) (t : List Bool) (root : List UInt8) : (X.layWrites D t root).length = X.fresh.length + (mapsOf D.blocks).toNat + 1 := by
  unfold Pager.layWrites
  rw [List.length_append, List.length_append, pageWrites_len, mapWrites_len]; rfl
theorem mem_pageWrites {q : Int × List UInt8} : q ∈ X.pageWrites ↔ ∃ k bs, AL.get X.fresh k = some bs ∧ q = (k, encPage bs) := by
  unfold Pager.pageWrites
  rw [List.mem_map]
  constructor
  · rintro ⟨k, hk, rfl⟩
    rw [mem_rising] at hk
    obtain ⟨bs, hb⟩ := AL.get_of_key hk
    exact ⟨k, bs, hb, by rw [hb]; rfl⟩
  · rintro ⟨k, bs, hb, rfl⟩
    refine ⟨k, mem_rising.2 ?_, by rw [hb]; rfl⟩
    rw [← AL.has_iff, AL.has_get, hb]; rfl
theorem mem_mapWrites {t : List Bool} {s m : Int} {q : Int × List UInt8} : q ∈ mapWrites t s m ↔ ∃ i : Nat, (i : Int) < m ∧ q = (2 + s % 2 * m + (i : Int), mapB t i 4096) := by
  unfold mapWrites
  rw [List.mem_map]
  constructor
  · rintro ⟨i, hi, rfl⟩
    rw [List.mem_range] at hi
    exact ⟨i, by omega, rfl⟩
  · rintro ⟨i, hi, rfl⟩
    exact ⟨i, List.mem_range.2 (by omega), rfl⟩
theorem parity (s m : Int) (h : 0 ≤ m) : (s % 2 * m = 0 ∧ (s + 1) % 2 * m = m) ∨ (s % 2 * m = m ∧ (s + 1) % 2 * m = 0) := by
  rcases Int.emod_two_eq s with hp | hp
  · have h1 : (s + 1) % 2 = 1 := by omega
    rw [hp, h1]; omega
  · have h1 : (s + 1) % 2 = 0 := by omega
    rw [hp, h1]; omega
theorem maps_pos (hx : X.ok D) : 1 ≤ mapsOf D.blocks ∧ mapsOf D.blocks ≤ 4 := by unfold mapsOf; have := hx.blo; have := hx.bhi; omega
theorem layWrites_takes (hx : X.ok D) (hr : root.length ≤ 64) : ∀ q ∈ X.layWrites D X.nextTaken root, D.takes q := by
  have h1 := hx.blo
  have h2 := hx.first_lo
  have hm := maps_pos hx
  have hp := parity X.seq (mapsOf D.blocks) (by omega)
  intro q hq
  unfold Pager.layWrites at hq
  rw [List.mem_append, List.mem_append] at hq
  rcases hq with (hq | hq) | hq
  · obtain ⟨k, bs, hb, rfl⟩ := mem_pageWrites.1 hq
    have := hx.frk k bs hb
    refine ⟨by simp only; omega, by simp only; omega, ?_⟩
    unfold encPage
    exact padded_length (by rw [List.length_append, putB_length]; omega)
  · obtain ⟨i, hi, rfl⟩ := mem_mapWrites.1 hq
    exact ⟨by simp only; omega, by simp only; omega, mapB_length _ _ _⟩
  · rw [List.mem_singleton.1 hq]
    exact ⟨by simp only; omega, by simp only; omega, slot_len _ _ hr⟩
theorem layWrites_nodup (hx : X.ok D) : ((X.layWrites D X.nextTaken root).map (·.1)).Nodup := by
  have h2 := hx.first_lo
  have hm := maps_pos hx
  have hp := parity X.seq (mapsOf D.blocks) (by omega)
  unfold Pager.layWrites
  rw [List.map_append, List.map_append, pageWrites_keys]
  refine List.nodup_append.2 ⟨List.nodup_append.2 ⟨rising_nodup hx.nf, ?_, ?_⟩, by simp, ?_⟩
  · unfold mapWrites
    rw [List.map_map]
    have hn : (List.range (mapsOf D.blocks).toNat).Nodup := List.nodup_range
    generalize List.range (mapsOf D.blocks).toNat = r at hn
    induction r with
    | nil => simp
    | cons a r ih =>
      rw [List.nodup_cons] at hn
      rw [List.map_cons, List.nodup_cons]
      refine ⟨?_, ih hn.2⟩
      intro hmm
      obtain ⟨b, hb, e⟩ := List.mem_map.1 hmm
      simp only [Function.comp] at e
      have : b = a := by omega
      subst this; exact hn.1 hb
  · rintro a ha b hb rfl
    rw [mem_rising] at ha
    obtain ⟨bs, hbs⟩ := AL.get_of_key ha
    have h3 := (hx.frk a bs hbs).1
    obtain ⟨q, hq, e⟩ := List.mem_map.1 hb
    obtain ⟨i, hi, rfl⟩ := mem_mapWrites.1 hq
    simp only at e
    unfold firstOf at h3
    omega
  · rintro a ha b hb rfl
    have hb : a = (X.seq + 1) % 2 := by simpa using hb
    rcases List.mem_append.1 ha with ha | ha
    · rw [mem_rising] at ha
      obtain ⟨bs, hbs⟩ := AL.get_of_key ha
      have h3 := (hx.frk a bs hbs).1
      omega
    · obtain ⟨q, hq, e⟩ := List.mem_map.1 ha
      obtain ⟨i, hi, rfl⟩ := mem_mapWrites.1 hq
      simp only at e
      omega

/-- Writes short of the last leave what was committed. -/
theorem same_cut (hx : X.ok D) (hr : root.length ≤ 64) (n : Nat) (hn : n < (X.layWrites D X.nextTaken root).length) {D' : Disk} (hm : D'.mem = putsM D.mem ((X.layWrites D X.nextTaken root).take n)) (hb : D'.blocks = D.blocks) : SameAt X D D' := by
  have h2 := hx.first_lo
  have hmp := maps_pos hx
  have hp := parity X.seq (mapsOf D.blocks) (by omega)
  have hl : (X.layWrites D X.nextTaken root).take n = (X.pageWrites ++ mapWrites X.nextTaken (X.seq + 1) (mapsOf D.blocks)).take n := by
    unfold Pager.layWrites
    unfold Pager.layWrites at hn
    rw [List.length_append] at hn
    rw [List.take_append_of_le_length (by simp only [List.length_cons, List.length_nil] at hn; omega)]
  have hblk : ∀ k, (∀ bs, AL.get X.fresh k ≠ some bs) → (∀ i : Nat, (i : Int) < mapsOf D.blocks → k ≠ 2 + (X.seq + 1) % 2 * mapsOf D.blocks + (i : Int)) → D'.block k = D.block k := by
    intro k h3 h4
    have : D'.block k = (D.puts ((X.layWrites D X.nextTaken root).take n)).block k := by unfold Disk.block Disk.puts; rw [hm]
    rw [this, Disk.block_puts_other]
    intro hh
    obtain ⟨q, hq, e⟩ := List.mem_map.1 hh
    rw [hl] at hq
    rcases List.mem_append.1 (List.mem_of_mem_take hq) with hq | hq
    · obtain ⟨k', bs, hbs, rfl⟩ := mem_pageWrites.1 hq
      simp only at e; subst e; exact h3 bs hbs
    · obtain ⟨i, hi, rfl⟩ := mem_mapWrites.1 hq
      simp only at e; exact h4 i hi e.symm
  refine ⟨hb, ?_, ?_, ?_, ?_⟩
  · have : (D.puts ((X.layWrites D X.nextTaken root).take n)).full := Disk.full_puts hx.full (fun q hq => (layWrites_takes hx hr q (List.mem_of_mem_take hq)).2.2)
    intro k bs hg
    rw [hm] at hg
    exact this k bs hg
  · intro i hi
    refine hblk i (fun bs hbs => ?_) (fun j hj => by omega)
    have := hx.frk i bs hbs; omega
  · intro i hi1 hi2
    refine hblk i (fun bs hbs => ?_) (fun j hj => by omega)
    have h3 := (hx.frk i bs hbs).1
    unfold firstOf at h3; omega
  · intro k hk
    refine hblk k (fun bs hbs => ?_) (fun j hj => ?_)
    · have := (hx.frk k bs hbs).2.2.1; rw [hk] at this; cases this
    · have h3 := (hx.tk k hk).1
      unfold firstOf at h3; omega
theorem did_block_fresh (hx : X.ok D) {k : Int} {bs : List UInt8} (h : AL.get X.fresh k = some bs) : (D.did (X.layWrites D X.nextTaken root)).block k = encPage bs :=
  Disk.block_puts_mem (D := D) (layWrites_nodup hx) (by unfold Pager.layWrites; exact List.mem_append_left _ (List.mem_append_left _ (mem_pageWrites.2 ⟨k, bs, h, rfl⟩)))
theorem did_block_has (hx : X.ok D) {k : Int} (h : X.has k = true) : (D.did (X.layWrites D X.nextTaken root)).block k = D.block k := by
  have h2 := hx.first_lo
  have hmp := maps_pos hx
  have hp := parity X.seq (mapsOf D.blocks) (by omega)
  have h3 := (hx.tk k h).1
  refine Disk.block_puts_other (D := D) ?_
  intro hh
  obtain ⟨q, hq, e⟩ := List.mem_map.1 hh
  unfold Pager.layWrites at hq
  rw [List.mem_append, List.mem_append] at hq
  rcases hq with (hq | hq) | hq
  · obtain ⟨k', bs, hbs, rfl⟩ := mem_pageWrites.1 hq
    simp only at e; subst e
    have := (hx.frk k' bs hbs).2.2.1; rw [h] at this; cases this
  · obtain ⟨i, hi, rfl⟩ := mem_mapWrites.1 hq
    simp only at e
    unfold firstOf at h3; omega
  · rw [List.mem_singleton.1 hq] at e
    simp only at e; omega
theorem next_ok (hx : X.ok D) (hr : root.length ≤ 64) (hs : X.seq + 1 < 1152921504606846976) : (X.next_ D root).ok (D.did (X.layWrites D X.nextTaken root)) := by
  have h1 := hx.blo
  have h2 := hx.first_lo
  have h3 := hx.first_hi
  have hmp := maps_pos hx
  have hslo := hx.slo
  refine ⟨?_, hx.blo, hx.bhi, ?_, ?_, hs, next_many hx, Int.le_refl _, ?_, ?_, ?_, ?_, ?_, hr, List.nodup_nil, List.nodup_nil⟩
  · exact Disk.full_puts (D := D) hx.full (fun q hq => (layWrites_takes hx hr q hq).2.2)
  · show ((X.nextTaken.length : Nat) : Int) = D.blocks
    unfold Pager.nextTaken
    rw [setAll_length, setAll_length]; exact hx.len
  · show 0 ≤ X.seq + 1
    omega
  · show firstOf D.blocks < D.blocks
    omega
  · intro k bs h; cases h
  · intro k h; cases h
  · intro k hk
    rw [next_has hx] at hk
    simp only [Bool.and_eq_true, Bool.or_eq_true] at hk
    rcases hk.1 with h | h
    · obtain ⟨bs, hb⟩ := AL.has_some h
      have := hx.frk k bs hb
      exact ⟨this.1, this.2.1⟩
    · exact hx.tk k h
  · intro k hk
    rw [next_has hx] at hk
    simp only [Bool.and_eq_true, Bool.or_eq_true] at hk
    cases hf : AL.has X.fresh k with
    | true =>
      obtain ⟨bs, hb⟩ := AL.has_some hf
      exact ⟨bs, (hx.frk k bs hb).2.2.2, did_block_fresh hx hb⟩
    | false =>
      have h : X.has k = true := by rcases hk.1 with h | h; rw [hf] at h; cases h; exact h
      rw [did_block_has hx h]; exact hx.pg k h
theorem next_image (hx : X.ok D) (hi : Image X D) (_ : root.length ≤ 64) (hs : X.seq + 1 < 1152921504606846976) : Image (X.next_ D root) (D.did (X.layWrites D X.nextTaken root)) := by
  have h2 := hx.first_lo
  have hmp := maps_pos hx
  have hp := parity X.seq (mapsOf D.blocks) (by omega)
  have hslo := hx.slo
  have hn := layWrites_nodup (root := root) hx
  have hold : (D.did (X.layWrites D X.nextTaken root)).block ((X.seq + 1 + 1) % 2) = D.block (X.seq % 2) := by
    have e : (X.seq + 1 + 1) % 2 = X.seq % 2 := by omega
    rw [e]
    refine Disk.block_puts_other (D := D) ?_
    intro hh
    obtain ⟨q, hq, e⟩ := List.mem_map.1 hh
    unfold Pager.layWrites at hq
    rw [List.mem_append, List.mem_append] at hq
    rcases hq with (hq | hq) | hq
    · obtain ⟨k', bs, hbs, rfl⟩ := mem_pageWrites.1 hq
      simp only at e
      have := (hx.frk k' bs hbs).1; omega
    · obtain ⟨i, hi, rfl⟩ := mem_mapWrites.1 hq
      simp only at e; omega
    · rw [List.mem_singleton.1 hq] at e
      simp only at e; omega
  have hso : (slotSeq (D.block (X.seq % 2)) : Int) ≤ X.seq := by
    by_cases h0 : X.seq = 0
    · obtain ⟨-, b0, -, -⟩ := hi.zero h0
      rw [show X.seq % 2 = 0 by omega, b0, noughts_slot]; omega
    · rw [hi.cur (by omega), slot_seq _ _ (by have := hx.shi; omega)]; omega
  refine ⟨fun _ => ?_, fun h => ?_, ?_, fun _ _ => ?_, ?_⟩
  · exact Disk.block_puts_mem (D := D) hn (by unfold Pager.layWrites; exact List.mem_append_right _ (by simp [Pager.next_]))
  · exfalso
    have h : X.seq + 1 = 0 := h
    omega
  · show (slotSeq ((D.did (X.layWrites D X.nextTaken root)).block ((X.seq + 1 + 1) % 2)) : Int) ≤ X.seq + 1
    rw [hold]; omega
  · show (slotSeq ((D.did (X.layWrites D X.nextTaken root)).block ((X.seq + 1 + 1) % 2)) : Int) < X.seq + 1
    rw [hold]; omega
  · intro n hnl _
    show bitAt (D.did (X.layWrites D X.nextTaken root)) (X.seq + 1) n = X.nextTaken.getD n false
    have hnl' : n < X.nextTaken.length := hnl
    have hlen : (X.nextTaken.length : Int) = D.blocks := by unfold Pager.nextTaken; rw [setAll_length, setAll_length]; exact hx.len
    have hi4 : ((n / 4096 : Nat) : Int) < mapsOf D.blocks := by unfold mapsOf; omega
    have hb : (D.did (X.layWrites D X.nextTaken root)).block (2 + (X.seq + 1) % 2 * mapsOf D.blocks + ((n / 4096 : Nat) : Int)) = mapB X.nextTaken (n / 4096) 4096 :=
      Disk.block_puts_mem (D := D) hn (by unfold Pager.layWrites; exact List.mem_append_left _ (List.mem_append_right _ (mem_mapWrites.2 ⟨n / 4096, hi4, rfl⟩)))
    unfold bitAt
    rw [show (D.did (X.layWrites D X.nextTaken root)).blocks = D.blocks from rfl, hb]
    have := mapB_bit X.nextTaken (n / 4096) (n % 4096) (Nat.mod_lt _ (by omega)) 4096 (Nat.le_refl _)
    rw [show n % 4096 % 8 = n % 8 by omega, show n / 4096 * 4096 + n % 4096 = n by omega, decide_eq_true (Nat.mod_lt _ (by omega)), Bool.true_and] at this
    exact this
/-- A commit for which there is power. -/
theorem commit_done (hx : X.ok D) (hd : D.dead = false) (hr : root.length ≤ 64) (h0 : 0 ≤ D.writes) (hw : D.writes + X.fresh.length + 10 < 4611686018427387904) (hl : D.left < 0 ∨ (X.fresh.length : Int) + mapsOf D.blocks + 1 ≤ D.left) :
    X.commit D root = (0, X.next_ D root, D.did (X.layWrites D X.nextTaken root)) := by
  have hmp := maps_pos hx
  have hlen := layWrites_len X D X.nextTaken root
  unfold Pager.commit
  rw [hd, if_neg (by simp), if_neg (by omega), Disk.writeAll_did _ D hd (layWrites_takes hx hr) h0 (by rw [hlen]; omega) (by rw [hlen]; omega), if_pos rfl]
/-- A commit that is cut off. -/
theorem commit_cutoff (hx : X.ok D) (hd : D.dead = false) (hr : root.length ≤ 64) (h0 : 0 ≤ D.writes) (hw : D.writes + X.fresh.length + 10 < 4611686018427387904) (hl0 : 0 ≤ D.left) (hl : D.left < (X.fresh.length : Int) + mapsOf D.blocks + 1) :
    X.commit D root = (12, X, D.cutAt ((X.layWrites D X.nextTaken root).take D.left.toNat)) ∧ SameAt X D (D.cutAt ((X.layWrites D X.nextTaken root).take D.left.toNat)) := by
  have hmp := maps_pos hx
  have hlen := layWrites_len X D X.nextTaken root
  refine ⟨?_, same_cut hx hr D.left.toNat (by rw [hlen]; omega) rfl rfl⟩
  unfold Pager.commit
  rw [hd, if_neg (by simp), if_neg (by omega), Disk.writeAll_cut _ D hd (layWrites_takes hx hr) h0 (by rw [hlen]; omega) hl0 (by rw [hlen]; omega), if_neg (by simp)]
end
end Go.Proofs.Ytebllnoeenginaa
