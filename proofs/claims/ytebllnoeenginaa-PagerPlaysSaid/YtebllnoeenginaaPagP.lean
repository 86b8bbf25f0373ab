/- The pager as a plain machine: counting its pages. -/
import Derived.Test.YtebllnoeenginaaPag2
namespace Go.Proofs.Ytebllnoeenginaa
open Go.RowKit

/-- The numbers at which a row of truths says yes. -/
def tkeys (l : List Bool) : List Int := ((List.range l.length).filter fun i => l.getD i false).map fun i : Nat => (i : Int)
theorem tkeys_snoc (l : List Bool) (b : Bool) : tkeys (l ++ [b]) = tkeys l ++ (if b then [(l.length : Int)] else []) := by
  unfold tkeys
  rw [List.length_append, List.length_singleton, List.range_succ, List.filter_append, List.map_append]
  congr 1
  · congr 1
    apply List.filter_congr
    intro i hi
    have : i < l.length := List.mem_range.1 hi
    simp [List.getD_eq_getElem?_getD, List.getElem?_append_left this]
  · cases b <;> simp
theorem tkeys_length (l : List Bool) : (tkeys l).length = l.count true := by
  rw [← List.reverse_reverse l]
  induction l.reverse with
  | nil => rfl
  | cons b l ih =>
    rw [List.reverse_cons, tkeys_snoc, List.length_append, ih, List.count_append]
    cases b <;> simp
theorem mem_tkeys (l : List Bool) (k : Int) : k ∈ tkeys l ↔ 0 ≤ k ∧ l.getD k.toNat false = true := by
  unfold tkeys
  rw [List.mem_map]
  constructor
  · rintro ⟨i, hi, rfl⟩
    rw [List.mem_filter] at hi
    exact ⟨by omega, by simpa using hi.2⟩
  · rintro ⟨h1, h2⟩
    refine ⟨k.toNat, ?_, by omega⟩
    rw [List.mem_filter]
    refine ⟨?_, h2⟩
    rw [List.mem_range]
    rcases Nat.lt_or_ge k.toNat l.length with h | h
    · exact h
    · rw [List.getD_eq_getElem?_getD, List.getElem?_eq_none h] at h2; cases h2
theorem tkeys_nodup (l : List Bool) : (tkeys l).Nodup := by
  unfold tkeys
  have h : ((List.range l.length).filter fun i => l.getD i false).Nodup := List.Nodup.sublist List.filter_sublist List.nodup_range
  generalize (List.range l.length).filter (fun i => l.getD i false) = r at h
  induction r with
  | nil => simp
  | cons a r ih =>
    rw [List.nodup_cons] at h
    rw [List.map_cons, List.nodup_cons]
    refine ⟨?_, ih h.2⟩
    intro hm
    obtain ⟨b, hb, e⟩ := List.mem_map.1 hm
    have : b = a := by omega
    subst this
    exact h.1 hb
theorem Pager.has_tkeys {X : Pager} {k : Int} : X.has k = true ↔ k ∈ tkeys X.taken := by
  rw [mem_tkeys]; unfold Pager.has; simp

theorem covers : ∀ (n : Nat) (a : Int) (l : List Int), (∀ x, a ≤ x → x < a + n → x ∈ l) → n ≤ l.length
  | 0, _, _, _ => Nat.zero_le _
  | n + 1, a, l, h => by
    have h1 : n ≤ (l.filter fun x => !(x == a)).length := by
      refine covers n (a + 1) _ ?_
      intro x h1 h2
      rw [List.mem_filter]
      have : x ≠ a := by omega
      exact ⟨h x (by omega) (by omega), by simpa using this⟩
    have h2 : a ∈ l := h a (by omega) (by omega)
    have h3 : (l.filter fun x => !(x == a)).length < l.length := by
      clear h1 h
      induction l with
      | nil => cases h2
      | cons x l ih =>
        by_cases e : x = a
        · subst e
          rw [List.filter_cons_of_neg (by simp), List.length_cons]
          have := List.length_filter_le (fun y => !(y == x)) l
          omega
        · rw [List.filter_cons_of_pos (by simpa using e), List.length_cons, List.length_cons]
          have := ih (by rcases List.mem_cons.1 h2 with h | h; exact absurd h.symm e; exact h)
          omega
    omega

/-- A page that can be allocated. -/
def Pager.freeAt (X : Pager) (D : Disk) (k : Int) : Prop := firstOf D.blocks ≤ k ∧ k < D.blocks ∧ X.has k = false ∧ AL.has X.fresh k = false

section
variable {X : Pager} {D : Disk}
theorem Pager.ok.first_lo (h : X.ok D) : 4 ≤ firstOf D.blocks := by unfold firstOf mapsOf; have := h.blo; omega
theorem Pager.ok.first_hi (h : X.ok D) : firstOf D.blocks ≤ 10 := by unfold firstOf mapsOf; have := h.bhi; omega
theorem Pager.ok.both (h : X.ok D) : ((X.fresh.map (·.1)) ++ tkeys X.taken).Nodup := by
  refine List.nodup_append.2 ⟨h.nf, tkeys_nodup _, ?_⟩
  rintro a ha b hb rfl
  obtain ⟨bs, hg⟩ := AL.get_of_key ha
  have := (h.frk a bs hg).2.2.1
  rw [Pager.has_tkeys.2 hb] at this
  cases this
theorem Pager.ok.both_len (h : X.ok D) : (((X.fresh.map (·.1)) ++ tkeys X.taken).length : Int) = X.fresh.length + X.many := by
  rw [List.length_append, List.length_map, tkeys_length, h.many]; omega
theorem Pager.ok.left_nonneg (h : X.ok D) : 0 ≤ X.left D := by
  have h1 := h.blo
  have h3 := h.first_hi
  have h2 := h.both_len
  have := nodup_range (D.blocks - firstOf D.blocks).toNat (firstOf D.blocks) _ h.both (by
    intro x hx
    rcases List.mem_append.1 hx with hx | hx
    · obtain ⟨bs, hb⟩ := AL.get_of_key hx
      have := h.frk x bs hb
      omega
    · have := h.tk x (Pager.has_tkeys.2 hx)
      omega)
  unfold Pager.left
  omega
theorem Pager.ok.free_page (h : X.ok D) (hl : ¬ X.left D = 0) : ∃ f, X.freeAt D f := by
  refine Classical.byContradiction fun hn => hl ?_
  have h0 := h.left_nonneg
  have h1 := h.blo
  have h3 := h.first_hi
  have h2 := h.both_len
  have := covers (D.blocks - firstOf D.blocks).toNat (firstOf D.blocks) ((X.fresh.map (·.1)) ++ tkeys X.taken) (by
    intro x hx1 hx2
    rw [List.mem_append]
    cases hf : AL.has X.fresh x with
    | true => exact .inl ((AL.has_iff _ _).1 hf)
    | false =>
      cases ht : X.has x with
      | true => exact .inr (Pager.has_tkeys.1 ht)
      | false => exact absurd ⟨x, hx1, by omega, ht, hf⟩ hn)
  unfold Pager.left at h0 ⊢
  omega
end
end Go.Proofs.Ytebllnoeenginaa
