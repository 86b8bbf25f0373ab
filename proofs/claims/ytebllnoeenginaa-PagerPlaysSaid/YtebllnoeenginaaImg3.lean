/- The pager's pages as a plain map: what each call makes of them. -/
import Derived.Test.YtebllnoeenginaaImg2
namespace Go.Proofs.Ytebllnoeenginaa
open Go.RowKit

/-- The pages as they are now, and as they are committed. -/
def Pager.at_ (X : Pager) (D : Disk) (k : Int) : Option (List UInt8) := if AL.has X.fresh k then AL.get X.fresh k else if X.there k then some (pageOf (D.block k)) else none
def Pager.com (X : Pager) (D : Disk) (k : Int) : Option (List UInt8) := if X.has k then some (pageOf (D.block k)) else none

section
variable {X : Pager} {D : Disk} {root : List UInt8}
theorem Pager.there_has {k : Int} (h : X.there k = true) : X.has k = true ∧ AL.has X.freed k = false := by
  unfold Pager.there at h
  simp only [Bool.and_eq_true, Bool.not_eq_true'] at h
  exact ⟨h.1.2, h.2⟩
theorem Pager.ok.there_eq (hx : X.ok D) (k : Int) : X.there k = (X.has k && !AL.has X.freed k) := by
  unfold Pager.there
  cases hh : X.has k with
  | false => simp
  | true =>
    have := hx.tk k hh
    have := hx.first_lo
    rw [decide_eq_true (show 0 < k by omega)]; simp
theorem Pager.ok.at_lo (hx : X.ok D) {k : Int} {b : List UInt8} (h : X.at_ D k = some b) : firstOf D.blocks ≤ k ∧ k < D.blocks ∧ b.length ≤ 496 := by
  unfold Pager.at_ at h
  split at h
  · have := hx.frk k b h; exact ⟨this.1, this.2.1, this.2.2.2⟩
  · split at h
    · rename_i ht
      have hh := (Pager.there_has ht).1
      cases h
      obtain ⟨bs, hb, he⟩ := hx.pg k hh
      have := hx.tk k hh
      rw [he, pageOf_enc hb]; exact ⟨this.1, this.2, hb⟩
    · cases h
theorem Pager.ok.com_lo (hx : X.ok D) {k : Int} {b : List UInt8} (h : X.com D k = some b) : firstOf D.blocks ≤ k ∧ k < D.blocks ∧ b.length ≤ 496 := by
  unfold Pager.com at h
  split at h
  · rename_i hh
    cases h
    obtain ⟨bs, hb, he⟩ := hx.pg k hh
    have := hx.tk k hh
    rw [he, pageOf_enc hb]; exact ⟨this.1, this.2, hb⟩
  · cases h
theorem read_at (hd : D.dead = false) (k : Int) : X.read D k = match X.at_ D k with | some b => (b, 0) | none => ([], 2) := by
  unfold Pager.read Pager.at_
  rw [hd, if_neg (by simp)]
  cases hf : AL.has X.fresh k with
  | true =>
    obtain ⟨b, hb⟩ := AL.has_some hf
    simp [hb]
  | false =>
    cases ht : X.there k with
    | true => simp
    | false => simp
theorem read_dead_at (hd : D.dead = true) (k : Int) : X.read D k = ([], 12) := by unfold Pager.read; rw [if_pos hd]
/-- Free: the page is there no more. -/
theorem free_at (hx : X.ok D) (hd : D.dead = false) (k : Int) : (X.free D k).1 = (if (X.at_ D k).isSome then 0 else 2) ∧ (X.free D k).2.ok D ∧ (∀ k', (X.free D k).2.at_ D k' = if k' = k then none else X.at_ D k') ∧
    (X.free D k).2.seq = X.seq ∧ (X.free D k).2.root = X.root ∧ (X.free D k).2.taken = X.taken ∧ (X.free D k).2.many = X.many ∧ (X.free D k).2.fresh.length ≤ X.fresh.length := by
  unfold Pager.free
  rw [hd, if_neg (by simp)]
  cases hf : AL.has X.fresh k with
  | true =>
    rw [if_pos rfl]
    obtain ⟨b, hb⟩ := AL.has_some hf
    have hk := hx.frk k b hb
    have hth : X.there k = false := by rw [hx.there_eq, hk.2.2.1]; rfl
    refine ⟨?_, ?_, ?_, rfl, rfl, rfl, rfl, by unfold AL.del; exact List.length_filter_le _ _⟩
    · unfold Pager.at_; rw [if_pos hf, hb]; rfl
    · refine ⟨hx.full, hx.blo, hx.bhi, hx.len, hx.slo, hx.shi, hx.many, hx.nlo, hx.nhi, ?_, hx.fdk, hx.tk, hx.pg, hx.rlen, AL.nodup_del hx.nf k, hx.nd⟩
      intro k' bs h
      rw [AL.get_del] at h
      split at h
      · cases h
      · exact hx.frk k' bs h
    · intro k'
      by_cases e : k' = k
      · subst e
        rw [if_pos rfl]
        unfold Pager.at_
        have h1 : AL.has (AL.del X.fresh k') k' = false := by rw [AL.has_get, AL.get_del, if_pos rfl]; rfl
        simp only [h1]
        rw [if_neg (by simp), if_neg]
        show ¬ X.there k' = true
        rw [hth]; simp
      · rw [if_neg e]
        unfold Pager.at_
        have h1 : AL.get (AL.del X.fresh k) k' = AL.get X.fresh k' := by rw [AL.get_del, if_neg e]
        have h2 : AL.has (AL.del X.fresh k) k' = AL.has X.fresh k' := by rw [AL.has_get, AL.has_get, h1]
        simp only [h1, h2]
        rfl
  | false =>
    rw [if_neg (by simp)]
    cases ht : X.there k with
    | true =>
      rw [if_pos rfl]
      obtain ⟨hh, hn⟩ := Pager.there_has ht
      refine ⟨?_, ?_, ?_, rfl, rfl, rfl, rfl, Nat.le_refl _⟩
      · unfold Pager.at_; simp [hf, ht]
      · refine ⟨hx.full, hx.blo, hx.bhi, hx.len, hx.slo, hx.shi, hx.many, hx.nlo, hx.nhi, hx.frk, ?_, hx.tk, hx.pg, hx.rlen, hx.nf, AL.nodup_put hx.nd k k⟩
        intro k' h
        rw [AL.has_get, AL.get_put] at h
        split at h
        · rename_i e; rw [e]; exact hh
        · exact hx.fdk k' (by rw [AL.has_get]; exact h)
      · intro k'
        have h1 : AL.has (AL.put X.freed k k) k' = (decide (k' = k) || AL.has X.freed k') := by
          rw [AL.has_get, AL.get_put, AL.has_get]
          by_cases e : k' = k
          · rw [if_pos e, decide_eq_true e]; simp
          · rw [if_neg e, decide_eq_false e]; simp
        by_cases e : k' = k
        · subst e
          rw [if_pos rfl]
          unfold Pager.at_
          simp only
          rw [if_neg (by rw [hf]; simp), if_neg]
          unfold Pager.there
          simp only [h1]
          simp
        · rw [if_neg e]
          unfold Pager.at_
          have : ({ X with freed := AL.put X.freed k k } : Pager).there k' = X.there k' := by
            unfold Pager.there
            simp only [h1, decide_eq_false e, Bool.false_or]
            rfl
          rw [this]
    | false =>
      rw [if_neg (by simp)]
      refine ⟨?_, hx, ?_, rfl, rfl, rfl, rfl, Nat.le_refl _⟩
      · unfold Pager.at_; simp [hf, ht]
      · intro k'
        by_cases e : k' = k
        · subst e
          rw [if_pos rfl]
          unfold Pager.at_; rw [if_neg (by rw [hf]; simp), if_neg (by rw [ht]; simp)]
        · rw [if_neg e]
theorem Image.of {X' : Pager} (h : Image X D) (h1 : X'.seq = X.seq) (h2 : X'.root = X.root) (h3 : X'.taken = X.taken) : Image X' D := by
  refine ⟨?_, ?_, ?_, ?_, ?_⟩
  · rw [h1, h2]; exact h.cur
  · rw [h1, h2, h3]; exact h.zero
  · rw [h1]; exact h.old
  · rw [h1]; exact h.older
  · rw [h1, h3]; exact h.map
theorem com_of {X' : Pager} (h3 : X'.taken = X.taken) (k : Int) : X'.com D k = X.com D k := by
  unfold Pager.com Pager.has; rw [h3]
theorem com_same {D' : Disk} (hs : SameAt X D D') (k : Int) : X.com D' k = X.com D k := by
  unfold Pager.com
  cases h : X.has k with
  | false => rfl
  | true => rw [hs.page k h]
theorem at_same {D' : Disk} (hs : SameAt X D D') (k : Int) : X.at_ D' k = X.at_ D k := by
  unfold Pager.at_
  cases h : X.there k with
  | false => rfl
  | true => rw [hs.page k (Pager.there_has h).1]
/-- Alloc: one page more. -/
theorem alloc_at (hx : X.ok D) {n x : Int} {bs : List UInt8} (hn : X.freeAt D n) (hl : bs.length ≤ 496) (h1 : firstOf D.blocks ≤ x) (h2 : x < D.blocks) :
    ({ X with fresh := AL.put X.fresh n bs, next := x } : Pager).ok D ∧ (∀ k, ({ X with fresh := AL.put X.fresh n bs, next := x } : Pager).at_ D k = if k = n then some bs else X.at_ D k) ∧ X.at_ D n = none ∧ X.com D n = none ∧
    ({ X with fresh := AL.put X.fresh n bs, next := x } : Pager).left D = X.left D - 1 ∧ (AL.put X.fresh n bs).length = X.fresh.length + 1 := by
  obtain ⟨g1, g2, g3, g4⟩ := hn
  have hlen : (AL.put X.fresh n bs).length = X.fresh.length + 1 := by
    unfold AL.put; rw [if_neg (by rw [g4]; simp)]; simp
  refine ⟨⟨hx.full, hx.blo, hx.bhi, hx.len, hx.slo, hx.shi, hx.many, h1, h2, ?_, hx.fdk, hx.tk, hx.pg, hx.rlen, AL.nodup_put hx.nf n bs, hx.nd⟩, ?_, ?_, ?_, ?_, hlen⟩
  · intro k b h
    rw [AL.get_put] at h
    split at h
    · rename_i e; cases h; rw [e]; exact ⟨g1, g2, g3, hl⟩
    · exact hx.frk k b h
  · intro k
    unfold Pager.at_
    have e1 : AL.has (AL.put X.fresh n bs) k = (decide (k = n) || AL.has X.fresh k) := by
      rw [AL.has_get, AL.get_put, AL.has_get]
      by_cases e : k = n
      · rw [if_pos e, decide_eq_true e]; simp
      · rw [if_neg e, decide_eq_false e]; simp
    simp only [e1, AL.get_put]
    by_cases e : k = n
    · simp only [e, decide_true, Bool.true_or, if_true]
    · simp only [e, decide_false, Bool.false_or, if_false]; rfl
  · unfold Pager.at_
    rw [if_neg (by rw [g4]; simp), hx.there_eq, g3]; rfl
  · unfold Pager.com; rw [if_neg (by rw [g3]; simp)]
  · unfold Pager.left; simp only [hlen]; omega
theorem abort_ok (hx : X.ok D) : (X.abort D).ok D := by
  have h1 := hx.blo
  have h3 := hx.first_hi
  exact ⟨hx.full, hx.blo, hx.bhi, hx.len, hx.slo, hx.shi, hx.many, Int.le_refl _, (show firstOf D.blocks < D.blocks by omega), (by intro k bs h; cases h), (by intro k h; cases h), hx.tk, hx.pg, hx.rlen, List.nodup_nil, List.nodup_nil⟩
theorem abort_at (hx : X.ok D) (k : Int) : (X.abort D).at_ D k = X.com D k := by
  unfold Pager.at_ Pager.com
  rw [(abort_ok hx).there_eq]
  show (if AL.has ([] : List (Int × List UInt8)) k = true then _ else if (X.has k && !AL.has ([] : List (Int × Int)) k) = true then _ else _) = _
  simp [AL.has]
theorem next_com (hx : X.ok D) (k : Int) : (X.next_ D root).com (D.did (X.layWrites D X.nextTaken root)) k = X.at_ D k := by
  unfold Pager.com Pager.at_
  rw [next_has hx, hx.there_eq]
  cases hf : AL.has X.fresh k with
  | true =>
    obtain ⟨b, hb⟩ := AL.has_some hf
    have hd : AL.has X.freed k = false := by
      cases h : AL.has X.freed k with
      | false => rfl
      | true => rw [hx.freed_not_fresh h] at hf; cases hf
    rw [hd, did_block_fresh hx hb, pageOf_enc (hx.frk k b hb).2.2.2, hb]; rfl
  | false =>
    cases hh : X.has k with
    | false => rfl
    | true => rw [did_block_has hx hh]; rfl
theorem next_at (hx : X.ok D) (k : Int) : (X.next_ D root).at_ (D.did (X.layWrites D X.nextTaken root)) k = X.at_ D k := by
  rw [← next_com (root := root) hx k]
  unfold Pager.at_ Pager.com Pager.there
  show (if AL.has ([] : List (Int × List UInt8)) k = true then _ else if (decide (0 < k) && (X.next_ D root).has k && !AL.has ([] : List (Int × Int)) k) = true then _ else _) = _
  cases hh : (X.next_ D root).has k with
  | false => simp [AL.has]
  | true =>
    have h0 : 0 < k := by
      rw [next_has hx] at hh
      simp only [Bool.and_eq_true, Bool.or_eq_true] at hh
      have := hx.first_lo
      rcases hh.1 with h | h
      · obtain ⟨b, hb⟩ := AL.has_some h
        have := hx.frk k b hb; omega
      · have := hx.tk k h; omega
    simp [AL.has, h0]

/-! ### How many there are -/
theorem mem_keys_get {α : Type} {l : List (Int × α)} {k : Int} : k ∈ l.map (·.1) ↔ (AL.get l k).isSome = true := by rw [← AL.has_iff, AL.has_get]
theorem many_com (hx : X.ok D) {l : List (Int × List UInt8)} (hn : (l.map (·.1)).Nodup) (h : ∀ k, AL.get l k = X.com D k) : X.many = l.length := by
  have hm : ∀ k, k ∈ l.map (·.1) ↔ k ∈ tkeys X.taken := by
    intro k
    rw [mem_keys_get, h, ← Pager.has_tkeys]
    unfold Pager.com
    cases X.has k <;> simp
  have e1 := nodup_len hn (fun x hx => (hm x).1 hx)
  have e2 := nodup_len (tkeys_nodup X.taken) (fun x hx => (hm x).2 hx)
  rw [List.length_map, tkeys_length] at e1 e2
  rw [hx.many]; omega
theorem fresh_new (hx : X.ok D) {l m : List (Int × List UInt8)} (hn : (l.map (·.1)).Nodup) (h : ∀ k, AL.get l k = X.at_ D k) (hm : ∀ k, AL.get m k = X.com D k) : X.fresh.length = (l.filter fun p => !AL.has m p.1).length := by
  have hmem : ∀ k, k ∈ (l.filter fun p => !AL.has m p.1).map (·.1) ↔ k ∈ X.fresh.map (·.1) := by
    intro k
    have e1 : k ∈ (l.filter fun p => !AL.has m p.1).map (·.1) ↔ k ∈ l.map (·.1) ∧ AL.has m k = false := by
      rw [List.mem_map, List.mem_map]
      constructor
      · rintro ⟨p, hp, rfl⟩
        rw [List.mem_filter] at hp
        exact ⟨⟨p, hp.1, rfl⟩, by simpa using hp.2⟩
      · rintro ⟨⟨p, hp, rfl⟩, hq⟩
        exact ⟨p, List.mem_filter.2 ⟨hp, by simpa using hq⟩, rfl⟩
    rw [e1, mem_keys_get, h, AL.has_get, hm, ← AL.has_iff]
    unfold Pager.at_ Pager.com
    rw [hx.there_eq]
    cases hf : AL.has X.fresh k with
    | true =>
      obtain ⟨b, hb⟩ := AL.has_some hf
      rw [(hx.frk k b hb).2.2.1, hb]; simp
    | false => cases hh : X.has k <;> simp
  have hn2 : ((l.filter fun p => !AL.has m p.1).map (·.1)).Nodup := List.Nodup.sublist (List.Sublist.map _ List.filter_sublist) hn
  have e1 := nodup_len hn2 (fun x hx => (hmem x).1 hx)
  have e2 := nodup_len hx.nf (fun x hx => (hmem x).2 hx)
  rw [List.length_map, List.length_map] at e1 e2
  omega

/-! ### A new disk -/
def Disk.zero (n : Int) : Disk := { blocks := n, mem := [], writes := 0, left := -1, dead := false }
def Pager.zero (n : Int) : Pager := { seq := 0, root := [], taken := List.replicate n.toNat false, many := 0, fresh := [], freed := [], next := firstOf n }
theorem zero_has (n k : Int) : (Pager.zero n).has k = false := by
  unfold Pager.has Pager.zero
  simp only
  rw [List.getD_eq_getElem?_getD, List.getElem?_replicate]
  split <;> simp
theorem zero_ok (n : Int) (h1 : 64 ≤ n) (h2 : n ≤ 16384) : (Pager.zero n).ok (Disk.zero n) := by
  have hf : firstOf n ≤ 10 := by unfold firstOf mapsOf; omega
  refine ⟨(by intro k bs h; cases h), h1, h2, ?_, Int.le_refl _, (by show (0 : Int) < _; omega), ?_, Int.le_refl _, (show firstOf n < n by omega), (by intro k bs h; cases h), (by intro k h; cases h), ?_, ?_, (by show 0 ≤ 64; omega), List.nodup_nil, List.nodup_nil⟩
  · show (((List.replicate n.toNat false).length : Nat) : Int) = n
    rw [List.length_replicate]; omega
  · show (0 : Int) = (((List.replicate n.toNat false).count true : Nat) : Int)
    rw [List.count_replicate]; simp
  · intro k h; rw [zero_has] at h; cases h
  · intro k h; rw [zero_has] at h; cases h
theorem zero_block (n k : Int) : (Disk.zero n).block k = noughts := rfl
theorem zero_image (n : Int) : Image (Pager.zero n) (Disk.zero n) := by
  refine ⟨fun h => ?_, fun _ => ⟨rfl, rfl, rfl, fun k => ?_⟩, ?_, fun h => ?_, fun k _ h => ?_⟩
  · exact absurd h (by show ¬ (0 : Int) < 0; omega)
  · show (List.replicate n.toNat false).getD k false = false
    rw [List.getD_eq_getElem?_getD, List.getElem?_replicate]
    split <;> rfl
  · rw [zero_block, noughts_slot]; exact Int.le_refl _
  · exact absurd h (by show ¬ (0 : Int) < 0; omega)
  · exact absurd h (by show ¬ (0 : Int) < 0; omega)
theorem zero_at (n k : Int) : (Pager.zero n).at_ (Disk.zero n) k = none := by
  unfold Pager.at_ Pager.there
  rw [zero_has]
  simp [Pager.zero, AL.has]
theorem zero_com (n k : Int) : (Pager.zero n).com (Disk.zero n) k = none := by unfold Pager.com; rw [zero_has]; rfl
end
end Go.Proofs.Ytebllnoeenginaa
