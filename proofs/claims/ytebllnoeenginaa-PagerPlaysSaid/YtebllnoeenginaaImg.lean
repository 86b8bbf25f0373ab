/- The pager as a plain machine: what a disk holds of it, and how it is read again. -/
import Derived.Test.YtebllnoeenginaaCom
import Derived.Test.YtebllnoeenginaaLoad2
namespace Go.Proofs.Ytebllnoeenginaa
open Go.RowKit

/-- What Open tells of a disk: the newest commit. -/
def Disk.opened (D : Disk) : Pager :=
  { seq := (D.slots 2).1, root := (D.slots 2).2, taken := D.takenAt (D.slots 2).1, many := ((D.takenAt (D.slots 2).1).count true : Nat), fresh := [], freed := [], next := firstOf D.blocks }

/-! ### Rows of writes -/
def putsM (m : List (Int × List UInt8)) (l : List (Int × List UInt8)) : List (Int × List UInt8) := l.foldl (fun m q => AL.put m q.1 q.2) m
def Disk.puts (D : Disk) (l : List (Int × List UInt8)) : Disk := { D with mem := putsM D.mem l }
theorem putsM_append (m a b : List (Int × List UInt8)) : putsM m (a ++ b) = putsM (putsM m a) b := by unfold putsM; rw [List.foldl_append]
theorem putsM_other (n : Int) : ∀ (l m : List (Int × List UInt8)), n ∉ l.map (·.1) → AL.get (putsM m l) n = AL.get m n
  | [], _, _ => rfl
  | q :: l, m, h => by
    rw [List.map_cons, List.mem_cons, not_or] at h
    show AL.get (putsM (AL.put m q.1 q.2) l) n = _
    rw [putsM_other n l _ h.2, AL.get_put, if_neg h.1]
theorem putsM_mem {n : Int} {b : List UInt8} : ∀ (l m : List (Int × List UInt8)), (l.map (·.1)).Nodup → (n, b) ∈ l → AL.get (putsM m l) n = some b
  | [], _, _, h => by cases h
  | q :: l, m, hn, h => by
    rw [List.map_cons, List.nodup_cons] at hn
    show AL.get (putsM (AL.put m q.1 q.2) l) n = _
    rcases List.mem_cons.1 h with rfl | h
    · rw [putsM_other _ l _ hn.1, AL.get_put, if_pos rfl]
    · exact putsM_mem l _ hn.2 h
theorem Disk.block_puts_other {D : Disk} {l : List (Int × List UInt8)} {n : Int} (h : n ∉ l.map (·.1)) : (D.puts l).block n = D.block n := by
  unfold Disk.block Disk.puts; rw [putsM_other n l _ h]
theorem Disk.block_puts_mem {D : Disk} {l : List (Int × List UInt8)} {n : Int} {b : List UInt8} (hn : (l.map (·.1)).Nodup) (h : (n, b) ∈ l) : (D.puts l).block n = b := by
  unfold Disk.block Disk.puts; rw [putsM_mem l _ hn h]; rfl
theorem Disk.full_puts {D : Disk} : ∀ {l : List (Int × List UInt8)}, D.full → (∀ q ∈ l, q.2.length = 512) → (D.puts l).full := by
  intro l
  rw [← List.reverse_reverse l]
  induction l.reverse with
  | nil => intro h _; exact h
  | cons q l ih =>
    intro h hq k bs hg
    rw [List.reverse_cons] at hq hg
    unfold Disk.puts at hg
    simp only at hg
    rw [putsM_append] at hg
    have hg' : AL.get (AL.put (putsM D.mem l.reverse) q.1 q.2) k = some bs := hg
    rw [AL.get_put] at hg'
    split at hg'
    · cases hg'; exact hq q (by simp)
    · exact ih h (fun q' h' => hq q' (List.mem_append_left _ h')) k bs hg'

/-- Writes that are all done. -/
def Disk.did (D : Disk) (l : List (Int × List UInt8)) : Disk := { D with left := if 0 < D.left then D.left - l.length else D.left, mem := putsM D.mem l, writes := D.writes + l.length }
/-- The power goes at the last of them. -/
def Disk.cutAt (D : Disk) (l : List (Int × List UInt8)) : Disk := { D with left := 0, mem := putsM D.mem l, writes := D.writes + l.length, dead := true }
def Disk.takes (D : Disk) (q : Int × List UInt8) : Prop := 0 ≤ q.1 ∧ q.1 < D.blocks ∧ q.2.length = 512
theorem Disk.write_did {D : Disk} {q : Int × List UInt8} (hd : D.dead = false) (hq : D.takes q) (hl : ¬ D.left = 0) (h0 : 0 ≤ D.writes) (hw : D.writes < 4611686018427387904) : D.write q.1 q.2 = (0, D.did [q]) := by
  obtain ⟨h1, h2, h3⟩ := hq
  unfold Disk.write
  rw [hd]
  rw [if_neg (by simp), if_neg (by omega), if_neg hl]
  unfold Disk.did
  have e : wrap64 (D.writes + 1) = D.writes + 1 := by unfold wrap64; omega
  rw [e, ← hd]; rfl
theorem Disk.write_cut0 {D : Disk} {q : Int × List UInt8} (hd : D.dead = false) (hq : D.takes q) (hl : D.left = 0) : D.write q.1 q.2 = (12, D.cutAt []) := by
  obtain ⟨h1, h2, h3⟩ := hq
  unfold Disk.write
  rw [hd]
  rw [if_neg (by simp), if_neg (by omega), if_pos hl]
  unfold Disk.cutAt
  rw [← hl]; simp [putsM]
theorem Disk.did_cons (D : Disk) (q : Int × List UInt8) (l : List (Int × List UInt8)) (hl : D.left < 0 ∨ (l.length : Int) + 1 ≤ D.left) : (D.did [q]).did l = D.did (q :: l) := by
  unfold Disk.did
  simp only [List.length_cons, List.length_nil]
  congr 1
  · omega
  · by_cases h : 0 < D.left
    · rw [if_pos h]
      split <;> omega
    · simp only [if_neg h]
theorem Disk.writeAll_did : ∀ (l : List (Int × List UInt8)) (D : Disk), D.dead = false → (∀ q ∈ l, D.takes q) → 0 ≤ D.writes → D.writes + l.length < 4611686018427387904 → (D.left < 0 ∨ (l.length : Int) ≤ D.left) → D.writeAll l = (0, D.did l)
  | [], D, _, _, _, _, _ => by
    unfold Disk.did
    simp only [List.length_nil, putsM, List.foldl_nil]
    show (0, D) = _
    cases D
    simp
  | q :: l, D, hd, hq, h0, hw, hl => by
    rw [List.length_cons] at hw hl
    have h1 := Disk.write_did hd (hq q (by simp)) (by omega) h0 (by omega)
    rw [Disk.writeAll_ok l (by rw [h1])]
    rw [h1]
    show (D.did [q]).writeAll l = _
    rw [Disk.writeAll_did l (D.did [q]) hd (fun q' h' => hq q' (List.mem_cons_of_mem _ h')) (by unfold Disk.did; simp; omega) (by unfold Disk.did; simp; omega) (by unfold Disk.did; simp only [List.length_cons, List.length_nil]; split <;> omega)]
    rw [Disk.did_cons _ _ _ (by omega)]
theorem Disk.writeAll_cut : ∀ (l : List (Int × List UInt8)) (D : Disk), D.dead = false → (∀ q ∈ l, D.takes q) → 0 ≤ D.writes → D.writes + l.length < 4611686018427387904 → 0 ≤ D.left → D.left < (l.length : Int) → D.writeAll l = (12, D.cutAt (l.take D.left.toNat))
  | [], D, _, _, _, _, h1, h2 => by simp at h2; omega
  | q :: l, D, hd, hq, h0, hw, hl, hl2 => by
    rw [List.length_cons] at hw hl2
    by_cases hz : D.left = 0
    · have h1 := Disk.write_cut0 hd (hq q (by simp)) hz
      rw [Disk.writeAll_bad l (by rw [h1]; simp), h1, hz]
      rfl
    · have h1 := Disk.write_did hd (hq q (by simp)) hz h0 (by omega)
      rw [Disk.writeAll_ok l (by rw [h1]), h1]
      have hp : 0 < D.left := by omega
      have e : (D.did [q]).left = D.left - 1 := by unfold Disk.did; simp [hp]
      show (D.did [q]).writeAll l = _
      rw [Disk.writeAll_cut l (D.did [q]) hd (fun q' h' => hq q' (List.mem_cons_of_mem _ h')) (by unfold Disk.did; simp; omega) (by unfold Disk.did; simp; omega) (by rw [e]; omega) (by rw [e]; omega), e]
      have e2 : D.left.toNat = (D.left - 1).toNat + 1 := by omega
      rw [e2, List.take_succ_cons]
      unfold Disk.cutAt Disk.did
      simp only [List.length_cons, List.length_nil]
      congr 2
      omega

/-! ### Numbers, bits -/
theorem getN_cons (b : UInt8) (l : List UInt8) : getN (b :: l) = b.toNat * 256 ^ l.length + getN l := by
  rw [← List.reverse_reverse l]
  induction l.reverse with
  | nil => simp [getN]
  | cons c l ih =>
    rw [List.reverse_cons, ← List.cons_append, getN_snoc, getN_snoc, ih, List.length_append, List.length_singleton, Nat.pow_succ, Nat.add_mul, Nat.mul_assoc, Nat.add_assoc]
theorem getN_putB : ∀ (k n : Nat), getN (putB k n) = n % 256 ^ k
  | 0, n => by simp [putB, getN]; omega
  | k + 1, n => by
    rw [putB, getN_cons, putB_length, getN_putB k n, Nat.mod_pow_succ, Nat.add_comm, Nat.mul_comm]
    congr 2
theorem bitU (x : UInt8) (b : Nat) (hb : b < 8) : ((x >>> UInt8.ofNat b) &&& 1 == 1) = x.toNat.testBit b := by
  have e2 : (x >>> UInt8.ofNat b).toNat = x.toNat >>> b := by
    rw [UInt8.toNat_shiftRight]
    congr 1
    simp; omega
  rw [Bool.eq_iff_iff, beq_iff_eq, ← UInt8.toNat_inj, UInt8.toNat_and, e2, Nat.testBit_eq_decide_div_mod_eq, decide_eq_true_iff, Nat.shiftRight_eq_div_pow]
  show x.toNat / 2 ^ b &&& 1 = 1 ↔ _
  rw [Nat.and_one_is_mod]
theorem bit_or (x : UInt8) (a b : Nat) (ha : a < 8) (hb : b < 8) : (((x ||| (1 : UInt8) <<< UInt8.ofNat a) >>> UInt8.ofNat b) &&& 1 == 1) = (decide (a = b) || ((x >>> UInt8.ofNat b) &&& 1 == 1)) := by
  have h2 : ((1 : UInt8) <<< UInt8.ofNat a).toNat = 2 ^ a := by
    have : a = 0 ∨ a = 1 ∨ a = 2 ∨ a = 3 ∨ a = 4 ∨ a = 5 ∨ a = 6 ∨ a = 7 := by omega
    rcases this with rfl | rfl | rfl | rfl | rfl | rfl | rfl | rfl <;> rfl
  rw [bitU _ _ hb, bitU _ _ hb, UInt8.toNat_or, h2, Nat.testBit_or, Nat.testBit_two_pow, Bool.or_comm]
/-- The free map's block, read again. -/
theorem mapB_bit (taken : List Bool) (i : Nat) (j : Nat) (hj : j < 4096) : ∀ K, K ≤ 4096 → (((mapB taken i K).getD (j / 8) 0 >>> UInt8.ofNat (j % 8)) &&& 1 == 1) = (decide (j < K) && taken.getD (i * 4096 + j) false)
  | 0, _ => by
    have : (mapB taken i 0).getD (j / 8) 0 = 0 := by
      show noughts.getD (j / 8) 0 = 0
      unfold noughts
      rw [List.getD_eq_getElem?_getD, List.getElem?_replicate]
      split <;> rfl
    rw [this, bitU _ _ (Nat.mod_lt _ (by omega))]
    simp
  | K + 1, hK => by
    have ih := mapB_bit taken i j hj K (by omega)
    have hK8 : K / 8 < (mapB taken i K).length := by rw [mapB_length]; omega
    show ((((if taken.getD (i * 4096 + K) false then _ else _) : List UInt8).getD (j / 8) 0 >>> UInt8.ofNat (j % 8)) &&& 1 == 1) = _
    by_cases hjK : j = K
    · subst hjK
      cases ht : taken.getD (i * 4096 + j) false with
      | false =>
        rw [if_neg (by simp), ih, ht]; simp
      | true =>
        rw [if_pos rfl, List.getD_eq_getElem?_getD, List.getElem?_set, if_pos rfl, if_pos hK8, Option.getD_some, bit_or _ _ _ (Nat.mod_lt _ (by omega)) (Nat.mod_lt _ (by omega))]
        simp
    · have hd : decide (j < K + 1) = decide (j < K) := by rw [decide_eq_decide]; omega
      rw [hd, ← ih]
      split
      · by_cases h8 : K / 8 = j / 8
        · rw [List.getD_eq_getElem?_getD, List.getElem?_set, if_pos h8, if_pos hK8, Option.getD_some, bit_or _ _ _ (Nat.mod_lt _ (by omega)) (Nat.mod_lt _ (by omega)), h8]
          have : decide (K % 8 = j % 8) = false := by rw [decide_eq_false_iff_not]; omega
          rw [this, Bool.false_or]
        · rw [List.getD_eq_getElem?_getD, List.getElem?_set, if_neg h8, ← List.getD_eq_getElem?_getD]
      · rfl

/-! ### A root slot, read again -/
section
variable (s : Nat) (root : List UInt8)
theorem slot_len (hr : root.length ≤ 64) : (padded (rootB s root)).length = 512 := padded_length (by rw [rootB_length]; omega)
theorem slot_word : (padded (rootB s root)).take 8 = wordB8 := by
  unfold padded rootB
  simp only [List.append_assoc]
  rw [List.take_append_of_le_length (by simp [wordB])]
  rfl
theorem slot_seq (hs : s < 18446744073709551616) : slotSeq (padded (rootB s root)) = s := by
  have e : ((padded (rootB s root)).take 16).drop 8 = putB 8 s := by
    unfold padded rootB
    simp only [List.append_assoc]
    rw [← List.append_assoc wordB, List.take_append_of_le_length (by simp [wordB, putB_length]), List.take_of_length_le (by simp [wordB, putB_length]), List.drop_append_of_le_length (by simp [wordB])]
    simp [wordB]
  unfold slotSeq
  rw [e, getN_putB]
  exact Nat.mod_eq_of_lt hs
theorem slot_root (hr : root.length ≤ 64) : slotRoot (padded (rootB s root)) = root := by
  have e0 : padded (rootB s root) = (wordB ++ putB 8 s) ++ (UInt8.ofNat root.length :: (root ++ List.replicate (512 - (rootB s root).length) 0)) := by
    unfold padded
    rw [rootB]
    simp [putB]
  have hl : (wordB ++ putB 8 s).length = 16 := by simp [wordB, putB_length]
  have e1 : (padded (rootB s root)).getD 16 0 = UInt8.ofNat root.length := by
    rw [e0, List.getD_eq_getElem?_getD, List.getElem?_append_right (by omega), hl]; rfl
  have e2 : (UInt8.ofNat root.length).toNat = root.length := by simp; omega
  unfold slotRoot
  rw [e1, e2, e0]
  rw [List.take_append, hl, List.take_of_length_le (by omega), List.drop_append, hl, List.drop_of_length_le (by omega)]
  rw [show 17 + root.length - 16 = root.length + 1 from by omega, List.take_succ_cons, show 17 - 16 = 0 + 1 from rfl, List.drop_succ_cons]
  simp
end

/-! ### What a disk holds -/
structure Image (X : Pager) (D : Disk) : Prop where
  cur : 0 < X.seq → D.block (X.seq % 2) = padded (rootB X.seq.toNat X.root)
  zero : X.seq = 0 → X.root = [] ∧ D.block 0 = noughts ∧ D.block 1 = noughts ∧ ∀ n : Nat, X.taken.getD n false = false
  old : (slotSeq (D.block ((X.seq + 1) % 2)) : Int) ≤ X.seq
  older : 0 < X.seq → (D.block ((X.seq + 1) % 2)).take 8 = wordB8 → (slotSeq (D.block ((X.seq + 1) % 2)) : Int) < X.seq
  map : ∀ n : Nat, n < X.taken.length → 0 < X.seq → bitAt D X.seq n = X.taken.getD n false

theorem noughts_slot : slotSeq noughts = 0 := by decide
theorem noughts_word : ¬ noughts.take 8 = wordB8 := by decide

section
variable {X : Pager} {D : Disk}
theorem Image.slotSeq_lt (h : Image X D) (hx : X.ok D) : ∀ i : Nat, i < 2 → slotSeq (D.block i) < 1152921504606846976 := by
  have hlo := hx.slo
  have hhi := hx.shi
  intro i hi
  by_cases h0 : X.seq = 0
  · obtain ⟨-, b0, b1, -⟩ := h.zero h0
    have : i = 0 ∨ i = 1 := by omega
    rcases this with rfl | rfl
    · rw [show ((0 : Nat) : Int) = 0 from rfl, b0, noughts_slot]; omega
    · rw [show ((1 : Nat) : Int) = 1 from rfl, b1, noughts_slot]; omega
  · by_cases hp : (i : Int) = X.seq % 2
    · rw [hp, h.cur (by omega), slot_seq _ _ (by omega)]; omega
    · have hp2 : (i : Int) = (X.seq + 1) % 2 := by omega
      rw [hp2]; have := h.old; omega
theorem Image.slots (h : Image X D) (hx : X.ok D) : D.slots 2 = (X.seq, X.root) := by
  have hlo := hx.slo
  have hhi := hx.shi
  have hrl := hx.rlen
  show slotIn (slotIn (0, []) (D.block ((0 : Nat) : Int))) (D.block ((1 : Nat) : Int)) = _
  rw [show ((0 : Nat) : Int) = 0 from rfl, show ((1 : Nat) : Int) = 1 from rfl]
  by_cases h0 : X.seq = 0
  · obtain ⟨hr, b0, b1, -⟩ := h.zero h0
    rw [b0, b1, h0, hr]
    have : ∀ s, slotIn s noughts = s := fun s => by unfold slotIn; rw [if_neg (fun hh => noughts_word hh.1)]
    rw [this, this]
  · have hcur := h.cur (by omega)
    have hs : X.seq.toNat < 18446744073709551616 := by omega
    have hto : ((X.seq.toNat : Nat) : Int) = X.seq := by omega
    have hold := h.older (by omega)
    rcases Int.emod_two_eq X.seq with hp | hp
    · have hp1 : (X.seq + 1) % 2 = 1 := by omega
      rw [hp] at hcur
      rw [hp1] at hold
      have e1 : slotIn (0, []) (D.block 0) = (X.seq, X.root) := by
        rw [hcur]; unfold slotIn
        rw [if_pos ⟨slot_word _ _, by rw [slot_seq _ _ hs]; simp; omega⟩, slot_seq _ _ hs, slot_root _ _ hrl, hto]
      rw [e1]
      unfold slotIn
      rw [if_neg]
      rintro ⟨hw, hq⟩
      have := hold hw
      simp only at hq; omega
    · have hp1 : (X.seq + 1) % 2 = 0 := by omega
      rw [hp] at hcur
      rw [hp1] at hold
      have e1 : (slotIn (0, []) (D.block 0)).1 < X.seq := by
        unfold slotIn
        split
        · rename_i hh; exact hold hh.1
        · show (0 : Int) < _; omega
      generalize slotIn (0, []) (D.block 0) = r at e1
      rw [hcur]
      unfold slotIn
      rw [if_pos ⟨slot_word _ _, by rw [slot_seq _ _ hs]; omega⟩, slot_seq _ _ hs, slot_root _ _ hrl, hto]
theorem Image.taken (h : Image X D) (hx : X.ok D) : D.takenAt X.seq = X.taken := by
  have hlen := hx.len
  have hblo := hx.blo
  have hlo := hx.slo
  unfold Disk.takenAt
  apply List.ext_getElem?
  intro i
  by_cases hi : i < D.blocks.toNat
  · rw [tk_get _ _ _ _ _ hi]
    have hm : i < (mapsOf D.blocks).toNat * 4096 := by unfold mapsOf; omega
    have hiL : i < X.taken.length := by omega
    rw [decide_eq_true hm, Bool.true_and]
    have hg : X.taken[i]? = some (X.taken.getD i false) := by rw [List.getD_eq_getElem?_getD, List.getElem?_eq_getElem hiL]; rfl
    rw [hg]
    congr 1
    by_cases h0 : X.seq = 0
    · obtain ⟨-, -, -, hf⟩ := h.zero h0
      rw [hf, h0]; rfl
    · rw [h.map i hiL (by omega), decide_eq_true (show 0 < X.seq by omega), Bool.true_and]
  · rw [List.getElem?_eq_none (by rw [tk_length]; omega), List.getElem?_eq_none (by omega)]
theorem Image.opened (h : Image X D) (hx : X.ok D) : D.opened = X.abort D := by
  unfold Disk.opened Pager.abort
  rw [h.slots hx]
  simp only
  rw [h.taken hx, hx.many]

/-- Another disk that has the same blocks where it matters. -/
structure SameAt (X : Pager) (D D' : Disk) : Prop where
  blocks : D'.blocks = D.blocks
  full : D'.full
  slot : ∀ i : Int, i = 0 ∨ i = 1 → D'.block i = D.block i
  map : ∀ i : Int, 2 + X.seq % 2 * mapsOf D.blocks ≤ i → i < 2 + X.seq % 2 * mapsOf D.blocks + mapsOf D.blocks → D'.block i = D.block i
  page : ∀ k, X.has k = true → D'.block k = D.block k
theorem Pager.ok.same {D' : Disk} (hx : X.ok D) (hs : SameAt X D D') : X.ok D' := by
  have hb := hs.blocks
  refine ⟨hs.full, by rw [hb]; exact hx.blo, by rw [hb]; exact hx.bhi, by rw [hb]; exact hx.len, hx.slo, hx.shi, hx.many, by rw [hb]; exact hx.nlo, by rw [hb]; exact hx.nhi, by rw [hb]; exact hx.frk, hx.fdk, by rw [hb]; exact hx.tk, ?_, hx.rlen, hx.nf, hx.nd⟩
  intro k hk
  rw [hs.page k hk]; exact hx.pg k hk
theorem Image.same {D' : Disk} (hx : X.ok D) (h : Image X D) (hs : SameAt X D D') : Image X D' := by
  have h2 : ∀ i : Int, D'.block (i % 2) = D.block (i % 2) := fun i => hs.slot _ (by omega)
  refine ⟨fun h0 => by rw [h2]; exact h.cur h0, fun h0 => by rw [hs.slot 0 (.inl rfl), hs.slot 1 (.inr rfl)]; exact h.zero h0, by rw [h2]; exact h.old, by rw [h2]; exact h.older, ?_⟩
  intro n hn h0
  rw [← h.map n hn h0]
  unfold bitAt
  have hlen := hx.len
  have hblo := hx.blo
  rw [hs.blocks, hs.map _ (by omega) (by
    have : ((n / 4096 : Nat) : Int) < mapsOf D.blocks := by unfold mapsOf; omega
    omega)]
end
end Go.Proofs.Ytebllnoeenginaa
