/- What the program's smallest functions on slices do: slices.Clone, put, get. -/
import Derived.Test.YtebllnoeenginaaProg
import Derived.Test.YtebllnoeenginaaMaps
import Derived.Deep.RegionHeld3
import Derived.Deep.QuietTactic
import Derived.BigQuiet
import Derived.StillTailTactics
namespace Go.Proofs.Ytebllnoeenginaa
open Go.RowKit

theorem Try.infoU8 : (Try.prog.info? 5).map (fun i => (i.zero, i.size, i.bytes)) = some (some (.int .u8 0), 1, 1) := by kernel_rfl
theorem Try.infoBool : (Try.prog.info? 4).map (fun i => (i.zero, i.size, i.bytes)) = some (some (.bool false), 1, 1) := by kernel_rfl
theorem Try.infoInt : (Try.prog.info? 3).map (fun i => (i.zero, i.size, i.bytes)) = some (some (.int .i64 0), 1, 8) := by kernel_rfl

theorem cells_one {k : IntKind} {n : Int} : (Value.int k n).cells.size = 1 := rfl
theorem oneCell_u8 {bs : List UInt8} : ∀ u ∈ bs.map byt, u.oneCell' = true := by
  intro u hu; obtain ⟨b, -, rfl⟩ := List.mem_map.1 hu; rfl
theorem one_u8 {k : IntKind} {n : Int} : ∀ u ∈ (#[Value.int k n]).toList, u.oneCell' = true := by
  intro u hu; simp at hu; subst hu; rfl
theorem oneCell_bv {bs : List Bool} : ∀ u ∈ bs.map bv, u.oneCell' = true := by
  intro u hu; obtain ⟨b, -, rfl⟩ := List.mem_map.1 hu; rfl

/-- slices.Clone of bytes: a new row with the same bytes. -/
theorem clone_any (v : Value) (xs : List Value) (w : World) (h : Rd w v xs) (h1 : ∀ u ∈ xs, u.oneCell' = true) (hb : xs.length ≤ 140737488355328) :
    Calls Try.prog 34 #[v] w fun e w' => ∃ v', e = .returned v' ∧ w'.ownsRow w.heap.size 5 1 v' xs.length xs ∧ Keeps [] w w' := by
  obtain ⟨i0, hi, hz0, hz1, hz2⟩ := info_parts Try.infoU8
  obtain ⟨A, c, rfl, h2, h3, h4, h5⟩ := id h
  cases A with
  | none =>
    obtain ⟨rfl, rfl⟩ := h4 rfl
    have heq := fun n c n' c' => Lib.run_eql_slice_nil w 22 5 none n c n' c' Try.underlying22
    go_enter Try.func34, Try.ntmps34
    go_wp2
    go_ret
    exact ⟨_, rfl, World.ownsRow_nil _ _ _ _, Keeps.refl _ _⟩
  | some ad =>
    have heq := fun n c n' c' => Lib.run_eql_slice_nil w 22 5 (some ad) n c n' c' Try.underlying22
    have hrd : Rd (w.alloc (.cells #[] 5)) (.slice (some ad) xs.length c) xs := h.keeps ((Keeps.refl [] w).alloc _) (by simp)
    have HR := Lib.hid hrd
    have H1 := Lib.hid h1
    clear h1 hrd h h4 h5
    go_enter Try.func34, Try.ntmps34
    go_wp2_with (at_builtin; refine wpList_append_rd rfl _ _ 22 rfl w.heap.size 5 i0 (.int .u8 0) 1 Try.underlying22 hi hz0 hz1 hz2 rfl rfl rfl (World.ownsRow_lit w #[] 0 (Nat.le_refl _) (by simp [maxLen]) rfl) HR.out H1.out (by simp; omega) (by simp; omega) (by simp) ?_; intro v' w' ho hg hb)
    go_ret
    refine ⟨_, rfl, ?_, ?_⟩
    · simpa using ho
    · exact ((Keeps.refl [] w).alloc _).grown hg (by intro g hg; cases hg; exact .inr (Nat.le_refl _))

/-- pager.get: a number of some bytes. -/
def getN (bs : List UInt8) : Nat := bs.foldl (fun n b => n * 256 + b.toNat) 0
theorem getN_snoc (bs : List UInt8) (b : UInt8) : getN (bs ++ [b]) = getN bs * 256 + b.toNat := by simp [getN, List.foldl_append]
theorem getN_lt : ∀ (bs : List UInt8), getN bs < 256 ^ bs.length := by
  intro bs
  rw [← List.reverse_reverse bs]
  induction bs.reverse with
  | nil => simp [getN]
  | cons b l ih =>
    rw [List.reverse_cons, getN_snoc, List.length_append, List.length_singleton, Nat.pow_succ]
    have := b.toNat_lt
    omega
theorem getN_append_ge (bs cs : List UInt8) : getN bs ≤ getN (bs ++ cs) := by
  rw [← List.reverse_reverse cs]
  induction cs.reverse with
  | nil => simp
  | cons b l ih =>
    rw [List.reverse_cons, ← List.append_assoc, getN_snoc]
    omega
theorem getN_take_le (bs : List UInt8) (k : Nat) : getN (bs.take k) ≤ getN bs := by
  have := getN_append_ge (bs.take k) (bs.drop k)
  rwa [List.take_append_drop] at this
theorem getN_take_succ (bs : List UInt8) (k : Nat) (h : k < bs.length) : getN (bs.take (k + 1)) = getN (bs.take k) * 256 + bs[k].toNat := by
  rw [List.take_succ_eq_append_getElem h, getN_snoc]
theorem or_byte (a b : Nat) (h : a * 256 + b < 9223372036854775808) (hb : b < 256) : bits .or .i64 (wrap64 ((a : Int) * 256)) (b : Int) = ((a * 256 + b : Nat) : Int) := by
  have e : wrap64 ((a : Int) * 256) = ((a * 256 : Nat) : Int) := by unfold wrap64; omega
  rw [e, bits_join .i64 63 (by decide) (fun n h0 h1 => by rw [IntKind.wrap_i64]; omega) 8 (a * 256 : Nat) b (by omega) (by omega) (by omega) (by omega) (by omega) (by omega)]
  omega
set_option maxHeartbeats 400000 in
theorem get_any (v : Value) (bs : List UInt8) (w : World) (h : Rd w v (bs.map byt)) (hb : bs.length ≤ 8) (hn : getN bs < 9223372036854775808) :
    Calls Try.prog 39 #[v] w fun e w' => e = .returned (.int .i64 (getN bs)) ∧ w = w' := by
  obtain ⟨A, c, rfl, h2, h3, h4, h5⟩ := id h
  rw [List.length_map] at *
  have HR := Lib.hid h
  have HN := Lib.hid hn
  clear h h4 h5 h2 h3 hn
  go_enter Try.func39, Try.ntmps39
  go_wp2
  go_loop [3, 8] (fun n i => ∃ k : Nat, k ≤ bs.length ∧ i = .int .i64 k ∧ n = .int .i64 (getN (bs.take k))) (fun _ i => bs.length - (intOf i).toNat)
  case atStart => exact ⟨0, Nat.zero_le _, rfl, rfl⟩
  case round =>
    obtain ⟨k, hk, rfl, rfl⟩ := hrel
    by_cases hlt : k < bs.length
    · obtain ⟨ad, rfl, hc⟩ := HR.out.at_ (k := k) (by simpa using hlt)
      rw [List.getElem_map] at hc
      have HS := Lib.hid (getN_take_succ bs k hlt)
      have hle := getN_take_le bs (k + 1)
      have hb2 := bs[k].toNat_lt
      go_wp2
      go_round
      case rel => exact ⟨k + 1, by omega, by go_num, by rw [or_byte _ _ (by have := HN.out; have := HS.out; omega) hb2, HS.out]⟩
      case measure => simp [intOf]; omega
    · obtain rfl : k = bs.length := by omega
      go_wp2
      go_ret
      exact ⟨rfl, rfl⟩

/-- pager.put: a number of some bytes, behind others. -/
def putB : Nat → Nat → List UInt8
  | 0, _ => []
  | k + 1, n => UInt8.ofNat (n / 256 ^ k) :: putB k n
theorem putB_length : ∀ k n, (putB k n).length = k
  | 0, _ => rfl
  | k + 1, n => by simp [putB, putB_length k n]
theorem inList {o : Option Nat} {S : List Nat} (h : ∀ g, o = some g → g ∈ S) : ∀ g, g ∈ o.toList → g ∈ S := by
  intro g hg; cases o with
  | none => simp at hg
  | some x => simp at hg; exact h g (by rw [hg])
/-- Where a row of the call's own lies now: where it lay, or in a new block. -/
def Lies (w : World) (v v' : Value) : Prop := ∀ g, v'.ownBlock = some g → v.ownBlock = some g ∨ w.heap.size ≤ g
theorem Lies.refl (w : World) (v : Value) : Lies w v v := fun _ h => .inl h
theorem Lies.step {w w' : World} {v v' v'' : Value} (h : Lies w v v') (hs : w.heap.size ≤ w'.heap.size) (h' : v''.ownBlock = v'.ownBlock ∨ v''.ownBlock = some w'.heap.size) : Lies w v v'' := by
  intro g hg
  rcases h' with e | e
  · exact h g (by rw [← e]; exact hg)
  · rw [e] at hg; cases hg; exact .inr hs
set_option maxRecDepth 10000 in
set_option maxHeartbeats 400000 in
theorem put_any (v : Value) (n0 : Nat) (xs : List Value) (k n : Nat) (w : World) (base : Nat) (h : w.ownsRow base 5 1 v n0 xs) (hbase : base ≤ w.heap.size) (hk : k ≤ 8) (_ : n < 9223372036854775808) (hl : n0 ≤ 70368744177664) :
    Calls Try.prog 47 #[v, .int .i64 k, .int .i64 n] w fun e w' => ∃ v', e = .returned v' ∧ w'.ownsRow base 5 1 v' (n0 + k) (xs ++ (putB k n).map byt) ∧ Keeps v.ownBlock.toList w w' ∧ Lies w v v' := by
  obtain ⟨i0, hi, hz0, hz1, hz2⟩ := info_parts Try.infoU8
  have HO := Lib.hid h
  clear h
  go_enter Try.func47, Try.ntmps47
  go_wp2
  go_loopw [0, 7] (fun b i wr => ∃ r : Nat, ∃ ys : List UInt8, r ≤ k ∧ i = .int .i64 ((r : Int) - 1) ∧ Hid (ys ++ putB r n = putB k n) ∧ Hid (ys.length + r = k) ∧
      wr.ownsRow base 5 1 b (n0 + ys.length) (xs ++ ys.map byt) ∧ Keeps v.ownBlock.toList w wr ∧ Lies w v b) (fun _ i _ => (intOf i + 1).toNat)
  case atStart => exact ⟨k, [], Nat.le_refl _, rfl, Lib.hid rfl, Lib.hid (by simp), by simpa using HO.out, Keeps.refl _ _, Lies.refl _ _⟩
  case round =>
    obtain ⟨r, ys, hr, rfl, HY, HYl, ho, hkp, hli⟩ := hrel
    cases r with
    | zero =>
      have HOW := Lib.hid ho
      clear ho
      go_wp2
      go_ret
      have e1 : ys = putB k n := by have := HY.out; simpa [putB] using this
      have e2 : ys.length = k := by have := HYl.out; omega
      have := HOW.out
      rw [e2, e1] at this
      exact ⟨_, rfl, this, hkp, hli⟩
    | succ r =>
      have e : ((r + 1 : Nat) : Int) - 1 = (r : Int) := by omega
      rw [e]
      clear e
      have HOW := Lib.hid ho
      have HK := Lib.hid hkp
      have HL := Lib.hid hli
      clear ho hkp hli
      go_wp2_with (at_builtin; refine wpList_append_rd rfl _ _ 22 rfl base 5 i0 (.int .u8 0) 1 Try.underlying22 hi hz0 hz1 hz2 rfl (by rfl) (by rfl) (HOW.out.alloc _) (Rd.lit _ _ #[_] 1 rfl (by simp [maxLen])) one_u8 (by have := HYl.out; simp [maxLen]; omega) (by have := HYl.out; simp; omega) (by have := HK.out.size; simp; omega) ?_; intro v' w' ho hg hb)
      go_roundw
      case rel =>
        have e : byt (UInt8.ofNat (n / 256 ^ r)) = Value.int .u8 ((n : Int) / 2 ^ (8 * r) % 256) := by
          have h1 : (2 : Int) ^ (8 * r) = ((256 ^ r : Nat) : Int) := by rw [Int.pow_mul]; simp
          rw [h1]; simp
        have hz : w.heap.size ≤ (wr.alloc (Obj.cells #[Value.int .u8 ((n : Int) / 2 ^ (8 * r) % 256)] 5)).heap.size := by have := HK.out.size; simp; omega
        refine ⟨r, ys ++ [UInt8.ofNat (n / 256 ^ r)], by omega, rfl, Lib.hid (by have := HY.out; simpa [putB] using this), Lib.hid (by have := HYl.out; simp; omega), ?_, (HK.out.alloc _).grown hg ?_, HL.out.step hz hb⟩
        · rw [List.map_append, List.map_cons, List.map_nil, e, List.length_append, List.length_singleton, ← List.append_assoc, ← Nat.add_assoc]; exact ho
        · intro g hg'; rcases HL.out g hg' with h | h
          · exact .inl (by rw [h]; simp)
          · exact .inr h
      case measure => simp [intOf]
end Go.Proofs.Ytebllnoeenginaa
