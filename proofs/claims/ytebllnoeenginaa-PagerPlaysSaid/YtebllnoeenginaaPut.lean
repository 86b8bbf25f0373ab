/- append and pager.put onto a literal row that is full, and frozen behind its end. -/
import Derived.Test.YtebllnoeenginaaSl
import Derived.Lib.FrozenHead2
namespace Go.Proofs.Ytebllnoeenginaa
open Go.RowKit

section
variable {P : Program}
theorem run_append_full (w : World) (base : Nat) (t ty e : TypeId) (i : TypeInfo) (z : Value) (bytes : Nat) (ht : P.underlying t = some (.slice e)) (hi : P.info? e = some i) (hz : i.zero = some z)
    (hsize : i.size = 1) (hby : i.bytes = bytes) (hzs : z.cells.size = 1) {ad : Addr} {x : Value} {xs news : List Value} (hv : Rd w (.slice (some ad) xs.length xs.length) xs) (hx : Rd w x news) (hne : 0 < news.length) (h1 : ∀ u ∈ news, u.oneCell' = true)
    (h63 : xs.length + news.length ≤ maxLen) (hbytes : (xs.length + news.length) * bytes ≤ 140737488355328) (hbase : base ≤ w.heap.size) :
    ∃ v' w', (Builtin.append_ #[t, t] ty #[.slice (some ad) xs.length xs.length, x]).run P w = .ok v' w' ∧ w'.ownsRow base e 1 v' (xs.length + news.length) (xs ++ news) ∧ w.grownBy w' none ∧ v'.ownBlock = some w.heap.size := by
  obtain ⟨A, c, rfl, h2, h3, h4, h5⟩ := hx
  obtain ⟨A2, c2, hv1, g2, g3, g4, g5⟩ := hv
  injection hv1 with e1 e2 e3
  subst e1
  cases A with
  | none => obtain ⟨rfl, rfl⟩ := h4 rfl; simp at hne
  | some a =>
    subst hby
    have hl1 : news.length = news.length * i.size := by rw [hsize]; omega
    have hl0 : xs.length = xs.length * i.size := by rw [hsize]; omega
    have hr := run_append_grow (P := P) w t ty e i z ht hi hz ad xs.length xs.length xs hl0 (g5 ad rfl).2.2 a news.length c news hl1 (h5 a rfl).2.2 (by omega) (by simp only [maxLen] at h63; omega) (growslice_fits (by simp only [maxLen] at h63; omega) hbytes)
    have hge := grownCap_ge w (xs.length + news.length) xs.length e
    have hcm2 : grownCap w (xs.length + news.length) xs.length e ≤ maxLen := grownCap_le_maxLen w (xs.length + news.length) xs.length e h63
    refine ⟨_, _, hr, ⟨by simp, .inr ⟨w.heap.size, _, _, rfl, hbase, heap_alloc_new w.drew _, hge, hcm2, ?_, ?_⟩⟩, ⟨rfl, rfl, rfl, by simp, fun k hk _ => heap_alloc_old w.drew _ hk⟩, rfl⟩
    · simp only [Array.size_append, List.size_toArray, size_zeroCells, hzs]
      omega
    · simp only [Array.toList_append, List.append_assoc]
      rw [← List.append_assoc, Nat.mul_one, ← List.length_append]
      exact List.take_left

theorem wpList_append_full {ops : Array Oper} {rest : List Oper} {o : Oper} {a : Act} {Q : Exit → Act → World → Prop} {w : World} (hgd : o.guard = none) (s x : Operand) (t : TypeId)
    (ho : o.op = .call { callee := .builtin .append, args := #[s, x], argTypes := #[t, t] })
    (base : Nat) (e : TypeId) (i : TypeInfo) (z : Value) (bytes : Nat) (ht : P.underlying t = some (.slice e)) (hi : P.info? e = some i) (hz : i.zero = some z)
    (hsize : i.size = 1) (hby : i.bytes = bytes) (hzs : z.cells.size = 1) {xv : Value} {ad : Addr} {xs news : List Value} (hs : a.eval s = .slice (some ad) xs.length xs.length) (hx : a.eval x = xv) (hv : Rd w (.slice (some ad) xs.length xs.length) xs) (hrd : Rd w xv news) (hne : 0 < news.length) (h1 : ∀ u ∈ news, u.oneCell' = true)
    (h63 : xs.length + news.length ≤ maxLen) (hbytes : (xs.length + news.length) * bytes ≤ 140737488355328) (hbase : base ≤ w.heap.size)
    (h : ∀ v' w', w'.ownsRow base e 1 v' (xs.length + news.length) (xs ++ news) → w.grownBy w' none → v'.ownBlock = some w.heap.size → wpList P ops Q rest (a.put o.dst v') w') : wpList P ops Q (o :: rest) a w := by
  subst hx
  obtain ⟨v', w', hr, h2, h3, h4⟩ := run_append_full w base t o.type e i z bytes ht hi hz hsize hby hzs hv hrd hne h1 h63 hbytes hbase
  refine wpList_plain hgd fun _ hK => ?_
  unfold Oper.wp execOp
  simp only [ho, resolve, invoke, builtin, Sem.run_bind, Sem.run_pure, Result.andThen_ok, List.map_toArray, List.map_cons, List.map_nil, hs, hr]
  exact hK _ _ (h v' w' h2 h3 h4)
end

set_option maxRecDepth 10000 in
set_option maxHeartbeats 400000 in
theorem put_full (ad : Addr) (xs : List Value) (k : Nat) (K : Int) (hK : K = k) (n : Nat) (N : Int) (hN : N = n) (w : World) (base : Nat) (h : Rd w (.slice (some ad) xs.length xs.length) xs) (hbase : base ≤ w.heap.size) (hk0 : 0 < k) (hk : k ≤ 8) (_ : n < 9223372036854775808) (hl : xs.length ≤ 70368744177664) :
    Calls Try.prog 47 #[.slice (some ad) xs.length xs.length, .int .i64 K, .int .i64 N] w fun e w' => ∃ v', e = .returned v' ∧ w'.ownsRow base 5 1 v' (xs.length + k) (xs ++ (putB k n).map byt) ∧ Keeps [] w w' ∧ ∀ g, v'.ownBlock = some g → w.heap.size ≤ g := by
  subst hK; subst hN
  obtain ⟨i0, hi, hz0, hz1, hz2⟩ := info_parts Try.infoU8
  have HO := Lib.hid h
  clear h
  go_enter Try.func47, Try.ntmps47
  go_wp2
  go_loopw [0, 7] (fun b i wr => ∃ r : Nat, ∃ ys : List UInt8, r ≤ k ∧ i = .int .i64 ((r : Int) - 1) ∧ Hid (ys ++ putB r n = putB k n) ∧ Hid (ys.length + r = k) ∧ Keeps [] w wr ∧
      ((r = k ∧ b = .slice (some ad) xs.length xs.length) ∨ (Hid (wr.ownsRow base 5 1 b (xs.length + ys.length) (xs ++ ys.map byt)) ∧ ∀ g, b.ownBlock = some g → w.heap.size ≤ g))) (fun _ i _ => (intOf i + 1).toNat)
  case atStart => exact ⟨k, [], Nat.le_refl _, rfl, Lib.hid rfl, Lib.hid (by simp), Keeps.refl _ _, .inl ⟨rfl, rfl⟩⟩
  case round =>
    obtain ⟨r, ys, hr, rfl, HY, HYl, hkp, hcase⟩ := hrel
    have HK := Lib.hid hkp
    clear hkp
    cases r with
    | zero =>
      rcases hcase with ⟨rfl, -⟩ | ⟨HOW, hli⟩
      · omega
      have HLI := Lib.hid hli
      clear hli
      go_wp2
      go_ret
      have e1 : ys = putB k n := by have := HY.out; simpa [putB] using this
      have e2 : ys.length = k := by have := HYl.out; omega
      have := HOW.out
      rw [e2, e1] at this
      exact ⟨_, rfl, this, HK.out, HLI.out⟩
    | succ r =>
      have e : ((r + 1 : Nat) : Int) - 1 = (r : Int) := by omega
      rw [e]
      clear e
      have e : byt (UInt8.ofNat (n / 256 ^ r)) = Value.int .u8 ((n : Int) / 2 ^ (8 * r) % 256) := by
        have h1 : (2 : Int) ^ (8 * r) = ((256 ^ r : Nat) : Int) := by rw [Int.pow_mul]; simp
        rw [h1]; simp
      have HEE := Lib.hid e
      clear e
      rcases hcase with ⟨hrk, rfl⟩ | ⟨HOW, hli⟩
      · have hys : ys = [] := by have := HYl.out; exact List.length_eq_zero_iff.1 (by omega)
        have HYS := Lib.hid hys
        have HRK := Lib.hid hrk
        clear hys hrk
        go_wp2_with (at_builtin; refine wpList_append_full rfl _ _ 22 rfl base 5 i0 (.int .u8 0) 1 Try.underlying22 hi hz0 hz1 hz2 rfl (by rfl) (by rfl) (HO.out.keeps (HK.out.alloc _) (by simp)) (Rd.lit _ _ #[_] 1 rfl (by simp [maxLen])) (by simp) one_u8 (by simp [maxLen]; omega) (by simp; omega) (by have := HK.out.size; simp; omega) ?_; intro v' w' ho hg hb)
        go_roundw
        case rel =>
          refine ⟨r, ys ++ [UInt8.ofNat (n / 256 ^ r)], by omega, rfl, Lib.hid (by have := HY.out; simpa [putB] using this), Lib.hid (by have := HYl.out; simp; omega), (HK.out.alloc _).grown hg (by simp), .inr ⟨Lib.hid ?_, ?_⟩⟩
          · rw [HYS.out, List.nil_append, List.map_cons, List.map_nil, HEE.out]; exact ho
          · intro g hg'; rw [hb] at hg'; cases hg'; have := HK.out.size; simp; omega
        case measure => simp [intOf]
      · have HLI := Lib.hid hli
        clear hli
        go_wp2_with (at_builtin; refine wpList_append_rd rfl _ _ 22 rfl base 5 i0 (.int .u8 0) 1 Try.underlying22 hi hz0 hz1 hz2 rfl (by rfl) (by rfl) (HOW.out.alloc _) (Rd.lit _ _ #[_] 1 rfl (by simp [maxLen])) one_u8 (by have := HYl.out; simp [maxLen]; omega) (by have := HYl.out; simp; omega) (by have := HK.out.size; simp; omega) ?_; intro v' w' ho hg hb)
        go_roundw
        case rel =>
          refine ⟨r, ys ++ [UInt8.ofNat (n / 256 ^ r)], by omega, rfl, Lib.hid (by have := HY.out; simpa [putB] using this), Lib.hid (by have := HYl.out; simp; omega), (HK.out.alloc _).grown hg ?_, .inr ⟨Lib.hid ?_, ?_⟩⟩
          · intro g hg'; exact .inr (HLI.out g hg')
          · rw [List.map_append, List.map_cons, List.map_nil, HEE.out, List.length_append, List.length_singleton, ← List.append_assoc, ← Nat.add_assoc]; exact ho
          · intro g hg'
            rcases hb with e | e
            · exact HLI.out g (by rw [← e]; exact hg')
            · rw [e] at hg'; cases hg'; have := HK.out.size; simp; omega
        case measure => simp [intOf]
end Go.Proofs.Ytebllnoeenginaa
