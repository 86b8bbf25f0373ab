/- PagerOwn, walked: for every row of bytes and every byte it answers true. -/
import Derived.Test.YtebllnoeenginaaLaw1
import Derived.Deep.RegionWith
import Derived.Deep.DrawnRows
namespace Go.Proofs.Ytebllnoeenginaa
open Go.RowKit
attribute [local go_sem ↓] Go.wp_at_zero Go.wp_at_succ

section
variable {w w' : World}
set_option maxRecDepth 100000 in
set_option maxHeartbeats 2000000 in
theorem own_long (v : Value) (bs : List UInt8) (t : UInt8) (w : World) (hr : Rd w v (bs.map byt)) (hl : 496 < bs.length) : Calls Try.prog 3 #[v, .int .u8 t.toNat] w fun e w' => e = .returned (.bool true) ∧ Keeps [] w w' := by
  obtain ⟨A, c, rfl, hc1, hc2⟩ := hr.form
  rw [List.length_map] at *
  clear hr
  go_enter Try.func3, Try.ntmps3
  go_wp2_with fail
  refine (known_any _).mono ?_
  rintro e w1 ⟨rfl, hk1⟩
  have HK1 := Lib.hid hk1
  clear hk1
  go_wp2_with fail
  go_ret
  exact ⟨rfl, HK1.out⟩
set_option maxRecDepth 100000 in
set_option maxHeartbeats 2000000 in
theorem own_any (v : Value) (bs : List UInt8) (t : UInt8) (w : World) (hr : Rd w v (bs.map byt)) (hl : bs.length ≤ 496) : Calls Try.prog 3 #[v, .int .u8 t.toNat] w fun e w' => e = .returned (.bool true) ∧ Keeps [] w w' := by
  obtain ⟨A, c, rfl, hc1, hc2⟩ := hr.form
  obtain ⟨i0, hi, hz0, hz1, hz2⟩ := info_parts Try.infoU8
  rw [List.length_map] at *
  have HR := Lib.hid hr
  clear hr
  go_enter Try.func3, Try.ntmps3
  go_wp2_with fail
  refine (known_any _).mono ?_
  rintro e w1 ⟨rfl, hk1⟩
  have HK1 := Lib.hid hk1
  clear hk1
  go_wp2_with fail
  refine (live_new 100 _ (by omega) (by omega)).mono ?_
  rintro e w2 ⟨d, F2, rfl, hd2, hk2, hF2⟩
  have HD2 := Lib.hid hd2
  have HK2 := Lib.hid hk2
  have HF2 := Lib.hid hF2
  clear hd2 hk2 hF2
  go_wp2_with fail
  refine (live_open HD2.out (zero_ok 100 (by omega) (by omega)) (zero_image 100) rfl).mono ?_
  rintro e w3 ⟨p, F3, rfl, hl3, hg3, hk3⟩
  have HL3 := Lib.hid hl3
  have HG3 := Lib.hid hg3
  have HK3 := Lib.hid hk3
  clear hl3 hg3 hk3
  have hka : Keeps [] w (w3.alloc (.cells #[] 5)) := (((HK1.out.trans HK2.out).trans HK3.out)).alloc _
  have HRA := Lib.hid (HR.out.keeps hka (by simp))
  clear hka
  go_wp2_with (at_builtin; refine wpList_append_rd rfl _ _ 22 rfl w3.heap.size 5 i0 (.int .u8 0) 1 Try.underlying22 hi hz0 hz1 hz2 rfl rfl rfl (World.ownsRow_lit w3 #[] 0 (Nat.le_refl _) (by simp [maxLen]) rfl) HRA.out oneCell_u8 (by simp [maxLen]; omega) (by simp; omega) (by simp) ?_; intro mv w4 ho4 hg4 hb4)
  rw [List.length_map, Nat.zero_add, List.nil_append] at ho4
  have hk4 : Keeps [] w3 w4 := ((Keeps.refl [] w3).alloc _).grown hg4 (by intro g hg; cases hg; exact .inr (Nat.le_refl _))
  have hm4 : Mine w4 F3 w3.heap.size 5 1 mv bs.length (bs.map byt) := ⟨ho4, fun g hg hf => by have h1 := own_base ho4 g hg; have h2 := HL3.out.lt g hf; omega⟩
  have HM4 := Lib.hid hm4
  have HK4 := Lib.hid hk4
  clear ho4 hg4 hb4 hk4 hm4
  refine (live_alloc (HL3.out.keeps HK4.out (by simp)) rfl (Rd.of_own HM4.out.1) hl (by decide)).mono ?_
  rintro e w5 ⟨n, X5, F5, rfl, ha5, hl5, hg5⟩
  have HA5 := Lib.hid ha5
  have HL5 := Lib.hid hl5
  have HG5 := Lib.hid hg5
  have HM5 := Lib.hid (HM4.out.grows hg5)
  obtain ⟨mA, mc, rfl, -⟩ := (Rd.of_own HM4.out.1).form
  rw [List.length_map] at *
  clear ha5 hl5 hg5
  go_wp2_with fail
  have HKW : Hid (Keeps [] w w3) := Lib.hid ((HK1.out.trans HK2.out).trans HK3.out)
  have HF3 : Hid (∀ k, F3 k → w.heap.size ≤ k) := Lib.hid (HG3.out.keeps0 (HK1.out.trans HK2.out) (fun k hk => Nat.le_trans HK1.out.size (HF2.out k hk))).2
  have HKF := Lib.hid (HG5.out.keeps0 (HKW.out.trans HK4.out) HF3.out)
  go_loopw [13] (fun i wr => ∃ (k : Nat) (ys : List UInt8), k ≤ bs.length ∧ i = .int .i64 k ∧ Hid (ys.length = bs.length) ∧ Hid (Mine wr F5 w3.heap.size 5 1 (.slice mA bs.length mc) bs.length (ys.map byt)) ∧
    Hid (Live wr F5 p d X5 (Disk.zero 100)) ∧ Hid (Blk wr w5.heap.size 5 #[byt t]) ∧ Hid (Keeps [] w wr)) (fun i _ => bs.length - (intOf i).toNat)
  case atStart =>
    have ha : Keeps [] w5 (w5.alloc (.cells #[byt t] 5)) := (Keeps.refl [] w5).alloc _
    exact ⟨0, bs, Nat.zero_le _, rfl, Lib.hid rfl, Lib.hid (HM5.out.keeps ha (by simp)), Lib.hid (HL5.out.keeps ha (by simp)), Lib.hid (Blk.new _ _ _), Lib.hid (HKF.out.1.trans ha)⟩
  case round =>
    obtain ⟨k, ys, hk, rfl, HY, HM, HL, HB, HKR⟩ := hrel
    by_cases hlt : k < bs.length
    · obtain ⟨g, cap, hv⟩ := own_form HM.out.1 (by omega)
      cases hv
      have hgl : g < w5.heap.size := own_lt HM5.out.1 g rfl
      have hgb : w3.heap.size ≤ g := own_base HM5.out.1 g rfl
      have hcB := HM.out.1.cellAt k (by omega)
      have hfB := HM.out.1.frozenAt k
      have hyk : k < ys.length := by rw [HY.out]; exact hlt
      rw [List.getElem?_map, List.getElem?_eq_getElem hyk] at hcB
      obtain ⟨z, hz⟩ := xor_byte ys[k] t
      obtain ⟨y, hy⟩ : ∃ y, y = ys[k] := ⟨_, rfl⟩
      rw [← hy] at hcB hz
      clear hy
      go_wp2
      have hks : Keeps [g] wr (wr.setCell ⟨g, k, none⟩ (byt z)) := (Keeps.refl _ _).setCell (.inl (by simp)) _
      have hst := HM.out.1.stored k (byt z)
      rw [← List.map_set] at hst
      have hnF : ∀ q, q ∈ [g] → ¬ F5 q := by intro q hq; simp at hq; subst hq; exact HM.out.2 q rfl
      refine ⟨⟨k + 1, ys.set k z, by omega, by go_num, Lib.hid (by rw [List.length_set]; exact HY.out), Lib.hid ⟨hst.1, HM.out.2⟩, Lib.hid (HL.out.keeps hks hnF), Lib.hid (HB.out.keeps hks (by simp; omega)), Lib.hid (HKR.out.then hks (fun q hq => .inr ?_))⟩, by simp [intOf]; omega⟩
      simp at hq; subst hq; have := HKW.out.size; omega
    · obtain rfl : k = bs.length := by omega
      clear hk hlt
      go_wp2_with fail
      have hx5 := HA5.out
      refine (live_commit (root := [t]) HL.out rfl (Rd.blk HB.out 1 rfl (by simp [maxLen])) (by simp) (by rw [HA5.out.seq]; decide) (by decide) (by rw [HA5.out.fresh]; decide) (.inl (by decide))).mono ?_
      rintro e w6 ⟨rfl, F6, X6, D6, hl6, hg6, hc6⟩
      have HB6 : Hid (Blk w6 w5.heap.size 5 #[byt t]) := Lib.hid (by
        have := hg6.block HB.out.lt (fun hf => by have := HL5.out.lt _ hf; omega)
        exact this.trans HB.out)
      have HN6 : Hid (¬ F6 w5.heap.size) := Lib.hid (hg6.not HB.out.lt (fun hf => by have := HL5.out.lt _ hf; omega))
      have HK6 := Lib.hid (hg6.keeps0 HKR.out HKF.out.2)
      have HL6 := Lib.hid hl6
      have HC6 := Lib.hid hc6
      obtain ⟨z, hz⟩ := xor_byte t 255
      have hz' : bits .xor .u8 (t.toNat : Int) 255 = (z.toNat : Int) := hz
      have c0 : w6.cell? ⟨w5.heap.size, 0, none⟩ = some (.int .u8 t.toNat) := HB6.out.cell 0
      have f0 := HB6.out.frozen 0
      clear hl6 hg6 hc6 hx5 hz
      go_wp2_with fail
      obtain ⟨w6', hw6'⟩ : ∃ W, W = w6.setCell ⟨w5.heap.size, 0, none⟩ (byt z) := ⟨_, rfl⟩
      have hks : Keeps [w5.heap.size] w6 w6' := by rw [hw6']; exact (Keeps.refl _ _).setCell (.inl (by simp)) _
      have HL6' : Hid (Live w6' F6 p d X6 D6) := Lib.hid (HL6.out.keeps hks (by intro q hq; simp at hq; subst hq; exact HN6.out))
      have HK6' : Hid (Keeps [] w w6') := Lib.hid (HK6.out.1.then hks (fun q hq => .inr (by simp at hq; subst hq; exact HKF.out.1.size)))
      rw [← hw6']
      clear hks hw6' c0 f0
      have hrd : X6.read D6 n = (bs, 0) := by rw [read_at HC6.out.dead, HC6.out.at_, HA5.out.at_, if_pos rfl]
      have HRD := Lib.hid hrd
      clear hrd
      refine (live_read n HL6'.out).mono ?_
      rintro e w7 ⟨xv, rfl, ho7, hl7, hg7⟩
      rw [HRD.out] at ho7 ⊢
      simp only at ho7
      have hm7 : Mine w7 F6 w6'.heap.size 5 1 xv bs.length (bs.map byt) := ⟨ho7, fun g hg hf => by have h1 := own_base ho7 g hg; have h2 := HL6'.out.lt g hf; omega⟩
      obtain ⟨xA, xc, rfl, -⟩ := (Rd.of_own ho7).form
      rw [List.length_map] at hm7 ⊢
      have HM7 := Lib.hid hm7
      have HL7 := Lib.hid hl7
      have HK7 := Lib.hid (hg7.keeps0 HK6'.out HK6.out.2)
      clear ho7 hl7 hg7 hm7
      go_wp2_with fail
      go_loopw [17] (fun i wq => ∃ (k : Nat) (ys : List UInt8), k ≤ bs.length ∧ i = .int .i64 k ∧ Hid (ys.length = bs.length) ∧ Hid (Mine wq F6 w6'.heap.size 5 1 (.slice xA bs.length xc) bs.length (ys.map byt)) ∧
        Hid (Live wq F6 p d X6 D6) ∧ Hid (Keeps [] w wq)) (fun i _ => bs.length - (intOf i).toNat)
      case atStart => exact ⟨0, bs, Nat.zero_le _, rfl, Lib.hid rfl, HM7, HL7, Lib.hid HK7.out.1⟩
      case round =>
        obtain ⟨k, ys2, hk, rfl, HY2, HM2, HL2, HKR2⟩ := hrel
        by_cases hlt : k < bs.length
        · obtain ⟨g, cap, hv⟩ := own_form HM2.out.1 (by omega)
          cases hv
          have hgb : w6'.heap.size ≤ g := own_base HM2.out.1 g rfl
          have hcB := HM2.out.1.cellAt k (by omega)
          have hfB := HM2.out.1.frozenAt k
          have hyk : k < ys2.length := by rw [HY2.out]; exact hlt
          rw [List.getElem?_map, List.getElem?_eq_getElem hyk] at hcB
          obtain ⟨z2, hz2'⟩ := xor_byte ys2[k] t
          obtain ⟨y, hy⟩ : ∃ y, y = ys2[k] := ⟨_, rfl⟩
          rw [← hy] at hcB hz2'
          clear hy
          go_wp2
          have hks : Keeps [g] wr (wr.setCell ⟨g, k, none⟩ (byt z2)) := (Keeps.refl _ _).setCell (.inl (by simp)) _
          have hst := HM2.out.1.stored k (byt z2)
          rw [← List.map_set] at hst
          have hnF : ∀ q, q ∈ [g] → ¬ F6 q := by intro q hq; simp at hq; subst hq; exact HM2.out.2 q rfl
          refine ⟨⟨k + 1, ys2.set k z2, by omega, by go_num, Lib.hid (by rw [List.length_set]; exact HY2.out), Lib.hid ⟨hst.1, HM2.out.2⟩, Lib.hid (HL2.out.keeps hks hnF), Lib.hid (HKR2.out.then hks (fun q hq => .inr ?_))⟩, by simp [intOf]; omega⟩
          simp at hq; subst hq; have := HK6'.out.size; omega
        · obtain rfl : k = bs.length := by omega
          clear hk hlt
          go_wp2_with fail
          refine (live_read n HL2.out).mono ?_
          rintro e w8 ⟨yv, rfl, ho8, hl8, hg8⟩
          rw [HRD.out] at ho8 ⊢
          simp only at ho8
          have hs8 := run_str (Rd.of_own ho8)
          have HL8 := Lib.hid hl8
          have HK8 := Lib.hid (hg8.keeps0 HKR2.out HK6.out.2)
          have hsb := run_str (HR.out.keeps HK8.out.1 (by simp))
          have heq : ((ByteArray.mk bs.toArray).toList == (ByteArray.mk bs.toArray).toList) = true := by simp
          have HRY := Lib.hid (Rd.of_own ho8)
          have HRB := Lib.hid (HR.out.keeps HK8.out.1 (by simp))
          have hnew : ∀ W : World, (convert 22 9 (.slice (some ⟨W.heap.size, 0, none⟩) 1 1)).run Try.prog (W.alloc (.cells #[byt t] 5)) = .ok (.string ⟨[t].toArray⟩) (W.alloc (.cells #[byt t] 5)) := fun W => run_str (bs := [t]) (Rd.lit W 5 #[byt t] 1 rfl (by simp [maxLen]))
          have hrt : X6.root = [t] := HC6.out.root
          have HRT := Lib.hid hrt
          have heq2 : ((ByteArray.mk [t].toArray).toList == (ByteArray.mk [t].toArray).toList) = true := by simp
          clear ho8 hl8 hg8 hrt hs8 hsb
          go_wp2_with fail
          have HLV : Hid (∀ W, Keeps [] w8 W → Live W F6 p d X6 D6) := Lib.hid (fun W hk => HL8.out.keeps hk (by simp))
          have cy : ∀ W, Keeps [] w8 W → (convert 22 9 yv).run Try.prog W = .ok (.string ⟨bs.toArray⟩) W := fun W hk => str_same HRY.out hk
          have cb : ∀ W, Keeps [] w8 W → (convert 22 9 (.slice A bs.length c)).run Try.prog W = .ok (.string ⟨bs.toArray⟩) W := fun W hk => str_same HRB.out hk
          have k0 := Keeps.refl [] w8
          have kD : ∀ W, Keeps [] w8 W → Keeps [] w8 W.drew := fun W h => h.drew
          have kA : ∀ W o, Keeps [] w8 W → Keeps [] w8 (W.alloc o) := fun W o h => h.alloc o
          refine wp_region_held_drew (S := fun w' => Keeps [] w8 w') (by kernel_rfl) ((Keeps.refl _ _).drew) (fun hHeld => ?_)
          refine wpAnyH_take (i := 0) (oi := ⟨some 91, Op.move (Operand.tmp 8), _, _, _, _⟩) (v := ?v0) rfl (by kernel_rfl) (by kernel_rfl) (by kernel_rfl) (fun _ _ _ h => h) (Or.inl ⟨by rfl, ?y0⟩) hHeld ?r0
          case y0 => (intro wS hSw; (try dsimp only at hSw); go_simp; try with_reducible rfl)
          simp only [Act.put, List.setIfInBounds_toArray, List.set_cons_zero, List.set_cons_succ]
          refine wpAnyH_take (i := 1) (oi := ⟨some 92, Op.binOp BinOp.eql 25 (Operand.tmp 91) (Operand.const (Value.int IntKind.i64 0)) 25, _, _, _, _⟩) (v := ?v1) rfl (by kernel_rfl) (by kernel_rfl) (by kernel_rfl) (fun _ _ _ h => h) (Or.inl ⟨by rfl, ?y1⟩) hHeld ?r1
          case y1 => (intro wS hSw; (try dsimp only at hSw); go_simp; try with_reducible rfl)
          simp only [Act.put, List.setIfInBounds_toArray, List.set_cons_zero, List.set_cons_succ]
          refine wpAnyH_take (i := 2) (oi := ⟨some 93, Op.move (Operand.tmp 92), _, _, _, _⟩) (v := ?v2) rfl (by kernel_rfl) (by kernel_rfl) (by kernel_rfl) (fun _ _ _ h => h) (Or.inl ⟨by rfl, ?y2⟩) hHeld ?r2
          case y2 => (intro wS hSw; (try dsimp only at hSw); go_simp; try with_reducible rfl)
          simp only [Act.put, List.setIfInBounds_toArray, List.set_cons_zero, List.set_cons_succ]
          refine wpAnyH_take (i := 3) (oi := ⟨some 94, Op.move (Operand.tmp 11), _, _, _, _⟩) (v := ?v3) rfl (by kernel_rfl) (by kernel_rfl) (by kernel_rfl) (fun _ _ _ h => h) (Or.inl ⟨by rfl, ?y3⟩) hHeld ?r3
          case y3 => (intro wS hSw; (try dsimp only at hSw); go_simp; try with_reducible rfl)
          simp only [Act.put, List.setIfInBounds_toArray, List.set_cons_zero, List.set_cons_succ]
          refine wpAnyH_take (i := 4) (oi := ⟨some 95, Op.binOp BinOp.eql 25 (Operand.tmp 94) (Operand.const (Value.int IntKind.i64 0)) 25, _, _, _, _⟩) (v := ?v4) rfl (by kernel_rfl) (by kernel_rfl) (by kernel_rfl) (fun _ _ _ h => h) (Or.inl ⟨by rfl, ?y4⟩) hHeld ?r4
          case y4 => (intro wS hSw; (try dsimp only at hSw); go_simp; try with_reducible rfl)
          simp only [Act.put, List.setIfInBounds_toArray, List.set_cons_zero, List.set_cons_succ]
          refine wpAnyH_take (i := 5) (oi := ⟨some 96, Op.pick (Operand.tmp 93) (Operand.tmp 95) (Operand.const (Value.bool false)), _, _, _, _⟩) (v := ?v5) rfl (by kernel_rfl) (by kernel_rfl) (by kernel_rfl) (fun _ _ _ h => h) (Or.inl ⟨by rfl, ?y5⟩) hHeld ?r5
          case y5 => (intro wS hSw; (try dsimp only at hSw); go_simp; try with_reducible rfl)
          simp only [Act.put, List.setIfInBounds_toArray, List.set_cons_zero, List.set_cons_succ]
          refine wpAnyH_take (i := 6) (oi := ⟨some 97, Op.move (Operand.tmp 96), _, _, _, _⟩) (v := ?v6) rfl (by kernel_rfl) (by kernel_rfl) (by kernel_rfl) (fun _ _ _ h => h) (Or.inl ⟨by rfl, ?y6⟩) hHeld ?r6
          case y6 => (intro wS hSw; (try dsimp only at hSw); go_simp; try with_reducible rfl)
          simp only [Act.put, List.setIfInBounds_toArray, List.set_cons_zero, List.set_cons_succ]
          refine wpAnyH_take (i := 7) (oi := ⟨some 98, Op.move (Operand.tmp 14), _, _, _, _⟩) (v := ?v7) rfl (by kernel_rfl) (by kernel_rfl) (by kernel_rfl) (fun _ _ _ h => h) (Or.inl ⟨by rfl, ?y7⟩) hHeld ?r7
          case y7 => (intro wS hSw; (try dsimp only at hSw); go_simp; try with_reducible rfl)
          simp only [Act.put, List.setIfInBounds_toArray, List.set_cons_zero, List.set_cons_succ]
          refine wpAnyH_take (i := 8) (oi := ⟨some 99, Op.binOp BinOp.eql 25 (Operand.tmp 98) (Operand.const (Value.int IntKind.i64 0)) 25, _, _, _, _⟩) (v := ?v8) rfl (by kernel_rfl) (by kernel_rfl) (by kernel_rfl) (fun _ _ _ h => h) (Or.inl ⟨by rfl, ?y8⟩) hHeld ?r8
          case y8 => (intro wS hSw; (try dsimp only at hSw); go_simp; try with_reducible rfl)
          simp only [Act.put, List.setIfInBounds_toArray, List.set_cons_zero, List.set_cons_succ]
          refine wpAnyH_take (i := 9) (oi := ⟨some 100, Op.pick (Operand.tmp 97) (Operand.tmp 99) (Operand.const (Value.bool false)), _, _, _, _⟩) (v := ?v9) rfl (by kernel_rfl) (by kernel_rfl) (by kernel_rfl) (fun _ _ _ h => h) (Or.inl ⟨by rfl, ?y9⟩) hHeld ?r9
          case y9 => (intro wS hSw; (try dsimp only at hSw); go_simp; try with_reducible rfl)
          simp only [Act.put, List.setIfInBounds_toArray, List.set_cons_zero, List.set_cons_succ]
          refine wpAnyH_take (i := 10) (oi := ⟨some 101, Op.move (Operand.tmp 100), _, _, _, _⟩) (v := ?v10) rfl (by kernel_rfl) (by kernel_rfl) (by kernel_rfl) (fun _ _ _ h => h) (Or.inl ⟨by rfl, ?y10⟩) hHeld ?r10
          case y10 => (intro wS hSw; (try dsimp only at hSw); go_simp; try with_reducible rfl)
          simp only [Act.put, List.setIfInBounds_toArray, List.set_cons_zero, List.set_cons_succ]
          refine wpAnyH_take (i := 11) (oi := ⟨some 102, Op.move (Operand.tmp 19), _, _, _, _⟩) (v := ?v11) rfl (by kernel_rfl) (by kernel_rfl) (by kernel_rfl) (fun _ _ _ h => h) (Or.inl ⟨by rfl, ?y11⟩) hHeld ?r11
          case y11 => (intro wS hSw; (try dsimp only at hSw); go_simp; try with_reducible rfl)
          simp only [Act.put, List.setIfInBounds_toArray, List.set_cons_zero, List.set_cons_succ]
          refine wpAnyH_take (i := 12) (oi := ⟨some 103, Op.binOp BinOp.eql 25 (Operand.tmp 102) (Operand.const (Value.int IntKind.i64 0)) 25, _, _, _, _⟩) (v := ?v12) rfl (by kernel_rfl) (by kernel_rfl) (by kernel_rfl) (fun _ _ _ h => h) (Or.inl ⟨by rfl, ?y12⟩) hHeld ?r12
          case y12 => (intro wS hSw; (try dsimp only at hSw); go_simp; try with_reducible rfl)
          simp only [Act.put, List.setIfInBounds_toArray, List.set_cons_zero, List.set_cons_succ]
          refine wpAnyH_take (i := 13) (oi := ⟨some 104, Op.pick (Operand.tmp 101) (Operand.tmp 103) (Operand.const (Value.bool false)), _, _, _, _⟩) (v := ?v13) rfl (by kernel_rfl) (by kernel_rfl) (by kernel_rfl) (fun _ _ _ h => h) (Or.inl ⟨by rfl, ?y13⟩) hHeld ?r13
          case y13 => (intro wS hSw; (try dsimp only at hSw); go_simp; try with_reducible rfl)
          simp only [Act.put, List.setIfInBounds_toArray, List.set_cons_zero, List.set_cons_succ]
          refine wpAnyH_take (i := 14) (oi := ⟨some 105, Op.move (Operand.tmp 104), _, _, _, _⟩) (v := ?v14) rfl (by kernel_rfl) (by kernel_rfl) (by kernel_rfl) (fun _ _ _ h => h) (Or.inl ⟨by rfl, ?y14⟩) hHeld ?r14
          case y14 => (intro wS hSw; (try dsimp only at hSw); go_simp; try with_reducible rfl)
          simp only [Act.put, List.setIfInBounds_toArray, List.set_cons_zero, List.set_cons_succ]
          refine wpAnyH_take (i := 15) (oi := ⟨some 106, Op.move (Operand.tmp 18), _, _, _, _⟩) (v := ?v15) rfl (by kernel_rfl) (by kernel_rfl) (by kernel_rfl) (fun _ _ _ h => h) (Or.inl ⟨by rfl, ?y15⟩) hHeld ?r15
          case y15 => (intro wS hSw; (try dsimp only at hSw); go_simp; try with_reducible rfl)
          simp only [Act.put, List.setIfInBounds_toArray, List.set_cons_zero, List.set_cons_succ]
          refine wpAnyH_take (i := 16) (oi := ⟨some 107, Op.convert 22 9 (Operand.tmp 106), _, _, _, _⟩) (v := ?v16) rfl (by kernel_rfl) (by kernel_rfl) (by kernel_rfl) (fun _ _ _ h => h) (Or.inl ⟨by rfl, ?y16⟩) hHeld ?r16
          case y16 => (intro wS hSw; (try dsimp only at hSw); go_simp; try with_reducible rfl)
          simp only [Act.put, List.setIfInBounds_toArray, List.set_cons_zero, List.set_cons_succ]
          refine wpAnyH_take (i := 17) (oi := ⟨some 108, Op.move (Operand.tmp 0), _, _, _, _⟩) (v := ?v17) rfl (by kernel_rfl) (by kernel_rfl) (by kernel_rfl) (fun _ _ _ h => h) (Or.inl ⟨by rfl, ?y17⟩) hHeld ?r17
          case y17 => (intro wS hSw; (try dsimp only at hSw); go_simp; try with_reducible rfl)
          simp only [Act.put, List.setIfInBounds_toArray, List.set_cons_zero, List.set_cons_succ]
          refine wpAnyH_take (i := 18) (oi := ⟨some 109, Op.convert 22 9 (Operand.tmp 108), _, _, _, _⟩) (v := ?v18) rfl (by kernel_rfl) (by kernel_rfl) (by kernel_rfl) (fun _ _ _ h => h) (Or.inl ⟨by rfl, ?y18⟩) hHeld ?r18
          case y18 => (intro wS hSw; (try dsimp only at hSw); go_simp; try with_reducible rfl)
          simp only [Act.put, List.setIfInBounds_toArray, List.set_cons_zero, List.set_cons_succ]
          refine wpAnyH_take (i := 19) (oi := ⟨some 110, Op.binOp BinOp.eql 9 (Operand.tmp 107) (Operand.tmp 109) 9, _, _, _, _⟩) (v := ?v19) rfl (by kernel_rfl) (by kernel_rfl) (by kernel_rfl) (fun _ _ _ h => h) (Or.inl ⟨by rfl, ?y19⟩) hHeld ?r19
          case y19 => (intro wS hSw; (try dsimp only at hSw); go_simp; try with_reducible rfl)
          simp only [Act.put, List.setIfInBounds_toArray, List.set_cons_zero, List.set_cons_succ]
          refine wpAnyH_take (i := 20) (oi := ⟨some 111, Op.pick (Operand.tmp 105) (Operand.tmp 110) (Operand.const (Value.bool false)), _, _, _, _⟩) (v := ?v20) rfl (by kernel_rfl) (by kernel_rfl) (by kernel_rfl) (fun _ _ _ h => h) (Or.inl ⟨by rfl, ?y20⟩) hHeld ?r20
          case y20 => (intro wS hSw; (try dsimp only at hSw); go_simp; try with_reducible rfl)
          simp only [Act.put, List.setIfInBounds_toArray, List.set_cons_zero, List.set_cons_succ]
          refine wpAnyH_take (i := 21) (oi := ⟨some 112, Op.move (Operand.tmp 111), _, _, _, _⟩) (v := ?v21) rfl (by kernel_rfl) (by kernel_rfl) (by kernel_rfl) (fun _ _ _ h => h) (Or.inl ⟨by rfl, ?y21⟩) hHeld ?r21
          case y21 => (intro wS hSw; (try dsimp only at hSw); go_simp; try with_reducible rfl)
          simp only [Act.put, List.setIfInBounds_toArray, List.set_cons_zero, List.set_cons_succ]
          refine wpAnyH_take (i := 22) (oi := ⟨some 113, Op.move (Operand.tmp 7), _, _, _, _⟩) (v := ?v22) rfl (by kernel_rfl) (by kernel_rfl) (by kernel_rfl) (fun _ _ _ h => h) (Or.inl ⟨by rfl, ?y22⟩) hHeld ?r22
          case y22 => (intro wS hSw; (try dsimp only at hSw); go_simp; try with_reducible rfl)
          simp only [Act.put, List.setIfInBounds_toArray, List.set_cons_zero, List.set_cons_succ]
          refine wpAnyH_take (i := 25) (oi := ⟨some 116, Op.move (Operand.tmp 1), _, _, _, _⟩) (v := ?v25) rfl (by kernel_rfl) (by kernel_rfl) (by kernel_rfl) (fun _ _ _ h => h) (Or.inl ⟨by rfl, ?y25⟩) hHeld ?r25
          case y25 => (intro wS hSw; (try dsimp only at hSw); go_simp; try with_reducible rfl)
          simp only [Act.put, List.setIfInBounds_toArray, List.set_cons_zero, List.set_cons_succ]
          clear cy cb
          refine wpAnyH_ready (rs := [23, 26]) (by kernel_rfl) (by simp) ?_
          refine AllReadyH.cons (o := ⟨some 114, Op.call { callee := Callee.value (Operand.func 15), args := #[Operand.tmp 113], argTypes := #[28] }, _, _, _, _⟩) rfl (fun K hK => ?_) (AllReadyH.cons (o := ⟨some 117, Op.buildSlice 22 1 #[(0, Operand.tmp 116)], _, _, _, _⟩) rfl (fun K hK => ?_) AllReadyH.nil)
          · go_simp
            refine (live_root (HLV.out _ hHeld)).mono ?_
            rintro e w9 ⟨v9, rfl, ho9, hk9⟩
            rw [HRT.out] at ho9
            have h9 := Keeps.trans hHeld hk9
            refine hK.out _ _ h9 (fun _ => ?_)
            clear hK K
            try simp only [Act.put, List.setIfInBounds_toArray, List.set_cons_zero, List.set_cons_succ]
            refine wpAnyH_weaken (S' := fun w' => Keeps [] w9 w') (fun w' h => h9.trans h) _ _ _ _ ?_
            have c9 : ∀ W, Keeps [] w9 W → (convert 22 9 v9).run Try.prog W = .ok (.string ⟨[t].toArray⟩) W := fun W hk => str_same (bs := [t]) (Rd.of_own ho9) hk
            have HK9 := Lib.hid h9
            clear hHeld h9 hk9 ho9
            have hHeld := Keeps.refl [] w9
            refine wpAnyH_take (i := 24) (oi := ⟨some 115, Op.convert 22 9 (Operand.tmp 114), _, _, _, _⟩) (v := ?v24) rfl (by kernel_rfl) (by kernel_rfl) (by kernel_rfl) (fun _ _ _ h => h) (Or.inl ⟨by rfl, ?y24⟩) hHeld ?r24
            case y24 => (intro wS hSw; (try dsimp only at hSw); go_simp; try with_reducible rfl)
            simp only [Act.put, List.setIfInBounds_toArray, List.set_cons_zero, List.set_cons_succ]
            clear c9
            refine wpAnyH_ready (rs := [26]) (by kernel_rfl) (by simp) ?_
            refine AllReadyH.cons (o := ⟨some 117, Op.buildSlice 22 1 #[(0, Operand.tmp 116)], _, _, _, _⟩) rfl (fun K hK => ?_) AllReadyH.nil
            go_simp
            refine hK.out _ _ ((Keeps.refl _ _).alloc _) (fun _ => ?_)
            clear hK K
            try simp only [Act.put, List.setIfInBounds_toArray, List.set_cons_zero, List.set_cons_succ]
            refine wpAnyH_weaken (S' := fun w' => Keeps [] (w9.alloc (.cells #[byt t] 5)) w') (fun w' h => Keeps.trans ((Keeps.refl _ _).alloc _) h) _ _ _ _ ?_
            have c10 : ∀ W, Keeps [] (w9.alloc (.cells #[byt t] 5)) W → (convert 22 9 (.slice (some ⟨w9.heap.size, 0, none⟩) 1 1)).run Try.prog W = .ok (.string ⟨[t].toArray⟩) W := fun W hk => str_same (bs := [t]) (Rd.lit w9 5 #[byt t] 1 rfl (by simp [maxLen])) hk
            clear hHeld
            have hHeld := Keeps.refl [] (w9.alloc (.cells #[byt t] 5))
            refine wpAnyH_take (i := 27) (oi := ⟨some 118, Op.convert 22 9 (Operand.tmp 117), _, _, _, _⟩) (v := ?v27) rfl (by kernel_rfl) (by kernel_rfl) (by kernel_rfl) (fun _ _ _ h => h) (Or.inl ⟨by rfl, ?y27⟩) hHeld ?r27
            case y27 => (intro wS hSw; (try dsimp only at hSw); go_simp; try with_reducible rfl)
            simp only [Act.put, List.setIfInBounds_toArray, List.set_cons_zero, List.set_cons_succ]
            refine wpAnyH_take (i := 28) (oi := ⟨some 119, Op.binOp BinOp.eql 9 (Operand.tmp 115) (Operand.tmp 118) 9, _, _, _, _⟩) (v := ?v28) rfl (by kernel_rfl) (by kernel_rfl) (by kernel_rfl) (fun _ _ _ h => h) (Or.inl ⟨by rfl, ?y28⟩) hHeld ?r28
            case y28 => (intro wS hSw; (try dsimp only at hSw); go_simp; try with_reducible rfl)
            simp only [Act.put, List.setIfInBounds_toArray, List.set_cons_zero, List.set_cons_succ]
            refine wpAnyH_take (i := 29) (oi := ⟨some 120, Op.pick (Operand.tmp 112) (Operand.tmp 119) (Operand.const (Value.bool false)), _, _, _, _⟩) (v := ?v29) rfl (by kernel_rfl) (by kernel_rfl) (by kernel_rfl) (fun _ _ _ h => h) (Or.inl ⟨by rfl, ?y29⟩) hHeld ?r29
            case y29 => (intro wS hSw; (try dsimp only at hSw); go_simp; try with_reducible rfl)
            simp only [Act.put, List.setIfInBounds_toArray, List.set_cons_zero, List.set_cons_succ]
            refine wpAnyH_take (i := 30) (oi := ⟨some 4, Op.assign (Operand.tmp 120), _, _, _, _⟩) (v := ?v30) rfl (by kernel_rfl) (by kernel_rfl) (by kernel_rfl) (fun _ _ _ h => h) (Or.inl ⟨by rfl, ?y30⟩) hHeld ?r30
            case y30 => (intro wS hSw; (try dsimp only at hSw); go_simp; try with_reducible rfl)
            simp only [Act.put, List.setIfInBounds_toArray, List.set_cons_zero, List.set_cons_succ]
            refine wpAnyH_done (by kernel_rfl) ?_ _
            clear hHeld c10 hnew
            go_wp2
            go_ret
            exact ⟨rfl, (HK8.out.1.trans HK9.out).alloc _⟩
          · go_simp
            refine hK.out _ _ (hHeld.alloc _) (fun _ => ?_)
            clear hK K
            try simp only [Act.put, List.setIfInBounds_toArray, List.set_cons_zero, List.set_cons_succ]
            have hB : Keeps [] w8 (w8.drew.alloc (.cells #[byt t] 5)) := hHeld.alloc _
            have c10 : ∀ W, Keeps [] (w8.drew.alloc (.cells #[byt t] 5)) W → (convert 22 9 (.slice (some ⟨w8.heap.size, 0, none⟩) 1 1)).run Try.prog W = .ok (.string ⟨[t].toArray⟩) W := fun W hk => str_same (bs := [t]) (Rd.lit w8.drew 5 #[byt t] 1 rfl (by simp [maxLen])) hk
            obtain ⟨wb, hwb⟩ : ∃ wb, wb = w8.drew.alloc (.cells #[byt t] 5) := ⟨_, rfl⟩
            rw [← hwb] at hB c10
            refine wpAnyH_weaken (S' := fun w' => Keeps [] wb w') (fun w' h => hB.trans h) _ _ _ _ ?_
            change wpAnyH _ _ _ _ _ _ _ _ (w8.drew.alloc (.cells #[byt t] 5))
            rw [← hwb]
            clear hHeld hwb
            have hHeld := Keeps.refl [] wb
            refine wpAnyH_take (i := 27) (oi := ⟨some 118, Op.convert 22 9 (Operand.tmp 117), _, _, _, _⟩) (v := ?v27b) rfl (by kernel_rfl) (by kernel_rfl) (by kernel_rfl) (fun _ _ _ h => h) (Or.inl ⟨by rfl, ?y27b⟩) hHeld ?r27b
            case y27b => (intro wS hSw; (try dsimp only at hSw); go_simp; try with_reducible rfl)
            simp only [Act.put, List.setIfInBounds_toArray, List.set_cons_zero, List.set_cons_succ]
            clear c10
            refine wpAnyH_ready (rs := [23]) (by kernel_rfl) (by simp) ?_
            refine AllReadyH.cons (o := ⟨some 114, Op.call { callee := Callee.value (Operand.func 15), args := #[Operand.tmp 113], argTypes := #[28] }, _, _, _, _⟩) rfl (fun K hK => ?_) AllReadyH.nil
            go_simp
            refine (live_root (HLV.out _ hB)).mono ?_
            rintro e w9 ⟨v9, rfl, ho9, hk9⟩
            rw [HRT.out] at ho9
            refine hK.out _ _ hk9 (fun _ => ?_)
            clear hK K
            try simp only [Act.put, List.setIfInBounds_toArray, List.set_cons_zero, List.set_cons_succ]
            refine wpAnyH_weaken (S' := fun w' => Keeps [] w9 w') (fun w' h => hk9.trans h) _ _ _ _ ?_
            have c9 : ∀ W, Keeps [] w9 W → (convert 22 9 v9).run Try.prog W = .ok (.string ⟨[t].toArray⟩) W := fun W hk => str_same (bs := [t]) (Rd.of_own ho9) hk
            have HK9 := Lib.hid (hB.trans hk9)
            clear hHeld hB hk9 ho9
            have hHeld := Keeps.refl [] w9
            refine wpAnyH_take (i := 24) (oi := ⟨some 115, Op.convert 22 9 (Operand.tmp 114), _, _, _, _⟩) (v := ?v24b) rfl (by kernel_rfl) (by kernel_rfl) (by kernel_rfl) (fun _ _ _ h => h) (Or.inl ⟨by rfl, ?y24b⟩) hHeld ?r24b
            case y24b => (intro wS hSw; (try dsimp only at hSw); go_simp; try with_reducible rfl)
            simp only [Act.put, List.setIfInBounds_toArray, List.set_cons_zero, List.set_cons_succ]
            refine wpAnyH_take (i := 28) (oi := ⟨some 119, Op.binOp BinOp.eql 9 (Operand.tmp 115) (Operand.tmp 118) 9, _, _, _, _⟩) (v := ?v28b) rfl (by kernel_rfl) (by kernel_rfl) (by kernel_rfl) (fun _ _ _ h => h) (Or.inl ⟨by rfl, ?y28b⟩) hHeld ?r28b
            case y28b => (intro wS hSw; (try dsimp only at hSw); go_simp; try with_reducible rfl)
            simp only [Act.put, List.setIfInBounds_toArray, List.set_cons_zero, List.set_cons_succ]
            refine wpAnyH_take (i := 29) (oi := ⟨some 120, Op.pick (Operand.tmp 112) (Operand.tmp 119) (Operand.const (Value.bool false)), _, _, _, _⟩) (v := ?v29b) rfl (by kernel_rfl) (by kernel_rfl) (by kernel_rfl) (fun _ _ _ h => h) (Or.inl ⟨by rfl, ?y29b⟩) hHeld ?r29b
            case y29b => (intro wS hSw; (try dsimp only at hSw); go_simp; try with_reducible rfl)
            simp only [Act.put, List.setIfInBounds_toArray, List.set_cons_zero, List.set_cons_succ]
            refine wpAnyH_take (i := 30) (oi := ⟨some 4, Op.assign (Operand.tmp 120), _, _, _, _⟩) (v := ?v30b) rfl (by kernel_rfl) (by kernel_rfl) (by kernel_rfl) (fun _ _ _ h => h) (Or.inl ⟨by rfl, ?y30b⟩) hHeld ?r30b
            case y30b => (intro wS hSw; (try dsimp only at hSw); go_simp; try with_reducible rfl)
            simp only [Act.put, List.setIfInBounds_toArray, List.set_cons_zero, List.set_cons_succ]
            refine wpAnyH_done (by kernel_rfl) ?_ _
            clear hHeld c9 hnew
            go_wp2
            go_ret
            exact ⟨rfl, HK8.out.1.trans HK9.out⟩
end
end Go.Proofs.Ytebllnoeenginaa
