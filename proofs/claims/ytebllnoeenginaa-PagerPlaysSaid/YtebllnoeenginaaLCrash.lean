/- PagerCrashes, walked: the loop over the calls. -/
import Derived.Test.YtebllnoeenginaaLaw3
import Derived.Test.YtebllnoeenginaaLFull
namespace Go.Proofs.Ytebllnoeenginaa
open Go.RowKit

abbrev CallD := Int × Int × List UInt8
/-- The calls that came in, as a list. -/
structure CallsAt (w : World) (A : Option Addr) (cs : List CallD) : Prop where
  at_ : ∀ i (h : i < cs.length), ∃ b o bv, A = some ⟨b, o, none⟩ ∧ w.cell? ⟨b, o + i * 3, none⟩ = some (iv cs[i].1) ∧ w.cell? ⟨b, o + i * 3 + 1, none⟩ = some (iv cs[i].2.1) ∧ w.cell? ⟨b, o + i * 3 + 2, none⟩ = some bv ∧ Rd w bv (cs[i].2.2.map byt)
theorem cell_lt' {w : World} {a : Addr} {v : Value} (h : w.cell? a = some v) : a.block < w.heap.size := by
  rcases Nat.lt_or_ge a.block w.heap.size with hl | hl
  · exact hl
  · exfalso
    have : w.heap[a.block]? = none := Array.getElem?_eq_none hl
    unfold World.cell? at h
    simp [this] at h
theorem CallsAt.keeps {w w' : World} {A : Option Addr} {cs : List CallD} (h : CallsAt w A cs) (hk : Keeps [] w w') : CallsAt w' A cs := by
  refine ⟨fun i hi => ?_⟩
  obtain ⟨b, o, bv, hA, h1, h2, h3, h4⟩ := h.at_ i hi
  refine ⟨b, o, bv, hA, ?_, ?_, ?_, h4.keeps hk (by simp)⟩
  · rw [hk.cell (cell_lt' h1) (by simp)]; exact h1
  · rw [hk.cell (cell_lt' h2) (by simp)]; exact h2
  · rw [hk.cell (cell_lt' h3) (by simp)]; exact h3
/-- Where the loop over the calls stands. -/
def CrashInv (w : World) (p d base k : Nat) (av dv rv : Value) (wr : World) : Prop :=
  ∃ F X D all done rb, Live wr F p d X D ∧ Tells X D all done ∧ Keeps [] w wr ∧ (∀ q, F q → w.heap.size ≤ q) ∧ D.blocks = 160 ∧ 0 ≤ D.left ∧ D.left ≤ 60 ∧ 0 ≤ D.writes ∧ D.writes ≤ 1000 * k ∧ 0 ≤ X.seq ∧ X.seq ≤ k ∧ X.root = rb ∧ rv = pstr rb ∧
    all.length ≤ k ∧ done.length ≤ k ∧ Mine wr F base 51 2 av all.length (pcells all) ∧ Mine wr F base 51 2 dv done.length (pcells done) ∧ (∀ g, av.ownBlock = some g → dv.ownBlock ≠ some g)
/-- Where the loop that opens the disk again and again stands. -/
def AgainInv (w : World) (d base : Nat) (dv : Value) (done : Pages) (rb : List UInt8) (wr : World) : Prop :=
  ∃ F X D, DiskLive wr F d D ∧ X.ok D ∧ Image X D ∧ (∀ k, AL.get done k = X.com D k) ∧ (done.map (·.1)).Nodup ∧ X.root = rb ∧ D.blocks = 160 ∧ Keeps [] w wr ∧ (∀ q, F q → w.heap.size ≤ q) ∧ Mine wr F base 51 2 dv done.length (pcells done)
theorem AgainInv.start {w wr : World} {d base : Nat} {dv : Value} {done : Pages} {rb : List UInt8} (h : AgainInv w d base dv done rb wr) :
    Calls Try.prog 25 #[.pointer (some ⟨d, 0, none⟩)] wr fun e w' => e = .returned (.tuple #[]) ∧ ∃ F X D, D.dead = false ∧ D.left = -1 ∧ (DiskLive w' F d D ∧ X.ok D ∧ Image X D ∧ (∀ k, AL.get done k = X.com D k) ∧ (done.map (·.1)).Nodup ∧ X.root = rb ∧ D.blocks = 160 ∧ Keeps [] w w' ∧ (∀ q, F q → w.heap.size ≤ q) ∧ Mine w' F base 51 2 dv done.length (pcells done)) := by
  obtain ⟨F, X, D, h1, h2, h3, h4, h5, h6, h7, h8, h9, h10⟩ := h
  have hs : SameAt X D { D with dead := false, left := -1 } := SameAt.of_mem h2 rfl rfl
  refine (disk_start h1).mono ?_
  rintro e w' ⟨he, hd, hg⟩
  exact ⟨he, F, X, _, rfl, rfl, hd, h2.same hs, h3.same h2 hs, fun k => by rw [com_same hs]; exact h4 k, h5, h6, h7, (hg.keeps0 h8 h9).1, h9, h10.grows hg⟩
section
variable {w w' : World}
set_option maxRecDepth 100000 in
set_option maxHeartbeats 8000000 in
theorem crashes_any (cA aA : Option Addr) (cc ac : Nat) (cs : List CallD) (zs : List Int) (cut : Int) (w : World) (hc : CallsAt w cA cs) (hcc : cs.length ≤ cc) (hcm : cc ≤ maxLen) (ha : Rd w (.slice aA zs.length ac) (zs.map iv)) :
    Calls Try.prog 6 #[.slice cA cs.length cc, .int .i64 cut, .slice aA zs.length ac] w fun e w' => e = .returned (.bool true) ∧ Keeps [] w w' := by
  obtain ⟨i0, hi, hz0, hz1, hz2⟩ := info_parts Try.infoPage
  have hm1 := Int.emod_nonneg cut (show (60 : Int) ≠ 0 by omega)
  have hm2 := Int.emod_lt_of_pos cut (show (0 : Int) < 60 by omega)
  obtain ⟨n, hn⟩ : ∃ n, n = cut % 60 := ⟨_, rfl⟩
  rw [← hn] at hm1 hm2
  have HN := Lib.hid hn
  have HC := Lib.hid hc
  have HA := Lib.hid ha
  have hcl : cs.length ≤ 9223372036854775807 := by unfold maxLen at hcm; omega
  have hal : zs.length ≤ 9223372036854775807 := by obtain ⟨A, c, hv, h1, h2⟩ := ha.form; rw [List.length_map] at h1; unfold maxLen at h2; omega
  clear hn hc ha hcc hcm
  go_enter Try.func6, Try.ntmps6
  go_wp2_with fail
  refine (known_any _).mono ?_
  rintro e w1 ⟨rfl, hk1⟩
  have HK1 := Lib.hid hk1
  clear hk1
  go_wp2_with fail
  refine (live_new 160 _ (by omega) (by omega)).mono ?_
  rintro e w2 ⟨d, F2, rfl, hd2, hk2, hF2⟩
  have HD2 := Lib.hid hd2
  have HK2 := Lib.hid (HK1.out.trans hk2)
  have HF2 : Hid (∀ k, F2 k → w.heap.size ≤ k) := Lib.hid (fun k hk => Nat.le_trans HK1.out.size (hF2 k hk))
  clear hd2 hk2 hF2
  go_wp2_with fail
  refine (st_new (by omega) (by omega) HD2.out HK2.out HF2.out).mono ?_
  rintro e w3 ⟨p, F3, rfl, hs3⟩
  have HS3 := Lib.hid hs3
  clear hs3
  go_wp2_with fail
  refine (within_any cut 60 (by omega) (by omega)).mono ?_
  rintro e w4 ⟨rfl, rfl⟩
  rw [← HN.out]
  go_wp2_with fail
  refine (live_cut n HS3.out.live (by omega)).mono ?_
  rintro e w4 ⟨rfl, hl4, hg4⟩
  have HL4 := Lib.hid hl4
  have HK4 := Lib.hid (hg4.keeps0 HS3.out.keep HS3.out.base)
  have HT4 := Lib.hid (HS3.out.tells.same (D' := { Disk.zero 160 with left := max n (-1) }) HS3.out.live.ok rfl rfl)
  clear hl4 hg4
  go_wp2_with fail
  obtain ⟨base, hbase⟩ : ∃ b, b = w4.heap.size := ⟨_, rfl⟩
  have HBW : Hid (w.heap.size ≤ base) := Lib.hid (by rw [hbase]; exact HK4.out.1.size)
  have HB4 : Hid (base ≤ w4.heap.size) := Lib.hid (by rw [hbase]; exact Nat.le_refl _)
  clear hbase
  go_loopw [11, 12, 14, 17] (fun av dv rv is wr => ∃ k : Nat, k ≤ 60 ∧ k ≤ cs.length ∧ is = .int .i64 k ∧ Hid (CrashInv w p d base k av dv rv wr) ∧ Hid (base ≤ wr.heap.size)) (fun _ _ _ is _ => 60 - (intOf is).toNat)
  case atStart => exact ⟨0, by omega, by omega, rfl, Lib.hid ⟨F3, _, _, [], [], [], HL4.out, HT4.out, HK4.out.1, HK4.out.2, rfl, by simp; omega, by simp; omega, Int.le_refl _, Int.le_refl _, Int.le_refl _, Int.le_refl _, rfl, rfl, by simp, by simp, ⟨World.ownsRow_nil _ _ _ _, by intro g hg; cases hg⟩, ⟨World.ownsRow_nil _ _ _ _, by intro g hg; cases hg⟩, by intro g hg; cases hg⟩, HB4⟩
  case round =>
    obtain ⟨k, hk60, hkc, rfl, HI, HZ⟩ := hrel
    obtain ⟨F, X, D, all, done, rb, hl, ht, hkeep, hF, hbl, hl0, hl1, hw0, hw1, hq0, hq1, hroot, hrv, hal2, hdl, hma, hmd, hap⟩ := HI.out
    have HL := Lib.hid hl
    have HT := Lib.hid ht
    have HKF : Hid (Keeps [] w wr ∧ ∀ q, F q → w.heap.size ≤ q) := Lib.hid ⟨hkeep, hF⟩
    have HNUM : Hid (D.blocks = 160 ∧ 0 ≤ D.left ∧ D.left ≤ 60 ∧ 0 ≤ D.writes ∧ D.writes ≤ 1000 * k ∧ 0 ≤ X.seq ∧ X.seq ≤ k ∧ X.root = rb ∧ all.length ≤ k ∧ done.length ≤ k) := Lib.hid ⟨hbl, hl0, hl1, hw0, hw1, hq0, hq1, hroot, hal2, hdl⟩
    have HMA := Lib.hid hma
    have HMD := Lib.hid hmd
    have HAP := Lib.hid hap
    subst hrv
    clear hl ht hkeep hF hbl hl0 hl1 hw0 hw1 hq0 hq1 hroot hal2 hdl hma hmd hap HI
    by_cases hgo : k < cs.length ∧ k < 60 ∧ D.dead = false
    · obtain ⟨hlt, hlt60, hdead⟩ := hgo
      obtain ⟨b, o, bv, rfl, c0, c1, c2, hrb⟩ := HC.out.at_ k hlt
      rw [← HKF.out.1.cell (cell_lt' c0) (by simp)] at c0
      rw [← HKF.out.1.cell (cell_lt' c1) (by simp)] at c1
      rw [← HKF.out.1.cell (cell_lt' c2) (by simp)] at c2
      have HRB := Lib.hid hrb
      have HDE := Lib.hid hdead
      obtain ⟨kind, hkind⟩ : ∃ x, x = cs[k].1 := ⟨_, rfl⟩
      obtain ⟨nn, hnn⟩ : ∃ x, x = cs[k].2.1 := ⟨_, rfl⟩
      obtain ⟨bs, hbs⟩ : ∃ x, x = cs[k].2.2 := ⟨_, rfl⟩
      rw [← hkind] at c0
      rw [← hnn] at c1
      rw [← hbs] at HRB hrb
      obtain ⟨bA, bc, rfl, hb1, hb2⟩ := hrb.form
      rw [List.length_map] at c2 hb1 HRB
      unfold maxLen at hb2
      clear hkind hnn hbs hrb hdead
      go_wp2_with fail
      refine (disk_dead HL.out.disk).mono ?_
      rintro e w5 ⟨rfl, rfl⟩
      rw [HDE.out]
      go_wp2_with fail
      have hr1 := Int.emod_nonneg kind (show (5 : Int) ≠ 0 by omega)
      have hr2 := Int.emod_lt_of_pos kind (show (0 : Int) < 5 by omega)
      refine (within_any kind 5 (by omega) (by omega)).mono ?_
      rintro e w5 ⟨rfl, rfl⟩
      obtain ⟨r, hr⟩ : ∃ r : Nat, kind % 5 = (r : Int) := ⟨(kind % 5).toNat, by omega⟩
      rw [hr] at hr1 hr2 ⊢
      have hW0 : Keeps [] wr (wr.alloc (.cells #[.int .i64 kind, .int .i64 nn, .slice bA bs.length bc] 49)) := (Keeps.refl _ _).alloc _
      have hCB0 := Blk.new wr 49 #[.int .i64 kind, .int .i64 nn, .slice bA bs.length bc]
      obtain ⟨cb, hcb⟩ : ∃ cb, cb = wr.heap.size := ⟨_, rfl⟩
      obtain ⟨W, hW⟩ : ∃ W, W = wr.alloc (.cells #[.int .i64 kind, .int .i64 nn, .slice bA bs.length bc] 49) := ⟨_, rfl⟩
      rw [← hW] at hW0 hCB0 ⊢
      rw [← hcb] at hCB0 ⊢
      have HCF : Hid (¬ F cb ∧ w.heap.size ≤ cb ∧ base ≤ cb) := Lib.hid ⟨fun hf => by have := HL.out.lt cb hf; omega, by rw [hcb]; exact HKF.out.1.size, by rw [hcb]; exact HZ.out⟩
      have HCB := Lib.hid hCB0
      have HLW := Lib.hid (HL.out.keeps hW0 (by simp))
      have HKW := Lib.hid (HKF.out.1.trans hW0)
      have HMAW := Lib.hid (HMA.out.keeps hW0 (by simp))
      have HMDW := Lib.hid (HMD.out.keeps hW0 (by simp))
      have HZW : Hid (base ≤ W.heap.size) := Lib.hid (Nat.le_trans HZ.out hW0.size)
      have d1 : W.cell? ⟨cb, 1, none⟩ = some (.int .i64 nn) := HCB.out.cell 1
      have d2 : W.cell? ⟨cb, 2, none⟩ = some (.slice bA bs.length bc) := HCB.out.cell 2
      obtain ⟨oA, oc, rfl⟩ := own_slice HMAW.out.1
      clear hr hW hcb hW0 hCB0 c0 c1 c2
      have hkk : k + 1 ≤ 60 ∧ k + 1 ≤ cs.length := ⟨by omega, by omega⟩
      have h05 : r = 0 ∨ r = 1 ∨ (r = 2 ∨ r = 3) ∨ r = 4 := by omega
      rcases h05 with rfl | rfl | h23 | h4
      · by_cases hb496 : 496 < bs.length
        · go_wp2
          refine ⟨⟨k + 1, hkk.1, hkk.2, by go_num, Lib.hid ⟨F, X, D, all, done, rb, HLW.out, HT.out, HKW.out, HKF.out.2, HNUM.out.1, HNUM.out.2.1, HNUM.out.2.2.1, HNUM.out.2.2.2.1, by have := HNUM.out; omega, HNUM.out.2.2.2.2.2.1, by have := HNUM.out; omega, HNUM.out.2.2.2.2.2.2.2.1, rfl, by have := HNUM.out; omega, by have := HNUM.out; omega, HMAW.out, HMDW.out, HAP.out⟩, HZW⟩, by simp [intOf]; omega⟩
        · have hleft : ¬ X.left D = 0 := by
            have h1 := HT.out.left HLW.out.ok
            have h2 : (all.filter fun p => !AL.has done p.1).length ≤ all.length := List.length_filter_le _ _
            have h3 := HNUM.out
            rw [h1, h3.1, firstOf_mid (by omega) (by omega)]; omega
          have HLEFT := Lib.hid hleft
          clear hleft
          go_wp2_with fail
          refine (live_alloc HLW.out HDE.out (HRB.out.keeps HKW.out (by simp)) (by omega) HLEFT.out).mono ?_
          rintro e w6 ⟨q, X6, F6, rfl, ha6, hl6, hg6⟩
          have HA6 := Lib.hid ha6
          have HL6 := Lib.hid hl6
          have HK6 := Lib.hid (hg6.keeps0 HKW.out HKF.out.2)
          have HMA6 := Lib.hid (HMAW.out.grows hg6)
          have HMD6 := Lib.hid (HMDW.out.grows hg6)
          have HT6 := Lib.hid (HT.out.alloc ha6)
          have HZ6 : Hid (base ≤ w6.heap.size) := Lib.hid (Nat.le_trans HZW.out hg6.size)
          have hcb6 : Blk w6 cb 49 #[.int .i64 kind, .int .i64 nn, .slice bA bs.length bc] := (hg6.block HCB.out.lt HCF.out.1).trans HCB.out
          have e2 : w6.cell? ⟨cb, 2, none⟩ = some (.slice bA bs.length bc) := hcb6.cell 2
          have hst := str_same HRB.out HK6.out.1
          clear ha6 hl6 hg6 hcb6 d1 d2
          have hsz : (all.length + 1) ≤ 1000 := by have := HNUM.out; omega
          go_wp2_with (first | fail | (at_builtin; go_must (refine wpList_append_own_at _ rfl _ _ 47 rfl base 51 i0 (.agg #[.int .i64 0, .string ⟨#[]⟩]) 2 24 Try.underlying47 hi hz0 hz1 hz2 rfl (by omega) _ _ _ (by rfl) (HMA6.out.1.alloc _) ⟨w6.heap.size, 0, none⟩ 1 1 [iv q, pstr bs] (by rfl) rfl (fun j u hu => news_lit w6 #[iv q, pstr bs] 51 j u hu) (by intro u hu; simp at hu; rcases hu with rfl | rfl <;> rfl) (by simp [maxLen]; omega) (by omega) (by have := HZ6.out; simp; omega) ?_); intro v' w7 ho7 hg7 _ hb7))
          have hal6 : Keeps [] w6 (w6.alloc (.cells #[iv q, pstr bs] 51)) := (Keeps.refl _ _).alloc _
          have hma7 : Mine w7 F6 base 51 2 v' (all ++ [(q, bs)]).length (pcells (all ++ [(q, bs)])) := by
            rw [List.length_append, pcells_append]
            exact HMA6.out.appended HL6.out.lt (by simp) ho7 hb7
          have hk7 : Keeps (Value.slice oA all.length oc).ownBlock.toList w6 w7 := (hal6.mono (by simp)).grown hg7 (fun g hg => by
            have hg' : (Value.slice oA all.length oc).ownBlock = some g := hg
            rw [hg']; exact .inl (by simp))
          have hnS : ∀ g, g ∈ (Value.slice oA all.length oc).ownBlock.toList → (Value.slice oA all.length oc).ownBlock = some g := by
            intro g hg
            cases hx : (Value.slice oA all.length oc).ownBlock with
            | none => rw [hx] at hg; simp at hg
            | some x => rw [hx] at hg; simp at hg; rw [hg]
          have hl7 := HL6.out.keeps hk7 (fun g hg => HMA6.out.2 g (hnS g hg))
          have hmd7 := HMD6.out.keeps hk7 (fun g hg hm => HAP.out g (hnS g hm) hg)
          have hkk7 : Keeps [] w w7 := HK6.out.1.then hk7 (fun g hg => .inr (Nat.le_trans HBW.out (own_base HMA6.out.1 g (hnS g hg))))
          refine ⟨⟨k + 1, hkk.1, hkk.2, by go_num, Lib.hid ⟨F6, X6, D, all ++ [(q, bs)], done, rb, hl7, HT6.out, hkk7, HK6.out.2, HNUM.out.1, HNUM.out.2.1, HNUM.out.2.2.1, HNUM.out.2.2.2.1, by have := HNUM.out; omega, by rw [HA6.out.seq]; exact HNUM.out.2.2.2.2.2.1, by rw [HA6.out.seq]; have := HNUM.out; omega, by rw [HA6.out.root]; exact HNUM.out.2.2.2.2.2.2.2.1, rfl, by have := HNUM.out; simp; omega, by have := HNUM.out; omega, hma7, hmd7, ?_⟩, Lib.hid (Nat.le_trans HZ6.out hk7.size)⟩, by simp [intOf]; omega⟩
          intro g hg hd2
          rcases hb7 with hb | hb
          · exact HAP.out g (by rw [← hb]; exact hg) hd2
          · rw [hb] at hg
            have h1 := own_lt HMD6.out.1 g hd2
            simp at hg
            omega
      · by_cases hz : all.length = 0
        · have hzb : ((all.length : Int) : Int) ≤ 0 := by omega
          have hz0' : 0 ≤ (all.length : Int) := by omega
          clear hz
          go_wp2
          refine ⟨⟨k + 1, hkk.1, hkk.2, by go_num, Lib.hid ⟨F, X, D, all, done, rb, HLW.out, HT.out, HKW.out, HKF.out.2, HNUM.out.1, HNUM.out.2.1, HNUM.out.2.2.1, HNUM.out.2.2.2.1, by have := HNUM.out; omega, HNUM.out.2.2.2.2.2.1, by have := HNUM.out; omega, HNUM.out.2.2.2.2.2.2.2.1, rfl, by have := HNUM.out; omega, by have := HNUM.out; omega, HMAW.out, HMDW.out, HAP.out⟩, HZW⟩, by simp [intOf]; omega⟩
        · have hpos : 0 < (all.length : Int) := by omega
          have hln : (all.length : Int) ≤ 60 := by have := HNUM.out; omega
          obtain ⟨g, cap, hv⟩ := own_form HMAW.out.1 (by omega)
          cases hv
          have hj1 := Int.emod_nonneg nn (show (all.length : Int) ≠ 0 by omega)
          have hj2 := Int.emod_lt_of_pos nn hpos
          obtain ⟨j, hj⟩ : ∃ j : Nat, nn % (all.length : Int) = (j : Int) := ⟨(nn % (all.length : Int)).toNat, by omega⟩
          rw [hj] at hj1 hj2
          have HJ := Lib.hid hj
          have hjl : j < all.length := by omega
          have hcj := HMAW.out.1.cellAt (j * 2) (by omega)
          rw [(pcells_get all j hjl).1] at hcj
          have hget : AL.has all all[j].1 = true := (AL.has_iff _ _).2 (List.mem_map_of_mem (f := (·.1)) (List.getElem_mem hjl))
          obtain ⟨q, hq⟩ : ∃ q, q = all[j].1 := ⟨_, rfl⟩
          rw [← hq] at hcj hget
          have HGET := Lib.hid hget
          clear hj hq hget hz
          go_wp2_with fail
          refine (within_any nn all.length hpos (by omega)).mono ?_
          rintro e w6 ⟨rfl, rfl⟩
          rw [HJ.out]
          go_wp2_with fail
          obtain ⟨f1, f2, f3, f4, f5, f6, f7, f8⟩ := free_at HLW.out.ok HDE.out q
          have hfr : (X.free D q).1 = 0 := by rw [HT.out.free_ok HLW.out.ok HDE.out, HGET.out]; rfl
          refine (live_free q HLW.out HDE.out).mono ?_
          rintro e w6 ⟨rfl, hl6, hg6⟩
          rw [hfr]
          have HL6 := Lib.hid hl6
          have HK6 := Lib.hid (hg6.keeps0 HKW.out HKF.out.2)
          have HMA6 := Lib.hid (HMAW.out.grows hg6)
          have HMD6 := Lib.hid (HMDW.out.grows hg6)
          have HT6 := Lib.hid (HT.out.free HLW.out.ok HDE.out q)
          have HZ6 : Hid (base ≤ w6.heap.size) := Lib.hid (Nat.le_trans HZW.out hg6.size)
          have HSQ : Hid ((X.free D q).2.seq = X.seq ∧ (X.free D q).2.root = X.root) := Lib.hid ⟨f4, f5⟩
          obtain ⟨X6, hX6⟩ : ∃ X6, X6 = (X.free D q).2 := ⟨_, rfl⟩
          rw [← hX6] at HL6 HT6 HSQ
          clear f1 f2 f3 f4 f5 f6 f7 f8 hfr hl6 hg6 hX6 d1 d2
          go_wp2_with fail
          refine (without_any _ all q w6 base HMA6.out.1 (by omega)).mono ?_
          rintro e w7 ⟨v7, rfl, ho7, hk7⟩
          have hma7 : Mine w7 F base 51 2 v7 (AL.del all q).length (pcells (AL.del all q)) := ⟨ownsRow_mono ho7 HZ6.out, fun g hg hf => by have h1 := own_base ho7 g hg; have h2 := HL6.out.lt g hf; omega⟩
          have HMA7 := Lib.hid hma7
          have HMD7 := Lib.hid (HMD6.out.keeps hk7 (by simp))
          have HL7 := Lib.hid (HL6.out.keeps hk7 (by simp))
          have HK7 := Lib.hid (HK6.out.1.trans hk7)
          have HZ7 : Hid (base ≤ w7.heap.size) := Lib.hid (Nat.le_trans HZ6.out hk7.size)
          have HAP7 : Hid (∀ g, v7.ownBlock = some g → u12.ownBlock ≠ some g) := Lib.hid (fun g hg hd2 => by have h1 := own_base ho7 g hg; have h2 := own_lt HMD6.out.1 g hd2; omega)
          have hdl7 : (AL.del all q).length ≤ all.length := by unfold AL.del; exact List.length_filter_le _ _
          clear hma7 ho7 hk7
          go_wp2
          refine ⟨⟨k + 1, hkk.1, hkk.2, by go_num, Lib.hid ⟨F, X6, D, AL.del all q, done, rb, HL7.out, HT6.out, HK7.out, HK6.out.2, HNUM.out.1, HNUM.out.2.1, HNUM.out.2.2.1, HNUM.out.2.2.2.1, by have := HNUM.out; omega, by rw [HSQ.out.1]; exact HNUM.out.2.2.2.2.2.1, by rw [HSQ.out.1]; have := HNUM.out; omega, by rw [HSQ.out.2]; exact HNUM.out.2.2.2.2.2.2.2.1, rfl, by have := HNUM.out; omega, by have := HNUM.out; omega, HMA7.out, HMD7.out, HAP7.out⟩, HZ7⟩, by simp [intOf]; omega⟩
      · have HKM := Lib.hid hkk
        clear hkk
        rcases h23 with rfl | rfl
        all_goals
          by_cases hb64 : 64 < bs.length
          · go_wp2
            refine ⟨⟨k + 1, HKM.out.1, HKM.out.2, by go_num, Lib.hid ⟨F, X, D, all, done, rb, HLW.out, HT.out, HKW.out, HKF.out.2, HNUM.out.1, HNUM.out.2.1, HNUM.out.2.2.1, HNUM.out.2.2.2.1, by have := HNUM.out; omega, HNUM.out.2.2.2.2.2.1, by have := HNUM.out; omega, HNUM.out.2.2.2.2.2.2.2.1, rfl, by have := HNUM.out; omega, by have := HNUM.out; omega, HMAW.out, HMDW.out, HAP.out⟩, HZW⟩, by simp [intOf]; omega⟩
          · have hsz : all.length ≤ 60 := by have := HNUM.out; omega
            have hown : ((W.alloc (.cells #[] 51)).drew).ownsRow base 51 2 (.slice (some ⟨W.heap.size, 0, none⟩) 0 0) 0 [] := World.ownsRow_lit W #[] 0 HZW.out (by simp [maxLen]) rfl
            have hsrc : ((W.alloc (.cells #[] 51)).drew).ownsRow base 51 2 (.slice oA all.length oc) all.length (pcells all) := HMAW.out.1.alloc _
            obtain ⟨v6, w6, hz, ho6, hg6, hb6⟩ := run_append_rows (P := Try.prog) ((W.alloc (.cells #[] 51)).drew) base base 47 47 51 i0 (.agg #[.int .i64 0, .string ⟨#[]⟩]) 2 24 Try.underlying47 hi hz0 hz1 hz2 rfl (by omega) hown hsrc oneCell_pages (by simp [maxLen]; omega) (by omega) (by have := HZW.out; show base ≤ (W.alloc (.cells #[] 51)).heap.size; simp; omega)
            have hkw6 : Keeps [] W w6 := ((Keeps.refl [] W).alloc (.cells #[] 51)).drew.grown hg6 (fun g hg => by cases hg; exact .inr (Nat.le_refl _))
            have HKW6 := Lib.hid hkw6
            rw [Nat.zero_add, List.nil_append] at ho6
            have HO6 := Lib.hid ho6
            have HV6 : Hid (∀ g, v6.ownBlock = some g → W.heap.size ≤ g) := Lib.hid (fun g hg => by
              rcases hb6 with hb | hb
              · rw [hb] at hg; cases hg; exact Nat.le_refl _
              · rw [hb] at hg; cases hg; show W.heap.size ≤ (W.alloc (.cells #[] 51)).heap.size; simp)
            have HRBW := Lib.hid (HRB.out.keeps HKW.out (by simp))
            have HD2C := Lib.hid d2
            have e2 : w6.cell? ⟨cb, 2, none⟩ = some (.slice bA bs.length bc) := (hkw6.cell HCB.out.lt (by simp)).trans d2
            clear hown hsrc hg6 hb6 ho6 hkw6
            go_wp2_with fail
            go_region_held3 (fun w' => w'.cell? ⟨cb, 2, none⟩ = some (.slice bA bs.length bc) ∧ (convert 22 9 (.slice bA bs.length bc)).run Try.prog w' = .ok (.string ⟨bs.toArray⟩) w')
              (first | (refine ⟨(Keeps.cell (S := []) (w := W) ?_ HCB.out.lt (by simp)).trans HD2C.out, str_same HRBW.out ?_⟩ <;> (repeat (first | exact Keeps.refl _ _ | exact HKW6.out | refine Keeps.drew ?_ | refine Keeps.alloc ?_ _))))
              (first | (refine step_append (by rfl) _ _ _ _ (by rfl) (by rfl) (by rfl) hz ?_))
            have hl6 := HLW.out.keeps HKW6.out (by simp)
            have hma6 := HMAW.out.keeps HKW6.out (by simp)
            have hmd6 := HMDW.out.keeps HKW6.out (by simp)
            have hmv6 : Mine w6 F base 51 2 v6 all.length (pcells all) := ⟨HO6.out, fun g hg hf => by have h1 := HV6.out g hg; have h2 := HLW.out.lt g hf; omega⟩
            have HL6 := Lib.hid hl6
            have HMA6 := Lib.hid hma6
            have HMD6 := Lib.hid hmd6
            have HMV6 := Lib.hid hmv6
            have HK6 := Lib.hid (HKW.out.trans HKW6.out)
            have HRB6 := Lib.hid (HRB.out.keeps HK6.out (by simp))
            have HAP6 : Hid (∀ g, (Value.slice oA all.length oc).ownBlock = some g → v6.ownBlock ≠ some g) := Lib.hid (fun g hg hv => by have h1 := HV6.out g hv; have h2 := own_lt HMAW.out.1 g hg; omega)
            have HMPS := Lib.hid (maps_pos HLW.out.ok)
            have HFRL := Lib.hid (HT.out.fresh_le HLW.out.ok)
            have HZ6 : Hid (base ≤ w6.heap.size) := Lib.hid (Nat.le_trans HZW.out HKW6.out.size)
            clear hl6 hma6 hmd6 hmv6 hz
            by_cases hpow : (X.fresh.length : Int) + mapsOf D.blocks + 1 ≤ D.left
            · have HPOW := Lib.hid hpow
              clear hpow
              go_wp2_with fail
              refine (live_commit (root := bs) HL6.out HDE.out HRB6.out (by omega) (by have := HNUM.out; omega) HNUM.out.2.2.2.1 (by have := HNUM.out; have := HFRL.out; omega) (.inr HPOW.out)).mono ?_
              rintro e w7 ⟨rfl, F7, X7, D7, hl7, hg7, hc7⟩
              have HL7 := Lib.hid hl7
              have HK7 := Lib.hid (hg7.keeps0 HK6.out HKF.out.2)
              have HMA7 := Lib.hid (HMA6.out.grows hg7)
              have HMV7 := Lib.hid (HMV6.out.grows hg7)
              have HT7 := Lib.hid (HT.out.commit hc7)
              have HC7 := Lib.hid hc7
              have HZ7 : Hid (base ≤ w7.heap.size) := Lib.hid (Nat.le_trans HZ6.out hg7.size)
              clear hl7 hg7 hc7 e2 d1 d2
              go_wp2
              have hnum := HNUM.out
              have hmps := HMPS.out
              have hfrl := HFRL.out
              have hpow := HPOW.out
              refine ⟨⟨k + 1, HKM.out.1, HKM.out.2, by go_num, Lib.hid ⟨F7, X7, D7, all, all, bs, HL7.out, HT7.out, HK7.out.1, HK7.out.2, by rw [HC7.out.blocks]; exact hnum.1, by rw [HC7.out.left]; split <;> omega, by rw [HC7.out.left]; split <;> omega, by rw [HC7.out.writes]; omega, by rw [HC7.out.writes]; omega, by rw [HC7.out.seq]; omega, by rw [HC7.out.seq]; omega, HC7.out.root, rfl, by omega, by omega, HMA7.out, HMV7.out, HAP6.out⟩, HZ7⟩, by simp [intOf]; omega⟩
            · have HPOW := Lib.hid hpow
              clear hpow
              go_wp2_with fail
              refine (live_commit_cut (root := bs) HL6.out HDE.out HRB6.out (by omega) HNUM.out.2.2.2.1 (by have := HNUM.out; have := HFRL.out; omega) HNUM.out.2.1 (by have := HPOW.out; omega)).mono ?_
              rintro e w7 ⟨rfl, F7, D7, hl7, hg7, hc7⟩
              have HL7 := Lib.hid hl7
              have HK7 := Lib.hid (hg7.keeps0 HK6.out HKF.out.2)
              have HMA7 := Lib.hid (HMA6.out.grows hg7)
              have HMD7 := Lib.hid (HMD6.out.grows hg7)
              have HT7 := Lib.hid (HT.out.cut hc7)
              have HC7 := Lib.hid hc7
              have HZ7 : Hid (base ≤ w7.heap.size) := Lib.hid (Nat.le_trans HZ6.out hg7.size)
              clear hl7 hg7 hc7 e2 d1 d2
              go_wp2
              have hnum := HNUM.out
              refine ⟨⟨k + 1, HKM.out.1, HKM.out.2, by go_num, Lib.hid ⟨F7, X, D7, all, done, rb, HL7.out, HT7.out, HK7.out.1, HK7.out.2, by rw [HC7.out.blocks]; exact hnum.1, by rw [HC7.out.left]; omega, by rw [HC7.out.left]; omega, HC7.out.writes.1, by have := HC7.out.writes.2; omega, by omega, by omega, hnum.2.2.2.2.2.2.2.1, rfl, by omega, by omega, HMA7.out, HMD7.out, HAP.out⟩, HZ7⟩, by simp [intOf]; omega⟩
      · have HKM := Lib.hid hkk
        have hsz : done.length ≤ 60 := by have := HNUM.out; omega
        subst h4
        clear hkk
        go_wp2_with fail
        refine (live_abort HLW.out).mono ?_
        rintro e w6 ⟨rfl, F6, hl6, hg6⟩
        have HL6 := Lib.hid hl6
        have HK6 := Lib.hid (hg6.keeps0 HKW.out HKF.out.2)
        have HMD6 := Lib.hid (HMDW.out.grows hg6)
        have HT6 := Lib.hid (HT.out.abort HLW.out.ok)
        have HZ6 : Hid (base ≤ w6.heap.size) := Lib.hid (Nat.le_trans HZW.out hg6.size)
        have hown : (w6.alloc (.cells #[] 51)).ownsRow base 51 2 (.slice (some ⟨w6.heap.size, 0, none⟩) 0 0) 0 [] := World.ownsRow_lit w6 #[] 0 HZ6.out (by simp [maxLen]) rfl
        obtain ⟨v7, w7, hz, ho7, hg7, hb7⟩ := run_append_rows (P := Try.prog) (w6.alloc (.cells #[] 51)) base base 47 47 51 i0 (.agg #[.int .i64 0, .string ⟨#[]⟩]) 2 24 Try.underlying47 hi hz0 hz1 hz2 rfl (by omega) hown (HMD6.out.1.alloc _) oneCell_pages (by simp [maxLen]; omega) (by omega) (by have := HZ6.out; simp; omega)
        have hkw7 : Keeps [] w6 w7 := ((Keeps.refl [] w6).alloc (.cells #[] 51)).grown hg7 (fun g hg => by cases hg; exact .inr (Nat.le_refl _))
        rw [Nat.zero_add, List.nil_append] at ho7
        have hv7 : ∀ g, v7.ownBlock = some g → w6.heap.size ≤ g := fun g hg => by
          rcases hb7 with hb | hb
          · rw [hb] at hg; cases hg; exact Nat.le_refl _
          · rw [hb] at hg; cases hg; simp
        have HL7 := Lib.hid (HL6.out.keeps hkw7 (by simp))
        have HMD7 := Lib.hid (HMD6.out.keeps hkw7 (by simp))
        have HMV7 : Hid (Mine w7 F6 base 51 2 v7 done.length (pcells done)) := Lib.hid ⟨ho7, fun g hg hf => by have h1 := hv7 g hg; have h2 := HL6.out.lt g hf; omega⟩
        have HK7 := Lib.hid (HK6.out.1.trans hkw7)
        have HZ7 : Hid (base ≤ w7.heap.size) := Lib.hid (Nat.le_trans HZ6.out hkw7.size)
        have HAP7 : Hid (∀ g, v7.ownBlock = some g → u12.ownBlock ≠ some g) := Lib.hid (fun g hg hd2 => by have h1 := hv7 g hg; have h2 := own_lt HMD6.out.1 g hd2; omega)
        clear hl6 hg6 hown ho7 hg7 hb7 hkw7 hv7 d1 d2
        go_wp2_with fail
        refine (disk_dead HL6.out.disk).mono ?_
        rintro e w8 ⟨rfl, rfl⟩
        rw [HDE.out]
        go_wp2_with (first | fail | (at_builtin; go_must (refine wpList_append rfl _ _ _ _ rfl (by rfl) (by rfl) hz ?_)))
        have hnum := HNUM.out
        refine ⟨⟨k + 1, HKM.out.1, HKM.out.2, by go_num, Lib.hid ⟨F6, _, D, done, done, rb, HL7.out, HT6.out, HK7.out, HK6.out.2, hnum.1, by omega, by omega, by omega, by omega, hnum.2.2.2.2.2.1, by have h1 : (X.abort D).seq = X.seq := rfl; omega, hnum.2.2.2.2.2.2.2.1, rfl, by omega, by omega, HMV7.out, HMD7.out, HAP7.out⟩, HZ7⟩, by simp [intOf]; omega⟩
    · have hexit : ¬ k < cs.length ∨ (k < cs.length ∧ ¬ k < 60) ∨ (k < cs.length ∧ k < 60 ∧ D.dead = true) := by
        by_cases h1 : k < cs.length
        · by_cases h2 : k < 60
          · refine .inr (.inr ⟨h1, h2, ?_⟩)
            cases hd : D.dead with
            | true => rfl
            | false => exact absurd ⟨h1, h2, hd⟩ hgo
          · exact .inr (.inl ⟨h1, h2⟩)
        · exact .inl h1
      have HAI : Hid (AgainInv w d base u12 done rb wr) := Lib.hid ⟨F, X, D, HL.out.disk, HL.out.ok, HL.out.img, HT.out.com, HT.out.dn, HNUM.out.2.2.2.2.2.2.2.1, HNUM.out.1, HKF.out.1, HKF.out.2, HMD.out⟩
      have hdl : done.length ≤ 60 := by have := HNUM.out; omega
      clear hgo
      rcases hexit with hx | ⟨hx1, hx2⟩ | ⟨hx1, hx2, hx3⟩
      case' inl => go_wp2_with fail
      case' inr.inl => go_wp2_with fail
      case' inr.inr =>
        have HX3 := Lib.hid hx3
        clear hx3
        go_wp2_with fail
        refine (disk_dead HL.out.disk).mono ?_
        rintro e w5 ⟨rfl, rfl⟩
        rw [HX3.out]
        go_wp2_with fail
      all_goals
        go_loopw [22] (fun is wq => ∃ j : Nat, j ≤ 4 ∧ j ≤ zs.length ∧ is = .int .i64 j ∧ Hid (AgainInv w d base u12 done rb wq)) (fun is _ => 4 - (intOf is).toNat)
        case atStart => exact ⟨0, by omega, by omega, rfl, HAI⟩
        case round =>
          obtain ⟨j, hj4, hjz, rfl, HJ⟩ := hrel
          by_cases hgo : j < zs.length ∧ j < 4
          · obtain ⟨hjl, hj4'⟩ := hgo
            obtain ⟨ad, rfl, hca⟩ := HA.out.at_ (k := j) (by rw [List.length_map]; exact hjl)
            rw [List.getElem_map] at hca
            have hKw := (by obtain ⟨F, X, D, -, -, -, -, -, -, -, h8, -⟩ := HJ.out; exact h8 : Keeps [] w wr)
            have HCA := Lib.hid hca
            have HKW2 := Lib.hid hKw
            obtain ⟨zj, hzj⟩ : ∃ z, z = zs[j] := ⟨_, rfl⟩
            rw [← hzj] at HCA hca
            clear hzj hKw hca
            go_wp2_with fail
            refine HJ.out.start.mono ?_
            rintro e w5 ⟨rfl, F5, X5, D5, hd5, hl5, hdl5, hx5, hi5, hc5, hn5, hr5, hb5, hk5, hF5, hm5⟩
            have hca : w5.cell? (ad.add j) = some (iv zj) := by rw [hk5.cell (cell_lt' HCA.out) (by simp)]; exact HCA.out
            have HDL5 := Lib.hid hdl5
            have HST5 : Hid (X5.ok D5 ∧ Image X5 D5 ∧ (∀ k, AL.get done k = X5.com D5 k) ∧ (done.map (·.1)).Nodup ∧ X5.root = rb ∧ D5.blocks = 160 ∧ Keeps [] w w5 ∧ (∀ q, F5 q → w.heap.size ≤ q) ∧ D5.dead = false) := Lib.hid ⟨hx5, hi5, hc5, hn5, hr5, hb5, hk5, hF5, hd5⟩
            have HM5 := Lib.hid hm5
            clear hd5 hl5 hdl5 hx5 hi5 hc5 hn5 hr5 hb5 hk5 hF5 hm5
            go_wp2_with fail
            refine (within_any zj 8 (by omega) (by omega)).mono ?_
            rintro e w6 ⟨rfl, rfl⟩
            have hz2 := Int.emod_lt_of_pos zj (show (0 : Int) < 8 by omega)
            go_wp2_with fail
            refine (disk_cut (zj % 8) HDL5.out (by omega)).mono ?_
            rintro e w6 ⟨rfl, hdl6, hg6⟩
            have hs6 : SameAt X5 D5 { D5 with left := max (zj % 8) (-1) } := SameAt.of_mem HST5.out.1 rfl rfl
            have HDL6 := Lib.hid hdl6
            have HS6 := Lib.hid hs6
            have HX6 := Lib.hid (HST5.out.1.same hs6)
            have HI6 := Lib.hid (HST5.out.2.1.same HST5.out.1 hs6)
            have HK6 := Lib.hid (hg6.keeps0 HST5.out.2.2.2.2.2.2.1 HST5.out.2.2.2.2.2.2.2.1)
            have HM6 := Lib.hid (HM5.out.grows hg6)
            clear hdl6 hs6 hg6 hca hz2
            go_wp2_with fail
            refine (live_open HDL6.out HX6.out HI6.out HST5.out.2.2.2.2.2.2.2.2).mono ?_
            rintro e w7 ⟨q7, F7, rfl, hl7, hg7, -⟩
            have HL7 := Lib.hid hl7
            have HK7 := Lib.hid (hg7.keeps0 HK6.out.1 HK6.out.2)
            have HM7 := Lib.hid (HM6.out.grows hg7)
            clear hl7 hg7
            go_wp2
            refine ⟨⟨j + 1, by omega, by omega, by go_num, Lib.hid ⟨F7, _, _, HL7.out.disk, HL7.out.ok, HL7.out.img, fun k => ?_, HST5.out.2.2.2.1, HST5.out.2.2.2.2.1, HST5.out.2.2.2.2.2.1, HK7.out.1, HK7.out.2, HM7.out⟩⟩, by simp [intOf]; omega⟩
            exact (HST5.out.2.2.1 k).trans ((com_same HS6.out k).symm.trans (com_of (X := X5) (X' := X5.abort _) rfl k).symm)
          · have hexit2 : ¬ j < zs.length ∨ (j < zs.length ∧ ¬ j < 4) := by omega
            clear hgo
            rcases hexit2 with hy | ⟨hy1, hy2⟩
            case' inl => go_wp2_with fail
            case' inr => go_wp2_with fail
            all_goals
              refine HJ.out.start.mono ?_
              rintro e w5 ⟨rfl, F5, X5, D5, hd5, hl5, hdl5, hx5, hi5, hc5, hn5, hr5, hb5, hk5, hF5, hm5⟩
              have HDL5 := Lib.hid hdl5
              have HST5 : Hid (X5.ok D5 ∧ Image X5 D5 ∧ (∀ k, AL.get done k = X5.com D5 k) ∧ (done.map (·.1)).Nodup ∧ X5.root = rb ∧ D5.dead = false ∧ Keeps [] w w5 ∧ (∀ q, F5 q → w.heap.size ≤ q) ∧ D5.left = -1) := Lib.hid ⟨hx5, hi5, hc5, hn5, hr5, hd5, hk5, hF5, hl5⟩
              have HM5 := Lib.hid hm5
              clear hd5 hl5 hdl5 hx5 hi5 hc5 hn5 hr5 hb5 hk5 hF5 hm5
              go_wp2_with fail
              refine (live_open HDL5.out HST5.out.1 HST5.out.2.1 HST5.out.2.2.2.2.2.1).mono ?_
              rintro e w6 ⟨q6, F6, rfl, hl6, hg6, -⟩
              have HL6 := Lib.hid hl6
              have HK6 := Lib.hid (hg6.keeps0 HST5.out.2.2.2.2.2.2.1 HST5.out.2.2.2.2.2.2.2.1)
              have HM6 := Lib.hid (HM5.out.grows hg6)
              have HSF : Hid (St w w6 F6 q6 d (X5.abort D5) D5 done done) := Lib.hid ⟨hl6, ⟨HST5.out.2.2.2.1, HST5.out.2.2.2.1, fun k => by rw [abort_at HST5.out.1]; exact HST5.out.2.2.1 k, fun k => by rw [com_of rfl]; exact HST5.out.2.2.1 k⟩, HST5.out.2.2.2.2.2.1, HST5.out.2.2.2.2.2.2.2.2, HK6.out.1, HK6.out.2⟩
              clear hl6 hg6
              go_wp2_with fail
              refine (holds_any _ done rb base HSF.out HM6.out HST5.out.2.2.2.2.1 (fun q hq => AL.get_of_mem HST5.out.2.2.2.1 hq) (by omega)).mono ?_
              rintro e w7 ⟨rfl, hs7, hg7⟩
              have HS7 := Lib.hid hs7
              clear hs7 hg7
              go_wp2
              go_ret
              exact ⟨rfl, HS7.out.keep⟩
end
end Go.Proofs.Ytebllnoeenginaa
