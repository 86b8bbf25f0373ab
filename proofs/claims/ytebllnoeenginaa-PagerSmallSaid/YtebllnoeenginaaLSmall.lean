/- PagerSmall, walked: for every number of blocks it answers true. -/
import Derived.Test.YtebllnoeenginaaLaw1
namespace Go.Proofs.Ytebllnoeenginaa
open Go.RowKit

section
variable {w w' : World}
set_option maxRecDepth 100000 in
set_option maxHeartbeats 2000000 in
theorem small_any (b : Int) (w : World) : Calls Try.prog 4 #[.int .i64 b] w fun e w' => e = .returned (.bool true) ∧ Keeps [] w w' := by
  have hm1 := Int.emod_nonneg b (show (140 : Int) ≠ 0 by omega)
  have hm2 := Int.emod_lt_of_pos b (show (0 : Int) < 140 by omega)
  obtain ⟨n, hn⟩ : ∃ n, n = b % 140 := ⟨_, rfl⟩
  rw [← hn] at hm1 hm2
  have HN := Lib.hid hn
  clear hn
  go_enter Try.func4, Try.ntmps4
  go_wp2_with fail
  refine (known_any _).mono ?_
  rintro e w1 ⟨rfl, hk1⟩
  have HK1 := Lib.hid hk1
  clear hk1
  go_wp2_with fail
  refine (within_any b 140 (by omega) (by omega)).mono ?_
  rintro e w2 ⟨rfl, rfl⟩
  rw [← HN.out]
  go_wp2_with fail
  refine (live_new (1 + n) _ (by omega) (by omega)).mono ?_
  rintro e w2 ⟨d, F2, rfl, hd2, hk2, hF2⟩
  have HD2 := Lib.hid hd2
  have HK2 := Lib.hid hk2
  have HF2 := Lib.hid hF2
  clear hd2 hk2 hF2
  go_wp2_with fail
  by_cases hlt : 1 + n < 64
  · refine (live_open_small HD2.out hlt).mono ?_
    rintro e w3 ⟨rfl, rfl⟩
    go_wp2_with fail
    go_ret
    exact ⟨by simp, HK1.out.trans HK2.out⟩
  · refine (live_open HD2.out (zero_ok (1 + n) (by omega) (by omega)) (zero_image (1 + n)) rfl).mono ?_
    rintro e w3 ⟨p, F3, rfl, hl3, hg3, hk3⟩
    have HL3 := Lib.hid hl3
    have HG3 := Lib.hid hg3
    clear hl3 hg3 hk3
    go_wp2_with fail
    refine (live_seq HL3.out).mono ?_
    rintro e w4 ⟨rfl, rfl⟩
    rw [show ((Pager.zero (1 + n)).abort (Disk.zero (1 + n))).seq = 0 from rfl]
    go_wp2_with fail
    refine (live_root HL3.out).mono ?_
    rintro e w4 ⟨v4, rfl, ho4, hk4⟩
    obtain ⟨A4, c4, rfl, -⟩ := (Rd.of_own ho4).form
    rw [show (List.map byt ((Pager.zero (1 + n)).abort (Disk.zero (1 + n))).root).length = 0 from rfl]
    have HK4 := Lib.hid hk4
    clear ho4 hk4
    go_wp2_with fail
    have hlf : ((Pager.zero (1 + n)).abort (Disk.zero (1 + n))).left (Disk.zero (1 + n)) = 1 + n - 4 := by
      show 1 + n - firstOf (1 + n) - 0 - 0 = _
      unfold firstOf mapsOf; omega
    refine (live_left (HL3.out.keeps HK4.out (by simp))).mono ?_
    rintro e w5 ⟨rfl, hk5⟩
    rw [hlf]
    have HK5 := Lib.hid hk5
    clear hlf hk5
    go_wp2_with fail
    refine (live_cut 0 ((HL3.out.keeps HK4.out (by simp)).keeps HK5.out (by simp)) (by omega)).mono ?_
    rintro e w6 ⟨rfl, hl6, hg6⟩
    have HL6 := Lib.hid hl6
    have HG6 := Lib.hid hg6
    clear hl6 hg6
    obtain ⟨i0, hi, hz0, hz1, hz2⟩ := info_parts Try.infoU8
    obtain ⟨wm, hmk, hown, hgr⟩ := run_makeSlice_full (P := Try.prog) (w := w6) w6.heap.size 22 5 i0 (.int .u8 0) 1 Try.underlying22 hi hz0 hz1 .i64 .i64 512 (by omega) (by rw [hz2]; omega) (by simp [maxLen]) (Nat.le_refl _)
    have hmk' : (Instr.makeSlice 22 (.int .i64 512) (.int .i64 512)).run Try.prog w6 = .ok (.slice (some ⟨w6.heap.size, 0, none⟩) 512 512) wm := hmk
    have em : (madeCells (Value.int .u8 0).cells (512 * 1)).toList = noughts.map byt := by
      rw [show (Value.int .u8 0).cells = #[Value.int .u8 0] from rfl, toList_madeCells_one, noughts, List.map_replicate]; rfl
    rw [em] at hown
    have HOM := Lib.hid hown
    have HKM : Hid (Keeps [] w6 wm) := Lib.hid (Keeps.of_grown hgr (by simp))
    clear hmk hown hgr em hi hz0 hz1 hz2
    go_wp2_with fail
    refine (live_write_cut (bs := noughts) 0 (HL6.out.keeps HKM.out (by simp)) rfl (Rd.of_own HOM.out) (by omega) (by show 0 < 1 + n; omega) noughts_length rfl).mono ?_
    rintro e w7 ⟨rfl, hl7, hg7⟩
    have HL7 := Lib.hid hl7
    have HG7 := Lib.hid hg7
    clear hl7 hg7 hmk'
    go_wp2_with fail
    refine (live_open_dead HL7.out.disk HL7.out.ok.full HL7.out.ok.blo rfl).mono ?_
    rintro e w8 ⟨rfl, hk8⟩
    have HK8 := Lib.hid hk8
    clear hk8
    go_wp2_with fail
    refine (live_commit_dead (HL7.out.keeps HK8.out (by simp)) rfl).mono ?_
    rintro e w9 ⟨rfl, rfl⟩
    go_wp2_with fail
    go_ret
    obtain ⟨a3, b3⟩ := HG3.out.keeps0 (HK1.out.trans HK2.out) (fun k hk => Nat.le_trans HK1.out.size (HF2.out k hk))
    obtain ⟨a6, b6⟩ := HG6.out.keeps0 ((a3.trans HK4.out).trans HK5.out) b3
    obtain ⟨a7, b7⟩ := HG7.out.keeps0 (a6.trans HKM.out) b6
    exact ⟨by simp, a7.trans HK8.out⟩
end
end Go.Proofs.Ytebllnoeenginaa
