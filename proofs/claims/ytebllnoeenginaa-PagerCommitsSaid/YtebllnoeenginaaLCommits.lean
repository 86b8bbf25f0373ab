/- PagerCommits, walked: for every two numbers it answers true. -/
import Derived.Test.YtebllnoeenginaaLFull
namespace Go.Proofs.Ytebllnoeenginaa
open Go.RowKit

/-- Where the outer loop stands. -/
def CommitsInv (w : World) (p d base k : Nat) (ov : Value) (wr : World) : Prop :=
  ∃ F X D all, St w wr F p d X D all all ∧ D.blocks = 128 ∧ 0 ≤ D.writes ∧ D.writes ≤ 1000 * k ∧ X.seq = k ∧ all.length ≤ 25 ∧ Mine wr F base 3 1 ov all.length ((all.map (·.1)).map iv)
theorem byte_small (k : Nat) (h : k < 256) : byt (UInt8.ofNat k) = .int .u8 (k : Int) := by
  have : (UInt8.ofNat k).toNat = k := by simp; omega
  show Value.int .u8 ((UInt8.ofNat k).toNat : Int) = _
  rw [this]
theorem two_bytes (i k : Nat) (hi : i < 256) (hk : k < 256) (W : World) : Rd (W.alloc (.cells #[.int .u8 (k : Int), .int .u8 (i : Int)] 5)) (.slice (some ⟨W.heap.size, 0, none⟩) 2 2) ([UInt8.ofNat k, UInt8.ofNat i].map byt) := by
  have := Rd.lit W 5 #[.int .u8 (k : Int), .int .u8 (i : Int)] 2 rfl (by simp [maxLen])
  rw [← byte_small k hk, ← byte_small i hi] at this ⊢
  exact this
theorem one_byte (k : Nat) (hk : k < 256) (W : World) : Rd (W.alloc (.cells #[.int .u8 (k : Int)] 5)) (.slice (some ⟨W.heap.size, 0, none⟩) 1 1) ([UInt8.ofNat k].map byt) := by
  have := Rd.lit W 5 #[.int .u8 (k : Int)] 1 rfl (by simp [maxLen])
  rw [← byte_small k hk] at this ⊢
  exact this
theorem drop_del2 {l m : Pages} (hn : ((l ++ m).map (·.1)).Nodup) {j : Nat} (hj : j < l.length) : AL.del (l.drop j ++ m) l[j].1 = l.drop (j + 1) ++ m ∧ AL.has (l.drop j ++ m) l[j].1 = true := by
  have hj2 : j < (l ++ m).length := by rw [List.length_append]; omega
  have := drop_del hn hj2
  rw [List.drop_append_of_le_length (by omega), List.drop_append_of_le_length (by omega), List.getElem_append_left hj] at this
  exact this
theorem has_app {a b : Pages} : ∀ q, AL.has a q = true → AL.has (a ++ b) q = true := by
  intro q hq
  unfold AL.has at hq ⊢
  rw [List.any_append, hq]; rfl
section
variable {w w' : World}
set_option maxRecDepth 100000 in
set_option maxHeartbeats 4000000 in
theorem commits_any (rounds many : Int) (w : World) : Calls Try.prog 8 #[.int .i64 rounds, .int .i64 many] w fun e w' => e = .returned (.bool true) ∧ Keeps [] w w' := by
  obtain ⟨i0, hi, hz0, hz1, hz2⟩ := info_parts Try.infoInt
  have hm1 := Int.emod_nonneg many (show (25 : Int) ≠ 0 by omega)
  have hm2 := Int.emod_lt_of_pos many (show (0 : Int) < 25 by omega)
  have hr1 := Int.emod_nonneg rounds (show (60 : Int) ≠ 0 by omega)
  have hr2 := Int.emod_lt_of_pos rounds (show (0 : Int) < 60 by omega)
  obtain ⟨s, hs⟩ : ∃ s : Nat, many % 25 = (s : Int) := ⟨(many % 25).toNat, by omega⟩
  obtain ⟨r, hr⟩ : ∃ r : Nat, rounds % 60 = (r : Int) := ⟨(rounds % 60).toNat, by omega⟩
  rw [hs] at hm1 hm2
  rw [hr] at hr1 hr2
  have HSE := Lib.hid hs
  have HRE := Lib.hid hr
  have hs25 : s < 25 := by omega
  have hr60 : r < 60 := by omega
  clear hs hr hm1 hm2 hr1 hr2
  go_enter Try.func8, Try.ntmps8
  go_wp2_with fail
  refine (known_any _).mono ?_
  rintro e w1 ⟨rfl, hk1⟩
  have HK1 := Lib.hid hk1
  clear hk1
  go_wp2_with fail
  refine (live_new 128 _ (by omega) (by omega)).mono ?_
  rintro e w2 ⟨d, F2, rfl, hd2, hk2, hF2⟩
  have HD2 := Lib.hid hd2
  have HK2 := Lib.hid (HK1.out.trans hk2)
  have HF2 : Hid (∀ k, F2 k → w.heap.size ≤ k) := Lib.hid (fun k hk => Nat.le_trans HK1.out.size (hF2 k hk))
  clear hd2 hk2 hF2
  go_wp2_with fail
  refine (st_new (by omega) (by omega) HD2.out HK2.out HF2.out).mono ?_
  rintro e w3 ⟨p, F3, rfl, hs3⟩
  have HS3 := Lib.hid hs3
  clear hs3
  go_wp2_with fail
  refine (within_any many 25 (by omega) (by omega)).mono ?_
  rintro e w4 ⟨rfl, rfl⟩
  rw [HSE.out]
  go_wp2_with fail
  obtain ⟨m, hm⟩ : ∃ m, m = 1 + s := ⟨_, rfl⟩
  rw [show (1 : Int) + (s : Int) = (m : Int) from by omega]
  have hm0 : 0 < m := by omega
  have hm26 : m < 26 := by omega
  clear hm
  go_loopw [9, 10] (fun ov ks wr => ∃ k : Nat, k ≤ 5 + r ∧ ks = .int .i64 k ∧ Hid (CommitsInv w p d w3.heap.size k ov wr) ∧ Hid (w3.heap.size ≤ wr.heap.size)) (fun _ ks _ => 5 + r - (intOf ks).toNat)
  case atStart => exact ⟨0, by omega, rfl, Lib.hid ⟨F3, _, _, [], HS3.out, rfl, Int.le_refl _, Int.le_refl _, rfl, by simp, World.ownsRow_nil _ _ _ _, by intro g hg; cases hg⟩, Lib.hid (Nat.le_refl _)⟩
  case round =>
    obtain ⟨k, hk, rfl, HI, HZ3⟩ := hrel
    obtain ⟨F, X, D, all, hS, hbl, hw0, hw1, hq, hal, hmine⟩ := HI.out
    obtain ⟨oA, oc, rfl⟩ := own_slice hmine.1
    have HS := Lib.hid hS
    have HNUM : Hid (D.blocks = 128 ∧ 0 ≤ D.writes ∧ D.writes ≤ 1000 * k ∧ X.seq = k) := Lib.hid ⟨hbl, hw0, hw1, hq⟩
    have HM := Lib.hid hmine
    obtain ⟨B, hB⟩ : ∃ B, B = wr.heap.size := ⟨_, rfl⟩
    have HB3 : Hid (w3.heap.size ≤ B) := Lib.hid (by rw [hB]; exact HZ3.out)
    have HBW : Hid (B ≤ wr.heap.size) := Lib.hid (by rw [hB]; exact Nat.le_refl _)
    have HOB : Hid (∀ g, (Value.slice oA all.length oc).ownBlock = some g → g < B) := Lib.hid (fun g hg => by rw [hB]; exact own_lt hmine.1 g hg)
    clear hS hbl hw0 hw1 hq hmine HI hB
    go_wp2_with fail
    refine (within_any rounds 60 (by omega) (by omega)).mono ?_
    rintro e w4 ⟨rfl, rfl⟩
    rw [HRE.out]
    by_cases hkr : k < 5 + r
    · have hk64 : k < 256 := by omega
      have hwlo := HNUM.out.2.1
      have hwhi : D.writes ≤ 1000000 := by have := HNUM.out.2.2.1; omega
      go_wp2_with fail
      refine (st_writes HS.out).mono ?_
      rintro e w4 ⟨rfl, rfl⟩
      go_wp2_with fail
      go_loopw [12, 13] (fun lv is wq => ∃ (i : Nat) (news : Pages) (F' : Nat → Prop) (X' : Pager), i ≤ m ∧ is = .int .i64 i ∧ Hid (St w wq F' p d X' D (all ++ news) all ∧ X'.seq = k ∧ news.length = i ∧ ∀ j (hj : j < news.length), news[j].2 = [UInt8.ofNat k, UInt8.ofNat j]) ∧
        Hid (Mine wq F' B 3 1 lv i ((news.map (·.1)).map iv)) ∧ Hid (Mine wq F' w3.heap.size 3 1 (.slice oA all.length oc) all.length ((all.map (·.1)).map iv)) ∧ Hid (B ≤ wq.heap.size)) (fun _ is _ => m - (intOf is).toNat)
      case atStart => exact ⟨0, [], F, X, by omega, rfl, Lib.hid ⟨by simpa using HS.out, HNUM.out.2.2.2, rfl, by intro j hj; simp at hj⟩, Lib.hid ⟨World.ownsRow_nil _ _ _ _, by intro g hg; cases hg⟩, HM, HBW⟩
      case round =>
        obtain ⟨i, news, F4, X4, hi1, rfl, HS4, HL4, HO4, HZ4⟩ := hrel
        by_cases hlt : i < m
        · have hi256 : i < 256 := by omega
          have hleft : ¬ X4.left D = 0 := by
            have h1 := HS4.out.1.tells.left_sub HS4.out.1.live.ok has_app
            have h2 := HNUM.out.1
            rw [h1, h2, firstOf_mid (by omega) (by omega), List.length_append, HS4.out.2.2.1]; omega
          have HLEFT := Lib.hid hleft
          clear hleft
          go_wp2_with fail
          refine (st_alloc (bs := [UInt8.ofNat k, UInt8.ofNat i]) (HS4.out.1.same ((Keeps.refl _ _).alloc _)) (two_bytes i k hi256 hk64 _) (by simp) HLEFT.out).mono ?_
          rintro e w5 ⟨q, X5, F5, rfl, ha5, hs5, hg5⟩
          have hA : Keeps [] wr (wr.alloc (.cells #[.int .u8 (k : Int), .int .u8 (i : Int)] 5)) := (Keeps.refl _ _).alloc _
          have HA5 := Lib.hid ha5
          have HS5 := Lib.hid hs5
          have HL5 := Lib.hid ((HL4.out.keeps hA (by simp)).grows hg5)
          have HO5 := Lib.hid ((HO4.out.keeps hA (by simp)).grows hg5)
          have HZ5 : Hid (B ≤ w5.heap.size) := Lib.hid (by have h1 := hg5.size; have h2 := HZ4.out; simp at h1; omega)
          clear ha5 hs5 hg5 hA
          go_wp2_with (first | fail | (at_builtin; refine wpList_append_rd rfl _ _ 43 rfl B 3 i0 (.int .i64 0) 8 Try.underlying43 hi hz0 hz1 hz2 rfl (by rfl) (by rfl) (HL5.out.1.alloc _) (Rd.lit _ _ #[_] 1 rfl (by simp [maxLen])) one_u8 (by simp [maxLen]; omega) (by simp; omega) (by have := HZ5.out; simp; omega) ?_; intro v' w6 ho6 hg6 hb6; have HL6 := Lib.hid (HL5.out.appended (w1 := w5.alloc (.cells #[.int .i64 q] 3)) HS5.out.live.lt (by simp) ho6 hb6); have HS6 := Lib.hid (HS5.out.appended ((Keeps.refl _ _).alloc (.cells #[.int .i64 q] 3)) hg6 HL5.out (Nat.le_trans HS3.out.keep.size HB3.out)); have HO6 := Lib.hid (HO5.out.beside ((Keeps.refl [] w5).alloc (.cells #[.int .i64 q] 3)) hg6 (fun g hg e => by have h1 := HOB.out g hg; have h2 := own_base HL5.out.1 g e; omega)); have HG6 := Lib.hid hg6; clear ho6 hg6 hb6; refine Stop.out ?_))
          unfold Stop
          go_wp2
          have hln : (all ++ news ++ [(q, [UInt8.ofNat k, UInt8.ofNat i])]) = all ++ (news ++ [(q, [UInt8.ofNat k, UInt8.ofNat i])]) := List.append_assoc _ _ _
          have hz6 := HG6.out.size
          refine ⟨⟨i + 1, news ++ [(q, [UInt8.ofNat k, UInt8.ofNat i])], F5, X5, by omega, by go_num, Lib.hid ⟨by rw [← hln]; exact HS6.out, by rw [HA5.out.seq]; exact HS4.out.2.1, by simp [HS4.out.2.2.1], ?_⟩, Lib.hid (by simpa using HL6.out), HO6, Lib.hid (by have h1 := HZ5.out; simp at hz6; omega)⟩, by simp [intOf]; omega⟩
          intro j hj
          rw [List.length_append, List.length_singleton] at hj
          by_cases e : j < news.length
          · rw [List.getElem_append_left e]; exact HS4.out.2.2.2 j e
          · have e2 : j = news.length := by omega
            subst e2
            rw [List.getElem_append_right (Nat.le_refl _)]
            simp [HS4.out.2.2.1]
        · obtain rfl : m = i := by omega
          obtain ⟨lA, lc, rfl⟩ := own_slice HL4.out.1
          clear hi1 hlt
          have HN2 := Lib.hid HS4.out.1.tells.an
          have hnl : news.length = m := HS4.out.2.2.1
          have HNL := Lib.hid hnl
          clear hnl
          go_wp2_with fail
          go_loopw [16] (fun js wx => ∃ (j : Nat) (Xj : Pager), j ≤ all.length ∧ js = .int .i64 j ∧ Hid (St w wx F4 p d Xj D (all.drop j ++ news) all ∧ Xj.seq = k) ∧ Hid (Mine wx F4 B 3 1 (.slice lA m lc) m ((news.map (·.1)).map iv)) ∧ Hid (Mine wx F4 w3.heap.size 3 1 (.slice oA all.length oc) all.length ((all.map (·.1)).map iv)) ∧ Hid (B ≤ wx.heap.size)) (fun js _ => all.length - (intOf js).toNat)
          case atStart => exact ⟨0, X4, Nat.zero_le _, rfl, Lib.hid ⟨by simpa using HS4.out.1, HS4.out.2.1⟩, HL4, HO4, HZ4⟩
          case round =>
            obtain ⟨j, Xj, hj, rfl, HSj, HLj, HOj, HZj⟩ := hrel
            by_cases hjl : j < all.length
            · obtain ⟨g, cap, hv⟩ := own_form HOj.out.1 (by omega)
              cases hv
              have hc := HOj.out.1.cellAt j (by omega)
              rw [List.getElem?_map, List.getElem?_map, List.getElem?_eq_getElem hjl] at hc
              obtain ⟨q, hq⟩ : ∃ q, q = all[j].1 := ⟨_, rfl⟩
              simp only [Option.map_some] at hc
              rw [← hq] at hc
              have HQ := Lib.hid hq
              have HDD := Lib.hid (drop_del2 HN2.out hjl)
              clear hq
              go_wp2_with fail
              refine (st_free q HSj.out.1).mono ?_
              rintro e w8 ⟨rfl, X8, hs8, hg8, he8, -⟩
              rw [HQ.out, HDD.out.2, if_pos rfl]
              rw [HQ.out, HDD.out.1] at hs8
              have HS8 := Lib.hid hs8
              have HL8 := Lib.hid (HLj.out.grows hg8)
              have HO8 := Lib.hid (HOj.out.grows hg8)
              have HE8 := Lib.hid he8
              have HZ8 : Hid (B ≤ w8.heap.size) := Lib.hid (Nat.le_trans HZj.out hg8.size)
              clear hs8 hg8 he8
              go_wp2
              refine ⟨⟨j + 1, X8, by omega, by go_num, Lib.hid ⟨HS8.out, HE8.out.trans HSj.out.2⟩, HL8, HO8, HZ8⟩, by simp [intOf]; omega⟩
            · obtain rfl : j = all.length := by omega
              clear hj hjl
              have HSn : Hid (St w wr F4 p d Xj D news all) := Lib.hid (by have := HSj.out.1; rwa [List.drop_length, List.nil_append] at this)
              go_wp2_with fail
              refine (st_commit (root := [UInt8.ofNat k]) (HSn.out.same ((Keeps.refl _ _).alloc _)) (one_byte k hk64 _) (by simp) (by have h1 := HSj.out.2; omega) hwlo (by omega)).mono ?_
              rintro e w7 ⟨rfl, F7, X7, D7, hs7, hg7, hc7⟩
              have hfr := HSn.out.tells.fresh_le HSn.out.live.ok
              have hmp : mapsOf D.blocks = 1 := by rw [HNUM.out.1]; rfl
              have hdw : D7.writes = D.writes + Xj.fresh.length + 2 := by rw [hc7.writes, hmp]; omega
              have hf26 : (Xj.fresh.length : Int) ≤ m := by have := HNL.out; omega
              have HNUM7 : Hid (D7.blocks = 128 ∧ X7.seq = k + 1) := Lib.hid ⟨by rw [hc7.blocks]; exact HNUM.out.1, by rw [hc7.seq, HSj.out.2]⟩
              have HS7 := Lib.hid hs7
              have HL7 := Lib.hid ((HLj.out.keeps ((Keeps.refl [] _).alloc (.cells #[.int .u8 (k : Int)] 5)) (by simp)).grows hg7)
              have HZ7 : Hid (B ≤ w7.heap.size) := Lib.hid (by have h1 := hg7.size; have h2 := HZj.out; simp at h1; omega)
              obtain ⟨fw, hfw⟩ : ∃ f : Nat, f = Xj.fresh.length := ⟨_, rfl⟩
              rw [← hfw] at hdw hf26
              have HDW := Lib.hid hdw
              clear hs7 hg7 hc7 hfr hmp hfw hdw
              go_wp2_with fail
              refine (st_writes HS7.out).mono ?_
              rintro e w8 ⟨rfl, rfl⟩
              rw [HDW.out]
              go_wp2_with fail
              refine (st_seq HS7.out).mono ?_
              rintro e w8 ⟨rfl, rfl⟩
              rw [HNUM7.out.2]
              go_wp2_with fail
              have hlf : X7.left D7 = 124 - m := by
                rw [HS7.out.tells.left_sub HS7.out.live.ok (fun q h => h), HNUM7.out.1, HNL.out]
                show (128 : Int) - 4 - m = _
                omega
              refine (st_left HS7.out).mono ?_
              rintro e w8 ⟨rfl, hk8⟩
              rw [hlf]
              have HS8 := Lib.hid (HS7.out.same hk8)
              have HL8 := Lib.hid (HL7.out.keeps hk8 (by simp))
              have HZ8 : Hid (B ≤ w8.heap.size) := Lib.hid (Nat.le_trans HZ7.out hk8.size)
              clear hlf hk8
              go_wp2_with fail
              go_loopw [17] (fun js wx => ∃ j : Nat, j ≤ m ∧ js = .int .i64 j ∧ Hid (St w wx F7 p d X7 D7 news news) ∧ Hid (Mine wx F7 B 3 1 (.slice lA m lc) m ((news.map (·.1)).map iv)) ∧ Hid (B ≤ wx.heap.size)) (fun js _ => m - (intOf js).toNat)
              case atStart => exact ⟨0, Nat.zero_le _, rfl, HS8, HL8, HZ8⟩
              case round =>
                obtain ⟨j, hj, rfl, HSj, HLj, HZj⟩ := hrel
                by_cases hjl : j < m
                · obtain ⟨g, cap, hv⟩ := own_form HLj.out.1 (by omega)
                  cases hv
                  have hjn : j < news.length := by have := HNL.out; omega
                  have hc := HLj.out.1.cellAt j (by omega)
                  rw [List.getElem?_map, List.getElem?_map, List.getElem?_eq_getElem hjn] at hc
                  simp only [Option.map_some] at hc
                  have hget : AL.get news news[j].1 = some [UInt8.ofNat k, UInt8.ofNat j] := by
                    have h1 := HS4.out.2.2.2 j hjn
                    have h2 := AL.get_of_mem HSj.out.tells.an (k := news[j].1) (x := news[j].2) (List.getElem_mem hjn)
                    rw [h1] at h2; exact h2
                  obtain ⟨q, hq⟩ : ∃ q, q = news[j].1 := ⟨_, rfl⟩
                  rw [← hq] at hc hget
                  have HGET := Lib.hid hget
                  have hj256 : j < 256 := by omega
                  clear hq hget
                  go_wp2_with fail
                  refine (st_read q HSj.out HGET.out).mono ?_
                  rintro e w9 ⟨v9, rfl, hm9, hs9, hg9⟩
                  have HS9 := Lib.hid hs9
                  have HL9 := Lib.hid (HLj.out.grows hg9)
                  have HZ9 : Hid (B ≤ w9.heap.size) := Lib.hid (Nat.le_trans HZj.out hg9.size)
                  have HV9 := Lib.hid (Rd.of_own hm9.1)
                  have hst := str_same HV9.out (Keeps.refl [] w9)
                  have hnew := run_str (two_bytes j k hj256 hk64 w9)
                  obtain ⟨SS, hSS⟩ : ∃ SS : ByteArray, SS = ⟨[UInt8.ofNat k, UInt8.ofNat j].toArray⟩ := ⟨_, rfl⟩
                  rw [← hSS] at hst hnew
                  clear hm9 hs9 hg9 hSS
                  go_wp2
                  have hA : Keeps [] w9 (w9.alloc (.cells #[.int .u8 (k : Int), .int .u8 (j : Int)] 5)) := (Keeps.refl _ _).alloc _
                  refine ⟨⟨j + 1, by omega, by go_num, Lib.hid (HS9.out.same hA), Lib.hid (HL9.out.keeps hA (by simp)), Lib.hid (Nat.le_trans HZ9.out hA.size)⟩, by simp [intOf]; omega⟩
                · obtain rfl : m = j := by omega
                  clear hj hjl
                  go_wp2
                  have hdw := HDW.out
                  have hnum := HNUM.out
                  refine ⟨⟨k + 1, by omega, by go_num, Lib.hid ⟨F7, X7, D7, news, HSj.out, HNUM7.out.1, by omega, by omega, by rw [HNUM7.out.2]; omega, by have := HNL.out; omega, ?_⟩, Lib.hid (Nat.le_trans HB3.out HZj.out)⟩, by simp [intOf]; omega⟩
                  rw [HNL.out]
                  exact ⟨ownsRow_mono HLj.out.1 HB3.out, HLj.out.2⟩
    · obtain rfl : k = 5 + r := by omega
      clear hk hkr
      go_wp2
      go_ret
      exact ⟨rfl, HS.out.keep⟩
end
end Go.Proofs.Ytebllnoeenginaa
