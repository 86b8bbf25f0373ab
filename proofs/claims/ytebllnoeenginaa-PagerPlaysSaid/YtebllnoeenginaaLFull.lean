/- PagerFull, walked: for every two numbers it answers true. -/
import Derived.Test.YtebllnoeenginaaLaw2
namespace Go.Proofs.Ytebllnoeenginaa
open Go.RowKit

section
variable {w w' : World}
/-- append of one number to a row of the caller's own. -/
theorem firstOf_mid {n : Int} (h1 : 1 ≤ n) (h2 : n ≤ 4096) : firstOf n = 4 := by unfold firstOf mapsOf; omega
theorem byte_mod (k : Nat) : ∃ z : UInt8, (z.toNat : Int) = (k : Int) % 256 := by
  obtain ⟨z, hz⟩ := byte_of (k % 256) (Nat.mod_lt _ (by omega))
  exact ⟨z, by omega⟩
/-- Where the first loop stands: k pages are there, their numbers in a row; nothing that was committed is gone. -/
def FullInv (w : World) (p d : Nat) (n : Int) (base : Nat) (k : Nat) (l : Value) (wr : World) : Prop :=
  ∃ F X D all done, St w wr F p d X D all done ∧ (∀ q, AL.has done q = true → AL.has all q = true) ∧ all.length = k ∧ D.blocks = 64 + n ∧ 0 ≤ D.writes ∧ D.writes ≤ 1000 * k ∧ 0 ≤ X.seq ∧ X.seq ≤ k ∧ Mine wr F base 3 1 l k ((all.map (·.1)).map iv)
theorem drop_del {l : Pages} (hn : (l.map (·.1)).Nodup) {j : Nat} (hj : j < l.length) : AL.del (l.drop j) l[j].1 = l.drop (j + 1) ∧ AL.has (l.drop j) l[j].1 = true := by
  have e : l.drop j = l[j] :: l.drop (j + 1) := List.drop_eq_getElem_cons hj
  rw [e]
  constructor
  · unfold AL.del
    rw [List.filter_cons_of_neg (by simp), List.filter_eq_self]
    intro p hp
    have hnd : ((l.drop j).map (·.1)).Nodup := List.Nodup.sublist (List.Sublist.map _ (List.drop_sublist _ _)) hn
    rw [e, List.map_cons, List.nodup_cons] at hnd
    have : p.1 ≠ l[j].1 := fun h => hnd.1 (h ▸ List.mem_map_of_mem (f := (·.1)) hp)
    simpa using this
  · rw [AL.has_get, AL.get_cons, if_pos rfl]; rfl
theorem has_more {all done : Pages} {p : Int × List UInt8} (h : ∀ q, AL.has done q = true → AL.has all q = true) : ∀ q, AL.has done q = true → AL.has (all ++ [p]) q = true := by
  intro q hq
  have := h q hq
  unfold AL.has at this ⊢
  rw [List.any_append, this]; rfl
set_option maxRecDepth 100000 in
set_option maxHeartbeats 4000000 in
theorem full_any (b gone : Int) (w : World) : Calls Try.prog 5 #[.int .i64 b, .int .i64 gone] w fun e w' => e = .returned (.bool true) ∧ Keeps [] w w' := by
  have kc := fun (w : World) (C : Array Value) (n c : Nat) => Lib.run_convert_bytes_const (P := Try.prog) w 22 5 C n c Try.underlying22 Try.underlying5
  obtain ⟨i0, hi, hz0, hz1, hz2⟩ := info_parts Try.infoInt
  have hm1 := Int.emod_nonneg b (show (80 : Int) ≠ 0 by omega)
  have hm2 := Int.emod_lt_of_pos b (show (0 : Int) < 80 by omega)
  obtain ⟨n, hn⟩ : ∃ n, n = b % 80 := ⟨_, rfl⟩
  rw [← hn] at hm1 hm2
  have HN := Lib.hid hn
  clear hn
  go_enter Try.func5, Try.ntmps5
  go_wp2_with fail
  refine (known_any _).mono ?_
  rintro e w1 ⟨rfl, hk1⟩
  have HK1 := Lib.hid hk1
  clear hk1
  go_wp2_with fail
  refine (within_any b 80 (by omega) (by omega)).mono ?_
  rintro e w2 ⟨rfl, rfl⟩
  rw [← HN.out]
  go_wp2_with fail
  refine (live_new (64 + n) _ (by omega) (by omega)).mono ?_
  rintro e w2 ⟨d, F2, rfl, hd2, hk2, hF2⟩
  have HD2 := Lib.hid hd2
  have HK2 := Lib.hid (HK1.out.trans hk2)
  have HF2 : Hid (∀ k, F2 k → w.heap.size ≤ k) := Lib.hid (fun k hk => Nat.le_trans HK1.out.size (hF2 k hk))
  clear hd2 hk2 hF2
  go_wp2_with fail
  refine (st_new (by omega) (by omega) HD2.out HK2.out HF2.out).mono ?_
  rintro e w3 ⟨p, F3, rfl, hs3⟩
  have HS3 := Lib.hid hs3
  clear hs3
  go_wp2_with fail
  go_loopw [9, 10] (fun l ks wr => ∃ k : Nat, (k : Int) ≤ 60 + n ∧ ks = .int .i64 k ∧ Hid (FullInv w p d n w3.heap.size k l wr) ∧ w3.heap.size ≤ wr.heap.size) (fun _ ks _ => 300 - (intOf ks).toNat)
  case atStart => exact ⟨0, by omega, rfl, Lib.hid ⟨F3, _, _, [], [], HS3.out, fun q h => h, rfl, rfl, Int.le_refl _, Int.le_refl _, Int.le_refl _, Int.le_refl _, World.ownsRow_nil _ _ _ _, by intro g hg; cases hg⟩, Nat.le_refl _⟩
  case round =>
    obtain ⟨k, hk, rfl, HI, hz3⟩ := hrel
    obtain ⟨F, X, D, all, done, hS, hsub, hlen, hbl, hw0, hw1, hq0, hq1, hmine⟩ := HI.out
    have hleft : X.left D = 60 + n - k := by
      rw [hS.tells.left_sub hS.live.ok hsub, hbl, firstOf_mid (by omega) (by omega), hlen]; omega
    have HS := Lib.hid hS
    have HSUB := Lib.hid hsub
    have HLEN := Lib.hid hlen
    have HBL := Lib.hid hbl
    have HNUM : Hid (0 ≤ D.writes ∧ D.writes ≤ 1000 * k ∧ 0 ≤ X.seq ∧ X.seq ≤ k) := Lib.hid ⟨hw0, hw1, hq0, hq1⟩
    have HM := Lib.hid hmine
    have HLEFT := Lib.hid hleft
    have HZ3 := Lib.hid hz3
    clear hz3
    clear hS hsub hlen hbl hw0 hw1 hq0 hq1 hmine hleft HI
    obtain ⟨z, hz⟩ := byte_of k (by omega)
    have HZ : Hid (∀ W : World, Rd (W.alloc (.cells #[.int .u8 (k : Int)] 5)) (.slice (some ⟨W.heap.size, 0, none⟩) 1 1) ([z].map byt)) := Lib.hid (fun W => by
      have := Rd.lit W 5 #[.int .u8 (k : Int)] 1 rfl (by simp [maxLen])
      rw [← hz] at this; rw [← hz]; exact this)
    clear hz
    have hk300 : (k : Int) < 300 := by omega
    go_wp2_with fail
    refine (st_left HS.out).mono ?_
    rintro e w4 ⟨rfl, hk4⟩
    rw [HLEFT.out]
    have HK4 := Lib.hid hk4
    clear hk4
    by_cases hlt : (k : Int) < 60 + n
    · have hpos : 0 < 60 + n - (k : Int) := by omega
      go_wp2_with fail
      refine (st_alloc (bs := [z]) ((HS.out.same HK4.out).same ((Keeps.refl _ _).alloc _)) (HZ.out _) (by simp) (by rw [HLEFT.out]; omega)).mono ?_
      rintro e w5 ⟨q, X5, F5, rfl, ha5, hs5, hg5⟩
      have HA5 := Lib.hid ha5
      have HS5 := Lib.hid hs5
      have HM5 := Lib.hid (((HM.out.keeps HK4.out (by simp)).keeps ((Keeps.refl [] _).alloc (.cells #[.int .u8 (k : Int)] 5)) (by simp)).grows hg5)
      have HZ5 : Hid (w3.heap.size ≤ w5.heap.size) := Lib.hid (by have h1 := hs5.keep.size; have h2 := hg5.size; simp at h2; have h3 := HK4.out.size; have h4 := HZ3.out; omega)
      clear ha5 hs5 hg5
      go_wp2_with (first | fail | (at_builtin; refine wpList_append_rd rfl _ _ 43 rfl w3.heap.size 3 i0 (.int .i64 0) 8 Try.underlying43 hi hz0 hz1 hz2 rfl (by rfl) (by rfl) (HM5.out.1.alloc _) (Rd.lit _ _ #[_] 1 rfl (by simp [maxLen])) one_u8 (by simp [maxLen]; omega) (by simp; omega) (by have := HZ5.out; simp; omega) ?_; intro v' w6 ho6 hg6 hb6; have HM6 := Lib.hid (HM5.out.appended (w1 := w5.alloc (.cells #[.int .i64 q] 3)) HS5.out.live.lt (by simp) ho6 hb6); have HS6 := Lib.hid (HS5.out.appended ((Keeps.refl _ _).alloc (.cells #[.int .i64 q] 3)) hg6 HM5.out HS3.out.keep.size); have HG6 := Lib.hid hg6; clear ho6 hg6 hb6; refine Stop.out ?_))
      unfold Stop
      have HZ6 : Hid (w3.heap.size ≤ w6.heap.size) := Lib.hid (by have h1 := HZ5.out; have h2 := HG6.out.size; simp at h2; omega)
      by_cases h9 : (k : Int) % 9 = 8
      · have h9b : ((k : Int) % 9 == 8) = true := by simpa using h9
        clear h9
        go_wp2_with fail
        refine (st_commit (root := [z]) (HS6.out.same ((Keeps.refl _ _).alloc _)) (HZ.out _) (by simp) (by have h1 := HNUM.out; have h2 := HA5.out.seq; omega) HNUM.out.1 (by have h1 := HNUM.out; omega)).mono ?_
        rintro e w7 ⟨rfl, F7, X7, D7, hs7, hg7, hc7⟩
        have HM7 := Lib.hid ((HM6.out.keeps ((Keeps.refl [] _).alloc (.cells #[.int .u8 (k : Int)] 5)) (by simp)).grows hg7)
        have HS7 := Lib.hid hs7
        have HC7 := Lib.hid hc7
        have HZ7 : Hid (w3.heap.size ≤ w7.heap.size) := Lib.hid (by have h1 := hg7.size; have h2 := HZ6.out; simp at h1; omega)
        clear hs7 hg7 hc7
        go_wp2
        have hfr := HS6.out.tells.fresh_le HS6.out.live.ok
        have hmp := maps_pos HS6.out.live.ok
        have hln : (all ++ [(q, [z])]).length = k + 1 := by simp [HLEN.out]
        have hnum := HNUM.out
        refine ⟨⟨k + 1, by omega, by go_num, Lib.hid ⟨F7, X7, D7, _, _, HS7.out, fun q h => h, hln, by rw [HC7.out.blocks, HBL.out], ?_, ?_, ?_, ?_, by simpa using HM7.out⟩, HZ7.out⟩, by simp [intOf]; omega⟩
        · rw [HC7.out.writes]; omega
        · rw [HC7.out.writes]; omega
        · rw [HC7.out.seq, HA5.out.seq]; omega
        · rw [HC7.out.seq, HA5.out.seq]; omega
      · have h9b : ((k : Int) % 9 == 8) = false := by simpa using h9
        clear h9
        go_wp2
        have hln : (all ++ [(q, [z])]).length = k + 1 := by simp [HLEN.out]
        have hnum := HNUM.out
        refine ⟨⟨k + 1, by omega, by go_num, Lib.hid ⟨F5, X5, D, _, _, HS6.out, has_more HSUB.out, hln, HBL.out, hnum.1, by omega, by rw [HA5.out.seq]; omega, by rw [HA5.out.seq]; omega, by simpa using HM6.out⟩, HZ6.out⟩, by simp [intOf]; omega⟩
    · have HKE : Hid ((k : Int) = 60 + n) := Lib.hid (by omega)
      go_wp2_with fail
      refine (live_alloc_full (bs := [z]) ((HS.out.same HK4.out).same ((Keeps.refl _ _).alloc _)).live HS.out.alive (HZ.out _) (by simp) (by rw [HLEFT.out]; omega)).mono ?_
      rintro e w5 ⟨rfl, hk5⟩
      have HK5 : Hid (Keeps [] wr w5) := Lib.hid ((HK4.out.alloc _).trans hk5)
      have HS5 := Lib.hid (HS.out.same HK5.out)
      have HM5 := Lib.hid (HM.out.keeps HK5.out (by simp))
      obtain ⟨lA, lc, rfl⟩ := own_slice HM5.out.1
      clear hk5
      go_wp2_with fail
      refine (st_commit (root := [102, 117, 108, 108]) (HS5.out.same ((Keeps.refl _ _).alloc _)) (Rd.litF _ _ #[_, _, _, _] 4 _ rfl (by simp [maxLen])) (by simp) (by have h1 := HNUM.out; omega) HNUM.out.1 (by have h1 := HNUM.out; omega)).mono ?_
      rintro e w6 ⟨rfl, F6, X6, D6, hs6, hg6, hc6⟩
      have HM6 := Lib.hid ((HM5.out.keeps ((Keeps.refl [] _).alloc (.cells #[.int .u8 102, .int .u8 117, .int .u8 108, .int .u8 108] 5 (4, 5))) (by simp)).grows hg6)
      have HS6 := Lib.hid hs6
      have hfr := HS5.out.tells.fresh_le HS5.out.live.ok
      have hmp := maps_pos HS5.out.live.ok
      have HNUM6 : Hid (D6.blocks = 64 + n ∧ 0 ≤ D6.writes ∧ D6.writes ≤ 500000 ∧ 0 ≤ X6.seq ∧ X6.seq ≤ 500) := Lib.hid (by
        have h1 := HNUM.out
        have h2 := HLEN.out
        rw [hc6.blocks, hc6.writes, hc6.seq]
        exact ⟨HBL.out, by omega, by omega, by omega, by omega⟩)
      clear hs6 hg6 hc6 hfr hmp
      go_wp2_with fail
      refine (within_any gone k (by have := HKE.out; omega) (by omega)).mono ?_
      rintro e w7 ⟨rfl, rfl⟩
      have hr1 := Int.emod_nonneg gone (show (k : Int) ≠ 0 by have := HKE.out; omega)
      have hr2 := Int.emod_lt_of_pos gone (show (0 : Int) < k by have := HKE.out; omega)
      obtain ⟨r, hr⟩ : ∃ r : Nat, gone % (k : Int) = (r : Int) := ⟨(gone % (k : Int)).toNat, by omega⟩
      rw [hr] at hr1 hr2 ⊢
      have HR := Lib.hid hr
      clear hr
      go_wp2_with fail
      have HN2 := Lib.hid HS6.out.tells.an
      go_loopw [14] (fun i wq => ∃ (j : Nat) (X : Pager), j ≤ 1 + r ∧ i = .int .i64 j ∧ Hid (St w wq F6 p d X D6 (all.drop j) all ∧ X.seq = X6.seq) ∧ Hid (Mine wq F6 w3.heap.size 3 1 (.slice lA k lc) k ((all.map (·.1)).map iv))) (fun i _ => 1 + r - (intOf i).toNat)
      case atStart => exact ⟨0, X6, by omega, rfl, Lib.hid ⟨by simpa using HS6.out, rfl⟩, HM6⟩
      case round =>
        obtain ⟨j, Xj, hj, rfl, HSj, HMj⟩ := hrel
        by_cases hjl : j < 1 + r
        · have hjk : j < all.length := by have := HLEN.out; omega
          obtain ⟨g, cap, hv⟩ := own_form HMj.out.1 (by have := HKE.out; omega)
          cases hv
          have hc := HMj.out.1.cellAt j (by omega)
          rw [List.getElem?_map, List.getElem?_map, List.getElem?_eq_getElem hjk] at hc
          obtain ⟨q, hq⟩ : ∃ q, q = all[j].1 := ⟨_, rfl⟩
          simp only [Option.map_some] at hc
          rw [← hq] at hc
          have HQ := Lib.hid hq
          have HDD := Lib.hid (drop_del HN2.out hjk)
          clear hq
          go_wp2_with fail
          refine (st_free q HSj.out.1).mono ?_
          rintro e w8 ⟨rfl, X8, hs8, hg8, he8, -⟩
          rw [HQ.out, HDD.out.2, if_pos rfl]
          rw [HQ.out, HDD.out.1] at hs8
          have HS8 := Lib.hid hs8
          have HM8 := Lib.hid (HMj.out.grows hg8)
          have HE8 := Lib.hid he8
          clear hs8 hg8 he8
          go_wp2
          refine ⟨⟨j + 1, X8, by omega, by go_num, Lib.hid ⟨HS8.out, HE8.out.trans HSj.out.2⟩, HM8⟩, by simp [intOf]; omega⟩
        · obtain rfl : j = 1 + r := by omega
          clear hj hjl
          go_wp2_with fail
          refine (st_commit (root := [108, 101, 115, 115]) (HSj.out.1.same ((Keeps.refl _ _).alloc _)) (Rd.litF _ _ #[_, _, _, _] 4 _ rfl (by simp [maxLen])) (by simp) (by have h1 := HNUM6.out; have h2 := HSj.out.2; omega) HNUM6.out.2.1 (by have h1 := HNUM6.out; omega)).mono ?_
          rintro e w8 ⟨rfl, F8, X8, D8, hs8, hg8, hc8⟩
          have HL8 : Hid (X8.left D8 = 1 + r) := Lib.hid (by
            have h1 := hs8.tells.left_sub hs8.live.ok (fun q h => h)
            have h2 := HLEN.out
            have h3 := HKE.out
            rw [h1, hc8.blocks, HNUM6.out.1, firstOf_mid (by omega) (by omega), List.length_drop]; omega)
          have HS8 := Lib.hid hs8
          clear hs8 hg8 hc8
          go_wp2_with fail
          refine (st_left HS8.out).mono ?_
          rintro e w9 ⟨rfl, hk9⟩
          rw [HL8.out]
          have HS9 := Lib.hid (HS8.out.same hk9)
          clear hk9
          go_wp2_with fail
          refine (st_alloc (bs := [110, 101, 119]) (HS9.out.same ((Keeps.refl _ _).alloc _)) (Rd.litF _ _ #[_, _, _] 3 _ rfl (by simp [maxLen])) (by simp) (by rw [HL8.out]; omega)).mono ?_
          rintro e w10 ⟨q, X10, F10, rfl, ha10, hs10, hg10⟩
          have hget : AL.get (all.drop (1 + r) ++ [(q, [110, 101, 119])]) q = some [110, 101, 119] := by rw [hs10.tells.at_, ha10.at_, if_pos rfl]
          have HS10 := Lib.hid hs10
          have HGET := Lib.hid hget
          clear ha10 hs10 hg10 hget
          go_wp2_with fail
          refine (st_read q HS10.out HGET.out).mono ?_
          rintro e w11 ⟨v11, rfl, hm11, hs11, hg11⟩
          have hst := run_str (Rd.of_own hm11.1)
          have HS11 := Lib.hid hs11
          clear hm11 hs11 hg11
          go_wp2_with fail
          go_ret
          exact ⟨rfl, HS11.out.keep⟩
end
end Go.Proofs.Ytebllnoeenginaa
