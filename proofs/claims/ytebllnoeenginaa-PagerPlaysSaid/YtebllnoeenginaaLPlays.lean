/- PagerPlays, walked: whatever is done, one call behind the other, is answered as by two plain lists. -/
import Derived.Test.YtebllnoeenginaaLCrash
import Derived.Deep.Cut
import Derived.Deep.CutRange
import Derived.Deep.CutBlock
import Derived.BigQuiet
namespace Go.Proofs.Ytebllnoeenginaa
open Go.RowKit

theorem Tells.left_nonneg {X : Pager} {D : Disk} {all done : Pages} (h : Tells X D all done) (hx : X.ok D) : 0 ≤ X.left D := by
  rw [h.left hx]
  have hb := hx.blo
  have hb2 := hx.bhi
  have hf : firstOf D.blocks ≤ 10 := by unfold firstOf mapsOf; omega
  have e := nodup_range (D.blocks - firstOf D.blocks).toNat (firstOf D.blocks) (done.map (·.1) ++ (all.filter fun p => !AL.has done p.1).map (·.1)) ?_ ?_
  · rw [List.length_append, List.length_map, List.length_map] at e
    omega
  · refine List.nodup_append.2 ⟨h.dn, List.Nodup.sublist (List.Sublist.map _ List.filter_sublist) h.an, ?_⟩
    rintro a ha b hb rfl
    obtain ⟨p, hp, he⟩ := List.mem_map.1 hb
    have h1 := (List.mem_filter.1 hp).2
    have h2 : AL.has done p.1 = true := by rw [he]; exact (AL.has_iff _ _).2 ha
    rw [h2] at h1; cases h1
  · intro k hk
    rw [List.mem_append] at hk
    have hlo : firstOf D.blocks ≤ k ∧ k < D.blocks := by
      rcases hk with hk | hk
      · have hs := mem_keys_get.1 hk
        obtain ⟨b, hg⟩ := Option.isSome_iff_exists.1 hs
        rw [h.com] at hg
        have := hx.com_lo hg
        exact ⟨this.1, this.2.1⟩
      · have hk2 : k ∈ all.map (·.1) := (List.Sublist.map _ List.filter_sublist).subset hk
        obtain ⟨b, hg⟩ := Option.isSome_iff_exists.1 (mem_keys_get.1 hk2)
        rw [h.at_] at hg
        have := hx.at_lo hg
        exact ⟨this.1, this.2.1⟩
    omega
theorem atIdx_get {l : Pages} (hn : (l.map (·.1)).Nodup) {k : Int} {b : List UInt8} (h : AL.get l k = some b) : ∃ (j : Nat) (hj : j < l.length), atIdx l k = (j : Int) ∧ l[j] = (k, b) := by
  have hm := AL.mem_of_get h
  cases hf : l.findIdx? (fun p => p.1 == k) with
  | none =>
    rw [List.findIdx?_eq_none_iff] at hf
    have := hf _ hm
    simp at this
  | some j =>
    have hf2 := hf
    rw [List.findIdx?_eq_some_iff_getElem] at hf
    obtain ⟨hj, hp, -⟩ := hf
    have hk : l[j].1 = k := by simpa using hp
    have hg := AL.get_of_mem hn (k := k) (x := l[j].2) (by rw [← hk]; exact List.getElem_mem hj)
    rw [h] at hg
    refine ⟨j, hj, by unfold atIdx; rw [hf2], ?_⟩
    rw [← hk]
    rw [Option.some.injEq] at hg
    rw [hg]
theorem del_filter_le (all done : Pages) (k : Int) : ((AL.del all k).filter fun p => !AL.has done p.1).length ≤ (all.filter fun p => !AL.has done p.1).length := by
  unfold AL.del
  exact (List.Sublist.filter _ List.filter_sublist).length_le
theorem self_filter (l : Pages) : (l.filter fun p => !AL.has l p.1).length = 0 := by
  rw [List.length_eq_zero_iff, List.filter_eq_nil_iff]
  intro p hp
  have : AL.has l p.1 = true := (AL.has_iff _ _).2 (List.mem_map_of_mem (f := (·.1)) hp)
  rw [this]; simp
theorem snoc_filter_le (all done : Pages) (p : Int × List UInt8) : ((all ++ [p]).filter fun p => !AL.has done p.1).length ≤ (all.filter fun p => !AL.has done p.1).length + 1 := by
  rw [List.filter_append, List.length_append]
  have := List.length_filter_le (fun p => !AL.has done p.1) [p]
  simp at this ⊢
  omega
/-- The numbers of a round. -/
structure PNum (nb : Int) (k : Nat) (X : Pager) (D : Disk) (all done : Pages) (rb : List UInt8) (SR : ByteArray) (news wts sqn : Int) : Prop where
  bl : D.blocks = nb
  w0 : 0 ≤ D.writes
  w1 : D.writes ≤ 1000 * (k : Int)
  q0 : 0 ≤ X.seq
  q1 : X.seq ≤ (k : Int)
  root : X.root = rb
  sr : SR = ⟨rb.toArray⟩
  al : all.length ≤ k
  dl : done.length ≤ k
  n0 : 0 ≤ news
  n1 : news ≤ (k : Int)
  nf : ((all.filter fun p => !AL.has done p.1).length : Int) ≤ news
  wq : wts = D.writes
  sq : sqn = X.seq
section
variable {nb : Int} {k : Nat} {X X' : Pager} {D D' : Disk} {all done : Pages} {rb : List UInt8} {SR : ByteArray} {news wts sqn : Int}
theorem PNum.next (h : PNum nb k X D all done rb SR news wts sqn) : PNum nb (k + 1) X D all done rb SR news wts sqn := by
  obtain ⟨h1, h2, h3, h4, h5, h6, h7, h8, h9, h10, h11, h12, h13, h14⟩ := h
  exact ⟨h1, h2, by omega, h4, by omega, h6, h7, by omega, by omega, h10, by omega, h12, h13, h14⟩
theorem PNum.allocd (h : PNum nb k X D all done rb SR news wts sqn) {q : Int} {bs : List UInt8} (ha : Alloced X D q bs X') : PNum nb (k + 1) X' D (all ++ [(q, bs)]) done rb SR (news + 1) wts sqn := by
  obtain ⟨h1, h2, h3, h4, h5, h6, h7, h8, h9, h10, h11, h12, h13, h14⟩ := h
  have := snoc_filter_le all done (q, bs)
  exact ⟨h1, h2, by omega, by rw [ha.seq]; exact h4, by rw [ha.seq]; omega, by rw [ha.root]; exact h6, h7, by simp; omega, by omega, by omega, by omega, by omega, h13, by rw [ha.seq]; exact h14⟩
theorem PNum.freed (h : PNum nb k X D all done rb SR news wts sqn) (kk : Int) (e1 : X'.seq = X.seq) (e2 : X'.root = X.root) : PNum nb (k + 1) X' D (AL.del all kk) done rb SR news wts sqn := by
  obtain ⟨h1, h2, h3, h4, h5, h6, h7, h8, h9, h10, h11, h12, h13, h14⟩ := h
  have := del_filter_le all done kk
  have hl : (AL.del all kk).length ≤ all.length := by unfold AL.del; exact List.length_filter_le _ _
  exact ⟨h1, h2, by omega, by rw [e1]; exact h4, by rw [e1]; omega, by rw [e2]; exact h6, h7, by omega, by omega, by omega, by omega, by omega, h13, by rw [e1]; exact h14⟩
theorem PNum.committed (h : PNum nb k X D all done rb SR news wts sqn) (hx : X.ok D) (ht : Tells X D all done) (hk : k ≤ 120) {bs : List UInt8} (hc : Committed X D bs X' D') : PNum nb (k + 1) X' D' all all bs ⟨bs.toArray⟩ 0 D'.writes (sqn + 1) := by
  obtain ⟨h1, h2, h3, h4, h5, h6, h7, h8, h9, h10, h11, h12, h13, h14⟩ := h
  have hm := maps_pos hx
  have hf := ht.fresh hx
  have := self_filter all
  refine ⟨by rw [hc.blocks]; exact h1, by rw [hc.writes]; omega, by rw [hc.writes]; omega, by rw [hc.seq]; omega, by rw [hc.seq]; omega, hc.root, rfl, by omega, by omega, by omega, by omega, by omega, rfl, by rw [hc.seq]; omega⟩
theorem PNum.wrote (h : PNum nb k X D all done rb SR news wts sqn) (hx : X.ok D) (ht : Tells X D all done) {bs : List UInt8} (hc : Committed X D bs X' D') : 0 ≤ D'.writes ∧ D'.writes ≤ D.writes + 1000 + news ∧ D'.writes - wts ≤ news + 12 := by
  have hm := maps_pos hx
  have hf := ht.fresh hx
  have h12 := h.nf
  have h2 := h.w0
  have h13 := h.wq
  rw [hc.writes]; omega
theorem PNum.back (h : PNum nb k X D all done rb SR news wts sqn) : PNum nb (k + 1) (X.abort D) D done done rb SR news wts sqn := by
  obtain ⟨h1, h2, h3, h4, h5, h6, h7, h8, h9, h10, h11, h12, h13, h14⟩ := h
  have := self_filter done
  exact ⟨h1, h2, by omega, h4, by have h : (X.abort D).seq = X.seq := rfl; omega, h6, h7, by omega, by omega, h10, by omega, by omega, h13, h14⟩
theorem PNum.anew (h : PNum nb k X D all done rb SR news wts sqn) : PNum nb (k + 1) (X.abort D) D done done rb SR 0 D.writes sqn := by
  obtain ⟨h1, h2, h3, h4, h5, h6, h7, h8, h9, h10, h11, h12, h13, h14⟩ := h
  have := self_filter done
  exact ⟨h1, h2, by omega, h4, by have h : (X.abort D).seq = X.seq := rfl; omega, h6, h7, by omega, by omega, by omega, by omega, by omega, rfl, h14⟩
end
/-- Where the loop over the calls stands. -/
def PlayInv (w : World) (d base : Nat) (nb : Int) (k : Nat) (pv av dv rv sv nv tv : Value) (wr : World) : Prop :=
  ∃ F p X D all done rb SR news wts sqn, St w wr F p d X D all done ∧ pv = .pointer (some ⟨p, 0, none⟩) ∧ rv = .string SR ∧ sv = .int .i64 sqn ∧ nv = .int .i64 news ∧ tv = .int .i64 wts ∧ PNum nb k X D all done rb SR news wts sqn ∧
    Mine wr F base 51 2 av all.length (pcells all) ∧ Mine wr F base 51 2 dv done.length (pcells done) ∧ (∀ g, av.ownBlock = some g → dv.ownBlock ≠ some g)
section
variable {w w' : World}
set_option maxRecDepth 100000 in
set_option maxHeartbeats 16000000 in
theorem plays_any (cA : Option Addr) (cc : Nat) (cs : List CallD) (b : Int) (w : World) (hc : CallsAt w cA cs) (hcc : cs.length ≤ cc) (hcm : cc ≤ maxLen) (hcz : ∀ i (h : i < cs.length), cs[i].2.2.length ≤ 140737488355327) :
    Calls Try.prog 7 #[.int .i64 b, .slice cA cs.length cc] w fun e w' => e = .returned (.bool true) ∧ Keeps [] w w' := by
  obtain ⟨i0, hi, hz0, hz1, hz2⟩ := info_parts Try.infoPage
  obtain ⟨j0, ji, jz0, jz1, jz2⟩ := info_parts Try.infoU8
  have hm1 := Int.emod_nonneg b (show (100 : Int) ≠ 0 by omega)
  have hm2 := Int.emod_lt_of_pos b (show (0 : Int) < 100 by omega)
  obtain ⟨n, hn⟩ : ∃ n, n = b % 100 := ⟨_, rfl⟩
  rw [← hn] at hm1 hm2
  have HN := Lib.hid hn
  have HC := Lib.hid hc
  have HCZ := Lib.hid hcz
  have hcl : cs.length ≤ 9223372036854775807 := by unfold maxLen at hcm; omega
  clear hn hc hcc hcm hcz
  go_enter Try.func7, Try.ntmps7
  go_wp2_with fail
  refine (known_any _).mono ?_
  rintro e w1 ⟨rfl, hk1⟩
  have HK1 := Lib.hid hk1
  clear hk1
  go_wp2_with fail
  refine (within_any b 100 (by omega) (by omega)).mono ?_
  rintro e w2 ⟨rfl, rfl⟩
  rw [← HN.out]
  go_wp2_with fail
  refine (live_new (64 + n) _ (by omega) (by omega)).mono ?_
  rintro e w2 ⟨d, F2, rfl, hd2, hk2, hF2⟩
  have HD2 := Lib.hid hd2
  have HK2 := Lib.hid (HK1.out.trans hk2)
  have HF2 : Hid (∀ k, F2 k → w.heap.size ≤ k) := Lib.hid (fun k hk => Nat.le_trans HK1.out.size (hF2 k hk))
  clear hd2 hk2 hF2
  go_wp2_with fail
  refine (st_new (by omega) (by omega) HD2.out HK2.out HF2.out).mono ?_
  rintro e w3 ⟨p, F3, rfl, hs3⟩
  have HS3 := Lib.hid hs3
  clear hs3
  go_wp2_with fail
  refine (st_writes HS3.out).mono ?_
  rintro e w4 ⟨rfl, rfl⟩
  go_wp2_with fail
  obtain ⟨base, hbase⟩ : ∃ b, b = w3.heap.size := ⟨_, rfl⟩
  have HBW : Hid (w.heap.size ≤ base) := Lib.hid (by rw [hbase]; exact HS3.out.keep.size)
  have HB4 : Hid (base ≤ w3.heap.size) := Lib.hid (by rw [hbase]; exact Nat.le_refl _)
  clear hbase
  go_loopw [7, 9, 10, 11, 12, 13, 14, 15] (fun pv av dv rv sv nv tv is wr => ∃ k : Nat, k ≤ 120 ∧ k ≤ cs.length ∧ is = .int .i64 k ∧ Hid (PlayInv w d base (64 + n) k pv av dv rv sv nv tv wr) ∧ Hid (base ≤ wr.heap.size)) (fun _ _ _ _ _ _ _ is _ => 120 - (intOf is).toNat)
  case atStart => exact ⟨0, by omega, by omega, rfl, Lib.hid ⟨F3, p, _, _, [], [], [], ⟨#[]⟩, 0, _, _, HS3.out, rfl, rfl, rfl, rfl, rfl, ⟨rfl, Int.le_refl _, Int.le_refl _, Int.le_refl _, Int.le_refl _, rfl, rfl, by simp, by simp, by omega, by omega, by simp, rfl, rfl⟩, ⟨World.ownsRow_nil _ _ _ _, by intro g hg; cases hg⟩, ⟨World.ownsRow_nil _ _ _ _, by intro g hg; cases hg⟩, by intro g hg; cases hg⟩, HB4⟩
  case round =>
    obtain ⟨k, hk60, hkc, rfl, HI, HZ⟩ := hrel
    obtain ⟨F, p, X, D, all, done, rb, SR, news, wts, sqn, hs, rfl, rfl, rfl, rfl, rfl, hnum, hma, hmd, hap⟩ := HI.out
    have HS := Lib.hid hs
    have HNUM := Lib.hid hnum
    have HMA := Lib.hid hma
    have HMD := Lib.hid hmd
    have HAP := Lib.hid hap
    have hsq : 0 ≤ sqn ∧ sqn ≤ 120 := by have h1 := hnum.sq; have h2 := hnum.q0; have h3 := hnum.q1; omega
    have hwt : 0 ≤ wts ∧ wts ≤ 120000 := by have h1 := hnum.wq; have h2 := hnum.w0; have h3 := hnum.w1; omega
    have hnw : 0 ≤ news ∧ news ≤ 120 := by have h2 := hnum.n0; have h3 := hnum.n1; omega
    have hln : all.length ≤ 120 ∧ done.length ≤ 120 := by have h1 := hnum.al; have h2 := hnum.dl; omega
    obtain ⟨oA, oc, rfl⟩ := own_slice hma.1
    obtain ⟨nA, nc, rfl⟩ := own_slice hmd.1
    clear hs hnum hma hmd hap HI
    by_cases hgo : k < cs.length ∧ k < 120
    · obtain ⟨hlt, hlt60⟩ := hgo
      obtain ⟨b, o, bv, rfl, c0, c1, c2, hrb⟩ := HC.out.at_ k hlt
      have hbz := HCZ.out k hlt
      rw [← HS.out.keep.cell (cell_lt' c0) (by simp)] at c0
      rw [← HS.out.keep.cell (cell_lt' c1) (by simp)] at c1
      rw [← HS.out.keep.cell (cell_lt' c2) (by simp)] at c2
      have HRB := Lib.hid hrb
      obtain ⟨kind, hkind⟩ : ∃ x, x = cs[k].1 := ⟨_, rfl⟩
      obtain ⟨nn, hnn⟩ : ∃ x, x = cs[k].2.1 := ⟨_, rfl⟩
      obtain ⟨bs, hbs⟩ : ∃ x, x = cs[k].2.2 := ⟨_, rfl⟩
      rw [← hkind] at c0
      rw [← hnn] at c1
      rw [← hbs] at HRB hrb hbz
      obtain ⟨bA, bc, rfl, hb1, hb2⟩ := hrb.form
      rw [List.length_map] at c2 hb1 HRB
      unfold maxLen at hb2
      clear hkind hnn hbs hrb
      have hkk : k + 1 ≤ 120 ∧ k + 1 ≤ cs.length := ⟨by omega, by omega⟩
      go_upto_region 17 with fail
      have hW0 : Keeps [] wr (wr.alloc (.cells #[.int .i64 kind, .int .i64 nn, .slice bA bs.length bc] 49)) := (Keeps.refl _ _).alloc _
      have hCB0 := Blk.new wr 49 #[.int .i64 kind, .int .i64 nn, .slice bA bs.length bc]
      obtain ⟨cb, hcb⟩ : ∃ cb, cb = wr.heap.size := ⟨_, rfl⟩
      obtain ⟨W, hW⟩ : ∃ W, W = wr.alloc (.cells #[.int .i64 kind, .int .i64 nn, .slice bA bs.length bc] 49) := ⟨_, rfl⟩
      rw [← hW] at hW0 hCB0 ⊢
      rw [← hcb] at hCB0 ⊢
      have HCF : Hid (¬ F cb ∧ w.heap.size ≤ cb ∧ base ≤ cb) := Lib.hid ⟨fun hf => by have := HS.out.live.lt cb hf; omega, by rw [hcb]; exact HS.out.keep.size, by rw [hcb]; exact HZ.out⟩
      have HCB := Lib.hid hCB0
      have HSW := Lib.hid (HS.out.same hW0)
      have HMAW := Lib.hid (HMA.out.keeps hW0 (by simp))
      have HMDW := Lib.hid (HMD.out.keeps hW0 (by simp))
      have HZW : Hid (base ≤ W.heap.size) := Lib.hid (Nat.le_trans HZ.out hW0.size)
      have d1 : W.cell? ⟨cb, 1, none⟩ = some (.int .i64 nn) := HCB.out.cell 1
      have d2 : W.cell? ⟨cb, 2, none⟩ = some (.slice bA bs.length bc) := HCB.out.cell 2
      have d0 : W.cell? ⟨cb, 0, none⟩ = some (.int .i64 kind) := HCB.out.cell 0
      clear hW hcb hW0 hCB0 c0 c1 c2
      go_cut [71] from 47 to 71 (fun cv wx => ∃ c : Bool, cv = .bool c ∧ (c = true → 0 < all.length) ∧ W = wx)
      case first =>
        by_cases h1 : 0 < all.length
        · have h1' : 0 < (all.length : Int) := by omega
          by_cases h2 : 0 < nn.tmod 4
          · go_wp2_with fail
            go_meet
            exact ⟨_, rfl, fun _ => h1, rfl⟩
          · go_wp2_with fail
            go_meet
            exact ⟨_, rfl, fun _ => h1, rfl⟩
        · have h1' : ¬ 0 < (all.length : Int) := by omega
          go_wp2_with fail
          go_meet
          exact ⟨false, rfl, (fun h => by cases h), rfl⟩
      case rest => as_aux_lemma =>
        obtain ⟨c, rfl, hcp, rfl⟩ := hcut
        go_upto_if 71 with fail
        go_cut [17] from 47 to 80 (fun kv wx => ∃ kk : Int, kv = .int .i64 kk ∧ W = wx)
        case first =>
          cases c with
          | false =>
            go_wp2_with fail
            go_meet
            exact ⟨nn, rfl, rfl⟩
          | true =>
            have hpos : 0 < (all.length : Int) := by have := hcp rfl; omega
            obtain ⟨g, cap, hv⟩ := own_form HMAW.out.1 (by omega)
            cases hv
            have hj1 := Int.emod_nonneg nn (show (all.length : Int) ≠ 0 by omega)
            have hj2 := Int.emod_lt_of_pos nn hpos
            obtain ⟨j, hj⟩ : ∃ j : Nat, nn % (all.length : Int) = (j : Int) := ⟨(nn % (all.length : Int)).toNat, by omega⟩
            rw [hj] at hj1 hj2
            have HJ := Lib.hid hj
            have hjl : j < all.length := by omega
            have hcj := HMAW.out.1.cellAt (j * 2) (by omega)
            rw [(pcells_get all j hjl).1] at hcj
            obtain ⟨q, hq⟩ : ∃ q, q = all[j].1 := ⟨_, rfl⟩
            rw [← hq] at hcj
            clear hj hq hcp
            go_wp2_with fail
            refine (within_any nn all.length hpos (by omega)).mono ?_
            rintro e w6 ⟨rfl, rfl⟩
            rw [HJ.out]
            go_wp2_with fail
            go_meet
            exact ⟨_, rfl, rfl⟩
        case rest => as_aux_lemma =>
          obtain ⟨kk, rfl, rfl⟩ := hcut
          clear hcp
          go_wp2_with fail
          have hr1 := Int.emod_nonneg kind (show (6 : Int) ≠ 0 by omega)
          have hr2 := Int.emod_lt_of_pos kind (show (0 : Int) < 6 by omega)
          refine (within_any kind 6 (by omega) (by omega)).mono ?_
          rintro e w5 ⟨rfl, rfl⟩
          obtain ⟨r, hr⟩ : ∃ r : Nat, kind % 6 = (r : Int) := ⟨(kind % 6).toNat, by omega⟩
          rw [hr] at hr1 hr2 ⊢
          clear hr
          go_upto_block 2 with fail
          go_cut [7, 9, 10, 11, 12, 13, 14] from 47 to 259 (fun pv av dv rv sv nv tv wx => Hid (PlayInv w d base (64 + n) (k + 1) pv av dv rv sv nv tv wx) ∧ Hid (base ≤ wx.heap.size))
          case first =>
            have h05 : r = 0 ∨ r = 1 ∨ r = 2 ∨ r = 3 ∨ r = 4 ∨ r = 5 := by omega
            rcases h05 with rfl | rfl | rfl | rfl | rfl | rfl
            · as_aux_lemma =>
              by_cases h2000 : 2000 < bs.length
              · go_wp2
                go_roundw
                case rel => exact ⟨k + 1, hkk.1, hkk.2, by go_num, Lib.hid ⟨F, p, X, D, all, done, rb, SR, news, wts, sqn, HSW.out, rfl, rfl, rfl, rfl, rfl, HNUM.out.next, HMAW.out, HMDW.out, HAP.out⟩, HZW⟩
                all_goals (simp [intOf]; omega)
              · go_wp2_with fail
                refine (st_left HSW.out).mono ?_
                rintro e w5 ⟨rfl, hk5⟩
                have hlf := HSW.out.tells.left_nonneg HSW.out.live.ok
                obtain ⟨L, hL⟩ : ∃ L, L = X.left D := ⟨_, rfl⟩
                rw [← hL] at hlf ⊢
                have HL := Lib.hid hL
                have hL2 : L ≤ 1000000 := by
                  have h1 := HSW.out.tells.left HSW.out.live.ok
                  have h2 := HNUM.out.bl
                  have h3 : firstOf D.blocks = 4 := by rw [h2]; exact firstOf_mid (by omega) (by omega)
                  omega
                have HS5 := Lib.hid (HSW.out.same hk5)
                have hka : Keeps [] w5 (w5.alloc (.cells #[] 5)) := (Keeps.refl [] w5).alloc _
                have HRA := Lib.hid (HRB.out.keeps (HS5.out.keep.trans hka) (by simp))
                have HK5 := Lib.hid hk5
                have e2 : w5.cell? ⟨cb, 2, none⟩ = some (.slice bA bs.length bc) := (hk5.cell HCB.out.lt (by simp)).trans d2
                have e3 : (w5.alloc (.cells #[] 5)).cell? ⟨cb, 2, none⟩ = some (.slice bA bs.length bc) := ((hk5.trans hka).cell HCB.out.lt (by simp)).trans d2
                clear hL hk5 hka
                go_wp2_with (at_builtin; refine wpList_append_rd rfl _ _ 22 rfl w5.heap.size 5 j0 (.int .u8 0) 1 Try.underlying22 ji jz0 jz1 jz2 rfl rfl rfl (World.ownsRow_lit w5 #[] 0 (Nat.le_refl _) (by simp [maxLen]) rfl) HRA.out oneCell_u8 (by simp [maxLen]; omega) (by simp; omega) (by simp) ?_; intro mv w6 ho6 hg6 hb6)
                rw [List.length_map, Nat.zero_add, List.nil_append] at ho6
                have hk6 : Keeps [] w5 w6 := ((Keeps.refl [] w5).alloc _).grown hg6 (by intro g hg; cases hg; exact .inr (Nat.le_refl _))
                have HS6 := Lib.hid (HS5.out.same hk6)
                have HK6 := Lib.hid (HK5.out.trans hk6)
                have HMA6 := Lib.hid (HMAW.out.keeps HK6.out (by simp))
                have HMD6 := Lib.hid (HMDW.out.keeps HK6.out (by simp))
                have HR6 := Lib.hid (Rd.of_own ho6)
                have HZ6 : Hid (base ≤ w6.heap.size) := Lib.hid (Nat.le_trans HZW.out HK6.out.size)
                have e4 : w6.cell? ⟨cb, 2, none⟩ = some (.slice bA bs.length bc) := (HK6.out.cell HCB.out.lt (by simp)).trans d2
                clear ho6 hg6 hb6 hk6 d0 d1 d2 e2 e3
                by_cases h496 : 496 < bs.length
                · refine (live_alloc_long HS6.out.live HS6.out.alive HR6.out h496).mono ?_
                  rintro e w7 ⟨rfl, rfl⟩
                  go_wp2
                  go_roundw
                  case rel => exact ⟨k + 1, hkk.1, hkk.2, by go_num, Lib.hid ⟨F, p, X, D, all, done, rb, SR, news, wts, sqn, HS6.out, rfl, rfl, rfl, rfl, rfl, HNUM.out.next, HMA6.out, HMD6.out, HAP.out⟩, HZ6⟩
                  all_goals (simp [intOf]; omega)
                · by_cases hL0 : L = 0
                  · refine (live_alloc_full HS6.out.live HS6.out.alive HR6.out (by omega) (by rw [← HL.out]; exact hL0)).mono ?_
                    rintro e w7 ⟨rfl, hk7⟩
                    have e5 : w7.cell? ⟨cb, 2, none⟩ = some (.slice bA bs.length bc) := ((HK6.out.trans hk7).cell HCB.out.lt (by simp)).trans (HCB.out.cell 2)
                    have HS7 := Lib.hid (HS6.out.same hk7)
                    have HMA7 := Lib.hid (HMA6.out.keeps hk7 (by simp))
                    have HMD7 := Lib.hid (HMD6.out.keeps hk7 (by simp))
                    have HZ7 : Hid (base ≤ w7.heap.size) := Lib.hid (Nat.le_trans HZ6.out hk7.size)
                    subst hL0
                    clear hk7 e4
                    go_wp2_with fail
                    go_meet
                    exact ⟨Lib.hid ⟨F, p, X, D, all, done, rb, SR, news, wts, sqn, HS7.out, rfl, rfl, rfl, rfl, rfl, HNUM.out.next, HMA7.out, HMD7.out, HAP.out⟩, HZ7⟩
                  · have hLp : 0 < L := by omega
                    refine (st_alloc HS6.out HR6.out (by omega) (by rw [← HL.out]; exact hL0)).mono ?_
                    rintro e w7 ⟨q, X7, F7, rfl, ha7, hs7, hg7⟩
                    have hna : atIdx all q = -1 := atIdx_none (by rw [AL.has_get, HS6.out.tells.at_, ha7.void]; rfl)
                    have hnd : atIdx done q = -1 := atIdx_none (by rw [AL.has_get, HS6.out.tells.com, ha7.gone]; rfl)
                    have HNA := Lib.hid hna
                    have HND := Lib.hid hnd
                    have hq4 : 4 ≤ q := by
                      have h1 := ha7.lo
                      rw [HNUM.out.bl, firstOf_mid (by omega) (by omega)] at h1
                      exact h1
                    have hq5 : q ≤ 1000 := by
                      have h1 := ha7.hi
                      have h2 := HNUM.out.bl
                      omega
                    have HA7 := Lib.hid ha7
                    have HS7 := Lib.hid hs7
                    have HMA7 := Lib.hid (HMA6.out.grows hg7)
                    have HMD7 := Lib.hid (HMD6.out.grows hg7)
                    have HZ7 : Hid (base ≤ w7.heap.size) := Lib.hid (Nat.le_trans HZ6.out hg7.size)
                    have hcb7 : Blk w7 cb 49 #[.int .i64 kind, .int .i64 nn, .slice bA bs.length bc] := (hg7.block (HCB.out.keeps HK6.out (by simp)).lt HCF.out.1).trans (HCB.out.keeps HK6.out (by simp))
                    have e7 : w7.cell? ⟨cb, 2, none⟩ = some (.slice bA bs.length bc) := hcb7.cell 2
                    have hst := str_same HRB.out HS7.out.keep
                    clear ha7 hs7 hg7 hcb7 hna hnd e4 hL0
                    go_wp2_with fail
                    refine (at_any _ all q w7 base HMA7.out.1 (by omega)).mono ?_
                    rintro e w8 ⟨rfl, rfl⟩
                    rw [HNA.out]
                    go_wp2_with fail
                    refine (at_any _ done q w7 base HMD7.out.1 (by omega)).mono ?_
                    rintro e w8 ⟨rfl, rfl⟩
                    rw [HND.out]
                    go_wp2_with (first | fail | (at_builtin; go_must (refine wpList_append_own_at _ rfl _ _ 47 rfl base 51 i0 (.agg #[.int .i64 0, .string ⟨#[]⟩]) 2 24 Try.underlying47 hi hz0 hz1 hz2 rfl (by omega) _ _ _ (by rfl) (HMA7.out.1.alloc _) ⟨w7.heap.size, 0, none⟩ 1 1 [iv q, pstr bs] (by rfl) rfl (fun j u hu => news_lit w7 #[iv q, pstr bs] 51 j u hu) (by intro u hu; simp at hu; rcases hu with rfl | rfl <;> rfl) (by simp [maxLen]; omega) (by omega) (by have := HZ7.out; simp; omega) ?_); intro v' w8 ho8 hg8 _ hb8))
                    have hal7 : Keeps [] w7 (w7.alloc (.cells #[iv q, pstr bs] 51)) := (Keeps.refl _ _).alloc _
                    have hma8 : Mine w8 F7 base 51 2 v' (all ++ [(q, bs)]).length (pcells (all ++ [(q, bs)])) := by
                      rw [List.length_append, pcells_append]
                      exact HMA7.out.appended HS7.out.live.lt (by simp) ho8 hb8
                    have hk8 : Keeps (Value.slice oA all.length oc).ownBlock.toList w7 w8 := (hal7.mono (by simp)).grown hg8 (fun g hg => by
                      have hg' : (Value.slice oA all.length oc).ownBlock = some g := hg
                      rw [hg']; exact .inl (by simp))
                    have hnS : ∀ g, g ∈ (Value.slice oA all.length oc).ownBlock.toList → (Value.slice oA all.length oc).ownBlock = some g := by
                      intro g hg
                      cases hx : (Value.slice oA all.length oc).ownBlock with
                      | none => rw [hx] at hg; simp at hg
                      | some x => rw [hx] at hg; simp at hg; rw [hg]
                    have hs8 := HS7.out.keeps hk8 (fun g hg => ⟨HMA7.out.2 g (hnS g hg), Nat.le_trans HBW.out (own_base HMA7.out.1 g (hnS g hg))⟩)
                    have hmd8 := HMD7.out.keeps hk8 (fun g hg hm => HAP.out g (hnS g hm) hg)
                    go_meet
                    refine ⟨Lib.hid ⟨F7, p, X7, D, all ++ [(q, bs)], done, rb, SR, news + 1, wts, sqn, hs8, rfl, rfl, rfl, by go_num, rfl, HNUM.out.allocd HA7.out, hma8, hmd8, ?_⟩, Lib.hid (Nat.le_trans HZ7.out hk8.size)⟩
                    intro g hg hd2
                    rcases hb8 with hb | hb
                    · exact HAP.out g (by rw [← hb]; exact hg) hd2
                    · rw [hb] at hg
                      have h1 := own_lt HMD7.out.1 g hd2
                      simp at hg
                      omega
            · as_aux_lemma =>
              obtain ⟨hv, hhv⟩ : ∃ x, x = AL.has all kk := ⟨_, rfl⟩
              have hpos : (0 ≤ atIdx all kk) ↔ hv = true := by rw [hhv]; exact atIdx_pos
              obtain ⟨ix, hix⟩ : ∃ ix, ix = atIdx all kk := ⟨_, rfl⟩
              rw [← hix] at hpos
              have HIX := Lib.hid hix
              have HHV := Lib.hid hhv
              have HPOS := Lib.hid hpos
              clear hhv hix hpos
              go_wp2_with fail
              refine (st_free kk HSW.out).mono ?_
              rintro e w6 ⟨rfl, X6, hs6, hg6, he1, he2⟩
              rw [← HHV.out]
              have HS6 := Lib.hid hs6
              have HE6 : Hid (X6.seq = X.seq ∧ X6.root = X.root) := Lib.hid ⟨he1, he2⟩
              have HMA6 := Lib.hid (HMAW.out.grows hg6)
              have HMD6 := Lib.hid (HMDW.out.grows hg6)
              have HZ6 : Hid (base ≤ w6.heap.size) := Lib.hid (Nat.le_trans HZW.out hg6.size)
              clear hs6 hg6 he1 he2 d0 d1 d2
              cases hv with
              | false =>
                have hneg : ¬ 0 ≤ ix := by have := HPOS.out; simpa using this
                rw [if_neg (by simp)]
                go_wp2_with fail
                refine (at_any _ all kk w6 base HMA6.out.1 (by omega)).mono ?_
                rintro e w7 ⟨rfl, rfl⟩
                rw [← HIX.out]
                go_wp2_with fail
                refine (without_any _ all kk w6 base HMA6.out.1 (by omega)).mono ?_
                rintro e w7 ⟨v7, rfl, ho7, hk7⟩
                have hma7 : Mine w7 F base 51 2 v7 (AL.del all kk).length (pcells (AL.del all kk)) := ⟨ownsRow_mono ho7 HZ6.out, fun g hg hf => by have h1 := own_base ho7 g hg; have h2 := HS6.out.live.lt g hf; omega⟩
                have HMA7 := Lib.hid hma7
                have HMD7 := Lib.hid (HMD6.out.keeps hk7 (by simp))
                have HS7 := Lib.hid (HS6.out.same hk7)
                have HZ7 : Hid (base ≤ w7.heap.size) := Lib.hid (Nat.le_trans HZ6.out hk7.size)
                have HAP7 : Hid (∀ g, v7.ownBlock = some g → (Value.slice nA done.length nc).ownBlock ≠ some g) := Lib.hid (fun g hg hd2 => by have h1 := own_base ho7 g hg; have h2 := own_lt HMD6.out.1 g hd2; omega)
                clear hma7 ho7 hk7
                go_wp2_with fail
                go_meet
                exact ⟨Lib.hid ⟨F, p, X6, D, AL.del all kk, done, rb, SR, news, wts, sqn, HS7.out, rfl, rfl, rfl, rfl, rfl, HNUM.out.freed kk HE6.out.1 HE6.out.2, HMA7.out, HMD7.out, HAP7.out⟩, HZ7⟩
              | true =>
                have hneg : 0 ≤ ix := HPOS.out.2 rfl
                rw [if_pos rfl]
                go_wp2_with fail
                refine (at_any _ all kk w6 base HMA6.out.1 (by omega)).mono ?_
                rintro e w7 ⟨rfl, rfl⟩
                rw [← HIX.out]
                go_wp2_with fail
                refine (without_any _ all kk w6 base HMA6.out.1 (by omega)).mono ?_
                rintro e w7 ⟨v7, rfl, ho7, hk7⟩
                have hma7 : Mine w7 F base 51 2 v7 (AL.del all kk).length (pcells (AL.del all kk)) := ⟨ownsRow_mono ho7 HZ6.out, fun g hg hf => by have h1 := own_base ho7 g hg; have h2 := HS6.out.live.lt g hf; omega⟩
                have HMA7 := Lib.hid hma7
                have HMD7 := Lib.hid (HMD6.out.keeps hk7 (by simp))
                have HS7 := Lib.hid (HS6.out.same hk7)
                have HZ7 : Hid (base ≤ w7.heap.size) := Lib.hid (Nat.le_trans HZ6.out hk7.size)
                have HAP7 : Hid (∀ g, v7.ownBlock = some g → (Value.slice nA done.length nc).ownBlock ≠ some g) := Lib.hid (fun g hg hd2 => by have h1 := own_base ho7 g hg; have h2 := own_lt HMD6.out.1 g hd2; omega)
                clear hma7 ho7 hk7
                go_wp2_with fail
                go_meet
                exact ⟨Lib.hid ⟨F, p, X6, D, AL.del all kk, done, rb, SR, news, wts, sqn, HS7.out, rfl, rfl, rfl, rfl, rfl, HNUM.out.freed kk HE6.out.1 HE6.out.2, HMA7.out, HMD7.out, HAP7.out⟩, HZ7⟩
            · as_aux_lemma =>
              cases hgt : AL.get all kk with
              | some bq =>
                obtain ⟨j, hjl, hat, hel⟩ := atIdx_get HSW.out.tells.an hgt
                have HGT := Lib.hid hgt
                have HAT := Lib.hid hat
                have HEL : Hid ((pcells all)[j * 2 + 1]? = some (pstr bq)) := Lib.hid (by rw [(pcells_get all j hjl).2, hel])
                obtain ⟨g, cap, hv⟩ := own_form HMAW.out.1 (by omega)
                cases hv
                clear hgt hat hel
                go_wp2_with fail
                refine (st_read kk HSW.out HGT.out).mono ?_
                rintro e w6 ⟨v6, rfl, hm6, hs6, hg6⟩
                have HRD := Lib.hid (Rd.of_own hm6.1)
                obtain ⟨SQ, hSQ⟩ : ∃ SQ : ByteArray, SQ = ⟨bq.toArray⟩ := ⟨_, rfl⟩
                have hst : ∀ n, (convert 22 9 v6).run Try.prog (w6.drewN n) = .ok (.string SQ) (w6.drewN n) := fun n => by rw [hSQ]; exact str_same HRD.out ((Keeps.refl [] w6).drewN n)
                have HS6 := Lib.hid hs6
                have HMA6 := Lib.hid (HMAW.out.grows hg6)
                have HMD6 := Lib.hid (HMDW.out.grows hg6)
                have HZ6 : Hid (base ≤ w6.heap.size) := Lib.hid (Nat.le_trans HZW.out hg6.size)
                have hc1 := HMA6.out.1.cellAt (j * 2 + 1) (by omega)
                rw [HEL.out] at hc1
                have hc1' : w6.cell? ⟨g, j * 2 + 1, none⟩ = some (.string SQ) := by rw [hc1, hSQ]; rfl
                clear hm6 hs6 hg6 hSQ hc1 d0 d1 d2
                go_wp2_with fail
                refine (at_any _ all kk w6 base HMA6.out.1 (by omega)).mono ?_
                rintro e w7 ⟨rfl, rfl⟩
                rw [HAT.out]
                go_wp2_with fail
                go_quiet (fail)
                go_wp2_with fail
                have hkd : Keeps [] w6 (w6.drewN nq) := (Keeps.refl _ _).drewN _
                go_meet
                exact ⟨Lib.hid ⟨F, p, X, D, all, done, rb, SR, news, wts, sqn, HS6.out.same hkd, rfl, rfl, rfl, rfl, rfl, HNUM.out.next, HMA6.out.keeps hkd (by simp), HMD6.out.keeps hkd (by simp), HAP.out⟩, Lib.hid (Nat.le_trans HZ6.out hkd.size)⟩
              | none =>
                have hat : atIdx all kk = -1 := atIdx_none (by rw [AL.has_get, hgt]; rfl)
                have HGT := Lib.hid hgt
                have HAT := Lib.hid hat
                clear hgt hat
                go_wp2_with fail
                refine (st_read_none kk HSW.out HGT.out).mono ?_
                rintro e w6 ⟨v6, rfl, hm6, hs6, hg6⟩
                have HS6 := Lib.hid hs6
                have HMA6 := Lib.hid (HMAW.out.grows hg6)
                have HMD6 := Lib.hid (HMDW.out.grows hg6)
                have HZ6 : Hid (base ≤ w6.heap.size) := Lib.hid (Nat.le_trans HZW.out hg6.size)
                clear hm6 hs6 hg6 d0 d1 d2
                go_wp2_with fail
                refine (at_any _ all kk w6 base HMA6.out.1 (by omega)).mono ?_
                rintro e w7 ⟨rfl, rfl⟩
                rw [HAT.out]
                go_wp2_with fail
                go_quiet (fail)
                go_wp2_with fail
                have hkd : Keeps [] w6 (w6.drewN nq) := (Keeps.refl _ _).drewN _
                go_meet
                exact ⟨Lib.hid ⟨F, p, X, D, all, done, rb, SR, news, wts, sqn, HS6.out.same hkd, rfl, rfl, rfl, rfl, rfl, HNUM.out.next, HMA6.out.keeps hkd (by simp), HMD6.out.keeps hkd (by simp), HAP.out⟩, Lib.hid (Nat.le_trans HZ6.out hkd.size)⟩
            · as_aux_lemma =>
              have hka : Keeps [] W (W.alloc (.cells #[] 5)) := (Keeps.refl [] W).alloc _
              have HRA := Lib.hid (HRB.out.keeps (HSW.out.keep.trans hka) (by simp))
              have e3 : (W.alloc (.cells #[] 5)).cell? ⟨cb, 2, none⟩ = some (.slice bA bs.length bc) := (hka.cell HCB.out.lt (by simp)).trans d2
              clear hka
              go_wp2_with (at_builtin; refine wpList_append_rd rfl _ _ 22 rfl W.heap.size 5 j0 (.int .u8 0) 1 Try.underlying22 ji jz0 jz1 jz2 rfl rfl rfl (World.ownsRow_lit W #[] 0 (Nat.le_refl _) (by simp [maxLen]) rfl) HRA.out oneCell_u8 (by simp [maxLen]; omega) (by simp; omega) (by simp) ?_; intro mv w6 ho6 hg6 hb6)
              rw [List.length_map, Nat.zero_add, List.nil_append] at ho6
              have hk6 : Keeps [] W w6 := ((Keeps.refl [] W).alloc _).grown hg6 (by intro g hg; cases hg; exact .inr (Nat.le_refl _))
              have HS6 := Lib.hid (HSW.out.same hk6)
              have HK6 := Lib.hid hk6
              have HMA6 := Lib.hid (HMAW.out.keeps HK6.out (by simp))
              have HMD6 := Lib.hid (HMDW.out.keeps HK6.out (by simp))
              have HR6 := Lib.hid (Rd.of_own ho6)
              have HZ6 : Hid (base ≤ w6.heap.size) := Lib.hid (Nat.le_trans HZW.out HK6.out.size)
              have e4 : w6.cell? ⟨cb, 2, none⟩ = some (.slice bA bs.length bc) := (HK6.out.cell HCB.out.lt (by simp)).trans d2
              clear ho6 hg6 hb6 hk6 d0 d1 d2 e3
              by_cases h64 : 64 < bs.length
              · refine (live_commit_long HS6.out.live HS6.out.alive HR6.out h64).mono ?_
                rintro e w7 ⟨rfl, rfl⟩
                go_wp2
                go_roundw
                case rel => exact ⟨k + 1, hkk.1, hkk.2, by go_num, Lib.hid ⟨F, p, X, D, all, done, rb, SR, news, wts, sqn, HS6.out, rfl, rfl, rfl, rfl, rfl, HNUM.out.next, HMA6.out, HMD6.out, HAP.out⟩, HZ6⟩
                all_goals (simp [intOf]; omega)
              · refine (st_commit HS6.out HR6.out (by omega) (by have h1 := HNUM.out.q1; omega) HNUM.out.w0 (by have h1 := HNUM.out.w1; omega)).mono ?_
                rintro e w7 ⟨rfl, F7, X7, D7, hs7, hg7, hc7⟩
                have HNUM7 := Lib.hid (HNUM.out.committed HS6.out.live.ok HS6.out.tells (by omega) hc7)
                obtain ⟨hwr0, hwr1, hwr2⟩ := HNUM.out.wrote HS6.out.live.ok HS6.out.tells hc7
                rw [← HNUM.out.wq] at hwr1
                obtain ⟨wn, hwn⟩ : ∃ x, x = D7.writes := ⟨_, rfl⟩
                rw [← hwn] at hwr0 hwr1 hwr2
                have HWN := Lib.hid hwn
                have HS7 := Lib.hid hs7
                have HMA7 := Lib.hid (HMA6.out.grows hg7)
                have HZ7 : Hid (base ≤ w7.heap.size) := Lib.hid (Nat.le_trans HZ6.out hg7.size)
                have hcb7 : Blk w7 cb 49 #[.int .i64 kind, .int .i64 nn, .slice bA bs.length bc] := (hg7.block (HCB.out.keeps HK6.out (by simp)).lt HCF.out.1).trans (HCB.out.keeps HK6.out (by simp))
                have HCB7 := Lib.hid hcb7
                have e7 : w7.cell? ⟨cb, 2, none⟩ = some (.slice bA bs.length bc) := hcb7.cell 2
                have hown : (w7.alloc (.cells #[] 51)).ownsRow base 51 2 (.slice (some ⟨w7.heap.size, 0, none⟩) 0 0) 0 [] := World.ownsRow_lit w7 #[] 0 HZ7.out (by simp [maxLen]) rfl
                obtain ⟨v8, w8, hz, ho8, hg8, hb8⟩ := run_append_rows (P := Try.prog) (w7.alloc (.cells #[] 51)) base base 47 47 51 i0 (.agg #[.int .i64 0, .string ⟨#[]⟩]) 2 24 Try.underlying47 hi hz0 hz1 hz2 rfl (by omega) hown (HMA7.out.1.alloc _) oneCell_pages (by simp [maxLen]; omega) (by omega) (by have := HZ7.out; simp; omega)
                have hkw8 : Keeps [] w7 w8 := ((Keeps.refl [] w7).alloc (.cells #[] 51)).grown hg8 (fun g hg => by cases hg; exact .inr (Nat.le_refl _))
                rw [Nat.zero_add, List.nil_append] at ho8
                have hv8 : ∀ g, v8.ownBlock = some g → w7.heap.size ≤ g := fun g hg => by
                  rcases hb8 with hb | hb
                  · rw [hb] at hg; cases hg; exact Nat.le_refl _
                  · rw [hb] at hg; cases hg; simp
                have HS8 := Lib.hid (HS7.out.same hkw8)
                have HMA8 := Lib.hid (HMA7.out.keeps hkw8 (by simp))
                have HMV8 : Hid (Mine w8 F7 base 51 2 v8 all.length (pcells all)) := Lib.hid ⟨ho8, fun g hg hf => by have h1 := hv8 g hg; have h2 := HS7.out.live.lt g hf; omega⟩
                have HZ8 : Hid (base ≤ w8.heap.size) := Lib.hid (Nat.le_trans HZ7.out hkw8.size)
                have HAP8 : Hid (∀ g, (Value.slice oA all.length oc).ownBlock = some g → v8.ownBlock ≠ some g) := Lib.hid (fun g hg hv => by have h1 := hv8 g hv; have h2 := own_lt HMA7.out.1 g hg; omega)
                have e8 : w8.cell? ⟨cb, 2, none⟩ = some (.slice bA bs.length bc) := (hkw8.cell HCB7.out.lt (by simp)).trans e7
                have hst := str_same HRB.out HS8.out.keep
                clear hs7 hg7 hc7 hcb7 hown ho8 hg8 hb8 hkw8 hv8 e4 hwn
                go_wp2_with fail
                refine (st_writes HS7.out).mono ?_
                rintro e w9 ⟨rfl, rfl⟩
                rw [← HWN.out]
                go_wp2_with (first | fail | (at_builtin; go_must (refine wpList_append rfl _ _ _ _ rfl (by rfl) (by rfl) hz ?_)))
                refine (st_writes HS8.out).mono ?_
                rintro e w9 ⟨rfl, rfl⟩
                rw [← HWN.out]
                go_wp2_with fail
                go_meet
                refine ⟨Lib.hid ⟨F7, p, X7, D7, all, all, bs, ⟨bs.toArray⟩, 0, wn, sqn + 1, HS8.out, rfl, rfl, by go_num, rfl, rfl, ?_, HMA8.out, HMV8.out, HAP8.out⟩, HZ8⟩
                rw [HWN.out]; exact HNUM7.out
            · as_aux_lemma =>
              go_wp2_with fail
              refine (st_abort HSW.out).mono ?_
              rintro e w7 ⟨rfl, F7, hs7, hg7⟩
              have HS7 := Lib.hid hs7
              have HMD7 := Lib.hid (HMDW.out.grows hg7)
              have HZ7 : Hid (base ≤ w7.heap.size) := Lib.hid (Nat.le_trans HZW.out hg7.size)
              have hown : (w7.alloc (.cells #[] 51)).ownsRow base 51 2 (.slice (some ⟨w7.heap.size, 0, none⟩) 0 0) 0 [] := World.ownsRow_lit w7 #[] 0 HZ7.out (by simp [maxLen]) rfl
              obtain ⟨v8, w8, hz, ho8, hg8, hb8⟩ := run_append_rows (P := Try.prog) (w7.alloc (.cells #[] 51)) base base 47 47 51 i0 (.agg #[.int .i64 0, .string ⟨#[]⟩]) 2 24 Try.underlying47 hi hz0 hz1 hz2 rfl (by omega) hown (HMD7.out.1.alloc _) oneCell_pages (by simp [maxLen]; omega) (by omega) (by have := HZ7.out; simp; omega)
              have hkw8 : Keeps [] w7 w8 := ((Keeps.refl [] w7).alloc (.cells #[] 51)).grown hg8 (fun g hg => by cases hg; exact .inr (Nat.le_refl _))
              rw [Nat.zero_add, List.nil_append] at ho8
              have hv8 : ∀ g, v8.ownBlock = some g → w7.heap.size ≤ g := fun g hg => by
                rcases hb8 with hb | hb
                · rw [hb] at hg; cases hg; exact Nat.le_refl _
                · rw [hb] at hg; cases hg; simp
              have HS8 := Lib.hid (HS7.out.same hkw8)
              have HMD8 := Lib.hid (HMD7.out.keeps hkw8 (by simp))
              have HMV8 : Hid (Mine w8 F7 base 51 2 v8 done.length (pcells done)) := Lib.hid ⟨ho8, fun g hg hf => by have h1 := hv8 g hg; have h2 := HS7.out.live.lt g hf; omega⟩
              have HZ8 : Hid (base ≤ w8.heap.size) := Lib.hid (Nat.le_trans HZ7.out hkw8.size)
              have HAP8 : Hid (∀ g, v8.ownBlock = some g → (Value.slice nA done.length nc).ownBlock ≠ some g) := Lib.hid (fun g hg hd2 => by have h1 := hv8 g hg; have h2 := own_lt HMD7.out.1 g hd2; omega)
              clear hs7 hg7 hown ho8 hg8 hb8 hkw8 hv8 d0 d1 d2
              go_wp2_with (first | fail | (at_builtin; go_must (refine wpList_append rfl _ _ _ _ rfl (by rfl) (by rfl) hz ?_)))
              go_meet
              exact ⟨Lib.hid ⟨F7, p, X.abort D, D, done, done, rb, SR, news, wts, sqn, HS8.out, rfl, rfl, rfl, rfl, rfl, HNUM.out.back, HMV8.out, HMD8.out, HAP8.out⟩, HZ8⟩
            · as_aux_lemma =>
              go_wp2_with fail
              refine (st_open HSW.out).mono ?_
              rintro e w7 ⟨p7, F7, rfl, hs7, hg7⟩
              have HS7 := Lib.hid hs7
              have HMD7 := Lib.hid (HMDW.out.grows hg7)
              have HZ7 : Hid (base ≤ w7.heap.size) := Lib.hid (Nat.le_trans HZW.out hg7.size)
              have hown : (w7.alloc (.cells #[] 51)).ownsRow base 51 2 (.slice (some ⟨w7.heap.size, 0, none⟩) 0 0) 0 [] := World.ownsRow_lit w7 #[] 0 HZ7.out (by simp [maxLen]) rfl
              obtain ⟨v8, w8, hz, ho8, hg8, hb8⟩ := run_append_rows (P := Try.prog) (w7.alloc (.cells #[] 51)) base base 47 47 51 i0 (.agg #[.int .i64 0, .string ⟨#[]⟩]) 2 24 Try.underlying47 hi hz0 hz1 hz2 rfl (by omega) hown (HMD7.out.1.alloc _) oneCell_pages (by simp [maxLen]; omega) (by omega) (by have := HZ7.out; simp; omega)
              have hkw8 : Keeps [] w7 w8 := ((Keeps.refl [] w7).alloc (.cells #[] 51)).grown hg8 (fun g hg => by cases hg; exact .inr (Nat.le_refl _))
              rw [Nat.zero_add, List.nil_append] at ho8
              have hv8 : ∀ g, v8.ownBlock = some g → w7.heap.size ≤ g := fun g hg => by
                rcases hb8 with hb | hb
                · rw [hb] at hg; cases hg; exact Nat.le_refl _
                · rw [hb] at hg; cases hg; simp
              have HS8 := Lib.hid (HS7.out.same hkw8)
              have HMD8 := Lib.hid (HMD7.out.keeps hkw8 (by simp))
              have HMV8 : Hid (Mine w8 F7 base 51 2 v8 done.length (pcells done)) := Lib.hid ⟨ho8, fun g hg hf => by have h1 := hv8 g hg; have h2 := HS7.out.live.lt g hf; omega⟩
              have HZ8 : Hid (base ≤ w8.heap.size) := Lib.hid (Nat.le_trans HZ7.out hkw8.size)
              have HAP8 : Hid (∀ g, v8.ownBlock = some g → (Value.slice nA done.length nc).ownBlock ≠ some g) := Lib.hid (fun g hg hd2 => by have h1 := hv8 g hg; have h2 := own_lt HMD7.out.1 g hd2; omega)
              clear hs7 hg7 hown ho8 hg8 hb8 hkw8 hv8 d0 d1 d2
              go_wp2_with (first | fail | (at_builtin; go_must (refine wpList_append rfl _ _ _ _ rfl (by rfl) (by rfl) hz ?_)))
              refine (st_writes HS8.out).mono ?_
              rintro e w9 ⟨rfl, rfl⟩
              go_wp2_with fail
              go_meet
              exact ⟨Lib.hid ⟨F7, p7, X.abort D, D, done, done, rb, SR, 0, D.writes, sqn, HS8.out, rfl, rfl, rfl, rfl, rfl, HNUM.out.anew, HMV8.out, HMD8.out, HAP8.out⟩, HZ8⟩
          case rest => as_aux_lemma =>
            obtain ⟨HI2, HZ2⟩ := hcut
            clear HS HNUM HMA HMD HAP HSW HMAW HMDW HZW HCB HCF d0 d1 d2 hsq hwt hnw hln
            obtain ⟨F, p, X, D, all, done, rb, SR, news, wts, sqn, hs, rfl, rfl, rfl, rfl, rfl, hnum, hma, hmd, hap⟩ := HI2.out
            have HS := Lib.hid hs
            have HNUM := Lib.hid hnum
            have HMA := Lib.hid hma
            have HMD := Lib.hid hmd
            have HAP := Lib.hid hap
            have hsq : 0 ≤ sqn ∧ sqn ≤ 121 := by have h1 := hnum.sq; have h2 := hnum.q0; have h3 := hnum.q1; omega
            have hln : all.length ≤ 121 ∧ done.length ≤ 121 := by have h1 := hnum.al; have h2 := hnum.dl; omega
            obtain ⟨oA, oc, rfl⟩ := own_slice hma.1
            obtain ⟨nA, nc, rfl⟩ := own_slice hmd.1
            obtain ⟨L, hL⟩ : ∃ L, L = X.left D := ⟨_, rfl⟩
            have hleft : L = 60 + n - done.length - ((all.filter fun p => !AL.has done p.1).length : Nat) := by
              rw [hL, hs.tells.left hs.live.ok, hnum.bl, firstOf_mid (by omega) (by omega)]; omega
            have HLEFT := Lib.hid hleft
            have HL := Lib.hid hL
            clear hs hnum hma hmd hap HI2 hleft hL
            go_wp2_with fail
            go_loop [26, 27] (fun bo is => ∃ (j m : Nat), j ≤ all.length ∧ m ≤ j ∧ is = .int .i64 j ∧ bo = .int .i64 ((done.length : Int) + (m : Int)) ∧ Hid (m = ((all.take j).filter fun p => !AL.has done p.1).length)) (fun _ is => all.length - (intOf is).toNat)
            case atStart => exact ⟨0, 0, by omega, by omega, rfl, by simp, Lib.hid (by simp)⟩
            case round =>
              obtain ⟨j, m, hj, hmj, rfl, rfl, HM⟩ := hrel
              by_cases hlt : j < all.length
              · obtain ⟨g, cap, hv⟩ := own_form HMA.out.1 (by omega)
                cases hv
                have hcj := HMA.out.1.cellAt (j * 2) (by omega)
                rw [(pcells_get all j hlt).1] at hcj
                have HTK := Lib.hid (List.take_succ_eq_append_getElem hlt)
                obtain ⟨q, hq⟩ : ∃ q, q = all[j] := ⟨_, rfl⟩
                rw [← hq] at hcj HTK
                clear hq
                go_wp2_with fail
                refine (at_any _ done q.1 wc base HMD.out.1 (by omega)).mono ?_
                rintro e w7 ⟨rfl, rfl⟩
                cases hh : AL.has done q.1 with
                | true =>
                  have hpos : 0 ≤ atIdx done q.1 := atIdx_pos.2 hh
                  have HH := Lib.hid hh
                  clear hh
                  go_wp2
                  refine ⟨⟨j + 1, m, by omega, by omega, by go_num, rfl, Lib.hid ?_⟩, by simp [intOf]; omega⟩
                  rw [HTK.out, List.filter_append, List.filter_cons_of_neg (by rw [HH.out]; simp), List.filter_nil, List.append_nil]
                  exact HM.out
                | false =>
                  rw [atIdx_none hh]
                  have HH := Lib.hid hh
                  clear hh
                  go_wp2
                  refine ⟨⟨j + 1, m + 1, by omega, by omega, by go_num, by go_num, Lib.hid ?_⟩, by simp [intOf]; omega⟩
                  rw [HTK.out, List.filter_append, List.filter_cons_of_pos (by rw [HH.out]; rfl), List.filter_nil, List.length_append, ← HM.out]
                  rfl
              · obtain rfl : j = all.length := by omega
                have hLm : L = 60 + n - done.length - m := by
                  have h1 := HLEFT.out
                  have h2 := HM.out
                  rw [List.take_length] at h2
                  omega
                clear hj hlt
                go_wp2_with fail
                refine (st_left HS.out).mono ?_
                rintro e w6 ⟨rfl, hk6⟩
                rw [← HL.out]
                have HS6 := Lib.hid (HS.out.same hk6)
                have HMA6 := Lib.hid (HMA.out.keeps hk6 (by simp))
                have HMD6 := Lib.hid (HMD.out.keeps hk6 (by simp))
                have HZ6 : Hid (base ≤ w6.heap.size) := Lib.hid (Nat.le_trans HZ2.out hk6.size)
                clear hk6
                go_wp2_with fail
                refine (st_root HS6.out).mono ?_
                rintro e w7 ⟨v7, rfl, ho7, hk7⟩
                have hst := run_str (Rd.of_own ho7)
                rw [HNUM.out.root, ← HNUM.out.sr] at hst
                have HS7 := Lib.hid (HS6.out.same hk7)
                have HMA7 := Lib.hid (HMA6.out.keeps hk7 (by simp))
                have HMD7 := Lib.hid (HMD6.out.keeps hk7 (by simp))
                have HZ7 : Hid (base ≤ w7.heap.size) := Lib.hid (Nat.le_trans HZ6.out hk7.size)
                clear hk7 ho7
                go_wp2_with fail
                refine (st_seq HS7.out).mono ?_
                rintro e w8 ⟨rfl, rfl⟩
                rw [← HNUM.out.sq]
                go_wp2
                go_roundw
                case rel => exact ⟨k + 1, hkk.1, hkk.2, by go_num, Lib.hid ⟨F, p, X, D, all, done, rb, SR, news, wts, sqn, HS7.out, rfl, rfl, rfl, rfl, rfl, HNUM.out, HMA7.out, HMD7.out, HAP.out⟩, HZ7⟩
                all_goals (simp [intOf]; omega)
    · as_aux_lemma =>
      have hexit : ¬ k < cs.length ∨ (k < cs.length ∧ ¬ k < 120) := by omega
      have hsr : Value.string SR = pstr rb := by rw [HNUM.out.sr]; rfl
      rw [hsr]
      clear hgo hsr
      rcases hexit with hx | ⟨hx1, hx2⟩
      case' inl => go_wp2_with fail
      case' inr => go_wp2_with fail
      all_goals
        refine (holds_any _ all rb base HS.out HMA.out HNUM.out.root (fun q hq => AL.get_of_mem HS.out.tells.an hq) (by omega)).mono ?_
        rintro e w7 ⟨rfl, hs7, hg7⟩
        have HS7 := Lib.hid hs7
        clear hs7 hg7
        go_wp2
        go_ret
        exact ⟨rfl, HS7.out.keep⟩
end
end Go.Proofs.Ytebllnoeenginaa
