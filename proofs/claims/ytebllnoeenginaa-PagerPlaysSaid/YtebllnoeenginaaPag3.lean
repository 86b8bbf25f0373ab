/- The pager: Free, Read, Abort. -/
import Derived.Test.YtebllnoeenginaaPag2
namespace Go.Proofs.Ytebllnoeenginaa
open Go.RowKit

section
variable {w w' : World} {I I' : Nat → Prop} {p d m fr fd : Nat} {X : Pager} {D : Disk} {S : List Nat}
theorem AL.has_none {α : Type} {l : List (Int × α)} {k : Int} (h : AL.has l k = false) : AL.get l k = none := by
  rw [AL.has_get] at h; cases hg : AL.get l k with
  | none => rfl
  | some x => rw [hg] at h; cases h
theorem AL.has_some {α : Type} {l : List (Int × α)} {k : Int} (h : AL.has l k = true) : ∃ x, AL.get l k = some x := by
  rw [AL.has_get] at h; exact Option.isSome_iff_exists.1 h
theorem BMap.look_all {l : List (Int × List UInt8)} {q : Nat} (h : BMap w I q l) (k : Int) : ∃ v, (∀ n, (Instr.lookup 57 (.map (some q)) (.int .i64 k) true).run Try.prog (w.drewN n) = .ok (.tuple #[v, .bool (AL.has l k)]) (w.drewN n)) ∧ BytesV w I v ((AL.get l k).getD []) := by
  obtain ⟨vs, es, ck, h1, h2, h3⟩ := h.inner
  have hr : ∀ n, (Instr.lookup 57 (.map (some q)) (.int .i64 k) true).run Try.prog (w.drewN n) = .ok (.tuple #[(AL.get vs k).getD (.slice none 0 0), .bool (AL.get vs k).isSome]) (w.drewN n) := fun n => by
    have := run_imap_lookup (P := Try.prog) (h1.keeps ((Keeps.refl [] w).drewN n) (by simp)) Try.mapB Try.underlying3 (zeroBytes (w.drewN n)) k true
    rwa [if_pos rfl] at this
  cases hv : AL.get vs k with
  | none =>
    have hg := AL.get_none_of_keys h2 hv
    refine ⟨.slice none 0 0, fun n => ?_, ?_⟩
    · have := hr n; rw [hv] at this; rw [AL.has_get, hg]; exact this
    · rw [hg]; exact ⟨World.ownsRow_nil _ _ _ _, by intro g hg; cases hg⟩
  | some v =>
    obtain ⟨bs, hb, hv'⟩ := h3 k v hv
    refine ⟨v, fun n => ?_, ?_⟩
    · have := hr n; rw [hv] at this; rw [AL.has_get, hb]; exact this
    · rw [hb]; exact hv'
/-- What the pager's look at a fresh page answers. -/
theorem PagerAt.look (h : PagerAt w I p d m fr fd X D) (k : Int) : ∃ v, (Instr.lookup 57 (.map (some fr)) (.int .i64 k) true).run Try.prog w = .ok (.tuple #[v, .bool (AL.has X.fresh k)]) w ∧ BytesV w I v ((AL.get X.fresh k).getD []) := by
  obtain ⟨v, h1, h2⟩ := h.fresh.look_all k
  exact ⟨v, h1 0, h2⟩

theorem PagerAt.freshed (h : PagerAt w I p d m fr fd X D) {l : List (Int × List UInt8)} (hk : Keeps [fr] w w') (hm : BMap w' I fr l) : PagerAt w' I p d m fr fd { X with fresh := l } D := by
  obtain ⟨c, hb, hcd, h2, h3, h4, h5, h6, h7, h8⟩ := h.cells
  have hA := h.apart
  have hap : ∀ g, g ∈ [fr] → ¬ I g := by intro g hg; simp at hg; subst hg; exact h.nfr
  exact ⟨h.disk.keeps hk (by simpa using hA.dfr) (by simpa using hA.mfr) hap, ⟨c, hb.keeps hk (by simpa using hA.pfr), hcd, h2, h3, h4, h5, h6, h7.keeps hk hap, h8.keeps hk hap⟩, hm, h.freed.keeps hk (by simpa using hA.frfd.symm), h.np, h.nfr, h.nfd, h.frm, h.fdm, h.frfd⟩
theorem PagerAt.unfreed (h : PagerAt w I p d m fr fd X D) {l : List (Int × Int)} (hk : Keeps [fd] w w') (hm : NMap w' fd l) : PagerAt w' I p d m fr fd { X with freed := l } D := by
  obtain ⟨c, hb, hcd, h2, h3, h4, h5, h6, h7, h8⟩ := h.cells
  have hA := h.apart
  have hap : ∀ g, g ∈ [fd] → ¬ I g := by intro g hg; simp at hg; subst hg; exact h.nfd
  exact ⟨h.disk.keeps hk (by simpa using hA.dfd) (by simpa using hA.mfd) hap, ⟨c, hb.keeps hk (by simpa using hA.pfd), hcd, h2, h3, h4, h5, h6, h7.keeps hk hap, h8.keeps hk hap⟩, h.fresh.keeps hk (by simpa using hA.frfd) hap, hm, h.np, h.nfr, h.nfd, h.frm, h.fdm, h.frfd⟩
set_option maxRecDepth 10000 in
set_option maxHeartbeats 1000000 in
theorem free_any (k : Int) (h : PagerAt w I p d m fr fd X D) : Calls Try.prog 21 #[.pointer (some ⟨p, 0, none⟩), .int .i64 k] w fun e w' =>
    e = .returned (.int .i64 (X.free D k).1) ∧ PagerAt w' I p d m fr fd (X.free D k).2 D ∧ Keeps [fr, fd] w w' := by
  obtain ⟨c, hb, hcd, h2, h3, h4, h5, h6, h7, h8⟩ := h.cells
  subst hcd
  have c0 := pc0 hb
  have c8 := pc8 hb
  have c9 := pc9 hb
  rw [h4] at c8
  rw [h5] at c9
  obtain ⟨v, hlook, -⟩ := h.look k
  have H := Lib.hid h
  have HX : Hid (X.free D k = if D.dead then (12, X) else if AL.has X.fresh k then (0, { X with fresh := AL.del X.fresh k }) else if X.there k then (0, { X with freed := AL.put X.freed k k }) else (2, X)) := Lib.hid rfl
  clear h h2 h3 h6 h7 h8
  by_cases hd : D.dead = true
  · have HQ : Hid (X.free D k = (12, X)) := by have := HX.out; rw [if_pos hd] at this; exact Lib.hid this
    have HDd := Lib.hid hd
    clear hd
    go_enter Try.func21, Try.ntmps21
    go_wp2_with (go_at_call 22; refine (dead_any _ H.out.disk).mono ?_; rintro e w' ⟨rfl, rfl⟩; rw [HDd.out])
    go_ret
    rw [HQ.out]
    exact ⟨rfl, H.out, Keeps.refl _ _⟩
  · have hd : D.dead = false := by simpa using hd
    have HX2 := Lib.hid (HX.out.trans (if_neg (by rw [hd]; simp)))
    have HDd := Lib.hid hd
    clear hd HX
    cases hh : AL.has X.fresh k with
    | true =>
      have HQ := Lib.hid (HX2.out.trans (if_pos hh))
      rw [hh] at hlook
      obtain ⟨w2, hdel, hbm, hk2⟩ := H.out.fresh.delete H.out.nfr k
      have HM := Lib.hid hbm
      have HK := Lib.hid hk2
      clear hh hbm hk2 HX2
      go_enter Try.func21, Try.ntmps21
      go_wp2_with (go_at_call 22; refine (dead_any _ H.out.disk).mono ?_; rintro e w' ⟨rfl, rfl⟩; rw [HDd.out])
      go_ret
      rw [HQ.out]
      have hA := H.out.apart
      exact ⟨rfl, H.out.freshed HK.out HM.out, HK.out.mono (by simp)⟩
    | false =>
      have HX3 := Lib.hid (HX2.out.trans (if_neg (by rw [hh]; simp)))
      rw [hh] at hlook
      clear hh HX2
      cases ht : X.there k with
      | true =>
        have HQ := Lib.hid (HX3.out.trans (if_pos ht))
        have HT := Lib.hid ht
        obtain ⟨w2, hup, hnm, hk2⟩ := H.out.freed.update k k
        have HM := Lib.hid hnm
        have HK := Lib.hid hk2
        clear ht HX3 hnm hk2
        go_enter Try.func21, Try.ntmps21
        go_wp2_with (first | (go_at_call 22; refine (dead_any _ H.out.disk).mono ?_; rintro e w' ⟨rfl, rfl⟩; rw [HDd.out]) | (go_at_call 37; refine (there_any k H.out).mono ?_; rintro e w' ⟨rfl, rfl⟩; rw [HT.out]))
        go_ret
        rw [HQ.out]
        exact ⟨rfl, H.out.unfreed HK.out HM.out, HK.out.mono (by simp)⟩
      | false =>
        have HQ := Lib.hid (HX3.out.trans (if_neg (by rw [ht]; simp)))
        have HT := Lib.hid ht
        clear ht HX3
        go_enter Try.func21, Try.ntmps21
        go_wp2_with (first | (go_at_call 22; refine (dead_any _ H.out.disk).mono ?_; rintro e w' ⟨rfl, rfl⟩; rw [HDd.out]) | (go_at_call 37; refine (there_any k H.out).mono ?_; rintro e w' ⟨rfl, rfl⟩; rw [HT.out]))
        go_ret
        rw [HQ.out]
        exact ⟨rfl, H.out, Keeps.refl _ _⟩

set_option maxRecDepth 10000 in
set_option maxHeartbeats 1000000 in
theorem fread_any (k : Int) (h : PagerAt w I p d m fr fd X D) (hx : X.ok D) : Calls Try.prog 14 #[.pointer (some ⟨p, 0, none⟩), .int .i64 k] w fun e w' =>
    ∃ v, e = .returned (.tuple #[v, .int .i64 (X.read D k).2]) ∧ w'.ownsRow w.heap.size 5 1 v (X.read D k).1.length ((X.read D k).1.map byt) ∧ PagerAt w' I p d m fr fd X D ∧ Keeps [p] w w' := by
  obtain ⟨c, hb, hpc⟩ := h.cells
  have HPC := Lib.hid hpc
  obtain ⟨hcd, h2, h3, h4, h5, h6, h7, h8⟩ := hpc
  subst hcd
  have c0 := pc0 hb
  have c8 := pc8 hb
  rw [h4] at c8
  obtain ⟨v, hlook, hv⟩ := h.look k
  have HV := Lib.hid hv
  have H := Lib.hid h
  have HX : Hid (X.read D k = if D.dead then ([], 12) else if AL.has X.fresh k then ((AL.get X.fresh k).getD [], 0) else if X.there k then (pageOf (D.block k), 0) else ([], 2)) := Lib.hid rfl
  clear h h2 h3 h4 h5 h6 h7 h8 hv
  by_cases hd : D.dead = true
  · have HQ := Lib.hid (HX.out.trans (if_pos hd))
    have HDd := Lib.hid hd
    clear hd
    go_enter Try.func14, Try.ntmps14
    go_wp2_with (go_at_call 22; refine (dead_any _ H.out.disk).mono ?_; rintro e w' ⟨rfl, rfl⟩; rw [HDd.out])
    go_ret2
    rw [HQ.out]
    exact ⟨_, rfl, World.ownsRow_nil _ _ _ _, H.out, Keeps.refl _ _⟩
  · have hd : D.dead = false := by simpa using hd
    have HX2 := Lib.hid (HX.out.trans (if_neg (by rw [hd]; simp)))
    have HDd := Lib.hid hd
    clear hd HX
    cases hh : AL.has X.fresh k with
    | true =>
      have HQ := Lib.hid (HX2.out.trans (if_pos hh))
      rw [hh] at hlook
      have HL : Hid (((AL.get X.fresh k).getD []).length ≤ 496) := by
        obtain ⟨bs, hg⟩ := AL.has_some hh
        rw [hg]; exact Lib.hid (hx.frk k bs hg).2.2.2
      clear hh HX2
      go_enter Try.func14, Try.ntmps14
      go_wp2_with (first | (go_at_call 22; refine (dead_any _ H.out.disk).mono ?_; rintro e w' ⟨rfl, rfl⟩; rw [HDd.out]) | (go_at_call 34; refine (clone_any _ _ _ (Rd.of_own HV.out.1) oneCell_u8 (by have := HL.out; simp; omega)).mono ?_; rintro e w' ⟨v', rfl, ho, hk⟩))
      go_ret2
      rw [HQ.out]
      exact ⟨_, rfl, by simpa using ho, H.out.keeps hk (by simp) (by simp) (by simp) (by simp) (by simp) (by simp), hk.mono (by simp)⟩
    | false =>
      have HX3 := Lib.hid (HX2.out.trans (if_neg (by rw [hh]; simp)))
      rw [hh] at hlook
      clear hh HX2
      cases ht : X.there k with
      | false =>
        have HQ := Lib.hid (HX3.out.trans (if_neg (by rw [ht]; simp)))
        have HT := Lib.hid ht
        clear ht HX3
        go_enter Try.func14, Try.ntmps14
        go_wp2_with (first | (go_at_call 22; refine (dead_any _ H.out.disk).mono ?_; rintro e w' ⟨rfl, rfl⟩; rw [HDd.out]) | (go_at_call 37; refine (there_any k H.out).mono ?_; rintro e w' ⟨rfl, rfl⟩; rw [HT.out]))
        go_ret2
        rw [HQ.out]
        exact ⟨_, rfl, World.ownsRow_nil _ _ _ _, H.out, Keeps.refl _ _⟩
      | true =>
        have HQ := Lib.hid (HX3.out.trans (if_pos ht))
        have HT := Lib.hid ht
        obtain ⟨bs, hbl, hbe⟩ := hx.pg k (by unfold Pager.there at ht; simp only [Bool.and_eq_true] at ht; exact ht.1.2)
        have hkr := hx.tk k (by unfold Pager.there at ht; simp only [Bool.and_eq_true] at ht; exact ht.1.2)
        have hf0 : 2 ≤ firstOf D.blocks := by unfold firstOf mapsOf; have := hx.blo; omega
        have HF := Lib.hid hx.full
        have HRd : Hid (D.read k = (encPage bs, 0)) := by
          have h0 : ¬ (k < 0 ∨ D.blocks ≤ k) := by omega
          unfold Disk.read
          rw [HDd.out, if_neg h0, hbe]; rfl
        have HE := Lib.hid hbe
        have hel : (encPage bs).length = 512 := by unfold encPage; exact padded_length (by rw [List.length_append, putB_length]; omega)
        have HEl := Lib.hid hel
        have HG : Hid (getN ((encPage bs).take 2) = bs.length) := Lib.hid (by rw [encPage_take, getN_putB2 _ (by omega)])
        clear ht HX3 hx hbe hel hkr hf0
        go_enter Try.func14, Try.ntmps14
        have HC : Hid (((encPage bs).take (2 + bs.length)).drop 2 = bs) := by
          have := pageOf_enc hbl
          unfold pageOf at this
          rw [HG.out] at this
          rw [List.drop_take, show 2 + bs.length - 2 = bs.length from by omega]
          exact Lib.hid this
        go_wp2_with (first | (go_at_call 22; refine (dead_any _ H.out.disk).mono ?_; rintro e w' ⟨rfl, rfl⟩; rw [HDd.out]) | (go_at_call 37; refine (there_any k H.out).mono ?_; rintro e w' ⟨rfl, rfl⟩; rw [HT.out]) | (go_at_call 38; refine (pread_ok k _ hb H.out.disk HF.out H.out.np HRd.out HEl.out).mono ?_; rintro e w' ⟨g, cap, rfl, hc1, hc2, hg, ho, hb', hk⟩; unfold maxLen at hc2) | (go_at_call 39; refine (get_any _ ((encPage bs).take 2) _ (by have := (Rd.of_own ho).cut (lo := 0) (hi := 2) (by omega) (by omega); simpa [List.map_take] using this) (by simp; omega) (by rw [HG.out]; omega)).mono ?_; rintro e w'' ⟨rfl, rfl⟩; rw [HG.out]) | (go_at_call 34; refine (clone_any _ (bs.map byt) _ (by have := (Rd.of_own ho).cut (lo := 2) (hi := 2 + bs.length) (by omega) (by omega); rw [← List.map_take, ← List.map_drop, HC.out, show 2 + bs.length - 2 = bs.length from by omega] at this; exact this) oneCell_u8 (by simp; omega)).mono ?_; rintro e w'' ⟨v', rfl, ho', hk'⟩))
        go_ret2
        rw [HQ.out, HE.out]
        have hP : PagerAt w' I p c.d m fr fd X D := H.out.recell hk hb' (c' := { c with reads := wrap64 (c.reads + 1) }) HPC.out rfl rfl
        refine ⟨_, rfl, ?_, hP.keeps hk' (by simp) (by simp) (by simp) (by simp) (by simp) (by simp), hk.trans (hk'.mono (by simp))⟩
        rw [pageOf_enc hbl]
        have := ownsRow_mono ho' hk.size
        rw [List.length_map] at this
        exact this
end
end Go.Proofs.Ytebllnoeenginaa
