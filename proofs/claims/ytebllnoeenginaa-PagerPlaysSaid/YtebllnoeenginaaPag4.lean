/- The pager: Abort, Alloc. -/
import Derived.Test.YtebllnoeenginaaPag3
import Derived.Test.YtebllnoeenginaaPagP
namespace Go.Proofs.Ytebllnoeenginaa
open Go.RowKit

section
variable {w w' : World} {I I' : Nat → Prop} {p d m fr fd : Nat} {X : Pager} {D : Disk} {S : List Nat}

set_option maxRecDepth 10000 in
set_option maxHeartbeats 1000000 in
theorem abort_any (h : PagerAt w I p d m fr fd X D) (hI : ∀ k, I k → k < w.heap.size) : Calls Try.prog 24 #[.pointer (some ⟨p, 0, none⟩)] w fun e w' =>
    e = .returned (.tuple #[]) ∧ PagerAt w' I p d m w.heap.size (w.heap.size + 1) (X.abort D) D ∧ Keeps [p] w w' := by
  obtain ⟨c, hb, hpc⟩ := h.cells
  have HPC := Lib.hid hpc
  obtain ⟨hcd, h2, h3, h4, h5, h6, h7, h8⟩ := hpc
  subst hcd
  have c8 := pc8 hb
  have c9 := pc9 hb
  have c10 := pc10 hb
  have f8 := hb.frozen 8
  have f9 := hb.frozen 9
  have f10 := hb.frozen 10
  have hpl := hb.lt
  have hmm := @run_makeMap Try.prog
  have H := Lib.hid h
  have HB := Lib.hid hb
  clear h hb h2 h3 h4 h5 h6 h7 h8
  go_enter Try.func24, Try.ntmps24
  go_wp2_with (go_at_call 33; refine (first_any ((HB.out.alloc _).alloc _) (H.out.disk.keeps (((Keeps.refl [] _).alloc _).alloc _) (by simp) (by simp) (by simp))).mono ?_; rintro e w' ⟨rfl, rfl⟩)
  go_end0
  have hk1 : Keeps [p] w (((w.setCell ⟨p, 8, none⟩ (.map (some w.heap.size))).setCell ⟨p, 9, none⟩ (.map (some (w.heap.size + 1)))).setCell ⟨p, 10, none⟩ (.int .i64 (firstOf D.blocks))) :=
    (((Keeps.refl _ _).setCell (.inl (by simp)) _).setCell (.inl (by simp)) _).setCell (.inl (by simp)) _
  have hb1 : Blk (((w.setCell ⟨p, 8, none⟩ (.map (some w.heap.size))).setCell ⟨p, 9, none⟩ (.map (some (w.heap.size + 1)))).setCell ⟨p, 10, none⟩ (.int .i64 (firstOf D.blocks))) p 78
      { c with fr := .map (some w.heap.size), fd := .map (some (w.heap.size + 1)), next := firstOf D.blocks }.cells := ((HB.out.set_ 8 _).set_ 9 _).set_ 10 _
  have hz : (((w.setCell ⟨p, 8, none⟩ (.map (some w.heap.size))).setCell ⟨p, 9, none⟩ (.map (some (w.heap.size + 1)))).setCell ⟨p, 10, none⟩ (.int .i64 (firstOf D.blocks))).heap.size = w.heap.size := by simp
  generalize (((w.setCell ⟨p, 8, none⟩ (.map (some w.heap.size))).setCell ⟨p, 9, none⟩ (.map (some (w.heap.size + 1)))).setCell ⟨p, 10, none⟩ (.int .i64 (firstOf D.blocks))) = W at hk1 hb1 hz ⊢
  have ha : Keeps [] W ((W.alloc (.map #[] 0)).alloc (.map #[] 0)) := ((Keeps.refl _ _).alloc _).alloc _
  have hk2 : Keeps [p] w ((W.alloc (.map #[] 0)).alloc (.map #[] 0)) := hk1.trans (ha.mono (by simp))
  have hA := H.out.apart
  have hap : ∀ g, g ∈ [p] → ¬ I g := by intro g hg; simp at hg; subst hg; exact H.out.np
  have hnew : ∀ k, w.heap.size ≤ k → ¬ I k := fun k hk hi => by have := hI k hi; omega
  have hml := H.out.disk.mem.lt
  have m1 : BMap ((W.alloc (.map #[] 0)).alloc (.map #[] 0)) I w.heap.size [] := by
    have := (BMap.new (I := I) W).keeps ((Keeps.refl [] _).alloc (.map #[] 0)) (by simp) (by simp); rwa [hz] at this
  have m2 : NMap ((W.alloc (.map #[] 0)).alloc (.map #[] 0)) (w.heap.size + 1) [] := by
    have := NMap.new (W.alloc (.map #[] 0)); simpa [hz] using this
  refine ⟨rfl, ⟨H.out.disk.keeps hk2 (by simpa using hA.pd.symm) (by simpa using hA.pm.symm) hap, ⟨_, hb1.keeps ha (by simp), ?_⟩, m1, m2, H.out.np, hnew _ (Nat.le_refl _), hnew _ (by omega), by omega, by omega, by omega⟩, hk2⟩
  obtain ⟨g1, g2, g3, g4, g5, g6, g7, g8⟩ := HPC.out
  exact ⟨rfl, g2, g3, rfl, rfl, rfl, g7.keeps hk2 hap, g8.keeps hk2 hap⟩

/-! ### Alloc -/
set_option maxRecDepth 10000 in
set_option maxHeartbeats 1000000 in
theorem alloc_dead (v : Value) (h : PagerAt w I p d m fr fd X D) (hd : D.dead = true) : Calls Try.prog 12 #[.pointer (some ⟨p, 0, none⟩), v] w fun e w' => e = .returned (.tuple #[.int .i64 0, .int .i64 12]) ∧ w = w' := by
  obtain ⟨c, hb, rfl, -⟩ := h.cells
  have c0 := pc0 hb
  have H := Lib.hid h
  have HDd := Lib.hid hd
  clear h hb hd
  go_enter Try.func12, Try.ntmps12
  go_wp2_with (go_at_call 22; refine (dead_any _ H.out.disk).mono ?_; rintro e w' ⟨rfl, rfl⟩; rw [HDd.out])
  go_ret2
  exact ⟨rfl, rfl⟩
set_option maxRecDepth 10000 in
set_option maxHeartbeats 1000000 in
theorem alloc_long (v : Value) (bs : List UInt8) (h : PagerAt w I p d m fr fd X D) (hd : D.dead = false) (hr : Rd w v (bs.map byt)) (hl : 496 < bs.length) : Calls Try.prog 12 #[.pointer (some ⟨p, 0, none⟩), v] w fun e w' => e = .returned (.tuple #[.int .i64 0, .int .i64 5]) ∧ w = w' := by
  obtain ⟨c, hb, rfl, -⟩ := h.cells
  obtain ⟨A, n, rfl, -⟩ := hr.form
  rw [List.length_map] at *
  have c0 := pc0 hb
  have H := Lib.hid h
  have HDd := Lib.hid hd
  clear h hb hd hr
  go_enter Try.func12, Try.ntmps12
  go_wp2_with (go_at_call 22; refine (dead_any _ H.out.disk).mono ?_; rintro e w' ⟨rfl, rfl⟩; rw [HDd.out])
  go_ret2
  exact ⟨rfl, rfl⟩
set_option maxRecDepth 10000 in
set_option maxHeartbeats 1000000 in
theorem alloc_full (v : Value) (bs : List UInt8) (h : PagerAt w I p d m fr fd X D) (hx : X.ok D) (hd : D.dead = false) (hr : Rd w v (bs.map byt)) (hl : bs.length ≤ 496) (hf : X.left D = 0) :
    Calls Try.prog 12 #[.pointer (some ⟨p, 0, none⟩), v] w fun e w' => e = .returned (.tuple #[.int .i64 0, .int .i64 13]) ∧ ∃ n, w' = w.drewN n := by
  obtain ⟨c, hb, rfl, -⟩ := h.cells
  obtain ⟨A, n, rfl, -⟩ := hr.form
  rw [List.length_map] at *
  have c0 := pc0 hb
  have H := Lib.hid h
  have HDd := Lib.hid hd
  have HX := Lib.hid hx
  have HF := Lib.hid hf
  clear h hb hd hr hx hf
  go_enter Try.func12, Try.ntmps12
  go_wp2_with (first | (go_at_call 22; refine (dead_any _ H.out.disk).mono ?_; rintro e w' ⟨rfl, rfl⟩; rw [HDd.out]) | (go_at_call 18; refine (left_any H.out HX.out).mono ?_; rintro e w' ⟨rfl, n, rfl⟩; rw [HF.out]))
  go_ret2
  exact ⟨rfl, _, rfl⟩
/-- The pager's next place. -/
def nextAt (w : World) (p : Nat) : Int := match w.cell? ⟨p, 10, none⟩ with | some v => intOf v | none => 0
theorem nextAt_eq {v : Value} (h : w.cell? ⟨p, 10, none⟩ = some v) : nextAt w p = intOf v := by unfold nextAt; rw [h]
def wayTo (D : Disk) (f x : Int) : Nat := if x ≤ f then (f - x).toNat else (D.blocks - x + f - firstOf D.blocks).toNat
theorem wayTo_step {D : Disk} {f x : Int} (hx1 : firstOf D.blocks ≤ x) (hx2 : x < D.blocks) (hf1 : firstOf D.blocks ≤ f) (hf2 : f < D.blocks) (hne : x ≠ f) : wayTo D f (if x + 1 = D.blocks then firstOf D.blocks else x + 1) < wayTo D f x := by
  unfold wayTo
  repeat' split
  all_goals omega
/-- Behind the copy: the page is put into the map. -/
theorem alloc_tail {W w' : World} {x : Int} {v : Value} {bs : List UInt8} (h : PagerAt W I p d m fr fd X D) (hk : Keeps [] W w') (ho : w'.ownsRow W.heap.size 5 1 v bs.length (bs.map byt)) :
    ∃ w2, (Instr.mapUpdate 57 (.map (some fr)) (.int .i64 x) v).run Try.prog w' = .ok () w2 ∧
      Hid (PagerAt w2 (fun k => I k ∨ W.heap.size ≤ k) p d m fr fd { X with fresh := AL.put X.fresh x bs } D ∧ Keeps [fr] W w2) ∧ w2.cell? ⟨p, 8, none⟩ = some (.map (some fr)) := by
  have h' := h.keeps hk (by simp) (by simp) (by simp) (by simp) (by simp) (by simp)
  obtain ⟨c, hb, hpc⟩ := h.cells
  have hA := h.apart
  have hpl := hb.lt
  have hdl := h.disk.blk.lt
  have hml := h.disk.mem.lt
  have hrl := h.fresh.lt
  have hfl := h.freed.lt
  have ex : ∀ q, ¬ I q → q < W.heap.size → ¬ (I q ∨ W.heap.size ≤ q) := by rintro q h1 h2 (h | h); exact h1 h; omega
  obtain ⟨w2, hup, hbm, hk2⟩ := h'.fresh.update (I' := fun k => I k ∨ W.heap.size ≤ k) (fun _ => .inl) (ex _ h.nfr hrl) x (v := v) (bs := bs) ⟨own_zero ho, fun g hg => .inr (own_base ho g hg)⟩
  have hk12 : Keeps [fr] W w2 := (hk.mono (by simp)).trans hk2
  have hap : ∀ g, g ∈ [fr] → ¬ I g := by intro g hg; simp at hg; subst hg; exact h.nfr
  have hP := h'.freshed (l := AL.put X.fresh x bs) hk2
  have hbp : Blk w2 p 78 c.cells := (hb.keeps hk (by simp)).keeps hk2 (by simpa using hA.pfr)
  refine ⟨w2, hup, ⟨⟨?_, ⟨c, hbp, ?_⟩, hbm, h'.freed.keeps hk2 (by simpa using hA.frfd.symm), ex _ h.np hpl, ex _ h.nfr hrl, ex _ h.nfd hfl, h.frm, h.fdm, h.frfd⟩, hk12⟩, ?_⟩
  · exact (h.disk.keeps hk12 (by simpa using hA.dfr) (by simpa using hA.mfr) hap).mono (fun _ => .inl) (ex _ h.disk.nd hdl) (ex _ h.disk.nm hml)
  · obtain ⟨g1, g2, g3, g4, g5, g6, g7, g8⟩ := (hpc.keeps hk12 hap).mono (I' := fun k => I k ∨ W.heap.size ≤ k) (fun _ => .inl)
    exact ⟨g1, g2, g3, g4, g5, g6, g7, g8⟩
  · rw [hbp.cell 8]; show some c.fr = _; rw [hpc.2.2.2.1]
set_option maxRecDepth 100000 in
set_option maxHeartbeats 2000000 in
theorem alloc_ok (v : Value) (bs : List UInt8) (h : PagerAt w I p d m fr fd X D) (hx : X.ok D) (hd : D.dead = false) (hr : Rd w v (bs.map byt)) (hl : bs.length ≤ 496) (hf : ¬ X.left D = 0) :
    Calls Try.prog 12 #[.pointer (some ⟨p, 0, none⟩), v] w fun e w' => ∃ n x, e = .returned (.tuple #[.int .i64 n, .int .i64 0]) ∧ X.freeAt D n ∧ firstOf D.blocks ≤ x ∧ x < D.blocks ∧
      ∃ I', PagerAt w' I' p d m fr fd { X with fresh := AL.put X.fresh n bs, next := x } D ∧ Keeps [p, fr] w w' ∧ (∀ k, I k → I' k) ∧ ∀ k, I' k → I k ∨ w.heap.size ≤ k := by
  obtain ⟨c, hb, hpc⟩ := h.cells
  have HPC := Lib.hid hpc
  obtain ⟨hcd, h2, h3, h4, h5, h6, h7, h8⟩ := hpc
  subst hcd
  obtain ⟨A, n, rfl, -⟩ := hr.form
  rw [List.length_map] at *
  have c0 := pc0 hb
  obtain ⟨f, hff⟩ := hx.free_page hf
  have H := Lib.hid h
  have HDd := Lib.hid hd
  have HX := Lib.hid hx
  have HF := Lib.hid hf
  have HFF := Lib.hid hff
  have HR := Lib.hid hr
  have HRN : Hid (bs.map byt ≠ [] → ∀ g, (Value.slice A bs.length n).ownBlock = some g → g ∉ [p]) := Lib.hid (fun hne g hg => by have := h.rd_ne hr hne g hg; simp at this ⊢; exact this.1)
  have hleft : (X.left D == 0) = false := by simpa using hf
  clear h hb hd hr hx hf hff h2 h3 h4 h5 h6 h7 h8
  go_enter Try.func12, Try.ntmps12
  go_wp2_with (first | (go_at_call 22; refine (dead_any _ H.out.disk).mono ?_; rintro e w' ⟨rfl, rfl⟩; rw [HDd.out]) | (go_at_call 18; refine (left_any H.out HX.out).mono ?_; rintro e w' ⟨rfl, n, rfl⟩))
  go_loopw [6] (fun _ wr => ∃ x, PagerAt wr I p c.d m fr fd { X with next := x } D ∧ firstOf D.blocks ≤ x ∧ x < D.blocks ∧ Keeps [p] w wr) (fun _ wr => wayTo D f (nextAt wr p))
  case atStart => exact ⟨X.next, H.out.drewN _, HX.out.nlo, HX.out.nhi, (Keeps.refl _ _).drewN _⟩
  case round =>
    obtain ⟨x, hP, hx1, hx2, hK⟩ := hrel
    clear c0
    obtain ⟨c1, hb1, hpc1⟩ := hP.cells
    have HPC1 := Lib.hid hpc1
    obtain ⟨hcd1, e2, e3, e4, e5, e6, e7, e8⟩ := hpc1
    have c10 := pc10 hb1
    have f10 := hb1.frozen 10
    rw [e6] at c10
    have hB := HX.out.bhi
    have hF := HX.out.first_lo
    have hk1 : Keeps [p] wr (wr.setCell ⟨p, 10, none⟩ (.int .i64 (x + 1))) := (Keeps.refl _ _).setCell (.inl (by simp)) _
    have hb2 : Blk (wr.setCell ⟨p, 10, none⟩ (.int .i64 (x + 1))) p 78 { c1 with next := x + 1 }.cells := hb1.set_ 10 _
    have hP1 : PagerAt (wr.setCell ⟨p, 10, none⟩ (.int .i64 (x + 1))) I p c.d m fr fd { X with next := x + 1 } D := hP.recell hk1 hb2 ⟨hcd1, e2, e3, e4, e5, rfl, e7, e8⟩ rfl rfl
    have d0 := pc0 hb2
    have d8 := pc8 hb2
    have d10 := pc10 hb2
    have d6 := pc6 hb2
    simp only at d0 d8 d10 d6
    rw [hcd1] at d0
    rw [e4] at d8
    have g10 := hb2.frozen 10
    have HP1 := Lib.hid hP1
    have HD1 : Hid (∀ n, DiskAt ((wr.setCell ⟨p, 10, none⟩ (.int .i64 (x + 1))).drewN n) I c1.d m D) := Lib.hid (fun n => by rw [hcd1]; exact (hP1.drewN n).disk)
    have HB2 := Lib.hid hb2
    obtain ⟨A2, n2, htv, -⟩ := e8.form
    have hrd : Rd (wr.setCell ⟨p, 10, none⟩ (.int .i64 (x + 1))) c1.tv (X.taken.map bv) := Rd.of_own (e8.keeps hk1 (by intro g hg; simp at hg; subst hg; exact hP.np)).1
    rw [htv] at hrd d6
    have HTK := Lib.hid hrd
    have HTV := Lib.hid htv
    have HTN : Hid (X.taken.map bv ≠ [] → ∀ g, (Value.slice A2 X.taken.length n2).ownBlock = some g → g ∉ [p]) := Lib.hid (fun _ g hg => by have := e8.2 g (by rw [htv]; exact hg); simp; rintro rfl; exact hP.np this)
    have HPCW : Hid (PCof (wr.setCell ⟨p, 10, none⟩ (.int .i64 (x + 1))) I { c1 with next := firstOf D.blocks } c.d fr fd { X with next := firstOf D.blocks }) :=
      Lib.hid (by obtain ⟨q1, q2, q3, q4, q5, q6, q7, q8⟩ := HPC1.out.keeps hk1 (by intro g hg; simp at hg; subst hg; exact hP.np); exact ⟨q1, q2, q3, q4, q5, rfl, q7, q8⟩)
    clear hrd htv
    clear hP hb1 e2 e3 e5 e7 e8
    by_cases hend : x + 1 = D.blocks
    · have hendb : (x + 1 == D.blocks) = true := by simpa using hend
      have HEND := Lib.hid hend
      clear hend
      have hk2 : Keeps [p] (wr.setCell ⟨p, 10, none⟩ (.int .i64 (x + 1))) ((wr.setCell ⟨p, 10, none⟩ (.int .i64 (x + 1))).setCell ⟨p, 10, none⟩ (.int .i64 (firstOf D.blocks))) := (Keeps.refl _ _).setCell (.inl (by simp)) _
      have hb3 : Blk ((wr.setCell ⟨p, 10, none⟩ (.int .i64 (x + 1))).setCell ⟨p, 10, none⟩ (.int .i64 (firstOf D.blocks))) p 78 { c1 with next := firstOf D.blocks }.cells := HB2.out.set_ 10 _
      have hP2 : PagerAt ((wr.setCell ⟨p, 10, none⟩ (.int .i64 (x + 1))).setCell ⟨p, 10, none⟩ (.int .i64 (firstOf D.blocks))) I p c.d m fr fd { X with next := firstOf D.blocks } D := HP1.out.recell hk2 hb3 HPCW.out rfl rfl
      have HKW := Lib.hid ((hK.trans hk1).trans hk2)
      have HBW := Lib.hid hb3
      have HP2 := Lib.hid hP2
      have HTK := Lib.hid (HTK.out.keeps hk2 HTN.out)
      have e8 := pc8 hb3
      have e6 := pc6 hb3
      have e10 := pc10 hb3
      simp only at e8 e6 e10
      rw [show c1.fr = _ from e4] at e8
      rw [HTV.out] at e6
      clear hK hk1 hb2 hP1 hk2 hb3 hP2
      obtain ⟨v1, hlk, -⟩ := HP2.out.fresh.look_all x
      simp only at hlk
      cases hh : AL.has X.fresh x with
      | true =>
        simp only [hh] at hlk
        have HNE : Hid (x ≠ f) := Lib.hid (by rintro rfl; have := HFF.out.2.2.2; rw [hh] at this; cases this)
        clear hh
        go_wp2_with fail
        go_quiet ((first | (go_at_call 29; exact quiet_left (blocks_any _ (HP1.out.drewN _).disk))))
        go_wp2_with (go_at_call 33; refine (first_any (HB2.out.drewN _) (HD1.out _)).mono ?_; rintro e w' ⟨rfl, rfl⟩)
        go_roundw
        case rel => exact ⟨firstOf D.blocks, HP2.out.drewN _, Int.le_refl _, by have := HEND.out; omega, HKW.out.drewN _⟩
        case measure =>
          have := wayTo_step hx1 hx2 HFF.out.1 HFF.out.2.1 HNE.out
          rw [nextAt_eq c10, nextAt_eq (v := .int .i64 (firstOf D.blocks)) (by simpa using e10)]
          simpa [HEND.out, intOf] using this
      | false =>
        simp only [hh] at hlk
        have HFRX := Lib.hid hh
        clear hh
        obtain ⟨ad, rfl, hc⟩ := HTK.out.at_ (k := x.toNat) (by have := HX.out.len; rw [List.length_map]; omega)
        rw [List.getElem_map, ← Pager.has_lt (X := X) (by omega) (by have := HX.out.len; omega)] at hc
        have hlenX := HX.out.len
        cases ht : X.has x with
        | true =>
          rw [ht] at hc
          have HNE : Hid (x ≠ f) := Lib.hid (by rintro rfl; have := HFF.out.2.2.1; rw [ht] at this; cases this)
          clear ht
          go_wp2_with fail
          go_quiet ((first | (go_at_call 29; exact quiet_left (blocks_any _ (HP1.out.drewN _).disk))))
          go_wp2_with (go_at_call 33; refine (first_any (HB2.out.drewN _) (HD1.out _)).mono ?_; rintro e w' ⟨rfl, rfl⟩)
          go_roundw
          case rel => exact ⟨firstOf D.blocks, HP2.out.drewN _, Int.le_refl _, by have := HEND.out; omega, HKW.out.drewN _⟩
          case measure =>
            have := wayTo_step hx1 hx2 HFF.out.1 HFF.out.2.1 HNE.out
            rw [nextAt_eq c10, nextAt_eq (v := .int .i64 (firstOf D.blocks)) (by simpa using e10)]
            simpa [HEND.out, intOf] using this
        | false =>
          rw [ht] at hc
          have HHX := Lib.hid ht
          clear ht
          go_wp2_with fail
          go_quiet ((first | (go_at_call 29; exact quiet_left (blocks_any _ (HP1.out.drewN _).disk))))
          go_wp2_with (go_at_call 33; refine (first_any (HB2.out.drewN _) (HD1.out _)).mono ?_; rintro e w' ⟨rfl, rfl⟩)
          go_region_held3 (fun w' => w'.cell? ⟨p, 8, none⟩ = some (.map (some fr))) (first | go_keep | exact (hk.cell (by have := HBW.out.lt; simpa using this) (by simp)).trans (by simpa using e8))
            (first | (go_at_call 34; refine (clone_any _ (bs.map byt) _ (by first | exact Rd.keeps HR.out (HKW.out.drewN _).drew HRN.out | exact Rd.keeps HR.out (HKW.out.drewN _) HRN.out) oneCell_u8 (by simp; omega)).mono ?_; rintro e w' ⟨v', rfl, ho, hk⟩; obtain ⟨w2, hup, HU, hc1⟩ := alloc_tail (x := x) (v := v') (bs := bs) (HP2.out.drewN _).drew hk (by simpa using ho)))
          all_goals go_wp2
          all_goals go_ret2
          all_goals exact ⟨_, _, rfl, ⟨hx1, hx2, HHX.out, HFRX.out⟩, by exact Int.le_refl _, by have := HEND.out; omega, _, HU.out.1, (((HKW.out.drewN _).drew.mono (by simp)).trans (HU.out.2.mono (by simp))), fun k hk => Or.inl hk, fun k hk => by have h9 := HKW.out.size; simp at hk h9; rcases hk with h | h; exact .inl h; exact .inr (by omega)⟩
    · have hendb : (x + 1 == D.blocks) = false := by simpa using hend
      have HEND := Lib.hid hend
      clear hend
      have HKW := Lib.hid (hK.trans hk1)
      have HBW := HB2
      clear hK hk1 hb2 hP1
      obtain ⟨v1, hlk, -⟩ := HP1.out.fresh.look_all x
      simp only at hlk
      cases hh : AL.has X.fresh x with
      | true =>
        simp only [hh] at hlk
        have HNE : Hid (x ≠ f) := Lib.hid (by rintro rfl; have := HFF.out.2.2.2; rw [hh] at this; cases this)
        clear hh
        go_wp2_with fail
        go_quiet ((first | (go_at_call 29; exact quiet_left (blocks_any _ (HP1.out.drewN _).disk))))
        go_wp2_with fail
        go_roundw
        case rel => exact ⟨x + 1, HP1.out.drewN _, by omega, by have := HEND.out; omega, HKW.out.drewN _⟩
        case measure =>
          have := wayTo_step hx1 hx2 HFF.out.1 HFF.out.2.1 HNE.out
          rw [nextAt_eq c10, nextAt_eq (v := .int .i64 (x + 1)) (by simpa using d10)]
          simpa [HEND.out, intOf] using this
      | false =>
        simp only [hh] at hlk
        have HFRX := Lib.hid hh
        clear hh
        obtain ⟨ad, rfl, hc⟩ := HTK.out.at_ (k := x.toNat) (by have := HX.out.len; rw [List.length_map]; omega)
        rw [List.getElem_map, ← Pager.has_lt (X := X) (by omega) (by have := HX.out.len; omega)] at hc
        have hlenX := HX.out.len
        cases ht : X.has x with
        | true =>
          rw [ht] at hc
          have HNE : Hid (x ≠ f) := Lib.hid (by rintro rfl; have := HFF.out.2.2.1; rw [ht] at this; cases this)
          clear ht
          go_wp2_with fail
          go_quiet ((first | (go_at_call 29; exact quiet_left (blocks_any _ (HP1.out.drewN _).disk))))
          go_wp2_with fail
          go_roundw
          case rel => exact ⟨x + 1, HP1.out.drewN _, by omega, by have := HEND.out; omega, HKW.out.drewN _⟩
          case measure =>
            have := wayTo_step hx1 hx2 HFF.out.1 HFF.out.2.1 HNE.out
            rw [nextAt_eq c10, nextAt_eq (v := .int .i64 (x + 1)) (by simpa using d10)]
            simpa [HEND.out, intOf] using this
        | false =>
          rw [ht] at hc
          have HHX := Lib.hid ht
          clear ht
          go_wp2_with fail
          go_quiet ((first | (go_at_call 29; exact quiet_left (blocks_any _ (HP1.out.drewN _).disk))))
          go_wp2_with fail
          go_region_held3 (fun w' => w'.cell? ⟨p, 8, none⟩ = some (.map (some fr))) (first | go_keep | exact (hk.cell (by have := HBW.out.lt; simpa using this) (by simp)).trans (by simpa using d8))
            (first | (go_at_call 34; refine (clone_any _ (bs.map byt) _ (by first | exact Rd.keeps HR.out (HKW.out.drewN _).drew HRN.out | exact Rd.keeps HR.out (HKW.out.drewN _) HRN.out) oneCell_u8 (by simp; omega)).mono ?_; rintro e w' ⟨v', rfl, ho, hk⟩; obtain ⟨w2, hup, HU, hc1⟩ := alloc_tail (x := x) (v := v') (bs := bs) (HP1.out.drewN _).drew hk (by simpa using ho)))
          all_goals go_wp2
          all_goals go_ret2
          all_goals exact ⟨_, _, rfl, ⟨hx1, hx2, HHX.out, HFRX.out⟩, by show firstOf D.blocks ≤ x + 1; omega, by have := HEND.out; omega, _, HU.out.1, (((HKW.out.drewN _).drew.mono (by simp)).trans (HU.out.2.mono (by simp))), fun k hk => Or.inl hk, fun k hk => by have h9 := HKW.out.size; simp at hk h9; rcases hk with h | h; exact .inl h; exact .inr (by omega)⟩
end
end Go.Proofs.Ytebllnoeenginaa
