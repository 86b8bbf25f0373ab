/- pager.Commit. -/
import Derived.Test.YtebllnoeenginaaLay2
import Derived.Test.YtebllnoeenginaaPag4
namespace Go.Proofs.Ytebllnoeenginaa
open Go.RowKit

/-- slices.Clone of bools. -/
theorem cloneB_any (v : Value) (xs : List Value) (w : World) (h : Rd w v xs) (h1 : ∀ u ∈ xs, u.oneCell' = true) (hb : xs.length ≤ 140737488355328) :
    Calls Try.prog 35 #[v] w fun e w' => ∃ v', e = .returned v' ∧ w'.ownsRow w.heap.size 4 1 v' xs.length xs ∧ Keeps [] w w' := by
  obtain ⟨i0, hi, hz0, hz1, hz2⟩ := info_parts Try.infoBool
  obtain ⟨A, c, rfl, h2, h3, h4, h5⟩ := id h
  cases A with
  | none =>
    obtain ⟨rfl, rfl⟩ := h4 rfl
    have heq := fun n c n' c' => Lib.run_eql_slice_nil w 75 4 none n c n' c' Try.underlying75
    go_enter Try.func35, Try.ntmps35
    go_wp2
    go_ret
    exact ⟨_, rfl, World.ownsRow_nil _ _ _ _, Keeps.refl _ _⟩
  | some ad =>
    have heq := fun n c n' c' => Lib.run_eql_slice_nil w 75 4 (some ad) n c n' c' Try.underlying75
    have hrd : Rd (w.alloc (.cells #[] 4)) (.slice (some ad) xs.length c) xs := h.keeps ((Keeps.refl [] w).alloc _) (by simp)
    have HR := Lib.hid hrd
    have H1 := Lib.hid h1
    clear h1 hrd h h4 h5
    go_enter Try.func35, Try.ntmps35
    go_wp2_with (at_builtin; refine wpList_append_rd rfl _ _ 75 rfl w.heap.size 4 i0 (.bool false) 1 Try.underlying75 hi hz0 hz1 hz2 rfl rfl rfl (World.ownsRow_lit w #[] 0 (Nat.le_refl _) (by simp [maxLen]) rfl) HR.out H1.out (by simp; omega) (by simp; omega) (by simp) ?_; intro v' w' ho hg hb)
    go_ret
    refine ⟨_, rfl, ?_, ?_⟩
    · simpa using ho
    · exact ((Keeps.refl [] w).alloc _).grown hg (by intro g hg; cases hg; exact .inr (Nat.le_refl _))

/-! ### Places set in a row of bools -/
def setAll (t : List Bool) (ks : List Int) (b : Bool) : List Bool := ks.foldl (fun t k => t.set k.toNat b) t
theorem setAll_snoc (t : List Bool) (ks : List Int) (k : Int) (b : Bool) : setAll t (ks ++ [k]) b = (setAll t ks b).set k.toNat b := by simp [setAll]
theorem setAll_length (t : List Bool) (b : Bool) : ∀ (ks : List Int), (setAll t ks b).length = t.length := by
  intro ks
  rw [← List.reverse_reverse ks]
  induction ks.reverse with
  | nil => rfl
  | cons k l ih => rw [List.reverse_cons, setAll_snoc, List.length_set, ih]
theorem setAll_get (t : List Bool) (b : Bool) (n : Nat) : ∀ (ks : List Int), (setAll t ks b)[n]? = if ∃ k ∈ ks, k.toNat = n then t[n]?.map (fun _ => b) else t[n]? := by
  intro ks
  rw [← List.reverse_reverse ks]
  induction ks.reverse with
  | nil => simp [setAll]
  | cons k l ih =>
    rw [List.reverse_cons, setAll_snoc, List.getElem?_set, setAll_length]
    by_cases hk : k.toNat = n
    · have hE : ∃ x ∈ l.reverse ++ [k], x.toNat = n := ⟨k, by simp, hk⟩
      rw [if_pos hE, if_pos hk]
      by_cases hl : n < t.length
      · rw [List.getElem?_eq_getElem hl]; simp; omega
      · rw [List.getElem?_eq_none (by omega)]; simp; omega
    · rw [if_neg hk, ih]
      have : (∃ x ∈ l.reverse ++ [k], x.toNat = n) ↔ ∃ x ∈ l.reverse, x.toNat = n := by
        constructor
        · rintro ⟨x, hx, h⟩
          rcases List.mem_append.1 hx with hx | hx
          · exact ⟨x, hx, h⟩
          · simp at hx; subst hx; exact absurd h hk
        · rintro ⟨x, hx, h⟩; exact ⟨x, List.mem_append_left _ hx, h⟩
      simp only [this]
theorem setAll_perm {t : List Bool} {b : Bool} {ks ks' : List Int} (h : ∀ x, x ∈ ks ↔ x ∈ ks') : setAll t ks b = setAll t ks' b := by
  apply List.ext_getElem?
  intro n
  rw [setAll_get, setAll_get]
  simp only [h]

def Pager.nextTaken (X : Pager) : List Bool := setAll (setAll X.taken (X.fresh.map (·.1)) true) (X.freed.map (·.1)) false
def Pager.next_ (X : Pager) (D : Disk) (root : List UInt8) : Pager :=
  { seq := X.seq + 1, root := root, taken := X.nextTaken, many := X.many + X.fresh.length - X.freed.length, fresh := [], freed := [], next := firstOf D.blocks }
def Pager.commit (X : Pager) (D : Disk) (root : List UInt8) : Int × Pager × Disk :=
  if D.dead then (12, X, D) else if 64 < root.length then (5, X, D) else
  if (D.writeAll (X.layWrites D X.nextTaken root)).1 = 0 then (0, X.next_ D root, (D.writeAll (X.layWrites D X.nextTaken root)).2) else ((D.writeAll (X.layWrites D X.nextTaken root)).1, X, (D.writeAll (X.layWrites D X.nextTaken root)).2)

section
variable {w w' : World} {I I' : Nat → Prop} {p d m fr fd : Nat} {X : Pager} {D : Disk} {S : List Nat}
set_option maxRecDepth 10000 in
set_option maxHeartbeats 1000000 in
theorem commit_dead (v : Value) (h : PagerAt w I p d m fr fd X D) (hd : D.dead = true) : Calls Try.prog 13 #[.pointer (some ⟨p, 0, none⟩), v] w fun e w' => e = .returned (.int .i64 12) ∧ w = w' := by
  obtain ⟨c, hb, rfl, -⟩ := h.cells
  have c0 := pc0 hb
  have H := Lib.hid h
  have HDd := Lib.hid hd
  clear h hb hd
  go_enter Try.func13, Try.ntmps13
  go_wp2_with (go_at_call 22; refine (dead_any _ H.out.disk).mono ?_; rintro e w' ⟨rfl, rfl⟩; rw [HDd.out])
  go_ret
  exact ⟨rfl, rfl⟩
set_option maxRecDepth 10000 in
set_option maxHeartbeats 1000000 in
theorem commit_long (v : Value) (bs : List UInt8) (h : PagerAt w I p d m fr fd X D) (hd : D.dead = false) (hr : Rd w v (bs.map byt)) (hl : 64 < bs.length) : Calls Try.prog 13 #[.pointer (some ⟨p, 0, none⟩), v] w fun e w' => e = .returned (.int .i64 5) ∧ w = w' := by
  obtain ⟨c, hb, rfl, -⟩ := h.cells
  obtain ⟨A, n, rfl, -⟩ := hr.form
  rw [List.length_map] at *
  have c0 := pc0 hb
  have H := Lib.hid h
  have HDd := Lib.hid hd
  clear h hb hd hr
  go_enter Try.func13, Try.ntmps13
  go_wp2_with (go_at_call 22; refine (dead_any _ H.out.disk).mono ?_; rintro e w' ⟨rfl, rfl⟩; rw [HDd.out])
  go_ret
  exact ⟨rfl, rfl⟩

theorem own_form {w : World} {base size n : Nat} {e : TypeId} {v : Value} {xs : List Value} (h : w.ownsRow base e size v n xs) (hn : 0 < n) : ∃ g cap, v = .slice (some ⟨g, 0, none⟩) n cap := by
  rcases h.2 with ⟨_, h0⟩ | ⟨g, cap, _, hv, _⟩
  · omega
  · exact ⟨g, cap, hv⟩
theorem PagerAt.widen (h : PagerAt w I p d m fr fd X D) {I' : Nat → Prop} (hi : ∀ k, I k → I' k) (hn : ∀ k, I' k → I k ∨ k ∉ [p, d, m, fr, fd]) : PagerAt w I' p d m fr fd X D := by
  obtain ⟨c, hb, hpc⟩ := h.cells
  have ex : ∀ q, ¬ I q → q ∈ [p, d, m, fr, fd] → ¬ I' q := by intro q h1 h2 h3; rcases hn q h3 with h | h; exact h1 h; exact h h2
  exact ⟨h.disk.mono hi (ex _ h.disk.nd (by simp)) (ex _ h.disk.nm (by simp)), ⟨c, hb, hpc.mono hi⟩, h.fresh.mono hi, h.freed, ex _ h.np (by simp), ex _ h.nfr (by simp), ex _ h.nfd (by simp), h.frm, h.fdm, h.frfd⟩
theorem PagerAt.committed {w3 w5 : World} {D2 : Disk} {s : Int} (h : PagerAt w3 I p d m fr fd X D2) (B : Nat) (hlt : p < B ∧ d < B ∧ m < B ∧ fr < B ∧ fd < B) (hk5 : Keeps [] (w3.setCell ⟨p, 4, none⟩ (.int .i64 s)) w5) {rv tv : Value} {root : List UInt8} {T : List Bool}
    (hr : w5.ownsRow B 5 1 rv root.length (root.map byt)) (ht : w5.ownsRow B 4 1 tv T.length (T.map bv)) (mn : Int) :
    PagerAt (((w5.setCell ⟨p, 5, none⟩ rv).setCell ⟨p, 6, none⟩ tv).setCell ⟨p, 7, none⟩ (.int .i64 mn)) (fun k => (I k ∨ B ≤ k) ∧ k < (((w5.setCell ⟨p, 5, none⟩ rv).setCell ⟨p, 6, none⟩ tv).setCell ⟨p, 7, none⟩ (.int .i64 mn)).heap.size) p d m fr fd { X with seq := s, root := root, taken := T, many := mn } D2 ∧
    Keeps [p] w3 (((w5.setCell ⟨p, 5, none⟩ rv).setCell ⟨p, 6, none⟩ tv).setCell ⟨p, 7, none⟩ (.int .i64 mn)) := by
  have h1 := h.widen (I' := fun k => I k ∨ B ≤ k) (fun _ => .inl) (fun k hk => by
    rcases hk with hk | hk
    · exact .inl hk
    · refine .inr (fun hm => ?_); obtain ⟨l1, l2, l3, l4, l5⟩ := hlt; simp at hm; omega)
  obtain ⟨c, hb, hpc⟩ := h1.cells
  have hks : Keeps [p] w3 (w3.setCell ⟨p, 4, none⟩ (.int .i64 s)) := (Keeps.refl _ _).setCell (.inl (by simp)) _
  have h2 := h1.recell hks (c' := { c with seq := s }) (hb.set_ 4 _) (X' := { X with seq := s }) (by obtain ⟨g1, g2, g3, g4, g5, g6, g7, g8⟩ := hpc; exact ⟨g1, rfl, g3, g4, g5, g6, g7, g8⟩) rfl rfl
  have h3 := h2.keeps hk5 (by simp) (by simp) (by simp) (by simp) (by simp) (by simp)
  have hb3 : Blk w5 p 78 ({ c with seq := s } : PC).cells := (hb.set_ 4 _).keeps hk5 (by simp)
  have hpc3 : PCof w5 (fun k => I k ∨ B ≤ k) { c with seq := s } d fr fd { X with seq := s } := by
    have hap : ∀ g, g ∈ [p] → ¬ (I g ∨ B ≤ g) := by intro g hg; simp at hg; subst hg; exact h1.np
    obtain ⟨g1, g2, g3, g4, g5, g6, g7, g8⟩ := hpc
    exact ⟨g1, rfl, g3, g4, g5, g6, (g7.keeps hks hap).keeps hk5 (by simp), (g8.keeps hks hap).keeps hk5 (by simp)⟩
  have hkf : Keeps [p] w5 (((w5.setCell ⟨p, 5, none⟩ rv).setCell ⟨p, 6, none⟩ tv).setCell ⟨p, 7, none⟩ (.int .i64 mn)) := (((Keeps.refl _ _).setCell (.inl (by simp)) _).setCell (.inl (by simp)) _).setCell (.inl (by simp)) _
  have h4 := h3.recell hkf (c' := { c with seq := s, rv := rv, tv := tv, many := mn }) (((hb3.set_ 5 _).set_ 6 _).set_ 7 _) (X' := { X with seq := s, root := root, taken := T, many := mn }) (by
    obtain ⟨g1, g2, g3, g4, g5, g6, g7, g8⟩ := hpc3
    exact ⟨g1, rfl, rfl, g4, g5, g6, ⟨own_zero hr, fun g hg => .inr (own_base hr g hg)⟩, ⟨own_zero ht, fun g hg => .inr (own_base ht g hg)⟩⟩) rfl rfl
  exact ⟨h4.bound, (hks.trans (hk5.mono (by simp))).trans hkf⟩
theorem freed_len (hx : X.ok D) : (X.freed.length : Int) ≤ D.blocks := by
  have h1 : (X.freed.map (·.1)).length ≤ (tkeys X.taken).length := nodup_len hx.nd (fun k hk => Pager.has_tkeys.1 (hx.fdk k ((AL.has_iff _ _).2 hk)))
  have h2 : X.taken.count true ≤ X.taken.length := List.count_le_length
  have h3 := hx.len
  rw [tkeys_length] at h1
  simp at h1
  omega
theorem takes_len (X : Pager) (D : Disk) (hx : X.ok D) : X.taken.length = D.blocks.toNat := by have := hx.len; have := hx.blo; omega
set_option maxRecDepth 100000 in
set_option maxHeartbeats 4000000 in
theorem commit_ok (v : Value) (root : List UInt8) (h : PagerAt w I p d m fr fd X D) (hx : X.ok D) (hd : D.dead = false) (hr : Rd w v (root.map byt)) (hrl : root.length ≤ 64) (hI : ∀ k, I k → k < w.heap.size) :
    Calls Try.prog 13 #[.pointer (some ⟨p, 0, none⟩), v] w fun e w' => e = .returned (.int .i64 (X.commit D root).1) ∧
      ∃ I' fr' fd', PagerAt w' I' p d m fr' fd' (X.commit D root).2.1 (X.commit D root).2.2 ∧ Keeps [p, d, m] w w' ∧ (∀ k, I' k → I k ∨ w.heap.size ≤ k) ∧ (∀ k, I' k → k < w'.heap.size) ∧ (fr' = fr ∨ w.heap.size ≤ fr') ∧ (fd' = fd ∨ w.heap.size ≤ fd') := by
  obtain ⟨c, hb, hpc⟩ := h.cells
  obtain ⟨hcd, h2, h3, h4, h5, h6, h7, h8⟩ := hpc
  obtain ⟨A, n, rfl, -⟩ := hr.form
  rw [List.length_map] at *
  subst hcd
  have c0 := pc0 hb
  have c6 := pc6 hb
  have c7 := pc7 hb
  have c8 := pc8 hb
  have c9 := pc9 hb
  rw [h3] at c7
  rw [h4] at c8
  rw [h5] at c9
  obtain ⟨vs, es, ck, hm1, hm2, hm3⟩ := h.fresh.inner
  obtain ⟨es2, ck2, hn1⟩ := h.freed.inner
  have htl : X.taken.length ≤ 16384 := by have := hx.len; have := hx.bhi; omega
  have ht0 : 0 < X.taken.length := by have := hx.len; have := hx.blo; omega
  have H := Lib.hid h
  have HX := Lib.hid hx
  have HR := Lib.hid hr
  have HDd := Lib.hid hd
  have HI := Lib.hid hI
  have H8 := Lib.hid h8
  have HM1 := Lib.hid hm1
  have HM2 := Lib.hid hm2
  have HN1 := Lib.hid hn1
  have HB := Lib.hid hb
  have HE3 := Lib.hid h3
  have HE4 := Lib.hid h4
  have HE5 := Lib.hid h5
  clear h hx hr hd hI h8 hm1 hm2 hm3 hn1 hb h2 h3 h4 h5 h6 h7
  go_enter Try.func13, Try.ntmps13
  go_wp2_with (first | (go_at_call 22; refine (dead_any _ H.out.disk).mono ?_; rintro e w' ⟨rfl, rfl⟩; rw [HDd.out]) | (go_at_call 35; refine (cloneB_any _ (X.taken.map bv) w (Rd.of_own H8.out.1) oneCell_bv (by rw [List.length_map]; omega)).mono ?_; rintro e w1 ⟨tv, rfl, ho1, hk1⟩; rw [List.length_map] at ho1; obtain ⟨g, cp, rfl⟩ := own_form ho1 ht0; have HO1 := Lib.hid ho1; have HK1 := Lib.hid hk1; have c7' := pc7 (HB.out.keeps hk1 (by simp)); have c8' := pc8 (HB.out.keeps hk1 (by simp)); rw [HE3.out] at c7'; rw [HE4.out] at c8'; obtain ⟨hrg, hit⟩ := run_range_imap (P := Try.prog) (HM1.out.keeps hk1 (by simp)) Try.mapB; have HIT := Lib.hid hit; clear hit ho1 hk1))
  have hmn := HX.out.many
  have hmc : X.taken.count true ≤ X.taken.length := List.count_le_length
  have hfl : X.fresh.length ≤ 1000000 := by have := HX.out.fresh_len; have := HX.out.bhi; have := HX.out.first_lo; omega
  have hvl : vs.length = X.fresh.length := by simpa using congrArg List.length HM2.out
  have HVL := Lib.hid hvl
  have HMN : Hid (0 ≤ X.many ∧ X.many ≤ 16384) := Lib.hid ⟨by omega, by omega⟩
  clear hmn hmc hvl
  go_loopw [6] (fun many wr => ∃ done, MIter wr w1.heap.size fr vs done ∧ many = .int .i64 (X.many + done.length) ∧ Hid (wr.ownsRow w.heap.size 4 1 (.slice (some ⟨g, 0, none⟩) X.taken.length cp) X.taken.length ((setAll X.taken (done.map (·.1)) true).map bv)) ∧ Hid (Keeps [w1.heap.size, g] (w1.alloc (.mapIter (some fr) ck #[] ck)) wr)) (fun many _ => (X.many + X.fresh.length - intOf many).toNat)
  case atStart => exact ⟨[], HIT.out, by simp, Lib.hid (HO1.out.alloc _), Lib.hid (Keeps.refl _ _)⟩
  case round =>
    obtain ⟨done, hI, rfl, HO, HK⟩ := hrel
    rcases run_next_imap (P := Try.prog) hI with ⟨hn, hall, hlen⟩ | ⟨k, v, w2, hn, hent, hI2, hk1, hzw, hkl, hkd, hlt⟩
    · have HALL := Lib.hid hall
      have HI1 := Lib.hid hI
      have HLEN := Lib.hid hlen
      clear hall hI hlen
      have hglt := own_lt HO.out g rfl
      have hgge := own_base HO1.out g rfl
      have hdl : done.length = X.fresh.length := by have := HLEN.out; have := HVL.out; omega
      have hKA : Keeps [] w wr := (HK1.out.alloc _).then HK.out (fun k hk => by have := HK1.out.size; rcases List.mem_cons.1 hk with rfl | hk; exact .inr this; rw [List.mem_singleton.1 hk]; exact .inr hgge)
      have hst : setAll X.taken (done.map (·.1)) true = setAll X.taken (X.fresh.map (·.1)) true := setAll_perm (fun x => by
        rw [← HM2.out]
        constructor
        · intro hx; obtain ⟨y, hy, e⟩ := List.mem_map.1 hx; exact List.mem_map.2 ⟨y, HI1.out.mem y hy, e⟩
        · intro hx; obtain ⟨y, hy, e⟩ := List.mem_map.1 hx; exact List.mem_map.2 ⟨y, HALL.out y hy, e⟩)
      obtain ⟨T1, hT1⟩ : ∃ T1, T1 = setAll X.taken (X.fresh.map (·.1)) true := ⟨_, rfl⟩
      rw [← hT1] at hst
      rw [hst] at HO
      have HT1 := Lib.hid hT1
      rw [hdl]
      have HKA := Lib.hid hKA
      have hbA := HB.out.keeps hKA (by simp)
      have c9' := pc9 hbA
      rw [HE5.out] at c9'
      obtain ⟨hrg2, hit2⟩ := run_range_imap (P := Try.prog) (HN1.out.keeps hKA (by simp)) Try.mapI
      have HIT2 := Lib.hid hit2
      have hnl : X.freed.length ≤ 1000000 := by have := (freed_len HX.out); have := HX.out.bhi; omega
      have hm1 := HMN.out.1
      have hm2 := HMN.out.2
      clear hKA hst hT1 hbA hit2 HALL HI1 HLEN hdl hrg c7' c8' HO1
      go_wp2
      go_loopw [6] (fun many wq => ∃ done, MIter wq wr.heap.size fd (nvals X.freed) done ∧ many = .int .i64 (X.many + X.fresh.length - done.length) ∧ Hid (wq.ownsRow w.heap.size 4 1 (.slice (some ⟨g, 0, none⟩) X.taken.length cp) X.taken.length ((setAll T1 (done.map (·.1)) false).map bv)) ∧ Hid (Keeps [wr.heap.size, g] (wr.alloc (.mapIter (some fd) ck2 #[] ck2)) wq)) (fun many _ => (intOf many - X.many - X.fresh.length + X.freed.length).toNat)
      case atStart => exact ⟨[], HIT2.out, by simp, Lib.hid (HO.out.alloc _), Lib.hid (Keeps.refl _ _)⟩
      case round =>
        obtain ⟨done, hI, rfl, HO, HK⟩ := hrel
        have hnvl : (nvals X.freed).length = X.freed.length := by simp [nvals]
        rcases run_next_imap (P := Try.prog) hI with ⟨hn, hall, hlen⟩ | ⟨k, v, w2, hn, hent, hI2, hk1, hzw, hkl, hkd, hlt⟩
        · have hdl : done.length = X.freed.length := by omega
          have hKB : Keeps [] w wr := (HKA.out.alloc _).then HK.out (fun k hk => by have := HKA.out.size; rcases List.mem_cons.1 hk with rfl | hk; exact .inr this; rw [List.mem_singleton.1 hk]; exact .inr hgge)
          have hnk : (nvals X.freed).map (·.1) = X.freed.map (·.1) := by simp [nvals]
          have hst : setAll T1 (done.map (·.1)) false = X.nextTaken := by
            rw [HT1.out]
            refine setAll_perm (fun x => ?_)
            rw [← hnk]
            constructor
            · intro hx; obtain ⟨y, hy, e⟩ := List.mem_map.1 hx; exact List.mem_map.2 ⟨y, hI.mem y hy, e⟩
            · intro hx; obtain ⟨y, hy, e⟩ := List.mem_map.1 hx; exact List.mem_map.2 ⟨y, hall y hy, e⟩
          rw [hst] at HO
          rw [hdl]
          have HKB := Lib.hid hKB
          have hntl : X.nextTaken.length = X.taken.length := by unfold Pager.nextTaken; rw [setAll_length, setAll_length]
          have HNTL := Lib.hid hntl
          clear hI hall hlen hnvl hdl hKB hnk hst hntl hrg2 c9'
          have hPB := H.out.keeps HKB.out (by simp) (by simp) (by simp) (by simp) (by simp) (by simp)
          have HPB := Lib.hid hPB
          have HGN : Hid (∀ q, q < w.heap.size → q ≠ g) := Lib.hid (fun q hq => by omega)
          have hlay := lay_any (.slice (some ⟨g, 0, none⟩) X.taken.length cp) X.nextTaken (.slice A root.length n) root hPB HX.out (Rd.of_own (by rw [← HNTL.out]; rw [HNTL.out]; exact HO.out)) (HR.out.keeps HKB.out (by simp)) hrl (by have := HNTL.out; omega) (by have := HNTL.out; omega) (by intro q hq hm; cases hq; have h1 := HB.out.lt; have h2 := H.out.disk.blk.lt; have h3 := H.out.disk.mem.lt; simp at hm; omega) (fun k hk => by have h1 := HI.out k hk; have h2 := HKB.out.size; omega)
          have HLAY := Lib.hid hlay
          clear hlay hPB
          have hcm : X.commit D root = if (D.writeAll (X.layWrites D X.nextTaken root)).1 = 0 then (0, X.next_ D root, (D.writeAll (X.layWrites D X.nextTaken root)).2) else ((D.writeAll (X.layWrites D X.nextTaken root)).1, X, (D.writeAll (X.layWrites D X.nextTaken root)).2) := by
            unfold Pager.commit
            rw [HDd.out, if_neg (by simp), if_neg (by omega)]
          obtain ⟨R, hR⟩ : ∃ R, R = D.writeAll (X.layWrites D X.nextTaken root) := ⟨_, rfl⟩
          rw [← hR] at HLAY hcm
          have HCM := Lib.hid hcm
          clear hcm
          have hRb : R.2.blocks = D.blocks := by rw [hR]; exact Disk.writeAll_blocks _ _
          have HRB := Lib.hid hRb
          clear hR hRb
          by_cases he : R.1 = 0
          · have heb : (R.1 != 0) = false := by rw [he]; rfl
            have HE := Lib.hid he
            clear he
            have hs1 := HX.out.slo
            have hs2 := HX.out.shi
            have HLT : Hid (p < w.heap.size ∧ c.d < w.heap.size ∧ m < w.heap.size ∧ fr < w.heap.size ∧ fd < w.heap.size) := Lib.hid ⟨HB.out.lt, H.out.disk.blk.lt, H.out.disk.mem.lt, H.out.fresh.lt, H.out.freed.lt⟩
            have HRN : Hid (root.map byt ≠ [] → ∀ q, (Value.slice A root.length n).ownBlock = some q → q ∉ [p, c.d, m]) := Lib.hid (fun hne q hq hm => H.out.rd_ne HR.out hne q hq (List.mem_append_left [fr, fd] hm))
            go_wp2_with (first | (go_at_call 36; refine HLAY.out.mono ?_; rintro e w3 ⟨rfl, I3, hP3, hk3, hI3, hB3⟩; obtain ⟨c3, hb3, hpc3⟩ := hP3.cells; have c4' := pc4 hb3; rw [hpc3.2.1] at c4'; have f4 := hb3.frozen 4; have HP3 := Lib.hid hP3; have HB3 := Lib.hid hb3; have HK3 : Hid (Keeps [p, c.d, m] w w3) := Lib.hid ((HKB.out.mono (by simp)).trans hk3); have HKB3 := Lib.hid hk3; have HI3 := Lib.hid hI3; clear hP3 hb3 hpc3 hk3 hI3 hB3) | (go_at_call 34; refine (clone_any _ (root.map byt) _ (HR.out.keeps (HK3.out.setCell (.inl (by simp)) _) HRN.out) oneCell_u8 (by simp; omega)).mono ?_; rintro e w5 ⟨v5, rfl, ho5, hk5⟩; obtain ⟨A5, n5, rfl, -, -⟩ := (Rd.of_own ho5).form; rw [List.length_map] at ho5 ⊢; have hb5 := (HB3.out.set_ 4 _).keeps hk5 (by simp); have f5 := hb5.frozen 5; have f6 := hb5.frozen 6; have f7 := hb5.frozen 7; have k5 : w5.cell? ⟨p, 5, none⟩ = some c3.rv := hb5.cell 5; have k6 : w5.cell? ⟨p, 6, none⟩ = some c3.tv := hb5.cell 6; have k7 : w5.cell? ⟨p, 7, none⟩ = some (.int .i64 c3.many) := hb5.cell 7; have HO5 := Lib.hid ho5; have HK5 := Lib.hid hk5; clear ho5 hk5 hb5) | (go_at_call 24; obtain ⟨hPF, hKF⟩ := PagerAt.committed (s := X.seq + 1) HP3.out w.heap.size HLT.out HK5.out (root := root) (T := X.nextTaken) (rv := .slice A5 root.length n5) (tv := .slice (some ⟨g, 0, none⟩) X.taken.length cp) (ownsRow_mono HO5.out (by have := HK3.out.size; simp; omega)) (by rw [HNTL.out]; exact HK5.out.own (((HKB3.out.setCell (.inl (by simp)) _)).own (ownsRow_mono HO.out (Nat.le_refl _)) (by intro q hq hm; cases hq; have h1 := HLT.out; simp at hm; omega)) (by simp)) (X.many + X.fresh.length - X.freed.length); refine (abort_any hPF (fun k hk => hk.2)).mono ?_; rintro e w6 ⟨rfl, hP6, hk6⟩))
            go_ret
            rw [HCM.out, if_pos HE.out]
            have hz5 : w.heap.size ≤ w5.heap.size := by have h1 := HK3.out.size; have h2 := HK5.out.size; simp at h2; omega
            have e1 : ({ X with seq := X.seq + 1, root := root, taken := X.nextTaken, many := X.many + X.fresh.length - X.freed.length } : Pager).abort R.2 = X.next_ D root := by unfold Pager.abort Pager.next_; rw [HRB.out]
            rw [e1] at hP6
            refine ⟨rfl, _, _, _, hP6, (HK3.out.trans (hKF.mono (by simp))).trans (hk6.mono (by simp)), ?_, ?_, .inr ?_, .inr ?_⟩
            · rintro k ⟨h1 | h1, -⟩
              · rcases HI3.out k h1 with h | h
                · exact .inl h
                · have := HKB.out.size; exact .inr (by omega)
              · exact .inr h1
            · rintro k ⟨-, h1⟩; have := hk6.size; omega
            · simpa using hz5
            · simp; omega
          · have heb : (R.1 != 0) = true := by rw [bne_iff_ne]; exact he
            have HE := Lib.hid he
            clear he
            go_wp2_with (go_at_call 36; refine HLAY.out.mono ?_; rintro e w3 ⟨rfl, hL3⟩)
            go_ret
            rw [HCM.out, if_neg HE.out]
            obtain ⟨I3, g1, g2, g3, g4⟩ := hL3
            exact ⟨rfl, I3, fr, fd, g1, (HKB.out.mono (by simp)).trans g2, fun k hk => by rcases g3 k hk with h | h; exact .inl h; have := HKB.out.size; exact .inr (by omega), g4, .inl rfl, .inl rfl⟩
        · have HI2 := Lib.hid hI2
          have hkk : k ∈ X.freed.map (·.1) := by
            have : k ∈ (nvals X.freed).map (·.1) := List.mem_map_of_mem (f := fun p : Int × Value => p.1) hkl
            rwa [show (nvals X.freed).map (·.1) = X.freed.map (·.1) by simp [nvals]] at this
          have hkr := HX.out.tk k (HX.out.fdk k ((AL.has_iff _ _).2 hkk))
          have hfl0 := HX.out.first_lo
          have hln := HX.out.len
          obtain ⟨kn, rfl⟩ : ∃ kn : Nat, k = (kn : Int) := ⟨k.toNat, by omega⟩
          have hkn : kn < X.taken.length := by omega
          have hT1l : T1.length = X.taken.length := by rw [HT1.out, setAll_length]
          have hol := hk1.own HO.out (by intro q hq; cases hq; simp; omega)
          have hfB := hol.frozenAt kn
          have hcB := hol.cellAt kn (by omega)
          obtain ⟨bo, hbo⟩ : ∃ x, (setAll T1 (done.map (·.1)) false)[kn]? = some x := ⟨_, List.getElem?_eq_getElem (by rw [setAll_length, hT1l]; exact hkn)⟩
          rw [List.getElem?_map, hbo] at hcB
          have hfrl := H.out.freed.lt
          have HO2 := Lib.hid hol
          have HK2 := Lib.hid (HK.out.trans (hk1.mono (by simp)))
          have hdl : done.length < X.freed.length := by omega
          clear hI hI2 hk1 hkl hkd hlt hol hkr hfl0 hln hkk hzw HO HK hbo hT1l hnvl c9' hrg2
          go_wp2
          have hst := HO2.out.stored kn (bv false)
          refine ⟨⟨done ++ [((kn : Int), v)], HI2.out.keeps (((Keeps.refl [g] _)).setCell (.inl (by simp)) _) (by simp; omega) (by simp; omega), by simp; omega, Lib.hid ?_, Lib.hid (HK2.out.setCell (.inl (by simp)) _)⟩, by simp [intOf]; omega⟩
          rw [List.map_append, List.map_cons, List.map_nil, setAll_snoc, List.map_set]
          exact hst.1
    · have HI2 := Lib.hid hI2
      have hkk : k ∈ X.fresh.map (·.1) := by rw [← HM2.out]; exact List.mem_map_of_mem (f := fun p : Int × Value => p.1) hkl
      obtain ⟨bs, hg⟩ := AL.get_of_key hkk
      have hkr := HX.out.frk k bs hg
      have hfl0 := HX.out.first_lo
      have hln := HX.out.len
      obtain ⟨kn, rfl⟩ : ∃ kn : Nat, k = (kn : Int) := ⟨k.toNat, by omega⟩
      have hkn : kn < X.taken.length := by omega
      have hgg := own_base HO1.out g rfl
      have hglt := own_lt HO1.out g rfl
      have hol := hk1.own HO.out (by intro q hq; cases hq; simp; omega)
      have hfB := hol.frozenAt kn
      have hcB := hol.cellAt kn (by omega)
      obtain ⟨bo, hbo⟩ : ∃ x, (setAll X.taken (done.map (·.1)) true)[kn]? = some x := ⟨_, List.getElem?_eq_getElem (by rw [setAll_length]; exact hkn)⟩
      rw [List.getElem?_map, hbo] at hcB
      have hfrl := H.out.fresh.lt
      have HO2 := Lib.hid hol
      have HK2 : Hid (Keeps [w1.heap.size, g] (w1.alloc (.mapIter (some fr) ck #[] ck)) w2) := Lib.hid (HK.out.trans (hk1.mono (by simp)))
      have hdl : done.length < X.fresh.length := by have := HVL.out; omega
      have hm1 := HMN.out.1
      have hm2 := HMN.out.2
      clear hI hI2 hk1 hkl hkd hlt hol hkr hfl0 hln hkk hg hzw HO HK hbo
      go_wp2
      have hst := HO2.out.stored kn (bv true)
      refine ⟨⟨done ++ [((kn : Int), v)], HI2.out.keeps (((Keeps.refl [g] _)).setCell (.inl (by simp)) _) (by simp; omega) (by simp; omega), by simp; omega, Lib.hid ?_, Lib.hid (HK2.out.setCell (.inl (by simp)) _)⟩, by simp [intOf]; omega⟩
      rw [List.map_append, List.map_cons, List.map_nil, setAll_snoc, List.map_set]
      exact hst.1
end
end Go.Proofs.Ytebllnoeenginaa
