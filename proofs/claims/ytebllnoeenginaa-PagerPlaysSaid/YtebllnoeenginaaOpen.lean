/- pager.Open. -/
import Derived.Test.YtebllnoeenginaaOnce4
import Derived.Test.YtebllnoeenginaaImg
namespace Go.Proofs.Ytebllnoeenginaa
open Go.RowKit
section
variable {w w' : World} {I : Nat → Prop} {d m : Nat} {D : Disk} {S : List Nat}
set_option maxRecDepth 100000 in
set_option maxHeartbeats 1600000 in
theorem open_small (h : DiskAt w I d m D) (hbl : D.blocks < 64) : Calls Try.prog 11 #[.pointer (some ⟨d, 0, none⟩)] w fun e w' => e = .returned (.tuple #[.pointer none, .int .i64 1]) ∧ w = w' := by
  have H := Lib.hid h
  clear h
  go_enter Try.func11, Try.ntmps11
  go_wp2_with (first | (go_at_call 29; refine (blocks_any _ H.out).mono ?_; rintro e w' ⟨rfl, rfl⟩))
  go_ret2
  exact ⟨rfl, rfl⟩
set_option maxRecDepth 10000 in
set_option maxHeartbeats 1000000 in
/-- Abort where the pager has no maps yet. -/
theorem abort_raw {p : Nat} {c : PC} {X : Pager} (hb : Blk w p 78 c.cells) (hd : DiskAt w I c.d m D) (hp : ¬ I p) (hI : ∀ k, I k → k < w.heap.size) (e1 : c.seq = X.seq) (e2 : c.many = X.many) (hr : BytesV w I c.rv X.root) (ht : BoolsV w I c.tv X.taken) :
    Calls Try.prog 24 #[.pointer (some ⟨p, 0, none⟩)] w fun e w' => e = .returned (.tuple #[]) ∧ PagerAt w' I p c.d m w.heap.size (w.heap.size + 1) (X.abort D) D ∧ Keeps [p] w w' := by
  have c8 := pc8 hb
  have c9 := pc9 hb
  have c10 := pc10 hb
  have f8 := hb.frozen 8
  have f9 := hb.frozen 9
  have f10 := hb.frozen 10
  have hpl := hb.lt
  have hmm := @run_makeMap Try.prog
  have hpd : p ≠ c.d := hb.ne_ hd.blk (by decide)
  have hpm : p ≠ m := hd.mem.ne_blk hb
  have HD := Lib.hid hd
  have HB := Lib.hid hb
  have HR := Lib.hid hr
  have HT := Lib.hid ht
  have HPP := Lib.hid hp
  have HE1 := Lib.hid e1
  have HE2 := Lib.hid e2
  have HII := Lib.hid hI
  have HPD : Hid (p ≠ c.d ∧ p ≠ m) := Lib.hid ⟨hpd, hpm⟩
  clear hb hd hr ht hp e1 e2 hI hpd hpm
  go_enter Try.func24, Try.ntmps24
  go_wp2_with (go_at_call 33; refine (first_any ((HB.out.alloc _).alloc _) (HD.out.keeps (((Keeps.refl [] _).alloc _).alloc _) (by simp) (by simp) (by simp))).mono ?_; rintro e w' ⟨rfl, rfl⟩)
  go_end0
  have hk1 : Keeps [p] w (((w.setCell ⟨p, 8, none⟩ (.map (some w.heap.size))).setCell ⟨p, 9, none⟩ (.map (some (w.heap.size + 1)))).setCell ⟨p, 10, none⟩ (.int .i64 (firstOf D.blocks))) :=
    (((Keeps.refl _ _).setCell (.inl (by simp)) _).setCell (.inl (by simp)) _).setCell (.inl (by simp)) _
  have hb1 : Blk (((w.setCell ⟨p, 8, none⟩ (.map (some w.heap.size))).setCell ⟨p, 9, none⟩ (.map (some (w.heap.size + 1)))).setCell ⟨p, 10, none⟩ (.int .i64 (firstOf D.blocks))) p 78
      { c with fr := .map (some w.heap.size), fd := .map (some (w.heap.size + 1)), next := firstOf D.blocks }.cells := ((HB.out.set_ 8 _).set_ 9 _).set_ 10 _
  have hz : (((w.setCell ⟨p, 8, none⟩ (.map (some w.heap.size))).setCell ⟨p, 9, none⟩ (.map (some (w.heap.size + 1)))).setCell ⟨p, 10, none⟩ (.int .i64 (firstOf D.blocks))).heap.size = w.heap.size := by simp
  generalize (((w.setCell ⟨p, 8, none⟩ (.map (some w.heap.size))).setCell ⟨p, 9, none⟩ (.map (some (w.heap.size + 1)))).setCell ⟨p, 10, none⟩ (.int .i64 (firstOf D.blocks))) = W at hk1 hb1 hz ⊢
  have ha : Keeps [] W ((W.alloc (.map #[] 0)).alloc (.map #[] 0)) := ((Keeps.refl _ _).alloc _).alloc _
  have hk2 : Keeps [p] w ((W.alloc (.map #[] 0)).alloc (.map #[] 0)) := hk1.trans (ha.mono (by simp))
  have hap : ∀ g, g ∈ [p] → ¬ I g := by intro g hg; simp at hg; subst hg; exact HPP.out
  have hnew : ∀ k, w.heap.size ≤ k → ¬ I k := fun k hk hi => by have := HII.out k hi; omega
  have hml := HD.out.mem.lt
  have m1 : BMap ((W.alloc (.map #[] 0)).alloc (.map #[] 0)) I w.heap.size [] := by
    have := (BMap.new (I := I) W).keeps ((Keeps.refl [] _).alloc (.map #[] 0)) (by simp) (by simp); rwa [hz] at this
  have m2 : NMap ((W.alloc (.map #[] 0)).alloc (.map #[] 0)) (w.heap.size + 1) [] := by
    have := NMap.new (W.alloc (.map #[] 0)); simpa [hz] using this
  refine ⟨rfl, ⟨HD.out.keeps hk2 (by have := HPD.out.1; simp; omega) (by have := HPD.out.2; simp; omega) hap, ⟨_, hb1.keeps ha (by simp), ?_⟩, m1, m2, HPP.out, hnew _ (Nat.le_refl _), hnew _ (by omega), by omega, by omega, by omega⟩, hk2⟩
  exact ⟨rfl, HE1.out, HE2.out, rfl, rfl, rfl, HR.out.keeps hk2 hap, HT.out.keeps hk2 hap⟩
/-- The cells of a pager that Open has just made; the world in which its Once is done. -/
def PC.made (d : Nat) : PC := { d := d, u1 := 0, u2 := 0, u3 := 0, seq := 0, rv := .slice none 0 0, tv := .slice none 0 0, many := 0, fr := .map none, fd := .map none, next := 0, reads := 0, does := 0 }
def W3 (w : World) (d : Nat) : World := ((w.alloc (.cells (PC.made d).cells 78)).alloc (.cells #[.pointer (some ⟨w.heap.size, 0, none⟩)] 28)).alloc (.cells #[.int .i64 0] 25)
theorem W3.size (w : World) (d : Nat) : (W3 w d).heap.size = w.heap.size + 3 := by simp [W3]
theorem W3.keeps (w : World) (d : Nat) : Keeps [] w (W3 w d) := (((Keeps.refl _ _).alloc _).alloc _).alloc _
theorem W3.pager (w : World) (d : Nat) : Blk (W3 w d) w.heap.size 78 (PC.made d).cells := ((Blk.new w _ _).alloc _).alloc _
theorem W3.ptr (w : World) (d : Nat) : Blk (W3 w d) (w.heap.size + 1) 28 #[.pointer (some ⟨w.heap.size, 0, none⟩)] := by
  have := (Blk.new (w.alloc (.cells (PC.made d).cells 78)) 28 #[.pointer (some ⟨w.heap.size, 0, none⟩)]).alloc (.cells #[.int .i64 0] 25)
  simpa [W3] using this
theorem W3.err (w : World) (d : Nat) : Blk (W3 w d) (w.heap.size + 1 + 1) 25 #[.int .i64 0] := by
  have := Blk.new ((w.alloc (.cells (PC.made d).cells 78)).alloc (.cells #[.pointer (some ⟨w.heap.size, 0, none⟩)] 28)) 25 #[.int .i64 0]
  simpa [W3] using this

/-- The world in which Once calls the closure: the lock is held. -/
def W4 (w : World) (d : Nat) : World := (W3 w d).setCell ⟨w.heap.size, 1 + 1, none⟩ (.int .i32 1)
theorem W4.keeps (w : World) (d : Nat) : Keeps [] w (W4 w d) := (W3.keeps w d).setCell (.inr (Nat.le_refl _)) _
theorem W4.pager (w : World) (d : Nat) : Blk (W4 w d) w.heap.size 78 ({ PC.made d with u2 := 1 } : PC).cells := (W3.pager w d).set_ 2 _
theorem W4.size (w : World) (d : Nat) : (W4 w d).heap.size = w.heap.size + 3 := by unfold W4; simp [W3.size]
theorem W4.ptr (w : World) (d : Nat) : Blk (W4 w d) (w.heap.size + 1) 28 #[.pointer (some ⟨w.heap.size, 0, none⟩)] := (W3.ptr w d).far (by simp) _
theorem W4.err (w : World) (d : Nat) : Blk (W4 w d) (w.heap.size + 1 + 1) 25 #[.int .i64 0] := (W3.err w d).far (by simp; omega) _
/-- What stands behind the Once. -/
def Opened (w : World) (_ : Nat) (E : Int) (c : PC) (w' : World) : Prop :=
  Blk w' w.heap.size 78 c.cells ∧ Keeps [] w w' ∧ Blk w' (w.heap.size + 1) 28 #[.pointer (some ⟨w.heap.size, 0, none⟩)] ∧ Blk w' (w.heap.size + 1 + 1) 25 #[.int .i64 E]

theorem opened_of {d : Nat} {E : Int} {c : PC} {w1 : World} (hb : Blk w1 w.heap.size 78 c.cells) (hk : Keeps [w.heap.size] (W4 w d) w1) :
    Opened w d E { c with u1 := 1, u2 := 0 } (((w1.setCell ⟨w.heap.size + 1 + 1, 0, none⟩ (.int .i64 E)).drew.setCell ⟨w.heap.size, 1, none⟩ (.int .u32 1)).setCell ⟨w.heap.size, 1 + 1, none⟩ (.int .i32 0)) ∧
    Keeps [w.heap.size, w.heap.size + 1 + 1] w1 (((w1.setCell ⟨w.heap.size + 1 + 1, 0, none⟩ (.int .i64 E)).drew.setCell ⟨w.heap.size, 1, none⟩ (.int .u32 1)).setCell ⟨w.heap.size, 1 + 1, none⟩ (.int .i32 0)) := by
  have hp := (W4.ptr w d).keeps hk (by simp)
  have he := (W4.err w d).keeps hk (by simp; omega)
  have hkk : Keeps [w.heap.size, w.heap.size + 1 + 1] w1 (((w1.setCell ⟨w.heap.size + 1 + 1, 0, none⟩ (.int .i64 E)).drew.setCell ⟨w.heap.size, 1, none⟩ (.int .u32 1)).setCell ⟨w.heap.size, 1 + 1, none⟩ (.int .i32 0)) :=
    ((((Keeps.refl _ _).setCell (.inl (by simp)) _).drew).setCell (.inl (by simp)) _).setCell (.inl (by simp)) _
  refine ⟨⟨?_, ?_, ?_, ?_⟩, hkk⟩
  · exact (((hb.far (by simp; omega) _).drew).set_ 1 _).set_ 2 _
  · refine ((W4.keeps w d).then hk (by simp)).then hkk (by simp; omega)
  · exact hp.keeps hkk (by simp)
  · exact (((he.set_ 0 _).drew).far (by simp; omega) _).far (by simp; omega) _
def LoadedQ (w : World) (d : Nat) (D : Disk) (w1 : World) : Prop :=
  ∃ rv tv rd, Blk w1 w.heap.size 78 ({ PC.made d with u2 := 1, seq := (D.slots 2).1, rv := rv, tv := tv, many := ((D.takenAt (D.slots 2).1).count true : Nat), reads := rd } : PC).cells ∧
      w1.ownsRow (w.heap.size + 3) 5 1 rv (D.slots 2).2.length ((D.slots 2).2.map byt) ∧ w1.ownsRow (w.heap.size + 3) 4 1 tv (D.takenAt (D.slots 2).1).length ((D.takenAt (D.slots 2).1).map bv) ∧ Keeps [w.heap.size] (W4 w d) w1
set_option maxRecDepth 100000 in
theorem open_do (h : DiskAt w I d m D) (hf : D.full) (hbl : 64 ≤ D.blocks) (hd : D.dead = false) (hsl : ∀ i : Nat, i < 2 → slotSeq (D.block i) < 1152921504606846976) (hI : ∀ k, I k → k < w.heap.size) :
    Calls Try.prog 30 #[.pointer (some ⟨w.heap.size, 1, none⟩), .func (.func 31) #[] #[.pointer (some ⟨w.heap.size + 1, 0, none⟩), .pointer (some ⟨w.heap.size + 1 + 1, 0, none⟩)]] (W3 w d) fun e w' => e = .returned (.tuple #[]) ∧
      ∃ rv tv rd, Opened w d 0 { PC.made d with u1 := 1, u2 := 0, seq := (D.slots 2).1, rv := rv, tv := tv, many := ((D.takenAt (D.slots 2).1).count true : Nat), reads := rd } w' ∧
        w'.ownsRow (w.heap.size + 3) 5 1 rv (D.slots 2).2.length ((D.slots 2).2.map byt) ∧ w'.ownsRow (w.heap.size + 3) 4 1 tv (D.takenAt (D.slots 2).1).length ((D.takenAt (D.slots 2).1).map bv) := by
  have hnp : ¬ I w.heap.size := fun hi => by have := hI _ hi; omega
  have hD4 : DiskAt (W4 w d) I d m D := h.keeps (W4.keeps w d) (by simp) (by simp) (by simp)
  have hl := load_any (W4.pager w d) hD4 hf hnp hd hbl rfl rfl rfl hsl
  have hc := open1_any (w := W4 w d) (p := w.heap.size) ⟨w.heap.size + 1, 0, none⟩ ⟨w.heap.size + 1 + 1, 0, none⟩ 0 (.int .i64 0)
    (Q := LoadedQ w d D)
    ((W4.ptr w d).cell 0) (hl.mono (by
      rintro e w1 ⟨he, rv, tv, rd, hb, hr, ht, hk⟩
      rw [W4.size] at hr ht
      have hE := (W4.err w d).keeps hk (by simp; omega)
      exact ⟨he, ⟨rv, tv, rd, hb, hr, ht, hk⟩, hE.cell 0, hE.frozen 0⟩))
  have hdo := do_any (w := W3 w d) (Q := fun w2 => ∃ w1, LoadedQ w d D w1 ∧ w2 = w1.setCell ⟨w.heap.size + 1 + 1, 0, none⟩ (.int .i64 0)) w.heap.size 1 #[.pointer (some ⟨w.heap.size + 1, 0, none⟩), .pointer (some ⟨w.heap.size + 1 + 1, 0, none⟩)] ((W3.pager w d).cell 1) ((W3.pager w d).cell 2) ((W3.pager w d).frozen 1) ((W3.pager w d).frozen 2) (hc.mono (by
      rintro e w2 ⟨he, w1, ⟨rv, tv, rd, hb, hr, ht, hk⟩, rfl⟩
      have hb2 := hb.far (p := ⟨w.heap.size + 1 + 1, 0, none⟩) (by simp; omega) (.int .i64 0)
      exact ⟨he, ⟨w1, ⟨rv, tv, rd, hb, hr, ht, hk⟩, rfl⟩, hb2.cell 1, hb2.cell 2, hb2.frozen 1, hb2.frozen 2⟩))
  refine hdo.mono ?_
  rintro e w' ⟨he, w2, ⟨w1, ⟨rv, tv, rd, hb, hr, ht, hk⟩, rfl⟩, rfl⟩
  obtain ⟨ho, hkk⟩ := opened_of (E := 0) hb hk
  have hne : ∀ (v : Value) (t : TypeId) (n : Nat) (xs : List Value), w1.ownsRow (w.heap.size + 3) t 1 v n xs → ∀ g, v.ownBlock = some g → g ∉ [w.heap.size, w.heap.size + 1 + 1] := by
    intro v t n xs h g hg hm
    have := own_base h g hg
    simp at hm; omega
  exact ⟨he, rv, tv, rd, ho, hkk.own hr (hne _ _ _ _ hr), hkk.own ht (hne _ _ _ _ ht)⟩
/-- Open's last step. -/
def OpenFin (w : World) (I : Nat → Prop) (d m : Nat) (D : Disk) (w' : World) : Prop :=
  ∃ fr fd I', PagerAt w' I' w.heap.size d m fr fd D.opened D ∧ Keeps [] w w' ∧ (∀ k, I' k → I k ∨ w.heap.size ≤ k) ∧ (∀ k, I' k → k < w'.heap.size) ∧ w.heap.size ≤ fr ∧ w.heap.size ≤ fd
theorem open_abort {c : PC} {w2 : World} (h : DiskAt w I d m D) (hI : ∀ k, I k → k < w.heap.size) (ho : Opened w d 0 c w2) (hcd : c.d = d) (hs : c.seq = D.opened.seq) (hm : c.many = D.opened.many)
    (hr : w2.ownsRow (w.heap.size + 3) 5 1 c.rv D.opened.root.length (D.opened.root.map byt)) (ht : w2.ownsRow (w.heap.size + 3) 4 1 c.tv D.opened.taken.length (D.opened.taken.map bv)) :
    Calls Try.prog 24 #[.pointer (some ⟨w.heap.size, 0, none⟩)] w2 fun e w' => e = .returned (.tuple #[]) ∧ OpenFin w I d m D w' ∧ w'.cell? ⟨w.heap.size + 1, 0, none⟩ = some (.pointer (some ⟨w.heap.size, 0, none⟩)) ∧ w'.cell? ⟨w.heap.size + 1 + 1, 0, none⟩ = some (.int .i64 0) := by
  obtain ⟨hb, hk, hp, he⟩ := ho
  subst hcd
  have hdl := h.blk.lt
  have hml := h.mem.lt
  have hz := hk.size
  have hD2 : DiskAt w2 (fun k => (I k ∨ w.heap.size + 3 ≤ k) ∧ k < w2.heap.size) c.d m D := by
    refine (h.keeps hk (by simp) (by simp) (by simp)).mono (fun k hk' => ⟨.inl hk', Nat.lt_of_lt_of_le (hI k hk') hz⟩) ?_ ?_
    · rintro ⟨hh | hh, -⟩
      · exact h.nd hh
      · omega
    · rintro ⟨hh | hh, -⟩
      · exact h.nm hh
      · omega
  refine (abort_raw (X := D.opened) hb hD2 ?_ (fun k hk' => hk'.2) hs hm ⟨own_zero hr, fun g hg => ⟨.inr (own_base hr g hg), own_lt hr g hg⟩⟩ ⟨own_zero ht, fun g hg => ⟨.inr (own_base ht g hg), own_lt ht g hg⟩⟩).mono ?_
  · rintro ⟨hh | hh, -⟩
    · have := hI _ hh; omega
    · omega
  · rintro e w' ⟨he', hP, hk'⟩
    have hz' := hk'.size
    refine ⟨he', ⟨_, _, _, hP, hk.then hk' (by simp), fun k hk2 => by rcases hk2.1 with hh | hh; exact .inl hh; exact .inr (by omega), fun k hk2 => by omega, by omega, by omega⟩, (hp.keeps hk' (by simp)).cell 0, (he.keeps hk' (by simp; omega)).cell 0⟩
set_option maxRecDepth 100000 in
set_option maxHeartbeats 1600000 in
theorem open_ok (h : DiskAt w I d m D) (hf : D.full) (hbl : 64 ≤ D.blocks) (hd : D.dead = false) (hsl : ∀ i : Nat, i < 2 → slotSeq (D.block i) < 1152921504606846976) (hI : ∀ k, I k → k < w.heap.size) :
    Calls Try.prog 11 #[.pointer (some ⟨d, 0, none⟩)] w fun e w' => ∃ p fr fd I', e = .returned (.tuple #[.pointer (some ⟨p, 0, none⟩), .int .i64 0]) ∧ PagerAt w' I' p d m fr fd D.opened D ∧ Keeps [] w w' ∧ (∀ k, I' k → I k ∨ w.heap.size ≤ k) ∧ (∀ k, I' k → k < w'.heap.size) ∧ w.heap.size ≤ p ∧ w.heap.size ≤ fr ∧ w.heap.size ≤ fd := by
  have HDO := Lib.hid (open_do h hf hbl hd hsl hI)
  have H := Lib.hid h
  have HI := Lib.hid hI
  clear h hf hd hsl hI
  go_enter Try.func11, Try.ntmps11
  go_wp2_with (first | (go_at_call 29; refine (blocks_any _ H.out).mono ?_; rintro e w' ⟨rfl, rfl⟩) | (go_at_call 30; refine HDO.out.mono ?_; rintro e w2 ⟨rfl, rv, tv, rd, ho, hr, ht⟩; have k1 := ho.2.2.1.cell 0; have k2 := ho.2.2.2.cell 0; have HO := Lib.hid ho; have HR := Lib.hid hr; have HT := Lib.hid ht; clear ho hr ht) | (go_at_call 24; refine (open_abort H.out HI.out HO.out rfl rfl rfl HR.out HT.out).mono ?_; rintro e w5 ⟨rfl, hfin, k3, k4⟩; have HFIN := Lib.hid hfin; clear hfin))
  go_ret2
  obtain ⟨fr, fd, I', g1, g2, g3, g4, g5, g6⟩ := HFIN.out
  exact ⟨_, fr, fd, I', rfl, g1, g2, g3, g4, Nat.le_refl _, g5, g6⟩
set_option maxRecDepth 100000 in
theorem open_do_dead (h : DiskAt w I d m D) (hf : D.full) (hd : D.dead = true) (hI : ∀ k, I k → k < w.heap.size) :
    Calls Try.prog 30 #[.pointer (some ⟨w.heap.size, 1, none⟩), .func (.func 31) #[] #[.pointer (some ⟨w.heap.size + 1, 0, none⟩), .pointer (some ⟨w.heap.size + 1 + 1, 0, none⟩)]] (W3 w d) fun e w' => e = .returned (.tuple #[]) ∧
      ∃ rd, Opened w d 12 { PC.made d with u1 := 1, u2 := 0, reads := rd } w' := by
  have hnp : ¬ I w.heap.size := fun hi => by have := hI _ hi; omega
  have hD4 : DiskAt (W4 w d) I d m D := h.keeps (W4.keeps w d) (by simp) (by simp) (by simp)
  have hl := load_dead (W4.pager w d) hD4 hf hnp hd
  have hc := open1_any (w := W4 w d) (p := w.heap.size) ⟨w.heap.size + 1, 0, none⟩ ⟨w.heap.size + 1 + 1, 0, none⟩ 12 (.int .i64 0)
    (Q := fun w1 => ∃ rd, Blk w1 w.heap.size 78 ({ PC.made d with u2 := 1, reads := rd } : PC).cells ∧ Keeps [w.heap.size] (W4 w d) w1)
    ((W4.ptr w d).cell 0) (hl.mono (by
      rintro e w1 ⟨he, hb, hk⟩
      have hE := (W4.err w d).keeps hk (by simp; omega)
      exact ⟨he, ⟨_, hb, hk⟩, hE.cell 0, hE.frozen 0⟩))
  have hdo := do_any (w := W3 w d) (Q := fun w2 => ∃ w1, (∃ rd, Blk w1 w.heap.size 78 ({ PC.made d with u2 := 1, reads := rd } : PC).cells ∧ Keeps [w.heap.size] (W4 w d) w1) ∧ w2 = w1.setCell ⟨w.heap.size + 1 + 1, 0, none⟩ (.int .i64 12)) w.heap.size 1 #[.pointer (some ⟨w.heap.size + 1, 0, none⟩), .pointer (some ⟨w.heap.size + 1 + 1, 0, none⟩)] ((W3.pager w d).cell 1) ((W3.pager w d).cell 2) ((W3.pager w d).frozen 1) ((W3.pager w d).frozen 2) (hc.mono (by
      rintro e w2 ⟨he, w1, ⟨rd, hb, hk⟩, rfl⟩
      have hb2 := hb.far (p := ⟨w.heap.size + 1 + 1, 0, none⟩) (by simp; omega) (.int .i64 12)
      exact ⟨he, ⟨w1, ⟨rd, hb, hk⟩, rfl⟩, hb2.cell 1, hb2.cell 2, hb2.frozen 1, hb2.frozen 2⟩))
  refine hdo.mono ?_
  rintro e w' ⟨he, w2, ⟨w1, ⟨rd, hb, hk⟩, rfl⟩, rfl⟩
  exact ⟨he, rd, (opened_of (E := 12) hb hk).1⟩
set_option maxRecDepth 100000 in
set_option maxHeartbeats 1600000 in
theorem open_dead (h : DiskAt w I d m D) (hf : D.full) (hbl : 64 ≤ D.blocks) (hd : D.dead = true) (hI : ∀ k, I k → k < w.heap.size) :
    Calls Try.prog 11 #[.pointer (some ⟨d, 0, none⟩)] w fun e w' => e = .returned (.tuple #[.pointer none, .int .i64 12]) ∧ Keeps [] w w' := by
  have HDO := Lib.hid (open_do_dead h hf hd hI)
  have H := Lib.hid h
  clear h hf hd hI
  go_enter Try.func11, Try.ntmps11
  go_wp2_with (first | (go_at_call 29; refine (blocks_any _ H.out).mono ?_; rintro e w' ⟨rfl, rfl⟩) | (go_at_call 30; refine HDO.out.mono ?_; rintro e w2 ⟨rfl, rd, ho⟩; have k1 := ho.2.2.1.cell 0; have k2 := ho.2.2.2.cell 0; have HO := Lib.hid ho; clear ho))
  go_quiet (fail)
  go_wp2
  go_ret2
  exact ⟨rfl, HO.out.2.1.drewN _⟩
end
end Go.Proofs.Ytebllnoeenginaa
