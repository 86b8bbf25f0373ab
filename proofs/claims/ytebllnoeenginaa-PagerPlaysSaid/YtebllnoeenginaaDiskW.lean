/- The disk: what Write does. -/
import Derived.Test.YtebllnoeenginaaDisk
namespace Go.Proofs.Ytebllnoeenginaa
open Go.RowKit

/-! ### Writing a block -/
theorem DiskAt.rd_ne {w : World} {I : Nat → Prop} {d m : Nat} {D : Disk} (h : DiskAt w I d m D) {v : Value} {bs : List UInt8} (hr : Rd w v (bs.map byt)) (hne : bs.map byt ≠ []) : ∀ g, v.ownBlock = some g → g ∉ [d] := by
  intro g hg; simpa using hr.ne_blk h.blk rfl hne g hg
section
variable {I : Nat → Prop} {d m : Nat} {D : Disk}
set_option maxHeartbeats 400000 in
theorem write_dead (w : World) (n : Int) (v : Value) (bs : List UInt8) (h : DiskAt w I d m D) (_hr : Rd w v (bs.map byt)) (hd : D.dead = true) :
    Calls Try.prog 20 #[.pointer (some ⟨d, 0, none⟩), .int .i64 n, v] w fun e w' => e = .returned (.int .i64 12) ∧ w = w' := by
  have h4 := h.c4
  rw [hd] at h4
  clear h hd
  go_enter Try.func20, Try.ntmps20
  go_wp2
  go_ret
  exact ⟨rfl, rfl⟩
set_option maxHeartbeats 400000 in
theorem write_bad (w : World) (n : Int) (v : Value) (bs : List UInt8) (h : DiskAt w I d m D) (hr : Rd w v (bs.map byt)) (hd : D.dead = false) (hn : n < 0 ∨ D.blocks ≤ n ∨ bs.length ≠ 512) :
    Calls Try.prog 20 #[.pointer (some ⟨d, 0, none⟩), .int .i64 n, v] w fun e w' => e = .returned (.int .i64 1) ∧ w = w' := by
  have h4 := h.c4
  have h0 := h.c0
  rw [hd] at h4
  obtain ⟨A, c, rfl, hc, -⟩ := hr.form
  rw [List.length_map] at *
  clear h hd hr hc
  by_cases h1 : n < 0
  · clear hn
    go_enter Try.func20, Try.ntmps20
    go_wp2
    go_ret
    exact ⟨rfl, rfl⟩
  by_cases h2 : D.blocks ≤ n
  · have h1 : 0 ≤ n := by omega
    clear hn
    go_enter Try.func20, Try.ntmps20
    go_wp2
    go_ret
    exact ⟨rfl, rfl⟩
  · have h1 : 0 ≤ n := by omega
    have h2 : n < D.blocks := by omega
    have h3 : ((bs.length : Int) != 512) = true := by rw [bne_iff_ne]; omega
    clear hn
    go_enter Try.func20, Try.ntmps20
    go_wp2
    go_ret
    exact ⟨rfl, rfl⟩
set_option maxHeartbeats 400000 in
theorem write_cut (w : World) (n : Int) (v : Value) (bs : List UInt8) (h : DiskAt w I d m D) (hr : Rd w v (bs.map byt)) (hd : D.dead = false) (hn : 0 ≤ n) (hn2 : n < D.blocks) (hb : bs.length = 512) (hl : D.left = 0) :
    Calls Try.prog 20 #[.pointer (some ⟨d, 0, none⟩), .int .i64 n, v] w fun e w' => e = .returned (.int .i64 12) ∧ DiskAt w' I d m { D with dead := true } ∧ Keeps [d] w w' := by
  have h4 := h.c4
  have h0 := h.c0
  have h3 := h.c3
  have f4 := h.blk.frozen 4
  rw [hd] at h4
  rw [hl] at h3
  obtain ⟨A, c, rfl, hc, -⟩ := hr.form
  rw [List.length_map, hb] at *
  have H := Lib.hid h
  have HL := Lib.hid hl
  clear h hd hr hc hb hl
  go_enter Try.func20, Try.ntmps20
  go_wp2
  go_ret
  exact ⟨rfl, H.out.turn (H.out.blk.set_ 4 _) ((Keeps.refl _ _).setCell (.inl (by simp)) _) rfl rfl (by simp [HL.out]) (by simp [HL.out]), (Keeps.refl _ _).setCell (.inl (by simp)) _⟩
/-- The disk as it is now; what else was there is as it was; the rows that it holds lie where they lay, or in new blocks. -/
def Wrote (w : World) (I : Nat → Prop) (d m : Nat) (D : Disk) (w' : World) : Prop :=
  ∃ I', DiskAt w' I' d m D ∧ Keeps [d, m] w w' ∧ (∀ k, I k → I' k) ∧ ∀ k, I' k → I k ∨ w.heap.size ≤ k
/-- What stands behind the copy: the map is written, the count is one higher. -/
theorem write_tail {W w' : World} {n : Int} {v : Value} {bs : List UInt8} (h : DiskAt W I d m D) (hk : Keeps [] W w') (ho : w'.ownsRow W.heap.size 5 1 v bs.length (bs.map byt)) :
    ∃ w2, (Instr.mapUpdate 57 (.map (some m)) (.int .i64 n) v).run Try.prog w' = .ok () w2 ∧
      Hid (DiskAt (w2.setCell ⟨d, 2, none⟩ (.int .i64 (wrap64 (D.writes + 1)))) (fun k => I k ∨ W.heap.size ≤ k) d m { D with mem := AL.put D.mem n bs, writes := wrap64 (D.writes + 1) } ∧ Keeps [d, m] W (w2.setCell ⟨d, 2, none⟩ (.int .i64 (wrap64 (D.writes + 1))))) ∧
      w2.cell? ⟨d, 1, none⟩ = some (.map (some m)) ∧ w2.cell? ⟨d, 2, none⟩ = some (.int .i64 D.writes) ∧ w2.frozen? ⟨d, 2, none⟩ = false ∧
      (callFunc 49 #[.pointer (some ⟨d, 2, none⟩), .int .i64 1]).run Try.prog w2 = .ok (.value (.int .i64 (wrap64 (D.writes + 1)))) (w2.setCell ⟨d, 2, none⟩ (.int .i64 (wrap64 (D.writes + 1)))) := by
  have h' := h.keeps hk (by simp) (by simp) (by simp)
  have hdl := h.blk.lt
  have hml := h.mem.lt
  have hnm : ¬ (I m ∨ W.heap.size ≤ m) := by have := h.nm; rintro (h | h); exact this h; omega
  have hnd : ¬ (I d ∨ W.heap.size ≤ d) := by have := h.nd; rintro (h | h); exact this h; omega
  obtain ⟨w2, hup, hbm, hk2⟩ := h'.mem.update (I' := fun k => I k ∨ W.heap.size ≤ k) (fun _ => .inl) hnm n (v := v) (bs := bs) ⟨own_zero ho, fun g hg => .inr (own_base ho g hg)⟩
  have hb2 : Blk w2 d 64 (D.cells m) := h'.blk.keeps hk2 (by simpa using h.ne)
  have hks : Keeps [d] w2 (w2.setCell ⟨d, 2, none⟩ (.int .i64 (wrap64 (D.writes + 1)))) := (Keeps.refl _ _).setCell (.inl (by simp)) _
  refine ⟨w2, hup, ⟨⟨hb2.set_ 2 _, hbm.keeps hks (by simpa using h.ne.symm) ?_, h.lo, h.hi, h.llo, h.lhi, hnd, hnm⟩, ?_⟩, hb2.cell 1, hb2.cell 2, hb2.frozen 2, ?_⟩
  · intro g hg; simp at hg; subst hg; exact hnd
  · exact ((hk.mono (S' := [d, m]) (by simp)).trans (hk2.mono (by simp))).trans (hks.mono (by simp))
  · exact run_call_add (P := Try.prog) Try.func49 (by kernel_rfl) (by kernel_rfl) (by kernel_rfl) .i64 (by kernel_rfl) (hb2.cell 2) (hb2.frozen 2) (by simp [go_sem, IntKind.wrap_i64, wrap64])
set_option maxRecDepth 100000 in
set_option maxHeartbeats 1000000 in
theorem write_ok (w : World) (n : Int) (v : Value) (bs : List UInt8) (h : DiskAt w I d m D) (hr : Rd w v (bs.map byt)) (hd : D.dead = false) (hn : 0 ≤ n) (hn2 : n < D.blocks) (hb : bs.length = 512) (hl : ¬ D.left = 0) :
    Calls Try.prog 20 #[.pointer (some ⟨d, 0, none⟩), .int .i64 n, v] w fun e w' => e = .returned (.int .i64 0) ∧
      Wrote w I d m { D with left := if 0 < D.left then D.left - 1 else D.left, mem := AL.put D.mem n bs, writes := wrap64 (D.writes + 1) } w' := by
  have h4 := h.c4
  have h0 := h.c0
  have h1 := h.c1
  have h3 := h.c3
  have hlb : (D.left == 0) = false := by simpa using hl
  rw [hd] at h4
  obtain ⟨A, c, rfl, hc, -⟩ := hr.form
  have HB := Lib.hid hb
  rw [List.length_map, hb] at hr hc ⊢
  have H := Lib.hid h
  have HR := Lib.hid hr
  clear h hd hr hc hb hl
  have f3 := H.out.blk.frozen 3
  have hdm : ¬ d = m := H.out.ne
  have hlhi := H.out.lhi
  have HNE := Lib.hid (H.out.rd_ne HR.out)
  by_cases hpos : 0 < D.left
  · have hw1 : Keeps [d] w (w.setCell ⟨d, 3, none⟩ (.int .i64 (D.left - 1))) := (Keeps.refl _ _).setCell (.inl (by simp)) _
    have HD : Hid (DiskAt (w.setCell ⟨d, 3, none⟩ (.int .i64 (D.left - 1))) I d m { D with left := D.left - 1 }) :=
      Lib.hid (H.out.turn (H.out.blk.set_ 3 _) hw1 rfl rfl (by simp; omega) (by have := H.out.lhi; simp; omega))
    have HK := Lib.hid hw1
    have hm1 := HD.out.c1
    clear hw1
    go_enter Try.func20, Try.ntmps20
    go_wp2
    go_region_held3 (fun w' => w'.cell? ⟨d, 1, none⟩ = some (.map (some m))) (first | go_keep | exact (hk.cell (by have := HD.out.blk.lt; simpa using this) (by simp)).trans (by simpa using hm1))
      (first | (go_at_call 34; refine (clone_any _ (bs.map byt) _ (Rd.keeps HR.out (HK.out.drew) HNE.out) oneCell_u8 (by have := HB.out; simp; omega)).mono ?_; rintro e w' ⟨v', rfl, ho, hk⟩; obtain ⟨w2, hup, HU, hc1, hc2, hz2, hadd⟩ := write_tail (n := n) (v := v') (bs := bs) HD.out (Keeps.of_drew hk) (by simpa using ho)))
    all_goals go_wp2
    all_goals go_ret
    all_goals exact ⟨rfl, _, HU.out.1, (HK.out.mono (by simp)).trans HU.out.2, fun k hk => Or.inl hk, fun k hk => by simpa using hk⟩
  · have hn3 : D.left < 0 := by have := H.out.llo; have : ¬ D.left = 0 := by simpa using hlb
                                omega
    have hm1 := h1
    go_enter Try.func20, Try.ntmps20
    go_wp2
    go_region_held3 (fun w' => w'.cell? ⟨d, 1, none⟩ = some (.map (some m))) (first | go_keep | exact (hk.cell (by have := H.out.blk.lt; simpa using this) (by simp)).trans (by simpa using hm1))
      (first | (go_at_call 34; refine (clone_any _ (bs.map byt) _ (Rd.keeps HR.out ((Keeps.refl [d] w).drew) HNE.out) oneCell_u8 (by have := HB.out; simp; omega)).mono ?_; rintro e w' ⟨v', rfl, ho, hk⟩; obtain ⟨w2, hup, HU, hc1, hc2, hz2, hadd⟩ := write_tail (n := n) (v := v') (bs := bs) H.out (Keeps.of_drew hk) (by simpa using ho)))
    all_goals go_wp2
    all_goals go_ret
    all_goals exact ⟨rfl, _, by simpa [show ¬ 0 < D.left by omega] using HU.out.1, HU.out.2, fun k hk => Or.inl hk, fun k hk => by simpa using hk⟩

theorem Wrote.refl (w : World) (h : DiskAt w I d m D) : Wrote w I d m D w := ⟨I, h, Keeps.refl _ _, fun _ h => h, fun _ h => .inl h⟩
theorem write_any (w : World) (n : Int) (v : Value) (bs : List UInt8) (h : DiskAt w I d m D) (hr : Rd w v (bs.map byt)) :
    Calls Try.prog 20 #[.pointer (some ⟨d, 0, none⟩), .int .i64 n, v] w fun e w' => e = .returned (.int .i64 (D.write n bs).1) ∧ Wrote w I d m (D.write n bs).2 w' := by
  unfold Disk.write
  by_cases hd : D.dead = true
  · rw [if_pos hd]
    exact (write_dead w n v bs h hr hd).mono fun e w' ⟨he, hw⟩ => ⟨he, by subst hw; exact Wrote.refl _ h⟩
  · rw [if_neg hd]
    have hd : D.dead = false := by simpa using hd
    by_cases hn : n < 0 ∨ D.blocks ≤ n ∨ bs.length ≠ 512
    · rw [if_pos hn]
      exact (write_bad w n v bs h hr hd hn).mono fun e w' ⟨he, hw⟩ => ⟨he, by subst hw; exact Wrote.refl _ h⟩
    · rw [if_neg hn]
      by_cases hl : D.left = 0
      · rw [if_pos hl]
        exact (write_cut w n v bs h hr hd (by omega) (by omega) (by omega) hl).mono fun e w' ⟨he, hw, hk⟩ => ⟨he, I, hw, hk.mono (by simp), fun _ h => h, fun _ h => .inl h⟩
      · rw [if_neg hl]
        exact write_ok w n v bs h hr hd (by omega) (by omega) (by omega) hl
end
end Go.Proofs.Ytebllnoeenginaa
