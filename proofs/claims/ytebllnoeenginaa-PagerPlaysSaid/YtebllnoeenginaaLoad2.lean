/- pager.load on a dead disk. -/
import Derived.Test.YtebllnoeenginaaLoad
namespace Go.Proofs.Ytebllnoeenginaa
open Go.RowKit
section
variable {w w' : World} {I I' : Nat → Prop} {p m : Nat} {D : Disk} {c : PC} {S : List Nat}
set_option maxRecDepth 100000 in
set_option maxHeartbeats 1000000 in
/-- .. of a disk that is dead. -/
theorem load_dead (hb : Blk w p 78 c.cells) (h : DiskAt w I c.d m D) (hf : D.full) (hp : ¬ I p) (hd : D.dead = true) :
    Calls Try.prog 32 #[.pointer (some ⟨p, 0, none⟩)] w fun e w' => e = .returned (.int .i64 12) ∧ Blk w' p 78 ({ c with reads := wrap64 (c.reads + 1) } : PC).cells ∧ Keeps [p] w w' := by
  have H := Lib.hid h
  have HB := Lib.hid hb
  have HF := Lib.hid hf
  have HP := Lib.hid hp
  have hr : ∀ n, D.read n = ([], 12) := by intro n; unfold Disk.read; rw [if_pos hd]
  have HRd := Lib.hid hr
  clear h hb hf hp hd hr
  go_enter Try.func32, Try.ntmps32
  go_wp2
  go_loopw [12] (fun i wr => i = .int .i64 0 ∧ wr = w) (fun i _ => 0)
  case atStart => exact ⟨rfl, rfl⟩
  case round =>
    obtain ⟨rfl, rfl⟩ := hrel
    go_wp2_with (first | (go_at_call 38; refine (pread_any 0 HB.out H.out HF.out HP.out).mono ?_; rintro e w2 ⟨v, rfl, ho, hb2, hk2⟩; rw [HRd.out] at ho ⊢))
    go_ret
    exact ⟨rfl, hb2, hk2⟩
end
end Go.Proofs.Ytebllnoeenginaa
