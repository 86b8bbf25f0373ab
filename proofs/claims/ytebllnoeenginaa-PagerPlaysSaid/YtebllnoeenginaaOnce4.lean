/- sync.Once's Do. -/
import Derived.Test.YtebllnoeenginaaOnce3
namespace Go.Proofs.Ytebllnoeenginaa
open Go.RowKit
section
variable {w w' : World} {p : Nat}
set_option maxRecDepth 100000 in
set_option maxHeartbeats 1600000 in
theorem do_any (b off : Nat) (caps : Array Value) {Q : World → Prop}
    (h0 : w.cell? ⟨b, off, none⟩ = some (.int .u32 0)) (h1 : w.cell? ⟨b, off + 1, none⟩ = some (.int .i32 0))
    (f0 : w.frozen? ⟨b, off, none⟩ = false) (f1 : w.frozen? ⟨b, off + 1, none⟩ = false)
    (hf : Calls Try.prog 31 caps (w.setCell ⟨b, off + 1, none⟩ (.int .i32 1)) fun e w' => e = .returned (.tuple #[]) ∧ Q w' ∧ w'.cell? ⟨b, off, none⟩ = some (.int .u32 0) ∧ w'.cell? ⟨b, off + 1, none⟩ = some (.int .i32 1) ∧ w'.frozen? ⟨b, off, none⟩ = false ∧ w'.frozen? ⟨b, off + 1, none⟩ = false) :
    Calls Try.prog 30 #[.pointer (some ⟨b, off, none⟩), .func (.func 31) #[] caps] w fun e w' => e = .returned (.tuple #[]) ∧
      ∃ w2, Q w2 ∧ w' = (w2.drew.setCell ⟨b, off, none⟩ (.int .u32 1)).setCell ⟨b, off + 1, none⟩ (.int .i32 0) := by
  have hl := run_call_load (P := Try.prog) Try.func51 (by kernel_rfl) (by kernel_rfl) (by kernel_rfl) .u32 (by kernel_rfl) (w := w) (a := ⟨b, off, none⟩) (x := 0) h0
  have hnot : ∀ (x : Bool) (w : World), (Op.unary .not (.bool x)).run Try.prog w = .ok (.bool (!x)) w := fun _ _ => rfl
  have HS := Lib.hid (slow_any b off caps h0 h1 f0 f1 hf)
  clear hf
  go_enter Try.func30, Try.ntmps30
  go_wp2_with (first | (go_at_call 43; refine HS.out.mono ?_; rintro e w2 ⟨rfl, w3, hq, rfl⟩) | (go_at_call 42; go_in))
  go_end0
  exact ⟨rfl, w3, hq, rfl⟩
end
end Go.Proofs.Ytebllnoeenginaa
