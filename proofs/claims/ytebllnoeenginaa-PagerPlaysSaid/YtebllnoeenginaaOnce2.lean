/- Open's closure; sync.Once's slow road with it. -/
import Derived.Test.YtebllnoeenginaaOnce
namespace Go.Proofs.Ytebllnoeenginaa
open Go.RowKit
section
variable {w w' : World} {I I' : Nat → Prop} {p m : Nat} {D : Disk} {c : PC} {S : List Nat}
set_option maxRecDepth 100000 in
/-- The closure: load, the answer into its cell. -/
theorem open1_any (pl el : Addr) (E : Int) (x : Value) {Q : World → Prop} (hpl : w.cell? pl = some (.pointer (some ⟨p, 0, none⟩)))
    (hload : Calls Try.prog 32 #[.pointer (some ⟨p, 0, none⟩)] w fun e w' => e = .returned (.int .i64 E) ∧ Q w' ∧ w'.cell? el = some x ∧ w'.frozen? el = false) :
    Calls Try.prog 31 #[.pointer (some pl), .pointer (some el)] w fun e w' => e = .returned (.tuple #[]) ∧ ∃ w1, Q w1 ∧ w' = w1.setCell el (.int .i64 E) := by
  have HL := Lib.hid hload
  clear hload
  go_enter Try.func31, Try.ntmps31
  go_wp2_with (go_at_call 32; refine HL.out.mono ?_; rintro e w1 ⟨rfl, hq, hc, hf⟩)
  go_end0
  exact ⟨rfl, _, hq, rfl⟩
end
end Go.Proofs.Ytebllnoeenginaa
