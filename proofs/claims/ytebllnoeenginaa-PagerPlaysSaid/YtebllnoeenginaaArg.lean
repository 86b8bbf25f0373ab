/- Arguments that came in: a slice of bytes, as a list. -/
import Derived.Test.YtebllnoeenginaaRows
import Derived.Test.YtebllnoeenginaaLaw1
import Derived.ProofKit
import Derived.OpenShut
import Derived.ChangeOld
import Derived.Below
import Derived.SizedLaws
namespace Go.Proofs.Ytebllnoeenginaa
open Go.ChangeShapes Go.WideShapes Go.ChangeAt Go.RowKit

theorem laidOut : laidOutB Try.prog = true := by kernel_rfl
theorem Try.cells5 : Try.prog.cellsOf 5 = 1 := by kernel_rfl
theorem Try.bytes5 : Try.prog.bytesOf 5 = 1 := by kernel_rfl
theorem cell_lt {w : World} {a : Addr} {v : Value} (h : w.cell? a = some v) : a.block < w.heap.size := by
  rcases Nat.lt_or_ge a.block w.heap.size with hl | hl
  · exact hl
  · exfalso
    have : w.heap[a.block]? = none := Array.getElem?_eq_none hl
    unfold World.cell? at h
    simp [this] at h
theorem wf_byte {n : Int} (h : (Lit.int .u8 n).wf = true) : 0 ≤ n ∧ n < 256 := by
  unfold Lit.wf at h
  rw [Bool.and_eq_true, decide_eq_true_eq, decide_eq_true_eq] at h
  have h1 : IntKind.u8.min = 0 := rfl
  have h2 : IntKind.u8.max = 255 := rfl
  omega
/-- A row of whole numbers that are bytes. -/
theorem rd_bytes {w : World} {a : Addr} {len cap : Nat} {zs : List Int} (hl : len ≤ cap) (hm : cap ≤ maxLen) (hz : zs.length = cap) (hc : ∀ i, i < zs.length → w.cell? (a.add i) = some (.int .u8 (zs.getD i 0))) (hw : ∀ n ∈ zs, (Lit.int .u8 n).wf = true) :
    ∃ bs : List UInt8, bs.length = len ∧ Rd w (.slice (some a) len cap) (bs.map byt) := by
  have hb : ∀ n ∈ zs, 0 ≤ n ∧ n < 256 := by
    intro n hn
    have := hw n hn
    exact wf_byte this
  have hn : ((zs.take len).map fun n => UInt8.ofNat n.toNat).length = len := by rw [List.length_map, List.length_take]; omega
  refine ⟨(zs.take len).map fun n => UInt8.ofNat n.toNat, hn, ⟨some a, cap, by rw [List.length_map, hn], by rw [List.length_map, hn]; exact hl, hm, (by intro h; cases h), ?_⟩⟩
  rintro ad ⟨⟩
  have hcell : ∀ j, j < len → ∃ u, w.cell? (a.add j) = some u := fun j hj => ⟨_, hc j (by omega)⟩
  have hne : (List.map byt ((zs.take len).map fun n => UInt8.ofNat n.toNat)) ≠ [] → 0 < len := by
    intro h
    rcases Nat.eq_zero_or_pos len with h0 | h0
    · subst h0; simp at h
    · exact h0
  refine ⟨fun h => ?_, fun h => ?_, fun j u hu => ?_⟩
  · obtain ⟨u, hu⟩ := hcell 0 (hne h)
    have := World.cell?_spot hu
    simpa [Addr.add] using this
  · obtain ⟨u, hu⟩ := hcell 0 (hne h)
    have := cell_lt hu
    rwa [block_of_add] at this
  · rw [List.getElem?_map, List.getElem?_map] at hu
    cases hz2 : (zs.take len)[j]? with
    | none => rw [hz2] at hu; cases hu
    | some n =>
      rw [hz2] at hu
      simp only [Option.map_some, Option.some.injEq] at hu
      subst hu
      rw [List.getElem?_take] at hz2
      split at hz2
      · have hj : j < zs.length := (List.getElem?_eq_some_iff.1 hz2).1
        have hn2 : zs.getD j 0 = n := by rw [List.getD_eq_getElem?_getD, hz2]; rfl
        rw [hc j hj, hn2]
        have hm2 := hb n (List.mem_of_getElem? hz2)
        congr 2
        simp
        omega
      · cases hz2
theorem open_bytes {H : Type} {enc : TypeId × Value → H} {W : World} {fuel : Nat} {v : Value} {x : DataW H × List MemPlace} (h : DataW.trod enc Try.prog W 0 (fun _ => true) true fuel 22 [v] = some x) :
    ∃ bs : List UInt8, Rd W v (bs.map byt) := by
  rcases open_ints Try.underlying22 Try.underlying5 Try.cells5 h with ⟨hcs, -⟩ | ⟨a, l, c, zs, hcs, -, hl, hm, hz, -, hcell, hwz⟩
  · simp at hcs
    subst hcs
    exact ⟨[], Rd.nil W⟩
  · simp at hcs
    subst hcs
    obtain ⟨bs, -, hr⟩ := rd_bytes hl hm (by simpa using hz) hcell hwz
    exact ⟨bs, hr⟩
end Go.Proofs.Ytebllnoeenginaa
