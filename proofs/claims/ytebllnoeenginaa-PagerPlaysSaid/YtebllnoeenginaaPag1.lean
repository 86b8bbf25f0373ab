/- The pager: its cells; the methods that only look. -/
import Derived.Test.YtebllnoeenginaaDiskW
namespace Go.Proofs.Ytebllnoeenginaa
open Go.RowKit

/-- The pager's cells. -/
structure PC where
  d : Nat
  u1 : Int
  u2 : Int
  u3 : Int
  seq : Int
  rv : Value
  tv : Value
  many : Int
  fr : Value
  fd : Value
  next : Int
  reads : Int
  does : Int
def PC.cells (c : PC) : Array Value :=
  #[.pointer (some ⟨c.d, 0, none⟩), .int .u32 c.u1, .int .i32 c.u2, .int .u32 c.u3, .int .i64 c.seq, c.rv, c.tv, .int .i64 c.many, c.fr, c.fd, .int .i64 c.next, .int .i64 c.reads, .int .i64 c.does]

def mapsOf (B : Int) : Int := (B + 4096 - 1) / 4096
def firstOf (B : Int) : Int := 2 + 2 * mapsOf B

section
variable {I : Nat → Prop} {p m : Nat} {c : PC} {D : Disk} {w : World}
theorem pc0 (h : Blk w p 78 c.cells) : w.cell? ⟨p, 0, none⟩ = some (.pointer (some ⟨c.d, 0, none⟩)) := h.cell 0
theorem pc4 (h : Blk w p 78 c.cells) : w.cell? ⟨p, 4, none⟩ = some (.int .i64 c.seq) := h.cell 4
theorem pc5 (h : Blk w p 78 c.cells) : w.cell? ⟨p, 5, none⟩ = some c.rv := h.cell 5
theorem pc6 (h : Blk w p 78 c.cells) : w.cell? ⟨p, 6, none⟩ = some c.tv := h.cell 6
theorem pc7 (h : Blk w p 78 c.cells) : w.cell? ⟨p, 7, none⟩ = some (.int .i64 c.many) := h.cell 7
theorem pc8 (h : Blk w p 78 c.cells) : w.cell? ⟨p, 8, none⟩ = some c.fr := h.cell 8
theorem pc9 (h : Blk w p 78 c.cells) : w.cell? ⟨p, 9, none⟩ = some c.fd := h.cell 9
theorem pc10 (h : Blk w p 78 c.cells) : w.cell? ⟨p, 10, none⟩ = some (.int .i64 c.next) := h.cell 10
theorem pc11 (h : Blk w p 78 c.cells) : w.cell? ⟨p, 11, none⟩ = some (.int .i64 c.reads) := h.cell 11
theorem pc12 (h : Blk w p 78 c.cells) : w.cell? ⟨p, 12, none⟩ = some (.int .i64 c.does) := h.cell 12

set_option maxHeartbeats 400000 in
theorem maps_any (hb : Blk w p 78 c.cells) (h : DiskAt w I c.d m D) : Calls Try.prog 44 #[.pointer (some ⟨p, 0, none⟩)] w fun e w' => e = .returned (.int .i64 (mapsOf D.blocks)) ∧ w = w' := by
  have h1 := pc0 hb
  have h2 := h.lo
  have h3 := h.hi
  have HD := Lib.hid h
  clear hb h
  go_enter Try.func44, Try.ntmps44
  go_wp2_with (go_at_call 29; refine (blocks_any _ HD.out).mono ?_; rintro e w' ⟨rfl, rfl⟩)
  go_ret
  exact ⟨rfl, rfl⟩
set_option maxHeartbeats 400000 in
theorem first_any (hb : Blk w p 78 c.cells) (h : DiskAt w I c.d m D) : Calls Try.prog 33 #[.pointer (some ⟨p, 0, none⟩)] w fun e w' => e = .returned (.int .i64 (firstOf D.blocks)) ∧ w = w' := by
  have h2 : 0 ≤ mapsOf D.blocks := by unfold mapsOf; have := h.lo; omega
  have h3 : mapsOf D.blocks ≤ 5 := by unfold mapsOf; have := h.hi; omega
  have HD := Lib.hid h
  have HB := Lib.hid hb
  clear hb h
  go_enter Try.func33, Try.ntmps33
  go_wp2_with (go_at_call 44; refine (maps_any HB.out HD.out).mono ?_; rintro e w' ⟨rfl, rfl⟩)
  go_ret
  exact ⟨rfl, rfl⟩
set_option maxHeartbeats 400000 in
theorem seq_any (hb : Blk w p 78 c.cells) : Calls Try.prog 17 #[.pointer (some ⟨p, 0, none⟩)] w fun e w' => e = .returned (.int .i64 c.seq) ∧ w = w' := by
  have h1 := pc4 hb
  clear hb
  go_enter Try.func17, Try.ntmps17
  go_wp2
  go_ret
  exact ⟨rfl, rfl⟩
set_option maxHeartbeats 400000 in
theorem root_any (hb : Blk w p 78 c.cells) {bs : List UInt8} (hr : BytesV w I c.rv bs) (hl : bs.length ≤ 1000000) : Calls Try.prog 15 #[.pointer (some ⟨p, 0, none⟩)] w fun e w' => ∃ v, e = .returned v ∧ w'.ownsRow w.heap.size 5 1 v bs.length (bs.map byt) ∧ Keeps [] w w' := by
  have h1 := pc5 hb
  have HR := Lib.hid (Rd.of_own hr.1)
  clear hb hr
  go_enter Try.func15, Try.ntmps15
  go_wp2_with (go_at_call 34; refine (clone_any _ (bs.map byt) _ HR.out oneCell_u8 (by simp; omega)).mono ?_; rintro e w' ⟨v', rfl, ho, hk⟩)
  go_ret
  exact ⟨_, rfl, by simpa using ho, hk⟩
set_option maxHeartbeats 400000 in
/-- pager's own read: a block; it is counted. -/
theorem pread_any (n : Int) (hb : Blk w p 78 c.cells) (h : DiskAt w I c.d m D) (hf : D.full) (hp : ¬ I p) :
    Calls Try.prog 38 #[.pointer (some ⟨p, 0, none⟩), .int .i64 n] w fun e w' => ∃ v, e = .returned (.tuple #[v, .int .i64 (D.read n).2]) ∧ w'.ownsRow w.heap.size 5 1 v (D.read n).1.length ((D.read n).1.map byt) ∧
      Blk w' p 78 { c with reads := wrap64 (c.reads + 1) }.cells ∧ Keeps [p] w w' := by
  have h1 := pc0 hb
  have hadd := run_call_add (P := Try.prog) Try.func49 (by kernel_rfl) (by kernel_rfl) (by kernel_rfl) .i64 (by kernel_rfl) (y := 1) (s := wrap64 (c.reads + 1)) (pc11 hb) (hb.frozen 11) (by simp [go_sem, IntKind.wrap_i64, wrap64])
  have hk : Keeps [p] w (w.setCell ⟨p, 11, none⟩ (.int .i64 (wrap64 (c.reads + 1)))) := (Keeps.refl _ _).setCell (.inl (by simp)) _
  have hpd : ¬ p = c.d := hb.ne_ h.blk (by decide)
  have hpm : ¬ p = m := by obtain ⟨vs, es, ck, h1, -⟩ := h.mem.inner; exact hb.ne_map h1.heap
  have HD := Lib.hid (h.keeps hk (by simp; omega) (by simp; omega) (by intro g hg; simp at hg; subst hg; exact hp))
  have HB : Hid (Blk (w.setCell ⟨p, 11, none⟩ (.int .i64 (wrap64 (c.reads + 1)))) p 78 { c with reads := wrap64 (c.reads + 1) }.cells) := Lib.hid (hb.set_ 11 _)
  have h1' := pc0 HB.out
  have HK := Lib.hid hk
  clear hb h hk
  go_enter Try.func38, Try.ntmps38
  go_wp2_with (first | (go_at_call 40; go_in) | (go_at_call 48; refine (read_any _ n HD.out hf).mono ?_; rintro e w' ⟨v', rfl, ho, hk⟩))
  go_ret2
  exact ⟨_, rfl, by simpa using ho, HB.out.keeps hk (by simp), HK.out.trans (hk.mono (by simp))⟩
/-- .. where it is there: the slice written out. -/
theorem pread_ok (n : Int) (bs : List UInt8) (hb : Blk w p 78 c.cells) (h : DiskAt w I c.d m D) (hf : D.full) (hp : ¬ I p) (hr : D.read n = (bs, 0)) (hl : bs.length = 512) :
    Calls Try.prog 38 #[.pointer (some ⟨p, 0, none⟩), .int .i64 n] w fun e w' => ∃ g cap, e = .returned (.tuple #[.slice (some ⟨g, 0, none⟩) 512 cap, .int .i64 0]) ∧ 512 ≤ cap ∧ cap ≤ maxLen ∧ w.heap.size ≤ g ∧ w'.ownsRow w.heap.size 5 1 (.slice (some ⟨g, 0, none⟩) 512 cap) 512 (bs.map byt) ∧
      Blk w' p 78 { c with reads := wrap64 (c.reads + 1) }.cells ∧ Keeps [p] w w' := by
  refine (pread_any n hb h hf hp).mono ?_
  rintro e w' ⟨v, he, ho, hb', hk⟩
  rw [hr] at he ho
  simp only [hl] at ho
  obtain ⟨g, cap, rfl, hg, -⟩ := ho.form (by omega)
  obtain ⟨A, c', hv, h1, h2⟩ := (Rd.of_own ho).form
  injection hv with _ _ e3
  subst e3
  rw [List.length_map, hl] at h1
  exact ⟨g, cap, he, h1, h2, hg, ho, hb', hk⟩
end
end Go.Proofs.Ytebllnoeenginaa
