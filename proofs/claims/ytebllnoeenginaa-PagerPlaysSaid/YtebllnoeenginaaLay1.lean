/- The pager's commit as a row of writes; pager.write where the whole pager stands. -/
import Derived.Test.YtebllnoeenginaaPag5
import Derived.Test.YtebllnoeenginaaSrt
namespace Go.Proofs.Ytebllnoeenginaa
open Go.RowKit

/-! ### A row of writes, as a plain machine -/
def Disk.writeAll (D : Disk) : List (Int × List UInt8) → Int × Disk
  | [] => (0, D)
  | q :: r => if (D.write q.1 q.2).1 = 0 then (D.write q.1 q.2).2.writeAll r else D.write q.1 q.2
theorem Disk.writeAll_ok {D : Disk} {q : Int × List UInt8} (r : List (Int × List UInt8)) (h : (D.write q.1 q.2).1 = 0) : D.writeAll (q :: r) = (D.write q.1 q.2).2.writeAll r := by
  show (if (D.write q.1 q.2).1 = 0 then _ else _) = _
  rw [if_pos h]
theorem Disk.writeAll_bad {D : Disk} {q : Int × List UInt8} (r : List (Int × List UInt8)) (h : ¬ (D.write q.1 q.2).1 = 0) : D.writeAll (q :: r) = D.write q.1 q.2 := by
  show (if (D.write q.1 q.2).1 = 0 then _ else _) = _
  rw [if_neg h]
theorem Disk.writeAll_append (a b : List (Int × List UInt8)) : ∀ D : Disk, D.writeAll (a ++ b) = if (D.writeAll a).1 = 0 then (D.writeAll a).2.writeAll b else D.writeAll a := by
  induction a with
  | nil => intro D; simp [Disk.writeAll]
  | cons q a ih =>
    intro D
    rw [List.cons_append]
    by_cases h : (D.write q.1 q.2).1 = 0
    · rw [Disk.writeAll_ok _ h, ih, Disk.writeAll_ok _ h]
    · rw [Disk.writeAll_bad _ h, Disk.writeAll_bad _ h, if_neg h]
theorem Disk.writeAll_go {D D' : Disk} {a : List (Int × List UInt8)} {q : Int × List UInt8} (h : D.writeAll a = (0, D')) (he : (D'.write q.1 q.2).1 = 0) : D.writeAll (a ++ [q]) = (0, (D'.write q.1 q.2).2) := by
  rw [Disk.writeAll_append, h, if_pos rfl, Disk.writeAll_ok _ he]
  show (0, _) = _
  rfl
theorem Disk.writeAll_stop {D D' : Disk} {a r : List (Int × List UInt8)} {q : Int × List UInt8} (h : D.writeAll a = (0, D')) (he : ¬ (D'.write q.1 q.2).1 = 0) : D.writeAll (a ++ q :: r) = D'.write q.1 q.2 := by
  rw [Disk.writeAll_append, h, if_pos rfl, Disk.writeAll_bad _ he]
theorem split_at {α : Type} (l : List α) (j : Nat) (h : j < l.length) : l = l.take j ++ l[j] :: l.drop (j + 1) := by
  rw [← List.drop_eq_getElem_cons h, List.take_append_drop]
theorem Disk.write_blocks (D : Disk) (n : Int) (bs : List UInt8) : (D.write n bs).2.blocks = D.blocks := by
  unfold Disk.write
  repeat' split
  all_goals rfl
theorem Disk.writeAll_blocks (l : List (Int × List UInt8)) : ∀ D : Disk, (D.writeAll l).2.blocks = D.blocks := by
  induction l with
  | nil => intro D; rfl
  | cons q l ih =>
    intro D
    unfold Disk.writeAll
    split
    · rw [ih, Disk.write_blocks]
    · exact Disk.write_blocks _ _ _

/-- The first K bits of the free map's block number i. -/
def mapB (taken : List Bool) (i : Nat) : Nat → List UInt8
  | 0 => noughts
  | K + 1 => if taken.getD (i * 4096 + K) false then (mapB taken i K).set (K / 8) ((mapB taken i K).getD (K / 8) 0 ||| (1 : UInt8) <<< (UInt8.ofNat (K % 8))) else mapB taken i K
theorem mapB_length (taken : List Bool) (i K : Nat) : (mapB taken i K).length = 512 := by
  induction K with
  | zero => exact noughts_length
  | succ K ih => unfold mapB; split <;> simp [ih]
def wordB : List UInt8 := [116, 111, 108, 108, 114, 111, 111, 116]
def rootB (seq : Nat) (root : List UInt8) : List UInt8 := wordB ++ putB 8 seq ++ putB 1 root.length ++ root
def Pager.pageWrites (X : Pager) : List (Int × List UInt8) := (rising (X.fresh.map (·.1))).map fun k => (k, encPage ((AL.get X.fresh k).getD []))
def mapWrites (taken : List Bool) (seq maps : Int) : List (Int × List UInt8) := (List.range maps.toNat).map fun (i : Nat) => (2 + seq % 2 * maps + (i : Int), mapB taken i 4096)
def Pager.layWrites (X : Pager) (D : Disk) (taken : List Bool) (root : List UInt8) : List (Int × List UInt8) :=
  X.pageWrites ++ mapWrites taken (X.seq + 1) (mapsOf D.blocks) ++ [((X.seq + 1) % 2, padded (rootB (X.seq + 1).toNat root))]

section
variable {w w' : World} {I I' : Nat → Prop} {p d m fr fd : Nat} {X : Pager} {D : Disk} {S : List Nat}
theorem PagerAt.disked (h : PagerAt w I p d m fr fd X D) {D' : Disk} (hk : Keeps S w w') (hfr : fr ∉ S) (hfd : fd ∉ S) (hs : ∀ g, g ∈ S → ¬ I g) (hi : ∀ k, I k → I' k) (hn : ∀ k, I' k → I k ∨ w.heap.size ≤ k) (hd : DiskAt w' I' d m D')
    {c c' : PC} (hcs : PCof w I c d fr fd X) (hb : Blk w' p 78 c'.cells) (hc : c' = { c with does := c'.does, reads := c'.reads }) : PagerAt w' I' p d m fr fd X D' := by
  obtain ⟨c0, hb0, -⟩ := h.cells
  have hpl := hb0.lt
  have hrl := h.fresh.lt
  have hfl := h.freed.lt
  have ex : ∀ q, ¬ I q → q < w.heap.size → ¬ I' q := by intro q h1 h2 h3; rcases hn q h3 with h | h; exact h1 h; omega
  refine ⟨hd, ⟨c', hb, ?_⟩, (h.fresh.keeps hk hfr hs).mono hi, h.freed.keeps hk hfd, ex _ h.np hpl, ex _ h.nfr hrl, ex _ h.nfd hfl, h.frm, h.fdm, h.frfd⟩
  rw [hc]
  obtain ⟨g1, g2, g3, g4, g5, g6, g7, g8⟩ := (hcs.keeps hk hs).mono hi
  exact ⟨g1, g2, g3, g4, g5, g6, g7, g8⟩

theorem BytesV.bound {v : Value} {bs : List UInt8} (h : BytesV w I v bs) : BytesV w (fun k => I k ∧ k < w.heap.size) v bs := ⟨h.1, fun g hg => ⟨h.2 g hg, own_lt h.1 g hg⟩⟩
theorem BoolsV.bound {v : Value} {bs : List Bool} (h : BoolsV w I v bs) : BoolsV w (fun k => I k ∧ k < w.heap.size) v bs := ⟨h.1, fun g hg => ⟨h.2 g hg, own_lt h.1 g hg⟩⟩
theorem BMap.bound {q : Nat} {l : List (Int × List UInt8)} (h : BMap w I q l) : BMap w (fun k => I k ∧ k < w.heap.size) q l := by
  obtain ⟨vs, es, ck, h1, h2, h3⟩ := h.inner
  exact ⟨vs, es, ck, h1, h2, fun k v hv => by obtain ⟨bs, hb, hv⟩ := h3 k v hv; exact ⟨bs, hb, hv.bound⟩⟩
theorem DiskAt.bound (h : DiskAt w I d m D) : DiskAt w (fun k => I k ∧ k < w.heap.size) d m D :=
  ⟨h.blk, h.mem.bound, h.lo, h.hi, h.llo, h.lhi, fun hh => h.nd hh.1, fun hh => h.nm hh.1⟩
/-- The rows that are held lie below the heap's end. -/
theorem PagerAt.bound (h : PagerAt w I p d m fr fd X D) : PagerAt w (fun k => I k ∧ k < w.heap.size) p d m fr fd X D := by
  obtain ⟨c, hb, g1, g2, g3, g4, g5, g6, g7, g8⟩ := h.cells
  exact ⟨h.disk.bound, ⟨c, hb, g1, g2, g3, g4, g5, g6, g7.bound, g8.bound⟩, h.fresh.bound, h.freed, fun hh => h.np hh.1, fun hh => h.nfr hh.1, fun hh => h.nfd hh.1, h.frm, h.fdm, h.frfd⟩
/-- The pager behind a write. -/
def Laid (w : World) (I : Nat → Prop) (p d m fr fd : Nat) (X : Pager) (D : Disk) (S : List Nat) (w' : World) : Prop :=
  ∃ I', PagerAt w' I' p d m fr fd X D ∧ Keeps S w w' ∧ (∀ k, I' k → I k ∨ w.heap.size ≤ k) ∧ ∀ k, I' k → k < w'.heap.size

theorem pwrite_at (n : Int) (v : Value) (bs : List UInt8) (base : Nat) (h : PagerAt w I p d m fr fd X D) (ho : w.ownsRow base 5 1 v bs.length (bs.map byt)) (hvI : ∀ g, v.ownBlock = some g → ¬ I g) (hbase : base ≤ w.heap.size) (hl : bs.length ≤ 512) :
    Calls Try.prog 46 #[.pointer (some ⟨p, 0, none⟩), .int .i64 n, v] w fun e w' => e = .returned (.int .i64 (D.write n (padded bs)).1) ∧ Laid w I p d m fr fd X (D.write n (padded bs)).2 ([p, d, m] ++ v.ownBlock.toList) w' := by
  obtain ⟨c, hb, hpc⟩ := h.cells
  have hcd := hpc.1
  have hD := h.disk
  rw [← hcd] at hD
  refine (pwrite_any n v bs base hb hD h.np ho hvI hbase hl).mono ?_
  rintro e w' ⟨he, I', hd, hb', hk, hi, hn⟩
  rw [hcd] at hd hk
  have hA := h.apart
  obtain ⟨vs2, es2, ck2, hm2, -⟩ := h.fresh.inner
  obtain ⟨es3, ck3, hm3⟩ := h.freed.inner
  have ht : ∀ g, g ∈ v.ownBlock.toList → v.ownBlock = some g := by intro g hg; cases hv : v.ownBlock with
    | none => rw [hv] at hg; simp at hg
    | some x => rw [hv] at hg; simp at hg; rw [hg]
  refine ⟨he, _, (h.disked hk ?_ ?_ ?_ hi hn hd hpc hb' rfl).bound, hk, fun k hk => hn k hk.1, fun k hk => hk.2⟩
  · intro hm; rw [List.mem_append] at hm
    rcases hm with hm | hm
    · have h1 := hA.pfr; have h2 := hA.dfr; have h3 := hA.mfr; simp at hm; omega
    · exact own_ne_map ho hm2.heap _ (ht _ hm) rfl
  · intro hm; rw [List.mem_append] at hm
    rcases hm with hm | hm
    · have h1 := hA.pfd; have h2 := hA.dfd; have h3 := hA.mfd; simp at hm; omega
    · exact own_ne_map ho hm3.heap _ (ht _ hm) rfl
  · intro g hm; rw [List.mem_append] at hm
    rcases hm with hm | hm
    · simp at hm
      rcases hm with rfl | rfl | rfl
      · exact h.np
      · exact h.disk.nd
      · exact h.disk.nm
    · exact hvI g (ht g hm)
end
end Go.Proofs.Ytebllnoeenginaa
