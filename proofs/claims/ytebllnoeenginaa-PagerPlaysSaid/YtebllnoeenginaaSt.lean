/- A pager that is alive, on a disk whose power does not go: its pages as two lists, and what each call makes of them. -/
import Derived.Test.YtebllnoeenginaaTells
import Derived.Test.YtebllnoeenginaaLaw1
namespace Go.Proofs.Ytebllnoeenginaa
open Go.RowKit

structure St (w0 w : World) (F : Nat → Prop) (p d : Nat) (X : Pager) (D : Disk) (all done : Pages) : Prop where
  live : Live w F p d X D
  tells : Tells X D all done
  alive : D.dead = false
  nocut : D.left = -1
  keep : Keeps [] w0 w
  base : ∀ k, F k → w0.heap.size ≤ k

section
variable {w0 w w' : World} {F : Nat → Prop} {p d : Nat} {X : Pager} {D : Disk} {all done : Pages}
theorem St.keeps {S : List Nat} (h : St w0 w F p d X D all done) (hk : Keeps S w w') (hs : ∀ g, g ∈ S → ¬ F g ∧ w0.heap.size ≤ g) : St w0 w' F p d X D all done :=
  ⟨h.live.keeps hk (fun g hg => (hs g hg).1), h.tells, h.alive, h.nocut, h.keep.then hk (fun g hg => .inr (hs g hg).2), h.base⟩
theorem St.same (h : St w0 w F p d X D all done) (hk : Keeps [] w w') : St w0 w' F p d X D all done := h.keeps hk (by simp)
theorem St.grown (h : St w0 w F p d X D all done) {row : Option Nat} (hg : w.grownBy w' row) (hr : ∀ g, row = some g → ¬ F g ∧ w0.heap.size ≤ g) : St w0 w' F p d X D all done :=
  h.keeps (S := row.toList) (Keeps.of_grown hg (by intro g hg; rw [hg]; simp)) (by intro g hg; cases hr' : row with
    | none => rw [hr'] at hg; simp at hg
    | some x => rw [hr'] at hg; simp at hg; rw [hg]; exact hr x hr')
theorem St.next {w'' : World} {F' : Nat → Prop} {X' : Pager} {D' : Disk} {all' done' : Pages} (h : St w0 w F p d X D all done) (hl : Live w'' F' p d X' D') (hg : Grows F F' w w'') (ht : Tells X' D' all' done') (h1 : D'.dead = false) (h2 : D'.left = -1) : St w0 w'' F' p d X' D' all' done' :=
  ⟨hl, ht, h1, h2, (hg.keeps0 h.keep h.base).1, (hg.keeps0 h.keep h.base).2⟩
/-- Something was put behind a row of the caller's own. -/
theorem Mine.appended {w1 w2 : World} {base n n' size : Nat} {e : TypeId} {v v' : Value} {xs xs' : List Value} (hm : Mine w F base e size v n xs) (hl : ∀ k, F k → k < w.heap.size) (hz : w.heap.size ≤ w1.heap.size)
    (ho : w2.ownsRow base e size v' n' xs') (hb : v'.ownBlock = v.ownBlock ∨ v'.ownBlock = some w1.heap.size) : Mine w2 F base e size v' n' xs' := by
  refine ⟨ho, fun g hg hf => ?_⟩
  rcases hb with hb | hb
  · exact hm.2 g (by rw [← hb]; exact hg) hf
  · rw [hb] at hg; cases hg
    have := hl _ hf; omega
/-- A row of the caller's own beside another one that was turned. -/
theorem Mine.beside {w1 w2 : World} {base n size : Nat} {e : TypeId} {v : Value} {xs : List Value} {row : Option Nat} (hm : Mine w F base e size v n xs) (hk : Keeps [] w w1) (hg : w1.grownBy w2 row) (hd : ∀ g, v.ownBlock = some g → row ≠ some g) : Mine w2 F base e size v n xs := by
  refine (hm.keeps hk (by simp)).keeps (S := row.toList) (Keeps.of_grown hg (by intro g hg; rw [hg]; simp)) ?_
  intro g hg hm2
  refine hd g hg ?_
  cases row with
  | none => simp at hm2
  | some x => simp at hm2; rw [hm2]
theorem St.appended {w1 w2 : World} {base n size : Nat} {e : TypeId} {v : Value} {xs : List Value} (h : St w0 w F p d X D all done) (hk : Keeps [] w w1) (hg : w1.grownBy w2 v.ownBlock) (hm : Mine w F base e size v n xs) (hb : w0.heap.size ≤ base) : St w0 w2 F p d X D all done :=
  (h.same hk).grown hg (fun g hg => ⟨hm.2 g hg, Nat.le_trans hb (own_base hm.1 g hg)⟩)
/-- A new disk, opened. -/
theorem st_new {n : Int} (h1 : 64 ≤ n) (h2 : n ≤ 16384) (hd : DiskLive w F d (Disk.zero n)) (hk : Keeps [] w0 w) (hF : ∀ k, F k → w0.heap.size ≤ k) :
    Calls Try.prog 11 #[.pointer (some ⟨d, 0, none⟩)] w fun e w' => ∃ p F', e = .returned (.tuple #[.pointer (some ⟨p, 0, none⟩), .int .i64 0]) ∧ St w0 w' F' p d ((Pager.zero n).abort (Disk.zero n)) (Disk.zero n) [] [] := by
  refine (live_open hd (zero_ok n h1 h2) (zero_image n) rfl).mono ?_
  rintro e w' ⟨p, F', he, hl, hg, -⟩
  exact ⟨p, F', he, hl, (Tells.zero n).abort (zero_ok n h1 h2), rfl, rfl, (hg.keeps0 hk hF).1, (hg.keeps0 hk hF).2⟩
theorem st_left (h : St w0 w F p d X D all done) : Calls Try.prog 18 #[.pointer (some ⟨p, 0, none⟩)] w fun e w' => e = .returned (.int .i64 (X.left D)) ∧ Keeps [] w w' := live_left h.live
theorem st_alloc {v : Value} {bs : List UInt8} (h : St w0 w F p d X D all done) (hr : Rd w v (bs.map byt)) (hl : bs.length ≤ 496) (hf : ¬ X.left D = 0) :
    Calls Try.prog 12 #[.pointer (some ⟨p, 0, none⟩), v] w fun e w' => ∃ n X' F', e = .returned (.tuple #[.int .i64 n, .int .i64 0]) ∧ Alloced X D n bs X' ∧ St w0 w' F' p d X' D (all ++ [(n, bs)]) done ∧ Grows F F' w w' := by
  refine (live_alloc h.live h.alive hr hl hf).mono ?_
  rintro e w' ⟨n, X', F', he, ha, hl, hg⟩
  exact ⟨n, X', F', he, ha, h.next hl hg (h.tells.alloc ha) h.alive h.nocut, hg⟩
theorem st_free (k : Int) (h : St w0 w F p d X D all done) : Calls Try.prog 21 #[.pointer (some ⟨p, 0, none⟩), .int .i64 k] w fun e w' =>
    e = .returned (.int .i64 (if AL.has all k then 0 else 2)) ∧ ∃ X', St w0 w' F p d X' D (AL.del all k) done ∧ Grows F F w w' ∧ X'.seq = X.seq ∧ X'.root = X.root := by
  obtain ⟨h1, h2, h3, h4, h5, h6, h7, h8⟩ := free_at h.live.ok h.alive k
  refine (live_free k h.live h.alive).mono ?_
  rintro e w' ⟨he, hl, hg⟩
  exact ⟨by rw [he, h.tells.free_ok h.live.ok h.alive], _, h.next hl hg (h.tells.free h.live.ok h.alive k) h.alive h.nocut, hg, h4, h5⟩
/-- Read, where the page is there. -/
theorem st_read (k : Int) {bs : List UInt8} (h : St w0 w F p d X D all done) (hg : AL.get all k = some bs) : Calls Try.prog 14 #[.pointer (some ⟨p, 0, none⟩), .int .i64 k] w fun e w' =>
    ∃ v, e = .returned (.tuple #[v, .int .i64 0]) ∧ Mine w' F w.heap.size 5 1 v bs.length (bs.map byt) ∧ St w0 w' F p d X D all done ∧ Grows F F w w' := by
  have hr : X.read D k = (bs, 0) := by rw [h.tells.read h.alive, hg]
  refine (live_read k h.live).mono ?_
  rintro e w' ⟨v, he, ho, hl, hg'⟩
  rw [hr] at he ho
  simp only at he ho
  exact ⟨v, he, ⟨ho, fun g hb hf => by have h1 := own_base ho g hb; have h2 := h.live.lt g hf; omega⟩, h.next hl hg' h.tells h.alive h.nocut, hg'⟩
/-- .. and where it is not. -/
theorem st_read_none (k : Int) (h : St w0 w F p d X D all done) (hg : AL.get all k = none) : Calls Try.prog 14 #[.pointer (some ⟨p, 0, none⟩), .int .i64 k] w fun e w' =>
    ∃ v, e = .returned (.tuple #[v, .int .i64 2]) ∧ Mine w' F w.heap.size 5 1 v 0 [] ∧ St w0 w' F p d X D all done ∧ Grows F F w w' := by
  have hr : X.read D k = ([], 2) := by rw [h.tells.read h.alive, hg]
  refine (live_read k h.live).mono ?_
  rintro e w' ⟨v, he, ho, hl, hg'⟩
  rw [hr] at he ho
  simp only at he ho
  exact ⟨v, he, ⟨ho, fun g hb hf => by have h1 := own_base ho g hb; have h2 := h.live.lt g hf; omega⟩, h.next hl hg' h.tells h.alive h.nocut, hg'⟩
theorem st_commit {v : Value} {root : List UInt8} (h : St w0 w F p d X D all done) (hr : Rd w v (root.map byt)) (hl : root.length ≤ 64) (hs : X.seq < 1000000000000000) (h0 : 0 ≤ D.writes) (hw : D.writes < 1000000000000000) :
    Calls Try.prog 13 #[.pointer (some ⟨p, 0, none⟩), v] w fun e w' => e = .returned (.int .i64 0) ∧ ∃ F' X' D', St w0 w' F' p d X' D' all all ∧ Grows F F' w w' ∧ Committed X D root X' D' := by
  have hfl := h.live.ok.fresh_len
  have hbh := h.live.ok.bhi
  have hlo := h.live.ok.first_lo
  refine (live_commit h.live h.alive hr hl (by omega) h0 (by omega) (.inl (by rw [h.nocut]; omega))).mono ?_
  rintro e w' ⟨he, F', X', D', hl', hg, hc⟩
  refine ⟨he, F', X', D', h.next hl' hg (h.tells.commit hc) hc.dead ?_, hg, hc⟩
  rw [hc.left, h.nocut]; rfl
theorem st_abort (h : St w0 w F p d X D all done) : Calls Try.prog 24 #[.pointer (some ⟨p, 0, none⟩)] w fun e w' => e = .returned (.tuple #[]) ∧ ∃ F', St w0 w' F' p d (X.abort D) D done done ∧ Grows F F' w w' := by
  refine (live_abort h.live).mono ?_
  rintro e w' ⟨he, F', hl, hg⟩
  exact ⟨he, F', h.next hl hg (h.tells.abort h.live.ok) h.alive h.nocut, hg⟩
/-- It is opened anew. -/
theorem st_open (h : St w0 w F p d X D all done) : Calls Try.prog 11 #[.pointer (some ⟨d, 0, none⟩)] w fun e w' => ∃ q F', e = .returned (.tuple #[.pointer (some ⟨q, 0, none⟩), .int .i64 0]) ∧ St w0 w' F' q d (X.abort D) D done done ∧ Grows F F' w w' := by
  refine (live_open h.live.disk h.live.ok h.live.img h.alive).mono ?_
  rintro e w' ⟨q, F', he, hl, hg, -⟩
  exact ⟨q, F', he, ⟨hl, h.tells.abort h.live.ok, h.alive, h.nocut, (hg.keeps0 h.keep h.base).1, (hg.keeps0 h.keep h.base).2⟩, hg⟩
theorem st_root (h : St w0 w F p d X D all done) : Calls Try.prog 15 #[.pointer (some ⟨p, 0, none⟩)] w fun e w' => ∃ v, e = .returned v ∧ w'.ownsRow w.heap.size 5 1 v X.root.length (X.root.map byt) ∧ Keeps [] w w' := live_root h.live
theorem st_seq (h : St w0 w F p d X D all done) : Calls Try.prog 17 #[.pointer (some ⟨p, 0, none⟩)] w fun e w' => e = .returned (.int .i64 X.seq) ∧ w = w' := live_seq h.live
theorem st_writes (h : St w0 w F p d X D all done) : Calls Try.prog 27 #[.pointer (some ⟨d, 0, none⟩)] w fun e w' => e = .returned (.int .i64 D.writes) ∧ w = w' := disk_writes h.live.disk
end
end Go.Proofs.Ytebllnoeenginaa
