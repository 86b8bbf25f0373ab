/- The pager and its disk, with the blocks that are theirs: what each call does. -/
import Derived.Test.YtebllnoeenginaaImg3
import Derived.Test.YtebllnoeenginaaOpen
namespace Go.Proofs.Ytebllnoeenginaa
open Go.RowKit

/-- What changes lies in F, or is new; what is theirs behind it lay in F, or is new. -/
def Grows (F F' : Nat → Prop) (w w' : World) : Prop := (∃ S : List Nat, Keeps S w w' ∧ ∀ g, g ∈ S → F g) ∧ ∀ k, F' k → F k ∨ w.heap.size ≤ k
/-- A disk. -/
structure DiskLive (w : World) (F : Nat → Prop) (d : Nat) (D : Disk) : Prop where
  inner : ∃ I m, DiskAt w I d m D ∧ ∀ k, I k ∨ k ∈ [d, m] → F k
  lt : ∀ k, F k → k < w.heap.size
/-- A pager on a disk. -/
structure Live (w : World) (F : Nat → Prop) (p d : Nat) (X : Pager) (D : Disk) : Prop where
  inner : ∃ I m fr fd, PagerAt w I p d m fr fd X D ∧ ∀ k, I k ∨ k ∈ [p, d, m, fr, fd] → F k
  lt : ∀ k, F k → k < w.heap.size
  ok : X.ok D
  img : Image X D

section
variable {w w' w'' : World} {F F' F'' : Nat → Prop} {p d : Nat} {X : Pager} {D : Disk}
theorem Grows.refl (F : Nat → Prop) (w : World) : Grows F F w w := ⟨⟨[], Keeps.refl _ _, by simp⟩, fun _ h => .inl h⟩
theorem Grows.size (h : Grows F F' w w') : w.heap.size ≤ w'.heap.size := by obtain ⟨⟨S, hk, -⟩, -⟩ := h; exact hk.size
theorem Grows.block (h : Grows F F' w w') {k : Nat} (hk : k < w.heap.size) (hn : ¬ F k) : w'.heap[k]? = w.heap[k]? := by
  obtain ⟨⟨S, hs, hf⟩, -⟩ := h; exact hs.block k hk (fun hm => hn (hf k hm))
/-- A row of the caller's own is as it was. -/
theorem Grows.own (h : Grows F F' w w') {base : Nat} {e : TypeId} {size : Nat} {v : Value} {n : Nat} {xs : List Value} (ho : w.ownsRow base e size v n xs) (hn : ∀ g, v.ownBlock = some g → ¬ F g) : w'.ownsRow base e size v n xs := by
  obtain ⟨⟨S, hs, hf⟩, -⟩ := h; exact hs.own ho (fun g hg hm => hn g hg (hf g hm))
theorem Grows.rd (h : Grows F F' w w') {v : Value} {xs : List Value} (hr : Rd w v xs) (hn : xs ≠ [] → ∀ g, v.ownBlock = some g → ¬ F g) : Rd w' v xs := by
  obtain ⟨⟨S, hs, hf⟩, -⟩ := h; exact hr.keeps hs (fun h g hg hm => hn h g hg (hf g hm))
theorem Grows.not (h : Grows F F' w w') {k : Nat} (hk : k < w.heap.size) (hn : ¬ F k) : ¬ F' k := fun hf => by
  rcases h.2 k hf with h | h
  · exact hn h
  · omega
theorem Grows.trans (h : Grows F F' w w') (h' : Grows F' F'' w' w'') : Grows F F'' w w'' := by
  have hz := h.size
  obtain ⟨⟨S, hs, hf⟩, hi⟩ := h
  obtain ⟨⟨S', hs', hf'⟩, hi'⟩ := h'
  classical
  refine ⟨⟨S ++ S'.filter (fun k => decide (k < w.heap.size)), (hs.mono (by intro k hk; exact List.mem_append_left _ hk)).then hs' (fun k hk => ?_), fun g hg => ?_⟩, fun k hk => ?_⟩
  · by_cases h : k < w.heap.size
    · exact .inl (List.mem_append_right _ (List.mem_filter.2 ⟨hk, by simpa using h⟩))
    · exact .inr (by omega)
  · rcases List.mem_append.1 hg with hg | hg
    · exact hf g hg
    · rw [List.mem_filter] at hg
      have h1 := hf' g hg.1
      have h2 : g < w.heap.size := by simpa using hg.2
      rcases hi g h1 with h | h
      · exact h
      · omega
  · rcases hi' k hk with h | h
    · exact hi k h
    · exact .inr (by omega)
/-- From a world before all that is theirs. -/
theorem Grows.keeps0 {w0 : World} (h : Grows F F' w w') (h0 : Keeps [] w0 w) (hF : ∀ k, F k → w0.heap.size ≤ k) : Keeps [] w0 w' ∧ ∀ k, F' k → w0.heap.size ≤ k := by
  have hz := h0.size
  obtain ⟨⟨S, hs, hf⟩, hi⟩ := h
  exact ⟨h0.then hs (fun k hk => .inr (hF k (hf k hk))), fun k hk => by rcases hi k hk with h | h; exact hF k h; omega⟩
theorem Grows.of_keeps {S : List Nat} (hk : Keeps S w w') (hs : ∀ g, g ∈ S → F g) : Grows F F w w' := ⟨⟨S, hk, hs⟩, fun _ h => .inl h⟩

theorem Live.keeps {S : List Nat} (h : Live w F p d X D) (hk : Keeps S w w') (hs : ∀ g, g ∈ S → ¬ F g) : Live w' F p d X D := by
  obtain ⟨I, m, fr, fd, hp, hf⟩ := h.inner
  have hn : ∀ g, g ∈ [p, d, m, fr, fd] → g ∉ S := fun g hg hm => hs g hm (hf g (.inr hg))
  exact ⟨⟨I, m, fr, fd, hp.keeps hk (hn p (by simp)) (hn d (by simp)) (hn m (by simp)) (hn fr (by simp)) (hn fd (by simp)) (fun g hg hi => hs g hg (hf g (.inl hi))), hf⟩, fun k hk' => Nat.lt_of_lt_of_le (h.lt k hk') hk.size, h.ok, h.img⟩
theorem DiskLive.keeps {S : List Nat} (h : DiskLive w F d D) (hk : Keeps S w w') (hs : ∀ g, g ∈ S → ¬ F g) : DiskLive w' F d D := by
  obtain ⟨I, m, hp, hf⟩ := h.inner
  have hn : ∀ g, g ∈ [d, m] → g ∉ S := fun g hg hm => hs g hm (hf g (.inr hg))
  exact ⟨⟨I, m, hp.keeps hk (hn d (by simp)) (hn m (by simp)) (fun g hg hi => hs g hg (hf g (.inl hi))), hf⟩, fun k hk' => Nat.lt_of_lt_of_le (h.lt k hk') hk.size⟩
theorem Live.grown (h : Live w F p d X D) {row : Option Nat} (hg : w.grownBy w' row) (hr : ∀ g, row = some g → ¬ F g) : Live w' F p d X D :=
  h.keeps (S := row.toList) (Keeps.of_grown hg (by intro g hg; rw [hg]; simp)) (by intro g hg; cases hr' : row with
    | none => rw [hr'] at hg; simp at hg
    | some x => rw [hr'] at hg; simp at hg; rw [hg]; exact hr x hr')
theorem Live.disk (h : Live w F p d X D) : DiskLive w F d D := by
  obtain ⟨I, m, fr, fd, hp, hf⟩ := h.inner
  exact ⟨⟨I, m, hp.disk, fun k hk => hf k (by rcases hk with hk | hk; exact .inl hk; right; simp at hk ⊢; omega)⟩, h.lt⟩
theorem Live.pF (h : Live w F p d X D) : F p := by obtain ⟨I, m, fr, fd, hp, hf⟩ := h.inner; exact hf p (.inr (by simp))
theorem Live.dF (h : Live w F p d X D) : F d := by obtain ⟨I, m, fr, fd, hp, hf⟩ := h.inner; exact hf d (.inr (by simp))
theorem Live.llo (h : Live w F p d X D) : -1 ≤ D.left := by obtain ⟨I, m, fr, fd, hp, hf⟩ := h.inner; exact hp.disk.llo
/-- The tightest that is theirs. -/
theorem Live.of (I : Nat → Prop) {m fr fd : Nat} (h : PagerAt w I p d m fr fd X D) (hI : ∀ k, I k → k < w.heap.size) (hx : X.ok D) (hi : Image X D) : Live w (fun k => I k ∨ k ∈ [p, d, m, fr, fd]) p d X D := by
  obtain ⟨c, hb, -⟩ := h.cells
  refine ⟨⟨I, m, fr, fd, h, fun k hk => hk⟩, fun k hk => ?_, hx, hi⟩
  rcases hk with hk | hk
  · exact hI k hk
  · have h1 := hb.lt
    have h2 := h.disk.blk.lt
    have h3 := h.disk.mem.lt
    have h4 := h.fresh.lt
    have h5 := h.freed.lt
    simp at hk; omega

/-! ### The calls -/
theorem live_seq (h : Live w F p d X D) : Calls Try.prog 17 #[.pointer (some ⟨p, 0, none⟩)] w fun e w' => e = .returned (.int .i64 X.seq) ∧ w = w' := by
  obtain ⟨I, m, fr, fd, hp, hf⟩ := h.inner
  obtain ⟨c, hb, hc⟩ := hp.cells
  have := seq_any hb
  rw [hc.2.1] at this; exact this
theorem live_root (h : Live w F p d X D) : Calls Try.prog 15 #[.pointer (some ⟨p, 0, none⟩)] w fun e w' => ∃ v, e = .returned v ∧ w'.ownsRow w.heap.size 5 1 v X.root.length (X.root.map byt) ∧ Keeps [] w w' := by
  obtain ⟨I, m, fr, fd, hp, hf⟩ := h.inner
  obtain ⟨c, hb, hc⟩ := hp.cells
  have hl := h.ok.rlen
  exact root_any hb hc.2.2.2.2.2.2.1 (by omega)
theorem live_left (h : Live w F p d X D) : Calls Try.prog 18 #[.pointer (some ⟨p, 0, none⟩)] w fun e w' => e = .returned (.int .i64 (X.left D)) ∧ Keeps [] w w' := by
  obtain ⟨I, m, fr, fd, hp, hf⟩ := h.inner
  exact (left_any hp h.ok).mono fun e w' ⟨he, n, hw⟩ => ⟨he, by rw [hw]; exact (Keeps.refl _ _).drewN n⟩
theorem live_read (k : Int) (h : Live w F p d X D) : Calls Try.prog 14 #[.pointer (some ⟨p, 0, none⟩), .int .i64 k] w fun e w' =>
    ∃ v, e = .returned (.tuple #[v, .int .i64 (X.read D k).2]) ∧ w'.ownsRow w.heap.size 5 1 v (X.read D k).1.length ((X.read D k).1.map byt) ∧ Live w' F p d X D ∧ Grows F F w w' := by
  obtain ⟨I, m, fr, fd, hp, hf⟩ := h.inner
  refine (fread_any k hp h.ok).mono ?_
  rintro e w' ⟨v, he, ho, hp', hk⟩
  have hz := hk.size
  exact ⟨v, he, ho, ⟨⟨I, m, fr, fd, hp', hf⟩, fun k hk' => Nat.lt_of_lt_of_le (h.lt k hk') hz, h.ok, h.img⟩, Grows.of_keeps hk (by intro g hg; simp at hg; subst hg; exact h.pF)⟩
theorem live_free (k : Int) (h : Live w F p d X D) (hd : D.dead = false) : Calls Try.prog 21 #[.pointer (some ⟨p, 0, none⟩), .int .i64 k] w fun e w' =>
    e = .returned (.int .i64 (X.free D k).1) ∧ Live w' F p d (X.free D k).2 D ∧ Grows F F w w' := by
  obtain ⟨I, m, fr, fd, hp, hf⟩ := h.inner
  obtain ⟨h1, h2, h3, h4, h5, h6, h7, h8⟩ := free_at h.ok hd k
  refine (free_any k hp).mono ?_
  rintro e w' ⟨he, hp', hk⟩
  have hz := hk.size
  exact ⟨he, ⟨⟨I, m, fr, fd, hp', hf⟩, fun k hk' => Nat.lt_of_lt_of_le (h.lt k hk') hz, h2, h.img.of h4 h5 h6⟩, Grows.of_keeps hk (by intro g hg; exact hf g (.inr (by simp at hg ⊢; omega)))⟩
theorem live_abort (h : Live w F p d X D) : Calls Try.prog 24 #[.pointer (some ⟨p, 0, none⟩)] w fun e w' =>
    e = .returned (.tuple #[]) ∧ ∃ F', Live w' F' p d (X.abort D) D ∧ Grows F F' w w' := by
  obtain ⟨I, m, fr, fd, hp, hf⟩ := h.inner
  have hI : ∀ k, I k → k < w.heap.size := fun k hk => h.lt k (hf k (.inl hk))
  refine (abort_any hp hI).mono ?_
  rintro e w' ⟨he, hp', hk⟩
  have hz := hk.size
  refine ⟨he, _, Live.of I hp' (fun k hk' => Nat.lt_of_lt_of_le (hI k hk') hz) (abort_ok h.ok) (h.img.of rfl rfl rfl), ⟨⟨_, hk, by intro g hg; simp at hg; subst hg; exact h.pF⟩, fun k hk' => ?_⟩⟩
  rcases hk' with hk' | hk'
  · exact .inl (hf k (.inl hk'))
  · simp at hk'
    rcases hk' with rfl | rfl | rfl | rfl | rfl
    · exact .inl (hf _ (.inr (by simp)))
    · exact .inl (hf _ (.inr (by simp)))
    · exact .inl (hf _ (.inr (by simp)))
    · exact .inr (Nat.le_refl _)
    · exact .inr (by omega)
/-- What Alloc makes of a pager. -/
structure Alloced (X : Pager) (D : Disk) (n : Int) (bs : List UInt8) (X' : Pager) : Prop where
  lo : firstOf D.blocks ≤ n
  hi : n < D.blocks
  void : X.at_ D n = none
  gone : X.com D n = none
  at_ : ∀ k, X'.at_ D k = if k = n then some bs else X.at_ D k
  com : ∀ k, X'.com D k = X.com D k
  left : X'.left D = X.left D - 1
  seq : X'.seq = X.seq
  root : X'.root = X.root
  many : X'.many = X.many
  fresh : X'.fresh.length = X.fresh.length + 1
theorem live_alloc {v : Value} {bs : List UInt8} (h : Live w F p d X D) (hd : D.dead = false) (hr : Rd w v (bs.map byt)) (hl : bs.length ≤ 496) (hf : ¬ X.left D = 0) :
    Calls Try.prog 12 #[.pointer (some ⟨p, 0, none⟩), v] w fun e w' => ∃ n X' F', e = .returned (.tuple #[.int .i64 n, .int .i64 0]) ∧ Alloced X D n bs X' ∧ Live w' F' p d X' D ∧ Grows F F' w w' := by
  obtain ⟨I, m, fr, fd, hp, hff⟩ := h.inner
  refine (alloc_ok v bs hp h.ok hd hr hl hf).mono ?_
  rintro e w' ⟨n, x, he, hn, h1, h2, I', hp', hk, hi1, hi2⟩
  obtain ⟨a1, a2, a3, a4, a5, a6⟩ := alloc_at h.ok hn hl h1 h2
  have hp2 := hp'.bound
  refine ⟨n, _, _, he, ⟨hn.1, hn.2.1, a3, a4, a2, com_of rfl, a5, rfl, rfl, rfl, a6⟩, Live.of _ hp2 (fun k hk' => hk'.2) a1 (h.img.of rfl rfl rfl), ⟨⟨_, hk, by intro g hg; exact hff g (.inr (by simp at hg ⊢; omega))⟩, fun k hk' => ?_⟩⟩
  rcases hk' with hk' | hk'
  · rcases hi2 k hk'.1 with h | h
    · exact .inl (hff k (.inl h))
    · exact .inr h
  · exact .inl (hff k (.inr hk'))
theorem live_alloc_long {v : Value} {bs : List UInt8} (h : Live w F p d X D) (hd : D.dead = false) (hr : Rd w v (bs.map byt)) (hl : 496 < bs.length) :
    Calls Try.prog 12 #[.pointer (some ⟨p, 0, none⟩), v] w fun e w' => e = .returned (.tuple #[.int .i64 0, .int .i64 5]) ∧ w = w' := by
  obtain ⟨I, m, fr, fd, hp, hff⟩ := h.inner
  exact alloc_long v bs hp hd hr hl
theorem live_alloc_full {v : Value} {bs : List UInt8} (h : Live w F p d X D) (hd : D.dead = false) (hr : Rd w v (bs.map byt)) (hl : bs.length ≤ 496) (hf : X.left D = 0) :
    Calls Try.prog 12 #[.pointer (some ⟨p, 0, none⟩), v] w fun e w' => e = .returned (.tuple #[.int .i64 0, .int .i64 13]) ∧ Keeps [] w w' := by
  obtain ⟨I, m, fr, fd, hp, hff⟩ := h.inner
  exact (alloc_full v bs hp h.ok hd hr hl hf).mono fun e w' ⟨he, n, hw⟩ => ⟨he, by rw [hw]; exact (Keeps.refl _ _).drewN n⟩
theorem live_commit_dead {v : Value} (h : Live w F p d X D) (hd : D.dead = true) : Calls Try.prog 13 #[.pointer (some ⟨p, 0, none⟩), v] w fun e w' => e = .returned (.int .i64 12) ∧ w = w' := by
  obtain ⟨I, m, fr, fd, hp, hff⟩ := h.inner
  exact commit_dead v hp hd
theorem live_commit_long {v : Value} {bs : List UInt8} (h : Live w F p d X D) (hd : D.dead = false) (hr : Rd w v (bs.map byt)) (hl : 64 < bs.length) : Calls Try.prog 13 #[.pointer (some ⟨p, 0, none⟩), v] w fun e w' => e = .returned (.int .i64 5) ∧ w = w' := by
  obtain ⟨I, m, fr, fd, hp, hff⟩ := h.inner
  exact commit_long v bs hp hd hr hl
theorem live_commit_raw {v : Value} {root : List UInt8} (h : Live w F p d X D) (hd : D.dead = false) (hr : Rd w v (root.map byt)) (hl : root.length ≤ 64) (hok : (X.commit D root).2.1.ok (X.commit D root).2.2) (him : Image (X.commit D root).2.1 (X.commit D root).2.2) :
    Calls Try.prog 13 #[.pointer (some ⟨p, 0, none⟩), v] w fun e w' => e = .returned (.int .i64 (X.commit D root).1) ∧ ∃ F', Live w' F' p d (X.commit D root).2.1 (X.commit D root).2.2 ∧ Grows F F' w w' := by
  obtain ⟨I, m, fr, fd, hp, hff⟩ := h.inner
  have hI : ∀ k, I k → k < w.heap.size := fun k hk => h.lt k (hff k (.inl hk))
  refine (commit_ok v root hp h.ok hd hr hl hI).mono ?_
  rintro e w' ⟨he, I', fr', fd', hp', hk, hi1, hi2, hfr, hfd⟩
  refine ⟨he, _, Live.of I' hp' hi2 hok him, ⟨⟨_, hk, by intro g hg; exact hff g (.inr (by simp at hg ⊢; omega))⟩, fun k hk' => ?_⟩⟩
  rcases hk' with hk' | hk'
  · rcases hi1 k hk' with h | h
    · exact .inl (hff k (.inl h))
    · exact .inr h
  · simp at hk'
    rcases hk' with rfl | rfl | rfl | rfl | rfl
    · exact .inl (hff _ (.inr (by simp)))
    · exact .inl (hff _ (.inr (by simp)))
    · exact .inl (hff _ (.inr (by simp)))
    · rcases hfr with rfl | h
      · exact .inl (hff _ (.inr (by simp)))
      · exact .inr h
    · rcases hfd with rfl | h
      · exact .inl (hff _ (.inr (by simp)))
      · exact .inr h
/-- What a whole commit makes of a pager and its disk. -/
structure Committed (X : Pager) (D : Disk) (root : List UInt8) (X' : Pager) (D' : Disk) : Prop where
  blocks : D'.blocks = D.blocks
  dead : D'.dead = false
  left : D'.left = if 0 < D.left then D.left - (X.fresh.length + mapsOf D.blocks + 1) else D.left
  writes : D'.writes = D.writes + (X.fresh.length + mapsOf D.blocks + 1)
  at_ : ∀ k, X'.at_ D' k = X.at_ D k
  com : ∀ k, X'.com D' k = X.at_ D k
  seq : X'.seq = X.seq + 1
  root : X'.root = root
  fresh : X'.fresh = []
theorem live_commit {v : Value} {root : List UInt8} (h : Live w F p d X D) (hd : D.dead = false) (hr : Rd w v (root.map byt)) (hl : root.length ≤ 64) (hs : X.seq + 1 < 1152921504606846976) (h0 : 0 ≤ D.writes) (hw : D.writes + X.fresh.length + 10 < 4611686018427387904)
    (hlf : D.left < 0 ∨ (X.fresh.length : Int) + mapsOf D.blocks + 1 ≤ D.left) :
    Calls Try.prog 13 #[.pointer (some ⟨p, 0, none⟩), v] w fun e w' => e = .returned (.int .i64 0) ∧ ∃ F' X' D', Live w' F' p d X' D' ∧ Grows F F' w w' ∧ Committed X D root X' D' := by
  have hx := h.ok
  have hc := commit_done hx hd hl h0 hw hlf
  have hlen := layWrites_len X D X.nextTaken root
  have hmp := maps_pos hx
  have := live_commit_raw h hd hr hl (by rw [hc]; exact next_ok hx hl hs) (by rw [hc]; exact next_image hx h.img hl hs)
  rw [hc] at this
  refine this.mono ?_
  rintro e w' ⟨he, F', h1, h2⟩
  refine ⟨he, F', _, _, h1, h2, ⟨rfl, hd, ?_, ?_, next_at hx, next_com hx, rfl, rfl, rfl⟩⟩
  · show (if 0 < D.left then D.left - ((X.layWrites D X.nextTaken root).length : Nat) else D.left) = _
    rw [hlen]; split <;> omega
  · show D.writes + ((X.layWrites D X.nextTaken root).length : Nat) = _
    rw [hlen]; omega
/-- .. and one that is cut off. -/
structure CutOff (X : Pager) (D D' : Disk) : Prop where
  blocks : D'.blocks = D.blocks
  dead : D'.dead = true
  left : D'.left = 0
  writes : 0 ≤ D'.writes ∧ D'.writes ≤ D.writes + D.left
  at_ : ∀ k, X.at_ D' k = X.at_ D k
  com : ∀ k, X.com D' k = X.com D k
theorem live_commit_cut {v : Value} {root : List UInt8} (h : Live w F p d X D) (hd : D.dead = false) (hr : Rd w v (root.map byt)) (hl : root.length ≤ 64) (h0 : 0 ≤ D.writes) (hw : D.writes + X.fresh.length + 10 < 4611686018427387904)
    (hl0 : 0 ≤ D.left) (hlf : D.left < (X.fresh.length : Int) + mapsOf D.blocks + 1) :
    Calls Try.prog 13 #[.pointer (some ⟨p, 0, none⟩), v] w fun e w' => e = .returned (.int .i64 12) ∧ ∃ F' D', Live w' F' p d X D' ∧ Grows F F' w w' ∧ CutOff X D D' := by
  have hx := h.ok
  obtain ⟨hc, hsm⟩ := commit_cutoff hx hd hl h0 hw hl0 hlf
  have := live_commit_raw h hd hr hl (by rw [hc]; exact hx.same hsm) (by rw [hc]; exact h.img.same hx hsm)
  rw [hc] at this
  refine this.mono ?_
  rintro e w' ⟨he, F', h1, h2⟩
  refine ⟨he, F', _, h1, h2, ⟨rfl, rfl, rfl, ⟨?_, ?_⟩, at_same hsm, com_same hsm⟩⟩
  · show 0 ≤ D.writes + _
    omega
  · show D.writes + _ ≤ D.writes + D.left
    rw [List.length_take]; omega
/-- Open, where a pager was before, or on a new disk. -/
theorem live_open (h : DiskLive w F d D) (hx : X.ok D) (hi : Image X D) (hd : D.dead = false) :
    Calls Try.prog 11 #[.pointer (some ⟨d, 0, none⟩)] w fun e w' => ∃ p F', e = .returned (.tuple #[.pointer (some ⟨p, 0, none⟩), .int .i64 0]) ∧ Live w' F' p d (X.abort D) D ∧ Grows F F' w w' ∧ Keeps [] w w' := by
  obtain ⟨I, m, hD, hf⟩ := h.inner
  have hI : ∀ k, I k → k < w.heap.size := fun k hk => h.lt k (hf k (.inl hk))
  refine (open_ok hD hx.full hx.blo hd (hi.slotSeq_lt hx) hI).mono ?_
  rintro e w' ⟨p, fr, fd, I', he, hp, hk, hi1, hi2, h1, h2, h3⟩
  rw [hi.opened hx] at hp
  refine ⟨p, _, he, Live.of I' hp hi2 (abort_ok hx) (hi.of rfl rfl rfl), ⟨⟨[], hk, by simp⟩, fun k hk' => ?_⟩, hk⟩
  rcases hk' with hk' | hk'
  · rcases hi1 k hk' with h | h
    · exact .inl (hf k (.inl h))
    · exact .inr h
  · simp at hk'
    rcases hk' with rfl | rfl | rfl | rfl | rfl
    · exact .inr h1
    · exact .inl (hf _ (.inr (by simp)))
    · exact .inl (hf _ (.inr (by simp)))
    · exact .inr h2
    · exact .inr h3
theorem live_open_dead (h : DiskLive w F d D) (hfu : D.full) (hb : 64 ≤ D.blocks) (hd : D.dead = true) :
    Calls Try.prog 11 #[.pointer (some ⟨d, 0, none⟩)] w fun e w' => e = .returned (.tuple #[.pointer none, .int .i64 12]) ∧ Keeps [] w w' := by
  obtain ⟨I, m, hD, hf⟩ := h.inner
  have hI : ∀ k, I k → k < w.heap.size := fun k hk => h.lt k (hf k (.inl hk))
  exact open_dead hD hfu hb hd hI
theorem live_open_small (h : DiskLive w F d D) (hb : D.blocks < 64) :
    Calls Try.prog 11 #[.pointer (some ⟨d, 0, none⟩)] w fun e w' => e = .returned (.tuple #[.pointer none, .int .i64 1]) ∧ w = w' := by
  obtain ⟨I, m, hD, hf⟩ := h.inner
  exact open_small hD hb

/-! ### The disk's own calls -/
theorem SameAt.of_mem {D' : Disk} (hx : X.ok D) (hm : D'.mem = D.mem) (hb : D'.blocks = D.blocks) : SameAt X D D' := by
  have hbl : ∀ k, D'.block k = D.block k := fun k => by unfold Disk.block; rw [hm]
  exact ⟨hb, (by intro k bs hg; rw [hm] at hg; exact hx.full k bs hg), fun i _ => hbl i, fun i _ _ => hbl i, fun k _ => hbl k⟩
theorem PagerAt.turned {I : Nat → Prop} {m fr fd : Nat} {D' : Disk} (h : PagerAt w I p d m fr fd X D) (hk : Keeps [d] w w') (hd : DiskAt w' I d m D') : PagerAt w' I p d m fr fd X D' := by
  obtain ⟨c, hb, hc⟩ := h.cells
  have hA := h.apart
  have hap : ∀ g, g ∈ [d] → ¬ I g := by intro g hg; simp at hg; subst hg; exact h.disk.nd
  exact ⟨hd, ⟨c, hb.keeps hk (by simpa using hA.pd), hc.keeps hk hap⟩, h.fresh.keeps hk (by simpa using hA.dfr.symm) hap, h.freed.keeps hk (by simpa using hA.dfd.symm), h.np, h.nfr, h.nfd, h.frm, h.fdm, h.frfd⟩
theorem live_new (n : Int) (w : World) (h1 : 1 ≤ n) (h2 : n ≤ 16384) : Calls Try.prog 10 #[.int .i64 n] w fun e w' => ∃ d F, e = .returned (.tuple #[.pointer (some ⟨d, 0, none⟩), .int .i64 0]) ∧ DiskLive w' F d (Disk.zero n) ∧ Keeps [] w w' ∧ ∀ k, F k → w.heap.size ≤ k := by
  refine (new_any n w h1 h2 (fun _ => False) (fun h => h) (fun h => h)).mono ?_
  rintro e w' ⟨he, hd, hk, hz⟩
  refine ⟨_, fun k => k = w.heap.size ∨ k = w.heap.size + 1, he, ⟨⟨_, _, hd, fun k hk => ?_⟩, fun k hk => by omega⟩, hk, fun k hk => by omega⟩
  rcases hk with hk | hk
  · exact hk.elim
  · simp at hk; omega
theorem live_cut (n : Int) (h : Live w F p d X D) (hn : n < 4611686018427387904) : Calls Try.prog 19 #[.pointer (some ⟨d, 0, none⟩), .int .i64 n] w fun e w' => e = .returned (.tuple #[]) ∧ Live w' F p d X { D with left := max n (-1) } ∧ Grows F F w w' := by
  obtain ⟨I, m, fr, fd, hp, hf⟩ := h.inner
  have hs : SameAt X D { D with left := max n (-1) } := SameAt.of_mem h.ok rfl rfl
  refine (cut_any w hp.disk n hn).mono ?_
  rintro e w' ⟨he, hd, hk⟩
  have hz := hk.size
  exact ⟨he, ⟨⟨I, m, fr, fd, hp.turned hk hd, hf⟩, fun k hk' => Nat.lt_of_lt_of_le (h.lt k hk') hz, h.ok.same hs, h.img.same h.ok hs⟩, Grows.of_keeps hk (by intro g hg; simp at hg; subst hg; exact h.dF)⟩
theorem disk_cut (n : Int) (h : DiskLive w F d D) (hn : n < 4611686018427387904) : Calls Try.prog 19 #[.pointer (some ⟨d, 0, none⟩), .int .i64 n] w fun e w' => e = .returned (.tuple #[]) ∧ DiskLive w' F d { D with left := max n (-1) } ∧ Grows F F w w' := by
  obtain ⟨I, m, hp, hf⟩ := h.inner
  refine (cut_any w hp n hn).mono ?_
  rintro e w' ⟨he, hd, hk⟩
  have hz := hk.size
  exact ⟨he, ⟨⟨I, m, hd, hf⟩, fun k hk' => Nat.lt_of_lt_of_le (h.lt k hk') hz⟩, Grows.of_keeps hk (by intro g hg; simp at hg; subst hg; exact hf _ (.inr (by simp)))⟩
theorem disk_start (h : DiskLive w F d D) : Calls Try.prog 25 #[.pointer (some ⟨d, 0, none⟩)] w fun e w' => e = .returned (.tuple #[]) ∧ DiskLive w' F d { D with dead := false, left := -1 } ∧ Grows F F w w' := by
  obtain ⟨I, m, hp, hf⟩ := h.inner
  refine (start_any w hp).mono ?_
  rintro e w' ⟨he, hd, hk⟩
  have hz := hk.size
  exact ⟨he, ⟨⟨I, m, hd, hf⟩, fun k hk' => Nat.lt_of_lt_of_le (h.lt k hk') hz⟩, Grows.of_keeps hk (by intro g hg; simp at hg; subst hg; exact hf _ (.inr (by simp)))⟩
theorem disk_dead (h : DiskLive w F d D) : Calls Try.prog 22 #[.pointer (some ⟨d, 0, none⟩)] w fun e w' => e = .returned (.bool D.dead) ∧ w = w' := by
  obtain ⟨I, m, hp, hf⟩ := h.inner; exact dead_any w hp
theorem disk_writes (h : DiskLive w F d D) : Calls Try.prog 27 #[.pointer (some ⟨d, 0, none⟩)] w fun e w' => e = .returned (.int .i64 D.writes) ∧ w = w' := by
  obtain ⟨I, m, hp, hf⟩ := h.inner; exact writes_any w hp
theorem live_write_cut {v : Value} {bs : List UInt8} (n : Int) (h : Live w F p d X D) (hd : D.dead = false) (hr : Rd w v (bs.map byt)) (hn : 0 ≤ n) (hn2 : n < D.blocks) (hb : bs.length = 512) (hl : D.left = 0) :
    Calls Try.prog 20 #[.pointer (some ⟨d, 0, none⟩), .int .i64 n, v] w fun e w' => e = .returned (.int .i64 12) ∧ Live w' F p d X { D with dead := true } ∧ Grows F F w w' := by
  obtain ⟨I, m, fr, fd, hp, hf⟩ := h.inner
  have hs : SameAt X D { D with dead := true } := SameAt.of_mem h.ok rfl rfl
  refine (write_cut w n v bs hp.disk hr hd hn hn2 hb hl).mono ?_
  rintro e w' ⟨he, hd', hk⟩
  have hz := hk.size
  exact ⟨he, ⟨⟨I, m, fr, fd, hp.turned hk hd', hf⟩, fun k hk' => Nat.lt_of_lt_of_le (h.lt k hk') hz, h.ok.same hs, h.img.same h.ok hs⟩, Grows.of_keeps hk (by intro g hg; simp at hg; subst hg; exact h.dF)⟩
end
end Go.Proofs.Ytebllnoeenginaa
