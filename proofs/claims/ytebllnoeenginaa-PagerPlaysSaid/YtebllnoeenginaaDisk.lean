/- The disk: what it is, and what its methods do. -/
import Derived.Test.YtebllnoeenginaaSl
namespace Go.Proofs.Ytebllnoeenginaa
open Go.RowKit

/-! ### The disk as a plain machine -/
structure Disk where
  blocks : Int
  mem : List (Int × List UInt8)
  writes : Int
  left : Int
  dead : Bool

def noughts : List UInt8 := List.replicate 512 0
theorem noughts_length : noughts.length = 512 := List.length_replicate

def Disk.block (D : Disk) (n : Int) : List UInt8 := (AL.get D.mem n).getD noughts
def Disk.read (D : Disk) (n : Int) : List UInt8 × Int :=
  if D.dead then ([], 12) else if n < 0 ∨ D.blocks ≤ n then ([], 1) else (D.block n, 0)
def Disk.write (D : Disk) (n : Int) (bs : List UInt8) : Int × Disk :=
  if D.dead then (12, D) else if n < 0 ∨ D.blocks ≤ n ∨ bs.length ≠ 512 then (1, D) else if D.left = 0 then (12, { D with dead := true })
  else (0, { D with left := if 0 < D.left then D.left - 1 else D.left, mem := AL.put D.mem n bs, writes := wrap64 (D.writes + 1) })

/-! ### The disk in memory -/
/-- v is a row of the bytes bs; it lies in a block of I. -/
def BytesV (w : World) (I : Nat → Prop) (v : Value) (bs : List UInt8) : Prop := w.ownsRow 0 5 1 v bs.length (bs.map byt) ∧ ∀ g, v.ownBlock = some g → I g

theorem BytesV.keeps {w w' : World} {I : Nat → Prop} {v : Value} {bs : List UInt8} {S : List Nat} (h : BytesV w I v bs) (hk : Keeps S w w') (hs : ∀ g, g ∈ S → ¬ I g) : BytesV w' I v bs :=
  ⟨hk.own h.1 fun g hg hm => hs g hm (h.2 g hg), h.2⟩
theorem BytesV.mono {w : World} {I I' : Nat → Prop} {v : Value} {bs : List UInt8} (h : BytesV w I v bs) (hi : ∀ k, I k → I' k) : BytesV w I' v bs := ⟨h.1, fun g hg => hi g (h.2 g hg)⟩
theorem own_zero {w : World} {base : Nat} {e : TypeId} {size : Nat} {v : Value} {n : Nat} {xs : List Value} (h : w.ownsRow base e size v n xs) : w.ownsRow 0 e size v n xs := by
  obtain ⟨h1, h2⟩ := h
  refine ⟨h1, ?_⟩
  rcases h2 with h2 | ⟨g, cap, cur, hv, hg, r⟩
  · exact Or.inl h2
  · exact Or.inr ⟨g, cap, cur, hv, Nat.zero_le _, r⟩
theorem own_base {w : World} {base : Nat} {e : TypeId} {size : Nat} {v : Value} {n : Nat} {xs : List Value} (h : w.ownsRow base e size v n xs) : ∀ g, v.ownBlock = some g → base ≤ g := fun g hg => (h.lt g hg).1

/-- Block m is a map of rows of bytes. -/
structure BMap (w : World) (I : Nat → Prop) (m : Nat) (l : List (Int × List UInt8)) : Prop where
  inner : ∃ vs es ck, IMap w m vs es ck ∧ vs.map (·.1) = l.map (·.1) ∧ ∀ k v, AL.get vs k = some v → ∃ bs, AL.get l k = some bs ∧ BytesV w I v bs

section
variable {w w' : World} {I I' : Nat → Prop} {m : Nat} {l : List (Int × List UInt8)} {S : List Nat}
theorem BMap.lt (h : BMap w I m l) : m < w.heap.size := by
  obtain ⟨vs, es, ck, hm, -⟩ := h.inner; exact (Array.getElem?_eq_some_iff.1 hm.heap).1
theorem BMap.nodup (h : BMap w I m l) : (l.map (·.1)).Nodup := by
  obtain ⟨vs, es, ck, hm, he, -⟩ := h.inner; rw [← he]; exact hm.nodup
theorem BMap.keeps (h : BMap w I m l) (hk : Keeps S w w') (hm : m ∉ S) (hs : ∀ g, g ∈ S → ¬ I g) : BMap w' I m l := by
  obtain ⟨vs, es, ck, h1, h2, h3⟩ := h.inner
  exact ⟨vs, es, ck, h1.keeps hk hm, h2, fun k v hv => by obtain ⟨bs, hb, hv⟩ := h3 k v hv; exact ⟨bs, hb, hv.keeps hk hs⟩⟩
theorem BMap.mono (h : BMap w I m l) (hi : ∀ k, I k → I' k) : BMap w I' m l := by
  obtain ⟨vs, es, ck, h1, h2, h3⟩ := h.inner
  exact ⟨vs, es, ck, h1, h2, fun k v hv => by obtain ⟨bs, hb, hv⟩ := h3 k v hv; exact ⟨bs, hb, hv.mono hi⟩⟩
theorem BMap.new (w : World) : BMap (w.alloc (.map #[] 0)) I w.heap.size [] := ⟨[], _, _, IMap.new w, rfl, fun k v hv => by cases hv⟩
end

theorem AL.keys_put {α β : Type} {l : List (Int × α)} {l' : List (Int × β)} (h : l.map (·.1) = l'.map (·.1)) (k : Int) (x : α) (y : β) : (AL.put l k x).map (·.1) = (AL.put l' k y).map (·.1) := by
  have hh : AL.has l k = AL.has l' k := by
    rw [Bool.eq_iff_iff, AL.has_iff, AL.has_iff, h]
  unfold AL.put
  rw [hh]
  split
  · rw [AL.keys_mapval, AL.keys_mapval, h]
  · simp [h]
theorem AL.keys_del {α β : Type} {l : List (Int × α)} {l' : List (Int × β)} (h : l.map (·.1) = l'.map (·.1)) (k : Int) : (AL.del l k).map (·.1) = (AL.del l' k).map (·.1) := by
  have : ∀ {γ : Type} (l : List (Int × γ)), (AL.del l k).map (·.1) = (l.map (·.1)).filter fun x => !(x == k) := by
    intro γ l; unfold AL.del; rw [List.filter_map]; rfl
  rw [this, this, h]
theorem AL.get_none_of_keys {α β : Type} {l : List (Int × α)} {l' : List (Int × β)} (h : l.map (·.1) = l'.map (·.1)) {k : Int} (hn : AL.get l k = none) : AL.get l' k = none := by
  have h1 : AL.has l k = false := by rw [AL.has_get, hn]; rfl
  have hh : AL.has l k = AL.has l' k := by rw [Bool.eq_iff_iff, AL.has_iff, AL.has_iff, h]
  rw [hh, AL.has_get] at h1
  cases hg : AL.get l' k with
  | none => rfl
  | some x => rw [hg] at h1; cases h1

theorem Try.mapB : Try.prog.underlying 57 = some (.map 3 22) := Try.underlying57
theorem zeroBytes (w : World) : (zeroValue 22).run Try.prog w = .ok (.slice none 0 0) w := by kernel_rfl

section
variable {w : World} {I : Nat → Prop} {m : Nat} {l : List (Int × List UInt8)}
/-- What is stored is a row in a block of I', which holds those of I. -/
theorem BMap.update (h : BMap w I m l) {I' : Nat → Prop} (hi : ∀ k, I k → I' k) (hmi : ¬ I' m) (k : Int) {v : Value} {bs : List UInt8} (hv : BytesV w I' v bs) :
    ∃ w', (Instr.mapUpdate 57 (.map (some m)) (.int .i64 k) v).run Try.prog w = .ok () w' ∧ BMap w' I' m (AL.put l k bs) ∧ Keeps [m] w w' := by
  obtain ⟨vs, es, ck, h1, h2, h3⟩ := h.inner
  obtain ⟨es', ck', hr, h1'⟩ := run_imap_update (P := Try.prog) h1 Try.mapB Try.underlying3 k v
  have hk : Keeps [m] w (put w m (.map es' ck')) := (Keeps.refl _ _).put (.inl (by simp)) _
  refine ⟨_, hr, ⟨_, _, _, h1', AL.keys_put h2 k v bs, ?_⟩, hk⟩
  intro k' v' hv'
  rw [AL.get_put] at hv'
  rw [AL.get_put]
  by_cases e : k' = k
  · rw [if_pos e] at hv' ⊢
    cases hv'
    exact ⟨bs, rfl, hv.keeps hk (by intro g hg; simp at hg; subst hg; exact hmi)⟩
  · rw [if_neg e] at hv' ⊢
    obtain ⟨bs', hb', hv'⟩ := h3 k' v' hv'
    exact ⟨bs', hb', (hv'.mono hi).keeps hk (by intro g hg; simp at hg; subst hg; exact hmi)⟩
theorem BMap.delete (h : BMap w I m l) (hmi : ¬ I m) (k : Int) :
    ∃ w', (∀ ty, (Builtin.delete_ #[57, 3] ty #[.map (some m), .int .i64 k]).run Try.prog w = .ok (.tuple #[]) w') ∧ BMap w' I m (AL.del l k) ∧ Keeps [m] w w' := by
  obtain ⟨vs, es, ck, h1, h2, h3⟩ := h.inner
  obtain ⟨es', hr, h1'⟩ := run_imap_delete (P := Try.prog) h1 Try.mapB Try.underlying3 k
  have hk : Keeps [m] w (put w m (.map es' ck)) := (Keeps.refl _ _).put (.inl (by simp)) _
  refine ⟨_, hr, ⟨_, _, _, h1', AL.keys_del h2 k, ?_⟩, hk⟩
  intro k' v' hv'
  rw [AL.get_del] at hv'
  rw [AL.get_del]
  by_cases e : k' = k
  · rw [if_pos e] at hv'; cases hv'
  · rw [if_neg e] at hv' ⊢
    obtain ⟨bs', hb', hv'⟩ := h3 k' v' hv'
    exact ⟨bs', hb', hv'.keeps hk (by intro g hg; simp at hg; subst hg; exact hmi)⟩
theorem BMap.len (h : BMap w I m l) {ty : TypeId} : (Builtin.len_ #[57] ty #[.map (some m)]).run Try.prog w = .ok (.int .i64 l.length) w := by
  obtain ⟨vs, es, ck, h1, h2, h3⟩ := h.inner
  have : vs.length = l.length := by simpa using congrArg List.length h2
  rw [← this]
  exact run_imap_len h1 Try.mapB
theorem BMap.look_none (h : BMap w I m l) {k : Int} (hg : AL.get l k = none) (c : Bool) : (Instr.lookup 57 (.map (some m)) (.int .i64 k) c).run Try.prog w = .ok (if c then .tuple #[.slice none 0 0, .bool false] else .slice none 0 0) w := by
  obtain ⟨vs, es, ck, h1, h2, h3⟩ := h.inner
  have := run_imap_lookup (P := Try.prog) h1 Try.mapB Try.underlying3 (zeroBytes w) k c
  rw [AL.get_none_of_keys h2.symm hg] at this
  exact this
theorem BMap.look_some (h : BMap w I m l) {k : Int} {bs : List UInt8} (hg : AL.get l k = some bs) : ∃ v, BytesV w I v bs ∧ ∀ c, (Instr.lookup 57 (.map (some m)) (.int .i64 k) c).run Try.prog w = .ok (if c then .tuple #[v, .bool true] else v) w := by
  obtain ⟨vs, es, ck, h1, h2, h3⟩ := h.inner
  cases hv : AL.get vs k with
  | none => rw [AL.get_none_of_keys h2 hv] at hg; cases hg
  | some v =>
    obtain ⟨bs', hb', hv'⟩ := h3 k v hv
    rw [hg] at hb'; cases hb'
    refine ⟨v, hv', fun c => ?_⟩
    have := run_imap_lookup (P := Try.prog) h1 Try.mapB Try.underlying3 (zeroBytes w) k c
    rw [hv] at this
    exact this
end

def Disk.cells (D : Disk) (m : Nat) : Array Value := #[.int .i64 D.blocks, .map (some m), .int .i64 D.writes, .int .i64 D.left, .bool D.dead]
structure DiskAt (w : World) (I : Nat → Prop) (d m : Nat) (D : Disk) : Prop where
  blk : Blk w d 64 (D.cells m)
  mem : BMap w I m D.mem
  lo : 0 ≤ D.blocks
  hi : D.blocks ≤ 16384
  llo : -1 ≤ D.left
  lhi : D.left < 4611686018427387904
  nd : ¬ I d
  nm : ¬ I m

section
variable {w w' : World} {I I' : Nat → Prop} {d m : Nat} {D : Disk} {S : List Nat}
theorem DiskAt.ne (h : DiskAt w I d m D) : d ≠ m := by
  obtain ⟨vs, es, ck, h1, -⟩ := h.mem.inner; exact h.blk.ne_map h1.heap
theorem DiskAt.keeps (h : DiskAt w I d m D) (hk : Keeps S w w') (hd : d ∉ S) (hm : m ∉ S) (hs : ∀ g, g ∈ S → ¬ I g) : DiskAt w' I d m D :=
  ⟨h.blk.keeps hk hd, h.mem.keeps hk hm hs, h.lo, h.hi, h.llo, h.lhi, h.nd, h.nm⟩
theorem DiskAt.c0 (h : DiskAt w I d m D) : w.cell? ⟨d, 0, none⟩ = some (.int .i64 D.blocks) := h.blk.cell 0
theorem DiskAt.c1 (h : DiskAt w I d m D) : w.cell? ⟨d, 1, none⟩ = some (.map (some m)) := h.blk.cell 1
theorem DiskAt.c2 (h : DiskAt w I d m D) : w.cell? ⟨d, 2, none⟩ = some (.int .i64 D.writes) := h.blk.cell 2
theorem DiskAt.c3 (h : DiskAt w I d m D) : w.cell? ⟨d, 3, none⟩ = some (.int .i64 D.left) := h.blk.cell 3
theorem DiskAt.c4 (h : DiskAt w I d m D) : w.cell? ⟨d, 4, none⟩ = some (.bool D.dead) := h.blk.cell 4
end

theorem DiskAt.turn {w w' : World} {I : Nat → Prop} {d m : Nat} {D D' : Disk} (h : DiskAt w I d m D) (hb : Blk w' d 64 (D'.cells m)) (hk : Keeps [d] w w') (hm : D'.mem = D.mem) (hbl : D'.blocks = D.blocks) (h1 : -1 ≤ D'.left) (h2 : D'.left < 4611686018427387904) : DiskAt w' I d m D' :=
  ⟨hb, by rw [hm]; exact h.mem.keeps hk (by simpa using (h.ne).symm) (by intro g hg; simp at hg; subst hg; exact h.nd), by rw [hbl]; exact h.lo, by rw [hbl]; exact h.hi, h1, h2, h.nd, h.nm⟩
theorem DiskAt.mono {w : World} {I I' : Nat → Prop} {d m : Nat} {D : Disk} (h : DiskAt w I d m D) (hi : ∀ k, I k → I' k) (hd : ¬ I' d) (hm : ¬ I' m) : DiskAt w I' d m D :=
  ⟨h.blk, h.mem.mono hi, h.lo, h.hi, h.llo, h.lhi, hd, hm⟩

/-! ### The methods that only look, or turn one word -/
section
variable {I : Nat → Prop} {d m : Nat} {D : Disk}
set_option maxHeartbeats 400000 in
theorem dead_any (w : World) (h : DiskAt w I d m D) : Calls Try.prog 22 #[.pointer (some ⟨d, 0, none⟩)] w fun e w' => e = .returned (.bool D.dead) ∧ w = w' := by
  have h4 := h.c4
  clear h
  go_enter Try.func22, Try.ntmps22
  go_wp2
  go_ret
  exact ⟨rfl, rfl⟩
set_option maxHeartbeats 400000 in
theorem blocks_any (w : World) (h : DiskAt w I d m D) : Calls Try.prog 29 #[.pointer (some ⟨d, 0, none⟩)] w fun e w' => e = .returned (.int .i64 D.blocks) ∧ w = w' := by
  have h4 := h.c0
  clear h
  go_enter Try.func29, Try.ntmps29
  go_wp2
  go_ret
  exact ⟨rfl, rfl⟩
set_option maxHeartbeats 400000 in
theorem writes_any (w : World) (h : DiskAt w I d m D) : Calls Try.prog 27 #[.pointer (some ⟨d, 0, none⟩)] w fun e w' => e = .returned (.int .i64 D.writes) ∧ w = w' := by
  have hl := run_call_load (P := Try.prog) Try.func50 (by kernel_rfl) (by kernel_rfl) (by kernel_rfl) .i64 (by kernel_rfl) h.c2
  clear h
  go_enter Try.func27, Try.ntmps27
  go_wp2
  go_ret
  exact ⟨rfl, rfl⟩
set_option maxHeartbeats 400000 in
theorem start_any (w : World) (h : DiskAt w I d m D) : Calls Try.prog 25 #[.pointer (some ⟨d, 0, none⟩)] w fun e w' => e = .returned (.tuple #[]) ∧ DiskAt w' I d m { D with dead := false, left := -1 } ∧ Keeps [d] w w' := by
  have h3 := h.c3
  have h4 := h.c4
  have f3 := h.blk.frozen 3
  have f4 := h.blk.frozen 4
  have H := Lib.hid h
  clear h
  go_enter Try.func25, Try.ntmps25
  go_wp2
  go_end0
  have hk : Keeps [d] w ((w.setCell ⟨d, 4, none⟩ (.bool false)).setCell ⟨d, 3, none⟩ (.int .i64 (-1))) := ((Keeps.refl _ _).setCell (.inl (by simp)) _).setCell (.inl (by simp)) _
  exact ⟨rfl, H.out.turn ((H.out.blk.set_ 4 _).set_ 3 _) hk rfl rfl (by simp) (by simp), hk⟩
set_option maxHeartbeats 400000 in
theorem cut_any (w : World) (h : DiskAt w I d m D) (n : Int) (hn : n < 4611686018427387904) : Calls Try.prog 19 #[.pointer (some ⟨d, 0, none⟩), .int .i64 n] w fun e w' => e = .returned (.tuple #[]) ∧ DiskAt w' I d m { D with left := max n (-1) } ∧ Keeps [d] w w' := by
  have h3 := h.c3
  have f3 := h.blk.frozen 3
  have H := Lib.hid h
  clear h
  go_enter Try.func19, Try.ntmps19
  go_wp2
  all_goals go_end0
  all_goals first | rw [show max n (-1) = (-1) from by omega] | rw [show max n (-1) = n from by omega]
  all_goals exact ⟨rfl, H.out.turn (H.out.blk.set_ 3 _) ((Keeps.refl _ _).setCell (.inl (by simp)) _) rfl rfl (by simp; try omega) (by simp; try omega), (Keeps.refl _ _).setCell (.inl (by simp)) _⟩
end

set_option maxHeartbeats 400000 in
theorem new_any (n : Int) (w : World) (h1 : 1 ≤ n) (h2 : n ≤ 16384) (I : Nat → Prop) (hi1 : ¬ I w.heap.size) (hi2 : ¬ I (w.heap.size + 1)) :
    Calls Try.prog 10 #[.int .i64 n] w fun e w' => e = .returned (.tuple #[.pointer (some ⟨w.heap.size + 1, 0, none⟩), .int .i64 0]) ∧
      DiskAt w' I (w.heap.size + 1) w.heap.size { blocks := n, mem := [], writes := 0, left := -1, dead := false } ∧ Keeps [] w w' ∧ w'.heap.size = w.heap.size + 2 := by
  have hmm := @run_makeMap Try.prog
  go_enter Try.func10, Try.ntmps10
  go_wp2
  go_ret2
  refine ⟨rfl, ⟨?_, (BMap.new w).keeps ((Keeps.refl [] _).alloc _) (by simp) (by simp), by simp; omega, by simp; omega, by simp, by simp, hi2, hi1⟩, ((Keeps.refl _ _).alloc _).alloc _, by simp⟩
  have := Blk.new (w.alloc (.map #[] 0)) 64 #[.int .i64 n, .map (some w.heap.size), .int .i64 0, .int .i64 (-1), .bool false]
  simpa [Disk.cells] using this

/-! ### Reading a block -/
section
variable {I : Nat → Prop} {d m : Nat} {D : Disk}
set_option maxHeartbeats 400000 in
theorem read_dead (w : World) (n : Int) (h : DiskAt w I d m D) (hd : D.dead = true) : Calls Try.prog 48 #[.pointer (some ⟨d, 0, none⟩), .int .i64 n] w fun e w' => e = .returned (.tuple #[.slice none 0 0, .int .i64 12]) ∧ w = w' := by
  have h4 := h.c4
  rw [hd] at h4
  clear h hd
  go_enter Try.func48, Try.ntmps48
  go_wp2
  go_ret2
  exact ⟨rfl, rfl⟩
set_option maxHeartbeats 400000 in
theorem read_out (w : World) (n : Int) (h : DiskAt w I d m D) (hd : D.dead = false) (hn : n < 0 ∨ D.blocks ≤ n) : Calls Try.prog 48 #[.pointer (some ⟨d, 0, none⟩), .int .i64 n] w fun e w' => e = .returned (.tuple #[.slice none 0 0, .int .i64 1]) ∧ w = w' := by
  have h4 := h.c4
  have h0 := h.c0
  rw [hd] at h4
  clear h hd
  by_cases hlt : n < 0
  · clear hn
    go_enter Try.func48, Try.ntmps48
    go_wp2
    go_ret2
    exact ⟨rfl, rfl⟩
  · have h1 : 0 ≤ n := by omega
    have h2 : D.blocks ≤ n := by omega
    clear hn hlt
    go_enter Try.func48, Try.ntmps48
    go_wp2
    go_ret2
    exact ⟨rfl, rfl⟩
set_option maxRecDepth 100000 in
set_option maxHeartbeats 400000 in
theorem read_none (w : World) (n : Int) (h : DiskAt w I d m D) (hd : D.dead = false) (hn : 0 ≤ n) (hn2 : n < D.blocks) (hg : AL.get D.mem n = none) :
    Calls Try.prog 48 #[.pointer (some ⟨d, 0, none⟩), .int .i64 n] w fun e w' => ∃ v, e = .returned (.tuple #[v, .int .i64 0]) ∧ w'.ownsRow w.heap.size 5 1 v 512 (noughts.map byt) ∧ Keeps [] w w' := by
  obtain ⟨i0, hi, hz0, hz1, hz2⟩ := info_parts Try.infoU8
  have h4 := h.c4
  have h0 := h.c0
  have h1 := h.c1
  rw [hd] at h4
  have hl := h.mem.look_none hg true
  rw [if_pos rfl] at hl
  obtain ⟨wm, hmk, hown, hgr⟩ := run_makeSlice_full (P := Try.prog) (w := w) w.heap.size 22 5 i0 (.int .u8 0) 1 Try.underlying22 hi hz0 hz1 .i64 .i64 512 (by omega) (by rw [hz2]; omega) (by simp [maxLen]) (Nat.le_refl _)
  have hmk' : (Instr.makeSlice 22 (.int .i64 512) (.int .i64 512)).run Try.prog w = .ok (.slice (some ⟨w.heap.size, 0, none⟩) 512 512) wm := hmk
  clear h hd hg hmk
  go_enter Try.func48, Try.ntmps48
  go_wp2
  go_ret2
  refine ⟨_, rfl, ?_, Keeps.of_grown hgr (by simp)⟩
  have e : (madeCells (Value.int .u8 0).cells (512 * 1)).toList = noughts.map byt := by
    rw [show (Value.int .u8 0).cells = #[Value.int .u8 0] from rfl, toList_madeCells_one, noughts, List.map_replicate]; rfl
  rw [← e]; exact hown
set_option maxRecDepth 100000 in
set_option maxHeartbeats 400000 in
theorem read_some (w : World) (n : Int) (bs : List UInt8) (h : DiskAt w I d m D) (hd : D.dead = false) (hn : 0 ≤ n) (hn2 : n < D.blocks) (hg : AL.get D.mem n = some bs) (hb : bs.length ≤ 140737488355328) :
    Calls Try.prog 48 #[.pointer (some ⟨d, 0, none⟩), .int .i64 n] w fun e w' => ∃ v, e = .returned (.tuple #[v, .int .i64 0]) ∧ w'.ownsRow w.heap.size 5 1 v bs.length (bs.map byt) ∧ Keeps [] w w' := by
  have h4 := h.c4
  have h0 := h.c0
  have h1 := h.c1
  rw [hd] at h4
  obtain ⟨v, hv, hl0⟩ := h.mem.look_some hg
  have hl := hl0 true
  rw [if_pos rfl] at hl
  have HV := Lib.hid hv
  clear h hd hg hl0 hv
  go_enter Try.func48, Try.ntmps48
  go_wp2_with fail
  refine (clone_any v (bs.map byt) _ (Rd.of_own HV.out.1) oneCell_u8 (by simpa using hb)).mono ?_
  rintro e w' ⟨v', rfl, ho, hk⟩
  go_wp2
  go_ret2
  exact ⟨_, rfl, by simpa using ho, hk⟩

/-- Every block that is held has 512 bytes. -/
def Disk.full (D : Disk) : Prop := ∀ k bs, AL.get D.mem k = some bs → bs.length = 512
theorem Disk.full.block (h : D.full) (n : Int) : (D.block n).length = 512 := by
  unfold Disk.block
  cases hg : AL.get D.mem n with
  | none => exact noughts_length
  | some bs => exact h n bs hg
theorem read_any (w : World) (n : Int) (h : DiskAt w I d m D) (hf : D.full) :
    Calls Try.prog 48 #[.pointer (some ⟨d, 0, none⟩), .int .i64 n] w fun e w' => ∃ v, e = .returned (.tuple #[v, .int .i64 (D.read n).2]) ∧ w'.ownsRow w.heap.size 5 1 v (D.read n).1.length ((D.read n).1.map byt) ∧ Keeps [] w w' := by
  unfold Disk.read
  by_cases hd : D.dead = true
  · rw [if_pos hd]
    exact (read_dead w n h hd).mono fun e w' ⟨he, hw⟩ => ⟨_, he, by subst hw; exact World.ownsRow_nil _ _ _ _, by subst hw; exact Keeps.refl _ _⟩
  · rw [if_neg hd]
    have hd : D.dead = false := by simpa using hd
    by_cases hn : n < 0 ∨ D.blocks ≤ n
    · rw [if_pos hn]
      exact (read_out w n h hd hn).mono fun e w' ⟨he, hw⟩ => ⟨_, he, by subst hw; exact World.ownsRow_nil _ _ _ _, by subst hw; exact Keeps.refl _ _⟩
    · rw [if_neg hn]
      have hl := hf.block n
      unfold Disk.block at hl ⊢
      cases hg : AL.get D.mem n with
      | none => simp only [Option.getD_none]; rw [noughts_length]; exact read_none w n h hd (by omega) (by omega) hg
      | some bs =>
        rw [hg] at hl
        simp only [Option.getD_some] at hl ⊢
        exact read_some w n bs h hd (by omega) (by omega) hg (by omega)
end

end Go.Proofs.Ytebllnoeenginaa
