/- Words for memory: blocks, maps of whole numbers, slices that are read, what a call leaves alone. -/
import Derived.WalkKit
import Derived.WalkSpells
import Derived.Deep.AppendLies
import Derived.Deep.Draws
import Derived.Lib.Hide
namespace Go.Proofs.Ytebllnoeenginaa
open Go.RowKit

/-- A goal at which the walk is to stand still. -/
def Stop (p : Prop) : Prop := p
theorem Stop.out {p : Prop} (h : Stop p) : p := h

@[simp, go_sem] theorem setCell_drewN (w : World) (n : Nat) (a : Addr) (v : Value) : (w.drewN n).setCell a v = (w.setCell a v).drewN n := rfl
@[simp, go_sem] theorem alloc_drewN (w : World) (n : Nat) (o : Obj) : (w.drewN n).alloc o = (w.alloc o).drewN n := rfl

/-- A built-in append, its run known, at a step of a region that draws its order. -/
theorem step_append {P : Program} {w : World} {ops : Array Oper} {o : Oper} {a : Act} {K : Act → World → Prop} {Q : Exit → Act → World → Prop} {E : Prop} (hgd : o.guard = none) (s x : Operand) (t u : TypeId)
    (ho : o.op = .call { callee := .builtin .append, args := #[s, x], argTypes := #[t, u] }) {sv xv v : Value} {w' : World} (hs : a.eval s = sv) (hx : a.eval x = xv)
    (hr : (Builtin.append_ #[t, u] o.type #[sv, xv]).run P w = .ok v w') (h : K (a.put o.dst v) w') : if Region.wanted o (yielded ops a.tmps) = true then Oper.wp P o a w K Q else E := by
  have hw : Region.wanted o (yielded ops a.tmps) = true := by simp [Region.wanted, hgd]
  rw [if_pos hw]
  subst hs; subst hx
  unfold Oper.wp execOp
  simp only [ho, resolve, invoke, builtin, Sem.run_bind, Sem.run_pure, Result.andThen_ok, List.map_toArray, List.map_cons, List.map_nil, hr]
  exact h
theorem wpList_append {P : Program} {w : World} {ops : Array Oper} {rest : List Oper} {o : Oper} {a : Act} {Q : Exit → Act → World → Prop} (hgd : o.guard = none) (s x : Operand) (t u : TypeId)
    (ho : o.op = .call { callee := .builtin .append, args := #[s, x], argTypes := #[t, u] }) {sv xv v : Value} {w' : World} (hs : a.eval s = sv) (hx : a.eval x = xv)
    (hr : (Builtin.append_ #[t, u] o.type #[sv, xv]).run P w = .ok v w') (h : wpList P ops Q rest (a.put o.dst v) w') : wpList P ops Q (o :: rest) a w := by
  subst hs; subst hx
  refine wpList_plain hgd fun _ hK => ?_
  unfold Oper.wp execOp
  simp only [ho, resolve, invoke, builtin, Sem.run_bind, Sem.run_pure, Result.andThen_ok, List.map_toArray, List.map_cons, List.map_nil, hr]
  exact hK _ _ h

/-! ### Blocks -/
def Blk (w : World) (g : Nat) (t : TypeId) (cs : Array Value) : Prop := w.heap[g]? = some (.cells cs t (0, 0))

/-- What was there is as it was, but for the blocks of S. -/
structure Keeps (S : List Nat) (w w' : World) : Prop where
  os : w'.os = w.os
  tape : w'.tape = w.tape
  output : w'.output = w.output
  size : w.heap.size ≤ w'.heap.size
  block : ∀ k, k < w.heap.size → k ∉ S → w'.heap[k]? = w.heap[k]?

section
variable {S S' : List Nat} {w w' w'' : World}
theorem Keeps.refl (S : List Nat) (w : World) : Keeps S w w := ⟨rfl, rfl, rfl, Nat.le_refl _, fun _ _ _ => rfl⟩
theorem Keeps.mono (h : Keeps S w w') (hs : ∀ k, k ∈ S → k ∈ S') : Keeps S' w w' := ⟨h.os, h.tape, h.output, h.size, fun k hk hn => h.block k hk fun hm => hn (hs k hm)⟩
/-- Two steps; what the second one turns was either let turn, or is new. -/
theorem Keeps.then (h : Keeps S w w') (h' : Keeps S' w' w'') (hs : ∀ k, k ∈ S' → k ∈ S ∨ w.heap.size ≤ k) : Keeps S w w'' :=
  ⟨h'.os.trans h.os, h'.tape.trans h.tape, h'.output.trans h.output, Nat.le_trans h.size h'.size, fun k hk hn =>
    (h'.block k (Nat.lt_of_lt_of_le hk h.size) fun hm => (hs k hm).elim hn fun hl => absurd hk (by omega)).trans (h.block k hk hn)⟩
theorem Keeps.trans (h : Keeps S w w') (h' : Keeps S w' w'') : Keeps S w w'' := h.then h' fun _ hk => .inl hk
theorem Keeps.drew (h : Keeps S w w') : Keeps S w w'.drew := ⟨h.os, h.tape, h.output, h.size, h.block⟩
theorem Keeps.drewN (h : Keeps S w w') (n : Nat) : Keeps S w (w'.drewN n) := ⟨h.os, h.tape, h.output, h.size, h.block⟩
theorem Keeps.of_drew (h : Keeps S w.drew w') : Keeps S w w' := ⟨h.os, h.tape, h.output, h.size, h.block⟩
theorem Keeps.alloc (h : Keeps S w w') (o : Obj) : Keeps S w (w'.alloc o) :=
  h.trans ⟨rfl, rfl, rfl, by simp, fun k hk _ => Below.heap_alloc _ _ _ hk⟩
theorem Keeps.setCell (h : Keeps S w w') {p : Addr} (hp : p.block ∈ S ∨ w.heap.size ≤ p.block) (u : Value) : Keeps S w (w'.setCell p u) :=
  ⟨h.os, h.tape, h.output, by have := h.size; simpa [World.setCell] using this, fun k hk hn => (Below.heap_setCell _ _ _ _ (by rintro rfl; rcases hp with hp | hp; exact hn hp; omega)).trans (h.block k hk hn)⟩
theorem Keeps.below (h : Below w.heap.size w w') (S : List Nat) : Keeps S w w' := ⟨h.os, h.tape, h.output, h.size, fun k hk _ => h.block k hk⟩
theorem Keeps.toBelow (h : Keeps [] w w') : Below w.heap.size w w' := ⟨h.os, h.tape, h.output, h.size, fun k hk => h.block k hk (by simp)⟩
theorem Keeps.of_grown {row : Option Nat} (h : w.grownBy w' row) (hr : ∀ g, row = some g → g ∈ S ∨ w.heap.size ≤ g) : Keeps S w w' :=
  ⟨h.os, h.tape, h.output, h.size, fun k hk hn => h.block k hk fun e => by rcases hr k e.symm with h | h; exact hn h; omega⟩
theorem Keeps.grown (h : Keeps S w w') {row : Option Nat} (hg : w'.grownBy w'' row) (hr : ∀ g, row = some g → g ∈ S ∨ w.heap.size ≤ g) : Keeps S w w'' :=
  ⟨hg.os.trans h.os, hg.tape.trans h.tape, hg.output.trans h.output, Nat.le_trans h.size hg.size, fun k hk hn =>
    (hg.block k (Nat.lt_of_lt_of_le hk h.size) fun e => by rcases hr k e.symm with h | h; exact hn h; omega).trans (h.block k hk hn)⟩
theorem Keeps.toGrown (h : Keeps [] w w') (row : Option Nat) : w.grownBy w' row := ⟨h.os, h.tape, h.output, h.size, fun k hk _ => h.block k hk (by simp)⟩
/-- One block is given another object. -/
def put (w : World) (g : Nat) (o : Obj) : World := { w with heap := w.heap.setIfInBounds g o }
theorem put_size (w : World) (g : Nat) (o : Obj) : (put w g o).heap.size = w.heap.size := by simp [put]
theorem put_same {g : Nat} {o : Obj} (h : g < w.heap.size) : (put w g o).heap[g]? = some o := by simp [put, h]
theorem put_other {g k : Nat} {o : Obj} (h : k ≠ g) : (put w g o).heap[k]? = w.heap[k]? := by simp [put, Ne.symm h]
theorem Keeps.put (h : Keeps S w w') {g : Nat} (hg : g ∈ S ∨ w.heap.size ≤ g) (o : Obj) : Keeps S w (put w' g o) :=
  ⟨h.os, h.tape, h.output, by have := h.size; simpa [Ytebllnoeenginaa.put] using this, fun k hk hn => (put_other (by rintro rfl; rcases hg with hg | hg; exact hn hg; omega)).trans (h.block k hk hn)⟩
theorem Keeps.cell (h : Keeps S w w') {p : Addr} (hp : p.block < w.heap.size) (hn : p.block ∉ S) : w'.cell? p = w.cell? p := World.cell?_of_block (w := w) (h.block p.block hp hn)
theorem Keeps.frozen (h : Keeps S w w') {p : Addr} (hp : p.block < w.heap.size) (hn : p.block ∉ S) : w'.frozen? p = w.frozen? p := World.frozen?_of_block (w := w) (h.block p.block hp hn)
theorem Keeps.own (h : Keeps S w w') {base : Nat} {e : TypeId} {size : Nat} {v : Value} {n : Nat} {xs : List Value} (ho : w.ownsRow base e size v n xs) (hn : ∀ g, v.ownBlock = some g → g ∉ S) : w'.ownsRow base e size v n xs := by
  obtain ⟨h1, h2⟩ := ho
  refine ⟨h1, ?_⟩
  rcases h2 with h2 | ⟨g, cap, cur, hv, hg, hh, r⟩
  · exact Or.inl h2
  · refine Or.inr ⟨g, cap, cur, hv, hg, ?_, r⟩
    rw [h.block g (Array.getElem?_eq_some_iff.1 hh).1 (hn g (by rw [hv]; rfl))]; exact hh
end

section
variable {w w' : World} {g : Nat} {t : TypeId} {cs : Array Value} {S : List Nat}
theorem Blk.lt (h : Blk w g t cs) : g < w.heap.size := (Array.getElem?_eq_some_iff.1 h).1
theorem Blk.cell (h : Blk w g t cs) (i : Nat) : w.cell? ⟨g, i, none⟩ = cs[i]? := cell_of_row w g i cs t (0, 0) h
theorem Blk.frozen (h : Blk w g t cs) (i : Nat) : w.frozen? ⟨g, i, none⟩ = false := by unfold Blk at h; simp [World.frozen?, h]
theorem Blk.new (w : World) (t : TypeId) (cs : Array Value) : Blk (w.alloc (.cells cs t)) w.heap.size t cs := heap_alloc_new w _
theorem Blk.drew (h : Blk w g t cs) : Blk w.drew g t cs := h
theorem Blk.drewN (h : Blk w g t cs) (n : Nat) : Blk (w.drewN n) g t cs := h
theorem Blk.alloc (h : Blk w g t cs) (o : Obj) : Blk (w.alloc o) g t cs := (Below.heap_alloc w o g h.lt).trans h
theorem Blk.set_ (h : Blk w g t cs) (i : Nat) (u : Value) : Blk (w.setCell ⟨g, i, none⟩ u) g t (cs.setIfInBounds i u) := by
  unfold Blk at h ⊢
  simp [World.setCell, Array.getElem?_modify, h]
theorem Blk.far (h : Blk w g t cs) {p : Addr} (hp : g ≠ p.block) (u : Value) : Blk (w.setCell p u) g t cs := (Below.heap_setCell w p u g hp).trans h
theorem Blk.keeps (h : Blk w g t cs) (hk : Keeps S w w') (hg : g ∉ S) : Blk w' g t cs := (hk.block g h.lt hg).trans h
theorem Blk.put_far (h : Blk w g t cs) {k : Nat} (hp : g ≠ k) (o : Obj) : Blk (put w k o) g t cs := (put_other hp).trans h
theorem Blk.ne_ {g' : Nat} {t' : TypeId} {cs' : Array Value} (h : Blk w g t cs) (h' : Blk w g' t' cs') (hne : t ≠ t') : g ≠ g' := by
  rintro rfl
  unfold Blk at h h'
  rw [h] at h'
  injection h' with h'
  injection h' with _ ht
  exact hne ht
theorem Blk.ne_map {g' : Nat} {es : Array MapEntry} {ck : Nat} (h : Blk w g t cs) (h' : w.heap[g']? = some (.map es ck)) : g ≠ g' := by
  rintro rfl
  unfold Blk at h
  rw [h] at h'
  cases h'
end

/-! ### Bytes -/
abbrev byt (b : UInt8) : Value := .int .u8 (b.toNat : Int)
abbrev bv (b : Bool) : Value := .bool b
abbrev iv (n : Int) : Value := .int .i64 n

/-- A slice that reads as a list (one cell an element). -/
def Rd (w : World) (v : Value) (xs : List Value) : Prop :=
  ∃ A c, v = .slice A xs.length c ∧ xs.length ≤ c ∧ c ≤ maxLen ∧ (A = none → xs = [] ∧ c = 0) ∧
    ∀ ad, A = some ad → (xs ≠ [] → ad.spot = none) ∧ (xs ≠ [] → ad.block < w.heap.size) ∧ ∀ j u, xs[j]? = some u → w.cell? (ad.add j) = some u

theorem add_lit0 (g o i : Nat) : (⟨g, o, none⟩ : Addr).add i = ⟨g, o + i, none⟩ := by unfold Addr.add; split <;> simp_all
theorem block_of_add (a : Addr) (n : Nat) : (a.add n).block = a.block := by unfold Addr.add; split <;> rfl
theorem add_of_add (a : Addr) (i j : Nat) : (a.add i).add j = a.add (i + j) := by
  unfold Addr.add
  by_cases hi : i = 0 <;> by_cases hj : j = 0 <;> simp [hi, hj, Nat.add_assoc]

section
variable {w w' : World} {v : Value} {xs : List Value} {S : List Nat}
theorem Rd.nil (w : World) : Rd w (.slice none 0 0) [] := ⟨none, 0, rfl, by simp, by simp [maxLen], fun _ => ⟨rfl, rfl⟩, fun _ h => by cases h⟩
theorem Rd.of_own {base : Nat} {e : TypeId} {n : Nat} (h : w.ownsRow base e 1 v n xs) : Rd w v xs := by
  obtain ⟨h1, h2⟩ := h
  rcases h2 with ⟨rfl, rfl⟩ | ⟨g, cap, cur, rfl, hb, hg, hn, hc, hs, ht⟩
  · have : xs = [] := by simpa using h1
    subst this; exact Rd.nil w
  · have hl : xs.length = n := by simpa using h1
    subst hl
    refine ⟨some ⟨g, 0, none⟩, cap, rfl, hn, hc, (by intro h; cases h), ?_⟩
    rintro ad ⟨⟩
    refine ⟨fun _ => rfl, fun _ => (Array.getElem?_eq_some_iff.1 hg).1, fun j u hu => ?_⟩
    rw [add_lit0, Nat.zero_add, cell_of_row w g j cur e (0, 0) hg]
    rw [← ht, List.getElem?_take] at hu
    split at hu
    · simpa using hu
    · cases hu
theorem Rd.keeps (h : Rd w v xs) (hk : Keeps S w w') (hn : xs ≠ [] → ∀ g, v.ownBlock = some g → g ∉ S) : Rd w' v xs := by
  obtain ⟨A, c, rfl, h1, h2, h3, h4⟩ := h
  refine ⟨A, c, rfl, h1, h2, h3, ?_⟩
  rintro ad rfl
  obtain ⟨h5, h6, h7⟩ := h4 ad rfl
  refine ⟨h5, fun hne => Nat.lt_of_lt_of_le (h6 hne) hk.size, fun j u hu => ?_⟩
  have hne : xs ≠ [] := by rintro rfl; simp at hu
  rw [hk.cell (by rw [block_of_add]; exact h6 hne) (by rw [block_of_add]; exact hn hne _ rfl)]
  exact h7 j u hu
theorem Rd.lit (w : World) (t : TypeId) (cs : Array Value) (n : Nat) (hn : n = cs.size) (hm : n ≤ maxLen) : Rd (w.alloc (.cells cs t)) (.slice (some ⟨w.heap.size, 0, none⟩) n n) cs.toList :=
  Rd.of_own (base := 0) (World.ownsRow_lit w cs n (Nat.zero_le _) hm (by omega))
theorem Rd.cut {g o n c lo hi : Nat} (h : Rd w (.slice (some ⟨g, o, none⟩) n c) xs) (h1 : lo ≤ hi) (h2 : hi ≤ n) : Rd w (.slice (some ⟨g, o + lo, none⟩) (hi - lo) (c - lo)) ((xs.take hi).drop lo) := by
  obtain ⟨A, c', hv, h3, h4, h5, h6⟩ := h
  injection hv with e1 e2 e3
  subst e1; subst e2; subst e3
  obtain ⟨h7, h8, h9⟩ := h6 _ rfl
  have hl : ((xs.take hi).drop lo).length = hi - lo := by rw [List.length_drop, List.length_take]; omega
  refine ⟨some ⟨g, o + lo, none⟩, c - lo, by rw [hl], by omega, by omega, (by intro h; cases h), ?_⟩
  rintro ad ⟨⟩
  refine ⟨fun _ => rfl, fun hne => h8 (by rintro rfl; simp at hne), fun j u hu => ?_⟩
  rw [List.getElem?_drop, List.getElem?_take] at hu
  split at hu
  · have := h9 (lo + j) u hu
    rw [add_lit0] at this ⊢
    rw [← Nat.add_assoc] at this; exact this
  · cases hu
theorem Rd.lt (h : Rd w v xs) (hne : xs ≠ []) : ∀ g, v.ownBlock = some g → g < w.heap.size := by
  obtain ⟨A, c, rfl, h1, h2, h3, h4⟩ := h
  intro g hg
  cases A with
  | none => cases hg
  | some ad => cases hg; exact (h4 ad rfl).2.1 hne
/-- The slice lies, with its bounds: what a walk wants to see of it. -/
theorem Rd.form (h : Rd w v xs) : ∃ A c, v = .slice A xs.length c ∧ xs.length ≤ c ∧ c ≤ maxLen := by
  obtain ⟨A, c, rfl, h1, h2, -, -⟩ := h; exact ⟨A, c, rfl, h1, h2⟩
theorem Rd.at_ {A : Option Addr} {n c k : Nat} (h : Rd w (.slice A n c) xs) (hk : k < xs.length) : ∃ ad, A = some ad ∧ w.cell? (ad.add k) = some xs[k] := by
  obtain ⟨A', c', hv, h1, h2, h3, h4⟩ := h
  injection hv with e1 e2 e3
  subst e1
  cases A with
  | none => have := (h3 rfl).1; subst this; simp at hk
  | some ad => exact ⟨ad, rfl, (h4 ad rfl).2.2 k _ (List.getElem?_eq_getElem hk)⟩
end

theorem ownsRow_mono {w : World} {base base' : Nat} {e : TypeId} {size : Nat} {v : Value} {n : Nat} {xs : List Value} (h : w.ownsRow base e size v n xs) (hb : base' ≤ base) : w.ownsRow base' e size v n xs := by
  obtain ⟨h1, h2⟩ := h
  refine ⟨h1, ?_⟩
  rcases h2 with h2 | ⟨g, cap, cur, hv, hg, r⟩
  · exact Or.inl h2
  · exact Or.inr ⟨g, cap, cur, hv, Nat.le_trans hb hg, r⟩
section
variable {P : Program}
/-- append of a slice that reads as 'news' onto a row of the call's own. -/
theorem run_append_rd (w : World) (base : Nat) (t ty e : TypeId) (i : TypeInfo) (z : Value) (bytes : Nat) (ht : P.underlying t = some (.slice e)) (hi : P.info? e = some i) (hz : i.zero = some z)
    (hsize : i.size = 1) (hby : i.bytes = bytes) (hzs : z.cells.size = 1) {v x : Value} {n : Nat} {xs news : List Value} (hown : w.ownsRow base e 1 v n xs) (hx : Rd w x news) (h1 : ∀ u ∈ news, u.oneCell' = true)
    (h63 : n + news.length ≤ maxLen) (hbytes : (n + news.length) * bytes ≤ 140737488355328) (hbase : base ≤ w.heap.size) :
    ∃ v' w', (Builtin.append_ #[t, t] ty #[v, x]).run P w = .ok v' w' ∧ w'.ownsRow base e 1 v' (n + news.length) (xs ++ news) ∧ w.grownBy w' v.ownBlock ∧ (v'.ownBlock = v.ownBlock ∨ v'.ownBlock = some w.heap.size) := by
  obtain ⟨A, c, rfl, h2, h3, h4, h5⟩ := hx
  cases A with
  | none =>
    obtain ⟨rfl, rfl⟩ := h4 rfl
    refine ⟨v, w, run_append_owned_none w base t ty e i 1 ht hi v n xs hown, by simpa using hown, ⟨rfl, rfl, rfl, Nat.le_refl _, fun _ _ _ => rfl⟩, .inl rfl⟩
  | some ad =>
    obtain ⟨v', w', hr, ho, hg, -, hb⟩ := run_append_own_at w base t ty e i z 1 bytes ht hi hz hsize hby hzs (by omega) v n xs hown ad news.length c news (by omega) (h5 ad rfl).2.2 h1 h63 hbytes hbase
    exact ⟨v', w', hr, ho, hg, hb⟩

theorem wpList_append_rd {ops : Array Oper} {rest : List Oper} {o : Oper} {a : Act} {Q : Exit → Act → World → Prop} {w : World} (hgd : o.guard = none) (s x : Operand) (t : TypeId)
    (ho : o.op = .call { callee := .builtin .append, args := #[s, x], argTypes := #[t, t] })
    (base : Nat) (e : TypeId) (i : TypeInfo) (z : Value) (bytes : Nat) (ht : P.underlying t = some (.slice e)) (hi : P.info? e = some i) (hz : i.zero = some z)
    (hsize : i.size = 1) (hby : i.bytes = bytes) (hzs : z.cells.size = 1) {v xv : Value} {n : Nat} {xs news : List Value} (hs : a.eval s = v) (hx : a.eval x = xv) (hown : w.ownsRow base e 1 v n xs) (hrd : Rd w xv news) (h1 : ∀ u ∈ news, u.oneCell' = true)
    (h63 : n + news.length ≤ maxLen) (hbytes : (n + news.length) * bytes ≤ 140737488355328) (hbase : base ≤ w.heap.size)
    (h : ∀ v' w', w'.ownsRow base e 1 v' (n + news.length) (xs ++ news) → w.grownBy w' v.ownBlock → (v'.ownBlock = v.ownBlock ∨ v'.ownBlock = some w.heap.size) → wpList P ops Q rest (a.put o.dst v') w') : wpList P ops Q (o :: rest) a w := by
  subst hs; subst hx
  obtain ⟨v', w', hr, h2, h3, h4⟩ := run_append_rd w base t o.type e i z bytes ht hi hz hsize hby hzs hown hrd h1 h63 hbytes hbase
  refine wpList_plain hgd fun _ hK => ?_
  unfold Oper.wp execOp
  simp only [ho, resolve, invoke, builtin, Sem.run_bind, Sem.run_pure, Result.andThen_ok, List.map_toArray, List.map_cons, List.map_nil, hr]
  exact hK _ _ (h v' w' h2 h3 h4)
end

/-- A value that is no byte. -/
def noByte : Value → Bool
  | .int .u8 _ => false
  | _ => true
/-- A slice of bytes does not lie in a block that holds none. -/
theorem Rd.ne_blk {w : World} {v : Value} {bs : List UInt8} (h : Rd w v (bs.map byt)) {g : Nat} {t : TypeId} {cs : Array Value} (hb : Blk w g t cs) (hc : cs.toList.all noByte = true) (hne : bs.map byt ≠ []) : ∀ q, v.ownBlock = some q → q ≠ g := by
  obtain ⟨A, c, rfl, h1, h2, h3, h4⟩ := h
  intro q hq
  cases A with
  | none => cases hq
  | some ad =>
    cases hq
    obtain ⟨h5, h6, h7⟩ := h4 ad rfl
    cases bs with
    | nil => exact absurd rfl hne
    | cons b bs =>
      intro e
      have hcell := h7 0 (byt b) rfl
      obtain ⟨q, off, sp⟩ := ad
      have h5 := h5 (by simp)
      simp only at h5 e
      subst h5; subst e
      rw [add_lit0, hb.cell, ← Array.getElem?_toList] at hcell
      have := List.all_eq_true.1 hc _ (List.mem_of_getElem? hcell)
      cases this
theorem Rd.ne_map {w : World} {v : Value} {bs : List UInt8} (h : Rd w v (bs.map byt)) {g : Nat} {es : Array MapEntry} {ck : Nat} (hb : w.heap[g]? = some (.map es ck)) (hne : bs.map byt ≠ []) : ∀ q, v.ownBlock = some q → q ≠ g := by
  obtain ⟨A, c, rfl, h1, h2, h3, h4⟩ := h
  intro q hq
  cases A with
  | none => cases hq
  | some ad =>
    cases hq
    obtain ⟨h5, h6, h7⟩ := h4 ad rfl
    cases bs with
    | nil => exact absurd rfl hne
    | cons b bs =>
      intro e
      have hcell := h7 0 (byt b) rfl
      obtain ⟨q, off, sp⟩ := ad
      have h5 := h5 (by simp)
      simp only at h5 e
      subst h5; subst e
      rw [add_lit0] at hcell
      simp [World.cell?, hb] at hcell

/-! ### Maps whose keys are whole numbers -/
/-- An association list: what a map holds, in the order in which it came. -/
def AL.get {α : Type} (l : List (Int × α)) (k : Int) : Option α := (l.find? fun p => p.1 == k).map (·.2)
def AL.has {α : Type} (l : List (Int × α)) (k : Int) : Bool := l.any fun p => p.1 == k
def AL.put {α : Type} (l : List (Int × α)) (k : Int) (x : α) : List (Int × α) :=
  if AL.has l k then l.map fun p => if p.1 == k then (k, x) else p else l ++ [(k, x)]
def AL.del {α : Type} (l : List (Int × α)) (k : Int) : List (Int × α) := l.filter fun p => !(p.1 == k)

/-- Block m is a map that holds the entries l (their values as they lie). -/
structure IMap (w : World) (m : Nat) (l : List (Int × Value)) (es : Array MapEntry) (ck : Nat) : Prop where
  heap : w.heap[m]? = some (.map es ck)
  ents : es.toList.map (fun e => (e.key, e.val)) = l.map fun p => (Value.int .i64 p.1, p.2)
  nodup : (l.map (·.1)).Nodup
  born : (es.toList.map (·.born)).Nodup
  old : ∀ e ∈ es.toList, e.born < ck

end Go.Proofs.Ytebllnoeenginaa
