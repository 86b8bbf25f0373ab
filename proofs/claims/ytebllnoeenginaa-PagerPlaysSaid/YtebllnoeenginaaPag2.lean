/- The pager as a plain machine, and in memory; Left, there, Free, Abort. -/
import Derived.Test.YtebllnoeenginaaPag1
namespace Go.Proofs.Ytebllnoeenginaa
open Go.RowKit

theorem quiet_left {P : Program} {f : FuncId} {args : Array Value} {w : World} {n : Nat} {v : Value}
    (h : Calls P f args (w.drewN n) fun e w' => e = .returned v ∧ w.drewN n = w') : Calls P f args (w.drewN n) fun e w'' => e = .returned v ∧ ∃ m, w'' = w.drewN m :=
  h.mono fun _ _ ⟨he, hm⟩ => ⟨he, n, hm.symm⟩

/-! ### Maps from numbers to numbers -/
def nvals (l : List (Int × Int)) : List (Int × Value) := l.map fun q => (q.1, .int .i64 q.2)
structure NMap (w : World) (m : Nat) (l : List (Int × Int)) : Prop where
  inner : ∃ es ck, IMap w m (nvals l) es ck
theorem nvals_get (l : List (Int × Int)) (k : Int) : AL.get (nvals l) k = (AL.get l k).map (Value.int .i64) := by
  unfold nvals
  induction l with
  | nil => rfl
  | cons q l ih =>
    rw [List.map_cons, AL.get_cons, AL.get_cons, ih]
    split <;> simp
theorem nvals_has (l : List (Int × Int)) (k : Int) : AL.has (nvals l) k = AL.has l k := by
  rw [AL.has_get, AL.has_get, nvals_get, Option.isSome_map]
theorem nvals_put (l : List (Int × Int)) (k x : Int) : AL.put (nvals l) k (.int .i64 x) = nvals (AL.put l k x) := by
  unfold AL.put
  rw [nvals_has]
  split
  · unfold nvals
    rw [List.map_map, List.map_map]
    apply List.map_congr_left
    intro q _
    simp only [Function.comp]
    split <;> rfl
  · simp [nvals]
section
variable {w w' : World} {m : Nat} {l : List (Int × Int)} {S : List Nat}
theorem NMap.lt (h : NMap w m l) : m < w.heap.size := by
  obtain ⟨es, ck, hm⟩ := h.inner; exact (Array.getElem?_eq_some_iff.1 hm.heap).1
theorem NMap.nodup (h : NMap w m l) : (l.map (·.1)).Nodup := by
  obtain ⟨es, ck, hm⟩ := h.inner
  have := hm.nodup
  unfold nvals at this
  rwa [List.map_map] at this
theorem NMap.keeps (h : NMap w m l) (hk : Keeps S w w') (hm : m ∉ S) : NMap w' m l := by
  obtain ⟨es, ck, h1⟩ := h.inner; exact ⟨es, ck, h1.keeps hk hm⟩
theorem NMap.new (w : World) : NMap (w.alloc (.map #[] 0)) w.heap.size [] := ⟨_, _, IMap.new w⟩
theorem Try.mapI : Try.prog.underlying 76 = some (.map 3 3) := Try.underlying76
theorem zeroInt (w : World) : (zeroValue 3).run Try.prog w = .ok (.int .i64 0) w := by kernel_rfl
theorem NMap.look (h : NMap w m l) (k : Int) : (Instr.lookup 76 (.map (some m)) (.int .i64 k) true).run Try.prog w = .ok (.tuple #[.int .i64 ((AL.get l k).getD 0), .bool (AL.has l k)]) w := by
  obtain ⟨es, ck, h1⟩ := h.inner
  have := run_imap_lookup (P := Try.prog) h1 Try.mapI Try.underlying3 (zeroInt w) k true
  rw [if_pos rfl, nvals_get, Option.isSome_map, ← AL.has_get] at this
  rw [this]
  cases AL.get l k <;> rfl
theorem NMap.update (h : NMap w m l) (k x : Int) :
    ∃ w', (Instr.mapUpdate 76 (.map (some m)) (.int .i64 k) (.int .i64 x)).run Try.prog w = .ok () w' ∧ NMap w' m (AL.put l k x) ∧ Keeps [m] w w' := by
  obtain ⟨es, ck, h1⟩ := h.inner
  obtain ⟨es', ck', hr, h1'⟩ := run_imap_update (P := Try.prog) h1 Try.mapI Try.underlying3 k (.int .i64 x)
  rw [nvals_put] at h1'
  exact ⟨_, hr, ⟨_, _, h1'⟩, (Keeps.refl _ _).put (.inl (by simp)) _⟩
end

/-! ### The pager as a plain machine -/
structure Pager where
  seq : Int
  root : List UInt8
  taken : List Bool
  many : Int
  fresh : List (Int × List UInt8)
  freed : List (Int × Int)
  next : Int

def Pager.has (X : Pager) (k : Int) : Bool := decide (0 ≤ k) && X.taken.getD k.toNat false
/-- A committed page that is there still. -/
def Pager.there (X : Pager) (k : Int) : Bool := decide (0 < k) && X.has k && !AL.has X.freed k
def Pager.left (X : Pager) (D : Disk) : Int := D.blocks - firstOf D.blocks - X.many - X.fresh.length
def Pager.abort (X : Pager) (D : Disk) : Pager := { X with fresh := [], freed := [], next := firstOf D.blocks }

/-- A block of 512 bytes: these, and noughts. -/
def padded (bs : List UInt8) : List UInt8 := bs ++ List.replicate (512 - bs.length) 0
theorem padded_length {bs : List UInt8} (h : bs.length ≤ 512) : (padded bs).length = 512 := by unfold padded; rw [List.length_append, List.length_replicate]; omega
/-- A page's block: how many bytes, and these. -/
def encPage (bs : List UInt8) : List UInt8 := padded (putB 2 bs.length ++ bs)
def pageOf (b : List UInt8) : List UInt8 := (b.drop 2).take (getN (b.take 2))
theorem encPage_take (bs : List UInt8) : (encPage bs).take 2 = putB 2 bs.length := by
  unfold encPage padded
  rw [List.append_assoc, List.take_append_of_le_length (by rw [putB_length]; omega), List.take_of_length_le (by rw [putB_length]; omega)]
theorem getN_putB2 (n : Nat) (h : n < 65536) : getN (putB 2 n) = n := by
  simp only [putB, getN, List.foldl_cons, List.foldl_nil]
  simp
  omega
theorem pageOf_enc {bs : List UInt8} (h : bs.length ≤ 496) : pageOf (encPage bs) = bs := by
  unfold pageOf
  rw [encPage_take, getN_putB2 _ (by omega)]
  unfold encPage padded
  rw [List.append_assoc, List.drop_append, List.drop_of_length_le (by rw [putB_length]; omega), putB_length]
  simp

def Pager.free (X : Pager) (D : Disk) (k : Int) : Int × Pager :=
  if D.dead then (12, X) else if AL.has X.fresh k then (0, { X with fresh := AL.del X.fresh k }) else if X.there k then (0, { X with freed := AL.put X.freed k k }) else (2, X)
def Pager.read (X : Pager) (D : Disk) (k : Int) : List UInt8 × Int :=
  if D.dead then ([], 12) else if AL.has X.fresh k then ((AL.get X.fresh k).getD [], 0) else if X.there k then (pageOf (D.block k), 0) else ([], 2)

structure Pager.ok (X : Pager) (D : Disk) : Prop where
  full : D.full
  blo : 64 ≤ D.blocks
  bhi : D.blocks ≤ 16384
  len : (X.taken.length : Int) = D.blocks
  slo : 0 ≤ X.seq
  shi : X.seq < 1152921504606846976
  many : X.many = (X.taken.count true : Nat)
  nlo : firstOf D.blocks ≤ X.next
  nhi : X.next < D.blocks
  frk : ∀ k bs, AL.get X.fresh k = some bs → firstOf D.blocks ≤ k ∧ k < D.blocks ∧ X.has k = false ∧ bs.length ≤ 496
  fdk : ∀ k, AL.has X.freed k = true → X.has k = true
  tk : ∀ k, X.has k = true → firstOf D.blocks ≤ k ∧ k < D.blocks
  pg : ∀ k, X.has k = true → ∃ bs, bs.length ≤ 496 ∧ D.block k = encPage bs
  rlen : X.root.length ≤ 64
  nf : (X.fresh.map (·.1)).Nodup
  nd : (X.freed.map (·.1)).Nodup

/-- Numbers of a range, no one twice: there are no more than the range has. -/
theorem nodup_range : ∀ (n : Nat) (a : Int) (l : List Int), l.Nodup → (∀ x ∈ l, a ≤ x ∧ x < a + n) → l.length ≤ n
  | 0, a, l, _, h => by
    cases l with
    | nil => simp
    | cons x l => have := h x (by simp); omega
  | n + 1, a, l, hn, h => by
    have h1 : (l.filter fun x => !(x == a)).length ≤ n := by
      refine nodup_range n (a + 1) _ (List.Nodup.sublist List.filter_sublist hn) ?_
      intro x hx
      rw [List.mem_filter] at hx
      have := h x hx.1
      have h2 : x ≠ a := by simpa using hx.2
      omega
    have h2 : l.length ≤ (l.filter fun x => !(x == a)).length + 1 := by
      clear h1 h
      induction l with
      | nil => simp
      | cons x l ih =>
        rw [List.nodup_cons] at hn
        by_cases e : x = a
        · subst e
          rw [List.filter_cons_of_neg (by simp), List.length_cons]
          have : l.filter (fun y => !(y == x)) = l := by
            rw [List.filter_eq_self]
            intro y hy
            have : y ≠ x := by rintro rfl; exact hn.1 hy
            simpa using this
          rw [this]; exact Nat.le_refl _
        · rw [List.filter_cons_of_pos (by simpa using e), List.length_cons, List.length_cons]
          have := ih hn.2
          omega
    omega
theorem AL.get_of_key {α : Type} {l : List (Int × α)} {k : Int} (h : k ∈ l.map (·.1)) : ∃ x, AL.get l k = some x := by
  have := (AL.has_iff l k).2 h
  rw [AL.has_get] at this
  exact Option.isSome_iff_exists.1 this
theorem Pager.ok.fresh_len {X : Pager} {D : Disk} (h : X.ok D) : (X.fresh.length : Int) ≤ D.blocks - firstOf D.blocks := by
  have h1 := h.blo
  have h2 := h.bhi
  have h3 : firstOf D.blocks ≤ 20 := by unfold firstOf mapsOf; omega
  have := nodup_range (D.blocks - firstOf D.blocks).toNat (firstOf D.blocks) (X.fresh.map (·.1)) h.nf (by
    intro x hx
    obtain ⟨bs, hb⟩ := AL.get_of_key hx
    have := h.frk x bs hb
    omega)
  rw [List.length_map] at this
  omega

/-! ### The pager in memory -/
def BoolsV (w : World) (I : Nat → Prop) (v : Value) (bs : List Bool) : Prop := w.ownsRow 0 4 1 v bs.length (bs.map bv) ∧ ∀ g, v.ownBlock = some g → I g
theorem BoolsV.keeps {w w' : World} {I : Nat → Prop} {v : Value} {bs : List Bool} {S : List Nat} (h : BoolsV w I v bs) (hk : Keeps S w w') (hs : ∀ g, g ∈ S → ¬ I g) : BoolsV w' I v bs :=
  ⟨hk.own h.1 fun g hg hm => hs g hm (h.2 g hg), h.2⟩
theorem BoolsV.mono {w : World} {I I' : Nat → Prop} {v : Value} {bs : List Bool} (h : BoolsV w I v bs) (hi : ∀ k, I k → I' k) : BoolsV w I' v bs := ⟨h.1, fun g hg => hi g (h.2 g hg)⟩

/-- What the pager's cells say. -/
def PCof (w : World) (I : Nat → Prop) (c : PC) (d fr fd : Nat) (X : Pager) : Prop :=
  c.d = d ∧ c.seq = X.seq ∧ c.many = X.many ∧ c.fr = .map (some fr) ∧ c.fd = .map (some fd) ∧ c.next = X.next ∧ BytesV w I c.rv X.root ∧ BoolsV w I c.tv X.taken
theorem PCof.keeps {w w' : World} {I : Nat → Prop} {c : PC} {d fr fd : Nat} {X : Pager} {S : List Nat} (h : PCof w I c d fr fd X) (hk : Keeps S w w') (hs : ∀ g, g ∈ S → ¬ I g) : PCof w' I c d fr fd X := by
  obtain ⟨h1, h2, h3, h4, h5, h6, h7, h8⟩ := h
  exact ⟨h1, h2, h3, h4, h5, h6, h7.keeps hk hs, h8.keeps hk hs⟩
theorem PCof.mono {w : World} {I I' : Nat → Prop} {c : PC} {d fr fd : Nat} {X : Pager} (h : PCof w I c d fr fd X) (hi : ∀ k, I k → I' k) : PCof w I' c d fr fd X := by
  obtain ⟨h1, h2, h3, h4, h5, h6, h7, h8⟩ := h
  exact ⟨h1, h2, h3, h4, h5, h6, h7.mono hi, h8.mono hi⟩
/-- Where the pager and its disk lie: p the pager, d the disk, m the disk's map, fr and fd the pager's two maps. -/
structure PagerAt (w : World) (I : Nat → Prop) (p d m fr fd : Nat) (X : Pager) (D : Disk) : Prop where
  disk : DiskAt w I d m D
  cells : ∃ c : PC, Blk w p 78 c.cells ∧ PCof w I c d fr fd X
  fresh : BMap w I fr X.fresh
  freed : NMap w fd X.freed
  np : ¬ I p
  nfr : ¬ I fr
  nfd : ¬ I fd
  frm : fr ≠ m
  fdm : fd ≠ m
  frfd : fr ≠ fd

section
variable {w w' : World} {I I' : Nat → Prop} {p d m fr fd : Nat} {X : Pager} {D : Disk} {S : List Nat}
theorem BMap.ne_blk {g : Nat} {t : TypeId} {cs : Array Value} {l : List (Int × List UInt8)} (h : BMap w I m l) (hb : Blk w g t cs) : g ≠ m := by
  obtain ⟨vs, es, ck, h1, -⟩ := h.inner; exact hb.ne_map h1.heap
theorem NMap.ne_blk {g : Nat} {t : TypeId} {cs : Array Value} {l : List (Int × Int)} (h : NMap w m l) (hb : Blk w g t cs) : g ≠ m := by
  obtain ⟨es, ck, h1⟩ := h.inner; exact hb.ne_map h1.heap
/-- p, d, m, fr, fd differ. -/
structure Apart (p d m fr fd : Nat) : Prop where
  pd : p ≠ d
  pm : p ≠ m
  pfr : p ≠ fr
  pfd : p ≠ fd
  dm : d ≠ m
  dfr : d ≠ fr
  dfd : d ≠ fd
  mfr : m ≠ fr
  mfd : m ≠ fd
  frfd : fr ≠ fd
theorem PagerAt.apart (h : PagerAt w I p d m fr fd X D) : Apart p d m fr fd := by
  obtain ⟨c, hb, -⟩ := h.cells
  exact ⟨hb.ne_ h.disk.blk (by decide), h.disk.mem.ne_blk hb, h.fresh.ne_blk hb, h.freed.ne_blk hb, h.disk.ne, h.fresh.ne_blk h.disk.blk, h.freed.ne_blk h.disk.blk, h.frm.symm, h.fdm.symm, h.frfd⟩
theorem PagerAt.keeps (h : PagerAt w I p d m fr fd X D) (hk : Keeps S w w') (hp : p ∉ S) (hd : d ∉ S) (hm : m ∉ S) (hfr : fr ∉ S) (hfd : fd ∉ S) (hs : ∀ g, g ∈ S → ¬ I g) : PagerAt w' I p d m fr fd X D := by
  obtain ⟨c, hb, h1, h2, h3, h4, h5, h6, h7, h8⟩ := h.cells
  exact ⟨h.disk.keeps hk hd hm hs, ⟨c, hb.keeps hk hp, h1, h2, h3, h4, h5, h6, h7.keeps hk hs, h8.keeps hk hs⟩, h.fresh.keeps hk hfr hs, h.freed.keeps hk hfd, h.np, h.nfr, h.nfd, h.frm, h.fdm, h.frfd⟩
/-- Another word of the pager's own was turned. -/
theorem PagerAt.recell (h : PagerAt w I p d m fr fd X D) (hk : Keeps [p] w w') {c' : PC} (hb : Blk w' p 78 c'.cells) {X' : Pager} (hc : PCof w I c' d fr fd X') (e1 : X'.fresh = X.fresh) (e2 : X'.freed = X.freed) : PagerAt w' I p d m fr fd X' D := by
  have hA := h.apart
  have hap : ∀ g, g ∈ [p] → ¬ I g := by intro g hg; simp at hg; subst hg; exact h.np
  exact ⟨h.disk.keeps hk (by simpa using hA.pd.symm) (by simpa using hA.pm.symm) hap, ⟨c', hb, hc.keeps hk hap⟩, by rw [e1]; exact h.fresh.keeps hk (by simpa using hA.pfr.symm) hap, by rw [e2]; exact h.freed.keeps hk (by simpa using hA.pfd.symm), h.np, h.nfr, h.nfd, h.frm, h.fdm, h.frfd⟩
theorem PCof.noByte {c : PC} (h : PCof w I c d fr fd X) : c.cells.toList.all noByte = true := by
  obtain ⟨-, -, -, h4, h5, -, h7, h8⟩ := h
  obtain ⟨A, n, hv, -⟩ := (Rd.of_own h7.1).form
  obtain ⟨A2, n2, hv2, -⟩ := (Rd.of_own h8.1).form
  simp [PC.cells, h4, h5, hv, hv2, Ytebllnoeenginaa.noByte]
theorem PagerAt.rd_ne (h : PagerAt w I p d m fr fd X D) {v : Value} {bs : List UInt8} (hr : Rd w v (bs.map byt)) (hne : bs.map byt ≠ []) : ∀ g, v.ownBlock = some g → g ∉ [p, d, m, fr, fd] := by
  intro g hg
  obtain ⟨c, hb, hc⟩ := h.cells
  obtain ⟨vs, es, ck, hm, -⟩ := h.disk.mem.inner
  obtain ⟨vs2, es2, ck2, hm2, -⟩ := h.fresh.inner
  obtain ⟨es3, ck3, hm3⟩ := h.freed.inner
  have h1 := hr.ne_blk hb hc.noByte hne g hg
  have h2 := hr.ne_blk h.disk.blk rfl hne g hg
  have h3 := hr.ne_map hm.heap hne g hg
  have h4 := hr.ne_map hm2.heap hne g hg
  have h5 := hr.ne_map hm3.heap hne g hg
  simp; omega
theorem PagerAt.drew (h : PagerAt w I p d m fr fd X D) : PagerAt w.drew I p d m fr fd X D := h.keeps (Keeps.refl [] w).drew (by simp) (by simp) (by simp) (by simp) (by simp) (by simp)
theorem PagerAt.drewN (h : PagerAt w I p d m fr fd X D) (n : Nat) : PagerAt (w.drewN n) I p d m fr fd X D := h.keeps ((Keeps.refl [] w).drewN n) (by simp) (by simp) (by simp) (by simp) (by simp) (by simp)

set_option maxRecDepth 10000 in
set_option maxHeartbeats 1000000 in
theorem left_any (h : PagerAt w I p d m fr fd X D) (hx : X.ok D) : Calls Try.prog 18 #[.pointer (some ⟨p, 0, none⟩)] w fun e w' => e = .returned (.int .i64 (X.left D)) ∧ ∃ n, w' = w.drewN n := by
  obtain ⟨c, hb, rfl, h2, h3, h4, h5, h6, h7, h8⟩ := h.cells
  have c0 := pc0 hb
  have c7 := pc7 hb
  have c8 := pc8 hb
  rw [h3] at c7
  rw [h4] at c8
  have hlen : ∀ n, (Builtin.len_ #[57] 3 #[.map (some fr)]).run Try.prog (w.drewN n) = .ok (.int .i64 X.fresh.length) (w.drewN n) := fun n => (h.drewN n).fresh.len
  have H := Lib.hid h
  have HB := Lib.hid hb
  have b1 := hx.blo
  have b2 := hx.bhi
  have b3 : 0 ≤ X.many := by rw [hx.many]; omega
  have b4 : X.many ≤ 16384 := by rw [hx.many]; have := List.count_le_length (a := true) (l := X.taken); have := hx.len; omega
  have b5 : firstOf D.blocks ≤ 20 := by unfold firstOf mapsOf; omega
  have b6 : 2 ≤ firstOf D.blocks := by unfold firstOf mapsOf; omega
  have b7 : X.fresh.length ≤ 16384 := by have := hx.fresh_len; omega
  clear h hb h2 h3 h4 h5 h6 h7 h8
  go_enter Try.func18, Try.ntmps18
  go_wp2_with fail
  go_quiet ((first | (go_at_call 29; exact quiet_left (blocks_any _ (H.out.drewN _).disk)) | (go_at_call 33; exact quiet_left (first_any (HB.out.drewN _) (H.out.drewN _).disk))))
  go_wp2
  go_ret
  exact ⟨rfl, _, rfl⟩

theorem BoolsV.form {v : Value} {bs : List Bool} (h : BoolsV w I v bs) : ∃ A n, v = .slice A bs.length n ∧ bs.length ≤ n ∧ n ≤ maxLen := by
  obtain ⟨A, n, hv, h1, h2⟩ := (Rd.of_own h.1).form
  rw [List.length_map] at *
  exact ⟨A, n, hv, h1, h2⟩
theorem Pager.has_lt {X : Pager} {k : Int} (h1 : 0 ≤ k) (h2 : k < X.taken.length) : X.has k = X.taken[k.toNat]'(by omega) := by
  unfold Pager.has
  rw [decide_eq_true h1, Bool.true_and, List.getD_eq_getElem?_getD, List.getElem?_eq_getElem (by omega)]; rfl
theorem Pager.has_ge {X : Pager} {k : Int} (h2 : k < 0 ∨ (X.taken.length : Int) ≤ k) : X.has k = false := by
  unfold Pager.has
  by_cases h : 0 ≤ k
  · rw [List.getD_eq_getElem?_getD, List.getElem?_eq_none (by omega)]; simp
  · simp [h]
set_option maxRecDepth 10000 in
set_option maxHeartbeats 1000000 in
theorem there_any (k : Int) (h : PagerAt w I p d m fr fd X D) : Calls Try.prog 37 #[.pointer (some ⟨p, 0, none⟩), .int .i64 k] w fun e w' => e = .returned (.bool (X.there k)) ∧ w = w' := by
  obtain ⟨c, hb, rfl, h2, h3, h4, h5, h6, h7, h8⟩ := h.cells
  obtain ⟨A, n, htv, hl1, hl2⟩ := h8.form
  have c6 := pc6 hb
  have c9 := pc9 hb
  rw [htv] at c6
  rw [h5] at c9
  have hlook := h.freed.look k
  have HR := Lib.hid (Rd.of_own h8.1)
  rw [htv] at HR
  have HP : Hid (X.there k = (decide (0 < k) && X.has k && !AL.has X.freed k)) := Lib.hid rfl
  clear h hb h2 h3 h4 h5 h6 h7 h8 hl1 hl2 htv
  by_cases g1 : 0 < k
  · by_cases g2 : k < X.taken.length
    · obtain ⟨ad, rfl, hc⟩ := HR.out.at_ (k := k.toNat) (by simp; omega)
      rw [List.getElem_map, ← Pager.has_lt (by omega) g2] at hc
      have g0 : 0 ≤ k := by omega
      cases hh : X.has k with
      | false =>
        rw [hh] at hc
        have HQ : Hid (X.there k = false) := by have := HP.out; rw [hh] at this; exact Lib.hid (by simpa using this)
        clear hh
        go_enter Try.func37, Try.ntmps37
        go_wp2
        go_ret
        rw [HQ.out]
        exact ⟨rfl, rfl⟩
      | true =>
        rw [hh] at hc
        have HQ : Hid (X.there k = !AL.has X.freed k) := by have := HP.out; rw [hh, decide_eq_true g1] at this; exact Lib.hid (by simpa using this)
        clear hh
        go_enter Try.func37, Try.ntmps37
        go_wp2
        go_ret
        rw [HQ.out]
        exact ⟨rfl, rfl⟩
    · have g3 : (X.taken.length : Int) ≤ k := by omega
      have HQ : Hid (X.there k = false) := by have := HP.out; rw [Pager.has_ge (.inr g3)] at this; exact Lib.hid (by simpa using this)
      clear g2
      go_enter Try.func37, Try.ntmps37
      go_wp2
      go_ret
      rw [HQ.out]
      exact ⟨rfl, rfl⟩
  · have g3 : k ≤ 0 := by omega
    have HQ : Hid (X.there k = false) := by have := HP.out; rw [decide_eq_false g1] at this; exact Lib.hid (by simpa using this)
    clear g1
    go_enter Try.func37, Try.ntmps37
    go_wp2
    go_ret
    rw [HQ.out]
    exact ⟨rfl, rfl⟩
end
end Go.Proofs.Ytebllnoeenginaa
