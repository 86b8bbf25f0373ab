/- pager.sorted: the numbers of a map's pages, rising. -/
import Derived.Test.YtebllnoeenginaaPag2
import Derived.Test.YtebllnoeenginaaIter
import Derived.Test.YtebllnoeenginaaShelf
namespace Go.Proofs.Ytebllnoeenginaa
open Go.RowKit

theorem perm_of_mem : ∀ {a b : List Int}, a.Nodup → b.Nodup → (∀ x, x ∈ a ↔ x ∈ b) → a.Perm b
  | [], b, _, _, h => by
    cases b with
    | nil => exact List.Perm.nil
    | cons x b => have := (h x).2 (by simp); cases this
  | x :: a, b, ha, hb, h => by
    rw [List.nodup_cons] at ha
    have hx : x ∈ b := (h x).1 (by simp)
    have := perm_of_mem (a := a) (b := b.erase x) ha.2 (hb.sublist (List.erase_sublist)) (fun y => by
      rw [List.Nodup.mem_erase_iff hb]
      constructor
      · intro hy; exact ⟨by rintro rfl; exact ha.1 hy, (h y).1 (by simp [hy])⟩
      · rintro ⟨h1, h2⟩; have := (h y).2 h2; simpa [h1] using this)
    exact (List.Perm.cons x this).trans (List.perm_cons_erase hx).symm

/-- Numbers, rising. -/
def rising (l : List Int) : List Int := l.mergeSort fun x y => decide (x ≤ y)
theorem rising_perm (l : List Int) : (rising l).Perm l := List.mergeSort_perm _ _
theorem rising_pairwise (l : List Int) : (rising l).Pairwise (· ≤ ·) := by
  have := List.pairwise_mergeSort (le := fun x y : Int => decide (x ≤ y)) (by intro a b c; simp; omega) (by intro a b; simp; omega) l
  exact this.imp (by intro a b h; simpa using h)
theorem sorted_eq : ∀ {a b : List Int}, a.Perm b → a.Pairwise (· ≤ ·) → b.Pairwise (· ≤ ·) → a = b
  | [], b, h, _, _ => by have := h.symm.eq_nil; exact this.symm
  | x :: a, b, h, ha, hb => by
    cases b with
    | nil => have := h.eq_nil; cases this
    | cons y b =>
      rw [List.pairwise_cons] at ha hb
      have hxy : x = y := by
        have h1 : x ∈ y :: b := h.subset (by simp)
        have h2 : y ∈ x :: a := h.symm.subset (by simp)
        rcases List.mem_cons.1 h1 with h1 | h1
        · exact h1
        · rcases List.mem_cons.1 h2 with h2 | h2
          · exact h2.symm
          · have := ha.1 y h2; have := hb.1 x h1; omega
      subst hxy
      rw [sorted_eq (List.Perm.cons_inv h) ha.2 hb.2]
theorem rising_of_perm {a b : List Int} (h : a.Perm b) : rising a = rising b :=
  sorted_eq ((rising_perm a).trans (h.trans (rising_perm b).symm)) (rising_pairwise a) (rising_pairwise b)
theorem mem_rising {l : List Int} {x : Int} : x ∈ rising l ↔ x ∈ l := (rising_perm l).mem_iff
theorem rising_nodup {l : List Int} (h : l.Nodup) : (rising l).Nodup := (rising_perm l).nodup_iff.2 h
theorem rising_length (l : List Int) : (rising l).length = l.length := (rising_perm l).length_eq

section
variable {w w' : World} {I : Nat → Prop} {q : Nat} {l : List (Int × List UInt8)}
theorem oneCell_iv {bs : List Int} : ∀ u ∈ bs.map iv, u.oneCell' = true := by
  intro u hu; obtain ⟨b, -, rfl⟩ := List.mem_map.1 hu; rfl
/-- slices.Sort of a row of the call's own. -/
theorem sort_own {W : World} {base : Nat} {v : Value} {zs : List Int} (ho : W.ownsRow base 3 1 v zs.length (zs.map iv)) (hl : zs.length ≤ 1000000) :
    Calls Try.prog 55 #[v] W fun e w' => e = .returned (.tuple #[]) ∧ w'.ownsRow base 3 1 v zs.length ((rising zs).map iv) ∧ Keeps v.ownBlock.toList W w' := by
  by_cases h0 : zs.length = 0
  · have hz : zs = [] := List.eq_nil_of_length_eq_zero h0
    subst hz
    obtain ⟨A, c, hv, -⟩ := (Rd.of_own ho).form
    simp only [List.map_nil, List.length_nil] at hv
    subst hv
    refine (Try.slices_Sort_int_none A c W).mono ?_
    rintro e w' ⟨rfl, rfl⟩
    exact ⟨rfl, by simpa [rising] using ho, Keeps.refl _ _⟩
  · obtain ⟨h1, h2⟩ := ho
    rcases h2 with ⟨rfl, h⟩ | ⟨g, cap, cur, rfl, hb, hg, hn, hc, hs, ht⟩
    · exact absurd h h0
    · have hcell : ∀ j (hj : j < zs.length), W.cell? ⟨g, j, none⟩ = some (iv zs[j]) := by
        intro j hj
        rw [cell_of_row W g j cur 3 (0, 0) hg, ← Array.getElem?_toList]
        have h3 : (cur.toList.take (zs.length * 1))[j]? = (zs.map iv)[j]? := by rw [ht]
        rw [List.getElem?_take, if_pos (by omega), List.getElem?_map, List.getElem?_eq_getElem hj] at h3
        exact h3
      have hH : Go.Sort.Holds (Value.int .i64) W g 0 zs.toArray := by
        intro j hj
        have hj' : j < zs.length := by simpa using hj
        refine ⟨?_, ?_⟩
        · rw [Nat.zero_add, hcell j hj', getElem!_pos _ j hj]; simp
        · have : Blk W g 3 cur := hg
          rw [Nat.zero_add]; exact this.frozen j
      have hlt : g < W.heap.size := (Array.getElem?_eq_some_iff.1 hg).1
      refine (Try.slices_Sort_int g 0 cap zs W hH hlt (by omega)).mono ?_
      rintro e w' ⟨rfl, n, os, rfl⟩
      have hrl : (rising zs).length = zs.length := rising_length zs
      have hheap : (Go.Sort.grow (Go.Sort.putRow (Value.int .i64) (Go.Sort.ahead W n) g 0 (rising zs).toArray) os).heap[g]? = some (.cells (Go.Sort.putCells (Value.int .i64) 0 (rising zs).toArray cur) 3 (0, 0)) := by
        rw [Go.Sort.heap_grow_old _ _ (by simpa using hlt)]
        show (W.heap.modify g _)[g]? = _
        rw [Array.getElem?_modify, if_pos rfl, hg]; rfl
      refine ⟨rfl, ⟨by simp [hrl], .inr ⟨g, cap, _, rfl, hb, hheap, hn, hc, by simp [Go.Sort.putCells]; omega, ?_⟩⟩, rfl, rfl, rfl, by simp [Go.Sort.putRow, Go.Sort.mapBlock], ?_⟩
      · apply List.ext_getElem?
        intro j
        rw [List.getElem?_take, List.getElem?_map]
        have hcs : cur.size = cap := by simpa using hs
        by_cases hj : j < zs.length
        · rw [if_pos (by omega), Array.getElem?_toList, Go.Sort.putCells, Array.getElem?_mapIdx, Array.getElem?_eq_getElem (by omega), List.getElem?_eq_getElem (by omega)]
          have hjr : j < (rising zs).toArray.size := by simp; omega
          simp only [Option.map_some, Nat.zero_le, Nat.zero_add, true_and, Nat.sub_zero]
          rw [if_pos hjr, getElem!_pos _ j hjr]; simp
        · rw [if_neg (by omega), List.getElem?_eq_none (by omega)]; rfl
      · intro k hk hkn
        have hkg : k ≠ g := by rintro rfl; exact hkn (by simp [Value.ownBlock])
        rw [Go.Sort.heap_grow_old _ _ (by simpa using hk)]
        show (W.heap.modify g _)[k]? = _
        rw [Array.getElem?_modify, if_neg (Ne.symm hkg)]

def lenV : Value → Nat
  | .slice _ n _ => n
  | _ => 0
theorem lenV_own {W : World} {base : Nat} {e : TypeId} {size : Nat} {v : Value} {n : Nat} {xs : List Value} (h : W.ownsRow base e size v n xs) : lenV v = n := by
  rcases h.2 with ⟨rfl, rfl⟩ | ⟨g, cap, cur, rfl, -⟩ <;> rfl
set_option maxRecDepth 100000 in
set_option maxHeartbeats 2000000 in
theorem sorted_any (h : BMap w I q l) (hl : l.length ≤ 1000000) : Calls Try.prog 45 #[.map (some q)] w fun e w' =>
    ∃ v, e = .returned v ∧ w'.ownsRow w.heap.size 3 1 v l.length ((rising (l.map (·.1))).map iv) ∧ Keeps [] w w' := by
  obtain ⟨i0, hi, hz0, hz1, hz2⟩ := info_parts Try.infoInt
  obtain ⟨vs, es, ck, h1, h2, h3⟩ := h.inner
  have hvl : vs.length = l.length := by simpa using congrArg List.length h2
  obtain ⟨hrg, hit⟩ := run_range_imap (P := Try.prog) h1 Try.mapB
  have HIT := Lib.hid hit
  have H2 := Lib.hid h2
  have HN := Lib.hid h1.nodup
  have HVL := Lib.hid hvl
  have hql := h.lt
  clear h h1 h3 hit h2 hvl
  go_enter Try.func45, Try.ntmps45
  go_wp2
  go_loopw [3] (fun out wr => ∃ done, MIter wr w.heap.size q vs done ∧ wr.ownsRow (w.heap.size + 1) 3 1 out done.length ((done.map (·.1)).map iv) ∧ Keeps [w.heap.size] (w.alloc (.mapIter (some q) ck #[] ck)) wr) (fun out _ => l.length - lenV out)
  case atStart => exact ⟨[], HIT.out, World.ownsRow_nil _ _ _ _, Keeps.refl _ _⟩
  case round =>
    obtain ⟨done, hI, ho, hk⟩ := hrel
    rcases run_next_imap (P := Try.prog) hI with ⟨hn, hall, hlen⟩ | ⟨k, v, w1, hn, hent, hI2, hk1, hzw, hkl, hkd, hlt⟩
    · have HO := Lib.hid ho
      have HK := Lib.hid hk
      have HALL := Lib.hid hall
      have HI := Lib.hid hI
      have HLEN := Lib.hid hlen
      clear ho hk hall hI hlen
      go_wp2_with (go_at_call 55; refine (sort_own (zs := done.map (·.1)) (by simpa using HO.out) (by have := HLEN.out; have := HVL.out; simp; omega)).mono ?_; rintro e w' ⟨rfl, ho2, hk2⟩)
      go_ret
      refine ⟨_, rfl, ?_, ?_⟩
      · have hp : (done.map (·.1)).Perm (l.map (·.1)) := by
          rw [← H2.out]
          refine perm_of_mem HI.out.nodup HN.out (fun x => ?_)
          constructor
          · intro hx; obtain ⟨y, hy, e⟩ := List.mem_map.1 hx; exact List.mem_map.2 ⟨y, HI.out.mem y hy, e⟩
          · intro hx; obtain ⟨y, hy, e⟩ := List.mem_map.1 hx; exact List.mem_map.2 ⟨y, HALL.out y hy, e⟩
        rw [rising_of_perm hp] at ho2
        have e1 : (done.map (·.1)).length = l.length := by have := HLEN.out; have := HVL.out; simp; omega
        rw [e1] at ho2
        exact ownsRow_mono ho2 (by omega)
      · have h1 : Keeps [] w (w.alloc (.mapIter (some q) ck #[] ck)) := (Keeps.refl _ _).alloc _
        refine (h1.then HK.out (by simp)).then hk2 ?_
        intro k hk
        right
        have : u3.ownBlock = some k := by cases hv : u3.ownBlock with
          | none => rw [hv] at hk; simp at hk
          | some x => rw [hv] at hk; simp at hk; rw [hk]
        have := own_base HO.out k this
        omega
    · have HO := Lib.hid (hk1.own ho (by intro g hg; have := own_base ho g hg; simp; omega))
      have HK := Lib.hid (hk.trans hk1)
      have HI2 := Lib.hid hI2
      have HKD := Lib.hid hkd
      have hsz := hk.size
      have hql2 : q < w1.heap.size := by simp at hsz; omega
      have HLL := Lib.hid hlt
      have HVL2 := HVL.out
      have hlt2 : done.length < l.length := by omega
      have HL3 : Hid (done.length < l.length) := Lib.hid hlt2
      have hwl : w.heap.size + 1 ≤ w1.heap.size := by simp at hsz; omega
      have HWL := Lib.hid hwl
      clear ho hk hI hI2 hk1 hkl hkd hlt hsz HVL2 hlt2 hzw
      go_wp2_with (at_builtin; refine wpList_append_rd rfl _ _ 43 rfl (w.heap.size + 1) 3 i0 (.int .i64 0) 8 Try.underlying43 hi hz0 hz1 hz2 rfl (by rfl) (by rfl) (HO.out.alloc _) (Rd.lit _ _ #[_] 1 rfl (by simp [maxLen])) one_u8 (by have := HL3.out; simp [maxLen]; omega) (by have := HL3.out; simp; omega) (by have := HWL.out; simp; omega) ?_; intro v' w' ho2 hg2 hb2)
      go_roundw
      case rel =>
        have hK2 : Keeps u3.ownBlock.toList w1 w' := ((Keeps.refl _ _).alloc _).grown hg2 (by intro g hg; left; rw [hg]; simp)
        have hub : ∀ g, g ∈ u3.ownBlock.toList → w.heap.size + 1 ≤ g := by
          intro g hg
          have : u3.ownBlock = some g := by cases hv : u3.ownBlock with
            | none => rw [hv] at hg; simp at hg
            | some x => rw [hv] at hg; simp at hg; rw [hg]
          exact own_base HO.out g this
        refine ⟨done ++ [(k, v)], HI2.out.keeps hK2 (fun hm => by have := hub _ hm; omega) (fun hm => by have := hub _ hm; omega), ?_, HK.out.then hK2 (fun g hg => .inr (by have := hub g hg; simp; omega))⟩
        simpa using ho2
      case measure =>
        have h1 := lenV_own HO.out
        have h2 := lenV_own ho2
        have h3 := HL3.out
        simp at h2 ⊢
        omega
end
end Go.Proofs.Ytebllnoeenginaa
