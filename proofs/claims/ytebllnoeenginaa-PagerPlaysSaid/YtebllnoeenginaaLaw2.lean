/- The laws' rows of pages: at, without, holds. -/
import Derived.Test.YtebllnoeenginaaSt
import Derived.Maps.AppendAt
namespace Go.Proofs.Ytebllnoeenginaa
open Go.RowKit

theorem Try.infoPage : (Try.prog.info? 51).map (fun i => (i.zero, i.size, i.bytes)) = some (some (.agg #[.int .i64 0, .string ⟨#[]⟩]), 2, 24) := by kernel_rfl
def pstr (b : List UInt8) : Value := .string ⟨b.toArray⟩
def pcells (l : Pages) : List Value := l.flatMap fun p => [iv p.1, pstr p.2]
theorem pcells_append (a b : Pages) : pcells (a ++ b) = pcells a ++ pcells b := by unfold pcells; rw [List.flatMap_append]
theorem pcells_cons (p : Int × List UInt8) (l : Pages) : pcells (p :: l) = iv p.1 :: pstr p.2 :: pcells l := rfl
theorem pcells_length (l : Pages) : (pcells l).length = l.length * 2 := by
  induction l with
  | nil => rfl
  | cons p l ih => rw [pcells_cons, List.length_cons, List.length_cons, ih, List.length_cons]; omega
theorem pcells_get (l : Pages) (i : Nat) (h : i < l.length) : (pcells l)[i * 2]? = some (iv l[i].1) ∧ (pcells l)[i * 2 + 1]? = some (pstr l[i].2) := by
  induction l generalizing i with
  | nil => simp at h
  | cons p l ih =>
    cases i with
    | zero => exact ⟨rfl, rfl⟩
    | succ i =>
      have := ih i (by simpa using h)
      rw [show (i + 1) * 2 = i * 2 + 1 + 1 from by omega, pcells_cons]
      exact this
theorem oneCell_pages {l : Pages} : ∀ u ∈ pcells l, u.oneCell' = true := by
  intro u hu
  unfold pcells at hu
  rw [List.mem_flatMap] at hu
  obtain ⟨p, -, hp⟩ := hu
  simp at hp
  rcases hp with rfl | rfl <;> rfl
/-- A row of the caller's own as a source. -/
theorem own_src {w : World} {base size n : Nat} {e : TypeId} {v : Value} {xs : List Value} (h : w.ownsRow base e size v n xs) : (v = .slice none 0 0 ∧ n = 0 ∧ xs = []) ∨
    ∃ g cap, v = .slice (some ⟨g, 0, none⟩) n cap ∧ n ≤ cap ∧ cap ≤ maxLen ∧ base ≤ g ∧ g < w.heap.size ∧ ∀ j u, xs[j]? = some u → w.cell? ((⟨g, 0, none⟩ : Addr).add j) = some u := by
  obtain ⟨h1, h2⟩ := h
  rcases h2 with ⟨rfl, rfl⟩ | ⟨g, cap, cur, rfl, hb, hg, hn, hc, hs, ht⟩
  · left
    refine ⟨rfl, rfl, ?_⟩
    rw [Nat.zero_mul] at h1
    exact List.eq_nil_of_length_eq_zero h1
  · right
    refine ⟨g, cap, rfl, hn, hc, hb, (Array.getElem?_eq_some_iff.1 hg).1, fun j u hu => ?_⟩
    rw [add_lit0, Nat.zero_add, cell_of_row w g j cur e (0, 0) hg]
    rw [← ht, List.getElem?_take] at hu
    split at hu
    · simpa using hu
    · cases hu
theorem own_slice {w : World} {base size n : Nat} {e : TypeId} {v : Value} {xs : List Value} (h : w.ownsRow base e size v n xs) : ∃ A c, v = .slice A n c := by
  rcases own_src h with ⟨rfl, h0, -⟩ | ⟨g, cap, rfl, -⟩
  · exact ⟨none, 0, by rw [h0]⟩
  · exact ⟨_, _, rfl⟩
section
variable {w w' : World} {F : Nat → Prop} {P : Program}
/-- append of a row, of whatever own row. -/
theorem run_append_rows (w : World) (base base' : Nat) (t ty e : TypeId) (i : TypeInfo) (z : Value) (size bytes : Nat) (ht : P.underlying t = some (.slice e)) (hi : P.info? e = some i) (hz : i.zero = some z)
    (hsize : i.size = size) (hby : i.bytes = bytes) (hzs : z.cells.size = size) (hs0 : 0 < size) {v x : Value} {n m : Nat} {xs news : List Value} (hown : w.ownsRow base e size v n xs) (hx : w.ownsRow base' e size x m news) (h1 : ∀ u ∈ news, u.oneCell' = true)
    (h63 : n + m ≤ maxLen) (hbytes : (n + m) * bytes ≤ 140737488355328) (hbase : base ≤ w.heap.size) :
    ∃ v' w', (Builtin.append_ #[t, t] ty #[v, x]).run P w = .ok v' w' ∧ w'.ownsRow base e size v' (n + m) (xs ++ news) ∧ w.grownBy w' v.ownBlock ∧ (v'.ownBlock = v.ownBlock ∨ v'.ownBlock = some w.heap.size) := by
  rcases own_src hx with ⟨rfl, rfl, rfl⟩ | ⟨g, cap, rfl, hc1, hc2, hb, hg, hcell⟩
  · refine ⟨v, w, run_append_owned_none w base t ty e i size ht hi v n xs hown, by simpa using hown, ⟨rfl, rfl, rfl, Nat.le_refl _, fun _ _ _ => rfl⟩, .inl rfl⟩
  · obtain ⟨v', w', hr, ho, hg, -, hb⟩ := run_append_own_at w base t ty e i z size bytes ht hi hz hsize hby hzs hs0 v n xs hown ⟨g, 0, none⟩ m cap news hx.1 hcell h1 h63 hbytes hbase
    exact ⟨v', w', hr, ho, hg, hb⟩
end
/-- Where a page stands among others. -/
def atIdx (l : Pages) (n : Int) : Int := match l.findIdx? fun p => p.1 == n with | some j => (j : Int) | none => -1
theorem atIdx_none {l : Pages} {n : Int} (h : AL.has l n = false) : atIdx l n = -1 := by
  unfold atIdx
  have : l.findIdx? (fun p => p.1 == n) = none := by
    rw [List.findIdx?_eq_none_iff]
    intro p hp
    have h2 : ¬ AL.has l n = true := by rw [h]; simp
    cases hq : p.1 == n with
    | false => rfl
    | true => exact absurd (by unfold AL.has; rw [List.any_eq_true]; exact ⟨p, hp, hq⟩) h2
  rw [this]
theorem atIdx_some {l : Pages} {n : Int} {j : Nat} (hj : j < l.length) (he : l[j].1 = n) (hn : ∀ i (hi : i < j), ¬ (l[i]'(by omega)).1 = n) : atIdx l n = j := by
  unfold atIdx
  have : l.findIdx? (fun p => p.1 == n) = some j := by
    rw [List.findIdx?_eq_some_iff_getElem]
    exact ⟨hj, by simpa using he, fun i hi => by simpa using hn i hi⟩
  rw [this]
theorem atIdx_pos {l : Pages} {n : Int} : 0 ≤ atIdx l n ↔ AL.has l n = true := by
  cases h : AL.has l n with
  | false => rw [atIdx_none h]; simp
  | true =>
    unfold atIdx
    cases hf : l.findIdx? (fun p => p.1 == n) with
    | some j => simp
    | none =>
      rw [List.findIdx?_eq_none_iff] at hf
      unfold AL.has at h
      rw [List.any_eq_true] at h
      obtain ⟨p, hp, hq⟩ := h
      rw [hf p hp] at hq; cases hq

section
variable {w w' : World} {F : Nat → Prop}
set_option maxRecDepth 10000 in
set_option maxHeartbeats 1000000 in
theorem at_any (v : Value) (l : Pages) (n : Int) (w : World) (base : Nat) (h : w.ownsRow base 51 2 v l.length (pcells l)) (hl : l.length ≤ 1000000) :
    Calls Try.prog 28 #[v, .int .i64 n] w fun e w' => e = .returned (.int .i64 (atIdx l n)) ∧ w = w' := by
  have HO := Lib.hid h
  obtain ⟨A, c, rfl⟩ := own_slice h
  clear h
  go_enter Try.func28, Try.ntmps28
  go_wp2
  go_loop [5] (fun i => ∃ k : Nat, k ≤ l.length ∧ i = .int .i64 k ∧ Hid (∀ j (hj : j < k) (hl : j < l.length), ¬ l[j].1 = n)) (fun i => l.length - (intOf i).toNat)
  case atStart => exact ⟨0, Nat.zero_le _, rfl, Lib.hid (fun j hj => by omega)⟩
  case round =>
    obtain ⟨k, hk, rfl, HN⟩ := hrel
    by_cases hlt : k < l.length
    · obtain ⟨g, cap, hv⟩ := own_form HO.out (by omega)
      cases hv
      have hc := HO.out.cellAt (k * 2) (by omega)
      rw [(pcells_get l k hlt).1] at hc
      obtain ⟨q, hq⟩ : ∃ q, q = l[k].1 := ⟨_, rfl⟩
      rw [← hq] at hc
      have HQ := Lib.hid hq
      clear hq
      by_cases he : q = n
      · have heb : (q == n) = true := by simpa using he
        have HE := Lib.hid he
        clear he
        go_wp2
        go_ret
        exact ⟨by rw [atIdx_some hlt (by rw [← HQ.out, HE.out]) (fun i hi => HN.out i hi (by omega))]; rfl, rfl⟩
      · have heb : (q == n) = false := by simpa using he
        have HE := Lib.hid he
        clear he
        go_wp2
        go_round
        case rel => exact ⟨k + 1, by omega, by go_num, Lib.hid (fun j hj hjl => by
          by_cases e : j = k
          · subst e; rw [← HQ.out]; exact HE.out
          · exact HN.out j (by omega) hjl)⟩
        case measure => simp [intOf]; omega
    · obtain rfl : k = l.length := by omega
      go_wp2
      go_ret
      refine ⟨?_, rfl⟩
      rw [atIdx_none]
      · rfl
      · cases h : AL.has l n with
        | false => rfl
        | true =>
          obtain ⟨p, hp, e⟩ := List.mem_map.1 ((AL.has_iff _ _).1 h)
          obtain ⟨j, hj, e2⟩ := List.getElem_of_mem hp
          exact absurd (by rw [e2]; exact e) (HN.out j hj hj)
end
end Go.Proofs.Ytebllnoeenginaa
