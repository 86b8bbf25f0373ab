/- The pager's pages as two lists: as they are now, as they are committed. -/
import Derived.Test.YtebllnoeenginaaLive
namespace Go.Proofs.Ytebllnoeenginaa
open Go.RowKit

abbrev Pages := List (Int × List UInt8)
structure Tells (X : Pager) (D : Disk) (all done : Pages) : Prop where
  an : (all.map (·.1)).Nodup
  dn : (done.map (·.1)).Nodup
  at_ : ∀ k, AL.get all k = X.at_ D k
  com : ∀ k, AL.get done k = X.com D k

section
variable {X X' : Pager} {D D' : Disk} {all done : Pages}
theorem Tells.zero (n : Int) : Tells (Pager.zero n) (Disk.zero n) [] [] := ⟨List.nodup_nil, List.nodup_nil, fun k => (zero_at n k).symm, fun k => (zero_com n k).symm⟩
theorem Tells.abort (h : Tells X D all done) (hx : X.ok D) : Tells (X.abort D) D done done :=
  ⟨h.dn, h.dn, fun k => by rw [abort_at hx]; exact h.com k, fun k => by rw [com_of rfl]; exact h.com k⟩
theorem Tells.alloc (h : Tells X D all done) {n : Int} {bs : List UInt8} (ha : Alloced X D n bs X') : Tells X' D (all ++ [(n, bs)]) done := by
  have hn : n ∉ all.map (·.1) := by
    rw [mem_keys_get, h.at_, ha.void]; simp
  refine ⟨?_, h.dn, fun k => ?_, fun k => by rw [ha.com]; exact h.com k⟩
  · rw [List.map_append, List.map_cons, List.map_nil]
    refine List.nodup_append.2 ⟨h.an, by simp, ?_⟩
    rintro a hq b hb rfl
    have : a = n := by simpa using hb
    subst this; exact hn hq
  · rw [AL.get_append, ha.at_, AL.get_cons, h.at_]
    by_cases e : k = n
    · subst e; rw [ha.void, if_pos rfl, if_pos rfl]; rfl
    · rw [if_neg e, if_neg (fun hh => e hh.symm)]; simp [AL.get_nil]
theorem Tells.free (h : Tells X D all done) (hx : X.ok D) (hd : D.dead = false) (k : Int) : Tells (X.free D k).2 D (AL.del all k) done := by
  obtain ⟨-, -, h3, -, -, h6, -, -⟩ := free_at hx hd k
  refine ⟨AL.nodup_del h.an k, h.dn, fun k' => ?_, fun k' => by rw [com_of h6]; exact h.com k'⟩
  rw [AL.get_del, h3, h.at_]
theorem Tells.commit (h : Tells X D all done) {root : List UInt8} (hc : Committed X D root X' D') : Tells X' D' all all :=
  ⟨h.an, h.an, fun k => by rw [hc.at_]; exact h.at_ k, fun k => by rw [hc.com]; exact h.at_ k⟩
theorem Tells.cut (h : Tells X D all done) (hc : CutOff X D D') : Tells X D' all done :=
  ⟨h.an, h.dn, fun k => by rw [hc.at_]; exact h.at_ k, fun k => by rw [hc.com]; exact h.com k⟩
theorem Tells.same (h : Tells X D all done) (hx : X.ok D) (hm : D'.mem = D.mem) (hb : D'.blocks = D.blocks) : Tells X D' all done :=
  ⟨h.an, h.dn, fun k => by rw [at_same (SameAt.of_mem hx hm hb)]; exact h.at_ k, fun k => by rw [com_same (SameAt.of_mem hx hm hb)]; exact h.com k⟩
theorem Tells.has (h : Tells X D all done) (k : Int) : AL.has all k = (X.at_ D k).isSome := by rw [AL.has_get, h.at_]
theorem Tells.left (h : Tells X D all done) (hx : X.ok D) : X.left D = D.blocks - firstOf D.blocks - done.length - ((all.filter fun p => !AL.has done p.1).length : Nat) := by
  unfold Pager.left
  rw [many_com hx h.dn h.com, fresh_new hx h.an h.at_ h.com]
theorem Tells.fresh (h : Tells X D all done) (hx : X.ok D) : X.fresh.length = (all.filter fun p => !AL.has done p.1).length := fresh_new hx h.an h.at_ h.com
theorem Tells.fresh_le (h : Tells X D all done) (hx : X.ok D) : X.fresh.length ≤ all.length := by rw [h.fresh hx]; exact List.length_filter_le _ _
theorem Tells.free_ok (h : Tells X D all done) (hx : X.ok D) (hd : D.dead = false) (k : Int) : (X.free D k).1 = if AL.has all k then 0 else 2 := by
  rw [(free_at hx hd k).1, h.has]
theorem Tells.read (h : Tells X D all done) (hd : D.dead = false) (k : Int) : X.read D k = match AL.get all k with | some b => (b, 0) | none => ([], 2) := by
  rw [read_at hd, h.at_]
  cases X.at_ D k <;> rfl
theorem Tells.page (h : Tells X D all done) (hx : X.ok D) {k : Int} {b : List UInt8} (hg : AL.get all k = some b) : 4 ≤ k ∧ k < D.blocks ∧ b.length ≤ 496 := by
  rw [h.at_] at hg
  have := hx.at_lo hg
  have := hx.first_lo
  omega
/-- Where all that is committed is there still, there is room for what is not. -/
theorem sub_len {all done : Pages} (ha : (all.map (·.1)).Nodup) (hd : (done.map (·.1)).Nodup) (hs : ∀ k, AL.has done k = true → AL.has all k = true) : done.length + (all.filter fun p => !AL.has done p.1).length = all.length := by
  have h1 : (all.filter fun p => AL.has done p.1).length + (all.filter fun p => !AL.has done p.1).length = all.length := by
    clear ha hs
    induction all with
    | nil => rfl
    | cons p l ih =>
      cases hp : AL.has done p.1 with
      | true => rw [List.filter_cons_of_pos (by simpa using hp), List.filter_cons_of_neg (by simp [hp])]; simp; omega
      | false => rw [List.filter_cons_of_neg (by simp [hp]), List.filter_cons_of_pos (by simp [hp])]; simp; omega
  have hm : ∀ k, k ∈ (all.filter fun p => AL.has done p.1).map (·.1) ↔ k ∈ done.map (·.1) := by
    intro k
    rw [List.mem_map]
    constructor
    · rintro ⟨p, hp, rfl⟩
      rw [List.mem_filter] at hp
      exact (AL.has_iff _ _).1 hp.2
    · intro hk
      have hk' := (AL.has_iff _ _).2 hk
      obtain ⟨p, hp, e⟩ := List.mem_map.1 ((AL.has_iff _ _).1 (hs k hk'))
      exact ⟨p, List.mem_filter.2 ⟨hp, by rw [e]; exact hk'⟩, e⟩
  have hn : ((all.filter fun p => AL.has done p.1).map (·.1)).Nodup := List.Nodup.sublist (List.Sublist.map _ List.filter_sublist) ha
  have e1 := nodup_len hn (fun x hx => (hm x).1 hx)
  have e2 := nodup_len hd (fun x hx => (hm x).2 hx)
  rw [List.length_map, List.length_map] at e1 e2
  omega
theorem Tells.left_sub (h : Tells X D all done) (hx : X.ok D) (hs : ∀ k, AL.has done k = true → AL.has all k = true) : X.left D = D.blocks - firstOf D.blocks - all.length := by
  have := sub_len h.an h.dn hs
  rw [h.left hx]; omega
end
end Go.Proofs.Ytebllnoeenginaa
