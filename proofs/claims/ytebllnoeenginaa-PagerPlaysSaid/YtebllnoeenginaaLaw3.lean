/- The laws' rows of pages: without, holds. -/
import Derived.Test.YtebllnoeenginaaLaw2
namespace Go.Proofs.Ytebllnoeenginaa
open Go.RowKit

theorem news_lit (w : World) (cs : Array Value) (t : TypeId) (j : Nat) (u : Value) (h : cs.toList[j]? = some u) : (w.alloc (.cells cs t)).cell? ((⟨w.heap.size, 0, none⟩ : Addr).add j) = some u := by
  rw [add_lit0, Nat.zero_add, cell_of_row _ _ j cs t (0, 0) (heap_alloc_new w _)]
  simpa using h
theorem del_snoc (l : Pages) (p : Int × List UInt8) (n : Int) : AL.del (l ++ [p]) n = AL.del l n ++ if p.1 = n then [] else [p] := by
  unfold AL.del
  rw [List.filter_append]
  by_cases h : p.1 = n
  · rw [if_pos h, List.filter_cons_of_neg (by simp [h])]; simp
  · rw [if_neg h, List.filter_cons_of_pos (by simpa using h)]; simp
section
variable {w0 w w' : World} {F : Nat → Prop} {p d : Nat} {X : Pager} {D : Disk} {all done : Pages}
set_option maxRecDepth 10000 in
set_option maxHeartbeats 1000000 in
theorem without_any (v : Value) (l : Pages) (n : Int) (w : World) (base : Nat) (h : w.ownsRow base 51 2 v l.length (pcells l)) (hl : l.length ≤ 1000000) :
    Calls Try.prog 23 #[v, .int .i64 n] w fun e w' => ∃ v', e = .returned v' ∧ w'.ownsRow w.heap.size 51 2 v' (AL.del l n).length (pcells (AL.del l n)) ∧ Keeps [] w w' := by
  obtain ⟨i0, hi, hz0, hz1, hz2⟩ := info_parts Try.infoPage
  have HO := Lib.hid h
  obtain ⟨A, c, rfl⟩ := own_slice h
  clear h
  go_enter Try.func23, Try.ntmps23
  go_wp2
  go_loopw [5, 6] (fun ov i wr => ∃ k : Nat, k ≤ l.length ∧ i = .int .i64 k ∧ Hid (wr.ownsRow w.heap.size 51 2 ov (AL.del (l.take k) n).length (pcells (AL.del (l.take k) n))) ∧ Hid (Keeps [] w wr)) (fun _ i _ => l.length - (intOf i).toNat)
  case atStart => exact ⟨0, Nat.zero_le _, rfl, Lib.hid (World.ownsRow_nil _ _ _ _), Lib.hid (Keeps.refl _ _)⟩
  case round =>
    obtain ⟨k, hk, rfl, HV, HK⟩ := hrel
    by_cases hlt : k < l.length
    · obtain ⟨g, cap, hv⟩ := own_form HO.out (by omega)
      cases hv
      have ho := HK.out.own HO.out (by simp)
      have hc := ho.cellAt (k * 2) (by omega)
      have hc1 := ho.cellAt (k * 2 + 1) (by omega)
      rw [(pcells_get l k hlt).1] at hc
      rw [(pcells_get l k hlt).2] at hc1
      have HT := Lib.hid (List.take_succ_eq_append_getElem hlt)
      obtain ⟨q, hq⟩ : ∃ q, q = l[k] := ⟨_, rfl⟩
      rw [← hq] at hc hc1 HT
      have hdl : (AL.del (l.take k) n).length ≤ l.length := by unfold AL.del; exact Nat.le_trans (List.length_filter_le _ _) (by rw [List.length_take]; omega)
      have HDL := Lib.hid hdl
      clear ho hq hdl
      by_cases he : q.1 = n
      · have heb : (q.1 != n) = false := by simpa using he
        have HE := Lib.hid he
        clear he
        go_wp2
        refine ⟨⟨k + 1, by omega, by go_num, Lib.hid (by rw [HT.out, del_snoc, if_pos HE.out, List.append_nil]; exact HV.out), HK⟩, by simp [intOf]; omega⟩
      · have heb : (q.1 != n) = true := by simpa using he
        have HE := Lib.hid he
        clear he
        go_wp2_with (first | fail | (at_builtin; go_must (refine wpList_append_own_at _ rfl _ _ 47 rfl w.heap.size 51 i0 (.agg #[.int .i64 0, .string ⟨#[]⟩]) 2 24 Try.underlying47 hi hz0 hz1 hz2 rfl (by omega) _ _ _ (by rfl) (HV.out.alloc _) ⟨wr.heap.size, 0, none⟩ 1 1 [iv q.1, pstr q.2] (by rfl) rfl (fun j u hu => news_lit wr #[iv q.1, pstr q.2] 51 j u hu) (by intro u hu; simp at hu; rcases hu with rfl | rfl <;> rfl) (by have := HDL.out; simp [maxLen]; omega) (by have := HDL.out; omega) (by have := HK.out.size; simp; omega) ?_); intro v' w2 ho2 hg2 _ hb2))
        have hkk : Keeps [] w w2 := (HK.out.alloc _).grown hg2 (fun g hg => .inr (own_base HV.out g hg))
        refine ⟨⟨k + 1, by omega, by go_num, Lib.hid ?_, Lib.hid hkk⟩, by simp [intOf]; omega⟩
        rw [HT.out, del_snoc, if_neg HE.out, List.length_append, pcells_append]
        exact ho2
    · obtain rfl : k = l.length := by omega
      go_wp2
      go_ret
      have := HV.out
      rw [List.take_length] at this
      exact ⟨_, rfl, this, HK.out⟩
set_option maxRecDepth 10000 in
set_option maxHeartbeats 1000000 in
theorem holds_any (lv : Value) (l : Pages) (rb : List UInt8) (base : Nat) (h : St w0 w F p d X D all done) (hm : Mine w F base 51 2 lv l.length (pcells l)) (hr : X.root = rb) (hl : ∀ q ∈ l, AL.get all q.1 = some q.2) (hlen : l.length ≤ 1000000) :
    Calls Try.prog 26 #[.pointer (some ⟨p, 0, none⟩), lv, pstr rb] w fun e w' => e = .returned (.bool true) ∧ St w0 w' F p d X D all done ∧ Grows F F w w' := by
  have H := Lib.hid h
  have HM := Lib.hid hm
  have HR := Lib.hid hr
  have HL := Lib.hid hl
  obtain ⟨A, c, rfl⟩ := own_slice hm.1
  clear h hm hr hl
  unfold pstr
  obtain ⟨SR, hSR⟩ : ∃ SR : ByteArray, SR = ⟨rb.toArray⟩ := ⟨_, rfl⟩
  rw [← hSR]
  have HSR := Lib.hid hSR
  clear hSR
  go_enter Try.func26, Try.ntmps26
  go_wp2_with fail
  refine (st_root H.out).mono ?_
  rintro e w1 ⟨v1, rfl, ho1, hk1⟩
  have hs1 := run_str (Rd.of_own ho1)
  rw [HR.out, ← HSR.out] at hs1
  have HG1 : Hid (Grows F F w w1) := Lib.hid (Grows.of_keeps hk1 (by simp))
  have HS1 := Lib.hid (H.out.same hk1)
  have HM1 := Lib.hid (HM.out.keeps hk1 (by simp))
  clear ho1 hk1
  go_wp2
  go_loopw [7] (fun i wr => ∃ k : Nat, k ≤ l.length ∧ i = .int .i64 k ∧ Hid (St w0 wr F p d X D all done) ∧ Hid (Mine wr F base 51 2 (.slice A l.length c) l.length (pcells l)) ∧ Hid (Grows F F w wr)) (fun i _ => l.length - (intOf i).toNat)
  case atStart => exact ⟨0, Nat.zero_le _, rfl, HS1, HM1, HG1⟩
  case round =>
    obtain ⟨k, hk, rfl, HSk, HMk, HGk⟩ := hrel
    by_cases hlt : k < l.length
    · obtain ⟨g, cap, hv⟩ := own_form HM.out.1 (by omega)
      cases hv
      have hc := HMk.out.1.cellAt (k * 2) (by omega)
      rw [(pcells_get l k hlt).1] at hc
      have hget := HL.out l[k] (List.getElem_mem hlt)
      have HC1 : Hid ((pcells l)[k * 2 + 1]? = some (pstr l[k].2)) := Lib.hid (pcells_get l k hlt).2
      obtain ⟨q, hq⟩ : ∃ q, q = l[k] := ⟨_, rfl⟩
      rw [← hq] at hc hget HC1
      have HGET := Lib.hid hget
      clear hq hget
      go_wp2_with fail
      refine (st_read q.1 HSk.out HGET.out).mono ?_
      rintro e w2 ⟨v2, rfl, hm2, hs2, hg2⟩
      have HRD := Lib.hid (Rd.of_own hm2.1)
      obtain ⟨SQ, hSQ⟩ : ∃ SQ : ByteArray, SQ = ⟨q.2.toArray⟩ := ⟨_, rfl⟩
      have hst : ∀ n, (convert 22 9 v2).run Try.prog (w2.drewN n) = .ok (.string SQ) (w2.drewN n) := fun n => by rw [hSQ]; exact str_same HRD.out ((Keeps.refl [] w2).drewN n)
      have HS2 := Lib.hid hs2
      have HM2 := Lib.hid (HMk.out.grows hg2)
      have hc1 := HM2.out.1.cellAt (k * 2 + 1) (by omega)
      rw [HC1.out] at hc1
      have hc1' : w2.cell? ⟨g, k * 2 + 1, none⟩ = some (.string SQ) := by rw [hc1, hSQ]; rfl
      have HG2 := Lib.hid (HGk.out.trans hg2)
      clear hm2 hs2 hg2 hSQ hc1 hc
      go_wp2_with fail
      go_quiet (fail)
      go_wp2
      have hkd : Keeps [] w2 (w2.drewN nq) := (Keeps.refl _ _).drewN _
      refine ⟨⟨k + 1, by omega, by go_num, Lib.hid (HS2.out.same hkd), Lib.hid (HM2.out.keeps hkd (by simp)), Lib.hid (HG2.out.trans (Grows.of_keeps hkd (by simp)))⟩, by simp [intOf]; omega⟩
    · obtain rfl : k = l.length := by omega
      go_wp2
      go_ret
      exact ⟨rfl, HSk.out, HGk.out⟩
end
end Go.Proofs.Ytebllnoeenginaa
