/- PagerCrashes: for every row of calls, every number and every row of numbers the law answers true, and its arguments read as they read. No condition. -/
import Derived.Test.YtebllnoeenginaaArg
import Derived.Test.YtebllnoeenginaaLCrash
import Derived.Deep.Slices
namespace Go.Proofs.Ytebllnoeenginaa
open Go.ChangeShapes Go.WideShapes Go.ChangeAt Go.RowKit

theorem Try.cells49 : Try.prog.cellsOf 49 = 3 := by kernel_rfl
theorem Try.cells3 : Try.prog.cellsOf 3 = 1 := by kernel_rfl
theorem Try.cells22 : Try.prog.cellsOf 22 = 1 := by kernel_rfl
set_option maxRecDepth 100000 in
theorem open_calls {H : Type} {enc : TypeId × Value → H} {W : World} {fuel : Nat} {A : Option Addr} {len cap : Nat} {x : DataW H × List MemPlace} (h : DataW.trod enc Try.prog W 0 (fun _ => true) true fuel 46 [.slice A len cap] = some x) :
    ∃ cs : List CallD, cs.length = len ∧ CallsAt W A cs ∧ len ≤ cap ∧ cap ≤ maxLen := by
  rcases DataW.trod_slice Try.underlying46 h with ⟨h0, -⟩ | ⟨a, l, c, elems, rest, n, _, hcs, -, -, hl, hm, hlen, hel, -⟩
  · simp at h0
    obtain ⟨rfl, rfl, rfl⟩ := h0
    exact ⟨[], rfl, ⟨fun i hi => by simp at hi⟩, Nat.le_refl _, by simp [maxLen]⟩
  · simp at hcs
    obtain ⟨rfl, rfl, rfl⟩ := hcs
    have each : ∀ i, i < len → ∃ q : CallD, ∃ b o bv, a = ⟨b, o, none⟩ ∧ W.cell? ⟨b, o + i * 3, none⟩ = some (iv q.1) ∧ W.cell? ⟨b, o + i * 3 + 1, none⟩ = some (iv q.2.1) ∧ W.cell? ⟨b, o + i * 3 + 2, none⟩ = some bv ∧ Rd W bv (q.2.2.map byt) := by
      have one : ∀ i, i < len → ∃ v0 v1 v2 : Value, ∃ n0 n1 n2 : Nat, ∃ y0 y1 y2 : DataW H × List MemPlace, W.cell? (a.add (i * 3)) = some v0 ∧ W.cell? ((a.add (i * 3)).add 1) = some v1 ∧ W.cell? ((a.add (i * 3)).add 2) = some v2 ∧
          DataW.trod enc Try.prog W 0 (fun _ => true) true n0 3 [v0] = some y0 ∧ DataW.trod enc Try.prog W 0 (fun _ => true) true n1 3 [v1] = some y1 ∧ DataW.trod enc Try.prog W 0 (fun _ => true) true n2 22 [v2] = some y2 := by
        intro i hi
        have h1 := hel i hi
        rw [List.getElem?_eq_getElem (by omega), Option.bind_eq_some_iff] at h1
        obtain ⟨cs', h1, h2⟩ := h1
        rw [Try.cells49] at h1
        obtain ⟨_, hlen', hcell⟩ := World.cells?_some h1
        obtain ⟨xs, k, hk, hxy, _, hxl, hf⟩ := DataW.trod_struct Try.underlying49 h2
        match xs, hxl, cs', hlen' with
        | [y0, y1, y2], _, [v0, v1, v2], _ =>
          have g0 := hf 0 _ rfl
          have g1 := hf 1 _ rfl
          have g2 := hf 2 _ rfl
          have e0 := hcell 0 (by omega)
          have e1 := hcell 1 (by omega)
          have e2 := hcell 2 (by omega)
          simp only [List.getElem_toArray, List.getElem_cons_zero, List.getElem_cons_succ, Try.cells3, Try.cells22, List.drop_zero, List.drop_succ_cons, List.take_succ_cons, List.take_zero, List.getElem?_cons_zero, List.getElem?_cons_succ] at g0 g1 g2 e0 e1 e2
          exact ⟨v0, v1, v2, k, k, k, y0, y1, y2, by simpa [Addr.add] using e0, e1, e2, g0, g1, g2⟩
      intro i hi
      obtain ⟨v0, v1, v2, n0, n1, n2, y0, y1, y2, c0, c1, c2, t0, t1, t2⟩ := one i hi
      have hsp : a.spot = none := by
        obtain ⟨u0, _, _, _, _, _, _, _, _, d0, _⟩ := one 0 (by omega)
        have := World.cell?_spot d0
        simpa [Addr.add] using this
      obtain ⟨b, o, sp⟩ := a
      simp only at hsp
      subst hsp
      rw [add_lit0] at c0 c1 c2
      rw [add_lit0] at c1 c2
      obtain ⟨bs, hbs⟩ := open_bytes t2
      obtain ⟨z0, hz0, -⟩ := DataW.trod_int Try.underlying3 t0
      obtain ⟨z1, hz1, -⟩ := DataW.trod_int Try.underlying3 t1
      obtain rfl : v0 = iv z0 := by simpa using hz0
      obtain rfl : v1 = iv z1 := by simpa using hz1
      exact ⟨(z0, z1, bs), b, o, v2, rfl, c0, c1, c2, hbs⟩
    obtain ⟨q, hq⟩ := Deep.choose_lt each
    refine ⟨(List.range len).map q, by simp, ⟨fun i hi => ?_⟩, hl, hm⟩
    have hi' : i < len := by simpa using hi
    obtain ⟨b, o, bv, ha, h1, h2, h3, h4⟩ := hq i hi'
    simp only [List.getElem_map, List.getElem_range]
    exact ⟨b, o, bv, by rw [ha], h1, h2, h3, h4⟩
/-- A row of whole numbers that came in. -/
theorem open_row {H : Type} {enc : TypeId × Value → H} {W : World} {fuel : Nat} {A : Option Addr} {len cap : Nat} {x : DataW H × List MemPlace} (h : DataW.trod enc Try.prog W 0 (fun _ => true) true fuel 43 [.slice A len cap] = some x) :
    ∃ zs : List Int, zs.length = len ∧ Rd W (.slice A zs.length cap) (zs.map iv) := by
  rcases open_ints Try.underlying43 Try.underlying3 Try.cells3 h with ⟨hcs, -⟩ | ⟨a, l, c, zs, hcs, -, hl, hm, hz, -, hcell, -⟩
  · simp at hcs
    obtain ⟨rfl, rfl, rfl⟩ := hcs
    exact ⟨[], rfl, Rd.nil W⟩
  · simp at hcs
    obtain ⟨rfl, rfl, rfl⟩ := hcs
    have hz' : zs.length = cap := by simpa using hz
    have hn : (zs.take len).length = len := by rw [List.length_take]; omega
    refine ⟨zs.take len, hn, ⟨some a, cap, by rw [List.length_map], by rw [List.length_map, hn]; exact hl, hm, (by intro h; cases h), ?_⟩⟩
    rintro ad ⟨⟩
    have hcell' : ∀ j, j < len → ∃ u, W.cell? (a.add j) = some u := fun j hj => ⟨_, hcell j (by omega)⟩
    have hne : (zs.take len).map iv ≠ [] → 0 < len := by
      intro h
      rcases Nat.eq_zero_or_pos len with h0 | h0
      · subst h0; simp at h
      · exact h0
    refine ⟨fun h => ?_, fun h => ?_, fun j u hu => ?_⟩
    · obtain ⟨u, hu⟩ := hcell' 0 (hne h)
      have := World.cell?_spot hu
      simpa [Addr.add] using this
    · obtain ⟨u, hu⟩ := hcell' 0 (hne h)
      have := cell_lt hu
      rwa [block_of_add] at this
    · rw [List.getElem?_map] at hu
      cases hz2 : (zs.take len)[j]? with
      | none => rw [hz2] at hu; cases hu
      | some n =>
        rw [hz2] at hu
        simp only [Option.map_some, Option.some.injEq] at hu
        subst hu
        rw [List.getElem?_take] at hz2
        split at hz2
        · have hj : j < zs.length := (List.getElem?_eq_some_iff.1 hz2).1
          have hn2 : zs.getD j 0 = n := by rw [List.getD_eq_getElem?_getD, hz2]; rfl
          rw [hcell j hj, hn2]
        · cases hz2
end Go.Proofs.Ytebllnoeenginaa
namespace Go.Proofs.Ytebllnoeenginaa.pagerCrashes
open Go.ChangeShapes Go.WideShapes Go.ChangeAt Go.RowKit

theorem own : ownKnob Try.prog.godebug = none := by kernel_rfl

set_option maxRecDepth 100000 in
theorem lifted (os : Os) (started : os.Started) (H : Type) (enc : TypeId × Value → H) :
    ReturnsInHanded {} Try.checked os 6 .any (Rows.pagerCrashesSpec.pre6 enc Try.prog Try.f6 Rows.pagerCrashesRow.domain false) (Rows.pagerCrashesSpec.post enc Try.prog Try.f6 false true false false) := by
  refine returnsInHanded_of_change (C := Try.checked) own started (by kernel_rfl) Try.func6
    (ChangeSpec.witness6 (enc := enc) (C := Try.checked) false ⟨#[], #[.slice none 0 0, .int .i64 0, .slice none 0 0], []⟩ 8 (by kernel_rfl) (by kernel_rfl) (by kernel_rfl) (by kernel_rfl)) ?_
  intro W base args ds gs before hval0 hW hcnd _
  have hval : ∀ (j : Nat) t v, Try.f6.params[j]? = some t → args[j]? = some v → Value.okWide Try.prog W .any base t v := hval0
  have hW' := hW
  obtain ⟨p, q, hA0, hV, rfl, hfz, hnd⟩ := hW
  have hA : DataW.TrodAll enc Try.prog W 0 (fun _ => true) true Try.f6.params.toList args.toList ds p := hA0
  rw [Try.params6] at hA hval
  obtain ⟨v0, vs0, d0, ds0, p0, q0, hargs, rfl, rfl, h0, r0⟩ := trodAll_cons hA
  obtain ⟨v1, vs1, d1, ds1, p1, q1, rfl, rfl, rfl, h1, r1⟩ := trodAll_cons r0
  obtain ⟨v2, vs2, d2, ds2, p2, q2, rfl, rfl, rfl, h2, r2⟩ := trodAll_cons r1
  obtain ⟨rfl, rfl, rfl⟩ := trodAll_nil r2
  obtain rfl : args = #[v0, v1, v2] := by cases args; simp_all
  obtain ⟨rfl, rfl⟩ := trodVars_none hV
  have k0 := h0
  have lt0 : ∀ x ∈ p0, x.block < W.heap.size := by obtain ⟨m, hm⟩ := k0; exact DataW.trod_lt m _ _ _ hm
  have k2 := h2
  have lt2 : ∀ x ∈ p2, x.block < W.heap.size := by obtain ⟨m, hm⟩ := k2; exact DataW.trod_lt m _ _ _ hm
  obtain ⟨A0, len0, cap0, rfl⟩ := okWide_slice Try.underlying46 (hval 0 46 v0 rfl rfl)
  obtain ⟨cs, rfl, hcs, hcc, hcm⟩ : ∃ cs : List CallD, cs.length = len0 ∧ CallsAt W A0 cs ∧ len0 ≤ cap0 ∧ cap0 ≤ maxLen := by obtain ⟨m, hm⟩ := h0; exact open_calls hm
  obtain ⟨a1, rfl, rfl, rfl, w1⟩ := open_int Try.underlying3 (hval 1 3 v1 rfl rfl) h1
  obtain ⟨A2, len2, cap2, rfl⟩ := okWide_slice Try.underlying43 (hval 2 43 v2 rfl rfl)
  obtain ⟨zs, rfl, hr⟩ : ∃ zs : List Int, zs.length = len2 ∧ Rd W (.slice A2 zs.length cap2) (zs.map iv) := by obtain ⟨m, hm⟩ := h2; exact open_row hm
  clear hA0 hval0
  refine (crashes_any A0 A2 cap0 cap2 cs zs a1 W hcs hcc hcm hr).mono fun e W' ⟨he, hk⟩ => ?_
  have bel := hk.toBelow
  subst he
  exact ⟨_, rfl, _, _, _, [], _, [], hW', trodAll_mk1 (shut_bool Try.underlying4 _), (trodAll_cons_mk (Below.trod laidOut (by kernel_rfl) (of_decide_eq_true (by kernel_rfl)) k0 bel lt0) (trodAll_cons_mk (shut_int Try.underlying3 w1) (trodAll_cons_mk (Below.trod laidOut (by kernel_rfl) (of_decide_eq_true (by kernel_rfl)) k2 bel lt2) trodAll_mk0))), rfl, bel.frame _, fun h => by cases h⟩

theorem over : Rows.pagerCrashesRow.holds Try.pinned (OpenSpec.ofChange Rows.pagerCrashesSpec) :=
  OpenClaim.holds_of_wide 6 Try.f6 rfl rfl rfl rfl rfl rfl rfl ⟨rfl, rfl, rfl, rfl, rfl⟩ rfl rfl rfl rfl rfl (by kernel_rfl) Try.func6 (by kernel_rfl)
    (of_decide_eq_true (by kernel_rfl)) (by unfold Func.isWrapper; first | (rw [if_pos (by decide +kernel)]; kernel_rfl) | (rw [if_neg (by decide +kernel)]; exact ⟨rfl, rfl⟩))
    (fun os started H enc _ => lifted os started H enc)

theorem proved : Rows.PagerCrashesSaid := over
#print axioms proved
end Go.Proofs.Ytebllnoeenginaa.pagerCrashes
