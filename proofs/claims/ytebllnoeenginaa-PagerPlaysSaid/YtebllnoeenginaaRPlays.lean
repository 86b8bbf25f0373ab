/- PagerPlays: for every number and every row of calls the law answers true, and its arguments read as they read. No condition. -/
import Derived.Test.YtebllnoeenginaaRCrash
import Derived.Test.YtebllnoeenginaaLPlays
namespace Go.Proofs.Ytebllnoeenginaa
open Go.ChangeShapes Go.WideShapes Go.ChangeAt Go.RowKit

theorem weightsAll_mem {H : Type} {P : Program} {e : TypeId} {d : DataW H} : ∀ {l : List (DataW H)}, d ∈ l → ∀ {m : Nat}, m ∈ d.weights P e → m ∈ DataW.weightsAll P e l
  | x :: l, h, m, hm => by
    simp only [DataW.weightsAll, List.mem_append]
    rcases List.mem_cons.1 h with rfl | h
    · exact .inl hm
    · exact .inr (weightsAll_mem h hm)
theorem weights_row {H : Type} {P : Program} {t e : TypeId} {es rs : List (DataW H)} {pl : List MemPlace} (ht : P.underlying t = some (.slice e)) {d : DataW H} (hd : d ∈ es) {m : Nat} (hm : m ∈ d.weights P e) : m ∈ (DataW.slice es rs, pl).1.weights P t := by
  simp only [DataW.weights, ht]
  exact List.mem_cons_of_mem _ (List.mem_append_left _ (weightsAll_mem hd hm))
theorem weights_third {H : Type} {P : Program} {t : TypeId} {f0 f1 f2 : Field} {y0 y1 y2 : DataW H × List MemPlace} {pl : List MemPlace} (ht : P.underlying t = some (.struct #[f0, f1, f2])) {m : Nat} (hm : m ∈ y2.1.weights P f2.type) : m ∈ (DataW.agg ([y0, y1, y2].map (·.1)), pl).1.weights P t := by
  simp only [DataW.weights, ht, List.map_cons, List.map_nil, DataW.weightsEach, List.mem_append]
  exact .inr (.inr (.inl hm))
theorem bytes_small {H : Type} {enc : TypeId × Value → H} {W : World} {fuel : Nat} {v : Value} {y : DataW H × List MemPlace} {bs : List UInt8} (h : DataW.trod enc Try.prog W 0 (fun _ => true) true fuel 22 [v] = some y) (hw : ∀ m ∈ y.1.weights Try.prog 22, m ≤ reachBytes) (hr : Rd W v (bs.map byt)) : bs.length ≤ 140737488355327 := by
  obtain ⟨A, c, rfl, -⟩ := hr
  rcases DataW.trod_slice Try.underlying22 h with ⟨h0, -⟩ | ⟨a, l, c', elems, rest, n, _, hcs, hx, -, -, -, hel, -, -⟩
  · simp at h0; obtain ⟨-, rfl, -⟩ := h0; simp
  · simp at hcs
    have := hw ((elems.length + rest.length) * Try.prog.bytesOf 5) (by rw [hx]; simp [DataW.weights, Try.underlying22])
    rw [Try.bytes5] at this
    have h2 : reachBytes = 0x7ffffffff000 := rfl
    omega
set_option maxRecDepth 100000 in
theorem open_calls_small {H : Type} {enc : TypeId × Value → H} {W : World} {fuel : Nat} {A : Option Addr} {len cap : Nat} {x : DataW H × List MemPlace} (h : DataW.trod enc Try.prog W 0 (fun _ => true) true fuel 46 [.slice A len cap] = some x) (hw : ∀ m ∈ x.1.weights Try.prog 46, m ≤ reachBytes) :
    ∃ cs : List CallD, cs.length = len ∧ CallsAt W A cs ∧ len ≤ cap ∧ cap ≤ maxLen ∧ ∀ i (h : i < cs.length), cs[i].2.2.length ≤ 140737488355327 := by
  rcases DataW.trod_slice Try.underlying46 h with ⟨h0, -⟩ | ⟨a, l, c, elems, rest, n, _, hcs, hx, -, hl, hm, hlen, hel, -⟩
  · simp at h0
    obtain ⟨rfl, rfl, rfl⟩ := h0
    exact ⟨[], rfl, ⟨fun i hi => by simp at hi⟩, Nat.le_refl _, by simp [maxLen], fun i hi => by simp at hi⟩
  · simp at hcs
    obtain ⟨rfl, rfl, rfl⟩ := hcs
    have each : ∀ i, i < len → ∃ q : CallD, ∃ b o bv, a = ⟨b, o, none⟩ ∧ W.cell? ⟨b, o + i * 3, none⟩ = some (iv q.1) ∧ W.cell? ⟨b, o + i * 3 + 1, none⟩ = some (iv q.2.1) ∧ W.cell? ⟨b, o + i * 3 + 2, none⟩ = some bv ∧ Rd W bv (q.2.2.map byt) ∧ q.2.2.length ≤ 140737488355327 := by
      have one : ∀ i, i < len → ∃ v0 v1 v2 : Value, ∃ n0 n1 n2 : Nat, ∃ y0 y1 y2 : DataW H × List MemPlace, W.cell? (a.add (i * 3)) = some v0 ∧ W.cell? ((a.add (i * 3)).add 1) = some v1 ∧ W.cell? ((a.add (i * 3)).add 2) = some v2 ∧
          DataW.trod enc Try.prog W 0 (fun _ => true) true n0 3 [v0] = some y0 ∧ DataW.trod enc Try.prog W 0 (fun _ => true) true n1 3 [v1] = some y1 ∧ DataW.trod enc Try.prog W 0 (fun _ => true) true n2 22 [v2] = some y2 ∧ ∀ m ∈ y2.1.weights Try.prog 22, m ≤ reachBytes := by
        intro i hi
        have h1 := hel i hi
        rw [List.getElem?_eq_getElem (by omega), Option.bind_eq_some_iff] at h1
        obtain ⟨cs', h1, h2⟩ := h1
        rw [Try.cells49] at h1
        obtain ⟨_, hlen', hcell⟩ := World.cells?_some h1
        obtain ⟨xs, k, hk, hxy, _, hxl, hf⟩ := DataW.trod_struct Try.underlying49 h2
        match xs, hxl, cs', hlen' with
        | [y0, y1, y2], _, [v0, v1, v2], _ =>
          have g0 := hf 0 _ rfl
          have g1 := hf 1 _ rfl
          have g2 := hf 2 _ rfl
          have e0 := hcell 0 (by omega)
          have e1 := hcell 1 (by omega)
          have e2 := hcell 2 (by omega)
          simp only [List.getElem_toArray, List.getElem_cons_zero, List.getElem_cons_succ, Try.cells3, Try.cells22, List.drop_zero, List.drop_succ_cons, List.take_succ_cons, List.take_zero, List.getElem?_cons_zero, List.getElem?_cons_succ] at g0 g1 g2 e0 e1 e2
          refine ⟨v0, v1, v2, k, k, k, y0, y1, y2, by simpa [Addr.add] using e0, e1, e2, g0, g1, g2, fun m hm => hw m ?_⟩
          rw [hx]
          refine weights_row Try.underlying46 (d := elems[i].1) ?_ ?_
          · rw [List.mem_map]; exact ⟨elems[i], List.getElem_mem _, rfl⟩
          · rw [hxy]
            exact weights_third Try.underlying49 hm
      intro i hi
      obtain ⟨v0, v1, v2, n0, n1, n2, y0, y1, y2, c0, c1, c2, t0, t1, t2, ws⟩ := one i hi
      have hsp : a.spot = none := by
        obtain ⟨u0, _, _, _, _, _, _, _, _, d0, _⟩ := one 0 (by omega)
        have := World.cell?_spot d0
        simpa [Addr.add] using this
      obtain ⟨b, o, sp⟩ := a
      simp only at hsp
      subst hsp
      rw [add_lit0] at c0 c1 c2
      rw [add_lit0] at c1 c2
      obtain ⟨bs, hbs⟩ := open_bytes t2
      obtain ⟨z0, hz0, -⟩ := DataW.trod_int Try.underlying3 t0
      obtain ⟨z1, hz1, -⟩ := DataW.trod_int Try.underlying3 t1
      obtain rfl : v0 = iv z0 := by simpa using hz0
      obtain rfl : v1 = iv z1 := by simpa using hz1
      exact ⟨(z0, z1, bs), b, o, v2, rfl, c0, c1, c2, hbs, bytes_small t2 ws hbs⟩
    obtain ⟨q, hq⟩ := Deep.choose_lt each
    refine ⟨(List.range len).map q, by simp, ⟨fun i hi => ?_⟩, hl, hm, fun i hi => ?_⟩
    · have hi' : i < len := by simpa using hi
      obtain ⟨b, o, bv, ha, h1, h2, h3, h4, -⟩ := hq i hi'
      simp only [List.getElem_map, List.getElem_range]
      exact ⟨b, o, bv, by rw [ha], h1, h2, h3, h4⟩
    · have hi' : i < len := by simpa using hi
      obtain ⟨b, o, bv, ha, h1, h2, h3, h4, h5⟩ := hq i hi'
      simp only [List.getElem_map, List.getElem_range]
      exact h5
end Go.Proofs.Ytebllnoeenginaa
namespace Go.Proofs.Ytebllnoeenginaa.pagerPlays
open Go.ChangeShapes Go.WideShapes Go.ChangeAt Go.RowKit

theorem own : ownKnob Try.prog.godebug = none := by kernel_rfl

set_option maxRecDepth 100000 in
theorem lifted (os : Os) (started : os.Started) (H : Type) (enc : TypeId × Value → H) :
    ReturnsInHanded {} Try.checked os 7 .any (Rows.pagerPlaysSpec.pre6 enc Try.prog Try.f7 Rows.pagerPlaysRow.domain false) (Rows.pagerPlaysSpec.post enc Try.prog Try.f7 false true false false) := by
  refine returnsInHanded_of_change_sized (C := Try.checked) own started (by kernel_rfl) Try.func7
    (ChangeSpec.witness6 (enc := enc) (C := Try.checked) false ⟨#[], #[.int .i64 0, .slice none 0 0], []⟩ 8 (by kernel_rfl) (by kernel_rfl) (by kernel_rfl) (by kernel_rfl)) ?_
  intro W base args ds gs before hval0 hW hcnd hwt _
  have hval : ∀ (j : Nat) t v, Try.f7.params[j]? = some t → args[j]? = some v → Value.okWide Try.prog W .any base t v := hval0
  have hW' := hW
  obtain ⟨p, q, hA0, hV, rfl, hfz, hnd⟩ := hW
  have hA : DataW.TrodAll enc Try.prog W 0 (fun _ => true) true Try.f7.params.toList args.toList ds p := hA0
  have hwt' : (DataW.weightsEach Try.prog (Try.f7.params.toList ++ Rows.pagerPlaysSpec.plain.varTypes Try.prog) (ds ++ gs)).all (· ≤ reachBytes) = true := hwt
  rw [Try.params7] at hA hval hwt'
  obtain ⟨v0, vs0, d0, ds0, p0, q0, hargs, rfl, rfl, h0, r0⟩ := trodAll_cons hA
  obtain ⟨v1, vs1, d1, ds1, p1, q1, rfl, rfl, rfl, h1, r1⟩ := trodAll_cons r0
  obtain ⟨rfl, rfl, rfl⟩ := trodAll_nil r1
  obtain rfl : args = #[v0, v1] := by cases args; simp_all
  obtain ⟨rfl, rfl⟩ := trodVars_none hV
  have hw1 : ∀ m ∈ d1.weights Try.prog 46, m ≤ reachBytes := fun m hm => by
    have := List.all_eq_true.1 hwt' m (DataW.weights_mem_each (j := 1) (t := 46) (d := d1) rfl rfl m hm)
    simpa using this
  have k1 := h1
  have lt1 : ∀ x ∈ p1, x.block < W.heap.size := by obtain ⟨m, hm⟩ := k1; exact DataW.trod_lt m _ _ _ hm
  obtain ⟨a0, rfl, rfl, rfl, w0⟩ := open_int Try.underlying3 (hval 0 3 v0 rfl rfl) h0
  obtain ⟨A1, len1, cap1, rfl⟩ := okWide_slice Try.underlying46 (hval 1 46 v1 rfl rfl)
  obtain ⟨cs, rfl, hcs, hcc, hcm, hcz⟩ : ∃ cs : List CallD, cs.length = len1 ∧ CallsAt W A1 cs ∧ len1 ≤ cap1 ∧ cap1 ≤ maxLen ∧ ∀ i (h : i < cs.length), cs[i].2.2.length ≤ 140737488355327 := by obtain ⟨m, hm⟩ := h1; exact open_calls_small hm hw1
  clear hA0 hval0
  refine (plays_any A1 cap1 cs a0 W hcs hcc hcm hcz).mono fun e W' ⟨he, hk⟩ => ?_
  have bel := hk.toBelow
  subst he
  exact ⟨_, rfl, _, _, _, [], _, [], hW', trodAll_mk1 (shut_bool Try.underlying4 _), (trodAll_cons_mk (shut_int Try.underlying3 w0) (trodAll_cons_mk (Below.trod laidOut (by kernel_rfl) (of_decide_eq_true (by kernel_rfl)) k1 bel lt1) trodAll_mk0)), rfl, bel.frame _, fun h => by cases h⟩

theorem over : Rows.pagerPlaysRow.holds Try.pinned (OpenSpec.ofChange Rows.pagerPlaysSpec) :=
  OpenClaim.holds_of_wide 7 Try.f7 rfl rfl rfl rfl rfl rfl rfl ⟨rfl, rfl, rfl, rfl, rfl⟩ rfl rfl rfl rfl rfl (by kernel_rfl) Try.func7 (by kernel_rfl)
    (of_decide_eq_true (by kernel_rfl)) (by unfold Func.isWrapper; first | (rw [if_pos (by decide +kernel)]; kernel_rfl) | (rw [if_neg (by decide +kernel)]; exact ⟨rfl, rfl⟩))
    (fun os started H enc _ => lifted os started H enc)

theorem proved : Rows.PagerPlaysSaid := over
#print axioms proved
end Go.Proofs.Ytebllnoeenginaa.pagerPlays
