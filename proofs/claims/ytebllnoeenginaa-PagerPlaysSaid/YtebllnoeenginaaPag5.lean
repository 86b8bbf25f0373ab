/- The pager's own write: a block, padded with noughts. -/
import Derived.Test.YtebllnoeenginaaPag4
import Derived.Test.YtebllnoeenginaaZer
namespace Go.Proofs.Ytebllnoeenginaa
open Go.RowKit

theorem own_ne_blk {w : World} {base : Nat} {e : TypeId} {size : Nat} {v : Value} {n : Nat} {xs : List Value} (h : w.ownsRow base e size v n xs) {g : Nat} {t : TypeId} {cs : Array Value} (hb : Blk w g t cs) (hne : e ≠ t) : ∀ q, v.ownBlock = some q → q ≠ g := by
  intro q hq
  rcases h.2 with ⟨rfl, _⟩ | ⟨q', cap, cur, rfl, _, hh, _⟩
  · cases hq
  · cases hq
    exact Blk.ne_ (t := e) hh hb hne
theorem own_ne_map {w : World} {base : Nat} {e : TypeId} {size : Nat} {v : Value} {n : Nat} {xs : List Value} (h : w.ownsRow base e size v n xs) {g : Nat} {es : Array MapEntry} {ck : Nat} (hb : w.heap[g]? = some (.map es ck)) : ∀ q, v.ownBlock = some q → q ≠ g := by
  intro q hq
  rcases h.2 with ⟨rfl, _⟩ | ⟨q', cap, cur, rfl, _, hh, _⟩
  · cases hq
  · cases hq
    exact Blk.ne_map (t := e) hh hb
theorem own_lt {w : World} {base : Nat} {e : TypeId} {size : Nat} {v : Value} {n : Nat} {xs : List Value} (h : w.ownsRow base e size v n xs) : ∀ q, v.ownBlock = some q → q < w.heap.size := fun q hq => (h.lt q hq).2

/-- append of noughts up to 512 bytes, none among them. -/
theorem run_pad (w : World) (base : Nat) (ty : TypeId) {v : Value} {bs : List UInt8} (hown : w.ownsRow base 5 1 v bs.length (bs.map byt)) (hl : bs.length ≤ 512) (hbase : base ≤ w.heap.size) :
    ∃ v' w', (Builtin.append_ #[22, 3] ty #[v, .int .i64 (512 - (bs.length : Int))]).run Try.prog w = .ok v' w' ∧ w'.ownsRow base 5 1 v' 512 ((padded bs).map byt) ∧ w.grownBy w' v.ownBlock ∧ (v'.ownBlock = v.ownBlock ∨ v'.ownBlock = some w.heap.size) := by
  obtain ⟨i0, hi, hz0, hz1, hz2⟩ := info_parts Try.infoU8
  by_cases h5 : bs.length = 512
  · have e : padded bs = bs := by unfold padded; rw [h5]; simp
    rw [e, h5]
    rw [h5] at hown
    refine ⟨v, w, ?_, hown, ⟨rfl, rfl, rfl, Nat.le_refl _, fun _ _ _ => rfl⟩, .inl rfl⟩
    have hw0 : IntKind.i64.wrap 0 = 0 := by decide
    rcases hown.2 with ⟨rfl, h⟩ | ⟨g, cap, cur, rfl, hbg, hg, hnc, -⟩
    · omega
    · simp [Builtin.append_, run_underlying Try.underlying22, run_underlying Try.underlying3, sizeOf, typeInfo, hi, asInt, asIntOf, hw0, hnc, storeCells]
  · have hm : ((512 - bs.length : Nat) : Int) = 512 - (bs.length : Int) := by omega
    obtain ⟨v', w', hr, ho, hg, hb⟩ := run_append_zeros (P := Try.prog) w base 22 3 ty 5 i0 (.int .u8 0) 1 Try.underlying22 Try.underlying3 hi hz0 hz1 hz2 rfl rfl hown (512 - bs.length) (by omega) (by unfold maxLen; omega) (by omega) (by omega) hbase
    rw [hm] at hr
    refine ⟨v', w', hr, ?_, hg, hb⟩
    rw [show bs.length + (512 - bs.length) = 512 from by omega] at ho
    unfold padded
    rw [List.map_append, List.map_replicate]
    exact ho

section
variable {w w' : World} {I I' : Nat → Prop} {p m : Nat} {c : PC} {D : Disk} {S : List Nat}
set_option maxRecDepth 100000 in
set_option maxHeartbeats 2000000 in
theorem pwrite_any (n : Int) (v : Value) (bs : List UInt8) (base : Nat) (hb : Blk w p 78 c.cells) (h : DiskAt w I c.d m D) (hp : ¬ I p) (ho : w.ownsRow base 5 1 v bs.length (bs.map byt)) (hvI : ∀ g, v.ownBlock = some g → ¬ I g) (hbase : base ≤ w.heap.size) (hl : bs.length ≤ 512) :
    Calls Try.prog 46 #[.pointer (some ⟨p, 0, none⟩), .int .i64 n, v] w fun e w' => e = .returned (.int .i64 (D.write n (padded bs)).1) ∧
      ∃ I', DiskAt w' I' c.d m (D.write n (padded bs)).2 ∧ Blk w' p 78 { c with does := wrap64 (c.does + 1) }.cells ∧ Keeps ([p, c.d, m] ++ v.ownBlock.toList) w w' ∧ (∀ k, I k → I' k) ∧ ∀ k, I' k → I k ∨ w.heap.size ≤ k := by
  have h1 := pc0 hb
  have hadd := run_call_add (P := Try.prog) Try.func49 (by kernel_rfl) (by kernel_rfl) (by kernel_rfl) .i64 (by kernel_rfl) (y := 1) (s := wrap64 (c.does + 1)) (pc12 hb) (hb.frozen 12) (by simp [go_sem, IntKind.wrap_i64, wrap64])
  have hk : Keeps [p] w (w.setCell ⟨p, 12, none⟩ (.int .i64 (wrap64 (c.does + 1)))) := (Keeps.refl _ _).setCell (.inl (by simp)) _
  have hpd : ¬ p = c.d := hb.ne_ h.blk (by decide)
  have hpm : ¬ p = m := h.mem.ne_blk hb
  have hvp := own_ne_blk ho hb (by decide)
  have hvd := own_ne_blk ho h.blk (by decide)
  have hvl := own_lt ho
  have hvm : ∀ q, v.ownBlock = some q → q ≠ m := by obtain ⟨vs, es, ck, hm, -⟩ := h.mem.inner; exact own_ne_map ho hm.heap
  have hD1 := h.keeps hk (by simp; omega) (by simp; omega) (by intro g hg; simp at hg; subst hg; exact hp)
  have hB1 : Blk (w.setCell ⟨p, 12, none⟩ (.int .i64 (wrap64 (c.does + 1)))) p 78 { c with does := wrap64 (c.does + 1) }.cells := hb.set_ 12 _
  have ho1 := hk.own ho (by intro g hg; simpa using hvp g hg)
  obtain ⟨v', w2, hz, ho2, hg2, hb2⟩ := run_pad (w.setCell ⟨p, 12, none⟩ (.int .i64 (wrap64 (c.does + 1)))).drew base 22 ho1 hl (by simpa using hbase)
  have hk2 : Keeps v.ownBlock.toList (w.setCell ⟨p, 12, none⟩ (.int .i64 (wrap64 (c.does + 1)))) w2 := Keeps.of_drew (Keeps.of_grown hg2 (by intro g hg; rw [hg]; simp))
  have hnS : ∀ g, g ∈ v.ownBlock.toList → v.ownBlock = some g := by intro g hg; cases hv : v.ownBlock with
    | none => rw [hv] at hg; simp at hg
    | some x => rw [hv] at hg; simp at hg; rw [hg]
  have hD2 := hD1.keeps hk2 (fun hm => hvd _ (hnS _ hm) rfl) (fun hm => hvm _ (hnS _ hm) rfl) (fun g hg => hvI g (hnS g hg))
  have hB2 := hB1.keeps hk2 (fun hm => hvp _ (hnS _ hm) rfl)
  have h1' := pc0 hB1
  have h2' := pc0 hB2
  have HD := Lib.hid hD2
  have HB := Lib.hid hB2
  have HR := Lib.hid (Rd.of_own ho2)
  have HK : Hid (Keeps ([p, c.d, m] ++ v.ownBlock.toList) w w2) := Lib.hid ((hk.mono (by simp)).trans (hk2.mono (by intro k hk; simp at hk ⊢; exact Or.inr (Or.inr (Or.inr hk)))))
  have hlen : ∀ W, (Builtin.len_ #[22] 3 #[v]).run Try.prog W = .ok (.int .i64 bs.length) W := by
    intro W
    obtain ⟨A, n, hv, -⟩ := (Rd.of_own ho).form
    rw [hv, List.length_map]
    simp [Builtin.len_, run_underlying Try.underlying22, goInt]
  have hwr : IntKind.i64.wrap (512 - (bs.length : Int)) = 512 - (bs.length : Int) := by rw [IntKind.wrap_i64]; omega
  clear hb h hk hD1 hB1 ho1 ho2 hg2 hb2 hk2 hD2 hB2 hvp hvd hvm hvl hnS ho hvI
  go_enter Try.func46, Try.ntmps46
  go_wp2_with (first | (go_at_call 40; go_in))
  go_region_held3 (fun w' => w'.cell? ⟨p, 0, none⟩ = some (.pointer (some ⟨c.d, 0, none⟩))) (go_keep) (first | (refine step_append (by rfl) _ _ _ _ (by rfl) (by rfl) (by rfl) hz ?_) | (go_at_call 20; refine (write_any _ n _ (padded bs) HD.out HR.out).mono ?_; rintro e w' ⟨rfl, I', hD', hK', hi1, hi2⟩; have hpc := (hK'.cell (p := ⟨p, 0, none⟩) HB.out.lt (by simp; omega)).trans h2'))
  go_wp2
  go_ret
  have hz2 := HK.out.size
  exact ⟨rfl, I', hD', HB.out.keeps hK' (by simp; omega), HK.out.trans (hK'.mono (by simp)), hi1, fun k hk => by rcases hi2 k hk with h | h; exact .inl h; exact .inr (by omega)⟩
end
end Go.Proofs.Ytebllnoeenginaa
