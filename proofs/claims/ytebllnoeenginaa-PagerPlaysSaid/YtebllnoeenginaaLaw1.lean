/- The laws' small functions: within, known. -/
import Derived.Test.YtebllnoeenginaaLive
import Derived.Lib.SlBytesConst
import Derived.Laws.BytesString
import Derived.Laws.IdiomStrings
namespace Go.Proofs.Ytebllnoeenginaa
open Go.RowKit

/-- A region that draws its order: what holds behind every operation may be made to say more. -/
theorem wpAnyH_weaken {P : Program} {md : Region.Mode} {ops : Array Oper} {Q : Exit → Act → World → Prop} {S S' : World → Prop} (hS : ∀ w, S' w → S w) :
    ∀ (fuel : Nat) (listed : Array Bool) (a : Act) (w : World), wpAnyH P md ops Q S' fuel listed a w → wpAnyH P md ops Q S fuel listed a w
  | 0, _, _, _, h => h
  | fuel + 1, _, _, _, h => ⟨h.1, fun i hi => wpOp_mono (fun a' w' h' => ⟨hS _ h'.1, wpAnyH_weaken hS fuel _ a' w' h'.2⟩) (h.2 i hi)⟩
/-- A row of the caller's own, apart from F. -/
def Mine (w : World) (F : Nat → Prop) (base : Nat) (e : TypeId) (size : Nat) (v : Value) (n : Nat) (xs : List Value) : Prop := w.ownsRow base e size v n xs ∧ ∀ g, v.ownBlock = some g → ¬ F g
theorem Mine.grows {w w' : World} {F F' : Nat → Prop} {base : Nat} {e : TypeId} {size : Nat} {v : Value} {n : Nat} {xs : List Value} (h : Mine w F base e size v n xs) (hg : Grows F F' w w') : Mine w' F' base e size v n xs :=
  ⟨hg.own h.1 h.2, fun g hb => hg.not (own_lt h.1 g hb) (h.2 g hb)⟩
theorem Mine.keeps {w w' : World} {F : Nat → Prop} {base : Nat} {e : TypeId} {size : Nat} {v : Value} {n : Nat} {xs : List Value} {S : List Nat} (h : Mine w F base e size v n xs) (hk : Keeps S w w') (hs : ∀ g, v.ownBlock = some g → g ∉ S) : Mine w' F base e size v n xs :=
  ⟨hk.own h.1 hs, h.2⟩
theorem Rd.blk {w : World} {g : Nat} {t : TypeId} {cs : Array Value} (h : Blk w g t cs) (n : Nat) (hn : n = cs.size) (hm : n ≤ maxLen) : Rd w (.slice (some ⟨g, 0, none⟩) n n) cs.toList := by
  refine ⟨some ⟨g, 0, none⟩, n, by simp [hn], by simp [hn], hm, (by intro h; cases h), ?_⟩
  rintro ad ⟨⟩
  refine ⟨fun _ => rfl, fun _ => h.lt, fun j u hu => ?_⟩
  rw [add_lit0, Nat.zero_add, h.cell]
  simpa using hu
theorem byte_of (n : Nat) (h : n < 256) : ∃ z : UInt8, z.toNat = n := ⟨UInt8.ofNat n, by simp; omega⟩
theorem xor_byte (a b : UInt8) : ∃ z : UInt8, bits .xor .u8 (a.toNat : Int) (b.toNat : Int) = (z.toNat : Int) := by
  have ha := a.toNat_lt
  have hb := b.toNat_lt
  obtain ⟨z, hz⟩ := byte_of (a.toNat ^^^ b.toNat) (Nat.xor_lt_two_pow (n := 8) ha hb)
  exact ⟨z, by rw [u8_xor_nat _ _ ha hb, hz]⟩

section
variable {w w' : World} {F : Nat → Prop}
theorem within_nat (n : Nat) (hn : 0 < n) (a : Int) : (a.tmod n < 0 → a.tmod n + n = a % n) ∧ (¬ a.tmod n < 0 → a.tmod n = a % n) ∧ -(n : Int) < a.tmod n ∧ a.tmod n < n := by
  have h0 : (0 : Int) < n := by omega
  have h1 := Int.emod_nonneg a (show (n : Int) ≠ 0 by omega)
  have h2 := Int.emod_lt_of_pos a h0
  rw [Int.tmod_eq_emod]
  split
  · simp; omega
  · rename_i hh
    have h3 : a % n ≠ 0 := fun e => hh (.inr (Int.dvd_of_emod_eq_zero e))
    simp; omega
set_option maxHeartbeats 400000 in
theorem within_any (a n : Int) (hn : 0 < n) (hn2 : n ≤ 1000000) : Calls Try.prog 16 #[.int .i64 a, .int .i64 n] w fun e w' => e = .returned (.int .i64 (a % n)) ∧ w = w' := by
  obtain ⟨m, rfl⟩ : ∃ m : Nat, n = (m : Int) := ⟨n.toNat, by omega⟩
  obtain ⟨h1, h2, h3, h4⟩ := within_nat m (by omega) a
  have hz : ((m : Int) == 0) = false := by simp; omega
  have H1 := Lib.hid h1
  have H2 := Lib.hid h2
  clear h1 h2
  by_cases hlt : a.tmod m < 0
  · go_enter Try.func16, Try.ntmps16
    go_wp2
    go_ret
    exact ⟨by rw [← H1.out hlt]; rfl, rfl⟩
  · go_enter Try.func16, Try.ntmps16
    go_wp2
    go_ret
    exact ⟨by rw [← H2.out (by omega)]; rfl, rfl⟩
/-- string(b). -/
theorem run_str {v : Value} {bs : List UInt8} (h : Rd w v (bs.map byt)) : (convert 22 9 v).run Try.prog w = .ok (.string ⟨bs.toArray⟩) w := by
  obtain ⟨A, c, rfl, h1, h2, h3, h4⟩ := h
  rw [List.length_map]
  cases A with
  | none =>
    have := (h3 rfl).1
    have : bs = [] := by simpa using this
    subst this
    rw [run_convert_bytes_string w 22 9 5 none _ _ Try.underlying22 Try.underlying5 Try.underlying9]; rfl
  | some ad =>
    refine run_convert_bytes_back (P := Try.prog) w 22 9 5 ad c bs Try.underlying22 Try.underlying5 Try.underlying9 ?_
    intro j hj
    exact (h4 ad rfl).2.2 j _ (by rw [List.getElem?_map, List.getElem?_eq_getElem hj]; rfl)
theorem str_same {v : Value} {bs : List UInt8} (h : Rd w v (bs.map byt)) (hk : Keeps [] w w') : (convert 22 9 v).run Try.prog w' = .ok (.string ⟨bs.toArray⟩) w' := run_str (h.keeps hk (by simp))
theorem str_beq (a b : List UInt8) : ((ByteArray.mk a.toArray).toList == (ByteArray.mk b.toArray).toList) = decide (a = b) := by
  rw [ByteArray.toList_mk, ByteArray.toList_mk, Bool.eq_iff_iff]; simp

set_option maxRecDepth 100000 in
set_option maxHeartbeats 2000000 in
theorem known_any (w : World) : Calls Try.prog 9 #[] w fun e w' => e = .returned (.bool true) ∧ Keeps [] w w' := by
  have kc := fun (w : World) (C : Array Value) (n c : Nat) => Lib.run_convert_bytes_const (P := Try.prog) w 22 5 C n c Try.underlying22 Try.underlying5
  go_enter Try.func9, Try.ntmps9
  go_wp2_with fail
  refine (live_new 128 _ (by omega) (by omega)).mono ?_
  rintro e w1 ⟨d, F1, rfl, hd1, hk1, hF1⟩
  have HD1 := Lib.hid hd1
  have HK1 := Lib.hid hk1
  have HF1 := Lib.hid hF1
  clear hd1 hk1 hF1
  go_wp2_with fail
  refine (live_open HD1.out (zero_ok 128 (by omega) (by omega)) (zero_image 128) rfl).mono ?_
  rintro e w2 ⟨p, F2, rfl, hl2, hg2, hk2⟩
  have HL2 := Lib.hid hl2
  have HG2 := Lib.hid hg2
  clear hl2 hg2 hk2
  go_wp2_with fail
  have hka : Keeps [] w2 (w2.alloc (.cells #[.int .u8 120] 5 (1, 2))) := (Keeps.refl [] _).alloc _
  refine (live_alloc (bs := [120]) (HL2.out.keeps hka (by simp)) rfl (Rd.litF _ _ #[_] 1 _ rfl (by simp [maxLen])) (by simp) (by decide)).mono ?_
  rintro e w3 ⟨n, X3, F3, rfl, ha3, hl3, hg3⟩
  have HKA := Lib.hid hka
  have HA3 := Lib.hid ha3
  have HL3 := Lib.hid hl3
  have HG3 := Lib.hid hg3
  clear hka ha3 hl3 hg3
  go_wp2_with fail
  have hkb : Keeps [] w3 (w3.alloc (.cells #[.int .u8 114] 5 (1, 2))) := (Keeps.refl [] _).alloc _
  refine (live_commit (root := [114]) (HL3.out.keeps hkb (by simp)) rfl (Rd.litF _ _ #[_] 1 _ rfl (by simp [maxLen])) (by simp) (by rw [HA3.out.seq]; decide) (by decide) (by rw [HA3.out.fresh]; decide) (.inl (by decide))).mono ?_
  rintro e w4 ⟨rfl, F4, X4, D4, hl4, hg4, hc4⟩
  have HKB := Lib.hid hkb
  have HL4 := Lib.hid hl4
  have HG4 := Lib.hid hg4
  have HC4 := Lib.hid hc4
  clear hkb hl4 hg4 hc4
  go_wp2_with fail
  refine (live_open HL4.out.disk HL4.out.ok HL4.out.img HC4.out.dead).mono ?_
  rintro e w5 ⟨q, F5, rfl, hl5, hg5, hk5⟩
  have HL5 := Lib.hid hl5
  have HG5 := Lib.hid hg5
  clear hl5 hg5 hk5
  go_wp2_with fail
  have hrd : (X4.abort D4).read D4 n = ([120], 0) := by
    rw [read_at HC4.out.dead, abort_at HL4.out.ok, HC4.out.com, HA3.out.at_, if_pos rfl]
  refine (live_read n HL5.out).mono ?_
  rintro e w6 ⟨v, rfl, ho6, hl6, hg6⟩
  rw [hrd] at ho6 ⊢
  have hs6 := run_str (bs := [120]) (Rd.of_own ho6)
  have HL6 := Lib.hid hl6
  have HG6 := Lib.hid hg6
  clear hrd ho6 hl6 hg6
  go_wp2_with fail
  refine (live_root HL6.out).mono ?_
  rintro e w7 ⟨v7, rfl, ho7, hk7⟩
  have hrt : (X4.abort D4).root = [114] := HC4.out.root
  rw [hrt] at ho7
  have hs7 := run_str (bs := [114]) (Rd.of_own ho7)
  have HK7 := Lib.hid hk7
  clear ho7 hk7 hrt
  go_wp2_with fail
  go_ret
  obtain ⟨a2, b2⟩ := HG2.out.keeps0 HK1.out HF1.out
  obtain ⟨a3, b3⟩ := HG3.out.keeps0 (a2.trans HKA.out) b2
  obtain ⟨a4, b4⟩ := HG4.out.keeps0 (a3.trans HKB.out) b3
  obtain ⟨a5, b5⟩ := HG5.out.keeps0 a4 b4
  obtain ⟨a6, b6⟩ := HG6.out.keeps0 a5 b5
  exact ⟨by simp, a6.trans HK7.out⟩
end
end Go.Proofs.Ytebllnoeenginaa
