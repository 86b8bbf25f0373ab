/- pager.load: the newest root slot, and its free map. -/
import Derived.Test.YtebllnoeenginaaPag5
namespace Go.Proofs.Ytebllnoeenginaa
open Go.RowKit

def wordB8 : List UInt8 := [116, 111, 108, 108, 114, 111, 111, 116]
def slotSeq (b : List UInt8) : Nat := getN ((b.take 16).drop 8)
def slotRoot (b : List UInt8) : List UInt8 := (b.take (17 + (b.getD 16 0).toNat)).drop 17
def slotIn (s : Int × List UInt8) (b : List UInt8) : Int × List UInt8 := if b.take 8 = wordB8 ∧ s.1 < slotSeq b then ((slotSeq b : Int), slotRoot b) else s
def Disk.slots (D : Disk) : Nat → Int × List UInt8
  | 0 => (0, [])
  | i + 1 => slotIn (D.slots i) (D.block i)

theorem str_eq (l : List UInt8) : ((ByteArray.mk l.toArray).toList == (ByteArray.mk #[116, 111, 108, 108, 114, 111, 111, 116]).toList) = decide (l = wordB8) := by
  rw [ByteArray.toList_mk, show (ByteArray.mk #[116, 111, 108, 108, 114, 111, 111, 116]).toList = wordB8 from ByteArray.toList_mk wordB8]
  rw [Bool.eq_iff_iff]; simp

/-- The free map's bit of page n; the row of truths once j of them were read. -/
def bitAt (D : Disk) (s : Int) (n : Nat) : Bool := ((D.block (2 + s % 2 * mapsOf D.blocks + ((n / 4096 : Nat) : Int))).getD (n % 4096 / 8) 0 >>> UInt8.ofNat (n % 8)) &&& 1 == 1
def tk (D : Disk) (s : Int) (L j : Nat) : List Bool := (List.range L).map fun n => decide (n < j) && (decide (0 < s) && bitAt D s n)
def Disk.takenAt (D : Disk) (s : Int) : List Bool := tk D s D.blocks.toNat ((mapsOf D.blocks).toNat * 4096)
theorem tk_length (D : Disk) (s : Int) (L j : Nat) : (tk D s L j).length = L := by simp [tk]
theorem tk_zero (D : Disk) (s : Int) (L : Nat) : tk D s L 0 = List.replicate L false := by
  apply List.ext_getElem (by simp [tk])
  intro i h1 h2
  simp [tk]
theorem tk_get (D : Disk) (s : Int) (L j i : Nat) (h : i < L) : (tk D s L j)[i]? = some (decide (i < j) && (decide (0 < s) && bitAt D s i)) := by simp [tk, h]
theorem tk_no {D : Disk} {s : Int} {L j : Nat} (h : ¬ (j < L ∧ 0 < s ∧ bitAt D s j = true)) : tk D s L (j + 1) = tk D s L j := by
  apply List.ext_getElem? ; intro i
  by_cases hi : i < L
  · rw [tk_get _ _ _ _ _ hi, tk_get _ _ _ _ _ hi]
    by_cases hij : i = j
    · subst hij
      have : (decide (0 < s) && bitAt D s i) = false := by
        cases hb : bitAt D s i with
        | false => simp
        | true => have h0 : ¬ 0 < s := fun h1 => h ⟨hi, h1, hb⟩; simp [h0]
      rw [this]; simp
    · have : decide (i < j + 1) = decide (i < j) := by rw [decide_eq_decide]; omega
      rw [this]
  · rw [List.getElem?_eq_none (by rw [tk_length]; omega), List.getElem?_eq_none (by rw [tk_length]; omega)]
theorem tk_yes {D : Disk} {s : Int} {L j : Nat} (hl : j < L) (hs : 0 < s) (hb : bitAt D s j = true) : tk D s L (j + 1) = (tk D s L j).set j true := by
  apply List.ext_getElem? ; intro i
  rw [List.getElem?_set, tk_length]
  by_cases hij : j = i
  · subst hij
    rw [tk_get _ _ _ _ _ hl, if_pos rfl, if_pos hl, hb]; simp [hs]
  · rw [if_neg hij]
    by_cases hi : i < L
    · rw [tk_get _ _ _ _ _ hi, tk_get _ _ _ _ _ hi]
      have : decide (i < j + 1) = decide (i < j) := by rw [decide_eq_decide]; omega
      rw [this]
    · rw [List.getElem?_eq_none (by rw [tk_length]; omega), List.getElem?_eq_none (by rw [tk_length]; omega)]
theorem count_set_true : ∀ (l : List Bool) (j : Nat), l[j]? = some false → (l.set j true).count true = l.count true + 1
  | [], j, h => by simp at h
  | a :: l, 0, h => by simp at h; subst h; simp
  | a :: l, j + 1, h => by
    rw [List.getElem?_cons_succ] at h
    rw [List.set_cons_succ, List.count_cons, List.count_cons, count_set_true l j h]; omega
theorem tk_count {D : Disk} {s : Int} {L j : Nat} (hl : j < L) (hs : 0 < s) (hb : bitAt D s j = true) : (tk D s L (j + 1)).count true = (tk D s L j).count true + 1 := by
  rw [tk_yes hl hs hb, count_set_true]
  rw [tk_get _ _ _ _ _ hl]; simp

theorem bit_and (x : UInt8) (k : Nat) (hk : k < 8) : (bits .and .u8 ((x.toNat : Int) / 2 ^ k) 1 == 1) = ((x >>> UInt8.ofNat k) &&& 1 == 1) := by
  have e1 : (x.toNat : Int) / 2 ^ k = ((x.toNat / 2 ^ k : Nat) : Int) := by simp
  have e2 : (x >>> UInt8.ofNat k).toNat = x.toNat / 2 ^ k := by
    rw [UInt8.toNat_shiftRight, Nat.shiftRight_eq_div_pow]
    congr 2
    simp; omega
  have hx := x.toNat_lt
  have hlt : x.toNat / 2 ^ k < 256 := Nat.lt_of_le_of_lt (Nat.div_le_self _ _) (by omega)
  rw [e1, show (1 : Int) = ((1 : Nat) : Int) from rfl, u8_and_nat _ _ hlt (by omega), Bool.eq_iff_iff]
  simp only [beq_iff_eq]
  rw [← e2, ← UInt8.toNat_inj, UInt8.toNat_and]
  constructor
  · intro h; exact_mod_cast h
  · intro h; exact_mod_cast h
theorem conv_cells {w : World} {base g cap : Nat} {bs : List UInt8} (ho : w.ownsRow base 5 1 (.slice (some ⟨g, 0, none⟩) 512 cap) 512 (bs.map byt)) (hl : bs.length = 512) : ∀ j (hj : j < (bs.take 8).length), w.cell? ((⟨g, 0, none⟩ : Addr).add j) = some (.int .u8 ((bs.take 8)[j].toNat : Int)) := by
  intro j hj
  rw [List.length_take] at hj
  have := ho.cellAt j (by omega)
  rw [add_lit0, Nat.zero_add, this, List.getElem?_map, List.getElem?_eq_getElem (by omega), List.getElem_take]
  rfl

section
variable {w w' : World} {I I' : Nat → Prop} {p m : Nat} {D : Disk} {c : PC} {S : List Nat}
set_option maxRecDepth 100000 in
set_option maxHeartbeats 4000000 in
theorem load_any (hb : Blk w p 78 c.cells) (h : DiskAt w I c.d m D) (hf : D.full) (hp : ¬ I p) (hd : D.dead = false) (hbl : 64 ≤ D.blocks) (hs0 : c.seq = 0) (hr0 : c.rv = .slice none 0 0) (hm0 : c.many = 0) (hsl : ∀ i : Nat, i < 2 → slotSeq (D.block i) < 1152921504606846976) :
    Calls Try.prog 32 #[.pointer (some ⟨p, 0, none⟩)] w fun e w' => e = .returned (.int .i64 0) ∧ ∃ rv tv rd, Blk w' p 78 ({ c with seq := (D.slots 2).1, rv := rv, tv := tv, many := ((D.takenAt (D.slots 2).1).count true : Nat), reads := rd } : PC).cells ∧
      w'.ownsRow w.heap.size 5 1 rv (D.slots 2).2.length ((D.slots 2).2.map byt) ∧ w'.ownsRow w.heap.size 4 1 tv (D.takenAt (D.slots 2).1).length ((D.takenAt (D.slots 2).1).map bv) ∧ Keeps [p] w w' := by
  have hpd : ¬ p = c.d := hb.ne_ h.blk (by decide)
  have hpm : ¬ p = m := by obtain ⟨vs, es, ck, h1, -⟩ := h.mem.inner; exact hb.ne_map h1.heap
  have hbh := h.hi
  have H := Lib.hid h
  have HB := Lib.hid hb
  have HF := Lib.hid hf
  have HP := Lib.hid hp
  have HDd := Lib.hid hd
  have HS0 := Lib.hid hs0
  have HR0 := Lib.hid hr0
  have HM0 := Lib.hid hm0
  have HSL := Lib.hid hsl
  have HPD : Hid (p ≠ c.d ∧ p ≠ m) := Lib.hid ⟨hpd, hpm⟩
  clear h hb hf hp hd hs0 hr0 hm0 hsl hpd hpm
  go_enter Try.func32, Try.ntmps32
  go_wp2
  go_loopw [12] (fun i wr => ∃ (j : Nat) (rv : Value) (rd : Int), j ≤ 2 ∧ i = .int .i64 j ∧ Hid (Blk wr p 78 ({ c with seq := (D.slots j).1, rv := rv, reads := rd } : PC).cells) ∧
      Hid (wr.ownsRow w.heap.size 5 1 rv (D.slots j).2.length ((D.slots j).2.map byt)) ∧ Hid (Keeps [p] w wr)) (fun i _ => 2 - (intOf i).toNat)
  case atStart => exact ⟨0, c.rv, c.reads, by omega, rfl, by rw [show (D.slots 0).1 = c.seq from HS0.out.symm]; exact HB, Lib.hid (by rw [HR0.out]; exact World.ownsRow_nil _ _ _ _), Lib.hid (Keeps.refl _ _)⟩
  case round =>
    obtain ⟨j, rv, rd, hj, rfl, HBj, HRV, HK⟩ := hrel
    have hDj : DiskAt wr I c.d m D := H.out.keeps HK.out (by have := HPD.out.1; simp; omega) (by have := HPD.out.2; simp; omega) (by intro g hg; simp at hg; subst hg; exact HP.out)
    have HDj := Lib.hid hDj
    clear hDj
    by_cases hlt : j < 2
    · obtain ⟨bs, hbs⟩ : ∃ bs, bs = D.block j := ⟨_, rfl⟩
      have hbl2 : bs.length = 512 := by rw [hbs]; exact HF.out.block _
      have HBS := Lib.hid hbs
      have HRd : Hid (D.read j = (bs, 0)) := by
        have h0 : ¬ ((j : Int) < 0 ∨ D.blocks ≤ j) := by omega
        unfold Disk.read
        rw [HDd.out, if_neg h0, hbs]; exact Lib.hid rfl
      have HBL := Lib.hid hbl2
      have HSQ : Hid (slotSeq bs < 1152921504606846976) := by rw [hbs]; exact Lib.hid (HSL.out j hlt)
      have HST : Hid (D.slots (j + 1) = slotIn (D.slots j) bs) := by rw [hbs]; exact Lib.hid rfl
      obtain ⟨s0, hs0⟩ : ∃ s, s = D.slots j := ⟨_, rfl⟩
      rw [← hs0] at HBj HRV HST
      clear hbs hbl2 hs0
      by_cases hw : bs.take 8 = wordB8
      · have hse : ((ByteArray.mk (bs.take 8).toArray).toList == (ByteArray.mk #[116, 111, 108, 108, 114, 111, 111, 116]).toList) = true := by rw [str_eq]; exact decide_eq_true hw
        have HSE := Lib.hid hse
        have HW := Lib.hid hw
        clear hw hse
        by_cases hq : s0.1 < slotSeq bs
        · obtain ⟨x, hx⟩ : ∃ x : Nat, x = (bs.getD 16 0).toNat := ⟨_, rfl⟩
          have hxl : x < 256 := by rw [hx]; exact (bs.getD 16 0).toNat_lt
          have HX : Hid (slotRoot bs = (bs.take (17 + x)).drop 17) := by unfold slotRoot; rw [← hx]; exact Lib.hid rfl
          have HSL2 : Hid ((slotRoot bs).length ≤ 255) := Lib.hid (by rw [HX.out, List.length_drop, List.length_take]; omega)
          have HXX := Lib.hid hx
          clear hx
          go_wp2_with (first | (go_at_call 38; refine (pread_ok (c := { c with seq := s0.1, rv := rv, reads := rd }) j bs HBj.out HDj.out HF.out HP.out HRd.out HBL.out).mono ?_; rintro e w2 ⟨g, cap, rfl, hc1, hc2, hg, ho, hb2, hk2⟩; unfold maxLen at hc2; have hcv := run_convert_bytes_back (P := Try.prog) w2 22 9 5 ⟨g, 0, none⟩ cap (bs.take 8) Try.underlying22 Try.underlying5 Try.underlying9 (conv_cells ho HBL.out); rw [show (bs.take 8).length = 8 by rw [List.length_take, HBL.out]; rfl] at hcv; have p4 := pc4 hb2; have HO := Lib.hid ho; have HB2 := Lib.hid hb2; have HK2 := Lib.hid hk2; have HG := Lib.hid hg; have c16 : w2.cell? ⟨g, 16, none⟩ = some (.int .u8 (x : Int)) := (by have := ho.cellAt 16 (by omega); rw [this, HXX.out, List.getElem?_map, List.getD_eq_getElem?_getD, List.getElem?_eq_getElem (by rw [HBL.out]; omega)]; rfl); clear ho hb2 hk2 hg) | (go_at_call 39; refine (get_any _ ((bs.take 16).drop 8) _ (by have := (Rd.of_own HO.out).cut (lo := 8) (hi := 16) (by omega) (by omega); rw [← List.map_take, ← List.map_drop] at this; exact this) (by simp; omega) (by have := HSQ.out; unfold slotSeq at this; omega)).mono ?_; rintro e w'' ⟨rfl, rfl⟩; rw [show getN ((bs.take 16).drop 8) = slotSeq bs from rfl]) | (go_at_call 34; refine (clone_any _ ((slotRoot bs).map byt) _ (by have := (Rd.of_own HO.out).cut (lo := 17) (hi := 17 + x) (by omega) (by omega); rw [← List.map_take, ← List.map_drop] at this; rw [HX.out]; simpa using this) oneCell_u8 (by rw [List.length_map]; exact Nat.le_trans (HSL2.out) (by omega))).mono ?_; rintro e w5 ⟨v5, rfl, ho5, hk5⟩; obtain ⟨A5, n5, rfl, -, -⟩ := (Rd.of_own ho5).form; rw [List.length_map] at ho5 ⊢; have hb5 := HB2.out.keeps hk5 (by simp); have f4 := hb5.frozen 4; have f5 := hb5.frozen 5; have k4 := pc4 hb5; have k5 := pc5 hb5; have HO5 := Lib.hid ho5; have HK5 := Lib.hid hk5; have HB5 := Lib.hid hb5; clear ho5 hk5 hb5))
          have hks : Keeps [p] w5 ((w5.setCell ⟨p, 4, none⟩ (.int .i64 (slotSeq bs))).setCell ⟨p, 5, none⟩ (.slice A5 (slotRoot bs).length n5)) := ((Keeps.refl _ _).setCell (.inl (by simp)) _).setCell (.inl (by simp)) _
          have h25 : Keeps [p] w w5 := (HK.out.trans HK2.out).trans (HK5.out.mono (by simp))
          refine ⟨⟨j + 1, _, wrap64 (rd + 1), by omega, by go_num, Lib.hid (by rw [HST.out, slotIn, if_pos ⟨HW.out, hq⟩]; exact (HB5.out.set_ 4 _).set_ 5 _), Lib.hid ?_, Lib.hid (h25.trans hks)⟩, by simp [intOf]; omega⟩
          rw [HST.out, slotIn, if_pos ⟨HW.out, hq⟩]
          have hz2 := (HK.out.trans HK2.out).size
          refine hks.own (ownsRow_mono HO5.out hz2) ?_
          intro q hq hm
          have h1 := own_base HO5.out q hq
          have h2 := HB.out.lt
          simp at hm; omega
        · go_wp2_with (first | (go_at_call 38; refine (pread_ok (c := { c with seq := s0.1, rv := rv, reads := rd }) j bs HBj.out HDj.out HF.out HP.out HRd.out HBL.out).mono ?_; rintro e w2 ⟨g, cap, rfl, hc1, hc2, hg, ho, hb2, hk2⟩; unfold maxLen at hc2; have hcv := run_convert_bytes_back (P := Try.prog) w2 22 9 5 ⟨g, 0, none⟩ cap (bs.take 8) Try.underlying22 Try.underlying5 Try.underlying9 (conv_cells ho HBL.out); rw [show (bs.take 8).length = 8 by rw [List.length_take, HBL.out]; rfl] at hcv; have p4 := pc4 hb2; have HO := Lib.hid ho; have HB2 := Lib.hid hb2; have HK2 := Lib.hid hk2; have HG := Lib.hid hg;  clear ho hb2 hk2 hg) | (go_at_call 39; refine (get_any _ ((bs.take 16).drop 8) _ (by have := (Rd.of_own HO.out).cut (lo := 8) (hi := 16) (by omega) (by omega); rw [← List.map_take, ← List.map_drop] at this; exact this) (by simp; omega) (by have := HSQ.out; unfold slotSeq at this; omega)).mono ?_; rintro e w'' ⟨rfl, rfl⟩; rw [show getN ((bs.take 16).drop 8) = slotSeq bs from rfl]))
          refine ⟨⟨j + 1, rv, _, by omega, by go_num, Lib.hid (by rw [HST.out, slotIn, if_neg (by rintro ⟨h1, h2⟩; omega)]; exact HB2.out), Lib.hid (by rw [HST.out, slotIn, if_neg (by rintro ⟨h1, h2⟩; omega)]; exact HK2.out.own HRV.out (by intro q hq hm; have h1 := own_base HRV.out q hq; have h2 := HB.out.lt; simp at hm; omega)), Lib.hid (HK.out.trans HK2.out)⟩, by simp [intOf]; omega⟩
      · have hse : ((ByteArray.mk (bs.take 8).toArray).toList == (ByteArray.mk #[116, 111, 108, 108, 114, 111, 111, 116]).toList) = false := by rw [str_eq]; exact decide_eq_false hw
        have HW := Lib.hid hw
        clear hw
        go_wp2_with (first | (go_at_call 38; refine (pread_ok (c := { c with seq := s0.1, rv := rv, reads := rd }) j bs HBj.out HDj.out HF.out HP.out HRd.out HBL.out).mono ?_; rintro e w2 ⟨g, cap, rfl, hc1, hc2, hg, ho, hb2, hk2⟩; unfold maxLen at hc2; have hcv := run_convert_bytes_back (P := Try.prog) w2 22 9 5 ⟨g, 0, none⟩ cap (bs.take 8) Try.underlying22 Try.underlying5 Try.underlying9 (conv_cells ho HBL.out); rw [show (bs.take 8).length = 8 by rw [List.length_take, HBL.out]; rfl] at hcv; have p4 := pc4 hb2; have HO := Lib.hid ho; have HB2 := Lib.hid hb2; have HK2 := Lib.hid hk2; have HG := Lib.hid hg;  clear ho hb2 hk2 hg) | (go_at_call 39; refine (get_any _ ((bs.take 16).drop 8) _ (by have := (Rd.of_own HO.out).cut (lo := 8) (hi := 16) (by omega) (by omega); rw [← List.map_take, ← List.map_drop] at this; exact this) (by simp; omega) (by have := HSQ.out; unfold slotSeq at this; omega)).mono ?_; rintro e w'' ⟨rfl, rfl⟩; rw [show getN ((bs.take 16).drop 8) = slotSeq bs from rfl]))
        refine ⟨⟨j + 1, rv, _, by omega, by go_num, Lib.hid (by rw [HST.out, slotIn, if_neg (by rintro ⟨h1, h2⟩; exact HW.out h1)]; exact HB2.out), Lib.hid (by rw [HST.out, slotIn, if_neg (by rintro ⟨h1, h2⟩; exact HW.out h1)]; exact HK2.out.own HRV.out (by intro q hq hm; have h1 := own_base HRV.out q hq; have h2 := HB.out.lt; simp at hm; omega)), Lib.hid (HK.out.trans HK2.out)⟩, by simp [intOf]; omega⟩
    · obtain rfl : j = 2 := by omega
      obtain ⟨sq, hsq⟩ : ∃ sq, sq = (D.slots 2).1 := ⟨_, rfl⟩
      obtain ⟨rt, hrt⟩ : ∃ rt, rt = (D.slots 2).2 := ⟨_, rfl⟩
      have hsq0 : 0 ≤ sq ∧ sq < 1152921504606846976 := by
        have h0 := HSL.out 0 (by omega)
        have h1 := HSL.out 1 (by omega)
        rw [hsq]
        show 0 ≤ (slotIn (slotIn (0, []) _) _).1 ∧ (slotIn (slotIn (0, []) _) _).1 < _
        unfold slotIn
        repeat' split
        all_goals (simp only at *; omega)
      rw [← hsq] at HBj
      rw [← hrt] at HRV
      have HSE := Lib.hid hsq
      have HRE := Lib.hid hrt
      obtain ⟨hsl, hsh⟩ := hsq0
      clear hsq hrt hlt
      obtain ⟨L, hL⟩ : ∃ L : Nat, D.blocks = (L : Int) := ⟨D.blocks.toNat, by omega⟩
      have HL := Lib.hid hL
      have hL1 : 64 ≤ L := by omega
      have hL2 : L ≤ 16384 := by omega
      obtain ⟨i1, hi1, hzb0, hzb1, hzb2⟩ := info_parts Try.infoBool
      obtain ⟨wm, hmk, hown, hgr⟩ := run_makeSlice_full (P := Try.prog) (w := wr) wr.heap.size 75 4 i1 (.bool false) 1 Try.underlying75 hi1 hzb0 hzb1 .i64 .i64 L (by omega) (by rw [hzb2]; omega) (by unfold maxLen; omega) (Nat.le_refl _)
      have HGR : Hid (Keeps [] wr wm) := Lib.hid (Keeps.of_grown hgr (by simp))
      have hbm := HBj.out.keeps HGR.out (by simp)
      have k6 := pc6 hbm
      have f6 := hbm.frozen 6
      have HBM := Lib.hid hbm
      have HOWN := Lib.hid hown
      obtain ⟨B, hB⟩ : ∃ B, B = wr.heap.size := ⟨_, rfl⟩
      rw [← hB] at hmk
      have HBE := Lib.hid hB
      have p0 := pc0 HBj.out
      clear hL hi1 hzb0 hzb1 hzb2 hown hgr hbm hB
      have hkw : Keeps [p] wm (wm.setCell ⟨p, 6, none⟩ (.slice (some ⟨B, 0, none⟩) L L)) := (Keeps.refl _ _).setCell (.inl (by simp)) _
      have hb1 : Blk (wm.setCell ⟨p, 6, none⟩ (.slice (some ⟨B, 0, none⟩) L L)) p 78 ({ c with seq := sq, rv := rv, tv := .slice (some ⟨B, 0, none⟩) L L, reads := rd } : PC).cells := HBM.out.set_ 6 _
      obtain ⟨W1, hW1⟩ : ∃ W1, W1 = wm.setCell ⟨p, 6, none⟩ (.slice (some ⟨B, 0, none⟩) L L) := ⟨_, rfl⟩
      rw [← hW1] at hkw hb1
      have hpB : p < B := by have h1 := HB.out.lt; have h2 := HK.out.size; have h3 := HBE.out; omega
      have hkk : Keeps [p] w W1 := (HK.out.trans (HGR.out.mono (by simp))).trans hkw
      have HK1 := Lib.hid hkk
      have HB1 := Lib.hid hb1
      have HD1 : Hid (DiskAt W1 I c.d m D) := Lib.hid (H.out.keeps hkk (by have := HPD.out.1; simp; omega) (by have := HPD.out.2; simp; omega) (by intro g hg; simp at hg; subst hg; exact HP.out))
      have HO1 : Hid (W1.ownsRow B 4 1 (.slice (some ⟨B, 0, none⟩) L L) L ((tk D sq L 0).map bv)) := by
        rw [tk_zero]
        have e : (madeCells (Value.bool false).cells (L * 1)).toList = (List.replicate L false).map bv := by
          rw [show (Value.bool false).cells = #[Value.bool false] from rfl, toList_madeCells_one, List.map_replicate, Nat.mul_one]
        have h1 := HOWN.out
        rw [e, ← HBE.out] at h1
        exact Lib.hid (hkw.own h1 (by intro g hg hm; cases hg; simp at hm; omega))
      have HRV1 : Hid (W1.ownsRow w.heap.size 5 1 rv rt.length (rt.map byt)) := by
        refine Lib.hid (((HGR.out.mono (by simp)).trans hkw).own HRV.out ?_)
        intro g hg hm
        have h1 := own_base HRV.out g hg
        have h2 := HB.out.lt
        simp at hm; omega
      have HRVB : Hid (∀ g, rv.ownBlock = some g → g < B) := Lib.hid (fun g hg => by have h1 := own_lt HRV.out g hg; have h3 := HBE.out; omega)
      have HW1 := Lib.hid hW1
      have hmp1 : 1 ≤ mapsOf D.blocks := by unfold mapsOf; omega
      have hmp2 : mapsOf D.blocks ≤ 5 := by unfold mapsOf; omega
      clear hkw hb1 hW1 hkk
      go_wp2_with (first | (go_at_call 29; refine (blocks_any _ HDj.out).mono ?_; rintro e w' ⟨rfl, rfl⟩; rw [HL.out]) | (go_at_call 44; rw [← HW1.out]; refine (maps_any HB1.out HD1.out).mono ?_; rintro e w5 ⟨rfl, rfl⟩))
      go_loopw [66] (fun i wq => ∃ (j : Nat) (rd : Int), j ≤ (mapsOf D.blocks).toNat ∧ i = .int .i64 j ∧ Hid (Blk wq p 78 ({ c with seq := sq, rv := rv, tv := .slice (some ⟨B, 0, none⟩) L L, many := ((tk D sq L (j * 4096)).count true : Nat), reads := rd } : PC).cells) ∧
        Hid (wq.ownsRow B 4 1 (.slice (some ⟨B, 0, none⟩) L L) L ((tk D sq L (j * 4096)).map bv)) ∧ Hid (Keeps [p, B] W1 wq)) (fun i _ => (mapsOf D.blocks).toNat - (intOf i).toNat)
      case atStart => exact ⟨0, rd, Nat.zero_le _, rfl, by
        have : ({ c with seq := sq, rv := rv, tv := .slice (some ⟨B, 0, none⟩) L L, many := ((tk D sq L (0 * 4096)).count true : Nat), reads := rd } : PC) = { c with seq := sq, rv := rv, tv := .slice (some ⟨B, 0, none⟩) L L, reads := rd } := by
          rw [Nat.zero_mul, tk_zero, List.count_replicate]; simp [HM0.out]
        rw [this]; exact HB1, by rw [Nat.zero_mul]; exact HO1, Lib.hid (Keeps.refl _ _)⟩
      case round =>
        obtain ⟨j, rd2, hj, rfl, HBj2, HOj, HKj⟩ := hrel
        by_cases hlt : j < (mapsOf D.blocks).toNat
        · obtain ⟨bs, hbs⟩ : ∃ bs, bs = D.block (2 + sq % 2 * mapsOf D.blocks + (j : Int)) := ⟨_, rfl⟩
          have hpar : 0 ≤ sq % 2 * mapsOf D.blocks ∧ sq % 2 * mapsOf D.blocks ≤ 5 := by
            rcases Int.emod_two_eq sq with h | h <;> rw [h] <;> omega
          have hRd : D.read (2 + sq % 2 * mapsOf D.blocks + (j : Int)) = (bs, 0) := by
            have h0 : ¬ (2 + sq % 2 * mapsOf D.blocks + (j : Int) < 0 ∨ D.blocks ≤ 2 + sq % 2 * mapsOf D.blocks + (j : Int)) := by omega
            unfold Disk.read
            rw [HDd.out, if_neg h0, hbs]; rfl
          have HRd := Lib.hid hRd
          have HBS := Lib.hid hbs
          have HBL : Hid (bs.length = 512) := by rw [hbs]; exact Lib.hid (HF.out.block _)
          have hKw : Keeps [p] w wr := HK1.out.then HKj.out (fun k hk => by
            simp at hk
            rcases hk with rfl | rfl
            · exact .inl (by simp)
            · have h1 := HK.out.size; have h2 := HBE.out; exact .inr (by omega))
          have HKW := Lib.hid hKw
          have HDq : Hid (DiskAt wr I c.d m D) := Lib.hid (H.out.keeps hKw (by have := HPD.out.1; simp; omega) (by have := HPD.out.2; simp; omega) (by intro g hg; simp at hg; subst hg; exact HP.out))
          have HDQ : Hid (DiskAt wr.drew I c.d m D) := Lib.hid (HDq.out.keeps (Keeps.refl [] wr).drew (by simp) (by simp) (by simp))
          have HWR : Hid (IntKind.i64.wrap (IntKind.i64.wrap (2 + IntKind.i64.wrap (sq.tmod 2 * mapsOf D.blocks)) + (j : Int)) = 2 + sq % 2 * mapsOf D.blocks + (j : Int)) := by
            rw [Int.tmod_eq_emod_of_nonneg hsl]
            simp only [IntKind.wrap_i64]
            exact Lib.hid (by omega)
          have p4 := pc4 HBj2.out
          have hltI : (j : Int) < mapsOf D.blocks := by omega
          clear hbs hRd hKw
          go_wp2_with fail
          go_region_held3 (fun w' => w'.cell? ⟨p, 4, none⟩ = some (.int .i64 sq)) (first | go_keep) (first | (go_at_call 44; refine (maps_any HBj2.out.drew HDQ.out).mono ?_; rintro e w5 ⟨rfl, rfl⟩) | (go_at_call 38; rw [HWR.out]; refine (pread_ok (c := { c with seq := sq, rv := rv, tv := .slice (some ⟨B, 0, none⟩) L L, many := ((tk D sq L (j * 4096)).count true : Nat), reads := rd2 }) (2 + sq % 2 * mapsOf D.blocks + (j : Int)) bs HBj2.out.drew HDQ.out HF.out HP.out HRd.out HBL.out).mono ?_; rintro e w2 ⟨g, cap, rfl, hc1, hc2, hg, ho, hb2, hk2⟩; have q4 := pc4 hb2; unfold maxLen at hc2))
          have HO := Lib.hid ho
          have HB2 := Lib.hid hb2
          have HK2 : Hid (Keeps [p] wr w2) := Lib.hid (Keeps.of_drew hk2)
          have hgB : B < g := by have h1 := own_lt HOj.out B rfl; simp at hg; omega
          have hBw2 : B < w2.heap.size := by have h1 := own_lt HOj.out B rfl; have h2 := HK2.out.size; omega
          have hOj2 : Hid (w2.ownsRow B 4 1 (.slice (some ⟨B, 0, none⟩) L L) L ((tk D sq L (j * 4096)).map bv)) := Lib.hid (HK2.out.own HOj.out (by intro q hq hm; cases hq; simp at hm; omega))
          obtain ⟨r3, hr3⟩ : ∃ r, r = wrap64 (rd2 + 1) := ⟨_, rfl⟩
          rw [← hr3] at HB2
          clear ho hb2 hk2 hg hr3 p4 q4
          go_wp2
          generalize IntKind.i64.wrap (2 + IntKind.i64.wrap (sq.tmod 2 * mapsOf D.blocks)) = q3
          generalize IntKind.i64.wrap (sq.tmod 2 * mapsOf D.blocks) = q2
          generalize sq.tmod 2 = q1
          go_loopw [88] (fun k wk => ∃ K : Nat, K ≤ 4096 ∧ k = .int .i64 K ∧ Hid (Blk wk p 78 ({ c with seq := sq, rv := rv, tv := .slice (some ⟨B, 0, none⟩) L L, many := ((tk D sq L (j * 4096 + K)).count true : Nat), reads := r3 } : PC).cells) ∧
            Hid (wk.ownsRow B 4 1 (.slice (some ⟨B, 0, none⟩) L L) L ((tk D sq L (j * 4096 + K)).map bv)) ∧ Hid (Keeps [p, B] w2 wk)) (fun k _ => 4096 - (intOf k).toNat)
          case atStart => exact ⟨0, by omega, rfl, HB2, hOj2, Lib.hid (Keeps.refl _ _)⟩
          case round =>
            obtain ⟨K, hK, rfl, HBk, HOk, HKk⟩ := hrel
            have p4 := pc4 HBk.out
            have p6 := pc6 HBk.out
            have p7 := pc7 HBk.out
            have hog := HKk.out.own HO.out (by intro q hq hm; cases hq; simp at hm; omega)
            by_cases hKl : K < 4096
            · have hKK : ((j * 4096 + K : Nat) : Int) = (j : Int) * 4096 + K := by omega
              have hj5 : j < 5 := by omega
              obtain ⟨x, hx⟩ : ∃ x, bs[K / 8]? = some x := ⟨_, List.getElem?_eq_getElem (by have := HBL.out; omega)⟩
              have cB := hog.cellAt (K / 8) (by omega)
              rw [List.getElem?_map, hx] at cB
              have HX := Lib.hid hx
              have hbt : (bits .and .u8 ((x.toNat : Int) / 2 ^ (K % 8)) 1 == 1) = bitAt D sq (j * 4096 + K) := by
                rw [bit_and x (K % 8) (by omega)]
                unfold bitAt
                rw [show (j * 4096 + K) / 4096 = j by omega, show (j * 4096 + K) % 4096 = K by omega, show (j * 4096 + K) % 8 = K % 8 by omega, ← HBS.out, List.getD_eq_getElem?_getD, hx]
                rfl
              clear hog hx
              have HKL := Lib.hid hKl
              by_cases hall : j * 4096 + K < L ∧ 0 < sq ∧ bitAt D sq (j * 4096 + K) = true
              · obtain ⟨hn, hs, hb⟩ := hall
                rw [hb] at hbt
                have HY := Lib.hid (tk_yes hn hs hb)
                have HC := Lib.hid (tk_count hn hs hb)
                have hcl : (tk D sq L (j * 4096 + K)).count true ≤ L := by have := List.count_le_length (a := true) (l := tk D sq L (j * 4096 + K)); rw [tk_length] at this; exact this
                obtain ⟨N, hN⟩ : ∃ N, N = (tk D sq L (j * 4096 + K)).count true := ⟨_, rfl⟩
                rw [← hN] at p7 hcl HC
                have HNN := Lib.hid hN
                have fB := HOk.out.frozenAt (j * 4096 + K)
                have hcB := HOk.out.cellAt (j * 4096 + K) (by omega)
                rw [List.getElem?_map, tk_get _ _ _ _ _ hn] at hcB
                have f7 := HBk.out.frozen 7
                have hne : ¬ p = B := by omega
                have hne2 : ¬ B = p := by omega
                clear hN hb
                go_wp2
                have hst := HOk.out.stored (j * 4096 + K) (bv true)
                have hsp : ∀ (u : Value), Keeps [p] (wr.setCell ⟨B, j * 4096 + K, none⟩ (.bool true)) ((wr.setCell ⟨B, j * 4096 + K, none⟩ (.bool true)).setCell ⟨p, 7, none⟩ u) := fun u => (Keeps.refl _ _).setCell (.inl (by simp)) u
                refine ⟨⟨K + 1, by omega, by go_num, Lib.hid ?_, Lib.hid ?_, Lib.hid ((HKk.out.setCell (.inl (by simp)) _).setCell (.inl (by simp)) _)⟩, by simp [intOf]; omega⟩
                · rw [← Nat.add_assoc, HC.out]
                  exact (HBk.out.far hne _).set_ 7 _
                · rw [← Nat.add_assoc, HY.out, List.map_set]
                  exact (hsp _).own hst.1 (by intro q hq hm; cases hq; simp at hm; omega)
              · have HS := Lib.hid (tk_no hall)
                by_cases hs : 0 < sq
                · by_cases hn : j * 4096 + K < L
                  · have hb : bitAt D sq (j * 4096 + K) = false := by
                      cases h : bitAt D sq (j * 4096 + K) with
                      | false => rfl
                      | true => exact absurd ⟨hn, hs, h⟩ hall
                    rw [hb] at hbt
                    clear hb hall
                    go_wp2
                    go_roundw
                    case rel => exact ⟨K + 1, by omega, by go_num, by rw [← Nat.add_assoc, HS.out]; exact HBk, by rw [← Nat.add_assoc, HS.out]; exact HOk, HKk⟩
                    case measure => simp [intOf]; omega
                  · clear hbt hall
                    go_wp2
                    go_roundw
                    case rel => exact ⟨K + 1, by omega, by go_num, by rw [← Nat.add_assoc, HS.out]; exact HBk, by rw [← Nat.add_assoc, HS.out]; exact HOk, HKk⟩
                    case measure => simp [intOf]; omega
                · clear hbt hall
                  go_wp2
                  go_roundw
                  case rel => exact ⟨K + 1, by omega, by go_num, by rw [← Nat.add_assoc, HS.out]; exact HBk, by rw [← Nat.add_assoc, HS.out]; exact HOk, HKk⟩
                  case measure => simp [intOf]; omega
            · obtain rfl : K = 4096 := by omega
              have hjj : (j + 1) * 4096 = j * 4096 + 4096 := by omega
              clear hog p4 p6 p7
              go_wp2
              refine ⟨⟨j + 1, r3, by omega, by go_num, by rw [hjj]; exact HBk, by rw [hjj]; exact HOk, Lib.hid ((HKj.out.trans (HK2.out.mono (by simp))).trans HKk.out)⟩, by simp [intOf]; omega⟩
        · obtain rfl : j = (mapsOf D.blocks).toNat := by omega
          go_wp2
          go_ret
          have hTA : D.takenAt (D.slots 2).1 = tk D sq L ((mapsOf D.blocks).toNat * 4096) := by rw [← HSE.out]; unfold Disk.takenAt; rw [HL.out]; rfl
          have hKw : Keeps [p] w wr := HK1.out.then HKj.out (fun k hk => by
            simp at hk
            rcases hk with rfl | rfl
            · exact .inl (by simp)
            · have h1 := HK.out.size; have h2 := HBE.out; exact .inr (by omega))
          have hz : w.heap.size ≤ B := by have h1 := HK.out.size; have h2 := HBE.out; omega
          rw [hTA, ← HSE.out, ← HRE.out, tk_length]
          refine ⟨rfl, rv, _, rd2, HBj2.out, HKj.out.own HRV1.out ?_, ownsRow_mono HOj.out hz, hKw⟩
          intro g hg hm
          have h1 := own_base HRV1.out g hg
          have h2 := HB.out.lt
          have h3 := HRVB.out g hg
          simp at hm; omega
end
end Go.Proofs.Ytebllnoeenginaa
