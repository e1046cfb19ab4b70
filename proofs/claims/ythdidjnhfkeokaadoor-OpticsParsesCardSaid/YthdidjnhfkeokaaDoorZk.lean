/- Contract of the reference's Parse. -/
import Derived.Test.YthdidjnhfkeokaaDoorZg
import Derived.Test.YthdidjnhfkeokaaDoorZh
import Derived.Deep.RegionHeld3
import Derived.Deep.DrawnRows
import Derived.Deep.DeepCutAuto
namespace Go.Proofs.YthdidjnhfkeokaaDoor
open Go.RowKit

/-- What the reference's Parse has read: the kind, and the numbers of the cells D. -/
def RFv (ws : List ByteArray) (kf : Int) (D : Nat → Prop) (f : Nat → Int) : Prop := f 0 = kf ∧ ∀ j x, D j → ws[j]? = some x → f j = numV (lst x)
theorem RFv.kind {ws : List ByteArray} {kf : Int} {D : Nat → Prop} {f : Nat → Int} (h : RFv ws kf D f) (h0 : ¬ D 0) (v : Int) : RFv ws v D (upd f 0 v) :=
  ⟨by unfold upd; rw [if_pos rfl], fun j x hj hx => by
    unfold upd
    by_cases e : j = 0
    · subst e; exact absurd hj h0
    · rw [if_neg e]; exact h.2 j x hj hx⟩
theorem RFv.num {ws : List ByteArray} {kf : Int} {D D' : Nat → Prop} {f : Nat → Int} (h : RFv ws kf D f) {j : Nat} {x : ByteArray} (hj : j ≠ 0) (hx : ws[j]? = some x) (hD : ∀ i, D' i → D i ∨ i = j) : RFv ws kf D' (upd f j (numV (lst x))) :=
  ⟨by unfold upd; rw [if_neg (fun e => hj e.symm)]; exact h.1, fun i y hi hy => by
    unfold upd
    by_cases e : i = j
    · subst e; rw [if_pos rfl]; rw [hx] at hy; rw [Option.some.inj hy]
    · rw [if_neg e]
      rcases hD i hi with h' | h'
      · exact h.2 i y h' hy
      · exact absurd h' e⟩
/-- What the reference's Parse has at hand. -/
structure RW (w0 : World) (gZ gP : Nat) (A : Option Addr) (n c : Nat) (ws : List ByteArray) (f : Nat → Int) (W : World) : Prop where
  z : Blk W gZ 26 (cells18 fun _ => 0)
  p : Blk W gP 26 (cells18 f)
  r : Rd eStr W W.heap.size A n c ws
  b : Below w0.heap.size w0 W
section
variable {w0 W W' : World} {gZ gP n c : Nat} {A : Option Addr} {ws : List ByteArray} {f : Nat → Int}
theorem RW.set (h : RW w0 gZ gP A n c ws f W) (hz : gZ ≠ gP) (hw : w0.heap.size ≤ gP) {j : Nat} (hj : j < 18) (v : Int) : RW w0 gZ gP A n c ws (upd f j v) (W.setCell ⟨gP, j, none⟩ (.int .i64 v)) :=
  ⟨h.z.far hz _, cells18_set f hj v ▸ h.p.set_ j (.int .i64 v), h.r.past h.p (c18_str f) _, below_grown h.b (grownBy_setCell W gP j _) hw (Nat.le_refl _)⟩
theorem RW.on (h : RW w0 gZ gP A n c ws f W) (hb : Below W.heap.size W W') : RW w0 gZ gP A n c ws f W' :=
  ⟨h.z.keep hb, h.p.keep hb, h.r.on hb, below_on h.b hb⟩
theorem RW.drew (h : RW w0 gZ gP A n c ws f W) : RW w0 gZ gP A n c ws f W.drew := h.on (Below.refl _ _).drew
end
def D1 (k i : Nat) (j : Nat) : Prop := (1 ≤ j ∧ j < 1 + k) ∨ (4 ≤ j ∧ j < 4 + i)

set_option maxRecDepth 100000 in
set_option maxHeartbeats 6400000 in
theorem rparse_c (s : ByteArray) (w : World) (hs : s.size ≤ 1000000) : Calls Tryd.prog 14 #[.string s] w (SParse s w) := by
  have hZ := Blk.newAt w 26 (cells18 fun _ => 0) w.heap.size rfl
  have hb := below_alloc w (.cells (cells18 fun _ => 0) 26)
  go_enter Tryd.func14, Tryd.ntmps14
  go_upto_region 1 with fail
  obtain ⟨W, hW⟩ : ∃ W, W = w.alloc (.cells (cells18 fun _ => 0) 26) := ⟨_, rfl⟩
  have HWE := hide hW
  unfold cells18 at hW
  rw [← hW]
  rw [← HWE.out] at hZ hb
  clear hW HWE
  obtain ⟨gZ, hgZ⟩ : ∃ q, q = w.heap.size := ⟨_, rfl⟩
  rw [← hgZ] at hZ ⊢
  have hwz : w.heap.size ≤ gZ := by omega
  have HG := hide hgZ
  clear hgZ
  go_upto_region 2 with (go_at_call 45; refine (rwords_c s W hs).mono ?_; rintro e w1 ⟨A, n, c, rfl, ow, hb1⟩)
  have r1 := ow.rd
  have hZ1 := hZ.keep hb1
  have hb2 := below_on hb hb1
  have hgl := hZ1.lt
  have hbs := hb2.size
  clear hZ hb hb1 ow
  by_cases hn : n = 18
  · subst hn
    have hP := Blk.newAt w1 26 (cells18 (PF (wordsB s) (-1) 0)) w1.heap.size rfl
    have hb3 := below_alloc w1 (.cells (cells18 (PF (wordsB s) (-1) 0)) 26)
    have HP := hide (And.intro hP hb3)
    clear hP hb3
    go_upto_region 5 with fail
    obtain ⟨W3, hW3⟩ : ∃ q, q = w1.alloc (.cells (cells18 (PF (wordsB s) (-1) 0)) 26) := ⟨_, rfl⟩
    have hP := HP.out.1
    have hb3 := HP.out.2
    rw [← hW3] at hP hb3
    rw [PF_start] at hW3
    rw [← hW3]
    clear hW3 HP
    obtain ⟨gP, hgP⟩ : ∃ q, q = w1.heap.size := ⟨_, rfl⟩
    rw [← hgP] at hP ⊢
    have hzp : gZ ≠ gP := by omega
    have hwp : w.heap.size ≤ gP := by omega
    have hw : RW w gZ gP A 18 c (wordsB s) (PF (wordsB s) (-1) 0) W3 := ⟨hZ1.keep hb3, hP, r1.on hb3, below_on hb2 hb3⟩
    clear hZ1 hb2 hP hb3 r1 hgP hgl hbs
    obtain ⟨b0, off, x0, rfl, hb0, hx0, hc0⟩ := hw.r.get (show 0 < 18 by omega)
    have HF0 := hide (show RFv (wordsB s) (kix x0 0) (D1 0 (4 * 0)) (PF (wordsB s) (-1) 0) from ⟨rfl, fun j x hj _ => by unfold D1 at hj; omega⟩)
    have HX0 := hide hx0
    clear hc0 hb0 hx0
    go_wp2
    go_loopw [6] (fun iv wr => ∃ (k : Nat) (f : Nat → Int), k ≤ 3 ∧ iv = .int .i64 k ∧ RW w gZ gP (some ⟨b0, off, none⟩) 18 c (wordsB s) f wr ∧ Hid (RFv (wordsB s) (kix x0 k) (D1 k (4 * k)) f)) (fun iv _ => 3 - (intOf iv).toNat)
    case atStart => exact ⟨0, _, by omega, rfl, hw, HF0.out⟩
    case round =>
      clear hw HF0
      obtain ⟨k, f, hk, rfl, hw, HF⟩ := hrel
      by_cases hlt : k < 3
      · have hk3 : (k : Int) < 3 := by omega
        obtain ⟨b9, off9, x9, eA, hb9, hx9, hc9⟩ := hw.r.get (show 0 < 18 by omega)
        injection eA with eA
        injection eA with e1 e2
        subst e1
        subst e2
        have y0 := hc9 0 _ rfl
        simp only [eStr, Nat.add_zero, Nat.mul_one] at y0
        have hx9 := hide hx9
        clear hc9 hb9
        obtain rfl : x0 = x9 := by
          have h1 := hx9.out
          rw [HX0.out] at h1
          exact Option.some.inj h1
        clear hx9
        go_upto_region 8 with fail
        go_cut [28] (fun cv wx => cv = .bool (x0.toList == (kw (k : Int)).toList) ∧ RW w gZ gP (some ⟨b0, off, none⟩) 18 c (wordsB s) f wx)
        case first =>
          have hkc : k = 0 ∨ k = 1 ∨ k = 2 := by omega
          have HKC := hide (fun W => rkinds_c W)
          have HW := hide hw
          have e2 := ((hw.on (below_alloc wr (.cells #[.string ⟨#[112, 114, 101, 112, 97, 114, 101]⟩, .string ⟨#[100, 101, 99, 111, 121]⟩, .string ⟨#[112, 97, 105, 114, 115]⟩] 9))).r)
          obtain ⟨b9, off9, x9, eA, hb9, hx9, hc9⟩ := e2.get (show 0 < 18 by omega)
          injection eA with eA
          injection eA with e1 e2
          subst e1
          subst e2
          have y2 := hc9 0 _ rfl
          simp only [eStr, Nat.add_zero, Nat.mul_one] at y2
          obtain rfl : x0 = x9 := by
            have h1 := hx9
            rw [HX0.out] at h1
            exact Option.some.inj h1
          clear hc9 hb9 hx9 hw
          rcases hkc with rfl | rfl | rfl
          all_goals
            go_region_with (first | (go_at_call 35; refine (HKC.out _).mono ?_; rintro e w2 ⟨rfl, rfl⟩))
            all_goals
              go_wp2_with fail
              go_meet
              refine ⟨congrArg Value.bool ?_, (HW.out.on (below_alloc wr _)).drew⟩
              rw [Lib.toList_data (kw _)]
              rfl
        case rest =>
          clear hw y0 wr
          obtain ⟨rfl, hw⟩ := hcut
          have q0 := (hw.p.cell 0).trans (cells18_get _ (by omega))
          have qf0 := hw.p.frozen 0
          generalize hbb : (x0.toList == (kw (k : Int)).toList) = bb
          cases bb
          · have he : ¬ x0 = kw (k : Int) := fun h1 => by
              rw [h1] at hbb
              simp at hbb
            clear hbb
            have HF5 := hide (show RFv (wordsB s) (kix x0 (k + 1)) (D1 k (4 * k)) f by rw [show kix x0 (k + 1) = kix x0 k by rw [kix, if_neg he]]; exact HF.out)
            clear he HF
            go_upto_region 10 with fail
            have hw5 := hw
            obtain ⟨f5, hf5⟩ : ∃ q, q = f := ⟨_, rfl⟩
            rw [← hf5] at hw5 HF5
            obtain ⟨W5, hW5⟩ : ∃ q, q = wc := ⟨_, rfl⟩
            rw [← hW5] at hw5 ⊢
            clear hW5 hf5 hw q0 qf0
            obtain ⟨b9, off9, x1, eA, hb9, HX1, hc9⟩ := hw5.r.get (show 1 + k < 18 by omega)
            injection eA with eA
            injection eA with e1 e2
            subst e1
            subst e2
            have y1 := hc9 0 _ rfl
            simp only [eStr, Nat.add_zero, Nat.mul_one] at y1
            have HX1 := hide HX1
            clear hc9 hb9
            have q1 := (hw5.p.cell (1 + k)).trans (cells18_get _ (by omega))
            have qf1 := hw5.p.frozen (1 + k)
            have HN1 := hide (fun W => number_c x1 W)
            have hw6 := hw5.set hzp hwp (j := 1 + k) (by omega) (numV (lst x1))
            have HF6 := hide (HF5.out.num (j := 1 + k) (D' := D1 (k + 1) (4 * k)) (by omega) HX1.out (fun i hi => by unfold D1 at hi ⊢; omega))
            obtain ⟨v1, hv1⟩ : ∃ q, q = numV (lst x1) := ⟨_, rfl⟩
            rw [← hv1] at HN1 hw6 HF6
            obtain ⟨f6, hf6⟩ : ∃ q, q = upd f5 (1 + k) v1 := ⟨_, rfl⟩
            rw [← hf6] at hw6 HF6
            clear hw5 HF5 hv1 hf6
            go_upto_region 11 with (go_at_call 46; refine (HN1.out _).mono ?_; rintro e w' ⟨rfl, hq⟩; rw [hq]; clear hq)
            obtain ⟨W6, hW6⟩ : ∃ q, q = W5.setCell ⟨gP, 1 + k, none⟩ (.int .i64 v1) := ⟨_, rfl⟩
            rw [← hW6] at hw6 ⊢
            clear hW6 y1 q1 qf1 HN1 HX1
            go_wp2
            go_loopw [7] (fun jv wr => ∃ (i : Nat) (g : Nat → Int), i ≤ 4 ∧ jv = .int .i64 i ∧ RW w gZ gP (some ⟨b0, off, none⟩) 18 c (wordsB s) g wr ∧ Hid (RFv (wordsB s) (kix x0 (k + 1)) (D1 (k + 1) (4 * k + i)) g)) (fun jv _ => 4 - (intOf jv).toNat)
            case atStart => exact ⟨0, _, by omega, rfl, hw6, HF6.out⟩
            case round =>
              clear hw6 HF6
              obtain ⟨i, g, hi, rfl, hwy, HGY⟩ := hrel
              by_cases hi4 : i < 4
              · have hi4' : (i : Int) < 4 := by omega
                obtain ⟨b9, off9, x2, eA, hb9, HX2, hc9⟩ := hwy.r.get (show 4 + 4 * k + i < 18 by omega)
                injection eA with eA
                injection eA with e1 e2
                subst e1
                subst e2
                have y2 := hc9 0 _ rfl
                simp only [eStr, Nat.add_zero, Nat.mul_one] at y2
                have HX2 := hide HX2
                clear hc9 hb9
                have q2 := (hwy.p.cell (4 + k * 4 + i)).trans (cells18_get _ (by omega))
                have qf2 := hwy.p.frozen (4 + k * 4 + i)
                have HN2 := hide (fun W => number_c x2 W)
                have hw7 := hwy.set hzp hwp (j := 4 + k * 4 + i) (by omega) (numV (lst x2))
                have HF7 := hide (HGY.out.num (j := 4 + k * 4 + i) (D' := D1 (k + 1) (4 * k + (i + 1))) (by omega) (by rw [Nat.mul_comm k 4]; exact HX2.out) (fun i hi => by unfold D1 at hi ⊢; omega))
                obtain ⟨v2, hv2⟩ : ∃ q, q = numV (lst x2) := ⟨_, rfl⟩
                rw [← hv2] at HN2 hw7 HF7
                clear hv2
                have m1 : IntKind.i64.wrap (4 * (k : Int)) = 4 * (k : Int) := by simp only [IntKind.wrap, IntKind.bits, IntKind.signed]; simp; omega
                have m2 : IntKind.i64.wrap (4 + 4 * (k : Int)) = 4 + 4 * (k : Int) := by simp only [IntKind.wrap, IntKind.bits, IntKind.signed]; simp; omega
                have m3 : IntKind.i64.wrap (4 + 4 * (k : Int) + (i : Int)) = 4 + 4 * (k : Int) + (i : Int) := by simp only [IntKind.wrap, IntKind.bits, IntKind.signed]; simp; omega
                have m4 : (4 + 4 * (k : Int) + (i : Int)).toNat = 4 + 4 * k + i := by omega
                have m5 : (0 : Int) ≤ 4 + 4 * (k : Int) + (i : Int) := by omega
                have m6 : 4 + 4 * (k : Int) + (i : Int) < 18 := by omega
                have HW7 := hide hw7.drew
                clear hw7 hwy
                go_upto_region 14 with fail
                go_region_with (go_at_call 46; refine (HN2.out _).mono ?_; rintro e w' ⟨rfl, rfl⟩)
                all_goals
                  go_wp2
                  go_roundw
                  case rel => exact ⟨i + 1, _, by omega, by go_num, HW7.out, HF7.out⟩
                  case measure => simp [intOf] <;> omega
              · obtain rfl : i = 4 := by omega
                go_wp2
                go_roundw
                case rel => exact ⟨k + 1, g, by omega, by go_num, hwy, by rw [show 4 * (k + 1) = 4 * k + 4 by omega]; exact HGY.out⟩
                case measure => simp [intOf] <;> omega
          · have he : x0 = kw (k : Int) := by
              have h1 := beq_iff_eq.1 hbb
              rw [Lib.toList_data, Lib.toList_data] at h1
              exact lst_inj h1
            clear hbb
            have HF5 := hide (show RFv (wordsB s) (kix x0 (k + 1)) (D1 k (4 * k)) (upd f 0 (k : Int)) by rw [show kix x0 (k + 1) = (k : Int) by rw [kix, if_pos he]]; exact HF.out.kind (by unfold D1; omega) _)
            have hw5 := hw.set hzp hwp (j := 0) (by omega) (k : Int)
            clear he HF
            go_upto_region 10 with fail
            obtain ⟨W5, hW5⟩ : ∃ q, q = wc.setCell ⟨gP, 0, none⟩ (.int .i64 (k : Int)) := ⟨_, rfl⟩
            rw [← hW5] at hw5 ⊢
            obtain ⟨f5, hf5⟩ : ∃ q, q = upd f 0 (k : Int) := ⟨_, rfl⟩
            rw [← hf5] at hw5 HF5
            clear hW5 hf5 hw q0 qf0
            obtain ⟨b9, off9, x1, eA, hb9, HX1, hc9⟩ := hw5.r.get (show 1 + k < 18 by omega)
            injection eA with eA
            injection eA with e1 e2
            subst e1
            subst e2
            have y1 := hc9 0 _ rfl
            simp only [eStr, Nat.add_zero, Nat.mul_one] at y1
            have HX1 := hide HX1
            clear hc9 hb9
            have q1 := (hw5.p.cell (1 + k)).trans (cells18_get _ (by omega))
            have qf1 := hw5.p.frozen (1 + k)
            have HN1 := hide (fun W => number_c x1 W)
            have hw6 := hw5.set hzp hwp (j := 1 + k) (by omega) (numV (lst x1))
            have HF6 := hide (HF5.out.num (j := 1 + k) (D' := D1 (k + 1) (4 * k)) (by omega) HX1.out (fun i hi => by unfold D1 at hi ⊢; omega))
            obtain ⟨v1, hv1⟩ : ∃ q, q = numV (lst x1) := ⟨_, rfl⟩
            rw [← hv1] at HN1 hw6 HF6
            obtain ⟨f6, hf6⟩ : ∃ q, q = upd f5 (1 + k) v1 := ⟨_, rfl⟩
            rw [← hf6] at hw6 HF6
            clear hw5 HF5 hv1 hf6
            go_upto_region 11 with (go_at_call 46; refine (HN1.out _).mono ?_; rintro e w' ⟨rfl, hq⟩; rw [hq]; clear hq)
            obtain ⟨W6, hW6⟩ : ∃ q, q = W5.setCell ⟨gP, 1 + k, none⟩ (.int .i64 v1) := ⟨_, rfl⟩
            rw [← hW6] at hw6 ⊢
            clear hW6 y1 q1 qf1 HN1 HX1
            go_wp2
            go_loopw [7] (fun jv wr => ∃ (i : Nat) (g : Nat → Int), i ≤ 4 ∧ jv = .int .i64 i ∧ RW w gZ gP (some ⟨b0, off, none⟩) 18 c (wordsB s) g wr ∧ Hid (RFv (wordsB s) (kix x0 (k + 1)) (D1 (k + 1) (4 * k + i)) g)) (fun jv _ => 4 - (intOf jv).toNat)
            case atStart => exact ⟨0, _, by omega, rfl, hw6, HF6.out⟩
            case round =>
              clear hw6 HF6
              obtain ⟨i, g, hi, rfl, hwy, HGY⟩ := hrel
              by_cases hi4 : i < 4
              · have hi4' : (i : Int) < 4 := by omega
                obtain ⟨b9, off9, x2, eA, hb9, HX2, hc9⟩ := hwy.r.get (show 4 + 4 * k + i < 18 by omega)
                injection eA with eA
                injection eA with e1 e2
                subst e1
                subst e2
                have y2 := hc9 0 _ rfl
                simp only [eStr, Nat.add_zero, Nat.mul_one] at y2
                have HX2 := hide HX2
                clear hc9 hb9
                have q2 := (hwy.p.cell (4 + k * 4 + i)).trans (cells18_get _ (by omega))
                have qf2 := hwy.p.frozen (4 + k * 4 + i)
                have HN2 := hide (fun W => number_c x2 W)
                have hw7 := hwy.set hzp hwp (j := 4 + k * 4 + i) (by omega) (numV (lst x2))
                have HF7 := hide (HGY.out.num (j := 4 + k * 4 + i) (D' := D1 (k + 1) (4 * k + (i + 1))) (by omega) (by rw [Nat.mul_comm k 4]; exact HX2.out) (fun i hi => by unfold D1 at hi ⊢; omega))
                obtain ⟨v2, hv2⟩ : ∃ q, q = numV (lst x2) := ⟨_, rfl⟩
                rw [← hv2] at HN2 hw7 HF7
                clear hv2
                have m1 : IntKind.i64.wrap (4 * (k : Int)) = 4 * (k : Int) := by simp only [IntKind.wrap, IntKind.bits, IntKind.signed]; simp; omega
                have m2 : IntKind.i64.wrap (4 + 4 * (k : Int)) = 4 + 4 * (k : Int) := by simp only [IntKind.wrap, IntKind.bits, IntKind.signed]; simp; omega
                have m3 : IntKind.i64.wrap (4 + 4 * (k : Int) + (i : Int)) = 4 + 4 * (k : Int) + (i : Int) := by simp only [IntKind.wrap, IntKind.bits, IntKind.signed]; simp; omega
                have m4 : (4 + 4 * (k : Int) + (i : Int)).toNat = 4 + 4 * k + i := by omega
                have m5 : (0 : Int) ≤ 4 + 4 * (k : Int) + (i : Int) := by omega
                have m6 : 4 + 4 * (k : Int) + (i : Int) < 18 := by omega
                have HW7 := hide hw7.drew
                clear hw7 hwy
                go_upto_region 14 with fail
                go_region_with (go_at_call 46; refine (HN2.out _).mono ?_; rintro e w' ⟨rfl, rfl⟩)
                all_goals
                  go_wp2
                  go_roundw
                  case rel => exact ⟨i + 1, _, by omega, by go_num, HW7.out, HF7.out⟩
                  case measure => simp [intOf] <;> omega
              · obtain rfl : i = 4 := by omega
                go_wp2
                go_roundw
                case rel => exact ⟨k + 1, g, by omega, by go_num, hwy, by rw [show 4 * (k + 1) = 4 * k + 4 by omega]; exact HGY.out⟩
                case measure => simp [intOf] <;> omega
      · obtain rfl : k = 3 := by omega
        obtain ⟨kf, hkf⟩ : ∃ q, q = kix x0 3 := ⟨_, rfl⟩
        rw [← hkf] at HF
        have HKF := hide hkf
        clear hkf
        obtain ⟨b9, off9, x16, eA, hb9, HX16, hc9⟩ := hw.r.get (show 16 < 18 by omega)
        injection eA with eA
        injection eA with e1 e2
        subst e1
        subst e2
        have y16 := hc9 0 _ rfl
        simp only [eStr, Nat.add_zero, Nat.mul_one] at y16
        have HX16 := hide HX16
        clear hc9 hb9
        have q16 := (hw.p.cell 16).trans (cells18_get _ (by omega))
        have qf16 := hw.p.frozen 16
        have HN16 := hide (fun W => number_c x16 W)
        have hw8 := hw.set hzp hwp (j := 16) (by omega) (numV (lst x16))
        have HF8 := hide (HF.out.num (j := 16) (D' := fun i => 1 ≤ i ∧ i < 17) (by omega) HX16.out (fun i hi => by (try unfold D1); omega))
        obtain ⟨v16, hv16⟩ : ∃ q, q = numV (lst x16) := ⟨_, rfl⟩
        rw [← hv16] at HN16 hw8 HF8
        obtain ⟨f8, hf16⟩ : ∃ q, q = upd f 16 v16 := ⟨_, rfl⟩
        rw [← hf16] at hw8 HF8
        clear hw HF hv16 hf16
        go_upto_region 16 with (go_at_call 46; refine (HN16.out _).mono ?_; rintro e w' ⟨rfl, hq⟩; rw [hq]; clear hq)
        obtain ⟨W8, hW16⟩ : ∃ q, q = wr.setCell ⟨gP, 16, none⟩ (.int .i64 v16) := ⟨_, rfl⟩
        rw [← hW16] at hw8 ⊢
        clear hW16 y16 q16 qf16 HN16 HX16
        obtain ⟨b9, off9, x17, eA, hb9, HX17, hc9⟩ := hw8.r.get (show 17 < 18 by omega)
        injection eA with eA
        injection eA with e1 e2
        subst e1
        subst e2
        have y17 := hc9 0 _ rfl
        simp only [eStr, Nat.add_zero, Nat.mul_one] at y17
        have HX17 := hide HX17
        clear hc9 hb9
        have q17 := (hw8.p.cell 17).trans (cells18_get _ (by omega))
        have qf17 := hw8.p.frozen 17
        have HN17 := hide (fun W => number_c x17 W)
        have hw9 := hw8.set hzp hwp (j := 17) (by omega) (numV (lst x17))
        have HF9 := hide (HF8.out.num (j := 17) (D' := fun i => 1 ≤ i ∧ i < 18) (by omega) HX17.out (fun i hi => by (try unfold D1); omega))
        obtain ⟨v17, hv17⟩ : ∃ q, q = numV (lst x17) := ⟨_, rfl⟩
        rw [← hv17] at HN17 hw9 HF9
        obtain ⟨f9, hf17⟩ : ∃ q, q = upd f8 17 v17 := ⟨_, rfl⟩
        rw [← hf17] at hw9 HF9
        clear hw8 HF8 hv17 hf17
        go_upto_region 17 with (go_at_call 46; refine (HN17.out _).mono ?_; rintro e w' ⟨rfl, hq⟩; rw [hq]; clear hq)
        obtain ⟨W9, hW17⟩ : ∃ q, q = W8.setCell ⟨gP, 17, none⟩ (.int .i64 v17) := ⟨_, rfl⟩
        rw [← hW17] at hw9 ⊢
        clear hW17 y17 q17 qf17 HN17 HX17
        have HK0 := hide HF9.out.1
        have HPN := hide (fun j x (h1 : 1 ≤ j) (h2 : j < 18) hx => HF9.out.2 j x ⟨h1, h2⟩ hx)
        have HTX := hide (rtext_c f9 W9)
        cases hok : okO f9
        · have HBAD := hide (SPar.refBad (s := s) (f := f9) HX0.out (HK0.out.trans HKF.out) HPN.out (.inl hok))
          have HT2 := hide (show Calls Tryd.prog 9 #[.agg (cells18 f9)] W9 fun e w' => e = .returned (.tuple #[.string ByteArray.empty, .int .i64 2]) ∧ Below W9.heap.size W9 w' from HTX.out.mono fun e w' h => by
            unfold STextO checkErr at h
            rw [hok] at h
            exact h)
          clear hok HTX
          go_upto_region 18 with (first | (refine wl_load (o := ⟨some 69, _, _, _, _, _⟩) rfl 26 _ rfl gP rfl 26 (cells18 f9) _ hw9.p Tryd.underlying26 rfl (by kernel_rfl) ?_) | (go_at_call 9; refine HT2.out.mono ?_; rintro e w5 ⟨rfl, hb5⟩))
          have hw5 := hw9.on hb5
          go_upto_region 19 with fail
          go_wp2_with (refine wl_store (o := ⟨none, _, _, _, _, _⟩) rfl 26 _ _ rfl gZ (cells18 fun _ => 0) rfl rfl 26 _ hw5.z (by kernel_rfl) rfl (cells18_one _) ?_; intro w9 hZ9 hg9)
          refine bodyPost_ret (results_row_tmp rfl _ _ gZ 26 _ _ rfl hZ9 Tryd.underlying26 rfl (by kernel_rfl)) rfl ?_
          exact ⟨_, _, rfl, HBAD.out, below_grown hw5.b hg9 hwz (Nat.le_refl _)⟩
        · have HT2 := hide (show Calls Tryd.prog 9 #[.agg (cells18 f9)] W9 fun e w' => e = .returned (.tuple #[.string (textB f9), .int .i64 0]) ∧ Below W9.heap.size W9 w' from HTX.out.mono fun e w' h => by
            unfold STextO checkErr at h
            rw [hok] at h
            exact h)
          clear HTX
          by_cases heq : textB f9 = s
          · have HGOOD := hide (SPar.refGood hok heq)
            rw [heq] at HT2
            have hst : (s.toList == s.toList) = true := by simp
            clear hok heq
            go_upto_region 18 with (first | (refine wl_load (o := ⟨some 69, _, _, _, _, _⟩) rfl 26 _ rfl gP rfl 26 (cells18 f9) _ hw9.p Tryd.underlying26 rfl (by kernel_rfl) ?_) | (go_at_call 9; refine HT2.out.mono ?_; rintro e w5 ⟨rfl, hb5⟩))
            have hw5 := hw9.on hb5
            go_upto_region 20 with fail
            go_wp2_with (first | (refine wl_load (o := ⟨some 81, _, _, _, _, _⟩) rfl 26 _ rfl gP rfl 26 (cells18 f9) _ hw5.p Tryd.underlying26 rfl (by kernel_rfl) ?_) | (refine wl_store (o := ⟨none, _, _, _, _, _⟩) rfl 26 _ _ rfl gZ (cells18 f9) rfl rfl 26 _ hw5.z (by kernel_rfl) rfl (cells18_one _) ?_; intro w9 hZ9 hg9))
            refine bodyPost_ret (results_row_tmp rfl _ _ gZ 26 _ _ rfl hZ9 Tryd.underlying26 rfl (by kernel_rfl)) rfl ?_
            exact ⟨_, _, rfl, HGOOD.out, below_grown hw5.b hg9 hwz (Nat.le_refl _)⟩
          · have HBAD := hide (SPar.refBad (s := s) (f := f9) HX0.out (HK0.out.trans HKF.out) HPN.out (.inr heq))
            have hst : ((textB f9).toList == s.toList) = false := by
              rw [beq_eq_false_iff_ne]
              intro e
              rw [Lib.toList_data, Lib.toList_data] at e
              exact heq (lst_inj e)
            obtain ⟨T9, hT9⟩ : ∃ q, q = textB f9 := ⟨_, rfl⟩
            rw [← hT9] at hst HT2
            clear hok heq hT9
            go_upto_region 18 with (first | (refine wl_load (o := ⟨some 69, _, _, _, _, _⟩) rfl 26 _ rfl gP rfl 26 (cells18 f9) _ hw9.p Tryd.underlying26 rfl (by kernel_rfl) ?_) | (go_at_call 9; refine HT2.out.mono ?_; rintro e w5 ⟨rfl, hb5⟩))
            have hw5 := hw9.on hb5
            go_upto_region 19 with fail
            go_wp2_with (refine wl_store (o := ⟨none, _, _, _, _, _⟩) rfl 26 _ _ rfl gZ (cells18 fun _ => 0) rfl rfl 26 _ hw5.z (by kernel_rfl) rfl (cells18_one _) ?_; intro w9 hZ9 hg9)
            refine bodyPost_ret (results_row_tmp rfl _ _ gZ 26 _ _ rfl hZ9 Tryd.underlying26 rfl (by kernel_rfl)) rfl ?_
            exact ⟨_, _, rfl, HBAD.out, below_grown hw5.b hg9 hwz (Nat.le_refl _)⟩
  · have HBAD := hide (SPar.badLen (s := s) (fun h => hn (r1.len.symm.trans h)))
    have hnb : ((n : Int) == 18) = false := decide_eq_false (fun e => hn (by omega))
    have hnb2 : ((n : Int) != 18) = true := by rw [bne, hnb]; rfl
    go_upto_region 3 with fail
    go_wp2_with (refine wl_store (o := ⟨none, _, _, _, _, _⟩) rfl 26 _ _ rfl gZ (cells18 fun _ => 0) rfl rfl 26 _ hZ1 (by kernel_rfl) rfl (cells18_one _) ?_; intro w9 hZ9 hg9)
    refine bodyPost_ret (results_row_tmp rfl _ _ gZ 26 _ _ rfl hZ9 Tryd.underlying26 rfl (by kernel_rfl)) rfl ?_
    exact ⟨_, _, rfl, HBAD.out, below_grown hb2 hg9 hwz (Nat.le_refl _)⟩
end Go.Proofs.YthdidjnhfkeokaaDoor
