/- Contracts of the reference's kinds, numbers and Text. -/
import Derived.Test.YthdidjnhfkeokaaDoorZd
import Derived.Test.YthdidjnhfkeokaaDoorQt
import Derived.Test.YthdidjnhfkeokaaDoorQk
import Derived.Deep.RegionHeld3
import Derived.Deep.DrawnRows
namespace Go.Proofs.YthdidjnhfkeokaaDoor
open Go.RowKit

set_option maxRecDepth 100000 in
set_option maxHeartbeats 1600000 in
theorem rkinds_c (w : World) : Calls Tryd.prog 35 #[] w fun e w' => e = .returned (.slice (some ⟨w.heap.size, 0, none⟩) 3 3) ∧ w' = w.alloc (.cells #[.string ⟨#[112, 114, 101, 112, 97, 114, 101]⟩, .string ⟨#[100, 101, 99, 111, 121]⟩, .string ⟨#[112, 97, 105, 114, 115]⟩] 9) := by
  go_enter Tryd.func35, Tryd.ntmps35
  go_wp2
  go_ret
  exact ⟨rfl, rfl⟩
def numL (f : Nat → Int) (k : Nat) : List Int := (List.range' 1 k).map f
theorem numL_len (f : Nat → Int) (k : Nat) : (numL f k).length = k := by simp [numL]
theorem numL_get (f : Nat → Int) {k i : Nat} (h : i < k) : (numL f k)[i]? = some (f (1 + i)) := by
  unfold numL; rw [List.getElem?_map, List.getElem?_range' h]; simp
theorem numL_row (f : Nat → Int) (a : Nat) : numL f (a + 4) = numL f a ++ [f (1 + a), f (2 + a), f (3 + a), f (4 + a)] := by
  unfold numL
  rw [← List.range'_append_1, List.map_append]
  congr 1
  simp [List.range']
  refine ⟨?_, ?_, ?_⟩ <;> congr 1 <;> omega
theorem numL_end (f : Nat → Int) : numL f 17 = numL f 15 ++ [f 16, f 17] := rfl
theorem Ow.empty {α : Type} {e : Enc α} (w : World) (E : TypeId) (base : Nat) (hb : base ≤ w.heap.size) : Ow e (w.alloc (.cells #[] E)) base E (some ⟨w.heap.size, 0, none⟩) 0 0 ([] : List α) := by
  have h := World.ownsRow_lit (base := base) (e := E) (size := e.nf) w #[] 0 hb (by simp [maxLen]) (by simp)
  exact ⟨rfl, h⟩
set_option maxRecDepth 100000 in
set_option maxHeartbeats 1600000 in
theorem rnumbers_c (f : Nat → Int) (w : World) : Calls Tryd.prog 36 #[.agg (cells18 f)] w fun e w' => ∃ A c, e = .returned (.slice A 17 c) ∧ Rd eInt w' w'.heap.size A 17 c (numL f 17) ∧ Below w.heap.size w w' := by
  go_enter Tryd.func36, Tryd.ntmps36
  go_upto_region 1 with fail
  have hO := Blk.newAt w 26 (cells18 f) w.heap.size rfl
  have hb := below_alloc w (.cells (cells18 f) 26)
  obtain ⟨W, hW⟩ : ∃ W, W = w.alloc (.cells (cells18 f) 26) := ⟨_, rfl⟩
  rw [← hW] at hO hb ⊢
  clear hW
  obtain ⟨gO, hgO⟩ : ∃ q, q = w.heap.size := ⟨_, rfl⟩
  rw [← hgO] at hO ⊢
  have HGO := hide hgO
  have hzW := hb.size
  have hgw : gO < W.heap.size := hO.lt
  have oE := Ow.empty (e := eInt) W 3 W.heap.size (Nat.le_refl _)
  have rC : Rd eInt (W.alloc (.cells #[] 3)) (W.alloc (.cells #[] 3)).heap.size (some ⟨gO, 1, none⟩) 3 3 [f 1, f 2, f 3] := Rd.ofBlk (hO.alloc _) rfl (by omega) (fun i x hx => by
    match i, hx with
    | 0, hx | 1, hx | 2, hx => simp at hx; subst hx; rfl
    | i + 3, hx => simp at hx)
  clear hgO
  go_upto_region 2 with (at_builtin; refine wl_app eInt _ rfl (.tmp 5) (.tmp 7) _ rfl W.heap.size 3 (.int .i64 0) 8 Tryd.underlying47 info_int rfl (by omega) _ _ _ _ (by rfl) oE _ 3 3 [f 1, f 2, f 3] (by rfl) _ rC (by omega) (by simp) ?_; intro A1 c1 w1 o1 hg1 hA1)
  have hO1 : Blk w1 gO 26 (cells18 f) := (hO.alloc _).grown hg1 (by simp; omega)
  have hb1 := below_app (below_alloc W (.cells #[] 3)) oE hg1 (Nat.le_refl _) (Nat.le_refl _)
  have o1' : Ow eInt w1 W.heap.size 3 A1 3 c1 (numL f 3) := o1
  clear oE rC hg1 hA1 o1
  go_wp2
  go_loopw [4, 3] (fun iv ov wr => ∃ (k : Nat) (A : Option Addr) (c : Nat), k ≤ 3 ∧ iv = .int .i64 k ∧ ov = .slice A (3 + 4 * k) c ∧ Ow eInt wr W.heap.size 3 A (3 + 4 * k) c (numL f (3 + 4 * k)) ∧ Blk wr gO 26 (cells18 f) ∧ Below W.heap.size W wr) (fun iv _ _ => 3 - (intOf iv).toNat)
  case atStart => exact ⟨0, A1, c1, by omega, rfl, rfl, o1', hO1, hb1⟩
  case round =>
    clear o1' hO1 hb1
    obtain ⟨k, A, c, hk, rfl, rfl, ow, hOr, hbr⟩ := hrel
    by_cases hlt : k < 3
    · have hk3 : (k : Int) < 3 := by omega
      have rR : Rd eInt wr wr.heap.size (some ⟨gO, 4 + k * 4, none⟩) 4 4 [f (1 + (3 + 4 * k)), f (2 + (3 + 4 * k)), f (3 + (3 + 4 * k)), f (4 + (3 + 4 * k))] := Rd.ofBlk hOr rfl (by omega) (fun i x hx => by
        match i, hx with
        | 0, hx => simp at hx; rw [← hx, show 4 + k * 4 + 0 = 1 + (3 + 4 * k) by omega]; exact cells18_get f (by omega)
        | 1, hx => simp at hx; rw [← hx, show 4 + k * 4 + 1 = 2 + (3 + 4 * k) by omega]; exact cells18_get f (by omega)
        | 2, hx => simp at hx; rw [← hx, show 4 + k * 4 + 2 = 3 + (3 + 4 * k) by omega]; exact cells18_get f (by omega)
        | 3, hx => simp at hx; rw [← hx, show 4 + k * 4 + 3 = 4 + (3 + 4 * k) by omega]; exact cells18_get f (by omega)
        | i + 4, hx => simp at hx)
      have hAO : some gO ≠ A.map (·.block) := fun e => by have := (ow.block _ e.symm).1; omega
      go_wp2_with (at_builtin; refine wl_app eInt _ rfl (.tmp 13) (.tmp 17) _ rfl W.heap.size 3 (.int .i64 0) 8 Tryd.underlying47 info_int rfl (by omega) _ _ _ _ (by rfl) ow _ 4 4 [f (1 + (3 + 4 * k)), f (2 + (3 + 4 * k)), f (3 + (3 + 4 * k)), f (4 + (3 + 4 * k))] (by rfl) _ rR (by omega) (by have := hbr.size; omega) ?_; intro A3 c3 w3 o3 hg3 hA3)
      go_roundw
      case rel => exact ⟨k + 1, A3, c3, by omega, by go_num, by rw [show 3 + 4 * (k + 1) = 3 + 4 * k + 4 by omega], by rw [show 3 + 4 * (k + 1) = 3 + 4 * k + 4 by omega, numL_row]; exact o3, hOr.grown hg3 hAO, below_app hbr ow hg3 (Nat.le_refl _) (Nat.le_refl _)⟩
      case measure => simp [intOf] <;> omega
    · obtain rfl : k = 3 := by omega
      have q16 := (hOr.cell 16).trans (cells18_get f (by omega))
      have q17 := (hOr.cell 17).trans (cells18_get f (by omega))
      have rR := Rd.many (e := eInt) wr 3 [f 16, f 17] #[.int .i64 (f 16), .int .i64 (f 17)] rfl 2 rfl (by omega) wr.heap.size rfl
      go_wp2_with (at_builtin; refine wl_app eInt _ rfl (.tmp 19) (.tmp 24) _ rfl W.heap.size 3 (.int .i64 0) 8 Tryd.underlying47 info_int rfl (by omega) _ _ _ _ (by rfl) (ow.alloc _) _ 2 2 [f 16, f 17] (by rfl) _ rR (by omega) (by have := hbr.size; simp; omega) ?_; intro A3 c3 w3 o3 hg3 hA3)
      have HR := hide o3.rd
      have HB := hide (below_on hb (below_app (hbr.alloc hbr.size _) (ow.alloc _) hg3 (Nat.le_refl _) (Nat.le_refl _)))
      go_ret
      exact ⟨A3, c3, rfl, by rw [numL_end]; exact HR.out, HB.out⟩

/-! ### Text -/
theorem join_snoc {ws : List (List UInt8)} (h : ws ≠ []) (x : List UInt8) : Lib.join (ws ++ [x]) [32] = Lib.join ws [32] ++ 32 :: x := by
  cases ws with
  | nil => exact absurd rfl h
  | cons y r => rw [List.cons_append, Lib.join_cons, Lib.join_cons]; simp [Lib.joinTail]
/-- An arrangement's text, behind k of its numbers. -/
def txL (f : Nat → Int) (k : Nat) : List UInt8 := Lib.join ((words18 f k).map lst) [32]
theorem textB_tx (f : Nat → Int) : textB f = strB (txL f 17) := rfl
theorem itoaB_dig {n : Int} (h : 0 ≤ n) : itoaB n = strB (Lib.decDigits n.toNat) := by
  unfold itoaB Lib.itoa; rw [if_neg (by omega)]; rfl
theorem txL_zero (f : Nat → Int) : strB (txL f 0) = kw (f 0) := by
  unfold txL; rw [show words18 f 0 = [kw (f 0)] from rfl, List.map_singleton, Lib.join_one, strB_lst]
theorem txL_succ {f : Nat → Int} {k : Nat} (h : 0 ≤ f (1 + k)) : strB (txL f (k + 1)) = strB (txL f k) ++ ⟨#[32]⟩ ++ strB (Lib.decDigits (f (1 + k)).toNat) := by
  unfold txL
  rw [words18_succ, List.map_append, List.map_singleton, join_snoc (by simp [words18]), itoaB_dig h, lst_strB, show (⟨#[32]⟩ : ByteArray) = strB [32] from rfl, strB_app, strB_app]
  simp
theorem txL_len {f : Nat → Int} (h : okO f = true) : ∀ k, k ≤ 17 → (txL f k).length ≤ 10 + 300 * k
  | 0, _ => by
    have h1 : (strB (txL f 0)).size = (txL f 0).length := strB_size _
    rw [txL_zero] at h1
    have : (kw (f 0)).size ≤ 10 := by unfold kw; (repeat' split) <;> decide
    omega
  | k + 1, hk => by
    have ih := txL_len h k (by omega)
    have hp := (okO_parts h).2 (1 + k) (by omega) (by omega)
    have h1 := strB_size (txL f (k + 1))
    rw [txL_succ hp.1, ByteArray.size_append, ByteArray.size_append, strB_size, strB_size] at h1
    have h2 := decDigits_len (f (1 + k)).toNat
    have h3 : (⟨#[32]⟩ : ByteArray).size = 1 := rfl
    omega

set_option maxRecDepth 100000 in
set_option maxHeartbeats 3200000 in
theorem rtext_c (f : Nat → Int) (w : World) : Calls Tryd.prog 9 #[.agg (cells18 f)] w (STextO f w) := by
  have hck := fun W => rcheck_c f W
  have hO := Blk.newAt w 26 (cells18 f) w.heap.size rfl
  have hb := below_alloc w (.cells (cells18 f) 26)
  unfold STextO
  by_cases h0 : okO f = true
  · have hce : checkErr f = 0 := by unfold checkErr; rw [if_pos h0]
    rw [if_pos h0, hce, textB_tx]
    rw [hce] at hck
    have HCK := hide hck
    have hpa := okO_parts h0
    have HLEN := hide (fun k h => txL_len h0 k h)
    have HTX := hide (fun k (h : 0 ≤ f (1 + k)) => txL_succ h)
    have HPA := hide hpa.2
    have hf0 := hpa.1
    have HT0 := hide (txL_zero f)
    clear hck h0 hce hpa
    go_enter Tryd.func9, Tryd.ntmps9
    go_upto_region 1 with fail
    obtain ⟨W, hW⟩ : ∃ W, W = w.alloc (.cells (cells18 f) 26) := ⟨_, rfl⟩
    rw [← hW] at hO hb ⊢
    clear hW
    obtain ⟨gO, hgO⟩ : ∃ q, q = w.heap.size := ⟨_, rfl⟩
    rw [← hgO] at hO ⊢
    have HGO := hide hgO
    clear hgO
    go_upto_region 3 with (first | (refine wl_load (o := ⟨some 7, _, _, _, _, _⟩) rfl 26 _ rfl gO rfl 26 (cells18 f) _ hO Tryd.underlying26 rfl (by kernel_rfl) ?_) | (go_at_call 11; refine (HCK.out _).mono ?_; rintro e w1 ⟨rfl, hb1⟩))
    have hO1 := hO.keep hb1
    have hb2 := below_on hb hb1
    clear hO hb hb1 HCK
    have o0 := (hO1.cell 0).trans (cells18_get f (by omega))
    have hgw : gO < w1.heap.size := hO1.lt
    have hz : f 0 = 0 ∨ f 0 = 1 ∨ f 0 = 2 := by omega
    have HKC := hide (fun W => rkinds_c W)
    have HO0 := hide (fun W (h : Below w1.heap.size w1 W) => (h.cell (p := ⟨gO, 0, none⟩) hgw).trans o0)
    rcases hz with hz | hz | hz
    · have HT := hide (show strB (txL f 0) = kw 0 by rw [HT0.out, hz])
      rw [hz] at HO0 o0
      have HZ := hide hz
      clear hz HT0
      have e2 := HO0.out (w1.alloc (.cells #[.string ⟨#[112, 114, 101, 112, 97, 114, 101]⟩, .string ⟨#[100, 101, 99, 111, 121]⟩, .string ⟨#[112, 97, 105, 114, 115]⟩] 9)) (below_alloc w1 _)
      have hi0 : (0 : Int) ≤ 0 := by omega
      go_region_with (first | (go_at_call 35; refine (HKC.out _).mono ?_; rintro e w2 ⟨rfl, rfl⟩))
      all_goals
        have hb3 := below_on hb2 (below_alloc w1 (.cells #[.string ⟨#[112, 114, 101, 112, 97, 114, 101]⟩, .string ⟨#[100, 101, 99, 111, 121]⟩, .string ⟨#[112, 97, 105, 114, 115]⟩] 9)).drew
        have hO3 := (hO1.alloc (.cells #[.string ⟨#[112, 114, 101, 112, 97, 114, 101]⟩, .string ⟨#[100, 101, 99, 111, 121]⟩, .string ⟨#[112, 97, 105, 114, 115]⟩] 9)).drew
        obtain ⟨w3, hw3⟩ : ∃ q, q = (w1.alloc (.cells #[.string ⟨#[112, 114, 101, 112, 97, 114, 101]⟩, .string ⟨#[100, 101, 99, 111, 121]⟩, .string ⟨#[112, 97, 105, 114, 115]⟩] 9)).drew := ⟨_, rfl⟩
        rw [← hw3] at hb3 hO3 ⊢
        clear hw3 hO1 hb2 HO0 o0 e2 HKC hgw
        obtain ⟨t0, ht0⟩ : ∃ t, t = kw 0 := ⟨_, rfl⟩
        rw [← ht0] at HT
        rw [show (⟨#[112, 114, 101, 112, 97, 114, 101]⟩ : ByteArray) = t0 by rw [ht0]; rfl]
        have HT1 := hide ht0
        clear ht0
        go_upto_region 6 with (first | (refine wl_load (o := ⟨some 15, _, _, _, _, _⟩) rfl 26 _ rfl gO rfl 26 (cells18 f) _ hO3 Tryd.underlying26 rfl (by kernel_rfl) ?_) | (go_at_call 36; refine (rnumbers_c f _).mono ?_; rintro e w4 ⟨A, c, rfl, r4, hb4⟩))
        have hb5 := below_on hb3 hb4
        have hcap := r4.cap
        have hmax := r4.max
        clear hO3 hb3 hb4
        go_loopw [6, 4] (fun iv tv wr => ∃ k : Nat, k ≤ 17 ∧ iv = .int .i64 k ∧ tv = .string (strB (txL f k)) ∧ wr = w4) (fun iv _ _ => 17 - (intOf iv).toNat)
        case atStart => exact ⟨0, by omega, rfl, by rw [HT.out], rfl⟩
        case round =>
          obtain ⟨k, hk, rfl, rfl, rfl⟩ := hrel
          by_cases hlt : k < 17
          · obtain ⟨b1, off, x, rfl, hbb, hx, hc⟩ := r4.get hlt
            have x0 := hc 0 _ rfl
            simp only [eInt, Nat.add_zero, Nat.mul_one] at x0
            rw [numL_get f hlt] at hx
            have hxe : f (1 + k) = x := Option.some.inj hx
            obtain ⟨p1, p2⟩ := HPA.out (1 + k) (by omega) (by omega)
            have HTX2 := hide (HTX.out k p1)
            rw [hxe] at p1 p2 HTX2
            obtain ⟨n, rfl⟩ := Int.eq_ofNat_of_zero_le p1
            rw [Int.toNat_natCast] at HTX2
            have l1 := HLEN.out k (by omega)
            have l2 := decDigits_len n
            rw [← strB_size] at l1 l2
            have HDI := hide (digits_c n (by omega) wr)
            obtain ⟨a, ha⟩ : ∃ a, a = strB (txL f k) := ⟨_, rfl⟩
            obtain ⟨b, hbe⟩ : ∃ b, b = strB (Lib.decDigits n) := ⟨_, rfl⟩
            rw [← ha] at l1 HTX2 ⊢
            rw [← hbe] at l2 HTX2 HDI
            have la : (a.size : Int) ≤ 6000 := by omega
            have lb : (b.size : Int) ≤ 300 := by omega
            clear hc hx hxe l1 l2 ha hbe
            go_wp2_with (go_at_call 37; refine HDI.out.mono ?_; rintro e w5 ⟨rfl, rfl⟩)
            go_roundw
            case rel => exact ⟨k + 1, by omega, by go_num, by rw [HTX2.out], trivial⟩
            case measure => simp [intOf] <;> omega
          · obtain rfl : k = 17 := by omega
            go_wp2
            go_ret2
            exact ⟨rfl, hb5⟩
    · have HT := hide (show strB (txL f 0) = kw 1 by rw [HT0.out, hz])
      rw [hz] at HO0 o0
      have HZ := hide hz
      clear hz HT0
      have e2 := HO0.out (w1.alloc (.cells #[.string ⟨#[112, 114, 101, 112, 97, 114, 101]⟩, .string ⟨#[100, 101, 99, 111, 121]⟩, .string ⟨#[112, 97, 105, 114, 115]⟩] 9)) (below_alloc w1 _)
      have hi0 : (0 : Int) ≤ 1 := by omega
      go_region_with (first | (go_at_call 35; refine (HKC.out _).mono ?_; rintro e w2 ⟨rfl, rfl⟩))
      all_goals
        have hb3 := below_on hb2 (below_alloc w1 (.cells #[.string ⟨#[112, 114, 101, 112, 97, 114, 101]⟩, .string ⟨#[100, 101, 99, 111, 121]⟩, .string ⟨#[112, 97, 105, 114, 115]⟩] 9)).drew
        have hO3 := (hO1.alloc (.cells #[.string ⟨#[112, 114, 101, 112, 97, 114, 101]⟩, .string ⟨#[100, 101, 99, 111, 121]⟩, .string ⟨#[112, 97, 105, 114, 115]⟩] 9)).drew
        obtain ⟨w3, hw3⟩ : ∃ q, q = (w1.alloc (.cells #[.string ⟨#[112, 114, 101, 112, 97, 114, 101]⟩, .string ⟨#[100, 101, 99, 111, 121]⟩, .string ⟨#[112, 97, 105, 114, 115]⟩] 9)).drew := ⟨_, rfl⟩
        rw [← hw3] at hb3 hO3 ⊢
        clear hw3 hO1 hb2 HO0 o0 e2 HKC hgw
        obtain ⟨t0, ht0⟩ : ∃ t, t = kw 1 := ⟨_, rfl⟩
        rw [← ht0] at HT
        rw [show (⟨#[100, 101, 99, 111, 121]⟩ : ByteArray) = t0 by rw [ht0]; rfl]
        have HT1 := hide ht0
        clear ht0
        go_upto_region 6 with (first | (refine wl_load (o := ⟨some 15, _, _, _, _, _⟩) rfl 26 _ rfl gO rfl 26 (cells18 f) _ hO3 Tryd.underlying26 rfl (by kernel_rfl) ?_) | (go_at_call 36; refine (rnumbers_c f _).mono ?_; rintro e w4 ⟨A, c, rfl, r4, hb4⟩))
        have hb5 := below_on hb3 hb4
        have hcap := r4.cap
        have hmax := r4.max
        clear hO3 hb3 hb4
        go_loopw [6, 4] (fun iv tv wr => ∃ k : Nat, k ≤ 17 ∧ iv = .int .i64 k ∧ tv = .string (strB (txL f k)) ∧ wr = w4) (fun iv _ _ => 17 - (intOf iv).toNat)
        case atStart => exact ⟨0, by omega, rfl, by rw [HT.out], rfl⟩
        case round =>
          obtain ⟨k, hk, rfl, rfl, rfl⟩ := hrel
          by_cases hlt : k < 17
          · obtain ⟨b1, off, x, rfl, hbb, hx, hc⟩ := r4.get hlt
            have x0 := hc 0 _ rfl
            simp only [eInt, Nat.add_zero, Nat.mul_one] at x0
            rw [numL_get f hlt] at hx
            have hxe : f (1 + k) = x := Option.some.inj hx
            obtain ⟨p1, p2⟩ := HPA.out (1 + k) (by omega) (by omega)
            have HTX2 := hide (HTX.out k p1)
            rw [hxe] at p1 p2 HTX2
            obtain ⟨n, rfl⟩ := Int.eq_ofNat_of_zero_le p1
            rw [Int.toNat_natCast] at HTX2
            have l1 := HLEN.out k (by omega)
            have l2 := decDigits_len n
            rw [← strB_size] at l1 l2
            have HDI := hide (digits_c n (by omega) wr)
            obtain ⟨a, ha⟩ : ∃ a, a = strB (txL f k) := ⟨_, rfl⟩
            obtain ⟨b, hbe⟩ : ∃ b, b = strB (Lib.decDigits n) := ⟨_, rfl⟩
            rw [← ha] at l1 HTX2 ⊢
            rw [← hbe] at l2 HTX2 HDI
            have la : (a.size : Int) ≤ 6000 := by omega
            have lb : (b.size : Int) ≤ 300 := by omega
            clear hc hx hxe l1 l2 ha hbe
            go_wp2_with (go_at_call 37; refine HDI.out.mono ?_; rintro e w5 ⟨rfl, rfl⟩)
            go_roundw
            case rel => exact ⟨k + 1, by omega, by go_num, by rw [HTX2.out], trivial⟩
            case measure => simp [intOf] <;> omega
          · obtain rfl : k = 17 := by omega
            go_wp2
            go_ret2
            exact ⟨rfl, hb5⟩
    · have HT := hide (show strB (txL f 0) = kw 2 by rw [HT0.out, hz])
      rw [hz] at HO0 o0
      have HZ := hide hz
      clear hz HT0
      have e2 := HO0.out (w1.alloc (.cells #[.string ⟨#[112, 114, 101, 112, 97, 114, 101]⟩, .string ⟨#[100, 101, 99, 111, 121]⟩, .string ⟨#[112, 97, 105, 114, 115]⟩] 9)) (below_alloc w1 _)
      have hi0 : (0 : Int) ≤ 2 := by omega
      go_region_with (first | (go_at_call 35; refine (HKC.out _).mono ?_; rintro e w2 ⟨rfl, rfl⟩))
      all_goals
        have hb3 := below_on hb2 (below_alloc w1 (.cells #[.string ⟨#[112, 114, 101, 112, 97, 114, 101]⟩, .string ⟨#[100, 101, 99, 111, 121]⟩, .string ⟨#[112, 97, 105, 114, 115]⟩] 9)).drew
        have hO3 := (hO1.alloc (.cells #[.string ⟨#[112, 114, 101, 112, 97, 114, 101]⟩, .string ⟨#[100, 101, 99, 111, 121]⟩, .string ⟨#[112, 97, 105, 114, 115]⟩] 9)).drew
        obtain ⟨w3, hw3⟩ : ∃ q, q = (w1.alloc (.cells #[.string ⟨#[112, 114, 101, 112, 97, 114, 101]⟩, .string ⟨#[100, 101, 99, 111, 121]⟩, .string ⟨#[112, 97, 105, 114, 115]⟩] 9)).drew := ⟨_, rfl⟩
        rw [← hw3] at hb3 hO3 ⊢
        clear hw3 hO1 hb2 HO0 o0 e2 HKC hgw
        obtain ⟨t0, ht0⟩ : ∃ t, t = kw 2 := ⟨_, rfl⟩
        rw [← ht0] at HT
        rw [show (⟨#[112, 97, 105, 114, 115]⟩ : ByteArray) = t0 by rw [ht0]; rfl]
        have HT1 := hide ht0
        clear ht0
        go_upto_region 6 with (first | (refine wl_load (o := ⟨some 15, _, _, _, _, _⟩) rfl 26 _ rfl gO rfl 26 (cells18 f) _ hO3 Tryd.underlying26 rfl (by kernel_rfl) ?_) | (go_at_call 36; refine (rnumbers_c f _).mono ?_; rintro e w4 ⟨A, c, rfl, r4, hb4⟩))
        have hb5 := below_on hb3 hb4
        have hcap := r4.cap
        have hmax := r4.max
        clear hO3 hb3 hb4
        go_loopw [6, 4] (fun iv tv wr => ∃ k : Nat, k ≤ 17 ∧ iv = .int .i64 k ∧ tv = .string (strB (txL f k)) ∧ wr = w4) (fun iv _ _ => 17 - (intOf iv).toNat)
        case atStart => exact ⟨0, by omega, rfl, by rw [HT.out], rfl⟩
        case round =>
          obtain ⟨k, hk, rfl, rfl, rfl⟩ := hrel
          by_cases hlt : k < 17
          · obtain ⟨b1, off, x, rfl, hbb, hx, hc⟩ := r4.get hlt
            have x0 := hc 0 _ rfl
            simp only [eInt, Nat.add_zero, Nat.mul_one] at x0
            rw [numL_get f hlt] at hx
            have hxe : f (1 + k) = x := Option.some.inj hx
            obtain ⟨p1, p2⟩ := HPA.out (1 + k) (by omega) (by omega)
            have HTX2 := hide (HTX.out k p1)
            rw [hxe] at p1 p2 HTX2
            obtain ⟨n, rfl⟩ := Int.eq_ofNat_of_zero_le p1
            rw [Int.toNat_natCast] at HTX2
            have l1 := HLEN.out k (by omega)
            have l2 := decDigits_len n
            rw [← strB_size] at l1 l2
            have HDI := hide (digits_c n (by omega) wr)
            obtain ⟨a, ha⟩ : ∃ a, a = strB (txL f k) := ⟨_, rfl⟩
            obtain ⟨b, hbe⟩ : ∃ b, b = strB (Lib.decDigits n) := ⟨_, rfl⟩
            rw [← ha] at l1 HTX2 ⊢
            rw [← hbe] at l2 HTX2 HDI
            have la : (a.size : Int) ≤ 6000 := by omega
            have lb : (b.size : Int) ≤ 300 := by omega
            clear hc hx hxe l1 l2 ha hbe
            go_wp2_with (go_at_call 37; refine HDI.out.mono ?_; rintro e w5 ⟨rfl, rfl⟩)
            go_roundw
            case rel => exact ⟨k + 1, by omega, by go_num, by rw [HTX2.out], trivial⟩
            case measure => simp [intOf] <;> omega
          · obtain rfl : k = 17 := by omega
            go_wp2
            go_ret2
            exact ⟨rfl, hb5⟩
  · have hce : checkErr f = 2 := by unfold checkErr; rw [if_neg h0]
    rw [if_neg h0, hce]
    rw [hce] at hck
    have HCK := hide hck
    clear hck h0 hce
    go_enter Tryd.func9, Tryd.ntmps9
    go_wp2_with (first | (refine wl_load (o := ⟨some 7, _, _, _, _, _⟩) rfl 26 _ rfl w.heap.size rfl 26 (cells18 f) _ hO Tryd.underlying26 rfl (by kernel_rfl) ?_) | (go_at_call 11; refine (HCK.out _).mono ?_; rintro e w1 ⟨rfl, hb1⟩))
    go_ret2
    exact ⟨rfl, below_on hb hb1⟩
end Go.Proofs.YthdidjnhfkeokaaDoor
