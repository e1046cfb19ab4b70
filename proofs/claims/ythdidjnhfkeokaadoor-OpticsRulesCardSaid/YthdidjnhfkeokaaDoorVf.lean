/- Contracts of the reference's CheckRules and Shift. -/
import Derived.Test.YthdidjnhfkeokaaDoorVd
import Derived.Test.YthdidjnhfkeokaaDoorVe
namespace Go.Proofs.YthdidjnhfkeokaaDoor
open Go.RowKit

set_option maxRecDepth 100000 in
set_option maxHeartbeats 3200000 in
theorem rcheckRules_c (A : Option Addr) (n c : Nat) (L : List Ru) (w : World) (r : Rd eRu w w.heap.size A n c L) :
    Calls Tryd.prog 28 #[.slice A n c] w fun e w' => e = .returned (.int .i64 (rulesErr L)) ∧ Below w.heap.size w w' := by
  have hm := r.max
  have hcap := r.cap
  have HL := hide r.len
  by_cases hbig : 32 < (n : Int)
  · have HE := hide (rulesErr_long (L := L) (by have := HL.out; omega))
    go_enter Tryd.func28, Tryd.ntmps28
    go_wp2
    go_ret
    exact ⟨ret_ru HE.out.symm, Below.refl _ _⟩
  have HN := hide (show ¬ 32 < L.length by have := HL.out; omega)
  have hn2 : n ≤ 32 := by omega
  go_enter Tryd.func28, Tryd.ntmps28
  go_wp2
  go_loopw [3, 4] (fun sv iv wr => ∃ k : Nat, k ≤ n ∧ iv = .int .i64 k ∧ sv = .int .i64 (shifts (L.take k)) ∧ (L.take k).all okRu = true ∧ Below w.heap.size w wr) (fun _ iv _ => n - (intOf iv).toNat)
  case atStart => exact ⟨0, by omega, rfl, rfl, by simp, Below.refl _ _⟩
  case round =>
    obtain ⟨k, hk, rfl, rfl, hall, hbw⟩ := hrel
    have HA := hide hall
    clear hall
    have hs := shifts_le (L.take k)
    have hs2 : (shifts (L.take k)) ≤ 32 := by rw [List.length_take] at hs; omega
    have hs0 : (0 : Int) ≤ (shifts (L.take k) : Int) := by omega
    have hs1 : (shifts (L.take k) : Int) ≤ 32 := by omega
    clear hs
    by_cases hlt : k < n
    · obtain ⟨b, off, x, rfl, hb', hx, hc⟩ := (r.below hbw).get hlt
      have c0 := hc 0 _ rfl
      have c1 := hc 1 _ rfl
      have c2 := hc 2 _ rfl
      have c3 := hc 3 _ rfl
      have c4 := hc 4 _ rfl
      simp only [eRu, Nat.add_zero] at c0 c1 c2 c3 c4
      have HSN := hide (shifts_snoc hx)
      have HX := hide hx
      clear hc hx
      have hb2 : b < wr.heap.size := by have := hbw.size; omega
      have hck := fun W => rcheckRule_c x W
      cases hok : okRu x
      · rw [ruErr_bad hok] at hck
        have HCK := hide hck
        have HE := hide (rulesErr_bad HN.out HX.out hok)
        obtain ⟨xk, xf, xt, xa, xb⟩ := x
        simp only at c0 c1 c2 c3 c4
        clear hck hok
        go_wp2_with (go_at_call 24; refine (HCK.out _).mono ?_; rintro e w1 ⟨rfl, hb1⟩)
        go_ret
        exact ⟨ret_ru HE.out.symm, below_on hbw hb1⟩
      · rw [ruErr_ok hok] at hck
        have HCK := hide hck
        have HOK := hide hok
        obtain ⟨xk, xf, xt, xa, xb⟩ := x
        simp only at c0 c1 c2 c3 c4
        clear hck hok
        by_cases h3 : xk = 3
        · subst h3
          go_wp2_with (go_at_call 24; refine (HCK.out _).mono ?_; rintro e w1 ⟨rfl, hb1⟩; have z0 := (hb1.cell (p := ⟨b, off + k * 5, none⟩) hb2).trans c0)
          go_roundw
          case rel => exact ⟨k + 1, by omega, by go_num, by rw [HSN.out]; go_num, all_take_succ HA.out HX.out HOK.out, below_on hbw hb1⟩
          case measure => simp [intOf] <;> omega
        · have HSN2 := hide (show shifts (L.take (k + 1)) = shifts (L.take k) by rw [HSN.out, if_neg h3]; rfl)
          go_wp2_with (go_at_call 24; refine (HCK.out _).mono ?_; rintro e w1 ⟨rfl, hb1⟩; have z0 := (hb1.cell (p := ⟨b, off + k * 5, none⟩) hb2).trans c0)
          go_roundw
          case rel => exact ⟨k + 1, by omega, by go_num, by rw [HSN2.out], all_take_succ HA.out HX.out HOK.out, below_on hbw hb1⟩
          case measure => simp [intOf] <;> omega
    · have hall := all_whole HA.out HL.out hlt
      have hkn : L.take k = L := by rw [List.take_of_length_le]; have := HL.out; omega
      rw [hkn] at hs0 hs1 hs2 ⊢
      have HE := hide (rulesErr_all HN.out hall)
      clear hall hkn
      by_cases h1 : (1 : Int) < (shifts L : Int)
      · have HE2 := hide (show rulesErr L = 10 by rw [HE.out, if_pos (by omega)])
        go_wp2
        go_ret
        exact ⟨ret_ru HE2.out.symm, hbw⟩
      · have HE2 := hide (show rulesErr L = 0 by rw [HE.out, if_neg (by omega)])
        go_wp2
        go_ret
        exact ⟨ret_ru HE2.out.symm, hbw⟩

set_option maxRecDepth 100000 in
set_option maxHeartbeats 3200000 in
theorem rshift_c (A : Option Addr) (n c : Nat) (L : List Ru) (w : World) (r : Rd eRu w w.heap.size A n c L) :
    Calls Tryd.prog 26 #[.slice A n c] w fun e w' => e = .returned (.tuple #[.int .i64 (shiftErr L), .int .i64 (rulesErr L)]) ∧ Below w.heap.size w w' := by
  have hm := r.max
  have hcap := r.cap
  have HL := hide r.len
  have hcr := rcheckRules_c A n c L w r
  by_cases h0 : rulesErr L = 0
  · have HE := hide (show shiftErr L = shiftOf L by unfold shiftErr; rw [if_pos h0])
    have HZ := hide (rulesErr_zero h0)
    rw [h0] at hcr
    have HCR := hide hcr
    have H0 := hide h0
    clear hcr h0
    go_enter Tryd.func26, Tryd.ntmps26
    go_wp2_with (go_at_call 28; refine HCR.out.mono ?_; rintro e w1 ⟨rfl, hb1⟩)
    have r1 := r.on hb1
    go_loop [5] (fun iv => ∃ k : Nat, k ≤ n ∧ iv = .int .i64 k ∧ (L.take k).all (fun r => !isSh r) = true) (fun iv => n - (intOf iv).toNat)
    case atStart => exact ⟨0, by omega, rfl, by simp⟩
    case round =>
      obtain ⟨k, hk, rfl, hall⟩ := hrel
      have HA := hide hall
      clear hall
      by_cases hlt : k < n
      · obtain ⟨b, off, x, rfl, hb', hx, hc⟩ := r1.get hlt
        have c0 := hc 0 _ rfl
        have c3 := hc 3 _ rfl
        have c4 := hc 4 _ rfl
        simp only [eRu, Nat.add_zero] at c0 c3 c4
        have HX := hide hx
        have hokx : okRu x = true := List.all_eq_true.1 HZ.out.2 x (List.mem_of_getElem? hx)
        clear hc hx
        obtain ⟨xk, xf, xt, xa, xb⟩ := x
        simp only at c0 c3 c4
        by_cases h3 : xk = 3
        · subst h3
          have HS := hide (shiftOf_at HA.out HX.out rfl)
          obtain ⟨hb2, hb3, hb4⟩ := okRu_shift hokx rfl
          simp only at hb2 hb3 hb4
          clear hokx
          rcases hb2 with rfl | rfl
          all_goals
            go_wp2
            go_ret2
            refine ⟨?_, hb1⟩
            rw [HE.out, HS.out, H0.out]
            first
              | (simp only; done)
              | (simp only; go_num)
              | (simp; done)
        · clear hokx
          have HN := hide (show (!isSh ⟨xk, xf, xt, xa, xb⟩) = true by simp [isSh, h3])
          go_wp2
          go_round
          case rel => exact ⟨k + 1, by omega, by go_num, all_take_succ (f := fun r => !isSh r) HA.out HX.out HN.out⟩
          case measure => simp [intOf] <;> omega
      · have hall := all_whole HA.out HL.out hlt
        have HS := hide (shiftOf_none hall)
        clear hall
        go_wp2
        go_ret2
        exact ⟨by rw [HE.out, HS.out, H0.out]; rfl, hb1⟩
  · have HE := hide (show shiftErr L = 0 by unfold shiftErr; rw [if_neg h0])
    have HCR := hide hcr
    have hne : (rulesErr L == 0) = false := by simpa using h0
    have hne2 : (rulesErr L != 0) = true := by simpa using h0
    clear hcr
    go_enter Tryd.func26, Tryd.ntmps26
    go_wp2_with (go_at_call 28; refine HCR.out.mono ?_; rintro e w1 ⟨rfl, hb1⟩)
    go_ret2
    exact ⟨by rw [HE.out]; rfl, hb1⟩
end Go.Proofs.YthdidjnhfkeokaaDoor
