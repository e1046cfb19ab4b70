/- The walk of the law OpticsEmits. -/
import Derived.Test.YtddajmagdjkodaaDoorQza
import Derived.Test.YtddajmagdjkodaaDoorQl
import Derived.Test.YtddajmagdjkodaaDoorQn
import Derived.Test.YtddajmagdjkodaaDoorVzb
import Derived.Test.YtddajmagdjkodaaDoorVt
namespace Go.Proofs.YtddajmagdjkodaaDoor
open Go.RowKit

theorem andThen_bool (w : World) : ∀ r : Result Bool, (r.andThen fun b w' => Result.ok (Value.bool b) w') = .ok (.bool true) w → r = .ok true w := by
  intro r h
  cases r with
  | ok b w' =>
    simp only [Result.andThen] at h
    injection h with h1 h2
    injection h1 with h1
    rw [h1, h2]
  | halt x w' => cases h
theorem eqi12 (f : Nat → Nat) (w : World) : (Op.equalIn 10000 34 (.agg (cells12 f)) (.agg (cells12 f))).run Tryd.prog w = .ok true w :=
  andThen_bool w _ ((run_eql_struct (P := Tryd.prog) (w := w) 34 (cells12 f) (cells12 f)).symm.trans (eql12 f w))
set_option maxRecDepth 100000 in
set_option maxHeartbeats 6400000 in
theorem emits_c (f : Nat → Int) (n : Int) (sd : Nat) (w : World) (ht : Tab w) :
    Calls Tryd.prog 5 #[.agg (cells18 f), .int .i64 n, .int .u64 (sd : Int)] w fun e w' => e = .returned (.bool true) ∧ Below w.heap.size w w' := by
  have hee : ∀ x : Int, (x != x) = false := fun x => by simp
  have hne1 := hee (emitErr f n)
  have hp1 : (countErr (emitL f n sd) == countErr (emitL f n sd)) = true := by simp
  have he12 := eqi12 (countOf (emitL f n sd))
  clear hee
  go_enter Tryd.func5, Tryd.ntmps5
  go_upto_region 1 with fail
  have hO := Blk.newAt w 40 (cells18 f) w.heap.size rfl
  have hb := below_alloc w (.cells (cells18 f) 40)
  have ht1 := ht.on hb
  obtain ⟨W, hW⟩ : ∃ W, W = w.alloc (.cells (cells18 f) 40) := ⟨_, rfl⟩
  rw [← hW] at hO hb ht1 ⊢
  clear hW
  by_cases h1 : 600 < n ∧ n ≤ 4096
  · obtain ⟨h2, h3⟩ := h1
    go_wp2_with (go_at_call 18; refine (works_c _ ht1).mono ?_; rintro e w' ⟨rfl, hb1⟩)
    go_ret
    exact ⟨rfl, below_on hb hb1⟩
  by_cases h6 : 600 < n
  all_goals
    first
      | have h7 : ¬ n ≤ 4096 := by omega
      | skip
    clear h1
    go_upto_region 3 with fail
    go_wp2_with (first | (refine wl_load (o := ⟨some 21, _, _, _, _, _⟩) rfl 40 _ rfl w.heap.size rfl 40 (cells18 f) _ hO Tryd.underlying40 rfl (by kernel_rfl) ?_) | (go_at_call 29; refine (emit_c f n sd W).mono ?_; rintro e w1 ⟨A1, n1, c1, rfl, a1, hb1⟩; refine Hid.out ?_))
    have hO1 := hO.keep hb1
    have hb2 := below_on hb hb1
    have ht2 := ht1.on hb1
    refine hide ?_
    go_wp2_with (first | (refine wl_load (o := ⟨some 28, _, _, _, _, _⟩) rfl 40 _ rfl w.heap.size rfl 40 (cells18 f) _ hO1 Tryd.underlying40 rfl (by kernel_rfl) ?_) | (go_at_call 30; refine (remit_c f n sd w1).mono ?_; rintro e w2 ⟨A2, n2, c2, rfl, a2, hb3⟩; refine Hid.out ?_))
    have a1' := a1.on hb3
    have hb4 := below_on hb2 hb3
    have ht3 := ht2.on hb3
    refine hide ?_
    go_wp2_with (go_at_call 31; refine (samePulses_c A1 A2 n1 c1 n2 c2 _ w2 a1' a2).mono ?_; rintro e w7 ⟨rfl, hb5⟩; refine Hid.out ?_)
    have s7 := a1'.on hb5
    clear a1 a1' a2
    generalize emitL f n sd = L at s7 he12 hp1
    have hbw7 := below_on hb4 hb5
    have ht := ht3.on hb5
    refine hide ?_
    go_wp2_with fail
    refine (count_c _ _ _ _ w7 s7).mono ?_
    rintro e w8 ⟨rfl, hb8⟩
    have s8 := s7.on hb8
    have hbw8 := below_on hbw7 hb8
    have hb8x := hb8
    clear s7 hb8 hbw7
    have hX := Blk.newAt w8 34 (cells12 fun _ => 0) w8.heap.size rfl
    go_wp2_with (first | (refine wl_store (o := ⟨none, _, _, _, _, _⟩) rfl 34 _ _ rfl w8.heap.size (cells12 (countOf L)) rfl rfl 34 (cells12 fun _ => 0) hX (by kernel_rfl) rfl (cells12_one _) ?_; intro w9 hX9 hg9))
    have hb9 := below_grown (below_alloc w8 _) hg9 (Nat.le_refl _) (Nat.le_refl _)
    have s9 := s8.on hb9
    have hbw9 := below_on hbw8 hb9
    have hb9x := hb9
    clear s8 hb9 hg9 hbw8
    refine (rcount_c _ _ _ _ w9 s9).mono ?_
    rintro e w10 ⟨rfl, hb10⟩
    have hX10 := hX9.keep hb10
    have hbw10 := below_on hbw9 hb10
    have htw := ht.on (below_on hb8x (below_on hb9x hb10))
    have hY := Blk.newAt w10 34 (cells12 fun _ => 0) w10.heap.size rfl
    have hX11 := hX10.alloc (.cells (cells12 fun _ => 0) 34)
    have hlt := hX10.lt
    go_wp2_with (first | (refine wl_store (o := ⟨none, _, _, _, _, _⟩) rfl 34 _ _ rfl w10.heap.size (cells12 (countOf L)) rfl rfl 34 (cells12 fun _ => 0) hY (by kernel_rfl) rfl (cells12_one _) ?_; intro w11 hY11 hg11; refine Hid.out ?_))
    refine hide ?_
    have hX12 := hX11.grown hg11 (by simp; omega)
    have x0 := hX12.cell 0
    have y0 := hY11.cell 0
    have x1 := hX12.cell 1
    have y1 := hY11.cell 1
    have x2 := hX12.cell 2
    have y2 := hY11.cell 2
    have x3 := hX12.cell 3
    have y3 := hY11.cell 3
    have x4 := hX12.cell 4
    have y4 := hY11.cell 4
    have x5 := hX12.cell 5
    have y5 := hY11.cell 5
    have x6 := hX12.cell 6
    have y6 := hY11.cell 6
    have x7 := hX12.cell 7
    have y7 := hY11.cell 7
    have x8 := hX12.cell 8
    have y8 := hY11.cell 8
    have x9 := hX12.cell 9
    have y9 := hY11.cell 9
    have x10 := hX12.cell 10
    have y10 := hY11.cell 10
    have x11 := hX12.cell 11
    have y11 := hY11.cell 11
    simp only [cells12_get _ (show 0 < 12 by omega), cells12_get _ (show 1 < 12 by omega), cells12_get _ (show 2 < 12 by omega), cells12_get _ (show 3 < 12 by omega), cells12_get _ (show 4 < 12 by omega), cells12_get _ (show 5 < 12 by omega), cells12_get _ (show 6 < 12 by omega), cells12_get _ (show 7 < 12 by omega), cells12_get _ (show 8 < 12 by omega), cells12_get _ (show 9 < 12 by omega), cells12_get _ (show 10 < 12 by omega), cells12_get _ (show 11 < 12 by omega)] at x0 y0 x1 y1 x2 y2 x3 y3 x4 y4 x5 y5 x6 y6 x7 y7 x8 y8 x9 y9 x10 y10 x11 y11
    unfold cells12 at he12
    have he13 := he12 w11
    go_wp2_with fail
    try (rw [he13]; go_wp2_with fail)
    have hb11 := below_grown (below_alloc w10 _) hg11 (Nat.le_refl _) (Nat.le_refl _)
    refine (works_c w11 (htw.on hb11)).mono ?_
    rintro e w12 ⟨rfl, hb12⟩
    go_wp2
    go_ret
    exact ⟨rfl, below_on (below_on hbw10 hb11) hb12⟩
theorem emits_w (f : Nat → Int) (_ : True) (n : Int) (_wn : (Lit.int .i64 n).wf = true) (sd : Int) (wsd : (Lit.int .u64 sd).wf = true) (w : World) (ht : Tab w) :
    Calls Tryd.prog 5 #[.agg (cells18 f), .int .i64 n, .int .u64 sd] w fun e w' => e = .returned (.bool true) ∧ Below w.heap.size w w' := by
  have h0 : 0 ≤ sd := by simp [Lit.wf, IntKind.min, IntKind.max, IntKind.signed, IntKind.bits] at wsd; omega
  obtain ⟨q, rfl⟩ := Int.eq_ofNat_of_zero_le h0
  exact emits_c f n q w ht
end Go.Proofs.YtddajmagdjkodaaDoor
