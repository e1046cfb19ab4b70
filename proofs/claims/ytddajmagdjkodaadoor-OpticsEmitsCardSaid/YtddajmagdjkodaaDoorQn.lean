/- The walk of the law OpticsAgrees. -/
import Derived.Test.YtddajmagdjkodaaDoorQe
import Derived.Test.YtddajmagdjkodaaDoorQg
import Derived.Test.YtddajmagdjkodaaDoorQh
import Derived.Test.YtddajmagdjkodaaDoorQl
namespace Go.Proofs.YtddajmagdjkodaaDoor
open Go.RowKit

theorem row_of12 (f : Nat → Nat) (j : Nat) (hj : j < 3) (w : World) : (Go.part 33 (cells12 f) (j * Tryd.prog.cellsOf 33)).run Tryd.prog w = .ok (.agg #[.int .i64 (f (4 * j)), .int .i64 (f (4 * j + 1)), .int .i64 (f (4 * j + 2)), .int .i64 (f (4 * j + 3))]) w := by
  have hc : Tryd.prog.cellsOf 33 = 4 := by kernel_rfl
  rw [hc]
  simp only [Go.part, Sem.run_bind, Tryd.isAgg33, Result.andThen_ok, if_true, Sem.run_pure, Tryd.sizeOf33]
  match j, hj with
  | 0, _ | 1, _ | 2, _ => simp [cells12]
theorem eql12 (f : Nat → Nat) (w : World) : (binOp .eql 34 (.agg (cells12 f)) (.agg (cells12 f))).run Tryd.prog w = .ok (.bool true) w := by
  obtain ⟨i, hi⟩ : ∃ i, Tryd.prog.info? 3 = some i := by
    have := info_int
    cases h : Tryd.prog.info? 3 with
    | none => simp [h] at this
    | some i => exact ⟨i, rfl⟩
  have hs : (Tryd.prog.info? 33).isSome = true := by kernel_rfl
  obtain ⟨i4, hi4⟩ := Option.isSome_iff_exists.1 hs
  have step : ∀ a0 a1 a2 a3 : Int, (Op.equalIn 9999 33 (.agg #[.int .i64 a0, .int .i64 a1, .int .i64 a2, .int .i64 a3]) (.agg #[.int .i64 a0, .int .i64 a1, .int .i64 a2, .int .i64 a3])).run Tryd.prog w = .ok true w := fun a0 a1 a2 a3 => by
    rw [run_equalIn_array w 9998 _ _ Tryd.underlying33 hi, eqItems_int 9997 Tryd.underlying3 cells_int _ _ (fun j => match j with | 0 => a0 | 1 => a1 | 2 => a2 | _ => a3) (fun j => match j with | 0 => a0 | 1 => a1 | 2 => a2 | _ => a3) w (List.range 4) (fun j hj => by
      have hj : j < 4 := by simpa using hj
      match j, hj with
      | 0, _ | 1, _ | 2, _ | 3, _ => exact ⟨rfl, rfl⟩)]
    simp
  rw [run_eql_struct, run_equalIn_array w 9999 _ _ Tryd.underlying34 hi4]
  rw [show List.range 3 = [0, 1, 2] from rfl]
  simp only [Op.eqItems, Sem.run_bind, row_of12 f 0 (by omega), row_of12 f 1 (by omega), row_of12 f 2 (by omega), Result.andThen_ok, step, Bool.not_true, Bool.false_eq_true, if_false, Sem.run_pure]

set_option maxRecDepth 100000 in
set_option maxHeartbeats 3200000 in
theorem agrees_w (A : Option Addr) (n c : Nat) (L : List Pu) (A' : Option Addr) (m d : Nat) (C : List Ck) (sh : Int) (_wsh : (Lit.int .i64 sh).wf = true) (A2 : Option Addr) (q r : Nat) (N : List No) (w : World) (s : Rd ePu w w.heap.size A n c L) (t : Rd eCk w w.heap.size A' m d C) (u : Rd eNo w w.heap.size A2 q r N) (ht : Tab w) :
    Calls Tryd.prog 3 #[.slice A n c, .slice A' m d, .int .i64 sh, .slice A2 q r] w fun e w' => e = .returned (.bool true) ∧ Below w.heap.size w w' := by
  by_cases h1 : 600 < (n : Int)
  · go_enter Tryd.func3, Tryd.ntmps3
    go_wp2_with (go_at_call 18; refine (works_c _ ht).mono ?_; rintro e w' ⟨rfl, hb⟩)
    go_ret
    exact ⟨rfl, hb⟩
  by_cases h2 : 600 < (m : Int)
  · go_enter Tryd.func3, Tryd.ntmps3
    go_wp2_with (go_at_call 18; refine (works_c _ ht).mono ?_; rintro e w' ⟨rfl, hb⟩)
    go_ret
    exact ⟨rfl, hb⟩
  by_cases h3 : 600 < (q : Int)
  · go_enter Tryd.func3, Tryd.ntmps3
    go_wp2_with (go_at_call 18; refine (works_c _ ht).mono ?_; rintro e w' ⟨rfl, hb⟩)
    go_ret
    exact ⟨rfl, hb⟩
  have hee : ∀ x : Int, (x != x) = false := fun x => by simp
  have hne1 := hee (agreeErr L C sh)
  have hne2 := hee (knowsErr L N)
  have heq3 : (countErr L == countErr L) = true := by simp
  have he12 := eql12 (countOf L)
  clear hee
  go_enter Tryd.func3, Tryd.ntmps3
  go_wp2_with fail
  refine (agree_c _ _ _ _ _ _ _ _ sh w s t).mono ?_
  rintro e w1 ⟨B1, n1, c1, B2, n2, c2, rfl, a1, a2, hb1⟩
  have s1 := s.on hb1
  have t1 := t.on hb1
  have u1 := u.on hb1
  clear s t u
  go_wp2_with fail
  refine (ragree_c _ _ _ _ _ _ _ _ sh w1 s1 t1).mono ?_
  rintro e w2 ⟨B3, n3, c3, B4, n4, c4, rfl, a3, a4, hb2⟩
  have s2 := s1.on hb2
  have u2 := u1.on hb2
  have a1' := a1.on hb2
  have a2' := a2.on hb2
  have hbw2 := below_on hb1 hb2
  clear s1 t1 u1 a1 a2 hb1 hb2
  go_wp2_with fail
  refine (ints_same _ _ _ _ _ _ _ w2 a1' a3).mono ?_
  rintro e w3 ⟨rfl, hb3⟩
  have s3 := s2.on hb3
  have u3 := u2.on hb3
  have a2'' := a2'.on hb3
  have a4' := a4.on hb3
  have hbw3 := below_on hbw2 hb3
  clear s2 u2 a1' a3 a2' a4 hb3 hbw2
  go_wp2_with fail
  refine (ints_same _ _ _ _ _ _ _ w3 a2'' a4').mono ?_
  rintro e w4 ⟨rfl, hb4⟩
  have s4 := s3.on hb4
  have u4 := u3.on hb4
  have hbw4 := below_on hbw3 hb4
  clear s3 u3 a2'' a4' hb4 hbw3
  go_wp2_with fail
  refine (knows_c _ _ _ _ _ _ _ _ w4 s4 u4).mono ?_
  rintro e w5 ⟨B5, n5, c5, rfl, a5, hb5⟩
  have s5 := s4.on hb5
  have u5 := u4.on hb5
  have hbw5 := below_on hbw4 hb5
  clear s4 u4 hb5 hbw4
  go_wp2_with fail
  refine (rknows_c _ _ _ _ _ _ _ _ w5 s5 u5).mono ?_
  rintro e w6 ⟨B6, n6, c6, rfl, a6, hb6⟩
  have s6 := s5.on hb6
  have a5' := a5.on hb6
  have hbw6 := below_on hbw5 hb6
  clear s5 u5 a5 hb6 hbw5
  go_wp2_with fail
  refine (ints_same _ _ _ _ _ _ _ w6 a5' a6).mono ?_
  rintro e w7 ⟨rfl, hb7⟩
  have s7 := s6.on hb7
  have hbw7 := below_on hbw6 hb7
  clear s6 a5' a6 hb7 hbw6
  go_wp2_with fail
  refine (count_c _ _ _ _ w7 s7).mono ?_
  rintro e w8 ⟨rfl, hb8⟩
  have s8 := s7.on hb8
  have hbw8 := below_on hbw7 hb8
  clear s7 hb8 hbw7
  have hX := Blk.newAt w8 34 (cells12 fun _ => 0) w8.heap.size rfl
  go_wp2_with (first | (refine wl_store (o := ⟨none, _, _, _, _, _⟩) rfl 34 _ _ rfl w8.heap.size (cells12 (countOf L)) rfl rfl 34 (cells12 fun _ => 0) hX (by kernel_rfl) rfl (cells12_one _) ?_; intro w9 hX9 hg9))
  have hb9 := below_grown (below_alloc w8 _) hg9 (Nat.le_refl _) (Nat.le_refl _)
  have s9 := s8.on hb9
  have hbw9 := below_on hbw8 hb9
  clear s8 hb9 hg9 hbw8
  refine (rcount_c _ _ _ _ w9 s9).mono ?_
  rintro e w10 ⟨rfl, hb10⟩
  have hX10 := hX9.keep hb10
  have hbw10 := below_on hbw9 hb10
  have htw := ht.on hbw10
  have hY := Blk.newAt w10 34 (cells12 fun _ => 0) w10.heap.size rfl
  have hX11 := hX10.alloc (.cells (cells12 fun _ => 0) 34)
  have hlt := hX10.lt
  go_wp2_with (first | (refine wl_store (o := ⟨none, _, _, _, _, _⟩) rfl 34 _ _ rfl w10.heap.size (cells12 (countOf L)) rfl rfl 34 (cells12 fun _ => 0) hY (by kernel_rfl) rfl (cells12_one _) ?_; intro w11 hY11 hg11; refine Hid.out ?_))
  refine hide ?_
  have hX12 := hX11.grown hg11 (by simp; omega)
  have x0 := hX12.cell 0
  have y0 := hY11.cell 0
  have x1 := hX12.cell 1
  have y1 := hY11.cell 1
  have x2 := hX12.cell 2
  have y2 := hY11.cell 2
  have x3 := hX12.cell 3
  have y3 := hY11.cell 3
  have x4 := hX12.cell 4
  have y4 := hY11.cell 4
  have x5 := hX12.cell 5
  have y5 := hY11.cell 5
  have x6 := hX12.cell 6
  have y6 := hY11.cell 6
  have x7 := hX12.cell 7
  have y7 := hY11.cell 7
  have x8 := hX12.cell 8
  have y8 := hY11.cell 8
  have x9 := hX12.cell 9
  have y9 := hY11.cell 9
  have x10 := hX12.cell 10
  have y10 := hY11.cell 10
  have x11 := hX12.cell 11
  have y11 := hY11.cell 11
  simp only [cells12_get _ (show 0 < 12 by omega), cells12_get _ (show 1 < 12 by omega), cells12_get _ (show 2 < 12 by omega), cells12_get _ (show 3 < 12 by omega), cells12_get _ (show 4 < 12 by omega), cells12_get _ (show 5 < 12 by omega), cells12_get _ (show 6 < 12 by omega), cells12_get _ (show 7 < 12 by omega), cells12_get _ (show 8 < 12 by omega), cells12_get _ (show 9 < 12 by omega), cells12_get _ (show 10 < 12 by omega), cells12_get _ (show 11 < 12 by omega)] at x0 y0 x1 y1 x2 y2 x3 y3 x4 y4 x5 y5 x6 y6 x7 y7 x8 y8 x9 y9 x10 y10 x11 y11
  unfold cells12 at he12
  go_wp2_with fail
  have hb11 := below_grown (below_alloc w10 _) hg11 (Nat.le_refl _) (Nat.le_refl _)
  refine (works_c w11 (htw.on hb11)).mono ?_
  rintro e w12 ⟨rfl, hb12⟩
  go_wp2
  go_ret
  exact ⟨rfl, below_on (below_on hbw10 hb11) hb12⟩
end Go.Proofs.YtddajmagdjkodaaDoor
