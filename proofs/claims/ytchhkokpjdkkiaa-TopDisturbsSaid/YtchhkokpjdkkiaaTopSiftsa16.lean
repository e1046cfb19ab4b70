/- Contract of the law's arrangement (the Top seat). -/
import Derived.Test.YtchhkokpjdkkiaaTopSiftsa15
import Derived.Test.YtchhkokpjdkkiaaTopSiftsa03
namespace Go.Proofs.Ytchhkokpjdkkiaa
open Go.RowKit

/-- What a light says by small numbers. -/
structure Lgt where
  k : Nat
  ph : Nat
  et : Nat
  dk : Nat
  sl : Nat
  hd : Nat
  sf : Nat
  a : Nat
  b : Nat
  c : Nat
  ok : k < 256 ∧ ph < 256 ∧ et < 256 ∧ dk < 256 ∧ sl < 256 ∧ hd < 256 ∧ sf < 256 ∧ a < 18446744073709551616 ∧ b < 18446744073709551616 ∧ c < 18446744073709551616
def lgtV (x : Lgt) (R : Value) : Array Value := #[.int .u8 x.k, .int .u8 x.ph, .int .u8 x.et, .int .u8 x.dk, .int .u8 x.sl, .int .u8 x.hd, .int .u8 x.sf, R, .int .u64 x.a, .int .u64 x.b, .int .u64 x.c]
def arrF (kd two et dk : Nat) : Nat → Int := fun j => if kd = 1 then ([1, 20, 60, 176, 256, 0, 0, 0, 120, 130, 6, 0, 20, 196, 40, 0, 256 - (et : Int), (dk : Int)] : List Int).getD j 0
  else ([(kd : Int), 0, 0, 256, 256, 0, 0, 0, 256, 0, 0, 0, 16, 240 - (two : Int), (two : Int), 0, 256 - (et : Int), (dk : Int)] : List Int).getD j 0
def arrOf (x : Lgt) : Nat → Int := arrF (x.k % 3) (x.ph % 120) x.et x.dk
theorem cells18_size (f : Nat → Int) : (cells18 f).size = 18 := rfl
theorem arr_ok (x : Lgt) : checkErr (arrOf x) = 0 := by
  obtain ⟨h1, h2, h3, h4, _⟩ := x.ok
  have hk : x.k % 3 < 3 := Nat.mod_lt _ (by omega)
  have hp : x.ph % 120 < 120 := Nat.mod_lt _ (by omega)
  unfold checkErr
  rw [if_pos]
  unfold arrOf
  generalize x.k % 3 = kd at *
  generalize x.ph % 120 = two at *
  generalize x.et = et at *
  generalize x.dk = dk at *
  by_cases h : kd = 1
  · subst h
    simp [okO, okA, okB, okC, rowsOk, rowL, wts, part, arrF, List.range_succ]
    omega
  · simp [okO, okA, okB, okC, rowsOk, rowL, wts, part, arrF, List.range_succ, h]
    omega
theorem cells18_arr1 (two et dk : Nat) : cells18 (arrF 1 two et dk) = #[.int .i64 1, .int .i64 20, .int .i64 60, .int .i64 176, .int .i64 256, .int .i64 0, .int .i64 0, .int .i64 0, .int .i64 120, .int .i64 130, .int .i64 6, .int .i64 0, .int .i64 20, .int .i64 196, .int .i64 40, .int .i64 0, .int .i64 (256 - (et : Int)), .int .i64 (dk : Int)] := rfl
theorem cells18_arr0 (kd two et dk : Nat) (h : kd ≠ 1) : cells18 (arrF kd two et dk) = #[.int .i64 (kd : Int), .int .i64 0, .int .i64 0, .int .i64 256, .int .i64 256, .int .i64 0, .int .i64 0, .int .i64 0, .int .i64 256, .int .i64 0, .int .i64 0, .int .i64 0, .int .i64 16, .int .i64 (240 - (two : Int)), .int .i64 (two : Int), .int .i64 0, .int .i64 (256 - (et : Int)), .int .i64 (dk : Int)] := by
  unfold cells18 arrF; simp only [if_neg h]; rfl
theorem inf_opt : (Try.prog.info? 57).map (·.size) = some 18 := by kernel_rfl
theorem inf_3 : (Try.prog.info? 53).map (·.size) = some 3 := by kernel_rfl
theorem inf_34 : (Try.prog.info? 55).map (·.size) = some 12 := by kernel_rfl
/-- A part of a row put anew. -/
def setR (cs : Array Value) : Nat → List Value → Array Value
  | _, [] => cs
  | o, v :: r => setR (cs.setIfInBounds o v) (o + 1) r
theorem setCells_blk (g : Nat) (t : TypeId) : ∀ (vs : List Value) (o : Nat) (w : World) (cs : Array Value), Blk w g t cs → Blk (w.setCells g o vs) g t (setR cs o vs) ∧ w.grownBy (w.setCells g o vs) (some g)
  | [], _, w, _, h => ⟨h, World.grownBy.refl w _⟩
  | v :: r, o, w, cs, h => by
    obtain ⟨h1, h2⟩ := setCells_blk g t r (o + 1) _ _ (h.set_ o v)
    exact ⟨h1, (grownBy_setCell w g o v).trans h2⟩
theorem wl_storeMid {P : Program} {ops : Array Oper} {Q : Exit → Act → World → Prop} {rest : List Oper} {o : Oper} {a : Act} {w : World} (hgd : o.guard = none) (ty : TypeId) (x y : Operand) (ho : o.op = .store ty x y) (g i : Nat) (cells : Array Value) (hx : a.eval x = .pointer (some ⟨g, i, none⟩)) (hy : a.eval y = .agg cells)
    (t : TypeId) (old new : Array Value) (hg : Blk w g t old) (hin : i + cells.size ≤ old.size) (hnew : setR old i cells.toList = new) (hi : (P.info? ty).map (·.size) = some cells.size) (h1 : cells.all (·.oneCell') = true)
    (h : ∀ w', Blk w' g t new → w.grownBy w' (some g) → wpList P ops Q rest (a.put o.dst undef) w') : wpList P ops Q (o :: rest) a w := by
  obtain ⟨e1, e2⟩ := setCells_blk g t cells.toList i w old hg
  rw [hnew] at e1
  exact wpList_store_mid hgd ty x y ho g i cells hx hy (fun j hj => ⟨by rw [hg.cell, Array.getElem?_eq_getElem (by omega)]; rfl, hg.frozen _⟩) hi h1 (h _ e1 e2)
set_option maxRecDepth 100000 in
set_option maxHeartbeats 3200000 in
theorem arrangement_c (x : Lgt) (A : Option Addr) (n c : Nat) (w : World) : Calls Try.prog 13 #[.agg (lgtV x (.slice A n c))] w fun e w' => e = .returned (.agg (cells18 (arrOf x))) ∧ Below w.heap.size w w' := by
  obtain ⟨k, ph, et, dk, sl, hd, sf, a, b, c0, ok⟩ := x
  have hB0 := Blk.newAt w 52 (lgtV ⟨k, ph, et, dk, sl, hd, sf, a, b, c0, ok⟩ (.slice A n c)) w.heap.size rfl
  have hb0 := below_alloc w (.cells (lgtV ⟨k, ph, et, dk, sl, hd, sf, a, b, c0, ok⟩ (.slice A n c)) 52)
  obtain ⟨h1, h2, h3, h4, h5, h6, h7, _⟩ := ok
  unfold arrOf
  obtain ⟨two, htwo⟩ : ∃ q, q = ph % 120 := ⟨_, rfl⟩
  obtain ⟨kd, hkd⟩ : ∃ q, q = k % 3 := ⟨_, rfl⟩
  have htwo' : two < 120 := by omega
  have hkd' : kd < 3 := by omega
  have hr1 : (ph : Int) % 120 = (two : Int) := by omega
  have hr2 : (ph : Int).tmod 120 = (two : Int) := by rw [Int.tmod_eq_emod_of_nonneg (by omega)]; exact hr1
  have hr3 : (k : Int) % 3 = (kd : Int) := by omega
  have hr4 : (k : Int).tmod 3 = (kd : Int) := by rw [Int.tmod_eq_emod_of_nonneg (by omega)]; exact hr3
  rw [← htwo, ← hkd]
  clear htwo hkd
  simp only [lgtV] at hB0 hb0 ⊢
  go_enter Try.func13, Try.ntmps13
  go_upto_region 2 with fail
  have hB1 := Blk.newAt (w.alloc (.cells #[.int .u8 (k : Int), .int .u8 (ph : Int), .int .u8 (et : Int), .int .u8 (dk : Int), .int .u8 (sl : Int), .int .u8 (hd : Int), .int .u8 (sf : Int), .slice A n c, .int .u64 (a : Int), .int .u64 (b : Int), .int .u64 (c0 : Int)] 52)) 57 #[.int .i64 0, .int .i64 0, .int .i64 0, .int .i64 0, .int .i64 0, .int .i64 0, .int .i64 0, .int .i64 0, .int .i64 0, .int .i64 0, .int .i64 0, .int .i64 0, .int .i64 0, .int .i64 0, .int .i64 0, .int .i64 0, .int .i64 0, .int .i64 0] (w.heap.size + 1) (by simp)
  have hB0 := hB0.alloc (.cells #[.int .i64 0, .int .i64 0, .int .i64 0, .int .i64 0, .int .i64 0, .int .i64 0, .int .i64 0, .int .i64 0, .int .i64 0, .int .i64 0, .int .i64 0, .int .i64 0, .int .i64 0, .int .i64 0, .int .i64 0, .int .i64 0, .int .i64 0, .int .i64 0] 57)
  have hb1 := hb0.alloc hb0.size (.cells #[.int .i64 0, .int .i64 0, .int .i64 0, .int .i64 0, .int .i64 0, .int .i64 0, .int .i64 0, .int .i64 0, .int .i64 0, .int .i64 0, .int .i64 0, .int .i64 0, .int .i64 0, .int .i64 0, .int .i64 0, .int .i64 0, .int .i64 0, .int .i64 0] 57)
  obtain ⟨w2, hw2⟩ : ∃ q, q = (w.alloc (.cells #[.int .u8 (k : Int), .int .u8 (ph : Int), .int .u8 (et : Int), .int .u8 (dk : Int), .int .u8 (sl : Int), .int .u8 (hd : Int), .int .u8 (sf : Int), .slice A n c, .int .u64 (a : Int), .int .u64 (b : Int), .int .u64 (c0 : Int)] 52)).alloc (.cells #[.int .i64 0, .int .i64 0, .int .i64 0, .int .i64 0, .int .i64 0, .int .i64 0, .int .i64 0, .int .i64 0, .int .i64 0, .int .i64 0, .int .i64 0, .int .i64 0, .int .i64 0, .int .i64 0, .int .i64 0, .int .i64 0, .int .i64 0, .int .i64 0] 57) := ⟨_, rfl⟩
  rw [← hw2] at hB0 hB1 hb1 ⊢
  have hsz : w2.heap.size = w.heap.size + 2 := by rw [hw2]; simp
  clear hw2
  obtain ⟨gR, hgR⟩ : ∃ q, q = w.heap.size + 1 := ⟨_, rfl⟩
  rw [← hgR] at hB1 ⊢
  obtain ⟨gL, hgL⟩ : ∃ q, q = w.heap.size := ⟨_, rfl⟩
  rw [← hgL] at hB0 ⊢
  have l0 := hB0.cell 0
  have l2 := hB0.cell 2
  have l3 := hB0.cell 3
  simp only [List.getElem?_toArray, List.getElem?_cons_zero, List.getElem?_cons_succ] at l0 l2 l3
  have HGS := hide (show w.heap.size ≤ gR ∧ gR < w2.heap.size from ⟨by omega, by omega⟩)
  clear hgR hgL hsz
  go_upto_region 3 with fail
  have hB1 := hB1.alloc (.cells #[.int .i64 (kd : Int), .int .i64 0, .int .i64 0, .int .i64 256, .int .i64 256, .int .i64 0, .int .i64 0, .int .i64 0, .int .i64 256, .int .i64 0, .int .i64 0, .int .i64 0, .int .i64 16, .int .i64 (240 - (two : Int)), .int .i64 (two : Int), .int .i64 0, .int .i64 (256 - (et : Int)), .int .i64 (dk : Int)] 57)
  have hb1 := hb1.alloc hb1.size (.cells #[.int .i64 (kd : Int), .int .i64 0, .int .i64 0, .int .i64 256, .int .i64 256, .int .i64 0, .int .i64 0, .int .i64 0, .int .i64 256, .int .i64 0, .int .i64 0, .int .i64 0, .int .i64 16, .int .i64 (240 - (two : Int)), .int .i64 (two : Int), .int .i64 0, .int .i64 (256 - (et : Int)), .int .i64 (dk : Int)] 57)
  have hO := Blk.newAt w2 57 #[.int .i64 (kd : Int), .int .i64 0, .int .i64 0, .int .i64 256, .int .i64 256, .int .i64 0, .int .i64 0, .int .i64 0, .int .i64 256, .int .i64 0, .int .i64 0, .int .i64 0, .int .i64 16, .int .i64 (240 - (two : Int)), .int .i64 (two : Int), .int .i64 0, .int .i64 (256 - (et : Int)), .int .i64 (dk : Int)] w2.heap.size rfl
  obtain ⟨w3, hw3⟩ : ∃ q, q = w2.alloc (.cells #[.int .i64 (kd : Int), .int .i64 0, .int .i64 0, .int .i64 256, .int .i64 256, .int .i64 0, .int .i64 0, .int .i64 0, .int .i64 256, .int .i64 0, .int .i64 0, .int .i64 0, .int .i64 16, .int .i64 (240 - (two : Int)), .int .i64 (two : Int), .int .i64 0, .int .i64 (256 - (et : Int)), .int .i64 (dk : Int)] 57) := ⟨_, rfl⟩
  rw [← hw3] at hB1 hb1 hO ⊢
  obtain ⟨gO, hgO⟩ : ∃ q, q = w2.heap.size := ⟨_, rfl⟩
  rw [← hgO] at hO ⊢
  have hORD := hide (show w.heap.size ≤ gR ∧ gR ≠ gO ∧ w.heap.size ≤ gO from by have := HGS.out; exact ⟨by omega, by omega, by omega⟩)
  clear hw3 hgO l0 l2 l3 hB0 HGS
  have k0 := hO.cell 0
  simp only [List.getElem?_toArray, List.getElem?_cons_zero] at k0
  by_cases hk1 : kd = 1
  · subst hk1
    go_upto_region 5 with (show wpList _ _ _ (⟨none, _, _, _, _, _⟩ :: _) _ _; refine wl_storeMid (o := ⟨none, _, _, _, _, _⟩) rfl 53 _ _ rfl gO 1 #[.int .i64 20, .int .i64 60, .int .i64 176] rfl rfl 57 #[.int .i64 ((1 : Nat) : Int), .int .i64 0, .int .i64 0, .int .i64 256, .int .i64 256, .int .i64 0, .int .i64 0, .int .i64 0, .int .i64 256, .int .i64 0, .int .i64 0, .int .i64 0, .int .i64 16, .int .i64 (240 - (two : Int)), .int .i64 (two : Int), .int .i64 0, .int .i64 (256 - (et : Int)), .int .i64 (dk : Int)] #[.int .i64 ((1 : Nat) : Int), .int .i64 20, .int .i64 60, .int .i64 176, .int .i64 256, .int .i64 0, .int .i64 0, .int .i64 0, .int .i64 256, .int .i64 0, .int .i64 0, .int .i64 0, .int .i64 16, .int .i64 (240 - (two : Int)), .int .i64 (two : Int), .int .i64 0, .int .i64 (256 - (et : Int)), .int .i64 (dk : Int)] hO (by simp) (by simp only [setR, List.setIfInBounds_toArray, List.set_cons_zero, List.set_cons_succ]) inf_3 (by simp [Value.oneCell']) ?_; intro w4 hO4 hg4)
    have hR4 := hB1.grown hg4 (by have := hORD.out.2.1; simpa using this)
    have hb4 := below_grown hb1 hg4 hORD.out.2.2 (Nat.le_refl _)
    clear hO hg4 hB1 hb1 k0
    go_upto_region 6 with (show wpList _ _ _ (⟨none, _, _, _, _, _⟩ :: _) _ _; refine wl_storeMid (o := ⟨none, _, _, _, _, _⟩) rfl 55 _ _ rfl gO 4 #[.int .i64 256, .int .i64 0, .int .i64 0, .int .i64 0, .int .i64 120, .int .i64 130, .int .i64 6, .int .i64 0, .int .i64 20, .int .i64 196, .int .i64 40, .int .i64 0] rfl rfl 57 #[.int .i64 ((1 : Nat) : Int), .int .i64 20, .int .i64 60, .int .i64 176, .int .i64 256, .int .i64 0, .int .i64 0, .int .i64 0, .int .i64 256, .int .i64 0, .int .i64 0, .int .i64 0, .int .i64 16, .int .i64 (240 - (two : Int)), .int .i64 (two : Int), .int .i64 0, .int .i64 (256 - (et : Int)), .int .i64 (dk : Int)] #[.int .i64 ((1 : Nat) : Int), .int .i64 20, .int .i64 60, .int .i64 176, .int .i64 256, .int .i64 0, .int .i64 0, .int .i64 0, .int .i64 120, .int .i64 130, .int .i64 6, .int .i64 0, .int .i64 20, .int .i64 196, .int .i64 40, .int .i64 0, .int .i64 (256 - (et : Int)), .int .i64 (dk : Int)] hO4 (by simp) (by simp only [setR, List.setIfInBounds_toArray, List.set_cons_zero, List.set_cons_succ]) inf_34 (by simp [Value.oneCell']) ?_; intro w5 hO5 hg5)
    have hR5 := hR4.grown hg5 (by have := hORD.out.2.1; simpa using this)
    have hb5 := below_grown hb4 hg5 hORD.out.2.2 (Nat.le_refl _)
    clear hO4 hg5 hR4 hb4
    have hV := cells18_arr1 two et dk
    go_wp2_with (first | (show wpList _ _ _ (⟨some 39, _, _, _, _, _⟩ :: _) _ _; refine wl_load (o := ⟨some 39, _, _, _, _, _⟩) rfl 57 _ rfl gO rfl 57 #[.int .i64 ((1 : Nat) : Int), .int .i64 20, .int .i64 60, .int .i64 176, .int .i64 256, .int .i64 0, .int .i64 0, .int .i64 0, .int .i64 120, .int .i64 130, .int .i64 6, .int .i64 0, .int .i64 20, .int .i64 196, .int .i64 40, .int .i64 0, .int .i64 (256 - (et : Int)), .int .i64 (dk : Int)] _ hO5 Try.underlying57 rfl inf_opt ?_) | (show wpList _ _ _ (⟨none, _, _, _, _, _⟩ :: _) _ _; refine wl_store (o := ⟨none, _, _, _, _, _⟩) rfl 57 _ _ rfl gR (cells18 (arrF 1 two et dk)) rfl (by rw [hV]; rfl) 57 #[.int .i64 0, .int .i64 0, .int .i64 0, .int .i64 0, .int .i64 0, .int .i64 0, .int .i64 0, .int .i64 0, .int .i64 0, .int .i64 0, .int .i64 0, .int .i64 0, .int .i64 0, .int .i64 0, .int .i64 0, .int .i64 0, .int .i64 0, .int .i64 0] hR5 inf_opt (by rw [cells18_size]; rfl) (cells18_one _) ?_; intro w6 hO6 hg6))
    exact bodyPost_ret (results_cell_row rfl _ _ gR _ _ (0, 0) _ rfl hO6 Try.underlying57 rfl inf_opt) rfl ⟨rfl, below_grown hb5 hg6 hORD.out.1 (Nat.le_refl _)⟩
  · have hV := cells18_arr0 kd two et dk hk1
    have hk1' : ((kd : Int) == 1) = false := by simp; omega
    go_wp2_with (first | (show wpList _ _ _ (⟨some 39, _, _, _, _, _⟩ :: _) _ _; refine wl_load (o := ⟨some 39, _, _, _, _, _⟩) rfl 57 _ rfl gO rfl 57 #[.int .i64 (kd : Int), .int .i64 0, .int .i64 0, .int .i64 256, .int .i64 256, .int .i64 0, .int .i64 0, .int .i64 0, .int .i64 256, .int .i64 0, .int .i64 0, .int .i64 0, .int .i64 16, .int .i64 (240 - (two : Int)), .int .i64 (two : Int), .int .i64 0, .int .i64 (256 - (et : Int)), .int .i64 (dk : Int)] _ hO Try.underlying57 rfl inf_opt ?_) | (show wpList _ _ _ (⟨none, _, _, _, _, _⟩ :: _) _ _; refine wl_store (o := ⟨none, _, _, _, _, _⟩) rfl 57 _ _ rfl gR (cells18 (arrF kd two et dk)) rfl (by rw [hV]; rfl) 57 #[.int .i64 0, .int .i64 0, .int .i64 0, .int .i64 0, .int .i64 0, .int .i64 0, .int .i64 0, .int .i64 0, .int .i64 0, .int .i64 0, .int .i64 0, .int .i64 0, .int .i64 0, .int .i64 0, .int .i64 0, .int .i64 0, .int .i64 0, .int .i64 0] hB1 inf_opt (by rw [cells18_size]; rfl) (cells18_one _) ?_; intro w5 hO5 hg5))
    exact bodyPost_ret (results_cell_row rfl _ _ gR _ _ (0, 0) _ rfl hO5 Try.underlying57 rfl inf_opt) rfl ⟨rfl, below_grown hb1 hg5 hORD.out.1 (Nat.le_refl _)⟩
end Go.Proofs.Ytchhkokpjdkkiaa
