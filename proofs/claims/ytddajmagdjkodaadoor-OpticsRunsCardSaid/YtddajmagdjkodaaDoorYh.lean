/- Contract of the reference's Run. The walk of the law OpticsRuns. -/
import Derived.Test.YtddajmagdjkodaaDoorYd
import Derived.Test.YtddajmagdjkodaaDoorQw
import Derived.Test.YtddajmagdjkodaaDoorVf
import Derived.Test.YtddajmagdjkodaaDoorVs
import Derived.Test.YtddajmagdjkodaaDoorVy
import Derived.Test.YtddajmagdjkodaaDoorQx
import Derived.Test.YtddajmagdjkodaaDoorQl
import Derived.Test.YtddajmagdjkodaaDoorVt
namespace Go.Proofs.YtddajmagdjkodaaDoor
open Go.RowKit

set_option maxRecDepth 100000 in
set_option maxHeartbeats 6400000 in
theorem rrun_check (f : Nat → Int) (A : Option Addr) (k c0 : Nat) (L : List Ru) (n : Int) (a b c : Nat) (w : World) (r : Rd eRu w w.heap.size A k c0 L) (h0 : checkErr f = 2) :
    Calls Tryd.prog 45 #[.agg (cells18 f), .slice A k c0, .int .i64 n, .agg #[.int .u64 (a : Int), .int .u64 (b : Int), .int .u64 (c : Int)]] w (SRun f L n a b c w) := by
  have HCR0 := hide (True.intro)
  have HE := hide (runErr_check (L := L) (n := n) h0)
  have hb : Below w.heap.size w (((w.alloc (.cells (cells18 f) 40)).alloc (.cells #[.int .u64 (a : Int), .int .u64 (b : Int), .int .u64 (c : Int)] 80)).alloc (.cells #[.slice none 0 0, .slice none 0 0, .slice none 0 0, .int .i64 0] 77)) := (((Below.refl _ w).alloc (Nat.le_refl _) _).alloc (by simp) _).alloc (by simp; omega) _
  have hO : Blk (((w.alloc (.cells (cells18 f) 40)).alloc (.cells #[.int .u64 (a : Int), .int .u64 (b : Int), .int .u64 (c : Int)] 80)).alloc (.cells #[.slice none 0 0, .slice none 0 0, .slice none 0 0, .int .i64 0] 77)) w.heap.size 40 (cells18 f) := ((Blk.newAt w 40 _ w.heap.size rfl).alloc _).alloc _
  have hS : Blk (((w.alloc (.cells (cells18 f) 40)).alloc (.cells #[.int .u64 (a : Int), .int .u64 (b : Int), .int .u64 (c : Int)] 80)).alloc (.cells #[.slice none 0 0, .slice none 0 0, .slice none 0 0, .int .i64 0] 77)) (w.heap.size + 1) 80 #[.int .u64 (a : Int), .int .u64 (b : Int), .int .u64 (c : Int)] := (Blk.newAt (w.alloc (.cells (cells18 f) 40)) 80 _ (w.heap.size + 1) (by simp)).alloc _
  have hZ : Blk (((w.alloc (.cells (cells18 f) 40)).alloc (.cells #[.int .u64 (a : Int), .int .u64 (b : Int), .int .u64 (c : Int)] 80)).alloc (.cells #[.slice none 0 0, .slice none 0 0, .slice none 0 0, .int .i64 0] 77)) (w.heap.size + 1 + 1) 77 #[.slice none 0 0, .slice none 0 0, .slice none 0 0, .int .i64 0] := Blk.newAt ((w.alloc (.cells (cells18 f) 40)).alloc (.cells #[.int .u64 (a : Int), .int .u64 (b : Int), .int .u64 (c : Int)] 80)) 77 _ (w.heap.size + 1 + 1) (by simp)
  have r1 := r.on hb
  go_enter Tryd.func45, Tryd.ntmps45
  go_upto_region 1 with fail
  obtain ⟨W, hW⟩ : ∃ q, q = (((w.alloc (.cells (cells18 f) 40)).alloc (.cells #[.int .u64 (a : Int), .int .u64 (b : Int), .int .u64 (c : Int)] 80)).alloc (.cells #[.slice none 0 0, .slice none 0 0, .slice none 0 0, .int .i64 0] 77)) := ⟨_, rfl⟩
  rw [← hW] at hb hO hS hZ r1 ⊢
  clear hW r
  have hgZ : w.heap.size ≤ w.heap.size + 1 + 1 := by omega
  obtain ⟨gZ, hgZe⟩ : ∃ q, q = w.heap.size + 1 + 1 := ⟨_, rfl⟩
  rw [← hgZe] at hZ hgZ ⊢
  obtain ⟨gS, hgSe⟩ : ∃ q, q = w.heap.size + 1 := ⟨_, rfl⟩
  rw [← hgSe] at hS ⊢
  obtain ⟨gO, hgOe⟩ : ∃ q, q = w.heap.size := ⟨_, rfl⟩
  rw [← hgOe] at hO ⊢
  have HG := hide (And.intro hgZe (And.intro hgSe hgOe))
  clear hgZe hgSe hgOe
  have HCK := hide ((fun W => by have h := rcheck_c f W; rw [h0] at h; exact h) W)
  clear h0
  go_wp2_with (first | (refine wl_load (o := ⟨some 18, _, _, _, _, _⟩) rfl 40 _ rfl gO rfl 40 (cells18 f) _ hO Tryd.underlying40 rfl (by kernel_rfl) ?_) | (go_at_call 41; refine HCK.out.mono ?_; rintro e w1 ⟨rfl, hb1⟩; have O1 := hO.keep hb1; have S1 := hS.keep hb1; have Z1 := hZ.keep hb1; have r2 := r1.on hb1; have B1 := below_on hb hb1) | (refine wl_store (o := ⟨none, _, _, _, _, _⟩) rfl 77 _ _ rfl gZ #[.slice none 0 0, .slice none 0 0, .slice none 0 0, .int .i64 0] rfl rfl 77 _ Z1 (by kernel_rfl) rfl (by simp [Value.oneCell']) ?_; intro w9 hZ9 hg9))
  refine bodyPost_ret (results_row_tmp rfl _ _ gZ 77 _ _ rfl hZ9 Tryd.underlying77 rfl (by kernel_rfl)) rfl (SRun.err HE.out (by omega) (below_grown B1 hg9 hgZ (Nat.le_refl _)))

set_option maxRecDepth 100000 in
set_option maxHeartbeats 6400000 in
theorem rrun_rules (f : Nat → Int) (A : Option Addr) (k c0 : Nat) (L : List Ru) (n : Int) (a b c : Nat) (w : World) (r : Rd eRu w w.heap.size A k c0 L) (h0 : checkErr f = 0) (h1 : rulesErr L ≠ 0) :
    Calls Tryd.prog 45 #[.agg (cells18 f), .slice A k c0, .int .i64 n, .agg #[.int .u64 (a : Int), .int .u64 (b : Int), .int .u64 (c : Int)]] w (SRun f L n a b c w) := by
  have HCR0 : ∀ w1, Rd eRu w1 w1.heap.size A k c0 L → Calls Tryd.prog 56 #[.slice A k c0] w1 fun e w' => e = .returned (.tuple #[.int .i64 (shiftErr L), .int .i64 (rulesErr L)]) ∧ Below w1.heap.size w1 w' := fun w1 h => rshift_c A k c0 L w1 h
  have HE := hide (runErr_rules (n := n) h0 h1)
  have HNE := hide h1
  have hne2 : (rulesErr L != 0) = true := by simpa using h1
  have hne : (rulesErr L == 0) = false := by simpa using h1
  have hb : Below w.heap.size w (((w.alloc (.cells (cells18 f) 40)).alloc (.cells #[.int .u64 (a : Int), .int .u64 (b : Int), .int .u64 (c : Int)] 80)).alloc (.cells #[.slice none 0 0, .slice none 0 0, .slice none 0 0, .int .i64 0] 77)) := (((Below.refl _ w).alloc (Nat.le_refl _) _).alloc (by simp) _).alloc (by simp; omega) _
  have hO : Blk (((w.alloc (.cells (cells18 f) 40)).alloc (.cells #[.int .u64 (a : Int), .int .u64 (b : Int), .int .u64 (c : Int)] 80)).alloc (.cells #[.slice none 0 0, .slice none 0 0, .slice none 0 0, .int .i64 0] 77)) w.heap.size 40 (cells18 f) := ((Blk.newAt w 40 _ w.heap.size rfl).alloc _).alloc _
  have hS : Blk (((w.alloc (.cells (cells18 f) 40)).alloc (.cells #[.int .u64 (a : Int), .int .u64 (b : Int), .int .u64 (c : Int)] 80)).alloc (.cells #[.slice none 0 0, .slice none 0 0, .slice none 0 0, .int .i64 0] 77)) (w.heap.size + 1) 80 #[.int .u64 (a : Int), .int .u64 (b : Int), .int .u64 (c : Int)] := (Blk.newAt (w.alloc (.cells (cells18 f) 40)) 80 _ (w.heap.size + 1) (by simp)).alloc _
  have hZ : Blk (((w.alloc (.cells (cells18 f) 40)).alloc (.cells #[.int .u64 (a : Int), .int .u64 (b : Int), .int .u64 (c : Int)] 80)).alloc (.cells #[.slice none 0 0, .slice none 0 0, .slice none 0 0, .int .i64 0] 77)) (w.heap.size + 1 + 1) 77 #[.slice none 0 0, .slice none 0 0, .slice none 0 0, .int .i64 0] := Blk.newAt ((w.alloc (.cells (cells18 f) 40)).alloc (.cells #[.int .u64 (a : Int), .int .u64 (b : Int), .int .u64 (c : Int)] 80)) 77 _ (w.heap.size + 1 + 1) (by simp)
  have r1 := r.on hb
  go_enter Tryd.func45, Tryd.ntmps45
  go_upto_region 1 with fail
  obtain ⟨W, hW⟩ : ∃ q, q = (((w.alloc (.cells (cells18 f) 40)).alloc (.cells #[.int .u64 (a : Int), .int .u64 (b : Int), .int .u64 (c : Int)] 80)).alloc (.cells #[.slice none 0 0, .slice none 0 0, .slice none 0 0, .int .i64 0] 77)) := ⟨_, rfl⟩
  rw [← hW] at hb hO hS hZ r1 ⊢
  clear hW r
  have hgZ : w.heap.size ≤ w.heap.size + 1 + 1 := by omega
  obtain ⟨gZ, hgZe⟩ : ∃ q, q = w.heap.size + 1 + 1 := ⟨_, rfl⟩
  rw [← hgZe] at hZ hgZ ⊢
  obtain ⟨gS, hgSe⟩ : ∃ q, q = w.heap.size + 1 := ⟨_, rfl⟩
  rw [← hgSe] at hS ⊢
  obtain ⟨gO, hgOe⟩ : ∃ q, q = w.heap.size := ⟨_, rfl⟩
  rw [← hgOe] at hO ⊢
  have HG := hide (And.intro hgZe (And.intro hgSe hgOe))
  clear hgZe hgSe hgOe
  have HCK := hide ((fun W => by have h := rcheck_c f W; rw [h0] at h; exact h) W)
  clear h0 h1
  go_wp2_with (first | (refine wl_load (o := ⟨some 18, _, _, _, _, _⟩) rfl 40 _ rfl gO rfl 40 (cells18 f) _ hO Tryd.underlying40 rfl (by kernel_rfl) ?_) | (go_at_call 41; refine HCK.out.mono ?_; rintro e w1 ⟨rfl, hb1⟩; have O1 := hO.keep hb1; have S1 := hS.keep hb1; have Z1 := hZ.keep hb1; have r2 := r1.on hb1; have B1 := below_on hb hb1; have HCR := hide (HCR0 w1 r2)) | (go_at_call 56; refine HCR.out.mono ?_; rintro e w2 ⟨rfl, hb2⟩; have O2 := O1.keep hb2; have S2 := S1.keep hb2; have Z2 := Z1.keep hb2; have r3 := r2.on hb2; have B2 := below_on B1 hb2; have q0 := S2.cell 0; simp only [List.getElem?_toArray, List.getElem?_cons_zero] at q0) | (refine wl_store (o := ⟨none, _, _, _, _, _⟩) rfl 77 _ _ rfl gZ #[.slice none 0 0, .slice none 0 0, .slice none 0 0, .int .i64 0] rfl rfl 77 _ Z2 (by kernel_rfl) rfl (by simp [Value.oneCell']) ?_; intro w9 hZ9 hg9))
  refine bodyPost_ret (results_row_tmp rfl _ _ gZ 77 _ _ rfl hZ9 Tryd.underlying77 rfl (by kernel_rfl)) rfl (SRun.err HE.out HNE.out (below_grown B2 hg9 hgZ (Nat.le_refl _)))

set_option maxRecDepth 100000 in
set_option maxHeartbeats 6400000 in
theorem rrun_emit (f : Nat → Int) (A : Option Addr) (k c0 : Nat) (L : List Ru) (n : Int) (a b c : Nat) (w : World) (r : Rd eRu w w.heap.size A k c0 L) (h0 : checkErr f = 0) (h1 : rulesErr L = 0) (h2 : emitErr f n ≠ 0) :
    Calls Tryd.prog 45 #[.agg (cells18 f), .slice A k c0, .int .i64 n, .agg #[.int .u64 (a : Int), .int .u64 (b : Int), .int .u64 (c : Int)]] w (SRun f L n a b c w) := by
  have HCR0 : ∀ w1, Rd eRu w1 w1.heap.size A k c0 L → Calls Tryd.prog 56 #[.slice A k c0] w1 fun e w' => e = .returned (.tuple #[.int .i64 (shiftErr L), .int .i64 0]) ∧ Below w1.heap.size w1 w' := fun w1 h => (by have q := rshift_c A k c0 L w1 h; rw [h1] at q; exact q)
  have HEM := hide (fun W => remit_c f n a W)
  have HE := hide (runErr_emit (n := n) h0 h1)
  have HNE := hide h2
  have hne2 : (emitErr f n != 0) = true := by simpa using h2
  have hne : (emitErr f n == 0) = false := by simpa using h2
  have hb : Below w.heap.size w (((w.alloc (.cells (cells18 f) 40)).alloc (.cells #[.int .u64 (a : Int), .int .u64 (b : Int), .int .u64 (c : Int)] 80)).alloc (.cells #[.slice none 0 0, .slice none 0 0, .slice none 0 0, .int .i64 0] 77)) := (((Below.refl _ w).alloc (Nat.le_refl _) _).alloc (by simp) _).alloc (by simp; omega) _
  have hO : Blk (((w.alloc (.cells (cells18 f) 40)).alloc (.cells #[.int .u64 (a : Int), .int .u64 (b : Int), .int .u64 (c : Int)] 80)).alloc (.cells #[.slice none 0 0, .slice none 0 0, .slice none 0 0, .int .i64 0] 77)) w.heap.size 40 (cells18 f) := ((Blk.newAt w 40 _ w.heap.size rfl).alloc _).alloc _
  have hS : Blk (((w.alloc (.cells (cells18 f) 40)).alloc (.cells #[.int .u64 (a : Int), .int .u64 (b : Int), .int .u64 (c : Int)] 80)).alloc (.cells #[.slice none 0 0, .slice none 0 0, .slice none 0 0, .int .i64 0] 77)) (w.heap.size + 1) 80 #[.int .u64 (a : Int), .int .u64 (b : Int), .int .u64 (c : Int)] := (Blk.newAt (w.alloc (.cells (cells18 f) 40)) 80 _ (w.heap.size + 1) (by simp)).alloc _
  have hZ : Blk (((w.alloc (.cells (cells18 f) 40)).alloc (.cells #[.int .u64 (a : Int), .int .u64 (b : Int), .int .u64 (c : Int)] 80)).alloc (.cells #[.slice none 0 0, .slice none 0 0, .slice none 0 0, .int .i64 0] 77)) (w.heap.size + 1 + 1) 77 #[.slice none 0 0, .slice none 0 0, .slice none 0 0, .int .i64 0] := Blk.newAt ((w.alloc (.cells (cells18 f) 40)).alloc (.cells #[.int .u64 (a : Int), .int .u64 (b : Int), .int .u64 (c : Int)] 80)) 77 _ (w.heap.size + 1 + 1) (by simp)
  have r1 := r.on hb
  go_enter Tryd.func45, Tryd.ntmps45
  go_upto_region 1 with fail
  obtain ⟨W, hW⟩ : ∃ q, q = (((w.alloc (.cells (cells18 f) 40)).alloc (.cells #[.int .u64 (a : Int), .int .u64 (b : Int), .int .u64 (c : Int)] 80)).alloc (.cells #[.slice none 0 0, .slice none 0 0, .slice none 0 0, .int .i64 0] 77)) := ⟨_, rfl⟩
  rw [← hW] at hb hO hS hZ r1 ⊢
  clear hW r
  have hgZ : w.heap.size ≤ w.heap.size + 1 + 1 := by omega
  obtain ⟨gZ, hgZe⟩ : ∃ q, q = w.heap.size + 1 + 1 := ⟨_, rfl⟩
  rw [← hgZe] at hZ hgZ ⊢
  obtain ⟨gS, hgSe⟩ : ∃ q, q = w.heap.size + 1 := ⟨_, rfl⟩
  rw [← hgSe] at hS ⊢
  obtain ⟨gO, hgOe⟩ : ∃ q, q = w.heap.size := ⟨_, rfl⟩
  rw [← hgOe] at hO ⊢
  have HG := hide (And.intro hgZe (And.intro hgSe hgOe))
  clear hgZe hgSe hgOe
  have HCK := hide ((fun W => by have h := rcheck_c f W; rw [h0] at h; exact h) W)
  clear h0 h1 h2
  go_wp2_with (first | (refine wl_load (o := ⟨some 18, _, _, _, _, _⟩) rfl 40 _ rfl gO rfl 40 (cells18 f) _ hO Tryd.underlying40 rfl (by kernel_rfl) ?_) | (go_at_call 41; refine HCK.out.mono ?_; rintro e w1 ⟨rfl, hb1⟩; have O1 := hO.keep hb1; have S1 := hS.keep hb1; have Z1 := hZ.keep hb1; have r2 := r1.on hb1; have B1 := below_on hb hb1; have HCR := hide (HCR0 w1 r2)) | (go_at_call 56; refine HCR.out.mono ?_; rintro e w2 ⟨rfl, hb2⟩; have O2 := O1.keep hb2; have S2 := S1.keep hb2; have Z2 := Z1.keep hb2; have r3 := r2.on hb2; have B2 := below_on B1 hb2; have q0 := S2.cell 0; simp only [List.getElem?_toArray, List.getElem?_cons_zero] at q0) | (refine wl_load (o := ⟨some 32, _, _, _, _, _⟩) rfl 40 _ rfl gO rfl 40 (cells18 f) _ O2 Tryd.underlying40 rfl (by kernel_rfl) ?_) | (go_at_call 30; refine (HEM.out w2).mono ?_; rintro e w3 ⟨A1, n1, c1, rfl, P3, hb3⟩; have O3 := O2.keep hb3; have S3 := S2.keep hb3; have Z3 := Z2.keep hb3; have r4 := r3.on hb3; have B3 := below_on B2 hb3; have q1 := S3.cell 1; simp only [List.getElem?_toArray, List.getElem?_cons_succ, List.getElem?_cons_zero] at q1) | (refine wl_store (o := ⟨none, _, _, _, _, _⟩) rfl 77 _ _ rfl gZ #[.slice none 0 0, .slice none 0 0, .slice none 0 0, .int .i64 0] rfl rfl 77 _ Z3 (by kernel_rfl) rfl (by simp [Value.oneCell']) ?_; intro w9 hZ9 hg9))
  refine bodyPost_ret (results_row_tmp rfl _ _ gZ 77 _ _ rfl hZ9 Tryd.underlying77 rfl (by kernel_rfl)) rfl (SRun.err HE.out HNE.out (below_grown B3 hg9 hgZ (Nat.le_refl _)))

set_option maxRecDepth 100000 in
set_option maxHeartbeats 6400000 in
theorem rrun_ok (f : Nat → Int) (A : Option Addr) (k c0 : Nat) (L : List Ru) (n : Int) (a b c : Nat) (w : World) (r : Rd eRu w w.heap.size A k c0 L) (h0 : checkErr f = 0) (h1 : rulesErr L = 0) (h2 : emitErr f n = 0) :
    Calls Tryd.prog 45 #[.agg (cells18 f), .slice A k c0, .int .i64 n, .agg #[.int .u64 (a : Int), .int .u64 (b : Int), .int .u64 (c : Int)]] w (SRun f L n a b c w) := by
  have HCR0 : ∀ w1, Rd eRu w1 w1.heap.size A k c0 L → Calls Tryd.prog 56 #[.slice A k c0] w1 fun e w' => e = .returned (.tuple #[.int .i64 (shiftErr L), .int .i64 0]) ∧ Below w1.heap.size w1 w' := fun w1 h => (by have q := rshift_c A k c0 L w1 h; rw [h1] at q; exact q)
  have HEM := hide (fun W => (by have q := remit_c f n a W; unfold SEm at q; simp only [h2] at q; exact q : Calls Tryd.prog 30 #[.agg (cells18 f), .int .i64 n, .int .u64 (a : Int)] W fun e w' => ∃ A n1 c, e = .returned (.tuple #[.slice A n1 c, .int .i64 0]) ∧ Rd ePu w' w'.heap.size A n1 c (emitL f n a) ∧ Below W.heap.size W w'))
  have HE := hide ((runErr_emit (n := n) h0 h1).trans h2)
  have hb : Below w.heap.size w (((w.alloc (.cells (cells18 f) 40)).alloc (.cells #[.int .u64 (a : Int), .int .u64 (b : Int), .int .u64 (c : Int)] 80)).alloc (.cells #[.slice none 0 0, .slice none 0 0, .slice none 0 0, .int .i64 0] 77)) := (((Below.refl _ w).alloc (Nat.le_refl _) _).alloc (by simp) _).alloc (by simp; omega) _
  have hO : Blk (((w.alloc (.cells (cells18 f) 40)).alloc (.cells #[.int .u64 (a : Int), .int .u64 (b : Int), .int .u64 (c : Int)] 80)).alloc (.cells #[.slice none 0 0, .slice none 0 0, .slice none 0 0, .int .i64 0] 77)) w.heap.size 40 (cells18 f) := ((Blk.newAt w 40 _ w.heap.size rfl).alloc _).alloc _
  have hS : Blk (((w.alloc (.cells (cells18 f) 40)).alloc (.cells #[.int .u64 (a : Int), .int .u64 (b : Int), .int .u64 (c : Int)] 80)).alloc (.cells #[.slice none 0 0, .slice none 0 0, .slice none 0 0, .int .i64 0] 77)) (w.heap.size + 1) 80 #[.int .u64 (a : Int), .int .u64 (b : Int), .int .u64 (c : Int)] := (Blk.newAt (w.alloc (.cells (cells18 f) 40)) 80 _ (w.heap.size + 1) (by simp)).alloc _
  have hZ : Blk (((w.alloc (.cells (cells18 f) 40)).alloc (.cells #[.int .u64 (a : Int), .int .u64 (b : Int), .int .u64 (c : Int)] 80)).alloc (.cells #[.slice none 0 0, .slice none 0 0, .slice none 0 0, .int .i64 0] 77)) (w.heap.size + 1 + 1) 77 #[.slice none 0 0, .slice none 0 0, .slice none 0 0, .int .i64 0] := Blk.newAt ((w.alloc (.cells (cells18 f) 40)).alloc (.cells #[.int .u64 (a : Int), .int .u64 (b : Int), .int .u64 (c : Int)] 80)) 77 _ (w.heap.size + 1 + 1) (by simp)
  have r1 := r.on hb
  go_enter Tryd.func45, Tryd.ntmps45
  go_upto_region 1 with fail
  obtain ⟨W, hW⟩ : ∃ q, q = (((w.alloc (.cells (cells18 f) 40)).alloc (.cells #[.int .u64 (a : Int), .int .u64 (b : Int), .int .u64 (c : Int)] 80)).alloc (.cells #[.slice none 0 0, .slice none 0 0, .slice none 0 0, .int .i64 0] 77)) := ⟨_, rfl⟩
  rw [← hW] at hb hO hS hZ r1 ⊢
  clear hW r
  have hgZ : w.heap.size ≤ w.heap.size + 1 + 1 := by omega
  obtain ⟨gZ, hgZe⟩ : ∃ q, q = w.heap.size + 1 + 1 := ⟨_, rfl⟩
  rw [← hgZe] at hZ hgZ ⊢
  obtain ⟨gS, hgSe⟩ : ∃ q, q = w.heap.size + 1 := ⟨_, rfl⟩
  rw [← hgSe] at hS ⊢
  obtain ⟨gO, hgOe⟩ : ∃ q, q = w.heap.size := ⟨_, rfl⟩
  rw [← hgOe] at hO ⊢
  have HG := hide (And.intro hgZe (And.intro hgSe hgOe))
  clear hgZe hgSe hgOe
  have HCK := hide ((fun W => by have h := rcheck_c f W; rw [h0] at h; exact h) W)
  clear h0 h1 h2
  go_wp2_with (first | (refine wl_load (o := ⟨some 18, _, _, _, _, _⟩) rfl 40 _ rfl gO rfl 40 (cells18 f) _ hO Tryd.underlying40 rfl (by kernel_rfl) ?_) | (go_at_call 41; refine HCK.out.mono ?_; rintro e w1 ⟨rfl, hb1⟩; have O1 := hO.keep hb1; have S1 := hS.keep hb1; have Z1 := hZ.keep hb1; have r2 := r1.on hb1; have B1 := below_on hb hb1; have HCR := hide (HCR0 w1 r2)) | (go_at_call 56; refine HCR.out.mono ?_; rintro e w2 ⟨rfl, hb2⟩; have O2 := O1.keep hb2; have S2 := S1.keep hb2; have Z2 := Z1.keep hb2; have r3 := r2.on hb2; have B2 := below_on B1 hb2; have q0 := S2.cell 0; simp only [List.getElem?_toArray, List.getElem?_cons_zero] at q0) | (refine wl_load (o := ⟨some 32, _, _, _, _, _⟩) rfl 40 _ rfl gO rfl 40 (cells18 f) _ O2 Tryd.underlying40 rfl (by kernel_rfl) ?_) | (go_at_call 30; refine (HEM.out w2).mono ?_; rintro e w3 ⟨A1, n1, c1, rfl, P3, hb3⟩; have O3 := O2.keep hb3; have S3 := S2.keep hb3; have Z3 := Z2.keep hb3; have r4 := r3.on hb3; have B3 := below_on B2 hb3; have q1 := S3.cell 1; simp only [List.getElem?_toArray, List.getElem?_cons_succ, List.getElem?_cons_zero] at q1) | (go_at_call 33; refine (rcarry_c A k c0 L A1 n1 c1 (emitL f n a) b w3 r4 P3).mono ?_; rintro e w4 ⟨A2, n2, c2, A3, n3, c3, rfl, X4, N4, hb4⟩; have O4 := O3.keep hb4; have S4 := S3.keep hb4; have Z4 := Z3.keep hb4; have P4 := P3.on hb4; have B4 := below_on B3 hb4; have q2 := S4.cell 2; simp only [List.getElem?_toArray, List.getElem?_cons_succ, List.getElem?_cons_zero] at q2) | (refine wl_load (o := ⟨some 53, _, _, _, _, _⟩) rfl 40 _ rfl gO rfl 40 (cells18 f) _ O4 Tryd.underlying40 rfl (by kernel_rfl) ?_) | (go_at_call 27; refine (rDetect_c f A2 n2 c2 (carryX L (emitL f n a) b) (shiftErr L) c w4 X4).mono ?_; rintro e w5 ⟨A4, n4, c4, rfl, C5, hb5⟩; have Z5 := Z4.keep hb5; have P5 := P4.on hb5; have N5 := N4.on hb5; have B5 := below_on B4 hb5) | (refine wl_store (o := ⟨none, _, _, _, _, _⟩) rfl 77 _ _ rfl gZ #[.slice A1 n1 c1, .slice A4 n4 c4, .slice A3 n3 c3, .int .i64 (shiftErr L)] rfl rfl 77 _ Z5 (by kernel_rfl) rfl (by simp [Value.oneCell']) ?_; intro w9 hZ9 hg9))
  refine bodyPost_ret (results_row_tmp rfl _ _ gZ 77 _ _ rfl hZ9 Tryd.underlying77 rfl (by kernel_rfl)) rfl ?_
  have Z5' : Blk w5 gZ 77 (flC none none none 0 0 0 0 0 0 0) := Z5
  exact SRun.ok HE.out (below_grown B5 hg9 hgZ (Nat.le_refl _)) (P5.asideT Z5' flC_pu hg9) (C5.asideT Z5' flC_ck hg9) (N5.asideT Z5' flC_no hg9)
theorem rrun_c (f : Nat → Int) (A : Option Addr) (k c0 : Nat) (L : List Ru) (n : Int) (a b c : Nat) (w : World) (r : Rd eRu w w.heap.size A k c0 L) :
    Calls Tryd.prog 45 #[.agg (cells18 f), .slice A k c0, .int .i64 n, .agg #[.int .u64 (a : Int), .int .u64 (b : Int), .int .u64 (c : Int)]] w (SRun f L n a b c w) := by
  by_cases h0 : checkErr f = 0
  · by_cases h1 : rulesErr L = 0
    · by_cases h2 : emitErr f n = 0
      · exact rrun_ok f A k c0 L n a b c w r h0 h1 h2
      · exact rrun_emit f A k c0 L n a b c w r h0 h1 h2
    · exact rrun_rules f A k c0 L n a b c w r h0 h1
  · exact rrun_check f A k c0 L n a b c w r (checkErr_two h0)
end Go.Proofs.YtddajmagdjkodaaDoor
namespace Go.Proofs.YtddajmagdjkodaaDoor
open Go.RowKit

set_option maxRecDepth 100000 in
set_option maxHeartbeats 6400000 in
theorem runs_c (f : Nat → Int) (A : Option Addr) (k c0 : Nat) (L : List Ru) (n : Int) (a b c : Nat) (w : World) (r : Rd eRu w w.heap.size A k c0 L) (ht : Tab w) :
    Calls Tryd.prog 10 #[.agg (cells18 f), .slice A k c0, .int .i64 n, .int .u64 (a : Int), .int .u64 (b : Int), .int .u64 (c : Int)] w fun e w' => e = .returned (.bool true) ∧ Below w.heap.size w w' := by
  have hee : (runErr f L n == runErr f L n) = true := by simp
  have hes : (runSh f L n == runSh f L n) = true := by simp
  have hm := r.max
  have hcap := r.cap
  go_enter Tryd.func10, Tryd.ntmps10
  go_upto_region 1 with fail
  have hO := Blk.newAt w 40 (cells18 f) w.heap.size rfl
  have hb := below_alloc w (.cells (cells18 f) 40)
  have ht1 := ht.on hb
  have r1 := r.on hb
  obtain ⟨W, hW⟩ : ∃ W, W = w.alloc (.cells (cells18 f) 40) := ⟨_, rfl⟩
  rw [← hW] at hO hb ht1 r1 ⊢
  clear hW
  by_cases h0 : 100 < (k : Int)
  · go_wp2_with (go_at_call 18; refine (works_c _ ht1).mono ?_; rintro e w' ⟨rfl, hb1⟩)
    go_ret
    exact ⟨rfl, below_on hb hb1⟩
  by_cases h1 : 400 < n ∧ n ≤ 4096
  · obtain ⟨h2, h3⟩ := h1
    go_wp2_with (go_at_call 18; refine (works_c _ ht1).mono ?_; rintro e w' ⟨rfl, hb1⟩)
    go_ret
    exact ⟨rfl, below_on hb hb1⟩
  by_cases h6 : 400 < n
  all_goals
    first
      | have h7 : ¬ n ≤ 4096 := by omega
      | skip
    clear h1
    go_upto_region 3 with fail
    go_upto_region 4 with (first | (refine wl_load (o := ⟨some 30, _, _, _, _, _⟩) rfl 40 _ rfl w.heap.size rfl 40 (cells18 f) _ hO Tryd.underlying40 rfl (by kernel_rfl) ?_) | (go_at_call 44; refine (run_c f A k c0 L n a b c W r1).mono ?_; rintro e w1 ⟨A1, n1, c1, A2, n2, c2, A3, n3, c3, rfl, p1, k1, o1, hb1⟩))
    have hO1 := (hO.keep hb1).alloc (.cells #[.slice A1 n1 c1, .slice A2 n2 c2, .slice A3 n3 c3, .int .i64 (runSh f L n)] 77)
    have hF1 := Blk.newAt w1 77 #[.slice A1 n1 c1, .slice A2 n2 c2, .slice A3 n3 c3, .int .i64 (runSh f L n)] w1.heap.size rfl
    have hb2 := below_on hb1 (below_alloc w1 (.cells #[.slice A1 n1 c1, .slice A2 n2 c2, .slice A3 n3 c3, .int .i64 (runSh f L n)] 77))
    have p2 := p1.alloc (.cells #[.slice A1 n1 c1, .slice A2 n2 c2, .slice A3 n3 c3, .int .i64 (runSh f L n)] 77)
    have k2 := k1.alloc (.cells #[.slice A1 n1 c1, .slice A2 n2 c2, .slice A3 n3 c3, .int .i64 (runSh f L n)] 77)
    have o2 := o1.alloc (.cells #[.slice A1 n1 c1, .slice A2 n2 c2, .slice A3 n3 c3, .int .i64 (runSh f L n)] 77)
    obtain ⟨w2, hw2⟩ : ∃ q, q = w1.alloc (.cells #[.slice A1 n1 c1, .slice A2 n2 c2, .slice A3 n3 c3, .int .i64 (runSh f L n)] 77) := ⟨_, rfl⟩
    rw [← hw2] at hO1 hF1 hb2 p2 k2 o2 ⊢
    obtain ⟨gF, hgF⟩ : ∃ q, q = w1.heap.size := ⟨_, rfl⟩
    rw [← hgF] at hF1 ⊢
    clear hw2 hgF p1 k1 o1 hb1
    have r2 := r1.on hb2
    have ht2 := ht1.on hb2
    have hb3 := below_on hb hb2
    clear hO r1 hb2 ht1
    go_upto_region 5 with (first | (refine wl_load (o := ⟨some 41, _, _, _, _, _⟩) rfl 40 _ rfl w.heap.size rfl 40 (cells18 f) _ hO1 Tryd.underlying40 rfl (by kernel_rfl) ?_) | (go_at_call 45; refine (rrun_c f A k c0 L n a b c w2 r2).mono ?_; rintro e w3 ⟨A4, n4, c4, A5, n5, c5, A6, n6, c6, rfl, p4, k4, o4, hb4⟩))
    have hb5 := below_on hb4 (below_alloc w3 (.cells #[.slice A4 n4 c4, .slice A5 n5 c5, .slice A6 n6 c6, .int .i64 (runSh f L n)] 77))
    have hF2 := Blk.newAt w3 77 #[.slice A4 n4 c4, .slice A5 n5 c5, .slice A6 n6 c6, .int .i64 (runSh f L n)] w3.heap.size rfl
    have p5 := p4.alloc (.cells #[.slice A4 n4 c4, .slice A5 n5 c5, .slice A6 n6 c6, .int .i64 (runSh f L n)] 77)
    have k5 := k4.alloc (.cells #[.slice A4 n4 c4, .slice A5 n5 c5, .slice A6 n6 c6, .int .i64 (runSh f L n)] 77)
    have o5 := o4.alloc (.cells #[.slice A4 n4 c4, .slice A5 n5 c5, .slice A6 n6 c6, .int .i64 (runSh f L n)] 77)
    obtain ⟨w4, hw4⟩ : ∃ q, q = w3.alloc (.cells #[.slice A4 n4 c4, .slice A5 n5 c5, .slice A6 n6 c6, .int .i64 (runSh f L n)] 77) := ⟨_, rfl⟩
    rw [← hw4] at hb5 hF2 p5 k5 o5 ⊢
    obtain ⟨gG, hgG⟩ : ∃ q, q = w3.heap.size := ⟨_, rfl⟩
    rw [← hgG] at hF2 ⊢
    have hF1' := hF1.keep hb5
    have p2' := p2.on hb5
    have k2' := k2.on hb5
    have o2' := o2.on hb5
    have ht4 := ht2.on hb5
    have hb6 := below_on hb3 hb5
    clear hw4 hgG p4 k4 o4 hb4 hF1 p2 k2 o2 ht2 hb5 hb3 r2 hO1
    have x0 := hF1'.cell 0
    have x3 := hF1'.cell 3
    have y0 := hF2.cell 0
    have y3 := hF2.cell 3
    simp only [List.getElem?_toArray, List.getElem?_cons_succ, List.getElem?_cons_zero] at x0 x3 y0 y3
    go_wp2_with (go_at_call 31; refine (samePulses_c A1 A4 n1 c1 n4 c4 _ w4 p2' p5).mono ?_; rintro e w5 ⟨rfl, hb7⟩; refine Hid.out ?_)
    have x1 := (hF1'.keep hb7).cell 1
    have y1 := (hF2.keep hb7).cell 1
    simp only [List.getElem?_toArray, List.getElem?_cons_succ, List.getElem?_cons_zero] at x1 y1
    refine hide ?_
    go_wp2_with (go_at_call 28; refine (sameClicks_c A2 A5 n2 c2 n5 c5 _ w5 (k2'.on hb7) (k5.on hb7)).mono ?_; rintro e w6 ⟨rfl, hb8⟩; refine Hid.out ?_)
    have hb9 := below_on hb7 hb8
    have x2 := (hF1'.keep hb9).cell 2
    have y2 := (hF2.keep hb9).cell 2
    simp only [List.getElem?_toArray, List.getElem?_cons_succ, List.getElem?_cons_zero] at x2 y2
    refine hide ?_
    go_wp2_with (go_at_call 35; refine (sameNotes_c A3 A6 n3 c3 n6 c6 _ w6 (o2'.on hb9) (o5.on hb9)).mono ?_; rintro e w7 ⟨rfl, hb10⟩; refine Hid.out ?_)
    have hb11 := below_on hb9 hb10
    refine hide ?_
    go_wp2_with (go_at_call 18; refine (works_c _ (ht4.on hb11)).mono ?_; rintro e w' ⟨rfl, hb12⟩)
    go_ret
    exact ⟨rfl, below_on (below_on hb6 hb11) hb12⟩
theorem u64_nat {x : Int} (h : (Lit.int .u64 x).wf = true) : ∃ q : Nat, x = q := by
  have h0 : 0 ≤ x := by simp [Lit.wf, IntKind.min, IntKind.max, IntKind.signed, IntKind.bits] at h; omega
  exact Int.eq_ofNat_of_zero_le h0
theorem runs_w (f : Nat → Int) (_ : True) (A : Option Addr) (k c0 : Nat) (L : List Ru) (n : Int) (_wn : (Lit.int .i64 n).wf = true) (a : Int) (wa : (Lit.int .u64 a).wf = true) (b : Int) (wb : (Lit.int .u64 b).wf = true) (c : Int) (wc : (Lit.int .u64 c).wf = true) (w : World) (r : Rd eRu w w.heap.size A k c0 L) (ht : Tab w) :
    Calls Tryd.prog 10 #[.agg (cells18 f), .slice A k c0, .int .i64 n, .int .u64 a, .int .u64 b, .int .u64 c] w fun e w' => e = .returned (.bool true) ∧ Below w.heap.size w w' := by
  obtain ⟨a, rfl⟩ := u64_nat wa
  obtain ⟨b, rfl⟩ := u64_nat wb
  obtain ⟨c, rfl⟩ := u64_nat wc
  exact runs_c f A k c0 L n a b c w r ht
end Go.Proofs.YtddajmagdjkodaaDoor
