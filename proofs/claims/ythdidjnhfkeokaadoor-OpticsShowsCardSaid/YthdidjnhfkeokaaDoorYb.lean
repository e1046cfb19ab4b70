/- Contract of optics.Run, where an argument is not valid. -/
import Derived.Test.YthdidjnhfkeokaaDoorYa
namespace Go.Proofs.YthdidjnhfkeokaaDoor
open Go.RowKit

set_option maxRecDepth 100000 in
set_option maxHeartbeats 6400000 in
theorem run_check (f : Nat → Int) (A : Option Addr) (k c0 : Nat) (L : List Ru) (n : Int) (a b c : Nat) (w : World) (r : Rd eRu w w.heap.size A k c0 L) (h0 : checkErr f = 2) :
    Calls Tryd.prog 47 #[.agg (cells18 f), .slice A k c0, .int .i64 n, .agg #[.int .u64 (a : Int), .int .u64 (b : Int), .int .u64 (c : Int)]] w (SRun f L n a b c w) := by
  have HCR0 := hide (True.intro)
  have HE := hide (runErr_check (L := L) (n := n) h0)
  have hb : Below w.heap.size w (((w.alloc (.cells (cells18 f) 26)).alloc (.cells #[.int .u64 (a : Int), .int .u64 (b : Int), .int .u64 (c : Int)] 48)).alloc (.cells #[.slice none 0 0, .slice none 0 0, .slice none 0 0, .int .i64 0] 42)) := (((Below.refl _ w).alloc (Nat.le_refl _) _).alloc (by simp) _).alloc (by simp; omega) _
  have hO : Blk (((w.alloc (.cells (cells18 f) 26)).alloc (.cells #[.int .u64 (a : Int), .int .u64 (b : Int), .int .u64 (c : Int)] 48)).alloc (.cells #[.slice none 0 0, .slice none 0 0, .slice none 0 0, .int .i64 0] 42)) w.heap.size 26 (cells18 f) := ((Blk.newAt w 26 _ w.heap.size rfl).alloc _).alloc _
  have hS : Blk (((w.alloc (.cells (cells18 f) 26)).alloc (.cells #[.int .u64 (a : Int), .int .u64 (b : Int), .int .u64 (c : Int)] 48)).alloc (.cells #[.slice none 0 0, .slice none 0 0, .slice none 0 0, .int .i64 0] 42)) (w.heap.size + 1) 48 #[.int .u64 (a : Int), .int .u64 (b : Int), .int .u64 (c : Int)] := (Blk.newAt (w.alloc (.cells (cells18 f) 26)) 48 _ (w.heap.size + 1) (by simp)).alloc _
  have hZ : Blk (((w.alloc (.cells (cells18 f) 26)).alloc (.cells #[.int .u64 (a : Int), .int .u64 (b : Int), .int .u64 (c : Int)] 48)).alloc (.cells #[.slice none 0 0, .slice none 0 0, .slice none 0 0, .int .i64 0] 42)) (w.heap.size + 1 + 1) 42 #[.slice none 0 0, .slice none 0 0, .slice none 0 0, .int .i64 0] := Blk.newAt ((w.alloc (.cells (cells18 f) 26)).alloc (.cells #[.int .u64 (a : Int), .int .u64 (b : Int), .int .u64 (c : Int)] 48)) 42 _ (w.heap.size + 1 + 1) (by simp)
  have r1 := r.on hb
  go_enter Tryd.func47, Tryd.ntmps47
  go_upto_region 1 with fail
  obtain ⟨W, hW⟩ : ∃ q, q = (((w.alloc (.cells (cells18 f) 26)).alloc (.cells #[.int .u64 (a : Int), .int .u64 (b : Int), .int .u64 (c : Int)] 48)).alloc (.cells #[.slice none 0 0, .slice none 0 0, .slice none 0 0, .int .i64 0] 42)) := ⟨_, rfl⟩
  rw [← hW] at hb hO hS hZ r1 ⊢
  clear hW r
  have hgZ : w.heap.size ≤ w.heap.size + 1 + 1 := by omega
  obtain ⟨gZ, hgZe⟩ : ∃ q, q = w.heap.size + 1 + 1 := ⟨_, rfl⟩
  rw [← hgZe] at hZ hgZ ⊢
  obtain ⟨gS, hgSe⟩ : ∃ q, q = w.heap.size + 1 := ⟨_, rfl⟩
  rw [← hgSe] at hS ⊢
  obtain ⟨gO, hgOe⟩ : ∃ q, q = w.heap.size := ⟨_, rfl⟩
  rw [← hgOe] at hO ⊢
  have HG := hide (And.intro hgZe (And.intro hgSe hgOe))
  clear hgZe hgSe hgOe
  have HCK := hide ((fun W => by have h := check_c f W; rw [h0] at h; exact h) W)
  clear h0
  go_wp2_with (first | (refine wl_load (o := ⟨some 18, _, _, _, _, _⟩) rfl 26 _ rfl gO rfl 26 (cells18 f) _ hO Tryd.underlying26 rfl (by kernel_rfl) ?_) | (go_at_call 10; refine HCK.out.mono ?_; rintro e w1 ⟨rfl, hb1⟩; have O1 := hO.keep hb1; have S1 := hS.keep hb1; have Z1 := hZ.keep hb1; have r2 := r1.on hb1; have B1 := below_on hb hb1) | (refine wl_store (o := ⟨none, _, _, _, _, _⟩) rfl 42 _ _ rfl gZ #[.slice none 0 0, .slice none 0 0, .slice none 0 0, .int .i64 0] rfl rfl 42 _ Z1 (by kernel_rfl) rfl (by simp [Value.oneCell']) ?_; intro w9 hZ9 hg9))
  refine bodyPost_ret (results_row_tmp rfl _ _ gZ 42 _ _ rfl hZ9 Tryd.underlying42 rfl (by kernel_rfl)) rfl (SRun.err HE.out (by omega) (below_grown B1 hg9 hgZ (Nat.le_refl _)))

set_option maxRecDepth 100000 in
set_option maxHeartbeats 6400000 in
theorem run_rules (f : Nat → Int) (A : Option Addr) (k c0 : Nat) (L : List Ru) (n : Int) (a b c : Nat) (w : World) (r : Rd eRu w w.heap.size A k c0 L) (h0 : checkErr f = 0) (h1 : rulesErr L ≠ 0) :
    Calls Tryd.prog 47 #[.agg (cells18 f), .slice A k c0, .int .i64 n, .agg #[.int .u64 (a : Int), .int .u64 (b : Int), .int .u64 (c : Int)]] w (SRun f L n a b c w) := by
  have HCR0 : ∀ w1, Rd eRu w1 w1.heap.size A k c0 L → Calls Tryd.prog 27 #[.slice A k c0] w1 fun e w' => e = .returned (.int .i64 (rulesErr L)) ∧ Below w1.heap.size w1 w' := fun w1 h => checkRules_c A k c0 L w1 h
  have HE := hide (runErr_rules (n := n) h0 h1)
  have HNE := hide h1
  have hne2 : (rulesErr L != 0) = true := by simpa using h1
  have hne : (rulesErr L == 0) = false := by simpa using h1
  have hb : Below w.heap.size w (((w.alloc (.cells (cells18 f) 26)).alloc (.cells #[.int .u64 (a : Int), .int .u64 (b : Int), .int .u64 (c : Int)] 48)).alloc (.cells #[.slice none 0 0, .slice none 0 0, .slice none 0 0, .int .i64 0] 42)) := (((Below.refl _ w).alloc (Nat.le_refl _) _).alloc (by simp) _).alloc (by simp; omega) _
  have hO : Blk (((w.alloc (.cells (cells18 f) 26)).alloc (.cells #[.int .u64 (a : Int), .int .u64 (b : Int), .int .u64 (c : Int)] 48)).alloc (.cells #[.slice none 0 0, .slice none 0 0, .slice none 0 0, .int .i64 0] 42)) w.heap.size 26 (cells18 f) := ((Blk.newAt w 26 _ w.heap.size rfl).alloc _).alloc _
  have hS : Blk (((w.alloc (.cells (cells18 f) 26)).alloc (.cells #[.int .u64 (a : Int), .int .u64 (b : Int), .int .u64 (c : Int)] 48)).alloc (.cells #[.slice none 0 0, .slice none 0 0, .slice none 0 0, .int .i64 0] 42)) (w.heap.size + 1) 48 #[.int .u64 (a : Int), .int .u64 (b : Int), .int .u64 (c : Int)] := (Blk.newAt (w.alloc (.cells (cells18 f) 26)) 48 _ (w.heap.size + 1) (by simp)).alloc _
  have hZ : Blk (((w.alloc (.cells (cells18 f) 26)).alloc (.cells #[.int .u64 (a : Int), .int .u64 (b : Int), .int .u64 (c : Int)] 48)).alloc (.cells #[.slice none 0 0, .slice none 0 0, .slice none 0 0, .int .i64 0] 42)) (w.heap.size + 1 + 1) 42 #[.slice none 0 0, .slice none 0 0, .slice none 0 0, .int .i64 0] := Blk.newAt ((w.alloc (.cells (cells18 f) 26)).alloc (.cells #[.int .u64 (a : Int), .int .u64 (b : Int), .int .u64 (c : Int)] 48)) 42 _ (w.heap.size + 1 + 1) (by simp)
  have r1 := r.on hb
  go_enter Tryd.func47, Tryd.ntmps47
  go_upto_region 1 with fail
  obtain ⟨W, hW⟩ : ∃ q, q = (((w.alloc (.cells (cells18 f) 26)).alloc (.cells #[.int .u64 (a : Int), .int .u64 (b : Int), .int .u64 (c : Int)] 48)).alloc (.cells #[.slice none 0 0, .slice none 0 0, .slice none 0 0, .int .i64 0] 42)) := ⟨_, rfl⟩
  rw [← hW] at hb hO hS hZ r1 ⊢
  clear hW r
  have hgZ : w.heap.size ≤ w.heap.size + 1 + 1 := by omega
  obtain ⟨gZ, hgZe⟩ : ∃ q, q = w.heap.size + 1 + 1 := ⟨_, rfl⟩
  rw [← hgZe] at hZ hgZ ⊢
  obtain ⟨gS, hgSe⟩ : ∃ q, q = w.heap.size + 1 := ⟨_, rfl⟩
  rw [← hgSe] at hS ⊢
  obtain ⟨gO, hgOe⟩ : ∃ q, q = w.heap.size := ⟨_, rfl⟩
  rw [← hgOe] at hO ⊢
  have HG := hide (And.intro hgZe (And.intro hgSe hgOe))
  clear hgZe hgSe hgOe
  have HCK := hide ((fun W => by have h := check_c f W; rw [h0] at h; exact h) W)
  clear h0 h1
  go_wp2_with (first | (refine wl_load (o := ⟨some 18, _, _, _, _, _⟩) rfl 26 _ rfl gO rfl 26 (cells18 f) _ hO Tryd.underlying26 rfl (by kernel_rfl) ?_) | (go_at_call 10; refine HCK.out.mono ?_; rintro e w1 ⟨rfl, hb1⟩; have O1 := hO.keep hb1; have S1 := hS.keep hb1; have Z1 := hZ.keep hb1; have r2 := r1.on hb1; have B1 := below_on hb hb1; have HCR := hide (HCR0 w1 r2)) | (go_at_call 27; refine HCR.out.mono ?_; rintro e w2 ⟨rfl, hb2⟩; have O2 := O1.keep hb2; have S2 := S1.keep hb2; have Z2 := Z1.keep hb2; have r3 := r2.on hb2; have B2 := below_on B1 hb2; have q0 := S2.cell 0; simp only [List.getElem?_toArray, List.getElem?_cons_zero] at q0) | (refine wl_store (o := ⟨none, _, _, _, _, _⟩) rfl 42 _ _ rfl gZ #[.slice none 0 0, .slice none 0 0, .slice none 0 0, .int .i64 0] rfl rfl 42 _ Z2 (by kernel_rfl) rfl (by simp [Value.oneCell']) ?_; intro w9 hZ9 hg9))
  refine bodyPost_ret (results_row_tmp rfl _ _ gZ 42 _ _ rfl hZ9 Tryd.underlying42 rfl (by kernel_rfl)) rfl (SRun.err HE.out HNE.out (below_grown B2 hg9 hgZ (Nat.le_refl _)))

set_option maxRecDepth 100000 in
set_option maxHeartbeats 6400000 in
theorem run_emit (f : Nat → Int) (A : Option Addr) (k c0 : Nat) (L : List Ru) (n : Int) (a b c : Nat) (w : World) (r : Rd eRu w w.heap.size A k c0 L) (h0 : checkErr f = 0) (h1 : rulesErr L = 0) (h2 : emitErr f n ≠ 0) :
    Calls Tryd.prog 47 #[.agg (cells18 f), .slice A k c0, .int .i64 n, .agg #[.int .u64 (a : Int), .int .u64 (b : Int), .int .u64 (c : Int)]] w (SRun f L n a b c w) := by
  have HCR0 : ∀ w1, Rd eRu w1 w1.heap.size A k c0 L → Calls Tryd.prog 27 #[.slice A k c0] w1 fun e w' => e = .returned (.int .i64 0) ∧ Below w1.heap.size w1 w' := fun w1 h => (by have q := checkRules_c A k c0 L w1 h; rw [h1] at q; exact q)
  have HE := hide (runErr_emit (n := n) h0 h1)
  have HNE := hide h2
  have hne2 : (emitErr f n != 0) = true := by simpa using h2
  have hne : (emitErr f n == 0) = false := by simpa using h2
  have hb : Below w.heap.size w (((w.alloc (.cells (cells18 f) 26)).alloc (.cells #[.int .u64 (a : Int), .int .u64 (b : Int), .int .u64 (c : Int)] 48)).alloc (.cells #[.slice none 0 0, .slice none 0 0, .slice none 0 0, .int .i64 0] 42)) := (((Below.refl _ w).alloc (Nat.le_refl _) _).alloc (by simp) _).alloc (by simp; omega) _
  have hO : Blk (((w.alloc (.cells (cells18 f) 26)).alloc (.cells #[.int .u64 (a : Int), .int .u64 (b : Int), .int .u64 (c : Int)] 48)).alloc (.cells #[.slice none 0 0, .slice none 0 0, .slice none 0 0, .int .i64 0] 42)) w.heap.size 26 (cells18 f) := ((Blk.newAt w 26 _ w.heap.size rfl).alloc _).alloc _
  have hS : Blk (((w.alloc (.cells (cells18 f) 26)).alloc (.cells #[.int .u64 (a : Int), .int .u64 (b : Int), .int .u64 (c : Int)] 48)).alloc (.cells #[.slice none 0 0, .slice none 0 0, .slice none 0 0, .int .i64 0] 42)) (w.heap.size + 1) 48 #[.int .u64 (a : Int), .int .u64 (b : Int), .int .u64 (c : Int)] := (Blk.newAt (w.alloc (.cells (cells18 f) 26)) 48 _ (w.heap.size + 1) (by simp)).alloc _
  have hZ : Blk (((w.alloc (.cells (cells18 f) 26)).alloc (.cells #[.int .u64 (a : Int), .int .u64 (b : Int), .int .u64 (c : Int)] 48)).alloc (.cells #[.slice none 0 0, .slice none 0 0, .slice none 0 0, .int .i64 0] 42)) (w.heap.size + 1 + 1) 42 #[.slice none 0 0, .slice none 0 0, .slice none 0 0, .int .i64 0] := Blk.newAt ((w.alloc (.cells (cells18 f) 26)).alloc (.cells #[.int .u64 (a : Int), .int .u64 (b : Int), .int .u64 (c : Int)] 48)) 42 _ (w.heap.size + 1 + 1) (by simp)
  have r1 := r.on hb
  go_enter Tryd.func47, Tryd.ntmps47
  go_upto_region 1 with fail
  obtain ⟨W, hW⟩ : ∃ q, q = (((w.alloc (.cells (cells18 f) 26)).alloc (.cells #[.int .u64 (a : Int), .int .u64 (b : Int), .int .u64 (c : Int)] 48)).alloc (.cells #[.slice none 0 0, .slice none 0 0, .slice none 0 0, .int .i64 0] 42)) := ⟨_, rfl⟩
  rw [← hW] at hb hO hS hZ r1 ⊢
  clear hW r
  have hgZ : w.heap.size ≤ w.heap.size + 1 + 1 := by omega
  obtain ⟨gZ, hgZe⟩ : ∃ q, q = w.heap.size + 1 + 1 := ⟨_, rfl⟩
  rw [← hgZe] at hZ hgZ ⊢
  obtain ⟨gS, hgSe⟩ : ∃ q, q = w.heap.size + 1 := ⟨_, rfl⟩
  rw [← hgSe] at hS ⊢
  obtain ⟨gO, hgOe⟩ : ∃ q, q = w.heap.size := ⟨_, rfl⟩
  rw [← hgOe] at hO ⊢
  have HG := hide (And.intro hgZe (And.intro hgSe hgOe))
  clear hgZe hgSe hgOe
  have HCK := hide ((fun W => by have h := check_c f W; rw [h0] at h; exact h) W)
  clear h0 h1 h2
  go_wp2_with (first | (refine wl_load (o := ⟨some 18, _, _, _, _, _⟩) rfl 26 _ rfl gO rfl 26 (cells18 f) _ hO Tryd.underlying26 rfl (by kernel_rfl) ?_) | (go_at_call 10; refine HCK.out.mono ?_; rintro e w1 ⟨rfl, hb1⟩; have O1 := hO.keep hb1; have S1 := hS.keep hb1; have Z1 := hZ.keep hb1; have r2 := r1.on hb1; have B1 := below_on hb hb1; have HCR := hide (HCR0 w1 r2)) | (go_at_call 27; refine HCR.out.mono ?_; rintro e w2 ⟨rfl, hb2⟩; have O2 := O1.keep hb2; have S2 := S1.keep hb2; have Z2 := Z1.keep hb2; have r3 := r2.on hb2; have B2 := below_on B1 hb2; have q0 := S2.cell 0; simp only [List.getElem?_toArray, List.getElem?_cons_zero] at q0) | (refine wl_load (o := ⟨some 31, _, _, _, _, _⟩) rfl 26 _ rfl gO rfl 26 (cells18 f) _ O2 Tryd.underlying26 rfl (by kernel_rfl) ?_) | (go_at_call 62; refine (emit_c f n a w2).mono ?_; rintro e w3 ⟨A1, n1, c1, rfl, P1, hb3⟩; have O3 := O2.keep hb3; have S3 := S2.keep hb3; have Z3 := Z2.keep hb3; have r4 := r3.on hb3; have B3 := below_on B2 hb3) | (refine wl_store (o := ⟨none, _, _, _, _, _⟩) rfl 42 _ _ rfl gZ #[.slice none 0 0, .slice none 0 0, .slice none 0 0, .int .i64 0] rfl rfl 42 _ Z3 (by kernel_rfl) rfl (by simp [Value.oneCell']) ?_; intro w9 hZ9 hg9))
  refine bodyPost_ret (results_row_tmp rfl _ _ gZ 42 _ _ rfl hZ9 Tryd.underlying42 rfl (by kernel_rfl)) rfl (SRun.err HE.out HNE.out (below_grown B3 hg9 hgZ (Nat.le_refl _)))
end Go.Proofs.YthdidjnhfkeokaaDoor
