/- Contract of optics.Run, where an argument is not valid. A list that is read survives a store into a block that cannot hold its elements. Contract of optics.Run. -/
import Derived.Test.YtchhkokpjdkkiaaTopSiftsa12
import Derived.Test.YtchhkokpjdkkiaaTopSiftsa01
namespace Go.Proofs.Ytchhkokpjdkkiaa
open Go.RowKit

set_option maxRecDepth 100000 in
set_option maxHeartbeats 6400000 in
theorem run_check (f : Nat → Int) (A : Option Addr) (k c0 : Nat) (L : List Ru) (n : Int) (a b c : Nat) (w : World) (r : Rd eRu w w.heap.size A k c0 L) (h0 : checkErr f = 2) :
    Calls Try.prog 15 #[.agg (cells18 f), .slice A k c0, .int .i64 n, .agg #[.int .u64 (a : Int), .int .u64 (b : Int), .int .u64 (c : Int)]] w (SRun f L n a b c w) := by
  have HCR0 := hide (True.intro)
  have HE := hide (runErr_check (L := L) (n := n) h0)
  have hb : Below w.heap.size w (((w.alloc (.cells (cells18 f) 57)).alloc (.cells #[.int .u64 (a : Int), .int .u64 (b : Int), .int .u64 (c : Int)] 69)).alloc (.cells #[.slice none 0 0, .slice none 0 0, .slice none 0 0, .int .i64 0] 66)) := (((Below.refl _ w).alloc (Nat.le_refl _) _).alloc (by simp) _).alloc (by simp; omega) _
  have hO : Blk (((w.alloc (.cells (cells18 f) 57)).alloc (.cells #[.int .u64 (a : Int), .int .u64 (b : Int), .int .u64 (c : Int)] 69)).alloc (.cells #[.slice none 0 0, .slice none 0 0, .slice none 0 0, .int .i64 0] 66)) w.heap.size 57 (cells18 f) := ((Blk.newAt w 57 _ w.heap.size rfl).alloc _).alloc _
  have hS : Blk (((w.alloc (.cells (cells18 f) 57)).alloc (.cells #[.int .u64 (a : Int), .int .u64 (b : Int), .int .u64 (c : Int)] 69)).alloc (.cells #[.slice none 0 0, .slice none 0 0, .slice none 0 0, .int .i64 0] 66)) (w.heap.size + 1) 69 #[.int .u64 (a : Int), .int .u64 (b : Int), .int .u64 (c : Int)] := (Blk.newAt (w.alloc (.cells (cells18 f) 57)) 69 _ (w.heap.size + 1) (by simp)).alloc _
  have hZ : Blk (((w.alloc (.cells (cells18 f) 57)).alloc (.cells #[.int .u64 (a : Int), .int .u64 (b : Int), .int .u64 (c : Int)] 69)).alloc (.cells #[.slice none 0 0, .slice none 0 0, .slice none 0 0, .int .i64 0] 66)) (w.heap.size + 1 + 1) 66 #[.slice none 0 0, .slice none 0 0, .slice none 0 0, .int .i64 0] := Blk.newAt ((w.alloc (.cells (cells18 f) 57)).alloc (.cells #[.int .u64 (a : Int), .int .u64 (b : Int), .int .u64 (c : Int)] 69)) 66 _ (w.heap.size + 1 + 1) (by simp)
  have r1 := r.on hb
  go_enter Try.func15, Try.ntmps15
  go_upto_region 1 with fail
  obtain ⟨W, hW⟩ : ∃ q, q = (((w.alloc (.cells (cells18 f) 57)).alloc (.cells #[.int .u64 (a : Int), .int .u64 (b : Int), .int .u64 (c : Int)] 69)).alloc (.cells #[.slice none 0 0, .slice none 0 0, .slice none 0 0, .int .i64 0] 66)) := ⟨_, rfl⟩
  rw [← hW] at hb hO hS hZ r1 ⊢
  clear hW r
  have hgZ : w.heap.size ≤ w.heap.size + 1 + 1 := by omega
  obtain ⟨gZ, hgZe⟩ : ∃ q, q = w.heap.size + 1 + 1 := ⟨_, rfl⟩
  rw [← hgZe] at hZ hgZ ⊢
  obtain ⟨gS, hgSe⟩ : ∃ q, q = w.heap.size + 1 := ⟨_, rfl⟩
  rw [← hgSe] at hS ⊢
  obtain ⟨gO, hgOe⟩ : ∃ q, q = w.heap.size := ⟨_, rfl⟩
  rw [← hgOe] at hO ⊢
  have HG := hide (And.intro hgZe (And.intro hgSe hgOe))
  clear hgZe hgSe hgOe
  have HCK := hide ((fun W => by have h := check_c f W; rw [h0] at h; exact h) W)
  clear h0
  go_wp2_with (first | (refine wl_load (o := ⟨some 18, _, _, _, _, _⟩) rfl 57 _ rfl gO rfl 57 (cells18 f) _ hO Try.underlying57 rfl (by kernel_rfl) ?_) | (go_at_call 34; refine HCK.out.mono ?_; rintro e w1 ⟨rfl, hb1⟩; have O1 := hO.keep hb1; have S1 := hS.keep hb1; have Z1 := hZ.keep hb1; have r2 := r1.on hb1; have B1 := below_on hb hb1) | (refine wl_store (o := ⟨none, _, _, _, _, _⟩) rfl 66 _ _ rfl gZ #[.slice none 0 0, .slice none 0 0, .slice none 0 0, .int .i64 0] rfl rfl 66 _ Z1 (by kernel_rfl) rfl (by simp [Value.oneCell']) ?_; intro w9 hZ9 hg9))
  refine bodyPost_ret (results_row_tmp rfl _ _ gZ 66 _ _ rfl hZ9 Try.underlying66 rfl (by kernel_rfl)) rfl (SRun.err HE.out (by omega) (below_grown B1 hg9 hgZ (Nat.le_refl _)))

set_option maxRecDepth 100000 in
set_option maxHeartbeats 6400000 in
theorem run_rules (f : Nat → Int) (A : Option Addr) (k c0 : Nat) (L : List Ru) (n : Int) (a b c : Nat) (w : World) (r : Rd eRu w w.heap.size A k c0 L) (h0 : checkErr f = 0) (h1 : rulesErr L ≠ 0) :
    Calls Try.prog 15 #[.agg (cells18 f), .slice A k c0, .int .i64 n, .agg #[.int .u64 (a : Int), .int .u64 (b : Int), .int .u64 (c : Int)]] w (SRun f L n a b c w) := by
  have HCR0 : ∀ w1, Rd eRu w1 w1.heap.size A k c0 L → Calls Try.prog 35 #[.slice A k c0] w1 fun e w' => e = .returned (.int .i64 (rulesErr L)) ∧ Below w1.heap.size w1 w' := fun w1 h => checkRules_c A k c0 L w1 h
  have HE := hide (runErr_rules (n := n) h0 h1)
  have HNE := hide h1
  have hne2 : (rulesErr L != 0) = true := by simpa using h1
  have hne : (rulesErr L == 0) = false := by simpa using h1
  have hb : Below w.heap.size w (((w.alloc (.cells (cells18 f) 57)).alloc (.cells #[.int .u64 (a : Int), .int .u64 (b : Int), .int .u64 (c : Int)] 69)).alloc (.cells #[.slice none 0 0, .slice none 0 0, .slice none 0 0, .int .i64 0] 66)) := (((Below.refl _ w).alloc (Nat.le_refl _) _).alloc (by simp) _).alloc (by simp; omega) _
  have hO : Blk (((w.alloc (.cells (cells18 f) 57)).alloc (.cells #[.int .u64 (a : Int), .int .u64 (b : Int), .int .u64 (c : Int)] 69)).alloc (.cells #[.slice none 0 0, .slice none 0 0, .slice none 0 0, .int .i64 0] 66)) w.heap.size 57 (cells18 f) := ((Blk.newAt w 57 _ w.heap.size rfl).alloc _).alloc _
  have hS : Blk (((w.alloc (.cells (cells18 f) 57)).alloc (.cells #[.int .u64 (a : Int), .int .u64 (b : Int), .int .u64 (c : Int)] 69)).alloc (.cells #[.slice none 0 0, .slice none 0 0, .slice none 0 0, .int .i64 0] 66)) (w.heap.size + 1) 69 #[.int .u64 (a : Int), .int .u64 (b : Int), .int .u64 (c : Int)] := (Blk.newAt (w.alloc (.cells (cells18 f) 57)) 69 _ (w.heap.size + 1) (by simp)).alloc _
  have hZ : Blk (((w.alloc (.cells (cells18 f) 57)).alloc (.cells #[.int .u64 (a : Int), .int .u64 (b : Int), .int .u64 (c : Int)] 69)).alloc (.cells #[.slice none 0 0, .slice none 0 0, .slice none 0 0, .int .i64 0] 66)) (w.heap.size + 1 + 1) 66 #[.slice none 0 0, .slice none 0 0, .slice none 0 0, .int .i64 0] := Blk.newAt ((w.alloc (.cells (cells18 f) 57)).alloc (.cells #[.int .u64 (a : Int), .int .u64 (b : Int), .int .u64 (c : Int)] 69)) 66 _ (w.heap.size + 1 + 1) (by simp)
  have r1 := r.on hb
  go_enter Try.func15, Try.ntmps15
  go_upto_region 1 with fail
  obtain ⟨W, hW⟩ : ∃ q, q = (((w.alloc (.cells (cells18 f) 57)).alloc (.cells #[.int .u64 (a : Int), .int .u64 (b : Int), .int .u64 (c : Int)] 69)).alloc (.cells #[.slice none 0 0, .slice none 0 0, .slice none 0 0, .int .i64 0] 66)) := ⟨_, rfl⟩
  rw [← hW] at hb hO hS hZ r1 ⊢
  clear hW r
  have hgZ : w.heap.size ≤ w.heap.size + 1 + 1 := by omega
  obtain ⟨gZ, hgZe⟩ : ∃ q, q = w.heap.size + 1 + 1 := ⟨_, rfl⟩
  rw [← hgZe] at hZ hgZ ⊢
  obtain ⟨gS, hgSe⟩ : ∃ q, q = w.heap.size + 1 := ⟨_, rfl⟩
  rw [← hgSe] at hS ⊢
  obtain ⟨gO, hgOe⟩ : ∃ q, q = w.heap.size := ⟨_, rfl⟩
  rw [← hgOe] at hO ⊢
  have HG := hide (And.intro hgZe (And.intro hgSe hgOe))
  clear hgZe hgSe hgOe
  have HCK := hide ((fun W => by have h := check_c f W; rw [h0] at h; exact h) W)
  clear h0 h1
  go_wp2_with (first | (refine wl_load (o := ⟨some 18, _, _, _, _, _⟩) rfl 57 _ rfl gO rfl 57 (cells18 f) _ hO Try.underlying57 rfl (by kernel_rfl) ?_) | (go_at_call 34; refine HCK.out.mono ?_; rintro e w1 ⟨rfl, hb1⟩; have O1 := hO.keep hb1; have S1 := hS.keep hb1; have Z1 := hZ.keep hb1; have r2 := r1.on hb1; have B1 := below_on hb hb1; have HCR := hide (HCR0 w1 r2)) | (go_at_call 35; refine HCR.out.mono ?_; rintro e w2 ⟨rfl, hb2⟩; have O2 := O1.keep hb2; have S2 := S1.keep hb2; have Z2 := Z1.keep hb2; have r3 := r2.on hb2; have B2 := below_on B1 hb2; have q0 := S2.cell 0; simp only [List.getElem?_toArray, List.getElem?_cons_zero] at q0) | (refine wl_store (o := ⟨none, _, _, _, _, _⟩) rfl 66 _ _ rfl gZ #[.slice none 0 0, .slice none 0 0, .slice none 0 0, .int .i64 0] rfl rfl 66 _ Z2 (by kernel_rfl) rfl (by simp [Value.oneCell']) ?_; intro w9 hZ9 hg9))
  refine bodyPost_ret (results_row_tmp rfl _ _ gZ 66 _ _ rfl hZ9 Try.underlying66 rfl (by kernel_rfl)) rfl (SRun.err HE.out HNE.out (below_grown B2 hg9 hgZ (Nat.le_refl _)))

set_option maxRecDepth 100000 in
set_option maxHeartbeats 6400000 in
theorem run_emit (f : Nat → Int) (A : Option Addr) (k c0 : Nat) (L : List Ru) (n : Int) (a b c : Nat) (w : World) (r : Rd eRu w w.heap.size A k c0 L) (h0 : checkErr f = 0) (h1 : rulesErr L = 0) (h2 : emitErr f n ≠ 0) :
    Calls Try.prog 15 #[.agg (cells18 f), .slice A k c0, .int .i64 n, .agg #[.int .u64 (a : Int), .int .u64 (b : Int), .int .u64 (c : Int)]] w (SRun f L n a b c w) := by
  have HCR0 : ∀ w1, Rd eRu w1 w1.heap.size A k c0 L → Calls Try.prog 35 #[.slice A k c0] w1 fun e w' => e = .returned (.int .i64 0) ∧ Below w1.heap.size w1 w' := fun w1 h => (by have q := checkRules_c A k c0 L w1 h; rw [h1] at q; exact q)
  have HE := hide (runErr_emit (n := n) h0 h1)
  have HNE := hide h2
  have hne2 : (emitErr f n != 0) = true := by simpa using h2
  have hne : (emitErr f n == 0) = false := by simpa using h2
  have hb : Below w.heap.size w (((w.alloc (.cells (cells18 f) 57)).alloc (.cells #[.int .u64 (a : Int), .int .u64 (b : Int), .int .u64 (c : Int)] 69)).alloc (.cells #[.slice none 0 0, .slice none 0 0, .slice none 0 0, .int .i64 0] 66)) := (((Below.refl _ w).alloc (Nat.le_refl _) _).alloc (by simp) _).alloc (by simp; omega) _
  have hO : Blk (((w.alloc (.cells (cells18 f) 57)).alloc (.cells #[.int .u64 (a : Int), .int .u64 (b : Int), .int .u64 (c : Int)] 69)).alloc (.cells #[.slice none 0 0, .slice none 0 0, .slice none 0 0, .int .i64 0] 66)) w.heap.size 57 (cells18 f) := ((Blk.newAt w 57 _ w.heap.size rfl).alloc _).alloc _
  have hS : Blk (((w.alloc (.cells (cells18 f) 57)).alloc (.cells #[.int .u64 (a : Int), .int .u64 (b : Int), .int .u64 (c : Int)] 69)).alloc (.cells #[.slice none 0 0, .slice none 0 0, .slice none 0 0, .int .i64 0] 66)) (w.heap.size + 1) 69 #[.int .u64 (a : Int), .int .u64 (b : Int), .int .u64 (c : Int)] := (Blk.newAt (w.alloc (.cells (cells18 f) 57)) 69 _ (w.heap.size + 1) (by simp)).alloc _
  have hZ : Blk (((w.alloc (.cells (cells18 f) 57)).alloc (.cells #[.int .u64 (a : Int), .int .u64 (b : Int), .int .u64 (c : Int)] 69)).alloc (.cells #[.slice none 0 0, .slice none 0 0, .slice none 0 0, .int .i64 0] 66)) (w.heap.size + 1 + 1) 66 #[.slice none 0 0, .slice none 0 0, .slice none 0 0, .int .i64 0] := Blk.newAt ((w.alloc (.cells (cells18 f) 57)).alloc (.cells #[.int .u64 (a : Int), .int .u64 (b : Int), .int .u64 (c : Int)] 69)) 66 _ (w.heap.size + 1 + 1) (by simp)
  have r1 := r.on hb
  go_enter Try.func15, Try.ntmps15
  go_upto_region 1 with fail
  obtain ⟨W, hW⟩ : ∃ q, q = (((w.alloc (.cells (cells18 f) 57)).alloc (.cells #[.int .u64 (a : Int), .int .u64 (b : Int), .int .u64 (c : Int)] 69)).alloc (.cells #[.slice none 0 0, .slice none 0 0, .slice none 0 0, .int .i64 0] 66)) := ⟨_, rfl⟩
  rw [← hW] at hb hO hS hZ r1 ⊢
  clear hW r
  have hgZ : w.heap.size ≤ w.heap.size + 1 + 1 := by omega
  obtain ⟨gZ, hgZe⟩ : ∃ q, q = w.heap.size + 1 + 1 := ⟨_, rfl⟩
  rw [← hgZe] at hZ hgZ ⊢
  obtain ⟨gS, hgSe⟩ : ∃ q, q = w.heap.size + 1 := ⟨_, rfl⟩
  rw [← hgSe] at hS ⊢
  obtain ⟨gO, hgOe⟩ : ∃ q, q = w.heap.size := ⟨_, rfl⟩
  rw [← hgOe] at hO ⊢
  have HG := hide (And.intro hgZe (And.intro hgSe hgOe))
  clear hgZe hgSe hgOe
  have HCK := hide ((fun W => by have h := check_c f W; rw [h0] at h; exact h) W)
  clear h0 h1 h2
  go_wp2_with (first | (refine wl_load (o := ⟨some 18, _, _, _, _, _⟩) rfl 57 _ rfl gO rfl 57 (cells18 f) _ hO Try.underlying57 rfl (by kernel_rfl) ?_) | (go_at_call 34; refine HCK.out.mono ?_; rintro e w1 ⟨rfl, hb1⟩; have O1 := hO.keep hb1; have S1 := hS.keep hb1; have Z1 := hZ.keep hb1; have r2 := r1.on hb1; have B1 := below_on hb hb1; have HCR := hide (HCR0 w1 r2)) | (go_at_call 35; refine HCR.out.mono ?_; rintro e w2 ⟨rfl, hb2⟩; have O2 := O1.keep hb2; have S2 := S1.keep hb2; have Z2 := Z1.keep hb2; have r3 := r2.on hb2; have B2 := below_on B1 hb2; have q0 := S2.cell 0; simp only [List.getElem?_toArray, List.getElem?_cons_zero] at q0) | (refine wl_load (o := ⟨some 31, _, _, _, _, _⟩) rfl 57 _ rfl gO rfl 57 (cells18 f) _ O2 Try.underlying57 rfl (by kernel_rfl) ?_) | (go_at_call 36; refine (emit_c f n a w2).mono ?_; rintro e w3 ⟨A1, n1, c1, rfl, P1, hb3⟩; have O3 := O2.keep hb3; have S3 := S2.keep hb3; have Z3 := Z2.keep hb3; have r4 := r3.on hb3; have B3 := below_on B2 hb3) | (refine wl_store (o := ⟨none, _, _, _, _, _⟩) rfl 66 _ _ rfl gZ #[.slice none 0 0, .slice none 0 0, .slice none 0 0, .int .i64 0] rfl rfl 66 _ Z3 (by kernel_rfl) rfl (by simp [Value.oneCell']) ?_; intro w9 hZ9 hg9))
  refine bodyPost_ret (results_row_tmp rfl _ _ gZ 66 _ _ rfl hZ9 Try.underlying66 rfl (by kernel_rfl)) rfl (SRun.err HE.out HNE.out (below_grown B3 hg9 hgZ (Nat.le_refl _)))
end Go.Proofs.Ytchhkokpjdkkiaa

namespace Go.Proofs.Ytchhkokpjdkkiaa
open Go.RowKit

theorem Rd.aside {α : Type} {e : Enc α} {w : World} {B : Nat} {A : Option Addr} {n c : Nat} {L : List α} {g i : Nat} {t : TypeId} {cs : Array Value} (h : Rd e w B A n c L) (b : Blk w g t cs) (hx : ∀ (x : α) (off : Nat), ¬ ∀ (j : Nat) (v : Value), (e.cells x)[j]? = some v → cs[off + j]? = some v) (u : Value) : Rd e (w.setCell ⟨g, i, none⟩ u) B A n c L := by
  refine ⟨h.len, h.cap, h.max, fun hn => ?_⟩
  obtain ⟨b1, off, ea, hb, hc⟩ := h.at_ hn
  refine ⟨b1, off, ea, hb, fun k x hk j v hv => ?_⟩
  have hne : b1 ≠ g := fun eg => by
    subst eg
    obtain ⟨y, hy⟩ : ∃ y, L[0]? = some y := ⟨_, List.getElem?_eq_getElem (by rw [h.len]; exact hn)⟩
    refine hx y off fun j v hv => ?_
    have := hc 0 y hy j v hv
    rw [Nat.zero_mul, Nat.add_zero, b.cell] at this
    exact this
  have := hc k x hk j v hv
  unfold World.cell? at this ⊢
  rw [Below.heap_setCell _ _ _ _ (show b1 ≠ g from hne)]
  exact this
/-- The same behind whatever turns that block alone. -/
theorem Rd.asideG {α : Type} {e : Enc α} {w w' : World} {B : Nat} {A : Option Addr} {n c : Nat} {L : List α} {g : Nat} {t : TypeId} {cs : Array Value} (h : Rd e w B A n c L) (b : Blk w g t cs) (hx : ∀ (x : α) (off : Nat), ¬ ∀ (j : Nat) (v : Value), (e.cells x)[j]? = some v → cs[off + j]? = some v) (hg : w.grownBy w' (some g)) (hB : B ≤ w.heap.size) : Rd e w' B A n c L := by
  refine ⟨h.len, h.cap, h.max, fun hn => ?_⟩
  obtain ⟨b1, off, ea, hb, hc⟩ := h.at_ hn
  refine ⟨b1, off, ea, hb, fun k x hk j v hv => ?_⟩
  have hne : b1 ≠ g := fun eg => by
    subst eg
    obtain ⟨y, hy⟩ : ∃ y, L[0]? = some y := ⟨_, List.getElem?_eq_getElem (by rw [h.len]; exact hn)⟩
    refine hx y off fun j v hv => ?_
    have := hc 0 y hy j v hv
    rw [Nat.zero_mul, Nat.add_zero, b.cell] at this
    exact this
  have := hc k x hk j v hv
  unfold World.cell? at this ⊢
  rw [hg.block b1 (by omega) (by simpa using hne)]
  exact this
/-- A flight's block (three lists and a number) holds no pulse, no light, no note, no click. -/
def flC (A1 A2 A3 : Option Addr) (n1 c1 n2 c2 n3 c3 : Nat) (s : Int) : Array Value := #[.slice A1 n1 c1, .slice A2 n2 c2, .slice A3 n3 c3, .int .i64 s]
section
variable {A1 A2 A3 : Option Addr} {n1 c1 n2 c2 n3 c3 : Nat} {s : Int}
theorem flC_bool {k : Nat} {b : Bool} (h : (flC A1 A2 A3 n1 c1 n2 c2 n3 c3 s)[k]? = some (.bool b)) : False := by
  match k, h with
  | 0, h => simp [flC] at h
  | 1, h => simp [flC] at h
  | 2, h => simp [flC] at h
  | 3, h => simp [flC] at h
  | k + 4, h => simp [flC] at h
theorem flC_pu (x : Pu) (off : Nat) : ¬ ∀ (j : Nat) (v : Value), (ePu.cells x)[j]? = some v → (flC A1 A2 A3 n1 c1 n2 c2 n3 c3 s)[off + j]? = some v := fun h => flC_bool (h 1 (.bool x.bit) rfl)
theorem flC_li (x : Li) (off : Nat) : ¬ ∀ (j : Nat) (v : Value), (eLi.cells x)[j]? = some v → (flC A1 A2 A3 n1 c1 n2 c2 n3 c3 s)[off + j]? = some v := fun h => flC_bool (h 2 (.bool x.bit) rfl)
theorem flC_no (x : No) (off : Nat) : ¬ ∀ (j : Nat) (v : Value), (eNo.cells x)[j]? = some v → (flC A1 A2 A3 n1 c1 n2 c2 n3 c3 s)[off + j]? = some v := fun h => flC_bool (h 3 (.bool x.bit) rfl)
theorem flC_ck (x : Ck) (off : Nat) : ¬ ∀ (j : Nat) (v : Value), (eCk.cells x)[j]? = some v → (flC A1 A2 A3 n1 c1 n2 c2 n3 c3 s)[off + j]? = some v := by
  intro h
  have a := h 0 (.int .i64 x.b) rfl
  have b := h 1 (.int .i64 x.k) rfl
  match off, a, b with
  | 0, a, _ => simp [flC] at a
  | 1, a, _ => simp [flC] at a
  | 2, a, _ => simp [flC] at a
  | 3, _, b => simp [flC] at b
  | k + 4, a, _ => simp [flC] at a
end
end Go.Proofs.Ytchhkokpjdkkiaa
namespace Go.Proofs.Ytchhkokpjdkkiaa
open Go.RowKit

theorem Rd.asideS {α : Type} {e : Enc α} {w : World} {A : Option Addr} {n c : Nat} {L : List α} {g i : Nat} {t : TypeId} {cs : Array Value} (h : Rd e w w.heap.size A n c L) (b : Blk w g t cs) (hx : ∀ (x : α) (off : Nat), ¬ ∀ (j : Nat) (v : Value), (e.cells x)[j]? = some v → cs[off + j]? = some v) (u : Value) : Rd e (w.setCell ⟨g, i, none⟩ u) (w.setCell ⟨g, i, none⟩ u).heap.size A n c L :=
  (h.aside b hx u).mono (by simp [World.setCell])
theorem Rd.asideT {α : Type} {e : Enc α} {w w' : World} {A : Option Addr} {n c : Nat} {L : List α} {g : Nat} {t : TypeId} {cs : Array Value} (h : Rd e w w.heap.size A n c L) (b : Blk w g t cs) (hx : ∀ (x : α) (off : Nat), ¬ ∀ (j : Nat) (v : Value), (e.cells x)[j]? = some v → cs[off + j]? = some v) (hg : w.grownBy w' (some g)) : Rd e w' w'.heap.size A n c L :=
  (h.asideG b hx hg (Nat.le_refl _)).mono hg.size
theorem below_setNew {w0 w : World} (h : Below w0.heap.size w0 w) {g i : Nat} (hg : w0.heap.size ≤ g) (u : Value) : Below w0.heap.size w0 (w.setCell ⟨g, i, none⟩ u) :=
  below_grown h (grownBy_setCell w g i u) hg (Nat.le_refl _)
theorem size_of_below {w0 w : World} (h : Below w0.heap.size w0 w) : w0.heap.size ≤ w.heap.size := h.size
theorem flC_eq (A1 A2 A3 : Option Addr) (n1 c1 n2 c2 n3 c3 : Nat) (s : Int) : (#[.slice A1 n1 c1, .slice A2 n2 c2, .slice A3 n3 c3, .int .i64 s] : Array Value) = flC A1 A2 A3 n1 c1 n2 c2 n3 c3 s := rfl

set_option maxRecDepth 100000 in
set_option maxHeartbeats 6400000 in
theorem run_ok (f : Nat → Int) (A : Option Addr) (k c0 : Nat) (L : List Ru) (n : Int) (a b c : Nat) (w : World) (r : Rd eRu w w.heap.size A k c0 L) (h0 : checkErr f = 0) (h1 : rulesErr L = 0) (h2 : emitErr f n = 0) :
    Calls Try.prog 15 #[.agg (cells18 f), .slice A k c0, .int .i64 n, .agg #[.int .u64 (a : Int), .int .u64 (b : Int), .int .u64 (c : Int)]] w (SRun f L n a b c w) := by
  have HR := hide r
  have HCR0 : ∀ w1, Rd eRu w1 w1.heap.size A k c0 L → Calls Try.prog 35 #[.slice A k c0] w1 fun e w' => e = .returned (.int .i64 0) ∧ Below w1.heap.size w1 w' := fun w1 h => (by have q := checkRules_c A k c0 L w1 h; rw [h1] at q; exact q)
  have HEM := hide (fun W => (by have q := emit_c f n a W; unfold SEm at q; simp only [h2] at q; exact q : Calls Try.prog 36 #[.agg (cells18 f), .int .i64 n, .int .u64 (a : Int)] W fun e w' => ∃ A n1 c, e = .returned (.tuple #[.slice A n1 c, .int .i64 0]) ∧ Rd ePu w' w'.heap.size A n1 c (emitL f n a) ∧ Below W.heap.size W w'))
  have HE := hide ((runErr_emit (n := n) h0 h1).trans h2)
  have hb : Below w.heap.size w (((w.alloc (.cells (cells18 f) 57)).alloc (.cells #[.int .u64 (a : Int), .int .u64 (b : Int), .int .u64 (c : Int)] 69)).alloc (.cells #[.slice none 0 0, .slice none 0 0, .slice none 0 0, .int .i64 0] 66)) := (((Below.refl _ w).alloc (Nat.le_refl _) _).alloc (by simp) _).alloc (by simp; omega) _
  have hO : Blk (((w.alloc (.cells (cells18 f) 57)).alloc (.cells #[.int .u64 (a : Int), .int .u64 (b : Int), .int .u64 (c : Int)] 69)).alloc (.cells #[.slice none 0 0, .slice none 0 0, .slice none 0 0, .int .i64 0] 66)) w.heap.size 57 (cells18 f) := ((Blk.newAt w 57 _ w.heap.size rfl).alloc _).alloc _
  have hS : Blk (((w.alloc (.cells (cells18 f) 57)).alloc (.cells #[.int .u64 (a : Int), .int .u64 (b : Int), .int .u64 (c : Int)] 69)).alloc (.cells #[.slice none 0 0, .slice none 0 0, .slice none 0 0, .int .i64 0] 66)) (w.heap.size + 1) 69 #[.int .u64 (a : Int), .int .u64 (b : Int), .int .u64 (c : Int)] := (Blk.newAt (w.alloc (.cells (cells18 f) 57)) 69 _ (w.heap.size + 1) (by simp)).alloc _
  have hZ : Blk (((w.alloc (.cells (cells18 f) 57)).alloc (.cells #[.int .u64 (a : Int), .int .u64 (b : Int), .int .u64 (c : Int)] 69)).alloc (.cells #[.slice none 0 0, .slice none 0 0, .slice none 0 0, .int .i64 0] 66)) (w.heap.size + 1 + 1) 66 #[.slice none 0 0, .slice none 0 0, .slice none 0 0, .int .i64 0] := Blk.newAt ((w.alloc (.cells (cells18 f) 57)).alloc (.cells #[.int .u64 (a : Int), .int .u64 (b : Int), .int .u64 (c : Int)] 69)) 66 _ (w.heap.size + 1 + 1) (by simp)
  have r1 := r.on hb
  go_enter Try.func15, Try.ntmps15
  go_upto_region 1 with fail
  obtain ⟨W, hW⟩ : ∃ q, q = (((w.alloc (.cells (cells18 f) 57)).alloc (.cells #[.int .u64 (a : Int), .int .u64 (b : Int), .int .u64 (c : Int)] 69)).alloc (.cells #[.slice none 0 0, .slice none 0 0, .slice none 0 0, .int .i64 0] 66)) := ⟨_, rfl⟩
  rw [← hW] at hb hO hS hZ r1 ⊢
  clear hW r
  have hgZ : w.heap.size ≤ w.heap.size + 1 + 1 := by omega
  obtain ⟨gZ, hgZe⟩ : ∃ q, q = w.heap.size + 1 + 1 := ⟨_, rfl⟩
  rw [← hgZe] at hZ hgZ ⊢
  obtain ⟨gS, hgSe⟩ : ∃ q, q = w.heap.size + 1 := ⟨_, rfl⟩
  rw [← hgSe] at hS ⊢
  obtain ⟨gO, hgOe⟩ : ∃ q, q = w.heap.size := ⟨_, rfl⟩
  rw [← hgOe] at hO ⊢
  have HG := hide (And.intro hgZe (And.intro hgSe hgOe))
  clear hgZe hgSe hgOe
  have HCK := hide ((fun W => by have h := check_c f W; rw [h0] at h; exact h) W)
  clear h0 h1 h2
  go_wp2_with (first | (refine wl_load (o := ⟨some 18, _, _, _, _, _⟩) rfl 57 _ rfl gO rfl 57 (cells18 f) _ hO Try.underlying57 rfl (by kernel_rfl) ?_) | (go_at_call 34; refine HCK.out.mono ?_; rintro e w1 ⟨rfl, hb1⟩; have O1 := hO.keep hb1; have S1 := hS.keep hb1; have Z1 := hZ.keep hb1; have r2 := r1.on hb1; have B1 := below_on hb hb1; have HCR := hide (HCR0 w1 r2)) | (go_at_call 35; refine HCR.out.mono ?_; rintro e w2 ⟨rfl, hb2⟩; have O2 := O1.keep hb2; have S2 := S1.keep hb2; have Z2 := Z1.keep hb2; have r3 := r2.on hb2; have B2 := below_on B1 hb2; have q0 := S2.cell 0; simp only [List.getElem?_toArray, List.getElem?_cons_zero] at q0) | (refine wl_load (o := ⟨some 31, _, _, _, _, _⟩) rfl 57 _ rfl gO rfl 57 (cells18 f) _ O2 Try.underlying57 rfl (by kernel_rfl) ?_) | (go_at_call 36; refine (HEM.out w2).mono ?_; rintro e w3 ⟨A1, n1, c1, rfl, P1, hb3⟩; refine Hid.out ?_))
  have O3 := O2.keep hb3
  have S3 := S2.keep hb3
  have Z3 := Z2.keep hb3
  have B3 := below_on B2 hb3
  clear r1 r2 r3 O1 O2 S1 S2 Z1 Z2 hO hS hZ HCR HCK HCR0 hb hb1 hb2 B1 B2 q0
  have O4 := O3.alloc (.cells (flC A1 none none n1 c1 0 0 0 0 0) 66)
  have S4 := S3.alloc (.cells (flC A1 none none n1 c1 0 0 0 0 0) 66)
  have Z4 := Z3.alloc (.cells (flC A1 none none n1 c1 0 0 0 0 0) 66)
  have P4 := P1.alloc (.cells (flC A1 none none n1 c1 0 0 0 0 0) 66)
  have B4 := below_on B3 (below_alloc w3 (.cells (flC A1 none none n1 c1 0 0 0 0 0) 66))
  have F4 := Blk.newAt w3 66 (flC A1 none none n1 c1 0 0 0 0 0) w3.heap.size rfl
  have lZ := Z3.lt
  have lS := S3.lt
  have lO := O3.lt
  have lW := B3.size
  refine hide ?_
  go_upto_region 11 with fail
  rw [flC_eq]
  obtain ⟨w4, hw4⟩ : ∃ q, q = w3.alloc (.cells (flC A1 none none n1 c1 0 0 0 0 0) 66) := ⟨_, rfl⟩
  rw [← hw4] at O4 S4 Z4 P4 B4 F4 ⊢
  clear hw4 O3 S3 Z3 P1 B3 hb3
  obtain ⟨gF, hgFe⟩ : ∃ q, q = w3.heap.size := ⟨_, rfl⟩
  rw [← hgFe] at F4 lZ lS lO lW ⊢
  clear hgFe
  have r4 := HR.out.on B4
  go_upto_region 12 with (go_at_call 37; refine (shift_c A k c0 L w4 r4).mono ?_; rintro e w5 ⟨rfl, hb5⟩; have F5 := F4.keep hb5; have q5 := F5.cell 3; simp only [flC, List.getElem?_toArray, List.getElem?_cons_succ, List.getElem?_cons_zero] at q5; have z5 := F5.frozen 3)
  have O6 := (O4.keep hb5).far (p := ⟨gF, 3, none⟩) (by simp; omega) (.int .i64 (shiftErr L))
  have S6 := (S4.keep hb5).far (p := ⟨gF, 3, none⟩) (by simp; omega) (.int .i64 (shiftErr L))
  have Z6 := (Z4.keep hb5).far (p := ⟨gF, 3, none⟩) (by simp; omega) (.int .i64 (shiftErr L))
  have P6 := (P4.on hb5).asideS (i := 3) F5 flC_pu (.int .i64 (shiftErr L))
  have B6 := below_setNew (i := 3) (below_on B4 hb5) lW (.int .i64 (shiftErr L))
  have F6 : Blk (w5.setCell ⟨gF, 3, none⟩ (.int .i64 (shiftErr L))) gF 66 (flC A1 none none n1 c1 0 0 0 0 (shiftErr L)) := F5.set_ 3 (.int .i64 (shiftErr L))
  obtain ⟨w6, hw6⟩ : ∃ q, q = w5.setCell ⟨gF, 3, none⟩ (.int .i64 (shiftErr L)) := ⟨_, rfl⟩
  rw [← hw6] at O6 S6 Z6 P6 B6 F6 ⊢
  clear hw6 O4 S4 Z4 P4 B4 F4 F5 r4 q5 z5 hb5
  have r6 := HR.out.on B6
  have q6 := S6.cell 1
  simp only [List.getElem?_toArray, List.getElem?_cons_succ, List.getElem?_cons_zero] at q6
  go_upto_region 13 with (go_at_call 38; refine (carry_c A k c0 L A1 n1 c1 (emitL f n a) b w6 r6 P6).mono ?_; rintro e w7 ⟨A2, n2, c2, A3, n3, c3, rfl, X7, N7, hb7⟩)
  have O7 := O6.keep hb7
  have S7 := S6.keep hb7
  have Z7 := Z6.keep hb7
  have P7 := P6.on hb7
  have B7 := below_on B6 hb7
  have F7 := F6.keep hb7
  clear O6 S6 Z6 P6 B6 F6 r6 q6 hb7
  have z7 := F7.frozen 2
  have q7 := F7.cell 2
  simp only [flC, List.getElem?_toArray, List.getElem?_cons_succ, List.getElem?_cons_zero] at q7
  go_upto_region 14 with fail
  have O8 := O7.far (p := ⟨gF, 2, none⟩) (by simp; omega) (.slice A3 n3 c3)
  have S8 := S7.far (p := ⟨gF, 2, none⟩) (by simp; omega) (.slice A3 n3 c3)
  have Z8 := Z7.far (p := ⟨gF, 2, none⟩) (by simp; omega) (.slice A3 n3 c3)
  have P8 := P7.asideS (i := 2) F7 flC_pu (.slice A3 n3 c3)
  have X8 := X7.asideS (i := 2) F7 flC_li (.slice A3 n3 c3)
  have N8 := N7.asideS (i := 2) F7 flC_no (.slice A3 n3 c3)
  have B8 := below_setNew (i := 2) B7 lW (.slice A3 n3 c3)
  have F8 : Blk (w7.setCell ⟨gF, 2, none⟩ (.slice A3 n3 c3)) gF 66 (flC A1 none A3 n1 c1 0 0 n3 c3 (shiftErr L)) := F7.set_ 2 (.slice A3 n3 c3)
  obtain ⟨w8, hw8⟩ : ∃ q, q = w7.setCell ⟨gF, 2, none⟩ (.slice A3 n3 c3) := ⟨_, rfl⟩
  rw [← hw8] at O8 S8 Z8 P8 X8 N8 B8 F8 ⊢
  clear hw8 O7 S7 Z7 P7 X7 N7 B7 F7 q7 z7
  have q8 := F8.cell 3
  simp only [flC, List.getElem?_toArray, List.getElem?_cons_succ, List.getElem?_cons_zero] at q8
  have s8 := S8.cell 2
  simp only [List.getElem?_toArray, List.getElem?_cons_succ, List.getElem?_cons_zero] at s8
  go_upto_region 15 with (first | (refine wl_load (o := ⟨some 62, _, _, _, _, _⟩) rfl 57 _ rfl gO rfl 57 (cells18 f) _ O8 Try.underlying57 rfl (by kernel_rfl) ?_) | (go_at_call 39; refine (detect_c f A2 n2 c2 (carryX L (emitL f n a) b) (shiftErr L) c w8 X8).mono ?_; rintro e w9 ⟨A4, n4, c4, rfl, C9, hb9⟩; have F9 := F8.keep hb9; have q9 := F9.cell 1; simp only [flC, List.getElem?_toArray, List.getElem?_cons_succ, List.getElem?_cons_zero] at q9; have z9 := F9.frozen 1))
  have Z10 := (Z8.keep hb9).far (p := ⟨gF, 1, none⟩) (by simp; omega) (.slice A4 n4 c4)
  have P10 := (P8.on hb9).asideS (i := 1) F9 flC_pu (.slice A4 n4 c4)
  have N10 := (N8.on hb9).asideS (i := 1) F9 flC_no (.slice A4 n4 c4)
  have C10 := C9.asideS (i := 1) F9 flC_ck (.slice A4 n4 c4)
  have B10 := below_setNew (i := 1) (below_on B8 hb9) lW (.slice A4 n4 c4)
  have F10 : Blk (w9.setCell ⟨gF, 1, none⟩ (.slice A4 n4 c4)) gF 66 (flC A1 A4 A3 n1 c1 n4 c4 n3 c3 (shiftErr L)) := F9.set_ 1 (.slice A4 n4 c4)
  obtain ⟨w10, hw10⟩ : ∃ q, q = w9.setCell ⟨gF, 1, none⟩ (.slice A4 n4 c4) := ⟨_, rfl⟩
  rw [← hw10] at Z10 P10 N10 C10 B10 F10 ⊢
  clear hw10 O8 S8 Z8 P8 X8 N8 B8 F8 q8 s8 F9 q9 z9 C9 hb9
  go_wp2_with (first | (refine wl_load (o := ⟨some 72, _, _, _, _, _⟩) rfl 66 _ rfl gF rfl 66 (flC A1 A4 A3 n1 c1 n4 c4 n3 c3 (shiftErr L)) _ F10 Try.underlying66 rfl (by kernel_rfl) ?_) | (refine wl_store (o := ⟨none, _, _, _, _, _⟩) rfl 66 _ _ rfl gZ (flC A1 A4 A3 n1 c1 n4 c4 n3 c3 (shiftErr L)) rfl rfl 66 _ Z10 (by kernel_rfl) rfl (by simp [flC, Value.oneCell']) ?_; intro w11 hZ11 hg11))
  refine bodyPost_ret (results_row_tmp rfl _ _ gZ 66 _ _ rfl hZ11 Try.underlying66 rfl (by kernel_rfl)) rfl ?_
  have Z10' : Blk w10 gZ 66 (flC none none none 0 0 0 0 0 0 0) := Z10
  exact SRun.ok HE.out (below_grown B10 hg11 hgZ (Nat.le_refl _)) (P10.asideT Z10' flC_pu hg11) (C10.asideT Z10' flC_ck hg11) (N10.asideT Z10' flC_no hg11)
theorem run_c (f : Nat → Int) (A : Option Addr) (k c0 : Nat) (L : List Ru) (n : Int) (a b c : Nat) (w : World) (r : Rd eRu w w.heap.size A k c0 L) :
    Calls Try.prog 15 #[.agg (cells18 f), .slice A k c0, .int .i64 n, .agg #[.int .u64 (a : Int), .int .u64 (b : Int), .int .u64 (c : Int)]] w (SRun f L n a b c w) := by
  by_cases h0 : checkErr f = 0
  · by_cases h1 : rulesErr L = 0
    · by_cases h2 : emitErr f n = 0
      · exact run_ok f A k c0 L n a b c w r h0 h1 h2
      · exact run_emit f A k c0 L n a b c w r h0 h1 h2
    · exact run_rules f A k c0 L n a b c w r h0 h1
  · exact run_check f A k c0 L n a b c w r (checkErr_two h0)
end Go.Proofs.Ytchhkokpjdkkiaa
