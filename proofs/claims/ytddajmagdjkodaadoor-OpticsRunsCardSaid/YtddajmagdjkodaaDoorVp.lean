/- Contract of the reference's Act. -/
import Derived.Test.YtddajmagdjkodaaDoorVm
import Derived.Test.YtddajmagdjkodaaDoorQr
namespace Go.Proofs.YtddajmagdjkodaaDoor
open Go.RowKit

def ruC (r : Ru) : Array Value := #[.int .i64 r.k, .int .i64 r.fr, .int .i64 r.to, .int .i64 r.a, .int .i64 r.b]
def liC (x : Li) : Array Value := #[.int .i64 x.ph, .int .i64 x.b, .bool x.bit, .bool x.bright]
/-- The blocks of a call of Act. -/
structure RS (w : World) (gR gX gZ D s : Nat) (r : Ru) (x : Li) (W : World) : Prop where
  r : Blk W gR 62 (ruC r)
  x : Blk W gX 65 (liC x)
  z : Blk W gZ 65 #[.int .i64 0, .int .i64 0, .bool false, .bool false]
  d : Rr W D s
  f : w.grownBy W (some D)
/-- Where they lie. -/
structure RG (w : World) (gR gX gZ D : Nat) : Prop where
  r : gR = w.heap.size
  x : gX = w.heap.size + 1
  z : gZ = w.heap.size + 2
  d : D < w.heap.size
theorem RS.draw {w W W' : World} {gR gX gZ D s s' : Nat} {r : Ru} {x : Li} (h : RS w gR gX gZ D s r x W) (g : RG w gR gX gZ D) (hd : Rr W' D s') (hg : W.grownBy W' (some D)) : RS w gR gX gZ D s' r x W' := by
  obtain ⟨g1, g2, g3, g4⟩ := g
  exact ⟨h.r.grown hg (by simp; omega), h.x.grown hg (by simp; omega), h.z.grown hg (by simp; omega), hd, h.f.trans hg⟩
theorem RS.drew {w W : World} {gR gX gZ D s : Nat} {r : Ru} {x : Li} (h : RS w gR gX gZ D s r x W) : RS w gR gX gZ D s r x W.drew := ⟨h.r.drew, h.x.drew, h.z.drew, h.d, grownBy_drew h.f⟩
theorem RS.alloc {w W : World} {gR gX gZ D s : Nat} {r : Ru} {x : Li} (h : RS w gR gX gZ D s r x W) (o : Obj) : RS w gR gX gZ D s r x (W.alloc o) := ⟨h.r.alloc o, h.x.alloc o, h.z.alloc o, Blk.alloc h.d o, grownBy_alloc h.f o⟩
theorem RS.setX {w W : World} {gR gX gZ D s : Nat} {r : Ru} {x x' : Li} (h : RS w gR gX gZ D s r x W) (g : RG w gR gX gZ D) (i : Nat) (v : Value) (hx : (liC x).setIfInBounds i v = liC x') : RS w gR gX gZ D s r x' (W.setCell ⟨gX, i, none⟩ v) := by
  obtain ⟨g1, g2, g3, g4⟩ := g
  exact ⟨h.r.far (by simp; omega) v, hx ▸ h.x.set_ i v, h.z.far (by simp; omega) v, Blk.far h.d (by simp; omega) v, grownBy_set h.f (by simp; omega) v⟩
theorem RS.fin {w W W' : World} {gR gX gZ D s : Nat} {r : Ru} {x : Li} (h : RS w gR gX gZ D s r x W) (g : RG w gR gX gZ D) (hg : W.grownBy W' (some gZ)) : Rr W' D s ∧ w.grownBy W' (some D) := by
  obtain ⟨g1, g2, g3, g4⟩ := g
  refine ⟨Blk.grown h.d hg (by simp; omega), ⟨hg.os.trans h.f.os, hg.tape.trans h.f.tape, hg.output.trans h.f.output, Nat.le_trans h.f.size hg.size, fun i hi hne => ?_⟩⟩
  exact (hg.block i (Nat.lt_of_lt_of_le hi h.f.size) (by simp; omega)).trans (h.f.block i hi hne)
def noC (y : No) : Array Value := #[.int .i64 y.slot, .int .i64 y.how, .int .i64 y.b, .bool y.bit]
/-- The notes that come back: none, or one in a block that the call made. -/
def Src (w w' : World) (A : Option Addr) (n c : Nat) (N : List No) : Prop :=
  (A = none ∧ n = 0 ∧ c = 0 ∧ N = []) ∨ ∃ (g : Nat) (y : No), A = some ⟨g, 0, none⟩ ∧ n = 1 ∧ c = 1 ∧ N = [y] ∧ w.heap.size ≤ g ∧ Blk w' g 86 (noC y)
/-- What a call of Act hands back: T: the light, the notes, the state. -/
def SRA (T : Li × List No × Nat) (D : Nat) (w : World) (e : Ending) (w' : World) : Prop :=
  ∃ A n c, e = .returned (.tuple #[.agg (liC T.1), .slice A n c]) ∧ Src w w' A n c T.2.1 ∧ Rr w' D T.2.2 ∧ w.grownBy w' (some D)
theorem SRA.bare {x : Li} {s D : Nat} {w W : World} (h : Rr W D s ∧ w.grownBy W (some D)) : SRA (x, [], s) D w (.returned (.tuple #[.agg (liC x), .slice none 0 0])) W :=
  ⟨none, 0, 0, rfl, Or.inl ⟨rfl, rfl, rfl, rfl⟩, h.1, h.2⟩
theorem SRA.one {x : Li} {y : No} {s D : Nat} {w W : World} {g : Nat} (h : Rr W D s ∧ w.grownBy W (some D)) (b : Blk W g 86 (noC y)) (hg : w.heap.size ≤ g) : SRA (x, [y], s) D w (.returned (.tuple #[.agg (liC x), .slice (some ⟨g, 0, none⟩) 1 1])) W :=
  ⟨_, 1, 1, rfl, Or.inr ⟨g, y, rfl, rfl, rfl, rfl, hg, b⟩, h.1, h.2⟩

set_option maxRecDepth 100000 in
set_option maxHeartbeats 6400000 in
theorem ract_out4 (fr td a b : Int) (i : Nat) (ph xb : Int) (xt xr : Bool) (D s : Nat) (w : World) (hD : Rr w D s) (hc : ¬ (fr ≤ (i : Int) ∧ (i : Int) ≤ td)) :
    Calls Tryd.prog 74 #[.agg #[.int .i64 4, .int .i64 fr, .int .i64 td, .int .i64 a, .int .i64 b], .int .i64 i, .agg #[.int .i64 ph, .int .i64 xb, .bool xt, .bool xr], .pointer (some ⟨D, 0, none⟩)] w (SRA (⟨ph, xb, xt, xr⟩, [], s) D w) := by
  have h : RS w w.heap.size (w.heap.size + 1) (w.heap.size + 2) D s ⟨4, fr, td, a, b⟩ ⟨ph, xb, xt, xr⟩ (((w.alloc (.cells #[.int .i64 4, .int .i64 fr, .int .i64 td, .int .i64 a, .int .i64 b] 62)).alloc (.cells #[.int .i64 ph, .int .i64 xb, .bool xt, .bool xr] 65)).alloc (.cells #[.int .i64 0, .int .i64 0, .bool false, .bool false] 65)) :=
    ⟨((Blk.newAt w 62 _ w.heap.size rfl).alloc _).alloc _, (Blk.newAt (w.alloc (.cells #[.int .i64 4, .int .i64 fr, .int .i64 td, .int .i64 a, .int .i64 b] 62)) 65 _ (w.heap.size + 1) (by simp)).alloc _, Blk.newAt ((w.alloc (.cells #[.int .i64 4, .int .i64 fr, .int .i64 td, .int .i64 a, .int .i64 b] 62)).alloc (.cells #[.int .i64 ph, .int .i64 xb, .bool xt, .bool xr] 65)) 65 _ (w.heap.size + 2) (by simp), Blk.alloc (Blk.alloc (Blk.alloc hD _) _) _, grownBy_alloc (grownBy_alloc (grownBy_alloc (World.grownBy.refl w _) _) _) _⟩
  have g : RG w w.heap.size (w.heap.size + 1) (w.heap.size + 2) D := ⟨rfl, rfl, rfl, Blk.lt hD⟩
  go_enter Tryd.func74, Tryd.ntmps74
  go_upto_region 1 with fail
  obtain ⟨W, hW⟩ : ∃ W, W = ((w.alloc (.cells #[.int .i64 4, .int .i64 fr, .int .i64 td, .int .i64 a, .int .i64 b] 62)).alloc (.cells #[.int .i64 ph, .int .i64 xb, .bool xt, .bool xr] 65)).alloc (.cells #[.int .i64 0, .int .i64 0, .bool false, .bool false] 65) := ⟨_, rfl⟩
  rw [← hW] at h ⊢
  clear hW hD
  rw [show w.heap.size + 1 + 1 = w.heap.size + 2 from rfl]
  obtain ⟨gR, hgR⟩ : ∃ q, q = w.heap.size := ⟨_, rfl⟩
  obtain ⟨gX, hgX⟩ : ∃ q, q = w.heap.size + 1 := ⟨_, rfl⟩
  obtain ⟨gZ, hgZ⟩ : ∃ q, q = w.heap.size + 2 := ⟨_, rfl⟩
  rw [← hgX, ← hgZ, ← hgR] at h g ⊢
  clear hgR hgX hgZ
  have r0 := h.r.cell 0
  have r1 := h.r.cell 1
  have r2 := h.r.cell 2
  have r3 := h.r.cell 3
  have r4 := h.r.cell 4
  have x0 := h.x.cell 0
  have x1 := h.x.cell 1
  have x2 := h.x.cell 2
  have x3 := h.x.cell 3
  simp only [ruC, liC, List.getElem?_toArray, List.getElem?_cons_zero, List.getElem?_cons_succ] at r0 r1 r2 r3 r4 x0 x1 x2 x3
  have hRD : some gR ≠ some D := by have := g.r; have := g.d; simp; omega
  have hXD : some gX ≠ some D := by have := g.x; have := g.d; simp; omega
  by_cases h1 : (i : Int) < fr
  · clear hc
    go_upto_region 3 with fail
    go_wp2_with (refine wl_store (o := ⟨none, _, _, _, _, _⟩) rfl 65 _ _ rfl gZ #[.int .i64 ph, .int .i64 xb, .bool xt, .bool xr] rfl rfl 65 _ h.z (by kernel_rfl) rfl (by simp [Value.oneCell']) ?_; intro w9 hZ9 hg9)
    exact bodyPost_ret (results_row_tmp rfl _ _ gZ 65 _ _ rfl hZ9 Tryd.underlying65 rfl (by kernel_rfl)) rfl (SRA.bare (h.fin g hg9))
  · have h2 : td < (i : Int) := by omega
    clear hc
    go_upto_region 3 with fail
    go_wp2_with (refine wl_store (o := ⟨none, _, _, _, _, _⟩) rfl 65 _ _ rfl gZ #[.int .i64 ph, .int .i64 xb, .bool xt, .bool xr] rfl rfl 65 _ h.z (by kernel_rfl) rfl (by simp [Value.oneCell']) ?_; intro w9 hZ9 hg9)
    exact bodyPost_ret (results_row_tmp rfl _ _ gZ 65 _ _ rfl hZ9 Tryd.underlying65 rfl (by kernel_rfl)) rfl (SRA.bare (h.fin g hg9))

set_option maxRecDepth 100000 in
set_option maxHeartbeats 6400000 in
theorem ract_out5 (fr td a b : Int) (i : Nat) (ph xb : Int) (xt xr : Bool) (D s : Nat) (w : World) (hD : Rr w D s) (hc : ¬ (fr ≤ (i : Int) ∧ (i : Int) ≤ td)) :
    Calls Tryd.prog 74 #[.agg #[.int .i64 5, .int .i64 fr, .int .i64 td, .int .i64 a, .int .i64 b], .int .i64 i, .agg #[.int .i64 ph, .int .i64 xb, .bool xt, .bool xr], .pointer (some ⟨D, 0, none⟩)] w (SRA (⟨ph, xb, xt, xr⟩, [], s) D w) := by
  have h : RS w w.heap.size (w.heap.size + 1) (w.heap.size + 2) D s ⟨5, fr, td, a, b⟩ ⟨ph, xb, xt, xr⟩ (((w.alloc (.cells #[.int .i64 5, .int .i64 fr, .int .i64 td, .int .i64 a, .int .i64 b] 62)).alloc (.cells #[.int .i64 ph, .int .i64 xb, .bool xt, .bool xr] 65)).alloc (.cells #[.int .i64 0, .int .i64 0, .bool false, .bool false] 65)) :=
    ⟨((Blk.newAt w 62 _ w.heap.size rfl).alloc _).alloc _, (Blk.newAt (w.alloc (.cells #[.int .i64 5, .int .i64 fr, .int .i64 td, .int .i64 a, .int .i64 b] 62)) 65 _ (w.heap.size + 1) (by simp)).alloc _, Blk.newAt ((w.alloc (.cells #[.int .i64 5, .int .i64 fr, .int .i64 td, .int .i64 a, .int .i64 b] 62)).alloc (.cells #[.int .i64 ph, .int .i64 xb, .bool xt, .bool xr] 65)) 65 _ (w.heap.size + 2) (by simp), Blk.alloc (Blk.alloc (Blk.alloc hD _) _) _, grownBy_alloc (grownBy_alloc (grownBy_alloc (World.grownBy.refl w _) _) _) _⟩
  have g : RG w w.heap.size (w.heap.size + 1) (w.heap.size + 2) D := ⟨rfl, rfl, rfl, Blk.lt hD⟩
  go_enter Tryd.func74, Tryd.ntmps74
  go_upto_region 1 with fail
  obtain ⟨W, hW⟩ : ∃ W, W = ((w.alloc (.cells #[.int .i64 5, .int .i64 fr, .int .i64 td, .int .i64 a, .int .i64 b] 62)).alloc (.cells #[.int .i64 ph, .int .i64 xb, .bool xt, .bool xr] 65)).alloc (.cells #[.int .i64 0, .int .i64 0, .bool false, .bool false] 65) := ⟨_, rfl⟩
  rw [← hW] at h ⊢
  clear hW hD
  rw [show w.heap.size + 1 + 1 = w.heap.size + 2 from rfl]
  obtain ⟨gR, hgR⟩ : ∃ q, q = w.heap.size := ⟨_, rfl⟩
  obtain ⟨gX, hgX⟩ : ∃ q, q = w.heap.size + 1 := ⟨_, rfl⟩
  obtain ⟨gZ, hgZ⟩ : ∃ q, q = w.heap.size + 2 := ⟨_, rfl⟩
  rw [← hgX, ← hgZ, ← hgR] at h g ⊢
  clear hgR hgX hgZ
  have r0 := h.r.cell 0
  have r1 := h.r.cell 1
  have r2 := h.r.cell 2
  have r3 := h.r.cell 3
  have r4 := h.r.cell 4
  have x0 := h.x.cell 0
  have x1 := h.x.cell 1
  have x2 := h.x.cell 2
  have x3 := h.x.cell 3
  simp only [ruC, liC, List.getElem?_toArray, List.getElem?_cons_zero, List.getElem?_cons_succ] at r0 r1 r2 r3 r4 x0 x1 x2 x3
  have hRD : some gR ≠ some D := by have := g.r; have := g.d; simp; omega
  have hXD : some gX ≠ some D := by have := g.x; have := g.d; simp; omega
  by_cases h1 : (i : Int) < fr
  · clear hc
    go_upto_region 3 with fail
    go_wp2_with (refine wl_store (o := ⟨none, _, _, _, _, _⟩) rfl 65 _ _ rfl gZ #[.int .i64 ph, .int .i64 xb, .bool xt, .bool xr] rfl rfl 65 _ h.z (by kernel_rfl) rfl (by simp [Value.oneCell']) ?_; intro w9 hZ9 hg9)
    exact bodyPost_ret (results_row_tmp rfl _ _ gZ 65 _ _ rfl hZ9 Tryd.underlying65 rfl (by kernel_rfl)) rfl (SRA.bare (h.fin g hg9))
  · have h2 : td < (i : Int) := by omega
    clear hc
    go_upto_region 3 with fail
    go_wp2_with (refine wl_store (o := ⟨none, _, _, _, _, _⟩) rfl 65 _ _ rfl gZ #[.int .i64 ph, .int .i64 xb, .bool xt, .bool xr] rfl rfl 65 _ h.z (by kernel_rfl) rfl (by simp [Value.oneCell']) ?_; intro w9 hZ9 hg9)
    exact bodyPost_ret (results_row_tmp rfl _ _ gZ 65 _ _ rfl hZ9 Tryd.underlying65 rfl (by kernel_rfl)) rfl (SRA.bare (h.fin g hg9))

set_option maxRecDepth 100000 in
set_option maxHeartbeats 6400000 in
theorem ract_out6 (fr td a b : Int) (i : Nat) (ph xb : Int) (xt xr : Bool) (D s : Nat) (w : World) (hD : Rr w D s) (hc : ¬ (fr ≤ (i : Int) ∧ (i : Int) ≤ td)) :
    Calls Tryd.prog 74 #[.agg #[.int .i64 6, .int .i64 fr, .int .i64 td, .int .i64 a, .int .i64 b], .int .i64 i, .agg #[.int .i64 ph, .int .i64 xb, .bool xt, .bool xr], .pointer (some ⟨D, 0, none⟩)] w (SRA (⟨ph, xb, xt, xr⟩, [], s) D w) := by
  have h : RS w w.heap.size (w.heap.size + 1) (w.heap.size + 2) D s ⟨6, fr, td, a, b⟩ ⟨ph, xb, xt, xr⟩ (((w.alloc (.cells #[.int .i64 6, .int .i64 fr, .int .i64 td, .int .i64 a, .int .i64 b] 62)).alloc (.cells #[.int .i64 ph, .int .i64 xb, .bool xt, .bool xr] 65)).alloc (.cells #[.int .i64 0, .int .i64 0, .bool false, .bool false] 65)) :=
    ⟨((Blk.newAt w 62 _ w.heap.size rfl).alloc _).alloc _, (Blk.newAt (w.alloc (.cells #[.int .i64 6, .int .i64 fr, .int .i64 td, .int .i64 a, .int .i64 b] 62)) 65 _ (w.heap.size + 1) (by simp)).alloc _, Blk.newAt ((w.alloc (.cells #[.int .i64 6, .int .i64 fr, .int .i64 td, .int .i64 a, .int .i64 b] 62)).alloc (.cells #[.int .i64 ph, .int .i64 xb, .bool xt, .bool xr] 65)) 65 _ (w.heap.size + 2) (by simp), Blk.alloc (Blk.alloc (Blk.alloc hD _) _) _, grownBy_alloc (grownBy_alloc (grownBy_alloc (World.grownBy.refl w _) _) _) _⟩
  have g : RG w w.heap.size (w.heap.size + 1) (w.heap.size + 2) D := ⟨rfl, rfl, rfl, Blk.lt hD⟩
  go_enter Tryd.func74, Tryd.ntmps74
  go_upto_region 1 with fail
  obtain ⟨W, hW⟩ : ∃ W, W = ((w.alloc (.cells #[.int .i64 6, .int .i64 fr, .int .i64 td, .int .i64 a, .int .i64 b] 62)).alloc (.cells #[.int .i64 ph, .int .i64 xb, .bool xt, .bool xr] 65)).alloc (.cells #[.int .i64 0, .int .i64 0, .bool false, .bool false] 65) := ⟨_, rfl⟩
  rw [← hW] at h ⊢
  clear hW hD
  rw [show w.heap.size + 1 + 1 = w.heap.size + 2 from rfl]
  obtain ⟨gR, hgR⟩ : ∃ q, q = w.heap.size := ⟨_, rfl⟩
  obtain ⟨gX, hgX⟩ : ∃ q, q = w.heap.size + 1 := ⟨_, rfl⟩
  obtain ⟨gZ, hgZ⟩ : ∃ q, q = w.heap.size + 2 := ⟨_, rfl⟩
  rw [← hgX, ← hgZ, ← hgR] at h g ⊢
  clear hgR hgX hgZ
  have r0 := h.r.cell 0
  have r1 := h.r.cell 1
  have r2 := h.r.cell 2
  have r3 := h.r.cell 3
  have r4 := h.r.cell 4
  have x0 := h.x.cell 0
  have x1 := h.x.cell 1
  have x2 := h.x.cell 2
  have x3 := h.x.cell 3
  simp only [ruC, liC, List.getElem?_toArray, List.getElem?_cons_zero, List.getElem?_cons_succ] at r0 r1 r2 r3 r4 x0 x1 x2 x3
  have hRD : some gR ≠ some D := by have := g.r; have := g.d; simp; omega
  have hXD : some gX ≠ some D := by have := g.x; have := g.d; simp; omega
  by_cases h1 : (i : Int) < fr
  · clear hc
    go_upto_region 3 with fail
    go_wp2_with (refine wl_store (o := ⟨none, _, _, _, _, _⟩) rfl 65 _ _ rfl gZ #[.int .i64 ph, .int .i64 xb, .bool xt, .bool xr] rfl rfl 65 _ h.z (by kernel_rfl) rfl (by simp [Value.oneCell']) ?_; intro w9 hZ9 hg9)
    exact bodyPost_ret (results_row_tmp rfl _ _ gZ 65 _ _ rfl hZ9 Tryd.underlying65 rfl (by kernel_rfl)) rfl (SRA.bare (h.fin g hg9))
  · have h2 : td < (i : Int) := by omega
    clear hc
    go_upto_region 3 with fail
    go_wp2_with (refine wl_store (o := ⟨none, _, _, _, _, _⟩) rfl 65 _ _ rfl gZ #[.int .i64 ph, .int .i64 xb, .bool xt, .bool xr] rfl rfl 65 _ h.z (by kernel_rfl) rfl (by simp [Value.oneCell']) ?_; intro w9 hZ9 hg9)
    exact bodyPost_ret (results_row_tmp rfl _ _ gZ 65 _ _ rfl hZ9 Tryd.underlying65 rfl (by kernel_rfl)) rfl (SRA.bare (h.fin g hg9))

set_option maxRecDepth 100000 in
set_option maxHeartbeats 6400000 in
theorem ract_out7 (fr td a b : Int) (i : Nat) (ph xb : Int) (xt xr : Bool) (D s : Nat) (w : World) (hD : Rr w D s) (hc : ¬ (fr ≤ (i : Int) ∧ (i : Int) ≤ td)) :
    Calls Tryd.prog 74 #[.agg #[.int .i64 7, .int .i64 fr, .int .i64 td, .int .i64 a, .int .i64 b], .int .i64 i, .agg #[.int .i64 ph, .int .i64 xb, .bool xt, .bool xr], .pointer (some ⟨D, 0, none⟩)] w (SRA (⟨ph, xb, xt, xr⟩, [], s) D w) := by
  have h : RS w w.heap.size (w.heap.size + 1) (w.heap.size + 2) D s ⟨7, fr, td, a, b⟩ ⟨ph, xb, xt, xr⟩ (((w.alloc (.cells #[.int .i64 7, .int .i64 fr, .int .i64 td, .int .i64 a, .int .i64 b] 62)).alloc (.cells #[.int .i64 ph, .int .i64 xb, .bool xt, .bool xr] 65)).alloc (.cells #[.int .i64 0, .int .i64 0, .bool false, .bool false] 65)) :=
    ⟨((Blk.newAt w 62 _ w.heap.size rfl).alloc _).alloc _, (Blk.newAt (w.alloc (.cells #[.int .i64 7, .int .i64 fr, .int .i64 td, .int .i64 a, .int .i64 b] 62)) 65 _ (w.heap.size + 1) (by simp)).alloc _, Blk.newAt ((w.alloc (.cells #[.int .i64 7, .int .i64 fr, .int .i64 td, .int .i64 a, .int .i64 b] 62)).alloc (.cells #[.int .i64 ph, .int .i64 xb, .bool xt, .bool xr] 65)) 65 _ (w.heap.size + 2) (by simp), Blk.alloc (Blk.alloc (Blk.alloc hD _) _) _, grownBy_alloc (grownBy_alloc (grownBy_alloc (World.grownBy.refl w _) _) _) _⟩
  have g : RG w w.heap.size (w.heap.size + 1) (w.heap.size + 2) D := ⟨rfl, rfl, rfl, Blk.lt hD⟩
  go_enter Tryd.func74, Tryd.ntmps74
  go_upto_region 1 with fail
  obtain ⟨W, hW⟩ : ∃ W, W = ((w.alloc (.cells #[.int .i64 7, .int .i64 fr, .int .i64 td, .int .i64 a, .int .i64 b] 62)).alloc (.cells #[.int .i64 ph, .int .i64 xb, .bool xt, .bool xr] 65)).alloc (.cells #[.int .i64 0, .int .i64 0, .bool false, .bool false] 65) := ⟨_, rfl⟩
  rw [← hW] at h ⊢
  clear hW hD
  rw [show w.heap.size + 1 + 1 = w.heap.size + 2 from rfl]
  obtain ⟨gR, hgR⟩ : ∃ q, q = w.heap.size := ⟨_, rfl⟩
  obtain ⟨gX, hgX⟩ : ∃ q, q = w.heap.size + 1 := ⟨_, rfl⟩
  obtain ⟨gZ, hgZ⟩ : ∃ q, q = w.heap.size + 2 := ⟨_, rfl⟩
  rw [← hgX, ← hgZ, ← hgR] at h g ⊢
  clear hgR hgX hgZ
  have r0 := h.r.cell 0
  have r1 := h.r.cell 1
  have r2 := h.r.cell 2
  have r3 := h.r.cell 3
  have r4 := h.r.cell 4
  have x0 := h.x.cell 0
  have x1 := h.x.cell 1
  have x2 := h.x.cell 2
  have x3 := h.x.cell 3
  simp only [ruC, liC, List.getElem?_toArray, List.getElem?_cons_zero, List.getElem?_cons_succ] at r0 r1 r2 r3 r4 x0 x1 x2 x3
  have hRD : some gR ≠ some D := by have := g.r; have := g.d; simp; omega
  have hXD : some gX ≠ some D := by have := g.x; have := g.d; simp; omega
  by_cases h1 : (i : Int) < fr
  · clear hc
    go_upto_region 3 with fail
    go_wp2_with (refine wl_store (o := ⟨none, _, _, _, _, _⟩) rfl 65 _ _ rfl gZ #[.int .i64 ph, .int .i64 xb, .bool xt, .bool xr] rfl rfl 65 _ h.z (by kernel_rfl) rfl (by simp [Value.oneCell']) ?_; intro w9 hZ9 hg9)
    exact bodyPost_ret (results_row_tmp rfl _ _ gZ 65 _ _ rfl hZ9 Tryd.underlying65 rfl (by kernel_rfl)) rfl (SRA.bare (h.fin g hg9))
  · have h2 : td < (i : Int) := by omega
    clear hc
    go_upto_region 3 with fail
    go_wp2_with (refine wl_store (o := ⟨none, _, _, _, _, _⟩) rfl 65 _ _ rfl gZ #[.int .i64 ph, .int .i64 xb, .bool xt, .bool xr] rfl rfl 65 _ h.z (by kernel_rfl) rfl (by simp [Value.oneCell']) ?_; intro w9 hZ9 hg9)
    exact bodyPost_ret (results_row_tmp rfl _ _ gZ 65 _ _ rfl hZ9 Tryd.underlying65 rfl (by kernel_rfl)) rfl (SRA.bare (h.fin g hg9))

set_option maxRecDepth 100000 in
set_option maxHeartbeats 6400000 in
theorem ract_bright1 (fr td a b : Int) (i : Nat) (ph xb : Int) (xt : Bool) (D s : Nat) (w : World) (hD : Rr w D s)  :
    Calls Tryd.prog 74 #[.agg #[.int .i64 1, .int .i64 fr, .int .i64 td, .int .i64 a, .int .i64 b], .int .i64 i, .agg #[.int .i64 ph, .int .i64 xb, .bool xt, .bool true], .pointer (some ⟨D, 0, none⟩)] w (SRA (⟨ph, xb, xt, true⟩, [], s) D w) := by
  have h : RS w w.heap.size (w.heap.size + 1) (w.heap.size + 2) D s ⟨1, fr, td, a, b⟩ ⟨ph, xb, xt, true⟩ (((w.alloc (.cells #[.int .i64 1, .int .i64 fr, .int .i64 td, .int .i64 a, .int .i64 b] 62)).alloc (.cells #[.int .i64 ph, .int .i64 xb, .bool xt, .bool true] 65)).alloc (.cells #[.int .i64 0, .int .i64 0, .bool false, .bool false] 65)) :=
    ⟨((Blk.newAt w 62 _ w.heap.size rfl).alloc _).alloc _, (Blk.newAt (w.alloc (.cells #[.int .i64 1, .int .i64 fr, .int .i64 td, .int .i64 a, .int .i64 b] 62)) 65 _ (w.heap.size + 1) (by simp)).alloc _, Blk.newAt ((w.alloc (.cells #[.int .i64 1, .int .i64 fr, .int .i64 td, .int .i64 a, .int .i64 b] 62)).alloc (.cells #[.int .i64 ph, .int .i64 xb, .bool xt, .bool true] 65)) 65 _ (w.heap.size + 2) (by simp), Blk.alloc (Blk.alloc (Blk.alloc hD _) _) _, grownBy_alloc (grownBy_alloc (grownBy_alloc (World.grownBy.refl w _) _) _) _⟩
  have g : RG w w.heap.size (w.heap.size + 1) (w.heap.size + 2) D := ⟨rfl, rfl, rfl, Blk.lt hD⟩
  go_enter Tryd.func74, Tryd.ntmps74
  go_upto_region 1 with fail
  obtain ⟨W, hW⟩ : ∃ W, W = ((w.alloc (.cells #[.int .i64 1, .int .i64 fr, .int .i64 td, .int .i64 a, .int .i64 b] 62)).alloc (.cells #[.int .i64 ph, .int .i64 xb, .bool xt, .bool true] 65)).alloc (.cells #[.int .i64 0, .int .i64 0, .bool false, .bool false] 65) := ⟨_, rfl⟩
  rw [← hW] at h ⊢
  clear hW hD
  rw [show w.heap.size + 1 + 1 = w.heap.size + 2 from rfl]
  obtain ⟨gR, hgR⟩ : ∃ q, q = w.heap.size := ⟨_, rfl⟩
  obtain ⟨gX, hgX⟩ : ∃ q, q = w.heap.size + 1 := ⟨_, rfl⟩
  obtain ⟨gZ, hgZ⟩ : ∃ q, q = w.heap.size + 2 := ⟨_, rfl⟩
  rw [← hgX, ← hgZ, ← hgR] at h g ⊢
  clear hgR hgX hgZ
  have r0 := h.r.cell 0
  have r1 := h.r.cell 1
  have r2 := h.r.cell 2
  have r3 := h.r.cell 3
  have r4 := h.r.cell 4
  have x0 := h.x.cell 0
  have x1 := h.x.cell 1
  have x2 := h.x.cell 2
  have x3 := h.x.cell 3
  simp only [ruC, liC, List.getElem?_toArray, List.getElem?_cons_zero, List.getElem?_cons_succ] at r0 r1 r2 r3 r4 x0 x1 x2 x3
  have hRD : some gR ≠ some D := by have := g.r; have := g.d; simp; omega
  have hXD : some gX ≠ some D := by have := g.x; have := g.d; simp; omega
  go_upto_region 7 with fail
  go_wp2_with (refine wl_store (o := ⟨none, _, _, _, _, _⟩) rfl 65 _ _ rfl gZ #[.int .i64 ph, .int .i64 xb, .bool xt, .bool true] rfl rfl 65 _ h.z (by kernel_rfl) rfl (by simp [Value.oneCell']) ?_; intro w9 hZ9 hg9)
  exact bodyPost_ret (results_row_tmp rfl _ _ gZ 65 _ _ rfl hZ9 Tryd.underlying65 rfl (by kernel_rfl)) rfl (SRA.bare (h.fin g hg9))

set_option maxRecDepth 100000 in
set_option maxHeartbeats 6400000 in
theorem ract_bright2 (fr td a b : Int) (i : Nat) (ph xb : Int) (xt : Bool) (D s : Nat) (w : World) (hD : Rr w D s)  :
    Calls Tryd.prog 74 #[.agg #[.int .i64 2, .int .i64 fr, .int .i64 td, .int .i64 a, .int .i64 b], .int .i64 i, .agg #[.int .i64 ph, .int .i64 xb, .bool xt, .bool true], .pointer (some ⟨D, 0, none⟩)] w (SRA (⟨ph, xb, xt, true⟩, [], s) D w) := by
  have h : RS w w.heap.size (w.heap.size + 1) (w.heap.size + 2) D s ⟨2, fr, td, a, b⟩ ⟨ph, xb, xt, true⟩ (((w.alloc (.cells #[.int .i64 2, .int .i64 fr, .int .i64 td, .int .i64 a, .int .i64 b] 62)).alloc (.cells #[.int .i64 ph, .int .i64 xb, .bool xt, .bool true] 65)).alloc (.cells #[.int .i64 0, .int .i64 0, .bool false, .bool false] 65)) :=
    ⟨((Blk.newAt w 62 _ w.heap.size rfl).alloc _).alloc _, (Blk.newAt (w.alloc (.cells #[.int .i64 2, .int .i64 fr, .int .i64 td, .int .i64 a, .int .i64 b] 62)) 65 _ (w.heap.size + 1) (by simp)).alloc _, Blk.newAt ((w.alloc (.cells #[.int .i64 2, .int .i64 fr, .int .i64 td, .int .i64 a, .int .i64 b] 62)).alloc (.cells #[.int .i64 ph, .int .i64 xb, .bool xt, .bool true] 65)) 65 _ (w.heap.size + 2) (by simp), Blk.alloc (Blk.alloc (Blk.alloc hD _) _) _, grownBy_alloc (grownBy_alloc (grownBy_alloc (World.grownBy.refl w _) _) _) _⟩
  have g : RG w w.heap.size (w.heap.size + 1) (w.heap.size + 2) D := ⟨rfl, rfl, rfl, Blk.lt hD⟩
  go_enter Tryd.func74, Tryd.ntmps74
  go_upto_region 1 with fail
  obtain ⟨W, hW⟩ : ∃ W, W = ((w.alloc (.cells #[.int .i64 2, .int .i64 fr, .int .i64 td, .int .i64 a, .int .i64 b] 62)).alloc (.cells #[.int .i64 ph, .int .i64 xb, .bool xt, .bool true] 65)).alloc (.cells #[.int .i64 0, .int .i64 0, .bool false, .bool false] 65) := ⟨_, rfl⟩
  rw [← hW] at h ⊢
  clear hW hD
  rw [show w.heap.size + 1 + 1 = w.heap.size + 2 from rfl]
  obtain ⟨gR, hgR⟩ : ∃ q, q = w.heap.size := ⟨_, rfl⟩
  obtain ⟨gX, hgX⟩ : ∃ q, q = w.heap.size + 1 := ⟨_, rfl⟩
  obtain ⟨gZ, hgZ⟩ : ∃ q, q = w.heap.size + 2 := ⟨_, rfl⟩
  rw [← hgX, ← hgZ, ← hgR] at h g ⊢
  clear hgR hgX hgZ
  have r0 := h.r.cell 0
  have r1 := h.r.cell 1
  have r2 := h.r.cell 2
  have r3 := h.r.cell 3
  have r4 := h.r.cell 4
  have x0 := h.x.cell 0
  have x1 := h.x.cell 1
  have x2 := h.x.cell 2
  have x3 := h.x.cell 3
  simp only [ruC, liC, List.getElem?_toArray, List.getElem?_cons_zero, List.getElem?_cons_succ] at r0 r1 r2 r3 r4 x0 x1 x2 x3
  have hRD : some gR ≠ some D := by have := g.r; have := g.d; simp; omega
  have hXD : some gX ≠ some D := by have := g.x; have := g.d; simp; omega
  go_upto_region 7 with fail
  go_wp2_with (refine wl_store (o := ⟨none, _, _, _, _, _⟩) rfl 65 _ _ rfl gZ #[.int .i64 ph, .int .i64 xb, .bool xt, .bool true] rfl rfl 65 _ h.z (by kernel_rfl) rfl (by simp [Value.oneCell']) ?_; intro w9 hZ9 hg9)
  exact bodyPost_ret (results_row_tmp rfl _ _ gZ 65 _ _ rfl hZ9 Tryd.underlying65 rfl (by kernel_rfl)) rfl (SRA.bare (h.fin g hg9))

set_option maxRecDepth 100000 in
set_option maxHeartbeats 6400000 in
theorem ract_none2 (fr td a b : Int) (i : Nat) (xb : Int) (xt : Bool) (D s : Nat) (w : World) (hD : Rr w D s)  :
    Calls Tryd.prog 74 #[.agg #[.int .i64 2, .int .i64 fr, .int .i64 td, .int .i64 a, .int .i64 b], .int .i64 i, .agg #[.int .i64 0, .int .i64 xb, .bool xt, .bool false], .pointer (some ⟨D, 0, none⟩)] w (SRA (⟨0, xb, xt, false⟩, [], s) D w) := by
  have h : RS w w.heap.size (w.heap.size + 1) (w.heap.size + 2) D s ⟨2, fr, td, a, b⟩ ⟨0, xb, xt, false⟩ (((w.alloc (.cells #[.int .i64 2, .int .i64 fr, .int .i64 td, .int .i64 a, .int .i64 b] 62)).alloc (.cells #[.int .i64 0, .int .i64 xb, .bool xt, .bool false] 65)).alloc (.cells #[.int .i64 0, .int .i64 0, .bool false, .bool false] 65)) :=
    ⟨((Blk.newAt w 62 _ w.heap.size rfl).alloc _).alloc _, (Blk.newAt (w.alloc (.cells #[.int .i64 2, .int .i64 fr, .int .i64 td, .int .i64 a, .int .i64 b] 62)) 65 _ (w.heap.size + 1) (by simp)).alloc _, Blk.newAt ((w.alloc (.cells #[.int .i64 2, .int .i64 fr, .int .i64 td, .int .i64 a, .int .i64 b] 62)).alloc (.cells #[.int .i64 0, .int .i64 xb, .bool xt, .bool false] 65)) 65 _ (w.heap.size + 2) (by simp), Blk.alloc (Blk.alloc (Blk.alloc hD _) _) _, grownBy_alloc (grownBy_alloc (grownBy_alloc (World.grownBy.refl w _) _) _) _⟩
  have g : RG w w.heap.size (w.heap.size + 1) (w.heap.size + 2) D := ⟨rfl, rfl, rfl, Blk.lt hD⟩
  go_enter Tryd.func74, Tryd.ntmps74
  go_upto_region 1 with fail
  obtain ⟨W, hW⟩ : ∃ W, W = ((w.alloc (.cells #[.int .i64 2, .int .i64 fr, .int .i64 td, .int .i64 a, .int .i64 b] 62)).alloc (.cells #[.int .i64 0, .int .i64 xb, .bool xt, .bool false] 65)).alloc (.cells #[.int .i64 0, .int .i64 0, .bool false, .bool false] 65) := ⟨_, rfl⟩
  rw [← hW] at h ⊢
  clear hW hD
  rw [show w.heap.size + 1 + 1 = w.heap.size + 2 from rfl]
  obtain ⟨gR, hgR⟩ : ∃ q, q = w.heap.size := ⟨_, rfl⟩
  obtain ⟨gX, hgX⟩ : ∃ q, q = w.heap.size + 1 := ⟨_, rfl⟩
  obtain ⟨gZ, hgZ⟩ : ∃ q, q = w.heap.size + 2 := ⟨_, rfl⟩
  rw [← hgX, ← hgZ, ← hgR] at h g ⊢
  clear hgR hgX hgZ
  have r0 := h.r.cell 0
  have r1 := h.r.cell 1
  have r2 := h.r.cell 2
  have r3 := h.r.cell 3
  have r4 := h.r.cell 4
  have x0 := h.x.cell 0
  have x1 := h.x.cell 1
  have x2 := h.x.cell 2
  have x3 := h.x.cell 3
  simp only [ruC, liC, List.getElem?_toArray, List.getElem?_cons_zero, List.getElem?_cons_succ] at r0 r1 r2 r3 r4 x0 x1 x2 x3
  have hRD : some gR ≠ some D := by have := g.r; have := g.d; simp; omega
  have hXD : some gX ≠ some D := by have := g.x; have := g.d; simp; omega
  go_upto_region 34 with fail
  go_wp2_with (refine wl_store (o := ⟨none, _, _, _, _, _⟩) rfl 65 _ _ rfl gZ #[.int .i64 0, .int .i64 xb, .bool xt, .bool false] rfl rfl 65 _ h.z (by kernel_rfl) rfl (by simp [Value.oneCell']) ?_; intro w9 hZ9 hg9)
  exact bodyPost_ret (results_row_tmp rfl _ _ gZ 65 _ _ rfl hZ9 Tryd.underlying65 rfl (by kernel_rfl)) rfl (SRA.bare (h.fin g hg9))

set_option maxRecDepth 100000 in
set_option maxHeartbeats 6400000 in
theorem ract_bright3 (fr td a b : Int) (i : Nat) (ph xb : Int) (xt : Bool) (D s : Nat) (w : World) (hD : Rr w D s)  :
    Calls Tryd.prog 74 #[.agg #[.int .i64 3, .int .i64 fr, .int .i64 td, .int .i64 a, .int .i64 b], .int .i64 i, .agg #[.int .i64 ph, .int .i64 xb, .bool xt, .bool true], .pointer (some ⟨D, 0, none⟩)] w (SRA (⟨ph, xb, xt, true⟩, [], s) D w) := by
  have h : RS w w.heap.size (w.heap.size + 1) (w.heap.size + 2) D s ⟨3, fr, td, a, b⟩ ⟨ph, xb, xt, true⟩ (((w.alloc (.cells #[.int .i64 3, .int .i64 fr, .int .i64 td, .int .i64 a, .int .i64 b] 62)).alloc (.cells #[.int .i64 ph, .int .i64 xb, .bool xt, .bool true] 65)).alloc (.cells #[.int .i64 0, .int .i64 0, .bool false, .bool false] 65)) :=
    ⟨((Blk.newAt w 62 _ w.heap.size rfl).alloc _).alloc _, (Blk.newAt (w.alloc (.cells #[.int .i64 3, .int .i64 fr, .int .i64 td, .int .i64 a, .int .i64 b] 62)) 65 _ (w.heap.size + 1) (by simp)).alloc _, Blk.newAt ((w.alloc (.cells #[.int .i64 3, .int .i64 fr, .int .i64 td, .int .i64 a, .int .i64 b] 62)).alloc (.cells #[.int .i64 ph, .int .i64 xb, .bool xt, .bool true] 65)) 65 _ (w.heap.size + 2) (by simp), Blk.alloc (Blk.alloc (Blk.alloc hD _) _) _, grownBy_alloc (grownBy_alloc (grownBy_alloc (World.grownBy.refl w _) _) _) _⟩
  have g : RG w w.heap.size (w.heap.size + 1) (w.heap.size + 2) D := ⟨rfl, rfl, rfl, Blk.lt hD⟩
  go_enter Tryd.func74, Tryd.ntmps74
  go_upto_region 1 with fail
  obtain ⟨W, hW⟩ : ∃ W, W = ((w.alloc (.cells #[.int .i64 3, .int .i64 fr, .int .i64 td, .int .i64 a, .int .i64 b] 62)).alloc (.cells #[.int .i64 ph, .int .i64 xb, .bool xt, .bool true] 65)).alloc (.cells #[.int .i64 0, .int .i64 0, .bool false, .bool false] 65) := ⟨_, rfl⟩
  rw [← hW] at h ⊢
  clear hW hD
  rw [show w.heap.size + 1 + 1 = w.heap.size + 2 from rfl]
  obtain ⟨gR, hgR⟩ : ∃ q, q = w.heap.size := ⟨_, rfl⟩
  obtain ⟨gX, hgX⟩ : ∃ q, q = w.heap.size + 1 := ⟨_, rfl⟩
  obtain ⟨gZ, hgZ⟩ : ∃ q, q = w.heap.size + 2 := ⟨_, rfl⟩
  rw [← hgX, ← hgZ, ← hgR] at h g ⊢
  clear hgR hgX hgZ
  have r0 := h.r.cell 0
  have r1 := h.r.cell 1
  have r2 := h.r.cell 2
  have r3 := h.r.cell 3
  have r4 := h.r.cell 4
  have x0 := h.x.cell 0
  have x1 := h.x.cell 1
  have x2 := h.x.cell 2
  have x3 := h.x.cell 3
  simp only [ruC, liC, List.getElem?_toArray, List.getElem?_cons_zero, List.getElem?_cons_succ] at r0 r1 r2 r3 r4 x0 x1 x2 x3
  have hRD : some gR ≠ some D := by have := g.r; have := g.d; simp; omega
  have hXD : some gX ≠ some D := by have := g.x; have := g.d; simp; omega
  go_upto_region 7 with fail
  go_wp2_with (refine wl_store (o := ⟨none, _, _, _, _, _⟩) rfl 65 _ _ rfl gZ #[.int .i64 ph, .int .i64 xb, .bool xt, .bool true] rfl rfl 65 _ h.z (by kernel_rfl) rfl (by simp [Value.oneCell']) ?_; intro w9 hZ9 hg9)
  exact bodyPost_ret (results_row_tmp rfl _ _ gZ 65 _ _ rfl hZ9 Tryd.underlying65 rfl (by kernel_rfl)) rfl (SRA.bare (h.fin g hg9))

set_option maxRecDepth 100000 in
set_option maxHeartbeats 6400000 in
theorem ract_none3 (fr td a b : Int) (i : Nat) (xb : Int) (xt : Bool) (P : Nat) (D s : Nat) (w : World) (hD : Rr w D s)   :
    Calls Tryd.prog 74 #[.agg #[.int .i64 3, .int .i64 fr, .int .i64 td, .int .i64 a, .int .i64 b], .int .i64 i, .agg #[.int .i64 (P : Int), .int .i64 xb, .bool xt, .bool false], .pointer (some ⟨D, 0, none⟩)] w (SRA (⟨P, xb, xt, false⟩, [], s) D w) := by
  have h : RS w w.heap.size (w.heap.size + 1) (w.heap.size + 2) D s ⟨3, fr, td, a, b⟩ ⟨P, xb, xt, false⟩ (((w.alloc (.cells #[.int .i64 3, .int .i64 fr, .int .i64 td, .int .i64 a, .int .i64 b] 62)).alloc (.cells #[.int .i64 (P : Int), .int .i64 xb, .bool xt, .bool false] 65)).alloc (.cells #[.int .i64 0, .int .i64 0, .bool false, .bool false] 65)) :=
    ⟨((Blk.newAt w 62 _ w.heap.size rfl).alloc _).alloc _, (Blk.newAt (w.alloc (.cells #[.int .i64 3, .int .i64 fr, .int .i64 td, .int .i64 a, .int .i64 b] 62)) 65 _ (w.heap.size + 1) (by simp)).alloc _, Blk.newAt ((w.alloc (.cells #[.int .i64 3, .int .i64 fr, .int .i64 td, .int .i64 a, .int .i64 b] 62)).alloc (.cells #[.int .i64 (P : Int), .int .i64 xb, .bool xt, .bool false] 65)) 65 _ (w.heap.size + 2) (by simp), Blk.alloc (Blk.alloc (Blk.alloc hD _) _) _, grownBy_alloc (grownBy_alloc (grownBy_alloc (World.grownBy.refl w _) _) _) _⟩
  have g : RG w w.heap.size (w.heap.size + 1) (w.heap.size + 2) D := ⟨rfl, rfl, rfl, Blk.lt hD⟩
  go_enter Tryd.func74, Tryd.ntmps74
  go_upto_region 1 with fail
  obtain ⟨W, hW⟩ : ∃ W, W = ((w.alloc (.cells #[.int .i64 3, .int .i64 fr, .int .i64 td, .int .i64 a, .int .i64 b] 62)).alloc (.cells #[.int .i64 (P : Int), .int .i64 xb, .bool xt, .bool false] 65)).alloc (.cells #[.int .i64 0, .int .i64 0, .bool false, .bool false] 65) := ⟨_, rfl⟩
  rw [← hW] at h ⊢
  clear hW hD
  rw [show w.heap.size + 1 + 1 = w.heap.size + 2 from rfl]
  obtain ⟨gR, hgR⟩ : ∃ q, q = w.heap.size := ⟨_, rfl⟩
  obtain ⟨gX, hgX⟩ : ∃ q, q = w.heap.size + 1 := ⟨_, rfl⟩
  obtain ⟨gZ, hgZ⟩ : ∃ q, q = w.heap.size + 2 := ⟨_, rfl⟩
  rw [← hgX, ← hgZ, ← hgR] at h g ⊢
  clear hgR hgX hgZ
  have r0 := h.r.cell 0
  have r1 := h.r.cell 1
  have r2 := h.r.cell 2
  have r3 := h.r.cell 3
  have r4 := h.r.cell 4
  have x0 := h.x.cell 0
  have x1 := h.x.cell 1
  have x2 := h.x.cell 2
  have x3 := h.x.cell 3
  simp only [ruC, liC, List.getElem?_toArray, List.getElem?_cons_zero, List.getElem?_cons_succ] at r0 r1 r2 r3 r4 x0 x1 x2 x3
  have hRD : some gR ≠ some D := by have := g.r; have := g.d; simp; omega
  have hXD : some gX ≠ some D := by have := g.x; have := g.d; simp; omega
  go_upto_region 34 with fail
  go_wp2_with (refine wl_store (o := ⟨none, _, _, _, _, _⟩) rfl 65 _ _ rfl gZ #[.int .i64 (P : Int), .int .i64 xb, .bool xt, .bool false] rfl rfl 65 _ h.z (by kernel_rfl) rfl (by simp [Value.oneCell']) ?_; intro w9 hZ9 hg9)
  exact bodyPost_ret (results_row_tmp rfl _ _ gZ 65 _ _ rfl hZ9 Tryd.underlying65 rfl (by kernel_rfl)) rfl (SRA.bare (h.fin g hg9))

set_option maxRecDepth 100000 in
set_option maxHeartbeats 6400000 in
theorem ract_bright4 (fr td a b : Int) (i : Nat) (ph xb : Int) (xt : Bool) (D s : Nat) (w : World) (hD : Rr w D s) (hc : fr ≤ (i : Int) ∧ (i : Int) ≤ td) :
    Calls Tryd.prog 74 #[.agg #[.int .i64 4, .int .i64 fr, .int .i64 td, .int .i64 a, .int .i64 b], .int .i64 i, .agg #[.int .i64 ph, .int .i64 xb, .bool xt, .bool true], .pointer (some ⟨D, 0, none⟩)] w (SRA (⟨ph, xb, xt, true⟩, [], s) D w) := by
  obtain ⟨hc1, hc2⟩ := hc
  have hc3 : ¬ (i : Int) < fr := by omega
  have hc4 : ¬ td < (i : Int) := by omega
  have h : RS w w.heap.size (w.heap.size + 1) (w.heap.size + 2) D s ⟨4, fr, td, a, b⟩ ⟨ph, xb, xt, true⟩ (((w.alloc (.cells #[.int .i64 4, .int .i64 fr, .int .i64 td, .int .i64 a, .int .i64 b] 62)).alloc (.cells #[.int .i64 ph, .int .i64 xb, .bool xt, .bool true] 65)).alloc (.cells #[.int .i64 0, .int .i64 0, .bool false, .bool false] 65)) :=
    ⟨((Blk.newAt w 62 _ w.heap.size rfl).alloc _).alloc _, (Blk.newAt (w.alloc (.cells #[.int .i64 4, .int .i64 fr, .int .i64 td, .int .i64 a, .int .i64 b] 62)) 65 _ (w.heap.size + 1) (by simp)).alloc _, Blk.newAt ((w.alloc (.cells #[.int .i64 4, .int .i64 fr, .int .i64 td, .int .i64 a, .int .i64 b] 62)).alloc (.cells #[.int .i64 ph, .int .i64 xb, .bool xt, .bool true] 65)) 65 _ (w.heap.size + 2) (by simp), Blk.alloc (Blk.alloc (Blk.alloc hD _) _) _, grownBy_alloc (grownBy_alloc (grownBy_alloc (World.grownBy.refl w _) _) _) _⟩
  have g : RG w w.heap.size (w.heap.size + 1) (w.heap.size + 2) D := ⟨rfl, rfl, rfl, Blk.lt hD⟩
  go_enter Tryd.func74, Tryd.ntmps74
  go_upto_region 1 with fail
  obtain ⟨W, hW⟩ : ∃ W, W = ((w.alloc (.cells #[.int .i64 4, .int .i64 fr, .int .i64 td, .int .i64 a, .int .i64 b] 62)).alloc (.cells #[.int .i64 ph, .int .i64 xb, .bool xt, .bool true] 65)).alloc (.cells #[.int .i64 0, .int .i64 0, .bool false, .bool false] 65) := ⟨_, rfl⟩
  rw [← hW] at h ⊢
  clear hW hD
  rw [show w.heap.size + 1 + 1 = w.heap.size + 2 from rfl]
  obtain ⟨gR, hgR⟩ : ∃ q, q = w.heap.size := ⟨_, rfl⟩
  obtain ⟨gX, hgX⟩ : ∃ q, q = w.heap.size + 1 := ⟨_, rfl⟩
  obtain ⟨gZ, hgZ⟩ : ∃ q, q = w.heap.size + 2 := ⟨_, rfl⟩
  rw [← hgX, ← hgZ, ← hgR] at h g ⊢
  clear hgR hgX hgZ
  have r0 := h.r.cell 0
  have r1 := h.r.cell 1
  have r2 := h.r.cell 2
  have r3 := h.r.cell 3
  have r4 := h.r.cell 4
  have x0 := h.x.cell 0
  have x1 := h.x.cell 1
  have x2 := h.x.cell 2
  have x3 := h.x.cell 3
  simp only [ruC, liC, List.getElem?_toArray, List.getElem?_cons_zero, List.getElem?_cons_succ] at r0 r1 r2 r3 r4 x0 x1 x2 x3
  have hRD : some gR ≠ some D := by have := g.r; have := g.d; simp; omega
  have hXD : some gX ≠ some D := by have := g.x; have := g.d; simp; omega
  go_upto_region 7 with fail
  go_wp2_with (refine wl_store (o := ⟨none, _, _, _, _, _⟩) rfl 65 _ _ rfl gZ #[.int .i64 ph, .int .i64 xb, .bool xt, .bool true] rfl rfl 65 _ h.z (by kernel_rfl) rfl (by simp [Value.oneCell']) ?_; intro w9 hZ9 hg9)
  exact bodyPost_ret (results_row_tmp rfl _ _ gZ 65 _ _ rfl hZ9 Tryd.underlying65 rfl (by kernel_rfl)) rfl (SRA.bare (h.fin g hg9))

set_option maxRecDepth 100000 in
set_option maxHeartbeats 6400000 in
theorem ract_none4 (fr td a b : Int) (i : Nat) (xb : Int) (xt : Bool) (D s : Nat) (w : World) (hD : Rr w D s) (hc : fr ≤ (i : Int) ∧ (i : Int) ≤ td) :
    Calls Tryd.prog 74 #[.agg #[.int .i64 4, .int .i64 fr, .int .i64 td, .int .i64 a, .int .i64 b], .int .i64 i, .agg #[.int .i64 0, .int .i64 xb, .bool xt, .bool false], .pointer (some ⟨D, 0, none⟩)] w (SRA (⟨0, xb, xt, false⟩, [], s) D w) := by
  obtain ⟨hc1, hc2⟩ := hc
  have hc3 : ¬ (i : Int) < fr := by omega
  have hc4 : ¬ td < (i : Int) := by omega
  have h : RS w w.heap.size (w.heap.size + 1) (w.heap.size + 2) D s ⟨4, fr, td, a, b⟩ ⟨0, xb, xt, false⟩ (((w.alloc (.cells #[.int .i64 4, .int .i64 fr, .int .i64 td, .int .i64 a, .int .i64 b] 62)).alloc (.cells #[.int .i64 0, .int .i64 xb, .bool xt, .bool false] 65)).alloc (.cells #[.int .i64 0, .int .i64 0, .bool false, .bool false] 65)) :=
    ⟨((Blk.newAt w 62 _ w.heap.size rfl).alloc _).alloc _, (Blk.newAt (w.alloc (.cells #[.int .i64 4, .int .i64 fr, .int .i64 td, .int .i64 a, .int .i64 b] 62)) 65 _ (w.heap.size + 1) (by simp)).alloc _, Blk.newAt ((w.alloc (.cells #[.int .i64 4, .int .i64 fr, .int .i64 td, .int .i64 a, .int .i64 b] 62)).alloc (.cells #[.int .i64 0, .int .i64 xb, .bool xt, .bool false] 65)) 65 _ (w.heap.size + 2) (by simp), Blk.alloc (Blk.alloc (Blk.alloc hD _) _) _, grownBy_alloc (grownBy_alloc (grownBy_alloc (World.grownBy.refl w _) _) _) _⟩
  have g : RG w w.heap.size (w.heap.size + 1) (w.heap.size + 2) D := ⟨rfl, rfl, rfl, Blk.lt hD⟩
  go_enter Tryd.func74, Tryd.ntmps74
  go_upto_region 1 with fail
  obtain ⟨W, hW⟩ : ∃ W, W = ((w.alloc (.cells #[.int .i64 4, .int .i64 fr, .int .i64 td, .int .i64 a, .int .i64 b] 62)).alloc (.cells #[.int .i64 0, .int .i64 xb, .bool xt, .bool false] 65)).alloc (.cells #[.int .i64 0, .int .i64 0, .bool false, .bool false] 65) := ⟨_, rfl⟩
  rw [← hW] at h ⊢
  clear hW hD
  rw [show w.heap.size + 1 + 1 = w.heap.size + 2 from rfl]
  obtain ⟨gR, hgR⟩ : ∃ q, q = w.heap.size := ⟨_, rfl⟩
  obtain ⟨gX, hgX⟩ : ∃ q, q = w.heap.size + 1 := ⟨_, rfl⟩
  obtain ⟨gZ, hgZ⟩ : ∃ q, q = w.heap.size + 2 := ⟨_, rfl⟩
  rw [← hgX, ← hgZ, ← hgR] at h g ⊢
  clear hgR hgX hgZ
  have r0 := h.r.cell 0
  have r1 := h.r.cell 1
  have r2 := h.r.cell 2
  have r3 := h.r.cell 3
  have r4 := h.r.cell 4
  have x0 := h.x.cell 0
  have x1 := h.x.cell 1
  have x2 := h.x.cell 2
  have x3 := h.x.cell 3
  simp only [ruC, liC, List.getElem?_toArray, List.getElem?_cons_zero, List.getElem?_cons_succ] at r0 r1 r2 r3 r4 x0 x1 x2 x3
  have hRD : some gR ≠ some D := by have := g.r; have := g.d; simp; omega
  have hXD : some gX ≠ some D := by have := g.x; have := g.d; simp; omega
  go_upto_region 34 with fail
  go_wp2_with (refine wl_store (o := ⟨none, _, _, _, _, _⟩) rfl 65 _ _ rfl gZ #[.int .i64 0, .int .i64 xb, .bool xt, .bool false] rfl rfl 65 _ h.z (by kernel_rfl) rfl (by simp [Value.oneCell']) ?_; intro w9 hZ9 hg9)
  exact bodyPost_ret (results_row_tmp rfl _ _ gZ 65 _ _ rfl hZ9 Tryd.underlying65 rfl (by kernel_rfl)) rfl (SRA.bare (h.fin g hg9))

set_option maxRecDepth 100000 in
set_option maxHeartbeats 6400000 in
theorem ract_bright5 (fr td a b : Int) (i : Nat) (ph xb : Int) (xt : Bool) (D s : Nat) (w : World) (hD : Rr w D s) (hc : fr ≤ (i : Int) ∧ (i : Int) ≤ td) :
    Calls Tryd.prog 74 #[.agg #[.int .i64 5, .int .i64 fr, .int .i64 td, .int .i64 a, .int .i64 b], .int .i64 i, .agg #[.int .i64 ph, .int .i64 xb, .bool xt, .bool true], .pointer (some ⟨D, 0, none⟩)] w (SRA (⟨ph, xb, xt, true⟩, [], s) D w) := by
  obtain ⟨hc1, hc2⟩ := hc
  have hc3 : ¬ (i : Int) < fr := by omega
  have hc4 : ¬ td < (i : Int) := by omega
  have h : RS w w.heap.size (w.heap.size + 1) (w.heap.size + 2) D s ⟨5, fr, td, a, b⟩ ⟨ph, xb, xt, true⟩ (((w.alloc (.cells #[.int .i64 5, .int .i64 fr, .int .i64 td, .int .i64 a, .int .i64 b] 62)).alloc (.cells #[.int .i64 ph, .int .i64 xb, .bool xt, .bool true] 65)).alloc (.cells #[.int .i64 0, .int .i64 0, .bool false, .bool false] 65)) :=
    ⟨((Blk.newAt w 62 _ w.heap.size rfl).alloc _).alloc _, (Blk.newAt (w.alloc (.cells #[.int .i64 5, .int .i64 fr, .int .i64 td, .int .i64 a, .int .i64 b] 62)) 65 _ (w.heap.size + 1) (by simp)).alloc _, Blk.newAt ((w.alloc (.cells #[.int .i64 5, .int .i64 fr, .int .i64 td, .int .i64 a, .int .i64 b] 62)).alloc (.cells #[.int .i64 ph, .int .i64 xb, .bool xt, .bool true] 65)) 65 _ (w.heap.size + 2) (by simp), Blk.alloc (Blk.alloc (Blk.alloc hD _) _) _, grownBy_alloc (grownBy_alloc (grownBy_alloc (World.grownBy.refl w _) _) _) _⟩
  have g : RG w w.heap.size (w.heap.size + 1) (w.heap.size + 2) D := ⟨rfl, rfl, rfl, Blk.lt hD⟩
  go_enter Tryd.func74, Tryd.ntmps74
  go_upto_region 1 with fail
  obtain ⟨W, hW⟩ : ∃ W, W = ((w.alloc (.cells #[.int .i64 5, .int .i64 fr, .int .i64 td, .int .i64 a, .int .i64 b] 62)).alloc (.cells #[.int .i64 ph, .int .i64 xb, .bool xt, .bool true] 65)).alloc (.cells #[.int .i64 0, .int .i64 0, .bool false, .bool false] 65) := ⟨_, rfl⟩
  rw [← hW] at h ⊢
  clear hW hD
  rw [show w.heap.size + 1 + 1 = w.heap.size + 2 from rfl]
  obtain ⟨gR, hgR⟩ : ∃ q, q = w.heap.size := ⟨_, rfl⟩
  obtain ⟨gX, hgX⟩ : ∃ q, q = w.heap.size + 1 := ⟨_, rfl⟩
  obtain ⟨gZ, hgZ⟩ : ∃ q, q = w.heap.size + 2 := ⟨_, rfl⟩
  rw [← hgX, ← hgZ, ← hgR] at h g ⊢
  clear hgR hgX hgZ
  have r0 := h.r.cell 0
  have r1 := h.r.cell 1
  have r2 := h.r.cell 2
  have r3 := h.r.cell 3
  have r4 := h.r.cell 4
  have x0 := h.x.cell 0
  have x1 := h.x.cell 1
  have x2 := h.x.cell 2
  have x3 := h.x.cell 3
  simp only [ruC, liC, List.getElem?_toArray, List.getElem?_cons_zero, List.getElem?_cons_succ] at r0 r1 r2 r3 r4 x0 x1 x2 x3
  have hRD : some gR ≠ some D := by have := g.r; have := g.d; simp; omega
  have hXD : some gX ≠ some D := by have := g.x; have := g.d; simp; omega
  go_upto_region 7 with fail
  go_wp2_with (refine wl_store (o := ⟨none, _, _, _, _, _⟩) rfl 65 _ _ rfl gZ #[.int .i64 ph, .int .i64 xb, .bool xt, .bool true] rfl rfl 65 _ h.z (by kernel_rfl) rfl (by simp [Value.oneCell']) ?_; intro w9 hZ9 hg9)
  exact bodyPost_ret (results_row_tmp rfl _ _ gZ 65 _ _ rfl hZ9 Tryd.underlying65 rfl (by kernel_rfl)) rfl (SRA.bare (h.fin g hg9))

set_option maxRecDepth 100000 in
set_option maxHeartbeats 6400000 in
theorem ract_none5 (fr td a b : Int) (i : Nat) (xb : Int) (xt : Bool) (P : Nat) (D s : Nat) (w : World) (hD : Rr w D s) (hc : fr ≤ (i : Int) ∧ (i : Int) ≤ td) (hp : P < 2) :
    Calls Tryd.prog 74 #[.agg #[.int .i64 5, .int .i64 fr, .int .i64 td, .int .i64 a, .int .i64 b], .int .i64 i, .agg #[.int .i64 (P : Int), .int .i64 xb, .bool xt, .bool false], .pointer (some ⟨D, 0, none⟩)] w (SRA (⟨P, xb, xt, false⟩, [], s) D w) := by
  obtain ⟨hc1, hc2⟩ := hc
  have hc3 : ¬ (i : Int) < fr := by omega
  have hc4 : ¬ td < (i : Int) := by omega
  have hp1 : (P : Int) < 2 := by omega
  have hp2 : decide ((2 : Int) ≤ (P : Int)) = false := by simp; omega
  have h : RS w w.heap.size (w.heap.size + 1) (w.heap.size + 2) D s ⟨5, fr, td, a, b⟩ ⟨P, xb, xt, false⟩ (((w.alloc (.cells #[.int .i64 5, .int .i64 fr, .int .i64 td, .int .i64 a, .int .i64 b] 62)).alloc (.cells #[.int .i64 (P : Int), .int .i64 xb, .bool xt, .bool false] 65)).alloc (.cells #[.int .i64 0, .int .i64 0, .bool false, .bool false] 65)) :=
    ⟨((Blk.newAt w 62 _ w.heap.size rfl).alloc _).alloc _, (Blk.newAt (w.alloc (.cells #[.int .i64 5, .int .i64 fr, .int .i64 td, .int .i64 a, .int .i64 b] 62)) 65 _ (w.heap.size + 1) (by simp)).alloc _, Blk.newAt ((w.alloc (.cells #[.int .i64 5, .int .i64 fr, .int .i64 td, .int .i64 a, .int .i64 b] 62)).alloc (.cells #[.int .i64 (P : Int), .int .i64 xb, .bool xt, .bool false] 65)) 65 _ (w.heap.size + 2) (by simp), Blk.alloc (Blk.alloc (Blk.alloc hD _) _) _, grownBy_alloc (grownBy_alloc (grownBy_alloc (World.grownBy.refl w _) _) _) _⟩
  have g : RG w w.heap.size (w.heap.size + 1) (w.heap.size + 2) D := ⟨rfl, rfl, rfl, Blk.lt hD⟩
  go_enter Tryd.func74, Tryd.ntmps74
  go_upto_region 1 with fail
  obtain ⟨W, hW⟩ : ∃ W, W = ((w.alloc (.cells #[.int .i64 5, .int .i64 fr, .int .i64 td, .int .i64 a, .int .i64 b] 62)).alloc (.cells #[.int .i64 (P : Int), .int .i64 xb, .bool xt, .bool false] 65)).alloc (.cells #[.int .i64 0, .int .i64 0, .bool false, .bool false] 65) := ⟨_, rfl⟩
  rw [← hW] at h ⊢
  clear hW hD
  rw [show w.heap.size + 1 + 1 = w.heap.size + 2 from rfl]
  obtain ⟨gR, hgR⟩ : ∃ q, q = w.heap.size := ⟨_, rfl⟩
  obtain ⟨gX, hgX⟩ : ∃ q, q = w.heap.size + 1 := ⟨_, rfl⟩
  obtain ⟨gZ, hgZ⟩ : ∃ q, q = w.heap.size + 2 := ⟨_, rfl⟩
  rw [← hgX, ← hgZ, ← hgR] at h g ⊢
  clear hgR hgX hgZ
  have r0 := h.r.cell 0
  have r1 := h.r.cell 1
  have r2 := h.r.cell 2
  have r3 := h.r.cell 3
  have r4 := h.r.cell 4
  have x0 := h.x.cell 0
  have x1 := h.x.cell 1
  have x2 := h.x.cell 2
  have x3 := h.x.cell 3
  simp only [ruC, liC, List.getElem?_toArray, List.getElem?_cons_zero, List.getElem?_cons_succ] at r0 r1 r2 r3 r4 x0 x1 x2 x3
  have hRD : some gR ≠ some D := by have := g.r; have := g.d; simp; omega
  have hXD : some gX ≠ some D := by have := g.x; have := g.d; simp; omega
  go_upto_region 34 with fail
  go_wp2_with (refine wl_store (o := ⟨none, _, _, _, _, _⟩) rfl 65 _ _ rfl gZ #[.int .i64 (P : Int), .int .i64 xb, .bool xt, .bool false] rfl rfl 65 _ h.z (by kernel_rfl) rfl (by simp [Value.oneCell']) ?_; intro w9 hZ9 hg9)
  exact bodyPost_ret (results_row_tmp rfl _ _ gZ 65 _ _ rfl hZ9 Tryd.underlying65 rfl (by kernel_rfl)) rfl (SRA.bare (h.fin g hg9))

set_option maxRecDepth 100000 in
set_option maxHeartbeats 6400000 in
theorem ract_bright6 (fr td a b : Int) (i : Nat) (ph xb : Int) (xt : Bool) (D s : Nat) (w : World) (hD : Rr w D s) (hc : fr ≤ (i : Int) ∧ (i : Int) ≤ td) :
    Calls Tryd.prog 74 #[.agg #[.int .i64 6, .int .i64 fr, .int .i64 td, .int .i64 a, .int .i64 b], .int .i64 i, .agg #[.int .i64 ph, .int .i64 xb, .bool xt, .bool true], .pointer (some ⟨D, 0, none⟩)] w (SRA (⟨ph, xb, xt, true⟩, [], s) D w) := by
  obtain ⟨hc1, hc2⟩ := hc
  have hc3 : ¬ (i : Int) < fr := by omega
  have hc4 : ¬ td < (i : Int) := by omega
  have h : RS w w.heap.size (w.heap.size + 1) (w.heap.size + 2) D s ⟨6, fr, td, a, b⟩ ⟨ph, xb, xt, true⟩ (((w.alloc (.cells #[.int .i64 6, .int .i64 fr, .int .i64 td, .int .i64 a, .int .i64 b] 62)).alloc (.cells #[.int .i64 ph, .int .i64 xb, .bool xt, .bool true] 65)).alloc (.cells #[.int .i64 0, .int .i64 0, .bool false, .bool false] 65)) :=
    ⟨((Blk.newAt w 62 _ w.heap.size rfl).alloc _).alloc _, (Blk.newAt (w.alloc (.cells #[.int .i64 6, .int .i64 fr, .int .i64 td, .int .i64 a, .int .i64 b] 62)) 65 _ (w.heap.size + 1) (by simp)).alloc _, Blk.newAt ((w.alloc (.cells #[.int .i64 6, .int .i64 fr, .int .i64 td, .int .i64 a, .int .i64 b] 62)).alloc (.cells #[.int .i64 ph, .int .i64 xb, .bool xt, .bool true] 65)) 65 _ (w.heap.size + 2) (by simp), Blk.alloc (Blk.alloc (Blk.alloc hD _) _) _, grownBy_alloc (grownBy_alloc (grownBy_alloc (World.grownBy.refl w _) _) _) _⟩
  have g : RG w w.heap.size (w.heap.size + 1) (w.heap.size + 2) D := ⟨rfl, rfl, rfl, Blk.lt hD⟩
  go_enter Tryd.func74, Tryd.ntmps74
  go_upto_region 1 with fail
  obtain ⟨W, hW⟩ : ∃ W, W = ((w.alloc (.cells #[.int .i64 6, .int .i64 fr, .int .i64 td, .int .i64 a, .int .i64 b] 62)).alloc (.cells #[.int .i64 ph, .int .i64 xb, .bool xt, .bool true] 65)).alloc (.cells #[.int .i64 0, .int .i64 0, .bool false, .bool false] 65) := ⟨_, rfl⟩
  rw [← hW] at h ⊢
  clear hW hD
  rw [show w.heap.size + 1 + 1 = w.heap.size + 2 from rfl]
  obtain ⟨gR, hgR⟩ : ∃ q, q = w.heap.size := ⟨_, rfl⟩
  obtain ⟨gX, hgX⟩ : ∃ q, q = w.heap.size + 1 := ⟨_, rfl⟩
  obtain ⟨gZ, hgZ⟩ : ∃ q, q = w.heap.size + 2 := ⟨_, rfl⟩
  rw [← hgX, ← hgZ, ← hgR] at h g ⊢
  clear hgR hgX hgZ
  have r0 := h.r.cell 0
  have r1 := h.r.cell 1
  have r2 := h.r.cell 2
  have r3 := h.r.cell 3
  have r4 := h.r.cell 4
  have x0 := h.x.cell 0
  have x1 := h.x.cell 1
  have x2 := h.x.cell 2
  have x3 := h.x.cell 3
  simp only [ruC, liC, List.getElem?_toArray, List.getElem?_cons_zero, List.getElem?_cons_succ] at r0 r1 r2 r3 r4 x0 x1 x2 x3
  have hRD : some gR ≠ some D := by have := g.r; have := g.d; simp; omega
  have hXD : some gX ≠ some D := by have := g.x; have := g.d; simp; omega
  go_upto_region 7 with fail
  go_wp2_with (refine wl_store (o := ⟨none, _, _, _, _, _⟩) rfl 65 _ _ rfl gZ #[.int .i64 ph, .int .i64 xb, .bool xt, .bool true] rfl rfl 65 _ h.z (by kernel_rfl) rfl (by simp [Value.oneCell']) ?_; intro w9 hZ9 hg9)
  exact bodyPost_ret (results_row_tmp rfl _ _ gZ 65 _ _ rfl hZ9 Tryd.underlying65 rfl (by kernel_rfl)) rfl (SRA.bare (h.fin g hg9))

set_option maxRecDepth 100000 in
set_option maxHeartbeats 6400000 in
theorem ract_none6 (fr td a b : Int) (i : Nat) (xb : Int) (xt : Bool) (P : Nat) (D s : Nat) (w : World) (hD : Rr w D s) (hc : fr ≤ (i : Int) ∧ (i : Int) ≤ td) (hp : ¬ P = 1) :
    Calls Tryd.prog 74 #[.agg #[.int .i64 6, .int .i64 fr, .int .i64 td, .int .i64 a, .int .i64 b], .int .i64 i, .agg #[.int .i64 (P : Int), .int .i64 xb, .bool xt, .bool false], .pointer (some ⟨D, 0, none⟩)] w (SRA (⟨P, xb, xt, false⟩, [], s) D w) := by
  obtain ⟨hc1, hc2⟩ := hc
  have hc3 : ¬ (i : Int) < fr := by omega
  have hc4 : ¬ td < (i : Int) := by omega
  have hp1 : ((P : Int) == 1) = false := by simp; omega
  have hp2 : ¬ (P : Int) = 1 := by omega
  have h : RS w w.heap.size (w.heap.size + 1) (w.heap.size + 2) D s ⟨6, fr, td, a, b⟩ ⟨P, xb, xt, false⟩ (((w.alloc (.cells #[.int .i64 6, .int .i64 fr, .int .i64 td, .int .i64 a, .int .i64 b] 62)).alloc (.cells #[.int .i64 (P : Int), .int .i64 xb, .bool xt, .bool false] 65)).alloc (.cells #[.int .i64 0, .int .i64 0, .bool false, .bool false] 65)) :=
    ⟨((Blk.newAt w 62 _ w.heap.size rfl).alloc _).alloc _, (Blk.newAt (w.alloc (.cells #[.int .i64 6, .int .i64 fr, .int .i64 td, .int .i64 a, .int .i64 b] 62)) 65 _ (w.heap.size + 1) (by simp)).alloc _, Blk.newAt ((w.alloc (.cells #[.int .i64 6, .int .i64 fr, .int .i64 td, .int .i64 a, .int .i64 b] 62)).alloc (.cells #[.int .i64 (P : Int), .int .i64 xb, .bool xt, .bool false] 65)) 65 _ (w.heap.size + 2) (by simp), Blk.alloc (Blk.alloc (Blk.alloc hD _) _) _, grownBy_alloc (grownBy_alloc (grownBy_alloc (World.grownBy.refl w _) _) _) _⟩
  have g : RG w w.heap.size (w.heap.size + 1) (w.heap.size + 2) D := ⟨rfl, rfl, rfl, Blk.lt hD⟩
  go_enter Tryd.func74, Tryd.ntmps74
  go_upto_region 1 with fail
  obtain ⟨W, hW⟩ : ∃ W, W = ((w.alloc (.cells #[.int .i64 6, .int .i64 fr, .int .i64 td, .int .i64 a, .int .i64 b] 62)).alloc (.cells #[.int .i64 (P : Int), .int .i64 xb, .bool xt, .bool false] 65)).alloc (.cells #[.int .i64 0, .int .i64 0, .bool false, .bool false] 65) := ⟨_, rfl⟩
  rw [← hW] at h ⊢
  clear hW hD
  rw [show w.heap.size + 1 + 1 = w.heap.size + 2 from rfl]
  obtain ⟨gR, hgR⟩ : ∃ q, q = w.heap.size := ⟨_, rfl⟩
  obtain ⟨gX, hgX⟩ : ∃ q, q = w.heap.size + 1 := ⟨_, rfl⟩
  obtain ⟨gZ, hgZ⟩ : ∃ q, q = w.heap.size + 2 := ⟨_, rfl⟩
  rw [← hgX, ← hgZ, ← hgR] at h g ⊢
  clear hgR hgX hgZ
  have r0 := h.r.cell 0
  have r1 := h.r.cell 1
  have r2 := h.r.cell 2
  have r3 := h.r.cell 3
  have r4 := h.r.cell 4
  have x0 := h.x.cell 0
  have x1 := h.x.cell 1
  have x2 := h.x.cell 2
  have x3 := h.x.cell 3
  simp only [ruC, liC, List.getElem?_toArray, List.getElem?_cons_zero, List.getElem?_cons_succ] at r0 r1 r2 r3 r4 x0 x1 x2 x3
  have hRD : some gR ≠ some D := by have := g.r; have := g.d; simp; omega
  have hXD : some gX ≠ some D := by have := g.x; have := g.d; simp; omega
  go_upto_region 34 with fail
  go_wp2_with (refine wl_store (o := ⟨none, _, _, _, _, _⟩) rfl 65 _ _ rfl gZ #[.int .i64 (P : Int), .int .i64 xb, .bool xt, .bool false] rfl rfl 65 _ h.z (by kernel_rfl) rfl (by simp [Value.oneCell']) ?_; intro w9 hZ9 hg9)
  exact bodyPost_ret (results_row_tmp rfl _ _ gZ 65 _ _ rfl hZ9 Tryd.underlying65 rfl (by kernel_rfl)) rfl (SRA.bare (h.fin g hg9))
end Go.Proofs.YtddajmagdjkodaaDoor
