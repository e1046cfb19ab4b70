/- Contract of the reference's Act: where it draws, notes or changes the light. -/
import Derived.Test.YtddajmagdjkodaaDoorVp
namespace Go.Proofs.YtddajmagdjkodaaDoor
open Go.RowKit


set_option maxRecDepth 100000 in
set_option maxHeartbeats 6400000 in
theorem ract_blind (fr td a b : Int) (i : Nat) (ph xb : Int) (xt xr : Bool) (D s : Nat) (w : World) (hD : Rr w D s) (hc : fr ≤ (i : Int) ∧ (i : Int) ≤ td) :
    Calls Tryd.prog 74 #[.agg #[.int .i64 7, .int .i64 fr, .int .i64 td, .int .i64 a, .int .i64 b], .int .i64 i, .agg #[.int .i64 ph, .int .i64 xb, .bool xt, .bool xr], .pointer (some ⟨D, 0, none⟩)] w (SRA (⟨0, a, b == 1, true⟩, [⟨i, 3, a, b == 1⟩], s) D w) := by
  obtain ⟨hc1, hc2⟩ := hc
  have hc3 : ¬ (i : Int) < fr := by omega
  have hc4 : ¬ td < (i : Int) := by omega
  have h : RS w w.heap.size (w.heap.size + 1) (w.heap.size + 2) D s ⟨7, fr, td, a, b⟩ ⟨ph, xb, xt, xr⟩ (((w.alloc (.cells #[.int .i64 7, .int .i64 fr, .int .i64 td, .int .i64 a, .int .i64 b] 62)).alloc (.cells #[.int .i64 ph, .int .i64 xb, .bool xt, .bool xr] 65)).alloc (.cells #[.int .i64 0, .int .i64 0, .bool false, .bool false] 65)) :=
    ⟨((Blk.newAt w 62 _ w.heap.size rfl).alloc _).alloc _, (Blk.newAt (w.alloc (.cells #[.int .i64 7, .int .i64 fr, .int .i64 td, .int .i64 a, .int .i64 b] 62)) 65 _ (w.heap.size + 1) (by simp)).alloc _, Blk.newAt ((w.alloc (.cells #[.int .i64 7, .int .i64 fr, .int .i64 td, .int .i64 a, .int .i64 b] 62)).alloc (.cells #[.int .i64 ph, .int .i64 xb, .bool xt, .bool xr] 65)) 65 _ (w.heap.size + 2) (by simp), Blk.alloc (Blk.alloc (Blk.alloc hD _) _) _, grownBy_alloc (grownBy_alloc (grownBy_alloc (World.grownBy.refl w _) _) _) _⟩
  have g : RG w w.heap.size (w.heap.size + 1) (w.heap.size + 2) D := ⟨rfl, rfl, rfl, Blk.lt hD⟩
  go_enter Tryd.func74, Tryd.ntmps74
  go_upto_region 1 with fail
  obtain ⟨W, hW⟩ : ∃ W, W = ((w.alloc (.cells #[.int .i64 7, .int .i64 fr, .int .i64 td, .int .i64 a, .int .i64 b] 62)).alloc (.cells #[.int .i64 ph, .int .i64 xb, .bool xt, .bool xr] 65)).alloc (.cells #[.int .i64 0, .int .i64 0, .bool false, .bool false] 65) := ⟨_, rfl⟩
  rw [← hW] at h ⊢
  clear hW hD
  rw [show w.heap.size + 1 + 1 = w.heap.size + 2 from rfl]
  obtain ⟨gR, hgR⟩ : ∃ q, q = w.heap.size := ⟨_, rfl⟩
  obtain ⟨gX, hgX⟩ : ∃ q, q = w.heap.size + 1 := ⟨_, rfl⟩
  obtain ⟨gZ, hgZ⟩ : ∃ q, q = w.heap.size + 2 := ⟨_, rfl⟩
  rw [← hgX, ← hgZ, ← hgR] at h g ⊢
  clear hgR hgX hgZ
  have r0 := h.r.cell 0
  have r1 := h.r.cell 1
  have r2 := h.r.cell 2
  have r3 := h.r.cell 3
  have r4 := h.r.cell 4
  have x0 := h.x.cell 0
  have x1 := h.x.cell 1
  have x2 := h.x.cell 2
  have x3 := h.x.cell 3
  simp only [ruC, liC, List.getElem?_toArray, List.getElem?_cons_zero, List.getElem?_cons_succ] at r0 r1 r2 r3 r4 x0 x1 x2 x3
  have hRD : some gR ≠ some D := by have := g.r; have := g.d; simp; omega
  have hXD : some gX ≠ some D := by have := g.x; have := g.d; simp; omega
  go_upto_region 5 with fail
  have hRZ : gR ≠ gZ := by have := g.r; have := g.z; omega
  have hXZ : gX ≠ gZ := by have := g.x; have := g.z; omega
  have hZl := h.z.lt
  have HK := hide (show ∀ w', Fr (fun i => i = gZ) W w' → w'.cell? ⟨gR, 3, none⟩ = some (.int .i64 a) ∧ w'.cell? ⟨gR, 4, none⟩ = some (.int .i64 b) from fun w' hw => by
    have a1 := h.r.fr hw hRZ
    have a2 := h.x.fr hw hXZ
    exact ⟨by simpa [ruC, liC] using a1.cell 3, by simpa [ruC, liC] using a1.cell 4⟩)
  have y0 := h.z.cell 0
  have y1 := h.z.cell 1
  have y2 := h.z.cell 2
  have y3 := h.z.cell 3
  have yf0 := h.z.frozen 0
  have yf1 := h.z.frozen 1
  have yf2 := h.z.frozen 2
  have yf3 := h.z.frozen 3
  simp only [List.getElem?_toArray, List.getElem?_cons_zero, List.getElem?_cons_succ] at y0 y1 y2 y3
  have FS := hide (((((Fr.refl (fun i => i = gZ) W).setCell (p := ⟨gZ, 0, none⟩) (fun _ => rfl) (.int .i64 0)).setCell (p := ⟨gZ, 1, none⟩) (fun _ => rfl) (.int .i64 a)).setCell (p := ⟨gZ, 2, none⟩) (fun _ => rfl) (.bool (b == 1))).setCell (p := ⟨gZ, 3, none⟩) (fun _ => rfl) (.bool true))
  have fz2 := hide (((grownBy_setCell W gZ 0 (.int .i64 0)).trans (grownBy_setCell _ gZ 1 (.int .i64 a))).trans (grownBy_setCell _ gZ 2 (.bool (b == 1))) |>.trans (grownBy_setCell _ gZ 3 (.bool true)))
  have hZ : Blk ((((W.setCell ⟨gZ, 0, none⟩ (.int .i64 0)).setCell ⟨gZ, 1, none⟩ (.int .i64 a)).setCell ⟨gZ, 2, none⟩ (.bool (b == 1))).setCell ⟨gZ, 3, none⟩ (.bool true)) gZ 65 #[.int .i64 0, .int .i64 a, .bool (b == 1), .bool true] := by
    have q := (((h.z.set_ 0 (.int .i64 0)).set_ 1 (.int .i64 a)).set_ 2 (.bool (b == 1))).set_ 3 (.bool true)
    simpa using q
  have HZ := hide hZ
  clear hZ
  have FZ1 := hide ((Fr.refl (fun i => i = gZ) W).drew)
  have FZ2 := hide (((Fr.refl (fun i => i = gZ) W).alloc (.cells #[.int .i64 (i : Int), .int .i64 3, .int .i64 a, .bool (b == 1)] 86)).drew)
  have FZ3 := hide FS.out.drew
  have FZ4 := hide (FS.out.alloc (.cells #[.int .i64 (i : Int), .int .i64 3, .int .i64 a, .bool (b == 1)] 86)).drew
  go_region_held3 (fun w' => w'.cell? ⟨gR, 3, none⟩ = some (.int .i64 a) ∧ w'.cell? ⟨gR, 4, none⟩ = some (.int .i64 b)) (first | exact HK.out _ FZ1.out | exact HK.out _ FZ2.out | exact HK.out _ FZ3.out | exact HK.out _ FZ4.out) (fail)
  all_goals
    go_wp2
    have b1 := (Blk.newAt ((((W.setCell ⟨gZ, 0, none⟩ (.int .i64 0)).setCell ⟨gZ, 1, none⟩ (.int .i64 a)).setCell ⟨gZ, 2, none⟩ (.bool (b == 1))).setCell ⟨gZ, 3, none⟩ (.bool true)) 86 #[.int .i64 (i : Int), .int .i64 3, .int .i64 a, .bool (b == 1)] W.heap.size (by simp [World.setCell])).drew
    have hfin := h.fin g fz2.out
    refine bodyPost_ret (results_row_tmp rfl _ _ gZ 65 _ _ rfl (HZ.out.alloc (.cells #[.int .i64 (i : Int), .int .i64 3, .int .i64 a, .bool (b == 1)] 86)).drew Tryd.underlying65 rfl (by kernel_rfl)) rfl ?_
    exact SRA.one (x := ⟨0, a, b == 1, true⟩) (y := ⟨i, 3, a, b == 1⟩) ⟨(Blk.alloc hfin.1 (.cells #[.int .i64 (i : Int), .int .i64 3, .int .i64 a, .bool (b == 1)] 86)).drew, grownBy_drew (grownBy_alloc hfin.2 (.cells #[.int .i64 (i : Int), .int .i64 3, .int .i64 a, .bool (b == 1)] 86))⟩ b1 h.f.size

set_option maxRecDepth 100000 in
set_option maxHeartbeats 6400000 in
theorem ract_split (fr td a b : Int) (i : Nat) (xb : Int) (xt : Bool) (P : Nat) (D s : Nat) (w : World) (hD : Rr w D s) (hc : fr ≤ (i : Int) ∧ (i : Int) ≤ td) (hp : 2 ≤ P) (hp3 : P ≤ 3) :
    Calls Tryd.prog 74 #[.agg #[.int .i64 5, .int .i64 fr, .int .i64 td, .int .i64 a, .int .i64 b], .int .i64 i, .agg #[.int .i64 (P : Int), .int .i64 xb, .bool xt, .bool false], .pointer (some ⟨D, 0, none⟩)] w (SRA (⟨P - 1, xb, xt, false⟩, [⟨i, 2, xb, xt⟩], s) D w) := by
  obtain ⟨hc1, hc2⟩ := hc
  have hc3 : ¬ (i : Int) < fr := by omega
  have hc4 : ¬ td < (i : Int) := by omega
  have h : RS w w.heap.size (w.heap.size + 1) (w.heap.size + 2) D s ⟨5, fr, td, a, b⟩ ⟨P, xb, xt, false⟩ (((w.alloc (.cells #[.int .i64 5, .int .i64 fr, .int .i64 td, .int .i64 a, .int .i64 b] 62)).alloc (.cells #[.int .i64 (P : Int), .int .i64 xb, .bool xt, .bool false] 65)).alloc (.cells #[.int .i64 0, .int .i64 0, .bool false, .bool false] 65)) :=
    ⟨((Blk.newAt w 62 _ w.heap.size rfl).alloc _).alloc _, (Blk.newAt (w.alloc (.cells #[.int .i64 5, .int .i64 fr, .int .i64 td, .int .i64 a, .int .i64 b] 62)) 65 _ (w.heap.size + 1) (by simp)).alloc _, Blk.newAt ((w.alloc (.cells #[.int .i64 5, .int .i64 fr, .int .i64 td, .int .i64 a, .int .i64 b] 62)).alloc (.cells #[.int .i64 (P : Int), .int .i64 xb, .bool xt, .bool false] 65)) 65 _ (w.heap.size + 2) (by simp), Blk.alloc (Blk.alloc (Blk.alloc hD _) _) _, grownBy_alloc (grownBy_alloc (grownBy_alloc (World.grownBy.refl w _) _) _) _⟩
  have g : RG w w.heap.size (w.heap.size + 1) (w.heap.size + 2) D := ⟨rfl, rfl, rfl, Blk.lt hD⟩
  go_enter Tryd.func74, Tryd.ntmps74
  go_upto_region 1 with fail
  obtain ⟨W, hW⟩ : ∃ W, W = ((w.alloc (.cells #[.int .i64 5, .int .i64 fr, .int .i64 td, .int .i64 a, .int .i64 b] 62)).alloc (.cells #[.int .i64 (P : Int), .int .i64 xb, .bool xt, .bool false] 65)).alloc (.cells #[.int .i64 0, .int .i64 0, .bool false, .bool false] 65) := ⟨_, rfl⟩
  rw [← hW] at h ⊢
  clear hW hD
  rw [show w.heap.size + 1 + 1 = w.heap.size + 2 from rfl]
  obtain ⟨gR, hgR⟩ : ∃ q, q = w.heap.size := ⟨_, rfl⟩
  obtain ⟨gX, hgX⟩ : ∃ q, q = w.heap.size + 1 := ⟨_, rfl⟩
  obtain ⟨gZ, hgZ⟩ : ∃ q, q = w.heap.size + 2 := ⟨_, rfl⟩
  rw [← hgX, ← hgZ, ← hgR] at h g ⊢
  clear hgR hgX hgZ
  have r0 := h.r.cell 0
  have r1 := h.r.cell 1
  have r2 := h.r.cell 2
  have r3 := h.r.cell 3
  have r4 := h.r.cell 4
  have x0 := h.x.cell 0
  have x1 := h.x.cell 1
  have x2 := h.x.cell 2
  have x3 := h.x.cell 3
  simp only [ruC, liC, List.getElem?_toArray, List.getElem?_cons_zero, List.getElem?_cons_succ] at r0 r1 r2 r3 r4 x0 x1 x2 x3
  have hRD : some gR ≠ some D := by have := g.r; have := g.d; simp; omega
  have hXD : some gX ≠ some D := by have := g.x; have := g.d; simp; omega
  have xf0 := h.x.frozen 0
  have hp1 : (2 : Int) ≤ (P : Int) := by omega
  have hp2 : (P : Int) ≤ 3 := by omega
  go_upto_region 25 with fail
  have k := h.setX g 0 (.int .i64 ((P : Int) - 1)) (x' := ⟨P - 1, xb, xt, false⟩) (by simp [liC])
  obtain ⟨V, hV⟩ : ∃ V, V = W.setCell ⟨gX, 0, none⟩ (.int .i64 ((P : Int) - 1)) := ⟨_, rfl⟩
  rw [← hV] at k ⊢
  clear hV x0 x1 x2 x3 xf0 r0 r1 r2 r3 r4 h
  have hRZ : gR ≠ gZ := by have := g.r; have := g.z; omega
  have hXZ : gX ≠ gZ := by have := g.x; have := g.z; omega
  have hZl := k.z.lt
  have HK := hide (show ∀ w', Fr (fun i => i = gZ) V w' → w'.cell? ⟨gX, 0, none⟩ = some (.int .i64 ((P : Int) - 1)) ∧ w'.cell? ⟨gX, 1, none⟩ = some (.int .i64 xb) ∧ w'.cell? ⟨gX, 2, none⟩ = some (.bool xt) ∧ w'.cell? ⟨gX, 3, none⟩ = some (.bool false) from fun w' hw => by
    have a1 := k.r.fr hw hRZ
    have a2 := k.x.fr hw hXZ
    exact ⟨by simpa [ruC, liC] using a2.cell 0, by simpa [ruC, liC] using a2.cell 1, by simpa [ruC, liC] using a2.cell 2, by simpa [ruC, liC] using a2.cell 3⟩)
  have y0 := k.z.cell 0
  have y1 := k.z.cell 1
  have y2 := k.z.cell 2
  have y3 := k.z.cell 3
  have yf0 := k.z.frozen 0
  have yf1 := k.z.frozen 1
  have yf2 := k.z.frozen 2
  have yf3 := k.z.frozen 3
  simp only [List.getElem?_toArray, List.getElem?_cons_zero, List.getElem?_cons_succ] at y0 y1 y2 y3
  have FS := hide (((((Fr.refl (fun i => i = gZ) V).setCell (p := ⟨gZ, 0, none⟩) (fun _ => rfl) (.int .i64 ((P : Int) - 1))).setCell (p := ⟨gZ, 1, none⟩) (fun _ => rfl) (.int .i64 xb)).setCell (p := ⟨gZ, 2, none⟩) (fun _ => rfl) (.bool xt)).setCell (p := ⟨gZ, 3, none⟩) (fun _ => rfl) (.bool false))
  have fz2 := hide (((grownBy_setCell V gZ 0 (.int .i64 ((P : Int) - 1))).trans (grownBy_setCell _ gZ 1 (.int .i64 xb))).trans (grownBy_setCell _ gZ 2 (.bool xt)) |>.trans (grownBy_setCell _ gZ 3 (.bool false)))
  have hZ : Blk ((((V.setCell ⟨gZ, 0, none⟩ (.int .i64 ((P : Int) - 1))).setCell ⟨gZ, 1, none⟩ (.int .i64 xb)).setCell ⟨gZ, 2, none⟩ (.bool xt)).setCell ⟨gZ, 3, none⟩ (.bool false)) gZ 65 #[.int .i64 ((P : Int) - 1), .int .i64 xb, .bool xt, .bool false] := by
    have q := (((k.z.set_ 0 (.int .i64 ((P : Int) - 1))).set_ 1 (.int .i64 xb)).set_ 2 (.bool xt)).set_ 3 (.bool false)
    simpa using q
  have HZ := hide hZ
  clear hZ
  have FZ1 := hide ((Fr.refl (fun i => i = gZ) V).drew)
  have FZ2 := hide (((Fr.refl (fun i => i = gZ) V).alloc (.cells #[.int .i64 (i : Int), .int .i64 2, .int .i64 xb, .bool xt] 86)).drew)
  have FZ3 := hide FS.out.drew
  have FZ4 := hide (FS.out.alloc (.cells #[.int .i64 (i : Int), .int .i64 2, .int .i64 xb, .bool xt] 86)).drew
  go_region_held3 (fun w' => w'.cell? ⟨gX, 0, none⟩ = some (.int .i64 ((P : Int) - 1)) ∧ w'.cell? ⟨gX, 1, none⟩ = some (.int .i64 xb) ∧ w'.cell? ⟨gX, 2, none⟩ = some (.bool xt) ∧ w'.cell? ⟨gX, 3, none⟩ = some (.bool false)) (first | exact HK.out _ FZ1.out | exact HK.out _ FZ2.out | exact HK.out _ FZ3.out | exact HK.out _ FZ4.out) (fail)
  all_goals
    go_wp2
    have b1 := (Blk.newAt ((((V.setCell ⟨gZ, 0, none⟩ (.int .i64 ((P : Int) - 1))).setCell ⟨gZ, 1, none⟩ (.int .i64 xb)).setCell ⟨gZ, 2, none⟩ (.bool xt)).setCell ⟨gZ, 3, none⟩ (.bool false)) 86 #[.int .i64 (i : Int), .int .i64 2, .int .i64 xb, .bool xt] V.heap.size (by simp [World.setCell])).drew
    have hfin := k.fin g fz2.out
    refine bodyPost_ret (results_row_tmp rfl _ _ gZ 65 _ _ rfl (HZ.out.alloc (.cells #[.int .i64 (i : Int), .int .i64 2, .int .i64 xb, .bool xt] 86)).drew Tryd.underlying65 rfl (by kernel_rfl)) rfl ?_
    exact SRA.one (x := ⟨(P : Int) - 1, xb, xt, false⟩) (y := ⟨i, 2, xb, xt⟩) ⟨(Blk.alloc hfin.1 (.cells #[.int .i64 (i : Int), .int .i64 2, .int .i64 xb, .bool xt] 86)).drew, grownBy_drew (grownBy_alloc hfin.2 (.cells #[.int .i64 (i : Int), .int .i64 2, .int .i64 xb, .bool xt] 86))⟩ b1 k.f.size

set_option maxRecDepth 100000 in
set_option maxHeartbeats 6400000 in
theorem ract_noise_hit (fr td a b : Int) (i : Nat) (xb : Int) (xt : Bool) (P : Nat) (D s : Nat) (w : World) (hD : Rr w D s) (hp : 0 < P) (hit : (bel s 256 : Int) < a) :
    Calls Tryd.prog 74 #[.agg #[.int .i64 2, .int .i64 fr, .int .i64 td, .int .i64 a, .int .i64 b], .int .i64 i, .agg #[.int .i64 (P : Int), .int .i64 xb, .bool xt, .bool false], .pointer (some ⟨D, 0, none⟩)] w (SRA (⟨P, xb, !xt, false⟩, [], nx s) D w) := by
  have hp1 : (0 : Int) < (P : Int) := by omega
  have hit2 : ¬ a ≤ (bel s 256 : Int) := by omega
  have h : RS w w.heap.size (w.heap.size + 1) (w.heap.size + 2) D s ⟨2, fr, td, a, b⟩ ⟨P, xb, xt, false⟩ (((w.alloc (.cells #[.int .i64 2, .int .i64 fr, .int .i64 td, .int .i64 a, .int .i64 b] 62)).alloc (.cells #[.int .i64 (P : Int), .int .i64 xb, .bool xt, .bool false] 65)).alloc (.cells #[.int .i64 0, .int .i64 0, .bool false, .bool false] 65)) :=
    ⟨((Blk.newAt w 62 _ w.heap.size rfl).alloc _).alloc _, (Blk.newAt (w.alloc (.cells #[.int .i64 2, .int .i64 fr, .int .i64 td, .int .i64 a, .int .i64 b] 62)) 65 _ (w.heap.size + 1) (by simp)).alloc _, Blk.newAt ((w.alloc (.cells #[.int .i64 2, .int .i64 fr, .int .i64 td, .int .i64 a, .int .i64 b] 62)).alloc (.cells #[.int .i64 (P : Int), .int .i64 xb, .bool xt, .bool false] 65)) 65 _ (w.heap.size + 2) (by simp), Blk.alloc (Blk.alloc (Blk.alloc hD _) _) _, grownBy_alloc (grownBy_alloc (grownBy_alloc (World.grownBy.refl w _) _) _) _⟩
  have g : RG w w.heap.size (w.heap.size + 1) (w.heap.size + 2) D := ⟨rfl, rfl, rfl, Blk.lt hD⟩
  go_enter Tryd.func74, Tryd.ntmps74
  go_upto_region 1 with fail
  obtain ⟨W, hW⟩ : ∃ W, W = ((w.alloc (.cells #[.int .i64 2, .int .i64 fr, .int .i64 td, .int .i64 a, .int .i64 b] 62)).alloc (.cells #[.int .i64 (P : Int), .int .i64 xb, .bool xt, .bool false] 65)).alloc (.cells #[.int .i64 0, .int .i64 0, .bool false, .bool false] 65) := ⟨_, rfl⟩
  rw [← hW] at h ⊢
  clear hW hD
  rw [show w.heap.size + 1 + 1 = w.heap.size + 2 from rfl]
  obtain ⟨gR, hgR⟩ : ∃ q, q = w.heap.size := ⟨_, rfl⟩
  obtain ⟨gX, hgX⟩ : ∃ q, q = w.heap.size + 1 := ⟨_, rfl⟩
  obtain ⟨gZ, hgZ⟩ : ∃ q, q = w.heap.size + 2 := ⟨_, rfl⟩
  rw [← hgX, ← hgZ, ← hgR] at h g ⊢
  clear hgR hgX hgZ
  have r0 := h.r.cell 0
  have r1 := h.r.cell 1
  have r2 := h.r.cell 2
  have r3 := h.r.cell 3
  have r4 := h.r.cell 4
  have x0 := h.x.cell 0
  have x1 := h.x.cell 1
  have x2 := h.x.cell 2
  have x3 := h.x.cell 3
  simp only [ruC, liC, List.getElem?_toArray, List.getElem?_cons_zero, List.getElem?_cons_succ] at r0 r1 r2 r3 r4 x0 x1 x2 x3
  have hRD : some gR ≠ some D := by have := g.r; have := g.d; simp; omega
  have hXD : some gX ≠ some D := by have := g.x; have := g.d; simp; omega
  have hB := rbelow_c D s 256 W.drew h.d (by omega) (by omega)
  have HB := hide hB
  clear hB
  go_upto_region 18 with fail
  go_region_held3 (fun w' => w'.cell? ⟨gR, 3, none⟩ = some (.int .i64 a)) (first | exact r3 | exact hg2.cell r3 hRD) (first | (go_at_call 70; refine HB.out.mono ?_; rintro e w2 ⟨rfl, hD2, hg2⟩))
  have k := h.drew.draw g hD2 hg2
  clear r0 r1 r2 r3 r4 x0 x1 x2 x3 h HB hD2 hg2
  have hRX : ¬ gR = gX := by have := g.r; have := g.x; omega
  have hXR : ¬ gX = gR := by have := g.r; have := g.x; omega
  have r0 := k.r.cell 0
  have r3 := k.r.cell 3
  have x0 := k.x.cell 0
  have x1 := k.x.cell 1
  have x2 := k.x.cell 2
  have x3 := k.x.cell 3
  have xf0 := k.x.frozen 0
  have xf2 := k.x.frozen 2
  simp only [ruC, liC, List.getElem?_toArray, List.getElem?_cons_zero, List.getElem?_cons_succ] at r0 r3 x0 x1 x2 x3
  go_upto_region 34 with fail
  have k2 := k.setX g 2 (.bool (!xt)) (x' := ⟨P, xb, !xt, false⟩) (by simp [liC])
  go_wp2_with (refine wl_store (o := ⟨none, _, _, _, _, _⟩) rfl 65 _ _ rfl gZ #[.int .i64 (P : Int), .int .i64 xb, .bool (!xt), .bool false] rfl rfl 65 _ k2.z (by kernel_rfl) rfl (by simp [Value.oneCell']) ?_; intro w9 hZ9 hg9)
  exact bodyPost_ret (results_row_tmp rfl _ _ gZ 65 _ _ rfl hZ9 Tryd.underlying65 rfl (by kernel_rfl)) rfl (SRA.bare (k2.fin g hg9))

set_option maxRecDepth 100000 in
set_option maxHeartbeats 6400000 in
theorem ract_noise_miss (fr td a b : Int) (i : Nat) (xb : Int) (xt : Bool) (P : Nat) (D s : Nat) (w : World) (hD : Rr w D s) (hp : 0 < P) (hit : ¬ (bel s 256 : Int) < a) :
    Calls Tryd.prog 74 #[.agg #[.int .i64 2, .int .i64 fr, .int .i64 td, .int .i64 a, .int .i64 b], .int .i64 i, .agg #[.int .i64 (P : Int), .int .i64 xb, .bool xt, .bool false], .pointer (some ⟨D, 0, none⟩)] w (SRA (⟨P, xb, xt, false⟩, [], nx s) D w) := by
  have hp1 : (0 : Int) < (P : Int) := by omega
  have hit2 : a ≤ (bel s 256 : Int) := by omega
  have h : RS w w.heap.size (w.heap.size + 1) (w.heap.size + 2) D s ⟨2, fr, td, a, b⟩ ⟨P, xb, xt, false⟩ (((w.alloc (.cells #[.int .i64 2, .int .i64 fr, .int .i64 td, .int .i64 a, .int .i64 b] 62)).alloc (.cells #[.int .i64 (P : Int), .int .i64 xb, .bool xt, .bool false] 65)).alloc (.cells #[.int .i64 0, .int .i64 0, .bool false, .bool false] 65)) :=
    ⟨((Blk.newAt w 62 _ w.heap.size rfl).alloc _).alloc _, (Blk.newAt (w.alloc (.cells #[.int .i64 2, .int .i64 fr, .int .i64 td, .int .i64 a, .int .i64 b] 62)) 65 _ (w.heap.size + 1) (by simp)).alloc _, Blk.newAt ((w.alloc (.cells #[.int .i64 2, .int .i64 fr, .int .i64 td, .int .i64 a, .int .i64 b] 62)).alloc (.cells #[.int .i64 (P : Int), .int .i64 xb, .bool xt, .bool false] 65)) 65 _ (w.heap.size + 2) (by simp), Blk.alloc (Blk.alloc (Blk.alloc hD _) _) _, grownBy_alloc (grownBy_alloc (grownBy_alloc (World.grownBy.refl w _) _) _) _⟩
  have g : RG w w.heap.size (w.heap.size + 1) (w.heap.size + 2) D := ⟨rfl, rfl, rfl, Blk.lt hD⟩
  go_enter Tryd.func74, Tryd.ntmps74
  go_upto_region 1 with fail
  obtain ⟨W, hW⟩ : ∃ W, W = ((w.alloc (.cells #[.int .i64 2, .int .i64 fr, .int .i64 td, .int .i64 a, .int .i64 b] 62)).alloc (.cells #[.int .i64 (P : Int), .int .i64 xb, .bool xt, .bool false] 65)).alloc (.cells #[.int .i64 0, .int .i64 0, .bool false, .bool false] 65) := ⟨_, rfl⟩
  rw [← hW] at h ⊢
  clear hW hD
  rw [show w.heap.size + 1 + 1 = w.heap.size + 2 from rfl]
  obtain ⟨gR, hgR⟩ : ∃ q, q = w.heap.size := ⟨_, rfl⟩
  obtain ⟨gX, hgX⟩ : ∃ q, q = w.heap.size + 1 := ⟨_, rfl⟩
  obtain ⟨gZ, hgZ⟩ : ∃ q, q = w.heap.size + 2 := ⟨_, rfl⟩
  rw [← hgX, ← hgZ, ← hgR] at h g ⊢
  clear hgR hgX hgZ
  have r0 := h.r.cell 0
  have r1 := h.r.cell 1
  have r2 := h.r.cell 2
  have r3 := h.r.cell 3
  have r4 := h.r.cell 4
  have x0 := h.x.cell 0
  have x1 := h.x.cell 1
  have x2 := h.x.cell 2
  have x3 := h.x.cell 3
  simp only [ruC, liC, List.getElem?_toArray, List.getElem?_cons_zero, List.getElem?_cons_succ] at r0 r1 r2 r3 r4 x0 x1 x2 x3
  have hRD : some gR ≠ some D := by have := g.r; have := g.d; simp; omega
  have hXD : some gX ≠ some D := by have := g.x; have := g.d; simp; omega
  have hB := rbelow_c D s 256 W.drew h.d (by omega) (by omega)
  have HB := hide hB
  clear hB
  go_upto_region 18 with fail
  go_region_held3 (fun w' => w'.cell? ⟨gR, 3, none⟩ = some (.int .i64 a)) (first | exact r3 | exact hg2.cell r3 hRD) (first | (go_at_call 70; refine HB.out.mono ?_; rintro e w2 ⟨rfl, hD2, hg2⟩))
  have k := h.drew.draw g hD2 hg2
  clear r0 r1 r2 r3 r4 x0 x1 x2 x3 h HB hD2 hg2
  have hRX : ¬ gR = gX := by have := g.r; have := g.x; omega
  have hXR : ¬ gX = gR := by have := g.r; have := g.x; omega
  have r0 := k.r.cell 0
  have r3 := k.r.cell 3
  have x0 := k.x.cell 0
  have x1 := k.x.cell 1
  have x2 := k.x.cell 2
  have x3 := k.x.cell 3
  have xf0 := k.x.frozen 0
  have xf2 := k.x.frozen 2
  simp only [ruC, liC, List.getElem?_toArray, List.getElem?_cons_zero, List.getElem?_cons_succ] at r0 r3 x0 x1 x2 x3
  go_upto_region 34 with fail
  go_wp2_with (refine wl_store (o := ⟨none, _, _, _, _, _⟩) rfl 65 _ _ rfl gZ #[.int .i64 (P : Int), .int .i64 xb, .bool xt, .bool false] rfl rfl 65 _ k.z (by kernel_rfl) rfl (by simp [Value.oneCell']) ?_; intro w9 hZ9 hg9)
  exact bodyPost_ret (results_row_tmp rfl _ _ gZ 65 _ _ rfl hZ9 Tryd.underlying65 rfl (by kernel_rfl)) rfl (SRA.bare (k.fin g hg9))

set_option maxRecDepth 100000 in
set_option maxHeartbeats 6400000 in
theorem ract_starve_hit (fr td a b : Int) (i : Nat) (xb : Int) (xt : Bool) (D s : Nat) (w : World) (hD : Rr w D s) (hc : fr ≤ (i : Int) ∧ (i : Int) ≤ td) (hit : (bel s 256 : Int) < a) :
    Calls Tryd.prog 74 #[.agg #[.int .i64 6, .int .i64 fr, .int .i64 td, .int .i64 a, .int .i64 b], .int .i64 i, .agg #[.int .i64 1, .int .i64 xb, .bool xt, .bool false], .pointer (some ⟨D, 0, none⟩)] w (SRA (⟨0, xb, xt, false⟩, [], nx s) D w) := by
  have hit2 : ¬ a ≤ (bel s 256 : Int) := by omega
  obtain ⟨hc1, hc2⟩ := hc
  have hc3 : ¬ (i : Int) < fr := by omega
  have hc4 : ¬ td < (i : Int) := by omega
  have h : RS w w.heap.size (w.heap.size + 1) (w.heap.size + 2) D s ⟨6, fr, td, a, b⟩ ⟨1, xb, xt, false⟩ (((w.alloc (.cells #[.int .i64 6, .int .i64 fr, .int .i64 td, .int .i64 a, .int .i64 b] 62)).alloc (.cells #[.int .i64 1, .int .i64 xb, .bool xt, .bool false] 65)).alloc (.cells #[.int .i64 0, .int .i64 0, .bool false, .bool false] 65)) :=
    ⟨((Blk.newAt w 62 _ w.heap.size rfl).alloc _).alloc _, (Blk.newAt (w.alloc (.cells #[.int .i64 6, .int .i64 fr, .int .i64 td, .int .i64 a, .int .i64 b] 62)) 65 _ (w.heap.size + 1) (by simp)).alloc _, Blk.newAt ((w.alloc (.cells #[.int .i64 6, .int .i64 fr, .int .i64 td, .int .i64 a, .int .i64 b] 62)).alloc (.cells #[.int .i64 1, .int .i64 xb, .bool xt, .bool false] 65)) 65 _ (w.heap.size + 2) (by simp), Blk.alloc (Blk.alloc (Blk.alloc hD _) _) _, grownBy_alloc (grownBy_alloc (grownBy_alloc (World.grownBy.refl w _) _) _) _⟩
  have g : RG w w.heap.size (w.heap.size + 1) (w.heap.size + 2) D := ⟨rfl, rfl, rfl, Blk.lt hD⟩
  go_enter Tryd.func74, Tryd.ntmps74
  go_upto_region 1 with fail
  obtain ⟨W, hW⟩ : ∃ W, W = ((w.alloc (.cells #[.int .i64 6, .int .i64 fr, .int .i64 td, .int .i64 a, .int .i64 b] 62)).alloc (.cells #[.int .i64 1, .int .i64 xb, .bool xt, .bool false] 65)).alloc (.cells #[.int .i64 0, .int .i64 0, .bool false, .bool false] 65) := ⟨_, rfl⟩
  rw [← hW] at h ⊢
  clear hW hD
  rw [show w.heap.size + 1 + 1 = w.heap.size + 2 from rfl]
  obtain ⟨gR, hgR⟩ : ∃ q, q = w.heap.size := ⟨_, rfl⟩
  obtain ⟨gX, hgX⟩ : ∃ q, q = w.heap.size + 1 := ⟨_, rfl⟩
  obtain ⟨gZ, hgZ⟩ : ∃ q, q = w.heap.size + 2 := ⟨_, rfl⟩
  rw [← hgX, ← hgZ, ← hgR] at h g ⊢
  clear hgR hgX hgZ
  have r0 := h.r.cell 0
  have r1 := h.r.cell 1
  have r2 := h.r.cell 2
  have r3 := h.r.cell 3
  have r4 := h.r.cell 4
  have x0 := h.x.cell 0
  have x1 := h.x.cell 1
  have x2 := h.x.cell 2
  have x3 := h.x.cell 3
  simp only [ruC, liC, List.getElem?_toArray, List.getElem?_cons_zero, List.getElem?_cons_succ] at r0 r1 r2 r3 r4 x0 x1 x2 x3
  have hRD : some gR ≠ some D := by have := g.r; have := g.d; simp; omega
  have hXD : some gX ≠ some D := by have := g.x; have := g.d; simp; omega
  have hB := rbelow_c D s 256 W.drew h.d (by omega) (by omega)
  have HB := hide hB
  clear hB
  go_upto_region 21 with fail
  go_region_held3 (fun w' => w'.cell? ⟨gR, 3, none⟩ = some (.int .i64 a)) (first | exact r3 | exact hg2.cell r3 hRD) (first | (go_at_call 70; refine HB.out.mono ?_; rintro e w2 ⟨rfl, hD2, hg2⟩))
  have k := h.drew.draw g hD2 hg2
  clear r0 r1 r2 r3 r4 x0 x1 x2 x3 h HB hD2 hg2
  have hRX : ¬ gR = gX := by have := g.r; have := g.x; omega
  have hXR : ¬ gX = gR := by have := g.r; have := g.x; omega
  have r0 := k.r.cell 0
  have r3 := k.r.cell 3
  have x0 := k.x.cell 0
  have x1 := k.x.cell 1
  have x2 := k.x.cell 2
  have x3 := k.x.cell 3
  have xf0 := k.x.frozen 0
  have xf2 := k.x.frozen 2
  simp only [ruC, liC, List.getElem?_toArray, List.getElem?_cons_zero, List.getElem?_cons_succ] at r0 r3 x0 x1 x2 x3
  go_upto_region 34 with fail
  have k2 := k.setX g 0 (.int .i64 0) (x' := ⟨0, xb, xt, false⟩) (by simp [liC])
  go_wp2_with (refine wl_store (o := ⟨none, _, _, _, _, _⟩) rfl 65 _ _ rfl gZ #[.int .i64 0, .int .i64 xb, .bool xt, .bool false] rfl rfl 65 _ k2.z (by kernel_rfl) rfl (by simp [Value.oneCell']) ?_; intro w9 hZ9 hg9)
  exact bodyPost_ret (results_row_tmp rfl _ _ gZ 65 _ _ rfl hZ9 Tryd.underlying65 rfl (by kernel_rfl)) rfl (SRA.bare (k2.fin g hg9))

set_option maxRecDepth 100000 in
set_option maxHeartbeats 6400000 in
theorem ract_starve_miss (fr td a b : Int) (i : Nat) (xb : Int) (xt : Bool) (D s : Nat) (w : World) (hD : Rr w D s) (hc : fr ≤ (i : Int) ∧ (i : Int) ≤ td) (hit : ¬ (bel s 256 : Int) < a) :
    Calls Tryd.prog 74 #[.agg #[.int .i64 6, .int .i64 fr, .int .i64 td, .int .i64 a, .int .i64 b], .int .i64 i, .agg #[.int .i64 1, .int .i64 xb, .bool xt, .bool false], .pointer (some ⟨D, 0, none⟩)] w (SRA (⟨1, xb, xt, false⟩, [], nx s) D w) := by
  have hit2 : a ≤ (bel s 256 : Int) := by omega
  obtain ⟨hc1, hc2⟩ := hc
  have hc3 : ¬ (i : Int) < fr := by omega
  have hc4 : ¬ td < (i : Int) := by omega
  have h : RS w w.heap.size (w.heap.size + 1) (w.heap.size + 2) D s ⟨6, fr, td, a, b⟩ ⟨1, xb, xt, false⟩ (((w.alloc (.cells #[.int .i64 6, .int .i64 fr, .int .i64 td, .int .i64 a, .int .i64 b] 62)).alloc (.cells #[.int .i64 1, .int .i64 xb, .bool xt, .bool false] 65)).alloc (.cells #[.int .i64 0, .int .i64 0, .bool false, .bool false] 65)) :=
    ⟨((Blk.newAt w 62 _ w.heap.size rfl).alloc _).alloc _, (Blk.newAt (w.alloc (.cells #[.int .i64 6, .int .i64 fr, .int .i64 td, .int .i64 a, .int .i64 b] 62)) 65 _ (w.heap.size + 1) (by simp)).alloc _, Blk.newAt ((w.alloc (.cells #[.int .i64 6, .int .i64 fr, .int .i64 td, .int .i64 a, .int .i64 b] 62)).alloc (.cells #[.int .i64 1, .int .i64 xb, .bool xt, .bool false] 65)) 65 _ (w.heap.size + 2) (by simp), Blk.alloc (Blk.alloc (Blk.alloc hD _) _) _, grownBy_alloc (grownBy_alloc (grownBy_alloc (World.grownBy.refl w _) _) _) _⟩
  have g : RG w w.heap.size (w.heap.size + 1) (w.heap.size + 2) D := ⟨rfl, rfl, rfl, Blk.lt hD⟩
  go_enter Tryd.func74, Tryd.ntmps74
  go_upto_region 1 with fail
  obtain ⟨W, hW⟩ : ∃ W, W = ((w.alloc (.cells #[.int .i64 6, .int .i64 fr, .int .i64 td, .int .i64 a, .int .i64 b] 62)).alloc (.cells #[.int .i64 1, .int .i64 xb, .bool xt, .bool false] 65)).alloc (.cells #[.int .i64 0, .int .i64 0, .bool false, .bool false] 65) := ⟨_, rfl⟩
  rw [← hW] at h ⊢
  clear hW hD
  rw [show w.heap.size + 1 + 1 = w.heap.size + 2 from rfl]
  obtain ⟨gR, hgR⟩ : ∃ q, q = w.heap.size := ⟨_, rfl⟩
  obtain ⟨gX, hgX⟩ : ∃ q, q = w.heap.size + 1 := ⟨_, rfl⟩
  obtain ⟨gZ, hgZ⟩ : ∃ q, q = w.heap.size + 2 := ⟨_, rfl⟩
  rw [← hgX, ← hgZ, ← hgR] at h g ⊢
  clear hgR hgX hgZ
  have r0 := h.r.cell 0
  have r1 := h.r.cell 1
  have r2 := h.r.cell 2
  have r3 := h.r.cell 3
  have r4 := h.r.cell 4
  have x0 := h.x.cell 0
  have x1 := h.x.cell 1
  have x2 := h.x.cell 2
  have x3 := h.x.cell 3
  simp only [ruC, liC, List.getElem?_toArray, List.getElem?_cons_zero, List.getElem?_cons_succ] at r0 r1 r2 r3 r4 x0 x1 x2 x3
  have hRD : some gR ≠ some D := by have := g.r; have := g.d; simp; omega
  have hXD : some gX ≠ some D := by have := g.x; have := g.d; simp; omega
  have hB := rbelow_c D s 256 W.drew h.d (by omega) (by omega)
  have HB := hide hB
  clear hB
  go_upto_region 21 with fail
  go_region_held3 (fun w' => w'.cell? ⟨gR, 3, none⟩ = some (.int .i64 a)) (first | exact r3 | exact hg2.cell r3 hRD) (first | (go_at_call 70; refine HB.out.mono ?_; rintro e w2 ⟨rfl, hD2, hg2⟩))
  have k := h.drew.draw g hD2 hg2
  clear r0 r1 r2 r3 r4 x0 x1 x2 x3 h HB hD2 hg2
  have hRX : ¬ gR = gX := by have := g.r; have := g.x; omega
  have hXR : ¬ gX = gR := by have := g.r; have := g.x; omega
  have r0 := k.r.cell 0
  have r3 := k.r.cell 3
  have x0 := k.x.cell 0
  have x1 := k.x.cell 1
  have x2 := k.x.cell 2
  have x3 := k.x.cell 3
  have xf0 := k.x.frozen 0
  have xf2 := k.x.frozen 2
  simp only [ruC, liC, List.getElem?_toArray, List.getElem?_cons_zero, List.getElem?_cons_succ] at r0 r3 x0 x1 x2 x3
  go_upto_region 34 with fail
  go_wp2_with (refine wl_store (o := ⟨none, _, _, _, _, _⟩) rfl 65 _ _ rfl gZ #[.int .i64 1, .int .i64 xb, .bool xt, .bool false] rfl rfl 65 _ k.z (by kernel_rfl) rfl (by simp [Value.oneCell']) ?_; intro w9 hZ9 hg9)
  exact bodyPost_ret (results_row_tmp rfl _ _ gZ 65 _ _ rfl hZ9 Tryd.underlying65 rfl (by kernel_rfl)) rfl (SRA.bare (k.fin g hg9))

set_option maxRecDepth 100000 in
set_option maxHeartbeats 6400000 in
theorem ract_resend_miss (fr td a b : Int) (i : Nat) (xb : Int) (xt : Bool) (P : Nat) (D s : Nat) (w : World) (hD : Rr w D s) (hc : fr ≤ (i : Int) ∧ (i : Int) ≤ td) (hp : 0 < P) (hit : ¬ (bel s 256 : Int) < a) :
    Calls Tryd.prog 74 #[.agg #[.int .i64 4, .int .i64 fr, .int .i64 td, .int .i64 a, .int .i64 b], .int .i64 i, .agg #[.int .i64 (P : Int), .int .i64 xb, .bool xt, .bool false], .pointer (some ⟨D, 0, none⟩)] w (SRA (⟨P, xb, xt, false⟩, [], nx s) D w) := by
  have hp1 : (0 : Int) < (P : Int) := by omega
  have hit2 : a ≤ (bel s 256 : Int) := by omega
  obtain ⟨hc1, hc2⟩ := hc
  have hc3 : ¬ (i : Int) < fr := by omega
  have hc4 : ¬ td < (i : Int) := by omega
  have h : RS w w.heap.size (w.heap.size + 1) (w.heap.size + 2) D s ⟨4, fr, td, a, b⟩ ⟨P, xb, xt, false⟩ (((w.alloc (.cells #[.int .i64 4, .int .i64 fr, .int .i64 td, .int .i64 a, .int .i64 b] 62)).alloc (.cells #[.int .i64 (P : Int), .int .i64 xb, .bool xt, .bool false] 65)).alloc (.cells #[.int .i64 0, .int .i64 0, .bool false, .bool false] 65)) :=
    ⟨((Blk.newAt w 62 _ w.heap.size rfl).alloc _).alloc _, (Blk.newAt (w.alloc (.cells #[.int .i64 4, .int .i64 fr, .int .i64 td, .int .i64 a, .int .i64 b] 62)) 65 _ (w.heap.size + 1) (by simp)).alloc _, Blk.newAt ((w.alloc (.cells #[.int .i64 4, .int .i64 fr, .int .i64 td, .int .i64 a, .int .i64 b] 62)).alloc (.cells #[.int .i64 (P : Int), .int .i64 xb, .bool xt, .bool false] 65)) 65 _ (w.heap.size + 2) (by simp), Blk.alloc (Blk.alloc (Blk.alloc hD _) _) _, grownBy_alloc (grownBy_alloc (grownBy_alloc (World.grownBy.refl w _) _) _) _⟩
  have g : RG w w.heap.size (w.heap.size + 1) (w.heap.size + 2) D := ⟨rfl, rfl, rfl, Blk.lt hD⟩
  go_enter Tryd.func74, Tryd.ntmps74
  go_upto_region 1 with fail
  obtain ⟨W, hW⟩ : ∃ W, W = ((w.alloc (.cells #[.int .i64 4, .int .i64 fr, .int .i64 td, .int .i64 a, .int .i64 b] 62)).alloc (.cells #[.int .i64 (P : Int), .int .i64 xb, .bool xt, .bool false] 65)).alloc (.cells #[.int .i64 0, .int .i64 0, .bool false, .bool false] 65) := ⟨_, rfl⟩
  rw [← hW] at h ⊢
  clear hW hD
  rw [show w.heap.size + 1 + 1 = w.heap.size + 2 from rfl]
  obtain ⟨gR, hgR⟩ : ∃ q, q = w.heap.size := ⟨_, rfl⟩
  obtain ⟨gX, hgX⟩ : ∃ q, q = w.heap.size + 1 := ⟨_, rfl⟩
  obtain ⟨gZ, hgZ⟩ : ∃ q, q = w.heap.size + 2 := ⟨_, rfl⟩
  rw [← hgX, ← hgZ, ← hgR] at h g ⊢
  clear hgR hgX hgZ
  have r0 := h.r.cell 0
  have r1 := h.r.cell 1
  have r2 := h.r.cell 2
  have r3 := h.r.cell 3
  have r4 := h.r.cell 4
  have x0 := h.x.cell 0
  have x1 := h.x.cell 1
  have x2 := h.x.cell 2
  have x3 := h.x.cell 3
  simp only [ruC, liC, List.getElem?_toArray, List.getElem?_cons_zero, List.getElem?_cons_succ] at r0 r1 r2 r3 r4 x0 x1 x2 x3
  have hRD : some gR ≠ some D := by have := g.r; have := g.d; simp; omega
  have hXD : some gX ≠ some D := by have := g.x; have := g.d; simp; omega
  have hB := rbelow_c D s 256 W.drew h.d (by omega) (by omega)
  have HB := hide hB
  clear hB
  go_upto_region 27 with fail
  go_region_held3 (fun w' => w'.cell? ⟨gR, 3, none⟩ = some (.int .i64 a)) (first | exact r3 | exact hg2.cell r3 hRD) (first | (go_at_call 70; refine HB.out.mono ?_; rintro e w2 ⟨rfl, hD2, hg2⟩))
  have k := h.drew.draw g hD2 hg2
  clear r0 r1 r2 r3 r4 x0 x1 x2 x3 h HB hD2 hg2
  have hRX : ¬ gR = gX := by have := g.r; have := g.x; omega
  have hXR : ¬ gX = gR := by have := g.r; have := g.x; omega
  have r0 := k.r.cell 0
  have r3 := k.r.cell 3
  have x0 := k.x.cell 0
  have x1 := k.x.cell 1
  have x2 := k.x.cell 2
  have x3 := k.x.cell 3
  have xf0 := k.x.frozen 0
  have xf2 := k.x.frozen 2
  simp only [ruC, liC, List.getElem?_toArray, List.getElem?_cons_zero, List.getElem?_cons_succ] at r0 r3 x0 x1 x2 x3
  go_upto_region 28 with fail
  go_wp2_with (refine wl_store (o := ⟨none, _, _, _, _, _⟩) rfl 65 _ _ rfl gZ #[.int .i64 (P : Int), .int .i64 xb, .bool xt, .bool false] rfl rfl 65 _ k.z (by kernel_rfl) rfl (by simp [Value.oneCell']) ?_; intro w9 hZ9 hg9)
  exact bodyPost_ret (results_row_tmp rfl _ _ gZ 65 _ _ rfl hZ9 Tryd.underlying65 rfl (by kernel_rfl)) rfl (SRA.bare (k.fin g hg9))

set_option maxRecDepth 100000 in
set_option maxHeartbeats 6400000 in
theorem ract_resend_same (fr td a b : Int) (i : Nat) (xb : Int) (xt : Bool) (P : Nat) (D s : Nat) (w : World) (hD : Rr w D s) (hc : fr ≤ (i : Int) ∧ (i : Int) ≤ td) (hp : 0 < P) (hit : (bel s 256 : Int) < a) (hb : (bel (nx s) 2 : Int) = xb) :
    Calls Tryd.prog 74 #[.agg #[.int .i64 4, .int .i64 fr, .int .i64 td, .int .i64 a, .int .i64 b], .int .i64 i, .agg #[.int .i64 (P : Int), .int .i64 xb, .bool xt, .bool false], .pointer (some ⟨D, 0, none⟩)] w (SRA (⟨1, (bel (nx s) 2 : Int), xt, false⟩, [⟨i, 1, (bel (nx s) 2 : Int), xt⟩], nx (nx s)) D w) := by
  have hp1 : (0 : Int) < (P : Int) := by omega
  have hit2 : ¬ a ≤ (bel s 256 : Int) := by omega
  obtain ⟨hc1, hc2⟩ := hc
  have hc3 : ¬ (i : Int) < fr := by omega
  have hc4 : ¬ td < (i : Int) := by omega
  have h : RS w w.heap.size (w.heap.size + 1) (w.heap.size + 2) D s ⟨4, fr, td, a, b⟩ ⟨P, xb, xt, false⟩ (((w.alloc (.cells #[.int .i64 4, .int .i64 fr, .int .i64 td, .int .i64 a, .int .i64 b] 62)).alloc (.cells #[.int .i64 (P : Int), .int .i64 xb, .bool xt, .bool false] 65)).alloc (.cells #[.int .i64 0, .int .i64 0, .bool false, .bool false] 65)) :=
    ⟨((Blk.newAt w 62 _ w.heap.size rfl).alloc _).alloc _, (Blk.newAt (w.alloc (.cells #[.int .i64 4, .int .i64 fr, .int .i64 td, .int .i64 a, .int .i64 b] 62)) 65 _ (w.heap.size + 1) (by simp)).alloc _, Blk.newAt ((w.alloc (.cells #[.int .i64 4, .int .i64 fr, .int .i64 td, .int .i64 a, .int .i64 b] 62)).alloc (.cells #[.int .i64 (P : Int), .int .i64 xb, .bool xt, .bool false] 65)) 65 _ (w.heap.size + 2) (by simp), Blk.alloc (Blk.alloc (Blk.alloc hD _) _) _, grownBy_alloc (grownBy_alloc (grownBy_alloc (World.grownBy.refl w _) _) _) _⟩
  have g : RG w w.heap.size (w.heap.size + 1) (w.heap.size + 2) D := ⟨rfl, rfl, rfl, Blk.lt hD⟩
  go_enter Tryd.func74, Tryd.ntmps74
  go_upto_region 1 with fail
  obtain ⟨W, hW⟩ : ∃ W, W = ((w.alloc (.cells #[.int .i64 4, .int .i64 fr, .int .i64 td, .int .i64 a, .int .i64 b] 62)).alloc (.cells #[.int .i64 (P : Int), .int .i64 xb, .bool xt, .bool false] 65)).alloc (.cells #[.int .i64 0, .int .i64 0, .bool false, .bool false] 65) := ⟨_, rfl⟩
  rw [← hW] at h ⊢
  clear hW hD
  rw [show w.heap.size + 1 + 1 = w.heap.size + 2 from rfl]
  obtain ⟨gR, hgR⟩ : ∃ q, q = w.heap.size := ⟨_, rfl⟩
  obtain ⟨gX, hgX⟩ : ∃ q, q = w.heap.size + 1 := ⟨_, rfl⟩
  obtain ⟨gZ, hgZ⟩ : ∃ q, q = w.heap.size + 2 := ⟨_, rfl⟩
  rw [← hgX, ← hgZ, ← hgR] at h g ⊢
  clear hgR hgX hgZ
  have r0 := h.r.cell 0
  have r1 := h.r.cell 1
  have r2 := h.r.cell 2
  have r3 := h.r.cell 3
  have r4 := h.r.cell 4
  have x0 := h.x.cell 0
  have x1 := h.x.cell 1
  have x2 := h.x.cell 2
  have x3 := h.x.cell 3
  simp only [ruC, liC, List.getElem?_toArray, List.getElem?_cons_zero, List.getElem?_cons_succ] at r0 r1 r2 r3 r4 x0 x1 x2 x3
  have hRD : some gR ≠ some D := by have := g.r; have := g.d; simp; omega
  have hXD : some gX ≠ some D := by have := g.x; have := g.d; simp; omega
  have hB := rbelow_c D s 256 W.drew h.d (by omega) (by omega)
  have HB := hide hB
  clear hB
  go_upto_region 27 with fail
  go_region_held3 (fun w' => w'.cell? ⟨gR, 3, none⟩ = some (.int .i64 a)) (first | exact r3 | exact hg2.cell r3 hRD) (first | (go_at_call 70; refine HB.out.mono ?_; rintro e w2 ⟨rfl, hD2, hg2⟩))
  have k := h.drew.draw g hD2 hg2
  clear r0 r1 r2 r3 r4 x0 x1 x2 x3 h HB hD2 hg2
  have hRX : ¬ gR = gX := by have := g.r; have := g.x; omega
  have hXR : ¬ gX = gR := by have := g.r; have := g.x; omega
  have r0 := k.r.cell 0
  have r3 := k.r.cell 3
  have x0 := k.x.cell 0
  have x1 := k.x.cell 1
  have x2 := k.x.cell 2
  have x3 := k.x.cell 3
  have xf0 := k.x.frozen 0
  have xf2 := k.x.frozen 2
  simp only [ruC, liC, List.getElem?_toArray, List.getElem?_cons_zero, List.getElem?_cons_succ] at r0 r3 x0 x1 x2 x3
  have HB2 := hide (rbelow_c D (nx s) 2 w2 k.d (by omega) (by omega))
  obtain ⟨bb, hbb⟩ : ∃ q : Int, q = (bel (nx s) 2 : Int) := ⟨_, rfl⟩
  rw [← hbb] at HB2 hb ⊢
  have HBB := hide hbb
  clear hbb
  subst hb
  go_upto_region 33 with (go_at_call 70; refine HB2.out.mono ?_; rintro e w3 ⟨rfl, hD3, hg3⟩; have k3 := k.draw g hD3 hg3; have y1 := k3.x.cell 1; have y2 := k3.x.cell 2; simp only [liC, List.getElem?_toArray, List.getElem?_cons_zero, List.getElem?_cons_succ] at y1 y2)
  have k5 := k3.alloc (.cells #[.int .i64 (i : Int), .int .i64 1, .int .i64 bb, .bool xt] 86)
  have b5 := Blk.new w3 86 #[.int .i64 (i : Int), .int .i64 1, .int .i64 bb, .bool xt]
  have hZl := k3.z.lt
  go_wp2_with (refine wl_store (o := ⟨none, _, _, _, _, _⟩) rfl 65 _ _ rfl gZ #[.int .i64 1, .int .i64 bb, .bool xt, .bool false] rfl rfl 65 _ k5.z (by kernel_rfl) rfl (by simp [Value.oneCell']) ?_; intro w9 hZ9 hg9)
  refine bodyPost_ret (results_row_tmp rfl _ _ gZ 65 _ _ rfl hZ9 Tryd.underlying65 rfl (by kernel_rfl)) rfl ?_
  have e1 := HBB.out
  subst e1
  exact SRA.one (x := ⟨1, _, _, false⟩) (k5.fin g hg9) (b5.grown hg9 (by simp; omega)) k3.f.size

set_option maxRecDepth 100000 in
set_option maxHeartbeats 6400000 in
theorem ract_resend_diff (fr td a b : Int) (i : Nat) (xb : Int) (xt : Bool) (P : Nat) (D s : Nat) (w : World) (hD : Rr w D s) (hc : fr ≤ (i : Int) ∧ (i : Int) ≤ td) (hp : 0 < P) (hit : (bel s 256 : Int) < a) (hb : ¬ (bel (nx s) 2 : Int) = xb) :
    Calls Tryd.prog 74 #[.agg #[.int .i64 4, .int .i64 fr, .int .i64 td, .int .i64 a, .int .i64 b], .int .i64 i, .agg #[.int .i64 (P : Int), .int .i64 xb, .bool xt, .bool false], .pointer (some ⟨D, 0, none⟩)] w (SRA (⟨1, (bel (nx s) 2 : Int), ((bel (nx (nx s)) 2 : Int) == 1), false⟩, [⟨i, 1, (bel (nx s) 2 : Int), ((bel (nx (nx s)) 2 : Int) == 1)⟩], nx (nx (nx s))) D w) := by
  have hp1 : (0 : Int) < (P : Int) := by omega
  have hit2 : ¬ a ≤ (bel s 256 : Int) := by omega
  obtain ⟨hc1, hc2⟩ := hc
  have hc3 : ¬ (i : Int) < fr := by omega
  have hc4 : ¬ td < (i : Int) := by omega
  have h : RS w w.heap.size (w.heap.size + 1) (w.heap.size + 2) D s ⟨4, fr, td, a, b⟩ ⟨P, xb, xt, false⟩ (((w.alloc (.cells #[.int .i64 4, .int .i64 fr, .int .i64 td, .int .i64 a, .int .i64 b] 62)).alloc (.cells #[.int .i64 (P : Int), .int .i64 xb, .bool xt, .bool false] 65)).alloc (.cells #[.int .i64 0, .int .i64 0, .bool false, .bool false] 65)) :=
    ⟨((Blk.newAt w 62 _ w.heap.size rfl).alloc _).alloc _, (Blk.newAt (w.alloc (.cells #[.int .i64 4, .int .i64 fr, .int .i64 td, .int .i64 a, .int .i64 b] 62)) 65 _ (w.heap.size + 1) (by simp)).alloc _, Blk.newAt ((w.alloc (.cells #[.int .i64 4, .int .i64 fr, .int .i64 td, .int .i64 a, .int .i64 b] 62)).alloc (.cells #[.int .i64 (P : Int), .int .i64 xb, .bool xt, .bool false] 65)) 65 _ (w.heap.size + 2) (by simp), Blk.alloc (Blk.alloc (Blk.alloc hD _) _) _, grownBy_alloc (grownBy_alloc (grownBy_alloc (World.grownBy.refl w _) _) _) _⟩
  have g : RG w w.heap.size (w.heap.size + 1) (w.heap.size + 2) D := ⟨rfl, rfl, rfl, Blk.lt hD⟩
  go_enter Tryd.func74, Tryd.ntmps74
  go_upto_region 1 with fail
  obtain ⟨W, hW⟩ : ∃ W, W = ((w.alloc (.cells #[.int .i64 4, .int .i64 fr, .int .i64 td, .int .i64 a, .int .i64 b] 62)).alloc (.cells #[.int .i64 (P : Int), .int .i64 xb, .bool xt, .bool false] 65)).alloc (.cells #[.int .i64 0, .int .i64 0, .bool false, .bool false] 65) := ⟨_, rfl⟩
  rw [← hW] at h ⊢
  clear hW hD
  rw [show w.heap.size + 1 + 1 = w.heap.size + 2 from rfl]
  obtain ⟨gR, hgR⟩ : ∃ q, q = w.heap.size := ⟨_, rfl⟩
  obtain ⟨gX, hgX⟩ : ∃ q, q = w.heap.size + 1 := ⟨_, rfl⟩
  obtain ⟨gZ, hgZ⟩ : ∃ q, q = w.heap.size + 2 := ⟨_, rfl⟩
  rw [← hgX, ← hgZ, ← hgR] at h g ⊢
  clear hgR hgX hgZ
  have r0 := h.r.cell 0
  have r1 := h.r.cell 1
  have r2 := h.r.cell 2
  have r3 := h.r.cell 3
  have r4 := h.r.cell 4
  have x0 := h.x.cell 0
  have x1 := h.x.cell 1
  have x2 := h.x.cell 2
  have x3 := h.x.cell 3
  simp only [ruC, liC, List.getElem?_toArray, List.getElem?_cons_zero, List.getElem?_cons_succ] at r0 r1 r2 r3 r4 x0 x1 x2 x3
  have hRD : some gR ≠ some D := by have := g.r; have := g.d; simp; omega
  have hXD : some gX ≠ some D := by have := g.x; have := g.d; simp; omega
  have hB := rbelow_c D s 256 W.drew h.d (by omega) (by omega)
  have HB := hide hB
  clear hB
  go_upto_region 27 with fail
  go_region_held3 (fun w' => w'.cell? ⟨gR, 3, none⟩ = some (.int .i64 a)) (first | exact r3 | exact hg2.cell r3 hRD) (first | (go_at_call 70; refine HB.out.mono ?_; rintro e w2 ⟨rfl, hD2, hg2⟩))
  have k := h.drew.draw g hD2 hg2
  clear r0 r1 r2 r3 r4 x0 x1 x2 x3 h HB hD2 hg2
  have hRX : ¬ gR = gX := by have := g.r; have := g.x; omega
  have hXR : ¬ gX = gR := by have := g.r; have := g.x; omega
  have r0 := k.r.cell 0
  have r3 := k.r.cell 3
  have x0 := k.x.cell 0
  have x1 := k.x.cell 1
  have x2 := k.x.cell 2
  have x3 := k.x.cell 3
  have xf0 := k.x.frozen 0
  have xf2 := k.x.frozen 2
  simp only [ruC, liC, List.getElem?_toArray, List.getElem?_cons_zero, List.getElem?_cons_succ] at r0 r3 x0 x1 x2 x3
  have HB2 := hide (rbelow_c D (nx s) 2 w2 k.d (by omega) (by omega))
  obtain ⟨bb, hbb⟩ : ∃ q : Int, q = (bel (nx s) 2 : Int) := ⟨_, rfl⟩
  rw [← hbb] at HB2 hb ⊢
  have HBB := hide hbb
  clear hbb
  go_upto_region 32 with (go_at_call 70; refine HB2.out.mono ?_; rintro e w3 ⟨rfl, hD3, hg3⟩; have k3 := k.draw g hD3 hg3; have y1 := k3.x.cell 1; have y2 := k3.x.cell 2; simp only [liC, List.getElem?_toArray, List.getElem?_cons_zero, List.getElem?_cons_succ] at y1 y2)
  have HB3 := hide (rbelow_c D (nx (nx s)) 2 w3 k3.d (by omega) (by omega))
  obtain ⟨cc, hcc⟩ : ∃ q : Int, q = (bel (nx (nx s)) 2 : Int) := ⟨_, rfl⟩
  rw [← hcc] at HB3 ⊢
  have HCC := hide hcc
  clear hcc
  go_upto_region 33 with (go_at_call 70; refine HB3.out.mono ?_; rintro e w4 ⟨rfl, hD4, hg4⟩; have k4 := k3.draw g hD4 hg4)
  have k5 := k4.alloc (.cells #[.int .i64 (i : Int), .int .i64 1, .int .i64 bb, .bool (cc == 1)] 86)
  have b5 := Blk.new w4 86 #[.int .i64 (i : Int), .int .i64 1, .int .i64 bb, .bool (cc == 1)]
  have hZl := k4.z.lt
  go_wp2_with (refine wl_store (o := ⟨none, _, _, _, _, _⟩) rfl 65 _ _ rfl gZ #[.int .i64 1, .int .i64 bb, .bool (cc == 1), .bool false] rfl rfl 65 _ k5.z (by kernel_rfl) rfl (by simp [Value.oneCell']) ?_; intro w9 hZ9 hg9)
  refine bodyPost_ret (results_row_tmp rfl _ _ gZ 65 _ _ rfl hZ9 Tryd.underlying65 rfl (by kernel_rfl)) rfl ?_
  have e1 := HBB.out
  have e2 := HCC.out
  subst e1
  subst e2
  exact SRA.one (x := ⟨1, _, _, false⟩) (k5.fin g hg9) (b5.grown hg9 (by simp; omega)) k4.f.size

set_option maxRecDepth 100000 in
set_option maxHeartbeats 6400000 in
theorem ract_loss (fr td a b : Int) (i : Nat) (xb : Int) (xt : Bool) (P : Nat) (D s : Nat) (w : World) (hD : Rr w D s) (hP : P ≤ 3) :
    Calls Tryd.prog 74 #[.agg #[.int .i64 1, .int .i64 fr, .int .i64 td, .int .i64 a, .int .i64 b], .int .i64 i, .agg #[.int .i64 (P : Int), .int .i64 xb, .bool xt, .bool false], .pointer (some ⟨D, 0, none⟩)] w (SRA (⟨P - lossS a s P, xb, xt, false⟩, [], (lossF a s P).2) D w) := by
  have h : RS w w.heap.size (w.heap.size + 1) (w.heap.size + 2) D s ⟨1, fr, td, a, b⟩ ⟨P, xb, xt, false⟩ (((w.alloc (.cells #[.int .i64 1, .int .i64 fr, .int .i64 td, .int .i64 a, .int .i64 b] 62)).alloc (.cells #[.int .i64 (P : Int), .int .i64 xb, .bool xt, .bool false] 65)).alloc (.cells #[.int .i64 0, .int .i64 0, .bool false, .bool false] 65)) :=
    ⟨((Blk.newAt w 62 _ w.heap.size rfl).alloc _).alloc _, (Blk.newAt (w.alloc (.cells #[.int .i64 1, .int .i64 fr, .int .i64 td, .int .i64 a, .int .i64 b] 62)) 65 _ (w.heap.size + 1) (by simp)).alloc _, Blk.newAt ((w.alloc (.cells #[.int .i64 1, .int .i64 fr, .int .i64 td, .int .i64 a, .int .i64 b] 62)).alloc (.cells #[.int .i64 (P : Int), .int .i64 xb, .bool xt, .bool false] 65)) 65 _ (w.heap.size + 2) (by simp), Blk.alloc (Blk.alloc (Blk.alloc hD _) _) _, grownBy_alloc (grownBy_alloc (grownBy_alloc (World.grownBy.refl w _) _) _) _⟩
  have g : RG w w.heap.size (w.heap.size + 1) (w.heap.size + 2) D := ⟨rfl, rfl, rfl, Blk.lt hD⟩
  go_enter Tryd.func74, Tryd.ntmps74
  go_upto_region 1 with fail
  obtain ⟨W, hW⟩ : ∃ W, W = ((w.alloc (.cells #[.int .i64 1, .int .i64 fr, .int .i64 td, .int .i64 a, .int .i64 b] 62)).alloc (.cells #[.int .i64 (P : Int), .int .i64 xb, .bool xt, .bool false] 65)).alloc (.cells #[.int .i64 0, .int .i64 0, .bool false, .bool false] 65) := ⟨_, rfl⟩
  rw [← hW] at h ⊢
  clear hW hD
  rw [show w.heap.size + 1 + 1 = w.heap.size + 2 from rfl]
  obtain ⟨gR, hgR⟩ : ∃ q, q = w.heap.size := ⟨_, rfl⟩
  obtain ⟨gX, hgX⟩ : ∃ q, q = w.heap.size + 1 := ⟨_, rfl⟩
  obtain ⟨gZ, hgZ⟩ : ∃ q, q = w.heap.size + 2 := ⟨_, rfl⟩
  rw [← hgX, ← hgZ, ← hgR] at h g ⊢
  clear hgR hgX hgZ
  have r0 := h.r.cell 0
  have r1 := h.r.cell 1
  have r2 := h.r.cell 2
  have r3 := h.r.cell 3
  have r4 := h.r.cell 4
  have x0 := h.x.cell 0
  have x1 := h.x.cell 1
  have x2 := h.x.cell 2
  have x3 := h.x.cell 3
  simp only [ruC, liC, List.getElem?_toArray, List.getElem?_cons_zero, List.getElem?_cons_succ] at r0 r1 r2 r3 r4 x0 x1 x2 x3
  have hRD : some gR ≠ some D := by have := g.r; have := g.d; simp; omega
  have hXD : some gX ≠ some D := by have := g.x; have := g.d; simp; omega
  have HRD := hide hRD
  go_wp2
  go_loopw [11, 12] (fun lv kv wr => ∃ j : Nat, j ≤ P ∧ kv = .int .i64 j ∧ lv = .int .i64 (j - lossS a s j) ∧ RS w gR gX gZ D (lossF a s j).2 ⟨1, fr, td, a, b⟩ ⟨P, xb, xt, false⟩ wr) (fun _ kv _ => P - (intOf kv).toNat)
  case atStart => exact ⟨0, by omega, rfl, by simp [lossS, lossF], h⟩
  case round =>
    clear h r0 r1 r2 r3 r4 x0 x1 x2 x3
    obtain ⟨j, hj, rfl, rfl, h⟩ := hrel
    have r0 := h.r.cell 0
    have r3 := h.r.cell 3
    have x0 := h.x.cell 0
    have x1 := h.x.cell 1
    have x2 := h.x.cell 2
    have x3 := h.x.cell 3
    have xf0 := h.x.frozen 0
    simp only [ruC, liC, List.getElem?_toArray, List.getElem?_cons_zero, List.getElem?_cons_succ] at r0 r3 x0 x1 x2 x3
    have hle := lossS_le a s j
    by_cases hlt : j < P
    · have HY := hide (show ∀ h : (bel (lossF a s j).2 256 : Int) < a, ((j + 1 : Nat) : Int) - lossS a s (j + 1) = (j : Int) - lossS a s j from fun h => by rw [lossS_yes h]; omega)
      have HNO := hide (show ∀ h : ¬ (bel (lossF a s j).2 256 : Int) < a, ((j + 1 : Nat) : Int) - lossS a s (j + 1) = (j : Int) - lossS a s j + 1 from fun h => by rw [lossS_no h]; omega)
      obtain ⟨q, hq⟩ : ∃ q, (j : Int) - lossS a s j = q := ⟨_, rfl⟩
      rw [hq] at HY HNO ⊢
      have hq0 : 0 ≤ q := by omega
      have hq1 : q ≤ 3 := by omega
      clear hle hq
      have hB := rbelow_c D (lossF a s j).2 256 wr.drew h.d (by omega) (by omega)
      obtain ⟨bb, hbb⟩ : ∃ z : Int, z = (bel (lossF a s j).2 256 : Int) := ⟨_, rfl⟩
      rw [← hbb] at hB HY HNO
      have HB := hide hB
      clear hB hbb
      go_upto_region 13 with fail
      go_region_held3 (fun w' => w'.cell? ⟨gR, 3, none⟩ = some (.int .i64 a)) (first | exact r3 | exact hg2.cell r3 HRD.out) (first | (go_at_call 70; refine HB.out.mono ?_; rintro e w2 ⟨rfl, hD2, hg2⟩))
      have k := h.drew.draw g hD2 hg2
      clear r0 r3 x0 x1 x2 x3 xf0
      by_cases hit : bb < a
      · have hit2 : ¬ a ≤ bb := by omega
        have HH := hide (HY.out hit)
        go_wp2
        go_roundw
        case rel => exact ⟨j + 1, by omega, by go_num, by rw [HH.out], k⟩
        case measure => simp [intOf] <;> omega
      · have hit2 : a ≤ bb := by omega
        have HH := hide (HNO.out hit2)
        go_wp2
        go_roundw
        case rel => exact ⟨j + 1, by omega, by go_num, by rw [HH.out], k⟩
        case measure => simp [intOf] <;> omega
    · obtain rfl : j = P := by omega
      go_upto_region 16 with fail
      have k2 := h.setX g 0 (.int .i64 ((j : Int) - lossS a s j)) (x' := ⟨j - lossS a s j, xb, xt, false⟩) (by simp [liC])
      go_wp2_with (refine wl_store (o := ⟨none, _, _, _, _, _⟩) rfl 65 _ _ rfl gZ #[.int .i64 ((j : Int) - lossS a s j), .int .i64 xb, .bool xt, .bool false] rfl rfl 65 _ k2.z (by kernel_rfl) rfl (by simp [Value.oneCell']) ?_; intro w9 hZ9 hg9)
      exact bodyPost_ret (results_row_tmp rfl _ _ gZ 65 _ _ rfl hZ9 Tryd.underlying65 rfl (by kernel_rfl)) rfl (SRA.bare (k2.fin g hg9))
end Go.Proofs.YtddajmagdjkodaaDoor
