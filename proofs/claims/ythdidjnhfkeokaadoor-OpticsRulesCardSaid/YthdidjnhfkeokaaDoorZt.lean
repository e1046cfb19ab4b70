/- Contract of the reference's read. -/
import Derived.Test.YthdidjnhfkeokaaDoorZr
import Derived.Deep.DrawnRows
import Derived.Deep.RegionHeld3
namespace Go.Proofs.YthdidjnhfkeokaaDoor
open Go.RowKit

theorem fmRu_0 (V : List UInt8 → Int) (l : List UInt8) (ws : List (List UInt8)) (h : wordsL l = ws) : fmRu V l 0 = ⟨1, 0, 0, V (ws.getD 1 []), 0⟩ := by
  subst h; simp [fmRu, ruOf, fmR, fmK, fmF, fmB, List.idxOf, List.findIdx, List.findIdx.go]
theorem fmRu_1 (V : List UInt8 → Int) (l : List UInt8) (ws : List (List UInt8)) (h : wordsL l = ws) : fmRu V l 1 = ⟨2, 0, 0, V (ws.getD 1 []), 0⟩ := by
  subst h; simp [fmRu, ruOf, fmR, fmK, fmF, fmB, List.idxOf, List.findIdx, List.findIdx.go]
theorem fmRu_2 (V : List UInt8 → Int) (l : List UInt8) (ws : List (List UInt8)) (h : wordsL l = ws) : fmRu V l 2 = ⟨3, 0, 0, V (ws.getD 1 []), 0⟩ := by
  subst h; simp [fmRu, ruOf, fmR, fmK, fmF, fmB, List.idxOf, List.findIdx, List.findIdx.go]
theorem fmRu_3 (V : List UInt8 → Int) (l : List UInt8) (ws : List (List UInt8)) (h : wordsL l = ws) : fmRu V l 3 = ⟨3, 0, 0, V (ws.getD 1 []), 1⟩ := by
  subst h; simp [fmRu, ruOf, fmR, fmK, fmF, fmB, List.idxOf, List.findIdx, List.findIdx.go]
theorem fmRu_4 (V : List UInt8 → Int) (l : List UInt8) (ws : List (List UInt8)) (h : wordsL l = ws) : fmRu V l 4 = ⟨4, V (ws.getD 1 []), V (ws.getD 2 []), V (ws.getD 3 []), 0⟩ := by
  subst h; simp [fmRu, ruOf, fmR, fmK, fmF, fmB, List.idxOf, List.findIdx, List.findIdx.go]
theorem fmRu_5 (V : List UInt8 → Int) (l : List UInt8) (ws : List (List UInt8)) (h : wordsL l = ws) : fmRu V l 5 = ⟨5, V (ws.getD 1 []), V (ws.getD 2 []), 0, 0⟩ := by
  subst h; simp [fmRu, ruOf, fmR, fmK, fmF, fmB, List.idxOf, List.findIdx, List.findIdx.go]
theorem fmRu_6 (V : List UInt8 → Int) (l : List UInt8) (ws : List (List UInt8)) (h : wordsL l = ws) : fmRu V l 6 = ⟨6, V (ws.getD 1 []), V (ws.getD 2 []), V (ws.getD 3 []), 0⟩ := by
  subst h; simp [fmRu, ruOf, fmR, fmK, fmF, fmB, List.idxOf, List.findIdx, List.findIdx.go]
theorem fmRu_7 (V : List UInt8 → Int) (l : List UInt8) (ws : List (List UInt8)) (h : wordsL l = ws) : fmRu V l 7 = ⟨7, V (ws.getD 1 []), V (ws.getD 2 []), V (ws.getD 3 []), V (ws.getD 4 [])⟩ := by
  subst h; simp [fmRu, ruOf, fmR, fmK, fmF, List.idxOf, List.findIdx, List.findIdx.go]
/-- The words, and four empty ones behind them. -/
def padB (s : ByteArray) : List ByteArray := wordsB s ++ [ByteArray.empty, ByteArray.empty, ByteArray.empty, ByteArray.empty]
theorem padB_get {s : ByteArray} {i : Nat} {x : ByteArray} (h : (padB s)[i]? = some x) : lst x = (wordsL (lst s)).getD i [] := by
  unfold padB at h
  by_cases hi : i < (wordsB s).length
  · rw [List.getElem?_append_left hi] at h
    rw [List.getD_eq_getElem?_getD, wordsB_get h]; rfl
  · rw [List.getElem?_append_right (by omega)] at h
    rw [List.getD_eq_getElem?_getD, List.getElem?_eq_none (by rw [← wordsB_len]; omega)]
    have : x ∈ [ByteArray.empty, ByteArray.empty, ByteArray.empty, ByteArray.empty] := List.mem_of_getElem? h
    simp at this
    subst this; rfl
theorem ru_five {w : World} {g : Nat} {f : Nat → Int} (b : Blk w g 62 (ruC f)) (v0 v1 v2 v3 v4 : Value) : w.grownBy (((((w.setCell ⟨g, 0, none⟩ v0).setCell ⟨g, 1, none⟩ v1).setCell ⟨g, 2, none⟩ v2).setCell ⟨g, 3, none⟩ v3).setCell ⟨g, 4, none⟩ v4) (some g) ∧ Blk (((((w.setCell ⟨g, 0, none⟩ v0).setCell ⟨g, 1, none⟩ v1).setCell ⟨g, 2, none⟩ v2).setCell ⟨g, 3, none⟩ v3).setCell ⟨g, 4, none⟩ v4) g 62 #[v0, v1, v2, v3, v4] := by
  refine ⟨((((grownBy_setCell w g 0 v0).trans (grownBy_setCell _ g 1 v1)).trans (grownBy_setCell _ g 2 v2)).trans (grownBy_setCell _ g 3 v3)).trans (grownBy_setCell _ g 4 v4), ?_⟩
  have q := ((((b.set_ 0 v0).set_ 1 v1).set_ 2 v2).set_ 3 v3).set_ 4 v4
  simpa [ruC] using q
theorem parts_len (c : UInt8) : ∀ l : List UInt8, (partsL c l).length ≤ l.length + 1
  | [] => by simp [partsL]
  | b :: l => by
    have ih := parts_len c l
    rw [partsL]
    split
    · simp; omega
    · split
      · simp
      · rename_i x r h
        rw [h] at ih
        simp at ih ⊢; omega
theorem words_len {s : ByteArray} {n : Nat} (h : (wordsB s).length = n) (hs : s.size ≤ 1000000) : n ≤ 1000001 := by
  rw [← h, wordsB_len]
  have := parts_len 32 (lst s)
  have h2 := lst_len s
  unfold wordsL; omega
def SRrd (s : ByteArray) (w : World) (e : Ending) (w' : World) : Prop := ∃ r : Ru, e = .returned (.agg #[.int .i64 r.k, .int .i64 r.fr, .int .i64 r.to, .int .i64 r.a, .int .i64 r.b]) ∧ SRr (lst s) r ∧ Below w.heap.size w w'
theorem rd_str {W : World} {b off m c i : Nat} {L : List ByteArray} {x : ByteArray} (h : Rd eStr W W.heap.size (some ⟨b, off, none⟩) m c L) (hx : L[i]? = some x) (hi : i < m) : W.cell? ⟨b, off + i, none⟩ = some (.string x) := by
  obtain ⟨b9, o9, y, e, _, hy, hc⟩ := h.get hi
  injection e with e
  injection e with e1 e2
  subst e1
  subst e2
  rw [hx] at hy
  obtain rfl := Option.some.inj hy
  have := hc 0 _ rfl
  simpa [eStr] using this
theorem kw_of {x : ByteArray} {l : List UInt8} (h : (x.toList == l) = true) : lst x = l := by
  have h1 := beq_iff_eq.1 h
  rw [Lib.toList_data] at h1
  exact h1
theorem kw_not {x : ByteArray} {l : List UInt8} (h : (x.toList == l) = false) : l ≠ lst x := fun e => by
  rw [beq_eq_false_iff_ne] at h
  exact h (by rw [Lib.toList_data]; exact e.symm)

set_option linter.unusedSimpArgs false in
set_option maxRecDepth 100000 in
set_option maxHeartbeats 12800000 in
theorem rread_c (s : ByteArray) (w : World) (hs : s.size ≤ 1000000) : Calls Tryd.prog 51 #[.string s] w (SRrd s w) := by
  have hZ : Blk (w.alloc (.cells #[.int .i64 0, .int .i64 0, .int .i64 0, .int .i64 0, .int .i64 0] 62)) w.heap.size 62 (ruC fun _ => 0) := Blk.newAt w 62 (ruC fun _ => 0) w.heap.size rfl
  have hb := below_alloc w (.cells #[.int .i64 0, .int .i64 0, .int .i64 0, .int .i64 0, .int .i64 0] 62)
  go_enter Tryd.func51, Tryd.ntmps51
  go_upto_region 1 with fail
  obtain ⟨W, hW⟩ : ∃ q, q = w.alloc (.cells #[.int .i64 0, .int .i64 0, .int .i64 0, .int .i64 0, .int .i64 0] 62) := ⟨_, rfl⟩
  rw [← hW] at hZ hb ⊢
  obtain ⟨gZ, hgZ⟩ : ∃ q, q = w.heap.size := ⟨_, rfl⟩
  rw [← hgZ] at hZ ⊢
  have hwz : w.heap.size ≤ gZ := by omega
  clear hW hgZ
  have HE4 := hide (fun W => Rd.many (e := eStr) W 9 [ByteArray.empty, ByteArray.empty, ByteArray.empty, ByteArray.empty] #[.string ByteArray.empty, .string ByteArray.empty, .string ByteArray.empty, .string ByteArray.empty] rfl 4 rfl (by omega) W.heap.size rfl)
  go_upto_region 2 with (first | (go_at_call 45; refine (rwords_c s W hs).mono ?_; rintro e w1 ⟨A, n, c, rfl, ow, hb1⟩; have hE4 := HE4.out w1; have hnm := words_len ow.len hs) | (at_builtin; refine wl_app eStr _ rfl (.tmp 5) (.tmp 6) _ rfl W.heap.size 9 (.string ByteArray.empty) 16 Tryd.underlying71 info_str rfl (by omega) _ _ _ _ (by rfl) (ow.alloc _) _ 4 4 [ByteArray.empty, ByteArray.empty, ByteArray.empty, ByteArray.empty] (by rfl) _ hE4 (by omega) (by have := hb1.size; simp; omega) ?_; intro A2 c2 w2 o2 hg2 hA2))
  have hb2 := below_app (hb1.alloc hb1.size (.cells #[.string ByteArray.empty, .string ByteArray.empty, .string ByteArray.empty, .string ByteArray.empty] 9)) (ow.alloc _) hg2 (Nat.le_refl _) (Nat.le_refl _)
  have hn0 : 0 < n := by
    have h1 := ow.len
    rw [wordsB_len] at h1
    have h2 := partsL_ne 32 (lst s)
    have h3 : (wordsL (lst s)).length ≠ 0 := fun e => h2 (List.eq_nil_of_length_eq_zero e)
    omega
  have hZ2 := hZ.keep hb2
  have r2 : Rd eStr w2 w2.heap.size A2 (n + 4) c2 (padB s) := o2.rd
  have hb3 := below_on hb hb2
  clear hZ hb hb1 hb2 ow HE4 hE4 o2 hg2 hA2
  obtain ⟨m, hm⟩ : ∃ q, q = n + 4 := ⟨_, rfl⟩
  have hm5 : 5 ≤ m := by omega
  have hcap := r2.cap
  have hmax := r2.max
  rw [← hm] at r2 hcap ⊢
  clear hm hn0 hnm
  obtain ⟨b0, off, x0, rfl, hb0, hx0, hc0⟩ := r2.get (show 0 < m by omega)
  have y0 := hc0 0 _ rfl
  simp only [eStr, Nat.add_zero, Nat.zero_mul] at y0
  have H0 := hide (show (wordsL (lst s))[0]? = some (lst x0) by
    have h1 := padB_get hx0
    have h2 : wordsL (lst s) ≠ [] := partsL_ne 32 (lst s)
    cases h : wordsL (lst s) with
    | nil => exact absurd h h2
    | cons a r => rw [h] at h1; rw [h1]; rfl)
  clear hb0 hx0 hc0
  by_cases hk0 : (x0.toList == [108, 111, 115, 115]) = true
  · obtain ⟨b9, off9, x1, eA, hb9, hx1, hc9⟩ := r2.get (show 1 < m by omega)
    injection eA with eA
    injection eA with e1 e2
    subst e1
    subst e2
    have y1 := hc9 0 _ rfl
    simp only [eStr, Nat.add_zero, Nat.mul_one] at y1
    have hq1 := padB_get hx1
    have HN1 := hide (fun W => number_c x1 W)
    rw [hq1] at HN1
    obtain ⟨v1, hv1⟩ : ∃ q, q = numV ((wordsL (lst s)).getD 1 []) := ⟨_, rfl⟩
    rw [← hv1] at HN1
    have HV1 := hide hv1
    have HC1 := hide (fun W (h : Rd eStr W W.heap.size (some ⟨b0, off, none⟩) m c2 (padB s)) => rd_str h hx1 (by omega))
    clear hc9 hb9 hx1 hq1 hv1
    have HF := hide (show SRr (lst s) (⟨1, 0, 0, v1, 0⟩ : Ru) from SRr.form (j := 0) (by omega) (by rw [H0.out]; congr 1; exact kw_of hk0) (by rw [fmRu_0 numV (lst s) _ rfl, ← HV1.out]))
    go_wp2_with (first | (go_at_call 46; refine (HN1.out _).mono ?_; rintro e w' ⟨rfl, hq⟩; rw [hq]; clear hq) | (refine wl_store (o := ⟨none, _, _, _, _, _⟩) rfl 62 _ _ rfl gZ #[.int .i64 (1), .int .i64 (0), .int .i64 (0), .int .i64 v1, .int .i64 (0)] rfl rfl 62 _ hZ2 (by kernel_rfl) rfl (by simp [Value.oneCell']) ?_; intro w9 hZ9 hg9))
    exact bodyPost_ret (results_cell_row rfl _ _ gZ _ _ (0, 0) _ rfl hZ9 Tryd.underlying62 rfl (by kernel_rfl)) rfl ⟨_, rfl, HF.out, below_grown hb3 hg9 hwz (Nat.le_refl _)⟩
  · replace hk0 : (x0.toList == [108, 111, 115, 115]) = false := by simpa using hk0
    by_cases hk1 : (x0.toList == [110, 111, 105, 115, 101]) = true
    · obtain ⟨b9, off9, x1, eA, hb9, hx1, hc9⟩ := r2.get (show 1 < m by omega)
      injection eA with eA
      injection eA with e1 e2
      subst e1
      subst e2
      have y1 := hc9 0 _ rfl
      simp only [eStr, Nat.add_zero, Nat.mul_one] at y1
      have hq1 := padB_get hx1
      have HN1 := hide (fun W => number_c x1 W)
      rw [hq1] at HN1
      obtain ⟨v1, hv1⟩ : ∃ q, q = numV ((wordsL (lst s)).getD 1 []) := ⟨_, rfl⟩
      rw [← hv1] at HN1
      have HV1 := hide hv1
      have HC1 := hide (fun W (h : Rd eStr W W.heap.size (some ⟨b0, off, none⟩) m c2 (padB s)) => rd_str h hx1 (by omega))
      clear hc9 hb9 hx1 hq1 hv1
      have HF := hide (show SRr (lst s) (⟨2, 0, 0, v1, 0⟩ : Ru) from SRr.form (j := 1) (by omega) (by rw [H0.out]; congr 1; exact kw_of hk1) (by rw [fmRu_1 numV (lst s) _ rfl, ← HV1.out]))
      go_wp2_with (first | (go_at_call 46; refine (HN1.out _).mono ?_; rintro e w' ⟨rfl, hq⟩; rw [hq]; clear hq) | (refine wl_store (o := ⟨none, _, _, _, _, _⟩) rfl 62 _ _ rfl gZ #[.int .i64 (2), .int .i64 (0), .int .i64 (0), .int .i64 v1, .int .i64 (0)] rfl rfl 62 _ hZ2 (by kernel_rfl) rfl (by simp [Value.oneCell']) ?_; intro w9 hZ9 hg9))
      exact bodyPost_ret (results_cell_row rfl _ _ gZ _ _ (0, 0) _ rfl hZ9 Tryd.underlying62 rfl (by kernel_rfl)) rfl ⟨_, rfl, HF.out, below_grown hb3 hg9 hwz (Nat.le_refl _)⟩
    · replace hk1 : (x0.toList == [110, 111, 105, 115, 101]) = false := by simpa using hk1
      by_cases hk2 : (x0.toList == [108, 97, 116, 101]) = true
      · obtain ⟨b9, off9, x1, eA, hb9, hx1, hc9⟩ := r2.get (show 1 < m by omega)
        injection eA with eA
        injection eA with e1 e2
        subst e1
        subst e2
        have y1 := hc9 0 _ rfl
        simp only [eStr, Nat.add_zero, Nat.mul_one] at y1
        have hq1 := padB_get hx1
        have HN1 := hide (fun W => number_c x1 W)
        rw [hq1] at HN1
        obtain ⟨v1, hv1⟩ : ∃ q, q = numV ((wordsL (lst s)).getD 1 []) := ⟨_, rfl⟩
        rw [← hv1] at HN1
        have HV1 := hide hv1
        have HC1 := hide (fun W (h : Rd eStr W W.heap.size (some ⟨b0, off, none⟩) m c2 (padB s)) => rd_str h hx1 (by omega))
        clear hc9 hb9 hx1 hq1 hv1
        have HF := hide (show SRr (lst s) (⟨3, 0, 0, v1, 0⟩ : Ru) from SRr.form (j := 2) (by omega) (by rw [H0.out]; congr 1; exact kw_of hk2) (by rw [fmRu_2 numV (lst s) _ rfl, ← HV1.out]))
        go_wp2_with (first | (go_at_call 46; refine (HN1.out _).mono ?_; rintro e w' ⟨rfl, hq⟩; rw [hq]; clear hq) | (refine wl_store (o := ⟨none, _, _, _, _, _⟩) rfl 62 _ _ rfl gZ #[.int .i64 (3), .int .i64 (0), .int .i64 (0), .int .i64 v1, .int .i64 (0)] rfl rfl 62 _ hZ2 (by kernel_rfl) rfl (by simp [Value.oneCell']) ?_; intro w9 hZ9 hg9))
        exact bodyPost_ret (results_cell_row rfl _ _ gZ _ _ (0, 0) _ rfl hZ9 Tryd.underlying62 rfl (by kernel_rfl)) rfl ⟨_, rfl, HF.out, below_grown hb3 hg9 hwz (Nat.le_refl _)⟩
      · replace hk2 : (x0.toList == [108, 97, 116, 101]) = false := by simpa using hk2
        by_cases hk3 : (x0.toList == [101, 97, 114, 108, 121]) = true
        · obtain ⟨b9, off9, x1, eA, hb9, hx1, hc9⟩ := r2.get (show 1 < m by omega)
          injection eA with eA
          injection eA with e1 e2
          subst e1
          subst e2
          have y1 := hc9 0 _ rfl
          simp only [eStr, Nat.add_zero, Nat.mul_one] at y1
          have hq1 := padB_get hx1
          have HN1 := hide (fun W => number_c x1 W)
          rw [hq1] at HN1
          obtain ⟨v1, hv1⟩ : ∃ q, q = numV ((wordsL (lst s)).getD 1 []) := ⟨_, rfl⟩
          rw [← hv1] at HN1
          have HV1 := hide hv1
          have HC1 := hide (fun W (h : Rd eStr W W.heap.size (some ⟨b0, off, none⟩) m c2 (padB s)) => rd_str h hx1 (by omega))
          clear hc9 hb9 hx1 hq1 hv1
          have HF := hide (show SRr (lst s) (⟨3, 0, 0, v1, 1⟩ : Ru) from SRr.form (j := 3) (by omega) (by rw [H0.out]; congr 1; exact kw_of hk3) (by rw [fmRu_3 numV (lst s) _ rfl, ← HV1.out]))
          go_wp2_with (first | (go_at_call 46; refine (HN1.out _).mono ?_; rintro e w' ⟨rfl, hq⟩; rw [hq]; clear hq) | (refine wl_store (o := ⟨none, _, _, _, _, _⟩) rfl 62 _ _ rfl gZ #[.int .i64 (3), .int .i64 (0), .int .i64 (0), .int .i64 v1, .int .i64 (1)] rfl rfl 62 _ hZ2 (by kernel_rfl) rfl (by simp [Value.oneCell']) ?_; intro w9 hZ9 hg9))
          exact bodyPost_ret (results_cell_row rfl _ _ gZ _ _ (0, 0) _ rfl hZ9 Tryd.underlying62 rfl (by kernel_rfl)) rfl ⟨_, rfl, HF.out, below_grown hb3 hg9 hwz (Nat.le_refl _)⟩
        · replace hk3 : (x0.toList == [101, 97, 114, 108, 121]) = false := by simpa using hk3
          by_cases hk4 : (x0.toList == [114, 101, 115, 101, 110, 100]) = true
          · obtain ⟨b9, off9, x1, eA, hb9, hx1, hc9⟩ := r2.get (show 1 < m by omega)
            injection eA with eA
            injection eA with e1 e2
            subst e1
            subst e2
            have y1 := hc9 0 _ rfl
            simp only [eStr, Nat.add_zero, Nat.mul_one] at y1
            have hq1 := padB_get hx1
            have HN1 := hide (fun W => number_c x1 W)
            rw [hq1] at HN1
            obtain ⟨v1, hv1⟩ : ∃ q, q = numV ((wordsL (lst s)).getD 1 []) := ⟨_, rfl⟩
            rw [← hv1] at HN1
            have HV1 := hide hv1
            have HC1 := hide (fun W (h : Rd eStr W W.heap.size (some ⟨b0, off, none⟩) m c2 (padB s)) => rd_str h hx1 (by omega))
            clear hc9 hb9 hx1 hq1 hv1
            obtain ⟨b9, off9, x2, eA, hb9, hx2, hc9⟩ := r2.get (show 2 < m by omega)
            injection eA with eA
            injection eA with e1 e2
            subst e1
            subst e2
            have y2 := hc9 0 _ rfl
            simp only [eStr, Nat.add_zero, Nat.mul_one] at y2
            have hq2 := padB_get hx2
            have HN2 := hide (fun W => number_c x2 W)
            rw [hq2] at HN2
            obtain ⟨v2, hv2⟩ : ∃ q, q = numV ((wordsL (lst s)).getD 2 []) := ⟨_, rfl⟩
            rw [← hv2] at HN2
            have HV2 := hide hv2
            have HC2 := hide (fun W (h : Rd eStr W W.heap.size (some ⟨b0, off, none⟩) m c2 (padB s)) => rd_str h hx2 (by omega))
            clear hc9 hb9 hx2 hq2 hv2
            obtain ⟨b9, off9, x3, eA, hb9, hx3, hc9⟩ := r2.get (show 3 < m by omega)
            injection eA with eA
            injection eA with e1 e2
            subst e1
            subst e2
            have y3 := hc9 0 _ rfl
            simp only [eStr, Nat.add_zero, Nat.mul_one] at y3
            have hq3 := padB_get hx3
            have HN3 := hide (fun W => number_c x3 W)
            rw [hq3] at HN3
            obtain ⟨v3, hv3⟩ : ∃ q, q = numV ((wordsL (lst s)).getD 3 []) := ⟨_, rfl⟩
            rw [← hv3] at HN3
            have HV3 := hide hv3
            have HC3 := hide (fun W (h : Rd eStr W W.heap.size (some ⟨b0, off, none⟩) m c2 (padB s)) => rd_str h hx3 (by omega))
            clear hc9 hb9 hx3 hq3 hv3
            have HF := hide (show SRr (lst s) (⟨4, v1, v2, v3, 0⟩ : Ru) from SRr.form (j := 4) (by omega) (by rw [H0.out]; congr 1; exact kw_of hk4) (by rw [fmRu_4 numV (lst s) _ rfl, ← HV1.out, ← HV2.out, ← HV3.out]))
            go_upto_region 12 with fail
            have hrd := r2.drew
            refine wp_region_held_drew (S := fun W => Rd eStr W W.heap.size (some ⟨b0, off, none⟩) m c2 (padB s)) (by kernel_rfl) hrd (fun hHeld => ?_)
            have hZd := hZ2.drew
            have hbd := below_on hb3 (Below.refl _ w2).drew
            obtain ⟨V0, hV0⟩ : ∃ q, q = w2.drew := ⟨_, rfl⟩
            rw [← hV0] at hHeld hZd hbd ⊢
            clear hV0 hrd
            refine wpAnyH_take (i := 0) (v := .slice (some ⟨b0, off, none⟩) m c2) rfl (by kernel_rfl) (by kernel_rfl) (by kernel_rfl) (fun _ _ _ h => h) (yieldsIf_move (by rfl) _ (Or.inl rfl) _ rfl) hHeld ?_
            try simp only [Act.put, List.getElem_toArray, List.getElem_cons_succ, List.getElem_cons_zero, List.setIfInBounds_toArray, List.set_cons_zero, List.set_cons_succ]
            refine wpAnyH_take (i := 1) (v := .pointer (some ⟨b0, off + 1, none⟩)) rfl (by kernel_rfl) (by kernel_rfl) (by kernel_rfl) (fun _ _ _ h => h) (yieldsIf_indexAddr (by rfl) _ _ _ rfl _ Tryd.underlying71 Tryd.sizeOf9 b0 off m c2 1 _ rfl rfl rfl (by omega)) hHeld ?_
            try simp only [Act.put, List.getElem_toArray, List.getElem_cons_succ, List.getElem_cons_zero, List.setIfInBounds_toArray, List.set_cons_zero, List.set_cons_succ]
            refine wpAnyH_take (i := 2) (v := .string x1) rfl (by kernel_rfl) (by kernel_rfl) (by kernel_rfl) (fun _ _ _ h => h) (yieldsIf_load1 (by rfl) _ _ rfl ⟨b0, off + 1, none⟩ rfl _ Tryd.isAgg9 (fun W hW => HC1.out W hW)) hHeld ?_
            try simp only [Act.put, List.getElem_toArray, List.getElem_cons_succ, List.getElem_cons_zero, List.setIfInBounds_toArray, List.set_cons_zero, List.set_cons_succ]
            refine wpAnyH_take (i := 4) (v := .slice (some ⟨b0, off, none⟩) m c2) rfl (by kernel_rfl) (by kernel_rfl) (by kernel_rfl) (fun _ _ _ h => h) (yieldsIf_move (by rfl) _ (Or.inl rfl) _ rfl) hHeld ?_
            try simp only [Act.put, List.getElem_toArray, List.getElem_cons_succ, List.getElem_cons_zero, List.setIfInBounds_toArray, List.set_cons_zero, List.set_cons_succ]
            refine wpAnyH_take (i := 5) (v := .pointer (some ⟨b0, off + 2, none⟩)) rfl (by kernel_rfl) (by kernel_rfl) (by kernel_rfl) (fun _ _ _ h => h) (yieldsIf_indexAddr (by rfl) _ _ _ rfl _ Tryd.underlying71 Tryd.sizeOf9 b0 off m c2 2 _ rfl rfl rfl (by omega)) hHeld ?_
            try simp only [Act.put, List.getElem_toArray, List.getElem_cons_succ, List.getElem_cons_zero, List.setIfInBounds_toArray, List.set_cons_zero, List.set_cons_succ]
            refine wpAnyH_take (i := 6) (v := .string x2) rfl (by kernel_rfl) (by kernel_rfl) (by kernel_rfl) (fun _ _ _ h => h) (yieldsIf_load1 (by rfl) _ _ rfl ⟨b0, off + 2, none⟩ rfl _ Tryd.isAgg9 (fun W hW => HC2.out W hW)) hHeld ?_
            try simp only [Act.put, List.getElem_toArray, List.getElem_cons_succ, List.getElem_cons_zero, List.setIfInBounds_toArray, List.set_cons_zero, List.set_cons_succ]
            refine wpAnyH_take (i := 8) (v := .slice (some ⟨b0, off, none⟩) m c2) rfl (by kernel_rfl) (by kernel_rfl) (by kernel_rfl) (fun _ _ _ h => h) (yieldsIf_move (by rfl) _ (Or.inl rfl) _ rfl) hHeld ?_
            try simp only [Act.put, List.getElem_toArray, List.getElem_cons_succ, List.getElem_cons_zero, List.setIfInBounds_toArray, List.set_cons_zero, List.set_cons_succ]
            refine wpAnyH_take (i := 9) (v := .pointer (some ⟨b0, off + 3, none⟩)) rfl (by kernel_rfl) (by kernel_rfl) (by kernel_rfl) (fun _ _ _ h => h) (yieldsIf_indexAddr (by rfl) _ _ _ rfl _ Tryd.underlying71 Tryd.sizeOf9 b0 off m c2 3 _ rfl rfl rfl (by omega)) hHeld ?_
            try simp only [Act.put, List.getElem_toArray, List.getElem_cons_succ, List.getElem_cons_zero, List.setIfInBounds_toArray, List.set_cons_zero, List.set_cons_succ]
            refine wpAnyH_take (i := 10) (v := .string x3) rfl (by kernel_rfl) (by kernel_rfl) (by kernel_rfl) (fun _ _ _ h => h) (yieldsIf_load1 (by rfl) _ _ rfl ⟨b0, off + 3, none⟩ rfl _ Tryd.isAgg9 (fun W hW => HC3.out W hW)) hHeld ?_
            try simp only [Act.put, List.getElem_toArray, List.getElem_cons_succ, List.getElem_cons_zero, List.setIfInBounds_toArray, List.set_cons_zero, List.set_cons_succ]
            refine wpAnyH_ready (rs := [3]) (by kernel_rfl) (by simp) ?_
            refine AllReadyH.cons (i := 3) rfl (fun K hK => ?_) AllReadyH.nil
            go_simp
            refine (HN1.out _).mono ?_
            rintro e V9 ⟨rfl, hq9⟩
            rw [hq9]
            clear hq9 V9
            refine hK.out _ _ hHeld (fun hHeld => ?_)
            clear hK K
            try simp only [Act.put, List.getElem_toArray, List.getElem_cons_succ, List.getElem_cons_zero, List.setIfInBounds_toArray, List.set_cons_zero, List.set_cons_succ]
            refine wpAnyH_ready (rs := [7]) (by kernel_rfl) (by simp) ?_
            refine AllReadyH.cons (i := 7) rfl (fun K hK => ?_) AllReadyH.nil
            go_simp
            refine (HN2.out _).mono ?_
            rintro e V9 ⟨rfl, hq9⟩
            rw [hq9]
            clear hq9 V9
            refine hK.out _ _ hHeld (fun hHeld => ?_)
            clear hK K
            try simp only [Act.put, List.getElem_toArray, List.getElem_cons_succ, List.getElem_cons_zero, List.setIfInBounds_toArray, List.set_cons_zero, List.set_cons_succ]
            refine wpAnyH_ready (rs := [11]) (by kernel_rfl) (by simp) ?_
            refine AllReadyH.cons (i := 11) rfl (fun K hK => ?_) AllReadyH.nil
            go_simp
            refine (HN3.out _).mono ?_
            rintro e V9 ⟨rfl, hq9⟩
            rw [hq9]
            clear hq9 V9
            refine hK.out _ _ hHeld (fun hHeld => ?_)
            clear hK K
            try simp only [Act.put, List.getElem_toArray, List.getElem_cons_succ, List.getElem_cons_zero, List.setIfInBounds_toArray, List.set_cons_zero, List.set_cons_succ]
            refine wpAnyH_take (i := 12) (v := .agg #[.int .i64 (4), .int .i64 v1, .int .i64 v2, .int .i64 v3, .int .i64 (0)]) rfl (by kernel_rfl) (by kernel_rfl) (by kernel_rfl) (fun _ _ _ h => h) (yieldsIf_build (by rfl) _ _ rfl #[(0, .int .i64 4), (1, .int .i64 v1), (2, .int .i64 v2), (3, .int .i64 v3)] (by kernel_rfl) _ (fun W => by kernel_rfl)) hHeld ?_
            try simp only [Act.put, List.getElem_toArray, List.getElem_cons_succ, List.getElem_cons_zero, List.setIfInBounds_toArray, List.set_cons_zero, List.set_cons_succ]
            refine wpAnyH_ready (rs := [13]) (by kernel_rfl) (by simp) ?_
            refine AllReadyH.cons (i := 13) rfl (fun K hK => ?_) AllReadyH.nil
            refine step_store rfl 62 _ _ rfl gZ #[.int .i64 (4), .int .i64 v1, .int .i64 v2, .int .i64 v3, .int .i64 (0)] rfl rfl 62 _ hZd (by kernel_rfl) rfl (by simp [Value.oneCell']) ?_
            intro V2 hZ9 hg9
            refine hK.out _ _ (hHeld.aside2 hZd (ruC_str _) hg9) (fun hHeld => ?_)
            clear hK K
            try simp only [Act.put, List.getElem_toArray, List.getElem_cons_succ, List.getElem_cons_zero, List.setIfInBounds_toArray, List.set_cons_zero, List.set_cons_succ]
            refine wpAnyH_done (by kernel_rfl) ?_ _
            go_wp2
            exact bodyPost_ret (results_cell_row rfl _ _ gZ _ _ (0, 0) _ rfl hZ9 Tryd.underlying62 rfl (by kernel_rfl)) rfl ⟨_, rfl, HF.out, below_grown hbd hg9 hwz (Nat.le_refl _)⟩
          · replace hk4 : (x0.toList == [114, 101, 115, 101, 110, 100]) = false := by simpa using hk4
            by_cases hk5 : (x0.toList == [115, 112, 108, 105, 116]) = true
            · obtain ⟨b9, off9, x1, eA, hb9, hx1, hc9⟩ := r2.get (show 1 < m by omega)
              injection eA with eA
              injection eA with e1 e2
              subst e1
              subst e2
              have y1 := hc9 0 _ rfl
              simp only [eStr, Nat.add_zero, Nat.mul_one] at y1
              have hq1 := padB_get hx1
              have HN1 := hide (fun W => number_c x1 W)
              rw [hq1] at HN1
              obtain ⟨v1, hv1⟩ : ∃ q, q = numV ((wordsL (lst s)).getD 1 []) := ⟨_, rfl⟩
              rw [← hv1] at HN1
              have HV1 := hide hv1
              have HC1 := hide (fun W (h : Rd eStr W W.heap.size (some ⟨b0, off, none⟩) m c2 (padB s)) => rd_str h hx1 (by omega))
              clear hc9 hb9 hx1 hq1 hv1
              obtain ⟨b9, off9, x2, eA, hb9, hx2, hc9⟩ := r2.get (show 2 < m by omega)
              injection eA with eA
              injection eA with e1 e2
              subst e1
              subst e2
              have y2 := hc9 0 _ rfl
              simp only [eStr, Nat.add_zero, Nat.mul_one] at y2
              have hq2 := padB_get hx2
              have HN2 := hide (fun W => number_c x2 W)
              rw [hq2] at HN2
              obtain ⟨v2, hv2⟩ : ∃ q, q = numV ((wordsL (lst s)).getD 2 []) := ⟨_, rfl⟩
              rw [← hv2] at HN2
              have HV2 := hide hv2
              have HC2 := hide (fun W (h : Rd eStr W W.heap.size (some ⟨b0, off, none⟩) m c2 (padB s)) => rd_str h hx2 (by omega))
              clear hc9 hb9 hx2 hq2 hv2
              have HF := hide (show SRr (lst s) (⟨5, v1, v2, 0, 0⟩ : Ru) from SRr.form (j := 5) (by omega) (by rw [H0.out]; congr 1; exact kw_of hk5) (by rw [fmRu_5 numV (lst s) _ rfl, ← HV1.out, ← HV2.out]))
              go_upto_region 14 with fail
              have hrd := r2.drew
              refine wp_region_held_drew (S := fun W => Rd eStr W W.heap.size (some ⟨b0, off, none⟩) m c2 (padB s)) (by kernel_rfl) hrd (fun hHeld => ?_)
              have hZd := hZ2.drew
              have hbd := below_on hb3 (Below.refl _ w2).drew
              obtain ⟨V0, hV0⟩ : ∃ q, q = w2.drew := ⟨_, rfl⟩
              rw [← hV0] at hHeld hZd hbd ⊢
              clear hV0 hrd
              refine wpAnyH_take (i := 0) (v := .slice (some ⟨b0, off, none⟩) m c2) rfl (by kernel_rfl) (by kernel_rfl) (by kernel_rfl) (fun _ _ _ h => h) (yieldsIf_move (by rfl) _ (Or.inl rfl) _ rfl) hHeld ?_
              try simp only [Act.put, List.getElem_toArray, List.getElem_cons_succ, List.getElem_cons_zero, List.setIfInBounds_toArray, List.set_cons_zero, List.set_cons_succ]
              refine wpAnyH_take (i := 1) (v := .pointer (some ⟨b0, off + 1, none⟩)) rfl (by kernel_rfl) (by kernel_rfl) (by kernel_rfl) (fun _ _ _ h => h) (yieldsIf_indexAddr (by rfl) _ _ _ rfl _ Tryd.underlying71 Tryd.sizeOf9 b0 off m c2 1 _ rfl rfl rfl (by omega)) hHeld ?_
              try simp only [Act.put, List.getElem_toArray, List.getElem_cons_succ, List.getElem_cons_zero, List.setIfInBounds_toArray, List.set_cons_zero, List.set_cons_succ]
              refine wpAnyH_take (i := 2) (v := .string x1) rfl (by kernel_rfl) (by kernel_rfl) (by kernel_rfl) (fun _ _ _ h => h) (yieldsIf_load1 (by rfl) _ _ rfl ⟨b0, off + 1, none⟩ rfl _ Tryd.isAgg9 (fun W hW => HC1.out W hW)) hHeld ?_
              try simp only [Act.put, List.getElem_toArray, List.getElem_cons_succ, List.getElem_cons_zero, List.setIfInBounds_toArray, List.set_cons_zero, List.set_cons_succ]
              refine wpAnyH_take (i := 4) (v := .slice (some ⟨b0, off, none⟩) m c2) rfl (by kernel_rfl) (by kernel_rfl) (by kernel_rfl) (fun _ _ _ h => h) (yieldsIf_move (by rfl) _ (Or.inl rfl) _ rfl) hHeld ?_
              try simp only [Act.put, List.getElem_toArray, List.getElem_cons_succ, List.getElem_cons_zero, List.setIfInBounds_toArray, List.set_cons_zero, List.set_cons_succ]
              refine wpAnyH_take (i := 5) (v := .pointer (some ⟨b0, off + 2, none⟩)) rfl (by kernel_rfl) (by kernel_rfl) (by kernel_rfl) (fun _ _ _ h => h) (yieldsIf_indexAddr (by rfl) _ _ _ rfl _ Tryd.underlying71 Tryd.sizeOf9 b0 off m c2 2 _ rfl rfl rfl (by omega)) hHeld ?_
              try simp only [Act.put, List.getElem_toArray, List.getElem_cons_succ, List.getElem_cons_zero, List.setIfInBounds_toArray, List.set_cons_zero, List.set_cons_succ]
              refine wpAnyH_take (i := 6) (v := .string x2) rfl (by kernel_rfl) (by kernel_rfl) (by kernel_rfl) (fun _ _ _ h => h) (yieldsIf_load1 (by rfl) _ _ rfl ⟨b0, off + 2, none⟩ rfl _ Tryd.isAgg9 (fun W hW => HC2.out W hW)) hHeld ?_
              try simp only [Act.put, List.getElem_toArray, List.getElem_cons_succ, List.getElem_cons_zero, List.setIfInBounds_toArray, List.set_cons_zero, List.set_cons_succ]
              refine wpAnyH_ready (rs := [3]) (by kernel_rfl) (by simp) ?_
              refine AllReadyH.cons (i := 3) rfl (fun K hK => ?_) AllReadyH.nil
              go_simp
              refine (HN1.out _).mono ?_
              rintro e V9 ⟨rfl, hq9⟩
              rw [hq9]
              clear hq9 V9
              refine hK.out _ _ hHeld (fun hHeld => ?_)
              clear hK K
              try simp only [Act.put, List.getElem_toArray, List.getElem_cons_succ, List.getElem_cons_zero, List.setIfInBounds_toArray, List.set_cons_zero, List.set_cons_succ]
              refine wpAnyH_ready (rs := [7]) (by kernel_rfl) (by simp) ?_
              refine AllReadyH.cons (i := 7) rfl (fun K hK => ?_) AllReadyH.nil
              go_simp
              refine (HN2.out _).mono ?_
              rintro e V9 ⟨rfl, hq9⟩
              rw [hq9]
              clear hq9 V9
              refine hK.out _ _ hHeld (fun hHeld => ?_)
              clear hK K
              try simp only [Act.put, List.getElem_toArray, List.getElem_cons_succ, List.getElem_cons_zero, List.setIfInBounds_toArray, List.set_cons_zero, List.set_cons_succ]
              refine wpAnyH_take (i := 8) (v := .agg #[.int .i64 (5), .int .i64 v1, .int .i64 v2, .int .i64 (0), .int .i64 (0)]) rfl (by kernel_rfl) (by kernel_rfl) (by kernel_rfl) (fun _ _ _ h => h) (yieldsIf_build (by rfl) _ _ rfl #[(0, .int .i64 5), (1, .int .i64 v1), (2, .int .i64 v2)] (by kernel_rfl) _ (fun W => by kernel_rfl)) hHeld ?_
              try simp only [Act.put, List.getElem_toArray, List.getElem_cons_succ, List.getElem_cons_zero, List.setIfInBounds_toArray, List.set_cons_zero, List.set_cons_succ]
              refine wpAnyH_ready (rs := [9]) (by kernel_rfl) (by simp) ?_
              refine AllReadyH.cons (i := 9) rfl (fun K hK => ?_) AllReadyH.nil
              refine step_store rfl 62 _ _ rfl gZ #[.int .i64 (5), .int .i64 v1, .int .i64 v2, .int .i64 (0), .int .i64 (0)] rfl rfl 62 _ hZd (by kernel_rfl) rfl (by simp [Value.oneCell']) ?_
              intro V2 hZ9 hg9
              refine hK.out _ _ (hHeld.aside2 hZd (ruC_str _) hg9) (fun hHeld => ?_)
              clear hK K
              try simp only [Act.put, List.getElem_toArray, List.getElem_cons_succ, List.getElem_cons_zero, List.setIfInBounds_toArray, List.set_cons_zero, List.set_cons_succ]
              refine wpAnyH_done (by kernel_rfl) ?_ _
              go_wp2
              exact bodyPost_ret (results_cell_row rfl _ _ gZ _ _ (0, 0) _ rfl hZ9 Tryd.underlying62 rfl (by kernel_rfl)) rfl ⟨_, rfl, HF.out, below_grown hbd hg9 hwz (Nat.le_refl _)⟩
            · replace hk5 : (x0.toList == [115, 112, 108, 105, 116]) = false := by simpa using hk5
              by_cases hk6 : (x0.toList == [115, 116, 97, 114, 118, 101]) = true
              · obtain ⟨b9, off9, x1, eA, hb9, hx1, hc9⟩ := r2.get (show 1 < m by omega)
                injection eA with eA
                injection eA with e1 e2
                subst e1
                subst e2
                have y1 := hc9 0 _ rfl
                simp only [eStr, Nat.add_zero, Nat.mul_one] at y1
                have hq1 := padB_get hx1
                have HN1 := hide (fun W => number_c x1 W)
                rw [hq1] at HN1
                obtain ⟨v1, hv1⟩ : ∃ q, q = numV ((wordsL (lst s)).getD 1 []) := ⟨_, rfl⟩
                rw [← hv1] at HN1
                have HV1 := hide hv1
                have HC1 := hide (fun W (h : Rd eStr W W.heap.size (some ⟨b0, off, none⟩) m c2 (padB s)) => rd_str h hx1 (by omega))
                clear hc9 hb9 hx1 hq1 hv1
                obtain ⟨b9, off9, x2, eA, hb9, hx2, hc9⟩ := r2.get (show 2 < m by omega)
                injection eA with eA
                injection eA with e1 e2
                subst e1
                subst e2
                have y2 := hc9 0 _ rfl
                simp only [eStr, Nat.add_zero, Nat.mul_one] at y2
                have hq2 := padB_get hx2
                have HN2 := hide (fun W => number_c x2 W)
                rw [hq2] at HN2
                obtain ⟨v2, hv2⟩ : ∃ q, q = numV ((wordsL (lst s)).getD 2 []) := ⟨_, rfl⟩
                rw [← hv2] at HN2
                have HV2 := hide hv2
                have HC2 := hide (fun W (h : Rd eStr W W.heap.size (some ⟨b0, off, none⟩) m c2 (padB s)) => rd_str h hx2 (by omega))
                clear hc9 hb9 hx2 hq2 hv2
                obtain ⟨b9, off9, x3, eA, hb9, hx3, hc9⟩ := r2.get (show 3 < m by omega)
                injection eA with eA
                injection eA with e1 e2
                subst e1
                subst e2
                have y3 := hc9 0 _ rfl
                simp only [eStr, Nat.add_zero, Nat.mul_one] at y3
                have hq3 := padB_get hx3
                have HN3 := hide (fun W => number_c x3 W)
                rw [hq3] at HN3
                obtain ⟨v3, hv3⟩ : ∃ q, q = numV ((wordsL (lst s)).getD 3 []) := ⟨_, rfl⟩
                rw [← hv3] at HN3
                have HV3 := hide hv3
                have HC3 := hide (fun W (h : Rd eStr W W.heap.size (some ⟨b0, off, none⟩) m c2 (padB s)) => rd_str h hx3 (by omega))
                clear hc9 hb9 hx3 hq3 hv3
                have HF := hide (show SRr (lst s) (⟨6, v1, v2, v3, 0⟩ : Ru) from SRr.form (j := 6) (by omega) (by rw [H0.out]; congr 1; exact kw_of hk6) (by rw [fmRu_6 numV (lst s) _ rfl, ← HV1.out, ← HV2.out, ← HV3.out]))
                go_upto_region 16 with fail
                have hrd := r2.drew
                refine wp_region_held_drew (S := fun W => Rd eStr W W.heap.size (some ⟨b0, off, none⟩) m c2 (padB s)) (by kernel_rfl) hrd (fun hHeld => ?_)
                have hZd := hZ2.drew
                have hbd := below_on hb3 (Below.refl _ w2).drew
                obtain ⟨V0, hV0⟩ : ∃ q, q = w2.drew := ⟨_, rfl⟩
                rw [← hV0] at hHeld hZd hbd ⊢
                clear hV0 hrd
                refine wpAnyH_take (i := 0) (v := .slice (some ⟨b0, off, none⟩) m c2) rfl (by kernel_rfl) (by kernel_rfl) (by kernel_rfl) (fun _ _ _ h => h) (yieldsIf_move (by rfl) _ (Or.inl rfl) _ rfl) hHeld ?_
                try simp only [Act.put, List.getElem_toArray, List.getElem_cons_succ, List.getElem_cons_zero, List.setIfInBounds_toArray, List.set_cons_zero, List.set_cons_succ]
                refine wpAnyH_take (i := 1) (v := .pointer (some ⟨b0, off + 1, none⟩)) rfl (by kernel_rfl) (by kernel_rfl) (by kernel_rfl) (fun _ _ _ h => h) (yieldsIf_indexAddr (by rfl) _ _ _ rfl _ Tryd.underlying71 Tryd.sizeOf9 b0 off m c2 1 _ rfl rfl rfl (by omega)) hHeld ?_
                try simp only [Act.put, List.getElem_toArray, List.getElem_cons_succ, List.getElem_cons_zero, List.setIfInBounds_toArray, List.set_cons_zero, List.set_cons_succ]
                refine wpAnyH_take (i := 2) (v := .string x1) rfl (by kernel_rfl) (by kernel_rfl) (by kernel_rfl) (fun _ _ _ h => h) (yieldsIf_load1 (by rfl) _ _ rfl ⟨b0, off + 1, none⟩ rfl _ Tryd.isAgg9 (fun W hW => HC1.out W hW)) hHeld ?_
                try simp only [Act.put, List.getElem_toArray, List.getElem_cons_succ, List.getElem_cons_zero, List.setIfInBounds_toArray, List.set_cons_zero, List.set_cons_succ]
                refine wpAnyH_take (i := 4) (v := .slice (some ⟨b0, off, none⟩) m c2) rfl (by kernel_rfl) (by kernel_rfl) (by kernel_rfl) (fun _ _ _ h => h) (yieldsIf_move (by rfl) _ (Or.inl rfl) _ rfl) hHeld ?_
                try simp only [Act.put, List.getElem_toArray, List.getElem_cons_succ, List.getElem_cons_zero, List.setIfInBounds_toArray, List.set_cons_zero, List.set_cons_succ]
                refine wpAnyH_take (i := 5) (v := .pointer (some ⟨b0, off + 2, none⟩)) rfl (by kernel_rfl) (by kernel_rfl) (by kernel_rfl) (fun _ _ _ h => h) (yieldsIf_indexAddr (by rfl) _ _ _ rfl _ Tryd.underlying71 Tryd.sizeOf9 b0 off m c2 2 _ rfl rfl rfl (by omega)) hHeld ?_
                try simp only [Act.put, List.getElem_toArray, List.getElem_cons_succ, List.getElem_cons_zero, List.setIfInBounds_toArray, List.set_cons_zero, List.set_cons_succ]
                refine wpAnyH_take (i := 6) (v := .string x2) rfl (by kernel_rfl) (by kernel_rfl) (by kernel_rfl) (fun _ _ _ h => h) (yieldsIf_load1 (by rfl) _ _ rfl ⟨b0, off + 2, none⟩ rfl _ Tryd.isAgg9 (fun W hW => HC2.out W hW)) hHeld ?_
                try simp only [Act.put, List.getElem_toArray, List.getElem_cons_succ, List.getElem_cons_zero, List.setIfInBounds_toArray, List.set_cons_zero, List.set_cons_succ]
                refine wpAnyH_take (i := 8) (v := .slice (some ⟨b0, off, none⟩) m c2) rfl (by kernel_rfl) (by kernel_rfl) (by kernel_rfl) (fun _ _ _ h => h) (yieldsIf_move (by rfl) _ (Or.inl rfl) _ rfl) hHeld ?_
                try simp only [Act.put, List.getElem_toArray, List.getElem_cons_succ, List.getElem_cons_zero, List.setIfInBounds_toArray, List.set_cons_zero, List.set_cons_succ]
                refine wpAnyH_take (i := 9) (v := .pointer (some ⟨b0, off + 3, none⟩)) rfl (by kernel_rfl) (by kernel_rfl) (by kernel_rfl) (fun _ _ _ h => h) (yieldsIf_indexAddr (by rfl) _ _ _ rfl _ Tryd.underlying71 Tryd.sizeOf9 b0 off m c2 3 _ rfl rfl rfl (by omega)) hHeld ?_
                try simp only [Act.put, List.getElem_toArray, List.getElem_cons_succ, List.getElem_cons_zero, List.setIfInBounds_toArray, List.set_cons_zero, List.set_cons_succ]
                refine wpAnyH_take (i := 10) (v := .string x3) rfl (by kernel_rfl) (by kernel_rfl) (by kernel_rfl) (fun _ _ _ h => h) (yieldsIf_load1 (by rfl) _ _ rfl ⟨b0, off + 3, none⟩ rfl _ Tryd.isAgg9 (fun W hW => HC3.out W hW)) hHeld ?_
                try simp only [Act.put, List.getElem_toArray, List.getElem_cons_succ, List.getElem_cons_zero, List.setIfInBounds_toArray, List.set_cons_zero, List.set_cons_succ]
                refine wpAnyH_ready (rs := [3]) (by kernel_rfl) (by simp) ?_
                refine AllReadyH.cons (i := 3) rfl (fun K hK => ?_) AllReadyH.nil
                go_simp
                refine (HN1.out _).mono ?_
                rintro e V9 ⟨rfl, hq9⟩
                rw [hq9]
                clear hq9 V9
                refine hK.out _ _ hHeld (fun hHeld => ?_)
                clear hK K
                try simp only [Act.put, List.getElem_toArray, List.getElem_cons_succ, List.getElem_cons_zero, List.setIfInBounds_toArray, List.set_cons_zero, List.set_cons_succ]
                refine wpAnyH_ready (rs := [7]) (by kernel_rfl) (by simp) ?_
                refine AllReadyH.cons (i := 7) rfl (fun K hK => ?_) AllReadyH.nil
                go_simp
                refine (HN2.out _).mono ?_
                rintro e V9 ⟨rfl, hq9⟩
                rw [hq9]
                clear hq9 V9
                refine hK.out _ _ hHeld (fun hHeld => ?_)
                clear hK K
                try simp only [Act.put, List.getElem_toArray, List.getElem_cons_succ, List.getElem_cons_zero, List.setIfInBounds_toArray, List.set_cons_zero, List.set_cons_succ]
                refine wpAnyH_ready (rs := [11]) (by kernel_rfl) (by simp) ?_
                refine AllReadyH.cons (i := 11) rfl (fun K hK => ?_) AllReadyH.nil
                go_simp
                refine (HN3.out _).mono ?_
                rintro e V9 ⟨rfl, hq9⟩
                rw [hq9]
                clear hq9 V9
                refine hK.out _ _ hHeld (fun hHeld => ?_)
                clear hK K
                try simp only [Act.put, List.getElem_toArray, List.getElem_cons_succ, List.getElem_cons_zero, List.setIfInBounds_toArray, List.set_cons_zero, List.set_cons_succ]
                refine wpAnyH_take (i := 12) (v := .agg #[.int .i64 (6), .int .i64 v1, .int .i64 v2, .int .i64 v3, .int .i64 (0)]) rfl (by kernel_rfl) (by kernel_rfl) (by kernel_rfl) (fun _ _ _ h => h) (yieldsIf_build (by rfl) _ _ rfl #[(0, .int .i64 6), (1, .int .i64 v1), (2, .int .i64 v2), (3, .int .i64 v3)] (by kernel_rfl) _ (fun W => by kernel_rfl)) hHeld ?_
                try simp only [Act.put, List.getElem_toArray, List.getElem_cons_succ, List.getElem_cons_zero, List.setIfInBounds_toArray, List.set_cons_zero, List.set_cons_succ]
                refine wpAnyH_ready (rs := [13]) (by kernel_rfl) (by simp) ?_
                refine AllReadyH.cons (i := 13) rfl (fun K hK => ?_) AllReadyH.nil
                refine step_store rfl 62 _ _ rfl gZ #[.int .i64 (6), .int .i64 v1, .int .i64 v2, .int .i64 v3, .int .i64 (0)] rfl rfl 62 _ hZd (by kernel_rfl) rfl (by simp [Value.oneCell']) ?_
                intro V2 hZ9 hg9
                refine hK.out _ _ (hHeld.aside2 hZd (ruC_str _) hg9) (fun hHeld => ?_)
                clear hK K
                try simp only [Act.put, List.getElem_toArray, List.getElem_cons_succ, List.getElem_cons_zero, List.setIfInBounds_toArray, List.set_cons_zero, List.set_cons_succ]
                refine wpAnyH_done (by kernel_rfl) ?_ _
                go_wp2
                exact bodyPost_ret (results_cell_row rfl _ _ gZ _ _ (0, 0) _ rfl hZ9 Tryd.underlying62 rfl (by kernel_rfl)) rfl ⟨_, rfl, HF.out, below_grown hbd hg9 hwz (Nat.le_refl _)⟩
              · replace hk6 : (x0.toList == [115, 116, 97, 114, 118, 101]) = false := by simpa using hk6
                by_cases hk7 : (x0.toList == [98, 108, 105, 110, 100]) = true
                · obtain ⟨b9, off9, x1, eA, hb9, hx1, hc9⟩ := r2.get (show 1 < m by omega)
                  injection eA with eA
                  injection eA with e1 e2
                  subst e1
                  subst e2
                  have y1 := hc9 0 _ rfl
                  simp only [eStr, Nat.add_zero, Nat.mul_one] at y1
                  have hq1 := padB_get hx1
                  have HN1 := hide (fun W => number_c x1 W)
                  rw [hq1] at HN1
                  obtain ⟨v1, hv1⟩ : ∃ q, q = numV ((wordsL (lst s)).getD 1 []) := ⟨_, rfl⟩
                  rw [← hv1] at HN1
                  have HV1 := hide hv1
                  have HC1 := hide (fun W (h : Rd eStr W W.heap.size (some ⟨b0, off, none⟩) m c2 (padB s)) => rd_str h hx1 (by omega))
                  clear hc9 hb9 hx1 hq1 hv1
                  obtain ⟨b9, off9, x2, eA, hb9, hx2, hc9⟩ := r2.get (show 2 < m by omega)
                  injection eA with eA
                  injection eA with e1 e2
                  subst e1
                  subst e2
                  have y2 := hc9 0 _ rfl
                  simp only [eStr, Nat.add_zero, Nat.mul_one] at y2
                  have hq2 := padB_get hx2
                  have HN2 := hide (fun W => number_c x2 W)
                  rw [hq2] at HN2
                  obtain ⟨v2, hv2⟩ : ∃ q, q = numV ((wordsL (lst s)).getD 2 []) := ⟨_, rfl⟩
                  rw [← hv2] at HN2
                  have HV2 := hide hv2
                  have HC2 := hide (fun W (h : Rd eStr W W.heap.size (some ⟨b0, off, none⟩) m c2 (padB s)) => rd_str h hx2 (by omega))
                  clear hc9 hb9 hx2 hq2 hv2
                  obtain ⟨b9, off9, x3, eA, hb9, hx3, hc9⟩ := r2.get (show 3 < m by omega)
                  injection eA with eA
                  injection eA with e1 e2
                  subst e1
                  subst e2
                  have y3 := hc9 0 _ rfl
                  simp only [eStr, Nat.add_zero, Nat.mul_one] at y3
                  have hq3 := padB_get hx3
                  have HN3 := hide (fun W => number_c x3 W)
                  rw [hq3] at HN3
                  obtain ⟨v3, hv3⟩ : ∃ q, q = numV ((wordsL (lst s)).getD 3 []) := ⟨_, rfl⟩
                  rw [← hv3] at HN3
                  have HV3 := hide hv3
                  have HC3 := hide (fun W (h : Rd eStr W W.heap.size (some ⟨b0, off, none⟩) m c2 (padB s)) => rd_str h hx3 (by omega))
                  clear hc9 hb9 hx3 hq3 hv3
                  obtain ⟨b9, off9, x4, eA, hb9, hx4, hc9⟩ := r2.get (show 4 < m by omega)
                  injection eA with eA
                  injection eA with e1 e2
                  subst e1
                  subst e2
                  have y4 := hc9 0 _ rfl
                  simp only [eStr, Nat.add_zero, Nat.mul_one] at y4
                  have hq4 := padB_get hx4
                  have HN4 := hide (fun W => number_c x4 W)
                  rw [hq4] at HN4
                  obtain ⟨v4, hv4⟩ : ∃ q, q = numV ((wordsL (lst s)).getD 4 []) := ⟨_, rfl⟩
                  rw [← hv4] at HN4
                  have HV4 := hide hv4
                  have HC4 := hide (fun W (h : Rd eStr W W.heap.size (some ⟨b0, off, none⟩) m c2 (padB s)) => rd_str h hx4 (by omega))
                  clear hc9 hb9 hx4 hq4 hv4
                  have HF := hide (show SRr (lst s) (⟨7, v1, v2, v3, v4⟩ : Ru) from SRr.form (j := 7) (by omega) (by rw [H0.out]; congr 1; exact kw_of hk7) (by rw [fmRu_7 numV (lst s) _ rfl, ← HV1.out, ← HV2.out, ← HV3.out, ← HV4.out]))
                  go_upto_region 18 with fail
                  have hrd := r2.drew
                  refine wp_region_held_drew (S := fun W => Rd eStr W W.heap.size (some ⟨b0, off, none⟩) m c2 (padB s)) (by kernel_rfl) hrd (fun hHeld => ?_)
                  have hZd := hZ2.drew
                  have hbd := below_on hb3 (Below.refl _ w2).drew
                  obtain ⟨V0, hV0⟩ : ∃ q, q = w2.drew := ⟨_, rfl⟩
                  rw [← hV0] at hHeld hZd hbd ⊢
                  clear hV0 hrd
                  refine wpAnyH_take (i := 0) (v := .slice (some ⟨b0, off, none⟩) m c2) rfl (by kernel_rfl) (by kernel_rfl) (by kernel_rfl) (fun _ _ _ h => h) (yieldsIf_move (by rfl) _ (Or.inl rfl) _ rfl) hHeld ?_
                  try simp only [Act.put, List.getElem_toArray, List.getElem_cons_succ, List.getElem_cons_zero, List.setIfInBounds_toArray, List.set_cons_zero, List.set_cons_succ]
                  refine wpAnyH_take (i := 1) (v := .pointer (some ⟨b0, off + 1, none⟩)) rfl (by kernel_rfl) (by kernel_rfl) (by kernel_rfl) (fun _ _ _ h => h) (yieldsIf_indexAddr (by rfl) _ _ _ rfl _ Tryd.underlying71 Tryd.sizeOf9 b0 off m c2 1 _ rfl rfl rfl (by omega)) hHeld ?_
                  try simp only [Act.put, List.getElem_toArray, List.getElem_cons_succ, List.getElem_cons_zero, List.setIfInBounds_toArray, List.set_cons_zero, List.set_cons_succ]
                  refine wpAnyH_take (i := 2) (v := .string x1) rfl (by kernel_rfl) (by kernel_rfl) (by kernel_rfl) (fun _ _ _ h => h) (yieldsIf_load1 (by rfl) _ _ rfl ⟨b0, off + 1, none⟩ rfl _ Tryd.isAgg9 (fun W hW => HC1.out W hW)) hHeld ?_
                  try simp only [Act.put, List.getElem_toArray, List.getElem_cons_succ, List.getElem_cons_zero, List.setIfInBounds_toArray, List.set_cons_zero, List.set_cons_succ]
                  refine wpAnyH_take (i := 4) (v := .slice (some ⟨b0, off, none⟩) m c2) rfl (by kernel_rfl) (by kernel_rfl) (by kernel_rfl) (fun _ _ _ h => h) (yieldsIf_move (by rfl) _ (Or.inl rfl) _ rfl) hHeld ?_
                  try simp only [Act.put, List.getElem_toArray, List.getElem_cons_succ, List.getElem_cons_zero, List.setIfInBounds_toArray, List.set_cons_zero, List.set_cons_succ]
                  refine wpAnyH_take (i := 5) (v := .pointer (some ⟨b0, off + 2, none⟩)) rfl (by kernel_rfl) (by kernel_rfl) (by kernel_rfl) (fun _ _ _ h => h) (yieldsIf_indexAddr (by rfl) _ _ _ rfl _ Tryd.underlying71 Tryd.sizeOf9 b0 off m c2 2 _ rfl rfl rfl (by omega)) hHeld ?_
                  try simp only [Act.put, List.getElem_toArray, List.getElem_cons_succ, List.getElem_cons_zero, List.setIfInBounds_toArray, List.set_cons_zero, List.set_cons_succ]
                  refine wpAnyH_take (i := 6) (v := .string x2) rfl (by kernel_rfl) (by kernel_rfl) (by kernel_rfl) (fun _ _ _ h => h) (yieldsIf_load1 (by rfl) _ _ rfl ⟨b0, off + 2, none⟩ rfl _ Tryd.isAgg9 (fun W hW => HC2.out W hW)) hHeld ?_
                  try simp only [Act.put, List.getElem_toArray, List.getElem_cons_succ, List.getElem_cons_zero, List.setIfInBounds_toArray, List.set_cons_zero, List.set_cons_succ]
                  refine wpAnyH_take (i := 8) (v := .slice (some ⟨b0, off, none⟩) m c2) rfl (by kernel_rfl) (by kernel_rfl) (by kernel_rfl) (fun _ _ _ h => h) (yieldsIf_move (by rfl) _ (Or.inl rfl) _ rfl) hHeld ?_
                  try simp only [Act.put, List.getElem_toArray, List.getElem_cons_succ, List.getElem_cons_zero, List.setIfInBounds_toArray, List.set_cons_zero, List.set_cons_succ]
                  refine wpAnyH_take (i := 9) (v := .pointer (some ⟨b0, off + 3, none⟩)) rfl (by kernel_rfl) (by kernel_rfl) (by kernel_rfl) (fun _ _ _ h => h) (yieldsIf_indexAddr (by rfl) _ _ _ rfl _ Tryd.underlying71 Tryd.sizeOf9 b0 off m c2 3 _ rfl rfl rfl (by omega)) hHeld ?_
                  try simp only [Act.put, List.getElem_toArray, List.getElem_cons_succ, List.getElem_cons_zero, List.setIfInBounds_toArray, List.set_cons_zero, List.set_cons_succ]
                  refine wpAnyH_take (i := 10) (v := .string x3) rfl (by kernel_rfl) (by kernel_rfl) (by kernel_rfl) (fun _ _ _ h => h) (yieldsIf_load1 (by rfl) _ _ rfl ⟨b0, off + 3, none⟩ rfl _ Tryd.isAgg9 (fun W hW => HC3.out W hW)) hHeld ?_
                  try simp only [Act.put, List.getElem_toArray, List.getElem_cons_succ, List.getElem_cons_zero, List.setIfInBounds_toArray, List.set_cons_zero, List.set_cons_succ]
                  refine wpAnyH_take (i := 12) (v := .slice (some ⟨b0, off, none⟩) m c2) rfl (by kernel_rfl) (by kernel_rfl) (by kernel_rfl) (fun _ _ _ h => h) (yieldsIf_move (by rfl) _ (Or.inl rfl) _ rfl) hHeld ?_
                  try simp only [Act.put, List.getElem_toArray, List.getElem_cons_succ, List.getElem_cons_zero, List.setIfInBounds_toArray, List.set_cons_zero, List.set_cons_succ]
                  refine wpAnyH_take (i := 13) (v := .pointer (some ⟨b0, off + 4, none⟩)) rfl (by kernel_rfl) (by kernel_rfl) (by kernel_rfl) (fun _ _ _ h => h) (yieldsIf_indexAddr (by rfl) _ _ _ rfl _ Tryd.underlying71 Tryd.sizeOf9 b0 off m c2 4 _ rfl rfl rfl (by omega)) hHeld ?_
                  try simp only [Act.put, List.getElem_toArray, List.getElem_cons_succ, List.getElem_cons_zero, List.setIfInBounds_toArray, List.set_cons_zero, List.set_cons_succ]
                  refine wpAnyH_take (i := 14) (v := .string x4) rfl (by kernel_rfl) (by kernel_rfl) (by kernel_rfl) (fun _ _ _ h => h) (yieldsIf_load1 (by rfl) _ _ rfl ⟨b0, off + 4, none⟩ rfl _ Tryd.isAgg9 (fun W hW => HC4.out W hW)) hHeld ?_
                  try simp only [Act.put, List.getElem_toArray, List.getElem_cons_succ, List.getElem_cons_zero, List.setIfInBounds_toArray, List.set_cons_zero, List.set_cons_succ]
                  refine wpAnyH_ready (rs := [3]) (by kernel_rfl) (by simp) ?_
                  refine AllReadyH.cons (i := 3) rfl (fun K hK => ?_) AllReadyH.nil
                  go_simp
                  refine (HN1.out _).mono ?_
                  rintro e V9 ⟨rfl, hq9⟩
                  rw [hq9]
                  clear hq9 V9
                  refine hK.out _ _ hHeld (fun hHeld => ?_)
                  clear hK K
                  try simp only [Act.put, List.getElem_toArray, List.getElem_cons_succ, List.getElem_cons_zero, List.setIfInBounds_toArray, List.set_cons_zero, List.set_cons_succ]
                  refine wpAnyH_ready (rs := [7]) (by kernel_rfl) (by simp) ?_
                  refine AllReadyH.cons (i := 7) rfl (fun K hK => ?_) AllReadyH.nil
                  go_simp
                  refine (HN2.out _).mono ?_
                  rintro e V9 ⟨rfl, hq9⟩
                  rw [hq9]
                  clear hq9 V9
                  refine hK.out _ _ hHeld (fun hHeld => ?_)
                  clear hK K
                  try simp only [Act.put, List.getElem_toArray, List.getElem_cons_succ, List.getElem_cons_zero, List.setIfInBounds_toArray, List.set_cons_zero, List.set_cons_succ]
                  refine wpAnyH_ready (rs := [11]) (by kernel_rfl) (by simp) ?_
                  refine AllReadyH.cons (i := 11) rfl (fun K hK => ?_) AllReadyH.nil
                  go_simp
                  refine (HN3.out _).mono ?_
                  rintro e V9 ⟨rfl, hq9⟩
                  rw [hq9]
                  clear hq9 V9
                  refine hK.out _ _ hHeld (fun hHeld => ?_)
                  clear hK K
                  try simp only [Act.put, List.getElem_toArray, List.getElem_cons_succ, List.getElem_cons_zero, List.setIfInBounds_toArray, List.set_cons_zero, List.set_cons_succ]
                  refine wpAnyH_ready (rs := [15]) (by kernel_rfl) (by simp) ?_
                  refine AllReadyH.cons (i := 15) rfl (fun K hK => ?_) AllReadyH.nil
                  go_simp
                  refine (HN4.out _).mono ?_
                  rintro e V9 ⟨rfl, hq9⟩
                  rw [hq9]
                  clear hq9 V9
                  refine hK.out _ _ hHeld (fun hHeld => ?_)
                  clear hK K
                  try simp only [Act.put, List.getElem_toArray, List.getElem_cons_succ, List.getElem_cons_zero, List.setIfInBounds_toArray, List.set_cons_zero, List.set_cons_succ]
                  refine wpAnyH_take (i := 16) (v := .agg #[.int .i64 (7), .int .i64 v1, .int .i64 v2, .int .i64 v3, .int .i64 v4]) rfl (by kernel_rfl) (by kernel_rfl) (by kernel_rfl) (fun _ _ _ h => h) (yieldsIf_build (by rfl) _ _ rfl #[(0, .int .i64 7), (1, .int .i64 v1), (2, .int .i64 v2), (3, .int .i64 v3), (4, .int .i64 v4)] (by kernel_rfl) _ (fun W => by kernel_rfl)) hHeld ?_
                  try simp only [Act.put, List.getElem_toArray, List.getElem_cons_succ, List.getElem_cons_zero, List.setIfInBounds_toArray, List.set_cons_zero, List.set_cons_succ]
                  refine wpAnyH_ready (rs := [17]) (by kernel_rfl) (by simp) ?_
                  refine AllReadyH.cons (i := 17) rfl (fun K hK => ?_) AllReadyH.nil
                  refine step_store rfl 62 _ _ rfl gZ #[.int .i64 (7), .int .i64 v1, .int .i64 v2, .int .i64 v3, .int .i64 v4] rfl rfl 62 _ hZd (by kernel_rfl) rfl (by simp [Value.oneCell']) ?_
                  intro V2 hZ9 hg9
                  refine hK.out _ _ (hHeld.aside2 hZd (ruC_str _) hg9) (fun hHeld => ?_)
                  clear hK K
                  try simp only [Act.put, List.getElem_toArray, List.getElem_cons_succ, List.getElem_cons_zero, List.setIfInBounds_toArray, List.set_cons_zero, List.set_cons_succ]
                  refine wpAnyH_done (by kernel_rfl) ?_ _
                  go_wp2
                  exact bodyPost_ret (results_cell_row rfl _ _ gZ _ _ (0, 0) _ rfl hZ9 Tryd.underlying62 rfl (by kernel_rfl)) rfl ⟨_, rfl, HF.out, below_grown hbd hg9 hwz (Nat.le_refl _)⟩
                · replace hk7 : (x0.toList == [98, 108, 105, 110, 100]) = false := by simpa using hk7
                  have HF := hide (show SRr (lst s) (⟨0, 0, 0, 0, 0⟩ : Ru) from SRr.noForm H0.out (fun j hj => by
                    rcases cases8 hj with rfl | rfl | rfl | rfl | rfl | rfl | rfl | rfl
                    · exact kw_not hk0
                    · exact kw_not hk1
                    · exact kw_not hk2
                    · exact kw_not hk3
                    · exact kw_not hk4
                    · exact kw_not hk5
                    · exact kw_not hk6
                    · exact kw_not hk7))
                  go_wp2_with (refine wl_store (o := ⟨none, _, _, _, _, _⟩) rfl 62 _ _ rfl gZ (ruC fun _ => 0) rfl rfl 62 _ hZ2 (by kernel_rfl) rfl (ruC_one _) ?_; intro w9 hZ9 hg9)
                  exact bodyPost_ret (results_cell_row rfl _ _ gZ _ _ (0, 0) _ rfl hZ9 Tryd.underlying62 rfl (by kernel_rfl)) rfl ⟨_, rfl, HF.out, below_grown hb3 hg9 hwz (Nat.le_refl _)⟩
end Go.Proofs.YthdidjnhfkeokaaDoor
