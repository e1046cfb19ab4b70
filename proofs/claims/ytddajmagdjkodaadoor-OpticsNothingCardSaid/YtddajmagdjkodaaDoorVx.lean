/- Contract of the reference's weighed. -/
import Derived.Test.YtddajmagdjkodaaDoorVw
import Derived.Test.YtddajmagdjkodaaDoorQr
namespace Go.Proofs.YtddajmagdjkodaaDoor
open Go.RowKit

set_option maxRecDepth 100000 in
set_option maxHeartbeats 3200000 in
theorem rweighed_c (D s g off m : Nat) (T : TypeId) (cs : Array Value) (ws : List Int) (w : World) (h : Rr w D s) (b : Blk w g T cs) (hgD : g ≠ D) (hr : InRow cs off ws) (hl : ws.length = m) (hm : m ≤ 4) (hm0 : 0 < m) (hw : ∀ x ∈ ws, 0 ≤ x ∧ x ≤ 256) :
    Calls Tryd.prog 71 #[.pointer (some ⟨D, 0, none⟩), .slice (some ⟨g, off, none⟩) m m] w fun e w' => e = .returned (.int .i64 (wgt ws (bel s 256) : Nat)) ∧ Rr w' D (nx s) ∧ w.grownBy w' (some D) := by
  have hbl := bel_lt s 256 (by omega)
  have hc := rbelow_c D s 256 w h (by omega) (by omega)
  obtain ⟨q, hq⟩ : ∃ q : Int, q = (bel s 256 : Int) := ⟨_, rfl⟩
  rw [← hq] at hc
  have hq0 : 0 ≤ q := by omega
  have hq1 : q ≤ 255 := by omega
  have HQ := hide hq
  have HC := hide hc
  have HL := hide hl
  clear hc hq hbl hl
  go_enter Tryd.func71, Tryd.ntmps71
  go_wp2_with (go_at_call 70; refine HC.out.mono ?_; rintro e w1 ⟨rfl, hD1, hg1⟩)
  have b1 := b.grown hg1 (by simpa using hgD)
  go_loop [6, 7] (fun sv iv => ∃ i : Nat, i ≤ m ∧ iv = .int .i64 i ∧ sv = .int .i64 (sumK ws i) ∧ ∀ j, j < i → ¬ q < sumK ws (j + 1)) (fun _ iv => m - (intOf iv).toNat)
  case atStart => exact ⟨0, by omega, rfl, by simp [sumK], fun j hj => by omega⟩
  case round =>
    obtain ⟨i, hi, rfl, rfl, hno⟩ := hrel
    have HNO := hide hno
    clear hno
    by_cases hlt : i < m
    · obtain ⟨x, hx⟩ : ∃ x, ws[i]? = some x := ⟨_, List.getElem?_eq_getElem (by rw [HL.out]; exact hlt)⟩
      have c0 := (b1.cell (off + i)).trans (hr i x hx)
      have hxb := hw x (List.mem_of_getElem? hx)
      have hsb := sumK_bound hw i
      have HS := hide (sumK_succ hx)
      obtain ⟨y, hy⟩ : ∃ y, sumK ws i = y := ⟨_, rfl⟩
      rw [hy] at hsb HS ⊢
      have hy0 : 0 ≤ y := hsb.1
      have hy1 : y ≤ 1024 := by omega
      have hx0 := hxb.1
      have hx1 := hxb.2
      clear hx hxb hsb hy
      by_cases hk : q < y + x
      · have HR := hide (show wgt ws q = i from wgt_at (by rw [HL.out]; exact hlt) HNO.out (by have := HS.out; omega))
        go_wp2
        go_ret
        exact ⟨by rw [← HQ.out, HR.out]; rfl, hD1, hg1⟩
      · have HN2 := hide (show ∀ j, j < i + 1 → ¬ q < sumK ws (j + 1) from fun j hj => by
          by_cases e : j = i
          · subst e; have := HS.out; omega
          · exact HNO.out j (by omega))
        go_wp2
        go_round
        case rel => exact ⟨i + 1, by omega, by go_num, by rw [HS.out], HN2.out⟩
        case measure => simp [intOf] <;> omega
    · obtain rfl : i = m := by omega
      have HR := hide (show wgt ws q = i - 1 by rw [wgt_none (fun j hj => HNO.out j (by rw [HL.out] at hj; exact hj)), HL.out])
      have hm1 : (1 : Int) ≤ (i : Int) := by omega
      go_wp2
      go_ret
      exact ⟨by rw [← HQ.out, HR.out]; go_num, hD1, hg1⟩
end Go.Proofs.YtddajmagdjkodaaDoor
