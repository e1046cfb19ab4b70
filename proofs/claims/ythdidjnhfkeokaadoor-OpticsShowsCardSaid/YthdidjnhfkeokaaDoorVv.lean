/- Contract of optics.weighed. -/
import Derived.Test.YthdidjnhfkeokaaDoorVa
import Derived.Test.YthdidjnhfkeokaaDoorQq
namespace Go.Proofs.YthdidjnhfkeokaaDoor
open Go.RowKit

theorem sumK_bound {ws : List Int} (hw : ∀ x ∈ ws, 0 ≤ x ∧ x ≤ 256) (i : Nat) : 0 ≤ sumK ws i ∧ sumK ws i ≤ 256 * i := by
  induction i with
  | zero => simp [sumK]
  | succ i ih =>
    cases h : ws[i]? with
    | none =>
      have hl : ws.length ≤ i := by simpa using h
      have e : sumK ws (i + 1) = sumK ws i := by unfold sumK; rw [List.take_of_length_le (by omega), List.take_of_length_le hl]
      rw [e]; omega
    | some x =>
      rw [sumK_succ h]
      have := hw x (List.mem_of_getElem? h)
      omega
/-- The numbers ws lie in block g from 'off' on. -/
def InRow (cs : Array Value) (off : Nat) (ws : List Int) : Prop := ∀ (j : Nat) (x : Int), ws[j]? = some x → cs[off + j]? = some (.int .i64 x)

set_option maxRecDepth 100000 in
set_option maxHeartbeats 3200000 in
theorem weighed_c (D s g off m : Nat) (T : TypeId) (cs : Array Value) (ws : List Int) (w : World) (h : Dr w D s) (b : Blk w g T cs) (hgD : g ≠ D) (hr : InRow cs off ws) (hl : ws.length = m) (hm : m ≤ 4) (hm0 : 0 < m) (hw : ∀ x ∈ ws, 0 ≤ x ∧ x ≤ 256) :
    Calls Tryd.prog 114 #[.pointer (some ⟨D, 0, none⟩), .slice (some ⟨g, off, none⟩) m m] w fun e w' => e = .returned (.int .i64 (wgt ws (bel s 256) : Nat)) ∧ Dr w' D (nx s) ∧ w.grownBy w' (some D) := by
  have hbl := bel_lt s 256 (by omega)
  have hc := below_c D s 256 w h (by omega) (by omega)
  obtain ⟨q, hq⟩ : ∃ q : Int, q = (bel s 256 : Int) := ⟨_, rfl⟩
  rw [← hq] at hc
  have hq0 : 0 ≤ q := by omega
  have hq1 : q ≤ 255 := by omega
  have HQ := hide hq
  have HC := hide hc
  have HL := hide hl
  clear hc hq hbl hl
  go_enter Tryd.func114, Tryd.ntmps114
  go_wp2_with (go_at_call 102; refine HC.out.mono ?_; rintro e w1 ⟨rfl, hD1, hg1⟩)
  have b1 := b.grown hg1 (by simpa using hgD)
  go_loop [5, 12] (fun kv iv => ∃ i : Nat, i ≤ m ∧ iv = .int .i64 i ∧ kv = .int .i64 (q - sumK ws i) ∧ ∀ j, j < i → ¬ q < sumK ws (j + 1)) (fun _ iv => m - (intOf iv).toNat)
  case atStart => exact ⟨0, by omega, rfl, by simp [sumK], fun j hj => by omega⟩
  case round =>
    obtain ⟨i, hi, rfl, rfl, hno⟩ := hrel
    have HNO := hide hno
    clear hno
    by_cases hlt : i < m
    · obtain ⟨x, hx⟩ : ∃ x, ws[i]? = some x := ⟨_, List.getElem?_eq_getElem (by rw [HL.out]; exact hlt)⟩
      have c0 := (b1.cell (off + i)).trans (hr i x hx)
      have hxb := hw x (List.mem_of_getElem? hx)
      have hsb := sumK_bound hw i
      have HS := hide (sumK_succ hx)
      obtain ⟨y, hy⟩ : ∃ y, q - sumK ws i = y := ⟨_, rfl⟩
      rw [hy]
      have hy0 : -1024 ≤ y := by omega
      have hy1 : y ≤ 255 := by omega
      have hx0 := hxb.1
      have hx1 := hxb.2
      have HY := hide hy
      clear hx hxb hsb hy
      by_cases hk : y < x
      · have HR := hide (show wgt ws q = i from wgt_at (by rw [HL.out]; exact hlt) HNO.out (by have := HS.out; have := HY.out; omega))
        go_wp2
        go_ret
        exact ⟨by rw [← HQ.out, HR.out]; rfl, hD1, hg1⟩
      · have HN2 := hide (show ∀ j, j < i + 1 → ¬ q < sumK ws (j + 1) from fun j hj => by
          by_cases e : j = i
          · subst e; have := HS.out; have := HY.out; omega
          · exact HNO.out j (by omega))
        go_wp2
        go_round
        case rel => exact ⟨i + 1, by omega, by go_num, by rw [HS.out]; have := HY.out; rw [show q - (sumK ws i + x) = y - x by omega], HN2.out⟩
        case measure => simp [intOf] <;> omega
    · obtain rfl : i = m := by omega
      have HR := hide (show wgt ws q = i - 1 by rw [wgt_none (fun j hj => HNO.out j (by rw [HL.out] at hj; exact hj)), HL.out])
      have hm1 : (1 : Int) ≤ (i : Int) := by omega
      go_wp2
      go_ret
      exact ⟨by rw [← HQ.out, HR.out]; go_num, hD1, hg1⟩
end Go.Proofs.YthdidjnhfkeokaaDoor
