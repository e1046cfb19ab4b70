/- Contracts of the law's Plain and works. -/
import Derived.Test.YthdidjnhfkeokaaDoorQk
namespace Go.Proofs.YthdidjnhfkeokaaDoor
open Go.RowKit

/-- The numbers of Plain's arrangement. -/
def plainF (eta dark : Int) : Nat → Int := fun j => if j = 3 then 256 else if j = 4 then 256 else if j = 8 then 256 else if j = 13 then 256 else if j = 16 then eta else if j = 17 then dark else 0
theorem cells18_plain (eta dark : Int) : cells18 (plainF eta dark) = #[.int .i64 0, .int .i64 0, .int .i64 0, .int .i64 256, .int .i64 256, .int .i64 0, .int .i64 0, .int .i64 0, .int .i64 256, .int .i64 0, .int .i64 0, .int .i64 0, .int .i64 0, .int .i64 256, .int .i64 0, .int .i64 0, .int .i64 eta, .int .i64 dark] := rfl
theorem plain_ok : okO (plainF 256 0) = true := by decide

set_option maxRecDepth 100000 in
set_option maxHeartbeats 1600000 in
theorem plain_c (eta dark : Int) (w : World) : Calls Tryd.prog 42 #[.int .i64 eta, .int .i64 dark] w fun e w' => e = .returned (.agg (cells18 (plainF eta dark))) ∧ Below w.heap.size w w' := by
  have hO := Blk.newAt w 26 (cells18 fun _ => 0) w.heap.size rfl
  rw [cells18_plain]
  go_enter Tryd.func42, Tryd.ntmps42
  go_wp2_with (refine wl_store (o := ⟨none, _, _, _, _, _⟩) rfl 26 _ _ rfl w.heap.size (cells18 (plainF eta dark)) rfl rfl 26 (cells18 fun _ => 0) hO (by kernel_rfl) rfl (cells18_one _) ?_; intro w2 hO2 hg2)
  exact bodyPost_ret (results_cell_row rfl _ _ w.heap.size _ _ (0, 0) _ rfl hO2 Tryd.underlying26 rfl (by kernel_rfl)) rfl ⟨rfl, below_grown (below_alloc w _) hg2 (Nat.le_refl _) (Nat.le_refl _)⟩

theorem text_plain : textB (plainF 256 0) = ⟨#[112, 114, 101, 112, 97, 114, 101, 32, 48, 32, 48, 32, 50, 53, 54, 32, 50, 53, 54, 32, 48, 32, 48, 32, 48, 32, 50, 53, 54, 32, 48, 32, 48, 32, 48, 32, 48, 32, 50, 53, 54, 32, 48, 32, 48, 32, 50, 53, 54, 32, 48]⟩ := by
  have h0 : itoaB 0 = ⟨#[48]⟩ := by simp [itoaB, Lib.itoa, Lib.decDigits]
  have h256 : itoaB 256 = ⟨#[50, 53, 54]⟩ := by simp [itoaB, Lib.itoa, Lib.decDigits]
  have hw : words18 (plainF 256 0) 17 = [kw 0, itoaB 0, itoaB 0, itoaB 256, itoaB 256, itoaB 0, itoaB 0, itoaB 0, itoaB 256, itoaB 0, itoaB 0, itoaB 0, itoaB 0, itoaB 256, itoaB 0, itoaB 0, itoaB 256, itoaB 0] := rfl
  unfold textB
  rw [hw, h0, h256]
  rfl

set_option maxRecDepth 100000 in
set_option maxHeartbeats 1600000 in
theorem works_c (w : World) (ht : Tab w) : Calls Tryd.prog 12 #[] w fun e w' => e = .returned (.bool true) ∧ Below w.heap.size w w' := by
  have heq : ((⟨#[112, 114, 101, 112, 97, 114, 101, 32, 48, 32, 48, 32, 50, 53, 54, 32, 50, 53, 54, 32, 48, 32, 48, 32, 48, 32, 50, 53, 54, 32, 48, 32, 48, 32, 48, 32, 48, 32, 50, 53, 54, 32, 48, 32, 48, 32, 50, 53, 54, 32, 48]⟩ : ByteArray).toList == (⟨#[112, 114, 101, 112, 97, 114, 101, 32, 48, 32, 48, 32, 50, 53, 54, 32, 50, 53, 54, 32, 48, 32, 48, 32, 48, 32, 50, 53, 54, 32, 48, 32, 48, 32, 48, 32, 48, 32, 50, 53, 54, 32, 48, 32, 48, 32, 50, 53, 54, 32, 48]⟩ : ByteArray).toList) = true := by simp
  go_enter Tryd.func12, Tryd.ntmps12
  go_wp2_with fail
  refine (plain_c 256 0 w).mono ?_
  rintro e w1 ⟨rfl, hb1⟩
  go_wp2_with fail
  have htx := text_c (plainF 256 0) w1 (ht.on hb1)
  unfold STextO at htx
  rw [if_pos plain_ok, text_plain, show checkErr (plainF 256 0) = 0 by unfold checkErr; rw [if_pos plain_ok]] at htx
  refine htx.mono ?_
  rintro e w2 ⟨rfl, hb2⟩
  clear htx
  go_wp2
  go_ret
  exact ⟨by simp, below_on hb1 hb2⟩
end Go.Proofs.YthdidjnhfkeokaaDoor
