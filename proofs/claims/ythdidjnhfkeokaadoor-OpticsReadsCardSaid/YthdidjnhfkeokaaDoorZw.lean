/- The walk of the law OpticsReads. -/
import Derived.Test.YthdidjnhfkeokaaDoorZv
import Derived.Test.YthdidjnhfkeokaaDoorVt
import Derived.Test.YthdidjnhfkeokaaDoorQl
namespace Go.Proofs.YthdidjnhfkeokaaDoor
open Go.RowKit

/-- What Rules returns of a text. -/
def rulesS (s : ByteArray) : List Ru × Int × Int := if s.size ≤ 65536 then rulesG 32 [] (lst s) else ([], 0, 4)
def SRulesS (s : ByteArray) (w : World) (e : Ending) (w' : World) : Prop := ∃ A n c, e = .returned (.tuple #[.slice A n c, .int .i64 (rulesS s).2.1, .int .i64 (rulesS s).2.2]) ∧ Rd eRu w' w'.heap.size A n c (rulesS s).1 ∧ Below w.heap.size w w'
theorem rulesS_long {s : ByteArray} (h : ¬ s.size ≤ 65536) : rulesS s = ([], 0, 4) := if_neg h
theorem rulesS_short {s : ByteArray} (h : s.size ≤ 65536) : rulesS s = rulesG 32 [] (lst s) := if_pos h
theorem rd_none {α : Type} {e : Enc α} {w : World} {B : Nat} : Rd e w B none 0 0 ([] : List α) := ⟨rfl, Nat.le_refl _, by omega, fun h => absurd h (by omega)⟩
set_option maxRecDepth 100000 in
set_option maxHeartbeats 1600000 in
theorem oRules_s (s : ByteArray) (w : World) (hm : Mx w) : Calls Tryd.prog 18 #[.string s] w (SRulesS s w) := by
  by_cases h : s.size ≤ 65536
  · unfold SRulesS
    rw [rulesS_short h]
    exact oRules_c s w hm h
  · have hl : (65536 : Int) < (s.size : Int) := by omega
    unfold SRulesS
    rw [rulesS_long h]
    clear h
    go_enter Tryd.func18, Tryd.ntmps18
    go_wp2
    go_ret3
    exact ⟨none, 0, 0, rfl, rd_none, Below.refl _ _⟩
set_option maxRecDepth 100000 in
set_option maxHeartbeats 1600000 in
theorem rRules_s (s : ByteArray) (w : World) : Calls Tryd.prog 19 #[.string s] w (SRulesS s w) := by
  by_cases h : s.size ≤ 65536
  · unfold SRulesS
    rw [rulesS_short h]
    exact rRules_c s w h
  · have hl : (65536 : Int) < (s.size : Int) := by omega
    unfold SRulesS
    rw [rulesS_long h]
    clear h
    go_enter Tryd.func19, Tryd.ntmps19
    go_wp2
    go_ret3
    exact ⟨none, 0, 0, rfl, rd_none, Below.refl _ _⟩

set_option maxRecDepth 100000 in
set_option maxHeartbeats 3200000 in
theorem reads_c (s : ByteArray) (_hs : s.size ≤ maxLen) (w : World) (ht : Tab w) (hm : Mx w) :
    Calls Tryd.prog 6 #[.string s] w fun e w' => e = .returned (.bool true) ∧ Below w.heap.size w w' := by
  by_cases hlong : 70000 < s.size
  · have hl : (70000 : Int) < (s.size : Int) := by omega
    have HW := hide (works_c w ht)
    clear ht hm
    go_enter Tryd.func6, Tryd.ntmps6
    go_wp2_with (go_at_call 12; refine HW.out.mono ?_; rintro e w1 ⟨rfl, hb1⟩)
    go_ret
    exact ⟨rfl, hb1⟩
  · have hl : ¬ (70000 : Int) < (s.size : Int) := by omega
    have ho := oRules_s s w hm
    have hr := fun W => rRules_s s W
    unfold SRulesS at ho hr
    obtain ⟨X, hX⟩ : ∃ q, q = (rulesS s).2.1 := ⟨_, rfl⟩
    obtain ⟨Y, hY⟩ : ∃ q, q = (rulesS s).2.2 := ⟨_, rfl⟩
    obtain ⟨L, hL⟩ : ∃ q, q = (rulesS s).1 := ⟨_, rfl⟩
    rw [← hX, ← hY, ← hL] at ho
    simp only [← hX, ← hY, ← hL] at hr
    have HO := hide ho
    have HR := hide hr
    have HT := hide ht
    have hxx : (X == X) = true := by simp
    have hyy : (Y == Y) = true := by simp
    clear ho hr ht hm hlong hX hY hL
    go_enter Tryd.func6, Tryd.ntmps6
    go_upto_region 4 with (go_at_call 18; refine HO.out.mono ?_; rintro e w1 ⟨A, n, c, rfl, r1, hb1⟩)
    go_upto_region 5 with (go_at_call 19; refine (HR.out w1).mono ?_; rintro e w2 ⟨A', n', c', rfl, r2, hb2⟩)
    have r3 := r1.on hb2
    have hb3 := below_on hb1 hb2
    have HSR := hide (sameRules_c A A' n c n' c' L w2 r3 r2)
    have HTT := hide (fun W (h : Below w2.heap.size w2 W) => works_c W ((HT.out.on hb3).on h))
    have hnc := r3.cap
    clear r1 r2 r3 hb1 hb2 HO HR
    go_wp2_with (first | (go_at_call 20; refine HSR.out.mono ?_; rintro e w3 ⟨rfl, hb4⟩) | (go_at_call 12; refine (HTT.out w3 hb4).mono ?_; rintro e w5 ⟨rfl, hb5⟩))
    go_ret
    exact ⟨by simp, below_on (below_on hb3 hb4) hb5⟩
end Go.Proofs.YthdidjnhfkeokaaDoor
