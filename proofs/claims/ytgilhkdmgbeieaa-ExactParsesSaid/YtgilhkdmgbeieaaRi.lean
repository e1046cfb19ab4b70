/- Contracts of the reference's SameFrac and of the law's frac. -/
import Derived.Test.YtgilhkdmgbeieaaRh
namespace Go.Proofs.Ytgilhkdmgbeieaa
open Go.RowKit

set_option maxRecDepth 100000 in
set_option maxHeartbeats 1600000 in
theorem rsameFrac_c (A : Option Addr) (n c : Nat) (l : List Nat) (A' : Option Addr) (n' c' : Nat) (l' : List Nat) (C : Option Addr) (m d : Nat) (k : List Nat) (C' : Option Addr) (m' d' : Nat) (k' : List Nat) (w : World)
    (s1 : Sl w w.heap.size .u32 A n c l) (s2 : Sl w w.heap.size .u32 A' n' c' l') (s3 : Sl w w.heap.size .u32 C m d k) (s4 : Sl w w.heap.size .u32 C' m' d' k') :
    Calls Try.prog 24 #[.agg #[.slice A n c, .slice A' n' c'], .agg #[.slice C m d, .slice C' m' d']] w fun e w' => e = .returned (.bool (decide (l = k ∧ l' = k'))) ∧ Below w.heap.size w w' := by
  have hb := ((Below.refl w.heap.size w).alloc (Nat.le_refl _) (.cells #[.slice A n c, .slice A' n' c'] 25)).alloc (by simp) (.cells #[.slice C m d, .slice C' m' d'] 25)
  have s1' := s1.below hb
  have s2' := s2.below hb
  have s3' := s3.below hb
  have s4' := s4.below hb
  clear s1 s2 s3 s4
  go_enter Try.func24, Try.ntmps24
  go_wp2_with fail
  refine (rsame_c _ _ _ _ _ _ _ _ _ _ s1' s3').mono ?_
  rintro e w' ⟨rfl, q, rfl⟩
  by_cases h : l = k
  · have ht : decide (l = k) = true := by simpa using h
    rw [ht]
    go_wp2_with fail
    refine (rsame_c _ _ _ _ _ _ _ _ _ _ (s2'.drewN q) (s4'.drewN q)).mono ?_
    rintro e w' ⟨rfl, q', rfl⟩
    go_wp2
    go_ret
    exact ⟨by simp [h], below_drewN hb _⟩
  · have ht : decide (l = k) = false := by simpa using h
    rw [ht]
    go_wp2
    go_ret
    exact ⟨by simp [h], below_drewN hb _⟩

set_option maxRecDepth 100000 in
set_option maxHeartbeats 1600000 in
theorem lfrac_c (A : Option Addr) (n c : Nat) (l : List Nat) (A' : Option Addr) (n' c' : Nat) (l' : List Nat) (C : Option Addr) (m d : Nat) (C' : Option Addr) (m' d' : Nat) (err : Int) (w : World)
    (s1 : Sl w w.heap.size .u32 A n c l) (s2 : Sl w w.heap.size .u32 A' n' c' l') (s3 : Sl w w.heap.size .u32 C m d l) (s4 : Sl w w.heap.size .u32 C' m' d' l') :
    Calls Try.prog 19 #[.agg #[.slice A n c, .slice A' n' c'], .int .i64 err, .agg #[.slice C m d, .slice C' m' d'], .int .i64 err] w fun e w' => e = .returned (.bool true) ∧ Below w.heap.size w w' := by
  have hb := ((Below.refl w.heap.size w).alloc (Nat.le_refl _) (.cells #[.slice A n c, .slice A' n' c'] 25)).alloc (by simp) (.cells #[.slice C m d, .slice C' m' d'] 25)
  have s1' := (s1.below hb).mono hb.size
  have s2' := (s2.below hb).mono hb.size
  have s3' := (s3.below hb).mono hb.size
  have s4' := (s4.below hb).mono hb.size
  clear s1 s2 s3 s4
  go_enter Try.func19, Try.ntmps19
  go_wp2_with fail
  refine (rsameFrac_c _ _ _ _ _ _ _ _ _ _ _ _ _ _ _ _ _ s1' s2' s3' s4').mono ?_
  rintro e w' ⟨rfl, hb2⟩
  go_wp2
  go_ret
  exact ⟨by simp, hb.trans (hb2.mono hb.size)⟩
end Go.Proofs.Ytgilhkdmgbeieaa
