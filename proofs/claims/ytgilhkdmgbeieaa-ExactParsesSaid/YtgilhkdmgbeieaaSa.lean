/- Contracts of the reference's Check, both, CheckFrac. -/
import Derived.Test.YtgilhkdmgbeieaaOb
import Derived.Test.YtgilhkdmgbeieaaNa
namespace Go.Proofs.Ytgilhkdmgbeieaa
open Go.RowKit

theorem Blk.cells2 {w : World} {g : Nat} {t : TypeId} {x y : Value} (h : Blk w g t #[x, y]) : w.cell? ⟨g, 0, none⟩ = some x ∧ w.cell? ⟨g, 1, none⟩ = some y := by
  have h0 := h.cell 0
  have h1 := h.cell 1
  simp at h0 h1
  exact ⟨h0, h1⟩

theorem two_allocs (w : World) (F : TypeId) (x y u v : Value) : ∃ w3 : World, (w.alloc (.cells #[x, y] F)).alloc (.cells #[u, v] F) = w3 ∧
    Blk w3 w.heap.size F #[x, y] ∧ Blk w3 (w.heap.size + 1) F #[u, v] ∧ Below w.heap.size w w3 ∧ w3.heap.size = w.heap.size + 1 + 1 := by
  refine ⟨_, rfl, (Blk.new w F #[x, y]).alloc _, ?_, ?_, by simp⟩
  · have h := Blk.new (w.alloc (.cells #[x, y] F)) F #[u, v]
    simpa using h
  · exact ((Below.refl _ _).alloc (Nat.le_refl _) _).alloc (by simp) _

theorem far2 {w : World} {p : Addr} {v : Value} {R : Nat} (h : w.cell? p = some v) (hp : p.block ≠ R) (a b : Value) : ((w.setCell ⟨R, 0, none⟩ a).setCell ⟨R, 1, none⟩ b).cell? p = some v := by
  rw [World.cell?_setCell_other _ _ _ _ (fun e => hp (congrArg Addr.block e).symm), World.cell?_setCell_other _ _ _ _ (fun e => hp (congrArg Addr.block e).symm)]
  exact h

set_option maxHeartbeats 400000 in
theorem rcheck1_c (A : Option Addr) (n c : Nat) (w : World) (hn : n ≤ 9223372036854775807) :
    Calls Try.prog 60 #[.slice A n c] w fun e w' => e = .returned (.int .i64 (if n ≤ 64 then 0 else 4)) ∧ w = w' := by
  by_cases h64 : n ≤ 64
  · rw [if_pos h64]
    go_enter Try.func60, Try.ntmps60
    go_wp2
    go_ret
    exact ⟨rfl, rfl⟩
  · rw [if_neg h64]
    go_enter Try.func60, Try.ntmps60
    go_wp2
    go_ret
    exact ⟨rfl, rfl⟩

set_option maxHeartbeats 400000 in
theorem rboth_c (A : Option Addr) (n c : Nat) (A' : Option Addr) (n' c' : Nat) (w : World) (hn : n ≤ 9223372036854775807) (hn' : n' ≤ 9223372036854775807) :
    Calls Try.prog 94 #[.slice A n c, .slice A' n' c'] w fun e w' => e = .returned (.int .i64 (if n ≤ 64 ∧ n' ≤ 64 then 0 else 4)) ∧ w = w' := by
  have h1 := rcheck1_c A n c w hn
  have h2 := rcheck1_c A' n' c' w hn'
  by_cases h : n ≤ 64
  · by_cases h' : n' ≤ 64
    all_goals
      simp only [h, h', if_true, if_false, and_self, and_false] at h1 h2 ⊢
      go_enter Try.func94, Try.ntmps94
      go_wp2_with fail
      refine h1.mono ?_
      rintro e w' ⟨rfl, rfl⟩
      go_wp2_with fail
      refine h2.mono ?_
      rintro e w' ⟨rfl, rfl⟩
      clear h1 h2
      go_wp2
      go_ret
      exact ⟨rfl, rfl⟩
  · simp only [h, if_false, false_and] at h1 ⊢
    go_enter Try.func94, Try.ntmps94
    go_wp2_with fail
    refine h1.mono ?_
    rintro e w' ⟨rfl, rfl⟩
    clear h1 h2
    go_wp2
    go_ret
    exact ⟨rfl, rfl⟩

theorem errV_long {f : FA} (h : ¬ (f.n ≤ 64 ∧ f.n' ≤ 64)) : errV [f] = 4 := by
  unfold errV
  rw [if_pos (by simp [FA.long]; omega)]
theorem errV_zero {f : FA} (h : f.n ≤ 64 ∧ f.n' ≤ 64) (h0 : val 4294967296 f.l' = 0) : errV [f] = 7 := by
  unfold errV
  rw [if_neg (by simp [FA.long]; omega), if_pos (by simp [FA.zero]; exact h0)]
theorem errV_good {f : FA} (h : f.n ≤ 64 ∧ f.n' ≤ 64) (h0 : val 4294967296 f.l' ≠ 0) : errV [f] = 0 := by
  unfold errV
  rw [if_neg (by simp [FA.long]; omega), if_neg (by simp [FA.zero]; exact h0)]

set_option maxRecDepth 100000 in
set_option maxHeartbeats 800000 in
theorem rcheckfrac_c (f : FA) (w : World) (B : Nat) (hf : f.Rd w B) (hB : B ≤ w.heap.size) :
    Calls Try.prog 38 #[.agg #[.slice f.A f.n f.c, .slice f.A' f.n' f.c']] w fun e w' => e = .returned (.int .i64 (errV [f])) ∧ Below w.heap.size w w' := by
  have hb := (Below.refl w.heap.size w).alloc (Nat.le_refl _) (.cells #[.slice f.A f.n f.c, .slice f.A' f.n' f.c'] 25)
  obtain ⟨c0, c1⟩ := (Blk.new w 25 #[.slice f.A f.n f.c, .slice f.A' f.n' f.c']).cells2
  have hg : w.heap.size < (w.alloc (.cells #[.slice f.A f.n f.c, .slice f.A' f.n' f.c'] 25)).heap.size := by simp
  obtain ⟨er, her⟩ : ∃ er, errV [f] = er := ⟨_, rfl⟩
  rw [her]
  have HE := hide her
  clear her
  go_enter Try.func38, Try.ntmps38
  go_wp2_with fail
  generalize w.alloc (.cells #[.slice f.A f.n f.c, .slice f.A' f.n' f.c'] 25) = w1 at *
  have hf1 := (hf.below (hb.mono hB)).mono (show B ≤ w1.heap.size by omega)
  have h1 := rboth_c f.A f.n f.c f.A' f.n' f.c' w1 hf1.num.n63 hf1.den.n63
  by_cases hk : f.n ≤ 64 ∧ f.n' ≤ 64
  · rw [if_pos hk] at h1
    refine h1.mono ?_
    rintro e w' ⟨rfl, rfl⟩
    clear h1
    go_wp2_with fail
    refine (rdigits_c _ _ _ _ w1 _ hf1.den (Nat.le_refl _) hf1.dd (by omega)).mono ?_
    rintro e w2 ⟨A2, n2, c2, l2, rfl, s2, N2, hb2, _⟩
    have hw2 := hb.trans (hb2.mono hb.size)
    have hz := N2.zero_iff (by omega)
    rw [s2.len] at hz
    by_cases h0 : val 4294967296 f.l' = 0
    · have hn2' : ((n2 : Int) == 0) = true := beq_iff_eq.2 (by have := hz.2 h0; omega)
      have he := errV_zero hk h0
      rw [HE.out] at he
      subst he
      go_wp2
      go_ret
      exact ⟨rfl, hw2⟩
    · have hn2 : n2 ≠ 0 := fun h => h0 (hz.1 h)
      have he := errV_good hk h0
      rw [HE.out] at he
      subst he
      have hn2' : ((n2 : Int) == 0) = false := beq_eq_false_iff_ne.2 (by omega)
      go_wp2
      go_ret
      exact ⟨rfl, hw2⟩
  · rw [if_neg hk] at h1
    have he := errV_long hk
    rw [HE.out] at he
    subst he
    refine h1.mono ?_
    rintro e w' ⟨rfl, rfl⟩
    clear h1
    go_wp2
    go_ret
    exact ⟨rfl, hb⟩
end Go.Proofs.Ytgilhkdmgbeieaa
