/- What the function of a valid rule does, whatever its kind. -/
import Derived.Test.YthdidjnhfkeokaaDoorVc
import Derived.Test.YthdidjnhfkeokaaDoorVk
import Derived.Test.YthdidjnhfkeokaaDoorVl
namespace Go.Proofs.YthdidjnhfkeokaaDoor
open Go.RowKit

theorem actF_bright {r : Ru} {i : Nat} {x : Li} {s : Nat} (h7 : r.k ≠ 7) (hx : x.bright = true) : actF r i x s = (x, [], s) := by
  unfold actF; rw [if_neg h7, if_pos hx]
theorem beq_dec (a b : Int) : (a == b) = decide (a = b) := rfl
theorem bel1 (s : Nat) : ((bel s 2 : Int) == 1) = decide (bel s 2 = 1) := by
  rw [beq_dec, decide_eq_decide]; omega
theorem li_eta {x : Li} {P : Nat} (hp : x.ph = P) (hb : x.bright = false) : x = ⟨P, x.b, x.bit, false⟩ := by cases x; simp_all
/-- The arguments of an act. -/
def actA (r : Ru) (i X D E : Nat) : Array Value :=
  #[.agg #[.int .i64 r.k, .int .i64 r.fr, .int .i64 r.to, .int .i64 r.a, .int .i64 r.b], .int .i64 i, .pointer (some ⟨X, 0, none⟩), .pointer (some ⟨D, 0, none⟩), .iface 136 (.pointer (some ⟨E, 0, none⟩))]
def actT (r : Ru) (i : Nat) (x : Li) (s : Nat) (N : List No) : Li × List No × Nat := ((actF r i x s).1, N ++ (actF r i x s).2.1, (actF r i x s).2.2)
/-- Function f with the captured variables 'caps' does what rule r does. -/
def Does (r : Ru) (i base X D E gA f : Nat) (caps : Array Value) : Prop :=
  ∀ (x : Li) (s : Nat) (N : List No) (W : World), Sta W base X D E x s N → Caps W gA → okPh x → N.length ≤ 900000 → base ≤ W.heap.size →
    Calls Tryd.prog f (actA r i X D E ++ caps) W (SAct base X D E (actT r i x s N) W)
theorem cf1 (args : Array Value) (W : World) : (callFunc 93 args).run Tryd.prog W = .ok (.enter 93 args) W := by kernel_rfl
theorem cf4 (args : Array Value) (W : World) : (callFunc 100 args).run Tryd.prog W = .ok (.enter 100 args) W := by kernel_rfl
theorem cf5 (args : Array Value) (W : World) : (callFunc 99 args).run Tryd.prog W = .ok (.enter 99 args) W := by kernel_rfl
theorem cf7 (args : Array Value) (W : World) : (callFunc 101 args).run Tryd.prog W = .ok (.enter 101 args) W := by kernel_rfl
section
variable {r : Ru} {i base X D E gA : Nat} (g : Geo base X D E)
include g
theorem does1 (h : r.k = 1) : Does r i base X D E gA 93 #[.pointer (some ⟨gA + 1, 0, none⟩)] := by
  intro x s N W hs hc hp hN hb
  have hB : actF r i x s = (if x.bright then (x, [], s) else (⟨x.ph - ((lossF r.a s x.ph.toNat).1 : Nat), x.b, x.bit, false⟩, [], (lossF r.a s x.ph.toNat).2)) := by
    unfold actF; rw [if_neg (show ¬ r.k = 7 by omega), if_pos h]
  refine (quiet2_c r.k r.fr r.to r.a r.b i _ base X D E (gA + 1) x (actF r i x s).1 s (actF r i x s).2.2 N W hs g hc.1 (fun hx V h1 h2 => ?_) (fun hx => ?_)).mono fun e w' k => ?_
  · obtain ⟨P, hP⟩ := Int.eq_ofNat_of_zero_le hp.1
    have e1 := li_eta hP hx
    have h3 : P ≤ 3 := by have := hp.2; omega
    rw [e1] at h1
    rw [hB, if_neg (by simp [hx]), hP]
    exact loss_c r.k r.fr r.to r.a r.b X D s P x.b x.bit V h1 h2 (by have := g.1; have := g.2.1; omega) h3
  · rw [actF_bright (by omega) hx]; exact ⟨rfl, rfl⟩
  · have : (actF r i x s).2.1 = [] := by rw [hB]; split <;> rfl
    unfold actT; rw [this, List.append_nil]; exact k
theorem does2 (h : r.k = 2) : Does r i base X D E gA 93 #[.pointer (some ⟨gA + 2, 0, none⟩)] := by
  intro x s N W hs hc hp hN hb
  have hB : actF r i x s = (if x.bright then (x, [], s) else (if 0 < x.ph then (if hit r.a s then ⟨x.ph, x.b, !x.bit, false⟩ else x, [], nx s) else (x, [], s))) := by
    unfold actF; rw [if_neg (show ¬ r.k = 7 by omega), if_neg (show ¬ r.k = 1 by omega), if_pos h]
  refine (quiet3_c r.k r.fr r.to r.a r.b i _ base X D E (gA + 2) x (actF r i x s).1 s (actF r i x s).2.2 N W hs g hc.2.1 (fun hx V h1 h2 => ?_) (fun hx => ?_)).mono fun e w' k => ?_
  · obtain ⟨P, hP⟩ := Int.eq_ofNat_of_zero_le hp.1
    have e1 := li_eta hP hx
    have h3 : P ≤ 3 := by have := hp.2; omega
    have hn : noiF r.a s P x.b x.bit = ((actF r i x s).1, (actF r i x s).2.2) := by
      rw [hB, if_neg (by simp [hx]), hP]
      unfold noiF hit
      by_cases h0 : 0 < P
      · rw [if_pos h0, if_pos (show (0 : Int) < (P : Int) by omega)]
        by_cases ht : (bel s 256 : Int) < r.a
        · rw [if_pos ht, if_pos (decide_eq_true ht)]
        · rw [if_neg ht, if_neg (by simpa using ht), ← e1]
      · rw [if_neg h0, if_neg (show ¬ (0 : Int) < (P : Int) by omega), ← e1]
    rw [e1] at h1
    have := noise_c r.k r.fr r.to r.a r.b X D s P x.b x.bit V h1 h2 (by have := g.1; have := g.2.1; omega) h3
    rw [hn] at this
    exact this
  · rw [actF_bright (by omega) hx]; exact ⟨rfl, rfl⟩
  · have : (actF r i x s).2.1 = [] := by rw [hB]; (repeat' split) <;> rfl
    unfold actT; rw [this, List.append_nil]; exact k
theorem does3 (h : r.k = 3) : Does r i base X D E gA 93 #[.pointer (some ⟨gA + 3, 0, none⟩)] := by
  intro x s N W hs hc hp hN hb
  have hB : actF r i x s = (x, [], s) := by
    unfold actF; rw [if_neg (show ¬ r.k = 7 by omega), if_neg (show ¬ r.k = 1 by omega), if_neg (show ¬ r.k = 2 by omega), if_neg (show ¬ r.k = 6 by omega), if_neg (show ¬ r.k = 5 by omega), if_neg (show ¬ r.k = 4 by omega)]
    split <;> rfl
  refine (quiet4_c r.k r.fr r.to r.a r.b i _ base X D E (gA + 3) x (actF r i x s).1 s (actF r i x s).2.2 N W hs g hc.2.2.1 (fun hx V h1 h2 => ?_) (fun hx => ?_)).mono fun e w' k => ?_
  · rw [hB]
    exact late_c r.k r.fr r.to r.a r.b X D s x V h1 h2
  · rw [hB]; exact ⟨rfl, rfl⟩
  · have : (actF r i x s).2.1 = [] := by rw [hB]
    unfold actT; rw [this, List.append_nil]; exact k
theorem does6 (h : r.k = 6) : Does r i base X D E gA 93 #[.pointer (some ⟨gA + 4, 0, none⟩)] := by
  intro x s N W hs hc hp hN hb
  have hB : actF r i x s = (if x.bright then (x, [], s) else (if x.ph = 1 then (if hit r.a s then ⟨0, x.b, x.bit, false⟩ else x, [], nx s) else (x, [], s))) := by
    unfold actF; rw [if_neg (show ¬ r.k = 7 by omega), if_neg (show ¬ r.k = 1 by omega), if_neg (show ¬ r.k = 2 by omega), if_pos h]
  refine (quiet5_c r.k r.fr r.to r.a r.b i _ base X D E (gA + 4) x (actF r i x s).1 s (actF r i x s).2.2 N W hs g hc.2.2.2 (fun hx V h1 h2 => ?_) (fun hx => ?_)).mono fun e w' k => ?_
  · obtain ⟨P, hP⟩ := Int.eq_ofNat_of_zero_le hp.1
    have e1 := li_eta hP hx
    have h3 : P ≤ 3 := by have := hp.2; omega
    have hn : staF r.a s P x.b x.bit = ((actF r i x s).1, (actF r i x s).2.2) := by
      rw [hB, if_neg (by simp [hx]), hP]
      unfold staF hit
      by_cases h0 : P = 1
      · rw [if_pos h0, if_pos (show (P : Int) = 1 by omega)]
        by_cases ht : (bel s 256 : Int) < r.a
        · rw [if_pos ht, if_pos (decide_eq_true ht)]
        · rw [if_neg ht, if_neg (by simpa using ht), ← e1]
      · rw [if_neg h0, if_neg (show ¬ (P : Int) = 1 by omega), ← e1]
    rw [e1] at h1
    have := starve_c r.k r.fr r.to r.a r.b X D s P x.b x.bit V h1 h2 (by have := g.1; have := g.2.1; omega) h3
    rw [hn] at this
    exact this
  · rw [actF_bright (by omega) hx]; exact ⟨rfl, rfl⟩
  · have : (actF r i x s).2.1 = [] := by rw [hB]; (repeat' split) <;> rfl
    unfold actT; rw [this, List.append_nil]; exact k
theorem does5 (h : r.k = 5) : Does r i base X D E gA 99 #[] := by
  intro x s N W hs hc hp hN hb
  have hB : actF r i x s = (if x.bright then (x, [], s) else (if 2 ≤ x.ph then (⟨x.ph - 1, x.b, x.bit, false⟩, [⟨i, 2, x.b, x.bit⟩], s) else (x, [], s))) := by
    unfold actF; rw [if_neg (show ¬ r.k = 7 by omega), if_neg (show ¬ r.k = 1 by omega), if_neg (show ¬ r.k = 2 by omega), if_neg (show ¬ r.k = 6 by omega), if_pos h]
  obtain ⟨P, hP⟩ := Int.eq_ofNat_of_zero_le hp.1
  have h3 : P ≤ 3 := by have := hp.2; omega
  by_cases hx : x.bright = false ∧ 2 ≤ x.ph
  · have e1 := li_eta hP hx.1
    have hs2 := hs
    rw [e1] at hs2
    have hT : actT r i x s N = (⟨P - 1, x.b, x.bit, false⟩, N ++ [⟨i, 2, x.b, x.bit⟩], s) := by
      unfold actT; rw [hB, if_neg (by simp [hx.1]), if_pos hx.2, hP]
    rw [hT]
    exact split_yes r.k r.fr r.to r.a r.b x.b x.bit i P base X D E s N W hs2 g hN hb (by have := hx.2; omega) h3
  · have hx2 : x.bright = true ∨ x.ph < 2 := by
      cases hb2 : x.bright
      · right; have : ¬ 2 ≤ x.ph := fun c => hx ⟨hb2, c⟩
        omega
      · exact Or.inl rfl
    have hT : actT r i x s N = (x, N, s) := by
      unfold actT; rw [hB]
      rcases hx2 with h1 | h1
      · rw [if_pos h1]; simp
      · rw [if_neg (show ¬ 2 ≤ x.ph by omega)]; split <;> simp
    rw [hT]
    exact split_no r.k r.fr r.to r.a r.b _ i base X D E x s N W hs g hx2
theorem does7 (h : r.k = 7) : Does r i base X D E gA 101 #[] := by
  intro x s N W hs hc hp hN hb
  have hT : actT r i x s N = (⟨0, r.a, r.b == 1, true⟩, N ++ [⟨i, 3, r.a, r.b == 1⟩], s) := by
    unfold actT actF; rw [if_pos h]; rfl
  rw [hT]
  exact blind_c r.k r.fr r.to r.a r.b i base X D E x s N W hs g hN hb
theorem does4 (h : r.k = 4) : Does r i base X D E gA 100 #[] := by
  intro x s N W hs hc hp hN hb
  have hB : actF r i x s = (if x.bright then (x, [], s) else (if x.ph = 0 then (x, [], s) else if hit r.a s then
      (if (bel (nx s) 2 : Int) = x.b then (⟨1, (bel (nx s) 2 : Int), x.bit, false⟩, [⟨i, 1, (bel (nx s) 2 : Int), x.bit⟩], nx (nx s))
       else (⟨1, (bel (nx s) 2 : Int), decide (bel (nx (nx s)) 2 = 1), false⟩, [⟨i, 1, (bel (nx s) 2 : Int), decide (bel (nx (nx s)) 2 = 1)⟩], nx (nx (nx s))))
    else (x, [], nx s))) := by
    unfold actF; rw [if_neg (show ¬ r.k = 7 by omega), if_neg (show ¬ r.k = 1 by omega), if_neg (show ¬ r.k = 2 by omega), if_neg (show ¬ r.k = 6 by omega), if_neg (show ¬ r.k = 5 by omega), if_pos h]
  obtain ⟨P, hP⟩ := Int.eq_ofNat_of_zero_le hp.1
  by_cases hx : x.bright = true ∨ x.ph = 0
  · have hT : actT r i x s N = (x, N, s) := by
      unfold actT; rw [hB]
      rcases hx with h1 | h1
      · rw [if_pos h1]; simp
      · rw [if_pos h1]; split <;> simp
    rw [hT]
    exact resend_none r.k r.fr r.to r.a r.b _ i base X D E x s N W hs g hx
  · have hxb : x.bright = false := by
      cases hb2 : x.bright
      · rfl
      · exact absurd (Or.inl hb2) hx
    have hx0 : ¬ x.ph = 0 := fun c => hx (Or.inr c)
    have e1 := li_eta hP hxb
    have hs2 := hs
    rw [e1] at hs2
    rw [if_neg (by simp [hxb]), if_neg hx0] at hB
    by_cases ht : (bel s 256 : Int) < r.a
    · rw [if_pos (show hit r.a s = true from decide_eq_true ht)] at hB
      by_cases hbb : (bel (nx s) 2 : Int) = x.b
      · have hT : actT r i x s N = (⟨1, (bel (nx s) 2 : Int), x.bit, false⟩, N ++ [⟨i, 1, (bel (nx s) 2 : Int), x.bit⟩], nx (nx s)) := by
          unfold actT; rw [hB, if_pos hbb]
        rw [hT]
        exact resend_same r.k r.fr r.to r.a r.b x.b x.bit i P base X D E s N W hs2 g (by omega) hN hb ht hbb
      · have hT : actT r i x s N = (⟨1, (bel (nx s) 2 : Int), ((bel (nx (nx s)) 2 : Int) == 1), false⟩, N ++ [⟨i, 1, (bel (nx s) 2 : Int), ((bel (nx (nx s)) 2 : Int) == 1)⟩], nx (nx (nx s))) := by
          unfold actT; rw [hB, if_neg hbb, bel1]
        rw [hT]
        exact resend_diff r.k r.fr r.to r.a r.b x.b x.bit i P base X D E s N W hs2 g (by omega) hN hb ht hbb
    · have hT : actT r i x s N = (⟨P, x.b, x.bit, false⟩, N, nx s) := by
        unfold actT; rw [hB, if_neg (show ¬ hit r.a s = true by simpa [hit] using ht), ← e1]; simp
      rw [hT]
      exact resend_miss r.k r.fr r.to r.a r.b x.b x.bit _ i P base X D E s N W hs2 g (by omega) ht
theorem act_any (hr : okRu r = true) : ∃ (K f : Nat) (caps : Array Value), r.k = (K : Int) ∧ 1 ≤ K ∧ K < 8 ∧ (actV gA)[K]? = some (.func (.func f) #[] caps) ∧ (∀ (args : Array Value) (W : World), (callFunc f args).run Tryd.prog W = .ok (.enter f args) W) ∧ Does r i base X D E gA f caps := by
  obtain ⟨h1, h7⟩ := okRu_kind hr
  obtain ⟨K, hK⟩ := Int.eq_ofNat_of_zero_le (show 0 ≤ r.k by omega)
  match K, hK with
  | 0, hK => omega
  | 1, hK => exact ⟨1, _, _, hK, by omega, by omega, rfl, cf1, does1 g hK⟩
  | 2, hK => exact ⟨2, _, _, hK, by omega, by omega, rfl, cf1, does2 g hK⟩
  | 3, hK => exact ⟨3, _, _, hK, by omega, by omega, rfl, cf1, does3 g hK⟩
  | 4, hK => exact ⟨4, _, _, hK, by omega, by omega, rfl, cf4, does4 g hK⟩
  | 5, hK => exact ⟨5, _, _, hK, by omega, by omega, rfl, cf5, does5 g hK⟩
  | 6, hK => exact ⟨6, _, _, hK, by omega, by omega, rfl, cf1, does6 g hK⟩
  | 7, hK => exact ⟨7, _, _, hK, by omega, by omega, rfl, cf7, does7 g hK⟩
  | K + 8, hK => omega
end
end Go.Proofs.YthdidjnhfkeokaaDoor
