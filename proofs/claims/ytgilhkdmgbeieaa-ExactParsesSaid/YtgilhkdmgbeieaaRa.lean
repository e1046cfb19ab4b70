/- Contracts of the reference's trim, small, compare, fits. -/
import Derived.Test.YtgilhkdmgbeieaaWa
import Derived.Test.YtgilhkdmgbeieaaMathB
import Derived.Deep.LoopGhost
namespace Go.Proofs.Ytgilhkdmgbeieaa
open Go.RowKit

set_option maxHeartbeats 400000 in
theorem rtrim_c (A : Option Addr) (n c : Nat) (l : List Nat) (w : World) (B : Nat) (h : Sl w B .i64 A n c l) :
    Calls Try.prog 82 #[.slice A n c] w fun e w' => e = .returned (.slice A (trimN l n) c) ∧ w = w' := by
  have hcap := h.cap
  have hmax := h.max
  go_enter Try.func82, Try.ntmps82
  go_wp2
  go_loop [3] (fun v => ∃ k : Nat, k ≤ n ∧ v = .int .i64 k ∧ trimN l k = trimN l n) (fun v => (intOf v).toNat)
  case atStart => exact ⟨n, Nat.le_refl _, rfl, rfl⟩
  case round =>
    obtain ⟨k, hk, rfl, ht⟩ := hrel
    have HT := hide ht
    clear ht
    by_cases h0 : 0 < k
    · obtain ⟨k, rfl⟩ : ∃ j, k = j + 1 := ⟨k - 1, by omega⟩
      obtain ⟨b, off, x, rfl, hb, hx, hm, hcx⟩ := h.cell (i := k) (by omega)
      have HX := hide hx
      clear hx h
      go_wp2
      · go_round
        case rel =>
          refine ⟨k, by omega, by go_num, ?_⟩
          rw [← HT.out, trimN, if_pos]
          rw [HX.out]
          have h0 : ((x : Int) == 0) = true := by assumption
          simpa using h0
        case measure => simp [intOf] <;> omega
      · go_ret
        have h0 : ((x : Int) == 0) = false := by assumption
        refine ⟨?_, rfl⟩
        rw [← HT.out, trimN, if_neg (by rw [HX.out]; simpa using h0)]; rfl
    · obtain rfl : k = 0 := by omega
      clear h
      go_wp2
      go_ret
      exact ⟨by rw [← HT.out]; rfl, rfl⟩
/-- trim, in words of numbers. -/
theorem rtrim_n (A : Option Addr) (n c : Nat) (l : List Nat) (w : World) (B : Nat) (h : Sl w B .i64 A n c l) (hd : Digs 256 l) :
    Calls Try.prog 82 #[.slice A n c] w fun e w' => ∃ m, m ≤ n ∧ e = .returned (.slice A m c) ∧ Num 256 (l.take m) (val 256 l) ∧ w = w' :=
  (rtrim_c A n c l w B h).mono fun e w' ⟨he, hw⟩ => ⟨_, trimN_le l n, he, by
    have := Num.trim hd n
    rwa [show l.take n = l from List.take_of_length_le (Nat.le_of_eq h.len)] at this, hw⟩

/-- A number of the reference: its digits to the base 256, normal. -/
def DigV (w : World) (N : Nat) (e : Ending) (w' : World) : Prop :=
  ∃ A n c l, e = .returned (.slice A n c) ∧ Sl w' w'.heap.size .i64 A n c l ∧ Num 256 l N ∧ Below w.heap.size w w' ∧ (∀ g, A.map (·.block) = some g → w.heap.size ≤ g)

theorem Sl.oneI (w : World) (E : TypeId) (k : IntKind) (x : Nat) {v : Value} (hv : v = .int k x) : Sl (w.alloc (.cells #[v] E)) (w.heap.size + 1) k (some ⟨w.heap.size, 0, none⟩) 1 1 [x] := by
  subst hv
  refine ⟨rfl, Nat.le_refl _, by omega, fun _ => ⟨w.heap.size, 0, rfl, by omega, fun j hj => ?_⟩⟩
  obtain rfl : j = 0 := by omega
  rw [World.cell?_alloc_at _ _ _ _ rfl]
  rfl

/-- What an append to a slice of the call's own, which lies below nothing else, leaves of the rest. -/
theorem Own.block {w : World} {base : Nat} {E : TypeId} {k : IntKind} {A : Option Addr} {n c : Nat} {l : List Nat} (h : Own w base E k A n c l) : ∀ g, A.map (·.block) = some g → base ≤ g ∧ g < w.heap.size := by
  intro g hg
  rcases h.form with ⟨rfl, _⟩ | ⟨g', _, rfl, h1, h2, _⟩
  · cases hg
  · simp at hg; omega

set_option maxHeartbeats 800000 in
theorem small_c (N : Nat) (w : World) (hN : N ≤ 9223372036854775807) :
    Calls Try.prog 121 #[.int .i64 N] w (DigV w N) := by
  go_enter Try.func121, Try.ntmps121
  go_wp2
  go_loopg [0, 3] N (fun X v0 v3 wr => ∃ (A : Option Addr) (n c : Nat) (l : List Nat), v0 = .int .i64 X ∧ v3 = .slice A n c ∧ Own wr w.heap.size 3 .i64 A n c l ∧ SmallI 256 N X l ∧ X ≤ N ∧ Below w.heap.size w wr)
  case atStart => exact ⟨none, 0, 0, [], rfl, rfl, Own.nil _ _ _ _, SmallI.start _ _, Nat.le_refl _, Below.refl _ _⟩
  case round =>
    obtain ⟨A, n, c, l, rfl, rfl, ho, hI, hX, hb⟩ := hrel
    obtain ⟨X, rfl⟩ : ∃ X, X = gk := ⟨_, rfl⟩
    by_cases h0 : 0 < X
    · have hn : n ≤ 64 := by rw [← ho.len]; exact hI.len h0 hN
      go_wp2_with (first
        | (at_builtin; refine wl_append _ rfl (.tmp 6) (.tmp 9) _ rfl w.heap.size 3 .i64 8 Try.underlying82 info_int (by omega) A n c l rfl (ho.alloc _) (some ⟨wr.heap.size, 0, none⟩) 1 1 [X % 256] rfl (wr.heap.size + 1) (Sl.oneI wr _ _ (X % 256) (congrArg (Value.int .i64) (by omega))) (by omega) (by have := hb.size; simp; omega) ?_; intro A3 c3 w3 o3 hg3 hA3))
      have hb3 := (hb.alloc hb.size (.cells #[.int .i64 ((X : Int) % 256)] 3)).grown hg3 (by have := hb.size; simp; omega) (fun k hk => ((ho.alloc (.cells #[.int .i64 ((X : Int) % 256)] 3)).block k hk).1)
      clear hg3
      go_roundg (X / 256)
      case measure => omega
      case rel => exact ⟨A3, n + 1, c3, _, by go_num, rfl, o3, hI.step h0, by omega, hb3⟩
    · obtain rfl : X = 0 := by omega
      go_wp2
      go_ret
      exact ⟨_, _, _, _, rfl, ho.sl, hI.done, hb, fun g hg => (ho.block g hg).1⟩
end Go.Proofs.Ytgilhkdmgbeieaa
