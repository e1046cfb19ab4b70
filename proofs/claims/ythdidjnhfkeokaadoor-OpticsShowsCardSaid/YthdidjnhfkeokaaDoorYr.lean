/- The rules of a law's eavesdropper, by numbers. Plain Lean; no program. -/
import Derived.Test.YthdidjnhfkeokaaDoorVd
namespace Go.Proofs.YthdidjnhfkeokaaDoor
open Go.RowKit

/-- A rule by numbers of eight bits. -/
structure Sp where
  k : Nat
  fr : Nat
  ln : Nat
  a : Nat
  b : Nat
  ok : k < 256 ∧ fr < 256 ∧ ln < 256 ∧ a < 256 ∧ b < 256
def eSp : Enc Sp := ⟨5, fun p => [.int .u8 p.k, .int .u8 p.fr, .int .u8 p.ln, .int .u8 p.a, .int .u8 p.b], fun _ => rfl, by simp [Value.oneCell'], by omega⟩
def kindOf (K : List Int) (x : Sp) : Int := K.getD (x.k % K.length) 0
def genR (K : List Int) (x : Sp) : Ru :=
  ⟨kindOf K x, if kindOf K x = 1 ∨ kindOf K x = 2 then 0 else x.fr, if kindOf K x = 1 ∨ kindOf K x = 2 then 0 else (x.fr : Int) + x.ln,
    if kindOf K x = 7 then ((x.a % 2 : Nat) : Int) else if kindOf K x = 5 then 0 else x.a, if kindOf K x = 7 then ((x.b % 2 : Nat) : Int) else 0⟩
def genL (K : List Int) (S : List Sp) : List Ru := (S.take 32).map (genR K)
/-- The kinds that a law may name. -/
def OkK (K : List Int) : Prop := 0 < K.length ∧ K.length ≤ 6 ∧ ∀ k ∈ K, k = 1 ∨ k = 2 ∨ k = 4 ∨ k = 5 ∨ k = 6 ∨ k = 7
theorem kindOf_get {K : List Int} (h : OkK K) (x : Sp) : K[x.k % K.length]? = some (kindOf K x) := by
  have hl : x.k % K.length < K.length := Nat.mod_lt _ h.1
  unfold kindOf
  rw [List.getD_eq_getElem?_getD, List.getElem?_eq_getElem hl]; rfl
theorem kindOf_mem {K : List Int} (h : OkK K) (x : Sp) : kindOf K x ∈ K := List.mem_of_getElem? (kindOf_get h x)
theorem genR_ok {K : List Int} (h : OkK K) (x : Sp) : okRu (genR K x) = true ∧ isSh (genR K x) = false := by
  obtain ⟨h1, h2, h3, h4, h5⟩ := x.ok
  have hm1 : x.a % 2 < 2 := Nat.mod_lt _ (by omega)
  have hm2 : x.b % 2 < 2 := Nat.mod_lt _ (by omega)
  have hk := h.2.2 _ (kindOf_mem h x)
  unfold okRu isSh okSpan genR
  rcases hk with e | e | e | e | e | e <;> simp [e] <;> omega
theorem genL_len (K : List Int) (S : List Sp) : (genL K S).length ≤ 32 := by unfold genL; rw [List.length_map, List.length_take]; omega
theorem genL_mem {K : List Int} (h : OkK K) {S : List Sp} {r : Ru} (hr : r ∈ genL K S) : okRu r = true ∧ isSh r = false ∧ r.k ∈ K := by
  unfold genL at hr
  obtain ⟨x, _, rfl⟩ := List.mem_map.1 hr
  obtain ⟨h1, h2⟩ := genR_ok h x
  exact ⟨h1, h2, kindOf_mem h x⟩
theorem genL_ok {K : List Int} (h : OkK K) (S : List Sp) : rulesErr (genL K S) = 0 ∧ shiftErr (genL K S) = 0 := by
  have hl := genL_len K S
  have ha : (genL K S).all okRu = true := List.all_eq_true.2 fun r hr => (genL_mem h hr).1
  have hs : shifts (genL K S) = 0 := by
    unfold shifts
    rw [List.length_eq_zero_iff, List.filter_eq_nil_iff]
    intro r hr; simp [(genL_mem h hr).2.1]
  have he : rulesErr (genL K S) = 0 := by unfold rulesErr; rw [if_neg (by omega), if_pos ha, if_neg (by omega)]
  refine ⟨he, ?_⟩
  unfold shiftErr; rw [if_pos he]
  exact shiftOf_none (List.all_eq_true.2 fun r hr => by simp [(genL_mem h hr).2.1])
theorem genL_snoc {K : List Int} {S : List Sp} {k : Nat} {x : Sp} (hx : S[k]? = some x) : (S.take (k + 1)).map (genR K) = (S.take k).map (genR K) ++ [genR K x] := by
  rw [List.take_add_one, hx, List.map_append]; rfl
end Go.Proofs.YthdidjnhfkeokaaDoor
