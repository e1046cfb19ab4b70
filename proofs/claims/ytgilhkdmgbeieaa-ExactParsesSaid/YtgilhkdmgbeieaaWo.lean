/- The small example of layer 1: 'works' returns true. -/
import Derived.Test.YtgilhkdmgbeieaaWn
namespace Go.Proofs.Ytgilhkdmgbeieaa
open Go.RowKit

theorem num_one (b x : Nat) (h0 : 0 < x) (h : x < b) : Num b [x] x := ⟨Digs.one h, by simp [val], fun i hi => by
  obtain rfl : i = 0 := by simpa using hi.symm
  simp; omega⟩
theorem fits_small {x : Nat} (h0 : 0 < x) (h : x < 4294967296) : Fits x := (num_one _ x h0 h).fits.1 (by simp)
theorem sred_half {V D : Nat} {l l' : List Nat} {err : Int} (hV : V / Nat.gcd V D = 1) (hD : D / Nat.gcd V D = 2) (h : SRed V D l l' err) : l = [1] ∧ l' = [2] ∧ err = 0 := by
  unfold SRed at h
  rw [hV, hD] at h
  rcases h with ⟨_, _, h3, h4, h5⟩ | ⟨h1, _⟩
  · exact ⟨h3.uniq (num_one _ 1 (by omega) (by omega)) (by omega), h4.uniq (num_one _ 2 (by omega) (by omega)) (by omega), h5⟩
  · exact absurd ⟨fits_small (by omega) (by omega), fits_small (by omega) (by omega)⟩ h1
theorem tail_small {l l' : List Nat} {err : Int} (h : STail 4 1 2 0 l l' err) : l = [1] ∧ l' = [2] ∧ err = 0 := by
  rcases h with ⟨_, _, h⟩ | ⟨h, _⟩
  · exact sred_half (by decide) (by decide) h
  · exact absurd ⟨by decide, by decide⟩ h
theorem text_small {f : FA} {s : ByteArray} {err : Int} (h1 : f.l = [1]) (h2 : f.l' = [2]) (hn : f.n = 1) (hn' : f.n' = 1) (h : SText f s err) : s = strN [49, 47, 50] ∧ err = 0 := by
  obtain ⟨l, l', hS, hs⟩ := h
  have he : errV [f] = 0 := by simp [errV, FA.long, FA.zero, h2, hn, hn', val]
  rcases hS with ⟨_, hS⟩ | ⟨hS, _⟩
  · rw [h1, h2] at hS
    obtain ⟨rfl, rfl, rfl⟩ := sred_half (by decide) (by decide) hS
    refine ⟨?_, rfl⟩
    rw [hs, if_pos rfl]
    have e1 : textN (val 4294967296 [1]) = [49] := by
      rw [show val 4294967296 [1] = 1 by simp [val], textN, if_neg (by omega), decF_small (by omega) (by omega)]; rfl
    have e2 : textN (val 4294967296 [2]) = [50] := by
      rw [show val 4294967296 [2] = 2 by simp [val], textN, if_neg (by omega), decF_small (by omega) (by omega)]; rfl
    rw [e1, e2]; rfl
  · exact absurd he hS

set_option maxHeartbeats 800000 in
theorem works_c (w : World) : Calls Try.prog 20 #[] w fun e w' => e = .returned (.bool true) ∧ Below w.heap.size w w' := by
  go_enter Try.func20, Try.ntmps20
  go_wp2_with fail
  refine (tail_c 4 1 2 0 w (by omega) (by omega)).mono ?_
  rintro e w1 ⟨A, n, c, l, A', n', c', l', err, rfl, s1, s2, hS, hb1⟩
  obtain ⟨rfl, rfl, rfl⟩ := tail_small hS
  have hn := s1.len
  have hn' := s2.len
  simp at hn hn'
  subst hn hn'
  clear hS
  go_wp2_with fail
  have hb2 := (Below.refl w1.heap.size w1).alloc (Nat.le_refl _) (.cells #[.slice A 1 c, .slice A' 1 c'] 25)
  have hs2 : w1.heap.size < (w1.alloc (.cells #[.slice A 1 c, .slice A' 1 c'] 25)).heap.size := by simp
  generalize w1.alloc (.cells #[.slice A 1 c, .slice A' 1 c'] 25) = w2 at *
  refine (fracText_c ⟨A, 1, c, [1], A', 1, c', [2]⟩ w2 w1.heap.size ⟨s1.below hb2, s2.below hb2, Digs.one (by omega), Digs.one (by omega)⟩ (by omega)).mono ?_
  rintro e w3 ⟨s, err, rfl, hT, hb3⟩
  obtain ⟨rfl, rfl⟩ := text_small rfl rfl rfl rfl hT
  clear hT s1 s2
  have hq : ((strN [49, 47, 50]).toList == [49, 47, 50]) = true := by rw [ByteArray.toList_eq]; decide
  go_wp2
  go_ret
  exact ⟨rfl, hb1.trans ((hb2.mono hb1.size).trans (hb3.mono (by have := hb1.size; omega)))⟩
end Go.Proofs.Ytgilhkdmgbeieaa
