/- The walk of the law ExactBounds. -/
import Derived.Test.YtgilhkdmgbeieaaSb
import Derived.Test.YtgilhkdmgbeieaaWo
namespace Go.Proofs.Ytgilhkdmgbeieaa
open Go.RowKit

set_option maxRecDepth 100000 in
set_option maxHeartbeats 1600000 in
theorem bounds_w (w : World) (T : Int) (_w0 : (Lit.int .i64 T).wf = true) (k : Int) (_w1 : (Lit.int .i64 k).wf = true) (s : Int) (_w2 : (Lit.int .i64 s).wf = true) (f : FA) (hf : f.Rd w w.heap.size) :
    Calls Try.prog 9 #[.int .i64 T, .int .i64 k, .int .i64 s, .agg #[.slice f.A f.n f.c, .slice f.A' f.n' f.c']] w fun e w' => e = .returned (.bool true) ∧ Below w.heap.size w w' := by
  have hb := (Below.refl w.heap.size w).alloc (Nat.le_refl _) (.cells #[.slice f.A f.n f.c, .slice f.A' f.n' f.c'] 25)
  have X1 := Blk.new w 25 #[.slice f.A f.n f.c, .slice f.A' f.n' f.c']
  obtain ⟨c0, c1⟩ := X1.cells2
  have hg := X1.lt
  have hn := hf.num.n63
  have hn' := hf.den.n63
  by_cases hlen : f.n ≤ 100 ∧ f.n' ≤ 100
  · go_enter Try.func9, Try.ntmps9
    go_wp2_with fail
    generalize w.alloc (.cells #[.slice f.A f.n f.c, .slice f.A' f.n' f.c'] 25) = w1 at *
    have hf1 := (hf.below hb).mono hb.size
    refine (xbound_c T k s f w1 _ hf1 (Nat.le_refl _)).mono ?_
    rintro e w2 ⟨b, err, rfl, S1, hb2⟩
    obtain ⟨d0, d1⟩ := (X1.keep hb2).cells2
    have hf2 := (hf1.below hb2).mono hb2.size
    have hw2 := hb.trans (hb2.mono hb.size)
    go_wp2_with fail
    refine (rbound_c T k s f w2 _ hf2 (Nat.le_refl _)).mono ?_
    rintro e w3 ⟨b', err', rfl, S2, hb3⟩
    obtain ⟨rfl, rfl⟩ := S1.uniq S2
    have hw3 := hw2.trans (hb3.mono hw2.size)
    go_wp2_with fail
    refine (works_c _).mono ?_
    rintro e w4 ⟨rfl, hb4⟩
    go_wp2
    go_ret
    exact ⟨rfl, hw3.trans (hb4.mono hw3.size)⟩
  · have hc : 100 < f.n ∨ (f.n ≤ 100 ∧ 100 < f.n') := by omega
    rcases hc with hc | hc
    all_goals
      go_enter Try.func9, Try.ntmps9
      go_wp2_with fail
      refine (works_c _).mono ?_
      rintro e w4 ⟨rfl, hb4⟩
      go_wp2
      go_ret
      exact ⟨rfl, hb.trans (hb4.mono hb.size)⟩
end Go.Proofs.Ytgilhkdmgbeieaa
