/-
  The law ExactParses: for every text, Parse and FracParse return what the document says, and what was read has this text. Condition: none.
-/
import Derived.Test.YtgilhkdmgbeieaaRows
import Derived.WalkKit
import Derived.ProofKit
import Derived.OpenShut
import Derived.Test.YtgilhkdmgbeieaaPost
import Derived.Test.YtgilhkdmgbeieaaFr
import Derived.Test.YtgilhkdmgbeieaaUf
import Derived.Test.YtgilhkdmgbeieaaRi
import Derived.Test.YtgilhkdmgbeieaaWo
namespace Go.Proofs.Ytgilhkdmgbeieaa
open Go.RowKit

theorem SFP.ok {b l l' : List Nat} (h : SFP b l l' 0) : ∃ X Y, Fits X ∧ Fits Y ∧ Num 4294967296 l X ∧ Num 4294967296 l' Y ∧ FText b X Y := by
  rcases h with ⟨i, _, ⟨_, _, _, h⟩ | ⟨_, _, ⟨_, _, _, h⟩ | ⟨f1, f2, ⟨h5, n1, n2, _⟩ | ⟨_, _, _, h⟩⟩⟩⟩ | ⟨_, _, _, h⟩
  · omega
  · omega
  · exact ⟨_, _, f1, f2, n1, n2, h5⟩
  · omega
  · omega

set_option maxRecDepth 100000 in
set_option maxHeartbeats 6400000 in
theorem parses_w (w : World) (s : ByteArray) (hs : s.size ≤ 9223372036854775807) :
    Calls Try.prog 15 #[.string s] w fun e w' => e = .returned (.bool true) ∧ Below w.heap.size w w' := by
  by_cases hlen : 1400 < s.size
  · have hli : (1400 : Int) < (s.size : Int) := by omega
    go_enter Try.func15, Try.ntmps15
    go_wp2_with fail
    refine (works_c _).mono ?_
    rintro e w1 ⟨rfl, hb⟩
    go_wp2
    go_ret
    exact ⟨rfl, hb⟩
  · have hli : ¬ (1400 : Int) < (s.size : Int) := by omega
    have hs1 : s.size ≤ 9223372036854775806 := by omega
    have hw := Below.refl w.heap.size w
    go_enter Try.func15, Try.ntmps15
    go_wp2_with fail
    refine (xparse_c s w hs).mono ?_
    rintro e w1 ⟨A1, n1, c1, l1, e1, rfl, s1, S1, hb⟩
    replace hw := hw.trans (hb.mono hw.size)
    clear hb
    go_wp2_with fail
    refine (rparse_c s w1 hs).mono ?_
    rintro e w2 ⟨A2, n2, c2, l2, e2, rfl, s2, S2, hb⟩
    replace hw := hw.trans (hb.mono hw.size)
    replace s1 := (s1.below hb).mono hb.size
    obtain ⟨rfl, rfl⟩ := (SParse.uniq _) S1 S2
    clear hb S1 S2
    go_wp2_with fail
    refine (lnum_c _ _ _ _ _ _ _ _ _ s1 s2).mono ?_
    rintro e w3 ⟨rfl, q, hq⟩
    have hb : Below w2.heap.size w2 w3 := hq ▸ below_drewN (Below.refl _ _) q
    replace hw := hw.trans (hb.mono hw.size)
    clear hb hq s1 s2
    go_wp2_with fail
    refine (xfracparse_c s w3 hs1).mono ?_
    rintro e w4 ⟨A3, n3, c3, l3, A4, n4, c4, l4, e3, rfl, s3, s4, S3, hb⟩
    replace hw := hw.trans (hb.mono hw.size)
    clear hb
    go_wp2_with fail
    obtain ⟨w5, h5⟩ : ∃ w5, w4.alloc (.cells #[.slice A3 n3 c3, .slice A4 n4 c4] 25) = w5 := ⟨_, rfl⟩
    have bG := Blk.new w4 25 #[.slice A3 n3 c3, .slice A4 n4 c4]
    have hb := (Below.refl w4.heap.size w4).alloc (Nat.le_refl _) (.cells #[.slice A3 n3 c3, .slice A4 n4 c4] 25)
    rw [h5] at bG hb ⊢
    clear h5
    replace hw := hw.trans (hb.mono hw.size)
    replace s3 := (s3.below hb).mono hb.size
    replace s4 := (s4.below hb).mono hb.size
    clear hb
    refine (rfracparse_c s w5 hs1).mono ?_
    rintro e w6 ⟨A5, n5, c5, l5, A6, n6, c6, l6, e4, rfl, s5, s6, S4, hb⟩
    replace hw := hw.trans (hb.mono hw.size)
    replace bG := bG.keep hb
    replace s3 := (s3.below hb).mono hb.size
    replace s4 := (s4.below hb).mono hb.size
    obtain ⟨rfl, rfl, rfl⟩ := S3.uniq S4
    clear hb S4
    have HS := hide S3
    clear S3
    obtain ⟨w7, h7⟩ : ∃ w7, w6.alloc (.cells #[.slice A5 n5 c5, .slice A6 n6 c6] 25) = w7 := ⟨_, rfl⟩
    have bH := Blk.new w6 25 #[.slice A5 n5 c5, .slice A6 n6 c6]
    have hb := (Below.refl w6.heap.size w6).alloc (Nat.le_refl _) (.cells #[.slice A5 n5 c5, .slice A6 n6 c6] 25)
    rw [h7] at bH hb
    have HB7 := hide h7
    replace bG := bG.keep hb
    obtain ⟨G0, G1⟩ := bG.cells2
    obtain ⟨H0, H1⟩ := bH.cells2
    rw [← h7] at G0 G1 H0 H1
    clear h7
    go_wp2_with fail
    rw [HB7.out] at G0 G1 H0 H1
    try rw [HB7.out]
    clear HB7
    replace hw := hw.trans (hb.mono hw.size)
    replace s3 := (s3.below hb).mono hb.size
    replace s4 := (s4.below hb).mono hb.size
    replace s5 := (s5.below hb).mono hb.size
    replace s6 := (s6.below hb).mono hb.size
    clear hb H0 H1 bH
    refine (lfrac_c _ _ _ _ _ _ _ _ _ _ _ _ _ _ _ w7 s3 s4 s5 s6).mono ?_
    rintro e w8 ⟨rfl, hb⟩
    replace hw := hw.trans (hb.mono hw.size)
    replace bG := bG.keep hb
    replace s3 := (s3.below hb).mono hb.size
    replace s4 := (s4.below hb).mono hb.size
    clear hb s5 s6 G0 G1
    obtain ⟨G0, G1⟩ := bG.cells2
    by_cases h0 : e3 = 0
    · subst h0
      obtain ⟨X, Y, fX, fY, NX, NY, hF⟩ := HS.out.ok
      have hk3 : n3 ≤ 64 := by rw [← s3.len]; exact NX.fits.2 fX
      have hk4 : n4 ≤ 64 := by rw [← s4.len]; exact NY.fits.2 fY
      go_wp2_with fail
      refine (fracText_c ⟨A3, n3, c3, l3, A4, n4, c4, l4⟩ w8 _ ⟨s3, s4, NX.dig, NY.dig⟩ (Nat.le_refl _)).mono ?_
      rintro e w9 ⟨tx, er, rfl, HT, hb⟩
      replace hw := hw.trans (hb.mono hw.size)
      clear hb
      obtain ⟨rfl, rfl⟩ : er = 0 ∧ tx = s := by
        rcases HT.read hk3 hk4 NX.val_ NY.val_ fX fY with ⟨h1, _, h2⟩ | ⟨_, h2⟩
        · exact ⟨h1, bytesN_inj (h2.trans hF.2.symm)⟩
        · have := hF.1; omega
      have HF := hide hF
      clear hF HT
      go_wp2_with fail
      refine (works_c _).mono ?_
      rintro e w10 ⟨rfl, hb⟩
      go_wp2
      go_ret
      exact ⟨rfl, hw.trans (hb.mono hw.size)⟩
    · have h0' : (e3 == 0) = false := by rw [beq_eq_false_iff_ne]; exact h0
      go_wp2_with fail
      refine (works_c _).mono ?_
      rintro e w10 ⟨rfl, hb⟩
      go_wp2
      go_ret
      exact ⟨rfl, hw.trans (hb.mono hw.size)⟩
end Go.Proofs.Ytgilhkdmgbeieaa

namespace Go.Proofs.Ytgilhkdmgbeieaa.exactParses
open Go.ChangeShapes Go.WideShapes Go.ChangeAt Go.RowKit
set_option linter.unusedVariables false

theorem own : ownKnob Try.prog.godebug = none := by kernel_rfl
theorem laidOut : laidOutB Try.prog = true := by kernel_rfl

set_option maxRecDepth 100000 in
theorem lifted (os : Os) (started : os.Started) (H : Type) (enc : TypeId × Value → H) :
    ReturnsInHanded {} Try.checked os 15 .any (Rows.exactParsesSpec.pre6 enc Try.prog Try.f15 Rows.exactParsesRow.domain false) (Rows.exactParsesSpec.post enc Try.prog Try.f15 false true false false) := by
  refine returnsInHanded_of_change (C := Try.checked) own started (by kernel_rfl) Try.func15
    (ChangeSpec.witness6 (enc := enc) (C := Try.checked) false ⟨#[], #[.string ⟨#[]⟩], []⟩ 8 (by kernel_rfl) (by kernel_rfl) (by kernel_rfl) (by kernel_rfl)) ?_
  intro W base args ds gs before hval0 hW hcnd _
  have hval : ∀ (j : Nat) t v, Try.f15.params[j]? = some t → args[j]? = some v → Value.okWide Try.prog W .any base t v := hval0
  have hW' := hW
  obtain ⟨p, q, hA0, hV, rfl, hfz, hnd⟩ := hW
  have hA : DataW.TrodAll enc Try.prog W 0 (fun _ => true) true Try.f15.params.toList args.toList ds p := hA0
  rw [Try.params15] at hA hval
  obtain ⟨v0, vs0, d0, ds0, p0, q0, hargs, rfl, rfl, h0, r0⟩ := trodAll_cons hA
  obtain ⟨rfl, rfl, rfl⟩ := trodAll_nil r0
  obtain rfl : args = #[v0] := by cases args; simp_all
  obtain ⟨rfl, rfl⟩ := trodVars_none hV
  have hlt := hW'.lt
  obtain ⟨S0, rfl, rfl, rfl, s0⟩ := Go.ChangeMaps.open_string Try.underlying9 (hval 0 9 v0 rfl rfl) h0
  clear hval0
  simp only [List.append_nil] at hW' hlt hA0
  refine (parses_w W S0 s0).mono fun e W' ⟨he, hg⟩ => ?_
  subst he
  exact ⟨_, rfl, post_of_below (pv := []) hW' (fun _ _ _ => (trodAll_cons_mk (shut_bool Try.underlying4 _) trodAll_mk0)) (fun sp hsp => trodAll_keep laidOut hg (by rw [Try.params15]; kernel_rfl) hA0 hlt hsp) (fun _ _ => rfl) (by simp)
    hg (ok_one (by kernel_rfl) rfl (okWide_bool_mk Try.underlying4 _))⟩

theorem over : Rows.exactParsesRow.holds Try.pinned (OpenSpec.ofChange Rows.exactParsesSpec) :=
  OpenClaim.holds_of_wide 15 Try.f15 rfl rfl rfl rfl rfl rfl rfl ⟨rfl, rfl, rfl, rfl, rfl⟩ rfl rfl rfl rfl rfl (by kernel_rfl) Try.func15 (by kernel_rfl)
    (of_decide_eq_true (by kernel_rfl)) (by unfold Func.isWrapper; first | (rw [if_pos (by decide +kernel)]; kernel_rfl) | (rw [if_neg (by decide +kernel)]; exact ⟨rfl, rfl⟩))
    (fun os started H enc _ => lifted os started H enc)

theorem proved : Rows.ExactParsesSaid :=
  over
#print axioms proved
end Go.Proofs.Ytgilhkdmgbeieaa.exactParses
