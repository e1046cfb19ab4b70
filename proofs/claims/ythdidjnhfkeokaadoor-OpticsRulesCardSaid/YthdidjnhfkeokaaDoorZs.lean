/- Contracts of strings.Cut at a line's end and of optics.Rules. -/
import Derived.Test.YthdidjnhfkeokaaDoorZr
namespace Go.Proofs.YthdidjnhfkeokaaDoor
open Go.RowKit

/-- The parts of a text around its first line's end. -/
def cutA (t : ByteArray) : ByteArray := strB (Lib.cut (lst t) [10]).1
def cutB (t : ByteArray) : ByteArray := strB (Lib.cut (lst t) [10]).2.1
def cutE (t : ByteArray) : Bool := (Lib.cut (lst t) [10]).2.2
theorem cut_c (s : ByteArray) (w : World) (hm : Mx w) (hs : s.size < 4294967281) :
    Calls Tryd.prog 49 #[.string s, .string ⟨#[10]⟩] w fun e w' => e = .returned (.tuple #[.string (cutA s), .string (cutB s), .bool (cutE s)]) ∧ Below w.heap.size w w' := by
  obtain ⟨m, hm⟩ := hm
  refine (Tryd.strings_Cut s ⟨#[10]⟩ m w hs hm).mono fun e w' h => ?_
  obtain ⟨he, k, hw⟩ := h
  refine ⟨he, ?_⟩
  subst hw
  exact below_drewN (Below.refl _ _) _
theorem cut_size (t : ByteArray) : (cutA t).size ≤ t.size ∧ (cutB t).size ≤ t.size := by
  unfold cutA cutB
  rw [strB_size, strB_size, ← lst_len t]
  rcases decomp 10 (lst t) with h | ⟨x, y, h1, h2⟩
  · rw [cut_no h]; exact ⟨Nat.le_refl _, Nat.zero_le _⟩
  · rw [h1, cut_app h2]; simp; omega
theorem read_v (s : ByteArray) (w : World) (hm : Mx w) (hs : s.size ≤ 1000000) : Calls Tryd.prog 50 #[.string s] w fun e w' => ∃ (k fr td a b : Int) (ok : Bool), e = .returned (.tuple #[.agg #[.int .i64 k, .int .i64 fr, .int .i64 td, .int .i64 a, .int .i64 b], .bool ok]) ∧ SRd (lst s) ⟨k, fr, td, a, b⟩ ok ∧ Below w.heap.size w w' :=
  (read_c s w hm hs).mono fun e w' h => by
    obtain ⟨g, ok, he, hr, hb⟩ := h
    exact ⟨g 0, g 1, g 2, g 3, g 4, ok, he, hr, hb⟩
def SRules2 (l : List UInt8) (w : World) (e : Ending) (w' : World) : Prop := ∃ A n c, e = .returned (.tuple #[.slice A n c, .int .i64 (rulesG 32 [] l).2.1, .int .i64 (rulesG 32 [] l).2.2]) ∧ Rd eRu w' w'.heap.size A n c (rulesG 32 [] l).1 ∧ Below w.heap.size w w'
theorem SRules2.bad {l : List UInt8} {w w' : World} {x y : Int} (h : rulesG 32 [] l = ([], x, y)) (hb : Below w.heap.size w w') : SRules2 l w (.returned (.tuple #[.slice none 0 0, .int .i64 x, .int .i64 y])) w' :=
  ⟨none, 0, 0, by rw [h], by rw [h]; exact ⟨rfl, Nat.le_refl _, by omega, fun h => absurd h (by omega)⟩, hb⟩
theorem any_sh (out : List Ru) (r : Ru) : (out ++ [r]).any isSh = (out.any isSh || isSh r) := by simp

set_option maxRecDepth 100000 in
set_option maxHeartbeats 6400000 in
theorem oRules_c (s : ByteArray) (w : World) (hm : Mx w) (hs : s.size ≤ 65536) : Calls Tryd.prog 18 #[.string s] w (SRules2 (lst s) w) := by
  have hl : ¬ (65536 : Int) < (s.size : Int) := by omega
  go_enter Tryd.func18, Tryd.ntmps18
  go_wp2
  go_loopw [0, 5, 6, 7] (fun sv ov bv nv wr => ∃ (t : ByteArray) (A : Option Addr) (n c : Nat) (out : List Ru), sv = .string t ∧ ov = .slice A n c ∧ bv = .bool (out.any isSh) ∧ nv = .int .i64 ((n : Int) + 1) ∧ t.size ≤ 65536 ∧ n ≤ 32 ∧ Ow eRu wr w.heap.size 62 A n c out ∧ Hid (rulesG 32 [] (lst s) = rulesG (32 - n) out (lst t)) ∧ Below w.heap.size w wr) (fun _ _ _ nv _ => 40 - (intOf nv).toNat)
  case atStart => exact ⟨s, none, 0, 0, [], rfl, rfl, rfl, rfl, hs, by omega, Ow.nil _ _ _, rfl, Below.refl _ _⟩
  case round =>
    obtain ⟨t, A, n, c, out, rfl, rfl, rfl, rfl, htl, hn, ow, HG, hbw⟩ := hrel
    have hol : out.length = n := ow.len
    by_cases h0 : t.size = 0
    · have he : t = ⟨#[]⟩ := by
        obtain ⟨⟨l⟩⟩ := t
        have : l.length = 0 := h0
        rw [List.eq_nil_of_length_eq_zero this]
      subst he
      have HE := hide (show rulesG 32 [] (lst s) = (out, 0, 0) from HG.out.trans rulesG_nil)
      have HR := hide ow.rd
      clear ow h0 HG
      go_wp2
      go_ret3
      exact ⟨A, n, c, by rw [HE.out]; rfl, by rw [HE.out]; exact HR.out, hbw⟩
    · obtain ⟨hne, hnE⟩ := toList_ne (s := t) (by omega)
      have HNL := hide (show lst t ≠ [] from fun e => h0 (by rw [← lst_len, e]; rfl))
      by_cases h32 : n = 32
      · subst h32
        have HE := hide (show rulesG 32 [] (lst s) = ([], ((32 : Nat) : Int) + 1, 5) from HG.out.trans (by rw [← hol]; simp only [hol]; exact (rulesG_many HNL.out).trans (by rw [hol])))
        clear ow HG hol
        go_wp2
        go_ret3
        exact SRules2.bad HE.out hbw
      · have hnb : ((n : Int) == 32) = false := decide_eq_false (fun e => h32 (by omega))
        have hn32 : n < 32 := by omega
        obtain ⟨kk, hkk⟩ : ∃ q, 32 - n = q + 1 := ⟨32 - n - 1, by omega⟩
        rw [hkk] at HG
        have hmr := hm.on hbw
        have hcs := cut_size t
        have HCUT := hide (cut_c t wr hmr (by omega))
        have HRD := hide (fun W (h : Below wr.heap.size wr W) => read_v (cutA t) W (hmr.on h) (by omega))
        have HCA := hide (show lst (cutA t) = (Lib.cut (lst t) [10]).1 from lst_strB _)
        have HCB := hide (show lst (cutB t) = (Lib.cut (lst t) [10]).2.1 from lst_strB _)
        have HCE := hide (show cutE t = (Lib.cut (lst t) [10]).2.2 from rfl)
        have hcb : (cutB t).size ≤ 65536 := by omega
        obtain ⟨ca, hca⟩ : ∃ q, q = cutA t := ⟨_, rfl⟩
        obtain ⟨cb, hcbe⟩ : ∃ q, q = cutB t := ⟨_, rfl⟩
        obtain ⟨ce, hce⟩ : ∃ q, q = cutE t := ⟨_, rfl⟩
        rw [← hca, ← hcbe, ← hce] at HCUT
        rw [← hca] at HRD HCA
        rw [← hcbe] at HCB hcb
        rw [← hce] at HCE
        clear hca hcbe hce hcs hmr h32 h0
        go_upto_region 12 with (first | (go_at_call 49; refine HCUT.out.mono ?_; rintro e w1 ⟨rfl, hb1⟩) | (go_at_call 50; refine (HRD.out w1 hb1).mono ?_; rintro e w2 ⟨rk, rf, rt, ra, rb, ok, rfl, hr, hb2⟩))
        have hb3 := below_on hb1 hb2
        have hb4 := below_on hb3 (below_alloc w2 (.cells #[.int .i64 rk, .int .i64 rf, .int .i64 rt, .int .i64 ra, .int .i64 rb] 62))
        have hbl := Blk.newAt w2 62 #[.int .i64 rk, .int .i64 rf, .int .i64 rt, .int .i64 ra, .int .i64 rb] w2.heap.size rfl
        obtain ⟨w4, hw4⟩ : ∃ q, q = w2.alloc (.cells #[.int .i64 rk, .int .i64 rf, .int .i64 rt, .int .i64 ra, .int .i64 rb] 62) := ⟨_, rfl⟩
        rw [← hw4] at hb4 hbl ⊢
        obtain ⟨gR, hgR⟩ : ∃ q, q = w2.heap.size := ⟨_, rfl⟩
        rw [← hgR] at hbl ⊢
        have ow4 := ow.on hb4
        have hbw4 := below_on hbw hb4
        clear hw4 hgR hb1 hb2 hb3 hb4 hbw ow HCUT HRD
        cases ok
        · have HE := hide (show rulesG 32 [] (lst s) = ([], (n : Int) + 1, 6) from HG.out.trans ((rulesG_form HNL.out (.inr (by rw [← HCA.out]; exact hr))).trans (by rw [hol])))
          clear hr HG ow4
          go_wp2
          go_ret3
          exact SRules2.bad HE.out hbw4
        · have hrt : ruleAt (lst ca) = some ⟨rk, rf, rt, ra, rb⟩ := hr
          rw [HCA.out] at hrt
          cases ce
          · have HE := hide (show rulesG 32 [] (lst s) = ([], (n : Int) + 1, 6) from HG.out.trans ((rulesG_form HNL.out (.inl HCE.out.symm)).trans (by rw [hol])))
            clear hr hrt HG ow4
            go_wp2
            go_ret3
            exact SRules2.bad HE.out hbw4
          · have k0 := hbl.cell 0
            simp only [List.getElem?_toArray, List.getElem?_cons_zero] at k0
            have hR := Rd.newAt (e := eRu) w4 62 (⟨rk, rf, rt, ra, rb⟩ : Ru) #[.int .i64 rk, .int .i64 rf, .int .i64 rt, .int .i64 ra, .int .i64 rb] rfl w4.heap.size rfl
            have HOS := hide (any_sh out ⟨rk, rf, rt, ra, rb⟩)
            by_cases h3 : rk = 3
            · subst h3
              cases hsh : out.any isSh
              · have HS := hide (show rulesG 32 [] (lst s) = rulesG kk (out ++ [(⟨3, rf, rt, ra, rb⟩ : Ru)]) (lst cb) from HG.out.trans ((rulesG_step HNL.out HCE.out.symm hrt (.inr hsh)).trans (by rw [HCB.out])))
                have HSH := hide (show (out ++ [(⟨3, rf, rt, ra, rb⟩ : Ru)]).any isSh = true by rw [HOS.out]; simp [isSh])
                clear hr hrt HG HOS hsh
                go_wp2_with (first | (refine wl_load (o := ⟨some 48, _, _, _, _, _⟩) rfl 62 _ rfl gR rfl 62 #[.int .i64 3, .int .i64 rf, .int .i64 rt, .int .i64 ra, .int .i64 rb] _ hbl Tryd.underlying62 rfl (by kernel_rfl) ?_) | (at_builtin; refine wl_app eRu _ rfl (.tmp 47) (.tmp 49) _ rfl w.heap.size 62 (.agg #[.int .i64 0, .int .i64 0, .int .i64 0, .int .i64 0, .int .i64 0]) 40 Tryd.underlying45 info_ru2 rfl (by omega) _ _ _ _ (by rfl) (ow4.alloc _) _ 1 1 [(⟨3, rf, rt, ra, rb⟩ : Ru)] (by rfl) _ hR (by omega) (by have := hbw4.size; simp; omega) ?_; intro A5 c5 w9 o9 hg9 hA9))
                go_roundw
                case rel => exact ⟨cb, A5, n + 1, c5, out ++ [⟨3, rf, rt, ra, rb⟩], rfl, rfl, by rw [HSH.out], by go_num, hcb, by omega, o9, by rw [show 32 - (n + 1) = kk by omega]; exact HS.out, below_app (hbw4.alloc hbw4.size _) (ow4.alloc _) hg9 (Nat.le_refl _) (Nat.le_refl _)⟩
                case measure => simp [intOf] <;> omega
              · have HE := hide (show rulesG 32 [] (lst s) = ([], (n : Int) + 1, 10) from HG.out.trans ((rulesG_have HNL.out HCE.out.symm hrt rfl hsh).trans (by rw [hol])))
                clear hr hrt HG ow4 hR
                go_wp2
                go_ret3
                exact SRules2.bad HE.out hbw4
            · have h3b : (rk == 3) = false := decide_eq_false h3
              have hi3 : isSh ⟨rk, rf, rt, ra, rb⟩ = false := decide_eq_false h3
              have HS := hide (show rulesG 32 [] (lst s) = rulesG kk (out ++ [(⟨rk, rf, rt, ra, rb⟩ : Ru)]) (lst cb) from HG.out.trans ((rulesG_step HNL.out HCE.out.symm hrt (.inl hi3)).trans (by rw [HCB.out])))
              have HSH := hide (show (out ++ [(⟨rk, rf, rt, ra, rb⟩ : Ru)]).any isSh = out.any isSh by rw [HOS.out, hi3, Bool.or_false])
              clear hr hrt HG HOS hi3 h3
              go_wp2_with (first | (refine wl_load (o := ⟨some 48, _, _, _, _, _⟩) rfl 62 _ rfl gR rfl 62 #[.int .i64 rk, .int .i64 rf, .int .i64 rt, .int .i64 ra, .int .i64 rb] _ hbl Tryd.underlying62 rfl (by kernel_rfl) ?_) | (at_builtin; refine wl_app eRu _ rfl (.tmp 47) (.tmp 49) _ rfl w.heap.size 62 (.agg #[.int .i64 0, .int .i64 0, .int .i64 0, .int .i64 0, .int .i64 0]) 40 Tryd.underlying45 info_ru2 rfl (by omega) _ _ _ _ (by rfl) (ow4.alloc _) _ 1 1 [(⟨rk, rf, rt, ra, rb⟩ : Ru)] (by rfl) _ hR (by omega) (by have := hbw4.size; simp; omega) ?_; intro A5 c5 w9 o9 hg9 hA9))
              go_roundw
              case rel => exact ⟨cb, A5, n + 1, c5, out ++ [⟨rk, rf, rt, ra, rb⟩], rfl, rfl, by rw [HSH.out], by go_num, hcb, by omega, o9, by rw [show 32 - (n + 1) = kk by omega]; exact HS.out, below_app (hbw4.alloc hbw4.size _) (ow4.alloc _) hg9 (Nat.le_refl _) (Nat.le_refl _)⟩
              case measure => simp [intOf] <;> omega
end Go.Proofs.YthdidjnhfkeokaaDoor
