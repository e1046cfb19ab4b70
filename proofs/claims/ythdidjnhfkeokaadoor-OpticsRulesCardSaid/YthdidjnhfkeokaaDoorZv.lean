/- Contract of the reference's Rules. -/
import Derived.Test.YthdidjnhfkeokaaDoorZs
import Derived.Test.YthdidjnhfkeokaaDoorZt
import Derived.Test.YthdidjnhfkeokaaDoorZu
namespace Go.Proofs.YthdidjnhfkeokaaDoor
open Go.RowKit

theorem cut_at {l : List UInt8} {e : Nat} (hno : (10 : UInt8) ∉ l.take e) (h : l[e]? = some 10) : Lib.cut l [10] = (l.take e, l.drop (e + 1), true) := by
  have he : e < l.length := (List.getElem?_eq_some_iff.1 h).1
  have hs : l = l.take e ++ 10 :: l.drop (e + 1) := by
    conv => lhs; rw [← List.take_append_drop e l, List.drop_eq_getElem_cons he]
    rw [(List.getElem?_eq_some_iff.1 h).2]
  have := cut_app hno (l.drop (e + 1))
  rw [← hs] at this
  exact this
theorem lst_extract0 (t : ByteArray) (e : Nat) : lst (t.extract 0 e) = (lst t).take e := by rw [extract_strB, lst_strB]; simp
theorem lst_extract1 (t : ByteArray) (e : Nat) : lst (t.extract (e + 1) t.size) = (lst t).drop (e + 1) := by
  rw [extract_strB, lst_strB]
  exact List.take_of_length_le (by rw [List.length_drop, lst_len]; omega)
theorem extract0_size (t : ByteArray) {e : Nat} (h : e ≤ t.size) : (t.extract 0 e).size = e := by rw [← lst_len, lst_extract0, List.length_take, lst_len]; omega
theorem extract1_size (t : ByteArray) {e : Nat} (h : e < t.size) : (t.extract (e + 1) t.size).size ≤ t.size := by rw [← lst_len (t.extract _ _), lst_extract1, List.length_drop, lst_len]; omega
theorem rread_v (s : ByteArray) (w : World) (hs : s.size ≤ 1000000) : Calls Tryd.prog 51 #[.string s] w fun e w' => ∃ (k fr td a b : Int), e = .returned (.agg #[.int .i64 k, .int .i64 fr, .int .i64 td, .int .i64 a, .int .i64 b]) ∧ SRr (lst s) ⟨k, fr, td, a, b⟩ ∧ Below w.heap.size w w' :=
  (rread_c s w hs).mono fun e w' h => by
    obtain ⟨r, he, hr, hb⟩ := h
    exact ⟨r.k, r.fr, r.to, r.a, r.b, he, hr, hb⟩

set_option maxRecDepth 100000 in
set_option maxHeartbeats 12800000 in
theorem rRules_c (s : ByteArray) (w : World) (hs : s.size ≤ 65536) : Calls Tryd.prog 19 #[.string s] w (SRules2 (lst s) w) := by
  have hl : ¬ (65536 : Int) < (s.size : Int) := by omega
  go_enter Tryd.func19, Tryd.ntmps19
  go_wp2
  go_loopw [0, 5, 6, 7] (fun sv ov bv nv wr => ∃ (t : ByteArray) (A : Option Addr) (n c : Nat) (out : List Ru), sv = .string t ∧ ov = .slice A n c ∧ bv = .bool (out.any isSh) ∧ nv = .int .i64 ((n : Int) + 1) ∧ t.size ≤ 65536 ∧ n ≤ 32 ∧ Ow eRu wr w.heap.size 62 A n c out ∧ Hid (rulesG 32 [] (lst s) = rulesG (32 - n) out (lst t)) ∧ Below w.heap.size w wr) (fun _ _ _ nv _ => 40 - (intOf nv).toNat)
  case atStart => exact ⟨s, none, 0, 0, [], rfl, rfl, rfl, rfl, hs, by omega, Ow.nil _ _ _, rfl, Below.refl _ _⟩
  case round =>
    obtain ⟨t, A, n, c, out, rfl, rfl, rfl, rfl, htl, hn, ow, HG, hbw⟩ := hrel
    have hol : out.length = n := ow.len
    by_cases h0 : t.size = 0
    · have he : t = ⟨#[]⟩ := by
        obtain ⟨⟨l⟩⟩ := t
        have : l.length = 0 := h0
        rw [List.eq_nil_of_length_eq_zero this]
      subst he
      have HE := hide (show rulesG 32 [] (lst s) = (out, 0, 0) from HG.out.trans rulesG_nil)
      have HR := hide ow.rd
      clear ow h0 HG
      go_wp2
      go_ret3
      exact ⟨A, n, c, by rw [HE.out]; rfl, by rw [HE.out]; exact HR.out, hbw⟩
    · obtain ⟨hne, hnE⟩ := toList_ne (s := t) (by omega)
      have HNL := hide (show lst t ≠ [] from fun e => h0 (by rw [← lst_len, e]; rfl))
      have HBC := hide (fun i (h : i < t.size) => (⟨_, rfl, ⟨_, lst_get t i h, rfl⟩, (t[i]'h).toNat_lt⟩ : ∃ x, (t[i]'h).toNat = x ∧ Hid (∃ b : UInt8, (lst t)[i]? = some b ∧ b.toNat = x) ∧ x < 256))
      have HLN := hide (lst_len t)
      obtain ⟨w3, hw3⟩ : ∃ q, q = wr := ⟨_, rfl⟩
      rw [← hw3] at ow hbw ⊢
      have HOW := hide ow
      clear h0 hw3 ow
      go_upto_region 8 with fail
      go_wp2
      go_loopw [8] (fun ev wr => ∃ e : Nat, e ≤ t.size ∧ ev = .int .i64 e ∧ wr = w3 ∧ Hid ((10 : UInt8) ∉ (lst t).take e)) (fun ev _ => t.size - (intOf ev).toNat)
      case atStart => exact ⟨0, Nat.zero_le _, rfl, rfl, (show (10 : UInt8) ∉ (lst t).take 0 by simp)⟩
      case round =>
        obtain ⟨e, he, rfl, hwe, HNO⟩ := hrel
        rw [hwe]
        clear hwe
        have HTL := hide (And.intro (lst_extract0 t e) (extract0_size t he))
        by_cases hlt : e < t.size
        · obtain ⟨x, hx, HX, hx256⟩ := HBC.out e hlt
          have hlti : (e : Int) < (t.size : Int) := by omega
          by_cases h10 : x = 10
          · have hnx : ((x : Int) == 10) = true := by rw [h10]; rfl
            have hnx2 : ((x : Int) != 10) = false := by rw [bne, hnx]; rfl
            have HCU := hide (show Lib.cut (lst t) [10] = ((lst t).take e, (lst t).drop (e + 1), true) from cut_at HNO.out (by
              obtain ⟨b, hb, hbx⟩ := HX.out
              have : b = 10 := UInt8.toNat_inj.1 (by rw [hbx, h10]; rfl)
              rw [← this]; exact hb))
            have heb : ((e : Int) == (t.size : Int)) = false := decide_eq_false (fun h => by omega)
            have HT1 := hide (And.intro (lst_extract1 t e) (extract1_size t hlt))
            clear h10
            have hle0 : (0 : Int) ≤ (e : Int) := by omega
            have hle1 : (e : Int) ≤ (t.size : Int) := by omega
            by_cases h32 : n = 32
            · subst h32
              have HE := hide (show rulesG 32 [] (lst s) = ([], ((32 : Nat) : Int) + 1, 5) from HG.out.trans (by rw [← hol]; simp only [hol]; exact (rulesG_many HNL.out).trans (by rw [hol])))
              clear HG hol
              go_wp2
              go_ret3
              exact SRules2.bad HE.out hbw
            · have hnb : ((n : Int) == 32) = false := decide_eq_false (fun e => h32 (by omega))
              have hn32 : n < 32 := by omega
              obtain ⟨kk, hkk⟩ : ∃ q, 32 - n = q + 1 := ⟨32 - n - 1, by omega⟩
              rw [hkk] at HG
              obtain ⟨ca, hca⟩ : ∃ q, q = t.extract 0 e := ⟨_, rfl⟩
              have HCA := hide (show lst ca = (Lib.cut (lst t) [10]).1 by rw [hca, HTL.out.1, HCU.out])
              have hcas : ca.size ≤ 1000000 := by rw [hca, HTL.out.2]; omega
              have HCE := hide (show (Lib.cut (lst t) [10]).2.2 = true by rw [HCU.out])
              have HRD := hide (fun W => rread_v ca W hcas)
              rw [hca] at HRD
              have HCAE := hide hca
              clear hcas h32 hca
              go_upto_region 14 with (go_at_call 51; refine (HRD.out w3).mono ?_; rintro e9 w4 ⟨rk, rf, rt, ra, rb, rfl, hr, hb4⟩)
              rw [← HCAE.out] at hr
              have hb5 := below_on hb4 (below_alloc w4 (.cells #[.int .i64 rk, .int .i64 rf, .int .i64 rt, .int .i64 ra, .int .i64 rb] 62))
              have hbl := Blk.newAt w4 62 #[.int .i64 rk, .int .i64 rf, .int .i64 rt, .int .i64 ra, .int .i64 rb] w4.heap.size rfl
              obtain ⟨w5, hw5⟩ : ∃ q, q = w4.alloc (.cells #[.int .i64 rk, .int .i64 rf, .int .i64 rt, .int .i64 ra, .int .i64 rb] 62) := ⟨_, rfl⟩
              rw [← hw5] at hb5 hbl ⊢
              obtain ⟨gR, hgR⟩ : ∃ q, q = w4.heap.size := ⟨_, rfl⟩
              rw [← hgR] at hbl ⊢
              clear hw5 hgR hb4 HRD
              have HLI := hide (rline_c ⟨rk, rf, rt, ra, rb⟩ w5)
              cases hok : okRu ⟨rk, rf, rt, ra, rb⟩
              · have HE := hide (show rulesG 32 [] (lst s) = ([], (n : Int) + 1, 6) from HG.out.trans ((rulesG_form HNL.out (.inr (by rw [← HCA.out]; exact hr.no (.inl hok)))).trans (by rw [hol])))
                have HL2 := hide (show Calls Tryd.prog 22 #[.agg #[.int .i64 rk, .int .i64 rf, .int .i64 rt, .int .i64 ra, .int .i64 rb]] w5 fun e w' => e = .returned (.tuple #[.string ByteArray.empty, .int .i64 2]) ∧ Below w5.heap.size w5 w' from HLI.out.mono fun e w' h => by
                  unfold SLine lineB ruErr at h
                  rw [hok] at h
                  exact h)
                clear hok hr HG HLI
                go_wp2_with (first | (refine wl_load (o := ⟨some 40, _, _, _, _, _⟩) rfl 62 _ rfl gR rfl 62 #[.int .i64 rk, .int .i64 rf, .int .i64 rt, .int .i64 ra, .int .i64 rb] _ hbl Tryd.underlying62 rfl (by kernel_rfl) ?_) | (go_at_call 22; refine HL2.out.mono ?_; rintro e9 w6 ⟨rfl, hb6⟩))
                go_ret3
                exact SRules2.bad HE.out (below_on (below_on hbw hb5) hb6)
              · have HL2 := hide (show Calls Tryd.prog 22 #[.agg #[.int .i64 rk, .int .i64 rf, .int .i64 rt, .int .i64 ra, .int .i64 rb]] w5 fun e w' => e = .returned (.tuple #[.string (strB (lineL ⟨rk, rf, rt, ra, rb⟩)), .int .i64 0]) ∧ Below w5.heap.size w5 w' from HLI.out.mono fun e w' h => by
                  unfold SLine lineB ruErr at h
                  rw [hok] at h
                  exact h)
                obtain ⟨li, hli⟩ : ∃ q, q = strB (lineL ⟨rk, rf, rt, ra, rb⟩) := ⟨_, rfl⟩
                rw [← hli] at HL2
                clear HLI
                by_cases heq : li = ca
                · have hst : (li.toList == (t.extract 0 e).toList) = true := by rw [heq, HCAE.out]; simp
                  have hst2 : (li.toList != (t.extract 0 e).toList) = false := by rw [bne, hst]; rfl
                  have hra : ruleAt (Lib.cut (lst t) [10]).1 = some ⟨rk, rf, rt, ra, rb⟩ := by rw [← HCA.out]; exact ruleAt_some hok (by rw [← heq, hli, lst_strB])
                  clear heq hli hr hok
                  obtain ⟨cb, hcb⟩ : ∃ q, q = t.extract (e + 1) t.size := ⟨_, rfl⟩
                  have HCB := hide (show lst cb = (Lib.cut (lst t) [10]).2.1 by rw [hcb, HT1.out.1, HCU.out])
                  have hcbs : cb.size ≤ 65536 := by have := HT1.out.2; rw [hcb]; omega
                  have HCBE := hide hcb
                  clear hcb
                  go_upto_region 15 with (first | (refine wl_load (o := ⟨some 40, _, _, _, _, _⟩) rfl 62 _ rfl gR rfl 62 #[.int .i64 rk, .int .i64 rf, .int .i64 rt, .int .i64 ra, .int .i64 rb] _ hbl Tryd.underlying62 rfl (by kernel_rfl) ?_) | (go_at_call 22; refine HL2.out.mono ?_; rintro e9 w6 ⟨rfl, hb6⟩))
                  have hbl6 := hbl.keep hb6
                  have hb7 := below_on hb5 hb6
                  have ow6 := HOW.out.on hb7
                  have hbw6 := below_on hbw hb7
                  clear hbl hb5 hb6 hb7 HL2
                  go_upto_region 17 with fail
                  clear hst hst2 hnx hnx2 hx
                  have k0 := hbl6.cell 0
                  simp only [List.getElem?_toArray, List.getElem?_cons_zero] at k0
                  have hR := Rd.newAt (e := eRu) w6 62 (⟨rk, rf, rt, ra, rb⟩ : Ru) #[.int .i64 rk, .int .i64 rf, .int .i64 rt, .int .i64 ra, .int .i64 rb] rfl w6.heap.size rfl
                  have HOS := hide (any_sh out ⟨rk, rf, rt, ra, rb⟩)
                  have hle2 : (0 : Int) ≤ (e : Int) + 1 := by omega
                  have hle3 : (e : Int) + 1 ≤ (t.size : Int) := by omega
                  by_cases h3 : rk = 3
                  · subst h3
                    cases hsh : out.any isSh
                    · have HS := hide (show rulesG 32 [] (lst s) = rulesG kk (out ++ [(⟨3, rf, rt, ra, rb⟩ : Ru)]) (lst cb) from HG.out.trans ((rulesG_step HNL.out HCE.out hra (.inr hsh)).trans (by rw [HCB.out])))
                      have HSH := hide (show (out ++ [(⟨3, rf, rt, ra, rb⟩ : Ru)]).any isSh = true by rw [HOS.out]; simp [isSh])
                      clear hra HG HOS hsh
                      go_upto_region 20 with fail
                      go_upto_region 21 with (first | (refine wl_load (o := ⟨some 74, _, _, _, _, _⟩) rfl 62 _ rfl gR rfl 62 #[.int .i64 3, .int .i64 rf, .int .i64 rt, .int .i64 ra, .int .i64 rb] _ hbl6 Tryd.underlying62 rfl (by kernel_rfl) ?_) | (at_builtin; refine wl_app eRu _ rfl (.tmp 73) (.tmp 75) _ rfl w.heap.size 62 (.agg #[.int .i64 0, .int .i64 0, .int .i64 0, .int .i64 0, .int .i64 0]) 40 Tryd.underlying45 info_ru2 rfl (by omega) _ _ _ _ (by rfl) (ow6.alloc _) _ 1 1 [(⟨3, rf, rt, ra, rb⟩ : Ru)] (by rfl) _ hR (by omega) (by have := hbw6.size; simp; omega) ?_; intro A5 c5 w9 o9 hg9 hA9))
                      go_upto_region 7 with fail
                      go_wp2
                      go_roundw
                      case rel => exact ⟨cb, A5, n + 1, c5, out ++ [(⟨3, rf, rt, ra, rb⟩ : Ru)], by rw [HCBE.out], rfl, by rw [HSH.out], by go_num, hcbs, by omega, o9, by rw [show 32 - (n + 1) = kk by omega]; exact HS.out, below_app (hbw6.alloc hbw6.size _) (ow6.alloc _) hg9 (Nat.le_refl _) (Nat.le_refl _)⟩
                      case measure => simp [intOf] <;> omega
                    · have HE := hide (show rulesG 32 [] (lst s) = ([], (n : Int) + 1, 10) from HG.out.trans ((rulesG_have HNL.out HCE.out hra rfl hsh).trans (by rw [hol])))
                      clear hra HG ow6 hR
                      go_wp2
                      go_ret3
                      exact SRules2.bad HE.out hbw6
                  · have h3b : (rk == 3) = false := decide_eq_false h3
                    have hi3 : isSh ⟨rk, rf, rt, ra, rb⟩ = false := decide_eq_false h3
                    have HS := hide (show rulesG 32 [] (lst s) = rulesG kk (out ++ [(⟨rk, rf, rt, ra, rb⟩ : Ru)]) (lst cb) from HG.out.trans ((rulesG_step HNL.out HCE.out hra (.inl hi3)).trans (by rw [HCB.out])))
                    have HSH := hide (show (out ++ [(⟨rk, rf, rt, ra, rb⟩ : Ru)]).any isSh = out.any isSh by rw [HOS.out, hi3, Bool.or_false])
                    clear hra HG HOS hi3 h3
                    cases hsh : out.any isSh
                    · rw [hsh] at HSH
                      clear hsh
                      go_upto_region 20 with fail
                      go_upto_region 21 with (first | (refine wl_load (o := ⟨some 74, _, _, _, _, _⟩) rfl 62 _ rfl gR rfl 62 #[.int .i64 rk, .int .i64 rf, .int .i64 rt, .int .i64 ra, .int .i64 rb] _ hbl6 Tryd.underlying62 rfl (by kernel_rfl) ?_) | (at_builtin; refine wl_app eRu _ rfl (.tmp 73) (.tmp 75) _ rfl w.heap.size 62 (.agg #[.int .i64 0, .int .i64 0, .int .i64 0, .int .i64 0, .int .i64 0]) 40 Tryd.underlying45 info_ru2 rfl (by omega) _ _ _ _ (by rfl) (ow6.alloc _) _ 1 1 [(⟨rk, rf, rt, ra, rb⟩ : Ru)] (by rfl) _ hR (by omega) (by have := hbw6.size; simp; omega) ?_; intro A5 c5 w9 o9 hg9 hA9))
                      go_upto_region 7 with fail
                      go_wp2
                      go_roundw
                      case rel => exact ⟨cb, A5, n + 1, c5, out ++ [(⟨rk, rf, rt, ra, rb⟩ : Ru)], by rw [HCBE.out], rfl, by rw [HSH.out], by go_num, hcbs, by omega, o9, by rw [show 32 - (n + 1) = kk by omega]; exact HS.out, below_app (hbw6.alloc hbw6.size _) (ow6.alloc _) hg9 (Nat.le_refl _) (Nat.le_refl _)⟩
                      case measure => simp [intOf] <;> omega
                    · rw [hsh] at HSH
                      clear hsh
                      go_upto_region 20 with fail
                      go_upto_region 21 with (first | (refine wl_load (o := ⟨some 74, _, _, _, _, _⟩) rfl 62 _ rfl gR rfl 62 #[.int .i64 rk, .int .i64 rf, .int .i64 rt, .int .i64 ra, .int .i64 rb] _ hbl6 Tryd.underlying62 rfl (by kernel_rfl) ?_) | (at_builtin; refine wl_app eRu _ rfl (.tmp 73) (.tmp 75) _ rfl w.heap.size 62 (.agg #[.int .i64 0, .int .i64 0, .int .i64 0, .int .i64 0, .int .i64 0]) 40 Tryd.underlying45 info_ru2 rfl (by omega) _ _ _ _ (by rfl) (ow6.alloc _) _ 1 1 [(⟨rk, rf, rt, ra, rb⟩ : Ru)] (by rfl) _ hR (by omega) (by have := hbw6.size; simp; omega) ?_; intro A5 c5 w9 o9 hg9 hA9))
                      go_upto_region 7 with fail
                      go_wp2
                      go_roundw
                      case rel => exact ⟨cb, A5, n + 1, c5, out ++ [(⟨rk, rf, rt, ra, rb⟩ : Ru)], by rw [HCBE.out], rfl, by rw [HSH.out], by go_num, hcbs, by omega, o9, by rw [show 32 - (n + 1) = kk by omega]; exact HS.out, below_app (hbw6.alloc hbw6.size _) (ow6.alloc _) hg9 (Nat.le_refl _) (Nat.le_refl _)⟩
                      case measure => simp [intOf] <;> omega
                · have HE := hide (show rulesG 32 [] (lst s) = ([], (n : Int) + 1, 6) from HG.out.trans ((rulesG_form HNL.out (.inr (by rw [← HCA.out]; exact hr.no (.inr (fun h => heq (by rw [hli, h, strB_lst])))))).trans (by rw [hol])))
                  have hst : (li.toList == (t.extract 0 e).toList) = false := by
                    rw [← HCAE.out, beq_eq_false_iff_ne]
                    intro h
                    rw [Lib.toList_data, Lib.toList_data] at h
                    exact heq (lst_inj h)
                  have hst2 : (li.toList != (t.extract 0 e).toList) = true := by rw [bne, hst]; rfl
                  clear hok hr HG heq hli
                  go_wp2_with (first | (refine wl_load (o := ⟨some 40, _, _, _, _, _⟩) rfl 62 _ rfl gR rfl 62 #[.int .i64 rk, .int .i64 rf, .int .i64 rt, .int .i64 ra, .int .i64 rb] _ hbl Tryd.underlying62 rfl (by kernel_rfl) ?_) | (go_at_call 22; refine HL2.out.mono ?_; rintro e9 w6 ⟨rfl, hb6⟩))
                  go_ret3
                  exact SRules2.bad HE.out (below_on (below_on hbw hb5) hb6)
          · have hnx : ((x : Int) == 10) = false := decide_eq_false (fun h => h10 (by omega))
            have hnx2 : ((x : Int) != 10) = true := by rw [bne, hnx]; rfl
            have HNO2 := hide (show (10 : UInt8) ∉ (lst t).take (e + 1) by
              obtain ⟨b, hb, hbx⟩ := HX.out
              rw [List.take_add_one, hb]
              simp only [Option.toList_some, List.mem_append, List.mem_singleton, not_or]
              exact ⟨HNO.out, fun h => h10 (by rw [← hbx, ← h]; rfl)⟩)
            clear h10
            go_wp2
            go_roundw
            case rel => exact ⟨e + 1, by omega, by go_num, trivial, HNO2⟩
            case measure => simp [intOf] <;> omega
        · obtain rfl : e = t.size := by omega
          have HCU := hide (show Lib.cut (lst t) [10] = ((lst t).take t.size, [], false) from by
            have h1 := HNO.out
            have h2 : (lst t).take t.size = lst t := List.take_of_length_le (by rw [HLN.out]; exact Nat.le_refl _)
            rw [h2] at h1 ⊢
            exact cut_no h1)
          have heb : ((t.size : Int) == (t.size : Int)) = true := by simp
          have hle0 : (0 : Int) ≤ (t.size : Int) := by omega
          have hle1 : (t.size : Int) ≤ (t.size : Int) := by omega
          by_cases h32 : n = 32
          · subst h32
            have HE := hide (show rulesG 32 [] (lst s) = ([], ((32 : Nat) : Int) + 1, 5) from HG.out.trans (by rw [← hol]; simp only [hol]; exact (rulesG_many HNL.out).trans (by rw [hol])))
            clear HG hol
            go_wp2
            go_ret3
            exact SRules2.bad HE.out hbw
          · have hnb : ((n : Int) == 32) = false := decide_eq_false (fun e => h32 (by omega))
            have hn32 : n < 32 := by omega
            obtain ⟨kk, hkk⟩ : ∃ q, 32 - n = q + 1 := ⟨32 - n - 1, by omega⟩
            rw [hkk] at HG
            obtain ⟨ca, hca⟩ : ∃ q, q = t := ⟨_, rfl⟩
            have HCA := hide (show lst ca = (Lib.cut (lst t) [10]).1 by rw [hca, HCU.out]; exact (List.take_of_length_le (by rw [HLN.out]; exact Nat.le_refl _)).symm)
            have hcas : ca.size ≤ 1000000 := by rw [hca]; omega
            have HCE := hide (show (Lib.cut (lst t) [10]).2.2 = false by rw [HCU.out])
            have HRD := hide (fun W => rread_v ca W hcas)
            rw [hca] at HRD
            have HCAE := hide hca
            clear hcas h32 hca
            go_upto_region 14 with (go_at_call 51; refine (HRD.out w3).mono ?_; rintro e9 w4 ⟨rk, rf, rt, ra, rb, rfl, hr, hb4⟩)
            rw [← HCAE.out] at hr
            have hb5 := below_on hb4 (below_alloc w4 (.cells #[.int .i64 rk, .int .i64 rf, .int .i64 rt, .int .i64 ra, .int .i64 rb] 62))
            have hbl := Blk.newAt w4 62 #[.int .i64 rk, .int .i64 rf, .int .i64 rt, .int .i64 ra, .int .i64 rb] w4.heap.size rfl
            obtain ⟨w5, hw5⟩ : ∃ q, q = w4.alloc (.cells #[.int .i64 rk, .int .i64 rf, .int .i64 rt, .int .i64 ra, .int .i64 rb] 62) := ⟨_, rfl⟩
            rw [← hw5] at hb5 hbl ⊢
            obtain ⟨gR, hgR⟩ : ∃ q, q = w4.heap.size := ⟨_, rfl⟩
            rw [← hgR] at hbl ⊢
            clear hw5 hgR hb4 HRD
            have HLI := hide (rline_c ⟨rk, rf, rt, ra, rb⟩ w5)
            cases hok : okRu ⟨rk, rf, rt, ra, rb⟩
            · have HE := hide (show rulesG 32 [] (lst s) = ([], (n : Int) + 1, 6) from HG.out.trans ((rulesG_form HNL.out (.inr (by rw [← HCA.out]; exact hr.no (.inl hok)))).trans (by rw [hol])))
              have HL2 := hide (show Calls Tryd.prog 22 #[.agg #[.int .i64 rk, .int .i64 rf, .int .i64 rt, .int .i64 ra, .int .i64 rb]] w5 fun e w' => e = .returned (.tuple #[.string ByteArray.empty, .int .i64 2]) ∧ Below w5.heap.size w5 w' from HLI.out.mono fun e w' h => by
                unfold SLine lineB ruErr at h
                rw [hok] at h
                exact h)
              clear hok hr HG HLI
              go_wp2_with (first | (refine wl_load (o := ⟨some 40, _, _, _, _, _⟩) rfl 62 _ rfl gR rfl 62 #[.int .i64 rk, .int .i64 rf, .int .i64 rt, .int .i64 ra, .int .i64 rb] _ hbl Tryd.underlying62 rfl (by kernel_rfl) ?_) | (go_at_call 22; refine HL2.out.mono ?_; rintro e9 w6 ⟨rfl, hb6⟩))
              go_ret3
              exact SRules2.bad HE.out (below_on (below_on hbw hb5) hb6)
            · have HL2 := hide (show Calls Tryd.prog 22 #[.agg #[.int .i64 rk, .int .i64 rf, .int .i64 rt, .int .i64 ra, .int .i64 rb]] w5 fun e w' => e = .returned (.tuple #[.string (strB (lineL ⟨rk, rf, rt, ra, rb⟩)), .int .i64 0]) ∧ Below w5.heap.size w5 w' from HLI.out.mono fun e w' h => by
                unfold SLine lineB ruErr at h
                rw [hok] at h
                exact h)
              obtain ⟨li, hli⟩ : ∃ q, q = strB (lineL ⟨rk, rf, rt, ra, rb⟩) := ⟨_, rfl⟩
              rw [← hli] at HL2
              clear HLI
              by_cases heq : li = ca
              · have hst : (li.toList == (t).toList) = true := by rw [heq, HCAE.out]; simp
                have hst2 : (li.toList != (t).toList) = false := by rw [bne, hst]; rfl
                have hra : ruleAt (Lib.cut (lst t) [10]).1 = some ⟨rk, rf, rt, ra, rb⟩ := by rw [← HCA.out]; exact ruleAt_some hok (by rw [← heq, hli, lst_strB])
                clear heq hli hr hok
                have HE := hide (show rulesG 32 [] (lst s) = ([], (n : Int) + 1, 6) from HG.out.trans ((rulesG_form HNL.out (.inl HCE.out)).trans (by rw [hol])))
                clear HG hra
                go_wp2_with (first | (refine wl_load (o := ⟨some 40, _, _, _, _, _⟩) rfl 62 _ rfl gR rfl 62 #[.int .i64 rk, .int .i64 rf, .int .i64 rt, .int .i64 ra, .int .i64 rb] _ hbl Tryd.underlying62 rfl (by kernel_rfl) ?_) | (go_at_call 22; refine HL2.out.mono ?_; rintro e9 w6 ⟨rfl, hb6⟩))
                go_ret3
                exact SRules2.bad HE.out (below_on (below_on hbw hb5) hb6)
              · have HE := hide (show rulesG 32 [] (lst s) = ([], (n : Int) + 1, 6) from HG.out.trans ((rulesG_form HNL.out (.inr (by rw [← HCA.out]; exact hr.no (.inr (fun h => heq (by rw [hli, h, strB_lst])))))).trans (by rw [hol])))
                have hst : (li.toList == (t).toList) = false := by
                  rw [← HCAE.out, beq_eq_false_iff_ne]
                  intro h
                  rw [Lib.toList_data, Lib.toList_data] at h
                  exact heq (lst_inj h)
                have hst2 : (li.toList != (t).toList) = true := by rw [bne, hst]; rfl
                clear hok hr HG heq hli
                go_wp2_with (first | (refine wl_load (o := ⟨some 40, _, _, _, _, _⟩) rfl 62 _ rfl gR rfl 62 #[.int .i64 rk, .int .i64 rf, .int .i64 rt, .int .i64 ra, .int .i64 rb] _ hbl Tryd.underlying62 rfl (by kernel_rfl) ?_) | (go_at_call 22; refine HL2.out.mono ?_; rintro e9 w6 ⟨rfl, hb6⟩))
                go_ret3
                exact SRules2.bad HE.out (below_on (below_on hbw hb5) hb6)
end Go.Proofs.YthdidjnhfkeokaaDoor
