/- Contract of optics.Carry. -/
import Derived.Test.YtchhkokpjdkkiaaTopSiftsa10
import Derived.StillTailTactics
namespace Go.Proofs.Ytchhkokpjdkkiaa
open Go.RowKit

set_option maxRecDepth 100000 in
set_option maxHeartbeats 12800000 in
theorem carry_c (A : Option Addr) (n c : Nat) (L : List Ru) (A' : Option Addr) (n' c' : Nat) (P : List Pu) (s : Nat) (w : World) (r : Rd eRu w w.heap.size A n c L) (p : Rd ePu w w.heap.size A' n' c' P) :
    Calls Try.prog 38 #[.slice A n c, .slice A' n' c', .int .u64 (s : Int)] w (SCar L P s w) := by
  have hm := r.max
  have hcap := r.cap
  have hm' := p.max
  have hcap' := p.cap
  have HL := hide r.len
  have HP := hide p.len
  have hcr := checkRules_c A n c L w r
  have hval : ∀ w1, Below w.heap.size w w1 → Calls Try.prog 66 #[.slice A' n' c'] w1 fun e w' => e = .returned (.int .i64 (pulsesErr P)) ∧ Below w1.heap.size w1 w' := fun w1 hb => valid_c A' n' c' P w1 (p.on hb)
  by_cases h0 : rulesErr L = 0
  · rw [h0] at hcr
    have HCR := hide hcr
    have HZ := hide (rulesErr_zero h0)
    have HE := hide (carryErr_pulses (P := P) h0)
    clear hcr h0
    by_cases h1 : pulsesErr P = 0
    · rw [h1] at hval
      have HQ := hide (pulsesErr_zero h1)
      have HEZ := hide (show carryErr L P = 0 by rw [HE.out, h1])
      clear h1 HE
      have hn2 : n ≤ 32 := by have := HZ.out.1; have := HL.out; omega
      have hn2' : n' ≤ 4096 := by have := HQ.out.1; have := HP.out; omega
      go_enter Try.func38, Try.ntmps38
      go_upto_region 7 with (first | (go_at_call 35; refine HCR.out.mono ?_; rintro e w1 ⟨rfl, hb1⟩; have HV := hide (hval w1 hb1)) | (go_at_call 66; refine HV.out.mono ?_; rintro e w2 ⟨rfl, hb2⟩))
      have hb := below_on hb1 hb2
      have HD := hide (new_c s w2)
      have hD1 : Dr (w2.alloc (.cells #[.int .u64 (s : Int), .bool true] 195)) w2.heap.size s := Blk.new _ _ _
      clear hval HV HCR
      go_upto_region 8 with (first | (go_at_call 67; refine HD.out.mono ?_; rintro e w3 ⟨rfl, _, rfl⟩) | (go_at_call 68; refine (acts_c _).mono ?_; rintro e w5 ⟨rfl, k1, k2, k3⟩; have k1' := hide k1; have k3' := hide k3; clear k1 k3; have BD := Blk.new w5 162 #[.nilFunc, .nilFunc, .nilFunc, .nilFunc, .nilFunc, .nilFunc, .nilFunc, .nilFunc]) | (refine wl_store (o := ⟨none, _, _, _, _, _⟩) rfl 162 _ _ rfl w5.heap.size (actV _) rfl rfl 162 _ BD info_acts rfl (by simp [actV, Value.oneCell']) ?_; intro w6 hA6 hg6))
      have hW4 : ((w2.alloc (.cells #[.int .u64 (s : Int), .bool true] 195)).alloc (.cells #[.slice none 0 0] 159)).heap.size = w2.heap.size + 1 + 1 := by simp
      have hD4 : Dr ((w2.alloc (.cells #[.int .u64 (s : Int), .bool true] 195)).alloc (.cells #[.slice none 0 0] 159)) w2.heap.size s := Blk.alloc hD1 _
      have hE4 := Blk.newAt (w2.alloc (.cells #[.int .u64 (s : Int), .bool true] 195)) 159 #[.slice none 0 0] (w2.heap.size + 1) (by simp)
      have hb4 : Below w.heap.size w ((w2.alloc (.cells #[.int .u64 (s : Int), .bool true] 195)).alloc (.cells #[.slice none 0 0] 159)) := (hb.alloc hb.size _).alloc (by have := hb.size; simp; omega) _
      have k1 := k1'.out
      have k3 := k3'.out
      have hD5 : Dr w5 w2.heap.size s := Blk.keep hD4 k2
      have hE5 := hE4.keep k2
      have hb5 := below_on hb4 k2
      rw [hW4] at k1 k3
      have f6 : Fr (fun i => i = w5.heap.size) w5 w6 := ((Fr.refl _ w5).alloc _).trans (Fr.of_grown (T := fun i => i = w5.heap.size) hg6 (fun k e => by injection e with e; exact e.symm)) (fun _ _ c => c)
      have hD6 : Dr w6 w2.heap.size s := Blk.fr hD5 f6 (by omega)
      have hE6 := hE5.fr f6 (by omega)
      have hC6 : Env w6 (w2.heap.size + 1 + 1) w5.heap.size := ⟨⟨Blk.fr k1.1 f6 (by omega), Blk.fr k1.2.1 f6 (by omega), Blk.fr k1.2.2.1 f6 (by omega), Blk.fr k1.2.2.2 f6 (by omega)⟩, hA6⟩
      have hb6 : Below w.heap.size w w6 := hb5.trans ((f6.below (B := w5.heap.size) (fun i c => by omega) (Nat.le_refl _)).mono hb5.size)
      have hsz := hb.size
      have hlt6 := hA6.lt
      clear hb1 hb2 hb HD hD1 BD k1' k3' k1 k2 hA6 hg6 hW4 hD4 hE4 hb4 hD5 hE5 hb5 f6
      obtain ⟨D, hDe⟩ : ∃ d, d = w2.heap.size := ⟨_, rfl⟩
      rw [← hDe] at hD6 hE6 hC6 k3 hsz ⊢
      obtain ⟨E, hEe⟩ : ∃ d, d = D + 1 := ⟨_, rfl⟩
      rw [← hEe] at hE6 hC6 k3 ⊢
      obtain ⟨gA, hAe⟩ : ∃ d, d = E + 1 := ⟨_, rfl⟩
      rw [← hAe] at hC6 k3 ⊢
      obtain ⟨gDo, hoe⟩ : ∃ d, d = w5.heap.size := ⟨_, rfl⟩
      rw [← hoe] at hC6 k3 hlt6 ⊢
      have HDE := hide hEe
      have HAE := hide hAe
      clear hDe hEe hAe hoe
      go_wp2_with (at_make; refine wl_mk eLi _ rfl _ _ _ rfl 165 (.agg #[.int .i64 0, .int .i64 0, .bool false, .bool false]) 24 li0 Try.underlying116 info_li rfl (by omega) _ _ n' (by rfl) (by rfl) rfl rfl (by omega) ?_; intro w7 o7 hg7 hlt7)
      have f7 : Fr (fun _ => False) w6 w7 := Fr.of_grown hg7 (fun k e => by cases e)
      have hD7 : Dr w7 D s := Blk.fr hD6 f7 (fun h => h)
      have hE7 := hE6.fr f7 (fun h => h)
      have hC7 : Env w7 gA gDo := hC6.fr f7 (fun h => h) (fun h => h) (fun h => h) (fun h => h) (fun h => h)
      have hb7 : Below w.heap.size w w7 := hb6.trans ((f7.below (B := w6.heap.size) (fun i c => c.elim) (Nat.le_refl _)).mono hb6.size)
      obtain ⟨gO, hOe⟩ : ∃ d, d = w6.heap.size := ⟨_, rfl⟩
      rw [← hOe] at o7 hlt7 hlt6 ⊢
      obtain ⟨base, hBe⟩ : ∃ d, d = w7.heap.size := ⟨_, rfl⟩
      have lie : Lie base D E gA gDo gO := by
        have := HDE.out; have := HAE.out
        exact ⟨by omega, by omega, by omega, by omega, by omega, by omega, by omega, by omega, by omega, by omega⟩
      have hwb : w.heap.size ≤ D := hsz
      have hbk7 : Bk w7 E base none [] := ⟨0, 0, hE7, Ow.nil _ _ _, by simp⟩
      have HBE := hide hBe
      clear f7 hD6 hE6 hC6 hb6 hg7 hE7 hOe hBe hsz hlt6 hlt7 k3
      go_loopw [40] (fun iv wr => ∃ i : Nat, i ≤ n' ∧ iv = .int .i64 i ∧ Dr wr D (carrF L P s i).2.2 ∧ (∃ Av, Bk wr E base Av (carrF L P s i).2.1) ∧ Ow eLi wr gO 165 (some ⟨gO, 0, none⟩) n' n' ((carrF L P s i).1 ++ List.replicate (n' - i) li0) ∧ Fr (Tu base D E gO) w7 wr) (fun iv _ => n' - (intOf iv).toNat)
      case atStart => exact ⟨0, by omega, rfl, hD7, ⟨none, hbk7⟩, by simpa [carrF] using o7, Fr.refl _ _⟩
      case round =>
        clear hD7 hbk7 o7
        obtain ⟨i, hi, rfl, hD, ⟨Av, hBk⟩, hO, hF⟩ := hrel
        have hbr : Below w.heap.size w wr := hb7.trans (hF.below (B := w.heap.size) (fun j c => by unfold Tu at c; have := HBE.out; have := hb7.size; have := lie.de; have := lie.ea; have := lie.da; have := lie.ao; have := lie.ou; have := HDE.out; omega) hb7.size)
        have hsz : base ≤ wr.heap.size := by have := hF.size; have := HBE.out; omega
        have hEnv := hC7.tu lie hF
        have hlen := carrF_len L P s i (by have := HP.out; omega)
        have hnb := notes_bound (P := P) (s := s) (i := i) HZ.out.1 (by omega)
        by_cases hlt : i < n'
        · obtain ⟨bp, op, x, rfl, hbp, hx, hc⟩ := (p.below hbr).get hlt
          have c0 := hc 0 _ rfl
          have c1 := hc 1 _ rfl
          have c2 := hc 2 _ rfl
          have c3 := hc 3 _ rfl
          have c4 := hc 4 _ rfl
          simp only [ePu, Nat.add_zero] at c0 c1 c2 c3 c4
          have HX := hide (carrF_succ (L := L) (s := s) hx)
          have hok := okPu_ph (List.all_eq_true.1 HQ.out.2 x (List.mem_of_getElem? hx))
          have hlp : okPh (liOf x) := hok
          obtain ⟨t0, ht0⟩ : ∃ t, t = (liOf x, (carrF L P s i).2) := ⟨_, rfl⟩
          rw [← ht0] at HX
          have HT0 := hide ht0
          obtain ⟨pb, pt, pc, pp, ps⟩ := x
          simp only at c0 c1 c2 c3 c4
          clear hc hx hok ht0
          go_wp2
          have hX := Blk.newAt (wr.alloc (.cells #[.int .i64 pb, .bool pt, .int .i64 pc, .int .i64 pp, .bool ps] 79)) 165 #[.int .i64 pp, .int .i64 pb, .bool pt, .bool false] (wr.heap.size + 1) (by simp)
          have fS : Fr (Tr base D E) wr ((wr.alloc (.cells #[.int .i64 pb, .bool pt, .int .i64 pc, .int .i64 pp, .bool ps] 79)).alloc (.cells #[.int .i64 pp, .int .i64 pb, .bool pt, .bool false] 165)) := ((Fr.refl _ _).alloc _).alloc _
          have hS : Sta ((wr.alloc (.cells #[.int .i64 pb, .bool pt, .int .i64 pc, .int .i64 pp, .bool ps] 79)).alloc (.cells #[.int .i64 pp, .int .i64 pb, .bool pt, .bool false] 165)) base (wr.heap.size + 1) D E t0.1 t0.2.2 t0.2.1 := by
            rw [HT0.out]
            exact ⟨hX, (Blk.alloc hD _).alloc _, Av, hBk.fr (Fr.of_below (T := fun _ => False) ((below_alloc wr _).alloc (by simp) _)) (fun h => h) (fun _ _ h => h), fun e => by have := (hBk.base _ e).2; omega⟩
          obtain ⟨wS, hwS⟩ : ∃ q, q = (wr.alloc (.cells #[.int .i64 pb, .bool pt, .int .i64 pc, .int .i64 pp, .bool ps] 79)).alloc (.cells #[.int .i64 pp, .int .i64 pb, .bool pt, .bool false] 165) := ⟨_, rfl⟩
          rw [← hwS] at hX fS hS ⊢
          clear hwS hX c0 c1 c2 c3 c4
          obtain ⟨X, hXe⟩ : ∃ q, q = wr.heap.size + 1 := ⟨_, rfl⟩
          rw [← hXe] at hS ⊢
          have geo : Geo base X D E := ⟨by omega, lie.d, lie.e, lie.de⟩
          have HXE := hide hXe
          clear hXe
          have hFS := hF.trans (fS.tu gO) (fun _ _ c => c)
          have hES := hEnv.tr lie fS
          have hbS : Below w.heap.size w wS := hb7.trans (hFS.below (B := w.heap.size) (fun j c => by unfold Tu at c; have := HBE.out; have := hb7.size; have := lie.de; have := lie.ea; have := lie.da; have := lie.ao; have := lie.ou; have := HDE.out; omega) hb7.size)
          have HLP := hide hlp
          have hnb0 : t0.2.1.length ≤ 131072 := by rw [HT0.out]; exact hnb
          clear hlp hnb
          go_loopw [54] (fun iv wq => ∃ k : Nat, k ≤ n ∧ iv = .int .i64 k ∧ Sta wq base X D E (slotF (L.take k) i t0).1 (slotF (L.take k) i t0).2.2 (slotF (L.take k) i t0).2.1 ∧ Fr (Tr base D E) wS wq) (fun iv _ => n - (intOf iv).toNat)
          case atStart => exact ⟨0, by omega, rfl, by simpa [slotF] using hS, Fr.refl _ _⟩
          case round =>
            clear hS
            obtain ⟨k, hk, rfl, hst, hfq⟩ := hrel
            have hfS := hFS.trans (hfq.tu gO) (fun _ _ c => c)
            have hbq : Below w.heap.size w wr := hb7.trans (hfS.below (B := w.heap.size) (fun j c => by unfold Tu at c; have := HBE.out; have := hb7.size; have := lie.de; have := lie.ea; have := lie.da; have := lie.ao; have := lie.ou; have := HDE.out; omega) hb7.size)
            have hEq := hES.tr lie hfq
            have hszq : base ≤ wr.heap.size := by have := hfS.size; have := HBE.out; omega
            obtain ⟨yl, yN, yq, hy⟩ : ∃ a b c, slotF (L.take k) i t0 = (a, b, c) := ⟨_, _, _, rfl⟩
            have hyp : okPh yl := by have := slotF_ph i (L.take k) t0 (by rw [HT0.out]; exact HLP.out); rw [hy] at this; exact this
            have hyn : yN.length ≤ 900000 := by have := slotF_notes i (L.take k) t0; rw [hy, List.length_take] at this; simp only at this; omega
            rw [hy] at hst
            simp only at hst
            by_cases hltk : k < n
            · obtain ⟨b, off, x, rfl, hb', hx, hc⟩ := (r.below hbq).get hltk
              have c0 := hc 0 _ rfl
              have c1 := hc 1 _ rfl
              have c2 := hc 2 _ rfl
              have c3 := hc 3 _ rfl
              have c4 := hc 4 _ rfl
              simp only [eRu, Nat.add_zero] at c0 c1 c2 c3 c4
              have hsn := slotF_snoc hx i t0
              rw [hy] at hsn
              have hokr : okRu x = true := List.all_eq_true.1 HZ.out.2 x (List.mem_of_getElem? hx)
              obtain ⟨K, fn, caps, hK, K1, K8, hget, hcf, hdoes⟩ := act_any (i := i) (gA := gA) geo hokr
              clear hokr hc hx hy
              by_cases h4 : 4 ≤ x.k
              · by_cases hr1 : x.fr ≤ (i : Int)
                · by_cases hr2 : (i : Int) ≤ x.to
                  · have HSN := hide (hsn.trans (stepF_yes (covers_in hr1 hr2)))
                    have H4 := hide (show decide (4 ≤ x.k) = true by simpa using h4)
                    obtain ⟨xk, xf, xt, xa, xb⟩ := x
                    simp only at hK c0 c1 c2 c3 c4 HSN hdoes h4 hr1 hr2
                    subst hK
                    clear h4 hsn
                    have HSTQ := hide hst
                    have hK0 : (0 : Int) ≤ (K : Int) := by omega
                    have hK1 : (K : Int) < 8 := by omega
                    clear hst
                    have HGET := hide hget
                    clear hget
                    go_upto_region 17 with (go_at_call 69; refine (ranged_v _ _ _ _ _ _ H4.out _).mono ?_; rintro e w8 ⟨rfl, hb8⟩; have hB := (Blk.new wr _ _).keep hb8; have z0 := hB.cell 0; have z1 := hB.cell 1; have z2 := hB.cell 2; have z3 := hB.cell 3; have z4 := hB.cell 4; simp only [List.getElem?_toArray, List.getElem?_cons_zero, List.getElem?_cons_succ] at z0 z1 z2 z3 z4)
                    have hb9 := (below_alloc wr (.cells #[.int .i64 (K : Int), .int .i64 xf, .int .i64 xt, .int .i64 xa, .int .i64 xb] 108)).trans (hb8.mono (by simp))
                    have hst8 := HSTQ.out.on geo hb9
                    have hE8 := hEq.on hb9
                    have HDO := hide (hdoes yl yq yN w8.drew (hst8.drewN geo 1) hE8.1 hyp hyn (by have := hb9.size; show base ≤ w8.heap.size; omega))
                    have do8 := Blk.cell hE8.2 K
                    rw [HGET.out] at do8
                    go_still_tail 9, (by kernel_rfl)
                    change wpList _ _ _ _ _ w8.drew
                    go_wp2_with (refine HDO.out.mono ?_; rintro e w9 ⟨rfl, hst9, hf9⟩)
                    go_roundw
                    case rel => exact ⟨k + 1, by omega, by go_num, by rw [HSN.out]; exact hst9, (hfq.tr (Fr.of_below hb9)).tr ((Fr.refl (Tr base D E) w8).drew.tr hf9)⟩
                    case measure => simp [intOf] <;> omega
                  · have HSN := hide (hsn.trans (stepF_not (covers_no h4 (fun c => hr2 c.2))))
                    have H4 := hide (show decide (4 ≤ x.k) = true by simpa using h4)
                    obtain ⟨xk, xf, xt, xa, xb⟩ := x
                    simp only at hK c0 c1 c2 c3 c4 HSN h4 hr1 hr2
                    subst hK
                    clear h4 hsn hcf hdoes hget
                    have HSTQ := hide hst
                    clear hst
                    go_wp2_with (go_at_call 69; refine (ranged_v _ _ _ _ _ _ H4.out _).mono ?_; rintro e w8 ⟨rfl, hb8⟩; have hB := (Blk.new wr _ _).keep hb8; have z0 := hB.cell 0; have z1 := hB.cell 1; have z2 := hB.cell 2; have z3 := hB.cell 3; have z4 := hB.cell 4; simp only [List.getElem?_toArray, List.getElem?_cons_zero, List.getElem?_cons_succ] at z0 z1 z2 z3 z4)
                    have hb9 := (below_alloc wr (.cells #[.int .i64 (K : Int), .int .i64 xf, .int .i64 xt, .int .i64 xa, .int .i64 xb] 108)).trans (hb8.mono (by simp))
                    go_roundw
                    case rel => exact ⟨k + 1, by omega, by go_num, by rw [HSN.out]; exact HSTQ.out.on geo hb9, hfq.tr (Fr.of_below hb9)⟩
                    case measure => simp [intOf] <;> omega
                · have HSN := hide (hsn.trans (stepF_not (covers_no h4 (fun c => hr1 c.1))))
                  have H4 := hide (show decide (4 ≤ x.k) = true by simpa using h4)
                  obtain ⟨xk, xf, xt, xa, xb⟩ := x
                  simp only at hK c0 c1 c2 c3 c4 HSN h4 hr1
                  subst hK
                  clear h4 hsn hcf hdoes hget
                  have HSTQ := hide hst
                  clear hst
                  go_wp2_with (go_at_call 69; refine (ranged_v _ _ _ _ _ _ H4.out _).mono ?_; rintro e w8 ⟨rfl, hb8⟩; have hB := (Blk.new wr _ _).keep hb8; have z0 := hB.cell 0; have z1 := hB.cell 1; have z2 := hB.cell 2; have z3 := hB.cell 3; have z4 := hB.cell 4; simp only [List.getElem?_toArray, List.getElem?_cons_zero, List.getElem?_cons_succ] at z0 z1 z2 z3 z4)
                  have hb9 := (below_alloc wr (.cells #[.int .i64 (K : Int), .int .i64 xf, .int .i64 xt, .int .i64 xa, .int .i64 xb] 108)).trans (hb8.mono (by simp))
                  go_roundw
                  case rel => exact ⟨k + 1, by omega, by go_num, by rw [HSN.out]; exact HSTQ.out.on geo hb9, hfq.tr (Fr.of_below hb9)⟩
                  case measure => simp [intOf] <;> omega
              · have HSN := hide (hsn.trans (stepF_yes (covers_lo h4)))
                have H4 := hide (show decide (4 ≤ x.k) = false by simpa using h4)
                obtain ⟨xk, xf, xt, xa, xb⟩ := x
                simp only at hK c0 c1 c2 c3 c4 HSN hdoes h4 
                subst hK
                clear h4 hsn
                have HSTQ := hide hst
                have hK0 : (0 : Int) ≤ (K : Int) := by omega
                have hK1 : (K : Int) < 8 := by omega
                clear hst
                have HGET := hide hget
                clear hget
                go_upto_region 17 with (go_at_call 69; refine (ranged_v _ _ _ _ _ _ H4.out _).mono ?_; rintro e w8 ⟨rfl, hb8⟩; have hB := (Blk.new wr _ _).keep hb8; have z0 := hB.cell 0; have z1 := hB.cell 1; have z2 := hB.cell 2; have z3 := hB.cell 3; have z4 := hB.cell 4; simp only [List.getElem?_toArray, List.getElem?_cons_zero, List.getElem?_cons_succ] at z0 z1 z2 z3 z4)
                have hb9 := (below_alloc wr (.cells #[.int .i64 (K : Int), .int .i64 xf, .int .i64 xt, .int .i64 xa, .int .i64 xb] 108)).trans (hb8.mono (by simp))
                have hst8 := HSTQ.out.on geo hb9
                have hE8 := hEq.on hb9
                have HDO := hide (hdoes yl yq yN w8.drew (hst8.drewN geo 1) hE8.1 hyp hyn (by have := hb9.size; show base ≤ w8.heap.size; omega))
                have do8 := Blk.cell hE8.2 K
                rw [HGET.out] at do8
                go_still_tail 9, (by kernel_rfl)
                change wpList _ _ _ _ _ w8.drew
                go_wp2_with (refine HDO.out.mono ?_; rintro e w9 ⟨rfl, hst9, hf9⟩)
                go_roundw
                case rel => exact ⟨k + 1, by omega, by go_num, by rw [HSN.out]; exact hst9, (hfq.tr (Fr.of_below hb9)).tr ((Fr.refl (Tr base D E) w8).drew.tr hf9)⟩
                case measure => simp [intOf] <;> omega
            · obtain rfl : k = n := by omega
              have hkn : L.take k = L := by rw [List.take_of_length_le]; have := HL.out; omega
              rw [hkn] at hy
              have HXX := hide (show carrF L P s (i + 1) = ((carrF L P s i).1 ++ [normL yl], yN, yq) by rw [HX.out, hy])
              have hOq := (hO.fr (fS.tr hfq) (fun g eg => by injection eg with eg; injection eg with eg; unfold Tr; have := lie.u; have := lie.de; have := lie.ea; have := lie.da; have := lie.ao; have := lie.ou; omega))
              have hGD : gO ≠ D := by have := lie.da; have := lie.ao; have := lie.ou; omega
              have hGE : gO ≠ E := by have := lie.ea; have := lie.ao; have := lie.ou; omega
              have hGB := lie.u
              clear hy hkn hltk
              obtain ⟨s1, s2, Aw, s3, s4⟩ := hst
              obtain ⟨lp, lb, lt, lr⟩ := yl
              have y0 := Blk.cell s1 0
              have y1 := Blk.cell s1 1
              have y2 := Blk.cell s1 2
              have y3 := Blk.cell s1 3
              simp only [List.getElem?_toArray, List.getElem?_cons_zero, List.getElem?_cons_succ] at y0 y1 y2 y3
              by_cases hon : 0 < lp ∨ lr = true
              · have HN := hide (show normL ⟨lp, lb, lt, lr⟩ = ⟨lp, lb, lt, lr⟩ by unfold normL; rw [if_pos hon])
                obtain ⟨g', yy, eg, _, hgl, _, hcv⟩ := hOq.get hlt
                injection eg with eg
                injection eg with eg
                subst eg
                have k0 := hcv 0 _ rfl
                have k1 := hcv 1 _ rfl
                have k2 := hcv 2 _ rfl
                have k3 := hcv 3 _ rfl
                have kf0 := hOq.frozen (i * 4)
                have kf1 := hOq.frozen (i * 4 + 1)
                have kf2 := hOq.frozen (i * 4 + 2)
                have kf3 := hOq.frozen (i * 4 + 3)
                simp only [eLi, Nat.add_zero] at k0 k1 k2 k3
                clear hcv
                have hset := (((((Fr.refl (fun j => j = gO) wr).setCell (p := ⟨gO, i * 4, none⟩) (fun _ => rfl) (.int .i64 lp)).setCell (p := ⟨gO, i * 4 + 1, none⟩) (fun _ => rfl) (.int .i64 lb)).setCell (p := ⟨gO, i * 4 + 2, none⟩) (fun _ => rfl) (.bool lt)).setCell (p := ⟨gO, i * 4 + 3, none⟩) (fun _ => rfl) (.bool lr))
                by_cases hpos : 0 < lp
                · have hpd : decide (0 < lp) = true := by simpa using hpos
                  go_wp2
                  go_roundw
                  case rel => exact ⟨i + 1, by omega, by go_num, by rw [HXX.out]; exact Blk.fr s2 hset (fun e => hGD e.symm), ⟨Aw, by rw [HXX.out]; exact s3.fr hset (fun e => hGE e.symm) (fun q hq e => by have := (s3.base q hq).1; omega)⟩, by rw [HXX.out, HN.out]; exact put_repl (z := li0) hlen hlt ▸ hOq.store4 hlt ⟨lp, lb, lt, _⟩ rfl rfl rfl rfl rfl, hfS.trans hset (fun j _ e => Or.inr (Or.inr (Or.inr e)))⟩
                  case measure => simp [intOf] <;> omega
                · obtain rfl : lr = true := by rcases hon with h | h; exact absurd h hpos; exact h
                  have hpd : decide (0 < lp) = false := by simpa using hpos
                  go_wp2
                  go_roundw
                  case rel => exact ⟨i + 1, by omega, by go_num, by rw [HXX.out]; exact Blk.fr s2 hset (fun e => hGD e.symm), ⟨Aw, by rw [HXX.out]; exact s3.fr hset (fun e => hGE e.symm) (fun q hq e => by have := (s3.base q hq).1; omega)⟩, by rw [HXX.out, HN.out]; exact put_repl (z := li0) hlen hlt ▸ hOq.store4 hlt ⟨lp, lb, lt, _⟩ rfl rfl rfl rfl rfl, hfS.trans hset (fun j _ e => Or.inr (Or.inr (Or.inr e)))⟩
                  case measure => simp [intOf] <;> omega
              · have HN := hide (show normL ⟨lp, lb, lt, lr⟩ = li0 by unfold normL; rw [if_neg hon])
                have hpos : ¬ 0 < lp := fun h => hon (Or.inl h)
                obtain rfl : lr = false := by cases lr; rfl; exact absurd (Or.inr rfl) hon
                have hpd : decide (0 < lp) = false := by simpa using hpos
                clear hon
                go_wp2
                go_roundw
                case rel => exact ⟨i + 1, by omega, by go_num, by rw [HXX.out]; exact s2, ⟨Aw, by rw [HXX.out]; exact s3⟩, by rw [HXX.out, HN.out]; exact skip_repl (z := li0) hlt ▸ hOq, hfS⟩
                case measure => simp [intOf] <;> omega
        · obtain rfl : i = n' := by omega
          obtain ⟨bn, bc, m1, m2, m3⟩ := hBk
          have e0 := m1.cell 0
          simp only [List.getElem?_toArray, List.getElem?_cons_zero] at e0
          have HR1 := hide hO.rd
          have HR2 := hide m2.rd
          go_wp2
          go_quiet (fail)
          go_wp2
          go_ret3
          refine ⟨_, _, _, _, _, _, by rw [HEZ.out]; rfl, ?_, ?_, below_drewN hbr _⟩
          · unfold carryX
            rw [if_pos HEZ.out, HP.out]
            have := HR1.out
            rw [Nat.sub_self, List.replicate_zero, List.append_nil] at this
            exact this.drewN _
          · unfold carryN
            rw [if_pos HEZ.out, HP.out]
            exact HR2.out.drewN _
    · have HEE := hide (show carryErr L P = pulsesErr P from HE.out)
      have HNE := hide h1
      have hne2 : (pulsesErr P != 0) = true := by simpa using h1
      have hne : (pulsesErr P == 0) = false := by simpa using h1
      clear h1
      go_enter Try.func38, Try.ntmps38
      go_wp2_with (first | (go_at_call 35; refine HCR.out.mono ?_; rintro e w1 ⟨rfl, hb1⟩; have HV := hide (hval w1 hb1)) | (go_at_call 66; refine HV.out.mono ?_; rintro e w2 ⟨rfl, hb2⟩))
      go_ret3
      exact SCar.err HEE.out HNE.out (below_on hb1 hb2)
  · have HEE := hide (carryErr_rules (P := P) h0)
    have HCR := hide hcr
    have HNE := hide h0
    have hne2 : (rulesErr L != 0) = true := by simpa using h0
    have hne : (rulesErr L == 0) = false := by simpa using h0
    clear hcr h0
    go_enter Try.func38, Try.ntmps38
    go_wp2_with (go_at_call 35; refine HCR.out.mono ?_; rintro e w1 ⟨rfl, hb1⟩; have HV := hide (hval w1 hb1))
    go_ret3
    exact SCar.err HEE.out HNE.out hb1
end Go.Proofs.Ytchhkokpjdkkiaa
