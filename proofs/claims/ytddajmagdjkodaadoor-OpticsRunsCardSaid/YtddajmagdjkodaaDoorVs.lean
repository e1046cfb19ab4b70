/- Contract of the reference's Carry. -/
import Derived.Test.YtddajmagdjkodaaDoorVr
import Derived.Test.YtddajmagdjkodaaDoorVf
namespace Go.Proofs.YtddajmagdjkodaaDoor
open Go.RowKit

theorem Src.rd {w w1 w2 : World} {A : Option Addr} {n c : Nat} {N : List No} (h : Src w w1 A n c N) (hk : ∀ g, w.heap.size ≤ g → g < w1.heap.size → w2.heap[g]? = w1.heap[g]?) : Rd eNo w2 w2.heap.size A n c N := by
  rcases h with ⟨rfl, rfl, rfl, rfl⟩ | ⟨g, y, rfl, rfl, rfl, rfl, hg, b⟩
  · exact Rd.nil _ _ _ _ (by omega)
  · have b2 : Blk w2 g 86 (noC y) := (hk g hg b.lt).trans b
    refine ⟨rfl, Nat.le_refl _, by omega, fun _ => ⟨_, 0, rfl, b2.lt, fun i z hz j v hv => ?_⟩⟩
    have hi : i = 0 := by
      have := (List.getElem?_eq_some_iff.1 hz).1
      simp at this; omega
    subst hi
    obtain rfl : y = z := by simpa using hz
    rw [Nat.zero_mul, Nat.add_zero, Nat.zero_add, b2.cell]
    simpa [eNo, noC] using hv
theorem Src.len {w w1 : World} {A : Option Addr} {n c : Nat} {N : List No} (h : Src w w1 A n c N) : N.length = n ∧ n ≤ 1 := by
  rcases h with ⟨rfl, rfl, rfl, rfl⟩ | ⟨g, y, rfl, rfl, rfl, rfl, hg, b⟩ <;> simp
theorem cell_same {w w' : World} {b o : Nat} (h : w'.heap[b]? = w.heap[b]?) : w'.cell? ⟨b, o, none⟩ = w.cell? ⟨b, o, none⟩ := by
  unfold World.cell?; rw [h]
theorem fr_at {w w1 : World} {D : Nat} (g : w.drew.grownBy w1 (some D)) : Fr (fun j => j = D) w w1 :=
  (Fr.refl (fun j => j = D) w).drew.trans (Fr.of_grown (T := fun j => j = D) g (fun k e => by injection e with e; exact e.symm)) (fun _ _ c => c)
theorem not_at {A A' : Option Addr} {X : Nat} {w : World} (h : A.map (·.block) ≠ some X) (h2 : A' = A ∨ ∃ g, A' = some ⟨g, 0, none⟩ ∧ w.heap.size ≤ g) (hX : X < w.heap.size) : A'.map (·.block) ≠ some X := by
  rcases h2 with rfl | ⟨g, rfl, hg⟩
  · exact h
  · simp; omega
theorem zero_li (x : Li) (h1 : ¬ 0 < x.ph) (h2 : x.bright = false) : normL x = li0 := by unfold normL; rw [if_neg (by simp [h1, h2])]

set_option maxRecDepth 100000 in
set_option maxHeartbeats 12800000 in
theorem rcarry_c (A : Option Addr) (n c : Nat) (L : List Ru) (A' : Option Addr) (n' c' : Nat) (P : List Pu) (s : Nat) (w : World) (r : Rd eRu w w.heap.size A n c L) (p : Rd ePu w w.heap.size A' n' c' P) :
    Calls Tryd.prog 33 #[.slice A n c, .slice A' n' c', .int .u64 (s : Int)] w (SCar L P s w) := by
  have hm := r.max
  have hcap := r.cap
  have hm' := p.max
  have hcap' := p.cap
  have HL := hide r.len
  have HP := hide p.len
  have hcr := rcheckRules_c A n c L w r
  have hval : ∀ w1, Below w.heap.size w w1 → Calls Tryd.prog 63 #[.slice A' n' c'] w1 fun e w' => e = .returned (.int .i64 (pulsesErr P)) ∧ Below w1.heap.size w1 w' := fun w1 hb => rpulses_c A' n' c' P w1 (p.on hb)
  by_cases h0 : rulesErr L = 0
  · rw [h0] at hcr
    have HCR := hide hcr
    have HZ := hide (rulesErr_zero h0)
    have HE := hide (carryErr_pulses (P := P) h0)
    clear hcr h0
    by_cases h1 : pulsesErr P = 0
    · rw [h1] at hval
      have HQ := hide (pulsesErr_zero h1)
      have HEZ := hide (show carryErr L P = 0 by rw [HE.out, h1])
      clear h1 HE
      have hn2 : n ≤ 32 := by have := HZ.out.1; have := HL.out; omega
      have hn2' : n' ≤ 4096 := by have := HQ.out.1; have := HP.out; omega
      go_enter Tryd.func33, Tryd.ntmps33
      go_wp2_with (first | (go_at_call 58; refine HCR.out.mono ?_; rintro e w1 ⟨rfl, hb1⟩; have HV := hide (hval w1 hb1)) | (go_at_call 63; refine HV.out.mono ?_; rintro e w2 ⟨rfl, hb2⟩) | (go_at_call 67; refine (rnew_c s _).mono ?_; rintro e w3 ⟨rfl, hD0, hw3⟩; have HW3 := hide hw3; clear hw3))
      have hb := below_on hb1 hb2
      have hb3 : Below w.heap.size w w3 := by rw [HW3.out]; exact hb.alloc hb.size _
      have hz3 : w3.heap.size = w2.heap.size + 1 := by rw [HW3.out]; simp
      have hsz := hb.size
      clear hb1 hb2 hb hval HV HCR HW3
      obtain ⟨D, hDe⟩ : ∃ d, d = w2.heap.size := ⟨_, rfl⟩
      rw [← hDe] at hD0 hz3 hsz ⊢
      obtain ⟨base, hBe⟩ : ∃ d, d = D + 1 := ⟨_, rfl⟩
      have hzb : base ≤ w3.heap.size := by omega
      have hDB : D < base := by omega
      clear hDe hBe hz3
      go_loopw [11, 12, 13] (fun ov nv iv wr => ∃ (i : Nat) (A1 : Option Addr) (c1 : Nat) (A2 : Option Addr) (n2 c2 : Nat), i ≤ n' ∧ iv = .int .i64 i ∧ ov = .slice A1 i c1 ∧ nv = .slice A2 n2 c2 ∧ Ow eLi wr base 65 A1 i c1 (carrF L P s i).1 ∧ Ow eNo wr base 86 A2 n2 c2 (carrF L P s i).2.1 ∧ Apart A1 A2 ∧ Rr wr D (carrF L P s i).2.2 ∧ Below w.heap.size w wr ∧ base ≤ wr.heap.size) (fun _ _ iv _ => n' - (intOf iv).toNat)
      case atStart => exact ⟨0, none, 0, none, 0, 0, by omega, rfl, rfl, rfl, Ow.nil _ _ _, Ow.nil _ _ _, Apart.nil _, hD0, hb3, hzb⟩
      case round =>
        clear hD0 hb3 hzb
        obtain ⟨i, A1, c1, A2, n2, c2, hi, rfl, rfl, rfl, o1, o2, hap, hD, hbr, hzb⟩ := hrel
        have hlen := carrF_len L P s i (by have := HP.out; omega)
        have hnb := notes_bound (P := P) (s := s) (i := i) HZ.out.1 (by omega)
        have hn2b : n2 ≤ 131072 := by have := o2.len; omega
        by_cases hlt : i < n'
        · obtain ⟨bp, op, x, rfl, hbp, hx, hc⟩ := (p.below hbr).get hlt
          have c0 := hc 0 _ rfl
          have c1' := hc 1 _ rfl
          have c3 := hc 3 _ rfl
          simp only [ePu, Nat.add_zero] at c0 c1' c3
          have HX := hide (carrF_succ (L := L) (s := s) hx)
          have hok := okPu_ph (List.all_eq_true.1 HQ.out.2 x (List.mem_of_getElem? hx))
          have hlp : okPh (liOf x) := hok
          obtain ⟨t0, ht0⟩ : ∃ t, t = (liOf x, (carrF L P s i).2) := ⟨_, rfl⟩
          rw [← ht0] at HX
          have HT0 := hide ht0
          obtain ⟨pb, pt, pc, pp, ps⟩ := x
          simp only at c0 c1' c3
          clear hc hx hok ht0
          have hi0 : (0 : Int) ≤ (i : Int) := by omega
          have hi1 : (i : Int) < (n' : Int) := by omega
          have hbps : bp < wr.heap.size := by have := hbr.size; omega
          have hc1 := c0
          have hc2 := c1'
          have hc3 := c3
          go_upto_region 13 with fail
          have HKP := hide (show ∀ w', Below wr.heap.size wr w' → w'.cell? ⟨bp, op + i * 5, none⟩ = some (.int .i64 pb) ∧ w'.cell? ⟨bp, op + i * 5 + 1, none⟩ = some (.bool pt) ∧ w'.cell? ⟨bp, op + i * 5 + 3, none⟩ = some (.int .i64 pp) from fun w' hw => ⟨(hw.cell (p := ⟨bp, op + i * 5, none⟩) hbps).trans hc1, (hw.cell (p := ⟨bp, op + i * 5 + 1, none⟩) hbps).trans hc2, (hw.cell (p := ⟨bp, op + i * 5 + 3, none⟩) hbps).trans hc3⟩)
          have HB0 := hide (Below.refl wr.heap.size wr).drew
          have HB1 := hide (fun o => (below_alloc wr o).drew)
          go_region_held3 (fun w' => w'.cell? ⟨bp, op + i * 5, none⟩ = some (.int .i64 pb) ∧ w'.cell? ⟨bp, op + i * 5 + 1, none⟩ = some (.bool pt) ∧ w'.cell? ⟨bp, op + i * 5 + 3, none⟩ = some (.int .i64 pp)) (first | exact HKP.out _ HB0.out | exact HKP.out _ (HB1.out _)) (fail)
          have hX := (Blk.newAt wr 65 #[.int .i64 pp, .int .i64 pb, .bool pt, .bool false] wr.heap.size rfl).drew
          have oS1 := (o1.alloc (.cells #[.int .i64 pp, .int .i64 pb, .bool pt, .bool false] 65)).drew
          have oS2 := (o2.alloc (.cells #[.int .i64 pp, .int .i64 pb, .bool pt, .bool false] 65)).drew
          have hDS : Rr (wr.alloc (.cells #[.int .i64 pp, .int .i64 pb, .bool pt, .bool false] 65)).drew D (carrF L P s i).2.2 := Blk.drew (Blk.alloc hD _)
          have hbS := (hbr.alloc hbr.size (.cells #[.int .i64 pp, .int .i64 pb, .bool pt, .bool false] 65)).drew
          have hA1X : A1.map (·.block) ≠ some wr.heap.size := fun e => by have := (o1.block _ e).2; omega
          have hA2X : A2.map (·.block) ≠ some wr.heap.size := fun e => by have := (o2.block _ e).2; omega
          obtain ⟨wS, hwS⟩ : ∃ q, q = (wr.alloc (.cells #[.int .i64 pp, .int .i64 pb, .bool pt, .bool false] 65)).drew := ⟨_, rfl⟩
          rw [← hwS] at hX oS1 oS2 hDS hbS ⊢
          clear hwS HKP HB0 HB1 o1 o2 hD hbr c0 c1' c3 hc1 hc2 hc3
          obtain ⟨X, hXe⟩ : ∃ q, q = wr.heap.size := ⟨_, rfl⟩
          rw [← hXe] at hX hA1X hA2X hzb ⊢
          clear hXe hbps
          have hXD : X ≠ D := by omega
          have HLP := hide hlp
          have hX2 : Blk wS X 65 (liC t0.1) := by rw [HT0.out]; exact hX
          have oS2' : Ow eNo wS base 86 A2 n2 c2 t0.2.1 := by rw [HT0.out]; exact oS2
          have hDS' : Rr wS D t0.2.2 := by rw [HT0.out]; exact hDS
          have hnb0 : t0.2.1.length ≤ 131072 := by rw [HT0.out]; exact hnb
          clear hX oS2 hDS hlp hnb
          go_wp2
          go_loopw [12, 15] (fun nv kv wq => ∃ (k : Nat) (A3 : Option Addr) (n3 c3 : Nat), k ≤ n ∧ kv = .int .i64 k ∧ nv = .slice A3 n3 c3 ∧ Blk wq X 65 (liC (slotF (L.take k) i t0).1) ∧ Ow eNo wq base 86 A3 n3 c3 (slotF (L.take k) i t0).2.1 ∧ Rr wq D (slotF (L.take k) i t0).2.2 ∧ Ow eLi wq base 65 A1 i c1 (carrF L P s i).1 ∧ Apart A1 A3 ∧ A3.map (·.block) ≠ some X ∧ Below w.heap.size w wq) (fun _ kv _ => n - (intOf kv).toNat)
          case atStart => exact ⟨0, A2, n2, c2, by omega, rfl, rfl, by simpa [slotF] using hX2, by simpa [slotF] using oS2', by simpa [slotF] using hDS', oS1, hap, hA2X, hbS⟩
          case round =>
            clear hX2 oS1 oS2' hDS' hbS hap hA2X hn2b
            obtain ⟨k, A3, n3, c3, hk, rfl, rfl, hX3, o3, hD3, o1, hap, hA3X, hbq⟩ := hrel
            obtain ⟨yl, yN, yq, hy⟩ : ∃ a b c, slotF (L.take k) i t0 = (a, b, c) := ⟨_, _, _, rfl⟩
            have hyp : okPh yl := by have := slotF_ph i (L.take k) t0 (by rw [HT0.out]; exact HLP.out); rw [hy] at this; exact this
            have hyn : yN.length ≤ 900000 := by have := slotF_notes i (L.take k) t0; rw [hy, List.length_take] at this; simp only at this; omega
            rw [hy] at hX3 o3 hD3
            simp only at hX3 o3 hD3
            have hn3 : n3 ≤ 900000 := by have := o3.len; omega
            have hzq : base ≤ wr.heap.size := by have := hX3.lt; omega
            obtain ⟨lp, lb, lt, lr⟩ := yl
            have y0 := hX3.cell 0
            have y1 := hX3.cell 1
            have y2 := hX3.cell 2
            have y3 := hX3.cell 3
            simp only [liC, List.getElem?_toArray, List.getElem?_cons_zero, List.getElem?_cons_succ] at y0 y1 y2 y3
            by_cases hltk : k < n
            · obtain ⟨b, off, x, rfl, hb', hx, hc⟩ := (r.below hbq).get hltk
              have c0 := hc 0 _ rfl
              have c1' := hc 1 _ rfl
              have c2 := hc 2 _ rfl
              have c3' := hc 3 _ rfl
              have c4 := hc 4 _ rfl
              simp only [eRu, Nat.add_zero] at c0 c1' c2 c3' c4
              have hsn := slotF_snoc hx i t0
              rw [hy, stepF_actS] at hsn
              have hokr : okRu x = true := List.all_eq_true.1 HZ.out.2 x (List.mem_of_getElem? hx)
              have hact := fun (W : World) (h : Rr W D yq) => ract_any x hokr i ⟨lp, lb, lt, lr⟩ hyp D yq W h
              obtain ⟨zl, zN, zq, hz⟩ : ∃ a b c, actS x i ⟨lp, lb, lt, lr⟩ yq = (a, b, c) := ⟨_, _, _, rfl⟩
              simp only [hz] at hsn
              simp only [hz] at hact
              obtain ⟨zp, zb, zt, zr⟩ := zl
              obtain ⟨xk, xf, xt, xa, xb⟩ := x
              simp only at c0 c1' c2 c3' c4
              have HSN := hide hsn
              have hact2 := fun (W : World) (h : Rr W D yq) => (hact W h).mono (R' := fun e w' => ∃ A n c, e = .returned (.tuple #[.agg #[.int .i64 zp, .int .i64 zb, .bool zt, .bool zr], .slice A n c]) ∧ Src W w' A n c zN ∧ Rr w' D zq ∧ W.grownBy w' (some D)) (fun e w' h => h)
              simp only [ruC, liC] at hact2
              have HA := hide hact2
              clear hokr hc hx hy hsn hz hact hact2
              have hbD : b ≠ D := by omega
              have hbw : b < wr.heap.size := by have := hbq.size; omega
              have hk0 : (0 : Int) ≤ (k : Int) := by omega
              have hk1 : (k : Int) < (n : Int) := by omega
              have HK := hide (show ∀ w', Fr (fun j => j = D) wr w' → w'.cell? ⟨b, off + k * 5, none⟩ = some (.int .i64 xk) ∧ w'.cell? ⟨b, off + k * 5 + 1, none⟩ = some (.int .i64 xf) ∧ w'.cell? ⟨b, off + k * 5 + 2, none⟩ = some (.int .i64 xt) ∧ w'.cell? ⟨b, off + k * 5 + 3, none⟩ = some (.int .i64 xa) ∧ w'.cell? ⟨b, off + k * 5 + 4, none⟩ = some (.int .i64 xb) ∧ w'.cell? ⟨X, 0, none⟩ = some (.int .i64 lp) ∧ w'.cell? ⟨X, 1, none⟩ = some (.int .i64 lb) ∧ w'.cell? ⟨X, 2, none⟩ = some (.bool lt) ∧ w'.cell? ⟨X, 3, none⟩ = some (.bool lr) from fun w' hw => by
                have hb2 := hw.block b hbw hbD
                have a1 := hX3.fr hw hXD
                refine ⟨(cell_same hb2).trans c0, (cell_same hb2).trans c1', (cell_same hb2).trans c2, (cell_same hb2).trans c3', (cell_same hb2).trans c4, ?_, ?_, ?_, ?_⟩
                · simpa [liC] using a1.cell 0
                · simpa [liC] using a1.cell 1
                · simpa [liC] using a1.cell 2
                · simpa [liC] using a1.cell 3)
              have F0 := hide (Fr.refl (fun j => j = D) wr).drew
              have F0z := hide (((Fr.refl (fun j => j = D) wr).alloc (.cells #[.int .i64 0, .int .i64 0, .bool false, .bool false] 65)).drew)
              have HDZ := hide (show Rr (wr.alloc (.cells #[.int .i64 0, .int .i64 0, .bool false, .bool false] 65)).drew D yq from Blk.drew (Blk.alloc hD3 _))
              have HDW := hide (show Rr wr.drew D yq from hD3)
              have hgD : wr.heap.size ≠ D := by omega
              have HBZ := hide (fun (w4 : World) (hg4 : (wr.alloc (.cells #[.int .i64 0, .int .i64 0, .bool false, .bool false] 65)).drew.grownBy w4 (some D)) => (show Blk w4 wr.heap.size 65 #[.int .i64 0, .int .i64 0, .bool false, .bool false] from (Blk.new wr 65 _).drew.grown hg4 (by simpa using hgD)))
              have HFZ := hide (fun (w4 : World) (hg4 : (wr.alloc (.cells #[.int .i64 0, .int .i64 0, .bool false, .bool false] 65)).drew.grownBy w4 (some D)) => (((Fr.refl (fun j => j = D) wr).alloc (.cells #[.int .i64 0, .int .i64 0, .bool false, .bool false] 65)).drew.trans (Fr.of_grown (T := fun j => j = D) hg4 (fun k e => by injection e with e; exact e.symm)) (fun _ _ c => c)))
              have HFS := hide (fun (w4 : World) (f : Fr (fun j => j = D) wr w4) => ((((f.setCell (p := ⟨wr.heap.size, 0, none⟩) (fun h => absurd h (Nat.lt_irrefl _)) (.int .i64 zp)).setCell (p := ⟨wr.heap.size, 1, none⟩) (fun h => absurd h (Nat.lt_irrefl _)) (.int .i64 zb)).setCell (p := ⟨wr.heap.size, 2, none⟩) (fun h => absurd h (Nat.lt_irrefl _)) (.bool zt)).setCell (p := ⟨wr.heap.size, 3, none⟩) (fun h => absurd h (Nat.lt_irrefl _)) (.bool zr)))
              go_upto_region 17 with fail
              go_region_held3 (fun w' => w'.cell? ⟨b, off + k * 5, none⟩ = some (.int .i64 xk) ∧ w'.cell? ⟨b, off + k * 5 + 1, none⟩ = some (.int .i64 xf) ∧ w'.cell? ⟨b, off + k * 5 + 2, none⟩ = some (.int .i64 xt) ∧ w'.cell? ⟨b, off + k * 5 + 3, none⟩ = some (.int .i64 xa) ∧ w'.cell? ⟨b, off + k * 5 + 4, none⟩ = some (.int .i64 xb) ∧ w'.cell? ⟨X, 0, none⟩ = some (.int .i64 lp) ∧ w'.cell? ⟨X, 1, none⟩ = some (.int .i64 lb) ∧ w'.cell? ⟨X, 2, none⟩ = some (.bool lt) ∧ w'.cell? ⟨X, 3, none⟩ = some (.bool lr)) (first | exact HK.out _ F0.out | exact HK.out _ F0z.out | exact HK.out _ (fr_at hg4) | exact HK.out _ ((fr_at hg4).alloc _) | exact HK.out _ (HFZ.out _ hg4) | exact HK.out _ (HFS.out _ (HFZ.out _ hg4)))
                (first | (go_at_call 74; refine (HA.out _ ?_).mono ?_; (first | exact HDW.out | exact HDZ.out); rintro e w4 ⟨A4, n4, cA, rfl, hs4, hD4, hg4⟩; (first | (have bz := HBZ.out _ hg4; have q0 := bz.cell 0; have q1 := bz.cell 1; have q2 := bz.cell 2; have q3 := bz.cell 3; have qf0 := bz.frozen 0; have qf1 := bz.frozen 1; have qf2 := bz.frozen 2; have qf3 := bz.frozen 3; simp only [List.getElem?_toArray, List.getElem?_cons_zero, List.getElem?_cons_succ] at q0 q1 q2 q3) | skip)))
              · have f5 := (fr_at hg4).alloc (.cells #[.int .i64 zp, .int .i64 zb, .bool zt, .bool zr] 65)
                have D5 : Rr (w4.alloc (.cells #[.int .i64 zp, .int .i64 zb, .bool zt, .bool zr] 65)) D zq := Blk.alloc hD4 _
                have B16 := Blk.new w4 65 #[.int .i64 zp, .int .i64 zb, .bool zt, .bool zr]
                have hX16 : X ≠ w4.heap.size := by have := hX3.lt; have := hg4.size; simp at this; omega
                have KS : ∀ w6, World.grownBy (w4.alloc (.cells #[.int .i64 zp, .int .i64 zb, .bool zt, .bool zr] 65)) w6 (some X) → Rd eNo w6 w6.heap.size A4 n4 cA zN := fun w6 g6 => hs4.rd (fun g h1 h2 => (g6.block g (by simp; omega) (by have := hX3.lt; simp at h1 ⊢; omega)).trans (Below.heap_alloc w4 _ g h2))
                obtain ⟨w5, hw5⟩ : ∃ q, q = (w4.alloc (.cells #[.int .i64 zp, .int .i64 zb, .bool zt, .bool zr] 65)) := ⟨_, rfl⟩
                rw [← hw5] at f5 D5 B16 KS ⊢
                clear hw5
                obtain ⟨g16, hg16⟩ : ∃ q, q = w4.heap.size := ⟨_, rfl⟩
                rw [← hg16] at B16 hX16 ⊢
                clear hg16
                have X5 := hX3.fr f5 hXD
                have o35 := o3.fr f5 (fun g eg => by have := (o3.lt eg).1; omega)
                have o15 := o1.fr f5 (fun g eg => by have := (o1.lt eg).1; omega)
                have b5 : Below w.heap.size w w5 := hbq.trans (f5.below (B := w.heap.size) (fun j e => by omega) hbq.size)
                have hz5 : base ≤ w5.heap.size := by have := f5.size; omega
                have hXw : w.heap.size ≤ X := by omega
                have hX5 := X5.lt
                have u0 := B16.cell 0
                have u1 := B16.cell 1
                have u2 := B16.cell 2
                have u3 := B16.cell 3
                simp only [List.getElem?_toArray, List.getElem?_cons_zero, List.getElem?_cons_succ] at u0 u1 u2 u3
                have hn4 := hs4.len.2
                have hA1 : ∀ g, A1 = some ⟨g, 0, none⟩ → some g ≠ some X := fun g eg e => hA1X (by rw [eg]; exact e)
                have hA3 : ∀ g, A3 = some ⟨g, 0, none⟩ → some g ≠ some X := fun g eg e => hA3X (by rw [eg]; exact e)
                have HK6 := hide KS
                clear KS hs4 hg4 hD4 F0 F0z HDZ HDW HBZ HFZ HFS HK c0 c1' c2 c3' c4 y0 y1 y2 y3
                go_wp2_with (first | (refine wl_store (o := ⟨none, _, _, _, _, _⟩) rfl 65 _ _ rfl X #[.int .i64 zp, .int .i64 zb, .bool zt, .bool zr] rfl rfl 65 _ X5 (by kernel_rfl) rfl (by simp [Value.oneCell']) ?_; intro w6 hX6 hg6; have O6 := o35.grown hg6 hA3; have R6 := HK6.out w6 hg6; have hz6 : base ≤ w6.heap.size := by have := hg6.size; omega) | (at_builtin; refine wl_app eNo _ rfl (.tmp 70) (.tmp 71) _ rfl base 86 (.agg #[.int .i64 0, .int .i64 0, .int .i64 0, .bool false]) 32 Tryd.underlying24 info_no rfl (by omega) _ _ _ _ (by rfl) O6 _ n4 cA zN (by rfl) _ R6 (by omega) hz6 ?_; intro A5 c5 w7 o7 hg7 hA7))
                have o16 := o15.grown hg6 hA1
                go_roundw
                case rel => exact ⟨k + 1, A5, n3 + n4, c5, by omega, by go_num, rfl, by rw [HSN.out]; exact hX6.grown hg7 (fun e => hA3X e.symm), by rw [HSN.out]; exact o7, by rw [HSN.out]; exact (Blk.grown (Blk.grown D5 hg6 (by simpa using hXD.symm)) hg7 (fun e => by have := (o3.block _ e.symm).1; omega)), o16.app hg7 hap, (Apart.app hap.symm hA7 o16).symm, not_at hA3X hA7 (by have := hg6.size; omega), below_app (below_grown b5 hg6 hXw (Nat.le_refl _)) O6 hg7 (by omega) (Nat.le_refl _)⟩
                case measure => simp [intOf] <;> omega
              · have f5 := HFS.out _ (HFZ.out _ hg4)
                have hgN : D ≠ wr.heap.size := fun e => hgD e.symm
                have D5 : Rr ((((w4.setCell ⟨wr.heap.size, 0, none⟩ (.int .i64 zp)).setCell ⟨wr.heap.size, 1, none⟩ (.int .i64 zb)).setCell ⟨wr.heap.size, 2, none⟩ (.bool zt)).setCell ⟨wr.heap.size, 3, none⟩ (.bool zr)) D zq := Blk.far (Blk.far (Blk.far (Blk.far hD4 hgN _) hgN _) hgN _) hgN _
                have B16 : Blk ((((w4.setCell ⟨wr.heap.size, 0, none⟩ (.int .i64 zp)).setCell ⟨wr.heap.size, 1, none⟩ (.int .i64 zb)).setCell ⟨wr.heap.size, 2, none⟩ (.bool zt)).setCell ⟨wr.heap.size, 3, none⟩ (.bool zr)) wr.heap.size 65 #[.int .i64 zp, .int .i64 zb, .bool zt, .bool zr] := by
                  have q := ((((HBZ.out _ hg4).set_ 0 (.int .i64 zp)).set_ 1 (.int .i64 zb)).set_ 2 (.bool zt)).set_ 3 (.bool zr)
                  simpa using q
                have hX16 : X ≠ wr.heap.size := by have := hX3.lt; omega
                have KS : ∀ w6, World.grownBy ((((w4.setCell ⟨wr.heap.size, 0, none⟩ (.int .i64 zp)).setCell ⟨wr.heap.size, 1, none⟩ (.int .i64 zb)).setCell ⟨wr.heap.size, 2, none⟩ (.bool zt)).setCell ⟨wr.heap.size, 3, none⟩ (.bool zr)) w6 (some X) → Rd eNo w6 w6.heap.size A4 n4 cA zN := fun w6 g6 => hs4.rd (fun g h1 h2 => by
                  have h3 : wr.heap.size + 1 ≤ g := by simpa using h1
                  refine (g6.block g (by simpa [World.setCell] using h2) (by have := hX3.lt; simp; omega)).trans ?_
                  rw [Below.heap_setCell _ _ _ _ (show g ≠ wr.heap.size by omega), Below.heap_setCell _ _ _ _ (show g ≠ wr.heap.size by omega), Below.heap_setCell _ _ _ _ (show g ≠ wr.heap.size by omega), Below.heap_setCell _ _ _ _ (show g ≠ wr.heap.size by omega)])
                clear bz q0 q1 q2 q3 qf0 qf1 qf2 qf3
                obtain ⟨w5, hw5⟩ : ∃ q, q = ((((w4.setCell ⟨wr.heap.size, 0, none⟩ (.int .i64 zp)).setCell ⟨wr.heap.size, 1, none⟩ (.int .i64 zb)).setCell ⟨wr.heap.size, 2, none⟩ (.bool zt)).setCell ⟨wr.heap.size, 3, none⟩ (.bool zr)) := ⟨_, rfl⟩
                rw [← hw5] at f5 D5 B16 KS ⊢
                clear hw5
                obtain ⟨g16, hg16⟩ : ∃ q, q = wr.heap.size := ⟨_, rfl⟩
                rw [← hg16] at B16 hX16 ⊢
                clear hg16
                have X5 := hX3.fr f5 hXD
                have o35 := o3.fr f5 (fun g eg => by have := (o3.lt eg).1; omega)
                have o15 := o1.fr f5 (fun g eg => by have := (o1.lt eg).1; omega)
                have b5 : Below w.heap.size w w5 := hbq.trans (f5.below (B := w.heap.size) (fun j e => by omega) hbq.size)
                have hz5 : base ≤ w5.heap.size := by have := f5.size; omega
                have hXw : w.heap.size ≤ X := by omega
                have hX5 := X5.lt
                have u0 := B16.cell 0
                have u1 := B16.cell 1
                have u2 := B16.cell 2
                have u3 := B16.cell 3
                simp only [List.getElem?_toArray, List.getElem?_cons_zero, List.getElem?_cons_succ] at u0 u1 u2 u3
                have hn4 := hs4.len.2
                have hA1 : ∀ g, A1 = some ⟨g, 0, none⟩ → some g ≠ some X := fun g eg e => hA1X (by rw [eg]; exact e)
                have hA3 : ∀ g, A3 = some ⟨g, 0, none⟩ → some g ≠ some X := fun g eg e => hA3X (by rw [eg]; exact e)
                have HK6 := hide KS
                clear KS hs4 hg4 hD4 F0 F0z HDZ HDW HBZ HFZ HFS HK c0 c1' c2 c3' c4 y0 y1 y2 y3
                go_wp2_with (first | (refine wl_store (o := ⟨none, _, _, _, _, _⟩) rfl 65 _ _ rfl X #[.int .i64 zp, .int .i64 zb, .bool zt, .bool zr] rfl rfl 65 _ X5 (by kernel_rfl) rfl (by simp [Value.oneCell']) ?_; intro w6 hX6 hg6; have O6 := o35.grown hg6 hA3; have R6 := HK6.out w6 hg6; have hz6 : base ≤ w6.heap.size := by have := hg6.size; omega) | (at_builtin; refine wl_app eNo _ rfl (.tmp 70) (.tmp 71) _ rfl base 86 (.agg #[.int .i64 0, .int .i64 0, .int .i64 0, .bool false]) 32 Tryd.underlying24 info_no rfl (by omega) _ _ _ _ (by rfl) O6 _ n4 cA zN (by rfl) _ R6 (by omega) hz6 ?_; intro A5 c5 w7 o7 hg7 hA7))
                have o16 := o15.grown hg6 hA1
                go_roundw
                case rel => exact ⟨k + 1, A5, n3 + n4, c5, by omega, by go_num, rfl, by rw [HSN.out]; exact hX6.grown hg7 (fun e => hA3X e.symm), by rw [HSN.out]; exact o7, by rw [HSN.out]; exact (Blk.grown (Blk.grown D5 hg6 (by simpa using hXD.symm)) hg7 (fun e => by have := (o3.block _ e.symm).1; omega)), o16.app hg7 hap, (Apart.app hap.symm hA7 o16).symm, not_at hA3X hA7 (by have := hg6.size; omega), below_app (below_grown b5 hg6 hXw (Nat.le_refl _)) O6 hg7 (by omega) (Nat.le_refl _)⟩
                case measure => simp [intOf] <;> omega
            · obtain rfl : k = n := by omega
              have hkn : L.take k = L := by rw [List.take_of_length_le]; have := HL.out; omega
              rw [hkn] at hy
              have HXX := hide (show carrF L P s (i + 1) = ((carrF L P s i).1 ++ [normL ⟨lp, lb, lt, lr⟩], yN, yq) by rw [HX.out, hy])
              have hlp0 : 0 ≤ lp := hyp.1
              have hR := Rd.newAt (e := eLi) wr 65 (⟨lp, lb, lt, lr⟩ : Li) #[.int .i64 lp, .int .i64 lb, .bool lt, .bool lr] rfl wr.heap.size rfl
              have hi2 : i ≤ 4096 := by omega
              have hA1D : some D ≠ A1.map (·.block) := fun e => by have := (o1.block _ e.symm).1; omega
              clear hy hkn hltk
              by_cases hon : 0 < lp ∨ lr = true
              · have HN := hide (show normL ⟨lp, lb, lt, lr⟩ = ⟨lp, lb, lt, lr⟩ by unfold normL; rw [if_pos hon])
                by_cases hpos : 0 < lp
                · have hpz : (lp == 0) = false := by simp; omega
                  go_wp2_with (at_builtin; refine wl_app eLi _ rfl (.tmp 82) (.tmp 84) _ rfl base 65 (.agg #[.int .i64 0, .int .i64 0, .bool false, .bool false]) 24 Tryd.underlying41 info_li rfl (by omega) _ _ _ _ (by rfl) (o1.alloc _) _ 1 1 [_] (by rfl) _ hR (by omega) (by simp; omega) ?_; intro A5 c5 w7 o7 hg7 hA7)
                  go_roundw
                  case rel => exact ⟨i + 1, A5, c5, A3, n3, c3, by omega, by go_num, rfl, rfl, by rw [HXX.out, HN.out]; exact o7, by rw [HXX.out]; exact (o3.alloc _).app hg7 hap.symm, Apart.app hap hA7 (o3.alloc _), by rw [HXX.out]; exact Blk.grown (Blk.alloc hD3 _) hg7 hA1D, below_app (hbq.alloc hbq.size _) (o1.alloc _) hg7 (by omega) (Nat.le_refl _), by have := hg7.size; simp at this; omega⟩
                  case measure => simp [intOf] <;> omega
                · obtain rfl : lp = 0 := by omega
                  obtain rfl : lr = true := by rcases hon with h | h; exact absurd h hpos; exact h
                  go_wp2_with (at_builtin; refine wl_app eLi _ rfl (.tmp 82) (.tmp 84) _ rfl base 65 (.agg #[.int .i64 0, .int .i64 0, .bool false, .bool false]) 24 Tryd.underlying41 info_li rfl (by omega) _ _ _ _ (by rfl) (o1.alloc _) _ 1 1 [_] (by rfl) _ hR (by omega) (by simp; omega) ?_; intro A5 c5 w7 o7 hg7 hA7)
                  go_roundw
                  case rel => exact ⟨i + 1, A5, c5, A3, n3, c3, by omega, by go_num, rfl, rfl, by rw [HXX.out, HN.out]; exact o7, by rw [HXX.out]; exact (o3.alloc _).app hg7 hap.symm, Apart.app hap hA7 (o3.alloc _), by rw [HXX.out]; exact Blk.grown (Blk.alloc hD3 _) hg7 hA1D, below_app (hbq.alloc hbq.size _) (o1.alloc _) hg7 (by omega) (Nat.le_refl _), by have := hg7.size; simp at this; omega⟩
                  case measure => simp [intOf] <;> omega
              · obtain rfl : lp = 0 := by have : ¬ 0 < lp := fun h => hon (Or.inl h); omega
                obtain rfl : lr = false := by cases lr; rfl; exact absurd (Or.inr rfl) hon
                have HN := hide (show normL ⟨0, lb, lt, false⟩ = li0 by unfold normL; rw [if_neg hon])
                clear hon hR
                go_wp2_with (first | (refine wl_store (o := ⟨none, _, _, _, _, _⟩) rfl 65 _ _ rfl X #[.int .i64 0, .int .i64 0, .bool false, .bool false] rfl rfl 65 _ hX3 (by kernel_rfl) rfl (by simp [Value.oneCell']) ?_; intro w8 hX8 hg8; have O8 := o1.grown hg8 (fun g eg e => hA1X (by rw [eg]; exact e)); have hR8 := Rd.newAt (e := eLi) w8 65 li0 #[.int .i64 0, .int .i64 0, .bool false, .bool false] rfl w8.heap.size rfl; have hz8 : base ≤ w8.heap.size := (Nat.le_trans hzq hg8.size); have v0 := hX8.cell 0; have v1 := hX8.cell 1; have v2 := hX8.cell 2; have v3 := hX8.cell 3; simp only [List.getElem?_toArray, List.getElem?_cons_zero, List.getElem?_cons_succ] at v0 v1 v2 v3) | (at_builtin; refine wl_app eLi _ rfl (.tmp 82) (.tmp 84) _ rfl base 65 (.agg #[.int .i64 0, .int .i64 0, .bool false, .bool false]) 24 Tryd.underlying41 info_li rfl (by omega) _ _ _ _ (by rfl) (O8.alloc _) _ 1 1 [li0] (by rfl) _ hR8 (by omega) (by simp; omega) ?_; intro A5 c5 w7 o7 hg7 hA7))
                have o38 := o3.grown hg8 (fun g eg e => hA3X (by rw [eg]; exact e))
                go_roundw
                case rel => exact ⟨i + 1, A5, c5, A3, n3, c3, by omega, by go_num, rfl, rfl, by rw [HXX.out, HN.out]; exact o7, by rw [HXX.out]; exact (o38.alloc _).app hg7 hap.symm, Apart.app hap hA7 (o38.alloc _), by rw [HXX.out]; exact Blk.grown (Blk.alloc (Blk.grown hD3 hg8 (by simpa using hXD.symm)) _) hg7 hA1D, below_app ((below_grown hbq hg8 (by omega) (Nat.le_refl _)).alloc (Nat.le_trans hbq.size hg8.size) _) (O8.alloc _) hg7 (by omega) (Nat.le_refl _), by have := hg7.size; simp at this; omega⟩
                case measure => simp [intOf] <;> omega
        · obtain rfl : i = n' := by omega
          have HR1 := hide o1.rd
          have HR2 := hide o2.rd
          go_wp2
          go_ret3
          refine ⟨_, _, _, _, _, _, by rw [HEZ.out]; rfl, ?_, ?_, hbr⟩
          · unfold carryX
            rw [if_pos HEZ.out, HP.out]
            exact HR1.out
          · unfold carryN
            rw [if_pos HEZ.out, HP.out]
            exact HR2.out
    · have HEE := hide (show carryErr L P = pulsesErr P from HE.out)
      have HNE := hide h1
      have hne2 : (pulsesErr P != 0) = true := by simpa using h1
      have hne : (pulsesErr P == 0) = false := by simpa using h1
      clear h1
      go_enter Tryd.func33, Tryd.ntmps33
      go_wp2_with (first | (go_at_call 58; refine HCR.out.mono ?_; rintro e w1 ⟨rfl, hb1⟩; have HV := hide (hval w1 hb1)) | (go_at_call 63; refine HV.out.mono ?_; rintro e w2 ⟨rfl, hb2⟩))
      go_ret3
      exact SCar.err HEE.out HNE.out (below_on hb1 hb2)
  · have HEE := hide (carryErr_rules (P := P) h0)
    have HCR := hide hcr
    have HNE := hide h0
    have hne2 : (rulesErr L != 0) = true := by simpa using h0
    have hne : (rulesErr L == 0) = false := by simpa using h0
    clear hcr h0
    go_enter Tryd.func33, Tryd.ntmps33
    go_wp2_with (go_at_call 58; refine HCR.out.mono ?_; rintro e w1 ⟨rfl, hb1⟩; have HV := hide (hval w1 hb1))
    go_ret3
    exact SCar.err HEE.out HNE.out hb1
end Go.Proofs.YtddajmagdjkodaaDoor
