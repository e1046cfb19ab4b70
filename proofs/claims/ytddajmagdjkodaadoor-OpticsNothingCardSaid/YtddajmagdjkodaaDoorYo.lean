/- The walk of the law OpticsNothing. -/
import Derived.Test.YtddajmagdjkodaaDoorYq
import Derived.Test.YtddajmagdjkodaaDoorYf
import Derived.Test.YtddajmagdjkodaaDoorYi
import Derived.Test.YtddajmagdjkodaaDoorQl
import Derived.Test.YtddajmagdjkodaaDoorVt
import Derived.Laws.BitsLemmas
import Derived.Deep.RegionHeld3
import Derived.Deep.DrawnRows
namespace Go.Proofs.YtddajmagdjkodaaDoor
open Go.RowKit

theorem i64_and1 (n : Int) : bits .and .i64 n 1 = n % 2 := by
  have h1 : (BitVec.ofInt 64 1).toNat = 2 ^ 1 - 1 := by decide
  have key : (BitVec.ofInt 64 n &&& BitVec.ofInt 64 1).toNat = (n % ((2 ^ 64 : Nat) : Int)).toNat % 2 ^ 1 := by
    rw [BitVec.toNat_and, BitVec.toNat_ofInt, h1, Nat.and_two_pow_sub_one_eq_mod]
  show IntKind.i64.wrap ((BitVec.ofInt 64 n &&& BitVec.ofInt 64 1).toNat : Nat) = n % 2
  rw [key, IntKind.wrap_i64]
  omega
theorem i64_and3 (n : Int) : bits .and .i64 n 3 = n % 4 := by
  have h1 : (BitVec.ofInt 64 3).toNat = 2 ^ 2 - 1 := by decide
  have key : (BitVec.ofInt 64 n &&& BitVec.ofInt 64 3).toNat = (n % ((2 ^ 64 : Nat) : Int)).toNat % 2 ^ 2 := by
    rw [BitVec.toNat_and, BitVec.toNat_ofInt, h1, Nat.and_two_pow_sub_one_eq_mod]
  show IntKind.i64.wrap ((BitVec.ofInt 64 n &&& BitVec.ofInt 64 3).toNat : Nat) = n % 4
  rw [key, IntKind.wrap_i64]
  omega

theorem info_pu2 : (Tryd.prog.info? 59).map (fun i => (i.zero, i.size, i.bytes)) = some (some (.agg #[.int .i64 0, .bool false, .int .i64 0, .int .i64 0, .bool false]), 5, 40) := by kernel_rfl
def kNothing : List Int := [4, 1, 2, 5, 6, 7]
theorem kNothing_ok : OkK kNothing := ⟨by decide, by decide, by decide⟩
/-- The law's two lists of pulses. -/
def pa (p : Pu) : Pu := ⟨p.b % 2, p.bit, 2, p.ph % 4, true⟩
def pb (p : Pu) : Pu := if p.ph % 4 = 0 then ⟨1 - p.b % 2, !p.bit, 2, 0, true⟩ else pa p
theorem pa_ok (p : Pu) : okPu (pa p) = true := by simp [okPu, pa]; omega
theorem pb_ok (p : Pu) : okPu (pb p) = true := by
  unfold pb; split
  · simp [okPu]; omega
  · exact pa_ok p
theorem map_ok {f : Pu → Pu} (h : ∀ p, okPu (f p) = true) (P : List Pu) : (P.map f).all okPu = true := by
  rw [List.all_eq_true]; intro y hy; obtain ⟨x, _, rfl⟩ := List.mem_map.1 hy; exact h x
theorem pab (p : Pu) : Alike (liOf (pa p)) (liOf (pb p)) := by
  unfold pb; split
  · rename_i h; exact .inr ⟨rfl, rfl, by simp [liOf, pa, h], rfl⟩
  · exact .inl rfl
theorem map_snoc {f : Pu → Pu} {P : List Pu} {k : Nat} {p : Pu} (h : P[k]? = some p) : (P.take (k + 1)).map f = (P.take k).map f ++ [f p] := by
  rw [List.take_add_one, h, List.map_append]; rfl
theorem noth_carr (L : List Ru) (P : List Pu) (s : Nat) : carrF L (P.map pa) s P.length = carrF L (P.map pb) s P.length :=
  carrF_alike s (by simp) (fun i p q hp hq => by
    rw [List.getElem?_map] at hp hq
    cases h : P[i]? with
    | none => rw [h] at hp; cases hp
    | some x =>
      rw [h] at hp hq
      obtain rfl := Option.some.inj hp
      obtain rfl := Option.some.inj hq
      exact pab x) _ (by simp)
/-- Carry over pulses that are valid. -/
def SCk (L : List Ru) (P : List Pu) (s : Nat) (w : World) (e : Ending) (w' : World) : Prop :=
  ∃ A c A' n' c', e = .returned (.tuple #[.slice A P.length c, .slice A' n' c', .int .i64 0]) ∧ Rd eLi w' w'.heap.size A P.length c (carrF L P s P.length).1 ∧ Rd eNo w' w'.heap.size A' n' c' (carrF L P s P.length).2.1 ∧ Below w.heap.size w w'
theorem carry_k {L : List Ru} {P : List Pu} (hL : rulesErr L = 0) (hP : P.all okPu = true) (hn : P.length ≤ 4096) (A : Option Addr) (n c : Nat) (A' : Option Addr) (n' c' : Nat) (s : Nat) (w : World) (r : Rd eRu w w.heap.size A n c L) (p : Rd ePu w w.heap.size A' n' c' P) :
    Calls Tryd.prog 32 #[.slice A n c, .slice A' n' c', .int .u64 (s : Int)] w (SCk L P s w) := by
  have he : carryErr L P = 0 := by unfold carryErr pulsesErr; rw [if_pos hL, if_neg (by omega), if_pos hP]
  refine (carry_c A n c L A' n' c' P s w r p).mono fun e w' h => ?_
  obtain ⟨B, n2, c2, B', n3, c3, h1, h2, h3, h4⟩ := h
  rw [he] at h1
  unfold carryX at h2
  unfold carryN at h3
  rw [if_pos he] at h2 h3
  have hl := h2.len
  rw [carrF_len L P s _ (Nat.le_refl _)] at hl
  subst hl
  exact ⟨B, c2, B', n3, c3, h1, h2, h3, h4⟩
theorem plain_check {dark : Nat} (h : dark < 256) : checkErr (plainF 256 dark) = 0 := by
  have : okO (plainF 256 dark) = true := by
    simp [okO, okA, okB, okC, rowsOk, rowL, wts, part, plainF, List.range, List.range.loop]
    omega
  unfold checkErr; rw [if_pos this]

set_option maxRecDepth 100000 in
set_option maxHeartbeats 6400000 in
theorem nothing_c (A : Option Addr) (n c : Nat) (P : List Pu) (A' : Option Addr) (n' c' : Nat) (S : List Sp) (sd dk : Nat) (hdk : dk < 256) (w : World) (p : Rd ePu w w.heap.size A n c P) (s : Rd eSp w w.heap.size A' n' c' S) (ht : Tab w) :
    Calls Tryd.prog 7 #[.slice A n c, .slice A' n' c', .int .u64 (sd : Int), .int .u8 (dk : Int)] w fun e w' => e = .returned (.bool true) ∧ Below w.heap.size w w' := by
  have hm := p.max
  have hcap := p.cap
  have HL := hide p.len
  go_enter Tryd.func7, Tryd.ntmps7
  go_wp2
  go_loopw [11, 9, 10] (fun iv av bv wr => ∃ (k : Nat) (A1 : Option Addr) (c1 : Nat) (A2 : Option Addr) (c2 : Nat), k ≤ n ∧ k ≤ 200 ∧ iv = .int .i64 k ∧ av = .slice A1 k c1 ∧ bv = .slice A2 k c2 ∧ Ow ePu wr w.heap.size 59 A1 k c1 ((P.take k).map pa) ∧ Ow ePu wr w.heap.size 59 A2 k c2 ((P.take k).map pb) ∧ Apart A1 A2 ∧ Below w.heap.size w wr) (fun iv _ _ _ => n - (intOf iv).toNat)
  case atStart => exact ⟨0, none, 0, none, 0, by omega, by omega, rfl, rfl, rfl, Ow.nil _ _ _, Ow.nil _ _ _, Apart.nil _, Below.refl _ _⟩
  case round =>
    obtain ⟨k, A1, c1, A2, c2, hk, hk2, rfl, rfl, rfl, o1, o2, hap, hbw⟩ := hrel
    by_cases hlt : k < n
    · by_cases hlt2 : k < 200
      · obtain ⟨b1, off, x, rfl, hbb, hx, hc⟩ := (p.below hbw).get hlt
        have x0 := hc 0 _ rfl
        have x1 := hc 1 _ rfl
        have x3 := hc 3 _ rfl
        simp only [ePu, Nat.add_zero] at x0 x1 x3
        have HXA := hide (map_snoc (f := pa) hx)
        have HXB := hide (map_snoc (f := pb) hx)
        obtain ⟨rb, xt, rc, rp, rs⟩ := x
        simp only at x0 x1 x3
        have e1 := i64_and1 rb
        have e3 := i64_and3 rp
        have hxb : 0 ≤ rb % 2 ∧ rb % 2 ≤ 1 := by omega
        have hxp : 0 ≤ rp % 4 ∧ rp % 4 ≤ 3 := by omega
        have HPA := hide (show pa ⟨rb, xt, rc, rp, rs⟩ = ⟨rb % 2, xt, 2, rp % 4, true⟩ from rfl)
        have HPB := hide (show pb ⟨rb, xt, rc, rp, rs⟩ = if rp % 4 = 0 then ⟨1 - rb % 2, !xt, 2, 0, true⟩ else ⟨rb % 2, xt, 2, rp % 4, true⟩ from rfl)
        obtain ⟨xb, hxbe⟩ : ∃ v, v = rb % 2 := ⟨_, rfl⟩
        obtain ⟨xp, hxpe⟩ : ∃ v, v = rp % 4 := ⟨_, rfl⟩
        rw [← hxbe] at e1 hxb HPA HPB
        rw [← hxpe] at e3 hxp HPA HPB
        rw [HPA.out] at HXA
        rw [HPB.out] at HXB
        clear hc hx HPA HPB hxbe hxpe
        have hi0 : (0 : Int) ≤ (k : Int) := by omega
        have hi1 : (k : Int) < (n : Int) := by omega
        have hbs : b1 < wr.heap.size := by have := hbw.size; omega
        go_upto_region 5 with fail
        have HKP := hide (show ∀ w', Below wr.heap.size wr w' → w'.cell? ⟨b1, off + k * 5, none⟩ = some (.int .i64 rb) ∧ w'.cell? ⟨b1, off + k * 5 + 1, none⟩ = some (.bool xt) ∧ w'.cell? ⟨b1, off + k * 5 + 3, none⟩ = some (.int .i64 rp) from fun w' hw => ⟨(hw.cell (p := ⟨b1, off + k * 5, none⟩) hbs).trans x0, (hw.cell (p := ⟨b1, off + k * 5 + 1, none⟩) hbs).trans x1, (hw.cell (p := ⟨b1, off + k * 5 + 3, none⟩) hbs).trans x3⟩)
        have HB0 := hide (Below.refl wr.heap.size wr).drew
        have HB1 := hide (fun o => (below_alloc wr o).drew)
        go_region_held3 (fun w' => w'.cell? ⟨b1, off + k * 5, none⟩ = some (.int .i64 rb) ∧ w'.cell? ⟨b1, off + k * 5 + 1, none⟩ = some (.bool xt) ∧ w'.cell? ⟨b1, off + k * 5 + 3, none⟩ = some (.int .i64 rp)) (first | exact HKP.out _ HB0.out | exact HKP.out _ (HB1.out _)) (fail)
        have hX := (Blk.newAt wr 59 #[.int .i64 xb, .bool xt, .int .i64 2, .int .i64 xp, .bool true] wr.heap.size rfl).drew
        have q1 := (o1.alloc (.cells #[.int .i64 xb, .bool xt, .int .i64 2, .int .i64 xp, .bool true] 59)).drew
        have q2 := (o2.alloc (.cells #[.int .i64 xb, .bool xt, .int .i64 2, .int .i64 xp, .bool true] 59)).drew
        have hbS := (hbw.alloc hbw.size (.cells #[.int .i64 xb, .bool xt, .int .i64 2, .int .i64 xp, .bool true] 59)).drew
        have hA1X : some wr.heap.size ≠ A1.map (·.block) := fun e => by have := (o1.block _ e.symm).2; omega
        have hA2X : some wr.heap.size ≠ A2.map (·.block) := fun e => by have := (o2.block _ e.symm).2; omega
        have hzw : w.heap.size ≤ wr.heap.size := hbw.size
        obtain ⟨w1, hw1⟩ : ∃ q, q = (wr.alloc (.cells #[.int .i64 xb, .bool xt, .int .i64 2, .int .i64 xp, .bool true] 59)).drew := ⟨_, rfl⟩
        rw [← hw1] at hX q1 q2 hbS ⊢
        clear hw1 HKP HB0 HB1 o1 o2 hbw x0 x1 x3 e1 e3
        obtain ⟨gX, hgX⟩ : ∃ q, q = wr.heap.size := ⟨_, rfl⟩
        rw [← hgX] at hX hA1X hA2X hzw ⊢
        clear hgX hbs
        have hR := Rd.newAt (e := ePu) w1 59 (⟨xb, xt, 2, xp, true⟩ : Pu) #[.int .i64 xb, .bool xt, .int .i64 2, .int .i64 xp, .bool true] rfl w1.heap.size rfl
        have hz1 := hbS.size
        go_upto_region 7 with (first | (refine wl_load (o := ⟨some 51, _, _, _, _, _⟩) rfl 59 _ rfl gX rfl 59 #[.int .i64 xb, .bool xt, .int .i64 2, .int .i64 xp, .bool true] _ hX Tryd.underlying59 rfl (by kernel_rfl) ?_) | (at_builtin; refine wl_app ePu _ rfl (.tmp 50) (.tmp 52) _ rfl w.heap.size 59 (.agg #[.int .i64 0, .bool false, .int .i64 0, .int .i64 0, .bool false]) 40 Tryd.underlying22 info_pu2 rfl (by omega) _ _ _ _ (by rfl) (q1.alloc _) _ 1 1 [⟨xb, xt, 2, xp, true⟩] (by rfl) _ hR (by omega) (by first | omega | (simp; omega)) ?_; intro A3 c3 w3 o3 hg3 hA3; have o3X : ∀ g, A3 = some ⟨g, 0, none⟩ → g ≠ gX := (fun g eg => by (rcases hA3 with h | ⟨g', h, hg'⟩); (· rw [eg] at h; rw [← h] at hA1X; simp at hA1X; omega); (· rw [eg] at h; injection h with h; injection h with h; have := hX.lt; simp at hg'; omega))))
        have hX3 := (hX.alloc (.cells #[.int .i64 xb, .bool xt, .int .i64 2, .int .i64 xp, .bool true] 59)).grown hg3 hA1X
        have q2' := (q2.alloc (.cells #[.int .i64 xb, .bool xt, .int .i64 2, .int .i64 xp, .bool true] 59)).app hg3 hap.symm
        have hap3 := hap.app hA3 (q2.alloc (.cells #[.int .i64 xb, .bool xt, .int .i64 2, .int .i64 xp, .bool true] 59))
        have hbT := below_app (hbS.alloc hbS.size (.cells #[.int .i64 xb, .bool xt, .int .i64 2, .int .i64 xp, .bool true] 59)) (q1.alloc (.cells #[.int .i64 xb, .bool xt, .int .i64 2, .int .i64 xp, .bool true] 59)) hg3 (Nat.le_refl _) (Nat.le_refl _)
        have hz3 := hbT.size
        rw [← HXA.out] at o3
        clear hX q1 q2 hbS hap hA3 hR hz1 hg3
        have y0 := hX3.cell 0
        have y1 := hX3.cell 1
        have y3 := hX3.cell 3
        have yf0 := hX3.frozen 0
        simp only [List.getElem?_toArray, List.getElem?_cons_succ, List.getElem?_cons_zero] at y0 y1 y3
        by_cases h0 : xp = 0
        · subst h0
          rw [if_pos rfl] at HXB
          go_upto_region 9 with fail
          have hX4 : Blk (w3.setCell ⟨gX, 0, none⟩ (.int .i64 (1 - xb))) gX 59 #[.int .i64 (1 - xb), .bool xt, .int .i64 2, .int .i64 0, .bool true] := by simpa using hX3.set_ 0 (.int .i64 (1 - xb))
          have q4 := q2'.far (p := ⟨gX, 0, none⟩) (fun g eg => by rw [eg] at hA2X; simp at hA2X; simp; omega) (.int .i64 (1 - xb))
          have o4 := o3.far (p := ⟨gX, 0, none⟩) (fun g eg => by have := o3X g eg; simp; omega) (.int .i64 (1 - xb))
          have hbU := below_setNew (i := 0) hbT hzw (.int .i64 (1 - xb))
          obtain ⟨w4, hw4⟩ : ∃ q, q = w3.setCell ⟨gX, 0, none⟩ (.int .i64 (1 - xb)) := ⟨_, rfl⟩
          rw [← hw4] at hX4 q4 o4 hbU ⊢
          clear hw4 hX3 q2' o3 hbT y0 y1 y3 yf0
          have y1 := hX4.cell 1
          have yf1 := hX4.frozen 1
          simp only [List.getElem?_toArray, List.getElem?_cons_succ, List.getElem?_cons_zero] at y1
          go_upto_region 10 with fail
          have hX5 : Blk (w4.setCell ⟨gX, 1, none⟩ (.bool (!xt))) gX 59 #[.int .i64 (1 - xb), .bool (!xt), .int .i64 2, .int .i64 0, .bool true] := by simpa using hX4.set_ 1 (.bool (!xt))
          have q5 := q4.far (p := ⟨gX, 1, none⟩) (fun g eg => by rw [eg] at hA2X; simp at hA2X; simp; omega) (.bool (!xt))
          have o5 := o4.far (p := ⟨gX, 1, none⟩) (fun g eg => by have := o3X g eg; simp; omega) (.bool (!xt))
          have hbV := below_setNew (i := 1) hbU hzw (.bool (!xt))
          obtain ⟨w5, hw5⟩ : ∃ q, q = w4.setCell ⟨gX, 1, none⟩ (.bool (!xt)) := ⟨_, rfl⟩
          rw [← hw5] at hX5 q5 o5 hbV ⊢
          clear hw5 hX4 q4 o4 hbU y1 yf1
          have hR := Rd.newAt (e := ePu) w5 59 (⟨1 - xb, !xt, 2, 0, true⟩ : Pu) #[.int .i64 (1 - xb), .bool (!xt), .int .i64 2, .int .i64 0, .bool true] rfl w5.heap.size rfl
          have hz5 := hbV.size
          go_wp2_with (first | (refine wl_load (o := ⟨some 66, _, _, _, _, _⟩) rfl 59 _ rfl gX rfl 59 #[.int .i64 (1 - xb), .bool (!xt), .int .i64 2, .int .i64 0, .bool true] _ hX5 Tryd.underlying59 rfl (by kernel_rfl) ?_) | (at_builtin; refine wl_app ePu _ rfl (.tmp 65) (.tmp 67) _ rfl w.heap.size 59 (.agg #[.int .i64 0, .bool false, .int .i64 0, .int .i64 0, .bool false]) 40 Tryd.underlying22 info_pu2 rfl (by omega) _ _ _ _ (by rfl) (q5.alloc _) _ 1 1 [⟨1 - xb, !xt, 2, 0, true⟩] (by rfl) _ hR (by omega) (by first | omega | (simp; omega)) ?_; intro A6 c6 w6 o6 hg6 hA6))
          go_roundw
          case rel => exact ⟨k + 1, A3, c3, A6, c6, by omega, by omega, by go_num, rfl, rfl, (o5.alloc _).app hg6 hap3, by rw [HXB.out]; exact o6, (hap3.symm.app hA6 (o5.alloc _)).symm, below_app (hbV.alloc hbV.size _) (q5.alloc _) hg6 (Nat.le_refl _) (Nat.le_refl _)⟩
          case measure => simp [intOf] <;> omega
        · rw [if_neg h0] at HXB
          have h0b : (xp == 0) = false := by simpa using h0
          have hR := Rd.newAt (e := ePu) w3 59 (⟨xb, xt, 2, xp, true⟩ : Pu) #[.int .i64 xb, .bool xt, .int .i64 2, .int .i64 xp, .bool true] rfl w3.heap.size rfl
          go_upto_region 10 with fail
          go_wp2_with (first | (refine wl_load (o := ⟨some 66, _, _, _, _, _⟩) rfl 59 _ rfl gX rfl 59 #[.int .i64 xb, .bool xt, .int .i64 2, .int .i64 xp, .bool true] _ hX3 Tryd.underlying59 rfl (by kernel_rfl) ?_) | (at_builtin; refine wl_app ePu _ rfl (.tmp 65) (.tmp 67) _ rfl w.heap.size 59 (.agg #[.int .i64 0, .bool false, .int .i64 0, .int .i64 0, .bool false]) 40 Tryd.underlying22 info_pu2 rfl (by omega) _ _ _ _ (by rfl) (q2'.alloc _) _ 1 1 [⟨xb, xt, 2, xp, true⟩] (by rfl) _ hR (by omega) (by first | omega | (simp; omega)) ?_; intro A6 c6 w6 o6 hg6 hA6))
          go_roundw
          case rel => exact ⟨k + 1, A3, c3, A6, c6, by omega, by omega, by go_num, rfl, rfl, (o3.alloc _).app hg6 hap3, by rw [HXB.out]; exact o6, (hap3.symm.app hA6 (o3.alloc _)).symm, below_app (hbT.alloc hbT.size _) (q2'.alloc _) hg6 (Nat.le_refl _) (Nat.le_refl _)⟩
          case measure => simp [intOf] <;> omega
      · have HT := hide (show P.take k = P.take 200 by rw [show k = 200 by omega])
        have HLN := hide (show (P.take 200).length = k by rw [List.length_take]; have := HL.out; omega)
        rw [HT.out] at o1 o2
        obtain ⟨Q, hQ⟩ : ∃ Q, Q = P.take 200 := ⟨_, rfl⟩
        rw [← hQ] at o1 o2 HLN
        clear hQ hap
        have hk4 : k ≤ 4096 := by omega
        have p1 := o1.rd
        have p2 := o2.rd
        have s1 := s.on hbw
        have ht1 := ht.on hbw
        go_upto_region 11 with fail
        have q2 := Rd.many (e := eInt) wr 3 kNothing #[.int .i64 4, .int .i64 1, .int .i64 2, .int .i64 5, .int .i64 6, .int .i64 7] rfl 6 rfl (by omega) wr.heap.size rfl
        have s3 := s1.alloc (.cells #[.int .i64 4, .int .i64 1, .int .i64 2, .int .i64 5, .int .i64 6, .int .i64 7] 3)
        have hb3 := below_alloc wr (.cells #[.int .i64 4, .int .i64 1, .int .i64 2, .int .i64 5, .int .i64 6, .int .i64 7] 3)
        go_upto_region 12 with (go_at_call 36; refine (rules_c kNothing kNothing_ok S A' n' c' _ 6 6 _ s3 q2).mono ?_; rintro e w3 ⟨A0, n0, c4, rfl, r3, hb4⟩)
        have hb5 := below_on hb3 hb4
        have p3 := p1.on hb5
        have p4 := p2.on hb5
        have ht3 := ht1.on hb5
        have hb6 := below_on hbw hb5
        obtain ⟨L, hL⟩ : ∃ L, L = genL kNothing S := ⟨_, rfl⟩
        rw [← hL] at r3
        have hL1 : rulesErr L = 0 := by rw [hL]; exact (genL_ok kNothing_ok S).1
        clear hL o1 o2 p1 p2 s1 s3 q2 hb3 hb4 hb5 hbw ht1
        obtain ⟨X, hX⟩ : ∃ X, X = (carrF L (Q.map pa) sd k).1 := ⟨_, rfl⟩
        obtain ⟨N, hN⟩ : ∃ N, N = (carrF L (Q.map pa) sd k).2.1 := ⟨_, rfl⟩
        have HCA := hide (show ∀ W, Rd eRu W W.heap.size A0 n0 c4 L → Rd ePu W W.heap.size A1 k c1 (Q.map pa) → Calls Tryd.prog 32 #[.slice A0 n0 c4, .slice A1 k c1, .int .u64 (sd : Int)] W fun e w' => ∃ B d B' n2 d', e = .returned (.tuple #[.slice B k d, .slice B' n2 d', .int .i64 0]) ∧ Rd eLi w' w'.heap.size B k d X ∧ Rd eNo w' w'.heap.size B' n2 d' N ∧ Below W.heap.size W w' from fun W h1 h2 =>
          (carry_k hL1 (map_ok pa_ok Q) (by rw [List.length_map, HLN.out]; exact hk4) A0 n0 c4 A1 k c1 sd W h1 h2).mono fun e w' h => by
            obtain ⟨B, d, B', n2, d', e1, e2, e3, e4⟩ := h
            rw [List.length_map, HLN.out] at e1 e2 e3
            exact ⟨B, d, B', n2, d', e1, by rw [hX]; exact e2, by rw [hN]; exact e3, e4⟩)
        have HCB := hide (show ∀ W, Rd eRu W W.heap.size A0 n0 c4 L → Rd ePu W W.heap.size A2 k c2 (Q.map pb) → Calls Tryd.prog 32 #[.slice A0 n0 c4, .slice A2 k c2, .int .u64 (sd : Int)] W fun e w' => ∃ B d B' n2 d', e = .returned (.tuple #[.slice B k d, .slice B' n2 d', .int .i64 0]) ∧ Rd eLi w' w'.heap.size B k d X ∧ Rd eNo w' w'.heap.size B' n2 d' N ∧ Below W.heap.size W w' from fun W h1 h2 =>
          (carry_k hL1 (map_ok pb_ok Q) (by rw [List.length_map, HLN.out]; exact hk4) A0 n0 c4 A2 k c2 sd W h1 h2).mono fun e w' h => by
            obtain ⟨B, d, B', n2, d', e1, e2, e3, e4⟩ := h
            have hc := noth_carr L Q sd
            rw [HLN.out] at hc
            rw [List.length_map, HLN.out] at e1 e2 e3
            rw [← hc] at e2 e3
            exact ⟨B, d, B', n2, d', e1, by rw [hX]; exact e2, by rw [hN]; exact e3, e4⟩)
        have HCL := hide (show ∀ W (g : Nat), Rd eRu W W.heap.size (some ⟨g, 0, none⟩) 1 1 [lossR] → Rd ePu W W.heap.size A1 k c1 (Q.map pa) → Calls Tryd.prog 32 #[.slice (some ⟨g, 0, none⟩) 1 1, .slice A1 k c1, .int .u64 (sd : Int)] W fun e w' => ∃ B d B' d', e = .returned (.tuple #[.slice B k d, .slice B' 0 d', .int .i64 0]) ∧ Rd eLi w' w'.heap.size B k d (List.replicate k li0) ∧ Below W.heap.size W w' from fun W g h1 h2 =>
          (carry_k (by decide) (map_ok pa_ok Q) (by rw [List.length_map, HLN.out]; exact hk4) (some ⟨g, 0, none⟩) 1 1 A1 k c1 sd W h1 h2).mono fun e w' h => by
            obtain ⟨B, d, B', n2, d', e1, e2, e3, e4⟩ := h
            obtain ⟨l1, l2⟩ := carrF_loss (map_ok pa_ok Q) sd (Q.map pa).length (Nat.le_refl _)
            rw [l1] at e2
            rw [l2] at e3
            rw [List.length_map, HLN.out] at e1 e2
            have : n2 = 0 := by simpa using e3.len.symm
            subst this
            exact ⟨B, d, B', d', e1, e2, e4⟩)
        have HDE := hide (show ∀ W (B : Option Addr) (d : Nat), Rd eLi W W.heap.size B k d (List.replicate k li0) → Calls Tryd.prog 26 #[.agg (cells18 (plainF 256 (dk : Int))), .slice B k d, .int .i64 0, .int .u64 (sd : Int)] W fun e w' => ∃ C dc, e = .returned (.tuple #[.slice C k dc, .int .i64 0]) ∧ Rd eCk w' w'.heap.size C k dc (dets 256 (dk : Int) 0 (List.replicate k li0) sd k).1 ∧ Below W.heap.size W w' from fun W B d h1 =>
          (detect_c (plainF 256 (dk : Int)) B k d (List.replicate k li0) 0 sd W h1).mono fun e w' h => by
            have hde : detErr (plainF 256 (dk : Int)) 0 (List.replicate k li0) = 0 := by
              rw [detErr_all (plain_check hdk) (by omega) (by rw [List.length_replicate]; omega), if_pos (by rw [List.all_eq_true]; intro x hx; rw [(List.mem_replicate.1 hx).2]; rfl)]
            obtain ⟨C, nc, dc, e1, e2, e3⟩ := h
            rw [hde] at e1
            unfold detL at e2
            rw [if_pos hde, List.length_replicate] at e2
            have hl := e2.len
            rw [dets_len] at hl
            subst hl
            exact ⟨C, dc, e1, e2, e3⟩)
        have hcc := p3.cap
        have hcm := p3.max
        have HX := hide hX
        have HN := hide hN
        clear hX hN hL1
        go_upto_region 13 with (go_at_call 32; refine (HCA.out w3 r3 p3).mono ?_; rintro e w4 ⟨B1, d1, B2, m2, d2, rfl, x4, n4, hb7⟩)
        have r4 := r3.on hb7
        have p5 := p3.on hb7
        have p6 := p4.on hb7
        have hb8 := below_on hb6 hb7
        have ht4 := ht3.on hb7
        clear r3 p3 p4 hb6 hb7 ht3 HCA
        go_upto_region 14 with (go_at_call 32; refine (HCB.out w4 r4 p6).mono ?_; rintro e w5 ⟨B3, d3, B4, m4, d4, rfl, x5, n5, hb9⟩)
        have x4' := x4.on hb9
        have n4' := n4.on hb9
        have p7 := p5.on hb9
        have hb10 := below_on hb8 hb9
        have ht5 := ht4.on hb9
        clear r4 p5 p6 hb8 hb9 ht4 x4 n4 HCB
        go_upto_region 16 with (first | (go_at_call 34; refine (sameLight_c B1 B3 k d1 k d3 _ w5 x4' x5).mono ?_; rintro e w6 ⟨rfl, hb11⟩) | (go_at_call 35; refine (sameNotes_c B2 B4 m2 d2 m4 d4 _ w6 (n4'.on hb11) (n5.on hb11)).mono ?_; rintro e w7 ⟨rfl, hb12⟩))
        have hb13 := below_on hb11 hb12
        have p8 := p7.on hb13
        have hb14 := below_on hb10 hb13
        have ht7 := ht5.on hb13
        clear x4' x5 n4' n5 p7 hb10 hb11 hb12 hb13 ht5
        have rL := Rd.newAt (e := eRu) w7 62 lossR #[.int .i64 1, .int .i64 0, .int .i64 0, .int .i64 256, .int .i64 0] rfl w7.heap.size rfl
        have p9 := p8.alloc (.cells #[.int .i64 1, .int .i64 0, .int .i64 0, .int .i64 256, .int .i64 0] 62)
        have hb15 := below_alloc w7 (.cells #[.int .i64 1, .int .i64 0, .int .i64 0, .int .i64 256, .int .i64 0] 62)
        go_upto_region 17 with (go_at_call 32; refine (HCL.out _ w7.heap.size rL p9).mono ?_; rintro e w8 ⟨D1, e1, D2, e2, rfl, x8, hb16⟩)
        have hb17 := below_on hb15 hb16
        have hb18 := below_on hb14 hb17
        have ht8 := ht7.on hb17
        clear rL p8 p9 hb14 hb15 hb16 hb17 ht7 HCL
        go_upto_region 20 with (first | (go_at_call 37; refine (plain_c 256 (dk : Int) w8).mono ?_; rintro e w9 ⟨rfl, hb19⟩) | (go_at_call 26; refine (HDE.out w9 D1 e1 (x8.on hb19)).mono ?_; rintro e w10 ⟨C, dc, rfl, c10, hb20⟩))
        have hb21 := below_on hb19 hb20
        have x10 := x8.on hb21
        have hb22 := below_on hb18 hb21
        have ht10 := ht8.on hb21
        clear x8 hb18 hb19 hb20 hb21 ht8 HDE
        have cc10 := c10.cap
        have cm10 := c10.max
        have xc10 := x10.cap
        have xm10 := x10.max
        go_upto_region 23 with fail
        go_loopw [21] (fun iv wq => ∃ i : Nat, i ≤ k ∧ iv = .int .i64 i ∧ Below w10.heap.size w10 wq) (fun iv _ => k - (intOf iv).toNat)
        case atStart => exact ⟨0, by omega, rfl, Below.refl _ _⟩
        case round =>
          obtain ⟨i, hi, rfl, hbi⟩ := hrel
          by_cases hli : i < k
          · obtain ⟨b2, o2, y, rfl, hbb2, hy, hc2⟩ := (x10.below hbi).get hli
            obtain rfl : y = li0 := by
              rw [List.getElem?_replicate, if_pos hli] at hy; exact (Option.some.inj hy).symm
            obtain ⟨b3, o3, z, rfl, hbb3, hz, hc3⟩ := (c10.below hbi).get hli
            have y0 := hc2 0 _ rfl
            have y1 := hc2 1 _ rfl
            have y2 := hc2 2 _ rfl
            have y3 := hc2 3 _ rfl
            have z1 := hc3 1 _ rfl
            simp only [eLi, eCk, li0, Nat.add_zero] at y0 y1 y2 y3 z1
            by_cases hd0 : dk = 0
            · subst hd0
              have hk0 := dets_dark0 hz
              obtain ⟨zb, zk⟩ := z
              simp only at hk0 z1
              subst hk0
              clear hc2 hc3 hy hz
              go_wp2
              go_roundw
              case rel => exact ⟨i + 1, by omega, by go_num, hbi⟩
              case measure => simp [intOf] <;> omega
            · have hdb : ((dk : Int) == 0) = false := by simp; omega
              clear hc2 hc3 hy hz z1
              go_wp2
              go_roundw
              case rel => exact ⟨i + 1, by omega, by go_num, hbi⟩
              case measure => simp [intOf] <;> omega
          · go_wp2_with (go_at_call 18; refine (works_c _ (ht10.on hbi)).mono ?_; rintro e w' ⟨rfl, hbz⟩)
            go_ret
            exact ⟨rfl, below_on (below_on hb22 hbi) hbz⟩
    · have HT := hide (show P.take k = P.take 200 by rw [List.take_of_length_le (by have := HL.out; omega), List.take_of_length_le (by have := HL.out; omega)])
      have HLN := hide (show (P.take 200).length = k by rw [List.length_take]; have := HL.out; omega)
      rw [HT.out] at o1 o2
      obtain ⟨Q, hQ⟩ : ∃ Q, Q = P.take 200 := ⟨_, rfl⟩
      rw [← hQ] at o1 o2 HLN
      clear hQ hap
      have hk4 : k ≤ 4096 := by omega
      have p1 := o1.rd
      have p2 := o2.rd
      have s1 := s.on hbw
      have ht1 := ht.on hbw
      go_upto_region 11 with fail
      have q2 := Rd.many (e := eInt) wr 3 kNothing #[.int .i64 4, .int .i64 1, .int .i64 2, .int .i64 5, .int .i64 6, .int .i64 7] rfl 6 rfl (by omega) wr.heap.size rfl
      have s3 := s1.alloc (.cells #[.int .i64 4, .int .i64 1, .int .i64 2, .int .i64 5, .int .i64 6, .int .i64 7] 3)
      have hb3 := below_alloc wr (.cells #[.int .i64 4, .int .i64 1, .int .i64 2, .int .i64 5, .int .i64 6, .int .i64 7] 3)
      go_upto_region 12 with (go_at_call 36; refine (rules_c kNothing kNothing_ok S A' n' c' _ 6 6 _ s3 q2).mono ?_; rintro e w3 ⟨A0, n0, c4, rfl, r3, hb4⟩)
      have hb5 := below_on hb3 hb4
      have p3 := p1.on hb5
      have p4 := p2.on hb5
      have ht3 := ht1.on hb5
      have hb6 := below_on hbw hb5
      obtain ⟨L, hL⟩ : ∃ L, L = genL kNothing S := ⟨_, rfl⟩
      rw [← hL] at r3
      have hL1 : rulesErr L = 0 := by rw [hL]; exact (genL_ok kNothing_ok S).1
      clear hL o1 o2 p1 p2 s1 s3 q2 hb3 hb4 hb5 hbw ht1
      obtain ⟨X, hX⟩ : ∃ X, X = (carrF L (Q.map pa) sd k).1 := ⟨_, rfl⟩
      obtain ⟨N, hN⟩ : ∃ N, N = (carrF L (Q.map pa) sd k).2.1 := ⟨_, rfl⟩
      have HCA := hide (show ∀ W, Rd eRu W W.heap.size A0 n0 c4 L → Rd ePu W W.heap.size A1 k c1 (Q.map pa) → Calls Tryd.prog 32 #[.slice A0 n0 c4, .slice A1 k c1, .int .u64 (sd : Int)] W fun e w' => ∃ B d B' n2 d', e = .returned (.tuple #[.slice B k d, .slice B' n2 d', .int .i64 0]) ∧ Rd eLi w' w'.heap.size B k d X ∧ Rd eNo w' w'.heap.size B' n2 d' N ∧ Below W.heap.size W w' from fun W h1 h2 =>
        (carry_k hL1 (map_ok pa_ok Q) (by rw [List.length_map, HLN.out]; exact hk4) A0 n0 c4 A1 k c1 sd W h1 h2).mono fun e w' h => by
          obtain ⟨B, d, B', n2, d', e1, e2, e3, e4⟩ := h
          rw [List.length_map, HLN.out] at e1 e2 e3
          exact ⟨B, d, B', n2, d', e1, by rw [hX]; exact e2, by rw [hN]; exact e3, e4⟩)
      have HCB := hide (show ∀ W, Rd eRu W W.heap.size A0 n0 c4 L → Rd ePu W W.heap.size A2 k c2 (Q.map pb) → Calls Tryd.prog 32 #[.slice A0 n0 c4, .slice A2 k c2, .int .u64 (sd : Int)] W fun e w' => ∃ B d B' n2 d', e = .returned (.tuple #[.slice B k d, .slice B' n2 d', .int .i64 0]) ∧ Rd eLi w' w'.heap.size B k d X ∧ Rd eNo w' w'.heap.size B' n2 d' N ∧ Below W.heap.size W w' from fun W h1 h2 =>
        (carry_k hL1 (map_ok pb_ok Q) (by rw [List.length_map, HLN.out]; exact hk4) A0 n0 c4 A2 k c2 sd W h1 h2).mono fun e w' h => by
          obtain ⟨B, d, B', n2, d', e1, e2, e3, e4⟩ := h
          have hc := noth_carr L Q sd
          rw [HLN.out] at hc
          rw [List.length_map, HLN.out] at e1 e2 e3
          rw [← hc] at e2 e3
          exact ⟨B, d, B', n2, d', e1, by rw [hX]; exact e2, by rw [hN]; exact e3, e4⟩)
      have HCL := hide (show ∀ W (g : Nat), Rd eRu W W.heap.size (some ⟨g, 0, none⟩) 1 1 [lossR] → Rd ePu W W.heap.size A1 k c1 (Q.map pa) → Calls Tryd.prog 32 #[.slice (some ⟨g, 0, none⟩) 1 1, .slice A1 k c1, .int .u64 (sd : Int)] W fun e w' => ∃ B d B' d', e = .returned (.tuple #[.slice B k d, .slice B' 0 d', .int .i64 0]) ∧ Rd eLi w' w'.heap.size B k d (List.replicate k li0) ∧ Below W.heap.size W w' from fun W g h1 h2 =>
        (carry_k (by decide) (map_ok pa_ok Q) (by rw [List.length_map, HLN.out]; exact hk4) (some ⟨g, 0, none⟩) 1 1 A1 k c1 sd W h1 h2).mono fun e w' h => by
          obtain ⟨B, d, B', n2, d', e1, e2, e3, e4⟩ := h
          obtain ⟨l1, l2⟩ := carrF_loss (map_ok pa_ok Q) sd (Q.map pa).length (Nat.le_refl _)
          rw [l1] at e2
          rw [l2] at e3
          rw [List.length_map, HLN.out] at e1 e2
          have : n2 = 0 := by simpa using e3.len.symm
          subst this
          exact ⟨B, d, B', d', e1, e2, e4⟩)
      have HDE := hide (show ∀ W (B : Option Addr) (d : Nat), Rd eLi W W.heap.size B k d (List.replicate k li0) → Calls Tryd.prog 26 #[.agg (cells18 (plainF 256 (dk : Int))), .slice B k d, .int .i64 0, .int .u64 (sd : Int)] W fun e w' => ∃ C dc, e = .returned (.tuple #[.slice C k dc, .int .i64 0]) ∧ Rd eCk w' w'.heap.size C k dc (dets 256 (dk : Int) 0 (List.replicate k li0) sd k).1 ∧ Below W.heap.size W w' from fun W B d h1 =>
        (detect_c (plainF 256 (dk : Int)) B k d (List.replicate k li0) 0 sd W h1).mono fun e w' h => by
          have hde : detErr (plainF 256 (dk : Int)) 0 (List.replicate k li0) = 0 := by
            rw [detErr_all (plain_check hdk) (by omega) (by rw [List.length_replicate]; omega), if_pos (by rw [List.all_eq_true]; intro x hx; rw [(List.mem_replicate.1 hx).2]; rfl)]
          obtain ⟨C, nc, dc, e1, e2, e3⟩ := h
          rw [hde] at e1
          unfold detL at e2
          rw [if_pos hde, List.length_replicate] at e2
          have hl := e2.len
          rw [dets_len] at hl
          subst hl
          exact ⟨C, dc, e1, e2, e3⟩)
      have hcc := p3.cap
      have hcm := p3.max
      have HX := hide hX
      have HN := hide hN
      clear hX hN hL1
      go_upto_region 13 with (go_at_call 32; refine (HCA.out w3 r3 p3).mono ?_; rintro e w4 ⟨B1, d1, B2, m2, d2, rfl, x4, n4, hb7⟩)
      have r4 := r3.on hb7
      have p5 := p3.on hb7
      have p6 := p4.on hb7
      have hb8 := below_on hb6 hb7
      have ht4 := ht3.on hb7
      clear r3 p3 p4 hb6 hb7 ht3 HCA
      go_upto_region 14 with (go_at_call 32; refine (HCB.out w4 r4 p6).mono ?_; rintro e w5 ⟨B3, d3, B4, m4, d4, rfl, x5, n5, hb9⟩)
      have x4' := x4.on hb9
      have n4' := n4.on hb9
      have p7 := p5.on hb9
      have hb10 := below_on hb8 hb9
      have ht5 := ht4.on hb9
      clear r4 p5 p6 hb8 hb9 ht4 x4 n4 HCB
      go_upto_region 16 with (first | (go_at_call 34; refine (sameLight_c B1 B3 k d1 k d3 _ w5 x4' x5).mono ?_; rintro e w6 ⟨rfl, hb11⟩) | (go_at_call 35; refine (sameNotes_c B2 B4 m2 d2 m4 d4 _ w6 (n4'.on hb11) (n5.on hb11)).mono ?_; rintro e w7 ⟨rfl, hb12⟩))
      have hb13 := below_on hb11 hb12
      have p8 := p7.on hb13
      have hb14 := below_on hb10 hb13
      have ht7 := ht5.on hb13
      clear x4' x5 n4' n5 p7 hb10 hb11 hb12 hb13 ht5
      have rL := Rd.newAt (e := eRu) w7 62 lossR #[.int .i64 1, .int .i64 0, .int .i64 0, .int .i64 256, .int .i64 0] rfl w7.heap.size rfl
      have p9 := p8.alloc (.cells #[.int .i64 1, .int .i64 0, .int .i64 0, .int .i64 256, .int .i64 0] 62)
      have hb15 := below_alloc w7 (.cells #[.int .i64 1, .int .i64 0, .int .i64 0, .int .i64 256, .int .i64 0] 62)
      go_upto_region 17 with (go_at_call 32; refine (HCL.out _ w7.heap.size rL p9).mono ?_; rintro e w8 ⟨D1, e1, D2, e2, rfl, x8, hb16⟩)
      have hb17 := below_on hb15 hb16
      have hb18 := below_on hb14 hb17
      have ht8 := ht7.on hb17
      clear rL p8 p9 hb14 hb15 hb16 hb17 ht7 HCL
      go_upto_region 20 with (first | (go_at_call 37; refine (plain_c 256 (dk : Int) w8).mono ?_; rintro e w9 ⟨rfl, hb19⟩) | (go_at_call 26; refine (HDE.out w9 D1 e1 (x8.on hb19)).mono ?_; rintro e w10 ⟨C, dc, rfl, c10, hb20⟩))
      have hb21 := below_on hb19 hb20
      have x10 := x8.on hb21
      have hb22 := below_on hb18 hb21
      have ht10 := ht8.on hb21
      clear x8 hb18 hb19 hb20 hb21 ht8 HDE
      have cc10 := c10.cap
      have cm10 := c10.max
      have xc10 := x10.cap
      have xm10 := x10.max
      go_upto_region 23 with fail
      go_loopw [21] (fun iv wq => ∃ i : Nat, i ≤ k ∧ iv = .int .i64 i ∧ Below w10.heap.size w10 wq) (fun iv _ => k - (intOf iv).toNat)
      case atStart => exact ⟨0, by omega, rfl, Below.refl _ _⟩
      case round =>
        obtain ⟨i, hi, rfl, hbi⟩ := hrel
        by_cases hli : i < k
        · obtain ⟨b2, o2, y, rfl, hbb2, hy, hc2⟩ := (x10.below hbi).get hli
          obtain rfl : y = li0 := by
            rw [List.getElem?_replicate, if_pos hli] at hy; exact (Option.some.inj hy).symm
          obtain ⟨b3, o3, z, rfl, hbb3, hz, hc3⟩ := (c10.below hbi).get hli
          have y0 := hc2 0 _ rfl
          have y1 := hc2 1 _ rfl
          have y2 := hc2 2 _ rfl
          have y3 := hc2 3 _ rfl
          have z1 := hc3 1 _ rfl
          simp only [eLi, eCk, li0, Nat.add_zero] at y0 y1 y2 y3 z1
          by_cases hd0 : dk = 0
          · subst hd0
            have hk0 := dets_dark0 hz
            obtain ⟨zb, zk⟩ := z
            simp only at hk0 z1
            subst hk0
            clear hc2 hc3 hy hz
            go_wp2
            go_roundw
            case rel => exact ⟨i + 1, by omega, by go_num, hbi⟩
            case measure => simp [intOf] <;> omega
          · have hdb : ((dk : Int) == 0) = false := by simp; omega
            clear hc2 hc3 hy hz z1
            go_wp2
            go_roundw
            case rel => exact ⟨i + 1, by omega, by go_num, hbi⟩
            case measure => simp [intOf] <;> omega
        · go_wp2_with (go_at_call 18; refine (works_c _ (ht10.on hbi)).mono ?_; rintro e w' ⟨rfl, hbz⟩)
          go_ret
          exact ⟨rfl, below_on (below_on hb22 hbi) hbz⟩
theorem nothing_w (A : Option Addr) (n c : Nat) (P : List Pu) (A' : Option Addr) (n' c' : Nat) (S : List Sp) (sd : Int) (ws : (Lit.int .u64 sd).wf = true) (dk : Int) (wd : (Lit.int .u8 dk).wf = true) (w : World) (p : Rd ePu w w.heap.size A n c P) (s : Rd eSp w w.heap.size A' n' c' S) (ht : Tab w) :
    Calls Tryd.prog 7 #[.slice A n c, .slice A' n' c', .int .u64 sd, .int .u8 dk] w fun e w' => e = .returned (.bool true) ∧ Below w.heap.size w w' := by
  obtain ⟨sd, rfl⟩ := u64_nat' ws
  obtain ⟨dk, rfl, hdk⟩ := u8_nat wd
  exact nothing_c A n c P A' n' c' S sd dk hdk w p s ht
end Go.Proofs.YtddajmagdjkodaaDoor
