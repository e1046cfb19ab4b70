/- Contract of sift's Match at announcements that rise (the Top seat). Contracts of sift's Received at slots that rise, and of the law's has (the Top seat). Contract of optics.Knows. -/
import Derived.Test.YtchhkokpjdkkiaaTopSiftsa18
import Derived.Deep.DeepCutAuto
import Derived.Test.YtchhkokpjdkkiaaTopSiftsa10
namespace Go.Proofs.Ytchhkokpjdkkiaa
open Go.RowKit

set_option maxRecDepth 100000 in
set_option maxHeartbeats 3200000 in
theorem match_c (A : Option Addr) (n c : Nat) (P : List Pu) (A' : Option Addr) (m c' : Nat) (H : List He) (fr : Nat) (w : World) (p : Rd ePu w w.heap.size A n c P) (q : Rd eHe w w.heap.size A' m c' H) (hP : pulsesErr P = 0) (hH : RisingH H fr ((n : Int) - 1)) (hn : n ≤ 4096) (hm : m ≤ 4096) (hf : fr ≤ 4096) :
    Calls Try.prog 17 #[.slice A n c, .slice A' m c', .int .i64 fr] w fun e w' => ∃ B k d, e = .returned (.tuple #[.slice B k d, .int .i64 0]) ∧ Rd eNat w' w'.heap.size B k d (keptL P H) ∧ Below w.heap.size w w' := by
  have hpc := p.cap
  have hpm := p.max
  have hqc := q.cap
  have hqm := q.max
  have HPL := hide p.len
  have HQL := hide q.len
  have hck := checkPulses_c A n c P w p
  rw [hP] at hck
  have HCK := hide hck
  have HB1 := hide (fun W => between_v (fr : Int) 0 4096 true (decide_eq_true (by omega)) W)
  have HCS := hide (fun W (h : Below w.heap.size w W) => checkHeard_c A' m c' H fr ((n : Int) - 1) W (q.on h) hH)
  have HS := hide hH
  have hsub : IntKind.i64.wrap ((n : Int) - 1) = (n : Int) - 1 := by simp only [IntKind.wrap, IntKind.bits, IntKind.signed]; simp; omega
  clear hck hP hH
  go_enter Try.func17, Try.ntmps17
  go_upto_region 6 with (first | (go_at_call 44; refine HCK.out.mono ?_; rintro e w1 ⟨rfl, hb1⟩) | (go_at_call 42; with_reducible refine (HB1.out _).mono ?_; rintro e w' ⟨rfl, hq⟩; rw [hq]; clear hq))
  go_upto_region 9 with (go_at_call 45; refine (HCS.out w1 hb1).mono ?_; rintro e w2 ⟨rfl, hb2⟩)
  have hb12 := below_on hb1 hb2
  clear hsub HCK HCS HB1 hb1 hb2
  go_wp2
  go_loopw [33, 10] (fun iv av wr => ∃ (k : Nat) (A1 : Option Addr) (c1 : Nat), k ≤ m ∧ iv = .int .i64 k ∧ av = .slice A1 (keptL P (H.take k)).length c1 ∧ Ow eNat wr w2.heap.size 3 A1 (keptL P (H.take k)).length c1 (keptL P (H.take k)) ∧ Below w2.heap.size w2 wr) (fun iv _ _ => m - (intOf iv).toNat)
  case atStart => exact ⟨0, none, 0, by omega, rfl, rfl, Ow.nil _ _ _, Below.refl _ _⟩
  case round =>
    obtain ⟨k, A1, c1, hk, rfl, rfl, o1, hbw⟩ := hrel
    have hq1 := keptL_len P (H.take k)
    rw [List.length_take] at hq1
    by_cases hlt : k < m
    · obtain ⟨b1, f1, x, rfl, hbb1, hx, hc1⟩ := (q.on (below_on hb12 hbw)).get hlt
      have x0 := hc1 0 _ rfl
      have x1 := hc1 1 _ rfl
      simp only [eHe, Nat.add_zero] at x0 x1
      have hxr := (HS.out.1 k x hx).1
      have HX := hide hx
      obtain ⟨xs, xb⟩ := x
      simp only at x0 x1 hxr
      have hin : xs < n := by omega
      obtain ⟨b2, f2, y, rfl, hbb2, hy, hc2⟩ := (p.on (below_on hb12 hbw)).get hin
      have d0 := hc2 0 _ rfl
      have d1 := hc2 1 _ rfl
      have d2 := hc2 2 _ rfl
      have d3 := hc2 3 _ rfl
      have d4 := hc2 4 _ rfl
      simp only [ePu, Nat.add_zero] at d0 d1 d2 d3 d4
      have HK := hide (show keeps P ⟨xs, xb⟩ = (y.seen && decide (y.b = xb)) by unfold keeps; simp only [hy])
      obtain ⟨yb, ybit, ycl, yph, yseen⟩ := y
      simp only at d0 d1 d2 d3 d4 HK
      have hi0 : (0 : Int) ≤ (xs : Int) := by omega
      have hi1 : (xs : Int) < (n : Int) := by omega
      clear hc1 hx hc2 hy
      have e0 := (below_alloc wr (.cells #[.int .i64 xs, .int .i64 xb] 124)).cell hbb2 (p := ⟨b2, f2 + xs * 5 + 0, none⟩)
      have hbl := Blk.newAt wr 124 #[.int .i64 xs, .int .i64 xb] wr.heap.size rfl
      go_upto_region 13 with fail
      have oA := o1.alloc (.cells #[.int .i64 xs, .int .i64 xb] 124)
      have hbA := hbw.alloc hbw.size (.cells #[.int .i64 xs, .int .i64 xb] 124)
      have hal := below_alloc wr (.cells #[.int .i64 xs, .int .i64 xb] 124)
      have d0 := (hal.cell hbb2).trans d0
      have d1 := (hal.cell hbb2).trans d1
      have d2 := (hal.cell hbb2).trans d2
      have d3 := (hal.cell hbb2).trans d3
      have d4 := (hal.cell hbb2).trans d4
      obtain ⟨wA, hwA⟩ : ∃ q, q = wr.alloc (.cells #[.int .i64 xs, .int .i64 xb] 124) := ⟨_, rfl⟩
      rw [← hwA] at hbl oA hbA d0 d1 d2 d3 d4 ⊢
      obtain ⟨gX, hgX⟩ : ∃ q, q = wr.heap.size := ⟨_, rfl⟩
      rw [← hgX] at hbl ⊢
      have g0 := hbl.cell 0
      simp only [List.getElem?_toArray, List.getElem?_cons_zero] at g0
      clear e0 x0 x1 hal o1 hbw hwA hgX hbb1 hbb2
      go_upto_region 14 with fail
      have oB := oA.alloc (.cells #[.int .i64 yb, .bool ybit, .int .i64 ycl, .int .i64 yph, .bool yseen] 79)
      have hbB := hbA.alloc hbA.size (.cells #[.int .i64 yb, .bool ybit, .int .i64 ycl, .int .i64 yph, .bool yseen] 79)
      have hblP := Blk.newAt wA 79 #[.int .i64 yb, .bool ybit, .int .i64 ycl, .int .i64 yph, .bool yseen] wA.heap.size rfl
      have hbl := hbl.alloc (.cells #[.int .i64 yb, .bool ybit, .int .i64 ycl, .int .i64 yph, .bool yseen] 79)
      obtain ⟨wB, hwB⟩ : ∃ q, q = wA.alloc (.cells #[.int .i64 yb, .bool ybit, .int .i64 ycl, .int .i64 yph, .bool yseen] 79) := ⟨_, rfl⟩
      rw [← hwB] at hbl oB hbB hblP ⊢
      obtain ⟨gP, hgP⟩ : ∃ q, q = wA.heap.size := ⟨_, rfl⟩
      rw [← hgP] at hblP ⊢
      have g0 := hbl.cell 0
      have g1 := hbl.cell 1
      have p0 := hblP.cell 0
      have p4 := hblP.cell 4
      simp only [List.getElem?_toArray, List.getElem?_cons_zero, List.getElem?_cons_succ] at g0 g1 p0 p4
      clear oA hbA hblP hbl hwB hgP d0 d1 d2 d3 d4
      cases yseen
      · have HN := hide (keptL_no HX.out (by rw [HK.out]; rfl))
        go_wp2
        go_roundw
        case rel => exact ⟨k + 1, A1, c1, by omega, by go_num, by rw [HN.out], by rw [HN.out]; exact oB, hbB⟩
        case measure => simp [intOf] <;> omega
      · by_cases he : yb = xb
        · subst he
          have HY := hide (keptL_yes HX.out (by rw [HK.out]; simp))
          go_wp2_with (at_builtin; refine wl_app eNat _ rfl (.tmp 51) (.tmp 54) _ rfl w2.heap.size 3 (.int .i64 0) 8 Try.underlying61 info_int rfl (by omega) _ _ _ _ (by rfl) (oB.alloc _) _ 1 1 [xs] (by rfl) _ (Rd.newAt _ _ xs _ rfl _ rfl) (by omega) (by have := hbB.size; simp; omega) ?_; intro A3 c3 w3 o3 hg3 hA3)
          go_roundw
          case rel => exact ⟨k + 1, A3, c3, by omega, by go_num, by rw [HY.out]; simp, by rw [HY.out]; simpa using o3, below_app (hbB.alloc hbB.size _) (oB.alloc _) hg3 (Nat.le_refl _) (Nat.le_refl _)⟩
          case measure => simp [intOf] <;> omega
        · have HN := hide (keptL_no HX.out (by rw [HK.out]; simp [he]))
          have hd : (yb == xb) = false := by simpa using he
          go_wp2
          go_roundw
          case rel => exact ⟨k + 1, A1, c1, by omega, by go_num, by rw [HN.out], by rw [HN.out]; exact oB, hbB⟩
          case measure => simp [intOf] <;> omega
    · obtain rfl : k = m := by omega
      have HR := hide (show Rd eNat wr wr.heap.size A1 (keptL P (H.take k)).length c1 (keptL P H) by
        have h := o1.rd
        rw [List.take_of_length_le (by have := HQL.out; omega)] at h ⊢
        exact h)
      go_wp2
      go_ret2
      exact ⟨_, _, _, rfl, HR.out, below_on hb12 hbw⟩
end Go.Proofs.Ytchhkokpjdkkiaa

namespace Go.Proofs.Ytchhkokpjdkkiaa
open Go.RowKit

def rbit (C : List Ck) (sh i : Nat) : Bool := match C[i + sh]? with
  | some c => decide (c.k = 2)
  | none => false
theorem map_take {g : Nat → Bool} {S : List Nat} {k i m : Nat} {b : Bool} (hi : S[k]? = some i) (hg : g i = b) (hm : S.length = m) : ((S.take k).map g ++ List.replicate (m - k) false).set k b = (S.take (k + 1)).map g ++ List.replicate (m - (k + 1)) false := by
  have hk : k < S.length := (List.getElem?_eq_some_iff.1 hi).1
  have hl : ((S.take k).map g).length = k := by simp; omega
  rw [List.set_append_right _ _ (by omega), hl, Nat.sub_self]
  have e : m - k = (m - (k + 1)) + 1 := by omega
  rw [e, List.replicate_succ, List.set_cons_zero]
  have : (S.take (k + 1)).map g = (S.take k).map g ++ [b] := by
    rw [List.take_add_one, hi, List.map_append]; simp [hg]
  rw [this, List.append_assoc]; rfl
set_option maxRecDepth 100000 in
set_option maxHeartbeats 3200000 in
theorem received_c (A : Option Addr) (n c : Nat) (C : List Ck) (A' : Option Addr) (m c' : Nat) (S : List Nat) (sh : Nat) (w : World) (p : Rd eCk w w.heap.size A n c C) (q : Rd eNat w w.heap.size A' m c' S) (hC : clicksErr C = 0) (hs : sh ≤ 16)
    (hS : Rising S 0 ((n : Int) - 1 - sh)) (hG : ∀ (k i : Nat) (x : Ck), S[k]? = some i → C[i + sh]? = some x → single x = true) (hm : m ≤ 4096) :
    Calls Try.prog 19 #[.slice A n c, .int .i64 sh, .slice A' m c'] w fun e w' => ∃ B d, e = .returned (.tuple #[.slice B m d, .int .i64 0]) ∧ Rd eBool w' w'.heap.size B m d (S.map (rbit C sh)) ∧ Below w.heap.size w w' := by
  have hpc := p.cap
  have hpm := p.max
  have hqc := q.cap
  have hqm := q.max
  have HQL := hide q.len
  have hn : n ≤ 4096 := by have := (clicksErr_zero hC).1; have := p.len; omega
  have hck := checkClicks_c A n c C w p
  rw [hC] at hck
  have HCK := hide hck
  have HSH := hide (fun W => shiftable_c sh (by omega) W)
  have HCS := hide (fun W (h : Below w.heap.size w W) => checkSlots_c A' m c' S 0 ((n : Int) - 1 - sh) W (q.on h) hS)
  have HS := hide hS
  have HG := hide hG
  have hsub : IntKind.i64.wrap ((n : Int) - 1) = (n : Int) - 1 := by simp only [IntKind.wrap, IntKind.bits, IntKind.signed]; simp; omega
  have hsub2 : IntKind.i64.wrap ((n : Int) - 1 - (sh : Int)) = (n : Int) - 1 - (sh : Int) := by simp only [IntKind.wrap, IntKind.bits, IntKind.signed]; simp; omega
  have hneg : IntKind.i64.wrap (-(sh : Int)) = -(sh : Int) := by simp only [IntKind.wrap, IntKind.bits, IntKind.signed]; simp; omega
  have hmx : max (0 : Int) (-(sh : Int)) = 0 := by omega
  clear hck hC hS hG
  go_enter Try.func19, Try.ntmps19
  go_upto_region 6 with (first | (go_at_call 40; refine HCK.out.mono ?_; rintro e w1 ⟨rfl, hb1⟩) | (go_at_call 41; with_reducible refine (HSH.out _).mono ?_; rintro e w' ⟨rfl, hq⟩; rw [hq]; clear hq))
  go_upto_region 9 with (go_at_call 46; refine (HCS.out w1 hb1).mono ?_; rintro e w2 ⟨rfl, hq⟩; rw [hq]; clear hq)
  go_upto_region 10 with (at_make; refine wl_mk eBool _ rfl _ _ _ rfl 4 (.bool false) 1 false Try.underlying22 info_bool rfl (by omega) _ _ m (by rfl) (by rfl) rfl rfl (by omega) ?_; intro w7 o7 hg7 hlt7)
  have hb7 : Below w1.heap.size w1 w7 := ⟨hg7.os, hg7.tape, hg7.output, hg7.size, fun i hi => hg7.block i hi (by simp)⟩
  obtain ⟨gK, hgK⟩ : ∃ x, x = w1.heap.size := ⟨_, rfl⟩
  rw [← hgK] at o7 ⊢
  have HGK := hide hgK
  clear hgK hg7 hlt7 hsub hsub2 hneg hmx HCK HCS HSH
  go_wp2
  go_loopw [39] (fun iv wr => ∃ k : Nat, k ≤ m ∧ iv = .int .i64 k ∧ Ow eBool wr gK 4 (some ⟨gK, 0, none⟩) m m ((S.take k).map (rbit C sh) ++ List.replicate (m - k) false) ∧ Below w1.heap.size w1 wr) (fun iv _ => m - (intOf iv).toNat)
  case atStart => exact ⟨0, Nat.zero_le _, rfl, by simpa using o7, hb7⟩
  case round =>
    clear o7 hb7
    obtain ⟨k, hk, rfl, o3, hbw⟩ := hrel
    by_cases hlt : k < m
    · obtain ⟨b1, o1, i, rfl, hbb1, hi, hc1⟩ := (q.on (below_on hb1 hbw)).get hlt
      have x0 := hc1 0 _ rfl
      simp only [eNat, Nat.add_zero, Nat.mul_one] at x0
      have hin2 := (HS.out.1 k i hi).2
      obtain ⟨j, hj⟩ : ∃ j, j = i + sh := ⟨_, rfl⟩
      have hjn : j < n := by omega
      have hij : (i : Int) + (sh : Int) = (j : Int) := by omega
      obtain ⟨b2, o2, y, rfl, hbb2, hy, hc2⟩ := (p.on (below_on hb1 hbw)).get hjn
      have y0 := hc2 0 _ rfl
      have y1 := hc2 1 _ rfl
      simp only [eCk, Nat.add_zero] at y0 y1
      have hsg := HG.out k i y hi (hj ▸ hy)
      have HSG := hide (fun W => (by have h := single_c y W; rw [hsg] at h; exact h : Calls Try.prog 43 #[.agg #[.int .i64 y.b, .int .i64 y.k]] W fun e w' => e = .returned (.bool true) ∧ Below W.heap.size W w'))
      have HB := hide (map_take (g := rbit C sh) (b := decide (y.k = 2)) hi (by unfold rbit; rw [← hj, hy]) HQL.out)
      obtain ⟨yb, yk⟩ := y
      simp only at y0 y1 HSG HB
      have hi0 : (0 : Int) ≤ (j : Int) := by omega
      have hi1 : (j : Int) < (n : Int) := by omega
      have hwj : IntKind.i64.wrap (j : Int) = (j : Int) := by simp only [IntKind.wrap, IntKind.bits, IntKind.signed]; simp; omega
      have HY := hide hbb2
      clear hc1 hc2 hi hy hbb1 hbb2 hj hsg hin2
      go_upto_region 15 with (go_at_call 43; refine (HSG.out _).mono ?_; rintro e w5 ⟨rfl, hb5⟩)
      have o5 := o3.on hb5
      have hb15 := hbw.trans (hb5.mono hbw.size)
      have hkf := o5.frozen k
      obtain ⟨g, v, eg, _, hgl, hv, hcv⟩ := o5.get hlt
      injection eg with eg
      injection eg with eg
      subst eg
      have k0 := hcv 0 _ rfl
      simp only [eBool, Nat.add_zero, Nat.mul_one] at k0
      have y1 := (hb5.cell HY.out).trans y1
      have HO := hide (o5.store1 hlt (decide (yk = 2)) rfl rfl)
      have H9 := hide (hb15.setCell (p := ⟨gK, k, none⟩) (by have := HGK.out; simp only; omega) (.bool (decide (yk = 2))))
      clear hcv hv o5 hb15 hb5 hbw o3
      by_cases h2 : yk = 2
      · subst h2
        rw [show decide ((2 : Int) = 2) = true from rfl] at HB HO H9
        go_wp2
        go_roundw
        case rel => exact ⟨k + 1, by omega, by go_num, by rw [← HB.out]; exact HO.out, H9.out⟩
        case measure => simp [intOf] <;> omega
      · have h2' : (yk == 2) = false := by simpa using h2
        rw [show decide (yk = 2) = false from decide_eq_false h2] at HB HO H9
        go_wp2
        go_roundw
        case rel => exact ⟨k + 1, by omega, by go_num, by rw [← HB.out]; exact HO.out, H9.out⟩
        case measure => simp [intOf] <;> omega
    · obtain rfl : k = m := by omega
      have HR := hide (show Rd eBool wr wr.heap.size (some ⟨gK, 0, none⟩) k k (S.map (rbit C sh)) by
        have h := o3.rd
        rw [List.take_of_length_le (by have := HQL.out; omega), Nat.sub_self, List.replicate_zero, List.append_nil] at h
        exact h)
      go_wp2
      go_ret2
      exact ⟨_, _, rfl, HR.out, below_on hb1 hbw⟩
set_option maxRecDepth 100000 in
set_option maxHeartbeats 1600000 in
theorem thas_c (A : Option Addr) (n c : Nat) (L : List Nat) (m : Nat) (w : World) (r : Rd eNat w w.heap.size A n c L) :
    Calls Try.prog 20 #[.slice A n c, .int .i64 (m : Int)] w fun e w' => e = .returned (.bool (decide (m ∈ L))) ∧ Below w.heap.size w w' := by
  have hm := r.max
  have hcap := r.cap
  have HL := hide r.len
  go_enter Try.func20, Try.ntmps20
  go_wp2
  go_loopw [5] (fun iv wr => ∃ k : Nat, k ≤ n ∧ iv = .int .i64 k ∧ (L.take k).all (fun x => !decide (x = m)) = true ∧ Below w.heap.size w wr) (fun iv _ => n - (intOf iv).toNat)
  case atStart => exact ⟨0, by omega, rfl, rfl, Below.refl _ _⟩
  case round =>
    obtain ⟨k, hk, rfl, hall, hbw⟩ := hrel
    have HA := hide hall
    clear hall
    by_cases hlt : k < n
    · obtain ⟨b, off, x, rfl, hb, hx, hc⟩ := (r.below hbw).get hlt
      have c0 := hc 0 _ rfl
      simp only [eNat, Nat.add_zero, Nat.mul_one] at c0
      have HX := hide hx
      clear hc hx
      by_cases he : x = m
      · subst he
        go_wp2
        go_ret
        exact ⟨ret_b (by simpa using List.mem_of_getElem? HX.out), hbw⟩
      · have hd : ((x : Int) == (m : Int)) = false := by simp; omega
        have HE := hide he
        clear he
        go_wp2
        go_roundw
        case rel => exact ⟨k + 1, by omega, by go_num, all_take_succ HA.out HX.out (by simpa using HE.out), hbw⟩
        case measure => simp [intOf] <;> omega
    · have HB := hide hlt
      go_wp2
      go_ret
      refine ⟨ret_b ?_, hbw⟩
      have h := all_whole HA.out HL.out HB.out
      rw [List.all_eq_true] at h
      symm
      rw [decide_eq_false_iff_not]
      intro hm
      have := h m hm
      simp at this
end Go.Proofs.Ytchhkokpjdkkiaa

namespace Go.Proofs.Ytchhkokpjdkkiaa
open Go.RowKit

/-- What Knows returns. -/
def SKnows (L : List Pu) (N : List No) (w : World) (e : Ending) (w' : World) : Prop :=
  ∃ A1 n1 c1, e = .returned (.tuple #[.slice A1 n1 c1, .int .i64 (knowsErr L N)]) ∧ Rd eNat w' w'.heap.size A1 n1 c1 (knowsL L N) ∧ Below w.heap.size w w'
theorem SKnows.err {L : List Pu} {N : List No} {err : Int} {w w' : World} (h : knowsErr L N = err) (h0 : err ≠ 0) (hb : Below w.heap.size w w') : SKnows L N w (.returned (.tuple #[.slice none 0 0, .int .i64 err])) w' := by
  refine ⟨none, 0, 0, by rw [h], ?_, hb⟩
  unfold knowsL; rw [if_neg (by omega)]; exact Rd.nil _ _ _ _ (by omega)
theorem SKnows.ok {L : List Pu} {N : List No} {w w' : World} {A1 : Option Addr} {n1 c1 : Nat} (h : knowsErr L N = 0) (s1 : Rd eNat w' w'.heap.size A1 n1 c1 (idx (marks L N) L.length)) (hb : Below w.heap.size w w') :
    SKnows L N w (.returned (.tuple #[.slice A1 n1 c1, .int .i64 0])) w' := by
  refine ⟨A1, n1, c1, by rw [h], ?_, hb⟩
  unfold knowsL; rw [if_pos h]; exact s1
theorem knowsErr_pulse {L : List Pu} {N : List No} (h : pulsesErr L ≠ 0) : knowsErr L N = pulsesErr L := by unfold knowsErr; rw [if_pos h]
theorem knowsErr_many {L : List Pu} {N : List No} (h : pulsesErr L = 0) (h2 : 131072 < N.length) : knowsErr L N = 5 := by unfold knowsErr; rw [if_neg (by simp [h]), if_pos h2]
theorem knowsErr_note {L : List Pu} {N : List No} (h : pulsesErr L = 0) (h2 : ¬ 131072 < N.length) : knowsErr L N = noteErr L.length N := by unfold knowsErr; rw [if_neg (by simp [h]), if_neg h2]
theorem okNo_mk {x : No} (h1 : 1 ≤ x.how) (h2 : x.how ≤ 3) (h3 : 0 ≤ x.b) (h4 : x.b ≤ 1) : okNo x = true := by unfold okNo; exact decide_eq_true ⟨h1, h2, h3, h4⟩
theorem okNo_not {x : No} (h : ¬(1 ≤ x.how ∧ x.how ≤ 3 ∧ 0 ≤ x.b ∧ x.b ≤ 1)) : okNo x = false := by unfold okNo; exact decide_eq_false h
theorem inNo_mk {n : Nat} {x : No} (h1 : 0 ≤ x.slot) (h2 : x.slot < n) : inNo n x = true := by unfold inNo; exact decide_eq_true ⟨h1, h2⟩
theorem inNo_not {n : Nat} {x : No} (h : ¬(0 ≤ x.slot ∧ x.slot < n)) : inNo n x = false := by unfold inNo; exact decide_eq_false h
theorem pulsesErr_cases (L : List Pu) : pulsesErr L = 0 ∨ pulsesErr L = 2 ∨ pulsesErr L = 5 := by
  unfold pulsesErr; split
  · exact .inr (.inr rfl)
  · split
    · exact .inl rfl
    · exact .inr (.inl rfl)
theorem pulsesErr_le {L : List Pu} (h : pulsesErr L = 0) : L.length ≤ 4096 := by
  unfold pulsesErr at h; split at h
  · omega
  · omega

set_option maxRecDepth 100000 in
set_option maxHeartbeats 3200000 in
theorem knows_c (A : Option Addr) (n c : Nat) (L : List Pu) (A' : Option Addr) (m d : Nat) (N : List No) (w : World) (s : Rd ePu w w.heap.size A n c L) (t : Rd eNo w w.heap.size A' m d N) :
    Calls Try.prog 52 #[.slice A n c, .slice A' m d] w (SKnows L N w) := by
  have hl := s.len
  have hm := s.max
  have hcap := s.cap
  have tl := t.len
  have tm := t.max
  have tcap := t.cap
  have HL := hide hl
  have TL := hide tl
  clear hl tl
  have hv := valid_c A n c L w s
  by_cases h0 : pulsesErr L = 0
  · rw [h0] at hv
    have hn := pulsesErr_le h0
    have hn2 : n ≤ 4096 := by have := HL.out; omega
    have HV := hide hv
    have H0 := hide h0
    clear hv h0 hn
    by_cases hbig : 131072 < (m : Int)
    · go_enter Try.func52, Try.ntmps52
      go_wp2_with (go_at_call 66; refine HV.out.mono ?_; rintro e w1 ⟨rfl, hb1⟩)
      go_ret2
      exact SKnows.err (knowsErr_many H0.out (by have := TL.out; omega)) (by omega) hb1
    · have hN := knowsErr_note H0.out (show ¬ 131072 < N.length by have := TL.out; omega)
      have HN := hide hN
      clear hN
      go_enter Try.func52, Try.ntmps52
      go_wp2_with (first | (go_at_call 66; refine HV.out.mono ?_; rintro e w1 ⟨rfl, hb1⟩) | (at_make; refine wl_mk eBool _ rfl _ _ _ rfl 4 (.bool false) 1 false Try.underlying22 info_bool rfl (by omega) _ _ n (by rfl) (by rfl) rfl rfl (by omega) ?_; intro w2 o2 hg2 hlt2))
      have s1 := s.on hb1
      have t1 := t.on hb1
      have hb12 : Below w1.heap.size w1 w2 := ⟨hg2.os, hg2.tape, hg2.output, hg2.size, fun i hi => hg2.block i hi (by simp)⟩
      clear s t HV
      go_loopw [26] (fun iv wr => ∃ k : Nat, k ≤ m ∧ iv = .int .i64 k ∧ (N.take k).all (fun x => okNo x && inNo L.length x) = true ∧ Ow eBool wr w1.heap.size 4 (some ⟨w1.heap.size, 0, none⟩) n n (marks L (N.take k)) ∧ Below w1.heap.size w1 wr) (fun iv _ => m - (intOf iv).toNat)
      case atStart => exact ⟨0, by omega, rfl, by simp, by simp only [List.take_zero, marks, List.foldl_nil]; rw [HL.out]; exact o2, hb12⟩
      case round =>
        obtain ⟨k, hk, rfl, hall, o3, hbw⟩ := hrel
        have HA := hide hall
        clear hall
        by_cases hlt : k < m
        · obtain ⟨b, off, x, rfl, hb, hx, hc⟩ := (t1.below hbw).get hlt
          have c0 := hc 0 _ rfl
          have c1 := hc 1 _ rfl
          have c2 := hc 2 _ rfl
          have c3 := hc 3 _ rfl
          simp only [eNo, Nat.add_zero] at c0 c1 c2 c3
          have HX := hide hx
          clear hc hx
          obtain ⟨xs, xh, xb, xbit⟩ := x
          simp only at c0 c1 c2 c3
          have HE := hide (noteErr_at HA.out HX.out)
          by_cases hgood : 1 ≤ xh ∧ xh ≤ 3 ∧ 0 ≤ xb ∧ xb ≤ 1
          · obtain ⟨g1, g2, g3, g4⟩ := hgood
            by_cases hin : 0 ≤ xs ∧ xs < n
            · obtain ⟨i1, i2⟩ := hin
              obtain ⟨q, rfl⟩ := Int.eq_ofNat_of_zero_le i1
              have hq : q < n := by omega
              obtain ⟨b', off', y, rfl, hb', hy, hc'⟩ := (s1.below (hbw.alloc hbw.size (.cells #[.int .i64 (q : Int), .int .i64 xh, .int .i64 xb, .bool xbit] 86))).get hq
              have y0 := hc' 0 _ rfl
              simp only [ePu, Nat.add_zero] at y0
              obtain ⟨pb, pbit, pcl, pph, pseen⟩ := y
              simp only at y0
              have HY := hide hy
              clear hc' hy
              have oW := o3.alloc (.cells #[.int .i64 (q : Int), .int .i64 xh, .int .i64 xb, .bool xbit] 86)
              obtain ⟨g, v, eg, _, hgl, _, hcv⟩ := oW.get hq
              injection eg with eg; injection eg with eg; subst eg
              have k0 := hcv 0 _ rfl
              have kf := oW.frozen q
              simp only [eBool, Nat.add_zero, Nat.mul_one] at k0
              have hG := hide (show (okNo ⟨(q : Int), xh, xb, xbit⟩ && inNo L.length ⟨(q : Int), xh, xb, xbit⟩) = true by rw [okNo_mk g1 g2 g3 g4, inNo_mk (by omega) (by have := HL.out; simp only; omega)]; rfl)
              clear hcv HE
              by_cases hx2 : xh = 2
              · subst hx2
                have HM := hide (marks_snoc (L := L) HX.out |>.trans (mark_yes rfl HY.out (.inl rfl)))
                go_wp2
                go_quiet (fail)
                go_wp2
                go_roundw
                case rel => exact ⟨k + 1, by omega, by go_num, all_take_succ HA.out HX.out hG.out, by rw [HM.out]; exact (oW.drewN _).store1 hq true rfl rfl, (below_drewN (hbw.alloc hbw.size _) _).setCell (Nat.le_refl _) _⟩
                case measure => simp [intOf] <;> omega
              · have hx3 : (xh == 2) = false := by simpa using hx2
                have HX2 := hide hx2
                clear hx2
                by_cases hxb : xb = pb
                · subst hxb
                  have HM := hide (marks_snoc (L := L) HX.out |>.trans (mark_yes rfl HY.out (.inr rfl)))
                  have hxe : (xb == xb) = true := by simp
                  go_wp2
                  go_quiet (fail)
                  go_wp2
                  go_roundw
                  case rel => exact ⟨k + 1, by omega, by go_num, all_take_succ HA.out HX.out hG.out, by rw [HM.out]; exact (oW.drewN _).store1 hq true rfl rfl, (below_drewN (hbw.alloc hbw.size _) _).setCell (Nat.le_refl _) _⟩
                  case measure => simp [intOf] <;> omega
                · have hxe : (xb == pb) = false := by simpa using hxb
                  have HM := hide (marks_snoc (L := L) HX.out |>.trans (mark_no rfl HY.out HX2.out hxb))
                  clear hxb
                  go_wp2
                  go_quiet (fail)
                  go_wp2
                  go_roundw
                  case rel => exact ⟨k + 1, by omega, by go_num, all_take_succ HA.out HX.out hG.out, by rw [HM.out]; exact oW.drewN _, below_drewN (hbw.alloc hbw.size _) _⟩
                  case measure => simp [intOf] <;> omega
            · have HI := hide hin
              clear hin
              have HS := hide (HE.out.2 (okNo_mk g1 g2 g3 g4) (inNo_not (by have := HI.out; have := HL.out; simp only; omega)))
              clear HE
              go_wp2
              all_goals first
                | (exfalso; have := HI.out; omega)
                | (go_ret2
                   exact SKnows.err (HN.out.trans HS.out) (by omega) (below_on hb1 (hbw.alloc hbw.size _)))
          · have HI := hide hgood
            clear hgood
            have HS := hide (HE.out.1 (okNo_not HI.out))
            clear HE
            go_wp2
            all_goals first
              | (exfalso; have := HI.out; omega)
              | (go_ret2
                 exact SKnows.err (HN.out.trans HS.out) (by omega) (below_on hb1 (hbw.alloc hbw.size _)))
        · have hall := all_whole HA.out TL.out hlt
          have HK := hide (HN.out.trans (noteErr_ok hall))
          have hke : k = m := by omega
          have hmk : marks L (N.take k) = marks L N := by rw [hke, List.take_of_length_le (by have := TL.out; omega)]
          rw [hmk] at o3
          have hb3 := below_on hb1 hbw
          have hz := hbw.size
          clear hall hmk HA hke o2 hg2 hb12 hb1 hbw
          go_wp2
          obtain ⟨w3, rfl⟩ : ∃ wo : World, wo = wr := ⟨_, rfl⟩
          go_loopw [79, 10] (fun iv av wr => ∃ (k : Nat) (A1 : Option Addr) (c1 : Nat), k ≤ n ∧ iv = .int .i64 k ∧ av = .slice A1 (idx (marks L N) k).length c1 ∧ Ow eNat wr w3.heap.size 3 A1 (idx (marks L N) k).length c1 (idx (marks L N) k) ∧ Below w3.heap.size w3 wr) (fun iv _ _ => n - (intOf iv).toNat)
          case atStart => exact ⟨0, none, 0, by omega, rfl, rfl, Ow.nil _ _ _, Below.refl _ _⟩
          case round =>
            obtain ⟨k, A1, c1, hk, rfl, rfl, o1, hbw⟩ := hrel
            have hq1 := idx_len (marks L N) k
            by_cases hlt : k < n
            · obtain ⟨g, v, eg, _, hgl, hx, hcv⟩ := (o3.on hbw).get hlt
              injection eg with eg; injection eg with eg; subst eg
              have k0 := hcv 0 _ rfl
              simp only [eBool, Nat.add_zero, Nat.mul_one] at k0
              have HX := hide hx
              clear hcv hx
              cases v
              · go_wp2
                go_roundw
                case rel => exact ⟨k + 1, A1, c1, by omega, by go_num, by rw [idx_no HX.out], by rw [idx_no HX.out]; exact o1, hbw⟩
                case measure => simp [intOf] <;> omega
              · go_wp2_with (at_builtin; refine wl_app eNat _ rfl (.tmp 85) (.tmp 87) _ rfl w3.heap.size 3 (.int .i64 0) 8 Try.underlying61 info_int rfl (by omega) _ _ _ _ (by rfl) (o1.alloc _) _ 1 1 [k] (by rfl) _ (Rd.newAt _ _ k _ rfl _ (by simp)) (by omega) (by have := hbw.size; simp; omega) ?_; intro A3 c3 w4 o4 hg4 hA4)
                go_roundw
                case rel => exact ⟨k + 1, A3, c3, by omega, by go_num, by rw [idx_yes HX.out, List.length_append]; rfl, by rw [idx_yes HX.out, List.length_append]; exact o4, below_app (hbw.alloc hbw.size _) (o1.alloc _) hg4 (Nat.le_refl _) (Nat.le_refl _)⟩
                case measure => simp [intOf] <;> omega
            · have hL : k = L.length := by have := HL.out; omega
              go_wp2
              go_ret2
              subst hL
              exact SKnows.ok HK.out o1.rd (below_on hb3 hbw)
  · have H0 := hide h0
    have HV := hide hv
    have hne : (pulsesErr L != 0) = true := by simpa using h0
    clear hv h0
    go_enter Try.func52, Try.ntmps52
    go_wp2_with (go_at_call 66; refine HV.out.mono ?_; rintro e w1 ⟨rfl, hb1⟩)
    go_ret2
    exact SKnows.err (knowsErr_pulse H0.out) H0.out hb1
end Go.Proofs.Ytchhkokpjdkkiaa
