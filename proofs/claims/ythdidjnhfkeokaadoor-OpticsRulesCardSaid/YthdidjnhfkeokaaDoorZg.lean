/- Contract of optics.Parse. -/
import Derived.Test.YthdidjnhfkeokaaDoorZf
namespace Go.Proofs.YthdidjnhfkeokaaDoor
open Go.RowKit

theorem cells18_int (f : Nat → Int) {k : Nat} {v : Value} (h : (cells18 f)[k]? = some v) : ∃ n, v = .int .i64 n := by
  by_cases hk : k < 18
  · rw [cells18_get f hk] at h; exact ⟨_, (Option.some.inj h).symm⟩
  · rw [Array.getElem?_eq_none (by simp [cells18]; omega)] at h; cases h
theorem c18_str (f : Nat → Int) (x : ByteArray) (off : Nat) : ¬ ∀ (j : Nat) (v : Value), (eStr.cells x)[j]? = some v → (cells18 f)[off + j]? = some v := fun h => by
  obtain ⟨n, hn⟩ := cells18_int f (h 0 (.string x) rfl)
  cases hn
theorem Rd.past {α : Type} {e : Enc α} {w : World} {A : Option Addr} {n c : Nat} {L : List α} {g i : Nat} {t : TypeId} {cs : Array Value} (h : Rd e w w.heap.size A n c L) (b : Blk w g t cs) (hx : ∀ (x : α) (off : Nat), ¬ ∀ (j : Nat) (v : Value), (e.cells x)[j]? = some v → cs[off + j]? = some v) (u : Value) : Rd e (w.setCell ⟨g, i, none⟩ u) (w.setCell ⟨g, i, none⟩ u).heap.size A n c L := by
  refine ⟨h.len, h.cap, h.max, fun hn => ?_⟩
  obtain ⟨b1, off, ea, hb, hc⟩ := h.at_ hn
  refine ⟨b1, off, ea, by simpa [World.setCell] using hb, fun k x hk j v hv => ?_⟩
  have hne : b1 ≠ g := fun eg => by
    subst eg
    obtain ⟨y, hy⟩ : ∃ y, L[0]? = some y := ⟨_, List.getElem?_eq_getElem (by rw [h.len]; exact hn)⟩
    refine hx y off fun j v hv => ?_
    have := hc 0 y hy j v hv
    rw [Nat.zero_mul, Nat.add_zero, b.cell] at this
    exact this
  have := hc k x hk j v hv
  unfold World.cell? at this ⊢
  rw [Below.heap_setCell _ _ _ _ (show b1 ≠ g from hne)]
  exact this
def SParse (s : ByteArray) (w : World) (e : Ending) (w' : World) : Prop := ∃ f err, e = .returned (.tuple #[.agg (cells18 f), .int .i64 err]) ∧ SPar s f err ∧ Below w.heap.size w w'
/-- What Parse has at hand. -/
structure PW (w0 : World) (gZ gP : Nat) (A : Option Addr) (n : Nat) (ws : List ByteArray) (Ap : Option Addr) (cp base : Nat) (f : Nat → Int) (W : World) : Prop where
  z : Blk W gZ 26 (cells18 fun _ => 0)
  p : Blk W gP 26 (cells18 f)
  r : Rd eStr W W.heap.size A n n ws
  o : Ow (ePtr gP) W base 75 Ap 17 cp (List.range' 1 17)
  b : Below w0.heap.size w0 W
section
variable {w0 W W' : World} {gZ gP n cp base : Nat} {A Ap : Option Addr} {ws : List ByteArray} {f : Nat → Int}
theorem PW.set (h : PW w0 gZ gP A n ws Ap cp base f W) (hz : gZ ≠ gP) (hb : gP < base) (hw : w0.heap.size ≤ gP) {j : Nat} (hj : j < 18) (v : Int) : PW w0 gZ gP A n ws Ap cp base (upd f j v) (W.setCell ⟨gP, j, none⟩ (.int .i64 v)) :=
  ⟨h.z.far hz _, cells18_set f hj v ▸ h.p.set_ j (.int .i64 v), h.r.past h.p (c18_str f) _, h.o.far (fun g eg => by have := (h.o.lt eg).1; simp; omega) _, below_grown h.b (grownBy_setCell W gP j _) hw (Nat.le_refl _)⟩
theorem PW.on (h : PW w0 gZ gP A n ws Ap cp base f W) (hb : Below W.heap.size W W') : PW w0 gZ gP A n ws Ap cp base f W' :=
  ⟨h.z.keep hb, h.p.keep hb, h.r.on hb, h.o.on hb, below_on h.b hb⟩
theorem PW.drewN (h : PW w0 gZ gP A n ws Ap cp base f W) (k : Nat) : PW w0 gZ gP A n ws Ap cp base f (W.drewN k) := h.on (below_drewN (Below.refl _ _) k)
end

set_option maxRecDepth 100000 in
set_option maxHeartbeats 6400000 in
theorem parse_c (s : ByteArray) (w : World) (hm : Mx w) (hs : s.size ≤ 1000000) : Calls Tryd.prog 13 #[.string s] w (SParse s w) := by
  have hZ : Blk ((w.alloc (.cells (cells18 fun _ => 0) 26)).alloc (.cells (cells18 (PF (wordsB s) (-1) 0)) 26)) w.heap.size 26 (cells18 fun _ => 0) := (Blk.newAt w 26 _ w.heap.size rfl).alloc _
  have hP : Blk ((w.alloc (.cells (cells18 fun _ => 0) 26)).alloc (.cells (cells18 (PF (wordsB s) (-1) 0)) 26)) (w.heap.size + 1) 26 (cells18 (PF (wordsB s) (-1) 0)) := Blk.newAt (w.alloc (.cells (cells18 fun _ => 0) 26)) 26 _ (w.heap.size + 1) (by simp)
  have hb : Below w.heap.size w ((w.alloc (.cells (cells18 fun _ => 0) 26)).alloc (.cells (cells18 (PF (wordsB s) (-1) 0)) 26)) := below_on (below_alloc w _) (below_alloc _ _)
  have hm1 := hm.on hb
  go_enter Tryd.func13, Tryd.ntmps13
  go_upto_region 2 with fail
  obtain ⟨W, hW⟩ : ∃ W, W = ((w.alloc (.cells (cells18 fun _ => 0) 26)).alloc (.cells (cells18 (PF (wordsB s) (-1) 0)) 26)) := ⟨_, rfl⟩
  have HWE := hide hW
  rw [PF_start] at hW
  unfold cells18 at hW
  rw [← hW]
  rw [← HWE.out] at hZ hP hb hm1
  clear hW HWE hm
  obtain ⟨gP, hgP⟩ : ∃ q, q = w.heap.size + 1 := ⟨_, rfl⟩
  rw [← hgP] at hP ⊢
  obtain ⟨gZ, hgZ⟩ : ∃ q, q = w.heap.size := ⟨_, rfl⟩
  rw [← hgZ] at hZ ⊢
  have hzp : gZ ≠ gP := by omega
  have hwz : w.heap.size ≤ gZ := by omega
  have hwp : w.heap.size ≤ gP := by omega
  have HG := hide (And.intro hgP hgZ)
  clear hgP hgZ
  have hpl := hP.lt
  go_upto_region 4 with (first | (go_at_call 43; refine (split_c 32 s W hm1 (by omega)).mono ?_; rintro e w1 ⟨A, n, rfl, r1, hn0, hn1, hb1⟩) | (go_at_call 32; refine (numbers_c gP w1).mono ?_; rintro e w2 ⟨Ap, cp, rfl, op, hb2⟩))
  have hw : PW w gZ gP A n (wordsB s) Ap cp w1.heap.size (PF (wordsB s) (-1) 0) w2 := ⟨(hZ.keep hb1).keep hb2, (hP.keep hb1).keep hb2, r1.on hb2, op, below_on (below_on hb hb1) hb2⟩
  have hpb : gP < w1.heap.size := by have := hb1.size; omega
  obtain ⟨base, hbase⟩ : ∃ q, q = w1.heap.size := ⟨_, rfl⟩
  rw [← hbase] at hw hpb
  clear hZ hP hb hm1 r1 op hb1 hb2 hbase hpl
  by_cases hn : n = 18
  · subst hn
    obtain ⟨b0, off, x0, rfl, hb0, hx0, hc0⟩ := hw.r.get (show 0 < 18 by omega)
    go_upto_region 7 with (go_at_call 31; refine (sources_c _).mono ?_; rintro e w3 ⟨rfl, hb3⟩)
    have hw3 := hw.on hb3
    clear hw hb3 hc0 hb0
    go_loopw [25] (fun iv wr => ∃ k : Nat, k ≤ 3 ∧ iv = .int .i64 k ∧ PW w gZ gP (some ⟨b0, off, none⟩) 18 (wordsB s) Ap cp base (PF (wordsB s) (kix x0 k) 0) wr) (fun iv _ => 3 - (intOf iv).toNat)
    case atStart => exact ⟨0, by omega, rfl, hw3⟩
    case round =>
      clear hw3
      obtain ⟨k, hk, rfl, hw⟩ := hrel
      by_cases hlt : k < 3
      · obtain ⟨b0', off', x0', eA, hb0, hx0', hc0⟩ := hw.r.get (show 0 < 18 by omega)
        injection eA with eA
        injection eA with e1 e2
        subst e1
        subst e2
        obtain rfl : x0 = x0' := by rw [hx0] at hx0'; exact Option.some.inj hx0'
        have y0 := hc0 0 _ rfl
        simp only [eStr, Nat.add_zero, Nat.zero_mul] at y0
        have hix := src_ix (k : Int) (by omega) wr
        have q0 := (hw.p.cell 0).trans (cells18_get _ (by omega))
        have qf := hw.p.frozen 0
        clear hc0 hx0'
        by_cases he : x0 = kw (k : Int)
        · have hst : (x0.toList == (kw (k : Int)).toList) = true := by rw [he]; simp
          have HK := hide (show kix x0 (k + 1) = k by rw [kix, if_pos he])
          clear he
          have hw2 := hw.set hzp hpb hwp (j := 0) (by omega) (k : Int)
          rw [upd_zero] at hw2
          go_wp2
          go_roundw
          case rel => exact ⟨k + 1, by omega, by go_num, by rw [HK.out]; exact hw2⟩
          case measure => simp [intOf] <;> omega
        · have hst : (x0.toList == (kw (k : Int)).toList) = false := by
            rw [beq_eq_false_iff_ne]
            intro e
            rw [Lib.toList_data, Lib.toList_data] at e
            exact he (lst_inj e)
          have HK := hide (show kix x0 (k + 1) = kix x0 k by rw [kix, if_neg he])
          clear he
          go_wp2
          go_roundw
          case rel => exact ⟨k + 1, by omega, by go_num, by rw [HK.out]; exact hw⟩
          case measure => simp [intOf] <;> omega
      · obtain rfl : k = 3 := by omega
        obtain ⟨kf, hkf⟩ : ∃ kf, kf = kix x0 3 := ⟨_, rfl⟩
        rw [← hkf] at hw
        have HKF := hide hkf
        clear hkf
        go_upto_region 13 with fail
        go_loopw [39] (fun iv wr => ∃ i : Nat, i ≤ 17 ∧ iv = .int .i64 i ∧ PW w gZ gP (some ⟨b0, off, none⟩) 18 (wordsB s) Ap cp base (PF (wordsB s) kf i) wr ∧ Hid (∀ j x, j < i → (wordsB s)[1 + j]? = some x → smallOk (lst x) = true)) (fun iv _ => 17 - (intOf iv).toNat)
        case atStart => exact ⟨0, by omega, rfl, hw, fun j x hj => by omega⟩
        case round =>
          clear hw
          obtain ⟨i, hi, rfl, hw, HOK⟩ := hrel
          by_cases hlt : i < 17
          · obtain ⟨b0', off', x, eA, hb0, hx, hc0⟩ := hw.r.get (show 1 + i < 18 by omega)
            injection eA with eA
            injection eA with e1 e2
            subst e1
            subst e2
            have y0 := hc0 0 _ rfl
            simp only [eStr, Nat.add_zero, Nat.mul_one] at y0
            have y1 : wr.cell? ⟨b0, off + (i + 1), none⟩ = some (.string x) := by rw [Nat.add_comm i 1]; exact y0
            obtain ⟨gp, q, rfl, _, hgp, hq, hcp⟩ := hw.o.get hlt
            have hq1 : q = 1 + i := by
              rw [List.getElem?_range' (by omega)] at hq
              simp at hq; omega
            subst hq1
            have p0 := hcp 0 _ rfl
            simp only [ePtr, Nat.add_zero, Nat.mul_one] at p0
            have q0 := (hw.p.cell (1 + i)).trans (cells18_get _ (by omega))
            have qf := hw.p.frozen (1 + i)
            have HX := hide hx
            have HSM := hide (small_c x wr)
            have hi17 : (i : Int) < 17 := by omega
            clear hc0 hx hcp hq hgp hb0
            cases hok : smallOk (lst x)
            · have HBAD := hide (SPar.badNum hlt HX.out hok)
              have HS2 := hide (show Calls Tryd.prog 44 #[.string x] wr fun e w' => e = .returned (.tuple #[.int .i64 0, .bool false]) ∧ w' = wr from HSM.out.mono fun e w' h => by
                obtain ⟨h1, h2⟩ := h
                rw [hok] at h1
                unfold smallV at h1
                rw [hok] at h1
                exact ⟨h1, h2⟩)
              clear hok HSM
              go_upto_region 17 with (go_at_call 44; refine HS2.out.mono ?_; rintro e w5 ⟨rfl, rfl⟩)
              go_wp2_with (refine wl_store (o := ⟨none, _, _, _, _, _⟩) rfl 26 _ _ rfl gZ (cells18 fun _ => 0) rfl rfl 26 _ hw.z (by kernel_rfl) rfl (cells18_one _) ?_; intro w9 hZ9 hg9)
              refine bodyPost_ret (results_row_tmp rfl _ _ gZ 26 _ _ rfl hZ9 Tryd.underlying26 rfl (by kernel_rfl)) rfl ?_
              exact ⟨_, _, rfl, HBAD.out, below_grown hw.b hg9 hwz (Nat.le_refl _)⟩
            · have HOK2 := hide (show ∀ j y, j < i + 1 → (wordsB s)[1 + j]? = some y → smallOk (lst y) = true from fun j y hj hy => by
                by_cases h : j < i
                · exact HOK.out j y h hy
                · obtain rfl : j = i := by omega
                  rw [HX.out] at hy
                  obtain rfl := Option.some.inj hy
                  exact hok)
              have hw2 := hw.set hzp hpb hwp (j := 1 + i) (by omega) ((smallV (lst x) : Nat) : Int)
              rw [upd_next HX.out] at hw2
              obtain ⟨v, hv⟩ : ∃ v, v = smallV (lst x) := ⟨_, rfl⟩
              have HS2 := hide (show Calls Tryd.prog 44 #[.string x] wr fun e w' => e = .returned (.tuple #[.int .i64 (v : Int), .bool true]) ∧ w' = wr from HSM.out.mono fun e w' h => by
                obtain ⟨h1, h2⟩ := h
                rw [hok, ← hv] at h1
                exact ⟨h1, h2⟩)
              rw [← hv] at hw2
              clear hok HSM hv
              go_wp2_with (go_at_call 44; refine HS2.out.mono ?_; rintro e w5 ⟨rfl, rfl⟩)
              refine ⟨⟨_, _, _, _, _, _, _, _, _, _, _, _, _, _, _, _, _, _, _, _, _, _, _, _, _, _, ⟨i + 1, by omega, by go_num, by rw [Nat.add_comm i 1]; exact hw2, HOK2⟩, rfl⟩, ?_⟩
              simp [intOf] <;> omega
          · obtain rfl : i = 17 := by omega
            have hlen : (wordsB s).length = 18 := hw.r.len
            have hck := check_c (PF (wordsB s) kf 17) wr
            cases hok : okO (PF (wordsB s) kf 17)
            · have HBAD := hide (SPar.badCheck hx0 (by rw [← HKF.out]; exact hok))
              rw [show checkErr (PF (wordsB s) kf 17) = 2 by unfold checkErr; rw [hok]; rfl] at hck
              have HCK := hide hck
              clear hck hok hlen HOK
              obtain ⟨F, hF⟩ : ∃ F, F = PF (wordsB s) kf 17 := ⟨_, rfl⟩
              rw [← hF] at hw HCK
              clear hF
              go_upto_region 21 with (first | (refine wl_load (o := ⟨some 60, _, _, _, _, _⟩) rfl 26 _ rfl gP rfl 26 (cells18 F) _ hw.p Tryd.underlying26 rfl (by kernel_rfl) ?_) | (go_at_call 10; refine HCK.out.mono ?_; rintro e w5 ⟨rfl, hb5⟩; have hw5 := hw.on hb5))
              go_wp2_with (refine wl_store (o := ⟨none, _, _, _, _, _⟩) rfl 26 _ _ rfl gZ (cells18 fun _ => 0) rfl rfl 26 _ hw5.z (by kernel_rfl) rfl (cells18_one _) ?_; intro w9 hZ9 hg9)
              refine bodyPost_ret (results_row_tmp rfl _ _ gZ 26 _ _ rfl hZ9 Tryd.underlying26 rfl (by kernel_rfl)) rfl ?_
              exact ⟨_, _, rfl, HBAD.out, below_grown hw5.b hg9 hwz (Nat.le_refl _)⟩
            · have HGOOD := hide (SPar.good hx0 hlen (fun i x hi hx => HOK.out i x hi hx) (by rw [← HKF.out]; exact hok))
              rw [← HKF.out] at HGOOD
              rw [show checkErr (PF (wordsB s) kf 17) = 0 by unfold checkErr; rw [hok]; rfl] at hck
              have HCK := hide hck
              clear hck hok hlen HOK
              obtain ⟨F, hF⟩ : ∃ F, F = PF (wordsB s) kf 17 := ⟨_, rfl⟩
              rw [← hF] at hw HCK HGOOD
              clear hF
              go_upto_region 22 with (first | (refine wl_load (o := ⟨some 60, _, _, _, _, _⟩) rfl 26 _ rfl gP rfl 26 (cells18 F) _ hw.p Tryd.underlying26 rfl (by kernel_rfl) ?_) | (go_at_call 10; refine HCK.out.mono ?_; rintro e w5 ⟨rfl, hb5⟩; have hw5 := hw.on hb5))
              go_wp2_with (first | (refine wl_load (o := ⟨some 64, _, _, _, _, _⟩) rfl 26 _ rfl gP rfl 26 (cells18 F) _ hw5.p Tryd.underlying26 rfl (by kernel_rfl) ?_) | (refine wl_store (o := ⟨none, _, _, _, _, _⟩) rfl 26 _ _ rfl gZ (cells18 F) rfl rfl 26 _ hw5.z (by kernel_rfl) rfl (cells18_one _) ?_; intro w9 hZ9 hg9))
              refine bodyPost_ret (results_row_tmp rfl _ _ gZ 26 _ _ rfl hZ9 Tryd.underlying26 rfl (by kernel_rfl)) rfl ?_
              exact ⟨_, _, rfl, HGOOD.out, below_grown hw5.b hg9 hwz (Nat.le_refl _)⟩
  · have HBAD := hide (SPar.badLen (s := s) (fun h => hn (hw.r.len.symm.trans h)))
    have hnb : ((n : Int) == 18) = false := decide_eq_false (fun e => hn (by omega))
    have hnb2 : ((n : Int) != 18) = true := by rw [bne, hnb]; rfl
    go_upto_region 5 with fail
    go_wp2_with (refine wl_store (o := ⟨none, _, _, _, _, _⟩) rfl 26 _ _ rfl gZ (cells18 fun _ => 0) rfl rfl 26 _ hw.z (by kernel_rfl) rfl (cells18_one _) ?_; intro w9 hZ9 hg9)
    refine bodyPost_ret (results_row_tmp rfl _ _ gZ 26 _ _ rfl hZ9 Tryd.underlying26 rfl (by kernel_rfl)) rfl ?_
    exact ⟨_, _, rfl, HBAD.out, below_grown hw.b hg9 hwz (Nat.le_refl _)⟩
end Go.Proofs.YthdidjnhfkeokaaDoor
