/- Contracts of the law's has, Plain and flight. -/
import Derived.Test.YtddajmagdjkodaaDoorYd
import Derived.Test.YtddajmagdjkodaaDoorYp
import Derived.Test.YtddajmagdjkodaaDoorQl
namespace Go.Proofs.YtddajmagdjkodaaDoor
open Go.RowKit

set_option maxRecDepth 100000 in
set_option maxHeartbeats 1600000 in
theorem has_c (A : Option Addr) (n c : Nat) (L : List Nat) (m : Nat) (w : World) (r : Rd eNat w w.heap.size A n c L) :
    Calls Tryd.prog 47 #[.slice A n c, .int .i64 (m : Int)] w fun e w' => e = .returned (.bool (decide (m ∈ L))) ∧ Below w.heap.size w w' := by
  have hm := r.max
  have hcap := r.cap
  have HL := hide r.len
  go_enter Tryd.func47, Tryd.ntmps47
  go_wp2
  go_loopw [5] (fun iv wr => ∃ k : Nat, k ≤ n ∧ iv = .int .i64 k ∧ (L.take k).all (fun x => !decide (x = m)) = true ∧ Below w.heap.size w wr) (fun iv _ => n - (intOf iv).toNat)
  case atStart => exact ⟨0, by omega, rfl, rfl, Below.refl _ _⟩
  case round =>
    obtain ⟨k, hk, rfl, hall, hbw⟩ := hrel
    have HA := hide hall
    clear hall
    by_cases hlt : k < n
    · obtain ⟨b, off, x, rfl, hb, hx, hc⟩ := (r.below hbw).get hlt
      have c0 := hc 0 _ rfl
      simp only [eNat, Nat.add_zero, Nat.mul_one] at c0
      have HX := hide hx
      clear hc hx
      by_cases he : x = m
      · subst he
        go_wp2
        go_ret
        exact ⟨ret_b (by simpa using List.mem_of_getElem? HX.out), hbw⟩
      · have hd : ((x : Int) == (m : Int)) = false := by simp; omega
        have HE := hide he
        clear he
        go_wp2
        go_roundw
        case rel => exact ⟨k + 1, by omega, by go_num, all_take_succ HA.out HX.out (by simpa using HE.out), hbw⟩
        case measure => simp [intOf] <;> omega
    · have HB := hide hlt
      go_wp2
      go_ret
      refine ⟨ret_b ?_, hbw⟩
      have h := all_whole HA.out HL.out HB.out
      rw [List.all_eq_true] at h
      symm
      rw [decide_eq_false_iff_not]
      intro hm
      have := h m hm
      simp at this

/-- A flight without an error over a channel that does not shift. -/
def SFl (f : Nat → Int) (L : List Ru) (n a b c : Nat) (w : World) (e : Ending) (w' : World) : Prop :=
  ∃ A1 c1 A2 c2 A3 n3 c3, e = .returned (.tuple #[.agg #[.slice A1 n c1, .slice A2 n c2, .slice A3 n3 c3, .int .i64 0], .bool true]) ∧
    Rd ePu w' w'.heap.size A1 n c1 (emiF f a n).1 ∧ Rd eCk w' w'.heap.size A2 n c2 (dets (f 16) (f 17) 0 (carrF L (emiF f a n).1 b n).1 c n).1 ∧ Rd eNo w' w'.heap.size A3 n3 c3 (carrF L (emiF f a n).1 b n).2.1 ∧ Below w.heap.size w w'
set_option maxRecDepth 100000 in
set_option maxHeartbeats 3200000 in
theorem flight_c (f : Nat → Int) (A : Option Addr) (k c0 : Nat) (L : List Ru) (n : Nat) (a b c : Nat) (w : World) (r : Rd eRu w w.heap.size A k c0 L) (h0 : checkErr f = 0) (h1 : rulesErr L = 0) (h2 : shiftErr L = 0) (hn : n ≤ 4096) :
    Calls Tryd.prog 46 #[.agg (cells18 f), .slice A k c0, .int .i64 (n : Int), .agg #[.int .u64 (a : Int), .int .u64 (b : Int), .int .u64 (c : Int)]] w (SFl f L n a b c w) := by
  have HRUN : ∀ W, Rd eRu W W.heap.size A k c0 L → Calls Tryd.prog 44 #[.agg (cells18 f), .slice A k c0, .int .i64 (n : Int), .agg #[.int .u64 (a : Int), .int .u64 (b : Int), .int .u64 (c : Int)]] W fun e w' => ∃ A1 c1 A2 c2 A3 n3 c3, e = .returned (.tuple #[.agg #[.slice A1 n c1, .slice A2 n c2, .slice A3 n3 c3, .int .i64 0], .int .i64 0]) ∧
      Rd ePu w' w'.heap.size A1 n c1 (emiF f a n).1 ∧ Rd eCk w' w'.heap.size A2 n c2 (dets (f 16) (f 17) 0 (carrF L (emiF f a n).1 b n).1 c n).1 ∧ Rd eNo w' w'.heap.size A3 n3 c3 (carrF L (emiF f a n).1 b n).2.1 ∧ Below W.heap.size W w' := fun W hW =>
    (run_c f A k c0 L n a b c W hW).mono fun e w' h => by
      obtain ⟨A1, n1, c1, A2, n2, c2, A3, n3, c3, he, q1, q2, q3, hb⟩ := h
      rw [run_ok_err h0 h1 hn, runSh_ok h2] at he
      rw [runP_ok h0 h1 hn] at q1
      rw [runC_ok h0 h1 h2 hn] at q2
      rw [runN_ok h0 h1 hn] at q3
      have e1 := q1.len
      have e2 := q2.len
      rw [emiF_len] at e1
      rw [dets_len] at e2
      subst e1
      subst e2
      exact ⟨A1, c1, A2, c2, A3, n3, c3, he, q1, q2, q3, hb⟩
  have HH := hide HRUN
  clear HRUN h0 h1 h2
  have hn' : (n : Int) ≤ 4096 := by omega
  have hb : Below w.heap.size w (((w.alloc (.cells (cells18 f) 40)).alloc (.cells #[.int .u64 (a : Int), .int .u64 (b : Int), .int .u64 (c : Int)] 80)).alloc (.cells #[.slice none 0 0, .slice none 0 0, .slice none 0 0, .int .i64 0] 77)) := (((Below.refl _ w).alloc (Nat.le_refl _) _).alloc (by simp) _).alloc (by simp; omega) _
  have hO : Blk (((w.alloc (.cells (cells18 f) 40)).alloc (.cells #[.int .u64 (a : Int), .int .u64 (b : Int), .int .u64 (c : Int)] 80)).alloc (.cells #[.slice none 0 0, .slice none 0 0, .slice none 0 0, .int .i64 0] 77)) w.heap.size 40 (cells18 f) := ((Blk.newAt w 40 _ w.heap.size rfl).alloc _).alloc _
  have hS : Blk (((w.alloc (.cells (cells18 f) 40)).alloc (.cells #[.int .u64 (a : Int), .int .u64 (b : Int), .int .u64 (c : Int)] 80)).alloc (.cells #[.slice none 0 0, .slice none 0 0, .slice none 0 0, .int .i64 0] 77)) (w.heap.size + 1) 80 #[.int .u64 (a : Int), .int .u64 (b : Int), .int .u64 (c : Int)] := (Blk.newAt (w.alloc (.cells (cells18 f) 40)) 80 _ (w.heap.size + 1) (by simp)).alloc _
  have hZ : Blk (((w.alloc (.cells (cells18 f) 40)).alloc (.cells #[.int .u64 (a : Int), .int .u64 (b : Int), .int .u64 (c : Int)] 80)).alloc (.cells #[.slice none 0 0, .slice none 0 0, .slice none 0 0, .int .i64 0] 77)) (w.heap.size + 1 + 1) 77 #[.slice none 0 0, .slice none 0 0, .slice none 0 0, .int .i64 0] := Blk.newAt ((w.alloc (.cells (cells18 f) 40)).alloc (.cells #[.int .u64 (a : Int), .int .u64 (b : Int), .int .u64 (c : Int)] 80)) 77 _ (w.heap.size + 1 + 1) (by simp)
  have r1 := r.on hb
  go_enter Tryd.func46, Tryd.ntmps46
  go_upto_region 1 with fail
  obtain ⟨W, hW⟩ : ∃ q, q = (((w.alloc (.cells (cells18 f) 40)).alloc (.cells #[.int .u64 (a : Int), .int .u64 (b : Int), .int .u64 (c : Int)] 80)).alloc (.cells #[.slice none 0 0, .slice none 0 0, .slice none 0 0, .int .i64 0] 77)) := ⟨_, rfl⟩
  rw [← hW] at hb hO hS hZ r1 ⊢
  clear hW r
  obtain ⟨gZ, hgZe⟩ : ∃ q, q = w.heap.size + 1 + 1 := ⟨_, rfl⟩
  rw [← hgZe] at hZ ⊢
  have hgZ : w.heap.size ≤ gZ := by omega
  obtain ⟨gS, hgSe⟩ : ∃ q, q = w.heap.size + 1 := ⟨_, rfl⟩
  rw [← hgSe] at hS ⊢
  obtain ⟨gO, hgOe⟩ : ∃ q, q = w.heap.size := ⟨_, rfl⟩
  rw [← hgOe] at hO ⊢
  have HG := hide (And.intro hgZe (And.intro hgSe hgOe))
  clear hgZe hgSe hgOe
  have s0 := hS.cell 0
  have s1 := hS.cell 1
  have s2 := hS.cell 2
  simp only [List.getElem?_toArray, List.getElem?_cons_succ, List.getElem?_cons_zero] at s0 s1 s2
  go_upto_region 2 with (first | (refine wl_load (o := ⟨some 13, _, _, _, _, _⟩) rfl 40 _ rfl gO rfl 40 (cells18 f) _ hO Tryd.underlying40 rfl (by kernel_rfl) ?_) | (refine wl_load (o := ⟨some 16, _, _, _, _, _⟩) rfl 80 _ rfl gS rfl 80 #[.int .u64 (a : Int), .int .u64 (b : Int), .int .u64 (c : Int)] _ hS Tryd.underlying80 rfl (by kernel_rfl) ?_) | (go_at_call 44; refine (HH.out W r1).mono ?_; rintro e w1 ⟨A1, c1, A2, c2, A3, n3, c3, rfl, P1, C1, N1, hb1⟩))
  have Z1 := (hZ.keep hb1).alloc (.cells #[.slice A1 n c1, .slice A2 n c2, .slice A3 n3 c3, .int .i64 0] 77)
  have G1 := Blk.newAt w1 77 #[.slice A1 n c1, .slice A2 n c2, .slice A3 n3 c3, .int .i64 0] w1.heap.size rfl
  have B1 := below_on (below_on hb hb1) (below_alloc w1 (.cells #[.slice A1 n c1, .slice A2 n c2, .slice A3 n3 c3, .int .i64 0] 77))
  have P2 := P1.alloc (.cells #[.slice A1 n c1, .slice A2 n c2, .slice A3 n3 c3, .int .i64 0] 77)
  have C2 := C1.alloc (.cells #[.slice A1 n c1, .slice A2 n c2, .slice A3 n3 c3, .int .i64 0] 77)
  have N2 := N1.alloc (.cells #[.slice A1 n c1, .slice A2 n c2, .slice A3 n3 c3, .int .i64 0] 77)
  have lz := (hZ.keep hb1).lt
  obtain ⟨X, hX⟩ : ∃ q, q = w1.alloc (.cells #[.slice A1 n c1, .slice A2 n c2, .slice A3 n3 c3, .int .i64 0] 77) := ⟨_, rfl⟩
  rw [← hX] at Z1 G1 B1 P2 C2 N2 ⊢
  clear hX P1 C1 N1 hb1 hO hS hZ r1 s0 s1 s2 hb HH
  obtain ⟨gG, hgG⟩ : ∃ q, q = w1.heap.size := ⟨_, rfl⟩
  rw [← hgG] at G1 lz ⊢
  clear hgG
  have hne : gG ≠ gZ := by omega
  have HK := hide (show ∀ w', Fr (fun i => i = gZ) X w' → w'.cell? ⟨gG, 0, none⟩ = some (.slice A1 n c1) ∧ w'.cell? ⟨gG, 1, none⟩ = some (.slice A2 n c2) ∧ w'.cell? ⟨gG, 2, none⟩ = some (.slice A3 n3 c3) ∧ w'.cell? ⟨gG, 3, none⟩ = some (.int .i64 0) from fun w' hw => by
    have a1 := G1.fr hw hne
    exact ⟨by simpa using a1.cell 0, by simpa using a1.cell 1, by simpa using a1.cell 2, by simpa using a1.cell 3⟩)
  have y0 := Z1.cell 0
  have y1 := Z1.cell 1
  have y2 := Z1.cell 2
  have y3 := Z1.cell 3
  have yf0 := Z1.frozen 0
  have yf1 := Z1.frozen 1
  have yf2 := Z1.frozen 2
  have yf3 := Z1.frozen 3
  simp only [List.getElem?_toArray, List.getElem?_cons_zero, List.getElem?_cons_succ] at y0 y1 y2 y3
  have FS := hide (((((Fr.refl (fun i => i = gZ) X).setCell (p := ⟨gZ, 0, none⟩) (fun _ => rfl) (.slice A1 n c1)).setCell (p := ⟨gZ, 1, none⟩) (fun _ => rfl) (.slice A2 n c2)).setCell (p := ⟨gZ, 2, none⟩) (fun _ => rfl) (.slice A3 n3 c3)).setCell (p := ⟨gZ, 3, none⟩) (fun _ => rfl) (.int .i64 0))
  have fz2 := hide (((grownBy_setCell X gZ 0 (.slice A1 n c1)).trans (grownBy_setCell _ gZ 1 (.slice A2 n c2))).trans (grownBy_setCell _ gZ 2 (.slice A3 n3 c3)) |>.trans (grownBy_setCell _ gZ 3 (.int .i64 0)))
  have hZZ : Blk ((((X.setCell ⟨gZ, 0, none⟩ (.slice A1 n c1)).setCell ⟨gZ, 1, none⟩ (.slice A2 n c2)).setCell ⟨gZ, 2, none⟩ (.slice A3 n3 c3)).setCell ⟨gZ, 3, none⟩ (.int .i64 0)) gZ 77 #[.slice A1 n c1, .slice A2 n c2, .slice A3 n3 c3, .int .i64 0] := by
    have q := (((Z1.set_ 0 (.slice A1 n c1)).set_ 1 (.slice A2 n c2)).set_ 2 (.slice A3 n3 c3)).set_ 3 (.int .i64 0)
    simpa using q
  have HZ := hide hZZ
  clear hZZ
  have FZ1 := hide ((Fr.refl (fun i => i = gZ) X).drew)
  have FZ3 := hide FS.out.drew
  go_region_held3 (fun w' => w'.cell? ⟨gG, 0, none⟩ = some (.slice A1 n c1) ∧ w'.cell? ⟨gG, 1, none⟩ = some (.slice A2 n c2) ∧ w'.cell? ⟨gG, 2, none⟩ = some (.slice A3 n3 c3) ∧ w'.cell? ⟨gG, 3, none⟩ = some (.int .i64 0)) (first | exact HK.out _ FZ1.out | exact HK.out _ FZ3.out) (fail)
  all_goals
    go_wp2
    refine bodyPost_ret (results_row_tmp rfl _ _ gZ 77 _ _ rfl HZ.out.drew Tryd.underlying77 rfl (by kernel_rfl)) rfl ?_
    have hg := grownBy_drew fz2.out
    have Z1' : Blk X gZ 77 (flC none none none 0 0 0 0 0 0 0) := Z1
    exact ⟨A1, c1, A2, c2, A3, n3, c3, rfl, P2.asideT Z1' flC_pu hg, C2.asideT Z1' flC_ck hg, N2.asideT Z1' flC_no hg, below_grown B1 hg hgZ (Nat.le_refl _)⟩
end Go.Proofs.YtddajmagdjkodaaDoor
