/- Contract of the reference's Line. -/
import Derived.Test.YthdidjnhfkeokaaDoorZr
import Derived.Test.YthdidjnhfkeokaaDoorVe
import Derived.BigQuiet
namespace Go.Proofs.YthdidjnhfkeokaaDoor
open Go.RowKit

def dB (n : Nat) : ByteArray := strB (Lib.decDigits n)
theorem dB_size (n : Nat) : (dB n).size ≤ n + 1 := by unfold dB; rw [strB_size]; exact decDigits_len n
/-- A rule's line, and none where it is not valid. -/
def lineB (r : Ru) : ByteArray := if okRu r then strB (lineL r) else ByteArray.empty
def SLine (r : Ru) (w : World) (e : Ending) (w' : World) : Prop := e = .returned (.tuple #[.string (lineB r), .int .i64 (ruErr r)]) ∧ Below w.heap.size w w'
theorem strB_snoc (a : ByteArray) (b : List UInt8) : a ++ strB b = strB (lst a ++ b) := by rw [← strB_app, strB_lst]
theorem lineB_0 (a : Nat) : strB (lineL ⟨1, 0, 0, (a : Nat), 0⟩) = (⟨#[108, 111, 115, 115, 32]⟩ : ByteArray) ++ dB a := by
  have e : lineL ⟨1, 0, 0, (a : Nat), 0⟩ = [108, 111, 115, 115] ++ [32] ++ Lib.decDigits a := by
    simp [lineL, lineW, fmOf, fmW, fmF, ruN, Lib.join_cons, Lib.joinTail]
  rw [e]
  simp only [dB, show ∀ l : List UInt8, (⟨l.toArray⟩ : ByteArray) = strB l from fun _ => rfl, strB_app]
  simp
theorem lineB_1 (a : Nat) : strB (lineL ⟨2, 0, 0, (a : Nat), 0⟩) = (⟨#[110, 111, 105, 115, 101, 32]⟩ : ByteArray) ++ dB a := by
  have e : lineL ⟨2, 0, 0, (a : Nat), 0⟩ = [110, 111, 105, 115, 101] ++ [32] ++ Lib.decDigits a := by
    simp [lineL, lineW, fmOf, fmW, fmF, ruN, Lib.join_cons, Lib.joinTail]
  rw [e]
  simp only [dB, show ∀ l : List UInt8, (⟨l.toArray⟩ : ByteArray) = strB l from fun _ => rfl, strB_app]
  simp
theorem lineB_2 (a : Nat) : strB (lineL ⟨3, 0, 0, (a : Nat), 0⟩) = (⟨#[108, 97, 116, 101, 32]⟩ : ByteArray) ++ dB a := by
  have e : lineL ⟨3, 0, 0, (a : Nat), 0⟩ = [108, 97, 116, 101] ++ [32] ++ Lib.decDigits a := by
    simp [lineL, lineW, fmOf, fmW, fmF, ruN, Lib.join_cons, Lib.joinTail]
  rw [e]
  simp only [dB, show ∀ l : List UInt8, (⟨l.toArray⟩ : ByteArray) = strB l from fun _ => rfl, strB_app]
  simp
theorem lineB_3 (a : Nat) : strB (lineL ⟨3, 0, 0, (a : Nat), 1⟩) = (⟨#[101, 97, 114, 108, 121, 32]⟩ : ByteArray) ++ dB a := by
  have e : lineL ⟨3, 0, 0, (a : Nat), 1⟩ = [101, 97, 114, 108, 121] ++ [32] ++ Lib.decDigits a := by
    simp [lineL, lineW, fmOf, fmW, fmF, ruN, Lib.join_cons, Lib.joinTail]
  rw [e]
  simp only [dB, show ∀ l : List UInt8, (⟨l.toArray⟩ : ByteArray) = strB l from fun _ => rfl, strB_app]
  simp
theorem lineB_4 (fr td a : Nat) : strB (lineL ⟨4, (fr : Nat), (td : Nat), (a : Nat), 0⟩) = (((⟨#[114, 101, 115, 101, 110, 100]⟩ : ByteArray) ++ (((⟨#[32]⟩ ++ dB fr) ++ ⟨#[32]⟩) ++ dB td)) ++ ⟨#[32]⟩) ++ dB a := by
  have e : lineL ⟨4, (fr : Nat), (td : Nat), (a : Nat), 0⟩ = [114, 101, 115, 101, 110, 100] ++ [32] ++ Lib.decDigits fr ++ [32] ++ Lib.decDigits td ++ [32] ++ Lib.decDigits a := by
    simp [lineL, lineW, fmOf, fmW, fmF, ruN, Lib.join_cons, Lib.joinTail]
  rw [e]
  simp only [dB, show ∀ l : List UInt8, (⟨l.toArray⟩ : ByteArray) = strB l from fun _ => rfl, strB_app]
  simp
theorem lineB_5 (fr td : Nat) : strB (lineL ⟨5, (fr : Nat), (td : Nat), 0, 0⟩) = (⟨#[115, 112, 108, 105, 116]⟩ : ByteArray) ++ (((⟨#[32]⟩ ++ dB fr) ++ ⟨#[32]⟩) ++ dB td) := by
  have e : lineL ⟨5, (fr : Nat), (td : Nat), 0, 0⟩ = [115, 112, 108, 105, 116] ++ [32] ++ Lib.decDigits fr ++ [32] ++ Lib.decDigits td := by
    simp [lineL, lineW, fmOf, fmW, fmF, ruN, Lib.join_cons, Lib.joinTail]
  rw [e]
  simp only [dB, show ∀ l : List UInt8, (⟨l.toArray⟩ : ByteArray) = strB l from fun _ => rfl, strB_app]
  simp
theorem lineB_6 (fr td a : Nat) : strB (lineL ⟨6, (fr : Nat), (td : Nat), (a : Nat), 0⟩) = (((⟨#[115, 116, 97, 114, 118, 101]⟩ : ByteArray) ++ (((⟨#[32]⟩ ++ dB fr) ++ ⟨#[32]⟩) ++ dB td)) ++ ⟨#[32]⟩) ++ dB a := by
  have e : lineL ⟨6, (fr : Nat), (td : Nat), (a : Nat), 0⟩ = [115, 116, 97, 114, 118, 101] ++ [32] ++ Lib.decDigits fr ++ [32] ++ Lib.decDigits td ++ [32] ++ Lib.decDigits a := by
    simp [lineL, lineW, fmOf, fmW, fmF, ruN, Lib.join_cons, Lib.joinTail]
  rw [e]
  simp only [dB, show ∀ l : List UInt8, (⟨l.toArray⟩ : ByteArray) = strB l from fun _ => rfl, strB_app]
  simp
theorem lineB_7 (fr td a b : Nat) : strB (lineL ⟨7, (fr : Nat), (td : Nat), (a : Nat), (b : Nat)⟩) = (((((⟨#[98, 108, 105, 110, 100]⟩ : ByteArray) ++ (((⟨#[32]⟩ ++ dB fr) ++ ⟨#[32]⟩) ++ dB td)) ++ ⟨#[32]⟩) ++ dB a) ++ ⟨#[32]⟩) ++ dB b := by
  have e : lineL ⟨7, (fr : Nat), (td : Nat), (a : Nat), (b : Nat)⟩ = [98, 108, 105, 110, 100] ++ [32] ++ Lib.decDigits fr ++ [32] ++ Lib.decDigits td ++ [32] ++ Lib.decDigits a ++ [32] ++ Lib.decDigits b := by
    simp [lineL, lineW, fmOf, fmW, fmF, ruN, Lib.join_cons, Lib.joinTail]
  rw [e]
  simp only [dB, show ∀ l : List UInt8, (⟨l.toArray⟩ : ByteArray) = strB l from fun _ => rfl, strB_app]
  simp
set_option maxRecDepth 100000 in
set_option maxHeartbeats 3200000 in
theorem rline_0 (a : Nat) (ha : a ≤ 4095) (h : okRu ⟨1, 0, 0, (a : Nat), 0⟩ = true) (w : World) : Calls Tryd.prog 22 #[.agg #[.int .i64 1, .int .i64 0, .int .i64 0, .int .i64 (a : Int), .int .i64 0]] w (SLine ⟨1, 0, 0, (a : Nat), 0⟩ w) := by
  have HT := hide (show lineB ⟨1, 0, 0, (a : Nat), 0⟩ = (⟨#[108, 111, 115, 115, 32]⟩ : ByteArray) ++ dB a by unfold lineB; rw [if_pos h]; exact lineB_0 a)
  have he : ruErr ⟨1, 0, 0, (a : Nat), 0⟩ = 0 := by unfold ruErr; rw [if_pos h]
  have HCK := hide (fun W => (by have q := rcheckRule_c ⟨1, 0, 0, (a : Nat), 0⟩ W; rw [he] at q; exact q : Calls Tryd.prog 24 #[.agg #[.int .i64 1, .int .i64 0, .int .i64 0, .int .i64 (a : Int), .int .i64 0]] W fun e w' => e = .returned (.int .i64 0) ∧ Below W.heap.size W w'))
  have HE := hide he
  have HD := hide (show ∀ (n : Nat), n ≤ 4095 → ∀ W, Calls Tryd.prog 37 #[.int .i64 (n : Int)] W fun e w' => e = .returned (.string (dB n)) ∧ w' = W from fun n hn W => digits_c n (by omega) W)
  have HD0 := hide (show ∀ W, Calls Tryd.prog 37 #[.int .i64 0] W fun e w' => e = .returned (.string (dB 0)) ∧ w' = W from fun W => digits_c 0 (by omega) W)
  have hsa : ((dB a).size : Int) ≤ 5000 := by have := dB_size a; omega
  have hs0 : ((dB 0).size : Int) ≤ 5000 := by have := dB_size 0; omega
  have hO := Blk.newAt w 62 #[.int .i64 1, .int .i64 0, .int .i64 0, .int .i64 (a : Int), .int .i64 0] w.heap.size rfl
  have hb := below_alloc w (.cells #[.int .i64 1, .int .i64 0, .int .i64 0, .int .i64 (a : Int), .int .i64 0] 62)
  clear h he
  go_enter Tryd.func22, Tryd.ntmps22
  go_upto_region 1 with fail
  obtain ⟨W, hW⟩ : ∃ q, q = w.alloc (.cells #[.int .i64 1, .int .i64 0, .int .i64 0, .int .i64 (a : Int), .int .i64 0] 62) := ⟨_, rfl⟩
  rw [← hW] at hO hb ⊢
  obtain ⟨gO, hgO⟩ : ∃ q, q = w.heap.size := ⟨_, rfl⟩
  rw [← hgO] at hO ⊢
  have HGO := hide hgO
  clear hW hgO
  go_upto_region 3 with (first | (refine wl_load (o := ⟨some 5, _, _, _, _, _⟩) rfl 62 _ rfl gO rfl 62 #[.int .i64 1, .int .i64 0, .int .i64 0, .int .i64 (a : Int), .int .i64 0] _ hO Tryd.underlying62 rfl (by kernel_rfl) ?_) | (go_at_call 24; refine (HCK.out _).mono ?_; rintro e w1 ⟨rfl, hb1⟩))
  have hO1 := hO.keep hb1
  have hb2 := below_on hb hb1
  have z0 := hO1.cell 0
  have z1 := hO1.cell 1
  have z2 := hO1.cell 2
  have z3 := hO1.cell 3
  have z4 := hO1.cell 4
  simp only [List.getElem?_toArray, List.getElem?_cons_zero, List.getElem?_cons_succ] at z0 z1 z2 z3 z4
  clear hO hb hb1 HCK
  go_quiet ((go_at_call 37; exact Calls.quiet_of_same (HD0.out _)))
  go_wp2_with ((go_at_call 37; refine (HD.out _ (by omega) _).mono ?_; rintro e w' ⟨rfl, hq⟩; rw [hq]; clear hq))
  go_ret2
  exact ⟨by rw [HT.out, HE.out]; rfl, below_drewN hb2 _⟩
set_option maxRecDepth 100000 in
set_option maxHeartbeats 3200000 in
theorem rline_1 (a : Nat) (ha : a ≤ 4095) (h : okRu ⟨2, 0, 0, (a : Nat), 0⟩ = true) (w : World) : Calls Tryd.prog 22 #[.agg #[.int .i64 2, .int .i64 0, .int .i64 0, .int .i64 (a : Int), .int .i64 0]] w (SLine ⟨2, 0, 0, (a : Nat), 0⟩ w) := by
  have HT := hide (show lineB ⟨2, 0, 0, (a : Nat), 0⟩ = (⟨#[110, 111, 105, 115, 101, 32]⟩ : ByteArray) ++ dB a by unfold lineB; rw [if_pos h]; exact lineB_1 a)
  have he : ruErr ⟨2, 0, 0, (a : Nat), 0⟩ = 0 := by unfold ruErr; rw [if_pos h]
  have HCK := hide (fun W => (by have q := rcheckRule_c ⟨2, 0, 0, (a : Nat), 0⟩ W; rw [he] at q; exact q : Calls Tryd.prog 24 #[.agg #[.int .i64 2, .int .i64 0, .int .i64 0, .int .i64 (a : Int), .int .i64 0]] W fun e w' => e = .returned (.int .i64 0) ∧ Below W.heap.size W w'))
  have HE := hide he
  have HD := hide (show ∀ (n : Nat), n ≤ 4095 → ∀ W, Calls Tryd.prog 37 #[.int .i64 (n : Int)] W fun e w' => e = .returned (.string (dB n)) ∧ w' = W from fun n hn W => digits_c n (by omega) W)
  have HD0 := hide (show ∀ W, Calls Tryd.prog 37 #[.int .i64 0] W fun e w' => e = .returned (.string (dB 0)) ∧ w' = W from fun W => digits_c 0 (by omega) W)
  have hsa : ((dB a).size : Int) ≤ 5000 := by have := dB_size a; omega
  have hs0 : ((dB 0).size : Int) ≤ 5000 := by have := dB_size 0; omega
  have hO := Blk.newAt w 62 #[.int .i64 2, .int .i64 0, .int .i64 0, .int .i64 (a : Int), .int .i64 0] w.heap.size rfl
  have hb := below_alloc w (.cells #[.int .i64 2, .int .i64 0, .int .i64 0, .int .i64 (a : Int), .int .i64 0] 62)
  clear h he
  go_enter Tryd.func22, Tryd.ntmps22
  go_upto_region 1 with fail
  obtain ⟨W, hW⟩ : ∃ q, q = w.alloc (.cells #[.int .i64 2, .int .i64 0, .int .i64 0, .int .i64 (a : Int), .int .i64 0] 62) := ⟨_, rfl⟩
  rw [← hW] at hO hb ⊢
  obtain ⟨gO, hgO⟩ : ∃ q, q = w.heap.size := ⟨_, rfl⟩
  rw [← hgO] at hO ⊢
  have HGO := hide hgO
  clear hW hgO
  go_upto_region 3 with (first | (refine wl_load (o := ⟨some 5, _, _, _, _, _⟩) rfl 62 _ rfl gO rfl 62 #[.int .i64 2, .int .i64 0, .int .i64 0, .int .i64 (a : Int), .int .i64 0] _ hO Tryd.underlying62 rfl (by kernel_rfl) ?_) | (go_at_call 24; refine (HCK.out _).mono ?_; rintro e w1 ⟨rfl, hb1⟩))
  have hO1 := hO.keep hb1
  have hb2 := below_on hb hb1
  have z0 := hO1.cell 0
  have z1 := hO1.cell 1
  have z2 := hO1.cell 2
  have z3 := hO1.cell 3
  have z4 := hO1.cell 4
  simp only [List.getElem?_toArray, List.getElem?_cons_zero, List.getElem?_cons_succ] at z0 z1 z2 z3 z4
  clear hO hb hb1 HCK
  go_quiet ((go_at_call 37; exact Calls.quiet_of_same (HD0.out _)))
  go_wp2_with ((go_at_call 37; refine (HD.out _ (by omega) _).mono ?_; rintro e w' ⟨rfl, hq⟩; rw [hq]; clear hq))
  go_ret2
  exact ⟨by rw [HT.out, HE.out]; rfl, below_drewN hb2 _⟩
set_option maxRecDepth 100000 in
set_option maxHeartbeats 3200000 in
theorem rline_2 (a : Nat) (ha : a ≤ 4095) (h : okRu ⟨3, 0, 0, (a : Nat), 0⟩ = true) (w : World) : Calls Tryd.prog 22 #[.agg #[.int .i64 3, .int .i64 0, .int .i64 0, .int .i64 (a : Int), .int .i64 0]] w (SLine ⟨3, 0, 0, (a : Nat), 0⟩ w) := by
  have HT := hide (show lineB ⟨3, 0, 0, (a : Nat), 0⟩ = (⟨#[108, 97, 116, 101, 32]⟩ : ByteArray) ++ dB a by unfold lineB; rw [if_pos h]; exact lineB_2 a)
  have he : ruErr ⟨3, 0, 0, (a : Nat), 0⟩ = 0 := by unfold ruErr; rw [if_pos h]
  have HCK := hide (fun W => (by have q := rcheckRule_c ⟨3, 0, 0, (a : Nat), 0⟩ W; rw [he] at q; exact q : Calls Tryd.prog 24 #[.agg #[.int .i64 3, .int .i64 0, .int .i64 0, .int .i64 (a : Int), .int .i64 0]] W fun e w' => e = .returned (.int .i64 0) ∧ Below W.heap.size W w'))
  have HE := hide he
  have HD := hide (show ∀ (n : Nat), n ≤ 4095 → ∀ W, Calls Tryd.prog 37 #[.int .i64 (n : Int)] W fun e w' => e = .returned (.string (dB n)) ∧ w' = W from fun n hn W => digits_c n (by omega) W)
  have HD0 := hide (show ∀ W, Calls Tryd.prog 37 #[.int .i64 0] W fun e w' => e = .returned (.string (dB 0)) ∧ w' = W from fun W => digits_c 0 (by omega) W)
  have hsa : ((dB a).size : Int) ≤ 5000 := by have := dB_size a; omega
  have hs0 : ((dB 0).size : Int) ≤ 5000 := by have := dB_size 0; omega
  have hO := Blk.newAt w 62 #[.int .i64 3, .int .i64 0, .int .i64 0, .int .i64 (a : Int), .int .i64 0] w.heap.size rfl
  have hb := below_alloc w (.cells #[.int .i64 3, .int .i64 0, .int .i64 0, .int .i64 (a : Int), .int .i64 0] 62)
  clear h he
  go_enter Tryd.func22, Tryd.ntmps22
  go_upto_region 1 with fail
  obtain ⟨W, hW⟩ : ∃ q, q = w.alloc (.cells #[.int .i64 3, .int .i64 0, .int .i64 0, .int .i64 (a : Int), .int .i64 0] 62) := ⟨_, rfl⟩
  rw [← hW] at hO hb ⊢
  obtain ⟨gO, hgO⟩ : ∃ q, q = w.heap.size := ⟨_, rfl⟩
  rw [← hgO] at hO ⊢
  have HGO := hide hgO
  clear hW hgO
  go_upto_region 3 with (first | (refine wl_load (o := ⟨some 5, _, _, _, _, _⟩) rfl 62 _ rfl gO rfl 62 #[.int .i64 3, .int .i64 0, .int .i64 0, .int .i64 (a : Int), .int .i64 0] _ hO Tryd.underlying62 rfl (by kernel_rfl) ?_) | (go_at_call 24; refine (HCK.out _).mono ?_; rintro e w1 ⟨rfl, hb1⟩))
  have hO1 := hO.keep hb1
  have hb2 := below_on hb hb1
  have z0 := hO1.cell 0
  have z1 := hO1.cell 1
  have z2 := hO1.cell 2
  have z3 := hO1.cell 3
  have z4 := hO1.cell 4
  simp only [List.getElem?_toArray, List.getElem?_cons_zero, List.getElem?_cons_succ] at z0 z1 z2 z3 z4
  clear hO hb hb1 HCK
  go_quiet ((go_at_call 37; exact Calls.quiet_of_same (HD0.out _)))
  go_wp2_with ((go_at_call 37; refine (HD.out _ (by omega) _).mono ?_; rintro e w' ⟨rfl, hq⟩; rw [hq]; clear hq))
  go_ret2
  exact ⟨by rw [HT.out, HE.out]; rfl, below_drewN hb2 _⟩
set_option maxRecDepth 100000 in
set_option maxHeartbeats 3200000 in
theorem rline_3 (a : Nat) (ha : a ≤ 4095) (h : okRu ⟨3, 0, 0, (a : Nat), 1⟩ = true) (w : World) : Calls Tryd.prog 22 #[.agg #[.int .i64 3, .int .i64 0, .int .i64 0, .int .i64 (a : Int), .int .i64 1]] w (SLine ⟨3, 0, 0, (a : Nat), 1⟩ w) := by
  have HT := hide (show lineB ⟨3, 0, 0, (a : Nat), 1⟩ = (⟨#[101, 97, 114, 108, 121, 32]⟩ : ByteArray) ++ dB a by unfold lineB; rw [if_pos h]; exact lineB_3 a)
  have he : ruErr ⟨3, 0, 0, (a : Nat), 1⟩ = 0 := by unfold ruErr; rw [if_pos h]
  have HCK := hide (fun W => (by have q := rcheckRule_c ⟨3, 0, 0, (a : Nat), 1⟩ W; rw [he] at q; exact q : Calls Tryd.prog 24 #[.agg #[.int .i64 3, .int .i64 0, .int .i64 0, .int .i64 (a : Int), .int .i64 1]] W fun e w' => e = .returned (.int .i64 0) ∧ Below W.heap.size W w'))
  have HE := hide he
  have HD := hide (show ∀ (n : Nat), n ≤ 4095 → ∀ W, Calls Tryd.prog 37 #[.int .i64 (n : Int)] W fun e w' => e = .returned (.string (dB n)) ∧ w' = W from fun n hn W => digits_c n (by omega) W)
  have HD0 := hide (show ∀ W, Calls Tryd.prog 37 #[.int .i64 0] W fun e w' => e = .returned (.string (dB 0)) ∧ w' = W from fun W => digits_c 0 (by omega) W)
  have hsa : ((dB a).size : Int) ≤ 5000 := by have := dB_size a; omega
  have hs0 : ((dB 0).size : Int) ≤ 5000 := by have := dB_size 0; omega
  have hO := Blk.newAt w 62 #[.int .i64 3, .int .i64 0, .int .i64 0, .int .i64 (a : Int), .int .i64 1] w.heap.size rfl
  have hb := below_alloc w (.cells #[.int .i64 3, .int .i64 0, .int .i64 0, .int .i64 (a : Int), .int .i64 1] 62)
  clear h he
  go_enter Tryd.func22, Tryd.ntmps22
  go_upto_region 1 with fail
  obtain ⟨W, hW⟩ : ∃ q, q = w.alloc (.cells #[.int .i64 3, .int .i64 0, .int .i64 0, .int .i64 (a : Int), .int .i64 1] 62) := ⟨_, rfl⟩
  rw [← hW] at hO hb ⊢
  obtain ⟨gO, hgO⟩ : ∃ q, q = w.heap.size := ⟨_, rfl⟩
  rw [← hgO] at hO ⊢
  have HGO := hide hgO
  clear hW hgO
  go_upto_region 3 with (first | (refine wl_load (o := ⟨some 5, _, _, _, _, _⟩) rfl 62 _ rfl gO rfl 62 #[.int .i64 3, .int .i64 0, .int .i64 0, .int .i64 (a : Int), .int .i64 1] _ hO Tryd.underlying62 rfl (by kernel_rfl) ?_) | (go_at_call 24; refine (HCK.out _).mono ?_; rintro e w1 ⟨rfl, hb1⟩))
  have hO1 := hO.keep hb1
  have hb2 := below_on hb hb1
  have z0 := hO1.cell 0
  have z1 := hO1.cell 1
  have z2 := hO1.cell 2
  have z3 := hO1.cell 3
  have z4 := hO1.cell 4
  simp only [List.getElem?_toArray, List.getElem?_cons_zero, List.getElem?_cons_succ] at z0 z1 z2 z3 z4
  clear hO hb hb1 HCK
  go_quiet ((go_at_call 37; exact Calls.quiet_of_same (HD0.out _)))
  go_wp2_with ((go_at_call 37; refine (HD.out _ (by omega) _).mono ?_; rintro e w' ⟨rfl, hq⟩; rw [hq]; clear hq))
  go_ret2
  exact ⟨by rw [HT.out, HE.out]; rfl, below_drewN hb2 _⟩
set_option maxRecDepth 100000 in
set_option maxHeartbeats 3200000 in
theorem rline_4 (fr td a : Nat) (hfr : fr ≤ 4095) (htd : td ≤ 4095) (ha : a ≤ 4095) (h : okRu ⟨4, (fr : Nat), (td : Nat), (a : Nat), 0⟩ = true) (w : World) : Calls Tryd.prog 22 #[.agg #[.int .i64 4, .int .i64 (fr : Int), .int .i64 (td : Int), .int .i64 (a : Int), .int .i64 0]] w (SLine ⟨4, (fr : Nat), (td : Nat), (a : Nat), 0⟩ w) := by
  have HT := hide (show lineB ⟨4, (fr : Nat), (td : Nat), (a : Nat), 0⟩ = (((⟨#[114, 101, 115, 101, 110, 100]⟩ : ByteArray) ++ (((⟨#[32]⟩ ++ dB fr) ++ ⟨#[32]⟩) ++ dB td)) ++ ⟨#[32]⟩) ++ dB a by unfold lineB; rw [if_pos h]; exact lineB_4 fr td a)
  have he : ruErr ⟨4, (fr : Nat), (td : Nat), (a : Nat), 0⟩ = 0 := by unfold ruErr; rw [if_pos h]
  have HCK := hide (fun W => (by have q := rcheckRule_c ⟨4, (fr : Nat), (td : Nat), (a : Nat), 0⟩ W; rw [he] at q; exact q : Calls Tryd.prog 24 #[.agg #[.int .i64 4, .int .i64 (fr : Int), .int .i64 (td : Int), .int .i64 (a : Int), .int .i64 0]] W fun e w' => e = .returned (.int .i64 0) ∧ Below W.heap.size W w'))
  have HE := hide he
  have HD := hide (show ∀ (n : Nat), n ≤ 4095 → ∀ W, Calls Tryd.prog 37 #[.int .i64 (n : Int)] W fun e w' => e = .returned (.string (dB n)) ∧ w' = W from fun n hn W => digits_c n (by omega) W)
  have HD0 := hide (show ∀ W, Calls Tryd.prog 37 #[.int .i64 0] W fun e w' => e = .returned (.string (dB 0)) ∧ w' = W from fun W => digits_c 0 (by omega) W)
  have hsfr : ((dB fr).size : Int) ≤ 5000 := by have := dB_size fr; omega
  have hstd : ((dB td).size : Int) ≤ 5000 := by have := dB_size td; omega
  have hsa : ((dB a).size : Int) ≤ 5000 := by have := dB_size a; omega
  have hs0 : ((dB 0).size : Int) ≤ 5000 := by have := dB_size 0; omega
  have hO := Blk.newAt w 62 #[.int .i64 4, .int .i64 (fr : Int), .int .i64 (td : Int), .int .i64 (a : Int), .int .i64 0] w.heap.size rfl
  have hb := below_alloc w (.cells #[.int .i64 4, .int .i64 (fr : Int), .int .i64 (td : Int), .int .i64 (a : Int), .int .i64 0] 62)
  clear h he
  go_enter Tryd.func22, Tryd.ntmps22
  go_upto_region 1 with fail
  obtain ⟨W, hW⟩ : ∃ q, q = w.alloc (.cells #[.int .i64 4, .int .i64 (fr : Int), .int .i64 (td : Int), .int .i64 (a : Int), .int .i64 0] 62) := ⟨_, rfl⟩
  rw [← hW] at hO hb ⊢
  obtain ⟨gO, hgO⟩ : ∃ q, q = w.heap.size := ⟨_, rfl⟩
  rw [← hgO] at hO ⊢
  have HGO := hide hgO
  clear hW hgO
  go_upto_region 3 with (first | (refine wl_load (o := ⟨some 5, _, _, _, _, _⟩) rfl 62 _ rfl gO rfl 62 #[.int .i64 4, .int .i64 (fr : Int), .int .i64 (td : Int), .int .i64 (a : Int), .int .i64 0] _ hO Tryd.underlying62 rfl (by kernel_rfl) ?_) | (go_at_call 24; refine (HCK.out _).mono ?_; rintro e w1 ⟨rfl, hb1⟩))
  have hO1 := hO.keep hb1
  have hb2 := below_on hb hb1
  have z0 := hO1.cell 0
  have z1 := hO1.cell 1
  have z2 := hO1.cell 2
  have z3 := hO1.cell 3
  have z4 := hO1.cell 4
  simp only [List.getElem?_toArray, List.getElem?_cons_zero, List.getElem?_cons_succ] at z0 z1 z2 z3 z4
  clear hO hb hb1 HCK
  go_quiet ((go_at_call 37; exact Calls.quiet_of_same (HD.out _ (by omega) _)))
  go_wp2_with ((go_at_call 37; refine (HD.out _ (by omega) _).mono ?_; rintro e w' ⟨rfl, hq⟩; rw [hq]; clear hq))
  go_ret2
  exact ⟨by rw [HT.out, HE.out]; rfl, below_drewN hb2 _⟩
set_option maxRecDepth 100000 in
set_option maxHeartbeats 3200000 in
theorem rline_5 (fr td : Nat) (hfr : fr ≤ 4095) (htd : td ≤ 4095) (h : okRu ⟨5, (fr : Nat), (td : Nat), 0, 0⟩ = true) (w : World) : Calls Tryd.prog 22 #[.agg #[.int .i64 5, .int .i64 (fr : Int), .int .i64 (td : Int), .int .i64 0, .int .i64 0]] w (SLine ⟨5, (fr : Nat), (td : Nat), 0, 0⟩ w) := by
  have HT := hide (show lineB ⟨5, (fr : Nat), (td : Nat), 0, 0⟩ = (⟨#[115, 112, 108, 105, 116]⟩ : ByteArray) ++ (((⟨#[32]⟩ ++ dB fr) ++ ⟨#[32]⟩) ++ dB td) by unfold lineB; rw [if_pos h]; exact lineB_5 fr td)
  have he : ruErr ⟨5, (fr : Nat), (td : Nat), 0, 0⟩ = 0 := by unfold ruErr; rw [if_pos h]
  have HCK := hide (fun W => (by have q := rcheckRule_c ⟨5, (fr : Nat), (td : Nat), 0, 0⟩ W; rw [he] at q; exact q : Calls Tryd.prog 24 #[.agg #[.int .i64 5, .int .i64 (fr : Int), .int .i64 (td : Int), .int .i64 0, .int .i64 0]] W fun e w' => e = .returned (.int .i64 0) ∧ Below W.heap.size W w'))
  have HE := hide he
  have HD := hide (show ∀ (n : Nat), n ≤ 4095 → ∀ W, Calls Tryd.prog 37 #[.int .i64 (n : Int)] W fun e w' => e = .returned (.string (dB n)) ∧ w' = W from fun n hn W => digits_c n (by omega) W)
  have HD0 := hide (show ∀ W, Calls Tryd.prog 37 #[.int .i64 0] W fun e w' => e = .returned (.string (dB 0)) ∧ w' = W from fun W => digits_c 0 (by omega) W)
  have hsfr : ((dB fr).size : Int) ≤ 5000 := by have := dB_size fr; omega
  have hstd : ((dB td).size : Int) ≤ 5000 := by have := dB_size td; omega
  have hs0 : ((dB 0).size : Int) ≤ 5000 := by have := dB_size 0; omega
  have hO := Blk.newAt w 62 #[.int .i64 5, .int .i64 (fr : Int), .int .i64 (td : Int), .int .i64 0, .int .i64 0] w.heap.size rfl
  have hb := below_alloc w (.cells #[.int .i64 5, .int .i64 (fr : Int), .int .i64 (td : Int), .int .i64 0, .int .i64 0] 62)
  clear h he
  go_enter Tryd.func22, Tryd.ntmps22
  go_upto_region 1 with fail
  obtain ⟨W, hW⟩ : ∃ q, q = w.alloc (.cells #[.int .i64 5, .int .i64 (fr : Int), .int .i64 (td : Int), .int .i64 0, .int .i64 0] 62) := ⟨_, rfl⟩
  rw [← hW] at hO hb ⊢
  obtain ⟨gO, hgO⟩ : ∃ q, q = w.heap.size := ⟨_, rfl⟩
  rw [← hgO] at hO ⊢
  have HGO := hide hgO
  clear hW hgO
  go_upto_region 3 with (first | (refine wl_load (o := ⟨some 5, _, _, _, _, _⟩) rfl 62 _ rfl gO rfl 62 #[.int .i64 5, .int .i64 (fr : Int), .int .i64 (td : Int), .int .i64 0, .int .i64 0] _ hO Tryd.underlying62 rfl (by kernel_rfl) ?_) | (go_at_call 24; refine (HCK.out _).mono ?_; rintro e w1 ⟨rfl, hb1⟩))
  have hO1 := hO.keep hb1
  have hb2 := below_on hb hb1
  have z0 := hO1.cell 0
  have z1 := hO1.cell 1
  have z2 := hO1.cell 2
  have z3 := hO1.cell 3
  have z4 := hO1.cell 4
  simp only [List.getElem?_toArray, List.getElem?_cons_zero, List.getElem?_cons_succ] at z0 z1 z2 z3 z4
  clear hO hb hb1 HCK
  go_quiet ((go_at_call 37; exact Calls.quiet_of_same (HD.out _ (by omega) _)))
  go_wp2
  go_ret2
  exact ⟨by rw [HT.out, HE.out]; rfl, below_drewN hb2 _⟩
set_option maxRecDepth 100000 in
set_option maxHeartbeats 3200000 in
theorem rline_6 (fr td a : Nat) (hfr : fr ≤ 4095) (htd : td ≤ 4095) (ha : a ≤ 4095) (h : okRu ⟨6, (fr : Nat), (td : Nat), (a : Nat), 0⟩ = true) (w : World) : Calls Tryd.prog 22 #[.agg #[.int .i64 6, .int .i64 (fr : Int), .int .i64 (td : Int), .int .i64 (a : Int), .int .i64 0]] w (SLine ⟨6, (fr : Nat), (td : Nat), (a : Nat), 0⟩ w) := by
  have HT := hide (show lineB ⟨6, (fr : Nat), (td : Nat), (a : Nat), 0⟩ = (((⟨#[115, 116, 97, 114, 118, 101]⟩ : ByteArray) ++ (((⟨#[32]⟩ ++ dB fr) ++ ⟨#[32]⟩) ++ dB td)) ++ ⟨#[32]⟩) ++ dB a by unfold lineB; rw [if_pos h]; exact lineB_6 fr td a)
  have he : ruErr ⟨6, (fr : Nat), (td : Nat), (a : Nat), 0⟩ = 0 := by unfold ruErr; rw [if_pos h]
  have HCK := hide (fun W => (by have q := rcheckRule_c ⟨6, (fr : Nat), (td : Nat), (a : Nat), 0⟩ W; rw [he] at q; exact q : Calls Tryd.prog 24 #[.agg #[.int .i64 6, .int .i64 (fr : Int), .int .i64 (td : Int), .int .i64 (a : Int), .int .i64 0]] W fun e w' => e = .returned (.int .i64 0) ∧ Below W.heap.size W w'))
  have HE := hide he
  have HD := hide (show ∀ (n : Nat), n ≤ 4095 → ∀ W, Calls Tryd.prog 37 #[.int .i64 (n : Int)] W fun e w' => e = .returned (.string (dB n)) ∧ w' = W from fun n hn W => digits_c n (by omega) W)
  have HD0 := hide (show ∀ W, Calls Tryd.prog 37 #[.int .i64 0] W fun e w' => e = .returned (.string (dB 0)) ∧ w' = W from fun W => digits_c 0 (by omega) W)
  have hsfr : ((dB fr).size : Int) ≤ 5000 := by have := dB_size fr; omega
  have hstd : ((dB td).size : Int) ≤ 5000 := by have := dB_size td; omega
  have hsa : ((dB a).size : Int) ≤ 5000 := by have := dB_size a; omega
  have hs0 : ((dB 0).size : Int) ≤ 5000 := by have := dB_size 0; omega
  have hO := Blk.newAt w 62 #[.int .i64 6, .int .i64 (fr : Int), .int .i64 (td : Int), .int .i64 (a : Int), .int .i64 0] w.heap.size rfl
  have hb := below_alloc w (.cells #[.int .i64 6, .int .i64 (fr : Int), .int .i64 (td : Int), .int .i64 (a : Int), .int .i64 0] 62)
  clear h he
  go_enter Tryd.func22, Tryd.ntmps22
  go_upto_region 1 with fail
  obtain ⟨W, hW⟩ : ∃ q, q = w.alloc (.cells #[.int .i64 6, .int .i64 (fr : Int), .int .i64 (td : Int), .int .i64 (a : Int), .int .i64 0] 62) := ⟨_, rfl⟩
  rw [← hW] at hO hb ⊢
  obtain ⟨gO, hgO⟩ : ∃ q, q = w.heap.size := ⟨_, rfl⟩
  rw [← hgO] at hO ⊢
  have HGO := hide hgO
  clear hW hgO
  go_upto_region 3 with (first | (refine wl_load (o := ⟨some 5, _, _, _, _, _⟩) rfl 62 _ rfl gO rfl 62 #[.int .i64 6, .int .i64 (fr : Int), .int .i64 (td : Int), .int .i64 (a : Int), .int .i64 0] _ hO Tryd.underlying62 rfl (by kernel_rfl) ?_) | (go_at_call 24; refine (HCK.out _).mono ?_; rintro e w1 ⟨rfl, hb1⟩))
  have hO1 := hO.keep hb1
  have hb2 := below_on hb hb1
  have z0 := hO1.cell 0
  have z1 := hO1.cell 1
  have z2 := hO1.cell 2
  have z3 := hO1.cell 3
  have z4 := hO1.cell 4
  simp only [List.getElem?_toArray, List.getElem?_cons_zero, List.getElem?_cons_succ] at z0 z1 z2 z3 z4
  clear hO hb hb1 HCK
  go_quiet ((go_at_call 37; exact Calls.quiet_of_same (HD.out _ (by omega) _)))
  go_wp2_with ((go_at_call 37; refine (HD.out _ (by omega) _).mono ?_; rintro e w' ⟨rfl, hq⟩; rw [hq]; clear hq))
  go_ret2
  exact ⟨by rw [HT.out, HE.out]; rfl, below_drewN hb2 _⟩
set_option maxRecDepth 100000 in
set_option maxHeartbeats 3200000 in
theorem rline_7 (fr td a b : Nat) (hfr : fr ≤ 4095) (htd : td ≤ 4095) (ha : a ≤ 4095) (hb : b ≤ 4095) (h : okRu ⟨7, (fr : Nat), (td : Nat), (a : Nat), (b : Nat)⟩ = true) (w : World) : Calls Tryd.prog 22 #[.agg #[.int .i64 7, .int .i64 (fr : Int), .int .i64 (td : Int), .int .i64 (a : Int), .int .i64 (b : Int)]] w (SLine ⟨7, (fr : Nat), (td : Nat), (a : Nat), (b : Nat)⟩ w) := by
  have HT := hide (show lineB ⟨7, (fr : Nat), (td : Nat), (a : Nat), (b : Nat)⟩ = (((((⟨#[98, 108, 105, 110, 100]⟩ : ByteArray) ++ (((⟨#[32]⟩ ++ dB fr) ++ ⟨#[32]⟩) ++ dB td)) ++ ⟨#[32]⟩) ++ dB a) ++ ⟨#[32]⟩) ++ dB b by unfold lineB; rw [if_pos h]; exact lineB_7 fr td a b)
  have he : ruErr ⟨7, (fr : Nat), (td : Nat), (a : Nat), (b : Nat)⟩ = 0 := by unfold ruErr; rw [if_pos h]
  have HCK := hide (fun W => (by have q := rcheckRule_c ⟨7, (fr : Nat), (td : Nat), (a : Nat), (b : Nat)⟩ W; rw [he] at q; exact q : Calls Tryd.prog 24 #[.agg #[.int .i64 7, .int .i64 (fr : Int), .int .i64 (td : Int), .int .i64 (a : Int), .int .i64 (b : Int)]] W fun e w' => e = .returned (.int .i64 0) ∧ Below W.heap.size W w'))
  have HE := hide he
  have HD := hide (show ∀ (n : Nat), n ≤ 4095 → ∀ W, Calls Tryd.prog 37 #[.int .i64 (n : Int)] W fun e w' => e = .returned (.string (dB n)) ∧ w' = W from fun n hn W => digits_c n (by omega) W)
  have HD0 := hide (show ∀ W, Calls Tryd.prog 37 #[.int .i64 0] W fun e w' => e = .returned (.string (dB 0)) ∧ w' = W from fun W => digits_c 0 (by omega) W)
  have hsfr : ((dB fr).size : Int) ≤ 5000 := by have := dB_size fr; omega
  have hstd : ((dB td).size : Int) ≤ 5000 := by have := dB_size td; omega
  have hsa : ((dB a).size : Int) ≤ 5000 := by have := dB_size a; omega
  have hsb : ((dB b).size : Int) ≤ 5000 := by have := dB_size b; omega
  have hs0 : ((dB 0).size : Int) ≤ 5000 := by have := dB_size 0; omega
  have hO := Blk.newAt w 62 #[.int .i64 7, .int .i64 (fr : Int), .int .i64 (td : Int), .int .i64 (a : Int), .int .i64 (b : Int)] w.heap.size rfl
  have hb := below_alloc w (.cells #[.int .i64 7, .int .i64 (fr : Int), .int .i64 (td : Int), .int .i64 (a : Int), .int .i64 (b : Int)] 62)
  clear h he
  go_enter Tryd.func22, Tryd.ntmps22
  go_upto_region 1 with fail
  obtain ⟨W, hW⟩ : ∃ q, q = w.alloc (.cells #[.int .i64 7, .int .i64 (fr : Int), .int .i64 (td : Int), .int .i64 (a : Int), .int .i64 (b : Int)] 62) := ⟨_, rfl⟩
  rw [← hW] at hO hb ⊢
  obtain ⟨gO, hgO⟩ : ∃ q, q = w.heap.size := ⟨_, rfl⟩
  rw [← hgO] at hO ⊢
  have HGO := hide hgO
  clear hW hgO
  go_upto_region 3 with (first | (refine wl_load (o := ⟨some 5, _, _, _, _, _⟩) rfl 62 _ rfl gO rfl 62 #[.int .i64 7, .int .i64 (fr : Int), .int .i64 (td : Int), .int .i64 (a : Int), .int .i64 (b : Int)] _ hO Tryd.underlying62 rfl (by kernel_rfl) ?_) | (go_at_call 24; refine (HCK.out _).mono ?_; rintro e w1 ⟨rfl, hb1⟩))
  have hO1 := hO.keep hb1
  have hb2 := below_on hb hb1
  have z0 := hO1.cell 0
  have z1 := hO1.cell 1
  have z2 := hO1.cell 2
  have z3 := hO1.cell 3
  have z4 := hO1.cell 4
  simp only [List.getElem?_toArray, List.getElem?_cons_zero, List.getElem?_cons_succ] at z0 z1 z2 z3 z4
  clear hO hb hb1 HCK
  go_quiet ((go_at_call 37; exact Calls.quiet_of_same (HD.out _ (by omega) _)))
  obtain ⟨w6, hw6⟩ : ∃ q, q = w1.drewN nq := ⟨_, rfl⟩
  have hO6 : Blk w6 gO 62 #[.int .i64 7, .int .i64 (fr : Int), .int .i64 (td : Int), .int .i64 (a : Int), .int .i64 (b : Int)] := by rw [hw6]; exact hO1.drewN _
  have hb6 : Below w.heap.size w w6 := by rw [hw6]; exact below_drewN hb2 _
  rw [← hw6]
  clear hw6 z0 z1 z2 z3 z4 hO1
  have z0 := hO6.cell 0
  have z3 := hO6.cell 3
  have z4 := hO6.cell 4
  simp only [List.getElem?_toArray, List.getElem?_cons_zero, List.getElem?_cons_succ] at z0 z3 z4
  obtain ⟨T4, hT4⟩ : ∃ q, q = ((((⟨#[32]⟩ : ByteArray) ++ dB fr) ++ ⟨#[32]⟩) ++ dB td) := ⟨_, rfl⟩
  rw [← hT4] at HT ⊢
  have hT4s : (T4.size : Int) ≤ 20000 := by rw [hT4]; simp only [ByteArray.size_append]; have : (⟨#[32]⟩ : ByteArray).size = 1 := rfl; omega
  clear hT4
  go_upto_region 19 with fail
  go_quiet ((go_at_call 37; exact Calls.quiet_of_same (HD.out _ (by omega) _)))
  go_wp2
  go_ret2
  exact ⟨by rw [HT.out, HE.out]; rfl, below_drewN hb6 _⟩
set_option maxRecDepth 100000 in
set_option maxHeartbeats 3200000 in
theorem rline_bad (k fr td a b : Int) (h : okRu ⟨k, fr, td, a, b⟩ = false) (w : World) : Calls Tryd.prog 22 #[.agg #[.int .i64 k, .int .i64 fr, .int .i64 td, .int .i64 a, .int .i64 b]] w (SLine ⟨k, fr, td, a, b⟩ w) := by
  have HT := hide (show lineB ⟨k, fr, td, a, b⟩ = ByteArray.empty by unfold lineB; rw [h]; rfl)
  have he : ruErr ⟨k, fr, td, a, b⟩ = 2 := by unfold ruErr; rw [h]; rfl
  have HCK := hide (fun W => (by have q := rcheckRule_c ⟨k, fr, td, a, b⟩ W; rw [he] at q; exact q : Calls Tryd.prog 24 #[.agg #[.int .i64 k, .int .i64 fr, .int .i64 td, .int .i64 a, .int .i64 b]] W fun e w' => e = .returned (.int .i64 2) ∧ Below W.heap.size W w'))
  have HE := hide he
  have hO := Blk.newAt w 62 #[.int .i64 k, .int .i64 fr, .int .i64 td, .int .i64 a, .int .i64 b] w.heap.size rfl
  have hb := below_alloc w (.cells #[.int .i64 k, .int .i64 fr, .int .i64 td, .int .i64 a, .int .i64 b] 62)
  clear h he
  go_enter Tryd.func22, Tryd.ntmps22
  go_upto_region 1 with fail
  obtain ⟨W, hW⟩ : ∃ q, q = w.alloc (.cells #[.int .i64 k, .int .i64 fr, .int .i64 td, .int .i64 a, .int .i64 b] 62) := ⟨_, rfl⟩
  rw [← hW] at hO hb ⊢
  obtain ⟨gO, hgO⟩ : ∃ q, q = w.heap.size := ⟨_, rfl⟩
  rw [← hgO] at hO ⊢
  have HGO := hide hgO
  clear hW hgO
  go_wp2_with (first | (refine wl_load (o := ⟨some 5, _, _, _, _, _⟩) rfl 62 _ rfl gO rfl 62 #[.int .i64 k, .int .i64 fr, .int .i64 td, .int .i64 a, .int .i64 b] _ hO Tryd.underlying62 rfl (by kernel_rfl) ?_) | (go_at_call 24; refine (HCK.out _).mono ?_; rintro e w1 ⟨rfl, hb1⟩))
  go_ret2
  exact ⟨by rw [HT.out, HE.out]; rfl, below_on hb hb1⟩
theorem rline_c (r : Ru) (w : World) : Calls Tryd.prog 22 #[.agg #[.int .i64 r.k, .int .i64 r.fr, .int .i64 r.to, .int .i64 r.a, .int .i64 r.b]] w (SLine r w) := by
  obtain ⟨k, fr, td, a, b⟩ := r
  cases h : okRu ⟨k, fr, td, a, b⟩
  · exact rline_bad k fr td a b h w
  · obtain ⟨h1, h2, h3⟩ := okRu_form h
    have hk := okRu_kind h
    simp only at hk
    have n1 : 0 ≤ fr ∧ fr ≤ 4095 := by
      by_cases hm : 1 ∈ fmF (fmOf ⟨k, fr, td, a, b⟩)
      · exact h2 1 hm
      · have q := h3 1 (by omega) (by omega) hm; simp [ruN] at q; omega
    have n2 : 0 ≤ td ∧ td ≤ 4095 := by
      by_cases hm : 2 ∈ fmF (fmOf ⟨k, fr, td, a, b⟩)
      · exact h2 2 hm
      · have q := h3 2 (by omega) (by omega) hm; simp [ruN] at q; omega
    have n3 : 0 ≤ a ∧ a ≤ 4095 := by
      by_cases hm : 3 ∈ fmF (fmOf ⟨k, fr, td, a, b⟩)
      · exact h2 3 hm
      · have q := h3 3 (by omega) (by omega) hm; simp [ruN] at q; omega
    have n4 : 0 ≤ b ∧ b ≤ 4095 := by
      by_cases hm : 4 ∈ fmF (fmOf ⟨k, fr, td, a, b⟩)
      · exact h2 4 hm
      · have q := h3 4 (by omega) (by omega) hm; simp [ruN] at q; unfold fmB at q; split at q <;> omega
    obtain ⟨fr, rfl⟩ := Int.eq_ofNat_of_zero_le n1.1
    obtain ⟨td, rfl⟩ := Int.eq_ofNat_of_zero_le n2.1
    obtain ⟨a, rfl⟩ := Int.eq_ofNat_of_zero_le n3.1
    obtain ⟨b, rfl⟩ := Int.eq_ofNat_of_zero_le n4.1
    have hc : k = 1 ∨ k = 2 ∨ k = 3 ∨ k = 4 ∨ k = 5 ∨ k = 6 ∨ k = 7 := by omega
    rcases hc with rfl | rfl | rfl | rfl | rfl | rfl | rfl
    · obtain ⟨rfl, rfl, rfl⟩ : fr = 0 ∧ td = 0 ∧ b = 0 := by have q := h; simp [okRu] at q; omega
      exact rline_0 a (by omega) h w
    · obtain ⟨rfl, rfl, rfl⟩ : fr = 0 ∧ td = 0 ∧ b = 0 := by have q := h; simp [okRu] at q; omega
      exact rline_1 a (by omega) h w
    · obtain ⟨rfl, rfl, hb⟩ : fr = 0 ∧ td = 0 ∧ (b = 0 ∨ b = 1) := by have q := h; simp [okRu] at q; omega
      rcases hb with rfl | rfl
      · exact rline_2 a (by omega) h w
      · exact rline_3 a (by omega) h w
    · obtain rfl : b = 0 := by have q := h; simp [okRu] at q; omega
      exact rline_4 fr td a (by omega) (by omega) (by omega) h w
    · obtain ⟨rfl, rfl⟩ : a = 0 ∧ b = 0 := by have q := h; simp [okRu] at q; omega
      exact rline_5 fr td (by omega) (by omega) h w
    · obtain rfl : b = 0 := by have q := h; simp [okRu] at q; omega
      exact rline_6 fr td a (by omega) (by omega) (by omega) h w
    · exact rline_7 fr td a b (by omega) (by omega) (by omega) (by omega) h w
end Go.Proofs.YthdidjnhfkeokaaDoor
