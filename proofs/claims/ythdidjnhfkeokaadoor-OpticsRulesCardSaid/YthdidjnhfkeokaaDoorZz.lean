/- The walk of the law OpticsRules. -/
import Derived.Test.YthdidjnhfkeokaaDoorZy
import Derived.Test.YthdidjnhfkeokaaDoorZv
import Derived.Test.YthdidjnhfkeokaaDoorVt
import Derived.Test.YthdidjnhfkeokaaDoorQl
import Derived.Deep.MidRow
namespace Go.Proofs.YthdidjnhfkeokaaDoor
open Go.RowKit

theorem dig_len4 {n : Int} (h0 : 0 ≤ n) (h : n ≤ 4095) : (Lib.decDigits n.toNat).length ≤ 4 := digits4 (by omega)
theorem lnB_len2 {r : Ru} (h : okRu r = true) : ∀ i, i ≤ (fmF (fmOf r)).length → (lnB r i).size ≤ 10 + 5 * i
  | 0, _ => by rw [lnB_zero, strB_size]; have := fmW_len (fmOf r); omega
  | i + 1, hi => by
    have ih := lnB_len2 h i (by omega)
    have hc : (fmF (fmOf r))[i]? = some (fmF (fmOf r))[i] := List.getElem?_eq_getElem (by omega)
    have hb := (okRu_form h).2.1 _ (List.getElem_mem (show i < (fmF (fmOf r)).length by omega))
    rw [lnB_step hc]
    simp only [ByteArray.size_append, strB_size]
    have h1 := dig_len4 hb.1 hb.2
    have h2 : (⟨#[32]⟩ : ByteArray).size = 1 := rfl
    omega
theorem scriptL_len2 : ∀ {L : List Ru}, L.all okRu = true → (scriptL L).length ≤ L.length * 60
  | [], _ => by simp [scriptL]
  | r :: L, h => by
    simp only [List.all_cons, Bool.and_eq_true] at h
    have ih := scriptL_len2 (L := L) h.2
    have h1 := lnB_len2 h.1 _ (Nat.le_refl _)
    rw [lnB_end, strB_size] at h1
    have h2 := (fmF_len (j := fmOf r)).2
    have e : scriptL (r :: L) = (lineL r ++ [10]) ++ scriptL L := by unfold scriptL; simp
    rw [e]
    simp only [List.length_append, List.length_cons, List.length_nil]
    omega
theorem yieldsIf_indexAddrN {P : Program} {ops : Array Oper} {S : World → Prop} {op : Oper} {a : Act} (hw : Region.wanted op (yielded ops a.tmps) = true) (ty : TypeId) (x y : Operand) (ho : op.op = .indexAddr ty x y)
    (e : TypeId) (hu : P.underlying ty = some (.slice e)) (k : Nat) (hc : ∀ w, (Go.sizeOf e).run P w = .ok k w) (b off m c i : Nat) (z : Int) (hx : a.eval x = .slice (some ⟨b, off, none⟩) m c) (hy : a.eval y = .int .i64 z) (hz : z = (i : Int)) (hi : i < m) : YieldsIf P ops S op (.pointer (some ⟨b, off + i * k, none⟩)) a :=
  .inl ⟨hw, fun w hw' => by
    subst hz
    unfold execOp
    simp only [ho, hx, hy]
    simp [Instr.indexAt, asIntOf, run_underlying hu, hc, hi, Addr.add]⟩
theorem ru_range {W : World} {b off n c i : Nat} {L : List Ru} {x : Ru} (h : Rd eRu W W.heap.size (some ⟨b, off, none⟩) n c L) (hx : L[i]? = some x) : W.rangeAt b (off + i * 5) [.int .i64 x.k, .int .i64 x.fr, .int .i64 x.to, .int .i64 x.a, .int .i64 x.b] := by
  have hi : i < n := by rw [← h.len]; exact (List.getElem?_eq_some_iff.1 hx).1
  obtain ⟨b9, o9, y, e, _, hy, hc⟩ := h.get hi
  injection e with e
  injection e with e1 e2
  subst e1
  subst e2
  rw [hx] at hy
  obtain rfl := Option.some.inj hy
  exact fun j v hv => hc j v hv

set_option linter.unusedSimpArgs false in
set_option maxRecDepth 100000 in
set_option maxHeartbeats 6400000 in
theorem orules_law (A : Option Addr) (n c : Nat) (L : List Ru) (w : World) (r : Rd eRu w w.heap.size A n c L) (ht : Tab w) (hm : Mx w) :
    Calls Tryd.prog 7 #[.slice A n c] w fun e w' => e = .returned (.bool true) ∧ Below w.heap.size w w' := by
  have hmx := r.max
  have hcap := r.cap
  by_cases hlong : 100 < n
  · have hl : (100 : Int) < (n : Int) := by omega
    have HW := hide (works_c w ht)
    clear ht hm
    go_enter Tryd.func7, Tryd.ntmps7
    go_wp2_with (go_at_call 12; refine HW.out.mono ?_; rintro e w1 ⟨rfl, hb1⟩)
    go_ret
    exact ⟨rfl, hb1⟩
  · have hl : ¬ (100 : Int) < (n : Int) := by omega
    have HT := hide ht
    have HM := hide hm
    clear ht hm hlong
    go_enter Tryd.func7, Tryd.ntmps7
    go_wp2
    go_loopw [3] (fun iv wr => ∃ i : Nat, i ≤ n ∧ iv = .int .i64 i ∧ Below w.heap.size w wr) (fun iv _ => n - (intOf iv).toNat)
    case atStart => exact ⟨0, Nat.zero_le _, rfl, Below.refl _ _⟩
    case round =>
      obtain ⟨i, hi, rfl, hbw⟩ := hrel
      have hr := r.on hbw
      by_cases hlt : i < n
      · obtain ⟨b0, off, x, rfl, hb, hx, hc⟩ := hr.get hlt
        have c0 := hc 0 _ rfl
        have c1 := hc 1 _ rfl
        have c2 := hc 2 _ rfl
        have c3 := hc 3 _ rfl
        have c4 := hc 4 _ rfl
        simp only [eRu, Nat.add_zero] at c0 c1 c2 c3 c4
        have HX := hide hx
        obtain ⟨T, hT⟩ : ∃ q, q = lineB x := ⟨_, rfl⟩
        obtain ⟨re, hre⟩ : ∃ q, q = ruErr x := ⟨_, rfl⟩
        have HL1 := hide (show Calls Tryd.prog 21 #[.agg #[.int .i64 x.k, .int .i64 x.fr, .int .i64 x.to, .int .i64 x.a, .int .i64 x.b]] wr fun e w' => e = .returned (.tuple #[.string T, .int .i64 re]) ∧ Below wr.heap.size wr w' by rw [hT, hre]; exact oline_c x wr (HT.out.on hbw))
        have HL2 := hide (show ∀ W, Calls Tryd.prog 22 #[.agg #[.int .i64 x.k, .int .i64 x.fr, .int .i64 x.to, .int .i64 x.a, .int .i64 x.b]] W fun e w' => e = .returned (.tuple #[.string T, .int .i64 re]) ∧ Below W.heap.size W w' from fun W => by rw [hT, hre]; exact rline_c x W)
        have HC1 := hide (show ∀ W, Calls Tryd.prog 23 #[.agg #[.int .i64 x.k, .int .i64 x.fr, .int .i64 x.to, .int .i64 x.a, .int .i64 x.b]] W fun e w' => e = .returned (.int .i64 re) ∧ Below W.heap.size W w' from fun W => by rw [hre]; exact checkRule_c x W)
        have HC2 := hide (show ∀ W, Calls Tryd.prog 24 #[.agg #[.int .i64 x.k, .int .i64 x.fr, .int .i64 x.to, .int .i64 x.a, .int .i64 x.b]] W fun e w' => e = .returned (.int .i64 re) ∧ Below W.heap.size W w' from fun W => by rw [hre]; exact rcheckRule_c x W)
        clear hT hre hx hc hb
        go_upto_region 7 with (go_at_call 21; refine HL1.out.mono ?_; rintro e w5 ⟨rfl, hb5⟩)
        have hr5 := hr.on hb5
        have hbw5 := below_on hbw hb5
        clear c0 c1 c2 c3 c4 hr hbw hb5 HL1
        have hc := ru_range hr5 HX.out
        have c0 := hc 0 _ rfl
        have c1 := hc 1 _ rfl
        have c2 := hc 2 _ rfl
        have c3 := hc 3 _ rfl
        have c4 := hc 4 _ rfl
        simp only [Nat.add_zero] at c0 c1 c2 c3 c4
        clear hc
        go_upto_region 8 with (go_at_call 22; refine (HL2.out w5).mono ?_; rintro e w7 ⟨rfl, hb7⟩)
        have hr := hr5.on hb7
        have hbw := below_on hbw5 hb7
        clear c0 c1 c2 c3 c4 hr5 hbw5 hb7 HL2
        refine wp_region_held_drew (S := fun W => Rd eRu W W.heap.size (some ⟨b0, off, none⟩) n c L) (by kernel_rfl) (hr.on (Below.refl _ _).drew) (fun hHeld => ?_)
        have hbd := below_on hbw (Below.refl _ w7).drew
        obtain ⟨V0, hV0⟩ : ∃ q, q = w7.drew := ⟨_, rfl⟩
        rw [← hV0] at hHeld hbd ⊢
        clear hV0 hr hbw
        refine wpAnyH_take (i := 0) (v := .slice (some ⟨b0, off, none⟩) n c) rfl (by kernel_rfl) (by kernel_rfl) (by kernel_rfl) (fun _ _ _ h => h) (yieldsIf_move (by rfl) _ (Or.inl rfl) _ rfl) hHeld ?_
        try simp only [Act.put, List.getElem_toArray, List.getElem_cons_succ, List.getElem_cons_zero, List.setIfInBounds_toArray, List.set_cons_zero, List.set_cons_succ]
        refine wpAnyH_take (i := 1) (v := .int .i64 (i : Int)) rfl (by kernel_rfl) (by kernel_rfl) (by kernel_rfl) (fun _ _ _ h => h) (yieldsIf_move (by rfl) _ (Or.inl rfl) _ rfl) hHeld ?_
        try simp only [Act.put, List.getElem_toArray, List.getElem_cons_succ, List.getElem_cons_zero, List.setIfInBounds_toArray, List.set_cons_zero, List.set_cons_succ]
        refine wpAnyH_take (i := 2) (v := .pointer (some ⟨b0, off + i * 5, none⟩)) rfl (by kernel_rfl) (by kernel_rfl) (by kernel_rfl) (fun _ _ _ h => h) (yieldsIf_indexAddrN (by rfl) _ _ _ rfl _ Tryd.underlying45 5 Tryd.sizeOf62 b0 off n c i _ rfl rfl rfl hlt) hHeld ?_
        try simp only [Act.put, List.getElem_toArray, List.getElem_cons_succ, List.getElem_cons_zero, List.setIfInBounds_toArray, List.set_cons_zero, List.set_cons_succ]
        refine wpAnyH_take (i := 3) (v := .agg [.int .i64 x.k, .int .i64 x.fr, .int .i64 x.to, .int .i64 x.a, .int .i64 x.b].toArray) rfl (by kernel_rfl) (by kernel_rfl) (by kernel_rfl) (fun _ _ _ h => h) (yieldsIf_load_mid (by rfl) 62 _ rfl b0 (off + i * 5) rfl [.int .i64 x.k, .int .i64 x.fr, .int .i64 x.to, .int .i64 x.a, .int .i64 x.b] _ (fun W hW => ru_range hW HX.out) Tryd.underlying62 rfl (by kernel_rfl)) hHeld ?_
        try simp only [Act.put, List.getElem_toArray, List.getElem_cons_succ, List.getElem_cons_zero, List.setIfInBounds_toArray, List.set_cons_zero, List.set_cons_succ]
        refine wpAnyH_take (i := 5) (v := .slice (some ⟨b0, off, none⟩) n c) rfl (by kernel_rfl) (by kernel_rfl) (by kernel_rfl) (fun _ _ _ h => h) (yieldsIf_move (by rfl) _ (Or.inl rfl) _ rfl) hHeld ?_
        try simp only [Act.put, List.getElem_toArray, List.getElem_cons_succ, List.getElem_cons_zero, List.setIfInBounds_toArray, List.set_cons_zero, List.set_cons_succ]
        refine wpAnyH_take (i := 6) (v := .int .i64 (i : Int)) rfl (by kernel_rfl) (by kernel_rfl) (by kernel_rfl) (fun _ _ _ h => h) (yieldsIf_move (by rfl) _ (Or.inl rfl) _ rfl) hHeld ?_
        try simp only [Act.put, List.getElem_toArray, List.getElem_cons_succ, List.getElem_cons_zero, List.setIfInBounds_toArray, List.set_cons_zero, List.set_cons_succ]
        refine wpAnyH_take (i := 7) (v := .pointer (some ⟨b0, off + i * 5, none⟩)) rfl (by kernel_rfl) (by kernel_rfl) (by kernel_rfl) (fun _ _ _ h => h) (yieldsIf_indexAddrN (by rfl) _ _ _ rfl _ Tryd.underlying45 5 Tryd.sizeOf62 b0 off n c i _ rfl rfl rfl hlt) hHeld ?_
        try simp only [Act.put, List.getElem_toArray, List.getElem_cons_succ, List.getElem_cons_zero, List.setIfInBounds_toArray, List.set_cons_zero, List.set_cons_succ]
        refine wpAnyH_take (i := 8) (v := .agg [.int .i64 x.k, .int .i64 x.fr, .int .i64 x.to, .int .i64 x.a, .int .i64 x.b].toArray) rfl (by kernel_rfl) (by kernel_rfl) (by kernel_rfl) (fun _ _ _ h => h) (yieldsIf_load_mid (by rfl) 62 _ rfl b0 (off + i * 5) rfl [.int .i64 x.k, .int .i64 x.fr, .int .i64 x.to, .int .i64 x.a, .int .i64 x.b] _ (fun W hW => ru_range hW HX.out) Tryd.underlying62 rfl (by kernel_rfl)) hHeld ?_
        try simp only [Act.put, List.getElem_toArray, List.getElem_cons_succ, List.getElem_cons_zero, List.setIfInBounds_toArray, List.set_cons_zero, List.set_cons_succ]
        refine wpAnyH_ready (rs := [4]) (by kernel_rfl) (by simp) ?_
        refine AllReadyH.cons (i := 4) rfl (fun K hK => ?_) AllReadyH.nil
        go_simp
        refine (HC1.out V0).mono ?_
        rintro e V1 ⟨rfl, hb9⟩
        refine hK.out _ _ (hHeld.on hb9) (fun hHeld => ?_)
        clear hK K
        try simp only [Act.put, List.getElem_toArray, List.getElem_cons_succ, List.getElem_cons_zero, List.setIfInBounds_toArray, List.set_cons_zero, List.set_cons_succ]
        have hbd1 := below_on hbd hb9
        clear hb9 hbd
        refine wpAnyH_ready (rs := [9]) (by kernel_rfl) (by simp) ?_
        refine AllReadyH.cons (i := 9) rfl (fun K hK => ?_) AllReadyH.nil
        go_simp
        refine (HC2.out V1).mono ?_
        rintro e V2 ⟨rfl, hb9⟩
        refine hK.out _ _ (hHeld.on hb9) (fun hHeld => ?_)
        clear hK K
        try simp only [Act.put, List.getElem_toArray, List.getElem_cons_succ, List.getElem_cons_zero, List.setIfInBounds_toArray, List.set_cons_zero, List.set_cons_succ]
        have hbd2 := below_on hbd1 hb9
        clear hb9 hbd1
        refine wpAnyH_take (i := 10) (v := .bool false) rfl (by kernel_rfl) (by kernel_rfl) (by kernel_rfl) (fun _ _ _ h => h) (yieldsIf_neq_int (by rfl) _ _ _ _ rfl .i64 re rfl rfl) hHeld ?_
        try simp only [Act.put, List.getElem_toArray, List.getElem_cons_succ, List.getElem_cons_zero, List.setIfInBounds_toArray, List.set_cons_zero, List.set_cons_succ]
        refine wpAnyH_take (i := 11) (v := .bool false) rfl (by kernel_rfl) (by kernel_rfl) (by kernel_rfl) (fun _ _ _ h => h) (yieldsIf_move (by rfl) _ (Or.inl rfl) _ rfl) hHeld ?_
        try simp only [Act.put, List.getElem_toArray, List.getElem_cons_succ, List.getElem_cons_zero, List.setIfInBounds_toArray, List.set_cons_zero, List.set_cons_succ]
        refine wpAnyH_take (i := 12) (v := .string T) rfl (by kernel_rfl) (by kernel_rfl) (by kernel_rfl) (fun _ _ _ h => h) (yieldsIf_move (by rfl) _ (Or.inl rfl) _ rfl) hHeld ?_
        try simp only [Act.put, List.getElem_toArray, List.getElem_cons_succ, List.getElem_cons_zero, List.setIfInBounds_toArray, List.set_cons_zero, List.set_cons_succ]
        refine wpAnyH_take (i := 13) (v := .string T) rfl (by kernel_rfl) (by kernel_rfl) (by kernel_rfl) (fun _ _ _ h => h) (yieldsIf_move (by rfl) _ (Or.inl rfl) _ rfl) hHeld ?_
        try simp only [Act.put, List.getElem_toArray, List.getElem_cons_succ, List.getElem_cons_zero, List.setIfInBounds_toArray, List.set_cons_zero, List.set_cons_succ]
        refine wpAnyH_take (i := 14) (v := .bool false) rfl (by kernel_rfl) (by kernel_rfl) (by kernel_rfl) (fun _ _ _ h => h) (yieldsIf_neq_str (by rfl) _ _ _ _ rfl T rfl rfl) hHeld ?_
        try simp only [Act.put, List.getElem_toArray, List.getElem_cons_succ, List.getElem_cons_zero, List.setIfInBounds_toArray, List.set_cons_zero, List.set_cons_succ]
        refine wpAnyH_take (i := 15) (v := .bool false) rfl (by kernel_rfl) (by kernel_rfl) (by kernel_rfl) (fun _ _ _ h => h) (yieldsIf_pick_false (by rfl) _ _ _ rfl rfl _ rfl) hHeld ?_
        try simp only [Act.put, List.getElem_toArray, List.getElem_cons_succ, List.getElem_cons_zero, List.setIfInBounds_toArray, List.set_cons_zero, List.set_cons_succ]
        refine wpAnyH_take (i := 16) (v := .bool false) rfl (by kernel_rfl) (by kernel_rfl) (by kernel_rfl) (fun _ _ _ h => h) (yieldsIf_move (by rfl) _ (Or.inl rfl) _ rfl) hHeld ?_
        try simp only [Act.put, List.getElem_toArray, List.getElem_cons_succ, List.getElem_cons_zero, List.setIfInBounds_toArray, List.set_cons_zero, List.set_cons_succ]
        refine wpAnyH_take (i := 17) (v := .int .i64 re) rfl (by kernel_rfl) (by kernel_rfl) (by kernel_rfl) (fun _ _ _ h => h) (yieldsIf_move (by rfl) _ (Or.inl rfl) _ rfl) hHeld ?_
        try simp only [Act.put, List.getElem_toArray, List.getElem_cons_succ, List.getElem_cons_zero, List.setIfInBounds_toArray, List.set_cons_zero, List.set_cons_succ]
        refine wpAnyH_take (i := 18) (v := .int .i64 re) rfl (by kernel_rfl) (by kernel_rfl) (by kernel_rfl) (fun _ _ _ h => h) (yieldsIf_move (by rfl) _ (Or.inl rfl) _ rfl) hHeld ?_
        try simp only [Act.put, List.getElem_toArray, List.getElem_cons_succ, List.getElem_cons_zero, List.setIfInBounds_toArray, List.set_cons_zero, List.set_cons_succ]
        refine wpAnyH_take (i := 19) (v := .bool false) rfl (by kernel_rfl) (by kernel_rfl) (by kernel_rfl) (fun _ _ _ h => h) (yieldsIf_neq_int (by rfl) _ _ _ _ rfl .i64 re rfl rfl) hHeld ?_
        try simp only [Act.put, List.getElem_toArray, List.getElem_cons_succ, List.getElem_cons_zero, List.setIfInBounds_toArray, List.set_cons_zero, List.set_cons_succ]
        refine wpAnyH_take (i := 20) (v := .bool false) rfl (by kernel_rfl) (by kernel_rfl) (by kernel_rfl) (fun _ _ _ h => h) (yieldsIf_pick_false (by rfl) _ _ _ rfl rfl _ rfl) hHeld ?_
        try simp only [Act.put, List.getElem_toArray, List.getElem_cons_succ, List.getElem_cons_zero, List.setIfInBounds_toArray, List.set_cons_zero, List.set_cons_succ]
        refine wpAnyH_done (by kernel_rfl) ?_ _
        clear hHeld
        go_wp2
        go_roundw
        case rel => exact ⟨i + 1, by omega, by go_num, hbd2⟩
        case measure => simp [intOf] <;> omega
      · obtain rfl : i = n := by omega
        obtain ⟨w3, hw3⟩ : ∃ q, q = wr := ⟨_, rfl⟩
        rw [← hw3] at hr hbw ⊢
        clear hw3
        obtain ⟨sh, hsh⟩ : ∃ q, q = shiftErr L := ⟨_, rfl⟩
        obtain ⟨re, hre⟩ : ∃ q, q = rulesErr L := ⟨_, rfl⟩
        obtain ⟨T, hT⟩ : ∃ q, q = scriptB L := ⟨_, rfl⟩
        have HS1 := hide (show ∀ W, Below w3.heap.size w3 W → Calls Tryd.prog 25 #[.slice A i c] W fun e w' => e = .returned (.tuple #[.int .i64 sh, .int .i64 re]) ∧ Below W.heap.size W w' from fun W h => by rw [hsh, hre]; exact shift_c A i c L W (hr.on h))
        have HS2 := hide (show ∀ W, Below w3.heap.size w3 W → Calls Tryd.prog 26 #[.slice A i c] W fun e w' => e = .returned (.tuple #[.int .i64 sh, .int .i64 re]) ∧ Below W.heap.size W w' from fun W h => by rw [hsh, hre]; exact rshift_c A i c L W (hr.on h))
        have HC1 := hide (show ∀ W, Below w3.heap.size w3 W → Calls Tryd.prog 27 #[.slice A i c] W fun e w' => e = .returned (.int .i64 re) ∧ Below W.heap.size W w' from fun W h => by rw [hre]; exact checkRules_c A i c L W (hr.on h))
        have HC2 := hide (show ∀ W, Below w3.heap.size w3 W → Calls Tryd.prog 28 #[.slice A i c] W fun e w' => e = .returned (.int .i64 re) ∧ Below W.heap.size W w' from fun W h => by rw [hre]; exact rcheckRules_c A i c L W (hr.on h))
        have HP1 := hide (show ∀ W, Below w3.heap.size w3 W → Calls Tryd.prog 29 #[.slice A i c] W fun e w' => e = .returned (.tuple #[.string T, .int .i64 re]) ∧ Below W.heap.size W w' from fun W h => by rw [hT, hre]; exact oscript_c A i c L W (hr.on h) ((HT.out.on hbw).on h))
        have HP2 := hide (show ∀ W, Below w3.heap.size w3 W → Calls Tryd.prog 30 #[.slice A i c] W fun e w' => e = .returned (.tuple #[.string T, .int .i64 re]) ∧ Below W.heap.size W w' from fun W h => by rw [hT, hre]; exact rscript_c A i c L W (hr.on h))
        have hss : (sh != sh) = false := by simp
        have hree : (re != re) = false := by simp
        have hTT : (T.toList == T.toList) = true := by simp
        have hTT2 : (T.toList != T.toList) = false := by simp
        have HRE := hide hre
        have HTE := hide hT
        clear hsh hre hT
        go_upto_region 11 with (go_at_call 25; refine (HS1.out w3 (Below.refl _ _)).mono ?_; rintro e w4 ⟨rfl, k4⟩)
        go_upto_region 12 with (go_at_call 26; refine (HS2.out w4 k4).mono ?_; rintro e w5 ⟨rfl, k5⟩)
        have l5 := below_on k4 k5
        go_upto_region 14 with (first | (go_at_call 27; refine (HC1.out w5 l5).mono ?_; rintro e w6 ⟨rfl, k6⟩; have l6 := below_on l5 k6) | (go_at_call 28; refine (HC2.out w6 l6).mono ?_; rintro e w7 ⟨rfl, k7⟩))
        have l7 := below_on l6 k7
        go_upto_region 15 with (go_at_call 29; refine (HP1.out w7 l7).mono ?_; rintro e w8 ⟨rfl, k8⟩)
        have l8 := below_on l7 k8
        go_upto_region 16 with (go_at_call 30; refine (HP2.out w8 l8).mono ?_; rintro e w9 ⟨rfl, k9⟩)
        have l9 := below_on l8 k9
        have hb9 := below_on hbw l9
        have hr9 := hr.on l9
        have ht9 := HT.out.on hb9
        have hm9 := HM.out.on hb9
        clear k4 k5 k6 k7 k8 k9 l5 l6 l7 l8 l9 HS1 HS2 HC1 HC2 HP1 HP2 hr hbw r
        go_upto_region 18 with fail
        by_cases h0 : re = 0
        · subst h0
          have h0' := HRE.out.symm
          obtain ⟨h32, hall⟩ := rulesErr_zero h0'
          have hsl := scriptL_len hall
          have hTs : T = strB (scriptL L) := by rw [HTE.out]; unfold scriptB; rw [if_pos h0']
          have hsh1 : shifts L ≤ 1 := by
            rw [rulesErr_all (by omega) hall] at h0'
            by_cases q : 1 < shifts L
            · rw [if_pos q] at h0'; cases h0'
            · omega
          have hg : rulesG 32 [] (lst T) = (L, 0, 0) := by
            rw [hTs, lst_strB]
            exact rules_script L 32 [] h32 hall (by simpa using hsh1)
          have hTsz : T.size ≤ 65536 := by
            rw [hTs, strB_size]
            have := scriptL_len2 hall
            have h2 : L.length * 60 ≤ 32 * 60 := Nat.mul_le_mul_right _ h32
            omega
          have HRU := hide (show Calls Tryd.prog 18 #[.string T] w9 fun e w' => ∃ A n c, e = .returned (.tuple #[.slice A n c, .int .i64 0, .int .i64 0]) ∧ Rd eRu w' w'.heap.size A n c L ∧ Below w9.heap.size w9 w' from (oRules_c T w9 hm9 hTsz).mono fun e w' h => by
            obtain ⟨A, n, c, he, hr, hb⟩ := h
            rw [hg] at he hr
            exact ⟨A, n, c, he, hr, hb⟩)
          have HTT9 := hide ht9
          clear h0' h32 hall hsl hTs hsh1 hg hTsz hm9 ht9
          go_upto_region 21 with (go_at_call 18; refine HRU.out.mono ?_; rintro e w10 ⟨A2, n2, c2, rfl, q10, k10⟩)
          have HSR := hide (sameRules_c A2 A n2 c2 i c L w10 q10 (hr9.on k10))
          have hq1 := q10.cap
          clear HRU q10 hr9
          go_wp2_with (first | (go_at_call 20; refine HSR.out.mono ?_; rintro e w11 ⟨rfl, k11⟩) | (go_at_call 12; refine (works_c _ (HTT9.out.on (below_on k10 k11))).mono ?_; rintro e w12 ⟨rfl, k12⟩))
          go_ret
          exact ⟨by simp, below_on (below_on (below_on hb9 k10) k11) k12⟩
        · have hrb : (re == 0) = false := decide_eq_false h0
          have hrb2 : (re != 0) = true := by rw [bne, hrb]; rfl
          have HW := hide (works_c w9 ht9)
          clear h0 hr9 ht9 hm9
          go_wp2_with (go_at_call 12; refine HW.out.mono ?_; rintro e w12 ⟨rfl, k12⟩)
          go_ret
          exact ⟨rfl, below_on hb9 k12⟩
end Go.Proofs.YthdidjnhfkeokaaDoor
