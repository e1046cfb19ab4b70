/- Contracts of Script: optics' by a builder, the reference's by '+'. -/
import Derived.Test.YthdidjnhfkeokaaDoorZx
import Derived.Test.YthdidjnhfkeokaaDoorVd
import Derived.Test.YthdidjnhfkeokaaDoorVf
import Derived.Test.YthdidjnhfkeokaaDoorShC
namespace Go.Proofs.YthdidjnhfkeokaaDoor
open Go.RowKit

theorem BuilderAtF.onB {T e : TypeId} {B b : Nat} {p : Value} {bs : List Value} {w w' : World} (h : Lib.BuilderAtF T e B b p bs w) (hb : Below w.heap.size w w') : Lib.BuilderAtF T e B b p bs w' := by
  have hlt := h.lt
  obtain ⟨hB, v, hb0, hown, hne⟩ := h
  refine ⟨hB, v, (hb.block b hlt).trans hb0, ⟨hown.1, ?_⟩, hne⟩
  rcases hown.2 with ⟨h1, h2⟩ | ⟨g, cap, cur, fz, h1, h2, h3, h4⟩
  · exact .inl ⟨h1, h2⟩
  · have hg : g < w.heap.size := by
      rcases Nat.lt_or_ge g w.heap.size with h' | h'
      · exact h'
      · rw [Array.getElem?_eq_none h'] at h3; cases h3
    exact .inr ⟨g, cap, cur, fz, h1, h2, (hb.block g hg).trans h3, h4⟩
theorem IsBuilderF.onB {T e : TypeId} {B b : Nat} {bs : List Value} {w w' : World} (h : Lib.IsBuilderF T e B b bs w) (hb : Below w.heap.size w w') : Lib.IsBuilderF T e B b bs w' := h.imp (fun h => BuilderAtF.onB h hb) (fun h => BuilderAtF.onB h hb)
theorem builder_new (w : World) (T e : TypeId) : Lib.IsBuilderF T e w.heap.size w.heap.size (Lib.byteCells []) (w.alloc (.cells #[.pointer none, .slice none 0 0] T)) :=
  .inl ⟨Nat.le_refl _, .slice none 0 0, Blk.new w T _, World.ownsRowF_nil _ _ _ _, by simp [Value.ownBlock]⟩
def scriptB (L : List Ru) : ByteArray := if rulesErr L = 0 then strB (scriptL L) else ByteArray.empty
def SScript (L : List Ru) (w : World) (e : Ending) (w' : World) : Prop := e = .returned (.tuple #[.string (scriptB L), .int .i64 (rulesErr L)]) ∧ Below w.heap.size w w'
theorem scriptL_len : ∀ {L : List Ru}, L.all okRu = true → (scriptL L).length ≤ L.length * 30000
  | [], _ => by simp [scriptL]
  | r :: L, h => by
    simp only [List.all_cons, Bool.and_eq_true] at h
    have ih := scriptL_len (L := L) h.2
    have h1 := lnB_len h.1 _ (Nat.le_refl _)
    rw [lnB_end, strB_size] at h1
    have h2 := (fmF_len (j := fmOf r)).2
    have e : scriptL (r :: L) = (lineL r ++ [10]) ++ scriptL L := by unfold scriptL; simp
    rw [e]
    simp only [List.length_append, List.length_cons, List.length_nil]
    have : 5000 * (fmF (fmOf r)).length ≤ 5000 * 4 := Nat.mul_le_mul_left _ h2
    omega
theorem script_take {L : List Ru} {i : Nat} {r : Ru} (h : L[i]? = some r) : scriptL (L.take (i + 1)) = scriptL (L.take i) ++ lineL r ++ [10] := by
  rw [List.take_add_one, h]
  simp only [Option.toList_some]
  rw [scriptL_snoc, List.append_assoc]
theorem lineB_ok {r : Ru} (h : okRu r = true) : lineB r = strB (lineL r) := by unfold lineB; rw [if_pos h]
theorem all_take {L : List Ru} (h : L.all okRu = true) (i : Nat) : (L.take i).all okRu = true := by
  rw [List.all_eq_true] at h ⊢
  exact fun r hr => h r (List.mem_of_mem_take hr)

set_option maxRecDepth 100000 in
set_option maxHeartbeats 3200000 in
theorem rscript_c (A : Option Addr) (n c : Nat) (L : List Ru) (w : World) (r : Rd eRu w w.heap.size A n c L) : Calls Tryd.prog 30 #[.slice A n c] w (SScript L w) := by
  have hm := r.max
  have hcap := r.cap
  have hlen := r.len
  by_cases h0 : rulesErr L = 0
  · obtain ⟨h32, hall⟩ := rulesErr_zero h0
    have HT := hide (show scriptB L = strB (scriptL (L.take n)) by unfold scriptB; rw [if_pos h0, List.take_of_length_le (by omega)])
    have HE := hide h0
    have hck := rcheckRules_c A n c L w r
    rw [h0] at hck
    have HCK := hide hck
    have HALL := hide hall
    have hn32 : n ≤ 32 := by omega
    clear h0 hck hall hlen h32
    go_enter Tryd.func30, Tryd.ntmps30
    go_wp2_with (go_at_call 28; refine HCK.out.mono ?_; rintro e w1 ⟨rfl, hb1⟩)
    go_loopw [6, 5] (fun iv sv wr => ∃ i : Nat, i ≤ n ∧ iv = .int .i64 i ∧ sv = .string (strB (scriptL (L.take i))) ∧ Below w1.heap.size w1 wr) (fun iv _ _ => n - (intOf iv).toNat)
    case atStart => exact ⟨0, Nat.zero_le _, rfl, rfl, Below.refl _ _⟩
    case round =>
      obtain ⟨i, hi, rfl, rfl, hbi⟩ := hrel
      by_cases hlt : i < n
      · obtain ⟨b, off, x, rfl, hb, hx, hc⟩ := (r.on (below_on hb1 hbi)).get hlt
        have c0 := hc 0 _ rfl
        have c1 := hc 1 _ rfl
        have c2 := hc 2 _ rfl
        have c3 := hc 3 _ rfl
        have c4 := hc 4 _ rfl
        simp only [eRu, Nat.add_zero] at c0 c1 c2 c3 c4
        have hok : okRu x = true := List.all_eq_true.1 HALL.out x (List.mem_of_getElem? hx)
        have HLI := hide (rline_c x wr)
        have HST := hide (show strB (scriptL (L.take (i + 1))) = (strB (scriptL (L.take i)) ++ lineB x) ++ ⟨#[10]⟩ by rw [script_take hx, lineB_ok hok, show (⟨#[10]⟩ : ByteArray) = strB [10] from rfl, strB_app, strB_app])
        have hs1 := scriptL_len (all_take HALL.out i)
        rw [List.length_take] at hs1
        have hs2 := lnB_len hok _ (Nat.le_refl _)
        rw [lnB_end, ← lineB_ok hok] at hs2
        have hs3 := (fmF_len (j := fmOf x)).2
        have la : ((strB (scriptL (L.take i))).size : Int) ≤ 1000000 := by
          rw [strB_size]
          have : min i L.length * 30000 ≤ 32 * 30000 := Nat.mul_le_mul_right _ (by omega)
          omega
        have lb : ((lineB x).size : Int) ≤ 100000 := by
          have : 5000 * (fmF (fmOf x)).length ≤ 5000 * 4 := Nat.mul_le_mul_left _ hs3
          omega
        obtain ⟨sa, hsa⟩ : ∃ q, q = strB (scriptL (L.take i)) := ⟨_, rfl⟩
        obtain ⟨sb, hsb⟩ : ∃ q, q = lineB x := ⟨_, rfl⟩
        rw [← hsa] at HST la ⊢
        rw [← hsb] at HST lb
        have HLI2 := hide (show Calls Tryd.prog 22 #[.agg #[.int .i64 x.k, .int .i64 x.fr, .int .i64 x.to, .int .i64 x.a, .int .i64 x.b]] wr fun e w' => e = .returned (.tuple #[.string sb, .int .i64 (ruErr x)]) ∧ Below wr.heap.size wr w' by rw [hsb]; exact HLI.out)
        clear hc hx hok hs1 hs2 hs3 hsa hsb HLI hb
        go_wp2_with (go_at_call 22; refine HLI2.out.mono ?_; rintro e w7 ⟨rfl, hb7⟩)
        go_roundw
        case rel => exact ⟨i + 1, by omega, by go_num, by rw [HST.out], below_on hbi hb7⟩
        case measure => simp [intOf] <;> omega
      · obtain rfl : i = n := by omega
        go_wp2
        go_ret2
        exact ⟨by rw [HT.out, HE.out]; rfl, below_on hb1 hbi⟩
  · have HT := hide (show scriptB L = ByteArray.empty by unfold scriptB; rw [if_neg h0])
    have hck := rcheckRules_c A n c L w r
    obtain ⟨v, hv⟩ : ∃ q, q = rulesErr L := ⟨_, rfl⟩
    rw [← hv] at hck h0
    have hvb : (v == 0) = false := decide_eq_false h0
    have hvb2 : (v != 0) = true := by rw [bne, hvb]; rfl
    have HCK := hide hck
    have HV := hide hv
    clear hck h0 hv hlen
    go_enter Tryd.func30, Tryd.ntmps30
    go_wp2_with (go_at_call 28; refine HCK.out.mono ?_; rintro e w1 ⟨rfl, hb1⟩)
    go_ret2
    exact ⟨by rw [HT.out, ← HV.out]; rfl, hb1⟩

set_option maxRecDepth 100000 in
set_option maxHeartbeats 3200000 in
theorem oscript_c (A : Option Addr) (n c : Nat) (L : List Ru) (w : World) (r : Rd eRu w w.heap.size A n c L) (ht : Tab w) : Calls Tryd.prog 29 #[.slice A n c] w (SScript L w) := by
  have hm := r.max
  have hcap := r.cap
  have hlen := r.len
  by_cases h0 : rulesErr L = 0
  · obtain ⟨h32, hall⟩ := rulesErr_zero h0
    have HT := hide (show scriptB L = strB (scriptL (L.take n)) by unfold scriptB; rw [if_pos h0, List.take_of_length_le (by omega)])
    have HE := hide h0
    have hck := checkRules_c A n c L w r
    rw [h0] at hck
    have HCK := hide hck
    have HALL := hide hall
    have hn32 : n ≤ 32 := by omega
    clear h0 hck hall hlen h32
    go_enter Tryd.func29, Tryd.ntmps29
    go_upto_region 5 with (go_at_call 27; refine HCK.out.mono ?_; rintro e w1 ⟨rfl, hb1⟩)
    have hB0 := builder_new w1 111 5
    have hb2 := below_alloc w1 (.cells #[.pointer none, .slice none 0 0] 111)
    obtain ⟨w2, hw2⟩ : ∃ q, q = w1.alloc (.cells #[.pointer none, .slice none 0 0] 111) := ⟨_, rfl⟩
    rw [← hw2] at hB0 hb2 ⊢
    obtain ⟨gB, hgB⟩ : ∃ q, q = w1.heap.size := ⟨_, rfl⟩
    rw [← hgB] at hB0 hb2 ⊢
    have HGB := hide hgB
    have hg2 := hb2.size
    clear hw2 hgB
    go_wp2
    go_loopw [17] (fun iv wr => ∃ i : Nat, i ≤ n ∧ iv = .int .i64 i ∧ Lib.IsBuilderF 111 5 gB gB (Lib.byteCells (scriptL (L.take i))) wr ∧ Below gB w1 wr) (fun iv _ => n - (intOf iv).toNat)
    case atStart => exact ⟨0, Nat.zero_le _, rfl, hB0, hb2⟩
    case round =>
      clear hB0 hb2
      obtain ⟨i, hi, rfl, hB, hbi⟩ := hrel
      have hbi1 : Below w1.heap.size w1 wr := by have := HGB.out; rw [← this]; exact hbi
      have hgw : gB ≤ wr.heap.size := by have := hbi.size; have := HGB.out; omega
      by_cases hlt : i < n
      · obtain ⟨b, off, x, rfl, hb, hx, hc⟩ := (r.on (below_on hb1 hbi1)).get hlt
        have c0 := hc 0 _ rfl
        have c1 := hc 1 _ rfl
        have c2 := hc 2 _ rfl
        have c3 := hc 3 _ rfl
        have c4 := hc 4 _ rfl
        simp only [eRu, Nat.add_zero] at c0 c1 c2 c3 c4
        have hok : okRu x = true := List.all_eq_true.1 HALL.out x (List.mem_of_getElem? hx)
        have hw3 := below_alloc wr (.cells #[.int .i64 x.k, .int .i64 x.fr, .int .i64 x.to, .int .i64 x.a, .int .i64 x.b] 62)
        have HLI := hide (oline_c x (wr.alloc (.cells #[.int .i64 x.k, .int .i64 x.fr, .int .i64 x.to, .int .i64 x.a, .int .i64 x.b] 62)) (ht.on (below_on (below_on hb1 hbi1) hw3)))
        have HST := hide (script_take hx)
        have hs1 := scriptL_len (all_take HALL.out i)
        rw [List.length_take] at hs1
        have hs2 := lnB_len hok _ (Nat.le_refl _)
        rw [lnB_end, ← lineB_ok hok] at hs2
        have hs3 := (fmF_len (j := fmOf x)).2
        have hs4 : 5000 * (fmF (fmOf x)).length ≤ 5000 * 4 := Nat.mul_le_mul_left _ hs3
        have hs5 : min i L.length * 30000 ≤ 32 * 30000 := Nat.mul_le_mul_right _ (by omega)
        have HSZ := hide (show (Lib.byteCells (scriptL (L.take i))).length ≤ 1000000 ∧ (lineB x).size ≤ 100000 by rw [Lib.byteCells_length]; omega)
        have HLB := hide (show Lib.byteCells (scriptL (L.take (i + 1))) = (Lib.byteCells (scriptL (L.take i)) ++ Lib.strCells (lineB x)) ++ [.int .u8 10] by
          rw [HST.out, Lib.byteCells_append, Lib.byteCells_append, lineB_ok hok]; rfl)
        have hbl := Blk.newAt wr 62 #[.int .i64 x.k, .int .i64 x.fr, .int .i64 x.to, .int .i64 x.a, .int .i64 x.b] wr.heap.size rfl
        obtain ⟨sb, hsb⟩ : ∃ q, q = lineB x := ⟨_, rfl⟩
        have HLI2 := hide (show Calls Tryd.prog 21 #[.agg #[.int .i64 x.k, .int .i64 x.fr, .int .i64 x.to, .int .i64 x.a, .int .i64 x.b]] (wr.alloc (.cells #[.int .i64 x.k, .int .i64 x.fr, .int .i64 x.to, .int .i64 x.a, .int .i64 x.b] 62)) fun e w' => e = .returned (.tuple #[.string sb, .int .i64 (ruErr x)]) ∧ Below (wr.alloc (.cells #[.int .i64 x.k, .int .i64 x.fr, .int .i64 x.to, .int .i64 x.a, .int .i64 x.b] 62)).heap.size (wr.alloc (.cells #[.int .i64 x.k, .int .i64 x.fr, .int .i64 x.to, .int .i64 x.a, .int .i64 x.b] 62)) w' by rw [hsb]; exact HLI.out)
        rw [← hsb] at HSZ HLB
        have hB3 := IsBuilderF.onB hB hw3
        clear hc hx hok hs1 hs2 hs3 hs4 hs5 hsb HLI HST hb hB
        go_upto_region 9 with (first | (refine wl_load (o := ⟨some 22, _, _, _, _, _⟩) rfl 62 _ rfl wr.heap.size rfl 62 #[.int .i64 x.k, .int .i64 x.fr, .int .i64 x.to, .int .i64 x.a, .int .i64 x.b] _ hbl Tryd.underlying62 rfl (by kernel_rfl) ?_) | (go_at_call 21; refine HLI2.out.mono ?_; rintro e w5 ⟨rfl, hb5⟩))
        have hB5 := IsBuilderF.onB hB3 hb5
        have hb6 := below_on hw3 hb5
        have hg5 : gB ≤ w5.heap.size := Nat.le_trans hgw hb6.size
        clear hB3 hw3 hb5 hbl c0 c1 c2 c3 c4
        go_upto_region 10 with (go_at_call 56; refine (Tryd.Builder_WriteString_k gB gB _ sb w5 hB5 (by have := HSZ.out; omega) hg5).mono ?_; rintro e w7 ⟨rfl, hB7, hb7, _⟩)
        have hg7 : gB ≤ w7.heap.size := Nat.le_trans hg5 hb7.size
        go_wp2_with (go_at_call 57; refine (Tryd.Builder_WriteByte_k gB gB _ 10 w7 (.inr hB7) (by have := HSZ.out; rw [List.length_append, Lib.strCells_length]; omega) hg7).mono ?_; rintro e w8 ⟨rfl, hB8, hb8, _⟩)
        go_roundw
        case rel => exact ⟨i + 1, by omega, by go_num, by rw [HLB.out]; exact .inr hB8, ((hbi.trans (hb6.mono hgw)).trans hb7).trans hb8⟩
        case measure => simp [intOf] <;> omega
      · obtain rfl : i = n := by omega
        go_wp2_with (go_at_call 58; refine (Tryd.Builder_String_any_k gB gB _ wr hB hgw).mono ?_; rintro e w8 ⟨rfl, _, hb8, _⟩)
        go_ret2
        refine ⟨by rw [HT.out, HE.out]; rfl, below_on hb1 ?_⟩
        rw [← HGB.out]
        exact hbi.trans hb8
  · have HT := hide (show scriptB L = ByteArray.empty by unfold scriptB; rw [if_neg h0])
    have hck := checkRules_c A n c L w r
    obtain ⟨v, hv⟩ : ∃ q, q = rulesErr L := ⟨_, rfl⟩
    rw [← hv] at hck h0
    have hvb : (v == 0) = false := decide_eq_false h0
    have hvb2 : (v != 0) = true := by rw [bne, hvb]; rfl
    have HCK := hide hck
    have HV := hide hv
    clear hck h0 hv hlen
    go_enter Tryd.func29, Tryd.ntmps29
    go_wp2_with (go_at_call 27; refine HCK.out.mono ?_; rintro e w1 ⟨rfl, hb1⟩)
    go_ret2
    exact ⟨by rw [HT.out, ← HV.out]; rfl, hb1⟩
end Go.Proofs.YthdidjnhfkeokaaDoor
