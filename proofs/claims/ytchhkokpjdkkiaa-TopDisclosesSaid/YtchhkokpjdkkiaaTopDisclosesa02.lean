/- Counting strings that give the same answers: each answer halves their number at most. Plain Lean; no program. The frame of a Top law: its arguments opened, and read again as they were. Plain lemmas. -/
import Derived.Test.YtchhkokpjdkkiaaTopDisclosesa01
import Derived.Test.YtchhkokpjdkkiaaRows
import Derived.ProofKit
import Derived.OpenShut
import Derived.Below
import Derived.Carry
import Derived.Lib.SmallJoins
import Derived.Deep.Slices
import Derived.Deep.Fields
import Derived.ChangeSame
namespace Go.Proofs.Ytchhkokpjdkkiaa

theorem pow_add_xor {i m : Nat} (h : m < 2 ^ i) : 2 ^ i + m = 2 ^ i ^^^ m := by
  apply Nat.eq_of_testBit_eq
  intro j
  rw [Nat.testBit_xor, Nat.testBit_two_pow]
  by_cases h1 : i = j
  · subst h1
    rw [Nat.testBit_two_pow_add_eq, Nat.testBit_lt_two_pow h]; simp
  · by_cases h2 : j < i
    · rw [Nat.testBit_two_pow_add_gt h2]; simp [h1]
    · have h3 : m.testBit j = false := Nat.testBit_lt_two_pow (Nat.lt_of_lt_of_le h (Nat.pow_le_pow_right (by omega) (by omega)))
      have h4 : (2 ^ i + m).testBit j = false := by
        apply Nat.testBit_lt_two_pow
        have : 2 ^ (i + 1) ≤ 2 ^ j := Nat.pow_le_pow_right (by omega) (by omega)
        rw [Nat.pow_succ] at this; omega
      rw [h3, h4]; simp [h1]
def cnt (N : Nat) (P : Nat → Bool) : Nat := (List.range N).countP P
theorem cnt_double (i : Nat) (P : Nat → Bool) : cnt (2 ^ (i + 1)) P = cnt (2 ^ i) P + cnt (2 ^ i) (fun m => P (2 ^ i + m)) := by
  unfold cnt
  rw [show 2 ^ (i + 1) = 2 ^ i + 2 ^ i by rw [Nat.pow_succ]; omega, List.range_add, List.countP_append, List.countP_map]
  rfl
theorem cnt_congr {N : Nat} {P Q : Nat → Bool} (h : ∀ m, m < N → P m = Q m) : cnt N P = cnt N Q := by
  unfold cnt
  apply List.countP_congr
  intro m hm
  rw [h m (List.mem_range.1 hm)]
/-- Translation by a number leaves the count as it is. -/
theorem cnt_xor : ∀ (i : Nat) (P : Nat → Bool) (c : Nat), c < 2 ^ i → cnt (2 ^ i) (fun m => P (m ^^^ c)) = cnt (2 ^ i) P
  | 0, P, c, hc => by
    obtain rfl : c = 0 := by simpa using hc
    exact cnt_congr fun m _ => by rw [Nat.xor_zero]
  | i + 1, P, c, hc => by
    rw [cnt_double, cnt_double]
    by_cases h : c < 2 ^ i
    · rw [cnt_xor i P c h]
      congr 1
      rw [← cnt_xor i (fun m => P (2 ^ i + m)) c h]
      refine cnt_congr fun m hm => ?_
      rw [pow_add_xor hm, pow_add_xor (Nat.xor_lt_two_pow hm h), Nat.xor_assoc]
    · obtain ⟨c', rfl⟩ : ∃ c', c = 2 ^ i + c' := ⟨c - 2 ^ i, by omega⟩
      have hc' : c' < 2 ^ i := by rw [Nat.pow_succ] at hc; omega
      rw [Nat.add_comm (cnt (2 ^ i) P)]
      congr 1
      · rw [← cnt_xor i (fun m => P (2 ^ i + m)) c' hc']
        refine cnt_congr fun m hm => ?_
        rw [pow_add_xor hc', pow_add_xor (Nat.xor_lt_two_pow hm hc'), ← Nat.xor_assoc, Nat.xor_comm m, Nat.xor_assoc]
      · rw [← cnt_xor i P c' hc']
        refine cnt_congr fun m hm => ?_
        rw [pow_add_xor hm, pow_add_xor hc', Nat.xor_comm (2 ^ i) m, Nat.xor_assoc, ← Nat.xor_assoc (2 ^ i), Nat.xor_self, Nat.zero_xor]
/-- A parity: of a sum it is the sum. -/
def Lin (i : Nat) (g : Nat → Bool) : Prop := ∀ a b, a < 2 ^ i → b < 2 ^ i → g (a ^^^ b) = (g a != g b)
def fitsN (G : List (Nat → Bool)) (a n : Nat) : Bool := G.all fun g => g n == g a
theorem cnt_split (N : Nat) (A g : Nat → Bool) : cnt N A = cnt N (fun n => A n && g n) + cnt N (fun n => A n && !g n) := by
  unfold cnt
  induction List.range N with
  | nil => rfl
  | cons x L ih =>
    rw [List.countP_cons, List.countP_cons, List.countP_cons, ih]
    cases A x <;> cases g x <;> simp <;> omega
theorem cnt_half {i : Nat} {G : List (Nat → Bool)} {g : Nat → Bool} {a : Nat} (hG : ∀ h ∈ G, Lin i h) (hg : Lin i g) (ha : a < 2 ^ i) : cnt (2 ^ i) (fitsN G a) ≤ cnt (2 ^ i) (fitsN (g :: G) a) * 2 := by
  rw [cnt_split _ _ fun n => g n == g a]
  have e1 : cnt (2 ^ i) (fun n => fitsN G a n && (g n == g a)) = cnt (2 ^ i) (fitsN (g :: G) a) := cnt_congr fun m _ => by unfold fitsN; rw [List.all_cons, Bool.and_comm]
  rw [e1]
  by_cases h0 : ∃ v, v < 2 ^ i ∧ (fitsN G a v && !(g v == g a)) = true
  · obtain ⟨v, hv, hf⟩ := h0
    rw [Bool.and_eq_true] at hf
    have hc : a ^^^ v < 2 ^ i := Nat.xor_lt_two_pow ha hv
    have e2 : cnt (2 ^ i) (fun n => fitsN G a n && !(g n == g a)) = cnt (2 ^ i) (fitsN (g :: G) a) := by
      rw [← cnt_xor i (fun n => fitsN G a n && !(g n == g a)) (a ^^^ v) hc]
      refine cnt_congr fun m hm => ?_
      have h1 : fitsN G a (m ^^^ (a ^^^ v)) = fitsN G a m := by
        have hall := List.all_eq_true.1 hf.1
        have key : ∀ h ∈ G, h (m ^^^ (a ^^^ v)) = h m := fun h hh => by
          have h2 : h v = h a := by simpa using hall h hh
          rw [hG h hh _ _ hm hc, hG h hh _ _ ha hv, h2]; simp
        unfold fitsN
        rw [Bool.eq_iff_iff, List.all_eq_true, List.all_eq_true]
        constructor
        · intro q h hh; have := q h hh; rwa [key h hh] at this
        · intro q h hh; have := q h hh; rwa [key h hh]
      have h2 : g (m ^^^ (a ^^^ v)) = !g m := by
        rw [hg _ _ hm hc, hg _ _ ha hv]
        have := hf.2
        revert this
        cases g a <;> cases g v <;> cases g m <;> simp
      show (fitsN G a (m ^^^ (a ^^^ v)) && !(g (m ^^^ (a ^^^ v)) == g a)) = fitsN (g :: G) a m
      rw [h1, h2]
      unfold fitsN
      rw [List.all_cons, Bool.and_comm]
      cases g m <;> cases g a <;> rfl
    rw [e2]; omega
  · have e2 : cnt (2 ^ i) (fun n => fitsN G a n && !(g n == g a)) = 0 := by
      unfold cnt
      rw [List.countP_eq_zero]
      intro m hm hf
      exact h0 ⟨m, List.mem_range.1 hm, hf⟩
    rw [e2]; omega
theorem cnt_law {i a : Nat} (ha : a < 2 ^ i) : ∀ (G : List (Nat → Bool)), (∀ h ∈ G, Lin i h) → 2 ^ i ≤ cnt (2 ^ i) (fitsN G a) * 2 ^ G.length
  | [], _ => by
    have : cnt (2 ^ i) (fitsN [] a) = 2 ^ i := by unfold cnt fitsN; simp
    rw [this]; simp
  | g :: G, h => by
    have h1 := cnt_half (fun h' hh => h h' (by simp [hh])) (h g (by simp)) ha (g := g) (G := G)
    have h2 := cnt_law ha G (fun h' hh => h h' (by simp [hh]))
    rw [List.length_cons, Nat.pow_succ, Nat.mul_comm (2 ^ G.length), ← Nat.mul_assoc]
    exact Nat.le_trans h2 (Nat.mul_le_mul_right _ h1)
theorem cnt_self {i a : Nat} (ha : a < 2 ^ i) (G : List (Nat → Bool)) : 1 ≤ cnt (2 ^ i) (fitsN G a) := by
  unfold cnt
  rw [Nat.one_le_iff_ne_zero, ← Nat.pos_iff_ne_zero, List.countP_pos_iff]
  exact ⟨a, List.mem_range.2 ha, by unfold fitsN; simp⟩
/-- The law's comparison: 'count << min(p, 20) >= 1 << n', for strings of at most nine bits. -/
theorem cnt_min {i a : Nat} (ha : a < 2 ^ i) (hi : i ≤ 9) (G : List (Nat → Bool)) (hG : ∀ h ∈ G, Lin i h) : 2 ^ i ≤ cnt (2 ^ i) (fitsN G a) * 2 ^ (min G.length 20) := by
  by_cases h : G.length ≤ 20
  · rw [Nat.min_eq_left h]; exact cnt_law ha G hG
  · rw [Nat.min_eq_right (by omega)]
    have h1 := cnt_self ha G
    have h2 : 2 ^ i ≤ 2 ^ 20 := Nat.pow_le_pow_right (by omega) (by omega)
    exact Nat.le_trans h2 (Nat.le_mul_of_pos_left _ h1)

/-! ### Parities of places -/
def parL (b : List Bool) (at_ : List Nat) : Bool := at_.foldl (fun o i => o != b.getD i false) false
theorem parL_take {b : List Bool} {L : List Nat} {k i : Nat} (h : L[k]? = some i) : parL b (L.take (k + 1)) = (parL b (L.take k) != b.getD i false) := by
  unfold parL; rw [List.take_add_one, h, List.foldl_append]; rfl
theorem parL_append (b : List Bool) (L M : List Nat) : parL b (L ++ M) = (parL b L != parL b M) := by
  unfold parL
  rw [List.foldl_append]
  have key : ∀ (M : List Nat) (o : Bool), M.foldl (fun o i => o != b.getD i false) o = (o != M.foldl (fun o i => o != b.getD i false) false) := by
    intro M
    induction M with
    | nil => intro o; simp
    | cons x M ih => intro o; rw [List.foldl_cons, ih, List.foldl_cons, ih (false != _)]; cases o <;> cases b.getD x false <;> simp
  rw [key]
def bitsN (i n : Nat) : List Bool := (List.range i).map fun j => n.testBit j
theorem bitsN_get {i n j : Nat} (h : j < i) : (bitsN i n).getD j false = n.testBit j := by
  unfold bitsN; rw [List.getD_eq_getElem?_getD, List.getElem?_map, List.getElem?_range h]; rfl
theorem parL_lin {i : Nat} (L : List Nat) (hL : ∀ j ∈ L, j < i) : Lin i fun n => parL (bitsN i n) L := by
  intro a b _ _
  induction L with
  | nil => rfl
  | cons x L ih =>
    have e : ∀ n, parL (bitsN i n) (x :: L) = (n.testBit x != parL (bitsN i n) L) := fun n => by
      rw [show x :: L = [x] ++ L from rfl, parL_append]
      unfold parL
      simp only [List.foldl_cons, List.foldl_nil]
      rw [bitsN_get (hL x (by simp))]; simp
    simp only at ih ⊢
    rw [e, e, e, ih fun j hj => hL j (by simp [hj]), Nat.testBit_xor]
    cases a.testBit x <;> cases b.testBit x <;> cases parL (bitsN i a) L <;> cases parL (bitsN i b) L <;> rfl
def numB : List Bool → Nat
  | [] => 0
  | x :: b => (if x then 1 else 0) + 2 * numB b
theorem numB_lt : ∀ (b : List Bool), numB b < 2 ^ b.length
  | [] => by simp [numB]
  | x :: b => by
    have := numB_lt b
    rw [numB, List.length_cons, Nat.pow_succ]
    cases x <;> simp <;> omega
/-- A string is the bits of its number. -/
theorem bitsN_num : ∀ (b : List Bool), bitsN b.length (numB b) = b
  | [] => rfl
  | x :: b => by
    have ih := bitsN_num b
    unfold bitsN at ih ⊢
    rw [List.length_cons, List.range_succ_eq_map, List.map_cons, List.map_map]
    have e0 : (numB (x :: b)).testBit 0 = x := by
      rw [Nat.testBit_zero, numB]; cases x <;> simp <;> omega
    have e1 : (fun j => (numB (x :: b)).testBit j) ∘ Nat.succ = fun j => (numB b).testBit j := by
      funext j
      show (numB (x :: b)).testBit (j + 1) = _
      rw [Nat.testBit_succ, numB]
      congr 1
      cases x <;> simp <;> omega
    rw [e0, e1, ih]
/-- The strings that give the same answers as b. -/
theorem same_law (b : List Bool) (hb : b.length ≤ 9) (T : List (List Nat)) (hT : ∀ L ∈ T, ∀ j ∈ L, j < b.length) :
    1 ≤ cnt (2 ^ b.length) (fun n => T.all fun L => parL (bitsN b.length n) L == parL b L) ∧ 2 ^ b.length ≤ cnt (2 ^ b.length) (fun n => T.all fun L => parL (bitsN b.length n) L == parL b L) * 2 ^ (min T.length 20) := by
  have e : (fun n => T.all fun L => parL (bitsN b.length n) L == parL b L) = fitsN (T.map fun L n => parL (bitsN b.length n) L) (numB b) := by
    funext n
    unfold fitsN
    rw [List.all_map]
    simp only [Function.comp_def, bitsN_num]
  have hG : ∀ h ∈ T.map (fun L n => parL (bitsN b.length n) L), Lin b.length h := fun h hh => by
    obtain ⟨L, hL, rfl⟩ := List.mem_map.1 hh
    exact parL_lin L (hT L hL)
  have h2 := cnt_min (numB_lt b) hb _ hG
  rw [List.length_map] at h2
  rw [e]
  exact ⟨cnt_self (numB_lt b) _, h2⟩
end Go.Proofs.Ytchhkokpjdkkiaa

namespace Go.Proofs.Ytchhkokpjdkkiaa
open Go.ChangeShapes Go.WideShapes Go.ChangeAt Go.Deep Go.RowKit

theorem post_of_below {H : Type} {enc : TypeId × Value → H} {P : Program} {f : Func} {s : ChangeSpec} {apart fresh handsOn again : Bool} {W W' : World} {args : Array Value} {v : Value} {ds gs : List (DataW H)} {before pa pv : List MemPlace}
    (hW : DataW.Whole enc P f.params.toList s.vars apart W args.toList ds gs before)
    (hres : ∀ (b : Nat) (sp : Nat → Bool) (hd : Bool), DataW.TrodAll enc P W' b sp hd f.resultTypes.toList (v.resultList f.resultTypes.size) (s.fn H (ds ++ gs)).results [])
    (hargs : ∀ sp : Nat → Bool, (∀ p ∈ before, sp p.block = true) → DataW.TrodAll enc P W' 0 sp true f.params.toList args.toList (s.fn H (ds ++ gs)).args pa)
    (hvars : ∀ sp : Nat → Bool, (∀ p ∈ before, sp p.block = true) → DataW.TrodVars enc P W' sp s.vars (s.fn H (ds ++ gs)).vars pv)
    (hps : before = pa ++ pv) (hb : Below W.heap.size W W')
    (hok : ∀ (j : Nat) (t : TypeId) (r : Value), f.resultTypes[j]? = some t → (v.resultList f.resultTypes.size)[j]? = some r → Value.okWide P W' .any 0 t r) :
    s.post enc P f apart fresh handsOn again W args v W' := by
  have hold : ∀ p ∈ before, (fun b => decide (b < W.heap.size)) p.block = true := fun p hp => by simpa using hW.lt p hp
  have hlt := hW.lt
  refine ⟨ds, gs, before, [], pa, pv, hW, hres _ _ _, hargs _ hold, hvars _ hold, World.keptBut_mono (fun p hp => ⟨hp, ?_⟩) (hb.frame (· ∈ before)), fun _ => ?_⟩
  · rw [hps, List.mem_append] at hp
    exact Or.inr hp
  · obtain ⟨_, _, _, _, _, hz, hn⟩ := hW
    refine ⟨hok, _, _, ([] ++ pa) ++ pv, ⟨[] ++ pa, pv, trodAll_append (hargs _ (fun _ _ => rfl)) (hres _ _ _), hvars _ (fun _ _ => rfl), rfl, ?_, ?_⟩, ?_⟩
    · intro b off hp
      have hm := hp
      rw [List.nil_append, ← hps] at hm
      rw [hb.frozen (show b < W.heap.size from hlt _ hm)]
      exact hz b off hm
    · intro ha
      have := hn ha
      rw [hps] at this
      simpa using this
    · intro p hp _
      rw [hps]
      simpa using hp
theorem Below.same' {W W' : World} (hb : Below W.heap.size W W') {b : Nat} (h : b < W.heap.size) : W'.heap[b]? = W.heap[b]? := hb.block b h

theorem trodAll_keep {H : Type} {enc : TypeId × Value → H} {P : Program} (hl : laidOutB P = true) {W W' : World} (hb : Below W.heap.size W W') {sp : Nat → Bool} :
    ∀ {ts : List TypeId} {vs : List Value} {ds : List (DataW H)} {ps : List MemPlace}, (ts.all fun t => P.readableRec t && decide (t < P.types.size)) = true → DataW.TrodAll enc P W 0 (fun _ => true) true ts vs ds ps →
      (∀ x ∈ ps, x.block < W.heap.size) → (∀ x ∈ ps, sp x.block = true) → DataW.TrodAll enc P W' 0 sp true ts vs ds ps
  | [], [], [], ps, _, h, _, _ => h
  | [], [], _ :: _, _, _, h, _, _ => h.elim
  | [], _ :: _, _, _, _, h, _, _ => h.elim
  | _ :: _, [], _, _, _, h, _, _ => h.elim
  | t :: ts, v :: vs, ds, ps, ht, h, hlt, hsp => by
    simp only [List.all_cons, Bool.and_eq_true, decide_eq_true_eq] at ht
    obtain ⟨v0, vs0, d0, ds0, p0, p1, hvs, rfl, rfl, h0, r0⟩ := trodAll_cons h
    cases hvs
    exact trodAll_cons_mk (WideElems.Trod_stays hl ht.1.1 ht.1.2 h0 (fun x hx => hb.same (hlt x (by simp [hx]))) (fun x hx => hsp x (by simp [hx])))
      (trodAll_keep hl hb ht.2 r0 (fun x hx => hlt x (by simp [hx])) (fun x hx => hsp x (by simp [hx])))

section
variable {H : Type} {enc : TypeId × Value → H} {P : Program} {w : World} {base : Nat} {spare : Nat → Bool} {held : Bool}
theorem open_slice_fields {t e : TypeId} {fs : Array Field} {fuel : Nat} {cs : List Value} {x : DataW H × List MemPlace} (ht : P.underlying t = some (.slice e)) (he : P.underlying e = some (.struct fs))
    (hone : oneCellFields P fs = true) (hC : P.cellsOf e = fs.size) (h : DataW.trod enc P w base spare held fuel t cs = some x) :
    (cs = [.slice none 0 0] ∧ x = (.nil, [])) ∨
    ∃ (a : Addr) (len cap m : Nat) (D : Nat → DataW H) (Pl : Nat → List MemPlace), cs = [.slice (some a) len cap] ∧ base ≤ a.block ∧ len ≤ cap ∧ cap ≤ maxLen ∧ m = (if spare a.block then cap else len) ∧
      x = (.slice ((List.range len).map D) ((List.range (m - len)).map fun j => D (len + j)), MemPlace.row a (m * fs.size) ++ (List.range m).flatMap Pl) ∧
      ∀ i, i < m → ∃ (ys : List (DataW H × List MemPlace)) (n : Nat), D i = .agg (ys.map (·.1)) ∧ Pl i = ys.flatMap (·.2) ∧ ys.length = fs.size ∧
        ∀ (j : Nat) (f : Field), fs[j]? = some f → ∃ (v : Value) (y : DataW H × List MemPlace), w.cell? (a.add (i * fs.size + j)) = some v ∧ ys[j]? = some y ∧ DataW.trod enc P w base spare held n f.type [v] = some y := by
  rcases open_slice ht h with h0 | ⟨a, len, cap, m, n, D, Pl, hcs, hb, hl, hm, hmm, hx, hi⟩
  · exact .inl h0
  · refine .inr ⟨a, len, cap, m, D, Pl, hcs, hb, hl, hm, hmm, by rw [hC] at hx; exact hx, fun i him => ?_⟩
    obtain ⟨cs', hc, ht'⟩ := hi i him
    rw [hC] at hc
    obtain ⟨ys, n', hn', hy, hlen, hyl, hf⟩ := DataW.trod_struct he ht'
    obtain ⟨_, hcl, hat⟩ := World.cells?_some hc
    simp only [Prod.mk.injEq] at hy
    refine ⟨ys, n', hy.1, hy.2, hyl, fun j f hj => ?_⟩
    obtain ⟨ho, hk⟩ := hone_of hone j f hj
    have hjl : j < fs.size := (Array.getElem?_eq_some_iff.1 hj).1
    have hcell := hat j hjl
    have hv : cs'[j]? = some (cs'[j]'(by omega)) := List.getElem?_eq_getElem (by omega)
    have h1 := hf j f hj
    rw [ho, hk] at h1
    have hone' : (cs'.drop j).take 1 = [cs'[j]'(by omega)] := by
      rw [List.drop_eq_getElem_cons (by omega)]
      rfl
    rw [hone'] at h1
    have hys : ys[j]? = some (ys[j]'(by omega)) := List.getElem?_eq_getElem (by omega)
    refine ⟨_, _, ?_, hys, h1.trans hys⟩
    rw [← Go.Deep.add_add, hcell, hv]
end

theorem exists_list {α : Type} (p : Nat → α → Prop) : ∀ (n : Nat), (∀ i, i < n → ∃ x, p i x) → ∃ L : List α, L.length = n ∧ ∀ i x, L[i]? = some x → p i x
  | 0, _ => ⟨[], rfl, by simp⟩
  | n + 1, h => by
    obtain ⟨L, hl, hp⟩ := exists_list p n (fun i hi => h i (by omega))
    obtain ⟨x, hx⟩ := h n (by omega)
    refine ⟨L ++ [x], by simp [hl], fun i y hy => ?_⟩
    by_cases hi : i < n
    · rw [List.getElem?_append_left (by omega)] at hy; exact hp i y hy
    · rw [List.getElem?_append_right (by omega), hl] at hy
      have h0 : i - n = 0 := by
        have := (List.getElem?_eq_some_iff.1 hy).1
        simp at this; omega
      rw [h0] at hy
      have : i = n := by omega
      subst this
      simp at hy; subst hy; exact hx

theorem open_rowsF {α : Type} (e : Enc α) {H : Type} {enc : TypeId × Value → H} {P : Program} {W : World} {t et : TypeId} {fs : Array Field} (ht : P.underlying t = some (.slice et)) (he : P.underlying et = some (.struct fs))
    (hone : oneCellFields P fs = true) (hC : P.cellsOf et = fs.size) (hnf : fs.size = e.nf)
    (hdec : ∀ vs : Nat → Value, (∀ (j : Nat) (f : Field), fs[j]? = some f → ∃ (n : Nat) (y : DataW H × List MemPlace), DataW.trod enc P W 0 (fun _ => true) true n f.type [vs j] = some y) → ∃ x : α, ∀ (j : Nat) (v : Value), (e.cells x)[j]? = some v → vs j = v)
    {fuel : Nat} {cs0 : List Value} {x0 : DataW H × List MemPlace} (hf : DataW.trod enc P W 0 (fun _ => true) true fuel t cs0 = some x0) : ∃ A n c L, cs0 = [.slice A n c] ∧ Rd e W W.heap.size A n c L := by
  rcases open_slice_fields ht he hone hC hf with ⟨hcs, _⟩ | ⟨a, len0, cap0, m, D, Pl, hcs, _, hl, hm, hmm, _, hi⟩
  · subst hcs
    exact ⟨_, _, _, [], rfl, Rd.nil _ _ _ _ (by omega)⟩
  · subst hcs
    have hlm : len0 ≤ m := by rw [hmm]; simp only [if_true]; exact hl
    have hcap : cap0 ≤ 9223372036854775807 := by simpa [maxLen] using hm
    have key : ∀ i, i < len0 → ∃ x : α, ∀ (j : Nat) (u : Value), (e.cells x)[j]? = some u → W.cell? (a.add (i * e.nf + j)) = some u := by
      intro i hil
      obtain ⟨ys, n, _, _, _, hfj⟩ := hi i (by omega)
      have hch : ∃ vs : Nat → Value, ∀ (j : Nat) (f : Field), fs[j]? = some f → W.cell? (a.add (i * fs.size + j)) = some (vs j) ∧ ∃ (n : Nat) (y : DataW H × List MemPlace), DataW.trod enc P W 0 (fun _ => true) true n f.type [vs j] = some y := by
        refine ⟨fun j => (W.cell? (a.add (i * fs.size + j))).getD undef, fun j f hjf => ?_⟩
        obtain ⟨u, y, hc, _, hy⟩ := hfj j f hjf
        simp only [hc, Option.getD_some]
        exact ⟨trivial, n, y, hy⟩
      obtain ⟨vs, hvs⟩ := hch
      obtain ⟨x, hx⟩ := hdec vs (fun j f hjf => (hvs j f hjf).2)
      refine ⟨x, fun j u hu => ?_⟩
      have hj : j < fs.size := by rw [hnf]; exact Enc.cell_lt hu
      have := (hvs j fs[j] (Array.getElem?_eq_getElem hj)).1
      rw [hx j u hu, hnf] at this
      exact this
    obtain ⟨L, hL, hp⟩ := exists_list _ len0 key
    refine ⟨_, _, _, L, rfl, hL, hl, hcap, fun hn => ?_⟩
    obtain ⟨b, off, spot⟩ := a
    have hx0 : L[0]? = some L[0] := List.getElem?_eq_getElem (by omega)
    have hv0 : (e.cells L[0])[0]? = some ((e.cells L[0])[0]'(by rw [e.len]; exact e.pos)) := List.getElem?_eq_getElem (by rw [e.len]; exact e.pos)
    have h0 := hp 0 _ hx0 0 _ hv0
    have hspot : spot = none := by simpa [Addr.add] using World.cell?_spot h0
    subst hspot
    refine ⟨b, off, rfl, ?_, fun i x hx j u hu => ?_⟩
    · rcases Nat.lt_or_ge b W.heap.size with h1 | h1
      · exact h1
      · exfalso
        unfold World.cell? at h0
        rw [addr_add] at h0
        simp [Array.getElem?_eq_none h1] at h0
    · have h1 := hp i x hx j u hu
      rw [addr_add, ← Nat.add_assoc] at h1
      exact h1

section
variable {H : Type} {enc : TypeId × Value → H} {W : World} {r : Reach} {b0 : Nat} {v : Value} {d : DataW H} {ps : List MemPlace}
set_option maxRecDepth 100000 in
theorem u8_nat {x : Int} (h : (Lit.int .u8 x).wf = true) : ∃ q : Nat, x = q ∧ q < 256 := by
  have h0 : 0 ≤ x ∧ x < 256 := by simp [Lit.wf, IntKind.min, IntKind.max, IntKind.signed, IntKind.bits] at h; omega
  obtain ⟨q, rfl⟩ := Int.eq_ofNat_of_zero_le h0.1
  exact ⟨q, rfl, by omega⟩
theorem u64_natB {x : Int} (h : (Lit.int .u64 x).wf = true) : ∃ q : Nat, x = q ∧ q < 18446744073709551616 := by
  have h0 : 0 ≤ x ∧ x < 18446744073709551616 := by simp [Lit.wf, IntKind.min, IntKind.max, IntKind.signed, IntKind.bits] at h; omega
  obtain ⟨q, rfl⟩ := Int.eq_ofNat_of_zero_le h0.1
  exact ⟨q, rfl, by omega⟩
theorem take1 {l : List Value} {j : Nat} {u : Value} (h : (l.drop j).take 1 = [u]) : l[j]? = some u := by
  have h0 : ((l.drop j).take 1)[0]? = some u := by rw [h]; rfl
  rw [List.getElem?_take, if_pos (by omega), List.getElem?_drop] at h0
  simpa using h0
end
section
variable {H : Type} {enc : TypeId × Value → H} {P : Program} {W : World} {r : Reach} {b0 : Nat} {v : Value} {d : DataW H} {ps : List MemPlace}
/-- A slice of elements of one cell. -/
theorem open_rows1 {α : Type} (e : Enc α) (hnf : e.nf = 1) {t et : TypeId} (ht : P.underlying t = some (.slice et)) (hC : P.cellsOf et = 1)
    (hdec : ∀ (vs : List Value) (n : Nat) (y : DataW H × List MemPlace), vs.length = 1 → DataW.trod enc P W 0 (fun _ => true) true n et vs = some y → ∃ x : α, vs = e.cells x)
    {fuel : Nat} {cs0 : List Value} {x0 : DataW H × List MemPlace} (hf : DataW.trod enc P W 0 (fun _ => true) true fuel t cs0 = some x0) : ∃ A n c L, cs0 = [.slice A n c] ∧ Rd e W W.heap.size A n c L := by
  rcases open_slice ht hf with ⟨hcs, _⟩ | ⟨a, len0, cap0, m, n, D, Pl, hcs, _, hl, hm, hmm, _, hi⟩
  · subst hcs
    exact ⟨_, _, _, [], rfl, Rd.nil _ _ _ _ (by omega)⟩
  · subst hcs
    have hlm : len0 ≤ m := by rw [hmm]; simp only [if_true]; exact hl
    have hcap : cap0 ≤ 9223372036854775807 := by simpa [maxLen] using hm
    have key : ∀ i, i < len0 → ∃ x : α, ∀ u, e.cells x = [u] → W.cell? (a.add i) = some u := by
      intro i hil
      obtain ⟨cs', hc, ht'⟩ := hi i (by omega)
      rw [hC] at hc
      rw [Nat.mul_one] at hc
      obtain ⟨_, hcl, hat⟩ := World.cells?_some hc
      obtain ⟨x, rfl⟩ := hdec cs' n _ hcl ht'
      refine ⟨x, fun u hu => ?_⟩
      have h0 := hat (i := 0) (by omega)
      rw [Go.Deep.add_add, Nat.add_zero] at h0
      rw [h0]
      simp [hu]
    obtain ⟨L, hL, hp⟩ := exists_list _ len0 key
    have one : ∀ x : α, ∃ u, e.cells x = [u] := fun x => by
      have := e.len x
      rw [hnf] at this
      exact List.length_eq_one_iff.1 this
    refine ⟨_, _, _, L, rfl, hL, hl, hcap, fun hn => ?_⟩
    obtain ⟨b, off, spot⟩ := a
    obtain ⟨u0, hu0⟩ := one L[0]
    have h0 := hp 0 _ (List.getElem?_eq_getElem (by omega)) u0 hu0
    have hspot : spot = none := by simpa [Addr.add] using World.cell?_spot h0
    subst hspot
    refine ⟨b, off, rfl, ?_, fun i x hx j u hu => ?_⟩
    · rcases Nat.lt_or_ge b W.heap.size with h1 | h1
      · exact h1
      · exfalso
        unfold World.cell? at h0
        rw [addr_add] at h0
        simp [Array.getElem?_eq_none h1] at h0
    · obtain ⟨u', hu'⟩ := one x
      have h1 := hp i x hx u' hu'
      rw [hu'] at hu
      have hj : j = 0 := by
        have := (List.getElem?_eq_some_iff.1 hu).1
        simp at this; omega
      subst hj
      obtain rfl := Option.some.inj hu
      rw [addr_add] at h1
      rw [hnf, Nat.mul_one, Nat.add_zero]
      exact h1
end
def eU16 : Enc (Fin 65536) := ⟨1, fun x => [.int .u16 (x.val : Int)], fun _ => rfl, by simp [Value.oneCell'], Nat.one_pos⟩
theorem u16_nat {x : Int} (h : (Lit.int .u16 x).wf = true) : ∃ q : Nat, x = q ∧ q < 65536 := by
  have h0 : 0 ≤ x ∧ x < 65536 := by simp [Lit.wf, IntKind.min, IntKind.max, IntKind.signed, IntKind.bits] at h; omega
  obtain ⟨q, rfl⟩ := Int.eq_ofNat_of_zero_le h0.1
  exact ⟨q, rfl, by omega⟩
/-- What of a job is not a list. -/
structure Jb where
  p : Nat
  bl : Nat
  sa : Nat
  ma : Nat
  wi : Nat
  ep : Nat
  sd : Nat
  ok : p < 256 ∧ bl < 256 ∧ sa < 256 ∧ ma < 256 ∧ wi < 256 ∧ ep < 256 ∧ sd < 18446744073709551616
def jobV (x : Jb) (A0 : Option Addr) (n0 c0 : Nat) (A1 : Option Addr) (n1 c1 : Nat) : Array Value :=
  #[.slice A0 n0 c0, .slice A1 n1 c1, .int .u8 x.p, .int .u8 x.bl, .int .u8 x.sa, .int .u8 x.ma, .int .u8 x.wi, .int .u8 x.ep, .int .u64 x.sd]
section
variable {H : Type} {enc : TypeId × Value → H} {W : World} {r : Reach} {b0 : Nat} {v : Value} {d : DataW H} {ps : List MemPlace}
set_option maxRecDepth 100000 in
theorem open_bools {fuel : Nat} {cs : List Value} {x : DataW H × List MemPlace} (h : DataW.trod enc Try.prog W 0 (fun _ => true) true fuel 22 cs = some x) : ∃ A n c L, cs = [.slice A n c] ∧ Rd eBool W W.heap.size A n c L :=
  open_rows1 eBool rfl Try.underlying22 (by kernel_rfl) (fun vs n y hl h => by
    obtain ⟨b, e0, _⟩ := DataW.trod_bool Try.underlying4 h
    exact ⟨b, e0⟩) h
set_option maxRecDepth 100000 in
theorem open_u16s {fuel : Nat} {cs : List Value} {x : DataW H × List MemPlace} (h : DataW.trod enc Try.prog W 0 (fun _ => true) true fuel 23 cs = some x) : ∃ A n c L, cs = [.slice A n c] ∧ Rd eU16 W W.heap.size A n c L :=
  open_rows1 eU16 rfl Try.underlying23 (by kernel_rfl) (fun vs n y hl h => by
    obtain ⟨q, e0, _, g0⟩ := DataW.trod_int Try.underlying87 h
    obtain ⟨q, rfl, hq⟩ := u16_nat g0
    exact ⟨⟨q, hq⟩, e0⟩) h
set_option maxRecDepth 100000 in
theorem open_job (hv : Value.okWide Try.prog W r b0 26 v) (h : DataW.Trod enc Try.prog W 0 (fun _ => true) true 26 v d ps) : ∃ x A0 n0 c0 B0 A1 n1 c1 E0, v = .agg (jobV x A0 n0 c0 A1 n1 c1) ∧ Rd eBool W W.heap.size A0 n0 c0 B0 ∧ Rd eU16 W W.heap.size A1 n1 c1 E0 := by
  obtain ⟨cs, rfl, hsz⟩ := okWide_struct Try.underlying26 hv
  obtain ⟨fuel, hf⟩ := h
  obtain ⟨xs, m, _, _, _, hl, hx⟩ := DataW.trod_struct Try.underlying26 hf
  have hc9 : Try.prog.cellsOf 26 = 9 := by kernel_rfl
  have c8 : Try.prog.cellsOf 5 = 1 := by kernel_rfl
  have c64 : Try.prog.cellsOf 24 = 1 := by kernel_rfl
  have cB : Try.prog.cellsOf 22 = 1 := by kernel_rfl
  have cU : Try.prog.cellsOf 23 = 1 := by kernel_rfl
  rw [hc9] at hsz
  have hl9 : xs.length = 9 := hl
  have hcells : (Value.agg cs).cells = cs := rfl
  rw [hcells] at hx
  have h0 : DataW.trod enc Try.prog W 0 (fun _ => true) true m 22 ((cs.toList.drop 0).take (Try.prog.cellsOf 22)) = xs[0]? := hx 0 _ rfl
  have h1 : DataW.trod enc Try.prog W 0 (fun _ => true) true m 23 ((cs.toList.drop 1).take (Try.prog.cellsOf 23)) = xs[1]? := hx 1 _ rfl
  have h2 : DataW.trod enc Try.prog W 0 (fun _ => true) true m 5 ((cs.toList.drop 2).take (Try.prog.cellsOf 5)) = xs[2]? := hx 2 _ rfl
  have h3 : DataW.trod enc Try.prog W 0 (fun _ => true) true m 5 ((cs.toList.drop 3).take (Try.prog.cellsOf 5)) = xs[3]? := hx 3 _ rfl
  have h4 : DataW.trod enc Try.prog W 0 (fun _ => true) true m 5 ((cs.toList.drop 4).take (Try.prog.cellsOf 5)) = xs[4]? := hx 4 _ rfl
  have h5 : DataW.trod enc Try.prog W 0 (fun _ => true) true m 5 ((cs.toList.drop 5).take (Try.prog.cellsOf 5)) = xs[5]? := hx 5 _ rfl
  have h6 : DataW.trod enc Try.prog W 0 (fun _ => true) true m 5 ((cs.toList.drop 6).take (Try.prog.cellsOf 5)) = xs[6]? := hx 6 _ rfl
  have h7 : DataW.trod enc Try.prog W 0 (fun _ => true) true m 5 ((cs.toList.drop 7).take (Try.prog.cellsOf 5)) = xs[7]? := hx 7 _ rfl
  have h8 : DataW.trod enc Try.prog W 0 (fun _ => true) true m 24 ((cs.toList.drop 8).take (Try.prog.cellsOf 24)) = xs[8]? := hx 8 _ rfl
  rw [List.getElem?_eq_getElem (by omega)] at h0 h1 h2 h3 h4 h5 h6 h7 h8
  rw [cB] at h0
  obtain ⟨A0, n0, k0, B0, e0, r0⟩ := open_bools h0
  rw [cU] at h1
  obtain ⟨A1, n1, k1, E0, e1, r1⟩ := open_u16s h1
  rw [c8] at h2
  obtain ⟨x2, e2, _, g2⟩ := DataW.trod_int Try.underlying5 h2
  obtain ⟨x2, rfl, m2⟩ := u8_nat g2
  rw [c8] at h3
  obtain ⟨x3, e3, _, g3⟩ := DataW.trod_int Try.underlying5 h3
  obtain ⟨x3, rfl, m3⟩ := u8_nat g3
  rw [c8] at h4
  obtain ⟨x4, e4, _, g4⟩ := DataW.trod_int Try.underlying5 h4
  obtain ⟨x4, rfl, m4⟩ := u8_nat g4
  rw [c8] at h5
  obtain ⟨x5, e5, _, g5⟩ := DataW.trod_int Try.underlying5 h5
  obtain ⟨x5, rfl, m5⟩ := u8_nat g5
  rw [c8] at h6
  obtain ⟨x6, e6, _, g6⟩ := DataW.trod_int Try.underlying5 h6
  obtain ⟨x6, rfl, m6⟩ := u8_nat g6
  rw [c8] at h7
  obtain ⟨x7, e7, _, g7⟩ := DataW.trod_int Try.underlying5 h7
  obtain ⟨x7, rfl, m7⟩ := u8_nat g7
  rw [c64] at h8
  obtain ⟨x8, e8, _, g8⟩ := DataW.trod_int Try.underlying24 h8
  obtain ⟨x8, rfl, m8⟩ := u64_natB g8
  refine ⟨⟨x2, x3, x4, x5, x6, x7, x8, ⟨m2, m3, m4, m5, m6, m7, m8⟩⟩, A0, n0, k0, B0, A1, n1, k1, E0, congrArg Value.agg (Array.toList_inj.1 (List.ext_getElem? fun j => ?_)), r0, r1⟩
  match j with
  | 0 => rw [take1 e0]; rfl
  | 1 => rw [take1 e1]; rfl
  | 2 => rw [take1 e2]; rfl
  | 3 => rw [take1 e3]; rfl
  | 4 => rw [take1 e4]; rfl
  | 5 => rw [take1 e5]; rfl
  | 6 => rw [take1 e6]; rfl
  | 7 => rw [take1 e7]; rfl
  | 8 => rw [take1 e8]; rfl
  | j + 9 => rw [List.getElem?_eq_none (by simp; omega), List.getElem?_eq_none (by simp [jobV])]
end
end Go.Proofs.Ytchhkokpjdkkiaa
