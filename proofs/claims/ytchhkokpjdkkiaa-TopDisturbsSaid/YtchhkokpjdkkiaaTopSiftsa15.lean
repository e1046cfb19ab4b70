/- Contract of sift's Sent at slots that rise (the Top seat). Plain laws of the sifted keys: what is announced, kept, known, and what the channel did to it. Plain Lean; no program. -/
import Derived.Test.YtchhkokpjdkkiaaTopSiftsa14
import Derived.Deep.DeepCutAuto
namespace Go.Proofs.Ytchhkokpjdkkiaa
open Go.RowKit

def bitsOf (P : List Pu) (S : List Nat) : List Bool := S.map fun i => match P[i]? with | some p => p.bit | none => false
theorem bits_take {P : List Pu} {S : List Nat} {k i : Nat} {p : Pu} {m : Nat} (hi : S[k]? = some i) (hp : P[i]? = some p) (hm : S.length = m) : (bitsOf P (S.take k) ++ List.replicate (m - k) false).set k p.bit = bitsOf P (S.take (k + 1)) ++ List.replicate (m - (k + 1)) false := by
  have hk : k < S.length := (List.getElem?_eq_some_iff.1 hi).1
  have hl : (bitsOf P (S.take k)).length = k := by simp [bitsOf]; omega
  rw [List.set_append_right _ _ (by omega), hl, Nat.sub_self]
  have e : m - k = (m - (k + 1)) + 1 := by omega
  rw [e, List.replicate_succ, List.set_cons_zero]
  have : bitsOf P (S.take (k + 1)) = bitsOf P (S.take k) ++ [p.bit] := by
    unfold bitsOf; rw [List.take_add_one, hi, List.map_append]; simp [hp]
  rw [this, List.append_assoc]; rfl
set_option maxRecDepth 100000 in
set_option maxHeartbeats 1600000 in
theorem sent_c (A : Option Addr) (n c : Nat) (P : List Pu) (A' : Option Addr) (m c' : Nat) (S : List Nat) (w : World) (p : Rd ePu w w.heap.size A n c P) (q : Rd eNat w w.heap.size A' m c' S) (hP : pulsesErr P = 0) (hS : Rising S 0 ((n : Int) - 1)) (hn : n ≤ 4096) (hm : m ≤ 4096) :
    Calls Try.prog 18 #[.slice A n c, .slice A' m c'] w fun e w' => ∃ B d, e = .returned (.tuple #[.slice B m d, .int .i64 0]) ∧ Rd eBool w' w'.heap.size B m d (bitsOf P S) ∧ Below w.heap.size w w' := by
  have hpc := p.cap
  have hpm := p.max
  have hqc := q.cap
  have hqm := q.max
  have HPL := hide p.len
  have HQL := hide q.len
  have hck := checkPulses_c A n c P w p
  rw [hP] at hck
  have HCK := hide hck
  have HCS := hide (fun W (h : Below w.heap.size w W) => checkSlots_c A' m c' S 0 ((n : Int) - 1) W (q.on h) hS)
  have HS := hide hS
  have hsub : IntKind.i64.wrap ((n : Int) - 1) = (n : Int) - 1 := by simp only [IntKind.wrap, IntKind.bits, IntKind.signed]; simp; omega
  clear hck hP hS
  go_enter Try.func18, Try.ntmps18
  go_upto_region 4 with (go_at_call 44; refine HCK.out.mono ?_; rintro e w1 ⟨rfl, hb1⟩)
  go_upto_region 7 with (go_at_call 46; refine (HCS.out w1 hb1).mono ?_; rintro e w2 ⟨rfl, hq⟩; rw [hq]; clear hq)
  go_upto_region 8 with (at_make; refine wl_mk eBool _ rfl _ _ _ rfl 4 (.bool false) 1 false Try.underlying22 info_bool rfl (by omega) _ _ m (by rfl) (by rfl) rfl rfl (by omega) ?_; intro w7 o7 hg7 hlt7)
  have hb7 : Below w1.heap.size w1 w7 := ⟨hg7.os, hg7.tape, hg7.output, hg7.size, fun i hi => hg7.block i hi (by simp)⟩
  obtain ⟨gK, hgK⟩ : ∃ x, x = w1.heap.size := ⟨_, rfl⟩
  rw [← hgK] at o7 ⊢
  have HGK := hide hgK
  clear hgK hg7 hlt7 hsub HCK HCS
  go_wp2
  go_loopw [29] (fun iv wr => ∃ k : Nat, k ≤ m ∧ iv = .int .i64 k ∧ Ow eBool wr gK 4 (some ⟨gK, 0, none⟩) m m (bitsOf P (S.take k) ++ List.replicate (m - k) false) ∧ Below w1.heap.size w1 wr) (fun iv _ => m - (intOf iv).toNat)
  case atStart => exact ⟨0, Nat.zero_le _, rfl, by simpa [bitsOf] using o7, hb7⟩
  case round =>
    clear o7 hb7
    obtain ⟨k, hk, rfl, o3, hbw⟩ := hrel
    by_cases hlt : k < m
    · obtain ⟨b1, o1, i, rfl, hbb1, hi, hc1⟩ := (q.on (below_on hb1 hbw)).get hlt
      have x0 := hc1 0 _ rfl
      simp only [eNat, Nat.add_zero, Nat.mul_one] at x0
      have hin : i < n := by have := (HS.out.1 k i hi).2; omega
      obtain ⟨b2, o2, y, rfl, hbb2, hy, hc2⟩ := (p.on (below_on hb1 hbw)).get hin
      have y1 := hc2 1 _ rfl
      simp only [ePu] at y1
      have HB := hide (bits_take hi hy HQL.out)
      have hkf := o3.frozen k
      obtain ⟨g, v, eg, _, hgl, hv, hcv⟩ := o3.get hlt
      injection eg with eg
      injection eg with eg
      subst eg
      have k0 := hcv 0 _ rfl
      simp only [eBool, Nat.add_zero, Nat.mul_one] at k0
      have hi0 : (0 : Int) ≤ (i : Int) := by omega
      have hi1 : (i : Int) < (n : Int) := by omega
      have HO := hide (o3.store1 hlt y.bit rfl rfl)
      have H9 := hide (hbw.setCell (p := ⟨gK, k, none⟩) (by have := HGK.out; simp only; omega) (.bool y.bit))
      obtain ⟨pb, pbit, pcl, pph, pseen⟩ := y
      simp only at y1 HO H9 HB
      clear hc1 hc2 hcv hi hy hv hbb1 hbb2 o3 hbw
      go_wp2
      go_roundw
      case rel => exact ⟨k + 1, by omega, by go_num, by rw [← HB.out]; exact HO.out, H9.out⟩
      case measure => simp [intOf] <;> omega
    · obtain rfl : k = m := by omega
      have HR := hide (show Rd eBool wr wr.heap.size (some ⟨gK, 0, none⟩) k k (bitsOf P S) by
        have h := o3.rd
        rw [List.take_of_length_le (by have := HQL.out; omega), Nat.sub_self, List.replicate_zero, List.append_nil] at h
        exact h)
      go_wp2
      go_ret2
      exact ⟨_, _, rfl, HR.out, below_on hb1 hbw⟩
end Go.Proofs.Ytchhkokpjdkkiaa

namespace Go.Proofs.Ytchhkokpjdkkiaa
open Go.RowKit

/-! ### What is announced -/
structure He where
  s : Nat
  b : Int
def eHe : Enc He := ⟨2, fun p => [.int .i64 p.s, .int .i64 p.b], fun _ => rfl, by simp [Value.oneCell'], by omega⟩
def single (c : Ck) : Bool := decide (c.k = 1 ∨ c.k = 2)
def hear1 (C : List Ck) (sh fr n : Nat) (j : Nat) : Option He := match C[j]? with
  | some c => if single c = true ∧ fr + sh ≤ j ∧ j < n + sh then some ⟨j - sh, c.b⟩ else none
  | none => none
def hearL (C : List Ck) (sh fr n m : Nat) : List He := (List.range m).filterMap (hear1 C sh fr n)
section
variable {C : List Ck} {sh fr n m : Nat} {c : Ck}
theorem hearL_yes (hc : C[m]? = some c) (h : single c = true) (h1 : fr + sh ≤ m) (h2 : m < n + sh) : hearL C sh fr n (m + 1) = hearL C sh fr n m ++ [⟨m - sh, c.b⟩] := by
  unfold hearL; rw [List.range_succ, List.filterMap_append]; simp [hear1, hc, h, h1, h2]
theorem hearL_no (hc : C[m]? = some c) (h : ¬ (single c = true ∧ fr + sh ≤ m ∧ m < n + sh)) : hearL C sh fr n (m + 1) = hearL C sh fr n m := by
  unfold hearL; rw [List.range_succ, List.filterMap_append]; simp only [hear1, hc, List.filterMap_cons, List.filterMap_nil]; rw [if_neg h]; simp
theorem hearL_len : (hearL C sh fr n m).length ≤ m := by
  unfold hearL
  have := List.length_filterMap_le (hear1 C sh fr n) (List.range m)
  simpa using this
theorem hear1_some {j : Nat} {x : He} (h : hear1 C sh fr n j = some x) : ∃ c, C[j]? = some c ∧ single c = true ∧ fr + sh ≤ j ∧ j < n + sh ∧ x = ⟨j - sh, c.b⟩ := by
  unfold hear1 at h
  split at h
  · rename_i c hc
    split at h
    · rename_i h1
      exact ⟨c, hc, h1.1, h1.2.1, h1.2.2, (Option.some.inj h).symm⟩
    · cases h
  · cases h
theorem mem_hearL {x : He} : x ∈ hearL C sh fr n m ↔ ∃ j c, j < m ∧ C[j]? = some c ∧ single c = true ∧ fr + sh ≤ j ∧ j < n + sh ∧ x = ⟨j - sh, c.b⟩ := by
  unfold hearL
  rw [List.mem_filterMap]
  constructor
  · rintro ⟨j, hj, h⟩
    obtain ⟨c, h1, h2, h3, h4, h5⟩ := hear1_some h
    exact ⟨j, c, List.mem_range.1 hj, h1, h2, h3, h4, h5⟩
  · rintro ⟨j, c, h0, h1, h2, h3, h4, h5⟩
    refine ⟨j, List.mem_range.2 h0, ?_⟩
    unfold hear1; rw [h1]; simp only; rw [if_pos ⟨h2, h3, h4⟩, h5]
theorem hearL_pair : (hearL C sh fr n m).Pairwise fun x y => x.s < y.s := by
  unfold hearL
  rw [List.pairwise_filterMap]
  refine List.pairwise_lt_range.imp ?_
  intro a b hab x hx y hy
  obtain ⟨c, _, _, h1, _, rfl⟩ := hear1_some hx
  obtain ⟨d, _, _, h2, _, rfl⟩ := hear1_some hy
  simp only; omega
end
theorem pair_next {α : Type} {R : α → α → Prop} {L : List α} (h : L.Pairwise R) {i : Nat} {x y : α} (hx : L[i]? = some x) (hy : L[i + 1]? = some y) : R x y := by
  obtain ⟨h1, rfl⟩ := List.getElem?_eq_some_iff.1 hx
  obtain ⟨h2, rfl⟩ := List.getElem?_eq_some_iff.1 hy
  exact (List.pairwise_iff_getElem.1 h) i (i + 1) h1 h2 (by omega)
/-- What is heard rises, from a least slot to a greatest one, with bases. -/
def RisingH (H : List He) (l m : Int) : Prop := (∀ (i : Nat) (x : He), H[i]? = some x → (l ≤ (x.s : Int) ∧ (x.s : Int) ≤ m) ∧ 0 ≤ x.b ∧ x.b ≤ 1) ∧ ∀ (i : Nat) (x y : He), H[i]? = some x → H[i + 1]? = some y → x.s < y.s
theorem hearL_rising {C : List Ck} {sh fr n m : Nat} (hC : C.all okCk = true) : RisingH (hearL C sh fr n m) fr ((n : Int) - 1) := by
  refine ⟨fun i x hx => ?_, fun i x y => pair_next hearL_pair⟩
  obtain ⟨j, c, h0, h1, h2, h3, h4, rfl⟩ := mem_hearL.1 (List.mem_of_getElem? hx)
  have hc := List.all_eq_true.1 hC _ (List.mem_of_getElem? h1)
  simp only [okCk, decide_eq_true_eq] at hc
  simp only
  omega

/-! ### What is kept -/
def keeps (P : List Pu) (h : He) : Bool := match P[h.s]? with
  | some p => p.seen && decide (p.b = h.b)
  | none => false
def keptL (P : List Pu) (H : List He) : List Nat := (H.filter (keeps P)).map He.s
theorem keptL_yes {P : List Pu} {H : List He} {k : Nat} {x : He} (hx : H[k]? = some x) (h : keeps P x = true) : keptL P (H.take (k + 1)) = keptL P (H.take k) ++ [x.s] := by
  unfold keptL; rw [List.take_add_one, hx, List.filter_append, List.map_append]; simp [h]
theorem keptL_no {P : List Pu} {H : List He} {k : Nat} {x : He} (hx : H[k]? = some x) (h : keeps P x = false) : keptL P (H.take (k + 1)) = keptL P (H.take k) := by
  unfold keptL; rw [List.take_add_one, hx, List.filter_append, List.map_append]; simp [h]
theorem keptL_len (P : List Pu) (H : List He) : (keptL P H).length ≤ H.length := by
  unfold keptL; rw [List.length_map]; exact List.length_filter_le _ _
section
variable {P : List Pu} {C : List Ck} {sh fr n m : Nat}
/-- Slot i is kept. -/
def isKept (P : List Pu) (C : List Ck) (sh fr i : Nat) : Bool := decide (fr ≤ i) && agr C sh i (P.getD i ⟨0, false, 0, 0, false⟩)
theorem mem_kept {i : Nat} : i ∈ keptL P (hearL C sh fr n m) ↔ fr ≤ i ∧ i < n ∧ i + sh < m ∧ ∃ p c, P[i]? = some p ∧ C[i + sh]? = some c ∧ single c = true ∧ p.seen = true ∧ p.b = c.b := by
  unfold keptL
  rw [List.mem_map]
  constructor
  · rintro ⟨x, hx, rfl⟩
    obtain ⟨h1, h2⟩ := List.mem_filter.1 hx
    obtain ⟨j, c, g0, g1, g2, g3, g4, rfl⟩ := mem_hearL.1 h1
    unfold keeps at h2
    simp only at h2 ⊢
    split at h2
    · rename_i p hp
      simp only [Bool.and_eq_true, decide_eq_true_eq] at h2
      exact ⟨by omega, by omega, by omega, p, c, hp, by rw [show j - sh + sh = j by omega]; exact g1, g2, h2.1, h2.2⟩
    · cases h2
  · rintro ⟨h1, h2, h3, p, c, hp, hc, g1, g2, g3⟩
    refine ⟨⟨i, c.b⟩, List.mem_filter.2 ⟨mem_hearL.2 ⟨i + sh, c, h3, hc, g1, by omega, by omega, by simp⟩, ?_⟩, rfl⟩
    unfold keeps; simp [hp, g2, g3]
theorem kept_pair : (keptL P (hearL C sh fr n m)).Pairwise (· < ·) := by
  unfold keptL
  rw [List.pairwise_map]
  exact hearL_pair.filter _
theorem kept_rising {t : Int} (hm : (m : Int) - 1 - sh ≤ t) : Rising (keptL P (hearL C sh fr n m)) 0 t := by
  refine ⟨fun i x hx => ?_, fun i x y => pair_next kept_pair⟩
  obtain ⟨h1, h2, h3, _⟩ := mem_kept.1 (List.mem_of_getElem? hx)
  omega
end

/-! ### A channel that only loses, measures, splits and shifts -/
def Calm (L : List Ru) : Prop := ∀ r ∈ L, r.k = 1 ∨ r.k = 3 ∨ r.k = 4 ∨ r.k = 5
theorem act1_calm {r : Ru} {i : Nat} {x : Li} {s : Nat} (hk : r.k = 1 ∨ r.k = 3 ∨ r.k = 4 ∨ r.k = 5) (hd : x.bright = false) :
    (act1 r i x s).1.bright = false ∧ ((∀ z ∈ (act1 r i x s).2.1, z.how = 1 → z.b = x.b) → (act1 r i x s).1.b = x.b ∧ (act1 r i x s).1.bit = x.bit) := by
  unfold act1
  by_cases hc : covers r i = true
  · rw [if_pos hc]
    unfold actF
    rcases hk with hk | hk | hk | hk
    · rw [if_neg (by omega), if_neg (by simp [hd]), if_pos hk]
      exact ⟨rfl, fun _ => ⟨rfl, rfl⟩⟩
    · rw [if_neg (by omega), if_neg (by simp [hd]), if_neg (by omega), if_neg (by omega), if_neg (by omega), if_neg (by omega), if_neg (by omega)]
      exact ⟨hd, fun _ => ⟨rfl, rfl⟩⟩
    · rw [if_neg (by omega), if_neg (by simp [hd]), if_neg (by omega), if_neg (by omega), if_neg (by omega), if_neg (by omega), if_pos hk]
      split
      · exact ⟨hd, fun _ => ⟨rfl, rfl⟩⟩
      · split
        · split
          · rename_i h; exact ⟨rfl, fun _ => ⟨h, rfl⟩⟩
          · rename_i h; exact ⟨rfl, fun h' => absurd (h' _ (List.mem_singleton.2 rfl) rfl) h⟩
        · exact ⟨hd, fun _ => ⟨rfl, rfl⟩⟩
    · rw [if_neg (by omega), if_neg (by simp [hd]), if_neg (by omega), if_neg (by omega), if_neg (by omega), if_pos hk]
      split
      · exact ⟨rfl, fun _ => ⟨rfl, rfl⟩⟩
      · exact ⟨hd, fun _ => ⟨rfl, rfl⟩⟩
  · rw [if_neg hc]; exact ⟨hd, fun _ => ⟨rfl, rfl⟩⟩
theorem chan_calm {i : Nat} : ∀ (L : List Ru) (x : Li) (s : Nat), Calm L → x.bright = false →
    (chan i L x s).1.bright = false ∧ ((∀ z ∈ (chan i L x s).2.1, z.how = 1 → z.b = x.b) → (chan i L x s).1.b = x.b ∧ (chan i L x s).1.bit = x.bit)
  | [], x, s, _, hd => ⟨hd, fun _ => ⟨rfl, rfl⟩⟩
  | r :: L, x, s, hL, hd => by
    obtain ⟨hd', hs⟩ := act1_calm (i := i) (s := s) (hL r (by simp)) hd
    have ih := chan_calm (i := i) L (act1 r i x s).1 (act1 r i x s).2.2 (fun r' h => hL r' (by simp [h])) hd'
    rw [chan]
    refine ⟨ih.1, fun h => ?_⟩
    simp only at h ⊢
    obtain ⟨e1, e2⟩ := hs fun z hz => h z (by simp [hz])
    obtain ⟨g1, g2⟩ := ih.2 (fun z hz hh => by rw [e1]; exact h z (by simp [hz]) hh)
    exact ⟨g1.trans e1, g2.trans e2⟩
theorem ltAt_shift {L : List Li} {sh i : Nat} {x : Li} (h : L[i]? = some x) : ltAt L sh (i + sh) = x := ltAt_in (j := i) (by omega) h
/-- A kept slot that is wrong was measured in another basis. -/
theorem wrong_calm {L : List Ru} {P : List Pu} {s t n sh i : Nat} {eta : Int} (hL : Calm L) (hn : P.length = n) {p : Pu} {c : Ck} (hp : P[i]? = some p) (hi : i + sh < n)
    (hc : (dets eta 0 sh (carrF L P s n).1 t n).1[i + sh]? = some c) (hs : single c = true) (hb : p.b = c.b) (hN : ∀ y ∈ (carrF L P s n).2.1, y.slot = i → y.how = 1 → y.b = p.b) : p.bit = decide (c.k = 2) := by
  have hx := carrF_get (L := L) (s := s) hp n (by omega) (show i < n by omega)
  have hc' := dets_get (eta := eta) (dark := 0) (sh := sh) (L := (carrF L P s n).1) (s := t) n hi
  rw [ltAt_shift hx] at hc'
  rw [hc'] at hc
  have hc := Option.some.inj hc
  obtain ⟨g1, g2⟩ := chan_calm (i := i) L (liOf p) (carrF L P s i).2.2 hL rfl
  obtain ⟨e1, e2⟩ := g2 fun z hz hh => hN z ((carrF_mem n (by omega)).2 ⟨i, p, by omega, hp, hz⟩) (chan_slot L _ _ hz) hh
  have hk : c.k = 1 ∨ c.k = 2 := by simpa [single] using hs
  unfold normL at hc
  split at hc
  · have := detF_bit (eta := eta) g1 (by rw [hc, ← hb, e1]; rfl) (by rw [hc]; exact hk)
    rw [e2, hc] at this
    exact this
  · rw [← hc, detF_none (x := li0) rfl (by simp [li0])] at hk
    omega

/-! ### What the eavesdropper knows -/
def knowing (p : Pu) (i : Nat) (y : No) : Bool := decide (y.slot = i) && (decide (y.how = 2) || decide (y.b = p.b))
theorem mark_len (P : List Pu) (K : List Bool) (y : No) : (mark P K y).length = K.length := by
  unfold mark
  repeat' split
  all_goals simp
theorem marks_len (P : List Pu) (N : List No) : (marks P N).length = P.length := by
  unfold marks
  have : ∀ (N : List No) (K : List Bool), (N.foldl (mark P) K).length = K.length := by
    intro N
    induction N with
    | nil => intro K; rfl
    | cons y N ih => intro K; rw [List.foldl_cons, ih, mark_len]
  rw [this]; simp
theorem marks_knows {P : List Pu} {i : Nat} {p : Pu} (hp : P[i]? = some p) {N : List No} (hN : ∀ y ∈ N, 0 ≤ y.slot) : (marks P N)[i]? = some (N.any (knowing p i)) := by
  have hi : i < P.length := (List.getElem?_eq_some_iff.1 hp).1
  have key : ∀ (N : List No) (K : List Bool), K.length = P.length → (∀ y ∈ N, 0 ≤ y.slot) → (N.foldl (mark P) K)[i]? = some (K.getD i false || N.any (knowing p i)) := by
    intro N
    induction N with
    | nil =>
      intro K hK _
      simp only [List.foldl_nil, List.any_nil, Bool.or_false]
      rw [List.getD_eq_getElem?_getD, List.getElem?_eq_getElem (by omega)]; rfl
    | cons y N ih =>
      intro K hK hN
      have h0 := hN y (by simp)
      rw [List.foldl_cons, ih _ (by rw [mark_len]; exact hK) (fun z hz => hN z (by simp [hz])), List.any_cons, ← Bool.or_assoc]
      congr 2
      rw [List.getD_eq_getElem?_getD, List.getD_eq_getElem?_getD]
      unfold mark knowing
      by_cases he : y.slot.toNat = i
      · rw [he, hp]
        have hs : y.slot = (i : Int) := by omega
        simp only [hs, decide_true, Bool.true_and]
        split
        · rename_i h; rw [List.getElem?_set, if_pos rfl, if_pos (by omega), h]; simp
        · rename_i h
          rw [Bool.not_eq_true] at h
          rw [h, Bool.or_false]
      · have hs : ¬ y.slot = (i : Int) := by omega
        simp only [hs, decide_false, Bool.false_and, Bool.or_false]
        repeat' split
        all_goals first
          | rfl
          | rw [List.getElem?_set, if_neg he]
  have := key N (List.replicate P.length false) (by simp) hN
  unfold marks; rw [this]; simp [hi]
end Go.Proofs.Ytchhkokpjdkkiaa
