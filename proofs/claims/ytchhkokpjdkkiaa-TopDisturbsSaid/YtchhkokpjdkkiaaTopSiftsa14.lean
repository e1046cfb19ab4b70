/- Plain laws of a transmission, slot by slot (what the Top laws need of them). Plain Lean; no program. Contracts of sift's between, checkPulses, checkClicks (the Top seat). Contract of sift's checkSlots at slots that rise (the Top seat). -/
import Derived.Test.YtchhkokpjdkkiaaTopSiftsa13
import Derived.Test.YtchhkokpjdkkiaaTopSiftsa10
namespace Go.Proofs.Ytchhkokpjdkkiaa
open Go.RowKit

/-! ### The channel, one slot -/
def act1 (r : Ru) (i : Nat) (x : Li) (s : Nat) : Li × List No × Nat := if covers r i then actF r i x s else (x, [], s)
theorem stepF_act1 (i : Nat) (x : Li) (N : List No) (s : Nat) (r : Ru) : stepF i (x, N, s) r = ((act1 r i x s).1, N ++ (act1 r i x s).2.1, (act1 r i x s).2.2) := by
  unfold stepF act1; split <;> simp
/-- What a channel does with the light of slot i: the light, the notes, the state. -/
def chan (i : Nat) : List Ru → Li → Nat → Li × List No × Nat
  | [], x, s => (x, [], s)
  | r :: L, x, s => ((chan i L (act1 r i x s).1 (act1 r i x s).2.2).1, (act1 r i x s).2.1 ++ (chan i L (act1 r i x s).1 (act1 r i x s).2.2).2.1, (chan i L (act1 r i x s).1 (act1 r i x s).2.2).2.2)
theorem slotF_chan (i : Nat) : ∀ (L : List Ru) (x : Li) (N : List No) (s : Nat), slotF L i (x, N, s) = ((chan i L x s).1, N ++ (chan i L x s).2.1, (chan i L x s).2.2)
  | [], x, N, s => by simp [slotF, chan]
  | r :: L, x, N, s => by
    show slotF L i (stepF i (x, N, s) r) = _
    rw [stepF_act1, slotF_chan i L, chan, List.append_assoc]
section
variable {L : List Ru} {P : List Pu} {s k : Nat} {p : Pu}
theorem carrF_at (h : P[k]? = some p) : carrF L P s (k + 1) = ((carrF L P s k).1 ++ [normL (chan k L (liOf p) (carrF L P s k).2.2).1], (carrF L P s k).2.1 ++ (chan k L (liOf p) (carrF L P s k).2.2).2.1, (chan k L (liOf p) (carrF L P s k).2.2).2.2) := by
  rw [carrF_succ h, show (liOf p, (carrF L P s k).2) = (liOf p, (carrF L P s k).2.1, (carrF L P s k).2.2) from rfl, slotF_chan]
theorem carrF_get {i : Nat} (hp : P[i]? = some p) : ∀ n, n ≤ P.length → i < n → (carrF L P s n).1[i]? = some (normL (chan i L (liOf p) (carrF L P s i).2.2).1)
  | 0, _, h => by omega
  | n + 1, hn, hi => by
    have hk : n < P.length := hn
    have hl := carrF_len L P s n (by omega)
    rw [carrF_at (List.getElem?_eq_getElem hk)]
    by_cases h : i < n
    · rw [List.getElem?_append_left (by omega)]; exact carrF_get hp n (by omega) h
    · obtain rfl : i = n := by omega
      rw [List.getElem?_append_right (by omega), hl, Nat.sub_self]
      obtain rfl : P[i] = p := by rw [List.getElem?_eq_getElem hk] at hp; exact Option.some.inj hp
      rfl
theorem carrF_mem {y : No} : ∀ n, n ≤ P.length → (y ∈ (carrF L P s n).2.1 ↔ ∃ i p, i < n ∧ P[i]? = some p ∧ y ∈ (chan i L (liOf p) (carrF L P s i).2.2).2.1)
  | 0, _ => by simp [carrF]
  | n + 1, hn => by
    have hk : n < P.length := hn
    have ih := carrF_mem (y := y) n (by omega)
    rw [carrF_at (List.getElem?_eq_getElem hk)]
    simp only [List.mem_append, ih]
    constructor
    · rintro (⟨i, p, hi, hp, hy⟩ | hy)
      · exact ⟨i, p, by omega, hp, hy⟩
      · exact ⟨n, _, by omega, List.getElem?_eq_getElem hk, hy⟩
    · rintro ⟨i, p, hi, hp, hy⟩
      by_cases h : i < n
      · exact .inl ⟨i, p, h, hp, hy⟩
      · obtain rfl : i = n := by omega
        right
        obtain rfl : P[i] = p := by rw [List.getElem?_eq_getElem hk] at hp; exact Option.some.inj hp
        exact hy
end
theorem act1_slots (r : Ru) (i : Nat) (x : Li) (s : Nat) : (act1 r i x s).2.1.all (fun y => decide (y.slot = i)) = true := by
  unfold act1
  split
  · unfold actF; (repeat' split) <;> simp
  · rfl
theorem act1_slot {r : Ru} {i : Nat} {x : Li} {s : Nat} {y : No} (h : y ∈ (act1 r i x s).2.1) : y.slot = i := by
  simpa using List.all_eq_true.1 (act1_slots r i x s) y h
theorem chan_slot {i : Nat} {y : No} : ∀ (L : List Ru) (x : Li) (s : Nat), y ∈ (chan i L x s).2.1 → y.slot = i
  | [], x, s, h => by simp [chan] at h
  | r :: L, x, s, h => by
    rw [chan] at h
    rcases List.mem_append.1 h with h | h
    · exact act1_slot h
    · exact chan_slot L _ _ h
theorem act1_okNos {r : Ru} (hr : okRu r = true) {i : Nat} {x : Li} (hx : 0 ≤ x.b ∧ x.b ≤ 1) (s : Nat) : (act1 r i x s).2.1.all okNo = true := by
  have h7 : r.k = 7 → 0 ≤ r.a ∧ r.a ≤ 1 := fun hk => by
    unfold okRu at hr; simp [hk] at hr; omega
  have hb := Nat.mod_lt (ny (nx s)) (show 0 < 2 by omega)
  unfold act1
  split
  · unfold actF bel; (repeat' split) <;> first | rfl | (simp only [List.all_cons, List.all_nil, Bool.and_true, okNo, decide_eq_true_eq]; omega)
  · rfl
theorem act1_okNo {r : Ru} (hr : okRu r = true) {i : Nat} {x : Li} (hx : 0 ≤ x.b ∧ x.b ≤ 1) {s : Nat} {y : No} (h : y ∈ (act1 r i x s).2.1) : okNo y = true :=
  List.all_eq_true.1 (act1_okNos hr hx s) y h
theorem act1_okLi {r : Ru} (hr : okRu r = true) {i : Nat} {x : Li} (hx : okLi x = true) (s : Nat) : okLi (act1 r i x s).1 = true := by
  have h7 : r.k = 7 → 0 ≤ r.a ∧ r.a ≤ 1 := fun hk => by
    unfold okRu at hr; simp [hk] at hr; omega
  have hb := Nat.mod_lt (ny (nx s)) (show 0 < 2 by omega)
  have hl := lossF_le r.a s x.ph.toNat
  rw [okLi_iff] at hx ⊢
  unfold act1
  split
  · unfold actF bel; (repeat' split) <;> first | omega | (simp only; omega)
  · exact hx
theorem chan_okLi {i : Nat} : ∀ (L : List Ru) (x : Li) (s : Nat), L.all okRu = true → okLi x = true → okLi (chan i L x s).1 = true
  | [], x, s, _, h => h
  | r :: L, x, s, hL, h => by
    simp only [List.all_cons, Bool.and_eq_true] at hL
    exact chan_okLi L _ _ hL.2 (act1_okLi hL.1 h s)
theorem chan_okNo {i : Nat} {y : No} : ∀ (L : List Ru) (x : Li) (s : Nat), L.all okRu = true → okLi x = true → y ∈ (chan i L x s).2.1 → okNo y = true
  | [], x, s, _, _, h => by simp [chan] at h
  | r :: L, x, s, hL, hx, h => by
    simp only [List.all_cons, Bool.and_eq_true] at hL
    rw [chan] at h
    rcases List.mem_append.1 h with h | h
    · have := (okLi_iff x).1 hx
      exact act1_okNo hL.1 ⟨this.1, this.2.1⟩ h
    · exact chan_okNo L _ _ hL.2 (act1_okLi hL.1 hx s) h
theorem liOf_ok {p : Pu} (h : okPu p = true) : okLi (liOf p) = true := by
  rw [okLi_iff]; simp [okPu] at h; simp [liOf]; omega
theorem normL_ok {x : Li} (h : okLi x = true) : okLi (normL x) = true := by
  unfold normL; split
  · exact h
  · rfl
theorem carrF_okLi {L : List Ru} {P : List Pu} (hL : L.all okRu = true) (hP : P.all okPu = true) (s : Nat) : ∀ n, n ≤ P.length → (carrF L P s n).1.all okLi = true
  | 0, _ => rfl
  | n + 1, hn => by
    have hk : n < P.length := hn
    rw [carrF_at (List.getElem?_eq_getElem hk), List.all_append, carrF_okLi hL hP s n (by omega)]
    have := normL_ok (chan_okLi L _ (carrF L P s n).2.2 hL (liOf_ok (List.all_eq_true.1 hP _ (List.getElem_mem hk))) (i := n))
    simp [this]
theorem carrF_okNo {L : List Ru} {P : List Pu} (hL : L.all okRu = true) (hP : P.all okPu = true) (s n : Nat) (hn : n ≤ P.length) : (carrF L P s n).2.1.all (fun x => okNo x && inNo n x) = true := by
  rw [List.all_eq_true]
  intro y hy
  obtain ⟨i, p, hi, hp, hy⟩ := (carrF_mem n hn).1 hy
  have h1 := chan_slot L _ _ hy
  have h2 := chan_okNo L _ _ hL (liOf_ok (List.all_eq_true.1 hP _ (List.mem_of_getElem? hp))) hy
  simp only [h2, Bool.true_and, inNo, decide_eq_true_eq, h1]
  omega

/-! ### Detection, one slot -/
theorem dets_get {eta dark sh : Int} {L : List Li} {s i : Nat} : ∀ n, i < n → (dets eta dark sh L s n).1[i]? = some (detF eta dark (ltAt L sh i) (dets eta dark sh L s i).2).1
  | 0, h => by omega
  | n + 1, hi => by
    have hl := dets_len eta dark sh L s n
    rw [dets]
    by_cases h : i < n
    · rw [List.getElem?_append_left (by omega)]; exact dets_get n h
    · obtain rfl : i = n := by omega
      rw [List.getElem?_append_right (by omega), hl, Nat.sub_self]; rfl
theorem ltAt_get {L : List Li} {i : Nat} {x : Li} (h : L[i]? = some x) : ltAt L 0 i = x := ltAt_in (j := i) (by omega) h
theorem detF_b (eta dark : Int) (x : Li) (s : Nat) : (detF eta dark x s).1.b = (bel s 2 : Int) := by unfold detF; split <;> rfl
theorem knd_range (z o : Bool) : 0 ≤ knd z o ∧ knd z o ≤ 3 := by cases z <;> cases o <;> simp [knd]
theorem detF_ok (eta dark : Int) (x : Li) (s : Nat) : okCk (detF eta dark x s).1 = true := by
  have hb := Nat.mod_lt (ny s) (show 0 < 2 by omega)
  have e1 : 0 ≤ (detF eta dark x s).1.b ∧ (detF eta dark x s).1.b ≤ 1 := by rw [detF_b]; unfold bel; omega
  have e2 : 0 ≤ (detF eta dark x s).1.k ∧ (detF eta dark x s).1.k ≤ 3 := by
    unfold detF; split
    · simp only; (repeat' split) <;> omega
    · exact knd_range _ _
  simp only [okCk, decide_eq_true_eq]; omega
theorem dets_ok (eta dark sh : Int) (L : List Li) (s : Nat) : ∀ n, (dets eta dark sh L s n).1.all okCk = true
  | 0 => rfl
  | n + 1 => by rw [dets, List.all_append, dets_ok eta dark sh L s n]; simp [detF_ok]
/-- In the light's own basis only the detector of its bit fires. -/
theorem phots_side {eta b : Int} {x : Li} {s : Nat} (hb : b = x.b) : ∀ k, ((phots eta b x s k).1.1 = true → x.bit = false) ∧ ((phots eta b x s k).1.2 = true → x.bit = true)
  | 0 => by simp [phots]
  | k + 1 => by
    obtain ⟨i1, i2⟩ := phots_side (eta := eta) (s := s) hb k
    rw [phots, phot, if_pos hb]
    split
    · cases hx : x.bit
      · refine ⟨fun _ => rfl, fun h => ?_⟩
        simp [fire] at h
        have := i2 h; rw [hx] at this; exact this
      · refine ⟨fun h => ?_, fun _ => rfl⟩
        simp [fire] at h
        have := i1 h; rw [hx] at this; exact this
    · exact ⟨i1, i2⟩
theorem bel256 (s : Nat) : ¬ ((bel s 256 : Int) < 0) := by omega
theorem detF_nodark {eta : Int} {x : Li} {s : Nat} (h : x.bright = false) : (detF eta 0 x s).1.k = knd (phots eta (bel s 2 : Int) x (nx s) x.ph.toNat).1.1 (phots eta (bel s 2 : Int) x (nx s) x.ph.toNat).1.2 := by
  unfold detF; rw [if_neg (by simp [h])]; simp [bel256]
theorem detF_none {eta : Int} {x : Li} {s : Nat} (h : x.bright = false) (hp : x.ph ≤ 0) : (detF eta 0 x s).1.k = 0 := by
  rw [detF_nodark h, show x.ph.toNat = 0 by omega]; rfl
theorem detF_bit {eta : Int} {x : Li} {s : Nat} (h : x.bright = false) (hb : (detF eta 0 x s).1.b = x.b) (hk : (detF eta 0 x s).1.k = 1 ∨ (detF eta 0 x s).1.k = 2) : x.bit = decide ((detF eta 0 x s).1.k = 2) := by
  rw [detF_b] at hb
  obtain ⟨i1, i2⟩ := phots_side (eta := eta) (s := nx s) hb x.ph.toNat
  rw [detF_nodark h] at hk ⊢
  revert i1 i2 hk
  generalize (phots eta (bel s 2 : Int) x (nx s) x.ph.toNat).1.1 = z
  generalize (phots eta (bel s 2 : Int) x (nx s) x.ph.toNat).1.2 = o
  cases z <;> cases o <;> simp [knd]

/-! ### The whole run -/
section
variable {f : Nat → Int} {L : List Ru} {n : Nat} {a b c : Nat}
theorem run_ok_err (hf : checkErr f = 0) (hL : rulesErr L = 0) (hn : n ≤ 4096) : runErr f L n = 0 := by
  rw [runErr_emit hf hL]; unfold emitErr; rw [if_neg (by omega), if_neg (by omega)]
theorem emitL_ok (hf : checkErr f = 0) (hn : n ≤ 4096) : emitL f n a = (emiF f a n).1 := by
  unfold emitL; rw [if_pos (by unfold emitErr; rw [if_neg (by omega), if_neg (by omega)])]; simp
theorem carryErr_ok (hL : rulesErr L = 0) (hn : n ≤ 4096) : carryErr L (emiF f a n).1 = 0 := by
  unfold carryErr pulsesErr; rw [if_pos hL, if_neg (by rw [emiF_len]; omega), if_pos (emiF_ok f a n)]
theorem runP_ok (hf : checkErr f = 0) (hL : rulesErr L = 0) (hn : n ≤ 4096) : runP f L n a = (emiF f a n).1 := by
  unfold runP; rw [if_pos (run_ok_err hf hL hn), emitL_ok hf hn]
theorem runN_ok (hf : checkErr f = 0) (hL : rulesErr L = 0) (hn : n ≤ 4096) : runN f L n a b = (carrF L (emiF f a n).1 b n).2.1 := by
  unfold runN; rw [if_pos (run_ok_err hf hL hn), emitL_ok hf hn]; unfold carryN; rw [if_pos (carryErr_ok hL hn), emiF_len]
theorem runC_ok (hf : checkErr f = 0) (hL : rulesErr L = 0) (hs : shiftErr L = 0) (hn : n ≤ 4096) : runC f L n a b c = (dets (f 16) (f 17) 0 (carrF L (emiF f a n).1 b n).1 c n).1 := by
  have hX : carryX L (emitL f n a) b = (carrF L (emiF f a n).1 b n).1 := by
    rw [emitL_ok hf hn]; unfold carryX; rw [if_pos (carryErr_ok hL hn), emiF_len]
  have hl : (carrF L (emiF f a n).1 b n).1.length = n := carrF_len _ _ _ _ (by rw [emiF_len]; omega)
  unfold runC; rw [if_pos (run_ok_err hf hL hn), hX, hs]; unfold detL
  rw [if_pos (by rw [detErr_all hf (by omega) (by omega), if_pos (carrF_okLi (rulesErr_zero hL).2 (emiF_ok f a n) b n (by rw [emiF_len]; omega))]), hl]
theorem runSh_ok (hs : shiftErr L = 0) : runSh f L n = 0 := by unfold runSh; rw [hs]; split <;> rfl
end
theorem mem_slotsOf {Q : Nat → Pu → Bool} {P : List Pu} {m i : Nat} : i ∈ slotsOf Q P m ↔ i < m ∧ ∃ p, P[i]? = some p ∧ Q i p = true := by
  unfold slotsOf
  rw [List.mem_filter, List.mem_range]
  constructor
  · rintro ⟨h, h2⟩
    cases hp : P[i]? with
    | none => simp [hp] at h2
    | some p => exact ⟨h, p, rfl, by simpa [hp] using h2⟩
  · rintro ⟨h, p, hp, hq⟩
    exact ⟨h, by simpa [hp] using hq⟩
theorem agreeErr_ok {P : List Pu} {C : List Ck} (hP : P.all okPu = true) (hC : C.all okCk = true) (h1 : P.length ≤ 4096) (h2 : C.length ≤ 4096) : agreeErr P C 0 = 0 := by
  unfold agreeErr; rw [if_neg (by omega), if_neg (by omega), if_pos hP, if_pos hC]
theorem agr_iff {C : List Ck} {i : Nat} {p : Pu} {k : Ck} (h : C[i]? = some k) : agr C 0 i p = true ↔ p.seen = true ∧ k.b = p.b ∧ (k.k = 1 ∨ k.k = 2) := by
  unfold agr; simp [h, and_assoc]
theorem dif_iff {C : List Ck} {i : Nat} {p : Pu} {k : Ck} (h : C[i]? = some k) : dif C 0 i p = true ↔ (p.seen = true ∧ k.b = p.b ∧ (k.k = 1 ∨ k.k = 2)) ∧ p.bit ≠ decide (k.k = 2) := by
  unfold dif; rw [Bool.and_eq_true, agr_iff h]; simp [h]
theorem mem_idx {K : List Bool} {m i : Nat} : i ∈ idx K m ↔ i < m ∧ K[i]? = some true := by
  unfold idx
  rw [List.mem_filter, List.mem_range, List.getD_eq_getElem?_getD]
  constructor
  · rintro ⟨h, h2⟩
    cases hk : K[i]? with
    | none => simp [hk] at h2
    | some b => rw [hk] at h2; simp at h2; exact ⟨h, by rw [h2]⟩
  · rintro ⟨h, h2⟩; exact ⟨h, by simp [h2]⟩
end Go.Proofs.Ytchhkokpjdkkiaa

namespace Go.Proofs.Ytchhkokpjdkkiaa
open Go.RowKit

set_option maxRecDepth 100000 in
set_option maxHeartbeats 1600000 in
theorem between_c (n l m : Int) (w : World) : Calls Try.prog 42 #[.int .i64 n, .int .i64 l, .int .i64 m] w fun e w' => e = .returned (.bool (decide (l ≤ n ∧ n ≤ m))) ∧ w' = w := by
  go_enter Try.func42, Try.ntmps42
  go_wp2
  all_goals
    go_ret
    refine ⟨ret_b ?_, rfl⟩
    first | (simp; done) | (simp; omega) | (rw [Bool.eq_iff_iff]; simp; done) | (rw [Bool.eq_iff_iff]; simp; omega)
theorem between_v (n l m : Int) (v : Bool) (h : decide (l ≤ n ∧ n ≤ m) = v) (w : World) : Calls Try.prog 42 #[.int .i64 n, .int .i64 l, .int .i64 m] w fun e w' => e = .returned (.bool v) ∧ w' = w := by
  subst h; exact between_c n l m w
def clicksErr (L : List Ck) : Int := if 4096 < L.length then 5 else if L.all okCk then 0 else 2
set_option maxRecDepth 100000 in
set_option maxHeartbeats 1600000 in
theorem cp1_c (p : Pu) (w : World) : Calls Try.prog 74 #[.agg #[.int .i64 p.b, .bool p.bit, .int .i64 p.cl, .int .i64 p.ph, .bool p.seen]] w fun e w' => e = .returned (.bool (okPu p)) ∧ Below w.heap.size w w' := by
  obtain ⟨b, bit, cl, ph, seen⟩ := p
  obtain ⟨v0, hv0⟩ : ∃ q, decide (0 ≤ b ∧ b ≤ 1) = q := ⟨_, rfl⟩
  have HB0 := hide (fun W => between_v b 0 1 v0 hv0 W)
  obtain ⟨v1, hv1⟩ : ∃ q, decide (0 ≤ cl ∧ cl ≤ 2) = q := ⟨_, rfl⟩
  have HB1 := hide (fun W => between_v cl 0 2 v1 hv1 W)
  obtain ⟨v2, hv2⟩ : ∃ q, decide (0 ≤ ph ∧ ph ≤ 3) = q := ⟨_, rfl⟩
  have HB2 := hide (fun W => between_v ph 0 3 v2 hv2 W)
  have HV := hide (show okPu ⟨b, bit, cl, ph, seen⟩ = (v0 && v1 && v2) by rw [← hv0, ← hv1, ← hv2]; unfold okPu; rw [Bool.eq_iff_iff]; simp; omega)
  have hO := Blk.newAt w 79 #[.int .i64 b, .bool bit, .int .i64 cl, .int .i64 ph, .bool seen] w.heap.size rfl
  have hb := below_alloc w (.cells #[.int .i64 b, .bool bit, .int .i64 cl, .int .i64 ph, .bool seen] 79)
  clear hv0 hv1 hv2
  go_enter Try.func74, Try.ntmps74
  rcases v0 with _ | _ <;> rcases v1 with _ | _ <;> rcases v2 with _ | _
  all_goals
    go_wp2_with (first | (go_at_call 42; with_reducible refine (HB0.out _).mono ?_; rintro e w' ⟨rfl, hq⟩; rw [hq]; clear hq) | (go_at_call 42; with_reducible refine (HB1.out _).mono ?_; rintro e w' ⟨rfl, hq⟩; rw [hq]; clear hq) | (go_at_call 42; with_reducible refine (HB2.out _).mono ?_; rintro e w' ⟨rfl, hq⟩; rw [hq]; clear hq))
    go_ret
    exact ⟨ret_b (by rw [HV.out]; rfl), hb⟩
set_option maxRecDepth 100000 in
set_option maxHeartbeats 1600000 in
theorem cc1_c (p : Ck) (w : World) : Calls Try.prog 72 #[.agg #[.int .i64 p.b, .int .i64 p.k]] w fun e w' => e = .returned (.bool (okCk p)) ∧ Below w.heap.size w w' := by
  obtain ⟨b, k⟩ := p
  obtain ⟨v0, hv0⟩ : ∃ q, decide (0 ≤ b ∧ b ≤ 1) = q := ⟨_, rfl⟩
  have HB0 := hide (fun W => between_v b 0 1 v0 hv0 W)
  obtain ⟨v1, hv1⟩ : ∃ q, decide (0 ≤ k ∧ k ≤ 3) = q := ⟨_, rfl⟩
  have HB1 := hide (fun W => between_v k 0 3 v1 hv1 W)
  have HV := hide (show okCk ⟨b, k⟩ = (v0 && v1) by rw [← hv0, ← hv1]; unfold okCk; rw [Bool.eq_iff_iff]; simp; omega)
  have hO := Blk.newAt w 81 #[.int .i64 b, .int .i64 k] w.heap.size rfl
  have hb := below_alloc w (.cells #[.int .i64 b, .int .i64 k] 81)
  clear hv0 hv1
  go_enter Try.func72, Try.ntmps72
  rcases v0 with _ | _ <;> rcases v1 with _ | _
  all_goals
    go_wp2_with (first | (go_at_call 42; with_reducible refine (HB0.out _).mono ?_; rintro e w' ⟨rfl, hq⟩; rw [hq]; clear hq) | (go_at_call 42; with_reducible refine (HB1.out _).mono ?_; rintro e w' ⟨rfl, hq⟩; rw [hq]; clear hq))
    go_ret
    exact ⟨ret_b (by rw [HV.out]; rfl), hb⟩
theorem allPu_c_cf (args : Array Value) (W : World) : (callFunc 74 args).run Try.prog W = .ok (.enter 74 args) W := by kernel_rfl
set_option maxRecDepth 100000 in
set_option maxHeartbeats 1600000 in
theorem allPu_c (A : Option Addr) (n c : Nat) (L : List Pu) (w : World) (r : Rd ePu w w.heap.size A n c L) : Calls Try.prog 73 #[.slice A n c, .func (.func 74) #[] #[]] w fun e w' => e = .returned (.int .i64 (pulsesErr L)) ∧ Below w.heap.size w w' := by
  have hm := r.max
  have hcap := r.cap
  have HL := hide r.len
  by_cases hbig : 4096 < n
  · have hbi : (4096 : Int) < (n : Int) := by omega
    have HE := hide (show pulsesErr L = 5 by unfold pulsesErr; rw [if_pos (by have := HL.out; omega)])
    go_enter Try.func73, Try.ntmps73
    go_wp2
    go_ret
    exact ⟨by rw [HE.out]; rfl, Below.refl _ _⟩
  · have hbi : ¬ (4096 : Int) < (n : Int) := by omega
    go_enter Try.func73, Try.ntmps73
    go_wp2
    go_loopw [12] (fun iv wr => ∃ k : Nat, k ≤ n ∧ iv = .int .i64 k ∧ (L.take k).all okPu = true ∧ Below w.heap.size w wr) (fun iv _ => n - (intOf iv).toNat)
    case atStart => exact ⟨0, Nat.zero_le _, rfl, rfl, Below.refl _ _⟩
    case round =>
      obtain ⟨k, hk, rfl, hall, hbw⟩ := hrel
      have HA := hide hall
      clear hall
      by_cases hlt : k < n
      · obtain ⟨b, off, x, rfl, hb, hx, hc⟩ := (r.on hbw).get hlt
        have c0 := hc 0 _ rfl
        have c1 := hc 1 _ rfl
        have c2 := hc 2 _ rfl
        have c3 := hc 3 _ rfl
        have c4 := hc 4 _ rfl
        simp only [ePu, Nat.add_zero] at c0 c1 c2 c3 c4
        have HX := hide hx
        have hw3 := below_alloc wr (.cells #[.int .i64 x.b, .bool x.bit, .int .i64 x.cl, .int .i64 x.ph, .bool x.seen] 79)
        have HC := hide (cp1_c x (wr.alloc (.cells #[.int .i64 x.b, .bool x.bit, .int .i64 x.cl, .int .i64 x.ph, .bool x.seen] 79)))
        have hbl := Blk.newAt wr 79 #[.int .i64 x.b, .bool x.bit, .int .i64 x.cl, .int .i64 x.ph, .bool x.seen] wr.heap.size rfl
        obtain ⟨v, hv⟩ : ∃ q, q = okPu x := ⟨_, rfl⟩
        rw [← hv] at HC
        have HV := hide hv
        clear hc hx hv hb
        cases v
        · have HE := hide (show pulsesErr L = 2 by unfold pulsesErr; rw [if_neg (by have := HL.out; omega), all_false HX.out HV.out.symm]; rfl)
          go_wp2_with (first | (refine wl_load (o := ⟨some 17, _, _, _, _, _⟩) rfl 79 _ rfl wr.heap.size rfl 79 #[.int .i64 x.b, .bool x.bit, .int .i64 x.cl, .int .i64 x.ph, .bool x.seen] _ hbl Try.underlying79 rfl (by kernel_rfl) ?_) | (refine HC.out.mono ?_; rintro e w5 ⟨rfl, hb5⟩))
          go_ret
          exact ⟨by rw [HE.out]; rfl, below_on (below_on hbw hw3) hb5⟩
        · go_wp2_with (first | (refine wl_load (o := ⟨some 17, _, _, _, _, _⟩) rfl 79 _ rfl wr.heap.size rfl 79 #[.int .i64 x.b, .bool x.bit, .int .i64 x.cl, .int .i64 x.ph, .bool x.seen] _ hbl Try.underlying79 rfl (by kernel_rfl) ?_) | (refine HC.out.mono ?_; rintro e w5 ⟨rfl, hb5⟩))
          go_roundw
          case rel => exact ⟨k + 1, by omega, by go_num, all_take_succ HA.out HX.out HV.out.symm, below_on (below_on hbw hw3) hb5⟩
          case measure => simp [intOf] <;> omega
      · have HE := hide (show pulsesErr L = 0 by unfold pulsesErr; rw [if_neg (by have := HL.out; omega), if_pos (all_whole HA.out HL.out hlt)])
        go_wp2
        go_ret
        exact ⟨by rw [HE.out]; rfl, hbw⟩
theorem allCk_c_cf (args : Array Value) (W : World) : (callFunc 72 args).run Try.prog W = .ok (.enter 72 args) W := by kernel_rfl
set_option maxRecDepth 100000 in
set_option maxHeartbeats 1600000 in
theorem allCk_c (A : Option Addr) (n c : Nat) (L : List Ck) (w : World) (r : Rd eCk w w.heap.size A n c L) : Calls Try.prog 71 #[.slice A n c, .func (.func 72) #[] #[]] w fun e w' => e = .returned (.int .i64 (clicksErr L)) ∧ Below w.heap.size w w' := by
  have hm := r.max
  have hcap := r.cap
  have HL := hide r.len
  by_cases hbig : 4096 < n
  · have hbi : (4096 : Int) < (n : Int) := by omega
    have HE := hide (show clicksErr L = 5 by unfold clicksErr; rw [if_pos (by have := HL.out; omega)])
    go_enter Try.func71, Try.ntmps71
    go_wp2
    go_ret
    exact ⟨by rw [HE.out]; rfl, Below.refl _ _⟩
  · have hbi : ¬ (4096 : Int) < (n : Int) := by omega
    go_enter Try.func71, Try.ntmps71
    go_wp2
    go_loopw [12] (fun iv wr => ∃ k : Nat, k ≤ n ∧ iv = .int .i64 k ∧ (L.take k).all okCk = true ∧ Below w.heap.size w wr) (fun iv _ => n - (intOf iv).toNat)
    case atStart => exact ⟨0, Nat.zero_le _, rfl, rfl, Below.refl _ _⟩
    case round =>
      obtain ⟨k, hk, rfl, hall, hbw⟩ := hrel
      have HA := hide hall
      clear hall
      by_cases hlt : k < n
      · obtain ⟨b, off, x, rfl, hb, hx, hc⟩ := (r.on hbw).get hlt
        have c0 := hc 0 _ rfl
        have c1 := hc 1 _ rfl
        simp only [eCk, Nat.add_zero] at c0 c1
        have HX := hide hx
        have hw3 := below_alloc wr (.cells #[.int .i64 x.b, .int .i64 x.k] 81)
        have HC := hide (cc1_c x (wr.alloc (.cells #[.int .i64 x.b, .int .i64 x.k] 81)))
        have hbl := Blk.newAt wr 81 #[.int .i64 x.b, .int .i64 x.k] wr.heap.size rfl
        obtain ⟨v, hv⟩ : ∃ q, q = okCk x := ⟨_, rfl⟩
        rw [← hv] at HC
        have HV := hide hv
        clear hc hx hv hb
        cases v
        · have HE := hide (show clicksErr L = 2 by unfold clicksErr; rw [if_neg (by have := HL.out; omega), all_false HX.out HV.out.symm]; rfl)
          go_wp2_with (first | (refine wl_load (o := ⟨some 17, _, _, _, _, _⟩) rfl 81 _ rfl wr.heap.size rfl 81 #[.int .i64 x.b, .int .i64 x.k] _ hbl Try.underlying81 rfl (by kernel_rfl) ?_) | (refine HC.out.mono ?_; rintro e w5 ⟨rfl, hb5⟩))
          go_ret
          exact ⟨by rw [HE.out]; rfl, below_on (below_on hbw hw3) hb5⟩
        · go_wp2_with (first | (refine wl_load (o := ⟨some 17, _, _, _, _, _⟩) rfl 81 _ rfl wr.heap.size rfl 81 #[.int .i64 x.b, .int .i64 x.k] _ hbl Try.underlying81 rfl (by kernel_rfl) ?_) | (refine HC.out.mono ?_; rintro e w5 ⟨rfl, hb5⟩))
          go_roundw
          case rel => exact ⟨k + 1, by omega, by go_num, all_take_succ HA.out HX.out HV.out.symm, below_on (below_on hbw hw3) hb5⟩
          case measure => simp [intOf] <;> omega
      · have HE := hide (show clicksErr L = 0 by unfold clicksErr; rw [if_neg (by have := HL.out; omega), if_pos (all_whole HA.out HL.out hlt)])
        go_wp2
        go_ret
        exact ⟨by rw [HE.out]; rfl, hbw⟩
set_option maxRecDepth 100000 in
set_option maxHeartbeats 1600000 in
theorem checkPulses_c (A : Option Addr) (n c : Nat) (L : List Pu) (w : World) (r : Rd ePu w w.heap.size A n c L) : Calls Try.prog 44 #[.slice A n c] w fun e w' => e = .returned (.int .i64 (pulsesErr L)) ∧ Below w.heap.size w w' := by
  have HA := hide (allPu_c A n c L w r)
  go_enter Try.func44, Try.ntmps44
  go_wp2_with (go_at_call 73; refine HA.out.mono ?_; rintro e w1 ⟨rfl, hb1⟩)
  go_ret
  exact ⟨rfl, hb1⟩
set_option maxRecDepth 100000 in
set_option maxHeartbeats 1600000 in
theorem checkClicks_c (A : Option Addr) (n c : Nat) (L : List Ck) (w : World) (r : Rd eCk w w.heap.size A n c L) : Calls Try.prog 40 #[.slice A n c] w fun e w' => e = .returned (.int .i64 (clicksErr L)) ∧ Below w.heap.size w w' := by
  have HA := hide (allCk_c A n c L w r)
  go_enter Try.func40, Try.ntmps40
  go_wp2_with (go_at_call 71; refine HA.out.mono ?_; rintro e w1 ⟨rfl, hb1⟩)
  go_ret
  exact ⟨rfl, hb1⟩
end Go.Proofs.Ytchhkokpjdkkiaa

namespace Go.Proofs.Ytchhkokpjdkkiaa
open Go.RowKit

/-- Slots that rise, from a least one to a greatest one. -/
def Rising (L : List Nat) (l m : Int) : Prop := (∀ (i x : Nat), L[i]? = some x → l ≤ (x : Int) ∧ (x : Int) ≤ m) ∧ ∀ (i x y : Nat), L[i]? = some x → L[i + 1]? = some y → x < y
set_option maxRecDepth 100000 in
set_option maxHeartbeats 1600000 in
theorem cs1_c (n : Int) (w : World) : Calls Try.prog 79 #[.int .i64 n] w fun e w' => e = .returned (.int .i64 n) ∧ w' = w := by
  go_enter Try.func79, Try.ntmps79
  go_wp2
  go_ret
  exact ⟨rfl, rfl⟩
set_option maxRecDepth 100000 in
set_option maxHeartbeats 1600000 in
theorem cs2_c (n : Int) (w : World) : Calls Try.prog 80 #[.int .i64 n] w fun e w' => e = .returned (.int .i64 0) ∧ w' = w := by
  go_enter Try.func80, Try.ntmps80
  go_wp2
  go_ret
  exact ⟨rfl, rfl⟩
set_option maxRecDepth 100000 in
set_option maxHeartbeats 1600000 in
theorem risingInt_c (A : Option Addr) (n c : Nat) (L : List Nat) (l m : Int) (w : World) (r : Rd eNat w w.heap.size A n c L) (hL : Rising L l m) : Calls Try.prog 78 #[.slice A n c, .func (.func 79) #[] #[], .int .i64 l, .int .i64 m, .func (.func 80) #[] #[]] w fun e w' => e = .returned (.int .i64 0) ∧ w' = w := by
  have hm := r.max
  have hcap := r.cap
  have HR := hide hL
  clear hL
  have HB := hide (fun (x : Nat) (h : l ≤ (x : Int) ∧ (x : Int) ≤ m) W => between_v (x : Int) l m true (decide_eq_true h) W)
  go_enter Try.func78, Try.ntmps78
  go_wp2
  go_loopw [16] (fun iv wr => ∃ k : Nat, k ≤ n ∧ iv = .int .i64 k ∧ wr = w) (fun iv _ => n - (intOf iv).toNat)
  case atStart => exact ⟨0, Nat.zero_le _, rfl, rfl⟩
  case round =>
    obtain ⟨k, hk, rfl, hwr⟩ := hrel
    rw [hwr]
    clear hwr
    by_cases hlt : k < n
    · obtain ⟨b, off, x, rfl, hb, hx, hc⟩ := r.get hlt
      have c0 := hc 0 _ rfl
      simp only [eNat, Nat.add_zero, Nat.mul_one] at c0
      have HBX := hide (HB.out x (HR.out.1 k x hx))
      by_cases h0 : k = 0
      · subst h0
        simp only [Nat.add_zero] at c0
        clear hc hx hb
        go_wp2_with (first | (go_at_call 79; refine (cs1_c _ _).mono ?_; rintro e w' ⟨rfl, hq⟩; rw [hq]; clear hq) | (go_at_call 80; refine (cs2_c _ _).mono ?_; rintro e w' ⟨rfl, hq⟩; rw [hq]; clear hq) | (go_at_call 42; refine (HBX.out _).mono ?_; rintro e w' ⟨rfl, hq⟩; rw [hq]; clear hq))
        go_roundw
        case rel => exact ⟨1, by omega, by go_num, trivial⟩
        case measure => simp [intOf] <;> omega
      · obtain ⟨j, rfl⟩ : ∃ j, k = j + 1 := ⟨k - 1, by omega⟩
        obtain ⟨b9, off9, y, eA, hb9, hy, hc9⟩ := r.get (show j < n by omega)
        injection eA with eA
        injection eA with e1 e2
        subst e1
        subst e2
        have d0 := hc9 0 _ rfl
        simp only [eNat, Nat.add_zero, Nat.mul_one] at d0
        have hxy := HR.out.2 j y x hy hx
        have hj : (((j + 1 : Nat) : Int) > 0) := by omega
        have hlt2 : ¬ ((y : Int) ≥ (x : Int)) := by omega
        clear hc hx hb hc9 hb9 hy h0
        go_wp2_with (first | (go_at_call 79; refine (cs1_c _ _).mono ?_; rintro e w' ⟨rfl, hq⟩; rw [hq]; clear hq) | (go_at_call 80; refine (cs2_c _ _).mono ?_; rintro e w' ⟨rfl, hq⟩; rw [hq]; clear hq) | (go_at_call 42; refine (HBX.out _).mono ?_; rintro e w' ⟨rfl, hq⟩; rw [hq]; clear hq))
        go_roundw
        case rel => exact ⟨j + 2, by omega, by go_num, trivial⟩
        case measure => simp [intOf] <;> omega
    · go_wp2
      go_ret
      exact ⟨rfl, rfl⟩
set_option maxRecDepth 100000 in
set_option maxHeartbeats 1600000 in
theorem checkSlots_c (A : Option Addr) (n c : Nat) (L : List Nat) (l m : Int) (w : World) (r : Rd eNat w w.heap.size A n c L) (hL : Rising L l m) : Calls Try.prog 46 #[.slice A n c, .int .i64 l, .int .i64 m] w fun e w' => e = .returned (.int .i64 0) ∧ w' = w := by
  have HA := hide (risingInt_c A n c L l m w r hL)
  go_enter Try.func46, Try.ntmps46
  go_wp2_with (go_at_call 78; refine HA.out.mono ?_; rintro e w1 ⟨rfl, hq⟩; rw [hq]; clear hq)
  go_ret
  exact ⟨rfl, rfl⟩
end Go.Proofs.Ytchhkokpjdkkiaa
