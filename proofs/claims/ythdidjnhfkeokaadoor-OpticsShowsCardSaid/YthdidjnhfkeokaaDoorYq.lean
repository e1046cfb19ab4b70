/- Plain laws of a transmission, slot by slot. Plain Lean; no program. Contracts of the law's has, Plain and flight. Plain laws behind OpticsShows, OpticsSilent, OpticsForces, OpticsBegins, OpticsHonest, OpticsNothing. Plain Lean; no program. -/
import Derived.Test.YthdidjnhfkeokaaDoorYa
import Derived.Test.YthdidjnhfkeokaaDoorYd
import Derived.Test.YthdidjnhfkeokaaDoorQl
namespace Go.Proofs.YthdidjnhfkeokaaDoor
open Go.RowKit

/-! ### The channel, one slot -/
def act1 (r : Ru) (i : Nat) (x : Li) (s : Nat) : Li × List No × Nat := if covers r i then actF r i x s else (x, [], s)
theorem stepF_act1 (i : Nat) (x : Li) (N : List No) (s : Nat) (r : Ru) : stepF i (x, N, s) r = ((act1 r i x s).1, N ++ (act1 r i x s).2.1, (act1 r i x s).2.2) := by
  unfold stepF act1; split <;> simp
/-- What a channel does with the light of slot i: the light, the notes, the state. -/
def chan (i : Nat) : List Ru → Li → Nat → Li × List No × Nat
  | [], x, s => (x, [], s)
  | r :: L, x, s => ((chan i L (act1 r i x s).1 (act1 r i x s).2.2).1, (act1 r i x s).2.1 ++ (chan i L (act1 r i x s).1 (act1 r i x s).2.2).2.1, (chan i L (act1 r i x s).1 (act1 r i x s).2.2).2.2)
theorem slotF_chan (i : Nat) : ∀ (L : List Ru) (x : Li) (N : List No) (s : Nat), slotF L i (x, N, s) = ((chan i L x s).1, N ++ (chan i L x s).2.1, (chan i L x s).2.2)
  | [], x, N, s => by simp [slotF, chan]
  | r :: L, x, N, s => by
    show slotF L i (stepF i (x, N, s) r) = _
    rw [stepF_act1, slotF_chan i L, chan, List.append_assoc]
section
variable {L : List Ru} {P : List Pu} {s k : Nat} {p : Pu}
theorem carrF_at (h : P[k]? = some p) : carrF L P s (k + 1) = ((carrF L P s k).1 ++ [normL (chan k L (liOf p) (carrF L P s k).2.2).1], (carrF L P s k).2.1 ++ (chan k L (liOf p) (carrF L P s k).2.2).2.1, (chan k L (liOf p) (carrF L P s k).2.2).2.2) := by
  rw [carrF_succ h, show (liOf p, (carrF L P s k).2) = (liOf p, (carrF L P s k).2.1, (carrF L P s k).2.2) from rfl, slotF_chan]
theorem carrF_get {i : Nat} (hp : P[i]? = some p) : ∀ n, n ≤ P.length → i < n → (carrF L P s n).1[i]? = some (normL (chan i L (liOf p) (carrF L P s i).2.2).1)
  | 0, _, h => by omega
  | n + 1, hn, hi => by
    have hk : n < P.length := hn
    have hl := carrF_len L P s n (by omega)
    rw [carrF_at (List.getElem?_eq_getElem hk)]
    by_cases h : i < n
    · rw [List.getElem?_append_left (by omega)]; exact carrF_get hp n (by omega) h
    · obtain rfl : i = n := by omega
      rw [List.getElem?_append_right (by omega), hl, Nat.sub_self]
      obtain rfl : P[i] = p := by rw [List.getElem?_eq_getElem hk] at hp; exact Option.some.inj hp
      rfl
theorem carrF_mem {y : No} : ∀ n, n ≤ P.length → (y ∈ (carrF L P s n).2.1 ↔ ∃ i p, i < n ∧ P[i]? = some p ∧ y ∈ (chan i L (liOf p) (carrF L P s i).2.2).2.1)
  | 0, _ => by simp [carrF]
  | n + 1, hn => by
    have hk : n < P.length := hn
    have ih := carrF_mem (y := y) n (by omega)
    rw [carrF_at (List.getElem?_eq_getElem hk)]
    simp only [List.mem_append, ih]
    constructor
    · rintro (⟨i, p, hi, hp, hy⟩ | hy)
      · exact ⟨i, p, by omega, hp, hy⟩
      · exact ⟨n, _, by omega, List.getElem?_eq_getElem hk, hy⟩
    · rintro ⟨i, p, hi, hp, hy⟩
      by_cases h : i < n
      · exact .inl ⟨i, p, h, hp, hy⟩
      · obtain rfl : i = n := by omega
        right
        obtain rfl : P[i] = p := by rw [List.getElem?_eq_getElem hk] at hp; exact Option.some.inj hp
        exact hy
end
theorem act1_slots (r : Ru) (i : Nat) (x : Li) (s : Nat) : (act1 r i x s).2.1.all (fun y => decide (y.slot = i)) = true := by
  unfold act1
  split
  · unfold actF; (repeat' split) <;> simp
  · rfl
theorem act1_slot {r : Ru} {i : Nat} {x : Li} {s : Nat} {y : No} (h : y ∈ (act1 r i x s).2.1) : y.slot = i := by
  simpa using List.all_eq_true.1 (act1_slots r i x s) y h
theorem chan_slot {i : Nat} {y : No} : ∀ (L : List Ru) (x : Li) (s : Nat), y ∈ (chan i L x s).2.1 → y.slot = i
  | [], x, s, h => by simp [chan] at h
  | r :: L, x, s, h => by
    rw [chan] at h
    rcases List.mem_append.1 h with h | h
    · exact act1_slot h
    · exact chan_slot L _ _ h
theorem act1_okNos {r : Ru} (hr : okRu r = true) {i : Nat} {x : Li} (hx : 0 ≤ x.b ∧ x.b ≤ 1) (s : Nat) : (act1 r i x s).2.1.all okNo = true := by
  have h7 : r.k = 7 → 0 ≤ r.a ∧ r.a ≤ 1 := fun hk => by
    unfold okRu at hr; simp [hk] at hr; omega
  have hb := Nat.mod_lt (ny (nx s)) (show 0 < 2 by omega)
  unfold act1
  split
  · unfold actF bel; (repeat' split) <;> first | rfl | (simp only [List.all_cons, List.all_nil, Bool.and_true, okNo, decide_eq_true_eq]; omega)
  · rfl
theorem act1_okNo {r : Ru} (hr : okRu r = true) {i : Nat} {x : Li} (hx : 0 ≤ x.b ∧ x.b ≤ 1) {s : Nat} {y : No} (h : y ∈ (act1 r i x s).2.1) : okNo y = true :=
  List.all_eq_true.1 (act1_okNos hr hx s) y h
theorem act1_okLi {r : Ru} (hr : okRu r = true) {i : Nat} {x : Li} (hx : okLi x = true) (s : Nat) : okLi (act1 r i x s).1 = true := by
  have h7 : r.k = 7 → 0 ≤ r.a ∧ r.a ≤ 1 := fun hk => by
    unfold okRu at hr; simp [hk] at hr; omega
  have hb := Nat.mod_lt (ny (nx s)) (show 0 < 2 by omega)
  have hl := lossF_le r.a s x.ph.toNat
  rw [okLi_iff] at hx ⊢
  unfold act1
  split
  · unfold actF bel; (repeat' split) <;> first | omega | (simp only; omega)
  · exact hx
theorem chan_okLi {i : Nat} : ∀ (L : List Ru) (x : Li) (s : Nat), L.all okRu = true → okLi x = true → okLi (chan i L x s).1 = true
  | [], x, s, _, h => h
  | r :: L, x, s, hL, h => by
    simp only [List.all_cons, Bool.and_eq_true] at hL
    exact chan_okLi L _ _ hL.2 (act1_okLi hL.1 h s)
theorem chan_okNo {i : Nat} {y : No} : ∀ (L : List Ru) (x : Li) (s : Nat), L.all okRu = true → okLi x = true → y ∈ (chan i L x s).2.1 → okNo y = true
  | [], x, s, _, _, h => by simp [chan] at h
  | r :: L, x, s, hL, hx, h => by
    simp only [List.all_cons, Bool.and_eq_true] at hL
    rw [chan] at h
    rcases List.mem_append.1 h with h | h
    · have := (okLi_iff x).1 hx
      exact act1_okNo hL.1 ⟨this.1, this.2.1⟩ h
    · exact chan_okNo L _ _ hL.2 (act1_okLi hL.1 hx s) h
theorem liOf_ok {p : Pu} (h : okPu p = true) : okLi (liOf p) = true := by
  rw [okLi_iff]; simp [okPu] at h; simp [liOf]; omega
theorem normL_ok {x : Li} (h : okLi x = true) : okLi (normL x) = true := by
  unfold normL; split
  · exact h
  · rfl
theorem carrF_okLi {L : List Ru} {P : List Pu} (hL : L.all okRu = true) (hP : P.all okPu = true) (s : Nat) : ∀ n, n ≤ P.length → (carrF L P s n).1.all okLi = true
  | 0, _ => rfl
  | n + 1, hn => by
    have hk : n < P.length := hn
    rw [carrF_at (List.getElem?_eq_getElem hk), List.all_append, carrF_okLi hL hP s n (by omega)]
    have := normL_ok (chan_okLi L _ (carrF L P s n).2.2 hL (liOf_ok (List.all_eq_true.1 hP _ (List.getElem_mem hk))) (i := n))
    simp [this]
theorem carrF_okNo {L : List Ru} {P : List Pu} (hL : L.all okRu = true) (hP : P.all okPu = true) (s n : Nat) (hn : n ≤ P.length) : (carrF L P s n).2.1.all (fun x => okNo x && inNo n x) = true := by
  rw [List.all_eq_true]
  intro y hy
  obtain ⟨i, p, hi, hp, hy⟩ := (carrF_mem n hn).1 hy
  have h1 := chan_slot L _ _ hy
  have h2 := chan_okNo L _ _ hL (liOf_ok (List.all_eq_true.1 hP _ (List.mem_of_getElem? hp))) hy
  simp only [h2, Bool.true_and, inNo, decide_eq_true_eq, h1]
  omega

/-! ### Detection, one slot -/
theorem dets_get {eta dark sh : Int} {L : List Li} {s i : Nat} : ∀ n, i < n → (dets eta dark sh L s n).1[i]? = some (detF eta dark (ltAt L sh i) (dets eta dark sh L s i).2).1
  | 0, h => by omega
  | n + 1, hi => by
    have hl := dets_len eta dark sh L s n
    rw [dets]
    by_cases h : i < n
    · rw [List.getElem?_append_left (by omega)]; exact dets_get n h
    · obtain rfl : i = n := by omega
      rw [List.getElem?_append_right (by omega), hl, Nat.sub_self]; rfl
theorem ltAt_get {L : List Li} {i : Nat} {x : Li} (h : L[i]? = some x) : ltAt L 0 i = x := ltAt_in (j := i) (by omega) h
theorem detF_b (eta dark : Int) (x : Li) (s : Nat) : (detF eta dark x s).1.b = (bel s 2 : Int) := by unfold detF; split <;> rfl
theorem knd_range (z o : Bool) : 0 ≤ knd z o ∧ knd z o ≤ 3 := by cases z <;> cases o <;> simp [knd]
theorem detF_ok (eta dark : Int) (x : Li) (s : Nat) : okCk (detF eta dark x s).1 = true := by
  have hb := Nat.mod_lt (ny s) (show 0 < 2 by omega)
  have e1 : 0 ≤ (detF eta dark x s).1.b ∧ (detF eta dark x s).1.b ≤ 1 := by rw [detF_b]; unfold bel; omega
  have e2 : 0 ≤ (detF eta dark x s).1.k ∧ (detF eta dark x s).1.k ≤ 3 := by
    unfold detF; split
    · simp only; (repeat' split) <;> omega
    · exact knd_range _ _
  simp only [okCk, decide_eq_true_eq]; omega
theorem dets_ok (eta dark sh : Int) (L : List Li) (s : Nat) : ∀ n, (dets eta dark sh L s n).1.all okCk = true
  | 0 => rfl
  | n + 1 => by rw [dets, List.all_append, dets_ok eta dark sh L s n]; simp [detF_ok]
/-- In the light's own basis only the detector of its bit fires. -/
theorem phots_side {eta b : Int} {x : Li} {s : Nat} (hb : b = x.b) : ∀ k, ((phots eta b x s k).1.1 = true → x.bit = false) ∧ ((phots eta b x s k).1.2 = true → x.bit = true)
  | 0 => by simp [phots]
  | k + 1 => by
    obtain ⟨i1, i2⟩ := phots_side (eta := eta) (s := s) hb k
    rw [phots, phot, if_pos hb]
    split
    · cases hx : x.bit
      · refine ⟨fun _ => rfl, fun h => ?_⟩
        simp [fire] at h
        have := i2 h; rw [hx] at this; exact this
      · refine ⟨fun h => ?_, fun _ => rfl⟩
        simp [fire] at h
        have := i1 h; rw [hx] at this; exact this
    · exact ⟨i1, i2⟩
theorem bel256 (s : Nat) : ¬ ((bel s 256 : Int) < 0) := by omega
theorem detF_nodark {eta : Int} {x : Li} {s : Nat} (h : x.bright = false) : (detF eta 0 x s).1.k = knd (phots eta (bel s 2 : Int) x (nx s) x.ph.toNat).1.1 (phots eta (bel s 2 : Int) x (nx s) x.ph.toNat).1.2 := by
  unfold detF; rw [if_neg (by simp [h])]; simp [bel256]
theorem detF_none {eta : Int} {x : Li} {s : Nat} (h : x.bright = false) (hp : x.ph ≤ 0) : (detF eta 0 x s).1.k = 0 := by
  rw [detF_nodark h, show x.ph.toNat = 0 by omega]; rfl
theorem detF_bit {eta : Int} {x : Li} {s : Nat} (h : x.bright = false) (hb : (detF eta 0 x s).1.b = x.b) (hk : (detF eta 0 x s).1.k = 1 ∨ (detF eta 0 x s).1.k = 2) : x.bit = decide ((detF eta 0 x s).1.k = 2) := by
  rw [detF_b] at hb
  obtain ⟨i1, i2⟩ := phots_side (eta := eta) (s := nx s) hb x.ph.toNat
  rw [detF_nodark h] at hk ⊢
  revert i1 i2 hk
  generalize (phots eta (bel s 2 : Int) x (nx s) x.ph.toNat).1.1 = z
  generalize (phots eta (bel s 2 : Int) x (nx s) x.ph.toNat).1.2 = o
  cases z <;> cases o <;> simp [knd]

/-! ### The whole run -/
section
variable {f : Nat → Int} {L : List Ru} {n : Nat} {a b c : Nat}
theorem run_ok_err (hf : checkErr f = 0) (hL : rulesErr L = 0) (hn : n ≤ 4096) : runErr f L n = 0 := by
  rw [runErr_emit hf hL]; unfold emitErr; rw [if_neg (by omega), if_neg (by omega)]
theorem emitL_ok (hf : checkErr f = 0) (hn : n ≤ 4096) : emitL f n a = (emiF f a n).1 := by
  unfold emitL; rw [if_pos (by unfold emitErr; rw [if_neg (by omega), if_neg (by omega)])]; simp
theorem carryErr_ok (hL : rulesErr L = 0) (hn : n ≤ 4096) : carryErr L (emiF f a n).1 = 0 := by
  unfold carryErr pulsesErr; rw [if_pos hL, if_neg (by rw [emiF_len]; omega), if_pos (emiF_ok f a n)]
theorem runP_ok (hf : checkErr f = 0) (hL : rulesErr L = 0) (hn : n ≤ 4096) : runP f L n a = (emiF f a n).1 := by
  unfold runP; rw [if_pos (run_ok_err hf hL hn), emitL_ok hf hn]
theorem runN_ok (hf : checkErr f = 0) (hL : rulesErr L = 0) (hn : n ≤ 4096) : runN f L n a b = (carrF L (emiF f a n).1 b n).2.1 := by
  unfold runN; rw [if_pos (run_ok_err hf hL hn), emitL_ok hf hn]; unfold carryN; rw [if_pos (carryErr_ok hL hn), emiF_len]
theorem runC_ok (hf : checkErr f = 0) (hL : rulesErr L = 0) (hs : shiftErr L = 0) (hn : n ≤ 4096) : runC f L n a b c = (dets (f 16) (f 17) 0 (carrF L (emiF f a n).1 b n).1 c n).1 := by
  have hX : carryX L (emitL f n a) b = (carrF L (emiF f a n).1 b n).1 := by
    rw [emitL_ok hf hn]; unfold carryX; rw [if_pos (carryErr_ok hL hn), emiF_len]
  have hl : (carrF L (emiF f a n).1 b n).1.length = n := carrF_len _ _ _ _ (by rw [emiF_len]; omega)
  unfold runC; rw [if_pos (run_ok_err hf hL hn), hX, hs]; unfold detL
  rw [if_pos (by rw [detErr_all hf (by omega) (by omega), if_pos (carrF_okLi (rulesErr_zero hL).2 (emiF_ok f a n) b n (by rw [emiF_len]; omega))]), hl]
theorem runSh_ok (hs : shiftErr L = 0) : runSh f L n = 0 := by unfold runSh; rw [hs]; split <;> rfl
end
theorem mem_slotsOf {Q : Nat → Pu → Bool} {P : List Pu} {m i : Nat} : i ∈ slotsOf Q P m ↔ i < m ∧ ∃ p, P[i]? = some p ∧ Q i p = true := by
  unfold slotsOf
  rw [List.mem_filter, List.mem_range]
  constructor
  · rintro ⟨h, h2⟩
    cases hp : P[i]? with
    | none => simp [hp] at h2
    | some p => exact ⟨h, p, rfl, by simpa [hp] using h2⟩
  · rintro ⟨h, p, hp, hq⟩
    exact ⟨h, by simpa [hp] using hq⟩
theorem agreeErr_ok {P : List Pu} {C : List Ck} (hP : P.all okPu = true) (hC : C.all okCk = true) (h1 : P.length ≤ 4096) (h2 : C.length ≤ 4096) : agreeErr P C 0 = 0 := by
  unfold agreeErr; rw [if_neg (by omega), if_neg (by omega), if_pos hP, if_pos hC]
theorem agr_iff {C : List Ck} {i : Nat} {p : Pu} {k : Ck} (h : C[i]? = some k) : agr C 0 i p = true ↔ p.seen = true ∧ k.b = p.b ∧ (k.k = 1 ∨ k.k = 2) := by
  unfold agr; simp [h, and_assoc]
theorem dif_iff {C : List Ck} {i : Nat} {p : Pu} {k : Ck} (h : C[i]? = some k) : dif C 0 i p = true ↔ (p.seen = true ∧ k.b = p.b ∧ (k.k = 1 ∨ k.k = 2)) ∧ p.bit ≠ decide (k.k = 2) := by
  unfold dif; rw [Bool.and_eq_true, agr_iff h]; simp [h]
end Go.Proofs.YthdidjnhfkeokaaDoor
namespace Go.Proofs.YthdidjnhfkeokaaDoor
open Go.RowKit

/-- A flight without an error over a channel that does not shift. -/
def SFl (f : Nat → Int) (L : List Ru) (n a b c : Nat) (w : World) (e : Ending) (w' : World) : Prop :=
  ∃ A1 c1 A2 c2 A3 n3 c3, e = .returned (.tuple #[.agg #[.slice A1 n c1, .slice A2 n c2, .slice A3 n3 c3, .int .i64 0], .bool true]) ∧
    Rd ePu w' w'.heap.size A1 n c1 (emiF f a n).1 ∧ Rd eCk w' w'.heap.size A2 n c2 (dets (f 16) (f 17) 0 (carrF L (emiF f a n).1 b n).1 c n).1 ∧ Rd eNo w' w'.heap.size A3 n3 c3 (carrF L (emiF f a n).1 b n).2.1 ∧ Below w.heap.size w w'
set_option maxRecDepth 100000 in
set_option maxHeartbeats 3200000 in
theorem flight_c (f : Nat → Int) (A : Option Addr) (k c0 : Nat) (L : List Ru) (n : Nat) (a b c : Nat) (w : World) (r : Rd eRu w w.heap.size A k c0 L) (h0 : checkErr f = 0) (h1 : rulesErr L = 0) (h2 : shiftErr L = 0) (hn : n ≤ 4096) :
    Calls Tryd.prog 15 #[.agg (cells18 f), .slice A k c0, .int .i64 (n : Int), .agg #[.int .u64 (a : Int), .int .u64 (b : Int), .int .u64 (c : Int)]] w (SFl f L n a b c w) := by
  have HRUN : ∀ W, Rd eRu W W.heap.size A k c0 L → Calls Tryd.prog 47 #[.agg (cells18 f), .slice A k c0, .int .i64 (n : Int), .agg #[.int .u64 (a : Int), .int .u64 (b : Int), .int .u64 (c : Int)]] W fun e w' => ∃ A1 c1 A2 c2 A3 n3 c3, e = .returned (.tuple #[.agg #[.slice A1 n c1, .slice A2 n c2, .slice A3 n3 c3, .int .i64 0], .int .i64 0]) ∧
      Rd ePu w' w'.heap.size A1 n c1 (emiF f a n).1 ∧ Rd eCk w' w'.heap.size A2 n c2 (dets (f 16) (f 17) 0 (carrF L (emiF f a n).1 b n).1 c n).1 ∧ Rd eNo w' w'.heap.size A3 n3 c3 (carrF L (emiF f a n).1 b n).2.1 ∧ Below W.heap.size W w' := fun W hW =>
    (run_c f A k c0 L n a b c W hW).mono fun e w' h => by
      obtain ⟨A1, n1, c1, A2, n2, c2, A3, n3, c3, he, q1, q2, q3, hb⟩ := h
      rw [run_ok_err h0 h1 hn, runSh_ok h2] at he
      rw [runP_ok h0 h1 hn] at q1
      rw [runC_ok h0 h1 h2 hn] at q2
      rw [runN_ok h0 h1 hn] at q3
      have e1 := q1.len
      have e2 := q2.len
      rw [emiF_len] at e1
      rw [dets_len] at e2
      subst e1
      subst e2
      exact ⟨A1, c1, A2, c2, A3, n3, c3, he, q1, q2, q3, hb⟩
  have HH := hide HRUN
  clear HRUN h0 h1 h2
  have hn' : (n : Int) ≤ 4096 := by omega
  have hb : Below w.heap.size w (((w.alloc (.cells (cells18 f) 26)).alloc (.cells #[.int .u64 (a : Int), .int .u64 (b : Int), .int .u64 (c : Int)] 48)).alloc (.cells #[.slice none 0 0, .slice none 0 0, .slice none 0 0, .int .i64 0] 42)) := (((Below.refl _ w).alloc (Nat.le_refl _) _).alloc (by simp) _).alloc (by simp; omega) _
  have hO : Blk (((w.alloc (.cells (cells18 f) 26)).alloc (.cells #[.int .u64 (a : Int), .int .u64 (b : Int), .int .u64 (c : Int)] 48)).alloc (.cells #[.slice none 0 0, .slice none 0 0, .slice none 0 0, .int .i64 0] 42)) w.heap.size 26 (cells18 f) := ((Blk.newAt w 26 _ w.heap.size rfl).alloc _).alloc _
  have hS : Blk (((w.alloc (.cells (cells18 f) 26)).alloc (.cells #[.int .u64 (a : Int), .int .u64 (b : Int), .int .u64 (c : Int)] 48)).alloc (.cells #[.slice none 0 0, .slice none 0 0, .slice none 0 0, .int .i64 0] 42)) (w.heap.size + 1) 48 #[.int .u64 (a : Int), .int .u64 (b : Int), .int .u64 (c : Int)] := (Blk.newAt (w.alloc (.cells (cells18 f) 26)) 48 _ (w.heap.size + 1) (by simp)).alloc _
  have hZ : Blk (((w.alloc (.cells (cells18 f) 26)).alloc (.cells #[.int .u64 (a : Int), .int .u64 (b : Int), .int .u64 (c : Int)] 48)).alloc (.cells #[.slice none 0 0, .slice none 0 0, .slice none 0 0, .int .i64 0] 42)) (w.heap.size + 1 + 1) 42 #[.slice none 0 0, .slice none 0 0, .slice none 0 0, .int .i64 0] := Blk.newAt ((w.alloc (.cells (cells18 f) 26)).alloc (.cells #[.int .u64 (a : Int), .int .u64 (b : Int), .int .u64 (c : Int)] 48)) 42 _ (w.heap.size + 1 + 1) (by simp)
  have r1 := r.on hb
  go_enter Tryd.func15, Tryd.ntmps15
  go_upto_region 1 with fail
  obtain ⟨W, hW⟩ : ∃ q, q = (((w.alloc (.cells (cells18 f) 26)).alloc (.cells #[.int .u64 (a : Int), .int .u64 (b : Int), .int .u64 (c : Int)] 48)).alloc (.cells #[.slice none 0 0, .slice none 0 0, .slice none 0 0, .int .i64 0] 42)) := ⟨_, rfl⟩
  rw [← hW] at hb hO hS hZ r1 ⊢
  clear hW r
  obtain ⟨gZ, hgZe⟩ : ∃ q, q = w.heap.size + 1 + 1 := ⟨_, rfl⟩
  rw [← hgZe] at hZ ⊢
  have hgZ : w.heap.size ≤ gZ := by omega
  obtain ⟨gS, hgSe⟩ : ∃ q, q = w.heap.size + 1 := ⟨_, rfl⟩
  rw [← hgSe] at hS ⊢
  obtain ⟨gO, hgOe⟩ : ∃ q, q = w.heap.size := ⟨_, rfl⟩
  rw [← hgOe] at hO ⊢
  have HG := hide (And.intro hgZe (And.intro hgSe hgOe))
  clear hgZe hgSe hgOe
  have s0 := hS.cell 0
  have s1 := hS.cell 1
  have s2 := hS.cell 2
  simp only [List.getElem?_toArray, List.getElem?_cons_succ, List.getElem?_cons_zero] at s0 s1 s2
  go_upto_region 2 with (first | (refine wl_load (o := ⟨some 13, _, _, _, _, _⟩) rfl 26 _ rfl gO rfl 26 (cells18 f) _ hO Tryd.underlying26 rfl (by kernel_rfl) ?_) | (refine wl_load (o := ⟨some 16, _, _, _, _, _⟩) rfl 48 _ rfl gS rfl 48 #[.int .u64 (a : Int), .int .u64 (b : Int), .int .u64 (c : Int)] _ hS Tryd.underlying48 rfl (by kernel_rfl) ?_) | (go_at_call 47; refine (HH.out W r1).mono ?_; rintro e w1 ⟨A1, c1, A2, c2, A3, n3, c3, rfl, P1, C1, N1, hb1⟩))
  have Z1 := (hZ.keep hb1).alloc (.cells #[.slice A1 n c1, .slice A2 n c2, .slice A3 n3 c3, .int .i64 0] 42)
  have G1 := Blk.newAt w1 42 #[.slice A1 n c1, .slice A2 n c2, .slice A3 n3 c3, .int .i64 0] w1.heap.size rfl
  have B1 := below_on (below_on hb hb1) (below_alloc w1 (.cells #[.slice A1 n c1, .slice A2 n c2, .slice A3 n3 c3, .int .i64 0] 42))
  have P2 := P1.alloc (.cells #[.slice A1 n c1, .slice A2 n c2, .slice A3 n3 c3, .int .i64 0] 42)
  have C2 := C1.alloc (.cells #[.slice A1 n c1, .slice A2 n c2, .slice A3 n3 c3, .int .i64 0] 42)
  have N2 := N1.alloc (.cells #[.slice A1 n c1, .slice A2 n c2, .slice A3 n3 c3, .int .i64 0] 42)
  have lz := (hZ.keep hb1).lt
  obtain ⟨X, hX⟩ : ∃ q, q = w1.alloc (.cells #[.slice A1 n c1, .slice A2 n c2, .slice A3 n3 c3, .int .i64 0] 42) := ⟨_, rfl⟩
  rw [← hX] at Z1 G1 B1 P2 C2 N2 ⊢
  clear hX P1 C1 N1 hb1 hO hS hZ r1 s0 s1 s2 hb HH
  obtain ⟨gG, hgG⟩ : ∃ q, q = w1.heap.size := ⟨_, rfl⟩
  rw [← hgG] at G1 lz ⊢
  clear hgG
  have hne : gG ≠ gZ := by omega
  have HK := hide (show ∀ w', Fr (fun i => i = gZ) X w' → w'.cell? ⟨gG, 0, none⟩ = some (.slice A1 n c1) ∧ w'.cell? ⟨gG, 1, none⟩ = some (.slice A2 n c2) ∧ w'.cell? ⟨gG, 2, none⟩ = some (.slice A3 n3 c3) ∧ w'.cell? ⟨gG, 3, none⟩ = some (.int .i64 0) from fun w' hw => by
    have a1 := G1.fr hw hne
    exact ⟨by simpa using a1.cell 0, by simpa using a1.cell 1, by simpa using a1.cell 2, by simpa using a1.cell 3⟩)
  have y0 := Z1.cell 0
  have y1 := Z1.cell 1
  have y2 := Z1.cell 2
  have y3 := Z1.cell 3
  have yf0 := Z1.frozen 0
  have yf1 := Z1.frozen 1
  have yf2 := Z1.frozen 2
  have yf3 := Z1.frozen 3
  simp only [List.getElem?_toArray, List.getElem?_cons_zero, List.getElem?_cons_succ] at y0 y1 y2 y3
  have FS := hide (((((Fr.refl (fun i => i = gZ) X).setCell (p := ⟨gZ, 0, none⟩) (fun _ => rfl) (.slice A1 n c1)).setCell (p := ⟨gZ, 1, none⟩) (fun _ => rfl) (.slice A2 n c2)).setCell (p := ⟨gZ, 2, none⟩) (fun _ => rfl) (.slice A3 n3 c3)).setCell (p := ⟨gZ, 3, none⟩) (fun _ => rfl) (.int .i64 0))
  have fz2 := hide (((grownBy_setCell X gZ 0 (.slice A1 n c1)).trans (grownBy_setCell _ gZ 1 (.slice A2 n c2))).trans (grownBy_setCell _ gZ 2 (.slice A3 n3 c3)) |>.trans (grownBy_setCell _ gZ 3 (.int .i64 0)))
  have hZZ : Blk ((((X.setCell ⟨gZ, 0, none⟩ (.slice A1 n c1)).setCell ⟨gZ, 1, none⟩ (.slice A2 n c2)).setCell ⟨gZ, 2, none⟩ (.slice A3 n3 c3)).setCell ⟨gZ, 3, none⟩ (.int .i64 0)) gZ 42 #[.slice A1 n c1, .slice A2 n c2, .slice A3 n3 c3, .int .i64 0] := by
    have q := (((Z1.set_ 0 (.slice A1 n c1)).set_ 1 (.slice A2 n c2)).set_ 2 (.slice A3 n3 c3)).set_ 3 (.int .i64 0)
    simpa using q
  have HZ := hide hZZ
  clear hZZ
  have FZ1 := hide ((Fr.refl (fun i => i = gZ) X).drew)
  have FZ3 := hide FS.out.drew
  go_region_held3 (fun w' => w'.cell? ⟨gG, 0, none⟩ = some (.slice A1 n c1) ∧ w'.cell? ⟨gG, 1, none⟩ = some (.slice A2 n c2) ∧ w'.cell? ⟨gG, 2, none⟩ = some (.slice A3 n3 c3) ∧ w'.cell? ⟨gG, 3, none⟩ = some (.int .i64 0)) (first | exact HK.out _ FZ1.out | exact HK.out _ FZ3.out) (fail)
  all_goals
    go_wp2
    refine bodyPost_ret (results_row_tmp rfl _ _ gZ 42 _ _ rfl HZ.out.drew Tryd.underlying42 rfl (by kernel_rfl)) rfl ?_
    have hg := grownBy_drew fz2.out
    have Z1' : Blk X gZ 42 (flC none none none 0 0 0 0 0 0 0) := Z1
    exact ⟨A1, c1, A2, c2, A3, n3, c3, rfl, P2.asideT Z1' flC_pu hg, C2.asideT Z1' flC_ck hg, N2.asideT Z1' flC_no hg, below_grown B1 hg hgZ (Nat.le_refl _)⟩
end Go.Proofs.YthdidjnhfkeokaaDoor
namespace Go.Proofs.YthdidjnhfkeokaaDoor
open Go.RowKit

/-! ### Shows -/
theorem act1_shows {r : Ru} {i : Nat} {x : Li} {s : Nat} (hk : r.k = 1 ∨ r.k = 4 ∨ r.k = 5) (hd : x.bright = false) :
    (act1 r i x s).1.bright = false ∧ (((act1 r i x s).2.1 = [] ∧ (act1 r i x s).1.b = x.b ∧ (act1 r i x s).1.bit = x.bit) ∨
      ∃ y, (act1 r i x s).2.1 = [y] ∧ (y.b = x.b → y.bit = x.bit ∧ (act1 r i x s).1.b = x.b ∧ (act1 r i x s).1.bit = x.bit)) := by
  unfold act1
  by_cases hc : covers r i = true
  · rw [if_pos hc]
    unfold actF
    rcases hk with hk | hk | hk
    · rw [if_neg (by omega), if_neg (by simp [hd]), if_pos hk]
      exact ⟨rfl, .inl ⟨rfl, rfl, rfl⟩⟩
    · rw [if_neg (by omega), if_neg (by simp [hd]), if_neg (by omega), if_neg (by omega), if_neg (by omega), if_neg (by omega), if_pos hk]
      split
      · exact ⟨hd, .inl ⟨rfl, rfl, rfl⟩⟩
      · split
        · split
          · rename_i h; exact ⟨rfl, .inr ⟨_, rfl, fun _ => ⟨rfl, h, rfl⟩⟩⟩
          · rename_i h; exact ⟨rfl, .inr ⟨_, rfl, fun h' => absurd h' h⟩⟩
        · exact ⟨hd, .inl ⟨rfl, rfl, rfl⟩⟩
    · rw [if_neg (by omega), if_neg (by simp [hd]), if_neg (by omega), if_neg (by omega), if_neg (by omega), if_pos hk]
      split
      · exact ⟨rfl, .inr ⟨_, rfl, fun _ => ⟨rfl, rfl, rfl⟩⟩⟩
      · exact ⟨hd, .inl ⟨rfl, rfl, rfl⟩⟩
  · rw [if_neg hc]; exact ⟨hd, .inl ⟨rfl, rfl, rfl⟩⟩
theorem chan_shows {i : Nat} {pb : Int} {pt : Bool} : ∀ (L : List Ru) (x : Li) (s : Nat), (∀ r ∈ L, r.k = 1 ∨ r.k = 4 ∨ r.k = 5) → x.bright = false → x.b = pb → x.bit = pt →
    (chan i L x s).1.bright = false ∧ ((∀ z ∈ (chan i L x s).2.1, z.b = pb) → (chan i L x s).1.b = pb ∧ (chan i L x s).1.bit = pt) ∧
    (∀ A y B, (chan i L x s).2.1 = A ++ y :: B → (∀ z ∈ A, z.b = pb) → y.b = pb → y.bit = pt)
  | [], x, s, _, hd, h1, h2 => ⟨hd, fun _ => ⟨h1, h2⟩, fun A y B h => by simp [chan] at h⟩
  | r :: L, x, s, hL, hd, h1, h2 => by
    obtain ⟨hd', hs⟩ := act1_shows (i := i) (s := s) (hL r (by simp)) hd
    have hL' : ∀ r ∈ L, r.k = 1 ∨ r.k = 4 ∨ r.k = 5 := fun r' h => hL r' (by simp [h])
    rw [chan]
    rcases hs with ⟨hn, hb, ht⟩ | ⟨y0, hn, hy⟩
    · have ih := chan_shows (i := i) (pb := pb) (pt := pt) L (act1 r i x s).1 (act1 r i x s).2.2 hL' hd' (by rw [hb, h1]) (by rw [ht, h2])
      rw [hn]; exact ih
    · rw [hn]
      have hdull : ∀ (M : List Ru) (x : Li) (s : Nat), (∀ r ∈ M, r.k = 1 ∨ r.k = 4 ∨ r.k = 5) → x.bright = false → (chan i M x s).1.bright = false := fun M => by
        induction M with
        | nil => intro x s _ h; exact h
        | cons r M ih => intro x s hM h; exact ih _ _ (fun r' h' => hM r' (by simp [h'])) (act1_shows (hM r (by simp)) h).1
      by_cases hyb : y0.b = pb
      · obtain ⟨e1, e2, e3⟩ := hy (by rw [hyb, h1])
        obtain ⟨g1, g2, g3⟩ := chan_shows (i := i) (pb := pb) (pt := pt) L (act1 r i x s).1 (act1 r i x s).2.2 hL' hd' (by rw [e2, h1]) (by rw [e3, h2])
        refine ⟨g1, fun h => g2 fun z hz => h z (by simp [hz]), fun A y B h hA hyb' => ?_⟩
        match A, h with
        | [], h =>
          simp only [List.nil_append, List.singleton_append, List.cons.injEq] at h
          rw [← h.1, e1, h2]
        | a :: A, h =>
          simp only [List.cons_append, List.cons.injEq] at h
          exact g3 A y B h.2 (fun z hz => hA z (by simp [hz])) hyb'
      · refine ⟨hdull L _ _ hL' hd', fun h => absurd (h y0 (by simp)) hyb, fun A y B h hA hyb' => ?_⟩
        match A, h with
        | [], h =>
          simp only [List.nil_append, List.singleton_append, List.cons.injEq] at h
          rw [← h.1] at hyb'; exact absurd hyb' hyb
        | a :: A, h =>
          simp only [List.cons_append, List.cons.injEq] at h
          have := hA a (by simp)
          rw [← h.1] at this; exact absurd this hyb
/-- The notes of a run: where those ahead in the same slot have the pulse's basis, and this one has it, it has the pulse's bit. -/
theorem carrF_shows {L : List Ru} {P : List Pu} {s : Nat} (hL : ∀ r ∈ L, r.k = 1 ∨ r.k = 4 ∨ r.k = 5) : ∀ n, n ≤ P.length → ∀ A y B (p : Pu), (carrF L P s n).2.1 = A ++ y :: B → P[y.slot.toNat]? = some p → (∀ z ∈ A, z.slot = y.slot → z.b = p.b) → y.b = p.b → y.bit = p.bit
  | 0, _, A, y, B, p, h => by simp [carrF] at h
  | n + 1, hn, A, y, B, p, h => by
    intro hp hA hy
    have hk : n < P.length := hn
    rw [carrF_at (List.getElem?_eq_getElem hk)] at h
    rcases List.append_eq_append_iff.1 h with ⟨A', h1, h2⟩ | ⟨C', h1, h2⟩
    · have hyn : y ∈ (chan n L (liOf P[n]) (carrF L P s n).2.2).2.1 := by rw [h2]; simp
      have hs := chan_slot L _ _ hyn
      rw [hs, Int.toNat_natCast, List.getElem?_eq_getElem hk] at hp
      obtain rfl := Option.some.inj hp
      refine (chan_shows L (liOf P[n]) (carrF L P s n).2.2 hL rfl rfl rfl).2.2 A' y B h2 (fun z hz => hA z (by rw [h1]; simp [hz]) ?_) hy
      rw [hs]; exact chan_slot L _ _ (by rw [h2]; simp [hz])
    · match C', h1, h2 with
      | [], h1, h2 =>
        simp only [List.nil_append] at h2
        have hyn : y ∈ (chan n L (liOf P[n]) (carrF L P s n).2.2).2.1 := by rw [← h2]; simp
        have hs := chan_slot L _ _ hyn
        rw [hs, Int.toNat_natCast, List.getElem?_eq_getElem hk] at hp
        obtain rfl := Option.some.inj hp
        exact (chan_shows L (liOf P[n]) (carrF L P s n).2.2 hL rfl rfl rfl).2.2 [] y B h2.symm (fun z hz => by simp at hz) hy
      | c :: C', h1, h2 =>
        simp only [List.cons_append, List.cons.injEq] at h2
        exact carrF_shows hL n (by omega) A y C' p (by rw [h1, h2.1]) hp hA hy
/-- A slot that differs has a note of another basis. -/
theorem wrong_shows {L : List Ru} {P : List Pu} {s t n i : Nat} {eta : Int} (hL : ∀ r ∈ L, r.k = 1 ∨ r.k = 4 ∨ r.k = 5) (hn : P.length = n)
    (hw : i ∈ slotsOf (dif (dets eta 0 0 (carrF L P s n).1 t n).1 0) P n) : ∃ y ∈ (carrF L P s n).2.1, y.slot = i ∧ ∀ p, P[i]? = some p → y.b ≠ p.b := by
  obtain ⟨hi, p, hp, hd⟩ := mem_slotsOf.1 hw
  have hx := carrF_get (L := L) (s := s) hp n (by omega) hi
  have hc := dets_get (eta := eta) (dark := 0) (sh := 0) (L := (carrF L P s n).1) (s := t) n hi
  rw [ltAt_get hx] at hc
  obtain ⟨⟨_, hb, hk⟩, hdif⟩ := (dif_iff hc).1 hd
  obtain ⟨g1, g2, _⟩ := chan_shows (i := i) (pb := p.b) (pt := p.bit) L (liOf p) (carrF L P s i).2.2 hL rfl rfl rfl
  by_cases hall : ∀ z ∈ (chan i L (liOf p) (carrF L P s i).2.2).2.1, z.b = p.b
  · exfalso
    obtain ⟨e1, e2⟩ := g2 hall
    unfold normL at hb hk hdif
    split at hb
    · rename_i hcond
      rw [if_pos hcond] at hk hdif
      have := detF_bit (eta := eta) g1 (hb.trans e1.symm) hk
      rw [e2] at this
      exact hdif this
    · rename_i hcond
      rw [if_neg hcond] at hk
      rw [detF_none (x := li0) rfl (by simp [li0])] at hk
      omega
  · obtain ⟨y, hy⟩ := Classical.not_forall.1 hall
    obtain ⟨hy1, hy2⟩ := Classical.not_imp.1 hy
    refine ⟨y, (carrF_mem n (by omega)).2 ⟨i, p, hi, hp, hy1⟩, chan_slot L _ _ hy1, fun p' hp' => ?_⟩
    rw [hp] at hp'; obtain rfl := Option.some.inj hp'; exact hy2

/-! ### Silent -/
def splits (L : List Ru) (i : Nat) : Bool := L.any fun r => decide (r.k = 5 ∧ r.fr ≤ (i : Int) ∧ (i : Int) ≤ r.to)
theorem act1_silent {r : Ru} {i : Nat} {x : Li} {s : Nat} (hk : r.k = 5 ∨ r.k = 6) (hd : x.bright = false) :
    (act1 r i x s).1.bright = false ∧ (act1 r i x s).1.b = x.b ∧ (act1 r i x s).1.bit = x.bit ∧ (act1 r i x s).1.ph ≤ x.ph ∧
    (∀ y ∈ (act1 r i x s).2.1, y.how = 2) ∧ ((act1 r i x s).2.1 ≠ [] ↔ (r.k = 5 ∧ r.fr ≤ (i : Int) ∧ (i : Int) ≤ r.to) ∧ 2 ≤ x.ph) ∧ ((act1 r i x s).2.1 = [] → 2 ≤ x.ph → (act1 r i x s).1.ph = x.ph) := by
  unfold act1
  by_cases hc : covers r i = true
  · have hc' : r.fr ≤ (i : Int) ∧ (i : Int) ≤ r.to := by
      simp only [covers, decide_eq_true_eq] at hc; omega
    rw [if_pos hc]
    unfold actF
    rcases hk with hk | hk
    · rw [if_neg (by omega), if_neg (by simp [hd]), if_neg (by omega), if_neg (by omega), if_neg (by omega), if_pos hk]
      split
      · refine ⟨rfl, rfl, rfl, by simp only; omega, by simp, by simp [hk, hc']; assumption, fun h => by simp at h⟩
      · refine ⟨hd, rfl, rfl, Int.le_refl _, by simp, by simp [hk, hc']; omega, fun _ _ => rfl⟩
    · rw [if_neg (by omega), if_neg (by simp [hd]), if_neg (by omega), if_neg (by omega), if_pos hk]
      split
      · refine ⟨by simp only; split <;> simp [hd], by simp only; split <;> simp, by simp only; split <;> simp, ?_, by simp, by simp [hk], fun _ _ => by omega⟩
        simp only; split
        · simp only; omega
        · omega
      · exact ⟨hd, rfl, rfl, Int.le_refl _, by simp, by simp [hk], fun _ _ => rfl⟩
  · have hc' : ¬ (r.fr ≤ (i : Int) ∧ (i : Int) ≤ r.to) := by
      intro h; exact hc (by simp only [covers, decide_eq_true_eq]; exact .inr h)
    rw [if_neg hc]
    refine ⟨hd, rfl, rfl, Int.le_refl _, by simp, ?_, fun _ _ => rfl⟩
    simp only [ne_eq, not_true_eq_false, false_iff]
    rintro ⟨⟨_, h⟩, _⟩; exact hc' h
theorem chan_silent {i : Nat} : ∀ (L : List Ru) (x : Li) (s : Nat), (∀ r ∈ L, r.k = 5 ∨ r.k = 6) → x.bright = false →
    (chan i L x s).1.bright = false ∧ (chan i L x s).1.b = x.b ∧ (chan i L x s).1.bit = x.bit ∧ (∀ y ∈ (chan i L x s).2.1, y.how = 2) ∧ ((chan i L x s).2.1 ≠ [] ↔ splits L i = true ∧ 2 ≤ x.ph)
  | [], x, s, _, hd => ⟨hd, rfl, rfl, by simp [chan], by simp [chan, splits]⟩
  | r :: L, x, s, hL, hd => by
    obtain ⟨e1, e2, e3, e4, e5, e6, e7⟩ := act1_silent (i := i) (s := s) (hL r (by simp)) hd
    obtain ⟨g1, g2, g3, g4, g5⟩ := chan_silent (i := i) L (act1 r i x s).1 (act1 r i x s).2.2 (fun r' h => hL r' (by simp [h])) e1
    rw [chan]
    refine ⟨g1, g2.trans e2, g3.trans e3, fun y hy => ?_, ?_⟩
    · rcases List.mem_append.1 hy with h | h
      · exact e5 y h
      · exact g4 y h
    · have hsp : splits (r :: L) i = true ↔ (r.k = 5 ∧ r.fr ≤ (i : Int) ∧ (i : Int) ≤ r.to) ∨ splits L i = true := by
        simp [splits]
      rw [hsp]
      by_cases h0 : (act1 r i x s).2.1 = []
      · rw [h0, List.nil_append, g5]
        have h1 : ¬ ((r.k = 5 ∧ r.fr ≤ (i : Int) ∧ (i : Int) ≤ r.to) ∧ 2 ≤ x.ph) := fun h => e6.2 h h0
        by_cases h2 : 2 ≤ x.ph
        · rw [e7 h0 h2]
          constructor
          · rintro ⟨a, b⟩; exact ⟨.inr a, b⟩
          · rintro ⟨a | a, b⟩
            · exact absurd ⟨a, b⟩ h1
            · exact ⟨a, b⟩
        · constructor
          · rintro ⟨_, b⟩; omega
          · rintro ⟨_, b⟩; omega
      · have := e6.1 h0
        constructor
        · intro _; exact ⟨.inl this.1, this.2⟩
        · intro _ h
          exact h0 (List.append_eq_nil_iff.1 h).1
theorem wrong_silent {L : List Ru} {P : List Pu} {s t n : Nat} {eta : Int} (hL : ∀ r ∈ L, r.k = 5 ∨ r.k = 6) (hn : P.length = n) : slotsOf (dif (dets eta 0 0 (carrF L P s n).1 t n).1 0) P n = [] := by
  rw [List.eq_nil_iff_forall_not_mem]
  intro i hw
  obtain ⟨hi, p, hp, hd⟩ := mem_slotsOf.1 hw
  have hx := carrF_get (L := L) (s := s) hp n (by omega) hi
  have hc := dets_get (eta := eta) (dark := 0) (sh := 0) (L := (carrF L P s n).1) (s := t) n hi
  rw [ltAt_get hx] at hc
  obtain ⟨⟨_, hb, hk⟩, hdif⟩ := (dif_iff hc).1 hd
  obtain ⟨g1, g2, g3, _⟩ := chan_silent (i := i) L (liOf p) (carrF L P s i).2.2 hL rfl
  unfold normL at hb hk hdif
  split at hb
  · rename_i hcond
    rw [if_pos hcond] at hk hdif
    have := detF_bit (eta := eta) g1 (hb.trans g2.symm) hk
    rw [g3] at this
    exact hdif this
  · rename_i hcond
    rw [if_neg hcond] at hk
    rw [detF_none (x := li0) rfl (by simp [li0])] at hk
    omega
/-- What a list of notes marks. -/
theorem marks_get {P : List Pu} {N : List No} (hN : ∀ y ∈ N, 0 ≤ y.slot ∧ y.slot < P.length ∧ y.how = 2) : (marks P N).length = P.length ∧ ∀ i, i < P.length → (marks P N)[i]? = some (N.any fun y => decide (y.slot = i)) := by
  unfold marks
  have key : ∀ (N : List No) (K : List Bool), K.length = P.length → (∀ y ∈ N, 0 ≤ y.slot ∧ y.slot < P.length ∧ y.how = 2) → (N.foldl (mark P) K).length = P.length ∧ ∀ i, i < P.length → (N.foldl (mark P) K)[i]? = some (K.getD i false || N.any fun y => decide (y.slot = i)) := by
    intro N
    induction N with
    | nil =>
      intro K hK _
      refine ⟨hK, fun i hi => ?_⟩
      simp only [List.foldl_nil, List.any_nil, Bool.or_false]
      rw [List.getD_eq_getElem?_getD, List.getElem?_eq_getElem (by omega)]; rfl
    | cons y N ih =>
      intro K hK hN
      obtain ⟨h0, h1, h2⟩ := hN y (by simp)
      have hm : mark P K y = K.set y.slot.toNat true := by unfold mark; simp [h2]
      rw [List.foldl_cons, hm]
      obtain ⟨g1, g2⟩ := ih (K.set y.slot.toNat true) (by simpa using hK) (fun z hz => hN z (by simp [hz]))
      refine ⟨g1, fun i hi => ?_⟩
      rw [g2 i hi]
      congr 1
      rw [List.any_cons, ← Bool.or_assoc]
      congr 1
      rw [List.getD_eq_getElem?_getD, List.getD_eq_getElem?_getD, List.getElem?_set]
      by_cases he : y.slot.toNat = i
      · rw [if_pos he, if_pos (by omega), show decide (y.slot = (i : Int)) = true by simp; omega]; simp
      · rw [if_neg he, show decide (y.slot = (i : Int)) = false by simp; omega]; simp
  obtain ⟨g1, g2⟩ := key N (List.replicate P.length false) (by simp) hN
  refine ⟨g1, fun i hi => ?_⟩
  rw [g2 i hi]; simp [hi]
theorem mem_idx {K : List Bool} {m i : Nat} : i ∈ idx K m ↔ i < m ∧ K[i]? = some true := by
  unfold idx
  rw [List.mem_filter, List.mem_range, List.getD_eq_getElem?_getD]
  constructor
  · rintro ⟨h, h2⟩
    cases hk : K[i]? with
    | none => simp [hk] at h2
    | some b => rw [hk] at h2; simp at h2; exact ⟨h, by rw [h2]⟩
  · rintro ⟨h, h2⟩; exact ⟨h, by simp [h2]⟩
theorem noteErr_run {n : Nat} {N : List No} (h : N.all (fun x => okNo x && inNo n x) = true) : noteErr n N = 0 := noteErr_ok h
/-- Whom the eavesdropper of a silent channel knows. -/
theorem known_silent {L : List Ru} {P : List Pu} {s n : Nat} (hL : ∀ r ∈ L, r.k = 5 ∨ r.k = 6) (hn : P.length = n) {i : Nat} {p : Pu} (hp : P[i]? = some p) : i ∈ idx (marks P (carrF L P s n).2.1) n ↔ splits L i = true ∧ 2 ≤ p.ph := by
  have hi : i < n := by rw [← hn]; exact (List.getElem?_eq_some_iff.1 hp).1
  have hN : ∀ y ∈ (carrF L P s n).2.1, 0 ≤ y.slot ∧ y.slot < P.length ∧ y.how = 2 := fun y hy => by
    obtain ⟨j, q, hj, _, hy⟩ := (carrF_mem n (by omega)).1 hy
    have h1 := chan_slot L _ _ hy
    have h2 := (chan_silent L (liOf q) (carrF L P s j).2.2 hL rfl).2.2.2.1 y hy
    exact ⟨by omega, by omega, h2⟩
  obtain ⟨_, g2⟩ := marks_get hN
  rw [mem_idx, g2 i (by omega)]
  have g5 := (chan_silent (i := i) L (liOf p) (carrF L P s i).2.2 hL rfl).2.2.2.2
  rw [show (liOf p).ph = p.ph from rfl] at g5
  rw [← g5]
  simp only [Option.some.injEq, List.any_eq_true, decide_eq_true_eq]
  constructor
  · rintro ⟨_, y, hy, hs⟩ h0
    obtain ⟨j, q, hj, hq, hy⟩ := (carrF_mem n (by omega)).1 hy
    have h1 := chan_slot L _ _ hy
    obtain rfl : j = i := by omega
    rw [hp] at hq; obtain rfl := Option.some.inj hq
    rw [h0] at hy; simp at hy
  · intro h0
    obtain ⟨y, hy⟩ := List.exists_mem_of_ne_nil _ h0
    exact ⟨hi, y, (carrF_mem n (by omega)).2 ⟨i, p, hi, hp, hy⟩, chan_slot L _ _ hy⟩

/-! ### Forces -/
/-- The last rule that blinds slot i. -/
def lastB (L : List Ru) (i : Nat) : Option Ru := L.foldl (fun a r => if r.k = 7 ∧ r.fr ≤ (i : Int) ∧ (i : Int) ≤ r.to then some r else a) none
theorem chan_forces {i : Nat} : ∀ (L : List Ru) (x : Li) (s : Nat) (a : Option Ru), (∀ q, a = some q → x = ⟨0, q.a, decide (q.b = 1), true⟩) →
    ∀ q, L.foldl (fun a r => if r.k = 7 ∧ r.fr ≤ (i : Int) ∧ (i : Int) ≤ r.to then some r else a) a = some q → (chan i L x s).1 = ⟨0, q.a, decide (q.b = 1), true⟩
  | [], x, s, a, h, q, hq => h q hq
  | r :: L, x, s, a, h, q, hq => by
    rw [List.foldl_cons] at hq
    rw [chan]
    refine chan_forces L _ _ _ ?_ q hq
    intro q' hq'
    unfold act1
    split at hq'
    · rename_i hb
      obtain rfl := Option.some.inj hq'
      rw [if_pos (by simp only [covers, decide_eq_true_eq]; omega)]
      unfold actF; rw [if_pos hb.1]
    · rename_i hb
      have hx := h q' hq'
      split
      · rename_i hc
        have h7 : ¬ r.k = 7 := fun h7 => hb ⟨h7, by simp only [covers, decide_eq_true_eq] at hc; omega⟩
        unfold actF; rw [if_neg h7, if_pos (by rw [hx])]; exact hx
      · exact hx
/-- What the receiver sees in a blinded slot. -/
theorem forces {L : List Ru} {P : List Pu} {s t n i : Nat} {eta dark : Int} (hL : L.all okRu = true) {q : Ru} (hq : lastB L i = some q) (h7 : q.k = 7) (hm : q ∈ L) (hn : P.length = n) (hi : i < n) :
    ∃ k, (dets eta dark 0 (carrF L P s n).1 t n).1[i]? = some k ∧ k.k = if k.b = q.a then 1 + q.b else 0 := by
  obtain ⟨p, hp⟩ : ∃ p, P[i]? = some p := ⟨_, List.getElem?_eq_getElem (by omega)⟩
  have hx := carrF_get (L := L) (s := s) hp n (by omega) hi
  have hc := dets_get (eta := eta) (dark := dark) (sh := 0) (L := (carrF L P s n).1) (s := t) n hi
  rw [ltAt_get hx] at hc
  have he := chan_forces L (liOf p) (carrF L P s i).2.2 none (fun q h => by cases h) q hq
  rw [he] at hc
  refine ⟨_, hc, ?_⟩
  have hok := List.all_eq_true.1 hL q hm
  have hqb : q.b = 0 ∨ q.b = 1 := by
    unfold okRu at hok; simp [h7] at hok; omega
  unfold normL
  rw [if_pos (.inr rfl), detF_bright rfl]
  simp only
  split
  · rcases hqb with h | h <;> simp [h]
  · rfl
theorem lastB_snoc {L : List Ru} {k i : Nat} {r : Ru} (h : L[k]? = some r) : lastB (L.take (k + 1)) i = if r.k = 7 ∧ r.fr ≤ (i : Int) ∧ (i : Int) ≤ r.to then some r else lastB (L.take k) i := by
  unfold lastB; rw [List.take_add_one, h, List.foldl_append]; rfl

/-! ### Begins -/
theorem emiF_take (f : Nat → Int) (s : Nat) : ∀ n m, m ≤ n → (emiF f s n).1.take m = (emiF f s m).1
  | 0, m, h => by obtain rfl : m = 0 := by omega
                  rfl
  | n + 1, m, h => by
    by_cases e : m = n + 1
    · subst e; rw [List.take_of_length_le (by rw [emiF_len]; omega)]
    · rw [emiF, List.take_append_of_le_length (by rw [emiF_len]; omega), emiF_take f s n m (by omega)]
theorem carrF_prefix (L : List Ru) (P : List Pu) (s m : Nat) (hm : m ≤ P.length) : ∀ k, k ≤ m → carrF L (P.take m) s k = carrF L P s k
  | 0, _ => rfl
  | k + 1, hk => by
    have hkP : k < P.length := by omega
    have h1 : (P.take m)[k]? = some P[k] := by rw [List.getElem?_take, if_pos (by omega), List.getElem?_eq_getElem hkP]
    rw [carrF_at h1, carrF_at (List.getElem?_eq_getElem hkP), carrF_prefix L P s m hm k (by omega)]
theorem carrF_take (L : List Ru) (P : List Pu) (s : Nat) : ∀ n m, n ≤ P.length → m ≤ n → (carrF L P s n).1.take m = (carrF L P s m).1
  | 0, m, _, h => by obtain rfl : m = 0 := by omega
                     rfl
  | n + 1, m, hn, h => by
    by_cases e : m = n + 1
    · subst e; rw [List.take_of_length_le (by rw [carrF_len L P s _ hn]; omega)]
    · rw [carrF_at (List.getElem?_eq_getElem (show n < P.length by omega)), List.take_append_of_le_length (by rw [carrF_len L P s n (by omega)]; omega), carrF_take L P s n m (by omega) (by omega)]
theorem carrF_filter (L : List Ru) (P : List Pu) (s : Nat) : ∀ n m, n ≤ P.length → m ≤ n → (carrF L P s n).2.1.filter (fun y : No => decide (y.slot < (m : Int))) = (carrF L P s m).2.1
  | 0, m, _, h => by obtain rfl : m = 0 := by omega
                     rfl
  | n + 1, m, hn, h => by
    by_cases e : m = n + 1
    · subst e
      rw [List.filter_eq_self]
      intro y hy
      obtain ⟨i, p, hi, hp, hy⟩ := (carrF_mem (n + 1) hn).1 hy
      have := chan_slot L _ _ hy
      simp only [decide_eq_true_eq]; omega
    · rw [carrF_at (List.getElem?_eq_getElem (show n < P.length by omega)), List.filter_append, carrF_filter L P s n m (by omega) (by omega)]
      rw [List.filter_eq_nil_iff.2, List.append_nil]
      intro y hy
      have := chan_slot L _ _ hy
      simp only [decide_eq_true_eq]; omega
theorem dets_prefix (eta dark : Int) (X : List Li) (s m : Nat) (hm : m ≤ X.length) : ∀ k, k ≤ m → dets eta dark 0 (X.take m) s k = dets eta dark 0 X s k
  | 0, _ => rfl
  | k + 1, hk => by
    have hkX : k < X.length := by omega
    have h1 : (X.take m)[k]? = some X[k] := by rw [List.getElem?_take, if_pos (by omega), List.getElem?_eq_getElem hkX]
    rw [dets, dets, dets_prefix eta dark X s m hm k (by omega), ltAt_get h1, ltAt_get (List.getElem?_eq_getElem hkX)]
theorem dets_take (eta dark sh : Int) (X : List Li) (s : Nat) : ∀ n m, m ≤ n → (dets eta dark sh X s n).1.take m = (dets eta dark sh X s m).1
  | 0, m, h => by obtain rfl : m = 0 := by omega
                  rfl
  | n + 1, m, h => by
    by_cases e : m = n + 1
    · subst e; rw [List.take_of_length_le (by rw [dets_len]; omega)]
    · rw [dets, List.take_append_of_le_length (by rw [dets_len]; omega), dets_take eta dark sh X s n m (by omega)]
section
variable (f : Nat → Int) (L : List Ru) (a b c : Nat) {n m : Nat}
theorem begins_P (h : m ≤ n) : (emiF f a n).1.take m = (emiF f a m).1 := emiF_take f a n m h
theorem begins_N (h : m ≤ n) : (carrF L (emiF f a n).1 b n).2.1.filter (fun y : No => decide (y.slot < (m : Int))) = (carrF L (emiF f a m).1 b m).2.1 := by
  rw [carrF_filter L _ b n m (by rw [emiF_len]; omega) h, ← emiF_take f a n m h, carrF_prefix L _ b m (by rw [emiF_len]; omega) m (Nat.le_refl _)]
theorem begins_C (h : m ≤ n) (eta dark : Int) : (dets eta dark 0 (carrF L (emiF f a n).1 b n).1 c n).1.take m = (dets eta dark 0 (carrF L (emiF f a m).1 b m).1 c m).1 := by
  have hl : (emiF f a n).1.length = n := emiF_len f a n
  have hl2 : (carrF L (emiF f a n).1 b n).1.length = n := carrF_len L _ b n (by omega)
  rw [dets_take eta dark 0 _ c n m h, ← dets_prefix eta dark _ c m (by omega) m (Nat.le_refl _), carrF_take L _ b n m (by omega) h, ← emiF_take f a n m h, carrF_prefix L _ b m (by omega) m (Nat.le_refl _)]
end

/-! ### Honest -/
theorem chan_none (i : Nat) (x : Li) (s : Nat) : chan i [] x s = (x, [], s) := rfl
theorem hit_all (s : Nat) {a : Int} (h : 256 ≤ a) : hit a s = true := by
  have := Nat.mod_lt (ny s) (show 0 < 256 by omega)
  unfold hit bel; simp only [decide_eq_true_eq]; omega
theorem phots_one {b : Int} {x : Li} {s : Nat} : knd (phots 256 b x s 1).1.1 (phots 256 b x s 1).1.2 = 1 ∨ knd (phots 256 b x s 1).1.1 (phots 256 b x s 1).1.2 = 2 := by
  have h := Nat.mod_lt (ny s) (show 0 < 256 by omega)
  rw [phots, phots, phot, if_pos (by unfold bel; simp only; omega)]
  split
  · cases x.bit <;> simp [fire, knd]
  · generalize decide (bel (nx (((false, false), s) : (Bool × Bool) × Nat).2) 2 = 1) = t
    cases t <;> simp [fire, knd]
theorem plain_pul {eta dark : Int} (s : Nat) : (pulF (plainF eta dark) s).1.ph = 1 ∧ (pulF (plainF eta dark) s).1.seen = true := by
  have h0 : plainF eta dark 0 = 0 := rfl
  have hc : ∀ t, (clsF (plainF eta dark) t) = (2, t) := fun t => by unfold clsF; rw [if_neg (by rw [h0]; omega)]
  have hp : ∀ t, phF (plainF eta dark) 2 t = 1 := fun t => by
    have h := Nat.mod_lt (ny t) (show 0 < 256 by omega)
    unfold phF
    refine wgt_at (by simp [rowOf]) (fun j hj => ?_) ?_
    · obtain rfl : j = 0 := by omega
      simp only [sumK, rowOf, plainF, bel]; simp; omega
    · simp only [sumK, rowOf, plainF, bel]; simp; omega
  unfold pulF
  simp only [hc, hp, h0]
  exact ⟨rfl, rfl⟩
theorem emiF_all {f : Nat → Int} {s : Nat} {Q : Pu → Prop} (hQ : ∀ t, Q (pulF f t).1) : ∀ n p, p ∈ (emiF f s n).1 → Q p
  | 0, p, h => by simp [emiF] at h
  | n + 1, p, h => by
    rw [emiF] at h
    rcases List.mem_append.1 h with h | h
    · exact emiF_all hQ n p h
    · obtain rfl := List.mem_singleton.1 h
      exact hQ _
theorem carrF_nil (P : List Pu) (s : Nat) : ∀ n, n ≤ P.length → (carrF [] P s n).2.1 = []
  | 0, _ => rfl
  | n + 1, hn => by rw [carrF_at (List.getElem?_eq_getElem (show n < P.length by omega)), carrF_nil P s n (by omega)]; rfl
/-- Without rules, one photon in each slot, perfect detectors: a click of one side; in the same basis, of the pulse's. -/
theorem honest {a b c n i : Nat} {p : Pu} {k : Ck} (hp : (emiF (plainF 256 0) a n).1[i]? = some p) (hk : (dets 256 0 0 (carrF [] (emiF (plainF 256 0) a n).1 b n).1 c n).1[i]? = some k) :
    p.seen = true ∧ (k.k = 1 ∨ k.k = 2) ∧ (k.b = p.b → p.bit = decide (k.k = 2)) := by
  have hl : (emiF (plainF 256 0) a n).1.length = n := emiF_len _ _ _
  have hi : i < n := by rw [← hl]; exact (List.getElem?_eq_some_iff.1 hp).1
  obtain ⟨h1, h2⟩ := emiF_all (Q := fun p => p.ph = 1 ∧ p.seen = true) (fun t => plain_pul t) n p (List.mem_of_getElem? hp)
  have hx := carrF_get (L := []) (s := b) hp n (by omega) hi
  rw [dets_get n hi, ltAt_get hx, chan_none] at hk
  obtain rfl := Option.some.inj hk
  have hn : normL (liOf p) = liOf p := by unfold normL; rw [if_pos (.inl (by simp [liOf, h1]))]
  rw [hn]
  have hk : (detF 256 0 (liOf p) (dets 256 0 0 (carrF [] (emiF (plainF 256 0) a n).1 b n).1 c i).2).1.k = 1 ∨ (detF 256 0 (liOf p) (dets 256 0 0 (carrF [] (emiF (plainF 256 0) a n).1 b n).1 c i).2).1.k = 2 := by
    rw [detF_nodark rfl, show (liOf p).ph.toNat = 1 by simp [liOf, h1]]
    exact phots_one
  exact ⟨h2, hk, fun hb => detF_bit (x := liOf p) rfl hb hk⟩

/-! ### Nothing -/
/-- Light that no detector and no rule can tell apart. -/
def Alike (x y : Li) : Prop := x = y ∨ (x.bright = false ∧ y.bright = false ∧ x.ph = 0 ∧ y.ph = 0)
theorem act1_alike {r : Ru} {i : Nat} {x y : Li} {s : Nat} (h : Alike x y) : Alike (act1 r i x s).1 (act1 r i y s).1 ∧ (act1 r i x s).2 = (act1 r i y s).2 := by
  rcases h with rfl | ⟨h1, h2, h3, h4⟩
  · exact ⟨.inl rfl, rfl⟩
  unfold act1
  split
  · unfold actF
    simp only [h1, h2, h3, h4]
    by_cases k7 : r.k = 7
    · simp only [if_pos k7]; exact ⟨.inl rfl, trivial⟩
    · simp only [if_neg k7]
      (repeat' split) <;> first | contradiction | (simp [Alike, h1, h2, h3, h4, lossF] at *; done) | skip
  · exact ⟨.inr ⟨h1, h2, h3, h4⟩, rfl⟩
theorem chan_alike {i : Nat} : ∀ (L : List Ru) (x y : Li) (s : Nat), Alike x y → Alike (chan i L x s).1 (chan i L y s).1 ∧ (chan i L x s).2 = (chan i L y s).2
  | [], x, y, s, h => ⟨h, rfl⟩
  | r :: L, x, y, s, h => by
    obtain ⟨e1, e2⟩ := act1_alike (r := r) (i := i) (s := s) h
    obtain ⟨g1, g2⟩ := chan_alike (i := i) L (act1 r i x s).1 (act1 r i y s).1 (act1 r i x s).2.2 e1
    rw [chan, chan, ← e2]
    exact ⟨g1, by rw [g2]⟩
theorem normL_alike {x y : Li} (h : Alike x y) : normL x = normL y := by
  rcases h with rfl | ⟨h1, h2, h3, h4⟩
  · rfl
  · unfold normL; rw [if_neg (by simp [h1, h3]), if_neg (by simp [h2, h4])]
theorem carrF_alike {L : List Ru} {P Q : List Pu} (s : Nat) (hl : P.length = Q.length) (h : ∀ (i : Nat) (p q : Pu), P[i]? = some p → Q[i]? = some q → Alike (liOf p) (liOf q)) : ∀ n, n ≤ P.length → carrF L P s n = carrF L Q s n
  | 0, _ => rfl
  | n + 1, hn => by
    have h1 : P[n]? = some P[n] := List.getElem?_eq_getElem (by omega)
    have h2 : Q[n]? = some Q[n] := List.getElem?_eq_getElem (by omega)
    obtain ⟨g1, g2⟩ := chan_alike (i := n) L _ _ (carrF L Q s n).2.2 (h n _ _ h1 h2)
    rw [carrF_at h1, carrF_at h2, carrF_alike s hl h n (by omega), normL_alike g1, g2]
theorem lossF_all {a : Int} (h : 256 ≤ a) (s : Nat) : ∀ k, (lossF a s k).1 = k
  | 0 => rfl
  | k + 1 => by rw [lossF, hit_all _ h, lossF_all h s k]; rfl
def lossR : Ru := ⟨1, 0, 0, 256, 0⟩
theorem chan_loss {i : Nat} {x : Li} {s : Nat} (hd : x.bright = false) (hp : 0 ≤ x.ph) : normL (chan i [lossR] x s).1 = li0 ∧ (chan i [lossR] x s).2.1 = [] := by
  have hc : covers lossR i = true := rfl
  rw [chan, chan]
  unfold act1
  rw [if_pos hc]
  unfold actF
  rw [if_neg (by simp [lossR]), if_neg (by simp [hd]), if_pos (show lossR.k = 1 from rfl), lossF_all (show 256 ≤ lossR.a by simp [lossR])]
  refine ⟨?_, rfl⟩
  unfold normL
  rw [if_neg (by simp; omega)]
theorem carrF_loss {P : List Pu} (hP : P.all okPu = true) (s : Nat) : ∀ n, n ≤ P.length → (carrF [lossR] P s n).1 = List.replicate n li0 ∧ (carrF [lossR] P s n).2.1 = []
  | 0, _ => ⟨rfl, rfl⟩
  | n + 1, hn => by
    have h1 : P[n]? = some P[n] := List.getElem?_eq_getElem (by omega)
    obtain ⟨i1, i2⟩ := carrF_loss hP s n (by omega)
    have hok := List.all_eq_true.1 hP _ (List.mem_of_getElem? h1)
    obtain ⟨g1, g2⟩ := chan_loss (i := n) (x := liOf P[n]) (s := (carrF [lossR] P s n).2.2) rfl (by simp [okPu] at hok; simp [liOf]; omega)
    rw [carrF_at h1, g1, g2, i1, i2]
    exact ⟨by rw [List.replicate_succ'], rfl⟩
theorem dets_dark0 {eta : Int} {s n i : Nat} {k : Ck} (h : (dets eta 0 0 (List.replicate n li0) s n).1[i]? = some k) : k.k = 0 := by
  have hi : i < n := by rw [← dets_len eta 0 0 (List.replicate n li0) s n]; exact (List.getElem?_eq_some_iff.1 h).1
  rw [dets_get n hi, ltAt_get (x := li0) (by simp [hi])] at h
  obtain rfl := Option.some.inj h
  exact detF_none rfl (by simp [li0])
end Go.Proofs.YthdidjnhfkeokaaDoor
