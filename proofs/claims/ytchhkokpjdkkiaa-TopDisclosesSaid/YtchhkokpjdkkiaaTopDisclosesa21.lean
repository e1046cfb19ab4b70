/- The machine of a cascade grows: an order, blocks, an answer are appended (the Top seat). A region that draws its order: the load of a whole block may be taken first; '!=' of a string and itself. -/
import Derived.Test.YtchhkokpjdkkiaaTopDisclosesa20
import Derived.Test.YtchhkokpjdkkiaaTopDisclosesa16
import Derived.Test.YtchhkokpjdkkiaaTopDisclosesa03
import Derived.Deep.RegionHeld3
namespace Go.Proofs.Ytchhkokpjdkkiaa
open Go.RowKit

theorem Ow.map_ne {α β : Type} {e : Enc α} {f : Enc β} {w : World} {base base' n c m d : Nat} {E F : TypeId} {A B : Option Addr} {L : List α} {M : List β} (o : Ow e w base E A n c L) (q : Ow f w base' F B m d M) (hT : E ≠ F) : ∀ g, B = some ⟨g, 0, none⟩ → some g ≠ A.map (·.block) := by
  intro g hB hh
  rcases o.form with ⟨rfl, _, _⟩ | ⟨g1, cur, rfl, _, _, _, _⟩
  · cases hh
  · injection hh with hh
    exact o.ne_ow q hT rfl g hB hh
theorem Ow.other {α β : Type} {e : Enc α} {f : Enc β} {w w' : World} {base base' n c m d : Nat} {E F : TypeId} {A B : Option Addr} {L : List α} {M : List β} (o : Ow e w base E A n c L) (hg : w.grownBy w' (A.map (·.block))) (hT : E ≠ F) (q : Ow f w base' F B m d M) : Ow f w' base' F B m d M :=
  q.grown hg (o.map_ne q hT)
theorem Ow.otherB {α : Type} {e : Enc α} {w w' : World} {base n c g : Nat} {E T : TypeId} {A : Option Addr} {L : List α} {cs : Array Value} (o : Ow e w base E A n c L) (hg : w.grownBy w' (A.map (·.block))) (hT : E ≠ T) (b : Blk w g T cs) : Blk w' g T cs := by
  refine b.grown hg fun hh => ?_
  rcases o.form with ⟨rfl, _, _⟩ | ⟨g1, cur, rfl, _, _, _, _⟩
  · cases hh
  · injection hh with hh
    exact o.ne_blk b hT g1 rfl hh.symm
theorem Ow.otherM {α : Type} {e : Enc α} {w w' : World} {base n c k : Nat} {E : TypeId} {A : Option Addr} {L : List α} {KL : List Qs} {tp : Qs → Bool} (o : Ow e w base E A n c L) (hg : w.grownBy w' (A.map (·.block))) (h : MapK w k KL tp) : MapK w' k KL tp := by
  refine h.grown hg fun hh => ?_
  rcases o.form with ⟨rfl, _, _⟩ | ⟨g1, cur, rfl, _, _, _, _⟩
  · cases hh
  · injection hh with hh
    exact h.ne_own o g1 rfl hh.symm
theorem MapK.perm {w : World} {b : Nat} {KL ML : List Qs} {tp : Qs → Bool} (h : MapK w b KL tp) (hl : KL.length = ML.length) (hm : ∀ q, q ∈ KL ↔ q ∈ ML) : MapK w b ML tp := by
  obtain ⟨D, h1, h2⟩ := h
  refine ⟨D, hl ▸ h1, fun q hq kl hk zd => ?_⟩
  rw [h2 q hq kl hk zd]
  by_cases e : q ∈ KL
  · rw [if_pos e, if_pos ((hm q).1 e)]
  · rw [if_neg e, if_neg fun e' => e ((hm q).2 e')]
section
variable {w w' : World} {base n : Nat} {c : Cas} {O : Nat → List Nat} {BL : Nat → List Qs} {tp : Qs → Bool} {a : MA} {s s' : Mst} {HO HB : List Hd}
/-- The row of the machine is written anew, nothing else. -/
theorem Mach.row {cs : Array Value} (hm : Blk w a.g 96 cs) (i : Nat) (v : Value) (a' : MA) (s' : Mst) (hag : a'.g = a.g) (hrow : cs.setIfInBounds i v = mRow c a' s')
    (hr : MR w base a' HO HB n O BL) (hb : Ow eBool w base 4 a'.b.A a'.b.n a'.b.c s'.b) (hk : MapK w a'.k (s'.told.map Ans.q) tp) (ht : Ow eAns w base 47 a'.T.A a'.T.n a'.T.c s'.told) (hbn : a'.b.n = n) (h1 : base ≤ a.g) (h2 : base ≤ a'.k) :
    Mach (w.setCell ⟨a.g, i, none⟩ v) base c n O BL tp a' s' := by
  have hg := grownBy_setCell w a.g i v
  have hm' : Blk (w.setCell ⟨a.g, i, none⟩ v) a'.g 96 (mRow c a' s') := by rw [hag, ← hrow]; exact hm.set_ i v
  refine ⟨hm', ⟨HO, HB, hr.keep fun g cur T hh hT => hg.block g (Array.getElem?_eq_some_iff.1 hh).1 fun e => ?_⟩, hb.far (hb.ne_blk hm (by decide)) v, hk.grown hg (fun e => hk.ne_blk hm (Option.some.inj e)), ht.far (ht.ne_blk hm (by decide)) v, hbn, hag ▸ h1, h2⟩
  injection e with e
  subst e
  have := hh.symm.trans hm
  injection this with this; injection this with _ h2
  subst h2
  revert hT; decide
theorem Mach.pushO (h : Mach w base c n O BL tp a s) (hr : MR w base a HO HB n O BL) {hd : Hd} (hn : hd.n = n) (ho : Ow eNat w base 3 hd.A hd.n hd.c (O a.O.n)) {A' : Option Addr} {m' c' : Nat} (o8 : Ow eHd w' base 61 A' m' c' (HO ++ [hd])) (hg : w.grownBy w' (a.O.A.map (·.block))) :
    Mach (w'.setCell ⟨a.g, 4, none⟩ (.slice A' m' c')) base c n O BL tp { a with O := ⟨A', m', c'⟩ } s := by
  have o := hr.hO
  have hl := o.len
  refine Mach.row (a := a) (HO := HO ++ [hd]) (HB := HB) (o.otherB hg (by decide) h.m) 4 _ { a with O := ⟨A', m', c'⟩ } s rfl rfl ⟨o8, o.other hg (by decide) hr.hB, fun i x hx => ?_, fun i x hx => o.other hg (by decide) (hr.rB i x hx)⟩ (o.other hg (by decide) h.b) (o.otherM hg h.k) (o.other hg (by decide) h.t) h.bn h.hg h.hk
  by_cases hi : i < HO.length
  · rw [List.getElem?_append_left hi] at hx
    exact ⟨(hr.rO i x hx).1, o.other hg (by decide) (hr.rO i x hx).2⟩
  · rw [List.getElem?_append_right (by omega)] at hx
    have hi2 : i - HO.length = 0 := by
      have := (List.getElem?_eq_some_iff.1 hx).1
      simp at this; omega
    rw [hi2] at hx
    obtain rfl := Option.some.inj hx
    obtain rfl : i = a.O.n := by omega
    exact ⟨hn, o.other hg (by decide) ho⟩
theorem Mach.pushB (h : Mach w base c n O BL tp a s) (hr : MR w base a HO HB n O BL) {hd : Hd} (ho : Ow eQs w base 45 hd.A hd.n hd.c (BL a.B.n)) {A' : Option Addr} {m' c' : Nat} (o8 : Ow eHd w' base 145 A' m' c' (HB ++ [hd])) (hg : w.grownBy w' (a.B.A.map (·.block))) :
    Mach (w'.setCell ⟨a.g, 5, none⟩ (.slice A' m' c')) base c n O BL tp { a with B := ⟨A', m', c'⟩ } s := by
  have o := hr.hB
  have hl := o.len
  refine Mach.row (a := a) (HO := HO) (HB := HB ++ [hd]) (o.otherB hg (by decide) h.m) 5 _ { a with B := ⟨A', m', c'⟩ } s rfl rfl ⟨o.other hg (by decide) hr.hO, o8, fun i x hx => ⟨(hr.rO i x hx).1, o.other hg (by decide) (hr.rO i x hx).2⟩, fun i x hx => ?_⟩ (o.other hg (by decide) h.b) (o.otherM hg h.k) (o.other hg (by decide) h.t) h.bn h.hg h.hk
  by_cases hi : i < HB.length
  · rw [List.getElem?_append_left hi] at hx
    exact o.other hg (by decide) (hr.rB i x hx)
  · rw [List.getElem?_append_right (by omega)] at hx
    have hi2 : i - HB.length = 0 := by
      have := (List.getElem?_eq_some_iff.1 hx).1
      simp at this; omega
    rw [hi2] at hx
    obtain rfl := Option.some.inj hx
    obtain rfl : i = a.B.n := by omega
    exact o.other hg (by decide) ho
/-- An answer is put into the map, then appended to what was told. -/
theorem Mach.pushT (h : Mach w base c n O BL tp a s) {w1 : World} {q : Qs} {v : Bool} (hk : MapK w1 a.k (q :: s.told.map Ans.q) tp) (hg1 : w.grownBy w1 (some a.k)) {w2 : World} (hb2 : Below w1.heap.size w1 w2) {A' : Option Addr} {m' c' : Nat} (o8 : Ow eAns w' base 47 A' m' c' (s.told ++ [⟨q, v⟩])) (hg : w2.grownBy w' (a.T.A.map (·.block))) :
    Mach (w'.setCell ⟨a.g, 8, none⟩ (.slice A' m' c')) base c n O BL tp { a with T := ⟨A', m', c'⟩ } { s with told := s.told ++ [⟨q, v⟩] } := by
  have nk : ∀ {α : Type} {e : Enc α} {E : TypeId} {A : Option Addr} {m d : Nat} {L : List α}, Ow e w base E A m d L → Ow e w2 base E A m d L := fun o =>
    (o.grown hg1 fun g e hh => h.k.ne_own o g e (Option.some.inj hh)).on hb2
  obtain ⟨HO, HB, hr⟩ := h.r
  have o := nk h.t
  have hm2 : Blk w2 a.g 96 (mRow c a s) := (h.m.grown hg1 fun e => h.k.ne_blk h.m (Option.some.inj e).symm).keep hb2
  refine Mach.row (a := a) (HO := HO) (HB := HB) (o.otherB hg (by decide) hm2) 8 _ { a with T := ⟨A', m', c'⟩ } { s with told := s.told ++ [⟨q, v⟩] } rfl rfl ⟨o.other hg (by decide) (nk hr.hO), o.other hg (by decide) (nk hr.hB), fun i x hx => ⟨(hr.rO i x hx).1, o.other hg (by decide) (nk (hr.rO i x hx).2)⟩, fun i x hx => o.other hg (by decide) (nk (hr.rB i x hx))⟩ (o.other hg (by decide) (nk h.b)) ?_ o8 h.bn h.hg h.hk
  have hk2 := hk.grown (grownBy_below hb2 none) (by simp)
  refine (o.otherM hg hk2).perm (by simp) fun r => by simp [or_comm]
end

/-! ### The course of a plan -/
def nblk (c : Cas) (n p : Nat) : Nat := (n + szOf c p - 1) / szOf c p
def blkL (c : Cas) (n p : Nat) : List Qs := cutL (szOf c p) n p (nblk c n p)
theorem sz_pos {c : Cas} (hc : okCas c) (p : Nat) : 1 ≤ szOf c p := Nat.le_trans hc.2.2.1 (Nat.le_mul_of_pos_right _ (Nat.pow_pos (by omega)))
theorem nblk_eq {c : Cas} (hc : okCas c) {n p k : Nat} (h1 : ∀ i, i < k → i * szOf c p < n) (h2 : n ≤ k * szOf c p) : k = nblk c n p := by
  have hs := sz_pos hc p
  unfold nblk
  cases k with
  | zero =>
    have : n = 0 := by omega
    subst this
    rw [Nat.div_eq_of_lt (by omega)]
  | succ k =>
    have h3 := h1 k (by omega)
    rw [Nat.add_mul, Nat.one_mul] at h2
    obtain ⟨m, rfl⟩ : ∃ m, n = k * szOf c p + m := ⟨n - k * szOf c p, by omega⟩
    rw [show k * szOf c p + m + szOf c p - 1 = (m - 1) + szOf c p * (k + 1) by rw [Nat.mul_add, Nat.mul_comm]; omega, Nat.add_mul_div_left _ _ (by omega), Nat.div_eq_of_lt (by omega)]
    omega
theorem nblk_le {c : Cas} (hc : okCas c) (n p : Nat) : nblk c n p ≤ n := by
  have hs := sz_pos hc p
  unfold nblk
  obtain ⟨s, hs'⟩ : ∃ s, szOf c p = s + 1 := ⟨szOf c p - 1, by omega⟩
  rw [hs']
  cases n with
  | zero => rw [Nat.div_eq_of_lt (by omega)]; omega
  | succ n =>
    apply Nat.div_le_of_le_mul
    have : s ≤ s * (n + 1) := Nat.le_mul_of_pos_right s (by omega)
    rw [Nat.add_mul, Nat.one_mul]
    omega
theorem blkL_ok {c : Cas} (hc : okCas c) {n p : Nat} (hp : p < c.p) {q : Qs} (h : q ∈ blkL c n p) : okQn c.p n q ∧ q.p = p := by
  have hs := sz_pos hc p
  unfold blkL cutL at h
  obtain ⟨i, hi, rfl⟩ := List.mem_map.1 h
  have hi := List.mem_range.1 hi
  unfold blkQ okQn
  simp only
  have h3 : i * szOf c p < n := by
    unfold nblk at hi
    have h4 := (Nat.le_div_iff_mul_le (by omega)).1 (Nat.succ_le_of_lt hi)
    rw [Nat.succ_mul] at h4
    omega
  exact ⟨⟨hp, by omega, Nat.min_le_right _ _⟩, trivial⟩
def crs (c : Cas) (n : Nat) (tr : List Bool) (d : Nat) : Crs := ⟨c, n, ordL c n, blkL c n, tr, d⟩
theorem crs_ok {c : Cas} (hc : okCas c) {n : Nat} (hn : n ≤ 64) {tr : List Bool} (ht : tr.length = n) (d : Nat) : (crs c n tr d).Ok :=
  ⟨hn, hc.2.1, ht, ordL_len c n, ordL_lt c n, fun _ _ hp hq => blkL_ok hc hp hq, fun p _ => by
    show (blkL c n p).length ≤ n
    unfold blkL; rw [cutL_len]; exact nblk_le hc n p⟩
def st0 (b : List Bool) : Mst := ⟨b, [], 0, false, 0, 0, false, ⟨0, 0, 0⟩, false, ⟨0, 0, 0⟩, false⟩
theorem st0_ask {c : Cas} {n : Nat} {b tr : List Bool} (hb : b.length = n) : PAsk (crs c n tr (dist b tr)) (st0 b) :=
  ⟨⟨hb, fun x hx => (by cases hx), List.nodup_nil, Nat.zero_le _, Nat.zero_le _, fun _ => Nat.zero_le _, fun p q hp => absurd hp (Nat.not_lt_zero _), fun _ i q hi => absurd hi (Nat.not_lt_zero _), by show 0 + dist b tr ≤ n; rw [← hb, Nat.zero_add]; exact dist_le b tr, Nat.le_refl _, rfl⟩, rfl, fun p q hp => absurd hp (Nat.not_lt_zero _)⟩
theorem Waits.told_lt {C : Crs} {s : Mst} (h : Waits C s) : s.told.length < C.c.p * (C.n + 1) * (C.n + 1) := by
  obtain ⟨_, h2, h3, h4⟩ := h
  have i : Inv C s := by rcases h4 with h | h <;> exact h.1
  have := told_len (n := C.n) (ps := C.c.p) (L := s.nxt :: s.told.map Ans.q) (List.nodup_cons.2 ⟨h3, i.nd⟩) (fun q hq => by
    rcases List.mem_cons.1 hq with rfl | hq
    · exact h2
    · obtain ⟨x, hx, rfl⟩ := List.mem_map.1 hq
      exact (i.told x hx).1)
  simp only [List.length_cons, List.length_map] at this
  omega
end Go.Proofs.Ytchhkokpjdkkiaa

namespace Go.Proofs.Ytchhkokpjdkkiaa
open Go.RowKit

variable {P : Program}
theorem yieldsIf_load_blk {ops : Array Oper} {S : World → Prop} {op : Oper} {a : Act} (hw : Region.wanted op (yielded ops a.tmps) = true) (ty : TypeId) (x : Operand) (ho : op.op = .load ty x)
    (g : Nat) (hx : a.eval x = .pointer (some ⟨g, 0, none⟩)) (t : TypeId) (cs : Array Value) (d : TypeDesc) (hS : ∀ w, S w → Blk w g t cs)
    (hu : P.underlying ty = some d) (hd : (match d with | .struct _ | .array _ _ => true | _ => false) = true) (hi : (P.info? ty).map (·.size) = some cs.size) : YieldsIf P ops S op (.agg cs) a :=
  .inl ⟨hw, fun w hw' => by
    unfold execOp
    simp only [ho, hx, Instr.loadAt, Instr.sureAddr, Sem.run_bind, Sem.run_pure, Result.andThen_ok, run_loadVar_row w g t ty cs (0, 0) d (hS w hw') hu hd hi]⟩
theorem yieldsIf_neq_str {ops : Array Oper} {S : World → Prop} {op : Oper} {a : Act} (hw : Region.wanted op (yielded ops a.tmps) = true) (t z : TypeId) (x y : Operand) (ho : op.op = .binOp .neq t x y z)
    (T : ByteArray) (hx : a.eval x = .string T) (hy : a.eval y = .string T) : YieldsIf P ops S op (.bool false) a :=
  .inl ⟨hw, fun w _ => by
    unfold execOp
    simp only [ho, hx, hy]
    simp [eqGuard, binOp, Op.stringOp]⟩
theorem yieldsIf_neq_int {ops : Array Oper} {S : World → Prop} {op : Oper} {a : Act} (hw : Region.wanted op (yielded ops a.tmps) = true) (t z : TypeId) (x y : Operand) (ho : op.op = .binOp .neq t x y z)
    (k : IntKind) (n : Int) (hx : a.eval x = .int k n) (hy : a.eval y = .int k n) : YieldsIf P ops S op (.bool false) a :=
  .inl ⟨hw, fun w _ => by
    unfold execOp
    simp only [ho, hx, hy]
    simp [eqGuard, binOp, Op.intCmp]⟩
theorem yieldsIf_eql_int {ops : Array Oper} {S : World → Prop} {op : Oper} {a : Act} (hw : Region.wanted op (yielded ops a.tmps) = true) (t z : TypeId) (x y : Operand) (ho : op.op = .binOp .eql t x y z)
    (k : IntKind) (n m : Int) (hx : a.eval x = .int k n) (hy : a.eval y = .int k m) : YieldsIf P ops S op (.bool (n == m)) a :=
  .inl ⟨hw, fun w _ => by
    unfold execOp
    simp only [ho, hx, hy]
    simp [eqGuard, binOp, Op.intCmp]⟩
theorem yieldsIf_load1 {ops : Array Oper} {S : World → Prop} {op : Oper} {a : Act} (hw : Region.wanted op (yielded ops a.tmps) = true) (ty : TypeId) (x : Operand) (ho : op.op = .load ty x)
    (p : Addr) (hx : a.eval x = .pointer (some p)) (v : Value) (hna : ∀ w, (isAgg ty).run P w = .ok false w) (hS : ∀ w, S w → w.cell? p = some v) : YieldsIf P ops S op v a :=
  .inl ⟨hw, fun w hw' => by
    unfold execOp
    simp only [ho, hx]
    simp [Instr.loadAt, Instr.sureAddr, loadVar, hna, run_load, hS w hw']⟩
theorem yieldsIf_indexAddr {ops : Array Oper} {S : World → Prop} {op : Oper} {a : Act} (hw : Region.wanted op (yielded ops a.tmps) = true) (ty : TypeId) (x y : Operand) (ho : op.op = .indexAddr ty x y)
    (e : TypeId) (hu : P.underlying ty = some (.slice e)) (hc : ∀ w, (Go.sizeOf e).run P w = .ok 1 w) (b off m c i : Nat) (z : Int) (hx : a.eval x = .slice (some ⟨b, off, none⟩) m c) (hy : a.eval y = .int .i64 z) (hz : z = (i : Int)) (hi : i < m) : YieldsIf P ops S op (.pointer (some ⟨b, off + i, none⟩)) a :=
  .inl ⟨hw, fun w hw' => by
    subst hz
    unfold execOp
    simp only [ho, hx, hy]
    simp [Instr.indexAt, asIntOf, run_underlying hu, hc, hi, Addr.add]⟩
theorem yieldsIf_move {ops : Array Oper} {S : World → Prop} {op : Oper} {a : Act} (hw : Region.wanted op (yielded ops a.tmps) = true) (x : Operand) (ho : op.op = .move x ∨ op.op = .assign x)
    (v : Value) (hx : a.eval x = v) : YieldsIf P ops S op v a :=
  .inl ⟨hw, fun w _ => by
    unfold execOp
    rcases ho with ho | ho <;> simp only [ho, hx] <;> rfl⟩
theorem yieldsIf_pick_false {ops : Array Oper} {S : World → Prop} {op : Oper} {a : Act} (hw : Region.wanted op (yielded ops a.tmps) = true) (c x y : Operand) (ho : op.op = .pick c x y)
    (hc : a.eval c = .bool false) (v : Value) (hy : a.eval y = v) : YieldsIf P ops S op v a :=
  .inl ⟨hw, fun w _ => by
    unfold execOp
    simp only [ho, hc, hy]
    simp [asBool]⟩
theorem yieldsIf_pick_true {ops : Array Oper} {S : World → Prop} {op : Oper} {a : Act} (hw : Region.wanted op (yielded ops a.tmps) = true) (c x y : Operand) (ho : op.op = .pick c x y)
    (hc : a.eval c = .bool true) (v : Value) (hx : a.eval x = v) : YieldsIf P ops S op v a :=
  .inl ⟨hw, fun w _ => by
    unfold execOp
    simp only [ho, hc, hx]
    simp [asBool]⟩
theorem yieldsIf_op {ops : Array Oper} {S : World → Prop} {op : Oper} {a : Act} (hw : Region.wanted op (yielded ops a.tmps) = true) (v : Value) (hc : ∀ w, (execOp a.eval op).run P w = .ok (.value v) w) : YieldsIf P ops S op v a := .inl ⟨hw, fun w _ => hc w⟩
theorem yieldsIf_convert {ops : Array Oper} {S : World → Prop} {op : Oper} {a : Act} (hw : Region.wanted op (yielded ops a.tmps) = true) (s d : TypeId) (x : Operand) (ho : op.op = .convert s d x)
    (v v' : Value) (hx : a.eval x = v) (hc : ∀ w, (convert s d v).run P w = .ok v' w) : YieldsIf P ops S op v' a :=
  .inl ⟨hw, fun w _ => by
    unfold execOp
    simp only [ho, hx]
    simp [hc]⟩
theorem yieldsIf_build {ops : Array Oper} {S : World → Prop} {op : Oper} {a : Act} (hw : Region.wanted op (yielded ops a.tmps) = true) (t : TypeId) (ps : Array (Nat × Operand)) (ho : op.op = .build t ps)
    (vs : Array (Nat × Value)) (hx : (ps.map fun (i, x) => (i, a.eval x)) = vs) (v : Value) (hc : ∀ w, (Instr.build t vs).run P w = .ok v w) : YieldsIf P ops S op v a :=
  .inl ⟨hw, fun w _ => by
    unfold execOp
    simp only [ho, hx]
    simp [hc]⟩
theorem yieldsIf_extract {ops : Array Oper} {S : World → Prop} {op : Oper} {a : Act} (hw : Region.wanted op (yielded ops a.tmps) = true) (x : Operand) (ix : Nat) (ho : op.op = .extract x ix)
    (vs : Array Value) (hx : a.eval x = .tuple vs) (v : Value) (hv : ∀ w, (Instr.extract (.tuple vs) ix).run P w = .ok v w) : YieldsIf P ops S op v a :=
  .inl ⟨hw, fun w _ => by
    unfold execOp
    simp only [ho, hx]
    simp [hv]⟩
/-- A whole struct stored at a step of a region that draws its order. -/
theorem step_store {ops : Array Oper} {o : Oper} {a : Act} {w : World} {Q : Exit → Act → World → Prop} {K : Act → World → Prop} {E' : Prop} (hgd : o.guard = none) (ty : TypeId) (x y : Operand) (ho : o.op = .store ty x y) (g : Nat) (cells : Array Value) (hx : a.eval x = .pointer (some ⟨g, 0, none⟩)) (hy : a.eval y = .agg cells)
    (t : TypeId) (old : Array Value) (hg : Blk w g t old) (hi : (P.info? ty).map (·.size) = some cells.size) (hold : old.size = cells.size) (h1 : cells.all (·.oneCell') = true)
    (h : ∀ w', Blk w' g t cells → w.grownBy w' (some g) → K (a.put o.dst undef) w') : if Region.wanted o (yielded ops a.tmps) = true then Oper.wp P o a w K Q else E' := by
  have hwd : Region.wanted o (yielded ops a.tmps) = true := by simp [Region.wanted, hgd]
  rw [if_pos hwd]
  exact wp_store_row ty x y ho g cells hx hy t old hg hi hold h1 (h _ (hg.setRow _) (grownBy_setRow _ _ _))
/-- A whole struct or array read by a guarded load whose guard holds. -/
theorem wl_loadG {ops : Array Oper} {rest : List Oper} {o : Oper} {a : Act} {w : World} {Q : Exit → Act → World → Prop} (hwd : Region.wanted o (yielded ops a.tmps) = true) (ty : TypeId) (x : Operand) (ho : o.op = .load ty x) (g : Nat) (hx : a.eval x = .pointer (some ⟨g, 0, none⟩)) (t : TypeId) (cs : Array Value) (d : TypeDesc) (hg : Blk w g t cs)
    (hu : P.underlying ty = some d) (hd : (match d with | .struct _ | .array _ _ => true | _ => false) = true) (hi : (P.info? ty).map (·.size) = some cs.size)
    (h : wpList P ops Q rest (a.put o.dst (.agg cs)) w) : wpList P ops Q (o :: rest) a w := by
  unfold wpList
  rw [if_pos hwd]
  exact .inl (wp_load_row ty x ho g hx t cs (0, 0) d hg hu hd hi h)
end Go.Proofs.Ytchhkokpjdkkiaa
