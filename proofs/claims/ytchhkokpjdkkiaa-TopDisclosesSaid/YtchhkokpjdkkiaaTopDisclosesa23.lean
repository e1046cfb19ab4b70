/- Contract of the machine's advance (the Top seat). -/
import Derived.Test.YtchhkokpjdkkiaaTopDisclosesa21
import Derived.Test.YtchhkokpjdkkiaaTopDisclosesa22
namespace Go.Proofs.Ytchhkokpjdkkiaa
open Go.RowKit

/-- Where the course stands ahead of its next step; at most so much is left. -/
def Stp (C : Crs) (s : Mst) (a : MA) (v : Value) (k : Nat) : Prop :=
  (v = .nilFunc ∧ Rests C s) ∨
  (v = .func (.func 90) #[ptrV a] #[] ∧ PAsk C s ∧ s.opn = false ∧ mu C s 71 ≤ k) ∨
  (v = .func (.func 125) #[ptrV a] #[] ∧ PSea C s ∧ s.opn = false ∧ mu C s 70 ≤ k) ∨
  (v = .func (.func 91) #[ptrV a] #[] ∧ PHal C s ∧ s.opn = false ∧ mu C s (s.odd.tt - s.odd.fr) ≤ k)
theorem PHal.pos {C : Crs} {s : Mst} (h : PHal C s) (k : Nat) (hk : mu C s (s.odd.tt - s.odd.fr) ≤ k) : 0 < k := by
  have h5 := h.2.2.2.2.1.2.1
  unfold mu at hk
  omega
theorem muPos {C : Crs} {s : Mst} {p k : Nat} (hk : mu C s (p + 1) ≤ k) : 0 < k := by unfold mu at hk; omega
theorem nilF0 (W : World) : (binOp .neq 189 .nilFunc .nilFunc).run Try.prog W = .ok (.bool false) W := by kernel_rfl
theorem nilF1 (f : Nat) (fi : Array Value) (W : World) : (binOp .neq 189 (.func (.func f) fi #[]) .nilFunc).run Try.prog W = .ok (.bool true) W := by kernel_rfl
/-- What a step hands on. -/
def SStep (C : Crs) (base : Nat) (a : MA) (s : Mst) (k : Nat) (w : World) (e : Ending) (w' : World) : Prop :=
  ∃ v s' k', e = .returned v ∧ MC C w' base a s' ∧ Below base w w' ∧ s'.told = s.told ∧ Stp C s' a v k' ∧ k' < k
theorem ask_s {C : Crs} {w : World} {base : Nat} {a : MA} {s : Mst} {k : Nat} (h : MC C w base a s) (hC : C.Ok) (hp : PAsk C s) (ho : s.opn = false) (hk : mu C s 71 ≤ k) :
    Calls Try.prog 90 #[.pointer (some ⟨a.g, 0, none⟩)] w (SStep C base a s k w) :=
  (ask_c h hC hp ho).mono fun e w' h => by
    obtain ⟨s', h1, h2, h3, ⟨rfl, h4⟩ | ⟨rfl, h4, h5, h6⟩⟩ := h
    · exact ⟨_, s', 0, rfl, h1, h2, h3, .inl ⟨rfl, h4⟩, muPos hk⟩
    · exact ⟨_, s', _, rfl, h1, h2, h3, .inr (.inr (.inl ⟨rfl, h4, h5, Nat.le_refl _⟩)), by omega⟩
theorem search_s {C : Crs} {w : World} {base : Nat} {a : MA} {s : Mst} {k : Nat} (h : MC C w base a s) (hC : C.Ok) (hp : PSea C s) (ho : s.opn = false) (hk : mu C s 70 ≤ k) :
    Calls Try.prog 125 #[.pointer (some ⟨a.g, 0, none⟩)] w (SStep C base a s k w) :=
  (search_c h hC hp ho).mono fun e w' h => by
    obtain ⟨s', h1, h2, h3, ⟨rfl, h4, h5, h6⟩ | ⟨rfl, h4, h5, h6⟩⟩ := h
    · exact ⟨_, s', _, rfl, h1, h2, h3, .inr (.inl ⟨rfl, h4, h5, Nat.le_refl _⟩), by omega⟩
    · exact ⟨_, s', _, rfl, h1, h2, h3, .inr (.inr (.inr ⟨rfl, h4, h5, Nat.le_refl _⟩)), by omega⟩
theorem halve_s {C : Crs} {w : World} {base : Nat} {a : MA} {s : Mst} {k : Nat} (h : MC C w base a s) (hC : C.Ok) (hp : PHal C s) (ho : s.opn = false) (hk : mu C s (s.odd.tt - s.odd.fr) ≤ k) :
    Calls Try.prog 91 #[.pointer (some ⟨a.g, 0, none⟩)] w (SStep C base a s k w) :=
  (halve_c h hC hp ho).mono fun e w' h => by
    obtain ⟨s', h1, h2, h3, ⟨rfl, h4⟩ | ⟨rfl, h4, h5, h6⟩ | ⟨rfl, h4, h5, h6⟩⟩ := h
    · exact ⟨_, s', 0, rfl, h1, h2, h3, .inl ⟨rfl, .inl h4⟩, hp.pos _ hk⟩
    · exact ⟨_, s', _, rfl, h1, h2, h3, .inr (.inr (.inl ⟨rfl, h4, h5, Nat.le_refl _⟩)), by omega⟩
    · exact ⟨_, s', _, rfl, h1, h2, h3, .inr (.inr (.inr ⟨rfl, h4, h5, Nat.le_refl _⟩)), by omega⟩
set_option maxRecDepth 100000 in
set_option maxHeartbeats 3200000 in
theorem advance_c {C : Crs} {w : World} {base : Nat} {a : MA} {s : Mst} (h : MC C w base a s) (hC : C.Ok) (hp : PAsk C s ∨ PHal C s) :
    Calls Try.prog 57 #[.pointer (some ⟨a.g, 0, none⟩)] w fun e w' => e = .returned (.tuple #[]) ∧ ∃ s', MC C w' base a s' ∧ Below base w w' ∧ s'.told = s.told ∧ Rests C s' := by
  have m13 := h.cells 13
  have m18 := h.cells 18
  have m19 := h.cells 19
  have m20 := h.cells 20
  have m21 := h.cells 21
  simp only [mRow, List.getElem?_toArray, List.getElem?_cons_zero, List.getElem?_cons_succ] at m13 m18 m19 m20 m21
  have f18 := h.m.m.frozen 18
  have f19 := h.m.m.frozen 19
  have f20 := h.m.m.frozen 20
  have f21 := h.m.m.frozen 21
  have hx := h.m.hg
  have h1 := (((((h.set 18 (.int .i64 0) (s' := { s with nxt := ⟨0, s.nxt.fr, s.nxt.tt⟩ }) rfl rfl rfl).set 19 (.int .i64 0) (s' := { s with nxt := ⟨0, 0, s.nxt.tt⟩ }) rfl rfl rfl).set 20 (.int .i64 0) (s' := { s with nxt := ⟨0, 0, 0⟩ }) rfl rfl rfl).set 21 (.bool false) (s' := { s with nxt := ⟨0, 0, 0⟩, opn := false }) rfl rfl rfl))
  have hb1 : Below base w ((((w.setCell ⟨a.g, 18, none⟩ (.int .i64 0)).setCell ⟨a.g, 19, none⟩ (.int .i64 0)).setCell ⟨a.g, 20, none⟩ (.int .i64 0)).setCell ⟨a.g, 21, none⟩ (.bool false)) :=
    (((Below.refl base w).setCell (p := ⟨a.g, 18, none⟩) hx _).setCell (p := ⟨a.g, 19, none⟩) hx _).setCell (p := ⟨a.g, 20, none⟩) hx _ |>.setCell (p := ⟨a.g, 21, none⟩) hx _
  have hp1 : PAsk C { s with nxt := ⟨0, 0, 0⟩, opn := false } ∨ PHal C { s with nxt := ⟨0, 0, 0⟩, opn := false } := by
    rcases hp with ⟨i, h2, h3⟩ | ⟨i, h2, h3, h4, h5, h6, h7⟩
    · exact .inl ⟨i.elsewhere rfl rfl rfl rfl rfl rfl, h2, h3.mono rfl⟩
    · exact .inr ⟨i.elsewhere rfl rfl rfl rfl rfl rfl, h2, h3, h4, h5, h6, h7⟩
  have HM := hide (And.intro h1 hb1)
  have HH := hide hC
  obtain ⟨sr, hsr⟩ : ∃ q, q = s.srch := ⟨_, rfl⟩
  rw [← hsr] at m13
  have hst : (sr = false → PAsk C { s with nxt := ⟨0, 0, 0⟩, opn := false }) ∧ (sr = true → PHal C { s with nxt := ⟨0, 0, 0⟩, opn := false }) := by
    rw [hsr]
    rcases hp1 with h | h
    · have : s.srch = false := h.2.1
      exact ⟨fun _ => h, fun e => (by rw [this] at e; cases e)⟩
    · have : s.srch = true := h.2.1
      exact ⟨fun e => (by rw [this] at e; cases e), fun _ => h⟩
  have HST := hide hst
  have HMU := hide (show sr = true → mu C { s with nxt := ⟨0, 0, 0⟩, opn := false } (s.odd.tt - s.odd.fr) ≤ mu C { s with nxt := ⟨0, 0, 0⟩, opn := false } 71 from fun e => by
    have h5 := (hst.2 e).2.2.2.2.1.2.2
    have := hC.hn
    simp only at h5
    unfold mu
    simp only
    omega)
  clear hst hsr hp1 hp h1 hb1 h hC
  have HL := hide (fun (v : Value) (w1 : World) (hb : Below base w w1) (s1 : Mst) (ht : s1.told = s.told) (hm : MC C w1 base a s1) (k : Nat) (hs : Stp C s1 a v k) => (⟨s1, hm, hb, ht, hs⟩ : ∃ s', MC C w1 base a s' ∧ Below base w w1 ∧ s'.told = s.told ∧ Stp C s' a v k))
  cases sr with
  | false =>
    have HP0 := hide (HST.out.1 rfl)
    go_enter Try.func57, Try.ntmps57
    go_wp2
    go_loopg [2] (mu C { s with nxt := ⟨0, 0, 0⟩, opn := false } 71) (fun k v wr => ∃ s', MC C wr base a s' ∧ Below base w wr ∧ s'.told = s.told ∧ Stp C s' a v k)
    case atStart => exact HL.out _ _ HM.out.2 { s with nxt := ⟨0, 0, 0⟩, opn := false } rfl HM.out.1 _ (.inr (.inl ⟨rfl, HP0.out, rfl, Nat.le_refl _⟩))
    case round =>
      obtain ⟨s', hm, hb, ht, hs⟩ := hrel
      rcases hs with ⟨rfl, hr⟩ | ⟨rfl, hq, ho, hk⟩ | ⟨rfl, hq, ho, hk⟩ | ⟨rfl, hq, ho, hk⟩
      · have HR := hide hr
        have HQ := hide (And.intro hm (And.intro hb ht))
        clear hr hm hb ht
        have hn0 := nilF0 wr
        go_wp2
        go_end0
        exact ⟨rfl, s', HQ.out.1, HQ.out.2.1, HQ.out.2.2, HR.out⟩
      · have KA := hide (ask_s hm HH.out hq ho hk)
        have HQ := hide (And.intro hb ht)
        clear hm hb ht hq ho hk
        simp only [ptrV]
        have hn1 := nilF1 90 #[.pointer (some ⟨a.g, 0, none⟩)] wr
        go_wp2_with (go_at_call 90; refine KA.out.mono ?_; rintro e w2 ⟨v2, s2, k2, rfl, h2, b2, t2, hs2, hlt⟩)
        go_roundg k2
        case measure => exact hlt
        case rel => exact ⟨s2, h2, HQ.out.1.trans b2, t2.trans HQ.out.2, hs2⟩
      · have KA := hide (search_s hm HH.out hq ho hk)
        have HQ := hide (And.intro hb ht)
        clear hm hb ht hq ho hk
        simp only [ptrV]
        have hn1 := nilF1 125 #[.pointer (some ⟨a.g, 0, none⟩)] wr
        go_wp2_with (go_at_call 125; refine KA.out.mono ?_; rintro e w2 ⟨v2, s2, k2, rfl, h2, b2, t2, hs2, hlt⟩)
        go_roundg k2
        case measure => exact hlt
        case rel => exact ⟨s2, h2, HQ.out.1.trans b2, t2.trans HQ.out.2, hs2⟩
      · have KA := hide (halve_s hm HH.out hq ho hk)
        have HQ := hide (And.intro hb ht)
        clear hm hb ht hq ho hk
        simp only [ptrV]
        have hn1 := nilF1 91 #[.pointer (some ⟨a.g, 0, none⟩)] wr
        go_wp2_with (go_at_call 91; refine KA.out.mono ?_; rintro e w2 ⟨v2, s2, k2, rfl, h2, b2, t2, hs2, hlt⟩)
        go_roundg k2
        case measure => exact hlt
        case rel => exact ⟨s2, h2, HQ.out.1.trans b2, t2.trans HQ.out.2, hs2⟩
  | true =>
    have HP0 := hide (HST.out.2 rfl)
    have HM0 := hide (HMU.out rfl)
    go_enter Try.func57, Try.ntmps57
    go_wp2
    go_loopg [2] (mu C { s with nxt := ⟨0, 0, 0⟩, opn := false } 71) (fun k v wr => ∃ s', MC C wr base a s' ∧ Below base w wr ∧ s'.told = s.told ∧ Stp C s' a v k)
    case atStart => exact HL.out _ _ HM.out.2 { s with nxt := ⟨0, 0, 0⟩, opn := false } rfl HM.out.1 _ (.inr (.inr (.inr ⟨rfl, HP0.out, rfl, HM0.out⟩)))
    case round =>
      obtain ⟨s', hm, hb, ht, hs⟩ := hrel
      rcases hs with ⟨rfl, hr⟩ | ⟨rfl, hq, ho, hk⟩ | ⟨rfl, hq, ho, hk⟩ | ⟨rfl, hq, ho, hk⟩
      · have HR := hide hr
        have HQ := hide (And.intro hm (And.intro hb ht))
        clear hr hm hb ht
        have hn0 := nilF0 wr
        go_wp2
        go_end0
        exact ⟨rfl, s', HQ.out.1, HQ.out.2.1, HQ.out.2.2, HR.out⟩
      · have KA := hide (ask_s hm HH.out hq ho hk)
        have HQ := hide (And.intro hb ht)
        clear hm hb ht hq ho hk
        simp only [ptrV]
        have hn1 := nilF1 90 #[.pointer (some ⟨a.g, 0, none⟩)] wr
        go_wp2_with (go_at_call 90; refine KA.out.mono ?_; rintro e w2 ⟨v2, s2, k2, rfl, h2, b2, t2, hs2, hlt⟩)
        go_roundg k2
        case measure => exact hlt
        case rel => exact ⟨s2, h2, HQ.out.1.trans b2, t2.trans HQ.out.2, hs2⟩
      · have KA := hide (search_s hm HH.out hq ho hk)
        have HQ := hide (And.intro hb ht)
        clear hm hb ht hq ho hk
        simp only [ptrV]
        have hn1 := nilF1 125 #[.pointer (some ⟨a.g, 0, none⟩)] wr
        go_wp2_with (go_at_call 125; refine KA.out.mono ?_; rintro e w2 ⟨v2, s2, k2, rfl, h2, b2, t2, hs2, hlt⟩)
        go_roundg k2
        case measure => exact hlt
        case rel => exact ⟨s2, h2, HQ.out.1.trans b2, t2.trans HQ.out.2, hs2⟩
      · have KA := hide (halve_s hm HH.out hq ho hk)
        have HQ := hide (And.intro hb ht)
        clear hm hb ht hq ho hk
        simp only [ptrV]
        have hn1 := nilF1 91 #[.pointer (some ⟨a.g, 0, none⟩)] wr
        go_wp2_with (go_at_call 91; refine KA.out.mono ?_; rintro e w2 ⟨v2, s2, k2, rfl, h2, b2, t2, hs2, hlt⟩)
        go_roundg k2
        case measure => exact hlt
        case rel => exact ⟨s2, h2, HQ.out.1.trans b2, t2.trans HQ.out.2, hs2⟩
end Go.Proofs.Ytchhkokpjdkkiaa
