/- The plain law of layer 8: whoever acquires a lock in turn has it alone, and turns are served in their order. -/
import Derived.Test.YtophgiocmldliaaK2
namespace Go.Proofs.Ytophgiocmldliaa
namespace L8
/-- Where a thread stands; i: which turn it has, counted from the beginning. -/
inductive Ph where
  | idle
  | asks
  | loads (i : Nat)
  | owns (i : Nat)
  | frees (i : Nat)
  | serves (i : Nat)
def Ph.turn : Ph → Option Nat
  | .idle => none
  | .asks => none
  | .loads i => some i
  | .owns i => some i
  | .frees i => some i
  | .serves i => some i
def Ph.late : Ph → Bool
  | .frees _ => true
  | .serves _ => true
  | _ => false
def Ph.has : Ph → Option Nat
  | .owns i => some i
  | .frees i => some i
  | .serves i => some i
  | _ => none
def tn (F : Int) (i : Nat) : Int := (F + i) % 4294967296
/-- g turns were given, v were served to their end. -/
structure Inv (F : Int) (M : Mem) (P : Nat → Ph) (g v served : Nat) : Prop where
  len : 280 ≤ M.ws.length
  le : v ≤ g
  few : g ≤ 400
  tick : M.get 0 = tn F g
  serv : M.get 1 = tn F v
  rng : ∀ t i, (P t).turn = some i → v ≤ i ∧ i < g
  inj : ∀ t t' i, (P t).turn = some i → (P t').turn = some i → t = t'
  own : ∀ t i, (P t).has = some i → i = v
  late : ∀ t, (P t).late = true → served = v + 1
  early : (∀ t, (P t).late = false) → served = v
def upd (P : Nat → Ph) (t : Nat) (x : Ph) : Nat → Ph := fun k => if k = t then x else P k
theorem upd_same (P : Nat → Ph) (t : Nat) (x : Ph) : upd P t x t = x := by simp [upd]
theorem upd_other (P : Nat → Ph) {t k : Nat} (x : Ph) (h : k ≠ t) : upd P t x k = P k := by simp [upd, h]
theorem has_turn {p : Ph} {i : Nat} (h : p.has = some i) : p.turn = some i := by cases p <;> simp_all [Ph.has, Ph.turn]
theorem late_has {p : Ph} (h : p.late = true) : ∃ i, p.has = some i := by cases p <;> simp_all [Ph.has, Ph.late]

theorem get_set_ne {l : List Int} {i j : Nat} {v : Int} (h : i ≠ j) : (l.set i v).getD j 0 = l.getD j 0 := by
  simp [List.getD_eq_getElem?_getD, List.getElem?_set_ne h]
/-- The state but for one thread, and the memory's two words. -/
theorem Inv.move {F : Int} {M M' : Mem} {P : Nat → Ph} {g v served served' : Nat} (h : Inv F M P g v served) {t : Nat} {q : Ph} (hl : M'.ws.length = M.ws.length) (h0 : M'.get 0 = M.get 0) (h1 : M'.get 1 = M.get 1)
    (hq : q.turn = (P t).turn) (ho : ∀ i, q.has = some i → i = v)
    (hL : (∃ k, (upd P t q k).late = true) → served' = v + 1) (hE : (∀ k, (upd P t q k).late = false) → served' = v) : Inv F M' (upd P t q) g v served' := by
  have ht : ∀ k, (upd P t q k).turn = (P k).turn := by
    intro k
    by_cases e : k = t
    · subst e; rw [upd_same, hq]
    · rw [upd_other _ _ e]
  refine ⟨by rw [hl]; exact h.len, h.le, h.few, by rw [h0]; exact h.tick, by rw [h1]; exact h.serv, ?_, ?_, ?_, fun k hk => hL ⟨k, hk⟩, hE⟩
  · intro k i hk; rw [ht] at hk; exact h.rng k i hk
  · intro a b i ha hb; rw [ht] at ha hb; exact h.inj a b i ha hb
  · intro k i hk
    by_cases e : k = t
    · subst e; rw [upd_same] at hk; exact ho i hk
    · rw [upd_other _ _ e] at hk; exact h.own k i hk
/-- Where one has the lock, nobody else is on the way out. -/
theorem Inv.alone {F : Int} {M : Mem} {P : Nat → Ph} {g v served : Nat} (h : Inv F M P g v served) {t k i : Nat} (ht : (P t).has = some i) (hk : (P k).late = true) : k = t := by
  obtain ⟨j, hj⟩ := late_has hk
  have h1 := h.own t i ht
  have h2 := h.own k j hj
  subst h1
  subst h2
  exact h.inj k t _ (has_turn hj) (has_turn ht)
theorem Inv.start {F : Int} {M : Mem} {P : Nat → Ph} {g v served : Nat} (h : Inv F M P g v served) {t : Nat} (ht : P t = .idle) : Inv F M (upd P t .asks) g v served := by
  refine h.move rfl rfl rfl (by rw [ht]; rfl) (by intro i hi; cases hi) ?_ ?_
  · rintro ⟨k, hk⟩
    by_cases e : k = t
    · subst e; rw [upd_same] at hk; cases hk
    · rw [upd_other _ _ e] at hk; exact h.late k hk
  · intro hk
    refine h.early fun k => ?_
    by_cases e : k = t
    · subst e; rw [ht]; rfl
    · have := hk k; rwa [upd_other _ _ e] at this
theorem tn_range (F : Int) (i : Nat) : 0 ≤ tn F i ∧ tn F i < 4294967296 := by unfold tn; omega
theorem tn_inj {F : Int} {i j : Nat} (hi : i ≤ 400) (hj : j ≤ 400) (h : tn F i = tn F j) : i = j := by unfold tn at h; omega
theorem isAt_low {M : Mem} (h : 280 ≤ M.ws.length) {a : Int} (h0 : 0 ≤ a) (h1 : a < 280) : M.isAt a := ⟨h0, by omega⟩
/-- A turn is had. -/
theorem Inv.ask {F : Int} {M : Mem} {P : Nat → Ph} {g v served : Nat} (h : Inv F M P g v served) (hg : g + 1 ≤ 400) {t : Nat} (ht : P t = .asks) (who : Int) :
    ((M.add who 0 1).1 + 4294967296 - 1) % 4294967296 = tn F g ∧ Inv F (M.add who 0 1).2 (upd P t (.loads g)) (g + 1) v served := by
  have hat : M.isAt 0 := isAt_low h.len (by decide) (by decide)
  have e : M.add who 0 1 = (plus (M.get 0) 1, M.hit 4 who 0 (plus (M.get 0) 1) (plus (M.get 0) 1) true) := by unfold Mem.add; rw [if_pos hat]
  have hT := h.tick
  have hS := h.serv
  have hp : plus (M.get 0) 1 = tn F (g + 1) := by rw [hT]; unfold plus tn; push_cast; omega
  rw [e]
  refine ⟨by rw [hp]; unfold tn; push_cast; omega, ?_⟩
  have hl := h.len
  refine ⟨by simpa [Mem.hit] using hl, Nat.le_succ_of_le h.le, hg, ?_, ?_, ?_, ?_, ?_, ?_, ?_⟩
  · show (M.ws.set 0 _).getD 0 0 = _
    rw [List.getD_eq_getElem?_getD, List.getElem?_set_self (by omega)]
    exact hp
  · show (M.ws.set 0 _).getD 1 0 = _
    rw [get_set_ne (by decide)]
    exact hS
  · intro k i hk
    by_cases e : k = t
    · subst e; rw [upd_same] at hk; cases hk; exact ⟨h.le, Nat.lt_succ_self _⟩
    · rw [upd_other _ _ e] at hk; have := h.rng k i hk; exact ⟨this.1, Nat.lt_succ_of_lt this.2⟩
  · intro a b i ha hb
    by_cases ea : a = t
    · by_cases eb : b = t
      · rw [ea, eb]
      · subst ea
        rw [upd_same] at ha
        rw [upd_other _ _ eb] at hb
        cases ha
        have := h.rng b g hb
        omega
    · by_cases eb : b = t
      · subst eb
        rw [upd_same] at hb
        rw [upd_other _ _ ea] at ha
        cases hb
        have := h.rng a g ha
        omega
      · rw [upd_other _ _ ea] at ha; rw [upd_other _ _ eb] at hb; exact h.inj a b i ha hb
  · intro k i hk
    by_cases e : k = t
    · subst e; rw [upd_same] at hk; cases hk
    · rw [upd_other _ _ e] at hk; exact h.own k i hk
  · intro k hk
    by_cases e : k = t
    · subst e; rw [upd_same] at hk; cases hk
    · rw [upd_other _ _ e] at hk; exact h.late k hk
  · intro hk
    refine h.early fun k => ?_
    by_cases e : k = t
    · subst e; rw [ht]; rfl
    · have := hk k; rwa [upd_other _ _ e] at this
theorem late_upd {P : Nat → Ph} {t : Nat} {q : Ph} {F : Int} {M : Mem} {g v served : Nat} (h : Inv F M P g v served) (hp : (P t).late = false) (hq : q.late = false) :
    ((∃ k, (upd P t q k).late = true) → served = v + 1) ∧ ((∀ k, (upd P t q k).late = false) → served = v) := by
  constructor
  · rintro ⟨k, hk⟩
    by_cases e : k = t
    · subst e; rw [upd_same, hq] at hk; cases hk
    · rw [upd_other _ _ e] at hk; exact h.late k hk
  · intro hk
    refine h.early fun k => ?_
    by_cases e : k = t
    · subst e; exact hp
    · have := hk k; rwa [upd_other _ _ e] at this
/-- Whose turn it is, is looked at. -/
theorem Inv.look {F : Int} {M : Mem} {P : Nat → Ph} {g v served : Nat} (h : Inv F M P g v served) {t i : Nat} (ht : P t = .loads i) (who : Int) :
    (i = v ∧ (M.load who 1).1 = tn F i ∧ Inv F (M.load who 1).2 (upd P t (.owns i)) g v served) ∨ ((M.load who 1).1 ≠ tn F i ∧ Inv F (M.load who 1).2 (upd P t (.loads i)) g v served) := by
  have hat : M.isAt 1 := isAt_low h.len (by decide) (by decide)
  have e : M.load who 1 = (M.get 1, M.hit 1 who 1 0 (M.get 1) true) := by unfold Mem.load; rw [if_pos hat]
  have hws : (M.hit 1 who 1 0 (M.get 1) true).ws = M.ws := set_getD
  have hl : (M.hit 1 who 1 0 (M.get 1) true).ws.length = M.ws.length := by rw [hws]
  have hg : ∀ a, (M.hit 1 who 1 0 (M.get 1) true).get a = M.get a := fun a => by show List.getD _ _ _ = List.getD _ _ _; rw [hws]
  rw [e]
  have hr := h.rng t i (by rw [ht]; rfl)
  have hf := h.few
  by_cases hv : i = v
  · left
    have hL := late_upd h (t := t) (q := .owns i) (by rw [ht]; rfl) rfl
    exact ⟨hv, by show M.get 1 = _; rw [h.serv, hv], h.move hl (hg 0) (hg 1) (by rw [ht]; rfl) (by intro j hj; cases hj; exact hv) hL.1 hL.2⟩
  · right
    have hL := late_upd h (t := t) (q := .loads i) (by rw [ht]; rfl) rfl
    refine ⟨?_, h.move hl (hg 0) (hg 1) (by rw [ht]) (by intro j hj; cases hj) hL.1 hL.2⟩
    show M.get 1 ≠ _
    rw [h.serv]
    intro hx
    exact hv (tn_inj (by omega) (by omega) hx).symm
/-- The lock is had. -/
theorem Inv.get {F : Int} {M : Mem} {P : Nat → Ph} {g v served : Nat} (h : Inv F M P g v served) {t i : Nat} (ht : P t = .owns i) (who x : Int) :
    i = v ∧ served = v ∧ (∀ k, (P k).late = false) ∧ (M.store who 2 x).get 2 = x ∧ (M.store who 2 x).isAt 2 ∧ Inv F (M.store who 2 x) (upd P t (.frees i)) g v (served + 1) := by
  have hat : M.isAt 2 := isAt_low h.len (by decide) (by decide)
  have e : M.store who 2 x = M.hit 2 who 2 x x true := by unfold Mem.store; rw [if_pos hat]
  have hl : (M.hit 2 who 2 x x true).ws.length = M.ws.length := by simp [Mem.hit]
  have h2 := h.len
  have hno : ∀ k, (P k).late = false := by
    intro k
    cases hk : (P k).late with
    | false => rfl
    | true =>
      have := h.alone (t := t) (k := k) (i := i) (by rw [ht]; rfl) hk
      subst this
      rw [ht] at hk
      cases hk
  have hi := h.own t i (by rw [ht]; rfl)
  rw [e]
  refine ⟨hi, h.early hno, hno, ?_, isAt_low (by rw [hl]; exact h2) (by decide) (by decide), ?_⟩
  · show (M.ws.set 2 x).getD 2 0 = x
    rw [List.getD_eq_getElem?_getD, List.getElem?_set_self (by omega)]
    rfl
  · refine h.move hl (get_set_ne (by decide)) (get_set_ne (by decide)) (by rw [ht]; rfl) (by intro j hj; cases hj; exact hi) (fun _ => by rw [h.early hno]) ?_
    intro hk
    have := hk t
    rw [upd_same] at this
    cases this
/-- The owner's word is cleared. -/
theorem Inv.free {F : Int} {M : Mem} {P : Nat → Ph} {g v served : Nat} (h : Inv F M P g v served) {t i : Nat} (ht : P t = .frees i) (who x : Int) : Inv F (M.store who 2 x) (upd P t (.serves i)) g v served := by
  have hat : M.isAt 2 := isAt_low h.len (by decide) (by decide)
  have e : M.store who 2 x = M.hit 2 who 2 x x true := by unfold Mem.store; rw [if_pos hat]
  rw [e]
  have hi := h.own t i (by rw [ht]; rfl)
  have hs := h.late t (by rw [ht]; rfl)
  refine h.move (by simp [Mem.hit]) (get_set_ne (by decide)) (get_set_ne (by decide)) (by rw [ht]; rfl) (by intro j hj; cases hj; exact hi) (fun _ => hs) ?_
  intro hk
  have := hk t
  rw [upd_same] at this
  cases this
/-- The next turn comes. -/
theorem Inv.serve {F : Int} {M : Mem} {P : Nat → Ph} {g v served : Nat} (h : Inv F M P g v served) {t i : Nat} (ht : P t = .serves i) (who : Int) : Inv F (M.add who 1 1).2 (upd P t .idle) g (v + 1) served := by
  have hat : M.isAt 1 := isAt_low h.len (by decide) (by decide)
  have e : M.add who 1 1 = (plus (M.get 1) 1, M.hit 4 who 1 (plus (M.get 1) 1) (plus (M.get 1) 1) true) := by unfold Mem.add; rw [if_pos hat]
  have hS := h.serv
  have hp : plus (M.get 1) 1 = tn F (v + 1) := by rw [hS]; unfold plus tn; push_cast; omega
  have hl := h.len
  have hi := h.own t i (by rw [ht]; rfl)
  have hr := h.rng t i (by rw [ht]; rfl)
  have hs := h.late t (by rw [ht]; rfl)
  have hnl : ∀ k, k ≠ t → (P k).late = false := by
    intro k hk
    cases hx : (P k).late with
    | false => rfl
    | true => exact absurd (h.alone (t := t) (k := k) (i := i) (by rw [ht]; rfl) hx) hk
  rw [e]
  refine ⟨by simpa [Mem.hit] using hl, by omega, h.few, ?_, ?_, ?_, ?_, ?_, ?_, ?_⟩
  · show (M.ws.set 1 _).getD 0 0 = _
    rw [get_set_ne (by decide)]
    exact h.tick
  · show (M.ws.set 1 _).getD 1 0 = _
    rw [List.getD_eq_getElem?_getD, List.getElem?_set_self (by omega)]
    exact hp
  · intro k j hk
    by_cases e : k = t
    · subst e; rw [upd_same] at hk; cases hk
    · rw [upd_other _ _ e] at hk
      have h1 := h.rng k j hk
      refine ⟨?_, h1.2⟩
      rcases Nat.eq_or_lt_of_le h1.1 with h2 | h2
      · exact absurd (h.inj k t j hk (by rw [ht, ← h2, ← hi]; rfl)) e
      · exact h2
  · intro a b j ha hb
    by_cases ea : a = t
    · subst ea; rw [upd_same] at ha; cases ha
    · by_cases eb : b = t
      · subst eb; rw [upd_same] at hb; cases hb
      · rw [upd_other _ _ ea] at ha; rw [upd_other _ _ eb] at hb; exact h.inj a b j ha hb
  · intro k j hk
    by_cases e : k = t
    · subst e; rw [upd_same] at hk; cases hk
    · rw [upd_other _ _ e] at hk
      have h1 := h.own k j hk
      exact absurd (h.inj k t j (has_turn hk) (by rw [ht, h1, ← hi]; rfl)) e
  · intro k hk
    by_cases e : k = t
    · subst e; rw [upd_same] at hk; cases hk
    · rw [upd_other _ _ e, hnl k e] at hk; cases hk
  · intro _; exact hs
theorem Inv.begin {F : Int} {M : Mem} (hl : 280 ≤ M.ws.length) (h0 : M.get 0 = F) (h1 : M.get 1 = F) (f0 : 0 ≤ F) (f1 : F < 4294967296) : Inv F M (fun _ => .idle) 0 0 0 :=
  ⟨hl, Nat.le_refl _, by decide, (by rw [h0]; unfold tn; omega), (by rw [h1]; unfold tn; omega), (by intro t i h; cases h), (by intro a b i h; cases h), (by intro t i h; cases h), (by intro t h; cases h), (by intro _; rfl)⟩
end L8
end Go.Proofs.Ytophgiocmldliaa
