/- The plain law of layer 17: what at least six steps of a put, and of a get, come to where the list of processors is in order. -/
import Derived.Test.YtophgiocmldliaaP2
import Derived.Test.YtophgiocmldliaaP18
import Derived.Test.YtophgiocmldliaaLs
namespace Go.Proofs.Ytophgiocmldliaa
namespace P17
open P18 (headW steps steps_succ steps_still load_ok store_ok add_ok len_small less1_ok)
/-- The bits of some processors. -/
def mask : List Int → Int
  | [] => 0
  | p :: r => bitI p + mask r
theorem mask_append : ∀ a b : List Int, mask (a ++ b) = mask a + mask b
  | [], b => by simp [mask]
  | p :: a, b => by simp only [List.cons_append, mask, mask_append a b]; omega
theorem four {p : Int} (h0 : 0 ≤ p) (h1 : p < 4) : p = 0 ∨ p = 1 ∨ p = 2 ∨ p = 3 := by omega
theorem mask_is : ∀ l : List Int, (∀ p ∈ l, 0 ≤ p ∧ p < 4) → l.Nodup →
    mask l = (if 0 ∈ l then 1 else 0) + (if 1 ∈ l then 2 else 0) + (if 2 ∈ l then 4 else 0) + (if 3 ∈ l then 8 else 0)
  | [], _, _ => rfl
  | p :: r, h, hn => by
    have ih := mask_is r (fun q hq => h q (by simp [hq])) (List.nodup_cons.1 hn).2
    have hp := (List.nodup_cons.1 hn).1
    have h4 := h p (by simp)
    simp only [mask, ih, List.mem_cons]
    rcases four h4.1 h4.2 with rfl | rfl | rfl | rfl
    · rw [show bitI 0 = 1 from by decide]; simp [hp]; omega
    · rw [show bitI 1 = 2 from by decide]; simp [hp]; omega
    · rw [show bitI 2 = 4 from by decide]; simp [hp]; omega
    · rw [show bitI 3 = 8 from by decide]; simp [hp]; omega
theorem mask_range {l : List Int} (h : ∀ p ∈ l, 0 ≤ p ∧ p < 4) (hn : l.Nodup) : 0 ≤ mask l ∧ mask l < 16 := by
  rw [mask_is l h hn]
  split <;> split <;> split <;> split <;> omega
theorem tables : ∀ a b c d : Bool, let m : Int := (if a then 1 else 0) + (if b then 2 else 0) + (if c then 4 else 0) + (if d then 8 else 0)
    (a = false → bits .or .u64 m 1 = 1 + m ∧ bits .andNot .u64 (1 + m) 1 = m) ∧ (b = false → bits .or .u64 m 2 = 2 + m ∧ bits .andNot .u64 (2 + m) 2 = m) ∧
    (c = false → bits .or .u64 m 4 = 4 + m ∧ bits .andNot .u64 (4 + m) 4 = m) ∧ (d = false → bits .or .u64 m 8 = 8 + m ∧ bits .andNot .u64 (8 + m) 8 = m) := by decide +kernel
theorem mask_bits {l : List Int} {p : Int} (h : ∀ q ∈ p :: l, 0 ≤ q ∧ q < 4) (hn : (p :: l).Nodup) : bits .or .u64 (mask l) (bitI p) = mask (p :: l) ∧ bits .andNot .u64 (mask (p :: l)) (bitI p) = mask l := by
  have hp := (List.nodup_cons.1 hn).1
  have h4 := h p (by simp)
  have e := mask_is l (fun q hq => h q (by simp [hq])) (List.nodup_cons.1 hn).2
  have t := tables (decide (0 ∈ l)) (decide (1 ∈ l)) (decide (2 ∈ l)) (decide (3 ∈ l))
  simp only [decide_eq_true_eq] at t
  rw [← e] at t
  simp only [mask]
  rcases four h4.1 h4.2 with rfl | rfl | rfl | rfl
  · rw [show bitI 0 = 1 from by decide]; exact t.1 (by simpa using hp)
  · rw [show bitI 1 = 2 from by decide]; exact t.2.1 (by simpa using hp)
  · rw [show bitI 2 = 4 from by decide]; exact t.2.2.1 (by simpa using hp)
  · rw [show bitI 3 = 8 from by decide]; exact t.2.2.2 (by simpa using hp)
theorem mask_rev (l : List Int) : mask l.reverse = mask l := by
  induction l with
  | nil => rfl
  | cons p l ih => rw [List.reverse_cons, mask_append, ih]; simp only [mask]; omega
def chain (c : Cfg) (M : Mem) : List Int → Prop
  | [] => True
  | t :: r => M.get (c.proc t 7) = headW r ∧ chain c M r
/-- Those of s lie on the list, in this order. -/
structure Inv (c : Cfg) (M : Mem) (s : List Int) : Prop where
  right : c.Right
  few : c.procs ≤ 4
  len : (M.ws.length : Int) = c.len
  head : M.get 9 = headW s
  links : chain c M s
  count : M.get 10 = s.length
  bits : M.get 19 = mask s
  low : ∀ t ∈ s, 0 ≤ t ∧ t < c.procs
  unlike : s.Nodup
  bad : M.bad = 0
theorem proc_in {c : Cfg} (h : c.Right) {t : Int} (t0 : 0 ≤ t) (t1 : t < c.procs) : 27 ≤ c.proc t 7 ∧ c.proc t 7 < c.len := by
  obtain ⟨p0, p1, q0, q1, g0, g1⟩ := h
  unfold Cfg.proc Cfg.len
  rw [if_pos ⟨t0, t1⟩]
  omega
theorem proc_ne {c : Cfg} {s t : Int} (s0 : 0 ≤ s) (s1 : s < c.procs) (t0 : 0 ≤ t) (t1 : t < c.procs) (h : s ≠ t) : c.proc s 7 ≠ c.proc t 7 := by
  unfold Cfg.proc
  rw [if_pos ⟨s0, s1⟩, if_pos ⟨t0, t1⟩]
  omega
theorem chain_of {c : Cfg} {M M' : Mem} : ∀ {l : List Int}, (∀ t ∈ l, M'.get (c.proc t 7) = M.get (c.proc t 7)) → chain c M l → chain c M' l
  | [], _, _ => trivial
  | t :: l, h, ⟨h1, h2⟩ => ⟨by rw [h t (by simp)]; exact h1, chain_of (fun s hs => h s (by simp [hs])) h2⟩
theorem Inv.four {c : Cfg} {M : Mem} {s : List Int} (h : Inv c M s) : ∀ q ∈ s, 0 ≤ q ∧ q < 4 := fun q hq => by have := h.low q hq; have := h.few; omega
theorem len_is : ∀ l : List Int, (∀ p ∈ l, 0 ≤ p ∧ p < 4) → l.Nodup → (l.length : Int) = (if 0 ∈ l then 1 else 0) + (if 1 ∈ l then 1 else 0) + (if 2 ∈ l then 1 else 0) + (if 3 ∈ l then 1 else 0)
  | [], _, _ => rfl
  | p :: r, h, hn => by
    have ih := len_is r (fun q hq => h q (by simp [hq])) (List.nodup_cons.1 hn).2
    have hp := (List.nodup_cons.1 hn).1
    have h4 := h p (by simp)
    simp only [List.length_cons, Int.natCast_succ, ih, List.mem_cons]
    rcases four h4.1 h4.2 with rfl | rfl | rfl | rfl <;> simp [hp] <;> omega
theorem nodup_len (l : List Int) (hn : l.Nodup) (h : ∀ q ∈ l, 0 ≤ q ∧ q < 4) : l.length ≤ 4 := by
  have := len_is l h hn
  split at this <;> split at this <;> split at this <;> split at this <;> omega
/-- A put of one that does not lie there. -/
theorem put_one {c : Cfg} {who : Int} {M : Mem} {p : Int} {s : List Int} (h : Inv c M s) (p0 : 0 ≤ p) (p1 : p < c.procs) (hp : p ∉ s) (k : Nat) :
    ∃ M', steps (pputNext p c who) (k + 6) (.asks, M) = (.over, M') ∧ Inv c M' (p :: s) := by
  have h4 := h.four
  have hun := List.nodup_cons.2 ⟨hp, h.unlike⟩
  have hlow : ∀ q ∈ p :: s, 0 ≤ q ∧ q < 4 := by intro q hq; have := h.few; rcases List.mem_cons.1 hq with rfl | hq; omega; exact h4 q hq
  have hsl := nodup_len _ hun hlow
  have hmb := (mask_bits hlow hun).1
  obtain ⟨right, few, len, head, links, count, hbits, low, unlike, bad⟩ := h
  have hl := len_small right
  have ht := proc_in right p0 p1
  obtain ⟨M1, e1, g1, l1, b1⟩ := load_ok (M := M) who (a := 19) ⟨by decide, by omega⟩
  obtain ⟨M2, e2, h2, g2, l2, b2⟩ := store_ok (M := M1) who (a := 19) (mask (p :: s)) ⟨by decide, by omega⟩
  obtain ⟨M3, e3, g3, l3, b3⟩ := load_ok (M := M2) who (a := 9) ⟨by decide, by omega⟩
  obtain ⟨M4, e4, h4', g4, l4, b4⟩ := store_ok (M := M3) who (a := c.proc p 7) (headW s) ⟨by omega, by omega⟩
  obtain ⟨M5, e5, h5, g5, l5, b5⟩ := store_ok (M := M4) who (a := 9) (p + 1) ⟨by decide, by omega⟩
  obtain ⟨M6, e6, h6, g6, l6, b6⟩ := add_ok (M := M5) who (a := 10) 1 ⟨by decide, by omega⟩
  rw [hbits] at e1
  rw [g2 9 (by decide) (by decide), g1, head] at e3
  have G3 : ∀ a, 0 ≤ a → a ≠ 19 → M3.get a = M.get a := fun a x y => ((g3 a).trans (g2 a x y)).trans (g1 a)
  have G4 : ∀ a, 0 ≤ a → a ≠ 19 → a ≠ c.proc p 7 → M4.get a = M.get a := fun a x y z => (g4 a x z).trans (G3 a x y)
  have G6 : ∀ a, 0 ≤ a → a ≠ 9 → a ≠ 10 → M6.get a = M4.get a := fun a x y z => (g6 a x z).trans (g5 a x y)
  have p6 : plus (M5.get 10) 1 = ((p :: s).length : Int) := by
    rw [g5 10 (by decide) (by decide), G4 10 (by decide) (by decide) (by omega), count]
    unfold plus
    simp only [List.length_cons] at hsl ⊢
    push_cast
    omega
  have s1 : pputNext p c who M .asks = (.marks (mask s), M1) := by simp only [pputNext, e1]
  have s2 : pputNext p c who M1 (.marks (mask s)) = (.looks, M2) := by simp only [pputNext, hmb, e2]
  have s3 : pputNext p c who M2 .looks = (.links (headW s), M3) := by simp only [pputNext, e3]
  have s4 : pputNext p c who M3 (.links (headW s)) = (.heads, M4) := by simp only [pputNext, e4]
  have s5 : pputNext p c who M4 .heads = (.counts, M5) := by simp only [pputNext, e5]
  have s6 : pputNext p c who M5 .counts = (.over, M6) := by simp only [pputNext, e6]
  have s7 : pputNext p c who M6 .over = (.over, M6) := rfl
  refine ⟨M6, by simp only [steps, s1, s2, s3, s4, s5, s6]; exact steps_still s7 k, right, few, by omega, ?_, ⟨?_, ?_⟩, ?_, ?_, ?_, hun, by omega⟩
  · rw [g6 9 (by decide) (by decide)]; exact h5
  · rw [G6 _ (by omega) (by omega) (by omega)]; exact h4'
  · refine chain_of (fun t hs => ?_) links
    have ls := low t hs
    have := proc_in right ls.1 ls.2
    rw [G6 _ (by omega) (by omega) (by omega), G4 _ (by omega) (by omega) (proc_ne ls.1 ls.2 p0 p1 (fun e => hp (e ▸ hs)))]
  · rw [h6]; exact p6
  · rw [G6 19 (by decide) (by decide) (by decide), g4 19 (by decide) (by omega), g3]; exact h2
  · intro q hq
    rcases List.mem_cons.1 hq with rfl | hq
    · exact ⟨p0, p1⟩
    · exact low q hq
/-- A get of the one that lies ahead. -/
theorem get_some {c : Cfg} {who : Int} {M : Mem} {p : Int} {s : List Int} (h : Inv c M (p :: s)) (k : Nat) :
    ∃ M' a b, steps (pgetNext c who) (k + 6) (.asks, M) = (.over a b p, M') ∧ Inv c M' s := by
  have h4 := h.four
  have hun := h.unlike
  have hsl := nodup_len _ hun h4
  have hmb := (mask_bits h4 hun).2
  obtain ⟨right, few, len, head, links, count, hbits, low, unlike, bad⟩ := h
  have hl := len_small right
  have lp := low p (by simp)
  have ht := proc_in right lp.1 lp.2
  obtain ⟨k1, k2⟩ := links
  have hw := Lib.hid (less1_ok lp.1 (by omega))
  obtain ⟨M1, e1, g1, l1, b1⟩ := load_ok (M := M) who (a := 9) ⟨by decide, by omega⟩
  obtain ⟨M2, e2, g2, l2, b2⟩ := load_ok (M := M1) who (a := c.proc p 7) ⟨by omega, by omega⟩
  obtain ⟨M3, e3, g3, l3, b3⟩ := load_ok (M := M2) who (a := 19) ⟨by decide, by omega⟩
  obtain ⟨M4, e4, h4', g4, l4, b4⟩ := store_ok (M := M3) who (a := 19) (mask s) ⟨by decide, by omega⟩
  obtain ⟨M5, e5, h5, g5, l5, b5⟩ := store_ok (M := M4) who (a := 9) (headW s) ⟨by decide, by omega⟩
  obtain ⟨M6, e6, h6, g6, l6, b6⟩ := add_ok (M := M5) who (a := 10) 4294967295 ⟨by decide, by omega⟩
  rw [head] at e1
  rw [g1, k1] at e2
  rw [g2, g1, hbits] at e3
  have G3 : ∀ a, M3.get a = M.get a := fun a => ((g3 a).trans (g2 a)).trans (g1 a)
  have G6 : ∀ a, 0 ≤ a → a ≠ 19 → a ≠ 9 → a ≠ 10 → M6.get a = M.get a := fun a x y z u => ((g6 a x u).trans ((g5 a x z).trans (g4 a x y))).trans (G3 a)
  have p6 : plus (M5.get 10) 4294967295 = (s.length : Int) := by
    rw [g5 10 (by decide) (by decide), g4 10 (by decide) (by decide), G3, count]
    unfold plus
    simp only [List.length_cons] at hsl ⊢
    push_cast
    omega
  have hz : ¬ headW (p :: s) = 0 := by simp only [headW]; omega
  have s1 : pgetNext c who M .asks = (.links (p + 1), M1) := by simp only [pgetNext, e1, if_neg hz]; rfl
  have s2 : pgetNext c who M1 (.links (p + 1)) = (.marks (p + 1) (headW s), M2) := by simp only [pgetNext, hw.out, e2]
  have s3 : pgetNext c who M2 (.marks (p + 1) (headW s)) = (.clears (p + 1) (headW s) (mask (p :: s)), M3) := by simp only [pgetNext, e3]
  have s4 : pgetNext c who M3 (.clears (p + 1) (headW s) (mask (p :: s))) = (.heads (p + 1) (headW s), M4) := by simp only [pgetNext, hw.out, hmb, e4]
  have s5 : pgetNext c who M4 (.heads (p + 1) (headW s)) = (.counts (p + 1) (headW s), M5) := by simp only [pgetNext, e5]
  have s6 : pgetNext c who M5 (.counts (p + 1) (headW s)) = (.over (p + 1) (headW s) p, M6) := by simp only [pgetNext, hw.out, e6]
  have s7 : pgetNext c who M6 (.over (p + 1) (headW s) p) = (.over (p + 1) (headW s) p, M6) := rfl
  refine ⟨M6, _, _, by simp only [steps, s1, s2, s3, s4, s5, s6]; exact steps_still s7 k, right, few, by omega, ?_, ?_, ?_, ?_, fun q hq => low q (by simp [hq]), (List.nodup_cons.1 hun).2, by omega⟩
  · rw [g6 9 (by decide) (by decide)]; exact h5
  · refine chain_of (fun t hs => ?_) k2
    have ls := low t (by simp [hs])
    have := proc_in right ls.1 ls.2
    exact G6 _ (by omega) (by omega) (by omega) (by omega)
  · rw [h6]; exact p6
  · rw [g6 19 (by decide) (by decide), g5 19 (by decide) (by decide)]; exact h4'
/-- A get where none lies there. -/
theorem get_none {c : Cfg} {who : Int} {M : Mem} (h : Inv c M []) (k : Nat) : ∃ M' a b, steps (pgetNext c who) (k + 6) (.asks, M) = (.over a b (-1), M') ∧ Inv c M' [] := by
  obtain ⟨right, few, len, head, links, count, hbits, low, unlike, bad⟩ := h
  have hl := len_small right
  obtain ⟨M1, e1, g1, l1, b1⟩ := load_ok (M := M) who (a := 9) ⟨by decide, by omega⟩
  rw [head] at e1
  have s1 : pgetNext c who M .asks = (.over 0 0 (-1), M1) := by simp only [pgetNext, e1, headW, if_true]
  have s2 : pgetNext c who M1 (.over 0 0 (-1)) = (.over 0 0 (-1), M1) := rfl
  exact ⟨M1, 0, 0, by simp only [steps, s1, s2]; exact steps_still s2 k, right, few, by omega, (g1 _).trans head, trivial, (g1 _).trans count, (g1 _).trans hbits, low, unlike, by omega⟩
theorem get_any {c : Cfg} {who : Int} {M : Mem} {s : List Int} (h : Inv c M s) (k : Nat) : ∃ M' a b, steps (pgetNext c who) (k + 6) (.asks, M) = (.over a b (s.headD (-1)), M') ∧ Inv c M' s.tail := by
  cases s with
  | nil => exact get_none h k
  | cons p s => exact get_some h k
/-- What the list tells. -/
theorem chase_is {c : Cfg} {M : Mem} (hr : c.Right) (hl : (M.ws.length : Int) = c.len) : ∀ (s out : List Int) (f : Nat), s.length < f → chain c M s → (∀ t ∈ s, 0 ≤ t ∧ t < c.procs) → (out ++ s).Nodup →
    chase M (fun x => c.proc x 7) f (headW s) out = some (out ++ s, true)
  | [], out, f + 1, _, _, _, _ => by simp [chase, headW]
  | t :: s, out, f + 1, hf, ⟨h1, h2⟩, hlow, hn => by
    have lt := hlow t (by simp)
    have hp := proc_in hr lt.1 lt.2
    have hw := less1_ok lt.1 (by have := hr.p1; omega)
    have hnin : t ∉ out := by
      intro hm
      exact (List.nodup_append.1 hn).2.2 t hm t (by simp) rfl
    rw [chase, if_neg (by simp only [headW]; omega)]
    simp only [headW, hw]
    rw [if_pos ⟨⟨by omega, by omega⟩, hnin⟩, h1]
    have := chase_is hr hl s (out ++ [t]) f (by simp only [List.length_cons] at hf; omega) h2 (fun q hq => hlow q (by simp [hq])) (by simpa using hn)
    simpa using this
theorem Inv.list {c : Cfg} {M : Mem} {s : List Int} (h : Inv c M s) : chase M (fun x => c.proc x 7) (s.length + 1) (M.peek 9) [] = some (s, true) := by
  have hl := len_small h.right
  have := h.len
  have e : M.peek 9 = headW s := by unfold Mem.peek; rw [if_pos ⟨by decide, by omega⟩]; exact h.head
  rw [e]
  simpa using chase_is h.right h.len s [] (s.length + 1) (Nat.lt_succ_self _) h.links h.low (by simpa using h.unlike)
theorem Inv.many {c : Cfg} {M : Mem} {s : List Int} (h : Inv c M s) : M.peek 10 = s.length ∧ M.peek 19 = mask s := by
  have hl := len_small h.right
  have := h.len
  exact ⟨by unfold Mem.peek; rw [if_pos ⟨by decide, by omega⟩]; exact h.count, by unfold Mem.peek; rw [if_pos ⟨by decide, by omega⟩]; exact h.bits⟩
theorem begin {P : Nat} (n0 : 1 ≤ P) (n1 : P ≤ 4) : Inv ⟨P, P, 1⟩ (Mem.of (ground ⟨P, P, 1⟩ [])) [] :=
  ⟨⟨by simp <;> omega, by simp <;> omega, by simp <;> omega, by simp <;> omega, by simp, by simp⟩, by simp <;> omega, by
    show ((lays (List.replicate _ 0) []).length : Int) = _
    unfold lays
    simp only [List.foldl_nil, List.length_replicate, Cfg.len]
    omega, P18.get_zero _ _, trivial, P18.get_zero _ _, P18.get_zero _ _, by simp, by simp, rfl⟩
end P17
end Go.Proofs.Ytophgiocmldliaa
