/- The plain law of layer 18: what at least four steps of a get, and of a put, come to where the list of threads is in order. -/
import Derived.Test.YtophgiocmldliaaI2
import Derived.Test.YtophgiocmldliaaG3
namespace Go.Proofs.Ytophgiocmldliaa
namespace P18
/-- A word of the list: which thread is next, and one; or 0. -/
def headW : List Int → Int
  | [] => 0
  | t :: _ => t + 1
def chain (c : Cfg) (M : Mem) : List Int → Prop
  | [] => True
  | t :: r => M.get (c.thread t 2) = headW r ∧ chain c M r
/-- free lie on the list, in this order; had are had; n were made. -/
structure Inv (c : Cfg) (M : Mem) (free had : List Int) (n : Nat) : Prop where
  right : c.Right
  len : (M.ws.length : Int) = c.len
  head : M.get 11 = headW free
  links : chain c M free
  count : M.get 12 = free.length
  made : M.get 15 = n
  all : free.length + had.length = n
  most : (n : Int) ≤ c.threads
  low : ∀ t ∈ free ++ had, 0 ≤ t ∧ t < n
  unlike : (free ++ had).Nodup
  bad : M.bad = 0
def steps {Ph : Type} (next : Mem → Ph → Ph × Mem) : Nat → Ph × Mem → Ph × Mem
  | 0, q => q
  | k + 1, q => steps next k (next q.2 q.1)
theorem steps_still {Ph : Type} {next : Mem → Ph → Ph × Mem} {ph : Ph} {M : Mem} (h : next M ph = (ph, M)) : ∀ k, steps next k (ph, M) = (ph, M)
  | 0 => rfl
  | k + 1 => by rw [steps, h]; exact steps_still h k
theorem steps_succ {Ph : Type} (next : Mem → Ph → Ph × Mem) : ∀ (k : Nat) (q : Ph × Mem), steps next (k + 1) q = next (steps next k q).2 (steps next k q).1
  | 0, _ => rfl
  | k + 1, q => by rw [steps, steps_succ next k]; rfl
theorem thread_in {c : Cfg} (h : c.Right) {t : Int} (t0 : 0 ≤ t) (t1 : t < c.threads) : 280 ≤ c.thread t 2 ∧ c.thread t 2 < c.len := by
  obtain ⟨p0, p1, q0, q1, g0, g1⟩ := h
  unfold Cfg.thread Cfg.len
  rw [if_pos ⟨t0, t1⟩]
  omega
theorem thread_ne {c : Cfg} {s t : Int} (s0 : 0 ≤ s) (s1 : s < c.threads) (t0 : 0 ≤ t) (t1 : t < c.threads) (h : s ≠ t) : c.thread s 2 ≠ c.thread t 2 := by
  unfold Cfg.thread
  rw [if_pos ⟨s0, s1⟩, if_pos ⟨t0, t1⟩]
  omega
theorem get_hit_same {M : Mem} {k who a x v : Int} {d : Bool} (h : M.isAt a) : (M.hit k who a x v d).get a = v := by
  obtain ⟨h0, h1⟩ := h
  show (M.ws.set _ _).getD _ 0 = _
  rw [List.getD_eq_getElem?_getD, List.getElem?_set_self (by omega)]
  rfl
theorem get_hit_other {M : Mem} {k who a x v b : Int} {d : Bool} (ha : 0 ≤ a) (hb : 0 ≤ b) (h : b ≠ a) : (M.hit k who a x v d).get b = M.get b := by
  show (M.ws.set _ _).getD _ 0 = _
  rw [List.getD_eq_getElem?_getD, List.getElem?_set_ne (by omega)]
  simp [Mem.get, List.getD_eq_getElem?_getD]
/-- An access that finds its word: what it answers, and the memory behind it. -/
theorem load_ok {M : Mem} (who : Int) {a : Int} (h : M.isAt a) : ∃ M', M.load who a = (M.get a, M') ∧ (∀ b, M'.get b = M.get b) ∧ M'.ws.length = M.ws.length ∧ M'.bad = M.bad := by
  refine ⟨M.hit 1 who a 0 (M.get a) true, by unfold Mem.load; rw [if_pos h], fun b => ?_, by simp [Mem.hit], rfl⟩
  show (M.ws.set _ (M.ws.getD _ 0)).getD _ 0 = _
  rw [set_getD]
  rfl
theorem store_ok {M : Mem} (who : Int) {a : Int} (v : Int) (h : M.isAt a) : ∃ M', M.store who a v = M' ∧ M'.get a = v ∧ (∀ b, 0 ≤ b → b ≠ a → M'.get b = M.get b) ∧ M'.ws.length = M.ws.length ∧ M'.bad = M.bad :=
  ⟨M.hit 2 who a v v true, by unfold Mem.store; rw [if_pos h], get_hit_same h, fun b h0 h1 => get_hit_other h.1 h0 h1, by simp [Mem.hit], rfl⟩
theorem add_ok {M : Mem} (who : Int) {a : Int} (v : Int) (h : M.isAt a) : ∃ M', M.add who a v = (plus (M.get a) v, M') ∧ M'.get a = plus (M.get a) v ∧ (∀ b, 0 ≤ b → b ≠ a → M'.get b = M.get b) ∧ M'.ws.length = M.ws.length ∧ M'.bad = M.bad :=
  ⟨M.hit 4 who a (plus (M.get a) v) (plus (M.get a) v) true, by unfold Mem.add; rw [if_pos h], get_hit_same h, fun b h0 h1 => get_hit_other h.1 h0 h1, by simp [Mem.hit], rfl⟩
theorem chain_of {c : Cfg} {M M' : Mem} : ∀ {l : List Int}, (∀ t ∈ l, M'.get (c.thread t 2) = M.get (c.thread t 2)) → chain c M l → chain c M' l
  | [], _, _ => trivial
  | t :: l, h, ⟨h1, h2⟩ => ⟨by rw [h t (by simp)]; exact h1, chain_of (fun s hs => h s (by simp [hs])) h2⟩
theorem len_small {c : Cfg} (h : c.Right) : 280 ≤ c.len := by
  obtain ⟨p0, p1, q0, q1, g0, g1⟩ := h
  unfold Cfg.len
  omega
theorem less1_ok {t : Int} (h0 : 0 ≤ t) (h1 : t < 1000) : less1 (t + 1) = t := by unfold less1; rw [if_pos (by omega)]; omega
/-- A get of one that lies on the list. -/
theorem get_some {c : Cfg} {who : Int} {M : Mem} {t : Int} {r had : List Int} {n : Nat} (h : Inv c M (t :: r) had n) (k : Nat) :
    ∃ M', steps (igetNext c who) (k + 4) (.asks, M) = (.over (t + 1) t, M') ∧ Inv c M' r (had ++ [t]) n := by
  obtain ⟨right, len, head, links, count, made, all, most, low, unlike, bad⟩ := h
  have hl := len_small right
  have lt := low t (by simp)
  have ht := thread_in right lt.1 (by omega)
  obtain ⟨k1, k2⟩ := links
  have hw := Lib.hid (less1_ok lt.1 (by have := right.t1; omega))
  obtain ⟨M1, e1, g1, l1, b1⟩ := load_ok (M := M) who (a := 11) ⟨by decide, by omega⟩
  obtain ⟨M2, e2, g2, l2, b2⟩ := load_ok (M := M1) who (a := c.thread t 2) ⟨by omega, by omega⟩
  obtain ⟨M3, e3, h3, g3, l3, b3⟩ := store_ok (M := M2) who (a := 11) (headW r) ⟨by decide, by omega⟩
  obtain ⟨M4, e4, h4, g4, l4, b4⟩ := add_ok (M := M3) who (a := 12) 4294967295 ⟨by decide, by omega⟩
  rw [head] at e1
  rw [g1, k1] at e2
  have G2 : ∀ a, M2.get a = M.get a := fun a => (g2 a).trans (g1 a)
  have G4 : ∀ a, 0 ≤ a → a ≠ 11 → a ≠ 12 → M4.get a = M.get a := fun a h0 h1 h2 => (g4 a h0 h2).trans ((g3 a h0 h1).trans (G2 a))
  have p4 : plus (M3.get 12) 4294967295 = r.length := by
    rw [g3 12 (by decide) (by decide), G2, count]
    unfold plus
    have := right.t1
    simp only [List.length_cons] at all ⊢
    push_cast
    omega
  have hz : ¬ headW (t :: r) = 0 := by simp only [headW]; omega
  have s1 : igetNext c who M .asks = (.links (t + 1), M1) := by simp only [igetNext, e1, if_neg hz]; rfl
  have s2 : igetNext c who M1 (.links (t + 1)) = (.heads (t + 1) (headW r), M2) := by simp only [igetNext, hw.out, e2]
  have s3 : igetNext c who M2 (.heads (t + 1) (headW r)) = (.counts (t + 1), M3) := by simp only [igetNext, e3]
  have s4 : igetNext c who M3 (.counts (t + 1)) = (.over (t + 1) t, M4) := by simp only [igetNext, hw.out, e4]
  have s5 : igetNext c who M4 (.over (t + 1) t) = (.over (t + 1) t, M4) := rfl
  refine ⟨M4, by simp only [steps, s1, s2, s3, s4]; exact steps_still s5 k, right, by omega, ?_, ?_, ?_, ?_, ?_, most, ?_, ?_, by omega⟩
  · rw [g4 11 (by decide) (by decide)]; exact h3
  · refine chain_of (fun s hs => ?_) k2
    have := low s (by simp [hs])
    have := thread_in right this.1 (by omega)
    exact G4 _ (by omega) (by omega) (by omega)
  · rw [h4]; exact p4
  · rw [G4 15 (by decide) (by decide) (by decide)]; exact made
  · simp only [List.length_cons, List.length_append, List.length_nil] at all ⊢; omega
  · intro s hs
    refine low s ?_
    simp only [List.mem_append, List.mem_cons, List.not_mem_nil, or_false] at hs ⊢
    rcases hs with hs | hs | hs
    · exact .inl (.inr hs)
    · exact .inr hs
    · exact .inl (.inl hs)
  · have p : (r ++ (had ++ [t])).Perm (t :: r ++ had) := by
      rw [← List.append_assoc]
      exact List.perm_append_comm
    exact p.nodup_iff.2 unlike
/-- A get where none lies on the list, and one can be made. -/
theorem get_new {c : Cfg} {who : Int} {M : Mem} {had : List Int} {n : Nat} (h : Inv c M [] had n) (hn : (n : Int) < c.threads) (k : Nat) :
    ∃ M', steps (igetNext c who) (k + 4) (.asks, M) = (.over (n + 1) n, M') ∧ Inv c M' [] (had ++ [(n : Int)]) (n + 1) := by
  obtain ⟨right, len, head, links, count, made, all, most, low, unlike, bad⟩ := h
  have hl := len_small right
  have hw := Lib.hid (less1_ok (t := (n : Int)) (by omega) (by have := right.t1; omega))
  obtain ⟨M1, e1, g1, l1, b1⟩ := load_ok (M := M) who (a := 11) ⟨by decide, by omega⟩
  obtain ⟨M2, e2, g2, l2, b2⟩ := load_ok (M := M1) who (a := 15) ⟨by decide, by omega⟩
  obtain ⟨M3, e3, h3, g3, l3, b3⟩ := store_ok (M := M2) who (a := 15) ((n : Int) + 1) ⟨by decide, by omega⟩
  rw [head] at e1
  rw [g1, made] at e2
  have G3 : ∀ a, 0 ≤ a → a ≠ 15 → M3.get a = M.get a := fun a h0 h1 => (g3 a h0 h1).trans ((g2 a).trans (g1 a))
  have s1 : igetNext c who M .asks = (.empty, M1) := by simp only [igetNext, e1, headW, if_true]
  have s2 : igetNext c who M1 .empty = (.makes n, M2) := by simp only [igetNext, e2, if_neg (show ¬ c.threads ≤ (n : Int) by omega)]
  have s3 : igetNext c who M2 (.makes n) = (.over (n + 1) n, M3) := by simp only [igetNext, e3, hw.out]
  have s4 : igetNext c who M3 (.over (n + 1) n) = (.over (n + 1) n, M3) := rfl
  refine ⟨M3, by simp only [steps, s1, s2, s3, s4]; exact steps_still s4 k, right, by omega, ?_, trivial, ?_, ?_, ?_, by push_cast; omega, ?_, ?_, by omega⟩
  · rw [G3 11 (by decide) (by decide)]; exact head
  · rw [G3 12 (by decide) (by decide)]; exact count
  · rw [h3]; push_cast; rfl
  · simp only [List.length_append, List.length_cons, List.length_nil] at all ⊢; omega
  · intro s hs
    simp only [List.nil_append, List.mem_append, List.mem_cons, List.not_mem_nil, or_false] at hs
    rcases hs with hs | rfl
    · have := low s (by simpa using hs); push_cast; omega
    · push_cast; omega
  · rw [List.nil_append] at unlike ⊢
    refine List.nodup_append.2 ⟨unlike, by simp, ?_⟩
    rintro a ha b hb rfl
    simp only [List.mem_cons, List.not_mem_nil, or_false] at hb
    have := low a (by simpa using ha)
    omega
/-- A get where there is none to be had. -/
theorem get_none {c : Cfg} {who : Int} {M : Mem} {had : List Int} {n : Nat} (h : Inv c M [] had n) (hn : c.threads ≤ (n : Int)) (k : Nat) :
    ∃ M', steps (igetNext c who) (k + 4) (.asks, M) = (.over 0 (-1), M') ∧ Inv c M' [] had n := by
  obtain ⟨right, len, head, links, count, made, all, most, low, unlike, bad⟩ := h
  have hl := len_small right
  obtain ⟨M1, e1, g1, l1, b1⟩ := load_ok (M := M) who (a := 11) ⟨by decide, by omega⟩
  obtain ⟨M2, e2, g2, l2, b2⟩ := load_ok (M := M1) who (a := 15) ⟨by decide, by omega⟩
  rw [head] at e1
  rw [g1, made] at e2
  have G2 : ∀ a, M2.get a = M.get a := fun a => (g2 a).trans (g1 a)
  have s1 : igetNext c who M .asks = (.empty, M1) := by simp only [igetNext, e1, headW, if_true]
  have s2 : igetNext c who M1 .empty = (.over 0 (-1), M2) := by simp only [igetNext, e2, if_pos hn]
  have s3 : igetNext c who M2 (.over 0 (-1)) = (.over 0 (-1), M2) := rfl
  exact ⟨M2, by simp only [steps, s1, s2, s3]; exact steps_still s3 k, right, by omega, (G2 _).trans head, trivial, (G2 _).trans count, (G2 _).trans made, all, most, low, unlike, by omega⟩
/-- A get, however it is. -/
theorem get_any {c : Cfg} {who : Int} {M : Mem} {free had : List Int} {n : Nat} (h : Inv c M free had n) (k : Nat) :
    (∃ M' t r n', steps (igetNext c who) (k + 4) (.asks, M) = (.over (t + 1) t, M') ∧ Inv c M' r (had ++ [t]) n' ∧ 0 ≤ t ∧ t < c.threads ∧ (had.length : Int) < c.threads ∧ t ∉ had) ∨
    (∃ M' r, (had.length : Int) = c.threads ∧ steps (igetNext c who) (k + 4) (.asks, M) = (.over 0 (-1), M') ∧ Inv c M' r had n) := by
  have more : ∀ M' t r n', Inv c M' r (had ++ [t]) n' → 0 ≤ t ∧ t < c.threads ∧ (had.length : Int) < c.threads ∧ t ∉ had := by
    intro M' t r n' hi
    have h1 := hi.low t (by simp)
    have h2 := hi.most
    have h3 := hi.all
    have h4 := (List.nodup_append.1 hi.unlike).2.1
    have h5 := (List.nodup_append.1 h4).2.2
    simp only [List.length_append, List.length_cons, List.length_nil] at h3
    exact ⟨h1.1, by omega, by omega, fun hm => h5 t hm t (by simp) rfl⟩
  cases free with
  | cons t r =>
    obtain ⟨M', h1, h2⟩ := get_some (who := who) h k
    exact .inl ⟨M', t, r, n, h1, h2, more _ _ _ _ h2⟩
  | nil =>
    by_cases hn : (n : Int) < c.threads
    · obtain ⟨M', h1, h2⟩ := get_new (who := who) h hn k
      exact .inl ⟨M', n, [], n + 1, h1, h2, more _ _ _ _ h2⟩
    · obtain ⟨M', h1, h2⟩ := get_none (who := who) h (by omega) k
      have h3 := h.all
      have h4 := h.most
      simp only [List.length_nil] at h3
      exact .inr ⟨M', [], by omega, h1, h2⟩
/-- A put of one that is had. -/
theorem put_one {c : Cfg} {who : Int} {M : Mem} {t : Int} {free had had' : List Int} {n : Nat} (h : Inv c M free had n) (hp : had.Perm (t :: had')) (k : Nat) :
    ∃ M', steps (iputNext t c who) (k + 4) (.asks, M) = (.over, M') ∧ Inv c M' (t :: free) had' n := by
  obtain ⟨right, len, head, links, count, made, all, most, low, unlike, bad⟩ := h
  have hl := len_small right
  have lt := low t (by simp [hp.mem_iff])
  have ht := thread_in right lt.1 (by omega)
  have pp : (free ++ had).Perm (t :: free ++ had') := by
    refine (List.Perm.append_left free hp).trans ?_
    exact List.perm_middle
  have u2 := pp.nodup_iff.1 unlike
  have hlen : had.length = had'.length + 1 := by rw [hp.length_eq]; rfl
  have tf : t ∉ free := by
    intro hm
    rw [List.cons_append, List.nodup_cons] at u2
    exact u2.1 (by simp [hm])
  obtain ⟨M1, e1, g1, l1, b1⟩ := load_ok (M := M) who (a := 11) ⟨by decide, by omega⟩
  obtain ⟨M2, e2, h2, g2, l2, b2⟩ := store_ok (M := M1) who (a := c.thread t 2) (headW free) ⟨by omega, by omega⟩
  obtain ⟨M3, e3, h3, g3, l3, b3⟩ := store_ok (M := M2) who (a := 11) (t + 1) ⟨by decide, by omega⟩
  obtain ⟨M4, e4, h4, g4, l4, b4⟩ := add_ok (M := M3) who (a := 12) 1 ⟨by decide, by omega⟩
  rw [head] at e1
  have p4 : plus (M3.get 12) 1 = ((t :: free).length : Int) := by
    rw [g3 12 (by decide) (by decide), g2 12 (by decide) (by omega), g1, count]
    unfold plus
    have := right.t1
    simp only [List.length_cons] at all ⊢
    push_cast
    omega
  have G4 : ∀ a, 0 ≤ a → a ≠ 11 → a ≠ 12 → M4.get a = M2.get a := fun a h0 h1 h2 => (g4 a h0 h2).trans (g3 a h0 h1)
  have s1 : iputNext t c who M .asks = (.links (headW free), M1) := by simp only [iputNext, e1]
  have s2 : iputNext t c who M1 (.links (headW free)) = (.heads, M2) := by simp only [iputNext, e2]
  have s3 : iputNext t c who M2 .heads = (.counts, M3) := by simp only [iputNext, e3]
  have s4 : iputNext t c who M3 .counts = (.over, M4) := by simp only [iputNext, e4]
  have s5 : iputNext t c who M4 .over = (.over, M4) := rfl
  refine ⟨M4, by simp only [steps, s1, s2, s3, s4]; exact steps_still s5 k, right, by omega, ?_, ⟨?_, ?_⟩, ?_, ?_, ?_, most, ?_, u2, by omega⟩
  · rw [g4 11 (by decide) (by decide)]; exact h3
  · rw [G4 _ (by omega) (by omega) (by omega)]; exact h2
  · refine chain_of (fun s hs => ?_) links
    have ls := low s (by simp [hs])
    have := thread_in right ls.1 (by omega)
    rw [G4 _ (by omega) (by omega) (by omega), g2 _ (by omega) (thread_ne ls.1 (by omega) lt.1 (by omega) (fun e => tf (e ▸ hs))), g1]
  · rw [h4]; exact p4
  · rw [G4 15 (by decide) (by decide) (by decide), g2 15 (by decide) (by omega), g1]; exact made
  · simp only [List.length_cons] at all ⊢; omega
  · intro s hs
    exact low s (pp.mem_iff.2 hs)
theorem get_zero (c : Cfg) (a : Int) : (Mem.of (ground c [])).get a = 0 := by
  show (ground c []).getD a.toNat 0 = 0
  unfold ground lays
  simp only [List.foldl_nil, List.getD_eq_getElem?_getD]
  by_cases h : a.toNat < c.len.toNat
  · simp [h]
  · rw [List.getElem?_eq_none (by simpa using h)]
    rfl
theorem begin {T : Nat} (n0 : 1 ≤ T) (n1 : T ≤ 8) : Inv ⟨1, T, 1⟩ (Mem.of (ground ⟨1, T, 1⟩ [])) [] [] 0 :=
  ⟨⟨by simp, by simp, by simp; omega, by simp; omega, by simp, by simp⟩, by
    show ((lays (List.replicate _ 0) []).length : Int) = _
    unfold lays
    simp only [List.foldl_nil, List.length_replicate, Cfg.len]
    omega, get_zero _ _, trivial, get_zero _ _, get_zero _ _, rfl, by simp, by simp, by simp, rfl⟩
end P18
end Go.Proofs.Ytophgiocmldliaa
