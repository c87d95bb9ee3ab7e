/- Slices that a walk makes, of elements of any size: what is known of such a slice, and more behind it. -/
import Derived.Test.YtophgiocmldliaaW0
import Derived.Laws.AppendOwn
import Derived.Deep.AppendLies
import Derived.LoopTactic
namespace Go.Proofs.Ytophgiocmldliaa
open Go.RowKit
theorem grownKeep {w w' : World} {r : Option Nat} (h : w.grownBy w' r) {S : List Nat} (hs : ∀ k, r = some k → k ∈ S ∨ w.heap.size ≤ k) : Keep S w w' :=
  ⟨h.os, h.tape, h.output, h.size, fun k hk hn => h.block k hk (fun e => by
    rcases hs k e.symm with h1 | h1
    · exact hn h1
    · omega)⟩
/-- v is a slice of n elements, of sz cells each; the cells are cs, and lie in a block of their own, not ahead of base. -/
structure Row (E sz : Nat) (w : World) (base : Nat) (v : Value) (n : Nat) (cs : List Value) : Prop where
  own : w.ownsRow base E sz v n cs
  base_le : base ≤ w.heap.size
theorem Row.nil {E sz : Nat} {w : World} {base : Nat} (h : base ≤ w.heap.size) : Row E sz w base (.slice none 0 0) 0 [] := ⟨World.ownsRow_nil _ _ _ _, h⟩
theorem Row.form {E sz : Nat} {w : World} {base : Nat} {v : Value} {n : Nat} {cs : List Value} (h : Row E sz w base v n cs) : ∃ a cap, v = .slice a n cap := by
  obtain ⟨⟨_, ⟨rfl, h0⟩ | ⟨g, cap, cur, rfl, _⟩⟩, _⟩ := h
  · exact ⟨none, 0, by rw [h0]⟩
  · exact ⟨_, _, rfl⟩
theorem Row.len {E sz : Nat} {w : World} {base : Nat} {v : Value} {n : Nat} {cs : List Value} (h : Row E sz w base v n cs) : cs.length = n * sz := h.own.1
theorem Row.blk {E sz : Nat} {w : World} {base : Nat} {v : Value} {n : Nat} {cs : List Value} (h : Row E sz w base v n cs) (hn : 0 < n) :
    ∃ g cap sp, v = .slice (some ⟨g, 0, none⟩) n cap ∧ base ≤ g ∧ Blk w g (cs ++ sp) ∧ n ≤ cap ∧ cap ≤ maxLen ∧ cs.length + sp.length = cap * sz := by
  obtain ⟨⟨h1, ⟨_, h2⟩ | ⟨g, cap, cur, rfl, hb, hh, hc, hm, hs, ht⟩⟩, _⟩ := h
  · omega
  · refine ⟨g, cap, cur.toList.drop (n * sz), rfl, hb, ⟨E, ?_⟩, hc, hm, ?_⟩
    · rw [hh, ← ht, List.take_append_drop]
    · rw [← ht, ← List.length_append, List.take_append_drop, Array.length_toList, hs]
theorem Row.at_ {E sz : Nat} {w : World} {base : Nat} {v : Value} {n : Nat} {cs : List Value} (h : Row E sz w base v n cs) : ∀ g, v.ownBlock = some g → base ≤ g ∧ g < w.heap.size := h.own.lt
theorem Row.keep {E sz : Nat} {S : List Nat} {w w' : World} {base : Nat} {v : Value} {n : Nat} {cs : List Value} (h : Row E sz w base v n cs) (k : Keep S w w') (hs : ∀ g, v.ownBlock = some g → g ∉ S) : Row E sz w' base v n cs := by
  refine ⟨?_, Nat.le_trans h.base_le k.size⟩
  have hl := h.own.lt
  obtain ⟨h1, ⟨rfl, h0⟩ | ⟨g, cap, cur, rfl, hb, hh, hr⟩⟩ := h.own
  · exact ⟨h1, .inl ⟨rfl, h0⟩⟩
  · exact ⟨h1, .inr ⟨g, cap, cur, rfl, hb, (k.block g (hl g rfl).2 (hs g rfl)).trans hh, hr⟩⟩
/-- What is known of a slice's type and its elements' type. -/
structure RowT (P : Program) (E sz T bytes : Nat) : Prop where
  under : P.underlying T = some (.slice E)
  info : ∃ z, z.cells.size = sz ∧ (P.info? E).map (fun i => (i.zero, i.size, i.bytes)) = some (some z, sz, bytes)
  pos : 0 < sz
/-- One more behind: its cells lie in a new block of their own. -/
theorem wpList_append_one {P : Program} {E sz T bytes : Nat} {w : World} {base : Nat} {v : Value} {n : Nat} {cs es : List Value} {ops : Array Oper} {rest : List Oper} {o : Oper} {a : Act} {Q : Exit → Act → World → Prop} (s y : Operand)
    (hT : RowT P E sz T bytes) (hgd : o.guard = none) (ho : o.op = .call { callee := .builtin .append, args := #[s, y], argTypes := #[T, T] })
    (hx : Row E sz w base v n cs) (hs : a.eval s = v) (hy : a.eval y = .slice (some ⟨w.heap.size, 0, none⟩) 1 1) (hes : es.length = sz) (hoc : ∀ u ∈ es, u.oneCell' = true) (hlen : n < 1000000) (hby : bytes ≤ 1000000)
    (h : ∀ g cap w', Row E sz w' base (.slice (some ⟨g, 0, none⟩) (n + 1) cap) (n + 1) (cs ++ es) → Keep v.ownBlock.toList w w' → (v.ownBlock = some g ∨ w.heap.size ≤ g) → wpList P ops Q rest (a.put o.dst (.slice (some ⟨g, 0, none⟩) (n + 1) cap)) w') :
    wpList P ops Q (o :: rest) a (w.alloc (.cells es.toArray E)) := by
  obtain ⟨z, hz, hf⟩ := hT.info
  obtain ⟨i0, hi, hz0, hz1, hz2⟩ := info_parts hf
  have hb := hx.base_le
  have hown : (w.alloc (.cells es.toArray E)).ownsRow base E sz v n cs := hx.own.alloc _
  have hmul : (n + 1) * bytes ≤ 1000000 * 1000000 := Nat.mul_le_mul (by omega) hby
  refine wpList_append_lies _ hgd s y T ho base E i0 z sz bytes hT.under hi hz0 hz1 hz2 hz hT.pos v n cs hs hown ⟨w.heap.size, 0, none⟩ 1 1 es hy (by omega) ?_ hoc (by decide) (by unfold maxLen; omega) (by omega) (by simp; omega) _ rfl ?_
  · intro j u hj
    have hc := (Blk.new (w := w) (b := w.heap.size) (cs := es) (T := E) rfl).cell j
    rw [hj] at hc
    rw [← hc]
    congr 1
    unfold Addr.add
    split
    · rename_i h0; simp [h0]
    · simp
  · intro g cap w' h1 h2 h3 h4
    refine h g cap w' ⟨h1, by have := h2.size; simp at this; omega⟩ ?_ ?_
    · exact (Keep.alloc (Keep.refl _ w)).trans (grownKeep h2 fun k hk => .inl (by simp [hk]))
    · rcases h3 with h3 | h3
      · exact .inl h3
      · right; simp at h3; omega
/-- Many more behind: their cells lie in a block at an offset. -/
theorem wpList_append_many {P : Program} {E sz T bytes : Nat} {w : World} {base : Nat} {v : Value} {n : Nat} {cs es : List Value} {ops : Array Oper} {rest : List Oper} {o : Oper} {a : Act} {Q : Exit → Act → World → Prop} (s y : Operand) {ad : Addr} {m mc : Nat}
    (hT : RowT P E sz T bytes) (hgd : o.guard = none) (ho : o.op = .call { callee := .builtin .append, args := #[s, y], argTypes := #[T, T] })
    (hx : Row E sz w base v n cs) (hs : a.eval s = v) (hy : a.eval y = .slice (some ad) m mc) (hes : es.length = m * sz) (hnews : ∀ j u, es[j]? = some u → w.cell? (ad.add j) = some u) (hoc : ∀ u ∈ es, u.oneCell' = true) (hm : 0 < m) (hlen : n + m < 1000000) (hby : bytes ≤ 1000000)
    (h : ∀ g cap w', Row E sz w' base (.slice (some ⟨g, 0, none⟩) (n + m) cap) (n + m) (cs ++ es) → Keep v.ownBlock.toList w w' → (v.ownBlock = some g ∨ w.heap.size ≤ g) → wpList P ops Q rest (a.put o.dst (.slice (some ⟨g, 0, none⟩) (n + m) cap)) w') :
    wpList P ops Q (o :: rest) a w := by
  obtain ⟨z, hz, hf⟩ := hT.info
  obtain ⟨i0, hi, hz0, hz1, hz2⟩ := info_parts hf
  have hb := hx.base_le
  have hmul : (n + m) * bytes ≤ 1000000 * 1000000 := Nat.mul_le_mul (by omega) hby
  refine wpList_append_lies _ hgd s y T ho base E i0 z sz bytes hT.under hi hz0 hz1 hz2 hz hT.pos v n cs hs hx.own ad m mc es hy hes hnews hoc hm (by unfold maxLen; omega) (by omega) hb _ rfl ?_
  intro g cap w' h1 h2 h3 h4
  refine h g cap w' ⟨h1, by have := h2.size; omega⟩ (grownKeep h2 fun k hk => .inl (by simp [hk])) ?_
  rcases h3 with h3 | h3
  · exact .inl h3
  · right; omega
end Go.Proofs.Ytophgiocmldliaa
