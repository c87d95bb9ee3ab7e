/- Lists of ints that a walk makes: what is known of such a slice, and one more behind it. -/
import Derived.Test.YtophgiocmldliaaG2
namespace Go.Proofs.Ytophgiocmldliaa
open Go.RowKit
def i64s (l : List Int) : List Value := l.map (Value.int .i64)
theorem i64s_len (l : List Int) : (i64s l).length = l.length := by simp [i64s]
/-- v is a slice of the ints xs, which lie in a block of their own, not ahead of base. -/
structure Ints (w : World) (base : Nat) (v : Value) (xs : List Int) : Prop where
  own : w.ownsRow base 3 1 v xs.length (i64s xs)
  base_le : base ≤ w.heap.size
theorem Ints.nil {w : World} {base : Nat} (h : base ≤ w.heap.size) : Ints w base (.slice none 0 0) [] := ⟨World.ownsRow_nil _ _ _ _, h⟩
theorem Ints.form {w : World} {base : Nat} {v : Value} {xs : List Int} (h : Ints w base v xs) : ∃ a cap, v = .slice a xs.length cap := by
  obtain ⟨⟨_, ⟨rfl, h0⟩ | ⟨g, cap, cur, rfl, _⟩⟩, _⟩ := h
  · exact ⟨none, 0, by rw [h0]⟩
  · exact ⟨_, _, rfl⟩
theorem Ints.blk {w : World} {base : Nat} {v : Value} {xs : List Int} (h : Ints w base v xs) (hn : 0 < xs.length) : ∃ g cap sp, v = .slice (some ⟨g, 0, none⟩) xs.length cap ∧ base ≤ g ∧ Blk w g (i64s xs ++ sp) ∧ xs.length + sp.length = cap ∧ cap ≤ maxLen := by
  obtain ⟨g, cap, sp, h1, h2, h3, h4, h5⟩ := own_blk h.own hn
  exact ⟨g, cap, sp, h1, h2, h3, h5, h4⟩
/-- Its block, if it has one. -/
theorem Ints.at_ {w : World} {base : Nat} {v : Value} {xs : List Int} (h : Ints w base v xs) : ∀ g, v.ownBlock = some g → base ≤ g ∧ g < w.heap.size := h.own.lt
theorem Ints.keep {S : List Nat} {w w' : World} {base : Nat} {v : Value} {xs : List Int} (h : Ints w base v xs) (k : Keep S w w') (hs : ∀ g, v.ownBlock = some g → g ∉ S) : Ints w' base v xs := by
  refine ⟨?_, Nat.le_trans h.base_le k.size⟩
  have hl := h.own.lt
  obtain ⟨h1, ⟨rfl, h0⟩ | ⟨g, cap, cur, rfl, hb, hh, hr⟩⟩ := h.own
  · exact ⟨h1, .inl ⟨rfl, h0⟩⟩
  · exact ⟨h1, .inr ⟨g, cap, cur, rfl, hb, (k.block g (hl g rfl).2 (hs g rfl)).trans hh, hr⟩⟩
theorem i64s_get {l : List Int} {sp : List Value} {i : Nat} (h : i < l.length) : (i64s l ++ sp)[i]? = some (.int .i64 (l.getD i 0)) := by
  rw [List.getElem?_append_left (by simpa [i64s] using h)]
  simp [i64s, List.getD_eq_getElem?_getD, List.getElem?_eq_getElem h]
/-- One more behind the list. -/
theorem wpList_append_int {P : Program} {w : World} {base : Nat} {v : Value} {xs : List Int} {x : Int} {ops : Array Oper} {rest : List Oper} {o : Oper} {a : Act} {Q : Exit → Act → World → Prop} (s y : Operand)
    (hu : P.underlying 69 = some (.slice 3)) (hf : (P.info? 3).map (fun i => (i.zero, i.size, i.bytes)) = some (some (.int .i64 0), 1, 8))
    (hgd : o.guard = none) (ho : o.op = .call { callee := .builtin .append, args := #[s, y], argTypes := #[69, 69] })
    (hx : Ints w base v xs) (hs : a.eval s = v) (hy : a.eval y = .slice (some ⟨w.heap.size, 0, none⟩) 1 1) (hlen : xs.length < 1000000)
    (h : ∀ g cap w', Ints w' base (.slice (some ⟨g, 0, none⟩) (xs.length + 1) cap) (xs ++ [x]) → Keep v.ownBlock.toList w w' → (v.ownBlock = some g ∨ w.heap.size ≤ g) → wpList P ops Q rest (a.put o.dst (.slice (some ⟨g, 0, none⟩) (xs.length + 1) cap)) w') :
    wpList P ops Q (o :: rest) a (w.alloc (.cells #[.int .i64 x] 3)) := by
  obtain ⟨i0, hi, hz0, hz1, hz2⟩ := info_parts hf
  have hb := hx.base_le
  have hown : (w.alloc (.cells #[.int .i64 x] 3)).ownsRow base 3 1 v xs.length (i64s xs) := hx.own.alloc _
  refine wpList_append_lies _ hgd s y 69 ho base 3 i0 (.int .i64 0) 1 8 hu hi hz0 hz1 hz2 rfl (by decide) v xs.length (i64s xs) hs hown ⟨w.heap.size, 0, none⟩ 1 1 [.int .i64 x] hy rfl ?_ (by simp; rfl) (by decide) (by unfold maxLen; omega) (by omega) (by simp; omega) _ rfl ?_
  · intro j u hj
    match j, hj with
    | 0, hj =>
      simp at hj
      subst hj
      show (w.alloc (.cells #[_] _)).cell? ⟨w.heap.size, 0, none⟩ = _
      simp
  · intro g cap w' h1 h2 h3 h4
    refine h g cap w' ⟨by simpa [i64s] using h1, by have := h2.size; simp at this; omega⟩ ?_ ?_
    · exact (Keep.alloc (Keep.refl _ w)).trans (grown_keep h2 fun k hk => .inl (by simp [hk]))
    · rcases h3 with h3 | h3
      · exact .inl h3
      · right; simp at h3; omega
theorem i64s_take {l : List Int} {k : Nat} : (i64s l).take k = i64s (l.take k) := by simp [i64s, List.map_take]
/-- One written over, then the last one left out. -/
theorem Ints.set {w : World} {base g cap : Nat} {xs : List Int} {n : Nat} (h : Ints w base (.slice (some ⟨g, 0, none⟩) n cap) xs) (hn : n = xs.length) (k : Nat) (x : Int) : Ints (w.setCell ⟨g, k, none⟩ (.int .i64 x)) base (.slice (some ⟨g, 0, none⟩) n cap) (xs.set k x) := by
  subst hn
  have := (h.own.stored k (.int .i64 x)).1
  exact ⟨by simpa [i64s, List.map_set] using this, by simpa [World.setCell] using h.base_le⟩
theorem Ints.pop {w : World} {base g cap n : Nat} {xs : List Int} (h : Ints w base (.slice (some ⟨g, 0, none⟩) (n + 1) cap) xs) (hn : xs.length = n + 1) : Ints w base (.slice (some ⟨g, 0, none⟩) n cap) (xs.take n) := by
  have h1 := h.own
  rw [hn] at h1
  have e : i64s xs = i64s (xs.take n) ++ i64s (xs.drop n) := by rw [← List.take_append_drop n xs]; simp [i64s, List.take_append_drop]
  rw [e] at h1
  have hl : (xs.take n).length = n := by simp; omega
  exact ⟨by rw [hl]; exact ownsRow_pop (by simp [i64s]; omega) h1, h.base_le⟩
/-- A slice of bytes that came in. -/
def Bys (w : World) (v : Value) (zs : List Int) : Prop :=
  ((zs = [] ∧ ∃ a cap, v = .slice a 0 cap) ∨ ∃ b off cap, v = .slice (some ⟨b, off, none⟩) zs.length cap ∧ b < w.heap.size ∧
    ∀ i, i < zs.length → w.cell? ⟨b, off + i, none⟩ = some (.int .u8 (zs.getD i 0))) ∧ ∀ z ∈ zs, 0 ≤ z ∧ z < 256
theorem Bys.keep {w w' : World} {v : Value} {zs : List Int} {S : List Nat} (h : Bys w v zs) (k : Keep S w w') (hs : ∀ x ∈ S, w.heap.size ≤ x) : Bys w' v zs := by
  refine ⟨?_, h.2⟩
  rcases h.1 with h | ⟨b, off, cap, h1, h2, h3⟩
  · exact .inl h
  · refine .inr ⟨b, off, cap, h1, Nat.lt_of_lt_of_le h2 k.size, fun i hi => ?_⟩
    have hb : w'.heap[b]? = w.heap[b]? := k.block b h2 (fun hm => by have := hs b hm; omega)
    rw [World.cell?_of_block (w := w) (w' := w') hb]
    exact h3 i hi
theorem Bys.form {w : World} {v : Value} {zs : List Int} (h : Bys w v zs) : ∃ a cap, v = .slice a zs.length cap := by
  rcases h.1 with ⟨rfl, a, cap, rfl⟩ | ⟨b, off, cap, rfl, _⟩
  · exact ⟨a, cap, rfl⟩
  · exact ⟨_, cap, rfl⟩
theorem Bys.at_ {w : World} {v : Value} {zs : List Int} (h : Bys w v zs) {k : Nat} (hk : k < zs.length) : ∃ b off cap, v = .slice (some ⟨b, off, none⟩) zs.length cap ∧ b < w.heap.size ∧ w.cell? ⟨b, off + k, none⟩ = some (.int .u8 (zs.getD k 0)) ∧ 0 ≤ zs.getD k 0 ∧ zs.getD k 0 < 256 := by
  rcases h.1 with ⟨rfl, _⟩ | ⟨b, off, cap, rfl, hb, hc⟩
  · exact absurd hk (by simp)
  · refine ⟨b, off, cap, rfl, hb, hc k hk, ?_⟩
    rw [List.getD_eq_getElem?_getD, List.getElem?_eq_getElem hk]
    exact h.2 _ (List.getElem_mem hk)
/-- A cell behind a change of other blocks. -/
theorem Keep.cell {S : List Nat} {w w' : World} (k : Keep S w w') {b o : Nat} {u : Value} (h : w.cell? ⟨b, o, none⟩ = some u) (hb : b < w.heap.size) (hs : b ∉ S) : w'.cell? ⟨b, o, none⟩ = some u := by
  rw [World.cell?_of_block (w := w) (w' := w') (k.block b hb hs)]
  exact h
end Go.Proofs.Ytophgiocmldliaa
