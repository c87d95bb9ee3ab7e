/- Small laws on worlds: a block of cells known whole, and a world in which only named blocks have changed. -/
import Derived.WalkKit
import Derived.WalkSpells
import Derived.WalkLawsBesides
import Derived.BigQuiet
import Derived.Deep.RegionWith
import Derived.Laws.EntriesVeiled
import Derived.StillTailTactics
namespace Go.Proofs.Ytophgiocmldliaa
open Go.RowKit

/-- Block b is the cells cs, none of them frozen. -/
def Blk (w : World) (b : Nat) (cs : List Value) : Prop := ∃ T, w.heap[b]? = some (.cells cs.toArray T (0, 0))

theorem Blk.lt {w : World} {b : Nat} {cs : List Value} (h : Blk w b cs) : b < w.heap.size := by
  obtain ⟨T, h⟩ := h
  exact (Array.getElem?_eq_some_iff.1 h).1
theorem Blk.cell {w : World} {b : Nat} {cs : List Value} (h : Blk w b cs) (o : Nat) : w.cell? ⟨b, o, none⟩ = cs[o]? := by
  obtain ⟨T, h⟩ := h
  simp [World.cell?, h]
theorem Blk.free {w : World} {b : Nat} {cs : List Value} (h : Blk w b cs) (o : Nat) : w.frozen? ⟨b, o, none⟩ = false := by
  obtain ⟨T, h⟩ := h
  simp [World.frozen?, h]
theorem Blk.of_heap {w w' : World} {b : Nat} {cs : List Value} (h : Blk w b cs) (e : w'.heap[b]? = w.heap[b]?) : Blk w' b cs := by
  obtain ⟨T, h⟩ := h
  exact ⟨T, e.trans h⟩
theorem Blk.set {w : World} {b k : Nat} {cs cs' : List Value} {v : Value} (h : Blk w b cs) (e : cs.set k v = cs') : Blk (w.setCell ⟨b, k, none⟩ v) b cs' := by
  obtain ⟨T, h⟩ := h
  refine ⟨T, ?_⟩
  subst e
  simp [World.setCell, Array.getElem?_modify, h]
theorem Blk.other {w : World} {b : Nat} {cs : List Value} {a : Addr} {v : Value} (h : Blk w b cs) (hne : b ≠ a.block) : Blk (w.setCell a v) b cs :=
  h.of_heap (Below.heap_setCell _ _ _ _ hne)
theorem Blk.alloc {w : World} {b : Nat} {cs : List Value} {o : Obj} (h : Blk w b cs) : Blk (w.alloc o) b cs :=
  h.of_heap (Below.heap_alloc _ _ _ h.lt)
theorem Blk.new {w : World} {b : Nat} {cs : List Value} {T : TypeId} (e : b = w.heap.size) : Blk (w.alloc (.cells cs.toArray T)) b cs := by
  subst e
  exact ⟨T, heap_alloc_new w _⟩
theorem Blk.drew {w : World} {b : Nat} {cs : List Value} (h : Blk w b cs) : Blk w.drew b cs := h.of_heap rfl
theorem Blk.drewN {w : World} {b n : Nat} {cs : List Value} (h : Blk w b cs) : Blk (w.drewN n) b cs := h.of_heap rfl

/-- w' is w, but for the blocks of S and new blocks. -/
structure Keep (S : List Nat) (w w' : World) : Prop where
  os : w'.os = w.os
  tape : w'.tape = w.tape
  output : w'.output = w.output
  size : w.heap.size ≤ w'.heap.size
  block : ∀ k, k < w.heap.size → k ∉ S → w'.heap[k]? = w.heap[k]?

theorem Keep.refl (S : List Nat) (w : World) : Keep S w w := ⟨rfl, rfl, rfl, Nat.le_refl _, fun _ _ _ => rfl⟩
theorem Keep.trans {S : List Nat} {a b c : World} (h : Keep S a b) (k : Keep S b c) : Keep S a c :=
  ⟨k.os.trans h.os, k.tape.trans h.tape, k.output.trans h.output, Nat.le_trans h.size k.size, fun i hi hs => (k.block i (Nat.lt_of_lt_of_le hi h.size) hs).trans (h.block i hi hs)⟩
/-- The second change may hit blocks that the first one made. -/
theorem Keep.trans' {S S' : List Nat} {a b c : World} (h : Keep S a b) (k : Keep S' b c) (hs : ∀ x, x ∈ S' → x ∈ S ∨ a.heap.size ≤ x) : Keep S a c :=
  ⟨k.os.trans h.os, k.tape.trans h.tape, k.output.trans h.output, Nat.le_trans h.size k.size, fun i hi hi' =>
    (k.block i (Nat.lt_of_lt_of_le hi h.size) (fun hm => (hs i hm).elim hi' (fun hl => absurd hi (by omega)))).trans (h.block i hi hi')⟩
theorem Keep.mono {S S' : List Nat} {w w' : World} (h : Keep S w w') (hs : ∀ x, x ∈ S → x ∈ S') : Keep S' w w' :=
  ⟨h.os, h.tape, h.output, h.size, fun k hk hn => h.block k hk (fun hm => hn (hs k hm))⟩
theorem Keep.alloc {S : List Nat} {a w : World} {o : Obj} (h : Keep S a w) : Keep S a (w.alloc o) :=
  h.trans ⟨rfl, rfl, rfl, by simp, fun k hk _ => Below.heap_alloc _ _ _ hk⟩
theorem Keep.set {S : List Nat} {a w : World} {p : Addr} {v : Value} (h : Keep S a w) (hp : p.block ∈ S) : Keep S a (w.setCell p v) :=
  h.trans ⟨rfl, rfl, rfl, by simp [World.setCell], fun k _ hn => Below.heap_setCell _ _ _ _ (fun e => hn (e ▸ hp))⟩
theorem Keep.setNew {S : List Nat} {a w : World} {p : Addr} {v : Value} (h : Keep S a w) (hp : a.heap.size ≤ p.block) : Keep S a (w.setCell p v) :=
  ⟨h.os, h.tape, h.output, by simpa [World.setCell] using h.size, fun k hk hn => (Below.heap_setCell _ _ _ _ (by omega)).trans (h.block k hk hn)⟩
theorem Keep.drew {S : List Nat} {a w : World} (h : Keep S a w) : Keep S a w.drew := h.trans ⟨rfl, rfl, rfl, Nat.le_refl _, fun _ _ _ => rfl⟩
theorem Keep.drewN {S : List Nat} {a w : World} {n : Nat} (h : Keep S a w) : Keep S a (w.drewN n) :=
  h.trans ⟨rfl, rfl, rfl, Nat.le_refl _, fun _ _ _ => rfl⟩
theorem Keep.below {w w' : World} (h : Keep [] w w') : Below w.heap.size w w' := ⟨h.os, h.tape, h.output, h.size, fun k hk => h.block k hk (by simp)⟩
theorem Blk.keep {S : List Nat} {w w' : World} {b : Nat} {cs : List Value} (h : Blk w b cs) (k : Keep S w w') (hs : b ∉ S) : Blk w' b cs := h.of_heap (k.block b h.lt hs)

/-- A block that holds other cells is another block. -/
theorem Blk.ne {w : World} {a b : Nat} {cs ds : List Value} (h : Blk w a cs) (k : Blk w b ds) (e : cs ≠ ds) : a ≠ b := by
  rintro rfl
  obtain ⟨T, h⟩ := h
  obtain ⟨U, k⟩ := k
  rw [h] at k
  simp only [Option.some.injEq, Obj.cells.injEq] at k
  exact e (by simpa using congrArg Array.toList k.1)
end Go.Proofs.Ytophgiocmldliaa
