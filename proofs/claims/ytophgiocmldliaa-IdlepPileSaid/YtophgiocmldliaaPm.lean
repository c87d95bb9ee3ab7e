/- The plain model of a memory of words, with its clock, its count of bad accesses and its last access. -/
import Derived.Test.YtophgiocmldliaaW0
namespace Go.Proofs.Ytophgiocmldliaa
open Go.RowKit

/-- A memory, as plain data. -/
structure Mem where
  ws : List Int
  clock : Int
  bad : Int
  kind : Int
  who : Int
  at_ : Int
  old : Int
  new : Int
  done : Bool

def Mem.begin (M : Mem) (kind who at_ new : Int) : Mem := { M with clock := wrap64 (M.clock + 1), kind := kind, who := who, at_ := at_, old := 0, new := new, done := false }
def Mem.isAt (M : Mem) (at_ : Int) : Prop := 0 ≤ at_ ∧ at_ < M.ws.length
instance (M : Mem) (a : Int) : Decidable (M.isAt a) := by unfold Mem.isAt; exact inferInstance
def Mem.get (M : Mem) (at_ : Int) : Int := M.ws.getD at_.toNat 0
def Mem.miss (M : Mem) (kind who at_ new : Int) : Mem := { M.begin kind who at_ new with bad := wrap64 (M.bad + 1) }
def Mem.hit (M : Mem) (kind who at_ new w : Int) (done : Bool) : Mem := { M.begin kind who at_ new with old := M.get at_, ws := M.ws.set at_.toNat w, done := done }
def Mem.load (M : Mem) (who at_ : Int) : Int × Mem := if M.isAt at_ then (M.get at_, M.hit 1 who at_ 0 (M.get at_) true) else (0, M.miss 1 who at_ 0)
def Mem.store (M : Mem) (who at_ w : Int) : Mem := if M.isAt at_ then M.hit 2 who at_ w w true else M.miss 2 who at_ w
def Mem.swap (M : Mem) (who at_ old w : Int) : Bool × Mem :=
  if M.isAt at_ then (if M.get at_ = old then (true, M.hit 3 who at_ w w true) else (false, M.hit 3 who at_ w (M.get at_) false)) else (false, M.miss 3 who at_ w)
def plus (v w : Int) : Int := (v % 4294967296 + w % 4294967296) % 4294967296
def Mem.add (M : Mem) (who at_ w : Int) : Int × Mem :=
  if M.isAt at_ then (plus (M.get at_) w, M.hit 4 who at_ (plus (M.get at_) w) (plus (M.get at_) w) true) else (0, M.miss 4 who at_ w)
/-- A word, without an access. -/
def Mem.peek (M : Mem) (at_ : Int) : Int := if M.isAt at_ then M.get at_ else 0

def u64s (l : List Int) : List Value := l.map (Value.int .u64)
def Mem.cells (M : Mem) (bw c : Nat) : List Value :=
  [.slice (some ⟨bw, 0, none⟩) M.ws.length c, .int .i64 M.clock, .int .i64 M.bad, .int .i64 M.kind, .int .i64 M.who, .int .i64 M.at_, .int .u64 M.old, .int .u64 M.new, .bool M.done]

/-- The memory M lies in the block bm, its words in the block bw. -/
structure MemAt (w : World) (bm bw : Nat) (M : Mem) : Prop where
  ne : bw ≠ bm
  small : 280 ≤ M.ws.length ∧ M.ws.length ≤ 1000000
  mem : ∃ c, Blk w bm (M.cells bw c)
  words : ∃ sp, Blk w bw (u64s M.ws ++ sp)
  range : ∀ x ∈ M.ws, 0 ≤ x ∧ x < 18446744073709551616

theorem u64s_get {l : List Int} {sp : List Value} {i : Nat} (h : i < l.length) : (u64s l ++ sp)[i]? = some (.int .u64 (l.getD i 0)) := by
  rw [List.getElem?_append_left (by simpa [u64s] using h)]
  simp [u64s, List.getD_eq_getElem?_getD, List.getElem?_eq_getElem h]
theorem u64s_set {l : List Int} {sp : List Value} {i : Nat} {v : Int} (h : i < l.length) : (u64s l ++ sp).set i (.int .u64 v) = u64s (l.set i v) ++ sp := by
  rw [List.set_append_left _ _ (by simpa [u64s] using h)]
  simp [u64s, List.map_set]
theorem set_getD {l : List Int} {i : Nat} : l.set i (l.getD i 0) = l := by
  apply List.ext_getElem?
  intro j
  by_cases hj : j = i
  · subst hj
    by_cases hl : j < l.length
    · simp [List.getD_eq_getElem?_getD, hl]
    · rw [List.getElem?_eq_none (by simpa using hl), List.getElem?_eq_none (by simpa using hl)]
  · rw [List.getElem?_set_ne (Ne.symm hj)]

theorem MemAt.keep {S : List Nat} {w w' : World} {bm bw : Nat} {M : Mem} (h : MemAt w bm bw M) (k : Keep S w w') (h1 : bm ∉ S) (h2 : bw ∉ S) : MemAt w' bm bw M :=
  ⟨h.ne, h.small, let ⟨c, hc⟩ := h.mem; ⟨c, hc.keep k h1⟩, let ⟨s, hs⟩ := h.words; ⟨s, hs.keep k h2⟩, h.range⟩
theorem MemAt.lt {w : World} {bm bw : Nat} {M : Mem} (h : MemAt w bm bw M) : bm < w.heap.size := let ⟨_, hc⟩ := h.mem; hc.lt
theorem MemAt.lt' {w : World} {bm bw : Nat} {M : Mem} (h : MemAt w bm bw M) : bw < w.heap.size := let ⟨_, hc⟩ := h.words; hc.lt
theorem get_range {M : Mem} {a : Int} (h : ∀ x ∈ M.ws, 0 ≤ x ∧ x < 18446744073709551616) : 0 ≤ M.get a ∧ M.get a < 18446744073709551616 := by
  unfold Mem.get
  rw [List.getD_eq_getElem?_getD]
  by_cases hl : a.toNat < M.ws.length
  · rw [List.getElem?_eq_getElem hl]
    exact h _ (List.getElem_mem hl)
  · rw [List.getElem?_eq_none (Nat.le_of_not_lt hl)]
    simp
theorem range_set {l : List Int} {i : Nat} {v : Int} (h : ∀ x ∈ l, 0 ≤ x ∧ x < 18446744073709551616) (hv : 0 ≤ v ∧ v < 18446744073709551616) : ∀ x ∈ l.set i v, 0 ≤ x ∧ x < 18446744073709551616 := by
  intro x hx
  rcases List.mem_or_eq_of_mem_set hx with h1 | h1
  · exact h x h1
  · rw [h1]; exact hv
/-- What an access leaves, out of its blocks. -/
theorem mem_hit {w : World} {bm bw c : Nat} {M : Mem} {sp : List Value} {kind who at_ new v : Int} {done : Bool} (hne : bw ≠ bm) (hs : 280 ≤ M.ws.length ∧ M.ws.length ≤ 1000000) (hr : ∀ x ∈ M.ws, 0 ≤ x ∧ x < 18446744073709551616)
    (hv : 0 ≤ v ∧ v < 18446744073709551616) (h1 : Blk w bm ((M.hit kind who at_ new v done).cells bw c)) (hat : M.isAt at_) (h2 : Blk w bw ((u64s M.ws ++ sp).set at_.toNat (.int .u64 v))) : MemAt w bm bw (M.hit kind who at_ new v done) :=
  ⟨hne, by simpa [Mem.hit] using hs, ⟨c, h1⟩, ⟨sp, by rw [u64s_set (by have := hat.1; have := hat.2; omega)] at h2; exact h2⟩, by
    simp only [Mem.hit]; exact range_set hr hv⟩
theorem mem_miss {w : World} {bm bw c : Nat} {M : Mem} {sp : List Value} {kind who at_ new : Int} (hne : bw ≠ bm) (hs : 280 ≤ M.ws.length ∧ M.ws.length ≤ 1000000) (hr : ∀ x ∈ M.ws, 0 ≤ x ∧ x < 18446744073709551616)
    (h1 : Blk w bm ((M.miss kind who at_ new).cells bw c)) (h2 : Blk w bw (u64s M.ws ++ sp)) : MemAt w bm bw (M.miss kind who at_ new) :=
  ⟨hne, by simpa [Mem.miss, Mem.begin] using hs, ⟨c, h1⟩, ⟨sp, h2⟩, by simpa [Mem.miss, Mem.begin] using hr⟩

/-- A block of more than one cell. -/
def Big (w : World) (b : Nat) : Prop := ∃ cs, Blk w b cs ∧ 2 ≤ cs.length
theorem Big.lt {w : World} {b : Nat} (h : Big w b) : b < w.heap.size := let ⟨_, hc, _⟩ := h; hc.lt
theorem MemAt.big {w : World} {bm bw : Nat} {M : Mem} (h : MemAt w bm bw M) : Big w bm := let ⟨_, hc⟩ := h.mem; ⟨_, hc, by simp [Mem.cells]⟩
theorem MemAt.big' {w : World} {bm bw : Nat} {M : Mem} (h : MemAt w bm bw M) : Big w bw := let ⟨_, hc⟩ := h.words; ⟨_, hc, by have := h.small.1; simp [u64s]; omega⟩
/-- A block of one cell is none of the great ones. -/
theorem Blk.small {w : World} {b : Nat} {v : Value} {S : List Nat} (h : Blk w b [v]) (hs : ∀ x ∈ S, Big w x) : b ∉ S := by
  intro hm
  obtain ⟨cs, hc, hl⟩ := hs b hm
  refine h.ne hc ?_ rfl
  rintro rfl
  simp at hl
theorem Blk.one {w w' : World} {b : Nat} {v : Value} {S : List Nat} (h : Blk w b [v]) (k : Keep S w w') (hs : ∀ x ∈ S, Big w x) : Blk w' b [v] := h.keep k (h.small hs)
/-- Block b has n cells. -/
def Len (w : World) (b n : Nat) : Prop := ∃ cs, Blk w b cs ∧ cs.length = n
theorem Len.ne {w : World} {a b n m : Nat} (h : Len w a n) (k : Len w b m) (e : n ≠ m) : a ≠ b := by
  obtain ⟨cs, h1, h2⟩ := h
  obtain ⟨ds, k1, k2⟩ := k
  exact h1.ne k1 (fun x => e (by rw [← h2, ← k2, x]))
theorem Len.big {w : World} {b n : Nat} (h : Len w b n) (hn : 2 ≤ n) : Big w b := let ⟨cs, h1, h2⟩ := h; ⟨cs, h1, by omega⟩
theorem MemAt.len {w : World} {bm bw : Nat} {M : Mem} (h : MemAt w bm bw M) : Len w bm 9 := let ⟨_, hc⟩ := h.mem; ⟨_, hc, rfl⟩
theorem MemAt.wlen {w : World} {bm bw : Nat} {M : Mem} (h : MemAt w bm bw M) : ∃ n, 280 ≤ n ∧ Len w bw n := let ⟨_, hc⟩ := h.words; ⟨_, by have := h.small.1; simp [u64s]; omega, _, hc, rfl⟩
theorem MemAt.ne_of_len {w : World} {b bm bw n : Nat} {M : Mem} (h : MemAt w bm bw M) (k : Len w b n) (h9 : n ≠ 9) (hn : n < 280) : b ≠ bm ∧ b ≠ bw :=
  ⟨k.ne h.len h9, let ⟨_, h1, h2⟩ := h.wlen; k.ne h2 (by omega)⟩
def MemEnd (S : List Nat) (bm bw : Nat) (v : Value) (M' : Mem) (w : World) (e : Ending) (w' : World) : Prop := e = .returned v ∧ MemAt w' bm bw M' ∧ Keep S w w'
end Go.Proofs.Ytophgiocmldliaa
