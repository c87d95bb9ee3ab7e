/- Package dice: numbers: a new state, the next number, a number below another one; the document's numbers. -/
import Derived.Test.YtophgiocmldliaaRw
import Derived.Test.YtophgiocmldliaaProg
import Derived.Lib.Hide
import Derived.Laws.Bits
import Derived.Laws.BitsAll
namespace Go.Proofs.Ytophgiocmldliaa
open Go.RowKit
namespace D38
def x1 (z : Int) : Int := IntKind.u64.wrap (bits .xor .u64 z (z / 1073741824) * 13787848793156543929)
def x2 (z : Int) : Int := IntKind.u64.wrap (bits .xor .u64 z (z / 134217728) * 10723151780598845931)
def x3 (z : Int) : Int := bits .xor .u64 z (z / 2147483648)
def mix (z : Int) : Int := x3 (x2 (x1 z))
/-- A state behind n numbers. -/
def at_ (s : Int) (n : Nat) : Int := IntKind.u64.wrap (s + n * 11400714819323198485)
def num (s : Int) (n : Nat) : Int := mix (at_ s n)
/-- A number below n: what it is, and how many numbers were taken then. -/
def bel (s : Int) (N : Nat) (n : Int) : Int := if n < 1 then 0 else num s (N + 1) % n
def belN (N : Nat) (n : Int) : Nat := if n < 1 then N else N + 1
theorem u64w (x : Int) : IntKind.u64.wrap x = x % 18446744073709551616 := by simp [IntKind.wrap, IntKind.bits, IntKind.signed]
theorem at_range (s : Int) (n : Nat) : 0 ≤ at_ s n ∧ at_ s n < 18446744073709551616 := by unfold at_; rw [u64w]; omega
theorem at_succ (s : Int) (n : Nat) : IntKind.u64.wrap (at_ s n + 11400714819323198485) = at_ s (n + 1) := by unfold at_; simp only [u64w]; push_cast; omega
theorem at_zero {s : Int} (h0 : 0 ≤ s) (h1 : s < 18446744073709551616) : at_ s 0 = s := by unfold at_; simp only [u64w]; push_cast; omega
theorem at_mul (s : Int) (n : Nat) : IntKind.u64.wrap (s + IntKind.u64.wrap (n * 11400714819323198485)) = at_ s n := by unfold at_; simp only [u64w]; omega
theorem bits_range (op : BinOp) (a b : Int) : 0 ≤ bits op .u64 a b ∧ bits op .u64 a b < 18446744073709551616 := by
  have h : ∀ x, 0 ≤ IntKind.u64.wrap x ∧ IntKind.u64.wrap x < 18446744073709551616 := fun x => by rw [u64w]; omega
  unfold bits
  split <;> first | exact h _ | (constructor <;> decide)
theorem num_range (s : Int) (n : Nat) : 0 ≤ num s n ∧ num s n < 18446744073709551616 := by
  unfold num mix x3
  exact bits_range _ _ _
theorem bel_range (s : Int) (N : Nat) {n : Int} (h : 1 ≤ n) : 0 ≤ bel s N n ∧ bel s N n < n := by
  unfold bel
  rw [if_neg (by omega)]
  exact ⟨Int.emod_nonneg _ (by omega), Int.emod_lt_of_pos _ (by omega)⟩
theorem ret_u64 {a b : Int} (h : a = b) : Ending.returned (.int .u64 a) = Ending.returned (.int .u64 b) := by rw [h]
theorem quo_w {x : Int} (h : 0 ≤ x ∧ x < 18446744073709551616) (k : Int) (hk : 1 ≤ k) : IntKind.u64.wrap (x.tdiv k) = x / k := by
  rw [Int.tdiv_eq_ediv_of_nonneg h.1, u64w]
  have h1 : 0 ≤ x / k := Int.ediv_nonneg h.1 (by omega)
  have h2 : x / k ≤ x := Int.ediv_le_self _ h.1
  omega
theorem wrap_range (x : Int) : 0 ≤ IntKind.u64.wrap x ∧ IntKind.u64.wrap x < 18446744073709551616 := by rw [u64w]; omega
theorem quo_w1 (x : Int) : IntKind.u64.wrap ((IntKind.u64.wrap x).tdiv 1073741824) = IntKind.u64.wrap x / 1073741824 := quo_w (wrap_range x) _ (by decide)
theorem quo_a1 (s : Int) (n : Nat) : IntKind.u64.wrap ((at_ s n).tdiv 1073741824) = at_ s n / 1073741824 := quo_w (at_range s n) _ (by decide)
theorem quo_w2 (x : Int) : IntKind.u64.wrap ((IntKind.u64.wrap x).tdiv 134217728) = IntKind.u64.wrap x / 134217728 := quo_w (wrap_range x) _ (by decide)
theorem quo_w3 (x : Int) : IntKind.u64.wrap ((IntKind.u64.wrap x).tdiv 2147483648) = IntKind.u64.wrap x / 2147483648 := quo_w (wrap_range x) _ (by decide)
theorem belN_le (N : Nat) (n : Int) : N ≤ belN N n ∧ belN N n ≤ N + 1 := by unfold belN; split <;> omega
end D38
theorem dice_new (s : Int) (w : World) : Calls Try.prog 17 #[.int .u64 s] w fun e w' => e = .returned (.pointer (some ⟨w.heap.size, 0, none⟩)) ∧ Blk w' w.heap.size [.int .u64 s] ∧ Keep [] w w' := by
  go_enter Try.func17, Try.ntmps17
  go_wp2
  go_ret
  exact ⟨rfl, Blk.new rfl, Keep.alloc (Keep.refl _ _)⟩
set_option maxRecDepth 100000 in
set_option maxHeartbeats 600000 in
theorem dice_next' {w : World} {b : Nat} {z : Int} (h : Blk w b [.int .u64 z]) :
    Calls Try.prog 108 #[.pointer (some ⟨b, 0, none⟩)] w fun e w' => e = .returned (.int .u64 (D38.mix (IntKind.u64.wrap (z + 11400714819323198485)))) ∧ Blk w' b [.int .u64 (IntKind.u64.wrap (z + 11400714819323198485))] ∧ Keep [b] w w' := by
  have HX := Lib.hid h
  have cx := h.cell
  have fx := h.free
  have lx := h.lt
  clear h
  go_enter Try.func108, Try.ntmps108
  go_wp2
  go_ret
  exact ⟨rfl, Blk.set HX.out rfl, Keep.set (Keep.refl _ _) (by simp)⟩
theorem dice_next {w : World} {b : Nat} {s : Int} {N : Nat} (h : Blk w b [.int .u64 (D38.at_ s N)]) :
    Calls Try.prog 108 #[.pointer (some ⟨b, 0, none⟩)] w fun e w' => e = .returned (.int .u64 (D38.num s (N + 1))) ∧ Blk w' b [.int .u64 (D38.at_ s (N + 1))] ∧ Keep [b] w w' := by
  have := dice_next' h
  rw [D38.at_succ] at this
  exact this
set_option maxRecDepth 100000 in
set_option maxHeartbeats 600000 in
theorem ref_number (s : Int) (n : Nat) (hn : n < 1000000000) (w : World) :
    Calls Try.prog 26 #[.int .u64 s, .int .i64 n] w fun e w' => e = .returned (.int .u64 (D38.num s n)) ∧ w = w' := by
  have HA := Lib.hid (D38.at_mul s n)
  have hn' : (n : Int) < 1000000000 := by omega
  have hn0 : (0 : Int) ≤ (n : Int) := by omega
  go_enter Try.func26, Try.ntmps26
  go_wp2
  go_ret
  refine ⟨D38.ret_u64 ?_, rfl⟩
  rw [HA.out]
  simp only [D38.quo_w1, D38.quo_w2, D38.quo_w3, D38.quo_a1]
  unfold D38.num D38.mix D38.x3 D38.x2 D38.x1
  exact Eq.refl _
set_option maxRecDepth 100000 in
set_option maxHeartbeats 600000 in
theorem dice_below {w : World} {b : Nat} {s : Int} {N : Nat} (h : Blk w b [.int .u64 (D38.at_ s N)]) (n : Int) (n1 : n < 9223372036854775808) :
    Calls Try.prog 110 #[.pointer (some ⟨b, 0, none⟩), .int .i64 n] w fun e w' => e = .returned (.int .i64 (D38.bel s N n)) ∧ Blk w' b [.int .u64 (D38.at_ s (D38.belN N n))] ∧ Keep [b] w w' := by
  unfold D38.bel D38.belN
  by_cases hn : n < 1
  · rw [if_pos hn, if_pos hn]
    have HX := Lib.hid h
    have q : decide (n < 1) = true := by simpa using hn
    clear h
    go_enter Try.func110, Try.ntmps110
    go_wp2
    go_ret
    exact ⟨rfl, HX.out, Keep.refl _ _⟩
  · rw [if_neg hn, if_neg hn]
    have HX := Lib.hid (dice_next h)
    have q : decide (n < 1) = false := by simpa using hn
    have hr := D38.num_range s (N + 1)
    have hr0 := hr.1
    have hr1 := hr.2
    have hm0 : 0 ≤ D38.num s (N + 1) % n := Int.emod_nonneg _ (by omega)
    have hm1 : D38.num s (N + 1) % n < n := Int.emod_lt_of_pos _ (by omega)
    have hn0 : 1 ≤ n := by omega
    have hz : (n == 0) = false := by simp; omega
    clear h hr hn
    go_enter Try.func110, Try.ntmps110
    go_wp2_with fail
    refine HX.out.mono ?_
    rintro e w1 ⟨rfl, hb, hk⟩
    have HB := Lib.hid hb
    have HK := Lib.hid hk
    clear hb hk
    go_wp2
    go_ret
    trace_state
    exact ⟨rfl, HB.out, HK.out⟩
end Go.Proofs.Ytophgiocmldliaa
