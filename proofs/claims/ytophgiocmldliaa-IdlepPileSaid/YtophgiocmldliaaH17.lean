/- Layer 17: the document's bit of a processor; small facts. -/
import Derived.Test.YtophgiocmldliaaP17
import Derived.Test.YtophgiocmldliaaIn
import Derived.Test.YtophgiocmldliaaSm
import Derived.BigQuiet
namespace Go.Proofs.Ytophgiocmldliaa
open Go.RowKit
theorem Ints.read {w : World} {B : Nat} {v : Value} {xs : List Int} (h : Ints w B v xs) {k : Nat} (hk : k < xs.length) :
    ∃ g cap, v = .slice (some ⟨g, 0, none⟩) xs.length cap ∧ w.cell? ⟨g, k, none⟩ = some (.int .i64 (xs.getD k 0)) ∧ k < cap ∧ xs.length ≤ cap ∧ cap ≤ maxLen ∧ B ≤ g ∧ g < w.heap.size := by
  obtain ⟨g, cap, sp, hv, hgB, hblk, hsp, hcm⟩ := h.blk (by omega)
  have cj : w.cell? ⟨g, k, none⟩ = some (.int .i64 (xs.getD k 0)) := by rw [hblk.cell]; exact i64s_get hk
  exact ⟨g, cap, hv, cj, by omega, by omega, hcm, hgB, hblk.lt⟩
theorem wrap_u64_small {x : Int} (h0 : 0 ≤ x) (h1 : x < 1000) : IntKind.u64.wrap x = x := by
  have e : ∀ x : Int, IntKind.u64.wrap x = x % 18446744073709551616 := fun x => by simp [IntKind.wrap, IntKind.bits, IntKind.signed]
  rw [e]; omega

set_option maxRecDepth 100000 in
set_option maxHeartbeats 600000 in
theorem ref17_bit (w : World) {p : Int} (p0 : 0 ≤ p) (p1 : p < 4) : Calls Try.prog 54 #[.int .i64 p] w fun e w' => e = .returned (.int .u64 (bitI p)) ∧ w = w' := by
  have key : ∀ n : Nat, n < 4 → p = n → ((2 : Int) ^ n = bitI p) := by
    intro n hn e
    subst e
    rcases (show n = 0 ∨ n = 1 ∨ n = 2 ∨ n = 3 by omega) with rfl | rfl | rfl | rfl <;> decide
  obtain ⟨n, rfl⟩ : ∃ n : Nat, p = n := ⟨p.toNat, by omega⟩
  have hk := key n (by omega) rfl
  rw [← hk]
  have hn : n < 4 := by omega
  clear key hk p0 p1
  have q0 : decide ((n : Int) < 0) = false := by simp <;> omega
  have q1 : decide (63 < (n : Int)) = false := by simp; omega
  go_enter Try.func54, Try.ntmps54
  go_wp2
  go_loop [3, 4] (fun out i => ∃ j : Nat, j ≤ n ∧ i = .int .i64 j ∧ out = .int .u64 (2 ^ j)) (fun _ i => n - (intOf i).toNat)
  case atStart => exact ⟨0, Nat.zero_le _, rfl, rfl⟩
  case round =>
    obtain ⟨j, hj, rfl, rfl⟩ := hrel
    by_cases hjl : j < n
    · obtain ⟨y, hy⟩ : ∃ y : Int, 2 ^ j = y := ⟨_, rfl⟩
      have hy4 : y = 1 ∨ y = 2 ∨ y = 4 := by
        rw [← hy]
        rcases (show j = 0 ∨ j = 1 ∨ j = 2 by omega) with rfl | rfl | rfl <;> decide
      have hw := wrap_u64_small (x := 2 * y) (by omega) (by omega)
      have hy2 : (2 : Int) ^ (j + 1) = 2 * y := by rw [Int.pow_succ, hy]; omega
      rw [hy]
      clear hy hy4
      go_wp2
      go_round
      case rel => exact ⟨j + 1, by omega, by go_num, by rw [hy2]⟩
      case measure => simp [intOf]; omega
    · obtain rfl : j = n := by omega
      clear hjl hj
      go_wp2
      go_ret
      exact ⟨rfl, rfl⟩
end Go.Proofs.Ytophgiocmldliaa
