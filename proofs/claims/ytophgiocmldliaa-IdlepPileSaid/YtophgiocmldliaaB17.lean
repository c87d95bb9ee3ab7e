/- The inputs that IdlepPile answers by the page's example alone. -/
import Derived.Test.YtophgiocmldliaaA17
namespace Go.Proofs.Ytophgiocmldliaa
open Go.RowKit
set_option maxRecDepth 100000 in
set_option maxHeartbeats 600000 in
theorem idlepPile_bad (n : Int) (a : Option Addr) (len cap : Nat) (w : World) (hl : (len : Int) ≤ 9223372036854775807) (h : n < 1 ∨ 4 < n ∨ 100 < len) :
    Calls Try.prog 6 #[.int .i64 n, .slice a len cap] w (Reads (.bool true) w) := by
  have HAW := Lib.hid awake17
  by_cases h0 : n < 1
  · clear h
    go_enter Try.func6, Try.ntmps6
    go_wp2_with fail
    refine (HAW.out _).mono ?_
    rintro e w1 ⟨rfl, hk⟩
    have HK := Lib.hid hk
    clear hk
    go_wp2
    go_ret
    exact ⟨rfl, HK.out⟩
  · skip
    by_cases h1 : 4 < n
    · clear h
      go_enter Try.func6, Try.ntmps6
      go_wp2_with fail
      refine (HAW.out _).mono ?_
      rintro e w1 ⟨rfl, hk⟩
      have HK := Lib.hid hk
      clear hk
      go_wp2
      go_ret
      exact ⟨rfl, HK.out⟩
    · skip
      have h2 : 100 < len := by omega
      clear h
      go_enter Try.func6, Try.ntmps6
      go_wp2_with fail
      refine (HAW.out _).mono ?_
      rintro e w1 ⟨rfl, hk⟩
      have HK := Lib.hid hk
      clear hk
      go_wp2
      go_ret
      exact ⟨rfl, HK.out⟩
end Go.Proofs.Ytophgiocmldliaa
