/- Package idlem: how many threads are to be had. -/
import Derived.Test.YtophgiocmldliaaP18
import Derived.Test.YtophgiocmldliaaM2
namespace Go.Proofs.Ytophgiocmldliaa
open Go.RowKit

set_option maxRecDepth 100000 in
set_option maxHeartbeats 600000 in
theorem idlem_spare {w : World} {bl bm bw : Nat} {c : Cfg} {M : Mem} (hl : LayAt w bl c) (hM : MemAt w bm bw M) (x y : Int) (hx : M.peek 12 = x) (hy : M.peek 15 = y) (x0 : 0 ≤ x) (x1 : x < 2147483648) (y0 : 0 ≤ y) (y1 : y < 2147483648) :
    Calls Try.prog 44 #[.pointer (some ⟨bl, 0, none⟩), .pointer (some ⟨bm, 0, none⟩)] w (Reads (.int .i64 (c.threads + x - y)) w) := by
  have HL := Lib.hid hl
  obtain ⟨p0, p1, t0, t1, g0, g1⟩ := hl.right
  have HX := Lib.hid (mem_peek hM 12)
  have HY := Lib.hid (mem_peek hM 15)
  rw [hx] at HX
  rw [hy] at HY
  clear hl hM hx hy
  have q1 : decide (2147483648 ≤ x) = false := by simp; omega
  have q2 : decide (2147483648 ≤ y) = false := by simp; omega
  have hw1 : IntKind.i64.wrap x = x := wrap_in (by omega) (by omega)
  have hw2 : IntKind.i64.wrap y = y := wrap_in (by omega) (by omega)
  have hw3 : IntKind.i64.wrap (c.threads + x) = c.threads + x := wrap_in (by omega) (by omega)
  have hw4 : IntKind.i64.wrap (c.threads + x - y) = c.threads + x - y := wrap_in (by omega) (by omega)
  go_enter Try.func44, Try.ntmps44
  go_wp2_with fail
  refine (lay_word HL.out 12 (by decide) (by decide)).mono ?_
  rintro e w1 ⟨rfl, rfl⟩
  go_wp2_with fail
  refine HX.out.mono ?_
  rintro e w1 ⟨rfl, rfl⟩
  go_wp2_with fail
  refine (lay_word HL.out 15 (by decide) (by decide)).mono ?_
  rintro e w1 ⟨rfl, rfl⟩
  go_wp2_with fail
  refine HY.out.mono ?_
  rintro e w1 ⟨rfl, rfl⟩
  go_wp2_with fail
  refine (lay_config HL.out).mono ?_
  rintro e w1 ⟨rfl, hk⟩
  have HK := Lib.hid hk
  clear hk
  go_wp2
  go_ret
  exact ⟨rfl, HK.out⟩

end Go.Proofs.Ytophgiocmldliaa
