/- Package layout: which word of memory is what, said of a config as plain data. -/
import Derived.Test.YtophgiocmldliaaPm
import Derived.Test.YtophgiocmldliaaProg
import Derived.Lib.Hide
namespace Go.Proofs.Ytophgiocmldliaa
open Go.RowKit

/-- A config. -/
structure Cfg where
  procs : Int
  threads : Int
  gs : Int
structure Cfg.Right (c : Cfg) : Prop where
  p0 : 1 ≤ c.procs
  p1 : c.procs ≤ 64
  t0 : c.procs ≤ c.threads
  t1 : c.threads ≤ 256
  g0 : 1 ≤ c.gs
  g1 : c.gs ≤ 65536
def Cfg.len (c : Cfg) : Int := 20 + 264 * c.procs + 3 * c.threads + 2 * c.gs
def Cfg.proc (c : Cfg) (p f : Int) : Int := if 0 ≤ p ∧ p < c.procs then 20 + 264 * p + f else -1
def Cfg.ring (c : Cfg) (p i : Int) : Int := if 0 ≤ p ∧ p < c.procs then 28 + 264 * p + i % 256 else -1
def Cfg.thread (c : Cfg) (t f : Int) : Int := if 0 ≤ t ∧ t < c.threads then 20 + 264 * c.procs + 3 * t + f else -1
def Cfg.g (c : Cfg) (g f : Int) : Int := if 0 ≤ g ∧ g < c.gs then 20 + 264 * c.procs + 3 * c.threads + 2 * g + f else -1
def Cfg.cells (c : Cfg) : List Value := [.int .i64 c.procs, .int .i64 c.threads, .int .i64 c.gs, .int .i64 (20 + 264 * c.procs), .int .i64 (20 + 264 * c.procs + 3 * c.threads), .int .i64 (20 + 264 * c.procs + 3 * c.threads + 2 * c.gs)]
/-- The layout of the config c lies in the block bl. -/
structure LayAt (w : World) (bl : Nat) (c : Cfg) : Prop where
  right : c.Right
  blk : Blk w bl c.cells
theorem LayAt.keep {S : List Nat} {w w' : World} {bl : Nat} {c : Cfg} (h : LayAt w bl c) (k : Keep S w w') (hs : bl ∉ S) : LayAt w' bl c := ⟨h.right, h.blk.keep k hs⟩
theorem LayAt.lt {w : World} {bl : Nat} {c : Cfg} (h : LayAt w bl c) : bl < w.heap.size := h.blk.lt

/-- A function that only reads (it may make memory of its own). -/
def Reads (v : Value) (w : World) (e : Ending) (w' : World) : Prop := e = .returned v ∧ Keep [] w w'

set_option maxRecDepth 100000 in
set_option maxHeartbeats 400000 in
theorem lay_config {w : World} {bl : Nat} {c : Cfg} (hl : LayAt w bl c) :
    Calls Try.prog 135 #[.pointer (some ⟨bl, 0, none⟩)] w (Reads (.agg #[.int .i64 c.procs, .int .i64 c.threads, .int .i64 c.gs]) w) := by
  obtain ⟨_, hb⟩ := hl
  have cb := hb.cell
  have lb := hb.lt
  unfold Cfg.cells at cb
  clear hb
  go_enter Try.func135, Try.ntmps135
  go_wp2
  exact bodyPost_ret (v := .agg #[.int .i64 c.procs, .int .i64 c.threads, .int .i64 c.gs]) (by simp [results, Try.results135, go_sem]) rfl ⟨rfl, by (repeat (first | with_reducible exact Keep.refl _ _ | with_reducible refine Keep.drewN ?_ | with_reducible refine Keep.drew ?_ | with_reducible refine Keep.alloc ?_ | (with_reducible refine Keep.set ?_ (by simp)) | (with_reducible refine Keep.setNew ?_ (by simp; done)) | (with_reducible refine Keep.setNew ?_ (by simp; omega))))⟩

theorem field_cfg0 (a b d : Value) (w : World) : (Instr.field 24 (.agg #[a, b, d]) 0).run Try.prog w = .ok a w := by kernel_rfl
theorem field_cfg1 (a b d : Value) (w : World) : (Instr.field 24 (.agg #[a, b, d]) 1).run Try.prog w = .ok b w := by kernel_rfl
theorem field_cfg2 (a b d : Value) (w : World) : (Instr.field 24 (.agg #[a, b, d]) 2).run Try.prog w = .ok d w := by kernel_rfl
attribute [go_sem] field_cfg0 field_cfg1 field_cfg2

theorem ret_int {k : IntKind} {a b : Int} (h : a = b) : Ending.returned (.int k a) = Ending.returned (.int k b) := by rw [h]
set_option maxRecDepth 100000 in
set_option maxHeartbeats 400000 in
theorem place_in (first n many each field fields : Int) (w : World) (he : each = 2 ∨ each = 3) (f0 : 0 ≤ first) (f1 : first ≤ 1000000) (n0 : 0 ≤ n) (n1 : n < many) (m1 : many ≤ 100000) (d0 : 0 ≤ field) (d1 : field < fields) (d2 : fields ≤ 100) :
    Calls Try.prog 176 #[.bool true, .int .i64 first, .int .i64 n, .int .i64 many, .int .i64 each, .int .i64 field, .int .i64 fields] w fun e w' => e = .returned (.int .i64 (first + n * each + field)) ∧ w' = w := by
  rcases he with rfl | rfl
  all_goals
    go_enter Try.func176, Try.ntmps176
    go_wp2
    go_ret
    exact ⟨rfl, rfl⟩
set_option maxRecDepth 100000 in
set_option maxHeartbeats 400000 in
theorem place_out (first n many each field fields : Int) (w : World) (hn : n < 0 ∨ many ≤ n) :
    Calls Try.prog 176 #[.bool true, .int .i64 first, .int .i64 n, .int .i64 many, .int .i64 each, .int .i64 field, .int .i64 fields] w fun e w' => e = .returned (.int .i64 (-1)) ∧ w' = w := by
  by_cases h : n < 0
  · clear hn
    go_enter Try.func176, Try.ntmps176
    go_wp2
    go_ret
    exact ⟨rfl, rfl⟩
  · have h0 : 0 ≤ n := by omega
    have h1 : many ≤ n := by omega
    clear hn h
    go_enter Try.func176, Try.ntmps176
    go_wp2
    go_ret
    exact ⟨rfl, rfl⟩

set_option maxRecDepth 100000 in
set_option maxHeartbeats 400000 in
theorem lay_proc {w : World} {bl : Nat} {c : Cfg} (hl : LayAt w bl c) (p f : Int) (f0 : 0 ≤ f) (f1 : f < 8) :
    Calls Try.prog 138 #[.pointer (some ⟨bl, 0, none⟩), .int .i64 p, .int .i64 f] w (Reads (.int .i64 (c.proc p f)) w) := by
  have HL := Lib.hid hl
  obtain ⟨⟨p0, p1, t0, t1, g0, g1⟩, hb⟩ := hl
  have cb := hb.cell
  have lb := hb.lt
  unfold Cfg.cells at cb
  unfold Cfg.proc
  clear hb
  by_cases hin : 0 ≤ p ∧ p < c.procs
  · rw [if_pos hin]
    obtain ⟨h0, h1⟩ := hin
    go_enter Try.func138, Try.ntmps138
    go_wp2_with (go_at_call 135; refine (lay_config HL.out).mono ?_; rintro e w1 ⟨rfl, hk⟩; have HK := Lib.hid hk; clear hk)
    go_wp2
    go_ret
    exact ⟨by exact ret_int (by omega), by (repeat (first | with_reducible exact Keep.refl _ _ | exact HK.out | with_reducible refine Keep.drewN ?_ | with_reducible refine Keep.drew ?_ | with_reducible refine Keep.alloc ?_ | (with_reducible refine Keep.set ?_ (by simp)) | (with_reducible refine Keep.setNew ?_ (by simp; done)) | (with_reducible refine Keep.setNew ?_ (by simp; omega))))⟩
  · rw [if_neg hin]
    rcases (show c.procs ≤ p ∨ p < 0 from by omega) with h1 | h1
    · have h0 : 0 ≤ p := by omega
      clear hin
      go_enter Try.func138, Try.ntmps138
      go_wp2_with (go_at_call 135; refine (lay_config HL.out).mono ?_; rintro e w1 ⟨rfl, hk⟩; have HK := Lib.hid hk; clear hk)
      go_wp2
      go_ret
      exact ⟨rfl, by (repeat (first | with_reducible exact Keep.refl _ _ | exact HK.out | with_reducible refine Keep.drewN ?_ | with_reducible refine Keep.drew ?_ | with_reducible refine Keep.alloc ?_ | (with_reducible refine Keep.set ?_ (by simp)) | (with_reducible refine Keep.setNew ?_ (by simp; done)) | (with_reducible refine Keep.setNew ?_ (by simp; omega))))⟩
    · clear hin
      go_enter Try.func138, Try.ntmps138
      go_wp2_with (go_at_call 135; refine (lay_config HL.out).mono ?_; rintro e w1 ⟨rfl, hk⟩; have HK := Lib.hid hk; clear hk)
      go_wp2
      go_ret
      exact ⟨rfl, by (repeat (first | with_reducible exact Keep.refl _ _ | exact HK.out | with_reducible refine Keep.drewN ?_ | with_reducible refine Keep.drew ?_ | with_reducible refine Keep.alloc ?_ | (with_reducible refine Keep.set ?_ (by simp)) | (with_reducible refine Keep.setNew ?_ (by simp; done)) | (with_reducible refine Keep.setNew ?_ (by simp; omega))))⟩

set_option maxRecDepth 100000 in
set_option maxHeartbeats 400000 in
theorem lay_ring {w : World} {bl : Nat} {c : Cfg} (hl : LayAt w bl c) (p i : Int) (f0 : 0 ≤ i) (f1 : i < 18446744073709551616) :
    Calls Try.prog 145 #[.pointer (some ⟨bl, 0, none⟩), .int .i64 p, .int .u64 i] w (Reads (.int .i64 (c.ring p i)) w) := by
  have HL := Lib.hid hl
  obtain ⟨⟨p0, p1, t0, t1, g0, g1⟩, hb⟩ := hl
  have cb := hb.cell
  have lb := hb.lt
  unfold Cfg.cells at cb
  unfold Cfg.ring
  clear hb
  by_cases hin : 0 ≤ p ∧ p < c.procs
  · rw [if_pos hin]
    obtain ⟨h0, h1⟩ := hin
    go_enter Try.func145, Try.ntmps145
    go_wp2_with (go_at_call 135; refine (lay_config HL.out).mono ?_; rintro e w1 ⟨rfl, hk⟩; have HK := Lib.hid hk; clear hk)
    go_wp2
    go_ret
    exact ⟨by exact ret_int (by omega), by (repeat (first | with_reducible exact Keep.refl _ _ | exact HK.out | with_reducible refine Keep.drewN ?_ | with_reducible refine Keep.drew ?_ | with_reducible refine Keep.alloc ?_ | (with_reducible refine Keep.set ?_ (by simp)) | (with_reducible refine Keep.setNew ?_ (by simp; done)) | (with_reducible refine Keep.setNew ?_ (by simp; omega))))⟩
  · rw [if_neg hin]
    rcases (show c.procs ≤ p ∨ p < 0 from by omega) with h1 | h1
    · have h0 : 0 ≤ p := by omega
      clear hin
      go_enter Try.func145, Try.ntmps145
      go_wp2_with (go_at_call 135; refine (lay_config HL.out).mono ?_; rintro e w1 ⟨rfl, hk⟩; have HK := Lib.hid hk; clear hk)
      go_wp2
      go_ret
      exact ⟨rfl, by (repeat (first | with_reducible exact Keep.refl _ _ | exact HK.out | with_reducible refine Keep.drewN ?_ | with_reducible refine Keep.drew ?_ | with_reducible refine Keep.alloc ?_ | (with_reducible refine Keep.set ?_ (by simp)) | (with_reducible refine Keep.setNew ?_ (by simp; done)) | (with_reducible refine Keep.setNew ?_ (by simp; omega))))⟩
    · clear hin
      go_enter Try.func145, Try.ntmps145
      go_wp2_with (go_at_call 135; refine (lay_config HL.out).mono ?_; rintro e w1 ⟨rfl, hk⟩; have HK := Lib.hid hk; clear hk)
      go_wp2
      go_ret
      exact ⟨rfl, by (repeat (first | with_reducible exact Keep.refl _ _ | exact HK.out | with_reducible refine Keep.drewN ?_ | with_reducible refine Keep.drew ?_ | with_reducible refine Keep.alloc ?_ | (with_reducible refine Keep.set ?_ (by simp)) | (with_reducible refine Keep.setNew ?_ (by simp; done)) | (with_reducible refine Keep.setNew ?_ (by simp; omega))))⟩

set_option maxRecDepth 100000 in
set_option maxHeartbeats 400000 in
theorem lay_thread {w : World} {bl : Nat} {c : Cfg} (hl : LayAt w bl c) (t f : Int) (f0 : 0 ≤ f) (f1 : f < 3) :
    Calls Try.prog 183 #[.pointer (some ⟨bl, 0, none⟩), .int .i64 t, .int .i64 f] w (Reads (.int .i64 (c.thread t f)) w) := by
  have HL := Lib.hid hl
  obtain ⟨⟨p0, p1, t0, t1, g0, g1⟩, hb⟩ := hl
  have cb := hb.cell
  have lb := hb.lt
  unfold Cfg.cells at cb
  unfold Cfg.thread
  clear hb
  by_cases hin : 0 ≤ t ∧ t < c.threads
  · rw [if_pos hin]
    obtain ⟨h0, h1⟩ := hin
    go_enter Try.func183, Try.ntmps183
    go_wp2
    go_quiet (first | (go_at_call 176; refine Calls.quiet_of_same (place_in _ _ _ _ _ _ _ (by omega) (by omega) (by omega) (by omega) (by omega) (by omega) (by omega) (by omega) (by omega))) | (go_at_call 176; refine Calls.quiet_of_same (place_out _ _ _ _ _ _ _ (by omega))))
    go_wp2
    go_ret
    exact ⟨by exact ret_int (by omega), by (repeat (first | with_reducible exact Keep.refl _ _ | exact HK.out | with_reducible refine Keep.drewN ?_ | with_reducible refine Keep.drew ?_ | with_reducible refine Keep.alloc ?_ | (with_reducible refine Keep.set ?_ (by simp)) | (with_reducible refine Keep.setNew ?_ (by simp; done)) | (with_reducible refine Keep.setNew ?_ (by simp; omega))))⟩
  · rw [if_neg hin]
    rcases (show c.threads ≤ t ∨ t < 0 from by omega) with h1 | h1
    · have h0 : 0 ≤ t := by omega
      clear hin
      go_enter Try.func183, Try.ntmps183
      go_wp2
      go_quiet (first | (go_at_call 176; refine Calls.quiet_of_same (place_in _ _ _ _ _ _ _ (by omega) (by omega) (by omega) (by omega) (by omega) (by omega) (by omega) (by omega) (by omega))) | (go_at_call 176; refine Calls.quiet_of_same (place_out _ _ _ _ _ _ _ (by omega))))
      go_wp2
      go_ret
      exact ⟨rfl, by (repeat (first | with_reducible exact Keep.refl _ _ | exact HK.out | with_reducible refine Keep.drewN ?_ | with_reducible refine Keep.drew ?_ | with_reducible refine Keep.alloc ?_ | (with_reducible refine Keep.set ?_ (by simp)) | (with_reducible refine Keep.setNew ?_ (by simp; done)) | (with_reducible refine Keep.setNew ?_ (by simp; omega))))⟩
    · clear hin
      go_enter Try.func183, Try.ntmps183
      go_wp2
      go_quiet (first | (go_at_call 176; refine Calls.quiet_of_same (place_in _ _ _ _ _ _ _ (by omega) (by omega) (by omega) (by omega) (by omega) (by omega) (by omega) (by omega) (by omega))) | (go_at_call 176; refine Calls.quiet_of_same (place_out _ _ _ _ _ _ _ (by omega))))
      go_wp2
      go_ret
      exact ⟨rfl, by (repeat (first | with_reducible exact Keep.refl _ _ | exact HK.out | with_reducible refine Keep.drewN ?_ | with_reducible refine Keep.drew ?_ | with_reducible refine Keep.alloc ?_ | (with_reducible refine Keep.set ?_ (by simp)) | (with_reducible refine Keep.setNew ?_ (by simp; done)) | (with_reducible refine Keep.setNew ?_ (by simp; omega))))⟩

set_option maxRecDepth 100000 in
set_option maxHeartbeats 400000 in
theorem lay_g {w : World} {bl : Nat} {c : Cfg} (hl : LayAt w bl c) (g f : Int) (f0 : 0 ≤ f) (f1 : f < 2) :
    Calls Try.prog 142 #[.pointer (some ⟨bl, 0, none⟩), .int .i64 g, .int .i64 f] w (Reads (.int .i64 (c.g g f)) w) := by
  have HL := Lib.hid hl
  obtain ⟨⟨p0, p1, t0, t1, g0, g1⟩, hb⟩ := hl
  have cb := hb.cell
  have lb := hb.lt
  unfold Cfg.cells at cb
  unfold Cfg.g
  clear hb
  by_cases hin : 0 ≤ g ∧ g < c.gs
  · rw [if_pos hin]
    obtain ⟨h0, h1⟩ := hin
    go_enter Try.func142, Try.ntmps142
    go_wp2
    go_quiet (first | (go_at_call 176; refine Calls.quiet_of_same (place_in _ _ _ _ _ _ _ (by omega) (by omega) (by omega) (by omega) (by omega) (by omega) (by omega) (by omega) (by omega))) | (go_at_call 176; refine Calls.quiet_of_same (place_out _ _ _ _ _ _ _ (by omega))))
    go_wp2
    go_ret
    exact ⟨by exact ret_int (by omega), by (repeat (first | with_reducible exact Keep.refl _ _ | exact HK.out | with_reducible refine Keep.drewN ?_ | with_reducible refine Keep.drew ?_ | with_reducible refine Keep.alloc ?_ | (with_reducible refine Keep.set ?_ (by simp)) | (with_reducible refine Keep.setNew ?_ (by simp; done)) | (with_reducible refine Keep.setNew ?_ (by simp; omega))))⟩
  · rw [if_neg hin]
    rcases (show c.gs ≤ g ∨ g < 0 from by omega) with h1 | h1
    · have h0 : 0 ≤ g := by omega
      clear hin
      go_enter Try.func142, Try.ntmps142
      go_wp2
      go_quiet (first | (go_at_call 176; refine Calls.quiet_of_same (place_in _ _ _ _ _ _ _ (by omega) (by omega) (by omega) (by omega) (by omega) (by omega) (by omega) (by omega) (by omega))) | (go_at_call 176; refine Calls.quiet_of_same (place_out _ _ _ _ _ _ _ (by omega))))
      go_wp2
      go_ret
      exact ⟨rfl, by (repeat (first | with_reducible exact Keep.refl _ _ | exact HK.out | with_reducible refine Keep.drewN ?_ | with_reducible refine Keep.drew ?_ | with_reducible refine Keep.alloc ?_ | (with_reducible refine Keep.set ?_ (by simp)) | (with_reducible refine Keep.setNew ?_ (by simp; done)) | (with_reducible refine Keep.setNew ?_ (by simp; omega))))⟩
    · clear hin
      go_enter Try.func142, Try.ntmps142
      go_wp2
      go_quiet (first | (go_at_call 176; refine Calls.quiet_of_same (place_in _ _ _ _ _ _ _ (by omega) (by omega) (by omega) (by omega) (by omega) (by omega) (by omega) (by omega) (by omega))) | (go_at_call 176; refine Calls.quiet_of_same (place_out _ _ _ _ _ _ _ (by omega))))
      go_wp2
      go_ret
      exact ⟨rfl, by (repeat (first | with_reducible exact Keep.refl _ _ | exact HK.out | with_reducible refine Keep.drewN ?_ | with_reducible refine Keep.drew ?_ | with_reducible refine Keep.alloc ?_ | (with_reducible refine Keep.set ?_ (by simp)) | (with_reducible refine Keep.setNew ?_ (by simp; done)) | (with_reducible refine Keep.setNew ?_ (by simp; omega))))⟩

set_option maxRecDepth 100000 in
set_option maxHeartbeats 400000 in
theorem lay_word {w : World} {bl : Nat} {c : Cfg} (_hl : LayAt w bl c) (k : Int) (h0 : 6 ≤ k) (h1 : k ≤ 19) :
    Calls Try.prog 132 #[.pointer (some ⟨bl, 0, none⟩), .int .i64 k] w fun e w' => e = .returned (.int .i64 k) ∧ w = w' := by
  go_enter Try.func132, Try.ntmps132
  go_wp2
  go_ret
  exact ⟨rfl, rfl⟩

set_option maxRecDepth 100000 in
set_option maxHeartbeats 400000 in
theorem lay_ticket {w : World} {bl : Nat} {c : Cfg} (_hl : LayAt w bl c) (k : Int) (h0 : 0 ≤ k) (h1 : k < 2) :
    Calls Try.prog 125 #[.pointer (some ⟨bl, 0, none⟩), .int .i64 k] w fun e w' => e = .returned (.int .i64 (3 * k)) ∧ w = w' := by
  go_enter Try.func125, Try.ntmps125
  go_wp2
  go_ret
  exact ⟨ret_int (by omega), rfl⟩

set_option maxRecDepth 100000 in
set_option maxHeartbeats 400000 in
theorem lay_serving {w : World} {bl : Nat} {c : Cfg} (_hl : LayAt w bl c) (k : Int) (h0 : 0 ≤ k) (h1 : k < 2) :
    Calls Try.prog 177 #[.pointer (some ⟨bl, 0, none⟩), .int .i64 k] w fun e w' => e = .returned (.int .i64 (3 * k + 1)) ∧ w = w' := by
  go_enter Try.func177, Try.ntmps177
  go_wp2
  go_ret
  exact ⟨ret_int (by omega), rfl⟩

set_option maxRecDepth 100000 in
set_option maxHeartbeats 400000 in
theorem lay_owner {w : World} {bl : Nat} {c : Cfg} (_hl : LayAt w bl c) (k : Int) (h0 : 0 ≤ k) (h1 : k < 2) :
    Calls Try.prog 129 #[.pointer (some ⟨bl, 0, none⟩), .int .i64 k] w fun e w' => e = .returned (.int .i64 (3 * k + 2)) ∧ w = w' := by
  go_enter Try.func129, Try.ntmps129
  go_wp2
  go_ret
  exact ⟨ret_int (by omega), rfl⟩

end Go.Proofs.Ytophgiocmldliaa
