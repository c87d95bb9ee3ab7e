/- Configs that may be, and the layout that is made of one. -/
import Derived.Test.YtophgiocmldliaaK2
namespace Go.Proofs.Ytophgiocmldliaa
open Go.RowKit
def cfgV (p t g : Int) : Value := .agg #[.int .i64 p, .int .i64 t, .int .i64 g]
def rightB (p t g : Int) : Bool := decide (1 ≤ p ∧ p ≤ 64 ∧ p ≤ t ∧ t ≤ 256 ∧ 1 ≤ g ∧ g ≤ 65536)
def fewB (p t g : Int) : Bool := decide (1 ≤ p ∧ p ≤ 4 ∧ p ≤ t ∧ t ≤ 8 ∧ 1 ≤ g ∧ g ≤ 60)
theorem rightB_true {p t g : Int} (h : 1 ≤ p ∧ p ≤ 64 ∧ p ≤ t ∧ t ≤ 256 ∧ 1 ≤ g ∧ g ≤ 65536) : rightB p t g = true := decide_eq_true h
theorem rightB_false {p t g : Int} (h : ¬ (1 ≤ p ∧ p ≤ 64 ∧ p ≤ t ∧ t ≤ 256 ∧ 1 ≤ g ∧ g ≤ 65536)) : rightB p t g = false := decide_eq_false h
theorem fewB_true {p t g : Int} (h : 1 ≤ p ∧ p ≤ 4 ∧ p ≤ t ∧ t ≤ 8 ∧ 1 ≤ g ∧ g ≤ 60) : fewB p t g = true := decide_eq_true h
theorem fewB_false {p t g : Int} (h : ¬ (1 ≤ p ∧ p ≤ 4 ∧ p ≤ t ∧ t ≤ 8 ∧ 1 ≤ g ∧ g ≤ 60)) : fewB p t g = false := decide_eq_false h

set_option maxRecDepth 100000 in
set_option maxHeartbeats 600000 in
theorem ref_right (p t g : Int) (w : World) : Calls Try.prog 19 #[cfgV p t g] w (Reads (.bool (rightB p t g)) w) := by
  unfold cfgV
  by_cases h0 : p < 1
  · rw [rightB_false (by omega)]
    go_enter Try.func19, Try.ntmps19
    go_wp2
    go_ret
    exact ⟨rfl, by (repeat (first | with_reducible exact Keep.refl _ _ | with_reducible refine Keep.drewN ?_ | with_reducible refine Keep.drew ?_ | with_reducible refine Keep.alloc ?_ | (with_reducible refine Keep.set ?_ (by simp)) | (with_reducible refine Keep.setNew ?_ (by simp; done)) | (with_reducible refine Keep.setNew ?_ (by simp; omega))))⟩
  by_cases h1 : 64 < p
  · rw [rightB_false (by omega)]
    go_enter Try.func19, Try.ntmps19
    go_wp2
    go_ret
    exact ⟨rfl, by (repeat (first | with_reducible exact Keep.refl _ _ | with_reducible refine Keep.drewN ?_ | with_reducible refine Keep.drew ?_ | with_reducible refine Keep.alloc ?_ | (with_reducible refine Keep.set ?_ (by simp)) | (with_reducible refine Keep.setNew ?_ (by simp; done)) | (with_reducible refine Keep.setNew ?_ (by simp; omega))))⟩
  by_cases h2 : t < 1
  · rw [rightB_false (by omega)]
    go_enter Try.func19, Try.ntmps19
    go_wp2
    go_ret
    exact ⟨rfl, by (repeat (first | with_reducible exact Keep.refl _ _ | with_reducible refine Keep.drewN ?_ | with_reducible refine Keep.drew ?_ | with_reducible refine Keep.alloc ?_ | (with_reducible refine Keep.set ?_ (by simp)) | (with_reducible refine Keep.setNew ?_ (by simp; done)) | (with_reducible refine Keep.setNew ?_ (by simp; omega))))⟩
  by_cases h3 : 256 < t
  · rw [rightB_false (by omega)]
    go_enter Try.func19, Try.ntmps19
    go_wp2
    go_ret
    exact ⟨rfl, by (repeat (first | with_reducible exact Keep.refl _ _ | with_reducible refine Keep.drewN ?_ | with_reducible refine Keep.drew ?_ | with_reducible refine Keep.alloc ?_ | (with_reducible refine Keep.set ?_ (by simp)) | (with_reducible refine Keep.setNew ?_ (by simp; done)) | (with_reducible refine Keep.setNew ?_ (by simp; omega))))⟩
  by_cases h4 : g < 1
  · rw [rightB_false (by omega)]
    go_enter Try.func19, Try.ntmps19
    go_wp2
    go_ret
    exact ⟨rfl, by (repeat (first | with_reducible exact Keep.refl _ _ | with_reducible refine Keep.drewN ?_ | with_reducible refine Keep.drew ?_ | with_reducible refine Keep.alloc ?_ | (with_reducible refine Keep.set ?_ (by simp)) | (with_reducible refine Keep.setNew ?_ (by simp; done)) | (with_reducible refine Keep.setNew ?_ (by simp; omega))))⟩
  by_cases h5 : 65536 < g
  · rw [rightB_false (by omega)]
    go_enter Try.func19, Try.ntmps19
    go_wp2
    go_ret
    exact ⟨rfl, by (repeat (first | with_reducible exact Keep.refl _ _ | with_reducible refine Keep.drewN ?_ | with_reducible refine Keep.drew ?_ | with_reducible refine Keep.alloc ?_ | (with_reducible refine Keep.set ?_ (by simp)) | (with_reducible refine Keep.setNew ?_ (by simp; done)) | (with_reducible refine Keep.setNew ?_ (by simp; omega))))⟩
  by_cases h6 : t < p
  · rw [rightB_false (by omega)]
    have hz : decide (p ≤ t) = false := by simp; omega
    go_enter Try.func19, Try.ntmps19
    go_wp2
    go_ret
    exact ⟨rfl, by (repeat (first | with_reducible exact Keep.refl _ _ | with_reducible refine Keep.drewN ?_ | with_reducible refine Keep.drew ?_ | with_reducible refine Keep.alloc ?_ | (with_reducible refine Keep.set ?_ (by simp)) | (with_reducible refine Keep.setNew ?_ (by simp; done)) | (with_reducible refine Keep.setNew ?_ (by simp; omega))))⟩
  rw [rightB_true (by omega)]
  have hz : decide (p ≤ t) = true := by simp; omega
  go_enter Try.func19, Try.ntmps19
  go_wp2
  go_ret
  exact ⟨rfl, by (repeat (first | with_reducible exact Keep.refl _ _ | with_reducible refine Keep.drewN ?_ | with_reducible refine Keep.drew ?_ | with_reducible refine Keep.alloc ?_ | (with_reducible refine Keep.set ?_ (by simp)) | (with_reducible refine Keep.setNew ?_ (by simp; done)) | (with_reducible refine Keep.setNew ?_ (by simp; omega))))⟩

set_option maxRecDepth 100000 in
set_option maxHeartbeats 600000 in
theorem lay_right (p t g : Int) (w : World) : Calls Try.prog 109 #[cfgV p t g] w (Reads (.bool (rightB p t g)) w) := by
  unfold cfgV
  by_cases h0 : p < 1
  · rw [rightB_false (by omega)]
    go_enter Try.func109, Try.ntmps109
    go_wp2
    go_ret
    exact ⟨rfl, by (repeat (first | with_reducible exact Keep.refl _ _ | with_reducible refine Keep.drewN ?_ | with_reducible refine Keep.drew ?_ | with_reducible refine Keep.alloc ?_ | (with_reducible refine Keep.set ?_ (by simp)) | (with_reducible refine Keep.setNew ?_ (by simp; done)) | (with_reducible refine Keep.setNew ?_ (by simp; omega))))⟩
  by_cases h1 : 64 < p
  · rw [rightB_false (by omega)]
    go_enter Try.func109, Try.ntmps109
    go_wp2
    go_ret
    exact ⟨rfl, by (repeat (first | with_reducible exact Keep.refl _ _ | with_reducible refine Keep.drewN ?_ | with_reducible refine Keep.drew ?_ | with_reducible refine Keep.alloc ?_ | (with_reducible refine Keep.set ?_ (by simp)) | (with_reducible refine Keep.setNew ?_ (by simp; done)) | (with_reducible refine Keep.setNew ?_ (by simp; omega))))⟩
  by_cases h2 : t < p
  · rw [rightB_false (by omega)]
    go_enter Try.func109, Try.ntmps109
    go_wp2
    go_ret
    exact ⟨rfl, by (repeat (first | with_reducible exact Keep.refl _ _ | with_reducible refine Keep.drewN ?_ | with_reducible refine Keep.drew ?_ | with_reducible refine Keep.alloc ?_ | (with_reducible refine Keep.set ?_ (by simp)) | (with_reducible refine Keep.setNew ?_ (by simp; done)) | (with_reducible refine Keep.setNew ?_ (by simp; omega))))⟩
  by_cases h3 : 256 < t
  · rw [rightB_false (by omega)]
    go_enter Try.func109, Try.ntmps109
    go_wp2
    go_ret
    exact ⟨rfl, by (repeat (first | with_reducible exact Keep.refl _ _ | with_reducible refine Keep.drewN ?_ | with_reducible refine Keep.drew ?_ | with_reducible refine Keep.alloc ?_ | (with_reducible refine Keep.set ?_ (by simp)) | (with_reducible refine Keep.setNew ?_ (by simp; done)) | (with_reducible refine Keep.setNew ?_ (by simp; omega))))⟩
  by_cases h4 : g < 1
  · rw [rightB_false (by omega)]
    go_enter Try.func109, Try.ntmps109
    go_wp2
    go_ret
    exact ⟨rfl, by (repeat (first | with_reducible exact Keep.refl _ _ | with_reducible refine Keep.drewN ?_ | with_reducible refine Keep.drew ?_ | with_reducible refine Keep.alloc ?_ | (with_reducible refine Keep.set ?_ (by simp)) | (with_reducible refine Keep.setNew ?_ (by simp; done)) | (with_reducible refine Keep.setNew ?_ (by simp; omega))))⟩
  by_cases h5 : 65536 < g
  · rw [rightB_false (by omega)]
    have hz : decide (g ≤ 65536) = false := by simp; omega
    go_enter Try.func109, Try.ntmps109
    go_wp2
    go_ret
    exact ⟨rfl, by (repeat (first | with_reducible exact Keep.refl _ _ | with_reducible refine Keep.drewN ?_ | with_reducible refine Keep.drew ?_ | with_reducible refine Keep.alloc ?_ | (with_reducible refine Keep.set ?_ (by simp)) | (with_reducible refine Keep.setNew ?_ (by simp; done)) | (with_reducible refine Keep.setNew ?_ (by simp; omega))))⟩
  rw [rightB_true (by omega)]
  have hz : decide (g ≤ 65536) = true := by simp; omega
  go_enter Try.func109, Try.ntmps109
  go_wp2
  go_ret
  exact ⟨rfl, by (repeat (first | with_reducible exact Keep.refl _ _ | with_reducible refine Keep.drewN ?_ | with_reducible refine Keep.drew ?_ | with_reducible refine Keep.alloc ?_ | (with_reducible refine Keep.set ?_ (by simp)) | (with_reducible refine Keep.setNew ?_ (by simp; done)) | (with_reducible refine Keep.setNew ?_ (by simp; omega))))⟩

set_option maxRecDepth 100000 in
set_option maxHeartbeats 600000 in
theorem law_few (p t g : Int) (w : World) : Calls Try.prog 117 #[cfgV p t g] w (Reads (.bool (fewB p t g)) w) := by
  have HR := Lib.hid (fun w => ref_right p t g w)
  by_cases hr : 1 ≤ p ∧ p ≤ 64 ∧ p ≤ t ∧ t ≤ 256 ∧ 1 ≤ g ∧ g ≤ 65536
  · rw [rightB_true hr] at HR
    obtain ⟨a0, a1, a2, a3, a4, a5⟩ := hr
    unfold cfgV at *
    by_cases h0 : 4 < p
    · rw [fewB_false (by omega)]
      go_enter Try.func117, Try.ntmps117
      go_wp2_with fail
      refine (HR.out _).mono ?_
      rintro e w1 ⟨rfl, hk⟩
      have cb := (Blk.new (w := w) (cs := [.int .i64 p, .int .i64 t, .int .i64 g]) (T := 24) rfl).keep hk (by simp)
      have cc := cb.cell
      have HK := Lib.hid (Keep.trans (Keep.alloc (Keep.refl [] w)) hk)
      clear hk cb
      go_wp2
      go_ret
      exact ⟨rfl, HK.out⟩
    · by_cases h1 : 8 < t
      · rw [fewB_false (by omega)]
        go_enter Try.func117, Try.ntmps117
        go_wp2_with fail
        refine (HR.out _).mono ?_
        rintro e w1 ⟨rfl, hk⟩
        have cb := (Blk.new (w := w) (cs := [.int .i64 p, .int .i64 t, .int .i64 g]) (T := 24) rfl).keep hk (by simp)
        have cc := cb.cell
        have HK := Lib.hid (Keep.trans (Keep.alloc (Keep.refl [] w)) hk)
        clear hk cb
        go_wp2
        go_ret
        exact ⟨rfl, HK.out⟩
      · have e : fewB p t g = decide (g ≤ 60) := by unfold fewB; exact decide_eq_decide.2 (by omega)
        rw [e]
        clear e
        go_enter Try.func117, Try.ntmps117
        go_wp2_with fail
        refine (HR.out _).mono ?_
        rintro e w1 ⟨rfl, hk⟩
        have cb := (Blk.new (w := w) (cs := [.int .i64 p, .int .i64 t, .int .i64 g]) (T := 24) rfl).keep hk (by simp)
        have cc := cb.cell
        have HK := Lib.hid (Keep.trans (Keep.alloc (Keep.refl [] w)) hk)
        clear hk cb
        go_wp2
        go_ret
        exact ⟨rfl, HK.out⟩
  · rw [rightB_false hr] at HR
    rw [fewB_false (by omega)]
    clear hr
    unfold cfgV at *
    go_enter Try.func117, Try.ntmps117
    go_wp2_with fail
    refine (HR.out _).mono ?_
    rintro e w1 ⟨rfl, hk⟩
    have HK := Lib.hid (Keep.trans (Keep.alloc (Keep.refl [] w)) hk)
    clear hk
    go_wp2
    go_ret
    exact ⟨rfl, HK.out⟩

set_option maxRecDepth 100000 in
set_option maxHeartbeats 600000 in
theorem ref_len (p t g : Int) (w : World) (h : 1 ≤ p ∧ p ≤ 64 ∧ p ≤ t ∧ t ≤ 256 ∧ 1 ≤ g ∧ g ≤ 65536) : Calls Try.prog 118 #[cfgV p t g] w (Reads (.int .i64 (20 + 264 * p + 3 * t + 2 * g)) w) := by
  obtain ⟨a0, a1, a2, a3, a4, a5⟩ := h
  unfold cfgV
  go_enter Try.func118, Try.ntmps118
  go_wp2
  go_ret
  exact ⟨rfl, by (repeat (first | with_reducible exact Keep.refl _ _ | with_reducible refine Keep.drewN ?_ | with_reducible refine Keep.drew ?_ | with_reducible refine Keep.alloc ?_ | (with_reducible refine Keep.set ?_ (by simp)) | (with_reducible refine Keep.setNew ?_ (by simp; done)) | (with_reducible refine Keep.setNew ?_ (by simp; omega))))⟩
def CfgNo (w : World) (e : Ending) (w' : World) : Prop := e = .returned (.tuple #[.pointer none, .int .i64 1]) ∧ Keep [] w w'
def CfgYes (c : Cfg) (w : World) (e : Ending) (w' : World) : Prop := ∃ bl, e = .returned (.tuple #[.pointer (some ⟨bl, 0, none⟩), .int .i64 0]) ∧ w.heap.size ≤ bl ∧ LayAt w' bl c ∧ Keep [] w w'
set_option maxRecDepth 100000 in
set_option maxHeartbeats 600000 in
theorem lay_of_no (p t g : Int) (w : World) (h : rightB p t g = false) : Calls Try.prog 119 #[cfgV p t g] w (CfgNo w) := by
  have HR := Lib.hid (fun w => lay_right p t g w)
  rw [h] at HR
  clear h
  unfold cfgV at *
  go_enter Try.func119, Try.ntmps119
  go_wp2_with fail
  refine (HR.out _).mono ?_
  rintro e w1 ⟨rfl, hk⟩
  have HK := Lib.hid (Keep.trans (Keep.alloc (Keep.refl [] w)) hk)
  clear hk
  go_wp2
  go_ret2
  exact ⟨rfl, HK.out⟩

set_option maxRecDepth 100000 in
set_option maxHeartbeats 600000 in
theorem lay_of_yes (c : Cfg) (h : c.Right) (w : World) : Calls Try.prog 119 #[cfgV c.procs c.threads c.gs] w (CfgYes c w) := by
  have HR := Lib.hid (fun w => lay_right c.procs c.threads c.gs w)
  rw [rightB_true ⟨h.p0, h.p1, h.t0, h.t1, h.g0, h.g1⟩] at HR
  have HC := Lib.hid h
  obtain ⟨p0, p1, t0, t1, g0, g1⟩ := h
  unfold cfgV at *
  go_enter Try.func119, Try.ntmps119
  go_wp2_with fail
  refine (HR.out _).mono ?_
  rintro e w1 ⟨rfl, hk⟩
  have cb := (Blk.new (w := w) (cs := [.int .i64 c.procs, .int .i64 c.threads, .int .i64 c.gs]) (T := 24) rfl).keep hk (by simp)
  have cc := cb.cell
  have lc := cb.lt
  have HK := Lib.hid (Keep.trans (Keep.alloc (Keep.refl [] w)) hk)
  have hsz := HK.out.size
  clear hk cb
  go_wp2
  refine wp_region_still_tail 11 (by kernel_rfl) (by kernel_rfl) ?_
  simp only [List.take_succ_cons, List.take_zero, List.drop_succ_cons, List.drop_zero]
  change wpStill _ _ (World.drew _) _ _ _
  repeat (first | still_step)
  try refine wpStill_nil ?_
  change wpList _ _ _ _ _ (World.drew _)
  go_wp2
  refine wp_region_still_tail 11 (by kernel_rfl) (by kernel_rfl) ?_
  simp only [List.take_succ_cons, List.take_zero, List.drop_succ_cons, List.drop_zero]
  change wpStill _ _ (World.drew _) _ _ _
  repeat (first | still_step)
  try refine wpStill_nil ?_
  change wpList _ _ _ _ _ (World.drew _)
  go_wp2
  go_ret2
  refine ⟨w1.heap.size, rfl, hsz, ⟨HC.out, ?_⟩, ?_⟩
  · refine Blk.drew (Blk.drew ?_)
    have e : c.cells = [.int .i64 c.procs, .int .i64 c.threads, .int .i64 c.gs, .int .i64 (20 + c.procs * 264), .int .i64 (20 + c.procs * 264 + c.threads * 3), .int .i64 (20 + c.procs * 264 + c.threads * 3 + c.gs * 2)] := by
      simp only [Cfg.cells, List.cons.injEq, Value.int.injEq, true_and, and_true]
      omega
    rw [e]
    exact Blk.new rfl
  · exact HK.out.trans (by (repeat (first | with_reducible exact Keep.refl _ _ | with_reducible refine Keep.drewN ?_ | with_reducible refine Keep.drew ?_ | with_reducible refine Keep.alloc ?_ | (with_reducible refine Keep.set ?_ (by simp)) | (with_reducible refine Keep.setNew ?_ (by simp; done)) | (with_reducible refine Keep.setNew ?_ (by simp; omega)))))

end Go.Proofs.Ytophgiocmldliaa