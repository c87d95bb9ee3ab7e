/- The walk of DiceMakes: what is made up is what the document makes. -/
import Derived.Test.YtophgiocmldliaaD7
namespace Go.Proofs.Ytophgiocmldliaa
open Go.RowKit
theorem D38.num_first : D38.num 0 1 = 16294208416658607535 := by kernel_rfl

set_option maxRecDepth 100000 in
set_option maxHeartbeats 1000000 in
theorem awake38 (w : World) : Calls Try.prog 16 #[] w (Reads (.bool true) w) := by
  have hq : (D38.num 0 1 == 16294208416658607535) = true := by rw [D38.num_first]; rfl
  have HN := Lib.hid (fun (w : World) (b : Nat) (h : Blk w b [.int .u64 0]) => dice_next (s := 0) (N := 0) (by rw [D38.at_zero (by decide) (by decide)]; exact h))
  go_enter Try.func16, Try.ntmps16
  go_wp2_with fail
  refine (dice_new 0 _).mono ?_
  rintro e w1 ⟨rfl, hb, hk⟩
  have HB := Lib.hid hb
  have HK := Lib.hid hk
  clear hb hk
  go_wp2_with fail
  refine (HN.out _ _ HB.out).mono ?_
  rintro e w2 ⟨rfl, hb, hk⟩
  have HK2 := Lib.hid (HK.out.trans' hk (by simp))
  clear hb hk
  go_wp2
  go_ret
  exact ⟨rfl, HK2.out⟩

set_option maxRecDepth 100000 in
set_option maxHeartbeats 1000000 in
theorem dice_script_none {w : World} {b : Nat} (p T g n : Int) (t0 : T < 1) :
    Calls Try.prog 20 #[.pointer (some ⟨b, 0, none⟩), .agg #[.int .i64 p, .int .i64 T, .int .i64 g], .int .i64 n] w (Reads (.slice none 0 0) w) := by
  have hq2 : decide (T < 1) = true := by simpa using t0
  go_enter Try.func20, Try.ntmps20
  go_wp2
  go_ret
  exact ⟨rfl, Keep.alloc (Keep.refl _ _)⟩

set_option maxRecDepth 100000 in
set_option maxHeartbeats 1000000 in
theorem dice_config_no {w : World} {b : Nat} (p t g : Int) (hr : rightB p t g = false) :
    Calls Try.prog 18 #[.pointer (some ⟨b, 0, none⟩), cfgV p t g] w (Reads (.tuple #[cfgV 0 0 0, .int .i64 1]) w) := by
  have HR := Lib.hid (fun w => lay_right p t g w)
  rw [hr] at HR
  clear hr
  unfold cfgV at HR ⊢
  go_enter Try.func18, Try.ntmps18
  go_wp2_with fail
  refine (HR.out _).mono ?_
  rintro e w1 ⟨rfl, hk1⟩
  have ho1 : Blk w1 (w.heap.size + 1) [.int .i64 0, .int .i64 0, .int .i64 0] := Blk.keep (by (repeat (first | with_reducible exact Blk.new (by simp) | with_reducible apply Blk.alloc | with_reducible apply Blk.drew))) hk1 (by simp)
  have HO1 := Lib.hid ho1
  have HK1 : Hid (Keep [] w w1) := Lib.hid (Keep.trans (by (repeat (first | with_reducible exact Keep.refl _ _ | with_reducible exact Keep.refl _ _ | with_reducible refine Keep.drewN ?_ | with_reducible refine Keep.drew ?_ | with_reducible refine Keep.alloc ?_ | ((with_reducible refine Keep.setNew ?_ ?_); rotate_left; (simp <;> omega)) | ((with_reducible refine Keep.set ?_ ?_); rotate_left; (simp <;> done))))) hk1)
  have co := ho1.cell
  have fo := ho1.free
  have lo := ho1.lt
  clear hk1 ho1
  go_wp2
  have hfin : Blk (((w1.setCell ⟨w.heap.size + 1, 0, none⟩ (.int .i64 0)).setCell ⟨w.heap.size + 1, 1, none⟩ (.int .i64 0)).setCell ⟨w.heap.size + 1, 2, none⟩ (.int .i64 0)) (w.heap.size + 1) [.int .i64 0, .int .i64 0, .int .i64 0] :=
    ((HO1.out.set rfl).set rfl).set rfl
  have hk5 : Keep [] w (((w1.setCell ⟨w.heap.size + 1, 0, none⟩ (.int .i64 0)).setCell ⟨w.heap.size + 1, 1, none⟩ (.int .i64 0)).setCell ⟨w.heap.size + 1, 2, none⟩ (.int .i64 0)) :=
    ((HK1.out.setNew (by simp)).setNew (by simp)).setNew (by simp)
  generalize (((w1.setCell ⟨w.heap.size + 1, 0, none⟩ (.int .i64 0)).setCell ⟨w.heap.size + 1, 1, none⟩ (.int .i64 0)).setCell ⟨w.heap.size + 1, 2, none⟩ (.int .i64 0)) = W at *
  have cf := hfin.cell
  refine bodyPost_ret (v := .tuple #[.agg #[.int .i64 0, .int .i64 0, .int .i64 0], .int .i64 1]) (by simp [results, Try.results18, go_sem, cf]) rfl ?_
  exact ⟨rfl, hk5⟩

set_option maxRecDepth 100000 in
set_option maxHeartbeats 1000000 in
theorem diceMakes_bad (s p t g x0 x1 x2 : Int) (w : World) (h : 300 < x1 ∨ 300 < x2) :
    Calls Try.prog 3 #[.int .u64 s, cfgV p t g, .agg #[.int .i64 x0, .int .i64 x1, .int .i64 x2]] w (Reads (.bool true) w) := by
  have HAW := Lib.hid awake38
  unfold cfgV
  by_cases h1 : 300 < x1
  · have q1 : decide (300 < x1) = true := by simpa using h1
    clear h h1
    go_enter Try.func3, Try.ntmps3
    go_wp2_with fail
    refine (HAW.out _).mono ?_
    rintro e w1 ⟨rfl, hk⟩
    have HK : Hid (Keep [] w w1) := Lib.hid (Keep.trans (by (repeat (first | with_reducible exact Keep.refl _ _ | with_reducible exact Keep.refl _ _ | with_reducible refine Keep.drewN ?_ | with_reducible refine Keep.drew ?_ | with_reducible refine Keep.alloc ?_ | ((with_reducible refine Keep.setNew ?_ ?_); rotate_left; (simp <;> omega)) | ((with_reducible refine Keep.set ?_ ?_); rotate_left; (simp <;> done))))) hk)
    clear hk
    go_wp2
    go_ret
    exact ⟨rfl, HK.out⟩
  · have q1 : decide (300 < x1) = false := by simpa using h1
    have q2 : decide (300 < x2) = true := by simp; omega
    clear h h1
    go_enter Try.func3, Try.ntmps3
    go_wp2_with fail
    refine (HAW.out _).mono ?_
    rintro e w1 ⟨rfl, hk⟩
    have HK : Hid (Keep [] w w1) := Lib.hid (Keep.trans (by (repeat (first | with_reducible exact Keep.refl _ _ | with_reducible exact Keep.refl _ _ | with_reducible refine Keep.drewN ?_ | with_reducible refine Keep.drew ?_ | with_reducible refine Keep.alloc ?_ | ((with_reducible refine Keep.setNew ?_ ?_); rotate_left; (simp <;> omega)) | ((with_reducible refine Keep.set ?_ ?_); rotate_left; (simp <;> done))))) hk)
    clear hk
    go_wp2
    go_ret
    exact ⟨rfl, HK.out⟩

set_option maxRecDepth 100000 in
set_option maxHeartbeats 1000000 in
theorem diceMakes_no (s p t g x0 x1 x2 : Int) (w : World) (s0 : 0 ≤ s) (s1 : s < 18446744073709551616) (h1 : x1 ≤ 300) (h2 : x2 ≤ 300) (hr : rightB p t g = false) :
    Calls Try.prog 3 #[.int .u64 s, cfgV p t g, .agg #[.int .i64 x0, .int .i64 x1, .int .i64 x2]] w (Reads (.bool true) w) := by
  have HAW := Lib.hid awake38
  have HR := Lib.hid (fun w => ref_right p t g w)
  rw [hr] at HR
  have HC := Lib.hid (fun (w : World) (b : Nat) => dice_config_no (w := w) (b := b) p t g hr)
  unfold cfgV at HR HC ⊢
  have q1 : decide (300 < x1) = false := by simp; omega
  have q2 : decide (300 < x2) = false := by simp; omega
  clear hr
  go_enter Try.func3, Try.ntmps3
  go_wp2_with fail
  refine (dice_new s _).mono ?_
  rintro e w1 ⟨rfl, hb1, hk1⟩
  have HK1 : Hid (Keep [] w w1) := Lib.hid (Keep.trans (by (repeat (first | with_reducible exact Keep.refl _ _ | with_reducible exact Keep.refl _ _ | with_reducible refine Keep.drewN ?_ | with_reducible refine Keep.drew ?_ | with_reducible refine Keep.alloc ?_ | ((with_reducible refine Keep.setNew ?_ ?_); rotate_left; (simp <;> omega)) | ((with_reducible refine Keep.set ?_ ?_); rotate_left; (simp <;> done))))) hk1)
  have hm1 : Blk w1 w.heap.size [.int .i64 p, .int .i64 t, .int .i64 g] := Blk.keep (by (repeat (first | with_reducible exact Blk.new rfl | with_reducible apply Blk.alloc | with_reducible apply Blk.drew))) hk1 (by simp)
  have HM1 := Lib.hid hm1
  have cm := hm1.cell
  have lm := hm1.lt
  clear hb1 hk1 hm1
  go_wp2_with fail
  refine (HC.out _ _).mono ?_
  rintro e w2 ⟨rfl, hk2⟩
  have hm2 : Blk w2 w.heap.size [.int .i64 p, .int .i64 t, .int .i64 g] := Blk.keep (by (repeat (first | with_reducible exact HM1.out | with_reducible apply Blk.drewN | with_reducible apply Blk.drew | with_reducible apply Blk.alloc | with_reducible apply Blk.set | (with_reducible apply Blk.other; rotate_left; (first | assumption | (simp; omega)); rotate_right) | with_reducible rfl | rfl))) hk2 (by simp)
  have HM2 := Lib.hid hm2
  have HK2 : Hid (Keep [] w w2) := Lib.hid (Keep.trans (by (repeat (first | with_reducible exact HK1.out | with_reducible exact Keep.refl _ _ | with_reducible refine Keep.drewN ?_ | with_reducible refine Keep.drew ?_ | with_reducible refine Keep.alloc ?_ | ((with_reducible refine Keep.setNew ?_ ?_); rotate_left; (simp <;> omega)) | ((with_reducible refine Keep.set ?_ ?_); rotate_left; (simp <;> done))))) hk2)
  clear cm lm
  have cm := hm2.cell
  have lm := hm2.lt
  clear hk2 hm2
  go_wp2_with fail
  refine (HR.out _).mono ?_
  rintro e w3 ⟨rfl, hk3⟩
  have HK3 : Hid (Keep [] w w3) := Lib.hid (Keep.trans (by (repeat (first | with_reducible exact HK2.out | with_reducible exact Keep.refl _ _ | with_reducible refine Keep.drewN ?_ | with_reducible refine Keep.drew ?_ | with_reducible refine Keep.alloc ?_ | ((with_reducible refine Keep.setNew ?_ ?_); rotate_left; (simp <;> omega)) | ((with_reducible refine Keep.set ?_ ?_); rotate_left; (simp <;> done))))) hk3)
  have hc3 : Blk w3 w2.heap.size [.int .i64 0, .int .i64 0, .int .i64 0] := Blk.keep (by (repeat (first | with_reducible exact Blk.new rfl | with_reducible apply Blk.alloc | with_reducible apply Blk.drew))) hk3 (by simp)
  have HC3 := Lib.hid hc3
  clear cm lm hk3 hc3
  go_wp2_with fail
  refine (HAW.out _).mono ?_
  rintro e w4 ⟨rfl, hk4⟩
  have HK4 : Hid (Keep [] w w4) := Lib.hid (Keep.trans (by (repeat (first | with_reducible exact HK3.out | with_reducible exact Keep.refl _ _ | with_reducible refine Keep.drewN ?_ | with_reducible refine Keep.drew ?_ | with_reducible refine Keep.alloc ?_ | ((with_reducible refine Keep.setNew ?_ ?_); rotate_left; (simp <;> omega)) | ((with_reducible refine Keep.set ?_ ?_); rotate_left; (simp <;> done))))) hk4)
  have cc := (HC3.out.keep hk4 (by simp)).cell
  clear hk4
  go_wp2_with fail
  refine (dice_script_none 0 0 0 5 (by decide)).mono ?_
  rintro e w5 ⟨rfl, hk5⟩
  have HK5 : Hid (Keep [] w w5) := Lib.hid (Keep.trans (by (repeat (first | with_reducible exact HK4.out | with_reducible exact Keep.refl _ _ | with_reducible refine Keep.drewN ?_ | with_reducible refine Keep.drew ?_ | with_reducible refine Keep.alloc ?_ | ((with_reducible refine Keep.setNew ?_ ?_); rotate_left; (simp <;> omega)) | ((with_reducible refine Keep.set ?_ ?_); rotate_left; (simp <;> done))))) hk5)
  clear hk5 cc
  go_wp2
  go_ret
  exact ⟨rfl, HK5.out⟩

end Go.Proofs.Ytophgiocmldliaa
