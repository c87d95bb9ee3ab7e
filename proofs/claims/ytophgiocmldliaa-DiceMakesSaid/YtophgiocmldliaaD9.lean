/- The walk of DiceMakes where the config may be: configs, programs, scripts, draws. -/
import Derived.Test.YtophgiocmldliaaD8
namespace Go.Proofs.Ytophgiocmldliaa
open Go.RowKit
theorem entc_at {l : List (Int × Int)} {k : Nat} {x y : Int} (sp : List Value) (hk : k < l.length) (he : l.getD k (0, 0) = (x, y)) : (entc l ++ sp)[k * 2]? = some (.int .i64 x) ∧ (entc l ++ sp)[k * 2 + 1]? = some (.int .i64 y) := by
  have hl := entc_len l
  rw [List.getElem?_append_left (by omega), List.getElem?_append_left (by omega)]
  clear hl sp
  induction l generalizing k with
  | nil => simp at hk
  | cons a l ih =>
    cases k with
    | zero => simp at he; subst he; simp [entc]
    | succ k =>
      have h := ih (k := k) (by simpa using hk) (by simpa using he)
      simp only [entc, List.flatMap_cons] at h ⊢
      rw [show (k + 1) * 2 = k * 2 + 1 + 1 by omega]
      simpa using h
theorem D38.scr_len (s T : Int) (n : Nat) (hn : n ≤ 300) : ∀ (f : Nat) (l : List (Int × Int)) (N : Nat), l.length ≤ 300 → (D38.scr s T n f l N).1.length ≤ 300 ∧ N ≤ (D38.scr s T n f l N).2 ∧ (D38.scr s T n f l N).2 ≤ N + 3 * f
  | 0, l, N, h => ⟨h, Nat.le_refl _, Nat.le_refl _⟩
  | f + 1, l, N, h => by
    have he := D38.eEnd_le s N
    rw [D38.scr]
    split
    · have := D38.scr_len s T n hn f ((l ++ D38.run s T N).take n) (D38.eEnd s N) (by rw [List.length_take]; omega)
      omega
    · exact ⟨h, Nat.le_refl _, by omega⟩

set_option maxRecDepth 100000 in
set_option maxHeartbeats 2000000 in
theorem diceMakes_main (s p t g x0 x1 x2 : Int) (w : World) (s0 : 0 ≤ s) (s1 : s < 18446744073709551616) (h1 : x1 ≤ 300) (h2 : x2 ≤ 300) (hr : 1 ≤ p ∧ p ≤ 64 ∧ p ≤ t ∧ t ≤ 256 ∧ 1 ≤ g ∧ g ≤ 65536) :
    Calls Try.prog 3 #[.int .u64 s, cfgV p t g, .agg #[.int .i64 x0, .int .i64 x1, .int .i64 x2]] w (Reads (.bool true) w) := by
  have HAW := Lib.hid awake38
  have HR := Lib.hid (fun w => ref_right p t g w)
  rw [rightB_true hr] at HR
  have hcr := D38.config_range (s := s) (N := 0) hr
  have HR2 := Lib.hid (fun w => ref_right (D38.cP s 0 p) (D38.cT s 0 p t) (D38.cG s 0 g) w)
  rw [rightB_true (by omega)] at HR2
  have HC := Lib.hid (fun (w : World) (b : Nat) (h : Blk w b [.int .u64 (D38.at_ s 0)]) => dice_config h p t g hr)
  have HD := Lib.hid (fun (w : World) (b : Nat) (h : Blk w b [.int .u64 s, .int .i64 0]) => refd_config (N := 0) h (by decide) p t g hr)
  unfold cfgV at HR HR2 HC HD ⊢
  obtain ⟨P, hP⟩ : ∃ P, D38.cP s 0 p = P := ⟨_, rfl⟩
  obtain ⟨T, hT⟩ : ∃ T, D38.cT s 0 p t = T := ⟨_, rfl⟩
  obtain ⟨G, hG⟩ : ∃ G, D38.cG s 0 g = G := ⟨_, rfl⟩
  rw [hP, hT, hG] at HR2 HC HD hcr
  obtain ⟨r1, r2, r3, r4, r5, r6⟩ := hr
  obtain ⟨c1, c2, c3, c4, c5, c6⟩ := hcr
  clear hP hT hG
  have HZ := Lib.hid (D38.at_zero s0 s1)
  have q1 : decide (300 < x1) = false := by simp; omega
  have q2 : decide (300 < x2) = false := by simp; omega
  have q3 : decide (p < P) = false := by simp; omega
  have q4 : decide (t < T) = false := by simp; omega
  have q5 : decide (g < G) = false := by simp; omega
  go_enter Try.func3, Try.ntmps3
  go_wp2_with fail
  refine (dice_new s _).mono ?_
  rintro e w1 ⟨rfl, hb1, hk1⟩
  have HA1 : Hid (Blk w1 (w.heap.size + 1 + 1) [.int .u64 (D38.at_ s 0)]) := Lib.hid (by rw [HZ.out]; simpa using hb1)
  have HK1 : Hid (Keep [] w w1) := Lib.hid (Keep.trans (by (repeat (first | with_reducible exact Keep.refl _ _ | with_reducible exact Keep.refl _ _ | with_reducible refine Keep.drewN ?_ | with_reducible refine Keep.drew ?_ | with_reducible refine Keep.alloc ?_ | ((with_reducible refine Keep.setNew ?_ ?_); rotate_left; (simp <;> omega)) | ((with_reducible refine Keep.set ?_ ?_); rotate_left; (simp <;> done))))) hk1)
  have HM1 : Hid (Blk w1 w.heap.size [.int .i64 p, .int .i64 t, .int .i64 g]) := Lib.hid (Blk.keep (by (repeat (first | with_reducible exact Blk.new (by simp) | with_reducible apply Blk.alloc | with_reducible apply Blk.drew))) hk1 (by simp <;> omega))
  have HX1 : Hid (Blk w1 (w.heap.size + 1) [.int .i64 x0, .int .i64 x1, .int .i64 x2]) := Lib.hid (Blk.keep (by (repeat (first | with_reducible exact Blk.new (by simp) | with_reducible apply Blk.alloc | with_reducible apply Blk.drew))) hk1 (by simp <;> omega))
  have lz1 := HA1.out.lt
  have hz1 := hk1.size
  simp at hz1
  clear hb1 hk1
  have cM := HM1.out.cell
  have lM := HM1.out.lt
  have cX := HX1.out.cell
  have lX := HX1.out.lt
  have cA := HA1.out.cell
  have lA := HA1.out.lt
  go_wp2_with fail
  refine (HC.out _ _ (by (repeat (first | with_reducible exact HA1.out | with_reducible apply Blk.drewN | with_reducible apply Blk.drew | with_reducible apply Blk.alloc | with_reducible apply Blk.set | (with_reducible apply Blk.other; rotate_left; (first | assumption | (simp; omega)); rotate_right) | with_reducible rfl | rfl)))).mono ?_
  rintro e w2 ⟨rfl, hb2, hk2⟩
  have HA2 := Lib.hid hb2
  have HD2 : Hid (Blk w2 w1.heap.size [.int .u64 s, .int .i64 0]) := Lib.hid (Blk.keep (by (repeat (first | with_reducible exact Blk.new (by simp) | with_reducible apply Blk.alloc | with_reducible apply Blk.drew))) hk2 (by simp <;> omega))
  have HK2 : Hid (Keep [] w w2) := Lib.hid (Keep.trans' (by (repeat (first | with_reducible exact HK1.out | with_reducible exact Keep.refl _ _ | with_reducible refine Keep.drewN ?_ | with_reducible refine Keep.drew ?_ | with_reducible refine Keep.alloc ?_ | ((with_reducible refine Keep.setNew ?_ ?_); rotate_left; (simp <;> omega)) | ((with_reducible refine Keep.set ?_ ?_); rotate_left; (simp <;> done))))) hk2 (by simp <;> omega))
  have HM2 : Hid (Blk w2 w.heap.size [.int .i64 p, .int .i64 t, .int .i64 g]) := Lib.hid (Blk.keep (by (repeat (first | with_reducible exact HM1.out | with_reducible apply Blk.drewN | with_reducible apply Blk.drew | with_reducible apply Blk.alloc | with_reducible apply Blk.set | (with_reducible apply Blk.other; rotate_left; (first | assumption | (simp; omega)); rotate_right) | with_reducible rfl | rfl))) hk2 (by simp <;> omega))
  have HX2 : Hid (Blk w2 (w.heap.size + 1) [.int .i64 x0, .int .i64 x1, .int .i64 x2]) := Lib.hid (Blk.keep (by (repeat (first | with_reducible exact HX1.out | with_reducible apply Blk.drewN | with_reducible apply Blk.drew | with_reducible apply Blk.alloc | with_reducible apply Blk.set | (with_reducible apply Blk.other; rotate_left; (first | assumption | (simp; omega)); rotate_right) | with_reducible rfl | rfl))) hk2 (by simp <;> omega))
  clear cM lM cX lX cA lA
  have lz2 := HD2.out.lt
  have hz2 := hk2.size
  simp at hz2
  clear hb2 hk2
  have cM := HM2.out.cell
  have lM := HM2.out.lt
  have cX := HX2.out.cell
  have lX := HX2.out.lt
  have cA := HA2.out.cell
  have lA := HA2.out.lt
  have cD := HD2.out.cell
  have lD := HD2.out.lt
  go_wp2_with fail
  refine (HR.out _).mono ?_
  rintro e w3 ⟨rfl, hk3⟩
  have HK3 : Hid (Keep [] w w3) := Lib.hid (Keep.trans (by (repeat (first | with_reducible exact HK2.out | with_reducible exact Keep.refl _ _ | with_reducible refine Keep.drewN ?_ | with_reducible refine Keep.drew ?_ | with_reducible refine Keep.alloc ?_ | ((with_reducible refine Keep.setNew ?_ ?_); rotate_left; (simp <;> omega)) | ((with_reducible refine Keep.set ?_ ?_); rotate_left; (simp <;> done))))) hk3)
  have HC3 : Hid (Blk w3 w2.heap.size [.int .i64 P, .int .i64 T, .int .i64 G]) := Lib.hid (Blk.keep (by (repeat (first | with_reducible exact Blk.new (by simp) | with_reducible apply Blk.alloc | with_reducible apply Blk.drew))) hk3 (by simp <;> omega))
  have HM3 : Hid (Blk w3 w.heap.size [.int .i64 p, .int .i64 t, .int .i64 g]) := Lib.hid (Blk.keep (by (repeat (first | with_reducible exact HM2.out | with_reducible apply Blk.drewN | with_reducible apply Blk.drew | with_reducible apply Blk.alloc | with_reducible apply Blk.set | (with_reducible apply Blk.other; rotate_left; (first | assumption | (simp; omega)); rotate_right) | with_reducible rfl | rfl))) hk3 (by simp <;> omega))
  have HX3 : Hid (Blk w3 (w.heap.size + 1) [.int .i64 x0, .int .i64 x1, .int .i64 x2]) := Lib.hid (Blk.keep (by (repeat (first | with_reducible exact HX2.out | with_reducible apply Blk.drewN | with_reducible apply Blk.drew | with_reducible apply Blk.alloc | with_reducible apply Blk.set | (with_reducible apply Blk.other; rotate_left; (first | assumption | (simp; omega)); rotate_right) | with_reducible rfl | rfl))) hk3 (by simp <;> omega))
  have HA3 : Hid (Blk w3 (w.heap.size + 1 + 1) [.int .u64 (D38.at_ s (0 + 3))]) := Lib.hid (Blk.keep (by (repeat (first | with_reducible exact HA2.out | with_reducible apply Blk.drewN | with_reducible apply Blk.drew | with_reducible apply Blk.alloc | with_reducible apply Blk.set | (with_reducible apply Blk.other; rotate_left; (first | assumption | (simp; omega)); rotate_right) | with_reducible rfl | rfl))) hk3 (by simp <;> omega))
  have HD3 : Hid (Blk w3 w1.heap.size [.int .u64 s, .int .i64 0]) := Lib.hid (Blk.keep (by (repeat (first | with_reducible exact HD2.out | with_reducible apply Blk.drewN | with_reducible apply Blk.drew | with_reducible apply Blk.alloc | with_reducible apply Blk.set | (with_reducible apply Blk.other; rotate_left; (first | assumption | (simp; omega)); rotate_right) | with_reducible rfl | rfl))) hk3 (by simp <;> omega))
  clear cM lM cX lX cA lA cD lD
  have lz3 := HC3.out.lt
  have hz3 := hk3.size
  simp at hz3
  clear hk3
  have cM := HM3.out.cell
  have lM := HM3.out.lt
  have cX := HX3.out.cell
  have lX := HX3.out.lt
  have cA := HA3.out.cell
  have lA := HA3.out.lt
  have cD := HD3.out.cell
  have lD := HD3.out.lt
  have cC := HC3.out.cell
  have lC := HC3.out.lt
  go_wp2_with fail
  refine (HD.out _ _ HD3.out).mono ?_
  rintro e w4 ⟨rfl, hb4, hk4⟩
  have HD4 := Lib.hid hb4
  have HK4 : Hid (Keep [] w w4) := Lib.hid (Keep.trans' HK3.out hk4 (by simp <;> omega))
  have HM4 : Hid (Blk w4 w.heap.size [.int .i64 p, .int .i64 t, .int .i64 g]) := Lib.hid (Blk.keep (by (repeat (first | with_reducible exact HM3.out | with_reducible apply Blk.drewN | with_reducible apply Blk.drew | with_reducible apply Blk.alloc | with_reducible apply Blk.set | (with_reducible apply Blk.other; rotate_left; (first | assumption | (simp; omega)); rotate_right) | with_reducible rfl | rfl))) hk4 (by simp <;> omega))
  have HX4 : Hid (Blk w4 (w.heap.size + 1) [.int .i64 x0, .int .i64 x1, .int .i64 x2]) := Lib.hid (Blk.keep (by (repeat (first | with_reducible exact HX3.out | with_reducible apply Blk.drewN | with_reducible apply Blk.drew | with_reducible apply Blk.alloc | with_reducible apply Blk.set | (with_reducible apply Blk.other; rotate_left; (first | assumption | (simp; omega)); rotate_right) | with_reducible rfl | rfl))) hk4 (by simp <;> omega))
  have HA4 : Hid (Blk w4 (w.heap.size + 1 + 1) [.int .u64 (D38.at_ s (0 + 3))]) := Lib.hid (Blk.keep (by (repeat (first | with_reducible exact HA3.out | with_reducible apply Blk.drewN | with_reducible apply Blk.drew | with_reducible apply Blk.alloc | with_reducible apply Blk.set | (with_reducible apply Blk.other; rotate_left; (first | assumption | (simp; omega)); rotate_right) | with_reducible rfl | rfl))) hk4 (by simp <;> omega))
  have HC4 : Hid (Blk w4 w2.heap.size [.int .i64 P, .int .i64 T, .int .i64 G]) := Lib.hid (Blk.keep (by (repeat (first | with_reducible exact HC3.out | with_reducible apply Blk.drewN | with_reducible apply Blk.drew | with_reducible apply Blk.alloc | with_reducible apply Blk.set | (with_reducible apply Blk.other; rotate_left; (first | assumption | (simp; omega)); rotate_right) | with_reducible rfl | rfl))) hk4 (by simp <;> omega))
  clear cM lM cX lX cA lA cD lD cC lC
  have hz4 := hk4.size
  clear hb4 hk4
  have cM := HM4.out.cell
  have lM := HM4.out.lt
  have cX := HX4.out.cell
  have lX := HX4.out.lt
  have cA := HA4.out.cell
  have lA := HA4.out.lt
  have cD := HD4.out.cell
  have lD := HD4.out.lt
  have cC := HC4.out.cell
  have lC := HC4.out.lt
  go_wp2_with fail
  refine (HR2.out _).mono ?_
  rintro e w5 ⟨rfl, hk5⟩
  have HK5 : Hid (Keep [] w w5) := Lib.hid (Keep.trans (by (repeat (first | with_reducible exact HK4.out | with_reducible exact Keep.refl _ _ | with_reducible refine Keep.drewN ?_ | with_reducible refine Keep.drew ?_ | with_reducible refine Keep.alloc ?_ | ((with_reducible refine Keep.setNew ?_ ?_); rotate_left; (simp <;> omega)) | ((with_reducible refine Keep.set ?_ ?_); rotate_left; (simp <;> done))))) hk5)
  have HV5 : Hid (Blk w5 w4.heap.size [.int .i64 P, .int .i64 T, .int .i64 G]) := Lib.hid (Blk.keep (by (repeat (first | with_reducible exact Blk.new (by simp) | with_reducible apply Blk.alloc | with_reducible apply Blk.drew))) hk5 (by simp <;> omega))
  have HM5 : Hid (Blk w5 w.heap.size [.int .i64 p, .int .i64 t, .int .i64 g]) := Lib.hid (Blk.keep (by (repeat (first | with_reducible exact HM4.out | with_reducible apply Blk.drewN | with_reducible apply Blk.drew | with_reducible apply Blk.alloc | with_reducible apply Blk.set | (with_reducible apply Blk.other; rotate_left; (first | assumption | (simp; omega)); rotate_right) | with_reducible rfl | rfl))) hk5 (by simp <;> omega))
  have HX5 : Hid (Blk w5 (w.heap.size + 1) [.int .i64 x0, .int .i64 x1, .int .i64 x2]) := Lib.hid (Blk.keep (by (repeat (first | with_reducible exact HX4.out | with_reducible apply Blk.drewN | with_reducible apply Blk.drew | with_reducible apply Blk.alloc | with_reducible apply Blk.set | (with_reducible apply Blk.other; rotate_left; (first | assumption | (simp; omega)); rotate_right) | with_reducible rfl | rfl))) hk5 (by simp <;> omega))
  have HA5 : Hid (Blk w5 (w.heap.size + 1 + 1) [.int .u64 (D38.at_ s (0 + 3))]) := Lib.hid (Blk.keep (by (repeat (first | with_reducible exact HA4.out | with_reducible apply Blk.drewN | with_reducible apply Blk.drew | with_reducible apply Blk.alloc | with_reducible apply Blk.set | (with_reducible apply Blk.other; rotate_left; (first | assumption | (simp; omega)); rotate_right) | with_reducible rfl | rfl))) hk5 (by simp <;> omega))
  have HD5 : Hid (Blk w5 w1.heap.size [.int .u64 s, .int .i64 ((0 + 3 : Nat) : Int)]) := Lib.hid (Blk.keep (by (repeat (first | with_reducible exact HD4.out | with_reducible apply Blk.drewN | with_reducible apply Blk.drew | with_reducible apply Blk.alloc | with_reducible apply Blk.set | (with_reducible apply Blk.other; rotate_left; (first | assumption | (simp; omega)); rotate_right) | with_reducible rfl | rfl))) hk5 (by simp <;> omega))
  have HC5 : Hid (Blk w5 w2.heap.size [.int .i64 P, .int .i64 T, .int .i64 G]) := Lib.hid (Blk.keep (by (repeat (first | with_reducible exact HC4.out | with_reducible apply Blk.drewN | with_reducible apply Blk.drew | with_reducible apply Blk.alloc | with_reducible apply Blk.set | (with_reducible apply Blk.other; rotate_left; (first | assumption | (simp; omega)); rotate_right) | with_reducible rfl | rfl))) hk5 (by simp <;> omega))
  clear cM lM cX lX cA lA cD lD cC lC
  have lz5 := HV5.out.lt
  have hz5 := hk5.size
  simp at hz5
  clear hk5
  have cM := HM5.out.cell
  have lM := HM5.out.lt
  have cX := HX5.out.cell
  have lX := HX5.out.lt
  have cA := HA5.out.cell
  have lA := HA5.out.lt
  have cD := HD5.out.cell
  have lD := HD5.out.lt
  have cC := HC5.out.cell
  have lC := HC5.out.lt
  have cV := HV5.out.cell
  have lV := HV5.out.lt
  have HPN : Hid (D38.progsN s (clamp x0) (clamp x0).toNat (0 + 3) < 20000) := Lib.hid (by
    have h1 := (D38.progsN_le s (clamp x0) (0 + 3) (clamp x0).toNat).2
    have h2 : (clamp x0).toNat ≤ 16 := by unfold clamp; split <;> (try split) <;> omega
    omega)
  have HPA := Lib.hid (fun (w_ : World) (h : Blk w_ (w.heap.size + 1 + 1) [.int .u64 (D38.at_ s (0 + 3))]) => dice_programs h (by decide) x0)
  have HPD := Lib.hid (fun (w_ : World) (h : Blk w_ w1.heap.size [.int .u64 s, .int .i64 ((0 + 3 : Nat) : Int)]) => refd_programs h (by decide) x0)
  obtain ⟨N1, hN1⟩ : ∃ N1, D38.progsN s (clamp x0) (clamp x0).toNat (0 + 3) = N1 := ⟨_, rfl⟩
  obtain ⟨L1, hL1⟩ : ∃ L1, D38.progs s (clamp x0) (clamp x0).toNat (0 + 3) = L1 := ⟨_, rfl⟩
  rw [hN1, hL1] at HPA HPD
  rw [hN1] at HPN
  have hN1b := HPN.out
  clear hN1 hL1 HPN
  go_wp2_with fail
  have cX0 := cX 0
  have cX1 := cX 1
  have cX2 := cX 2
  simp only [List.getElem?_cons_zero, List.getElem?_cons_succ] at cX0 cX1 cX2
  clear cX cM cA cD cC cV
  go_region_held3 (fun w' => w'.cell? ⟨w.heap.size + 1, 0, none⟩ = some (.int .i64 x0)) (first | exact Blk.cell HX5.out.drew 0 | exact hk6.cell (Blk.cell HX5.out.drew 0) (Blk.lt HX5.out.drew) (by simp <;> omega) | exact hk7.cell (Blk.cell HX6.out 0) (Blk.lt HX6.out) (by simp <;> omega) | exact hk8.cell (Blk.cell HX7.out 0) (Blk.lt HX7.out) (by simp <;> omega) | go_keep) (first
    | (go_at_call 23; refine (HPA.out _ HA5.out.drew).mono ?_; rintro e w6 ⟨va, rfl, hva, hb6, hk6⟩; have hva : U64s w6 w5.heap.size va L1 := hva; have HX6 := Lib.hid (HX5.out.drew.keep hk6 (by simp <;> omega)))
    | (go_at_call 24; refine (HPD.out _ (HD5.out.drew.keep hk6 (by simp <;> omega))).mono ?_; rintro e w7 ⟨vb, rfl, hvb, hb7, hk7⟩; have HX7 := Lib.hid (HX6.out.keep hk7 (by simp <;> omega)))
    | (go_at_call 22; refine (same_u64 (hva.keep hk7 (by intro g hg hm; have := Row.at_ hva g hg; simp at hm; omega)) hvb).mono ?_; rintro e w8 ⟨rfl, hk8⟩))
  have HLO : Hid (w.heap.size + 1 + 1 ≠ w1.heap.size) := Lib.hid (by omega)
  have HK8 : Hid (Keep [] w w8) := Lib.hid (((HK5.out.drew.trans' hk6 (by simp <;> omega)).trans' hk7 (by simp <;> omega)).trans hk8)
  have HX8 : Hid (Blk w8 (w.heap.size + 1) [.int .i64 x0, .int .i64 x1, .int .i64 x2]) := Lib.hid (((HX5.out.drew.keep hk6 (by simp <;> omega)).keep hk7 (by simp <;> omega)).keep hk8 (by simp))
  have HC8 : Hid (Blk w8 w2.heap.size [.int .i64 P, .int .i64 T, .int .i64 G]) := Lib.hid (((HC5.out.drew.keep hk6 (by simp <;> omega)).keep hk7 (by simp <;> omega)).keep hk8 (by simp))
  have HV8 : Hid (Blk w8 w4.heap.size [.int .i64 P, .int .i64 T, .int .i64 G]) := Lib.hid (((HV5.out.drew.keep hk6 (by simp <;> omega)).keep hk7 (by simp <;> omega)).keep hk8 (by simp))
  have HA8 : Hid (Blk w8 (w.heap.size + 1 + 1) [.int .u64 (D38.at_ s (N1))]) := Lib.hid ((hb6.keep hk7 (by simp <;> omega)).keep hk8 (by simp))
  have HD8 : Hid (Blk w8 w1.heap.size [.int .u64 s, .int .i64 ((N1 : Nat) : Int)]) := Lib.hid (hb7.keep hk8 (by simp))
  have hz6 := hk6.size
  have hz7 := hk7.size
  have hz8 := hk8.size
  have hz56 : w5.heap.size ≤ w6.heap.size := hz6
  clear hva hvb hb6 hb7 hk6 hk7 hk8 cX0 cX1 cX2 HX6 HX7 hz6 lX lM lA lD lC lV
  have cX := HX8.out.cell
  have lX := HX8.out.lt
  have cA := HA8.out.cell
  have lA := HA8.out.lt
  have cC := HC8.out.cell
  have lC := HC8.out.lt
  have cV := HV8.out.cell
  have lV := HV8.out.lt
  have HS1 := Lib.hid (fun (w_ : World) (h : Blk w_ (w.heap.size + 1 + 1) [.int .u64 (D38.at_ s (N1))]) => dice_script h P T G (by omega) (by omega) x1 h1)
  have HS2 := Lib.hid (fun (w_ : World) (h : Blk w_ w1.heap.size [.int .u64 s, .int .i64 ((N1 : Nat) : Int)]) => refd_script h (by omega) T (by omega) (by omega) x1 h1)
  have HSL := Lib.hid (D38.scr_len s T x1.toNat (by omega) x1.toNat [] N1 (by simp))
  obtain ⟨F, hF⟩ : ∃ F, D38.scr s T x1.toNat x1.toNat [] N1 = F := ⟨_, rfl⟩
  rw [hF] at HS1 HS2 HSL
  clear hF
  obtain ⟨L2, N2⟩ := F
  simp only at HS1 HS2 HSL
  go_wp2_with fail
  refine (HS1.out _ HA8.out).mono ?_
  rintro e w9 ⟨va, rfl, hva, hb9, hk9⟩
  have HVA9 := Lib.hid hva
  have HA9 := Lib.hid hb9
  have HK9 : Hid (Keep [] w w9) := Lib.hid (HK8.out.trans' hk9 (by simp <;> omega))
  have HX9 : Hid (Blk w9 (w.heap.size + 1) [.int .i64 x0, .int .i64 x1, .int .i64 x2]) := Lib.hid (Blk.keep (by (repeat (first | with_reducible exact HX8.out | with_reducible apply Blk.drewN | with_reducible apply Blk.drew | with_reducible apply Blk.alloc | with_reducible apply Blk.set | (with_reducible apply Blk.other; rotate_left; (first | assumption | (simp; omega)); rotate_right) | with_reducible rfl | rfl))) hk9 (by simp <;> omega))
  have HC9 : Hid (Blk w9 w2.heap.size [.int .i64 P, .int .i64 T, .int .i64 G]) := Lib.hid (Blk.keep (by (repeat (first | with_reducible exact HC8.out | with_reducible apply Blk.drewN | with_reducible apply Blk.drew | with_reducible apply Blk.alloc | with_reducible apply Blk.set | (with_reducible apply Blk.other; rotate_left; (first | assumption | (simp; omega)); rotate_right) | with_reducible rfl | rfl))) hk9 (by simp <;> omega))
  have HV9 : Hid (Blk w9 w4.heap.size [.int .i64 P, .int .i64 T, .int .i64 G]) := Lib.hid (Blk.keep (by (repeat (first | with_reducible exact HV8.out | with_reducible apply Blk.drewN | with_reducible apply Blk.drew | with_reducible apply Blk.alloc | with_reducible apply Blk.set | (with_reducible apply Blk.other; rotate_left; (first | assumption | (simp; omega)); rotate_right) | with_reducible rfl | rfl))) hk9 (by simp <;> omega))
  have HD9 : Hid (Blk w9 w1.heap.size [.int .u64 s, .int .i64 ((N1 : Nat) : Int)]) := Lib.hid (Blk.keep (by (repeat (first | with_reducible exact HD8.out | with_reducible apply Blk.drewN | with_reducible apply Blk.drew | with_reducible apply Blk.alloc | with_reducible apply Blk.set | (with_reducible apply Blk.other; rotate_left; (first | assumption | (simp; omega)); rotate_right) | with_reducible rfl | rfl))) hk9 (by simp <;> omega))
  clear cX lX cA lA cC lC cV lV
  have hz9 := hk9.size
  clear hva hb9 hk9
  have cX := HX9.out.cell
  have lX := HX9.out.lt
  have cA := HA9.out.cell
  have lA := HA9.out.lt
  have cC := HC9.out.cell
  have lC := HC9.out.lt
  have cV := HV9.out.cell
  have lV := HV9.out.lt
  have cD := HD9.out.cell
  have lD := HD9.out.lt
  go_wp2_with fail
  refine (HS2.out _ HD9.out).mono ?_
  rintro e w10 ⟨vb, rfl, hvb, hb10, hk10⟩
  have HVB10 := Lib.hid hvb
  have HD10 := Lib.hid hb10
  have HK10 : Hid (Keep [] w w10) := Lib.hid (HK9.out.trans' hk10 (by simp <;> omega))
  have HVA10 := Lib.hid (Row.keep HVA9.out hk10 (by intro g hg hm; have := Row.at_ HVA9.out g hg; simp at hm; omega))
  have HX10 : Hid (Blk w10 (w.heap.size + 1) [.int .i64 x0, .int .i64 x1, .int .i64 x2]) := Lib.hid (Blk.keep (by (repeat (first | with_reducible exact HX9.out | with_reducible apply Blk.drewN | with_reducible apply Blk.drew | with_reducible apply Blk.alloc | with_reducible apply Blk.set | (with_reducible apply Blk.other; rotate_left; (first | assumption | (simp; omega)); rotate_right) | with_reducible rfl | rfl))) hk10 (by simp <;> omega))
  have HA10 : Hid (Blk w10 (w.heap.size + 1 + 1) [.int .u64 (D38.at_ s (N2))]) := Lib.hid (Blk.keep (by (repeat (first | with_reducible exact HA9.out | with_reducible apply Blk.drewN | with_reducible apply Blk.drew | with_reducible apply Blk.alloc | with_reducible apply Blk.set | (with_reducible apply Blk.other; rotate_left; (first | assumption | (simp; omega)); rotate_right) | with_reducible rfl | rfl))) hk10 (by simp <;> omega))
  clear cX lX cA lA cC lC cV lV cD lD
  have hz10 := hk10.size
  clear hvb hb10 hk10
  obtain ⟨aa, ca, rfl⟩ := Row.form HVA10.out
  obtain ⟨ab, cb, rfl⟩ := Row.form HVB10.out
  go_wp2
  go_loopw [14] (fun i wr => ∃ k : Nat, k ≤ L2.length ∧ i = .int .i64 k ∧ Keep [] w10 wr) (fun i _ => L2.length - (intOf i).toNat)
  case atStart => exact ⟨0, Nat.zero_le _, rfl, Keep.refl _ _⟩
  case round =>
    obtain ⟨k, hk, rfl, hkp⟩ := hrel
    have HKP := Lib.hid hkp
    by_cases hlt : k < L2.length
    · obtain ⟨ga, ca', sa, hva, -, hba, hca, hcm, hla⟩ := (Row.keep HVA10.out hkp (by simp)).blk (by omega)
      obtain ⟨gb, cb', sb, hvb, -, hbb, hcb, hcm2, hlb⟩ := (Row.keep HVB10.out hkp (by simp)).blk (by omega)
      simp only [Value.slice.injEq] at hva hvb
      obtain ⟨rfl, -, rfl⟩ := hva
      obtain ⟨rfl, -, rfl⟩ := hvb
      obtain ⟨⟨ek, ew⟩, he⟩ : ∃ e, L2.getD k (0, 0) = e := ⟨_, rfl⟩
      have h1 := hba.cell (k * 2)
      have h2 := hbb.cell (k * 2)
      have h1' := hba.cell (k * 2 + 1)
      have h2' := hbb.cell (k * 2 + 1)
      rw [(entc_at sa hlt he).1] at h1
      rw [(entc_at sb hlt he).1] at h2
      rw [(entc_at sa hlt he).2] at h1'
      rw [(entc_at sb hlt he).2] at h2'
      unfold maxLen at hcm
      have hkk : (k : Int) + 1 ≤ 9223372036854775807 := by omega
      have hk0 : (0 : Int) ≤ (k : Int) := by omega
      have hkl : (k : Int) < (L2.length : Int) := by omega
      clear he hba hbb hla hlb hcm hcm2 hkp
      go_wp2
      go_quiet (fail)
      go_wp2
      go_roundw
      case rel => exact ⟨k + 1, by omega, by go_num, HKP.out.drewN⟩
      case measure => simp [intOf]; omega
    · obtain rfl : k = L2.length := by omega
      clear hlt hk hkp
      have HX11 : Hid (Blk wr (w.heap.size + 1) [.int .i64 x0, .int .i64 x1, .int .i64 x2]) := Lib.hid (HX10.out.keep HKP.out (by simp))
      have HD11 : Hid (Blk wr w1.heap.size [.int .u64 s, .int .i64 N2]) := Lib.hid (HD10.out.keep HKP.out (by simp))
      have HA11 := Lib.hid (HA10.out.keep HKP.out (by simp))
      obtain ⟨m, hm⟩ : ∃ m, x2.toNat = m := ⟨_, rfl⟩
      have hm3 : m ≤ 300 := by omega
      have HM := Lib.hid hm
      have HLN := Lib.hid HSL.out.2.2
      have hN2 : N2 < 30000 := by have := HSL.out.2.2; omega
      have hwr := HKP.out.size
      have HKW : Hid (Keep [] w wr) := Lib.hid (HK10.out.trans HKP.out)
      have cX := HX11.out.cell
      have cD := HD11.out.cell
      clear hm
      obtain ⟨wo, rfl⟩ : ∃ wo : World, wo = wr := ⟨_, rfl⟩
      go_wp2
      go_loopw [15, 16] (fun v i wq => ∃ j : Nat, j ≤ m ∧ i = .int .i64 j ∧ U64s wq wo.heap.size v (D38.draws s N2 j) ∧ Keep [] wo wq) (fun _ i _ => m - (intOf i).toNat)
      case atStart => exact ⟨0, Nat.zero_le _, rfl, Row.nil (Nat.le_refl _), Keep.refl _ _⟩
      case round =>
        obtain ⟨j, hj, rfl, hv, hkq⟩ := hrel
        have hl := D38.draws_len s N2 j
        have HS := Lib.hid (show D38.draws s N2 (j + 1) = D38.draws s N2 j ++ [D38.num s (N2 + 1 + j)] from rfl)
        obtain ⟨l, hle⟩ : ∃ l, D38.draws s N2 j = l := ⟨_, rfl⟩
        rw [hle] at hv hl HS
        have HLE := Lib.hid hle
        obtain ⟨va, vcap, rfl⟩ := Row.form hv
        have HL := Lib.hid hl
        have hv' : Row 22 1 wr wo.heap.size (.slice va j vcap) j (u64c l) := by have h := hv; unfold U64s at h; rw [hl] at h; exact h
        rw [hl]
        have HV := Lib.hid hv'
        have HVB := Lib.hid (hv'.at_)
        have HKQ := Lib.hid hkq
        have HXq := Lib.hid (HX11.out.keep hkq (by simp))
        have HDq := Lib.hid (HD11.out.keep hkq (by simp))
        have cX := HXq.out.cell
        have cD := HDq.out.cell
        have cX2 := cX 2
        simp only [List.getElem?_cons_zero, List.getElem?_cons_succ] at cX2
        clear hv hv' hkq hle hl cX
        by_cases hlt : (j : Int) < x2
        · obtain ⟨x, hx⟩ : ∃ x, D38.num s (N2 + 1 + j) = x := ⟨_, rfl⟩
          have HNU : Hid (∀ w_, Calls Try.prog 26 #[.int .u64 s, .int .i64 ((N2 : Int) + 1 + (j : Int))] w_ fun e w' => e = .returned (.int .u64 x) ∧ w_ = w') := Lib.hid (fun w_ => by have h := ref_number s (N2 + 1 + j) (by omega) w_; rw [hx] at h; push_cast at h; exact h)
          rw [hx] at HS
          clear hx
          go_wp2_with fail
          refine (HNU.out _).mono ?_
          rintro e w12 ⟨rfl, rfl⟩
          go_wp2_with (at_builtin; refine wpList_append_one (es := [.int .u64 x]) (.tmp 136) (.tmp 144) row_u64 rfl rfl HV.out (by rfl) (by rfl) rfl (by simp; rfl) (by omega) (by decide) ?_)
          intro g cap w6 hrow hk6 hor
          have HK6 : Hid (Keep [] wo w6) := Lib.hid (keep_own HKQ.out hk6 (fun g hg => (HVB.out g hg).1))
          have hsn := U64s.snoc (l := l) (by rw [HL.out]; exact hrow)
          rw [← HS.out] at hsn
          have HV6 := Lib.hid hsn
          clear hrow hk6 hor hsn cD cX2
          have hjm : j < m := by have := HM.out; omega
          go_wp2
          go_roundw
          case rel => exact ⟨j + 1, by omega, by go_num, HV6.out, HK6.out⟩
          case measure => simp [intOf]; omega
        · have hjm : j = m := by have := HM.out; omega
          have HJM := Lib.hid hjm
          have q9 : decide ((j : Int) < x2) = false := by simpa using hlt
          clear hlt hjm hj
          go_wp2_with fail
          refine (HAW.out _).mono ?_
          rintro e w13 ⟨rfl, hk13⟩
          have HA13 := Lib.hid ((HA11.out.keep HKQ.out (by simp)).keep hk13 (by simp))
          have cX13 := (HXq.out.keep hk13 (by simp)).cell 2
          simp only [List.getElem?_cons_zero, List.getElem?_cons_succ] at cX13
          have HV13 := Lib.hid (HV.out.keep hk13 (by simp))
          have HVB13 := Lib.hid (HV13.out.at_)
          have HK13 : Hid (Keep [] w w13) := Lib.hid ((HKW.out.trans HKQ.out).trans hk13)
          have hz13 := hk13.size
          have HLOW : Hid (w.heap.size + 1 + 1 < wo.heap.size) := Lib.hid HA11.out.lt
          clear hk13 cD cX2
          go_wp2_with fail
          refine (dice_draws HA13.out x2 h2).mono ?_
          rintro e w14 ⟨vc, rfl, hvc, hk14⟩
          have HV14 : Hid (U64s w14 wo.heap.size (.slice va j vcap) l) := Lib.hid (by
            unfold U64s
            rw [HL.out]
            exact HV13.out.keep hk14 (by intro g hg hm; have := HVB13.out g hg; have := HLOW.out; simp at hm; omega))
          rw [HM.out, ← HJM.out, HLE.out] at hvc
          have HVC := Lib.hid hvc
          have HK14 : Hid (Keep [] w w14) := Lib.hid (HK13.out.trans' hk14 (by simp <;> omega))
          clear hvc hk14 cX13
          go_wp2_with fail
          refine (same_u64 HVC.out HV14.out).mono ?_
          rintro e w15 ⟨rfl, hk15⟩
          have HK15 := Lib.hid (HK14.out.trans hk15)
          clear hk15
          go_wp2
          go_ret
          exact ⟨rfl, HK15.out⟩

end Go.Proofs.Ytophgiocmldliaa
