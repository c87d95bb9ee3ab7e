/- Package dice: draws; configs, of both; equal lists. -/
import Derived.Test.YtophgiocmldliaaD6
import Derived.Test.YtophgiocmldliaaG1
import Derived.Deep.RegionHeld3
namespace Go.Proofs.Ytophgiocmldliaa
open Go.RowKit
namespace D38
def draws (s : Int) (N : Nat) : Nat → List Int
  | 0 => []
  | k + 1 => draws s N k ++ [num s (N + 1 + k)]
theorem draws_len (s : Int) (N : Nat) : ∀ k, (draws s N k).length = k
  | 0 => rfl
  | k + 1 => by simp [draws, draws_len s N k]
end D38

set_option maxRecDepth 100000 in
set_option maxHeartbeats 1000000 in
theorem Keep.cell {S : List Nat} {w w' : World} (k : Keep S w w') {b o : Nat} {u : Value} (h : w.cell? ⟨b, o, none⟩ = some u) (hb : b < w.heap.size) (hs : b ∉ S) : w'.cell? ⟨b, o, none⟩ = some u := by
  rw [World.cell?_of_block (w := w) (w' := w') (k.block b hb hs)]
  exact h
theorem dice_draws {w : World} {b : Nat} {s : Int} {N : Nat} (h : Blk w b [.int .u64 (D38.at_ s N)]) (n : Int) (hn : n ≤ 300) :
    Calls Try.prog 27 #[.pointer (some ⟨b, 0, none⟩), .int .i64 n] w fun e w' => ∃ v, e = .returned v ∧ U64s w' w.heap.size v (D38.draws s N n.toNat) ∧ Keep [b] w w' := by
  have HX := Lib.hid h
  have hbw := h.lt
  clear h
  obtain ⟨m, hm⟩ : ∃ m, n.toNat = m := ⟨_, rfl⟩
  rw [hm]
  by_cases hneg : n < 0
  · have hm0 : m = 0 := by omega
    subst hm0
    clear hm
    go_enter Try.func27, Try.ntmps27
    go_wp2
    refine wp_loop_rounds 1 ?_
    rw [rounds_succ]
    go_wp2
    go_ret
    exact ⟨_, rfl, Row.nil (Nat.le_refl _), (Keep.refl _ _)⟩
  · obtain rfl : n = (m : Int) := by omega
    clear hm
    have c1 : ¬ (m : Int) < 0 := by omega
    clear hneg
    go_enter Try.func27, Try.ntmps27
    go_wp2
    go_loopw [5, 11] (fun v i wq => ∃ j : Nat, j ≤ m ∧ i = .int .i64 j ∧ U64s wq w.heap.size v (D38.draws s N j) ∧ Blk wq b [.int .u64 (D38.at_ s (N + j))] ∧ Keep [b] w wq) (fun _ i _ => m - (intOf i).toNat)
    case atStart => exact ⟨0, Nat.zero_le _, rfl, Row.nil (Nat.le_refl _), HX.out, Keep.refl _ _⟩
    case round =>
      obtain ⟨j, hj, rfl, hv, hb, hk⟩ := hrel
      have hl := D38.draws_len s N j
      have HS := Lib.hid (show D38.draws s N (j + 1) = D38.draws s N j ++ [D38.num s (N + 1 + j)] from rfl)
      obtain ⟨l, hle⟩ : ∃ l, D38.draws s N j = l := ⟨_, rfl⟩
      rw [hle] at hv hl HS
      have HLE := Lib.hid hle
      obtain ⟨va, vcap, rfl⟩ := hv.form
      have HL := Lib.hid hl
      have hv' : Row 22 1 wr w.heap.size (.slice va j vcap) j (u64c l) := by have h := hv; unfold U64s at h; rw [hl] at h; exact h
      rw [hl]
      have HV := Lib.hid hv'
      have HVB := Lib.hid (hv'.at_)
      have HB := Lib.hid hb
      have HK := Lib.hid hk
      clear hv hv' hb hk hle hl
      by_cases hlt : j < m
      · go_wp2_with fail
        refine (dice_next HB.out).mono ?_
        rintro e w1 ⟨rfl, hb1, hk1⟩
        have HB1 := Lib.hid hb1
        have HK1 := Lib.hid (HK.out.trans hk1)
        have HV1 := Lib.hid (HV.out.keep hk1 (by intro g hg hm; have := HVB.out g hg; simp only [List.mem_cons, List.not_mem_nil, or_false] at hm; omega))
        clear hb1 hk1
        obtain ⟨x, hx⟩ : ∃ x, D38.num s (N + j + 1) = x := ⟨_, rfl⟩
        rw [show N + 1 + j = N + j + 1 by omega, hx] at HS
        rw [hx]
        clear hx
        go_wp2_with (at_builtin; refine wpList_append_one (es := [.int .u64 x]) (.tmp 13) (.tmp 16) row_u64 rfl rfl HV1.out (by rfl) (by rfl) rfl (by simp; rfl) (by omega) (by decide) ?_)
        intro g cap w6 hrow hk6 hor
        have HB6 := Lib.hid (HB1.out.own hk6 (by intro g hg e; have := HV1.out.at_ g hg; omega))
        have HK6 := Lib.hid (keep_own HK1.out hk6 (fun g hg => (HV1.out.at_ g hg).1))
        have hsn := U64s.snoc (l := l) (by rw [HL.out]; exact hrow)
        rw [← HS.out] at hsn
        have HV6 := Lib.hid hsn
        clear hrow hk6 hor hsn
        go_wp2
        go_roundw
        case rel => exact ⟨j + 1, by omega, by go_num, HV6.out, HB6.out, HK6.out⟩
        case measure => simp [intOf]; omega
      · obtain rfl : j = m := by omega
        clear hlt hj
        go_wp2
        go_ret
        exact ⟨_, rfl, by rw [HLE.out]; unfold U64s; rw [HL.out]; exact HV.out, HK.out⟩

namespace D38
def cP (s : Int) (N : Nat) (p : Int) : Int := 1 + bel s N p
def cT (s : Int) (N : Nat) (p t : Int) : Int := cP s N p + bel s (N + 1) (t - cP s N p + 1)
def cG (s : Int) (N : Nat) (g : Int) : Int := 1 + bel s (N + 2) g
theorem config_range {s p t g : Int} {N : Nat} (h : 1 ≤ p ∧ p ≤ 64 ∧ p ≤ t ∧ t ≤ 256 ∧ 1 ≤ g ∧ g ≤ 65536) :
    1 ≤ cP s N p ∧ cP s N p ≤ p ∧ cP s N p ≤ cT s N p t ∧ cT s N p t ≤ t ∧ 1 ≤ cG s N g ∧ cG s N g ≤ g := by
  have h1 := bel_range s N (n := p) (by omega)
  have hp : cP s N p = 1 + bel s N p := rfl
  have h2 := bel_range s (N + 1) (n := t - cP s N p + 1) (by omega)
  have h3 := bel_range s (N + 2) (n := g) (by omega)
  have ht : cT s N p t = cP s N p + bel s (N + 1) (t - cP s N p + 1) := rfl
  have hg : cG s N g = 1 + bel s (N + 2) g := rfl
  omega
end D38

set_option maxRecDepth 100000 in
set_option maxHeartbeats 1000000 in
theorem dice_config {w : World} {b : Nat} {s : Int} {N : Nat} (h : Blk w b [.int .u64 (D38.at_ s N)]) (p t g : Int) (hr : 1 ≤ p ∧ p ≤ 64 ∧ p ≤ t ∧ t ≤ 256 ∧ 1 ≤ g ∧ g ≤ 65536) :
    Calls Try.prog 18 #[.pointer (some ⟨b, 0, none⟩), cfgV p t g] w fun e w' => e = .returned (.tuple #[cfgV (D38.cP s N p) (D38.cT s N p t) (D38.cG s N g), .int .i64 0]) ∧ Blk w' b [.int .u64 (D38.at_ s (N + 3))] ∧ Keep [b] w w' := by
  have HX := Lib.hid h
  have hbw := h.lt
  have HR := Lib.hid (fun w => lay_right p t g w)
  rw [rightB_true hr] at HR
  have hc := D38.config_range (s := s) (N := N) hr
  obtain ⟨r1, r2, r3, r4, r5, r6⟩ := hr
  have hb1 := D38.bel_range s N (n := p) (by omega)
  obtain ⟨x, hx⟩ : ∃ x, D38.bel s N p = x := ⟨_, rfl⟩
  have HP : Hid (D38.cP s N p = 1 + x) := Lib.hid (by unfold D38.cP; rw [hx])
  have hPv := HP.out
  have hb2 := D38.bel_range s (N + 1) (n := t - D38.cP s N p + 1) (by omega)
  have hT : D38.cT s N p t = D38.cP s N p + D38.bel s (N + 1) (t - D38.cP s N p + 1) := rfl
  rw [HP.out] at hb2 hT
  obtain ⟨y, hy⟩ : ∃ y, D38.bel s (N + 1) (t - (1 + x) + 1) = y := ⟨_, rfl⟩
  have hb3 := D38.bel_range s (N + 2) (n := g) (by omega)
  obtain ⟨z, hz⟩ : ∃ z, D38.bel s (N + 2) g = z := ⟨_, rfl⟩
  have hG : D38.cG s N g = 1 + z := by unfold D38.cG; rw [hz]
  rw [hx] at hb1
  rw [hy] at hb2 hT
  rw [hz] at hb3
  rw [HP.out, hT, hG]
  have x0 := hb1.1
  have x1 := hb1.2
  have y0 := hb2.1
  have y1 := hb2.2
  have z0 := hb3.1
  have z1 := hb3.2
  have HB0 := Lib.hid (fun (w : World) (h : Blk w b [.int .u64 (D38.at_ s N)]) => dice_below h p (by omega))
  rw [hx, show D38.belN N p = N + 1 by unfold D38.belN; rw [if_neg (by omega)]] at HB0
  have HB1 := Lib.hid (fun (w : World) (h : Blk w b [.int .u64 (D38.at_ s (N + 1))]) => dice_below h (t - (1 + x) + 1) (by omega))
  rw [hy, show D38.belN (N + 1) (t - (1 + x) + 1) = N + 2 by unfold D38.belN; rw [if_neg (by omega)]] at HB1
  have HB2 := Lib.hid (fun (w : World) (h : Blk w b [.int .u64 (D38.at_ s (N + 2))]) => dice_below h g (by omega))
  rw [hz, show D38.belN (N + 2) g = N + 3 by unfold D38.belN; rw [if_neg (by omega)]] at HB2
  clear h hx hy hz hb1 hb2 hb3 hT hG hPv hc HP
  unfold cfgV at HR ⊢
  go_enter Try.func18, Try.ntmps18
  go_wp2_with fail
  refine (HR.out _).mono ?_
  rintro e w1 ⟨rfl, hk1⟩
  have hc1 : Blk w1 w.heap.size [.int .i64 p, .int .i64 t, .int .i64 g] := Blk.keep (by (repeat (first | with_reducible exact Blk.new rfl | with_reducible apply Blk.alloc | with_reducible apply Blk.drew))) hk1 (by simp)
  have HC1 := Lib.hid hc1
  have HX1 : Hid (Blk w1 b [.int .u64 (D38.at_ s N)]) := Lib.hid (Blk.keep (by (repeat (first | with_reducible exact HX.out | with_reducible apply Blk.drewN | with_reducible apply Blk.drew | with_reducible apply Blk.alloc | with_reducible apply Blk.set | (with_reducible apply Blk.other; rotate_left; (first | assumption | (simp; omega)); rotate_right) | with_reducible rfl | rfl))) hk1 (by simp))
  have HO1 : Hid (Blk w1 (w.heap.size + 1) [.int .i64 0, .int .i64 0, .int .i64 0]) := Lib.hid (Blk.keep (by (repeat (first | with_reducible exact Blk.new (by simp) | with_reducible apply Blk.alloc | with_reducible apply Blk.drew))) hk1 (by simp))
  have HK1 : Hid (Keep [] w w1) := Lib.hid (Keep.trans (by (repeat (first | with_reducible exact Keep.refl _ _ | with_reducible exact Keep.refl _ _ | with_reducible refine Keep.drewN ?_ | with_reducible refine Keep.drew ?_ | with_reducible refine Keep.alloc ?_ | ((with_reducible refine Keep.setNew ?_ ?_); rotate_left; (simp <;> omega)) | ((with_reducible refine Keep.set ?_ ?_); rotate_left; (simp <;> done))))) hk1)
  have cc := hc1.cell
  clear hk1 hc1
  go_wp2_with fail
  refine (HB0.out _ HX1.out).mono ?_
  rintro e w2 ⟨rfl, hb2, hk2⟩
  have HX2 := Lib.hid hb2
  have hc2 := HC1.out.keep hk2 (by simp; omega)
  have HC2 := Lib.hid hc2
  have HO2 := Lib.hid (HO1.out.keep hk2 (by simp; omega))
  have HK2 := Lib.hid ((HK1.out.mono (S' := [b]) (by simp)).trans hk2)
  clear cc
  have cc := hc2.cell
  have hsz2 := HK2.out.size
  have hol := HO2.out.lt
  have hlt2 : w.heap.size < w2.heap.size := by omega
  have hne2 : w.heap.size ≠ w2.heap.size := by omega
  clear hb2 hk2 hc2
  go_wp2
  have hwa : IntKind.i64.wrap (t - (1 + x)) = t - (1 + x) := by rw [IntKind.wrap_i64]; omega
  have hwb : IntKind.i64.wrap (t - (1 + x) + 1) = t - (1 + x) + 1 := by rw [IntKind.wrap_i64]; omega
  have hwc : IntKind.i64.wrap (1 + x + y) = 1 + x + y := by rw [IntKind.wrap_i64]; omega
  go_region_held3 (fun w' => w'.cell? ⟨w.heap.size, 1, none⟩ = some (.int .i64 t) ∧ w'.cell? ⟨w2.heap.size, 0, none⟩ = some (.int .i64 (1 + x))) (((try dsimp only); (repeat' apply And.intro)) <;> (first | go_keep | exact hk3.cell (by simp [*]) (by simp <;> omega) (by simp <;> omega) | exact (World.cell?_setCell_other _ _ _ _ (by simp <;> omega)).trans (cm 0) | exact (World.cell?_setCell_other _ _ _ _ (by simp <;> omega)).trans (hk3.cell (Blk.cell (HC2.out.alloc).drew 1) (by simp <;> omega) (by simp <;> omega)))) ((refine (HB1.out _ (by (repeat (first | with_reducible exact HX2.out | with_reducible apply Blk.drewN | with_reducible apply Blk.drew | with_reducible apply Blk.alloc | with_reducible apply Blk.set | (with_reducible apply Blk.other; rotate_left; (first | assumption | (simp; omega)); rotate_right) | with_reducible rfl | rfl)))).mono ?_; rintro e w3 ⟨rfl, hb3, hk3⟩; have hm3 : Blk w3 w2.heap.size [.int .i64 (1 + x), .int .i64 0, .int .i64 0] := Blk.keep (by (repeat (first | with_reducible exact Blk.new (by simp) | with_reducible apply Blk.set | with_reducible apply Blk.alloc | with_reducible apply Blk.drew | with_reducible rfl))) hk3 (by simp; omega); have cm := hm3.cell; have fm := hm3.free; have lm := hm3.lt))
  clear hwa hwb hwc
  have HX3 := Lib.hid hb3
  have HM3 := Lib.hid hm3
  have HC3 : Hid (Blk w3 w.heap.size [.int .i64 p, .int .i64 t, .int .i64 g]) := Lib.hid (Blk.keep (by (repeat (first | with_reducible exact HC2.out | with_reducible apply Blk.drewN | with_reducible apply Blk.drew | with_reducible apply Blk.alloc | with_reducible apply Blk.set | (with_reducible apply Blk.other; rotate_left; (first | assumption | (simp; omega)); rotate_right) | with_reducible rfl | rfl))) hk3 (by simp; omega))
  have HO3 : Hid (Blk w3 (w.heap.size + 1) [.int .i64 0, .int .i64 0, .int .i64 0]) := Lib.hid (Blk.keep (by (repeat (first | with_reducible exact HO2.out | with_reducible apply Blk.drewN | with_reducible apply Blk.drew | with_reducible apply Blk.alloc | with_reducible apply Blk.set | (with_reducible apply Blk.other; rotate_left; (first | assumption | (simp; omega)); rotate_right) | with_reducible rfl | rfl))) hk3 (by simp; omega))
  have HK3 : Hid (Keep [b] w w3) := Lib.hid (Keep.trans (by (repeat (first | with_reducible exact HK2.out | with_reducible exact Keep.refl _ _ | with_reducible refine Keep.drewN ?_ | with_reducible refine Keep.drew ?_ | with_reducible refine Keep.alloc ?_ | ((with_reducible refine Keep.setNew ?_ ?_); rotate_left; (simp <;> omega)) | ((with_reducible refine Keep.set ?_ ?_); rotate_left; (simp <;> done))))) hk3)
  have hsz3 := hk3.size
  simp at hsz3
  clear cc
  have cc := HC3.out.cell
  clear hb3 hk3 hm3
  go_wp2_with fail
  refine (HB2.out _ (by (repeat (first | with_reducible exact HX3.out | with_reducible apply Blk.drewN | with_reducible apply Blk.drew | with_reducible apply Blk.alloc | with_reducible apply Blk.set | (with_reducible apply Blk.other; rotate_left; (first | assumption | (simp; omega)); rotate_right) | with_reducible rfl | rfl)))).mono ?_
  rintro e w4 ⟨rfl, hb4, hk4⟩
  have HX4 := Lib.hid hb4
  have hm4 : Blk w4 w2.heap.size [.int .i64 (1 + x), .int .i64 (1 + x + y), .int .i64 0] := Blk.keep (by (repeat (first | with_reducible exact HM3.out | with_reducible apply Blk.set | with_reducible apply Blk.alloc | with_reducible apply Blk.drew | with_reducible rfl | rfl))) hk4 (by simp; omega)
  have HM4 := Lib.hid hm4
  have ho4 : Blk w4 (w.heap.size + 1) [.int .i64 0, .int .i64 0, .int .i64 0] := Blk.keep (by (repeat (first | with_reducible exact HO3.out | with_reducible apply Blk.drewN | with_reducible apply Blk.drew | with_reducible apply Blk.alloc | with_reducible apply Blk.set | (with_reducible apply Blk.other; rotate_left; (first | assumption | (simp; omega)); rotate_right) | with_reducible rfl | rfl))) hk4 (by simp; omega)
  have HO4 := Lib.hid ho4
  have HK4 : Hid (Keep [b] w w4) := Lib.hid (Keep.trans (by (repeat (first | with_reducible exact HK3.out | with_reducible exact Keep.refl _ _ | with_reducible refine Keep.drewN ?_ | with_reducible refine Keep.drew ?_ | with_reducible refine Keep.alloc ?_ | ((with_reducible refine Keep.setNew ?_ ?_); rotate_left; (simp <;> omega)) | ((with_reducible refine Keep.set ?_ ?_); rotate_left; (simp <;> done))))) hk4)
  clear cm fm lm
  have cm := hm4.cell
  have fm := hm4.free
  have lm := hm4.lt
  have co := ho4.cell
  have fo := ho4.free
  have lo := ho4.lt
  clear hb4 hk4 hm4 ho4 cc
  go_wp2
  have hfin : Blk ((((w4.setCell ⟨w2.heap.size, 2, none⟩ (.int .i64 (1 + z))).setCell ⟨w.heap.size + 1, 0, none⟩ (.int .i64 (1 + x))).setCell ⟨w.heap.size + 1, 1, none⟩ (.int .i64 (1 + x + y))).setCell ⟨w.heap.size + 1, 2, none⟩ (.int .i64 (1 + z))) (w.heap.size + 1) [.int .i64 (1 + x), .int .i64 (1 + x + y), .int .i64 (1 + z)] :=
    (((HO4.out.other (by simp; omega)).set rfl).set rfl).set rfl
  have hx5 : Blk ((((w4.setCell ⟨w2.heap.size, 2, none⟩ (.int .i64 (1 + z))).setCell ⟨w.heap.size + 1, 0, none⟩ (.int .i64 (1 + x))).setCell ⟨w.heap.size + 1, 1, none⟩ (.int .i64 (1 + x + y))).setCell ⟨w.heap.size + 1, 2, none⟩ (.int .i64 (1 + z))) b [.int .u64 (D38.at_ s (N + 3))] :=
    (((HX4.out.other (by simp; omega)).other (by simp; omega)).other (by simp; omega)).other (by simp; omega)
  have hk5 : Keep [b] w ((((w4.setCell ⟨w2.heap.size, 2, none⟩ (.int .i64 (1 + z))).setCell ⟨w.heap.size + 1, 0, none⟩ (.int .i64 (1 + x))).setCell ⟨w.heap.size + 1, 1, none⟩ (.int .i64 (1 + x + y))).setCell ⟨w.heap.size + 1, 2, none⟩ (.int .i64 (1 + z))) :=
    (((HK4.out.setNew (by simp; omega)).setNew (by simp)).setNew (by simp)).setNew (by simp)
  generalize ((((w4.setCell ⟨w2.heap.size, 2, none⟩ (.int .i64 (1 + z))).setCell ⟨w.heap.size + 1, 0, none⟩ (.int .i64 (1 + x))).setCell ⟨w.heap.size + 1, 1, none⟩ (.int .i64 (1 + x + y))).setCell ⟨w.heap.size + 1, 2, none⟩ (.int .i64 (1 + z))) = W at *
  have cf := hfin.cell
  refine bodyPost_ret (v := .tuple #[.agg #[.int .i64 (1 + x), .int .i64 (1 + x + y), .int .i64 (1 + z)], .int .i64 0]) (by simp [results, Try.results18, go_sem, cf]) rfl ?_
  exact ⟨rfl, hx5, hk5⟩

set_option maxRecDepth 100000 in
set_option maxHeartbeats 1000000 in
theorem refd_config {w : World} {b : Nat} {s : Int} {N : Nat} (h : Blk w b [.int .u64 s, .int .i64 N]) (hN : N < 50000) (p t g : Int) (hr : 1 ≤ p ∧ p ≤ 64 ∧ p ≤ t ∧ t ≤ 256 ∧ 1 ≤ g ∧ g ≤ 65536) :
    Calls Try.prog 21 #[.pointer (some ⟨b, 0, none⟩), cfgV p t g] w fun e w' => e = .returned (cfgV (D38.cP s N p) (D38.cT s N p t) (D38.cG s N g)) ∧ Blk w' b [.int .u64 s, .int .i64 ((N + 3 : Nat) : Int)] ∧ Keep [b] w w' := by
  have HX := Lib.hid h
  have hbw := h.lt
  have hc := D38.config_range (s := s) (N := N) hr
  obtain ⟨r1, r2, r3, r4, r5, r6⟩ := hr
  have hb1 := D38.bel_range s N (n := p) (by omega)
  obtain ⟨x, hx⟩ : ∃ x, D38.bel s N p = x := ⟨_, rfl⟩
  have HP : Hid (D38.cP s N p = 1 + x) := Lib.hid (by unfold D38.cP; rw [hx])
  have hPv := HP.out
  have hb2 := D38.bel_range s (N + 1) (n := t - D38.cP s N p + 1) (by omega)
  have hT : D38.cT s N p t = D38.cP s N p + D38.bel s (N + 1) (t - D38.cP s N p + 1) := rfl
  rw [HP.out] at hb2 hT
  obtain ⟨y, hy⟩ : ∃ y, D38.bel s (N + 1) (t - (1 + x) + 1) = y := ⟨_, rfl⟩
  have hb3 := D38.bel_range s (N + 2) (n := g) (by omega)
  obtain ⟨z, hz⟩ : ∃ z, D38.bel s (N + 2) g = z := ⟨_, rfl⟩
  have hG : D38.cG s N g = 1 + z := by unfold D38.cG; rw [hz]
  rw [hx] at hb1
  rw [hy] at hb2 hT
  rw [hz] at hb3
  rw [HP.out, hT, hG]
  have x0 := hb1.1
  have x1 := hb1.2
  have y0 := hb2.1
  have y1 := hb2.2
  have z0 := hb3.1
  have z1 := hb3.2
  have HB0 := Lib.hid (fun (w : World) (h : Blk w b [.int .u64 s, .int .i64 N]) => refd_below h (by omega) p (by omega))
  rw [hx, show D38.belN N p = N + 1 by unfold D38.belN; rw [if_neg (by omega)]] at HB0
  have HB1 := Lib.hid (fun (w : World) (h : Blk w b [.int .u64 s, .int .i64 ((N + 1 : Nat) : Int)]) => refd_below h (by omega) (t - (1 + x) + 1) (by omega))
  rw [hy, show D38.belN (N + 1) (t - (1 + x) + 1) = N + 2 by unfold D38.belN; rw [if_neg (by omega)]] at HB1
  have HB2 := Lib.hid (fun (w : World) (h : Blk w b [.int .u64 s, .int .i64 ((N + 2 : Nat) : Int)]) => refd_below h (by omega) g (by omega))
  rw [hz, show D38.belN (N + 2) g = N + 3 by unfold D38.belN; rw [if_neg (by omega)]] at HB2
  clear h hx hy hz hb1 hb2 hb3 hT hG hPv hc HP
  unfold cfgV
  go_enter Try.func21, Try.ntmps21
  go_wp2_with fail
  refine (HB0.out _ (by (repeat (first | with_reducible exact HX.out | with_reducible apply Blk.drewN | with_reducible apply Blk.drew | with_reducible apply Blk.alloc | with_reducible apply Blk.set | (with_reducible apply Blk.other; rotate_left; (first | assumption | (simp; omega)); rotate_right) | with_reducible rfl | rfl)))).mono ?_
  rintro e w1 ⟨rfl, hb1, hk1⟩
  have hc1 : Blk w1 w.heap.size [.int .i64 p, .int .i64 t, .int .i64 g] := Blk.keep (by (repeat (first | with_reducible exact Blk.new rfl | with_reducible apply Blk.alloc | with_reducible apply Blk.drew))) hk1 (by simp; omega)
  have HC1 := Lib.hid hc1
  have HO1 : Hid (Blk w1 (w.heap.size + 1) [.int .i64 0, .int .i64 0, .int .i64 0]) := Lib.hid (Blk.keep (by (repeat (first | with_reducible exact Blk.new (by simp) | with_reducible apply Blk.alloc | with_reducible apply Blk.drew))) hk1 (by simp; omega))
  have HX1 := Lib.hid hb1
  have HK1 : Hid (Keep [b] w w1) := Lib.hid (Keep.trans (by (repeat (first | with_reducible exact Keep.refl _ _ | with_reducible exact Keep.refl _ _ | with_reducible refine Keep.drewN ?_ | with_reducible refine Keep.drew ?_ | with_reducible refine Keep.alloc ?_ | ((with_reducible refine Keep.setNew ?_ ?_); rotate_left; (simp <;> omega)) | ((with_reducible refine Keep.set ?_ ?_); rotate_left; (simp <;> done))))) hk1)
  have cc := hc1.cell
  clear hk1 hc1 hb1
  go_wp2_with fail
  refine (HB1.out _ HX1.out).mono ?_
  rintro e w2 ⟨rfl, hb2, hk2⟩
  have hc2 := HC1.out.keep hk2 (by simp; omega)
  have HC2 := Lib.hid hc2
  have HO2 := Lib.hid (HO1.out.keep hk2 (by simp; omega))
  have HX2 := Lib.hid hb2
  have HK2 := Lib.hid (HK1.out.trans hk2)
  clear cc
  have cc := hc2.cell
  clear hk2 hc2 hb2
  go_wp2_with fail
  refine (HB2.out _ HX2.out).mono ?_
  rintro e w3 ⟨rfl, hb3, hk3⟩
  have ho3 := HO2.out.keep hk3 (by simp; omega)
  have HO3 := Lib.hid ho3
  have HX3 := Lib.hid hb3
  have HK3 := Lib.hid (HK2.out.trans hk3)
  clear cc
  have co := ho3.cell
  have fo := ho3.free
  have lo := ho3.lt
  clear hk3 ho3 hb3
  go_wp2
  have hfin : Blk (((w3.setCell ⟨w.heap.size + 1, 0, none⟩ (.int .i64 (1 + x))).setCell ⟨w.heap.size + 1, 1, none⟩ (.int .i64 (1 + x + y))).setCell ⟨w.heap.size + 1, 2, none⟩ (.int .i64 (1 + z))) (w.heap.size + 1) [.int .i64 (1 + x), .int .i64 (1 + x + y), .int .i64 (1 + z)] :=
    ((HO3.out.set rfl).set rfl).set rfl
  have hx5 : Blk (((w3.setCell ⟨w.heap.size + 1, 0, none⟩ (.int .i64 (1 + x))).setCell ⟨w.heap.size + 1, 1, none⟩ (.int .i64 (1 + x + y))).setCell ⟨w.heap.size + 1, 2, none⟩ (.int .i64 (1 + z))) b [.int .u64 s, .int .i64 ((N + 3 : Nat) : Int)] :=
    ((HX3.out.other (by simp; omega)).other (by simp; omega)).other (by simp; omega)
  have hk5 : Keep [b] w (((w3.setCell ⟨w.heap.size + 1, 0, none⟩ (.int .i64 (1 + x))).setCell ⟨w.heap.size + 1, 1, none⟩ (.int .i64 (1 + x + y))).setCell ⟨w.heap.size + 1, 2, none⟩ (.int .i64 (1 + z))) :=
    ((HK3.out.setNew (by simp)).setNew (by simp)).setNew (by simp)
  generalize (((w3.setCell ⟨w.heap.size + 1, 0, none⟩ (.int .i64 (1 + x))).setCell ⟨w.heap.size + 1, 1, none⟩ (.int .i64 (1 + x + y))).setCell ⟨w.heap.size + 1, 2, none⟩ (.int .i64 (1 + z))) = W at *
  have cf := hfin.cell
  refine bodyPost_ret (v := .agg #[.int .i64 (1 + x), .int .i64 (1 + x + y), .int .i64 (1 + z)]) (by simp [results, Try.results21, go_sem, cf]) rfl ?_
  exact ⟨rfl, hx5, hk5⟩

set_option maxRecDepth 100000 in
set_option maxHeartbeats 1000000 in
theorem same_u64 {w : World} {base base' : Nat} {va vb : Value} {l : List Int} (ha : U64s w base va l) (hb : U64s w base' vb l) :
    Calls Try.prog 22 #[va, vb] w fun e w' => e = .returned (.bool true) ∧ Keep [] w w' := by
  obtain ⟨aa, ca, rfl⟩ := ha.form
  obtain ⟨ab, cb, rfl⟩ := hb.form
  have HA := Lib.hid ha
  have HB := Lib.hid hb
  clear ha hb
  go_enter Try.func22, Try.ntmps22
  go_wp2
  go_loopw [5] (fun i wr => ∃ k : Nat, k ≤ l.length ∧ i = .int .i64 k ∧ Keep [] w wr) (fun i _ => l.length - (intOf i).toNat)
  case atStart => exact ⟨0, Nat.zero_le _, rfl, Keep.refl _ _⟩
  case round =>
    obtain ⟨k, hk, rfl, hkp⟩ := hrel
    have HKP := Lib.hid hkp
    by_cases hlt : k < l.length
    · obtain ⟨ga, ca', sa, hva, -, hba, hca, hcm, hla⟩ := (HA.out.keep hkp (by simp)).blk (by omega)
      obtain ⟨gb, cb', sb, hvb, -, hbb, hcb, hcm2, hlb⟩ := (HB.out.keep hkp (by simp)).blk (by omega)
      simp only [Value.slice.injEq] at hva hvb
      obtain ⟨rfl, -, rfl⟩ := hva
      obtain ⟨rfl, -, rfl⟩ := hvb
      have h1 := hba.cell k
      have h2 := hbb.cell k
      obtain ⟨x, hx⟩ : ∃ x, l.getD k 0 = x := ⟨_, rfl⟩
      have hc : ∀ sp : List Value, (u64c l ++ sp)[k]? = some (.int .u64 x) := fun sp => by
        rw [List.getElem?_append_left (by rw [u64c_len]; exact hlt), ← hx]
        simp [u64c, List.getD_eq_getElem?_getD, List.getElem?_eq_getElem hlt]
      rw [hc] at h1 h2
      unfold maxLen at hcm
      have hkk : (k : Int) + 1 ≤ 9223372036854775807 := by omega
      clear hc hx hba hbb hla hlb hcm hcm2 hkp
      go_wp2
      go_quiet (fail)
      go_wp2
      go_roundw
      case rel => exact ⟨k + 1, by omega, by go_num, HKP.out.drewN⟩
      case measure => simp [intOf]; omega
    · obtain rfl : k = l.length := by omega
      clear hlt hk
      go_wp2
      go_ret
      exact ⟨rfl, HKP.out⟩

end Go.Proofs.Ytophgiocmldliaa
