/- DiceMakes returns true for every input: what the dice of any state make up is what the document makes of that state's numbers. No condition. -/
import Derived.Test.YtophgiocmldliaaRows
import Derived.Test.YtophgiocmldliaaD9
import Derived.Test.YtophgiocmldliaaRx
import Derived.WalkKit
namespace Go.Proofs.Ytophgiocmldliaa.diceMakes
open Go.ChangeShapes Go.WideShapes Go.ChangeAt Go.RowKit Go.Proofs.Ytophgiocmldliaa
open Go.ChangeMaps (open_string shut_string)
set_option linter.unusedVariables false

theorem own : ownKnob Try.prog.godebug = none := by kernel_rfl
theorem laidOut : laidOutB Try.prog = true := by kernel_rfl

theorem walk (a0 : Int) (a1 b1 c1 : Int) (a2_0 a2_1 a2_2 : Int) (w : World) (w0 : (Lit.int .u64 a0).wf = true) (w1a : (Lit.int .i64 a1).wf = true) (w1b : (Lit.int .i64 b1).wf = true) (w1c : (Lit.int .i64 c1).wf = true) (w2_0 : (Lit.int .i64 a2_0).wf = true) (w2_1 : (Lit.int .i64 a2_1).wf = true) (w2_2 : (Lit.int .i64 a2_2).wf = true) :
    Calls Try.prog 3 #[.int .u64 a0, .agg #[.int .i64 a1, .int .i64 b1, .int .i64 c1], .agg #[.int .i64 a2_0, .int .i64 a2_1, .int .i64 a2_2]] w fun e w' => e = .returned (.bool true) ∧ Below w.heap.size w w' := by
  have h0 := bounds_u64 w0
  have g1 := bounds_i64 w1a
  by_cases hbad : 300 < a2_1 ∨ 300 < a2_2
  · exact (diceMakes_bad a0 a1 b1 c1 a2_0 a2_1 a2_2 w hbad).mono fun e w' h => ⟨h.1, h.2.below⟩
  · by_cases hr : 1 ≤ a1 ∧ a1 ≤ 64 ∧ a1 ≤ b1 ∧ b1 ≤ 256 ∧ 1 ≤ c1 ∧ c1 ≤ 65536
    · exact (diceMakes_main a0 a1 b1 c1 a2_0 a2_1 a2_2 w h0.1 (by omega) (by omega) (by omega) hr).mono fun e w' h => ⟨h.1, h.2.below⟩
    · exact (diceMakes_no a0 a1 b1 c1 a2_0 a2_1 a2_2 w h0.1 (by omega) (by omega) (by omega) (rightB_false hr)).mono fun e w' h => ⟨h.1, h.2.below⟩

set_option maxRecDepth 100000 in
set_option maxHeartbeats 1000000 in
theorem lifted (os : Os) (started : os.Started) (H : Type) (enc : TypeId × Value → H) :
    ReturnsInHanded {} Try.checked os 3 .any (Rows.diceMakesSpec.pre6 enc Try.prog Try.f3 Rows.diceMakesRow.domain false) (Rows.diceMakesSpec.post enc Try.prog Try.f3 false true false false) := by
  refine returnsInHanded_of_change (C := Try.checked) own started (by kernel_rfl) Try.func3
    (ChangeSpec.witness6 (enc := enc) (C := Try.checked) false ⟨#[], #[.int .u64 0, .agg #[.int .i64 0, .int .i64 0, .int .i64 0], .agg #[.int .i64 0, .int .i64 0, .int .i64 0]], []⟩ 8 (by kernel_rfl) (by kernel_rfl) (by kernel_rfl) (by kernel_rfl)) ?_
  intro W base args ds gs before hval0 hW hcnd _
  have hval : ∀ (j : Nat) t v, Try.f3.params[j]? = some t → args[j]? = some v → Value.okWide Try.prog W .any base t v := hval0
  have hW' := hW
  obtain ⟨p, q, hA0, hV, rfl, hfz, hnd⟩ := hW
  have hA : DataW.TrodAll enc Try.prog W 0 (fun _ => true) true Try.f3.params.toList args.toList ds p := hA0
  rw [Try.params3] at hA hval
  obtain ⟨v0, vs0, d0, ds0, p0, q0, hargs, rfl, rfl, h0, r0⟩ := trodAll_cons hA
  obtain ⟨v1, vs1, d1, ds1, p1, q1, rfl, rfl, rfl, h1, r1⟩ := trodAll_cons r0
  obtain ⟨v2, vs2, d2, ds2, p2, q2, rfl, rfl, rfl, h2, r2⟩ := trodAll_cons r1
  obtain ⟨rfl, rfl, rfl⟩ := trodAll_nil r2
  obtain rfl : args = #[v0, v1, v2] := by cases args; simp_all
  obtain ⟨rfl, rfl⟩ := trodVars_none hV
  have k0 := h0
  have lt0 : ∀ x ∈ p0, x.block < W.heap.size := by obtain ⟨m, hm⟩ := k0; exact DataW.trod_lt m _ _ _ hm
  obtain ⟨a0, rfl, rfl, rfl, w0⟩ := open_int Try.underlying22 (hval 0 22 v0 rfl rfl) h0
  have k1 := h1
  have lt1 : ∀ x ∈ p1, x.block < W.heap.size := by obtain ⟨m, hm⟩ := k1; exact DataW.trod_lt m _ _ _ hm
  obtain ⟨a1, b1, c1, rfl, w1a, w1b, w1c⟩ := open_ints3 Try.underlying24 (by kernel_rfl) (by kernel_rfl) rfl rfl rfl Try.underlying3 Try.underlying3 Try.underlying3 (hval 1 24 v1 rfl rfl) h1
  have k2 := h2
  have lt2 : ∀ x ∈ p2, x.block < W.heap.size := by obtain ⟨m, hm⟩ := k2; exact DataW.trod_lt m _ _ _ hm
  obtain ⟨zs2, hzl2, rfl, hzw2⟩ := open_arr Try.underlying25 Try.underlying3 (by kernel_rfl) (by kernel_rfl) (hval 2 25 v2 rfl rfl) h2
  obtain ⟨a2_0, a2_1, a2_2, rfl⟩ := list3 hzl2
  have w2_0 := hzw2 a2_0 (by simp)
  have w2_1 := hzw2 a2_1 (by simp)
  have w2_2 := hzw2 a2_2 (by simp)
  clear hA0 hval0
  refine (walk a0 a1 b1 c1 a2_0 a2_1 a2_2 W w0 w1a w1b w1c w2_0 w2_1 w2_2).mono fun e W' ⟨he, bel⟩ => ?_
  subst he
  exact ⟨_, rfl, _, _, _, [], _, [], hW', trodAll_mk1 (shut_bool Try.underlying4 _), (trodAll_cons_mk (Below.trod laidOut (by kernel_rfl) (of_decide_eq_true (by kernel_rfl)) k0 bel lt0) (trodAll_cons_mk (Below.trod laidOut (by kernel_rfl) (of_decide_eq_true (by kernel_rfl)) k1 bel lt1) (trodAll_cons_mk (Below.trod laidOut (by kernel_rfl) (of_decide_eq_true (by kernel_rfl)) k2 bel lt2) trodAll_mk0))), rfl, bel.frame _, fun h => by cases h⟩

theorem over : Rows.diceMakesRow.holds Try.pinned (OpenSpec.ofChange Rows.diceMakesSpec) :=
  OpenClaim.holds_of_wide 3 Try.f3 rfl rfl rfl rfl rfl rfl rfl ⟨rfl, rfl, rfl, rfl, rfl⟩ rfl rfl rfl rfl rfl (by kernel_rfl) Try.func3 (by kernel_rfl)
    (of_decide_eq_true (by kernel_rfl)) (by unfold Func.isWrapper; first | (rw [if_pos (by decide +kernel)]; kernel_rfl) | (rw [if_neg (by decide +kernel)]; exact ⟨rfl, rfl⟩))
    (fun os started H enc _ => lifted os started H enc)

theorem proved : Rows.DiceMakesSaid := over
#print axioms proved
end Go.Proofs.Ytophgiocmldliaa.diceMakes
