/- The machines of package lock as kinds. -/
import Derived.Test.YtophgiocmldliaaS1
namespace Go.Proofs.Ytophgiocmldliaa
open Go.RowKit
/-- Behind a step: the machine and the memory are as told; all else is as it was. -/
def Then {Ph : Type} (Is : Ph → World → Nat → Prop) (over : Ph → Bool) (bx bm bw : Nat) (q : Ph × Mem) (w : World) (d : Bool) (w' : World) : Prop :=
  d = over q.1 ∧ Is q.1 w' bx ∧ MemAt w' bm bw q.2 ∧ Keep [bx, bm, bw] w w'
/-- A machine that runs no other. -/
def plainK {Ph : Type} (Is : Ph → World → Nat → Prop) (next : Mem → Ph → Ph × Mem) (over : Ph → Bool) (ty fn : Nat) : Kind Ph := ⟨fun ph S w b => S = [] ∧ Is ph w b, next, over, ty, fn⟩
theorem plainK_ok {Ph : Type} {Is : Ph → World → Nat → Prop} {next : Mem → Ph → Ph × Mem} {over : Ph → Bool} {ty fn bl n : Nat} {c : Cfg} (n0 : 10 ≤ n) (n1 : n < 280)
    (len : ∀ {ph w bx}, Is ph w bx → Len w bx n)
    (keep : ∀ {ph w w' bx T}, Is ph w bx → Keep T w w' → bx ∉ T → (∀ x ∈ T, Unbox w x) → Is ph w' bx)
    (state : ∀ {ph w bx}, Is ph w bx → Fl.State w bx (over ph))
    (step : ∀ {ph w bx bm bw M}, Is ph w bx → MemAt w bm bw M → LayAt w bl c → Calls Try.prog fn #[.pointer (some ⟨bx, 0, none⟩), .pointer (some ⟨bm, 0, none⟩)] w (Stepped (Then Is over bx bm bw (next M ph) w)))
    (none : ∀ {w bx} {R : Bool → World → Prop}, Calls Try.prog 127 #[.pointer (some ⟨bx, 0, none⟩), .pointer none] w (Stepped R) → Calls Try.prog fn #[.pointer (some ⟨bx, 0, none⟩), .pointer none] w (Stepped R))
    (mach : Machine0 ty fn) : (plainK Is next over ty fn).Ok bl c where
  all := by
    rintro ph S w bx ⟨rfl, h⟩ x hx
    simp only [List.mem_cons, List.not_mem_nil, or_false] at hx
    subst hx
    exact ⟨n, len h, n0, n1⟩
  nodup := by
    rintro ph S w bx ⟨rfl, h⟩
    simp
  keep := by
    rintro ph S w w' bx T ⟨rfl, h⟩ k hs hb
    exact ⟨rfl, keep h k (hs bx (by simp)) hb⟩
  state := by
    rintro ph S w bx ⟨rfl, h⟩
    exact state h
  step := by
    rintro ph S w bx bm bw M ⟨rfl, h⟩ hM hl
    refine (step h hM hl).mono ?_
    rintro e w' ⟨d, rfl, h1, h2, h3, h4⟩
    exact ⟨d, rfl, h1, [], ⟨rfl, h2⟩, by simp, h3, h4⟩
  none := by
    rintro ph S w bx ⟨rfl, h⟩
    refine (none (R := fun d w' => d = over ph ∧ w = w') ((flow_step_nil (state h)).mono ?_)).mono ?_
    · rintro e w' ⟨rfl, rfl⟩
      exact ⟨_, rfl, rfl, rfl⟩
    · rintro e w' ⟨d, rfl, rfl, rfl⟩
      exact ⟨rfl, rfl⟩
  mach := mach
theorem mach_acq : Machine0 60 33 := ⟨fun _ _ => by kernel_rfl, fun _ w => run_typeAssert_lacksB Try.underlying231 (by kernel_rfl) (by kernel_rfl) _ _ w, fun _ _ => by kernel_rfl, fun _ _ => by kernel_rfl⟩
theorem mach_rel : Machine0 61 32 := ⟨fun _ _ => by kernel_rfl, fun _ w => run_typeAssert_lacksB Try.underlying231 (by kernel_rfl) (by kernel_rfl) _ _ w, fun _ _ => by kernel_rfl, fun _ _ => by kernel_rfl⟩
def acqK (bl : Nat) (lock who : Int) : Kind AcqPh := plainK (IsAcq bl lock who) (acqNext lock who) AcqPh.isDone 60 33
def relK (bl : Nat) (lock who : Int) : Kind RelPh := plainK (IsRel bl lock who) (relNext lock who) RelPh.isDone 61 32
theorem acqK_ok {bl : Nat} {lock who : Int} {c : Cfg} (h0 : 0 ≤ lock) (h1 : lock < 2) (u0 : 0 ≤ who) (u1 : who ≤ 1000000) : (acqK bl lock who).Ok bl c :=
  plainK_ok (n := 13) (by decide) (by decide) (fun h => h.len) (fun h k hs hb => h.keep k hs hb) (fun h => h.state) (fun h hM hl => acq_step h hM hl h0 h1 u0 u1) (fun h => acq_Step h) mach_acq
theorem relK_ok {bl : Nat} {lock who : Int} {c : Cfg} (h0 : 0 ≤ lock) (h1 : lock < 2) : (relK bl lock who).Ok bl c :=
  plainK_ok (n := 11) (by decide) (by decide) (fun h => h.len) (fun h k hs hb => h.keep k hs hb) (fun h => h.state) (fun h hM hl => rel_step h hM hl h0 h1) (fun h => rel_Step h) mach_rel
end Go.Proofs.Ytophgiocmldliaa
