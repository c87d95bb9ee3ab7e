/- Machines that run others: a kind of machine, its footprint, and what a step of a flow that runs one comes to. -/
import Derived.Test.YtophgiocmldliaaK2
import Derived.Test.YtophgiocmldliaaQt
import Derived.Stop.Asserts
namespace Go.Proofs.Ytophgiocmldliaa
open Go.RowKit
theorem LayAt.kept {w : World} {bl : Nat} {c : Cfg} (h : LayAt w bl c) (x : Kept w) : LayAt x.now bl c := h.keep x.keep (by simp)
theorem Calls.swap_eq {P : Program} {f : FuncId} {args : Array Value} {w : World} {v : Value} (h : Calls P f args w fun e w' => e = .returned v ∧ w = w') : Calls P f args w fun e w' => e = .returned v ∧ Keep [] w w' :=
  h.mono fun _ _ ⟨he, hw⟩ => ⟨he, hw ▸ Keep.refl _ _⟩
/-- A word less one, as a number. -/
def less1 (v : Int) : Int := if v < 9223372036854775808 then v - 1 else if v = 9223372036854775808 then 9223372036854775807 else v - 18446744073709551617
theorem wrap_in {v : Int} (h0 : -9223372036854775808 ≤ v) (h1 : v < 9223372036854775808) : IntKind.i64.wrap v = v := by
  rw [IntKind.wrap_i64]
  omega
theorem wrap_out {v : Int} (h0 : 9223372036854775808 ≤ v) (h1 : v < 18446744073709551616) : IntKind.i64.wrap v = v - 18446744073709551616 := by
  rw [IntKind.wrap_i64]
  omega
/-- What int(w) - 1 comes to. -/
theorem wrap_less1 {v : Int} (h0 : 0 ≤ v) (h1 : v < 18446744073709551616) : IntKind.i64.wrap (IntKind.i64.wrap v - 1) = less1 v := by
  unfold less1
  simp only [IntKind.wrap_i64]
  split
  · omega
  · split
    · omega
    · omega
theorem wrap64_less1 {v : Int} (h0 : 0 ≤ v) (h1 : v < 18446744073709551616) : wrap64 (wrap64 v - 1) = less1 v := by
  unfold less1 wrap64
  split
  · omega
  · split
    · omega
    · omega
theorem less1_range {v : Int} (h0 : 0 ≤ v) (h1 : v < 18446744073709551616) : -9223372036854775808 ≤ less1 v ∧ less1 v < 9223372036854775808 := by
  unfold less1
  split
  · omega
  · split
    · omega
    · omega

theorem Unbox.keep {w w' : World} {b : Nat} {S : List Nat} (h : Unbox w b) (k : Keep S w w') (hs : b ∉ S) : Unbox w' b := let ⟨cs, h1, h2⟩ := h; ⟨cs, h1.keep k hs, h2⟩
/-- A machine's block, by how many cells it has. -/
def Mach (w : World) (b : Nat) : Prop := ∃ n, Len w b n ∧ 10 ≤ n ∧ n < 280
theorem Mach.big {w : World} {b : Nat} (h : Mach w b) : Big w b := let ⟨_, hl, h0, _⟩ := h; hl.big (by omega)
theorem Mach.lt {w : World} {b : Nat} (h : Mach w b) : b < w.heap.size := h.big.lt
theorem Mach.lay {w : World} {b bl : Nat} {c : Cfg} (h : Mach w b) (k : LayAt w bl c) : bl ≠ b := let ⟨_, hl, h0, _⟩ := h; k.len.ne hl (by omega)
theorem Mach.mem {w : World} {b bm bw : Nat} {M : Mem} (h : Mach w b) (k : MemAt w bm bw M) : b ≠ bm ∧ b ≠ bw := let ⟨_, hl, h0, h1⟩ := h; k.ne_of_len hl (by omega) h1

/-- Behind a step: the machine, over the blocks S', and the memory are as told; all else is as it was. -/
def ThenS {Ph : Type} (Is : Ph → List Nat → World → Nat → Prop) (over : Ph → Bool) (bx bm bw : Nat) (S : List Nat) (q : Ph × Mem) (w : World) (d : Bool) (w' : World) : Prop :=
  d = over q.1 ∧ ∃ S', Is q.1 S' w' bx ∧ (∀ x ∈ S', x ∈ S ∨ w.heap.size ≤ x) ∧ MemAt w' bm bw q.2 ∧ Keep (bx :: bm :: bw :: S) w w'
/-- A kind of machine: what it looks like in its block, over the blocks S of those that it runs; what a step does to where it stands, and to the memory; where it is over; its pointers' type; its method Step. -/
structure Kind (Ph : Type) where
  is : Ph → List Nat → World → Nat → Prop
  next : Mem → Ph → Ph × Mem
  over : Ph → Bool
  ty : Nat
  fn : Nat
structure Kind.Ok {Ph : Type} (K : Kind Ph) (bl : Nat) (c : Cfg) : Prop where
  all : ∀ {ph S w bx}, K.is ph S w bx → ∀ x ∈ bx :: S, Mach w x
  nodup : ∀ {ph S w bx}, K.is ph S w bx → (bx :: S).Nodup
  keep : ∀ {ph S w w' bx T}, K.is ph S w bx → Keep T w w' → (∀ x ∈ bx :: S, x ∉ T) → (∀ x ∈ T, Unbox w x) → K.is ph S w' bx
  state : ∀ {ph S w bx}, K.is ph S w bx → Fl.State w bx (K.over ph)
  step : ∀ {ph S w bx bm bw M}, K.is ph S w bx → MemAt w bm bw M → LayAt w bl c → Calls Try.prog K.fn #[.pointer (some ⟨bx, 0, none⟩), .pointer (some ⟨bm, 0, none⟩)] w (Stepped (ThenS K.is K.over bx bm bw S (K.next M ph) w))
  none : ∀ {ph S w bx}, K.is ph S w bx → Calls Try.prog K.fn #[.pointer (some ⟨bx, 0, none⟩), .pointer none] w fun e w' => e = .returned (.bool (K.over ph)) ∧ w = w'
  mach : Machine0 K.ty K.fn
/-- A new machine. -/
def MadeS {Ph : Type} (Is : Ph → List Nat → World → Nat → Prop) (ph : Ph) (w : World) (e : Ending) (w' : World) : Prop :=
  ∃ b S, e = .returned (.pointer (some ⟨b, 0, none⟩)) ∧ w.heap.size ≤ b ∧ (∀ x ∈ S, w.heap.size ≤ x) ∧ Is ph S w' b ∧ Keep [] w w'
theorem Kind.Ok.big {Ph : Type} {K : Kind Ph} {bl : Nat} {c : Cfg} (ok : K.Ok bl c) {ph : Ph} {S : List Nat} {w : World} {bx bm bw : Nat} {M : Mem} (h : K.is ph S w bx) (hM : MemAt w bm bw M) : ∀ x ∈ bx :: bm :: bw :: S, Big w x := by
  intro x hx
  simp only [List.mem_cons] at hx
  rcases hx with rfl | rfl | rfl | hx
  · exact (ok.all h _ (by simp)).big
  · exact hM.big
  · exact hM.big'
  · exact (ok.all h x (by simp [hx])).big
theorem Kind.Ok.lay {Ph : Type} {K : Kind Ph} {bl : Nat} {c : Cfg} (ok : K.Ok bl c) {ph : Ph} {S : List Nat} {w : World} {bx bm bw : Nat} {M : Mem} (h : K.is ph S w bx) (hM : MemAt w bm bw M) (hl : LayAt w bl c) : bl ∉ bx :: bm :: bw :: S := by
  intro hx
  obtain ⟨n4, n5⟩ := hM.ne_of_len hl.len (by decide) (by decide)
  simp only [List.mem_cons] at hx
  rcases hx with h1 | h1 | h1 | h1
  · exact (ok.all h _ (by simp)).lay hl h1
  · exact n4 h1
  · exact n5 h1
  · exact (ok.all h bl (by simp [h1])).lay hl rfl
/-- A flow that runs a machine. -/
def flS (who at_ old x : Int) (t b2 kA bx : Nat) : Fl := ⟨who, 0, at_, old, x, .nilFunc, false, .iface t (.pointer (some ⟨b2, 0, none⟩)), mval kA bx⟩
/-- A flow behind a machine that it ran. -/
def flN (who at_ old x : Int) : Fl := ⟨who, 0, at_, old, x, .nilFunc, false, .nilIface, .nilFunc⟩
/-- A step of a flow that runs a machine. -/
theorem sub_step {Ph : Type} {K : Kind Ph} {bl : Nat} {c : Cfg} (ok : K.Ok bl c) {w : World} {bx bm bw b2 kA : Nat} {M : Mem} {who at_ old x : Int} {rest : List Value} {ph : Ph} {S : List Nat}
    (hx : Blk w bx ((flS who at_ old x K.ty b2 kA bx).cells ++ rest)) (hM : MemAt w bm bw M) (hl : LayAt w bl c) (hc : Callable kA) (h2 : K.is ph S w b2) (nb : bx ∉ b2 :: S) (n1 : bx ≠ bm) (n2 : bx ≠ bw) {R : Bool → World → Prop}
    (h0 : K.over (K.next M ph).1 = false → ∀ w1 S', Blk w1 bx ((flS who at_ old x K.ty b2 kA bx).cells ++ rest) → K.is (K.next M ph).1 S' w1 b2 → (∀ x ∈ S', x ∈ S ∨ w.heap.size ≤ x) → MemAt w1 bm bw (K.next M ph).2 → Keep (b2 :: bm :: bw :: S) w w1 → R false w1)
    (h1 : K.over (K.next M ph).1 = true → ∀ w1 S', Blk w1 bx ((flN who at_ old x).cells ++ rest) → K.is (K.next M ph).1 S' w1 b2 → (∀ x ∈ S', x ∈ S ∨ w.heap.size ≤ x) → bx ∉ b2 :: S' → MemAt w1 bm bw (K.next M ph).2 → Keep (bx :: b2 :: bm :: bw :: S) w w1 →
      Calls Try.prog kA #[.pointer (some ⟨bx, 0, none⟩)] w1 (Ends (fun w3 => ∃ d, Fl.State w3 bx d ∧ R d w3) (.tuple #[]))) :
    Calls Try.prog 127 #[.pointer (some ⟨bx, 0, none⟩), .pointer (some ⟨bm, 0, none⟩)] w (Stepped R) := by
  have hbx : bx < w.heap.size := hx.lt
  have hub : Unbox w bx := ⟨_, hx, by intro k b0 e; simp [flS, Fl.cells] at e⟩
  refine flow_step_sub (I := fun d w1 => d = K.over (K.next M ph).1 ∧ ∃ S', K.is (K.next M ph).1 S' w1 b2 ∧ (∀ x ∈ S', x ∈ S ∨ w.heap.size ≤ x) ∧ bx ∉ b2 :: S' ∧ MemAt w1 bm bw (K.next M ph).2 ∧ Keep (b2 :: bm :: bw :: S) w w1) hx hM rfl rfl ok.mach rfl hc ?_ ?_ ?_
  · refine (ok.step h2 hM hl).mono ?_
    rintro e w1 ⟨d, rfl, hd, S', hi, hS, hm, hk⟩
    have nb' : bx ∉ b2 :: S' := by
      simp only [List.mem_cons, not_or] at nb ⊢
      exact ⟨nb.1, fun hm => (hS bx hm).elim nb.2 (by omega)⟩
    refine ⟨d, rfl, hx.keep hk ?_, hd, S', hi, hS, nb', hm, hk⟩
    simp only [List.mem_cons, not_or] at nb ⊢
    exact ⟨nb.1, n1, n2, nb.2⟩
  · rintro w1 hx1 ⟨hd, S', hi, hS, nb', hm, hk⟩
    exact h0 hd.symm w1 S' hx1 hi hS hm hk
  · rintro w1 w2 ⟨hd, S', hi, hS, nb', hm, hk⟩ hx2 hk2
    have hub1 : Unbox w1 bx := hub.keep hk (by
      simp only [List.mem_cons, not_or] at nb ⊢
      exact ⟨nb.1, n1, n2, nb.2⟩)
    refine h1 hd.symm w2 S' hx2 (ok.keep hi hk2 ?_ ?_) hS nb' (hm.keep hk2 (by simp [Ne.symm n1]) (by simp [Ne.symm n2])) ((hk.mono (by intro y hy; exact List.mem_cons_of_mem _ hy)).trans (hk2.mono (by intro y hy; simp only [List.mem_cons, List.not_mem_nil, or_false] at hy; simp [hy])))
    · intro y hy hy2
      simp only [List.mem_cons, List.not_mem_nil, or_false] at hy2
      subst hy2
      exact nb' hy
    · intro y hy
      simp only [List.mem_cons, List.not_mem_nil, or_false] at hy
      subst hy
      exact hub1
/-- A machine is let come. -/
theorem run_sub {Ph : Type} {K : Kind Ph} {bl : Nat} {c : Cfg} (ok : K.Ok bl c) {w : World} {bx b2 kA : Nat} {who at_ old x : Int} {rest : List Value} {ph : Ph} {S : List Nat}
    (hx : Blk w bx ((flN who at_ old x).cells ++ rest)) (h2 : K.is ph S w b2) (nb : bx ∉ b2 :: S) (ho : K.over ph = false) {F : Value} (hF : F = mval kA bx) :
    Calls Try.prog 139 #[.pointer (some ⟨bx, 0, none⟩), .iface K.ty (.pointer (some ⟨b2, 0, none⟩)), F] w fun e w' =>
      e = .returned (.tuple #[]) ∧ Blk w' bx ((flS who at_ old x K.ty b2 kA bx).cells ++ rest) ∧ K.is ph S w' b2 ∧ Keep [bx] w w' := by
  subst hF
  have hub : Unbox w bx := ⟨_, hx, by intro k b0 e; simp [flN, Fl.cells] at e⟩
  refine (flow_run hx ok.mach ((ok.none h2).mono fun e w' h => ⟨by rw [h.1, ho], h.2⟩) rfl).mono ?_
  rintro e w' ⟨he, hb, hk⟩
  refine ⟨he, hb, ok.keep h2 hk ?_ ?_, hk⟩
  · intro y hy hy2
    simp only [List.mem_cons, List.not_mem_nil, or_false] at hy2
    subst hy2
    exact nb hy
  · intro y hy
    simp only [List.mem_cons, List.not_mem_nil, or_false] at hy
    subst hy
    exact hub
end Go.Proofs.Ytophgiocmldliaa
