/- A step of a flow that runs another machine; a flow at its end; a step without a memory; a machine that is let come. -/
import Derived.Test.YtophgiocmldliaaF2
namespace Go.Proofs.Ytophgiocmldliaa
open Go.RowKit

/-- What is known of a type's pointers as machines: they are not nil, they do not sleep, and their method Step is function kS. -/
structure Machine0 (t kS : Nat) : Prop where
  eql : ∀ (b : Nat) (w : World), (binOp .eql 156 (.iface t (.pointer (some ⟨b, 0, none⟩))) .nilIface).run Try.prog w = .ok (.bool false) w
  dull : ∀ (b : Nat) (w : World), (Instr.typeAssert (.iface t (.pointer (some ⟨b, 0, none⟩))) 156 231 true).run Try.prog w = .ok (.tuple #[.nilIface, .bool false]) w
  step : ∀ (b : Nat) (w : World), (method 352 t (.pointer (some ⟨b, 0, none⟩)) "Step").run Try.prog w = .ok (kS, .pointer (some ⟨b, 0, none⟩)) w
  body : Callable kS
/-- A machine's flow is at its end, or not. -/
def Fl.State (w : World) (bx : Nat) (d : Bool) : Prop := ∃ (g : Fl) (rest : List Value), Blk w bx (g.cells ++ rest) ∧
  ((d = true ∧ g.kind = 0 ∧ g.sub = .nilIface) ∨ (d = false ∧ g.kind ≠ 0) ∨ (d = false ∧ g.kind = 0 ∧ ∃ t b2 kS, g.sub = .iface t (.pointer (some ⟨b2, 0, none⟩)) ∧ Machine0 t kS))

set_option maxRecDepth 100000 in
set_option maxHeartbeats 600000 in
theorem flow_done {w : World} {bx : Nat} {d : Bool} (h : Fl.State w bx d) : Calls Try.prog 122 #[.pointer (some ⟨bx, 0, none⟩)] w fun e w' => e = .returned (.bool d) ∧ w = w' := by
  obtain ⟨g, rest, hx, ⟨rfl, h0, h1⟩ | ⟨rfl, h0⟩ | ⟨rfl, h0, t, b2, kS, h1, hm⟩⟩ := h
  · exact flow_done_idle hx h0 h1
  · exact flow_done_access hx h0
  · exact flow_done_runs hx h0 h1 (hm.eql b2)

set_option maxRecDepth 100000 in
set_option maxHeartbeats 600000 in
theorem flow_step_idle {w : World} {bx : Nat} {m : Value} (h : Fl.State w bx true) : Calls Try.prog 127 #[.pointer (some ⟨bx, 0, none⟩), m] w fun e w' => e = .returned (.bool true) ∧ w = w' := by
  have HD := Lib.hid (flow_done h)
  clear h
  go_enter Try.func127, Try.ntmps127
  go_wp2_with fail
  refine HD.out.mono ?_
  rintro e w1 ⟨rfl, rfl⟩
  go_wp2_with fail
  refine HD.out.mono ?_
  rintro e w1 ⟨rfl, rfl⟩
  go_wp2
  go_ret
  exact ⟨rfl, rfl⟩

set_option maxRecDepth 100000 in
set_option maxHeartbeats 600000 in
theorem flow_step_nil {w : World} {bx : Nat} {d : Bool} (h : Fl.State w bx d) : Calls Try.prog 127 #[.pointer (some ⟨bx, 0, none⟩), .pointer none] w fun e w' => e = .returned (.bool d) ∧ w = w' := by
  have HD := Lib.hid (flow_done h)
  clear h
  cases d
  all_goals
    go_enter Try.func127, Try.ntmps127
    go_wp2_with fail
    refine HD.out.mono ?_
    rintro e w1 ⟨rfl, rfl⟩
    go_wp2_with fail
    refine HD.out.mono ?_
    rintro e w1 ⟨rfl, rfl⟩
    go_wp2
    go_ret
    exact ⟨rfl, rfl⟩

set_option maxRecDepth 100000 in
set_option maxHeartbeats 600000 in
theorem flow_run {w : World} {bx b2 t kS : Nat} {f : Fl} {rest : List Value} {F : Value} {k : Nat} (hx : Blk w bx (f.cells ++ rest)) (ht : Machine0 t kS)
    (hn : Calls Try.prog kS #[.pointer (some ⟨b2, 0, none⟩), .pointer none] w fun e w' => e = .returned (.bool false) ∧ w = w') (hF : F = .func (.func k) #[.pointer (some ⟨bx, 0, none⟩)] #[]) :
    Calls Try.prog 139 #[.pointer (some ⟨bx, 0, none⟩), .iface t (.pointer (some ⟨b2, 0, none⟩)), F] w fun e w' => e = .returned (.tuple #[]) ∧ Blk w' bx ({ f with sub := .iface t (.pointer (some ⟨b2, 0, none⟩)), after := F }.cells ++ rest) ∧ Keep [bx] w w' := by
  subst hF
  have he := ht.eql b2
  have hs := ht.step b2
  have hb := ht.body.out
  have HN := Lib.hid hn
  have HX := Lib.hid hx
  have cx := hx.cell
  have fx := hx.free
  have lx := hx.lt
  unfold Fl.cells at cx
  clear ht hn hx
  go_enter Try.func139, Try.ntmps139
  go_wp2_with (first | (go_at_call 190; go_in))
  refine HN.out.mono ?_
  rintro e w1 ⟨rfl, rfl⟩
  go_wp2
  go_end0
  refine ⟨rfl, ?_, by (repeat (first | with_reducible exact Keep.refl _ _ | with_reducible refine Keep.drewN ?_ | with_reducible refine Keep.drew ?_ | with_reducible refine Keep.alloc ?_ | (with_reducible refine Keep.set ?_ (by simp)) | (with_reducible refine Keep.setNew ?_ (by simp; done)) | (with_reducible refine Keep.setNew ?_ (by simp; omega))))⟩
  have hx2 := HX.out
  (repeat (first | with_reducible exact hx2 | with_reducible apply Blk.drewN | with_reducible apply Blk.drew | with_reducible apply Blk.alloc | with_reducible apply Blk.set | (with_reducible apply Blk.other; rotate_left; (first | assumption | (simp; omega)); rotate_right) | with_reducible rfl | rfl | (simp [Fl.cells]; done)))

set_option maxRecDepth 100000 in
set_option maxHeartbeats 600000 in
theorem flow_step_sub {w : World} {bx bm bw b2 t kS kA : Nat} {M : Mem} {f : Fl} {rest : List Value} (hx : Blk w bx (f.cells ++ rest)) (hM : MemAt w bm bw M) (hk : f.kind = 0)
    (hs : f.sub = .iface t (.pointer (some ⟨b2, 0, none⟩))) (ht : Machine0 t kS) (hA : f.after = .func (.func kA) #[.pointer (some ⟨bx, 0, none⟩)] #[]) (hc : Callable kA) {I R : Bool → World → Prop}
    (hst : Calls Try.prog kS #[.pointer (some ⟨b2, 0, none⟩), .pointer (some ⟨bm, 0, none⟩)] w fun e w1 => ∃ d, e = .returned (.bool d) ∧ Blk w1 bx (f.cells ++ rest) ∧ I d w1)
    (h0 : ∀ w1, Blk w1 bx (f.cells ++ rest) → I false w1 → R false w1)
    (h1 : ∀ w1 w2, I true w1 → Blk w2 bx (({ f with sub := .nilIface, after := .nilFunc } : Fl).cells ++ rest) → Keep [bx] w1 w2 → Calls Try.prog kA #[.pointer (some ⟨bx, 0, none⟩)] w2 (Ends (fun w3 => ∃ d, Fl.State w3 bx d ∧ R d w3) (.tuple #[]))) :
    Calls Try.prog 127 #[.pointer (some ⟨bx, 0, none⟩), .pointer (some ⟨bm, 0, none⟩)] w (fun e w2 => ∃ d, e = .returned (.bool d) ∧ R d w2) := by
  have HT := Lib.hid ht
  have he := ht.eql b2
  have hsm := ht.step b2
  have hb := ht.body.out
  have hcc := hc.out
  have HD := Lib.hid (flow_done_runs hx hk hs (ht.eql b2))
  have hd := ht.dull b2
  have HAs := Lib.hid (flow_asleep_no hx hM (by rw [hk]; decide) (by rw [hs]; exact ht.dull b2))
  have HS := Lib.hid hst
  have H0 := Lib.hid h0
  have H1 := Lib.hid h1
  have cx := hx.cell
  unfold Fl.cells at cx
  rw [hs] at cx
  have HSB := Lib.hid hs
  have HK := Lib.hid hk
  have HAF := Lib.hid hA
  clear ht hd hst h0 h1 hx hM hk hs hc hA
  go_enter Try.func127, Try.ntmps127
  go_wp2_with fail
  refine HD.out.mono ?_
  rintro e w1 ⟨rfl, rfl⟩
  go_wp2_with fail
  refine HAs.out.mono ?_
  rintro e w1 ⟨rfl, rfl⟩
  go_wp2_with fail
  refine HS.out.mono ?_
  rintro e w2 ⟨d, rfl, hx2, hI⟩
  have HI := Lib.hid hI
  have cx2 := hx2.cell
  have fx2 := hx2.free
  have lx2 := hx2.lt
  have HX2 := Lib.hid hx2
  unfold Fl.cells at cx2
  rw [HAF.out] at cx2
  clear hI cx hx2
  cases d
  · have HE := Lib.hid (flow_done_runs HX2.out HK.out HSB.out (HT.out.eql b2))
    go_wp2_with fail
    refine HE.out.mono ?_
    rintro e w3 ⟨rfl, rfl⟩
    go_wp2
    go_ret
    exact ⟨false, rfl, H0.out _ HX2.out HI.out⟩
  · go_wp2_with fail
    refine (H1.out _ _ HI.out ?_ ?_).mono ?_
    · have hx3 := HX2.out
      (repeat (first | with_reducible exact hx3 | with_reducible apply Blk.drewN | with_reducible apply Blk.drew | with_reducible apply Blk.alloc | with_reducible apply Blk.set | (with_reducible apply Blk.other; rotate_left; (first | assumption | (simp; omega)); rotate_right) | with_reducible rfl | rfl | (simp [Fl.cells]; done)))
    · (repeat (first | with_reducible exact Keep.refl _ _ | with_reducible refine Keep.drewN ?_ | with_reducible refine Keep.drew ?_ | with_reducible refine Keep.alloc ?_ | (with_reducible refine Keep.set ?_ (by simp)) | (with_reducible refine Keep.setNew ?_ (by simp; done)) | (with_reducible refine Keep.setNew ?_ (by simp; omega))))
    · rintro e w3 ⟨rfl, d, hst, hR⟩
      have HE := Lib.hid (flow_done hst)
      have HR := Lib.hid hR
      clear hst hR cx2 fx2 lx2
      cases d
      all_goals
        go_wp2_with fail
        refine HE.out.mono ?_
        rintro e w3 ⟨rfl, rfl⟩
        go_wp2
        go_ret
        exact ⟨_, rfl, HR.out⟩

theorem flow_step'_m {w : World} {bx bm bw k : Nat} {M : Mem} {f : Fl} {rest : List Value} (hx : Blk w bx (f.cells ++ rest)) (hM : MemAt w bm bw M) (n1 : bx ≠ bm) (n2 : bx ≠ bw) (hw : f.fits)
    (ht : f.then_ = .func (.func k) #[.pointer (some ⟨bx, 0, none⟩)] #[]) (hc : Callable k) (hk : f.kind ≠ 5) (hk0 : f.kind ≠ 0) (hs : f.sub = .nilIface) {R : Bool → World → Prop}
    (h : ∀ w1, Blk w1 bx (f.rest.cells ++ rest) → MemAt w1 bm bw (f.acc M).2 → Keep [bx, bm, bw] w w1 → Calls Try.prog k #[.pointer (some ⟨bx, 0, none⟩), .int .u64 (f.acc M).1] w1 (Ends (fun w2 => ∃ d, Fl.State w2 bx d ∧ R d w2) (.tuple #[]))) :
    Calls Try.prog 127 #[.pointer (some ⟨bx, 0, none⟩), .pointer (some ⟨bm, 0, none⟩)] w (fun e w2 => ∃ d, e = .returned (.bool d) ∧ R d w2) :=
  flow_step_m hx hM n1 n2 hw ht hc hk hk0 hs fun w1 a b c => (h w1 a b c).mono fun e w2 ⟨he, d, ⟨g, r, hg, hgs⟩, hR⟩ => ⟨he, g, r, hg, by
    rcases hgs with ⟨rfl, g0, g1⟩ | ⟨rfl, g0⟩ | ⟨rfl, g0, t, b2, kS, g1, g2⟩
    · exact .inl ⟨g0, g1, hR⟩
    · exact .inr (.inl ⟨g0, hR⟩)
    · exact .inr (.inr ⟨g0, t, b2, g1, g2.eql b2, hR⟩)⟩

theorem flow_step'_c {w : World} {bx bm bw k : Nat} {bc : Nat} {M : Mem} {f : Fl} {rest : List Value} (hx : Blk w bx (f.cells ++ rest)) (hM : MemAt w bm bw M) (n1 : bx ≠ bm) (n2 : bx ≠ bw) (hw : f.fits)
    (ht : f.then_ = .func (.func k) #[] #[.pointer (some ⟨bc, 0, none⟩)]) (hc : Callable k) (hk : f.kind ≠ 5) (hk0 : f.kind ≠ 0) (hs : f.sub = .nilIface) {R : Bool → World → Prop}
    (h : ∀ w1, Blk w1 bx (f.rest.cells ++ rest) → MemAt w1 bm bw (f.acc M).2 → Keep [bx, bm, bw] w w1 → Calls Try.prog k #[.int .u64 (f.acc M).1, .pointer (some ⟨bc, 0, none⟩)] w1 (Ends (fun w2 => ∃ d, Fl.State w2 bx d ∧ R d w2) (.tuple #[]))) :
    Calls Try.prog 127 #[.pointer (some ⟨bx, 0, none⟩), .pointer (some ⟨bm, 0, none⟩)] w (fun e w2 => ∃ d, e = .returned (.bool d) ∧ R d w2) :=
  flow_step_c hx hM n1 n2 hw ht hc hk hk0 hs fun w1 a b c => (h w1 a b c).mono fun e w2 ⟨he, d, ⟨g, r, hg, hgs⟩, hR⟩ => ⟨he, g, r, hg, by
    rcases hgs with ⟨rfl, g0, g1⟩ | ⟨rfl, g0⟩ | ⟨rfl, g0, t, b2, kS, g1, g2⟩
    · exact .inl ⟨g0, g1, hR⟩
    · exact .inr (.inl ⟨g0, hR⟩)
    · exact .inr (.inr ⟨g0, t, b2, g1, g2.eql b2, hR⟩)⟩

end Go.Proofs.Ytophgiocmldliaa