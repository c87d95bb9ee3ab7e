/- A step of a flow: the access, and what follows it, by whatever is kept in 'then'. -/
import Derived.Test.YtophgiocmldliaaF1
namespace Go.Proofs.Ytophgiocmldliaa
open Go.RowKit

/-- Function k has a body. -/
def Callable (k : Nat) : Prop := ∀ (args : Array Value) (w : World), (callFunc k args).run Try.prog w = .ok (.enter k args) w
theorem Callable.out {k : Nat} (h : Callable k) (args : Array Value) (w : World) : (callFunc k args).run Try.prog w = .ok (.enter k args) w := h args w
/-- A flow behind its access. -/
def Fl.rest (f : Fl) : Fl := { f with kind := 0, then_ := .nilFunc, asleep := false }
def Ends (R : World → Prop) (v : Value) (e : Ending) (w : World) : Prop := e = .returned v ∧ R w
theorem and_assoc4 {a b c d : Bool} : (a && (b && (c && d))) = (a && b && c && d) := by cases a <;> cases b <;> rfl

set_option maxRecDepth 100000 in
set_option maxHeartbeats 600000 in
theorem flow_one_m {w : World} {bx bm bw k : Nat} {M : Mem} {f : Fl} {rest : List Value} (hx : Blk w bx (f.cells ++ rest)) (hM : MemAt w bm bw M) (n1 : bx ≠ bm) (n2 : bx ≠ bw) (hw : f.fits)
    (ht : f.then_ = .func (.func k) #[.pointer (some ⟨bx, 0, none⟩)] #[]) (hc : Callable k) (hk : f.kind ≠ 5) {R : World → Prop}
    (h : ∀ w1, Blk w1 bx (f.rest.cells ++ rest) → MemAt w1 bm bw (f.acc M).2 → Keep [bx, bm, bw] w w1 → Calls Try.prog k #[.pointer (some ⟨bx, 0, none⟩), .int .u64 (f.acc M).1] w1 (Ends R (.tuple #[]))) :
    Calls Try.prog 180 #[.pointer (some ⟨bx, 0, none⟩), .pointer (some ⟨bm, 0, none⟩)] w (Ends R (.tuple #[])) := by
  have H := Lib.hid h
  have HD := Lib.hid (flow_does hx hM hw)
  have hb : (f.kind == 5) = false := by simpa using hk
  have hcc := hc.out
  have HX := Lib.hid hx
  clear h hM hx hw hk
  go_enter Try.func180, Try.ntmps180
  go_wp2_with fail
  refine HD.out.mono ?_
  rintro e w1 ⟨rfl, hM1, hK1⟩
  have hx1 := HX.out.keep hK1 (by simp [n1, n2])
  have cx := hx1.cell
  have fx := hx1.free
  have lx := hx1.lt
  unfold Fl.cells at cx
  rw [ht] at cx
  have HM := Lib.hid hM1
  have HK := Lib.hid hK1
  have HX1 := Lib.hid hx1
  clear hM1 hK1 hx1
  go_wp2_with fail
  refine (H.out _ ?_ ?_ ?_).mono ?_
  · have hx2 := HX1.out
    (repeat (first | with_reducible exact hx2 | with_reducible apply Blk.drewN | with_reducible apply Blk.drew | with_reducible apply Blk.alloc | with_reducible apply Blk.set | (with_reducible apply Blk.other; rotate_left; (first | assumption | (simp; omega)); rotate_right) | with_reducible rfl | rfl | (simp [Fl.cells, Fl.rest]; done)))
  · exact HM.out.keep (S := [bx]) (by (repeat (first | with_reducible exact Keep.refl _ _ | with_reducible refine Keep.drewN ?_ | with_reducible refine Keep.drew ?_ | with_reducible refine Keep.alloc ?_ | (with_reducible refine Keep.set ?_ (by simp)) | (with_reducible refine Keep.setNew ?_ (by simp; done)) | (with_reducible refine Keep.setNew ?_ (by simp; omega))))) (by simp [Ne.symm n1]) (by simp [Ne.symm n2])
  · exact ((HK.out.mono (by simp)).trans' (S' := [bx]) (by (repeat (first | with_reducible exact Keep.refl _ _ | with_reducible refine Keep.drewN ?_ | with_reducible refine Keep.drew ?_ | with_reducible refine Keep.alloc ?_ | (with_reducible refine Keep.set ?_ (by simp)) | (with_reducible refine Keep.setNew ?_ (by simp; done)) | (with_reducible refine Keep.setNew ?_ (by simp; omega))))) (by simp))
  · rintro e w2 ⟨rfl, hR⟩
    have HR := Lib.hid hR
    clear hR
    go_wp2
    go_end0
    exact ⟨rfl, HR.out⟩

set_option maxRecDepth 100000 in
set_option maxHeartbeats 600000 in
theorem flow_step_m {w : World} {bx bm bw k : Nat} {M : Mem} {f : Fl} {rest : List Value} (hx : Blk w bx (f.cells ++ rest)) (hM : MemAt w bm bw M) (n1 : bx ≠ bm) (n2 : bx ≠ bw) (hw : f.fits)
    (ht : f.then_ = .func (.func k) #[.pointer (some ⟨bx, 0, none⟩)] #[]) (hc : Callable k) (hk : f.kind ≠ 5) (hk0 : f.kind ≠ 0) (hs : f.sub = .nilIface) {R : Bool → World → Prop}
    (h : ∀ w1, Blk w1 bx (f.rest.cells ++ rest) → MemAt w1 bm bw (f.acc M).2 → Keep [bx, bm, bw] w w1 →
      Calls Try.prog k #[.pointer (some ⟨bx, 0, none⟩), .int .u64 (f.acc M).1] w1 (Ends (fun w2 => ∃ (g : Fl) (rest' : List Value), Blk w2 bx (g.cells ++ rest') ∧
        ((g.kind = 0 ∧ g.sub = .nilIface ∧ R true w2) ∨ (g.kind ≠ 0 ∧ R false w2) ∨ (g.kind = 0 ∧ ∃ t b2, g.sub = .iface t (.pointer (some ⟨b2, 0, none⟩)) ∧ (∀ w, (binOp .eql 156 (.iface t (.pointer (some ⟨b2, 0, none⟩))) .nilIface).run Try.prog w = .ok (.bool false) w) ∧ R false w2))) (.tuple #[]))) :
    Calls Try.prog 127 #[.pointer (some ⟨bx, 0, none⟩), .pointer (some ⟨bm, 0, none⟩)] w (fun e w2 => ∃ d, e = .returned (.bool d) ∧ R d w2) := by
  have HO := Lib.hid (flow_one_m hx hM n1 n2 hw ht hc hk h)
  have HD := Lib.hid (flow_done_access hx hk0)
  have ha : ∀ w, (Instr.typeAssert f.sub 156 231 true).run Try.prog w = .ok (.tuple #[.nilIface, .bool false]) w := by rw [hs]; exact fun _ => by kernel_rfl
  have HA := Lib.hid (flow_asleep_no hx hM hk ha)
  have cx := hx.cell
  unfold Fl.cells at cx
  rw [hs] at cx
  have hz := eql_nil_nil
  clear h hM hx hw hk hc ht hk0 ha hs
  go_enter Try.func127, Try.ntmps127
  go_wp2_with fail
  refine HD.out.mono ?_
  rintro e w1 ⟨rfl, rfl⟩
  go_wp2_with fail
  refine HA.out.mono ?_
  rintro e w1 ⟨rfl, rfl⟩
  go_wp2_with fail
  refine HO.out.mono ?_
  rintro e w2 ⟨rfl, g, rest', hg, hR⟩
  have HG := Lib.hid hg
  clear cx hg
  rcases hR with ⟨g0, gs, hR⟩ | ⟨g0, hR⟩ | ⟨g0, t, b2, gs, gz, hR⟩
  · have HE := Lib.hid (flow_done_idle HG.out g0 gs)
    have HR := Lib.hid hR
    clear hR g0 gs
    go_wp2_with fail
    refine HE.out.mono ?_
    rintro e w3 ⟨rfl, rfl⟩
    go_wp2
    go_ret
    exact ⟨true, rfl, HR.out⟩
  · have HE := Lib.hid (flow_done_access HG.out g0)
    have HR := Lib.hid hR
    clear hR g0
    go_wp2_with fail
    refine HE.out.mono ?_
    rintro e w3 ⟨rfl, rfl⟩
    go_wp2
    go_ret
    exact ⟨false, rfl, HR.out⟩
  · have HE := Lib.hid (flow_done_runs HG.out g0 gs gz)
    have HR := Lib.hid hR
    clear hR g0 gs gz
    go_wp2_with fail
    refine HE.out.mono ?_
    rintro e w3 ⟨rfl, rfl⟩
    go_wp2
    go_ret
    exact ⟨false, rfl, HR.out⟩

set_option maxRecDepth 100000 in
set_option maxHeartbeats 600000 in
theorem flow_one_c {w : World} {bx bm bw k : Nat} {bc : Nat} {M : Mem} {f : Fl} {rest : List Value} (hx : Blk w bx (f.cells ++ rest)) (hM : MemAt w bm bw M) (n1 : bx ≠ bm) (n2 : bx ≠ bw) (hw : f.fits)
    (ht : f.then_ = .func (.func k) #[] #[.pointer (some ⟨bc, 0, none⟩)]) (hc : Callable k) (hk : f.kind ≠ 5) {R : World → Prop}
    (h : ∀ w1, Blk w1 bx (f.rest.cells ++ rest) → MemAt w1 bm bw (f.acc M).2 → Keep [bx, bm, bw] w w1 → Calls Try.prog k #[.int .u64 (f.acc M).1, .pointer (some ⟨bc, 0, none⟩)] w1 (Ends R (.tuple #[]))) :
    Calls Try.prog 180 #[.pointer (some ⟨bx, 0, none⟩), .pointer (some ⟨bm, 0, none⟩)] w (Ends R (.tuple #[])) := by
  have H := Lib.hid h
  have HD := Lib.hid (flow_does hx hM hw)
  have hb : (f.kind == 5) = false := by simpa using hk
  have hcc := hc.out
  have HX := Lib.hid hx
  clear h hM hx hw hk
  go_enter Try.func180, Try.ntmps180
  go_wp2_with fail
  refine HD.out.mono ?_
  rintro e w1 ⟨rfl, hM1, hK1⟩
  have hx1 := HX.out.keep hK1 (by simp [n1, n2])
  have cx := hx1.cell
  have fx := hx1.free
  have lx := hx1.lt
  unfold Fl.cells at cx
  rw [ht] at cx
  have HM := Lib.hid hM1
  have HK := Lib.hid hK1
  have HX1 := Lib.hid hx1
  clear hM1 hK1 hx1
  go_wp2_with fail
  refine (H.out _ ?_ ?_ ?_).mono ?_
  · have hx2 := HX1.out
    (repeat (first | with_reducible exact hx2 | with_reducible apply Blk.drewN | with_reducible apply Blk.drew | with_reducible apply Blk.alloc | with_reducible apply Blk.set | (with_reducible apply Blk.other; rotate_left; (first | assumption | (simp; omega)); rotate_right) | with_reducible rfl | rfl | (simp [Fl.cells, Fl.rest]; done)))
  · exact HM.out.keep (S := [bx]) (by (repeat (first | with_reducible exact Keep.refl _ _ | with_reducible refine Keep.drewN ?_ | with_reducible refine Keep.drew ?_ | with_reducible refine Keep.alloc ?_ | (with_reducible refine Keep.set ?_ (by simp)) | (with_reducible refine Keep.setNew ?_ (by simp; done)) | (with_reducible refine Keep.setNew ?_ (by simp; omega))))) (by simp [Ne.symm n1]) (by simp [Ne.symm n2])
  · exact ((HK.out.mono (by simp)).trans' (S' := [bx]) (by (repeat (first | with_reducible exact Keep.refl _ _ | with_reducible refine Keep.drewN ?_ | with_reducible refine Keep.drew ?_ | with_reducible refine Keep.alloc ?_ | (with_reducible refine Keep.set ?_ (by simp)) | (with_reducible refine Keep.setNew ?_ (by simp; done)) | (with_reducible refine Keep.setNew ?_ (by simp; omega))))) (by simp))
  · rintro e w2 ⟨rfl, hR⟩
    have HR := Lib.hid hR
    clear hR
    go_wp2
    go_end0
    exact ⟨rfl, HR.out⟩

set_option maxRecDepth 100000 in
set_option maxHeartbeats 600000 in
theorem flow_step_c {w : World} {bx bm bw k : Nat} {bc : Nat} {M : Mem} {f : Fl} {rest : List Value} (hx : Blk w bx (f.cells ++ rest)) (hM : MemAt w bm bw M) (n1 : bx ≠ bm) (n2 : bx ≠ bw) (hw : f.fits)
    (ht : f.then_ = .func (.func k) #[] #[.pointer (some ⟨bc, 0, none⟩)]) (hc : Callable k) (hk : f.kind ≠ 5) (hk0 : f.kind ≠ 0) (hs : f.sub = .nilIface) {R : Bool → World → Prop}
    (h : ∀ w1, Blk w1 bx (f.rest.cells ++ rest) → MemAt w1 bm bw (f.acc M).2 → Keep [bx, bm, bw] w w1 →
      Calls Try.prog k #[.int .u64 (f.acc M).1, .pointer (some ⟨bc, 0, none⟩)] w1 (Ends (fun w2 => ∃ (g : Fl) (rest' : List Value), Blk w2 bx (g.cells ++ rest') ∧
        ((g.kind = 0 ∧ g.sub = .nilIface ∧ R true w2) ∨ (g.kind ≠ 0 ∧ R false w2) ∨ (g.kind = 0 ∧ ∃ t b2, g.sub = .iface t (.pointer (some ⟨b2, 0, none⟩)) ∧ (∀ w, (binOp .eql 156 (.iface t (.pointer (some ⟨b2, 0, none⟩))) .nilIface).run Try.prog w = .ok (.bool false) w) ∧ R false w2))) (.tuple #[]))) :
    Calls Try.prog 127 #[.pointer (some ⟨bx, 0, none⟩), .pointer (some ⟨bm, 0, none⟩)] w (fun e w2 => ∃ d, e = .returned (.bool d) ∧ R d w2) := by
  have HO := Lib.hid (flow_one_c hx hM n1 n2 hw ht hc hk h)
  have HD := Lib.hid (flow_done_access hx hk0)
  have ha : ∀ w, (Instr.typeAssert f.sub 156 231 true).run Try.prog w = .ok (.tuple #[.nilIface, .bool false]) w := by rw [hs]; exact fun _ => by kernel_rfl
  have HA := Lib.hid (flow_asleep_no hx hM hk ha)
  have cx := hx.cell
  unfold Fl.cells at cx
  rw [hs] at cx
  have hz := eql_nil_nil
  clear h hM hx hw hk hc ht hk0 ha hs
  go_enter Try.func127, Try.ntmps127
  go_wp2_with fail
  refine HD.out.mono ?_
  rintro e w1 ⟨rfl, rfl⟩
  go_wp2_with fail
  refine HA.out.mono ?_
  rintro e w1 ⟨rfl, rfl⟩
  go_wp2_with fail
  refine HO.out.mono ?_
  rintro e w2 ⟨rfl, g, rest', hg, hR⟩
  have HG := Lib.hid hg
  clear cx hg
  rcases hR with ⟨g0, gs, hR⟩ | ⟨g0, hR⟩ | ⟨g0, t, b2, gs, gz, hR⟩
  · have HE := Lib.hid (flow_done_idle HG.out g0 gs)
    have HR := Lib.hid hR
    clear hR g0 gs
    go_wp2_with fail
    refine HE.out.mono ?_
    rintro e w3 ⟨rfl, rfl⟩
    go_wp2
    go_ret
    exact ⟨true, rfl, HR.out⟩
  · have HE := Lib.hid (flow_done_access HG.out g0)
    have HR := Lib.hid hR
    clear hR g0
    go_wp2_with fail
    refine HE.out.mono ?_
    rintro e w3 ⟨rfl, rfl⟩
    go_wp2
    go_ret
    exact ⟨false, rfl, HR.out⟩
  · have HE := Lib.hid (flow_done_runs HG.out g0 gs gz)
    have HR := Lib.hid hR
    clear hR g0 gs gz
    go_wp2_with fail
    refine HE.out.mono ?_
    rintro e w3 ⟨rfl, rfl⟩
    go_wp2
    go_ret
    exact ⟨false, rfl, HR.out⟩

end Go.Proofs.Ytophgiocmldliaa