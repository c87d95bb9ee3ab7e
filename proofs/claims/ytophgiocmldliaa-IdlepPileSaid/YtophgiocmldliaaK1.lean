/- Package lock: a machine that acquires a lock, and one that releases it, step by step. -/
import Derived.Test.YtophgiocmldliaaF4
namespace Go.Proofs.Ytophgiocmldliaa
open Go.RowKit
/-- A flow at which an access comes, and that runs nothing. -/
def fl (who kind at_ old w : Int) (F : Value) : Fl := ⟨who, kind, at_, old, w, F, false, .nilIface, .nilFunc⟩
/-- A block that is no box of a method value. -/
def Unbox (w : World) (b : Nat) : Prop := ∃ cs, Blk w b cs ∧ ∀ k b0, cs ≠ [mval k b0]
theorem Big.unbox {w : World} {b : Nat} (h : Big w b) : Unbox w b := by
  obtain ⟨cs, h1, h2⟩ := h
  refine ⟨cs, h1, ?_⟩
  rintro k b0 rfl
  simp at h2
theorem Blk.box {w w' : World} {b k b0 : Nat} {S : List Nat} (h : Blk w b [mval k b0]) (kp : Keep S w w') (hs : ∀ x ∈ S, Unbox w x) : Blk w' b [mval k b0] := by
  refine h.keep kp ?_
  intro hm
  obtain ⟨cs, hc, hl⟩ := hs b hm
  exact h.ne hc (Ne.symm (hl k b0)) rfl
def SetsB (bx : Nat) (cs : Nat → List Value) (v : Value) (w : World) (e : Ending) (w' : World) : Prop := e = .returned (.tuple #[]) ∧ ∃ bc, Blk w' bx (cs bc) ∧ Blk w' bc [v] ∧ Keep [bx] w w'
/-- What an Acquire holds behind its flow. -/
def acqRest (bl : Nat) (lock turn : Int) (known : Bool) : List Value := [.pointer (some ⟨bl, 0, none⟩), .int .i64 lock, .int .u64 turn, .bool known]
theorem add_range (M : Mem) (who at_ x : Int) : 0 ≤ (M.add who at_ x).1 ∧ (M.add who at_ x).1 < 4294967296 := by
  unfold Mem.add plus
  split
  · simp only; omega
  · simp only; omega
theorem load_range {M : Mem} (h : ∀ x ∈ M.ws, 0 ≤ x ∧ x < 18446744073709551616) (who at_ : Int) : 0 ≤ (M.load who at_).1 ∧ (M.load who at_).1 < 18446744073709551616 := by
  unfold Mem.load
  split
  · exact get_range h
  · simp only; omega

set_option maxRecDepth 100000 in
set_option maxHeartbeats 600000 in
theorem acq_asked {w : World} {bx bl : Nat} {c : Cfg} {f : Fl} {lock turn : Int} {known : Bool} (hx : Blk w bx (f.cells ++ acqRest bl lock turn known)) (hl : LayAt w bl c) (hne : bl ≠ bx) (h0 : 0 ≤ lock) (h1 : lock < 2) (v : Int) (v0 : 0 ≤ v) (v1 : v < 4294967296) :
    Calls Try.prog 126 #[.pointer (some ⟨bx, 0, none⟩), .int .u64 v] w
      (Sets bx ((f.on 1 (3 * lock + 1) 0 0 (mval 178 bx)).cells ++ acqRest bl lock ((v + 4294967296 - 1) % 4294967296) true) w) := by
  have cx := hx.cell
  have fx := hx.free
  have lx := hx.lt
  have HX := Lib.hid hx
  have HL := Lib.hid hl
  unfold Fl.cells acqRest at cx
  clear hx hl
  go_enter Try.func126, Try.ntmps126
  go_wp2
  refine wp_region_still_tail 14 (by kernel_rfl) (by kernel_rfl) ?_
  simp only [List.take_succ_cons, List.take_zero, List.drop_succ_cons, List.drop_zero]
  change wpStill _ _ (World.drew _) _ _ _
  repeat (first | still_step | still_call ((lay_serving (c := c) (HL.out.keep (S := [bx]) (by (repeat (first | with_reducible exact Keep.refl _ _ | with_reducible refine Keep.drewN ?_ | with_reducible refine Keep.drew ?_ | with_reducible refine Keep.alloc ?_ | (with_reducible refine Keep.set ?_ (by simp)) | (with_reducible refine Keep.setNew ?_ (by simp; done)) | (with_reducible refine Keep.setNew ?_ (by simp; omega))))) (by simp [hne])) lock h0 h1).mono fun _ _ hh => ⟨hh.1, hh.2.symm⟩))
  try refine wpStill_nil ?_
  change wpList _ _ _ _ _ (World.drew _)
  go_wp2_with fail
  have hx2 := HX.out
  refine (flow_load (f := f) (rest := acqRest bl lock ((v + 4294967296 - 1) % 4294967296) true) (by (repeat (first | with_reducible exact hx2 | with_reducible apply Blk.drewN | with_reducible apply Blk.drew | with_reducible apply Blk.alloc | with_reducible apply Blk.set | (with_reducible apply Blk.other; rotate_left; (first | assumption | (simp; omega)); rotate_right) | with_reducible rfl | rfl | (simp [Fl.cells, acqRest]; done)))) (3 * lock + 1) 178 bx).mono ?_
  rintro e w1 ⟨rfl, hb1, hk1⟩
  have HB1 := Lib.hid hb1
  have HK1 := Lib.hid hk1
  clear hb1 hk1 hx2
  go_wp2
  go_end0
  exact ⟨rfl, HB1.out, Keep.trans (by (repeat (first | with_reducible exact Keep.refl _ _ | with_reducible refine Keep.drewN ?_ | with_reducible refine Keep.drew ?_ | with_reducible refine Keep.alloc ?_ | (with_reducible refine Keep.set ?_ (by simp)) | (with_reducible refine Keep.setNew ?_ (by simp; done)) | (with_reducible refine Keep.setNew ?_ (by simp; omega))))) HK1.out⟩

set_option maxRecDepth 100000 in
set_option maxHeartbeats 600000 in
theorem acq_waits_no {w : World} {bx bl : Nat} {c : Cfg} {f : Fl} {lock turn : Int} (hx : Blk w bx (f.cells ++ acqRest bl lock turn true)) (hl : LayAt w bl c) (hne : bl ≠ bx) (h0 : 0 ≤ lock) (h1 : lock < 2) (v : Int) (hv : v ≠ turn) :
    Calls Try.prog 178 #[.pointer (some ⟨bx, 0, none⟩), .int .u64 v] w
      (Sets bx ((f.on 1 (3 * lock + 1) 0 0 (mval 178 bx)).cells ++ acqRest bl lock turn true) w) := by
  have cx := hx.cell
  have fx := hx.free
  have lx := hx.lt
  have HX := Lib.hid hx
  have HL := Lib.hid hl
  unfold Fl.cells acqRest at cx
  clear hx hl
  have hq : (v != turn) = true := by simpa using hv
  clear hv
  go_enter Try.func178, Try.ntmps178
  go_wp2
  refine wp_region_still_tail 14 (by kernel_rfl) (by kernel_rfl) ?_
  simp only [List.take_succ_cons, List.take_zero, List.drop_succ_cons, List.drop_zero]
  change wpStill _ _ (World.drew _) _ _ _
  repeat (first | still_step | still_call ((lay_serving (c := c) (HL.out.keep (S := [bx]) (by (repeat (first | with_reducible exact Keep.refl _ _ | with_reducible refine Keep.drewN ?_ | with_reducible refine Keep.drew ?_ | with_reducible refine Keep.alloc ?_ | (with_reducible refine Keep.set ?_ (by simp)) | (with_reducible refine Keep.setNew ?_ (by simp; done)) | (with_reducible refine Keep.setNew ?_ (by simp; omega))))) (by simp [hne])) lock h0 h1).mono fun _ _ hh => ⟨hh.1, hh.2.symm⟩))
  try refine wpStill_nil ?_
  change wpList _ _ _ _ _ (World.drew _)
  go_wp2_with fail
  have hx2 := HX.out
  refine (flow_load (f := f) (rest := acqRest bl lock turn true) (by (repeat (first | with_reducible exact hx2 | with_reducible apply Blk.drewN | with_reducible apply Blk.drew | with_reducible apply Blk.alloc | with_reducible apply Blk.set | (with_reducible apply Blk.other; rotate_left; (first | assumption | (simp; omega)); rotate_right) | with_reducible rfl | rfl | (simp [Fl.cells, acqRest]; done)))) (3 * lock + 1) 178 bx).mono ?_
  rintro e w1 ⟨rfl, hb1, hk1⟩
  have HB1 := Lib.hid hb1
  have HK1 := Lib.hid hk1
  clear hb1 hk1 hx2
  go_wp2
  go_end0
  exact ⟨rfl, HB1.out, Keep.trans (by (repeat (first | with_reducible exact Keep.refl _ _ | with_reducible refine Keep.drewN ?_ | with_reducible refine Keep.drew ?_ | with_reducible refine Keep.alloc ?_ | (with_reducible refine Keep.set ?_ (by simp)) | (with_reducible refine Keep.setNew ?_ (by simp; done)) | (with_reducible refine Keep.setNew ?_ (by simp; omega))))) HK1.out⟩

set_option maxRecDepth 100000 in
set_option maxHeartbeats 600000 in
theorem acq_waits_yes {w : World} {bx bl : Nat} {c : Cfg} {f : Fl} {lock turn : Int} (hx : Blk w bx (f.cells ++ acqRest bl lock turn true)) (hl : LayAt w bl c) (hne : bl ≠ bx) (h0 : 0 ≤ lock) (h1 : lock < 2) (hw0 : 0 ≤ f.who) (hw1 : f.who ≤ 1000000) :
    Calls Try.prog 178 #[.pointer (some ⟨bx, 0, none⟩), .int .u64 turn] w
      (SetsB bx (fun bc => (f.on 2 (3 * lock + 2) 0 (f.who + 1) (cval 181 bc)).cells ++ acqRest bl lock turn true) (mval 212 bx) w) := by
  have cx := hx.cell
  have fx := hx.free
  have lx := hx.lt
  have HX := Lib.hid hx
  have HL := Lib.hid hl
  unfold Fl.cells acqRest at cx
  clear hx hl
  have hq : (turn != turn) = false := by simp
  go_enter Try.func178, Try.ntmps178
  go_wp2
  refine wp_region_still_tail 20 (by kernel_rfl) (by kernel_rfl) ?_
  simp only [List.take_succ_cons, List.take_zero, List.drop_succ_cons, List.drop_zero]
  change wpStill _ _ (World.drew _) _ _ _
  repeat (first | still_step | still_call ((lay_owner (c := c) (HL.out.keep (S := [bx]) (by (repeat (first | with_reducible exact Keep.refl _ _ | with_reducible refine Keep.drewN ?_ | with_reducible refine Keep.drew ?_ | with_reducible refine Keep.alloc ?_ | (with_reducible refine Keep.set ?_ (by simp)) | (with_reducible refine Keep.setNew ?_ (by simp; done)) | (with_reducible refine Keep.setNew ?_ (by simp; omega))))) (by simp [hne])) lock h0 h1).mono fun _ _ hh => ⟨hh.1, hh.2.symm⟩) | still_call ((flow_who (f := f) (rest := acqRest bl lock turn true) (by have hx2 := HX.out; (repeat (first | with_reducible exact hx2 | with_reducible apply Blk.drewN | with_reducible apply Blk.drew | with_reducible apply Blk.alloc | with_reducible apply Blk.set | (with_reducible apply Blk.other; rotate_left; (first | assumption | (simp; omega)); rotate_right) | with_reducible rfl | rfl | (simp [Fl.cells, acqRest]; done))))).mono fun _ _ hh => ⟨hh.1, hh.2.symm⟩))
  try refine wpStill_nil ?_
  change wpList _ _ _ _ _ (World.drew _)
  go_wp2_with fail
  have hx2 := HX.out
  refine (flow_store (f := f) (rest := acqRest bl lock turn true) (by (repeat (first | with_reducible exact hx2 | with_reducible apply Blk.drewN | with_reducible apply Blk.drew | with_reducible apply Blk.alloc | with_reducible apply Blk.set | (with_reducible apply Blk.other; rotate_left; (first | assumption | (simp; omega)); rotate_right) | with_reducible rfl | rfl | (simp [Fl.cells, acqRest]; done)))) (3 * lock + 2) (f.who + 1) 212 bx).mono ?_
  rintro e w1 ⟨⟨rfl, hb1, hk1⟩, hc1⟩
  have HB1 := Lib.hid hb1
  have HK1 := Lib.hid hk1
  have HC1 := Lib.hid hc1
  clear hb1 hk1 hc1 hx2
  go_wp2
  go_end0
  exact ⟨rfl, _, HB1.out, HC1.out, Keep.trans (by (repeat (first | with_reducible exact Keep.refl _ _ | with_reducible refine Keep.drewN ?_ | with_reducible refine Keep.drew ?_ | with_reducible refine Keep.alloc ?_ | (with_reducible refine Keep.set ?_ (by simp)) | (with_reducible refine Keep.setNew ?_ (by simp; done)) | (with_reducible refine Keep.setNew ?_ (by simp; omega))))) HK1.out⟩

/-- A flow at its beginning. -/
def zeroFl : Fl := ⟨0, 0, 0, 0, 0, .nilFunc, false, .nilIface, .nilFunc⟩
/-- A new machine: where it lies, what its block holds; nothing that was there has changed. -/
def Made (T : World → Nat → Prop) (w : World) (e : Ending) (w' : World) : Prop := ∃ bx, e = .returned (.pointer (some ⟨bx, 0, none⟩)) ∧ w.heap.size ≤ bx ∧ bx < w'.heap.size ∧ T w' bx ∧ Keep [] w w'
theorem Keep.fresh {w w1 w2 : World} {S : List Nat} (h : Keep [] w w1) (k : Keep S w1 w2) (hs : ∀ x ∈ S, w.heap.size ≤ x) : Keep [] w w2 := h.trans' k fun x hx => Or.inr (hs x hx)

/-- Where an Acquire stands: it asks for a turn; it looks whose turn it is; it says that it has it; it is done. -/
inductive AcqPh where
  | asks
  | loads (turn : Int)
  | owns (turn : Int)
  | done (turn : Int)
/-- The Acquire of a lock by who, in the block bx. -/
def IsAcq (bl : Nat) (lock who : Int) (ph : AcqPh) (w : World) (bx : Nat) : Prop :=
  match ph with
  | .asks => Blk w bx ((fl who 4 (3 * lock) 0 1 (mval 126 bx)).cells ++ acqRest bl lock 0 false)
  | .loads t => Blk w bx ((fl who 1 (3 * lock + 1) 0 0 (mval 178 bx)).cells ++ acqRest bl lock t true)
  | .owns t => ∃ bc, Blk w bx ((fl who 2 (3 * lock + 2) 0 (who + 1) (cval 181 bc)).cells ++ acqRest bl lock t true) ∧ Blk w bc [mval 212 bx]
  | .done t => Blk w bx ((fl who 0 (3 * lock + 2) 0 (who + 1) .nilFunc).cells ++ acqRest bl lock t true)

set_option maxRecDepth 100000 in
set_option maxHeartbeats 600000 in
theorem acq_new {w : World} {bl : Nat} {c : Cfg} (hl : LayAt w bl c) (lock who : Int) (h0 : 0 ≤ lock) (h1 : lock < 2) :
    Calls Try.prog 31 #[.pointer (some ⟨bl, 0, none⟩), .int .i64 lock, .int .i64 who] w (Made (IsAcq bl lock who .asks) w) := by
  have HL := Lib.hid hl
  have hlt := hl.lt
  clear hl
  go_enter Try.func31, Try.ntmps31
  go_wp2_with fail
  refine (flow_of (f := zeroFl) (rest := acqRest bl lock 0 false) ⟨_, heap_alloc_new w _⟩ who).mono ?_
  rintro e w1 ⟨rfl, hb1, hk1⟩
  have HKA := Lib.hid (Keep.trans' (Keep.alloc (Keep.refl [] w)) hk1 (by simp))
  have HL1 := Lib.hid (HL.out.keep HKA.out (by simp))
  have HB1 := Lib.hid hb1
  have HK1 := Lib.hid hk1
  clear hb1 hk1
  go_wp2_with fail
  refine wp_region_still_tail 8 (by kernel_rfl) (by kernel_rfl) ?_
  simp only [List.take_succ_cons, List.take_zero, List.drop_succ_cons, List.drop_zero]
  change wpStill _ _ (World.drew _) _ _ _
  repeat (first | still_step | still_call ((lay_ticket (c := c) (HL1.out.keep (S := []) (by (repeat (first | with_reducible exact Keep.refl _ _ | with_reducible refine Keep.drewN ?_ | with_reducible refine Keep.drew ?_ | with_reducible refine Keep.alloc ?_ | (with_reducible refine Keep.set ?_ (by simp)) | (with_reducible refine Keep.setNew ?_ (by simp; done)) | (with_reducible refine Keep.setNew ?_ (by simp; omega))))) (by simp)) lock h0 h1).mono fun _ _ hh => ⟨hh.1, hh.2.symm⟩))
  try refine wpStill_nil ?_
  change wpList _ _ _ _ _ (World.drew _)
  go_wp2_with fail
  have hx2 := HB1.out
  refine (flow_add (f := { zeroFl with who := who }) (rest := acqRest bl lock 0 false) (by (repeat (first | with_reducible exact hx2 | with_reducible apply Blk.drewN | with_reducible apply Blk.drew | with_reducible apply Blk.alloc | with_reducible apply Blk.set | (with_reducible apply Blk.other; rotate_left; (first | assumption | (simp; omega)); rotate_right) | with_reducible rfl | rfl | (simp [Fl.cells, zeroFl]; done)))) (3 * lock) 1 126 _).mono ?_
  rintro e w3 ⟨rfl, hb3, hk3⟩
  have HB3 := Lib.hid hb3
  have HK3 := Lib.hid hk3
  skip
  clear hb3 hk3 hx2
  go_wp2
  go_ret
  exact ⟨w.heap.size, rfl, Nat.le_refl _, HB3.out.lt, HB3.out, HKA.out.trans' (Keep.trans (by (repeat (first | with_reducible exact Keep.refl _ _ | with_reducible refine Keep.drewN ?_ | with_reducible refine Keep.drew ?_ | with_reducible refine Keep.alloc ?_ | (with_reducible refine Keep.set ?_ (by simp)) | (with_reducible refine Keep.setNew ?_ (by simp; done)) | (with_reducible refine Keep.setNew ?_ (by simp; omega))))) HK3.out) (by simp)⟩

def relRest (bl : Nat) (lock : Int) : List Value := [.pointer (some ⟨bl, 0, none⟩), .int .i64 lock]
/-- Where a Release stands. -/
inductive RelPh where
  | frees
  | serves
  | done
def IsRel (bl : Nat) (lock who : Int) (ph : RelPh) (w : World) (bx : Nat) : Prop :=
  match ph with
  | .frees => ∃ bc, Blk w bx ((fl who 2 (3 * lock + 2) 0 0 (cval 181 bc)).cells ++ relRest bl lock) ∧ Blk w bc [mval 130 bx]
  | .serves => Blk w bx ((fl who 4 (3 * lock + 1) 0 1 (mval 182 bx)).cells ++ relRest bl lock)
  | .done => Blk w bx ((fl who 0 (3 * lock + 1) 0 1 .nilFunc).cells ++ relRest bl lock)

set_option maxRecDepth 100000 in
set_option maxHeartbeats 600000 in
theorem rel_new {w : World} {bl : Nat} {c : Cfg} (hl : LayAt w bl c) (lock who : Int) (h0 : 0 ≤ lock) (h1 : lock < 2) :
    Calls Try.prog 36 #[.pointer (some ⟨bl, 0, none⟩), .int .i64 lock, .int .i64 who] w (Made (IsRel bl lock who .frees) w) := by
  have HL := Lib.hid hl
  have hlt := hl.lt
  clear hl
  go_enter Try.func36, Try.ntmps36
  go_wp2_with fail
  refine (flow_of (f := zeroFl) (rest := relRest bl lock) ⟨_, heap_alloc_new w _⟩ who).mono ?_
  rintro e w1 ⟨rfl, hb1, hk1⟩
  have HKA := Lib.hid (Keep.trans' (Keep.alloc (Keep.refl [] w)) hk1 (by simp))
  have HL1 := Lib.hid (HL.out.keep HKA.out (by simp))
  have HB1 := Lib.hid hb1
  have HK1 := Lib.hid hk1
  clear hb1 hk1
  go_wp2_with fail
  refine wp_region_still_tail 8 (by kernel_rfl) (by kernel_rfl) ?_
  simp only [List.take_succ_cons, List.take_zero, List.drop_succ_cons, List.drop_zero]
  change wpStill _ _ (World.drew _) _ _ _
  repeat (first | still_step | still_call ((lay_owner (c := c) (HL1.out.keep (S := []) (by (repeat (first | with_reducible exact Keep.refl _ _ | with_reducible refine Keep.drewN ?_ | with_reducible refine Keep.drew ?_ | with_reducible refine Keep.alloc ?_ | (with_reducible refine Keep.set ?_ (by simp)) | (with_reducible refine Keep.setNew ?_ (by simp; done)) | (with_reducible refine Keep.setNew ?_ (by simp; omega))))) (by simp)) lock h0 h1).mono fun _ _ hh => ⟨hh.1, hh.2.symm⟩))
  try refine wpStill_nil ?_
  change wpList _ _ _ _ _ (World.drew _)
  go_wp2_with fail
  have hx2 := HB1.out
  refine (flow_store (f := { zeroFl with who := who }) (rest := relRest bl lock) (by (repeat (first | with_reducible exact hx2 | with_reducible apply Blk.drewN | with_reducible apply Blk.drew | with_reducible apply Blk.alloc | with_reducible apply Blk.set | (with_reducible apply Blk.other; rotate_left; (first | assumption | (simp; omega)); rotate_right) | with_reducible rfl | rfl | (simp [Fl.cells, zeroFl]; done)))) (3 * lock + 2) 0 130 _).mono ?_
  rintro e w3 ⟨⟨rfl, hb3, hk3⟩, hc3⟩
  have HB3 := Lib.hid hb3
  have HK3 := Lib.hid hk3
  have HC3 := Lib.hid hc3
  clear hb3 hk3 hx2 hc3
  go_wp2
  go_ret
  exact ⟨w.heap.size, rfl, Nat.le_refl _, HB3.out.lt, ⟨_, HB3.out, HC3.out⟩, HKA.out.trans' (Keep.trans (by (repeat (first | with_reducible exact Keep.refl _ _ | with_reducible refine Keep.drewN ?_ | with_reducible refine Keep.drew ?_ | with_reducible refine Keep.alloc ?_ | (with_reducible refine Keep.set ?_ (by simp)) | (with_reducible refine Keep.setNew ?_ (by simp; done)) | (with_reducible refine Keep.setNew ?_ (by simp; omega))))) HK3.out) (by simp)⟩

end Go.Proofs.Ytophgiocmldliaa