/- Package lock: each step of a machine that acquires a lock, and of one that releases it, said of plain states. -/
import Derived.Test.YtophgiocmldliaaK1
namespace Go.Proofs.Ytophgiocmldliaa
open Go.RowKit
theorem LayAt.len {w : World} {bl : Nat} {c : Cfg} (h : LayAt w bl c) : Len w bl 6 := ⟨_, h.blk, rfl⟩
/-- A step behind which R holds, of the machine's end and the world. -/
def Stepped (R : Bool → World → Prop) (e : Ending) (w : World) : Prop := ∃ d, e = .returned (.bool d) ∧ R d w

set_option maxRecDepth 100000 in
set_option maxHeartbeats 600000 in
theorem acq_Step {w : World} {bx : Nat} {m : Value} {R : Bool → World → Prop} (h : Calls Try.prog 127 #[.pointer (some ⟨bx, 0, none⟩), m] w (Stepped R)) :
    Calls Try.prog 33 #[.pointer (some ⟨bx, 0, none⟩), m] w (Stepped R) := by
  have H := Lib.hid h
  clear h
  go_enter Try.func33, Try.ntmps33
  go_wp2_with fail
  refine H.out.mono ?_
  rintro e w1 ⟨d, rfl, hR⟩
  have HR := Lib.hid hR
  clear hR
  cases d
  all_goals
    go_wp2
    go_ret
    exact ⟨_, rfl, HR.out⟩

set_option maxRecDepth 100000 in
set_option maxHeartbeats 600000 in
theorem rel_Step {w : World} {bx : Nat} {m : Value} {R : Bool → World → Prop} (h : Calls Try.prog 127 #[.pointer (some ⟨bx, 0, none⟩), m] w (Stepped R)) :
    Calls Try.prog 32 #[.pointer (some ⟨bx, 0, none⟩), m] w (Stepped R) := by
  have H := Lib.hid h
  clear h
  go_enter Try.func32, Try.ntmps32
  go_wp2_with fail
  refine H.out.mono ?_
  rintro e w1 ⟨d, rfl, hR⟩
  have HR := Lib.hid hR
  clear hR
  cases d
  all_goals
    go_wp2
    go_ret
    exact ⟨_, rfl, HR.out⟩

set_option maxRecDepth 100000 in
set_option maxHeartbeats 600000 in
theorem acq_Done {w : World} {bx : Nat} {d : Bool} (h : Fl.State w bx d) : Calls Try.prog 116 #[.pointer (some ⟨bx, 0, none⟩)] w fun e w' => e = .returned (.bool d) ∧ w = w' := by
  have H := Lib.hid (flow_done h)
  clear h
  cases d
  all_goals
    go_enter Try.func116, Try.ntmps116
    go_wp2_with fail
    refine H.out.mono ?_
    rintro e w1 ⟨rfl, rfl⟩
    go_wp2
    go_ret
    exact ⟨rfl, rfl⟩

set_option maxRecDepth 100000 in
set_option maxHeartbeats 600000 in
theorem rel_Done {w : World} {bx : Nat} {d : Bool} (h : Fl.State w bx d) : Calls Try.prog 30 #[.pointer (some ⟨bx, 0, none⟩)] w fun e w' => e = .returned (.bool d) ∧ w = w' := by
  have H := Lib.hid (flow_done h)
  clear h
  cases d
  all_goals
    go_enter Try.func30, Try.ntmps30
    go_wp2_with fail
    refine H.out.mono ?_
    rintro e w1 ⟨rfl, rfl⟩
    go_wp2
    go_ret
    exact ⟨rfl, rfl⟩

def AcqPh.isDone : AcqPh → Bool
  | .done _ => true
  | _ => false
def acqNext (lock who : Int) (M : Mem) : AcqPh → AcqPh × Mem
  | .asks => (.loads (((M.add who (3 * lock) 1).1 + 4294967296 - 1) % 4294967296), (M.add who (3 * lock) 1).2)
  | .loads t => (if (M.load who (3 * lock + 1)).1 = t then .owns t else .loads t, (M.load who (3 * lock + 1)).2)
  | .owns t => (.done t, M.store who (3 * lock + 2) (who + 1))
  | .done t => (.done t, M)
theorem IsAcq.len {bl : Nat} {lock who : Int} {ph : AcqPh} {w : World} {bx : Nat} (h : IsAcq bl lock who ph w bx) : Len w bx 13 := by
  cases ph with
  | asks => exact ⟨_, h, rfl⟩
  | loads t => exact ⟨_, h, rfl⟩
  | owns t => obtain ⟨bc, h1, _⟩ := h; exact ⟨_, h1, rfl⟩
  | done t => exact ⟨_, h, rfl⟩
theorem IsAcq.state {bl : Nat} {lock who : Int} {ph : AcqPh} {w : World} {bx : Nat} (h : IsAcq bl lock who ph w bx) : Fl.State w bx ph.isDone := by
  cases ph with
  | asks => exact ⟨_, _, h, .inr (.inl ⟨rfl, by simp [fl]⟩)⟩
  | loads t => exact ⟨_, _, h, .inr (.inl ⟨rfl, by simp [fl]⟩)⟩
  | owns t => obtain ⟨bc, h1, _⟩ := h; exact ⟨_, _, h1, .inr (.inl ⟨rfl, by simp [fl]⟩)⟩
  | done t => exact ⟨_, _, h, .inl ⟨rfl, rfl, rfl⟩⟩
theorem IsAcq.keep {bl : Nat} {lock who : Int} {ph : AcqPh} {w w' : World} {bx : Nat} {S : List Nat} (h : IsAcq bl lock who ph w bx) (k : Keep S w w') (hs : bx ∉ S) (hb : ∀ x ∈ S, Unbox w x) : IsAcq bl lock who ph w' bx := by
  cases ph with
  | asks => exact Blk.keep h k hs
  | loads t => exact Blk.keep h k hs
  | owns t => obtain ⟨bc, h1, h2⟩ := h; exact ⟨bc, h1.keep k hs, h2.box k hb⟩
  | done t => exact Blk.keep h k hs
/-- Behind a step: the machine and the memory are as told; all else is as it was. -/
def AcqThen (bl : Nat) (lock who : Int) (bx bm bw : Nat) (q : AcqPh × Mem) (w : World) (d : Bool) (w' : World) : Prop :=
  d = q.1.isDone ∧ IsAcq bl lock who q.1 w' bx ∧ MemAt w' bm bw q.2 ∧ Keep [bx, bm, bw] w w'
theorem call_asked : Callable 126 := fun _ _ => by kernel_rfl
theorem call_waits : Callable 178 := fun _ _ => by kernel_rfl
theorem call_ends : Callable 212 := fun _ _ => by kernel_rfl
theorem call_serves : Callable 130 := fun _ _ => by kernel_rfl
theorem call_rends : Callable 182 := fun _ _ => by kernel_rfl
theorem call_store1 : Callable 181 := fun _ _ => by kernel_rfl

set_option maxRecDepth 100000 in
set_option maxHeartbeats 600000 in
theorem acq_ends_any (bx : Nat) (w : World) : Calls Try.prog 212 #[.pointer (some ⟨bx, 0, none⟩)] w fun e w' => e = .returned (.tuple #[]) ∧ w = w' := by
  go_enter Try.func212, Try.ntmps212
  go_wp2
  go_end0
  exact ⟨rfl, rfl⟩
set_option maxRecDepth 100000 in
set_option maxHeartbeats 600000 in
theorem rel_ends_any (bx : Nat) (v : Int) (w : World) : Calls Try.prog 182 #[.pointer (some ⟨bx, 0, none⟩), .int .u64 v] w fun e w' => e = .returned (.tuple #[]) ∧ w = w' := by
  go_enter Try.func182, Try.ntmps182
  go_wp2
  go_end0
  exact ⟨rfl, rfl⟩
set_option maxRecDepth 100000 in
set_option maxHeartbeats 600000 in
theorem store1_any {w : World} {bc bx k : Nat} {v : Int} {R : World → Prop} (hc : Blk w bc [mval k bx]) (hk : Callable k) (h : Calls Try.prog k #[.pointer (some ⟨bx, 0, none⟩)] w (Ends R (.tuple #[]))) :
    Calls Try.prog 181 #[.int .u64 v, .pointer (some ⟨bc, 0, none⟩)] w (Ends R (.tuple #[])) := by
  have cc := hc.cell
  have hkk := hk.out
  have H := Lib.hid h
  unfold mval at cc
  clear hc hk h
  go_enter Try.func181, Try.ntmps181
  go_wp2_with fail
  refine H.out.mono ?_
  rintro e w1 ⟨rfl, hR⟩
  have HR := Lib.hid hR
  clear hR
  go_wp2
  go_end0
  exact ⟨rfl, HR.out⟩

theorem acq_step {w : World} {bx bm bw bl : Nat} {lock who : Int} {ph : AcqPh} {M : Mem} {c : Cfg} (h : IsAcq bl lock who ph w bx) (hM : MemAt w bm bw M) (hl : LayAt w bl c) (h0 : 0 ≤ lock) (h1 : lock < 2) (u0 : 0 ≤ who) (u1 : who ≤ 1000000) :
    Calls Try.prog 33 #[.pointer (some ⟨bx, 0, none⟩), .pointer (some ⟨bm, 0, none⟩)] w (Stepped (AcqThen bl lock who bx bm bw (acqNext lock who M ph) w)) := by
  obtain ⟨n1, n2⟩ := hM.ne_of_len h.len (by decide) (by decide)
  obtain ⟨n4, n5⟩ := hM.ne_of_len hl.len (by decide) (by decide)
  have n3 : bl ≠ bx := hl.len.ne h.len (by decide)
  have nl : bl ∉ [bx, bm, bw] := by simp [n3, n4, n5]
  refine acq_Step ?_
  cases ph with
  | asks =>
    refine flow_step'_m h hM n1 n2 ⟨by simp [fl], by simp [fl]⟩ rfl call_asked (by simp [fl]) (by simp [fl]) rfl ?_
    intro w1 hx1 hM1 hk1
    have hr := add_range M who (3 * lock) 1
    refine (acq_asked hx1 (hl.keep hk1 nl) n3 h0 h1 _ hr.1 hr.2).mono ?_
    rintro e w2 ⟨rfl, hb, hk2⟩
    exact ⟨rfl, false, ⟨_, _, hb, .inr (.inl ⟨rfl, by simp [Fl.on]⟩)⟩, rfl, hb, hM1.keep hk2 (by simp [Ne.symm n1]) (by simp [Ne.symm n2]), hk1.trans (hk2.mono (by simp))⟩
  | loads t =>
    refine flow_step'_m h hM n1 n2 ⟨by simp [fl], by simp [fl]⟩ rfl call_waits (by simp [fl]) (by simp [fl]) rfl ?_
    intro w1 hx1 hM1 hk1
    by_cases hv : (M.load who (3 * lock + 1)).1 = t
    · have e1 : acqNext lock who M (.loads t) = (.owns t, (M.load who (3 * lock + 1)).2) := by simp [acqNext, hv]
      rw [e1]
      have e2 : ((fl who 1 (3 * lock + 1) 0 0 (mval 178 bx)).acc M).1 = t := hv
      rw [e2]
      refine (acq_waits_yes hx1 (hl.keep hk1 nl) n3 h0 h1 u0 u1).mono ?_
      rintro e w2 ⟨rfl, bc, hb, hc, hk2⟩
      exact ⟨rfl, false, ⟨_, _, hb, .inr (.inl ⟨rfl, by simp [Fl.on]⟩)⟩, rfl, ⟨bc, hb, hc⟩, hM1.keep hk2 (by simp [Ne.symm n1]) (by simp [Ne.symm n2]), hk1.trans (hk2.mono (by simp))⟩
    · have e1 : acqNext lock who M (.loads t) = (.loads t, (M.load who (3 * lock + 1)).2) := by simp [acqNext, hv]
      rw [e1]
      refine (acq_waits_no hx1 (hl.keep hk1 nl) n3 h0 h1 _ hv).mono ?_
      rintro e w2 ⟨rfl, hb, hk2⟩
      exact ⟨rfl, false, ⟨_, _, hb, .inr (.inl ⟨rfl, by simp [Fl.on]⟩)⟩, rfl, hb, hM1.keep hk2 (by simp [Ne.symm n1]) (by simp [Ne.symm n2]), hk1.trans (hk2.mono (by simp))⟩
  | owns t =>
    obtain ⟨bc, hx, hc⟩ := h
    have hbig : ∀ x ∈ [bx, bm, bw], Big w x := by
      intro x hx'
      simp only [List.mem_cons, List.not_mem_nil, or_false] at hx'
      rcases hx' with rfl | rfl | rfl
      · exact Len.big ⟨_, hx, rfl⟩ (by simp [Fl.cells, acqRest])
      · exact hM.big
      · exact hM.big'
    refine flow_step'_c hx hM n1 n2 ⟨by simp only [fl]; omega, by simp only [fl]; omega⟩ rfl call_store1 (by simp [fl]) (by simp [fl]) rfl ?_
    intro w1 hx1 hM1 hk1
    refine store1_any (hc.one hk1 hbig) call_ends ((acq_ends_any _ _).mono ?_)
    rintro e w2 ⟨rfl, rfl⟩
    exact ⟨rfl, true, ⟨_, _, hx1, .inl ⟨rfl, rfl, rfl⟩⟩, rfl, hx1, hM1, hk1⟩
  | done t =>
    exact (flow_step_idle h.state).mono fun e w2 ⟨he, hw⟩ => ⟨true, he, rfl, hw ▸ h, hw ▸ hM, hw ▸ Keep.refl _ _⟩

set_option maxRecDepth 100000 in
set_option maxHeartbeats 600000 in
theorem rel_serves {w : World} {bx bl : Nat} {c : Cfg} {f : Fl} {lock : Int} (hx : Blk w bx (f.cells ++ relRest bl lock)) (hl : LayAt w bl c) (hne : bl ≠ bx) (h0 : 0 ≤ lock) (h1 : lock < 2) :
    Calls Try.prog 130 #[.pointer (some ⟨bx, 0, none⟩)] w (Sets bx ((f.on 4 (3 * lock + 1) 0 1 (mval 182 bx)).cells ++ relRest bl lock) w) := by
  have cx := hx.cell
  have fx := hx.free
  have lx := hx.lt
  have HX := Lib.hid hx
  have HL := Lib.hid hl
  unfold Fl.cells relRest at cx
  clear hx hl
  go_enter Try.func130, Try.ntmps130
  go_wp2
  refine wp_region_still_tail 14 (by kernel_rfl) (by kernel_rfl) ?_
  simp only [List.take_succ_cons, List.take_zero, List.drop_succ_cons, List.drop_zero]
  change wpStill _ _ (World.drew _) _ _ _
  repeat (first | still_step | still_call ((lay_serving (c := c) (HL.out.keep (S := [bx]) (by (repeat (first | with_reducible exact Keep.refl _ _ | with_reducible refine Keep.drewN ?_ | with_reducible refine Keep.drew ?_ | with_reducible refine Keep.alloc ?_ | (with_reducible refine Keep.set ?_ (by simp)) | (with_reducible refine Keep.setNew ?_ (by simp; done)) | (with_reducible refine Keep.setNew ?_ (by simp; omega))))) (by simp [hne])) lock h0 h1).mono fun _ _ hh => ⟨hh.1, hh.2.symm⟩))
  try refine wpStill_nil ?_
  change wpList _ _ _ _ _ (World.drew _)
  go_wp2_with fail
  have hx2 := HX.out
  refine (flow_add (f := f) (rest := relRest bl lock) (by (repeat (first | with_reducible exact hx2 | with_reducible apply Blk.drewN | with_reducible apply Blk.drew | with_reducible apply Blk.alloc | with_reducible apply Blk.set | (with_reducible apply Blk.other; rotate_left; (first | assumption | (simp; omega)); rotate_right) | with_reducible rfl | rfl | (simp [Fl.cells, relRest]; done)))) (3 * lock + 1) 1 182 bx).mono ?_
  rintro e w1 ⟨rfl, hb1, hk1⟩
  have HB1 := Lib.hid hb1
  have HK1 := Lib.hid hk1
  clear hb1 hk1 hx2
  go_wp2
  go_end0
  exact ⟨rfl, HB1.out, Keep.trans (by (repeat (first | with_reducible exact Keep.refl _ _ | with_reducible refine Keep.drewN ?_ | with_reducible refine Keep.drew ?_ | with_reducible refine Keep.alloc ?_ | (with_reducible refine Keep.set ?_ (by simp)) | (with_reducible refine Keep.setNew ?_ (by simp; done)) | (with_reducible refine Keep.setNew ?_ (by simp; omega))))) HK1.out⟩
def RelPh.isDone : RelPh → Bool
  | .done => true
  | _ => false
def relNext (lock who : Int) (M : Mem) : RelPh → RelPh × Mem
  | .frees => (.serves, M.store who (3 * lock + 2) 0)
  | .serves => (.done, (M.add who (3 * lock + 1) 1).2)
  | .done => (.done, M)
theorem IsRel.len {bl : Nat} {lock who : Int} {ph : RelPh} {w : World} {bx : Nat} (h : IsRel bl lock who ph w bx) : Len w bx 11 := by
  cases ph with
  | frees => obtain ⟨bc, h1, _⟩ := h; exact ⟨_, h1, rfl⟩
  | serves => exact ⟨_, h, rfl⟩
  | done => exact ⟨_, h, rfl⟩
theorem IsRel.state {bl : Nat} {lock who : Int} {ph : RelPh} {w : World} {bx : Nat} (h : IsRel bl lock who ph w bx) : Fl.State w bx ph.isDone := by
  cases ph with
  | frees => obtain ⟨bc, h1, _⟩ := h; exact ⟨_, _, h1, .inr (.inl ⟨rfl, by simp [fl]⟩)⟩
  | serves => exact ⟨_, _, h, .inr (.inl ⟨rfl, by simp [fl]⟩)⟩
  | done => exact ⟨_, _, h, .inl ⟨rfl, rfl, rfl⟩⟩
theorem IsRel.keep {bl : Nat} {lock who : Int} {ph : RelPh} {w w' : World} {bx : Nat} {S : List Nat} (h : IsRel bl lock who ph w bx) (k : Keep S w w') (hs : bx ∉ S) (hb : ∀ x ∈ S, Unbox w x) : IsRel bl lock who ph w' bx := by
  cases ph with
  | frees => obtain ⟨bc, h1, h2⟩ := h; exact ⟨bc, h1.keep k hs, h2.box k hb⟩
  | serves => exact Blk.keep h k hs
  | done => exact Blk.keep h k hs
def RelThen (bl : Nat) (lock who : Int) (bx bm bw : Nat) (q : RelPh × Mem) (w : World) (d : Bool) (w' : World) : Prop :=
  d = q.1.isDone ∧ IsRel bl lock who q.1 w' bx ∧ MemAt w' bm bw q.2 ∧ Keep [bx, bm, bw] w w'
theorem three_big {w : World} {bx bm bw : Nat} {M : Mem} {n : Nat} (hx : Len w bx n) (hn : 2 ≤ n) (hM : MemAt w bm bw M) : ∀ x ∈ [bx, bm, bw], Big w x := by
  intro x hx'
  simp only [List.mem_cons, List.not_mem_nil, or_false] at hx'
  rcases hx' with rfl | rfl | rfl
  · exact hx.big hn
  · exact hM.big
  · exact hM.big'
theorem rel_step {w : World} {bx bm bw bl : Nat} {lock who : Int} {ph : RelPh} {M : Mem} {c : Cfg} (h : IsRel bl lock who ph w bx) (hM : MemAt w bm bw M) (hl : LayAt w bl c) (h0 : 0 ≤ lock) (h1 : lock < 2) :
    Calls Try.prog 32 #[.pointer (some ⟨bx, 0, none⟩), .pointer (some ⟨bm, 0, none⟩)] w (Stepped (RelThen bl lock who bx bm bw (relNext lock who M ph) w)) := by
  obtain ⟨n1, n2⟩ := hM.ne_of_len h.len (by decide) (by decide)
  obtain ⟨n4, n5⟩ := hM.ne_of_len hl.len (by decide) (by decide)
  have n3 : bl ≠ bx := hl.len.ne h.len (by decide)
  have nl : bl ∉ [bx, bm, bw] := by simp [n3, n4, n5]
  have hbig := three_big h.len (by decide) hM
  refine rel_Step ?_
  cases ph with
  | frees =>
    obtain ⟨bc, hx, hc⟩ := h
    refine flow_step'_c hx hM n1 n2 ⟨by simp [fl], by simp [fl]⟩ rfl call_store1 (by simp [fl]) (by simp [fl]) rfl ?_
    intro w1 hx1 hM1 hk1
    refine store1_any (hc.one hk1 hbig) call_serves ((rel_serves hx1 (hl.keep hk1 nl) n3 h0 h1).mono ?_)
    rintro e w2 ⟨rfl, hb, hk2⟩
    exact ⟨rfl, false, ⟨_, _, hb, .inr (.inl ⟨rfl, by simp [Fl.on]⟩)⟩, rfl, hb, hM1.keep hk2 (by simp [Ne.symm n1]) (by simp [Ne.symm n2]), hk1.trans (hk2.mono (by simp))⟩
  | serves =>
    refine flow_step'_m h hM n1 n2 ⟨by simp [fl], by simp [fl]⟩ rfl call_rends (by simp [fl]) (by simp [fl]) rfl ?_
    intro w1 hx1 hM1 hk1
    refine (rel_ends_any _ _ _).mono ?_
    rintro e w2 ⟨rfl, rfl⟩
    exact ⟨rfl, true, ⟨_, _, hx1, .inl ⟨rfl, rfl, rfl⟩⟩, rfl, hx1, hM1, hk1⟩
  | done =>
    exact (flow_step_idle h.state).mono fun e w2 ⟨he, hw⟩ => ⟨true, he, rfl, hw ▸ h, hw ▸ hM, hw ▸ Keep.refl _ _⟩

/-- A step, with what it comes to told. -/
theorem acq_step_to {w : World} {bx bm bw bl : Nat} {lock who : Int} {ph ph' : AcqPh} {M M' : Mem} {c : Cfg} {d : Bool} (h : IsAcq bl lock who ph w bx) (hM : MemAt w bm bw M) (hl : LayAt w bl c) (h0 : 0 ≤ lock) (h1 : lock < 2) (u0 : 0 ≤ who) (u1 : who ≤ 1000000)
    (hq : acqNext lock who M ph = (ph', M')) (hd : ph'.isDone = d) :
    Calls Try.prog 33 #[.pointer (some ⟨bx, 0, none⟩), .pointer (some ⟨bm, 0, none⟩)] w fun e w' => e = .returned (.bool d) ∧ IsAcq bl lock who ph' w' bx ∧ MemAt w' bm bw M' ∧ Keep [bx, bm, bw] w w' :=
  (acq_step h hM hl h0 h1 u0 u1).mono fun e w' ⟨d', he, hd', ha, hm, hk⟩ => by
    rw [hq] at hd' ha hm
    subst hd
    exact ⟨by rw [he, hd'], ha, hm, hk⟩
theorem rel_step_to {w : World} {bx bm bw bl : Nat} {lock who : Int} {ph ph' : RelPh} {M M' : Mem} {c : Cfg} {d : Bool} (h : IsRel bl lock who ph w bx) (hM : MemAt w bm bw M) (hl : LayAt w bl c) (h0 : 0 ≤ lock) (h1 : lock < 2)
    (hq : relNext lock who M ph = (ph', M')) (hd : ph'.isDone = d) :
    Calls Try.prog 32 #[.pointer (some ⟨bx, 0, none⟩), .pointer (some ⟨bm, 0, none⟩)] w fun e w' => e = .returned (.bool d) ∧ IsRel bl lock who ph' w' bx ∧ MemAt w' bm bw M' ∧ Keep [bx, bm, bw] w w' :=
  (rel_step h hM hl h0 h1).mono fun e w' ⟨d', he, hd', ha, hm, hk⟩ => by
    rw [hq] at hd' ha hm
    subst hd
    exact ⟨by rw [he, hd'], ha, hm, hk⟩

end Go.Proofs.Ytophgiocmldliaa