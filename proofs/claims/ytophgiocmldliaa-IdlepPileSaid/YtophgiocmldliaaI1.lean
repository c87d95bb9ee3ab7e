/- Package idlem: what each callback of a machine does to its flow and its fields. -/
import Derived.Test.YtophgiocmldliaaS2
namespace Go.Proofs.Ytophgiocmldliaa
open Go.RowKit

/-- What a machine of idlem holds behind its flow. -/
def iputRest (bl : Nat) (t : Int) : List Value := [.pointer (some ⟨bl, 0, none⟩), .int .i64 t]

set_option maxRecDepth 100000 in
set_option maxHeartbeats 600000 in
theorem iput_first {w : World} {bx bl : Nat} {c : Cfg} {f : Fl} (t : Int) (hx : Blk w bx (f.cells ++ iputRest bl (t))) (hl : LayAt w bl c) (hne : bl ≠ bx) (v : Int)  :
    Calls Try.prog 133 #[.pointer (some ⟨bx, 0, none⟩), .int .u64 v] w
      (SetsB bx (fun bc => (f.on 2 (c.thread t 2) (0) (v) (cval 181 bc)).cells ++ iputRest bl (t)) (mval 184 bx) w) := by
  have cx := hx.cell
  have fx := hx.free
  have lx := hx.lt
  have HX := Lib.hid hx
  have HL := Lib.hid hl
  unfold Fl.cells iputRest at cx
  clear hx hl
  go_enter Try.func133, Try.ntmps133
  go_wp2
  refine wp_kept_tail_at (w0 := w) (S := [bx]) (bx := bx) (cs := f.cells ++ iputRest bl (t)) 15 (by kernel_rfl) (by kernel_rfl) (by (repeat (first | with_reducible exact Keep.refl _ _ | with_reducible refine Keep.drewN ?_ | with_reducible refine Keep.drew ?_ | with_reducible refine Keep.alloc ?_ | (with_reducible refine Keep.set ?_ (by simp)) | (with_reducible refine Keep.setNew ?_ (by simp; done)) | (with_reducible refine Keep.setNew ?_ (by simp; omega))))) (by have hx2 := HX.out; (repeat (first | with_reducible exact hx2 | with_reducible apply Blk.drewN | with_reducible apply Blk.drew | with_reducible apply Blk.alloc | with_reducible apply Blk.set | (with_reducible apply Blk.other; rotate_left; (first | assumption | (simp; omega)); rotate_right) | with_reducible rfl | rfl | (simp [Fl.cells, iputRest]; done)))) ?_
  intro w1 hk1 hx1 cx1
  have HX1 := Lib.hid hx1
  have HK1 := Lib.hid hk1
  have HL1 := Lib.hid (HL.out.keep hk1 (by simp [hne]))
  clear hx1 hk1
  simp only [Fl.cells, iputRest, List.cons_append, List.nil_append] at cx1
  simp only [List.take_succ_cons, List.take_zero, List.drop_succ_cons, List.drop_zero]
  repeat (quiet_step (first | exact calls_kept (lay_thread (HL1.out.kept _) t 2 (by decide) (by decide))))
  refine wpQuiet_nil ?_
  rintro _ ⟨⟨wq, hkq⟩, rfl⟩
  have HQ := Lib.hid hkq
  clear hkq
  go_wp2_with fail
  have hx2 := HX1.out.keep HQ.out (by simp)
  refine (flow_store (f := f) (rest := iputRest bl (t)) hx2 (c.thread t 2) (v) 184 bx).mono ?_
  rintro e w3 ⟨⟨rfl, hb3, hk3⟩, hc3⟩
  have HB3 := Lib.hid hb3
  have HK3 := Lib.hid hk3
  have HC3 := Lib.hid hc3
  clear hb3 hk3 hc3 hx2
  go_wp2
  go_end0
  exact ⟨rfl, _, HB3.out, HC3.out, (HK1.out.trans (HQ.out.mono (by simp))).trans HK3.out⟩

set_option maxRecDepth 100000 in
set_option maxHeartbeats 600000 in
theorem iput_linked {w : World} {bx bl : Nat} {c : Cfg} {f : Fl} (t : Int) (hx : Blk w bx (f.cells ++ iputRest bl (t))) (hl : LayAt w bl c) (hne : bl ≠ bx) (t0 : 0 ≤ t) (t1 : t < 1000) :
    Calls Try.prog 184 #[.pointer (some ⟨bx, 0, none⟩)] w
      (SetsB bx (fun bc => (f.on 2 (11) (0) (t + 1) (cval 181 bc)).cells ++ iputRest bl (t)) (mval 214 bx) w) := by
  have cx := hx.cell
  have fx := hx.free
  have lx := hx.lt
  have HX := Lib.hid hx
  have HL := Lib.hid hl
  unfold Fl.cells iputRest at cx
  clear hx hl
  go_enter Try.func184, Try.ntmps184
  go_wp2
  refine wp_kept_tail_at (w0 := w) (S := [bx]) (bx := bx) (cs := f.cells ++ iputRest bl (t)) 16 (by kernel_rfl) (by kernel_rfl) (by (repeat (first | with_reducible exact Keep.refl _ _ | with_reducible refine Keep.drewN ?_ | with_reducible refine Keep.drew ?_ | with_reducible refine Keep.alloc ?_ | (with_reducible refine Keep.set ?_ (by simp)) | (with_reducible refine Keep.setNew ?_ (by simp; done)) | (with_reducible refine Keep.setNew ?_ (by simp; omega))))) (by have hx2 := HX.out; (repeat (first | with_reducible exact hx2 | with_reducible apply Blk.drewN | with_reducible apply Blk.drew | with_reducible apply Blk.alloc | with_reducible apply Blk.set | (with_reducible apply Blk.other; rotate_left; (first | assumption | (simp; omega)); rotate_right) | with_reducible rfl | rfl | (simp [Fl.cells, iputRest]; done)))) ?_
  intro w1 hk1 hx1 cx1
  have HX1 := Lib.hid hx1
  have HK1 := Lib.hid hk1
  have HL1 := Lib.hid (HL.out.keep hk1 (by simp [hne]))
  clear hx1 hk1
  simp only [Fl.cells, iputRest, List.cons_append, List.nil_append] at cx1
  simp only [List.take_succ_cons, List.take_zero, List.drop_succ_cons, List.drop_zero]
  repeat (quiet_step (first | exact calls_kept (Calls.swap_eq (lay_word (HL1.out.kept _) 11 (by decide) (by decide)))))
  refine wpQuiet_nil ?_
  rintro _ ⟨⟨wq, hkq⟩, rfl⟩
  have HQ := Lib.hid hkq
  clear hkq
  go_wp2_with fail
  have hx2 := HX1.out.keep HQ.out (by simp)
  refine (flow_store (f := f) (rest := iputRest bl (t)) hx2 (11) (t + 1) 214 bx).mono ?_
  rintro e w3 ⟨⟨rfl, hb3, hk3⟩, hc3⟩
  have HB3 := Lib.hid hb3
  have HK3 := Lib.hid hk3
  have HC3 := Lib.hid hc3
  clear hb3 hk3 hc3 hx2
  go_wp2
  go_end0
  exact ⟨rfl, _, HB3.out, HC3.out, (HK1.out.trans (HQ.out.mono (by simp))).trans HK3.out⟩

set_option maxRecDepth 100000 in
set_option maxHeartbeats 600000 in
theorem iput_lies {w : World} {bx bl : Nat} {c : Cfg} {f : Fl} (t : Int) (hx : Blk w bx (f.cells ++ iputRest bl (t))) (hl : LayAt w bl c) (hne : bl ≠ bx)  :
    Calls Try.prog 214 #[.pointer (some ⟨bx, 0, none⟩)] w
      (Sets bx ((f.on 4 (12) (0) (1) (mval 232 bx)).cells ++ iputRest bl (t)) w) := by
  have cx := hx.cell
  have fx := hx.free
  have lx := hx.lt
  have HX := Lib.hid hx
  have HL := Lib.hid hl
  unfold Fl.cells iputRest at cx
  clear hx hl
  go_enter Try.func214, Try.ntmps214
  go_wp2
  refine wp_kept_tail_at (w0 := w) (S := [bx]) (bx := bx) (cs := f.cells ++ iputRest bl (t)) 10 (by kernel_rfl) (by kernel_rfl) (by (repeat (first | with_reducible exact Keep.refl _ _ | with_reducible refine Keep.drewN ?_ | with_reducible refine Keep.drew ?_ | with_reducible refine Keep.alloc ?_ | (with_reducible refine Keep.set ?_ (by simp)) | (with_reducible refine Keep.setNew ?_ (by simp; done)) | (with_reducible refine Keep.setNew ?_ (by simp; omega))))) (by have hx2 := HX.out; (repeat (first | with_reducible exact hx2 | with_reducible apply Blk.drewN | with_reducible apply Blk.drew | with_reducible apply Blk.alloc | with_reducible apply Blk.set | (with_reducible apply Blk.other; rotate_left; (first | assumption | (simp; omega)); rotate_right) | with_reducible rfl | rfl | (simp [Fl.cells, iputRest]; done)))) ?_
  intro w1 hk1 hx1 cx1
  have HX1 := Lib.hid hx1
  have HK1 := Lib.hid hk1
  have HL1 := Lib.hid (HL.out.keep hk1 (by simp [hne]))
  clear hx1 hk1
  simp only [Fl.cells, iputRest, List.cons_append, List.nil_append] at cx1
  simp only [List.take_succ_cons, List.take_zero, List.drop_succ_cons, List.drop_zero]
  repeat (quiet_step (first | exact calls_kept (Calls.swap_eq (lay_word (HL1.out.kept _) 12 (by decide) (by decide)))))
  refine wpQuiet_nil ?_
  rintro _ ⟨⟨wq, hkq⟩, rfl⟩
  have HQ := Lib.hid hkq
  clear hkq
  go_wp2_with fail
  have hx2 := HX1.out.keep HQ.out (by simp)
  refine (flow_add (f := f) (rest := iputRest bl (t)) hx2 (12) (1) 232 bx).mono ?_
  rintro e w3 ⟨rfl, hb3, hk3⟩
  have HB3 := Lib.hid hb3
  have HK3 := Lib.hid hk3
  clear hb3 hk3 hx2
  go_wp2
  go_end0
  exact ⟨rfl, HB3.out, (HK1.out.trans (HQ.out.mono (by simp))).trans HK3.out⟩

/-- What a machine of idlem holds behind its flow. -/
def igetRest (bl : Nat) (word : Int) (t : Int) : List Value := [.pointer (some ⟨bl, 0, none⟩), .int .u64 word, .int .i64 t]

set_option maxRecDepth 100000 in
set_option maxHeartbeats 600000 in
theorem iget_first_no {w : World} {bx bl : Nat} {c : Cfg} {f : Fl} (word : Int) (t : Int) (hx : Blk w bx (f.cells ++ igetRest bl (word) (t))) (hl : LayAt w bl c) (hne : bl ≠ bx) (v : Int) (hv : v = 0) :
    Calls Try.prog 134 #[.pointer (some ⟨bx, 0, none⟩), .int .u64 v] w
      (Sets bx ((f.on 1 (15) (0) (0) (mval 185 bx)).cells ++ igetRest bl (0) (t)) w) := by
  have cx := hx.cell
  have fx := hx.free
  have lx := hx.lt
  have HX := Lib.hid hx
  have HL := Lib.hid hl
  unfold Fl.cells igetRest at cx
  clear hx hl
  subst hv
  go_enter Try.func134, Try.ntmps134
  go_wp2
  refine wp_kept_tail_at (w0 := w) (S := [bx]) (bx := bx) (cs := f.cells ++ igetRest bl (0) (t)) 10 (by kernel_rfl) (by kernel_rfl) (by (repeat (first | with_reducible exact Keep.refl _ _ | with_reducible refine Keep.drewN ?_ | with_reducible refine Keep.drew ?_ | with_reducible refine Keep.alloc ?_ | (with_reducible refine Keep.set ?_ (by simp)) | (with_reducible refine Keep.setNew ?_ (by simp; done)) | (with_reducible refine Keep.setNew ?_ (by simp; omega))))) (by have hx2 := HX.out; (repeat (first | with_reducible exact hx2 | with_reducible apply Blk.drewN | with_reducible apply Blk.drew | with_reducible apply Blk.alloc | with_reducible apply Blk.set | (with_reducible apply Blk.other; rotate_left; (first | assumption | (simp; omega)); rotate_right) | with_reducible rfl | rfl | (simp [Fl.cells, igetRest]; done)))) ?_
  intro w1 hk1 hx1 cx1
  have HX1 := Lib.hid hx1
  have HK1 := Lib.hid hk1
  have HL1 := Lib.hid (HL.out.keep hk1 (by simp [hne]))
  clear hx1 hk1
  simp only [Fl.cells, igetRest, List.cons_append, List.nil_append] at cx1
  simp only [List.take_succ_cons, List.take_zero, List.drop_succ_cons, List.drop_zero]
  repeat (quiet_step (first | exact calls_kept (Calls.swap_eq (lay_word (HL1.out.kept _) 15 (by decide) (by decide)))))
  refine wpQuiet_nil ?_
  rintro _ ⟨⟨wq, hkq⟩, rfl⟩
  have HQ := Lib.hid hkq
  clear hkq
  go_wp2_with fail
  have hx2 := HX1.out.keep HQ.out (by simp)
  refine (flow_load (f := f) (rest := igetRest bl (0) (t)) hx2 (15) 185 bx).mono ?_
  rintro e w3 ⟨rfl, hb3, hk3⟩
  have HB3 := Lib.hid hb3
  have HK3 := Lib.hid hk3
  clear hb3 hk3 hx2
  go_wp2
  go_end0
  exact ⟨rfl, HB3.out, (HK1.out.trans (HQ.out.mono (by simp))).trans HK3.out⟩

set_option maxRecDepth 100000 in
set_option maxHeartbeats 600000 in
theorem iget_more_no {w : World} {bx bl : Nat} {c : Cfg} {f : Fl} (word : Int) (t : Int) (hx : Blk w bx (f.cells ++ igetRest bl (word) (t))) (hl : LayAt w bl c) (_hne : bl ≠ bx) (v : Int) (hv : c.threads ≤ v) :
    Calls Try.prog 185 #[.pointer (some ⟨bx, 0, none⟩), .int .u64 v] w
      (fun e w' => e = .returned (.tuple #[]) ∧ Blk w' bx (f.cells ++ igetRest bl (word) (t)) ∧ Keep [bx] w w') := by
  have cx := hx.cell
  have fx := hx.free
  have lx := hx.lt
  have HX := Lib.hid hx
  have HL := Lib.hid hl
  unfold Fl.cells igetRest at cx
  clear hx hl
  obtain ⟨p0, p1, t0, t1, g0, g1⟩ := HL.out.right
  have hq : decide (v < c.threads) = false := by simp; omega
  go_enter Try.func185, Try.ntmps185
  go_wp2_with fail
  refine (lay_config HL.out).mono ?_
  rintro e wc ⟨rfl, hkc⟩
  have HKC := Lib.hid (hkc.mono (S' := [bx]) (by simp))
  have hxc := HX.out.keep hkc (by simp)
  have HX := Lib.hid hxc
  have cx := hxc.cell
  have fx := hxc.free
  have lx := hxc.lt
  simp only [Fl.cells, igetRest, List.cons_append, List.nil_append] at cx
  clear hkc hxc
  go_wp2
  go_end0
  exact ⟨rfl, by have hx2 := HX.out; (repeat (first | with_reducible exact hx2 | with_reducible apply Blk.drewN | with_reducible apply Blk.drew | with_reducible apply Blk.alloc | with_reducible apply Blk.set | (with_reducible apply Blk.other; rotate_left; (first | assumption | (simp; omega)); rotate_right) | with_reducible rfl | rfl | (simp [Fl.cells, igetRest]; done))), by (repeat (first | with_reducible exact HKC.out | with_reducible exact Keep.refl _ _ | with_reducible refine Keep.drewN ?_ | with_reducible refine Keep.drew ?_ | with_reducible refine Keep.alloc ?_ | (with_reducible refine Keep.set ?_ (by simp)) | (with_reducible refine Keep.setNew ?_ (by simp; done)) | (with_reducible refine Keep.setNew ?_ (by simp; omega))))⟩

set_option maxRecDepth 100000 in
set_option maxHeartbeats 600000 in
theorem iget_more_yes {w : World} {bx bl : Nat} {c : Cfg} {f : Fl} (word : Int) (t : Int) (hx : Blk w bx (f.cells ++ igetRest bl (word) (t))) (hl : LayAt w bl c) (hne : bl ≠ bx) (v : Int) (v0 : 0 ≤ v) (hv : v < c.threads) :
    Calls Try.prog 185 #[.pointer (some ⟨bx, 0, none⟩), .int .u64 v] w
      (SetsB bx (fun bc => (f.on 2 (15) (0) (v + 1) (cval 181 bc)).cells ++ igetRest bl (v + 1) (t)) (mval 215 bx) w) := by
  have cx := hx.cell
  have fx := hx.free
  have lx := hx.lt
  have HX := Lib.hid hx
  have HL := Lib.hid hl
  unfold Fl.cells igetRest at cx
  clear hx hl
  obtain ⟨p0, p1, t0, t1, g0, g1⟩ := HL.out.right
  have hq : decide (v < c.threads) = true := by simpa using hv
  go_enter Try.func185, Try.ntmps185
  go_wp2_with fail
  refine (lay_config HL.out).mono ?_
  rintro e wc ⟨rfl, hkc⟩
  have HKC := Lib.hid (hkc.mono (S' := [bx]) (by simp))
  have hxc := HX.out.keep hkc (by simp)
  have HX := Lib.hid hxc
  have cx := hxc.cell
  have fx := hxc.free
  have lx := hxc.lt
  simp only [Fl.cells, igetRest, List.cons_append, List.nil_append] at cx
  clear hkc hxc
  go_wp2
  refine wp_kept_tail_at (w0 := w) (S := [bx]) (bx := bx) (cs := f.cells ++ igetRest bl (v + 1) (t)) 12 (by kernel_rfl) (by kernel_rfl) (by (repeat (first | with_reducible exact HKC.out | with_reducible exact Keep.refl _ _ | with_reducible refine Keep.drewN ?_ | with_reducible refine Keep.drew ?_ | with_reducible refine Keep.alloc ?_ | (with_reducible refine Keep.set ?_ (by simp)) | (with_reducible refine Keep.setNew ?_ (by simp; done)) | (with_reducible refine Keep.setNew ?_ (by simp; omega))))) (by have hx2 := HX.out; (repeat (first | with_reducible exact hx2 | with_reducible apply Blk.drewN | with_reducible apply Blk.drew | with_reducible apply Blk.alloc | with_reducible apply Blk.set | (with_reducible apply Blk.other; rotate_left; (first | assumption | (simp; omega)); rotate_right) | with_reducible rfl | rfl | (simp [Fl.cells, igetRest]; done)))) ?_
  intro w1 hk1 hx1 cx1
  have HX1 := Lib.hid hx1
  have HK1 := Lib.hid hk1
  have HL1 := Lib.hid (HL.out.keep hk1 (by simp [hne]))
  clear hx1 hk1
  simp only [Fl.cells, igetRest, List.cons_append, List.nil_append] at cx1
  simp only [List.take_succ_cons, List.take_zero, List.drop_succ_cons, List.drop_zero]
  repeat (quiet_step (first | exact calls_kept (Calls.swap_eq (lay_word (HL1.out.kept _) 15 (by decide) (by decide)))))
  refine wpQuiet_nil ?_
  rintro _ ⟨⟨wq, hkq⟩, rfl⟩
  have HQ := Lib.hid hkq
  clear hkq
  go_wp2_with fail
  have hx2 := HX1.out.keep HQ.out (by simp)
  refine (flow_store (f := f) (rest := igetRest bl (v + 1) (t)) hx2 (15) (v + 1) 215 bx).mono ?_
  rintro e w3 ⟨⟨rfl, hb3, hk3⟩, hc3⟩
  have HB3 := Lib.hid hb3
  have HK3 := Lib.hid hk3
  have HC3 := Lib.hid hc3
  clear hb3 hk3 hc3 hx2
  go_wp2
  go_end0
  exact ⟨rfl, _, HB3.out, HC3.out, (HK1.out.trans (HQ.out.mono (by simp))).trans HK3.out⟩

set_option maxRecDepth 100000 in
set_option maxHeartbeats 600000 in
theorem iget_first_a {w : World} {bx bl : Nat} {c : Cfg} {f : Fl} (word : Int) (t : Int) (hx : Blk w bx (f.cells ++ igetRest bl (word) (t))) (hl : LayAt w bl c) (hne : bl ≠ bx) (v : Int) (v0 : 0 < v) (v1 : v < 9223372036854775808) :
    Calls Try.prog 134 #[.pointer (some ⟨bx, 0, none⟩), .int .u64 v] w
      (Sets bx ((f.on 1 (c.thread (v - 1) 2) (0) (0) (mval 186 bx)).cells ++ igetRest bl (v) (t)) w) := by
  have cx := hx.cell
  have fx := hx.free
  have lx := hx.lt
  have HX := Lib.hid hx
  have HL := Lib.hid hl
  unfold Fl.cells igetRest at cx
  clear hx hl
  have hz : (v == 0) = false := by simp; omega
  have hw1 : IntKind.i64.wrap v = v := wrap_in (by omega) (by omega)
  have hw2 : IntKind.i64.wrap (v - 1) = v - 1 := wrap_in (by omega) (by omega)
  go_enter Try.func134, Try.ntmps134
  go_wp2
  refine wp_kept_tail_at (w0 := w) (S := [bx]) (bx := bx) (cs := f.cells ++ igetRest bl (v) (t)) 13 (by kernel_rfl) (by kernel_rfl) (by (repeat (first | with_reducible exact Keep.refl _ _ | with_reducible refine Keep.drewN ?_ | with_reducible refine Keep.drew ?_ | with_reducible refine Keep.alloc ?_ | (with_reducible refine Keep.set ?_ (by simp)) | (with_reducible refine Keep.setNew ?_ (by simp; done)) | (with_reducible refine Keep.setNew ?_ (by simp; omega))))) (by have hx2 := HX.out; (repeat (first | with_reducible exact hx2 | with_reducible apply Blk.drewN | with_reducible apply Blk.drew | with_reducible apply Blk.alloc | with_reducible apply Blk.set | (with_reducible apply Blk.other; rotate_left; (first | assumption | (simp; omega)); rotate_right) | with_reducible rfl | rfl | (simp [Fl.cells, igetRest]; done)))) ?_
  intro w1 hk1 hx1 cx1
  have HX1 := Lib.hid hx1
  have HK1 := Lib.hid hk1
  have HL1 := Lib.hid (HL.out.keep hk1 (by simp [hne]))
  clear hx1 hk1
  simp only [Fl.cells, igetRest, List.cons_append, List.nil_append] at cx1
  simp only [List.take_succ_cons, List.take_zero, List.drop_succ_cons, List.drop_zero]
  repeat (quiet_step (first | exact calls_kept (lay_thread (HL1.out.kept _) (v - 1) 2 (by decide) (by decide))))
  refine wpQuiet_nil ?_
  rintro _ ⟨⟨wq, hkq⟩, rfl⟩
  have HQ := Lib.hid hkq
  clear hkq
  go_wp2_with fail
  have hx2 := HX1.out.keep HQ.out (by simp)
  refine (flow_load (f := f) (rest := igetRest bl (v) (t)) hx2 (c.thread (v - 1) 2) 186 bx).mono ?_
  rintro e w3 ⟨rfl, hb3, hk3⟩
  have HB3 := Lib.hid hb3
  have HK3 := Lib.hid hk3
  clear hb3 hk3 hx2
  go_wp2
  go_end0
  exact ⟨rfl, HB3.out, (HK1.out.trans (HQ.out.mono (by simp))).trans HK3.out⟩

set_option maxRecDepth 100000 in
set_option maxHeartbeats 600000 in
theorem iget_first_b {w : World} {bx bl : Nat} {c : Cfg} {f : Fl} (word : Int) (t : Int) (hx : Blk w bx (f.cells ++ igetRest bl (word) (t))) (hl : LayAt w bl c) (hne : bl ≠ bx) (v : Int) (hv : v = 9223372036854775808) :
    Calls Try.prog 134 #[.pointer (some ⟨bx, 0, none⟩), .int .u64 v] w
      (Sets bx ((f.on 1 (c.thread (9223372036854775807) 2) (0) (0) (mval 186 bx)).cells ++ igetRest bl (9223372036854775808) (t)) w) := by
  have cx := hx.cell
  have fx := hx.free
  have lx := hx.lt
  have HX := Lib.hid hx
  have HL := Lib.hid hl
  unfold Fl.cells igetRest at cx
  clear hx hl
  subst hv
  have hw1 : IntKind.i64.wrap 9223372036854775808 = -9223372036854775808 := by decide
  have hw2 : IntKind.i64.wrap (-9223372036854775809) = 9223372036854775807 := by decide
  go_enter Try.func134, Try.ntmps134
  go_wp2
  refine wp_kept_tail_at (w0 := w) (S := [bx]) (bx := bx) (cs := f.cells ++ igetRest bl (9223372036854775808) (t)) 13 (by kernel_rfl) (by kernel_rfl) (by (repeat (first | with_reducible exact Keep.refl _ _ | with_reducible refine Keep.drewN ?_ | with_reducible refine Keep.drew ?_ | with_reducible refine Keep.alloc ?_ | (with_reducible refine Keep.set ?_ (by simp)) | (with_reducible refine Keep.setNew ?_ (by simp; done)) | (with_reducible refine Keep.setNew ?_ (by simp; omega))))) (by have hx2 := HX.out; (repeat (first | with_reducible exact hx2 | with_reducible apply Blk.drewN | with_reducible apply Blk.drew | with_reducible apply Blk.alloc | with_reducible apply Blk.set | (with_reducible apply Blk.other; rotate_left; (first | assumption | (simp; omega)); rotate_right) | with_reducible rfl | rfl | (simp [Fl.cells, igetRest]; done)))) ?_
  intro w1 hk1 hx1 cx1
  have HX1 := Lib.hid hx1
  have HK1 := Lib.hid hk1
  have HL1 := Lib.hid (HL.out.keep hk1 (by simp [hne]))
  clear hx1 hk1
  simp only [Fl.cells, igetRest, List.cons_append, List.nil_append] at cx1
  simp only [List.take_succ_cons, List.take_zero, List.drop_succ_cons, List.drop_zero]
  repeat (quiet_step (first | exact calls_kept (lay_thread (HL1.out.kept _) (9223372036854775807) 2 (by decide) (by decide))))
  refine wpQuiet_nil ?_
  rintro _ ⟨⟨wq, hkq⟩, rfl⟩
  have HQ := Lib.hid hkq
  clear hkq
  go_wp2_with fail
  have hx2 := HX1.out.keep HQ.out (by simp)
  refine (flow_load (f := f) (rest := igetRest bl (9223372036854775808) (t)) hx2 (c.thread (9223372036854775807) 2) 186 bx).mono ?_
  rintro e w3 ⟨rfl, hb3, hk3⟩
  have HB3 := Lib.hid hb3
  have HK3 := Lib.hid hk3
  clear hb3 hk3 hx2
  go_wp2
  go_end0
  exact ⟨rfl, HB3.out, (HK1.out.trans (HQ.out.mono (by simp))).trans HK3.out⟩

set_option maxRecDepth 100000 in
set_option maxHeartbeats 600000 in
theorem iget_first_c {w : World} {bx bl : Nat} {c : Cfg} {f : Fl} (word : Int) (t : Int) (hx : Blk w bx (f.cells ++ igetRest bl (word) (t))) (hl : LayAt w bl c) (hne : bl ≠ bx) (v : Int) (v0 : 9223372036854775808 < v) (v1 : v < 18446744073709551616) :
    Calls Try.prog 134 #[.pointer (some ⟨bx, 0, none⟩), .int .u64 v] w
      (Sets bx ((f.on 1 (c.thread (v - 18446744073709551617) 2) (0) (0) (mval 186 bx)).cells ++ igetRest bl (v) (t)) w) := by
  have cx := hx.cell
  have fx := hx.free
  have lx := hx.lt
  have HX := Lib.hid hx
  have HL := Lib.hid hl
  unfold Fl.cells igetRest at cx
  clear hx hl
  have hz : (v == 0) = false := by simp; omega
  have hw1 : IntKind.i64.wrap v = v - 18446744073709551616 := wrap_out (by omega) (by omega)
  have hw2 : IntKind.i64.wrap (v - 18446744073709551616 - 1) = v - 18446744073709551617 := by rw [wrap_in (by omega) (by omega)]; omega
  go_enter Try.func134, Try.ntmps134
  go_wp2
  refine wp_kept_tail_at (w0 := w) (S := [bx]) (bx := bx) (cs := f.cells ++ igetRest bl (v) (t)) 13 (by kernel_rfl) (by kernel_rfl) (by (repeat (first | with_reducible exact Keep.refl _ _ | with_reducible refine Keep.drewN ?_ | with_reducible refine Keep.drew ?_ | with_reducible refine Keep.alloc ?_ | (with_reducible refine Keep.set ?_ (by simp)) | (with_reducible refine Keep.setNew ?_ (by simp; done)) | (with_reducible refine Keep.setNew ?_ (by simp; omega))))) (by have hx2 := HX.out; (repeat (first | with_reducible exact hx2 | with_reducible apply Blk.drewN | with_reducible apply Blk.drew | with_reducible apply Blk.alloc | with_reducible apply Blk.set | (with_reducible apply Blk.other; rotate_left; (first | assumption | (simp; omega)); rotate_right) | with_reducible rfl | rfl | (simp [Fl.cells, igetRest]; done)))) ?_
  intro w1 hk1 hx1 cx1
  have HX1 := Lib.hid hx1
  have HK1 := Lib.hid hk1
  have HL1 := Lib.hid (HL.out.keep hk1 (by simp [hne]))
  clear hx1 hk1
  simp only [Fl.cells, igetRest, List.cons_append, List.nil_append] at cx1
  simp only [List.take_succ_cons, List.take_zero, List.drop_succ_cons, List.drop_zero]
  repeat (quiet_step (first | exact calls_kept (lay_thread (HL1.out.kept _) (v - 18446744073709551617) 2 (by decide) (by decide))))
  refine wpQuiet_nil ?_
  rintro _ ⟨⟨wq, hkq⟩, rfl⟩
  have HQ := Lib.hid hkq
  clear hkq
  go_wp2_with fail
  have hx2 := HX1.out.keep HQ.out (by simp)
  refine (flow_load (f := f) (rest := igetRest bl (v) (t)) hx2 (c.thread (v - 18446744073709551617) 2) 186 bx).mono ?_
  rintro e w3 ⟨rfl, hb3, hk3⟩
  have HB3 := Lib.hid hb3
  have HK3 := Lib.hid hk3
  clear hb3 hk3 hx2
  go_wp2
  go_end0
  exact ⟨rfl, HB3.out, (HK1.out.trans (HQ.out.mono (by simp))).trans HK3.out⟩

theorem iget_first {w : World} {bx bl : Nat} {c : Cfg} {f : Fl} (word t : Int) (hx : Blk w bx (f.cells ++ igetRest bl word t)) (hl : LayAt w bl c) (hne : bl ≠ bx) (v : Int) (hv : v ≠ 0) (v0 : 0 ≤ v) (v1 : v < 18446744073709551616) :
    Calls Try.prog 134 #[.pointer (some ⟨bx, 0, none⟩), .int .u64 v] w (Sets bx ((f.on 1 (c.thread (less1 v) 2) 0 0 (mval 186 bx)).cells ++ igetRest bl v t) w) := by
  unfold less1
  split
  · exact iget_first_a word t hx hl hne v (by omega) (by omega)
  · split
    · rename_i h
      subst h
      exact iget_first_b word t hx hl hne _ rfl
    · exact iget_first_c word t hx hl hne v (by omega) (by omega)

set_option maxRecDepth 100000 in
set_option maxHeartbeats 600000 in
theorem iget_second {w : World} {bx bl : Nat} {c : Cfg} {f : Fl} (word : Int) (t : Int) (hx : Blk w bx (f.cells ++ igetRest bl (word) (t))) (hl : LayAt w bl c) (hne : bl ≠ bx) (v : Int)  :
    Calls Try.prog 186 #[.pointer (some ⟨bx, 0, none⟩), .int .u64 v] w
      (SetsB bx (fun bc => (f.on 2 (11) (0) (v) (cval 181 bc)).cells ++ igetRest bl (word) (t)) (mval 216 bx) w) := by
  have cx := hx.cell
  have fx := hx.free
  have lx := hx.lt
  have HX := Lib.hid hx
  have HL := Lib.hid hl
  unfold Fl.cells igetRest at cx
  clear hx hl
  go_enter Try.func186, Try.ntmps186
  go_wp2
  refine wp_kept_tail_at (w0 := w) (S := [bx]) (bx := bx) (cs := f.cells ++ igetRest bl (word) (t)) 11 (by kernel_rfl) (by kernel_rfl) (by (repeat (first | with_reducible exact Keep.refl _ _ | with_reducible refine Keep.drewN ?_ | with_reducible refine Keep.drew ?_ | with_reducible refine Keep.alloc ?_ | (with_reducible refine Keep.set ?_ (by simp)) | (with_reducible refine Keep.setNew ?_ (by simp; done)) | (with_reducible refine Keep.setNew ?_ (by simp; omega))))) (by have hx2 := HX.out; (repeat (first | with_reducible exact hx2 | with_reducible apply Blk.drewN | with_reducible apply Blk.drew | with_reducible apply Blk.alloc | with_reducible apply Blk.set | (with_reducible apply Blk.other; rotate_left; (first | assumption | (simp; omega)); rotate_right) | with_reducible rfl | rfl | (simp [Fl.cells, igetRest]; done)))) ?_
  intro w1 hk1 hx1 cx1
  have HX1 := Lib.hid hx1
  have HK1 := Lib.hid hk1
  have HL1 := Lib.hid (HL.out.keep hk1 (by simp [hne]))
  clear hx1 hk1
  simp only [Fl.cells, igetRest, List.cons_append, List.nil_append] at cx1
  simp only [List.take_succ_cons, List.take_zero, List.drop_succ_cons, List.drop_zero]
  repeat (quiet_step (first | exact calls_kept (Calls.swap_eq (lay_word (HL1.out.kept _) 11 (by decide) (by decide)))))
  refine wpQuiet_nil ?_
  rintro _ ⟨⟨wq, hkq⟩, rfl⟩
  have HQ := Lib.hid hkq
  clear hkq
  go_wp2_with fail
  have hx2 := HX1.out.keep HQ.out (by simp)
  refine (flow_store (f := f) (rest := igetRest bl (word) (t)) hx2 (11) (v) 216 bx).mono ?_
  rintro e w3 ⟨⟨rfl, hb3, hk3⟩, hc3⟩
  have HB3 := Lib.hid hb3
  have HK3 := Lib.hid hk3
  have HC3 := Lib.hid hc3
  clear hb3 hk3 hc3 hx2
  go_wp2
  go_end0
  exact ⟨rfl, _, HB3.out, HC3.out, (HK1.out.trans (HQ.out.mono (by simp))).trans HK3.out⟩

set_option maxRecDepth 100000 in
set_option maxHeartbeats 600000 in
theorem iget_got_a {w : World} {bx bl : Nat} {c : Cfg} {f : Fl} (word : Int) (t : Int) (hx : Blk w bx (f.cells ++ igetRest bl (word) (t))) (hl : LayAt w bl c) (hne : bl ≠ bx) (v0 : 0 < word) (v1 : word < 9223372036854775808) :
    Calls Try.prog 216 #[.pointer (some ⟨bx, 0, none⟩)] w
      (Sets bx ((f.on 4 (12) (0) (4294967295) (mval 233 bx)).cells ++ igetRest bl (word) (word - 1)) w) := by
  have cx := hx.cell
  have fx := hx.free
  have lx := hx.lt
  have HX := Lib.hid hx
  have HL := Lib.hid hl
  unfold Fl.cells igetRest at cx
  clear hx hl
  have hw1 : IntKind.i64.wrap word = word := wrap_in (by omega) (by omega)
  have hw2 : IntKind.i64.wrap (word - 1) = word - 1 := wrap_in (by omega) (by omega)
  go_enter Try.func216, Try.ntmps216
  go_wp2
  refine wp_kept_tail_at (w0 := w) (S := [bx]) (bx := bx) (cs := f.cells ++ igetRest bl (word) (word - 1)) 10 (by kernel_rfl) (by kernel_rfl) (by (repeat (first | with_reducible exact Keep.refl _ _ | with_reducible refine Keep.drewN ?_ | with_reducible refine Keep.drew ?_ | with_reducible refine Keep.alloc ?_ | (with_reducible refine Keep.set ?_ (by simp)) | (with_reducible refine Keep.setNew ?_ (by simp; done)) | (with_reducible refine Keep.setNew ?_ (by simp; omega))))) (by have hx2 := HX.out; (repeat (first | with_reducible exact hx2 | with_reducible apply Blk.drewN | with_reducible apply Blk.drew | with_reducible apply Blk.alloc | with_reducible apply Blk.set | (with_reducible apply Blk.other; rotate_left; (first | assumption | (simp; omega)); rotate_right) | with_reducible rfl | rfl | (simp [Fl.cells, igetRest]; done)))) ?_
  intro w1 hk1 hx1 cx1
  have HX1 := Lib.hid hx1
  have HK1 := Lib.hid hk1
  have HL1 := Lib.hid (HL.out.keep hk1 (by simp [hne]))
  clear hx1 hk1
  simp only [Fl.cells, igetRest, List.cons_append, List.nil_append] at cx1
  simp only [List.take_succ_cons, List.take_zero, List.drop_succ_cons, List.drop_zero]
  repeat (quiet_step (first | exact calls_kept (Calls.swap_eq (lay_word (HL1.out.kept _) 12 (by decide) (by decide)))))
  refine wpQuiet_nil ?_
  rintro _ ⟨⟨wq, hkq⟩, rfl⟩
  have HQ := Lib.hid hkq
  clear hkq
  go_wp2_with fail
  have hx2 := HX1.out.keep HQ.out (by simp)
  refine (flow_add (f := f) (rest := igetRest bl (word) (word - 1)) hx2 (12) (4294967295) 233 bx).mono ?_
  rintro e w3 ⟨rfl, hb3, hk3⟩
  have HB3 := Lib.hid hb3
  have HK3 := Lib.hid hk3
  clear hb3 hk3 hx2
  go_wp2
  go_end0
  exact ⟨rfl, HB3.out, (HK1.out.trans (HQ.out.mono (by simp))).trans HK3.out⟩

set_option maxRecDepth 100000 in
set_option maxHeartbeats 600000 in
theorem iget_made_a {w : World} {bx bl : Nat} {c : Cfg} {f : Fl} (word : Int) (t : Int) (hx : Blk w bx (f.cells ++ igetRest bl (word) (t))) (hl : LayAt w bl c) (_hne : bl ≠ bx) (v0 : 0 < word) (v1 : word < 9223372036854775808) :
    Calls Try.prog 215 #[.pointer (some ⟨bx, 0, none⟩)] w
      (fun e w' => e = .returned (.tuple #[]) ∧ Blk w' bx (f.cells ++ igetRest bl (word) (word - 1)) ∧ Keep [bx] w w') := by
  have cx := hx.cell
  have fx := hx.free
  have lx := hx.lt
  have HX := Lib.hid hx
  have HL := Lib.hid hl
  unfold Fl.cells igetRest at cx
  clear hx hl
  have hw1 : IntKind.i64.wrap word = word := wrap_in (by omega) (by omega)
  have hw2 : IntKind.i64.wrap (word - 1) = word - 1 := wrap_in (by omega) (by omega)
  go_enter Try.func215, Try.ntmps215
  go_wp2
  go_end0
  exact ⟨rfl, by have hx2 := HX.out; (repeat (first | with_reducible exact hx2 | with_reducible apply Blk.drewN | with_reducible apply Blk.drew | with_reducible apply Blk.alloc | with_reducible apply Blk.set | (with_reducible apply Blk.other; rotate_left; (first | assumption | (simp; omega)); rotate_right) | with_reducible rfl | rfl | (simp [Fl.cells, igetRest]; done))), by (repeat (first | with_reducible exact Keep.refl _ _ | with_reducible refine Keep.drewN ?_ | with_reducible refine Keep.drew ?_ | with_reducible refine Keep.alloc ?_ | (with_reducible refine Keep.set ?_ (by simp)) | (with_reducible refine Keep.setNew ?_ (by simp; done)) | (with_reducible refine Keep.setNew ?_ (by simp; omega))))⟩

set_option maxRecDepth 100000 in
set_option maxHeartbeats 600000 in
theorem iget_got_b {w : World} {bx bl : Nat} {c : Cfg} {f : Fl} (word : Int) (t : Int) (hx : Blk w bx (f.cells ++ igetRest bl (word) (t))) (hl : LayAt w bl c) (hne : bl ≠ bx) (hv : word = 9223372036854775808) :
    Calls Try.prog 216 #[.pointer (some ⟨bx, 0, none⟩)] w
      (Sets bx ((f.on 4 (12) (0) (4294967295) (mval 233 bx)).cells ++ igetRest bl (9223372036854775808) (9223372036854775807)) w) := by
  have cx := hx.cell
  have fx := hx.free
  have lx := hx.lt
  have HX := Lib.hid hx
  have HL := Lib.hid hl
  unfold Fl.cells igetRest at cx
  clear hx hl
  subst hv
  have hw1 : IntKind.i64.wrap 9223372036854775808 = -9223372036854775808 := by decide
  have hw2 : IntKind.i64.wrap (-9223372036854775809) = 9223372036854775807 := by decide
  go_enter Try.func216, Try.ntmps216
  go_wp2
  refine wp_kept_tail_at (w0 := w) (S := [bx]) (bx := bx) (cs := f.cells ++ igetRest bl (9223372036854775808) (9223372036854775807)) 10 (by kernel_rfl) (by kernel_rfl) (by (repeat (first | with_reducible exact Keep.refl _ _ | with_reducible refine Keep.drewN ?_ | with_reducible refine Keep.drew ?_ | with_reducible refine Keep.alloc ?_ | (with_reducible refine Keep.set ?_ (by simp)) | (with_reducible refine Keep.setNew ?_ (by simp; done)) | (with_reducible refine Keep.setNew ?_ (by simp; omega))))) (by have hx2 := HX.out; (repeat (first | with_reducible exact hx2 | with_reducible apply Blk.drewN | with_reducible apply Blk.drew | with_reducible apply Blk.alloc | with_reducible apply Blk.set | (with_reducible apply Blk.other; rotate_left; (first | assumption | (simp; omega)); rotate_right) | with_reducible rfl | rfl | (simp [Fl.cells, igetRest]; done)))) ?_
  intro w1 hk1 hx1 cx1
  have HX1 := Lib.hid hx1
  have HK1 := Lib.hid hk1
  have HL1 := Lib.hid (HL.out.keep hk1 (by simp [hne]))
  clear hx1 hk1
  simp only [Fl.cells, igetRest, List.cons_append, List.nil_append] at cx1
  simp only [List.take_succ_cons, List.take_zero, List.drop_succ_cons, List.drop_zero]
  repeat (quiet_step (first | exact calls_kept (Calls.swap_eq (lay_word (HL1.out.kept _) 12 (by decide) (by decide)))))
  refine wpQuiet_nil ?_
  rintro _ ⟨⟨wq, hkq⟩, rfl⟩
  have HQ := Lib.hid hkq
  clear hkq
  go_wp2_with fail
  have hx2 := HX1.out.keep HQ.out (by simp)
  refine (flow_add (f := f) (rest := igetRest bl (9223372036854775808) (9223372036854775807)) hx2 (12) (4294967295) 233 bx).mono ?_
  rintro e w3 ⟨rfl, hb3, hk3⟩
  have HB3 := Lib.hid hb3
  have HK3 := Lib.hid hk3
  clear hb3 hk3 hx2
  go_wp2
  go_end0
  exact ⟨rfl, HB3.out, (HK1.out.trans (HQ.out.mono (by simp))).trans HK3.out⟩

set_option maxRecDepth 100000 in
set_option maxHeartbeats 600000 in
theorem iget_made_b {w : World} {bx bl : Nat} {c : Cfg} {f : Fl} (word : Int) (t : Int) (hx : Blk w bx (f.cells ++ igetRest bl (word) (t))) (hl : LayAt w bl c) (_hne : bl ≠ bx) (hv : word = 9223372036854775808) :
    Calls Try.prog 215 #[.pointer (some ⟨bx, 0, none⟩)] w
      (fun e w' => e = .returned (.tuple #[]) ∧ Blk w' bx (f.cells ++ igetRest bl (9223372036854775808) (9223372036854775807)) ∧ Keep [bx] w w') := by
  have cx := hx.cell
  have fx := hx.free
  have lx := hx.lt
  have HX := Lib.hid hx
  have HL := Lib.hid hl
  unfold Fl.cells igetRest at cx
  clear hx hl
  subst hv
  have hw1 : IntKind.i64.wrap 9223372036854775808 = -9223372036854775808 := by decide
  have hw2 : IntKind.i64.wrap (-9223372036854775809) = 9223372036854775807 := by decide
  go_enter Try.func215, Try.ntmps215
  go_wp2
  go_end0
  exact ⟨rfl, by have hx2 := HX.out; (repeat (first | with_reducible exact hx2 | with_reducible apply Blk.drewN | with_reducible apply Blk.drew | with_reducible apply Blk.alloc | with_reducible apply Blk.set | (with_reducible apply Blk.other; rotate_left; (first | assumption | (simp; omega)); rotate_right) | with_reducible rfl | rfl | (simp [Fl.cells, igetRest]; done))), by (repeat (first | with_reducible exact Keep.refl _ _ | with_reducible refine Keep.drewN ?_ | with_reducible refine Keep.drew ?_ | with_reducible refine Keep.alloc ?_ | (with_reducible refine Keep.set ?_ (by simp)) | (with_reducible refine Keep.setNew ?_ (by simp; done)) | (with_reducible refine Keep.setNew ?_ (by simp; omega))))⟩

set_option maxRecDepth 100000 in
set_option maxHeartbeats 600000 in
theorem iget_got_c {w : World} {bx bl : Nat} {c : Cfg} {f : Fl} (word : Int) (t : Int) (hx : Blk w bx (f.cells ++ igetRest bl (word) (t))) (hl : LayAt w bl c) (hne : bl ≠ bx) (v0 : 9223372036854775808 < word) (v1 : word < 18446744073709551616) :
    Calls Try.prog 216 #[.pointer (some ⟨bx, 0, none⟩)] w
      (Sets bx ((f.on 4 (12) (0) (4294967295) (mval 233 bx)).cells ++ igetRest bl (word) (word - 18446744073709551617)) w) := by
  have cx := hx.cell
  have fx := hx.free
  have lx := hx.lt
  have HX := Lib.hid hx
  have HL := Lib.hid hl
  unfold Fl.cells igetRest at cx
  clear hx hl
  have hw1 : IntKind.i64.wrap word = word - 18446744073709551616 := wrap_out (by omega) (by omega)
  have hw2 : IntKind.i64.wrap (word - 18446744073709551616 - 1) = word - 18446744073709551617 := by rw [wrap_in (by omega) (by omega)]; omega
  go_enter Try.func216, Try.ntmps216
  go_wp2
  refine wp_kept_tail_at (w0 := w) (S := [bx]) (bx := bx) (cs := f.cells ++ igetRest bl (word) (word - 18446744073709551617)) 10 (by kernel_rfl) (by kernel_rfl) (by (repeat (first | with_reducible exact Keep.refl _ _ | with_reducible refine Keep.drewN ?_ | with_reducible refine Keep.drew ?_ | with_reducible refine Keep.alloc ?_ | (with_reducible refine Keep.set ?_ (by simp)) | (with_reducible refine Keep.setNew ?_ (by simp; done)) | (with_reducible refine Keep.setNew ?_ (by simp; omega))))) (by have hx2 := HX.out; (repeat (first | with_reducible exact hx2 | with_reducible apply Blk.drewN | with_reducible apply Blk.drew | with_reducible apply Blk.alloc | with_reducible apply Blk.set | (with_reducible apply Blk.other; rotate_left; (first | assumption | (simp; omega)); rotate_right) | with_reducible rfl | rfl | (simp [Fl.cells, igetRest]; done)))) ?_
  intro w1 hk1 hx1 cx1
  have HX1 := Lib.hid hx1
  have HK1 := Lib.hid hk1
  have HL1 := Lib.hid (HL.out.keep hk1 (by simp [hne]))
  clear hx1 hk1
  simp only [Fl.cells, igetRest, List.cons_append, List.nil_append] at cx1
  simp only [List.take_succ_cons, List.take_zero, List.drop_succ_cons, List.drop_zero]
  repeat (quiet_step (first | exact calls_kept (Calls.swap_eq (lay_word (HL1.out.kept _) 12 (by decide) (by decide)))))
  refine wpQuiet_nil ?_
  rintro _ ⟨⟨wq, hkq⟩, rfl⟩
  have HQ := Lib.hid hkq
  clear hkq
  go_wp2_with fail
  have hx2 := HX1.out.keep HQ.out (by simp)
  refine (flow_add (f := f) (rest := igetRest bl (word) (word - 18446744073709551617)) hx2 (12) (4294967295) 233 bx).mono ?_
  rintro e w3 ⟨rfl, hb3, hk3⟩
  have HB3 := Lib.hid hb3
  have HK3 := Lib.hid hk3
  clear hb3 hk3 hx2
  go_wp2
  go_end0
  exact ⟨rfl, HB3.out, (HK1.out.trans (HQ.out.mono (by simp))).trans HK3.out⟩

set_option maxRecDepth 100000 in
set_option maxHeartbeats 600000 in
theorem iget_made_c {w : World} {bx bl : Nat} {c : Cfg} {f : Fl} (word : Int) (t : Int) (hx : Blk w bx (f.cells ++ igetRest bl (word) (t))) (hl : LayAt w bl c) (_hne : bl ≠ bx) (v0 : 9223372036854775808 < word) (v1 : word < 18446744073709551616) :
    Calls Try.prog 215 #[.pointer (some ⟨bx, 0, none⟩)] w
      (fun e w' => e = .returned (.tuple #[]) ∧ Blk w' bx (f.cells ++ igetRest bl (word) (word - 18446744073709551617)) ∧ Keep [bx] w w') := by
  have cx := hx.cell
  have fx := hx.free
  have lx := hx.lt
  have HX := Lib.hid hx
  have HL := Lib.hid hl
  unfold Fl.cells igetRest at cx
  clear hx hl
  have hw1 : IntKind.i64.wrap word = word - 18446744073709551616 := wrap_out (by omega) (by omega)
  have hw2 : IntKind.i64.wrap (word - 18446744073709551616 - 1) = word - 18446744073709551617 := by rw [wrap_in (by omega) (by omega)]; omega
  go_enter Try.func215, Try.ntmps215
  go_wp2
  go_end0
  exact ⟨rfl, by have hx2 := HX.out; (repeat (first | with_reducible exact hx2 | with_reducible apply Blk.drewN | with_reducible apply Blk.drew | with_reducible apply Blk.alloc | with_reducible apply Blk.set | (with_reducible apply Blk.other; rotate_left; (first | assumption | (simp; omega)); rotate_right) | with_reducible rfl | rfl | (simp [Fl.cells, igetRest]; done))), by (repeat (first | with_reducible exact Keep.refl _ _ | with_reducible refine Keep.drewN ?_ | with_reducible refine Keep.drew ?_ | with_reducible refine Keep.alloc ?_ | (with_reducible refine Keep.set ?_ (by simp)) | (with_reducible refine Keep.setNew ?_ (by simp; done)) | (with_reducible refine Keep.setNew ?_ (by simp; omega))))⟩

theorem iget_got {w : World} {bx bl : Nat} {c : Cfg} {f : Fl} (word t : Int) (hx : Blk w bx (f.cells ++ igetRest bl word t)) (hl : LayAt w bl c) (hne : bl ≠ bx) (hv : word ≠ 0) (v0 : 0 ≤ word) (v1 : word < 18446744073709551616) :
    Calls Try.prog 216 #[.pointer (some ⟨bx, 0, none⟩)] w (Sets bx ((f.on 4 12 0 4294967295 (mval 233 bx)).cells ++ igetRest bl word (less1 word)) w) := by
  unfold less1
  split
  · exact iget_got_a word t hx hl hne (by omega) (by omega)
  · split
    · rename_i h
      subst h
      exact iget_got_b _ t hx hl hne rfl
    · exact iget_got_c word t hx hl hne (by omega) (by omega)

theorem iget_made {w : World} {bx bl : Nat} {c : Cfg} {f : Fl} (word t : Int) (hx : Blk w bx (f.cells ++ igetRest bl word t)) (hl : LayAt w bl c) (hne : bl ≠ bx) (hv : word ≠ 0) (v0 : 0 ≤ word) (v1 : word < 18446744073709551616) :
    Calls Try.prog 215 #[.pointer (some ⟨bx, 0, none⟩)] w (fun e w' => e = .returned (.tuple #[]) ∧ Blk w' bx (f.cells ++ igetRest bl word (less1 word)) ∧ Keep [bx] w w') := by
  unfold less1
  split
  · exact iget_made_a word t hx hl hne (by omega) (by omega)
  · split
    · rename_i h
      subst h
      exact iget_made_b _ t hx hl hne rfl
    · exact iget_made_c word t hx hl hne (by omega) (by omega)

end Go.Proofs.Ytophgiocmldliaa
