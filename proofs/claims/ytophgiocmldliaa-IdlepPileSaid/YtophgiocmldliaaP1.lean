/- Package idlep: a bit; what each callback of a machine does to its flow and its fields. -/
import Derived.Test.YtophgiocmldliaaS2
import Derived.Laws.Bits
import Derived.Laws.BitsAll
import Derived.Laws.ShiftsVar
import Derived.Laws.ShiftsVarLaws
namespace Go.Proofs.Ytophgiocmldliaa
open Go.RowKit
/-- A processor's bit. -/
def bitI (p : Int) : Int := if 0 ≤ p ∧ p < 64 then 2 ^ p.toNat else 0
theorem bitI_range (p : Int) : 0 ≤ bitI p ∧ bitI p < 18446744073709551616 := by
  unfold bitI
  split
  · have h1 : (2 : Nat) ^ p.toNat < 2 ^ 64 := Nat.pow_lt_pow_right (by decide) (by omega)
    have h2 : ((2 : Int) ^ p.toNat) = ((2 ^ p.toNat : Nat) : Int) := by push_cast; rfl
    rw [h2]
    obtain ⟨k, hk⟩ : ∃ k : Nat, 2 ^ p.toNat = k := ⟨_, rfl⟩
    rw [hk] at h1 ⊢
    omega
  · decide

set_option maxRecDepth 100000 in
set_option maxHeartbeats 600000 in
theorem idlep_bit (p : Int) (w : World) : Calls Try.prog 187 #[.int .i64 p] w fun e w' => e = .returned (.int .u64 (bitI p)) ∧ w = w' := by
  unfold bitI
  by_cases h0 : p < 0
  · rw [if_neg (by omega)]
    have q : decide (p < 0) = true := by simpa using h0
    clear h0
    go_enter Try.func187, Try.ntmps187
    go_wp2
    go_ret
    exact ⟨rfl, rfl⟩
  · by_cases h1 : 64 ≤ p
    · rw [if_neg (by omega)]
      have q : decide (p < 0) = false := by simpa using h0
      have q1 : decide (64 ≤ p) = true := by simpa using h1
      clear h0 h1
      go_enter Try.func187, Try.ntmps187
      go_wp2
      go_ret
      exact ⟨rfl, rfl⟩
    · have hb := bitI_range p
      unfold bitI at hb
      rw [if_pos (by omega)] at hb ⊢
      have HWB : IntKind.u64.wrap (2 ^ p.toNat) = 2 ^ p.toNat := by
        have e : ∀ x : Int, IntKind.u64.wrap x = x % 18446744073709551616 := fun x => by simp [IntKind.wrap, IntKind.bits, IntKind.signed]
        rw [e]
        exact Int.emod_eq_of_lt hb.1 hb.2
      have q : decide (p < 0) = false := by simpa using h0
      have q1 : decide (64 ≤ p) = false := by simpa using h1
      have p0 : 0 ≤ p := by omega
      have p1 : p < 64 := by omega
      clear h0 h1 hb
      go_enter Try.func187, Try.ntmps187
      go_wp2
      go_ret
      exact ⟨rfl, rfl⟩

/-- What a machine of idlep holds behind its flow. -/
def pputRest (bl : Nat) (p : Int) (h : Int) : List Value := [.pointer (some ⟨bl, 0, none⟩), .int .i64 p, .int .i64 h]

set_option maxRecDepth 100000 in
set_option maxHeartbeats 600000 in
theorem pput_masks {w : World} {bx bl : Nat} {c : Cfg} {f : Fl} (p : Int) (h : Int) (hx : Blk w bx (f.cells ++ pputRest bl (p) (h))) (hl : LayAt w bl c) (hne : bl ≠ bx) (v : Int)  :
    Calls Try.prog 136 #[.pointer (some ⟨bx, 0, none⟩), .int .u64 v] w
      (SetsB bx (fun bc => (f.on 2 (19) (0) (bits .or .u64 v (bitI p)) (cval 181 bc)).cells ++ pputRest bl (p) (h)) (mval 188 bx) w) := by
  have cx := hx.cell
  have fx := hx.free
  have lx := hx.lt
  have HX := Lib.hid hx
  have HL := Lib.hid hl
  unfold Fl.cells pputRest at cx
  clear hx hl
  go_enter Try.func136, Try.ntmps136
  go_wp2
  refine wp_kept_tail_at (w0 := w) (S := [bx]) (bx := bx) (cs := f.cells ++ pputRest bl (p) (h)) 17 (by kernel_rfl) (by kernel_rfl) (by (repeat (first | with_reducible exact Keep.refl _ _ | with_reducible refine Keep.drewN ?_ | with_reducible refine Keep.drew ?_ | with_reducible refine Keep.alloc ?_ | (with_reducible refine Keep.set ?_ (by simp)) | (with_reducible refine Keep.setNew ?_ (by simp; done)) | (with_reducible refine Keep.setNew ?_ (by simp; omega))))) (by have hx2 := HX.out; (repeat (first | with_reducible exact hx2 | with_reducible apply Blk.drewN | with_reducible apply Blk.drew | with_reducible apply Blk.alloc | with_reducible apply Blk.set | (with_reducible apply Blk.other; rotate_left; (first | assumption | (simp; omega)); rotate_right) | with_reducible rfl | rfl | (simp [Fl.cells, pputRest]; done)))) ?_
  intro w1 hk1 hx1 cx1
  have HX1 := Lib.hid hx1
  have HK1 := Lib.hid hk1
  have HL1 := Lib.hid (HL.out.keep hk1 (by simp [hne]))
  clear hx1 hk1
  simp only [Fl.cells, pputRest, List.cons_append, List.nil_append] at cx1
  simp only [List.take_succ_cons, List.take_zero, List.drop_succ_cons, List.drop_zero]
  repeat (quiet_step (first | exact calls_kept (Calls.swap_eq (lay_word (HL1.out.kept _) 19 (by decide) (by decide))) | exact calls_kept (Calls.swap_eq (idlep_bit (p) _))))
  refine wpQuiet_nil ?_
  rintro _ ⟨⟨wq, hkq⟩, rfl⟩
  have HQ := Lib.hid hkq
  clear hkq
  go_wp2_with fail
  have hx2 := HX1.out.keep HQ.out (by simp)
  refine (flow_store (f := f) (rest := pputRest bl (p) (h)) hx2 (19) (bits .or .u64 v (bitI p)) 188 bx).mono ?_
  rintro e w3 ⟨⟨rfl, hb3, hk3⟩, hc3⟩
  have HB3 := Lib.hid hb3
  have HK3 := Lib.hid hk3
  have HC3 := Lib.hid hc3
  clear hb3 hk3 hc3 hx2
  go_wp2
  go_end0
  exact ⟨rfl, _, HB3.out, HC3.out, (HK1.out.trans (HQ.out.mono (by simp))).trans HK3.out⟩

set_option maxRecDepth 100000 in
set_option maxHeartbeats 600000 in
theorem pput_masked {w : World} {bx bl : Nat} {c : Cfg} {f : Fl} (p : Int) (h : Int) (hx : Blk w bx (f.cells ++ pputRest bl (p) (h))) (hl : LayAt w bl c) (hne : bl ≠ bx)  :
    Calls Try.prog 188 #[.pointer (some ⟨bx, 0, none⟩)] w
      (Sets bx ((f.on 1 (9) (0) (0) (mval 217 bx)).cells ++ pputRest bl (p) (h)) w) := by
  have cx := hx.cell
  have fx := hx.free
  have lx := hx.lt
  have HX := Lib.hid hx
  have HL := Lib.hid hl
  unfold Fl.cells pputRest at cx
  clear hx hl
  go_enter Try.func188, Try.ntmps188
  go_wp2
  refine wp_kept_tail_at (w0 := w) (S := [bx]) (bx := bx) (cs := f.cells ++ pputRest bl (p) (h)) 10 (by kernel_rfl) (by kernel_rfl) (by (repeat (first | with_reducible exact Keep.refl _ _ | with_reducible refine Keep.drewN ?_ | with_reducible refine Keep.drew ?_ | with_reducible refine Keep.alloc ?_ | (with_reducible refine Keep.set ?_ (by simp)) | (with_reducible refine Keep.setNew ?_ (by simp; done)) | (with_reducible refine Keep.setNew ?_ (by simp; omega))))) (by have hx2 := HX.out; (repeat (first | with_reducible exact hx2 | with_reducible apply Blk.drewN | with_reducible apply Blk.drew | with_reducible apply Blk.alloc | with_reducible apply Blk.set | (with_reducible apply Blk.other; rotate_left; (first | assumption | (simp; omega)); rotate_right) | with_reducible rfl | rfl | (simp [Fl.cells, pputRest]; done)))) ?_
  intro w1 hk1 hx1 cx1
  have HX1 := Lib.hid hx1
  have HK1 := Lib.hid hk1
  have HL1 := Lib.hid (HL.out.keep hk1 (by simp [hne]))
  clear hx1 hk1
  simp only [Fl.cells, pputRest, List.cons_append, List.nil_append] at cx1
  simp only [List.take_succ_cons, List.take_zero, List.drop_succ_cons, List.drop_zero]
  repeat (quiet_step (first | exact calls_kept (Calls.swap_eq (lay_word (HL1.out.kept _) 9 (by decide) (by decide)))))
  refine wpQuiet_nil ?_
  rintro _ ⟨⟨wq, hkq⟩, rfl⟩
  have HQ := Lib.hid hkq
  clear hkq
  go_wp2_with fail
  have hx2 := HX1.out.keep HQ.out (by simp)
  refine (flow_load (f := f) (rest := pputRest bl (p) (h)) hx2 (9) 217 bx).mono ?_
  rintro e w3 ⟨rfl, hb3, hk3⟩
  have HB3 := Lib.hid hb3
  have HK3 := Lib.hid hk3
  clear hb3 hk3 hx2
  go_wp2
  go_end0
  exact ⟨rfl, HB3.out, (HK1.out.trans (HQ.out.mono (by simp))).trans HK3.out⟩

set_option maxRecDepth 100000 in
set_option maxHeartbeats 600000 in
theorem pput_first {w : World} {bx bl : Nat} {c : Cfg} {f : Fl} (p : Int) (h : Int) (hx : Blk w bx (f.cells ++ pputRest bl (p) (h))) (hl : LayAt w bl c) (hne : bl ≠ bx) (v : Int)  :
    Calls Try.prog 217 #[.pointer (some ⟨bx, 0, none⟩), .int .u64 v] w
      (SetsB bx (fun bc => (f.on 2 (c.proc p 7) (0) (v) (cval 181 bc)).cells ++ pputRest bl (p) (h)) (mval 234 bx) w) := by
  have cx := hx.cell
  have fx := hx.free
  have lx := hx.lt
  have HX := Lib.hid hx
  have HL := Lib.hid hl
  unfold Fl.cells pputRest at cx
  clear hx hl
  go_enter Try.func217, Try.ntmps217
  go_wp2
  refine wp_kept_tail_at (w0 := w) (S := [bx]) (bx := bx) (cs := f.cells ++ pputRest bl (p) (h)) 15 (by kernel_rfl) (by kernel_rfl) (by (repeat (first | with_reducible exact Keep.refl _ _ | with_reducible refine Keep.drewN ?_ | with_reducible refine Keep.drew ?_ | with_reducible refine Keep.alloc ?_ | (with_reducible refine Keep.set ?_ (by simp)) | (with_reducible refine Keep.setNew ?_ (by simp; done)) | (with_reducible refine Keep.setNew ?_ (by simp; omega))))) (by have hx2 := HX.out; (repeat (first | with_reducible exact hx2 | with_reducible apply Blk.drewN | with_reducible apply Blk.drew | with_reducible apply Blk.alloc | with_reducible apply Blk.set | (with_reducible apply Blk.other; rotate_left; (first | assumption | (simp; omega)); rotate_right) | with_reducible rfl | rfl | (simp [Fl.cells, pputRest]; done)))) ?_
  intro w1 hk1 hx1 cx1
  have HX1 := Lib.hid hx1
  have HK1 := Lib.hid hk1
  have HL1 := Lib.hid (HL.out.keep hk1 (by simp [hne]))
  clear hx1 hk1
  simp only [Fl.cells, pputRest, List.cons_append, List.nil_append] at cx1
  simp only [List.take_succ_cons, List.take_zero, List.drop_succ_cons, List.drop_zero]
  repeat (quiet_step (first | exact calls_kept (lay_proc (HL1.out.kept _) p 7 (by decide) (by decide))))
  refine wpQuiet_nil ?_
  rintro _ ⟨⟨wq, hkq⟩, rfl⟩
  have HQ := Lib.hid hkq
  clear hkq
  go_wp2_with fail
  have hx2 := HX1.out.keep HQ.out (by simp)
  refine (flow_store (f := f) (rest := pputRest bl (p) (h)) hx2 (c.proc p 7) (v) 234 bx).mono ?_
  rintro e w3 ⟨⟨rfl, hb3, hk3⟩, hc3⟩
  have HB3 := Lib.hid hb3
  have HK3 := Lib.hid hk3
  have HC3 := Lib.hid hc3
  clear hb3 hk3 hc3 hx2
  go_wp2
  go_end0
  exact ⟨rfl, _, HB3.out, HC3.out, (HK1.out.trans (HQ.out.mono (by simp))).trans HK3.out⟩

set_option maxRecDepth 100000 in
set_option maxHeartbeats 600000 in
theorem pput_linked {w : World} {bx bl : Nat} {c : Cfg} {f : Fl} (p : Int) (h : Int) (hx : Blk w bx (f.cells ++ pputRest bl (p) (h))) (hl : LayAt w bl c) (hne : bl ≠ bx) (t0 : 0 ≤ p) (t1 : p < 1000) :
    Calls Try.prog 234 #[.pointer (some ⟨bx, 0, none⟩)] w
      (SetsB bx (fun bc => (f.on 2 (9) (0) (p + 1) (cval 181 bc)).cells ++ pputRest bl (p) (h)) (mval 248 bx) w) := by
  have cx := hx.cell
  have fx := hx.free
  have lx := hx.lt
  have HX := Lib.hid hx
  have HL := Lib.hid hl
  unfold Fl.cells pputRest at cx
  clear hx hl
  go_enter Try.func234, Try.ntmps234
  go_wp2
  refine wp_kept_tail_at (w0 := w) (S := [bx]) (bx := bx) (cs := f.cells ++ pputRest bl (p) (h)) 16 (by kernel_rfl) (by kernel_rfl) (by (repeat (first | with_reducible exact Keep.refl _ _ | with_reducible refine Keep.drewN ?_ | with_reducible refine Keep.drew ?_ | with_reducible refine Keep.alloc ?_ | (with_reducible refine Keep.set ?_ (by simp)) | (with_reducible refine Keep.setNew ?_ (by simp; done)) | (with_reducible refine Keep.setNew ?_ (by simp; omega))))) (by have hx2 := HX.out; (repeat (first | with_reducible exact hx2 | with_reducible apply Blk.drewN | with_reducible apply Blk.drew | with_reducible apply Blk.alloc | with_reducible apply Blk.set | (with_reducible apply Blk.other; rotate_left; (first | assumption | (simp; omega)); rotate_right) | with_reducible rfl | rfl | (simp [Fl.cells, pputRest]; done)))) ?_
  intro w1 hk1 hx1 cx1
  have HX1 := Lib.hid hx1
  have HK1 := Lib.hid hk1
  have HL1 := Lib.hid (HL.out.keep hk1 (by simp [hne]))
  clear hx1 hk1
  simp only [Fl.cells, pputRest, List.cons_append, List.nil_append] at cx1
  simp only [List.take_succ_cons, List.take_zero, List.drop_succ_cons, List.drop_zero]
  repeat (quiet_step (first | exact calls_kept (Calls.swap_eq (lay_word (HL1.out.kept _) 9 (by decide) (by decide)))))
  refine wpQuiet_nil ?_
  rintro _ ⟨⟨wq, hkq⟩, rfl⟩
  have HQ := Lib.hid hkq
  clear hkq
  go_wp2_with fail
  have hx2 := HX1.out.keep HQ.out (by simp)
  refine (flow_store (f := f) (rest := pputRest bl (p) (h)) hx2 (9) (p + 1) 248 bx).mono ?_
  rintro e w3 ⟨⟨rfl, hb3, hk3⟩, hc3⟩
  have HB3 := Lib.hid hb3
  have HK3 := Lib.hid hk3
  have HC3 := Lib.hid hc3
  clear hb3 hk3 hc3 hx2
  go_wp2
  go_end0
  exact ⟨rfl, _, HB3.out, HC3.out, (HK1.out.trans (HQ.out.mono (by simp))).trans HK3.out⟩

set_option maxRecDepth 100000 in
set_option maxHeartbeats 600000 in
theorem pput_lies {w : World} {bx bl : Nat} {c : Cfg} {f : Fl} (p : Int) (h : Int) (hx : Blk w bx (f.cells ++ pputRest bl (p) (h))) (hl : LayAt w bl c) (hne : bl ≠ bx)  :
    Calls Try.prog 248 #[.pointer (some ⟨bx, 0, none⟩)] w
      (Sets bx ((f.on 4 (10) (0) (1) (mval 260 bx)).cells ++ pputRest bl (p) (-1)) w) := by
  have cx := hx.cell
  have fx := hx.free
  have lx := hx.lt
  have HX := Lib.hid hx
  have HL := Lib.hid hl
  unfold Fl.cells pputRest at cx
  clear hx hl
  go_enter Try.func248, Try.ntmps248
  go_wp2
  refine wp_kept_tail_at (w0 := w) (S := [bx]) (bx := bx) (cs := f.cells ++ pputRest bl (p) (-1)) 10 (by kernel_rfl) (by kernel_rfl) (by (repeat (first | with_reducible exact Keep.refl _ _ | with_reducible refine Keep.drewN ?_ | with_reducible refine Keep.drew ?_ | with_reducible refine Keep.alloc ?_ | (with_reducible refine Keep.set ?_ (by simp)) | (with_reducible refine Keep.setNew ?_ (by simp; done)) | (with_reducible refine Keep.setNew ?_ (by simp; omega))))) (by have hx2 := HX.out; (repeat (first | with_reducible exact hx2 | with_reducible apply Blk.drewN | with_reducible apply Blk.drew | with_reducible apply Blk.alloc | with_reducible apply Blk.set | (with_reducible apply Blk.other; rotate_left; (first | assumption | (simp; omega)); rotate_right) | with_reducible rfl | rfl | (simp [Fl.cells, pputRest]; done)))) ?_
  intro w1 hk1 hx1 cx1
  have HX1 := Lib.hid hx1
  have HK1 := Lib.hid hk1
  have HL1 := Lib.hid (HL.out.keep hk1 (by simp [hne]))
  clear hx1 hk1
  simp only [Fl.cells, pputRest, List.cons_append, List.nil_append] at cx1
  simp only [List.take_succ_cons, List.take_zero, List.drop_succ_cons, List.drop_zero]
  repeat (quiet_step (first | exact calls_kept (Calls.swap_eq (lay_word (HL1.out.kept _) 10 (by decide) (by decide)))))
  refine wpQuiet_nil ?_
  rintro _ ⟨⟨wq, hkq⟩, rfl⟩
  have HQ := Lib.hid hkq
  clear hkq
  go_wp2_with fail
  have hx2 := HX1.out.keep HQ.out (by simp)
  refine (flow_add (f := f) (rest := pputRest bl (p) (-1)) hx2 (10) (1) 260 bx).mono ?_
  rintro e w3 ⟨rfl, hb3, hk3⟩
  have HB3 := Lib.hid hb3
  have HK3 := Lib.hid hk3
  clear hb3 hk3 hx2
  go_wp2
  go_end0
  exact ⟨rfl, HB3.out, (HK1.out.trans (HQ.out.mono (by simp))).trans HK3.out⟩

/-- What a machine of idlep holds behind its flow. -/
def pgetRest (bl : Nat) (word : Int) (next : Int) (p : Int) : List Value := [.pointer (some ⟨bl, 0, none⟩), .int .u64 word, .int .u64 next, .int .i64 p]

set_option maxRecDepth 100000 in
set_option maxHeartbeats 600000 in
theorem pget_first_no {w : World} {bx bl : Nat} {c : Cfg} {f : Fl} (word : Int) (next : Int) (p : Int) (hx : Blk w bx (f.cells ++ pgetRest bl (word) (next) (p))) (hl : LayAt w bl c) (_hne : bl ≠ bx) (v : Int) (hv : v = 0) :
    Calls Try.prog 137 #[.pointer (some ⟨bx, 0, none⟩), .int .u64 v] w
      (Sets bx (f.cells ++ pgetRest bl (word) (next) (p)) w) := by
  have cx := hx.cell
  have fx := hx.free
  have lx := hx.lt
  have HX := Lib.hid hx
  have HL := Lib.hid hl
  unfold Fl.cells pgetRest at cx
  clear hx hl
  subst hv
  go_enter Try.func137, Try.ntmps137
  go_wp2
  go_end0
  exact ⟨rfl, by have hx2 := HX.out; (repeat (first | with_reducible exact hx2 | with_reducible apply Blk.drewN | with_reducible apply Blk.drew | with_reducible apply Blk.alloc | with_reducible apply Blk.set | (with_reducible apply Blk.other; rotate_left; (first | assumption | (simp; omega)); rotate_right) | with_reducible rfl | rfl | (simp [Fl.cells, pgetRest]; done))), by (repeat (first | with_reducible exact Keep.refl _ _ | with_reducible refine Keep.drewN ?_ | with_reducible refine Keep.drew ?_ | with_reducible refine Keep.alloc ?_ | (with_reducible refine Keep.set ?_ (by simp)) | (with_reducible refine Keep.setNew ?_ (by simp; done)) | (with_reducible refine Keep.setNew ?_ (by simp; omega))))⟩

set_option maxRecDepth 100000 in
set_option maxHeartbeats 600000 in
theorem pget_first {w : World} {bx bl : Nat} {c : Cfg} {f : Fl} (word : Int) (next : Int) (p : Int) (hx : Blk w bx (f.cells ++ pgetRest bl (word) (next) (p))) (hl : LayAt w bl c) (hne : bl ≠ bx) (v : Int) (hv : v ≠ 0) (v0 : 0 ≤ v) (v1 : v < 18446744073709551616) :
    Calls Try.prog 137 #[.pointer (some ⟨bx, 0, none⟩), .int .u64 v] w
      (Sets bx ((f.on 1 (c.proc (less1 v) 7) (0) (0) (mval 189 bx)).cells ++ pgetRest bl (v) (next) (p)) w) := by
  have cx := hx.cell
  have fx := hx.free
  have lx := hx.lt
  have HX := Lib.hid hx
  have HL := Lib.hid hl
  unfold Fl.cells pgetRest at cx
  clear hx hl
  have hz : (v == 0) = false := by simpa using hv
  have hw := wrap_less1 v0 v1
  go_enter Try.func137, Try.ntmps137
  go_wp2
  refine wp_kept_tail_at (w0 := w) (S := [bx]) (bx := bx) (cs := f.cells ++ pgetRest bl (v) (next) (p)) 13 (by kernel_rfl) (by kernel_rfl) (by (repeat (first | with_reducible exact Keep.refl _ _ | with_reducible refine Keep.drewN ?_ | with_reducible refine Keep.drew ?_ | with_reducible refine Keep.alloc ?_ | (with_reducible refine Keep.set ?_ (by simp)) | (with_reducible refine Keep.setNew ?_ (by simp; done)) | (with_reducible refine Keep.setNew ?_ (by simp; omega))))) (by have hx2 := HX.out; (repeat (first | with_reducible exact hx2 | with_reducible apply Blk.drewN | with_reducible apply Blk.drew | with_reducible apply Blk.alloc | with_reducible apply Blk.set | (with_reducible apply Blk.other; rotate_left; (first | assumption | (simp; omega)); rotate_right) | with_reducible rfl | rfl | (simp [Fl.cells, pgetRest]; done)))) ?_
  intro w1 hk1 hx1 cx1
  have HX1 := Lib.hid hx1
  have HK1 := Lib.hid hk1
  have HL1 := Lib.hid (HL.out.keep hk1 (by simp [hne]))
  clear hx1 hk1
  simp only [Fl.cells, pgetRest, List.cons_append, List.nil_append] at cx1
  simp only [List.take_succ_cons, List.take_zero, List.drop_succ_cons, List.drop_zero]
  repeat (quiet_step (first | exact calls_kept (lay_proc (HL1.out.kept _) (less1 v) 7 (by decide) (by decide))))
  refine wpQuiet_nil ?_
  rintro _ ⟨⟨wq, hkq⟩, rfl⟩
  have HQ := Lib.hid hkq
  clear hkq
  go_wp2_with fail
  have hx2 := HX1.out.keep HQ.out (by simp)
  refine (flow_load (f := f) (rest := pgetRest bl (v) (next) (p)) hx2 (c.proc (less1 v) 7) 189 bx).mono ?_
  rintro e w3 ⟨rfl, hb3, hk3⟩
  have HB3 := Lib.hid hb3
  have HK3 := Lib.hid hk3
  clear hb3 hk3 hx2
  go_wp2
  go_end0
  exact ⟨rfl, HB3.out, (HK1.out.trans (HQ.out.mono (by simp))).trans HK3.out⟩

set_option maxRecDepth 100000 in
set_option maxHeartbeats 600000 in
theorem pget_second {w : World} {bx bl : Nat} {c : Cfg} {f : Fl} (word : Int) (next : Int) (p : Int) (hx : Blk w bx (f.cells ++ pgetRest bl (word) (next) (p))) (hl : LayAt w bl c) (hne : bl ≠ bx) (v : Int)  :
    Calls Try.prog 189 #[.pointer (some ⟨bx, 0, none⟩), .int .u64 v] w
      (Sets bx ((f.on 1 (19) (0) (0) (mval 218 bx)).cells ++ pgetRest bl (word) (v) (p)) w) := by
  have cx := hx.cell
  have fx := hx.free
  have lx := hx.lt
  have HX := Lib.hid hx
  have HL := Lib.hid hl
  unfold Fl.cells pgetRest at cx
  clear hx hl
  go_enter Try.func189, Try.ntmps189
  go_wp2
  refine wp_kept_tail_at (w0 := w) (S := [bx]) (bx := bx) (cs := f.cells ++ pgetRest bl (word) (v) (p)) 10 (by kernel_rfl) (by kernel_rfl) (by (repeat (first | with_reducible exact Keep.refl _ _ | with_reducible refine Keep.drewN ?_ | with_reducible refine Keep.drew ?_ | with_reducible refine Keep.alloc ?_ | (with_reducible refine Keep.set ?_ (by simp)) | (with_reducible refine Keep.setNew ?_ (by simp; done)) | (with_reducible refine Keep.setNew ?_ (by simp; omega))))) (by have hx2 := HX.out; (repeat (first | with_reducible exact hx2 | with_reducible apply Blk.drewN | with_reducible apply Blk.drew | with_reducible apply Blk.alloc | with_reducible apply Blk.set | (with_reducible apply Blk.other; rotate_left; (first | assumption | (simp; omega)); rotate_right) | with_reducible rfl | rfl | (simp [Fl.cells, pgetRest]; done)))) ?_
  intro w1 hk1 hx1 cx1
  have HX1 := Lib.hid hx1
  have HK1 := Lib.hid hk1
  have HL1 := Lib.hid (HL.out.keep hk1 (by simp [hne]))
  clear hx1 hk1
  simp only [Fl.cells, pgetRest, List.cons_append, List.nil_append] at cx1
  simp only [List.take_succ_cons, List.take_zero, List.drop_succ_cons, List.drop_zero]
  repeat (quiet_step (first | exact calls_kept (Calls.swap_eq (lay_word (HL1.out.kept _) 19 (by decide) (by decide)))))
  refine wpQuiet_nil ?_
  rintro _ ⟨⟨wq, hkq⟩, rfl⟩
  have HQ := Lib.hid hkq
  clear hkq
  go_wp2_with fail
  have hx2 := HX1.out.keep HQ.out (by simp)
  refine (flow_load (f := f) (rest := pgetRest bl (word) (v) (p)) hx2 (19) 218 bx).mono ?_
  rintro e w3 ⟨rfl, hb3, hk3⟩
  have HB3 := Lib.hid hb3
  have HK3 := Lib.hid hk3
  clear hb3 hk3 hx2
  go_wp2
  go_end0
  exact ⟨rfl, HB3.out, (HK1.out.trans (HQ.out.mono (by simp))).trans HK3.out⟩

set_option maxRecDepth 100000 in
set_option maxHeartbeats 600000 in
theorem pget_masks {w : World} {bx bl : Nat} {c : Cfg} {f : Fl} (word : Int) (next : Int) (p : Int) (hx : Blk w bx (f.cells ++ pgetRest bl (word) (next) (p))) (hl : LayAt w bl c) (hne : bl ≠ bx) (v : Int) (v0 : 0 ≤ word) (v1 : word < 18446744073709551616) :
    Calls Try.prog 218 #[.pointer (some ⟨bx, 0, none⟩), .int .u64 v] w
      (SetsB bx (fun bc => (f.on 2 (19) (0) (bits .andNot .u64 v (bitI (less1 word))) (cval 181 bc)).cells ++ pgetRest bl (word) (next) (p)) (mval 235 bx) w) := by
  have cx := hx.cell
  have fx := hx.free
  have lx := hx.lt
  have HX := Lib.hid hx
  have HL := Lib.hid hl
  unfold Fl.cells pgetRest at cx
  clear hx hl
  have hw := wrap_less1 v0 v1
  go_enter Try.func218, Try.ntmps218
  go_wp2
  refine wp_kept_tail_at (w0 := w) (S := [bx]) (bx := bx) (cs := f.cells ++ pgetRest bl (word) (next) (p)) 19 (by kernel_rfl) (by kernel_rfl) (by (repeat (first | with_reducible exact Keep.refl _ _ | with_reducible refine Keep.drewN ?_ | with_reducible refine Keep.drew ?_ | with_reducible refine Keep.alloc ?_ | (with_reducible refine Keep.set ?_ (by simp)) | (with_reducible refine Keep.setNew ?_ (by simp; done)) | (with_reducible refine Keep.setNew ?_ (by simp; omega))))) (by have hx2 := HX.out; (repeat (first | with_reducible exact hx2 | with_reducible apply Blk.drewN | with_reducible apply Blk.drew | with_reducible apply Blk.alloc | with_reducible apply Blk.set | (with_reducible apply Blk.other; rotate_left; (first | assumption | (simp; omega)); rotate_right) | with_reducible rfl | rfl | (simp [Fl.cells, pgetRest]; done)))) ?_
  intro w1 hk1 hx1 cx1
  have HX1 := Lib.hid hx1
  have HK1 := Lib.hid hk1
  have HL1 := Lib.hid (HL.out.keep hk1 (by simp [hne]))
  clear hx1 hk1
  simp only [Fl.cells, pgetRest, List.cons_append, List.nil_append] at cx1
  simp only [List.take_succ_cons, List.take_zero, List.drop_succ_cons, List.drop_zero]
  repeat (quiet_step (first | exact calls_kept (Calls.swap_eq (lay_word (HL1.out.kept _) 19 (by decide) (by decide))) | exact calls_kept (Calls.swap_eq (idlep_bit (less1 word) _))))
  refine wpQuiet_nil ?_
  rintro _ ⟨⟨wq, hkq⟩, rfl⟩
  have HQ := Lib.hid hkq
  clear hkq
  go_wp2_with fail
  have hx2 := HX1.out.keep HQ.out (by simp)
  refine (flow_store (f := f) (rest := pgetRest bl (word) (next) (p)) hx2 (19) (bits .andNot .u64 v (bitI (less1 word))) 235 bx).mono ?_
  rintro e w3 ⟨⟨rfl, hb3, hk3⟩, hc3⟩
  have HB3 := Lib.hid hb3
  have HK3 := Lib.hid hk3
  have HC3 := Lib.hid hc3
  clear hb3 hk3 hc3 hx2
  go_wp2
  go_end0
  exact ⟨rfl, _, HB3.out, HC3.out, (HK1.out.trans (HQ.out.mono (by simp))).trans HK3.out⟩

set_option maxRecDepth 100000 in
set_option maxHeartbeats 600000 in
theorem pget_masked {w : World} {bx bl : Nat} {c : Cfg} {f : Fl} (word : Int) (next : Int) (p : Int) (hx : Blk w bx (f.cells ++ pgetRest bl (word) (next) (p))) (hl : LayAt w bl c) (hne : bl ≠ bx)  :
    Calls Try.prog 235 #[.pointer (some ⟨bx, 0, none⟩)] w
      (SetsB bx (fun bc => (f.on 2 (9) (0) (next) (cval 181 bc)).cells ++ pgetRest bl (word) (next) (p)) (mval 249 bx) w) := by
  have cx := hx.cell
  have fx := hx.free
  have lx := hx.lt
  have HX := Lib.hid hx
  have HL := Lib.hid hl
  unfold Fl.cells pgetRest at cx
  clear hx hl
  go_enter Try.func235, Try.ntmps235
  go_wp2
  refine wp_kept_tail_at (w0 := w) (S := [bx]) (bx := bx) (cs := f.cells ++ pgetRest bl (word) (next) (p)) 14 (by kernel_rfl) (by kernel_rfl) (by (repeat (first | with_reducible exact Keep.refl _ _ | with_reducible refine Keep.drewN ?_ | with_reducible refine Keep.drew ?_ | with_reducible refine Keep.alloc ?_ | (with_reducible refine Keep.set ?_ (by simp)) | (with_reducible refine Keep.setNew ?_ (by simp; done)) | (with_reducible refine Keep.setNew ?_ (by simp; omega))))) (by have hx2 := HX.out; (repeat (first | with_reducible exact hx2 | with_reducible apply Blk.drewN | with_reducible apply Blk.drew | with_reducible apply Blk.alloc | with_reducible apply Blk.set | (with_reducible apply Blk.other; rotate_left; (first | assumption | (simp; omega)); rotate_right) | with_reducible rfl | rfl | (simp [Fl.cells, pgetRest]; done)))) ?_
  intro w1 hk1 hx1 cx1
  have HX1 := Lib.hid hx1
  have HK1 := Lib.hid hk1
  have HL1 := Lib.hid (HL.out.keep hk1 (by simp [hne]))
  clear hx1 hk1
  simp only [Fl.cells, pgetRest, List.cons_append, List.nil_append] at cx1
  simp only [List.take_succ_cons, List.take_zero, List.drop_succ_cons, List.drop_zero]
  repeat (quiet_step (first | exact calls_kept (Calls.swap_eq (lay_word (HL1.out.kept _) 9 (by decide) (by decide)))))
  refine wpQuiet_nil ?_
  rintro _ ⟨⟨wq, hkq⟩, rfl⟩
  have HQ := Lib.hid hkq
  clear hkq
  go_wp2_with fail
  have hx2 := HX1.out.keep HQ.out (by simp)
  refine (flow_store (f := f) (rest := pgetRest bl (word) (next) (p)) hx2 (9) (next) 249 bx).mono ?_
  rintro e w3 ⟨⟨rfl, hb3, hk3⟩, hc3⟩
  have HB3 := Lib.hid hb3
  have HK3 := Lib.hid hk3
  have HC3 := Lib.hid hc3
  clear hb3 hk3 hc3 hx2
  go_wp2
  go_end0
  exact ⟨rfl, _, HB3.out, HC3.out, (HK1.out.trans (HQ.out.mono (by simp))).trans HK3.out⟩

set_option maxRecDepth 100000 in
set_option maxHeartbeats 600000 in
theorem pget_got {w : World} {bx bl : Nat} {c : Cfg} {f : Fl} (word : Int) (next : Int) (p : Int) (hx : Blk w bx (f.cells ++ pgetRest bl (word) (next) (p))) (hl : LayAt w bl c) (hne : bl ≠ bx) (v0 : 0 ≤ word) (v1 : word < 18446744073709551616) :
    Calls Try.prog 249 #[.pointer (some ⟨bx, 0, none⟩)] w
      (Sets bx ((f.on 4 (10) (0) (4294967295) (mval 261 bx)).cells ++ pgetRest bl (word) (next) (less1 word)) w) := by
  have cx := hx.cell
  have fx := hx.free
  have lx := hx.lt
  have HX := Lib.hid hx
  have HL := Lib.hid hl
  unfold Fl.cells pgetRest at cx
  clear hx hl
  have hw := wrap_less1 v0 v1
  have hw2 := wrap64_less1 v0 v1
  go_enter Try.func249, Try.ntmps249
  go_wp2
  refine wp_kept_tail_at (w0 := w) (S := [bx]) (bx := bx) (cs := f.cells ++ pgetRest bl (word) (next) (less1 word)) 10 (by kernel_rfl) (by kernel_rfl) (by (repeat (first | with_reducible exact Keep.refl _ _ | with_reducible refine Keep.drewN ?_ | with_reducible refine Keep.drew ?_ | with_reducible refine Keep.alloc ?_ | (with_reducible refine Keep.set ?_ (by simp)) | (with_reducible refine Keep.setNew ?_ (by simp; done)) | (with_reducible refine Keep.setNew ?_ (by simp; omega))))) (by have hx2 := HX.out; (repeat (first | with_reducible exact hx2 | with_reducible apply Blk.drewN | with_reducible apply Blk.drew | with_reducible apply Blk.alloc | with_reducible apply Blk.set | (with_reducible apply Blk.other; rotate_left; (first | assumption | (simp; omega)); rotate_right) | with_reducible rfl | rfl | (simp [Fl.cells, pgetRest]; done)))) ?_
  intro w1 hk1 hx1 cx1
  have HX1 := Lib.hid hx1
  have HK1 := Lib.hid hk1
  have HL1 := Lib.hid (HL.out.keep hk1 (by simp [hne]))
  clear hx1 hk1
  simp only [Fl.cells, pgetRest, List.cons_append, List.nil_append] at cx1
  simp only [List.take_succ_cons, List.take_zero, List.drop_succ_cons, List.drop_zero]
  repeat (quiet_step (first | exact calls_kept (Calls.swap_eq (lay_word (HL1.out.kept _) 10 (by decide) (by decide)))))
  refine wpQuiet_nil ?_
  rintro _ ⟨⟨wq, hkq⟩, rfl⟩
  have HQ := Lib.hid hkq
  clear hkq
  go_wp2_with fail
  have hx2 := HX1.out.keep HQ.out (by simp)
  refine (flow_add (f := f) (rest := pgetRest bl (word) (next) (less1 word)) hx2 (10) (4294967295) 261 bx).mono ?_
  rintro e w3 ⟨rfl, hb3, hk3⟩
  have HB3 := Lib.hid hb3
  have HK3 := Lib.hid hk3
  clear hb3 hk3 hx2
  go_wp2
  go_end0
  exact ⟨rfl, HB3.out, (HK1.out.trans (HQ.out.mono (by simp))).trans HK3.out⟩

end Go.Proofs.Ytophgiocmldliaa
