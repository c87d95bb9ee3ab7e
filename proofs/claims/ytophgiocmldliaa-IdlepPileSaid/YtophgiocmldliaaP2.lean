/- Package idlep: a new machine; each step of a machine, said of plain states; the machines as kinds. -/
import Derived.Test.YtophgiocmldliaaP1
namespace Go.Proofs.Ytophgiocmldliaa
open Go.RowKit
theorem bitsu_range (op : BinOp) (a b : Int) : 0 ≤ bits op .u64 a b ∧ bits op .u64 a b < 18446744073709551616 := by
  have e : ∀ x : Int, IntKind.u64.wrap x = x % 18446744073709551616 := fun x => by simp [IntKind.wrap, IntKind.bits, IntKind.signed]
  have h : ∀ x, 0 ≤ IntKind.u64.wrap x ∧ IntKind.u64.wrap x < 18446744073709551616 := fun x => by rw [e]; omega
  unfold bits
  split <;> first | exact h _ | (constructor <;> decide)

set_option maxRecDepth 100000 in
set_option maxHeartbeats 600000 in
theorem pput_ends_any (bx : Nat) (v : Int) (w : World) : Calls Try.prog 260 #[.pointer (some ⟨bx, 0, none⟩), .int .u64 v] w fun e w' => e = .returned (.tuple #[]) ∧ w = w' := by
  go_enter Try.func260, Try.ntmps260
  go_wp2
  go_end0
  exact ⟨rfl, rfl⟩

set_option maxRecDepth 100000 in
set_option maxHeartbeats 600000 in
theorem pget_ends_any (bx : Nat) (v : Int) (w : World) : Calls Try.prog 261 #[.pointer (some ⟨bx, 0, none⟩), .int .u64 v] w fun e w' => e = .returned (.tuple #[]) ∧ w = w' := by
  go_enter Try.func261, Try.ntmps261
  go_wp2
  go_end0
  exact ⟨rfl, rfl⟩

/-- Where a machine of idlep stands. -/
inductive PPutPh where
  | asks
  | marks (v : Int)
  | looks
  | links (v : Int)
  | heads
  | counts
  | over

def PPutPh.isOver : PPutPh → Bool
  | .over => true
  | _ => false

/-- What holds of the numbers that it holds. -/
def PPutPh.ok (p : Int) : PPutPh → Prop
  | .asks  => 0 ≤ p ∧ p < 1000
  | .marks v => (0 ≤ p ∧ p < 1000) ∧ 0 ≤ v ∧ v < 18446744073709551616
  | .looks  => 0 ≤ p ∧ p < 1000
  | .links v => (0 ≤ p ∧ p < 1000) ∧ 0 ≤ v ∧ v < 18446744073709551616
  | .heads  => 0 ≤ p ∧ p < 1000
  | _ => True

/-- The machine in the block bx. -/
def pputAt (bl : Nat) (p : Int) (c : Cfg) (who : Int) (ph : PPutPh) (w : World) (bx : Nat) : Prop :=
  match ph with
  | .asks  => Blk w bx ((fl who 1 (19) (0) (0) (mval 136 bx)).cells ++ pputRest bl (p) (p))
  | .marks v => ∃ bc, Blk w bx ((fl who 2 (19) (0) (bits .or .u64 v (bitI p)) (cval 181 bc)).cells ++ pputRest bl (p) (p)) ∧ Blk w bc [mval 188 bx]
  | .looks  => Blk w bx ((fl who 1 (9) (0) (0) (mval 217 bx)).cells ++ pputRest bl (p) (p))
  | .links v => ∃ bc, Blk w bx ((fl who 2 (c.proc p 7) (0) (v) (cval 181 bc)).cells ++ pputRest bl (p) (p)) ∧ Blk w bc [mval 234 bx]
  | .heads  => ∃ bc, Blk w bx ((fl who 2 (9) (0) (p + 1) (cval 181 bc)).cells ++ pputRest bl (p) (p)) ∧ Blk w bc [mval 248 bx]
  | .counts  => Blk w bx ((fl who 4 (10) (0) (1) (mval 260 bx)).cells ++ pputRest bl (p) (-1))
  | .over  => ∃ at_ old x, Blk w bx ((fl who 0 at_ old x .nilFunc).cells ++ pputRest bl (p) (-1))

def pputIs (bl : Nat) (p : Int) (c : Cfg) (who : Int) (ph : PPutPh) (w : World) (bx : Nat) : Prop := ph.ok p ∧ pputAt bl p c who ph w bx

def pputNext (p : Int) (c : Cfg) (who : Int) (M : Mem) : PPutPh → PPutPh × Mem
  | .asks  => (.marks ((M.load who (19)).1), (M.load who (19)).2)
  | .marks v => (.looks, M.store who (19) (bits .or .u64 v (bitI p)))
  | .looks  => (.links ((M.load who (9)).1), (M.load who (9)).2)
  | .links v => (.heads, M.store who (c.proc p 7) (v))
  | .heads  => (.counts, M.store who (9) (p + 1))
  | .counts  => (.over, (M.add who (10) (1)).2)
  | .over  => (.over , M)

theorem pputIs.len {bl : Nat} {p : Int} {c : Cfg} {who : Int} {ph : PPutPh} {w : World} {bx : Nat} (h : pputIs bl p c who ph w bx) : Len w bx 12 := by
  obtain ⟨_, h⟩ := h
  cases ph with
  | asks  => exact ⟨_, h, rfl⟩
  | marks v => obtain ⟨bc, h1, _⟩ := h; exact ⟨_, h1, rfl⟩
  | looks  => exact ⟨_, h, rfl⟩
  | links v => obtain ⟨bc, h1, _⟩ := h; exact ⟨_, h1, rfl⟩
  | heads  => obtain ⟨bc, h1, _⟩ := h; exact ⟨_, h1, rfl⟩
  | counts  => exact ⟨_, h, rfl⟩
  | over  => obtain ⟨_, _, _, h⟩ := h; exact ⟨_, h, rfl⟩

theorem pputIs.state {bl : Nat} {p : Int} {c : Cfg} {who : Int} {ph : PPutPh} {w : World} {bx : Nat} (h : pputIs bl p c who ph w bx) : Fl.State w bx ph.isOver := by
  obtain ⟨_, h⟩ := h
  cases ph with
  | asks  => exact ⟨_, _, h, .inr (.inl ⟨rfl, by simp [fl]⟩)⟩
  | marks v => obtain ⟨bc, h1, _⟩ := h; exact ⟨_, _, h1, .inr (.inl ⟨rfl, by simp [fl]⟩)⟩
  | looks  => exact ⟨_, _, h, .inr (.inl ⟨rfl, by simp [fl]⟩)⟩
  | links v => obtain ⟨bc, h1, _⟩ := h; exact ⟨_, _, h1, .inr (.inl ⟨rfl, by simp [fl]⟩)⟩
  | heads  => obtain ⟨bc, h1, _⟩ := h; exact ⟨_, _, h1, .inr (.inl ⟨rfl, by simp [fl]⟩)⟩
  | counts  => exact ⟨_, _, h, .inr (.inl ⟨rfl, by simp [fl]⟩)⟩
  | over  => obtain ⟨_, _, _, h⟩ := h; exact ⟨_, _, h, .inl ⟨rfl, rfl, rfl⟩⟩

theorem pputIs.keep {bl : Nat} {p : Int} {c : Cfg} {who : Int} {ph : PPutPh} {w w' : World} {bx : Nat} {S : List Nat} (h : pputIs bl p c who ph w bx) (k : Keep S w w') (hs : bx ∉ S) (hb : ∀ x ∈ S, Unbox w x) : pputIs bl p c who ph w' bx := by
  obtain ⟨h0, h⟩ := h
  refine ⟨h0, ?_⟩
  cases ph with
  | asks  => exact Blk.keep h k hs
  | marks v => obtain ⟨bc, h1, h2⟩ := h; exact ⟨bc, h1.keep k hs, h2.box k hb⟩
  | looks  => exact Blk.keep h k hs
  | links v => obtain ⟨bc, h1, h2⟩ := h; exact ⟨bc, h1.keep k hs, h2.box k hb⟩
  | heads  => obtain ⟨bc, h1, h2⟩ := h; exact ⟨bc, h1.keep k hs, h2.box k hb⟩
  | counts  => exact Blk.keep h k hs
  | over  => obtain ⟨a1, a2, a3, h⟩ := h; exact ⟨a1, a2, a3, h.keep k hs⟩

theorem call_pput_masks : Callable 136 := fun _ _ => by kernel_rfl

theorem call_pput_masked : Callable 188 := fun _ _ => by kernel_rfl

theorem call_pput_first : Callable 217 := fun _ _ => by kernel_rfl

theorem call_pput_linked : Callable 234 := fun _ _ => by kernel_rfl

theorem call_pput_lies : Callable 248 := fun _ _ => by kernel_rfl

theorem call_pput_ends : Callable 260 := fun _ _ => by kernel_rfl

set_option maxRecDepth 100000 in
set_option maxHeartbeats 600000 in
theorem pput_Step_of {w : World} {bx : Nat} {m : Value} {R : Bool → World → Prop} (h : Calls Try.prog 127 #[.pointer (some ⟨bx, 0, none⟩), m] w (Stepped R)) :
    Calls Try.prog 48 #[.pointer (some ⟨bx, 0, none⟩), m] w (Stepped R) := by
  have H := Lib.hid h
  clear h
  go_enter Try.func48, Try.ntmps48
  go_wp2_with fail
  refine H.out.mono ?_
  rintro e w1 ⟨d, rfl, hR⟩
  have HR := Lib.hid hR
  clear hR
  cases d
  all_goals
    go_wp2
    go_ret
    exact ⟨_, rfl, HR.out⟩

set_option maxRecDepth 100000 in
set_option maxHeartbeats 600000 in
theorem pput_step {w : World} {bx bm bw bl : Nat} {p : Int} {c : Cfg} {who : Int} {ph : PPutPh} {M : Mem} (h : pputIs bl p c who ph w bx) (hM : MemAt w bm bw M) (hl : LayAt w bl c) :
    Calls Try.prog 48 #[.pointer (some ⟨bx, 0, none⟩), .pointer (some ⟨bm, 0, none⟩)] w (Stepped (Then (pputIs bl p c who) PPutPh.isOver bx bm bw (pputNext p c who M ph) w)) := by
  obtain ⟨n1, n2⟩ := hM.ne_of_len h.len (by decide) (by decide)
  obtain ⟨n4, n5⟩ := hM.ne_of_len hl.len (by decide) (by decide)
  have n3 : bl ≠ bx := hl.len.ne h.len (by decide)
  have nl : bl ∉ [bx, bm, bw] := by simp [n3, n4, n5]
  have hbig := three_big h.len (by decide) hM
  have hr := hM.range
  refine pput_Step_of ?_
  have hst := h.state
  have hall := h
  obtain ⟨ok, h⟩ := h
  cases ph with
  | asks  =>
    simp only [PPutPh.ok] at ok
    refine flow_step'_m h hM n1 n2 ⟨by simp only [fl]; omega, by simp only [fl]; omega⟩ rfl call_pput_masks (by simp [fl]) (by simp [fl]) rfl ?_
    intro w1 hx1 hM1 hk1
    have hr1 := load_range hr who (19)
    refine (pput_masks p p hx1 (hl.keep hk1 nl) n3 _).mono ?_
    rintro e w2 ⟨rfl, bc2, hb, hc2, hk2⟩
    exact ⟨rfl, false, ⟨_, _, hb, .inr (.inl ⟨rfl, by simp [Fl.on]⟩)⟩, rfl, ⟨by simp only [PPutPh.ok]; exact ⟨ok, hr1⟩, bc2, hb, hc2⟩, hM1.keep hk2 (by simp [Ne.symm n1]) (by simp [Ne.symm n2]), hk1.trans (hk2.mono (by simp))⟩
  | marks v =>
    simp only [PPutPh.ok] at ok
    obtain ⟨bc, hx, hc⟩ := h
    refine flow_step'_c hx hM n1 n2 ⟨by simp only [fl]; have := bitsu_range .or v (bitI p); omega, by simp only [fl]; have := bitsu_range .or v (bitI p); omega⟩ rfl call_store1 (by simp [fl]) (by simp [fl]) rfl ?_
    intro w1 hx1 hM1 hk1
    refine store1_any (hc.one hk1 hbig) call_pput_masked ((pput_masked p p hx1 (hl.keep hk1 nl) n3).mono ?_)
    rintro e w2 ⟨rfl, hb, hk2⟩
    exact ⟨rfl, false, ⟨_, _, hb, .inr (.inl ⟨rfl, by simp [Fl.on]⟩)⟩, rfl, ⟨by simp only [PPutPh.ok]; exact ok.1, hb⟩, hM1.keep hk2 (by simp [Ne.symm n1]) (by simp [Ne.symm n2]), hk1.trans (hk2.mono (by simp))⟩
  | looks  =>
    simp only [PPutPh.ok] at ok
    refine flow_step'_m h hM n1 n2 ⟨by simp only [fl]; omega, by simp only [fl]; omega⟩ rfl call_pput_first (by simp [fl]) (by simp [fl]) rfl ?_
    intro w1 hx1 hM1 hk1
    have hr1 := load_range hr who (9)
    refine (pput_first p p hx1 (hl.keep hk1 nl) n3 _).mono ?_
    rintro e w2 ⟨rfl, bc2, hb, hc2, hk2⟩
    exact ⟨rfl, false, ⟨_, _, hb, .inr (.inl ⟨rfl, by simp [Fl.on]⟩)⟩, rfl, ⟨by simp only [PPutPh.ok]; exact ⟨ok, hr1⟩, bc2, hb, hc2⟩, hM1.keep hk2 (by simp [Ne.symm n1]) (by simp [Ne.symm n2]), hk1.trans (hk2.mono (by simp))⟩
  | links v =>
    simp only [PPutPh.ok] at ok
    obtain ⟨bc, hx, hc⟩ := h
    refine flow_step'_c hx hM n1 n2 ⟨by simp only [fl]; omega, by simp only [fl]; omega⟩ rfl call_store1 (by simp [fl]) (by simp [fl]) rfl ?_
    intro w1 hx1 hM1 hk1
    refine store1_any (hc.one hk1 hbig) call_pput_linked ((pput_linked p p hx1 (hl.keep hk1 nl) n3 ok.1.1 ok.1.2).mono ?_)
    rintro e w2 ⟨rfl, bc2, hb, hc2, hk2⟩
    exact ⟨rfl, false, ⟨_, _, hb, .inr (.inl ⟨rfl, by simp [Fl.on]⟩)⟩, rfl, ⟨by simp only [PPutPh.ok]; exact ok.1, bc2, hb, hc2⟩, hM1.keep hk2 (by simp [Ne.symm n1]) (by simp [Ne.symm n2]), hk1.trans (hk2.mono (by simp))⟩
  | heads  =>
    simp only [PPutPh.ok] at ok
    obtain ⟨bc, hx, hc⟩ := h
    refine flow_step'_c hx hM n1 n2 ⟨by simp only [fl]; omega, by simp only [fl]; omega⟩ rfl call_store1 (by simp [fl]) (by simp [fl]) rfl ?_
    intro w1 hx1 hM1 hk1
    refine store1_any (hc.one hk1 hbig) call_pput_lies ((pput_lies p p hx1 (hl.keep hk1 nl) n3).mono ?_)
    rintro e w2 ⟨rfl, hb, hk2⟩
    exact ⟨rfl, false, ⟨_, _, hb, .inr (.inl ⟨rfl, by simp [Fl.on]⟩)⟩, rfl, ⟨trivial, hb⟩, hM1.keep hk2 (by simp [Ne.symm n1]) (by simp [Ne.symm n2]), hk1.trans (hk2.mono (by simp))⟩
  | counts  =>
    refine flow_step'_m h hM n1 n2 ⟨by simp only [fl]; omega, by simp only [fl]; omega⟩ rfl call_pput_ends (by simp [fl]) (by simp [fl]) rfl ?_
    intro w1 hx1 hM1 hk1
    refine (pput_ends_any _ _ _).mono ?_
    rintro e w2 ⟨rfl, rfl⟩
    exact ⟨rfl, true, ⟨_, _, hx1, .inl ⟨rfl, rfl, rfl⟩⟩, rfl, ⟨trivial, _, _, _, hx1⟩, hM1, hk1⟩
  | over  =>
    exact (flow_step_idle hst).mono fun e w2 ⟨he, hw⟩ => ⟨true, he, rfl, hw ▸ hall, hw ▸ hM, hw ▸ Keep.refl _ _⟩

set_option maxRecDepth 100000 in
set_option maxHeartbeats 600000 in
theorem pput_new {w : World} {bl : Nat} {c : Cfg} (hl : LayAt w bl c) (p : Int) (who : Int) (t0 : 0 ≤ p) (t1 : p < 1000) :
    Calls Try.prog 47 #[.pointer (some ⟨bl, 0, none⟩), .int .i64 who, .int .i64 p] w (Made (pputIs bl p c who .asks) w) := by
  have HL := Lib.hid hl
  have hlt := hl.lt
  clear hl
  go_enter Try.func47, Try.ntmps47
  go_wp2_with fail
  refine (flow_of (f := zeroFl) (rest := pputRest bl (p) (p)) ⟨_, heap_alloc_new w _⟩ who).mono ?_
  rintro e w1' ⟨rfl, hb1, hk1'⟩
  have HKA := Lib.hid (Keep.trans' (Keep.alloc (Keep.refl [] w)) hk1' (by simp))
  have HX := Lib.hid hb1
  have lx := hb1.lt
  clear hb1 hk1'
  go_wp2_with fail
  refine wp_kept_tail_at (w0 := w) (S := []) (bx := w.heap.size) (cs := ({ zeroFl with who := who } : Fl).cells ++ pputRest bl (p) (p)) 7 (by kernel_rfl) (by kernel_rfl) (by (with_reducible exact HKA.out)) (by have hx2 := HX.out; (repeat (first | with_reducible exact hx2 | with_reducible apply Blk.drewN | with_reducible apply Blk.drew | with_reducible apply Blk.alloc | with_reducible apply Blk.set | (with_reducible apply Blk.other; rotate_left; (first | assumption | (simp; omega)); rotate_right) | with_reducible rfl | rfl | (simp [Fl.cells, pputRest, zeroFl]; done)))) ?_
  intro w1 hk1 hx1 cx1
  have HX1 := Lib.hid hx1
  have HK1 := Lib.hid hk1
  have HL1 := Lib.hid (HL.out.keep hk1 (by simp))
  clear hx1 hk1
  simp only [Fl.cells, zeroFl, pputRest, List.cons_append, List.nil_append] at cx1
  simp only [List.take_succ_cons, List.take_zero, List.drop_succ_cons, List.drop_zero]
  repeat (quiet_step (first | exact calls_kept (Calls.swap_eq (lay_word (HL1.out.kept _) 19 (by decide) (by decide)))))
  refine wpQuiet_nil ?_
  rintro _ ⟨⟨wq, hkq⟩, rfl⟩
  have HQ := Lib.hid hkq
  clear hkq
  go_wp2_with fail
  have hx2 := HX1.out.keep HQ.out (by simp)
  refine (flow_load (f := { zeroFl with who := who }) (rest := pputRest bl (p) (p)) hx2 19 136 _).mono ?_
  rintro e w3 ⟨rfl, hb3, hk3⟩
  have HB3 := Lib.hid hb3
  have HK3 := Lib.hid hk3
  skip
  clear hb3 hk3 hx2
  go_wp2
  go_ret
  exact ⟨w.heap.size, rfl, Nat.le_refl _, HB3.out.lt, ⟨⟨t0, t1⟩, HB3.out⟩, ((HK1.out.trans HQ.out).trans' HK3.out (by simp))⟩

/-- Where a machine of idlep stands. -/
inductive PGetPh where
  | asks
  | links (wd : Int)
  | marks (wd : Int) (nx : Int)
  | clears (wd : Int) (nx : Int) (v : Int)
  | heads (wd : Int) (nx : Int)
  | counts (wd : Int) (nx : Int)
  | over (a : Int) (b : Int) (d : Int)

def PGetPh.isOver : PGetPh → Bool
  | .over _ _ _ => true
  | _ => false

/-- What holds of the numbers that it holds. -/
def PGetPh.ok  : PGetPh → Prop
  | .links wd => 0 < wd ∧ wd < 18446744073709551616
  | .marks wd nx => (0 < wd ∧ wd < 18446744073709551616) ∧ 0 ≤ nx ∧ nx < 18446744073709551616
  | .clears wd nx v => (0 < wd ∧ wd < 18446744073709551616) ∧ (0 ≤ nx ∧ nx < 18446744073709551616) ∧ 0 ≤ v ∧ v < 18446744073709551616
  | .heads wd nx => (0 < wd ∧ wd < 18446744073709551616) ∧ 0 ≤ nx ∧ nx < 18446744073709551616
  | _ => True

/-- The machine in the block bx. -/
def pgetAt (bl : Nat) (c : Cfg) (who : Int) (ph : PGetPh) (w : World) (bx : Nat) : Prop :=
  match ph with
  | .asks  => Blk w bx ((fl who 1 (9) (0) (0) (mval 137 bx)).cells ++ pgetRest bl (0) (0) (-1))
  | .links wd => Blk w bx ((fl who 1 (c.proc (less1 wd) 7) (0) (0) (mval 189 bx)).cells ++ pgetRest bl (wd) (0) (-1))
  | .marks wd nx => Blk w bx ((fl who 1 (19) (0) (0) (mval 218 bx)).cells ++ pgetRest bl (wd) (nx) (-1))
  | .clears wd nx v => ∃ bc, Blk w bx ((fl who 2 (19) (0) (bits .andNot .u64 v (bitI (less1 wd))) (cval 181 bc)).cells ++ pgetRest bl (wd) (nx) (-1)) ∧ Blk w bc [mval 235 bx]
  | .heads wd nx => ∃ bc, Blk w bx ((fl who 2 (9) (0) (nx) (cval 181 bc)).cells ++ pgetRest bl (wd) (nx) (-1)) ∧ Blk w bc [mval 249 bx]
  | .counts wd nx => Blk w bx ((fl who 4 (10) (0) (4294967295) (mval 261 bx)).cells ++ pgetRest bl (wd) (nx) (less1 wd))
  | .over a b d => ∃ at_ old x, Blk w bx ((fl who 0 at_ old x .nilFunc).cells ++ pgetRest bl (a) (b) (d))

def pgetIs (bl : Nat) (c : Cfg) (who : Int) (ph : PGetPh) (w : World) (bx : Nat) : Prop := ph.ok  ∧ pgetAt bl c who ph w bx

def pgetNext (c : Cfg) (who : Int) (M : Mem) : PGetPh → PGetPh × Mem
  | .asks  => (if ((M.load who (9)).1) = 0 then .over 0 0 (-1) else .links ((M.load who (9)).1), (M.load who (9)).2)
  | .links wd => (.marks wd ((M.load who (c.proc (less1 wd) 7)).1), (M.load who (c.proc (less1 wd) 7)).2)
  | .marks wd nx => (.clears wd nx ((M.load who (19)).1), (M.load who (19)).2)
  | .clears wd nx v => (.heads wd nx, M.store who (19) (bits .andNot .u64 v (bitI (less1 wd))))
  | .heads wd nx => (.counts wd nx, M.store who (9) (nx))
  | .counts wd nx => (.over wd nx (less1 wd), (M.add who (10) (4294967295)).2)
  | .over a b d => (.over a b d, M)

theorem pgetIs.len {bl : Nat} {c : Cfg} {who : Int} {ph : PGetPh} {w : World} {bx : Nat} (h : pgetIs bl c who ph w bx) : Len w bx 13 := by
  obtain ⟨_, h⟩ := h
  cases ph with
  | asks  => exact ⟨_, h, rfl⟩
  | links wd => exact ⟨_, h, rfl⟩
  | marks wd nx => exact ⟨_, h, rfl⟩
  | clears wd nx v => obtain ⟨bc, h1, _⟩ := h; exact ⟨_, h1, rfl⟩
  | heads wd nx => obtain ⟨bc, h1, _⟩ := h; exact ⟨_, h1, rfl⟩
  | counts wd nx => exact ⟨_, h, rfl⟩
  | over a b d => obtain ⟨_, _, _, h⟩ := h; exact ⟨_, h, rfl⟩

theorem pgetIs.state {bl : Nat} {c : Cfg} {who : Int} {ph : PGetPh} {w : World} {bx : Nat} (h : pgetIs bl c who ph w bx) : Fl.State w bx ph.isOver := by
  obtain ⟨_, h⟩ := h
  cases ph with
  | asks  => exact ⟨_, _, h, .inr (.inl ⟨rfl, by simp [fl]⟩)⟩
  | links wd => exact ⟨_, _, h, .inr (.inl ⟨rfl, by simp [fl]⟩)⟩
  | marks wd nx => exact ⟨_, _, h, .inr (.inl ⟨rfl, by simp [fl]⟩)⟩
  | clears wd nx v => obtain ⟨bc, h1, _⟩ := h; exact ⟨_, _, h1, .inr (.inl ⟨rfl, by simp [fl]⟩)⟩
  | heads wd nx => obtain ⟨bc, h1, _⟩ := h; exact ⟨_, _, h1, .inr (.inl ⟨rfl, by simp [fl]⟩)⟩
  | counts wd nx => exact ⟨_, _, h, .inr (.inl ⟨rfl, by simp [fl]⟩)⟩
  | over a b d => obtain ⟨_, _, _, h⟩ := h; exact ⟨_, _, h, .inl ⟨rfl, rfl, rfl⟩⟩

theorem pgetIs.keep {bl : Nat} {c : Cfg} {who : Int} {ph : PGetPh} {w w' : World} {bx : Nat} {S : List Nat} (h : pgetIs bl c who ph w bx) (k : Keep S w w') (hs : bx ∉ S) (hb : ∀ x ∈ S, Unbox w x) : pgetIs bl c who ph w' bx := by
  obtain ⟨h0, h⟩ := h
  refine ⟨h0, ?_⟩
  cases ph with
  | asks  => exact Blk.keep h k hs
  | links wd => exact Blk.keep h k hs
  | marks wd nx => exact Blk.keep h k hs
  | clears wd nx v => obtain ⟨bc, h1, h2⟩ := h; exact ⟨bc, h1.keep k hs, h2.box k hb⟩
  | heads wd nx => obtain ⟨bc, h1, h2⟩ := h; exact ⟨bc, h1.keep k hs, h2.box k hb⟩
  | counts wd nx => exact Blk.keep h k hs
  | over a b d => obtain ⟨a1, a2, a3, h⟩ := h; exact ⟨a1, a2, a3, h.keep k hs⟩

theorem call_pget_first : Callable 137 := fun _ _ => by kernel_rfl

theorem call_pget_second : Callable 189 := fun _ _ => by kernel_rfl

theorem call_pget_masks : Callable 218 := fun _ _ => by kernel_rfl

theorem call_pget_masked : Callable 235 := fun _ _ => by kernel_rfl

theorem call_pget_got : Callable 249 := fun _ _ => by kernel_rfl

theorem call_pget_ends : Callable 261 := fun _ _ => by kernel_rfl

set_option maxRecDepth 100000 in
set_option maxHeartbeats 600000 in
theorem pget_Step_of {w : World} {bx : Nat} {m : Value} {R : Bool → World → Prop} (h : Calls Try.prog 127 #[.pointer (some ⟨bx, 0, none⟩), m] w (Stepped R)) :
    Calls Try.prog 50 #[.pointer (some ⟨bx, 0, none⟩), m] w (Stepped R) := by
  have H := Lib.hid h
  clear h
  go_enter Try.func50, Try.ntmps50
  go_wp2_with fail
  refine H.out.mono ?_
  rintro e w1 ⟨d, rfl, hR⟩
  have HR := Lib.hid hR
  clear hR
  cases d
  all_goals
    go_wp2
    go_ret
    exact ⟨_, rfl, HR.out⟩

set_option maxRecDepth 100000 in
set_option maxHeartbeats 600000 in
theorem pget_step {w : World} {bx bm bw bl : Nat} {c : Cfg} {who : Int} {ph : PGetPh} {M : Mem} (h : pgetIs bl c who ph w bx) (hM : MemAt w bm bw M) (hl : LayAt w bl c) :
    Calls Try.prog 50 #[.pointer (some ⟨bx, 0, none⟩), .pointer (some ⟨bm, 0, none⟩)] w (Stepped (Then (pgetIs bl c who) PGetPh.isOver bx bm bw (pgetNext c who M ph) w)) := by
  obtain ⟨n1, n2⟩ := hM.ne_of_len h.len (by decide) (by decide)
  obtain ⟨n4, n5⟩ := hM.ne_of_len hl.len (by decide) (by decide)
  have n3 : bl ≠ bx := hl.len.ne h.len (by decide)
  have nl : bl ∉ [bx, bm, bw] := by simp [n3, n4, n5]
  have hbig := three_big h.len (by decide) hM
  have hr := hM.range
  refine pget_Step_of ?_
  have hst := h.state
  have hall := h
  obtain ⟨ok, h⟩ := h
  cases ph with
  | asks  =>
    refine flow_step'_m h hM n1 n2 ⟨by simp only [fl]; omega, by simp only [fl]; omega⟩ rfl call_pget_first (by simp [fl]) (by simp [fl]) rfl ?_
    intro w1 hx1 hM1 hk1
    have hr1 := load_range hr who (9)
    by_cases hv : ((M.load who (9)).1) = 0
    · have e1 : pgetNext c who M (.asks ) = (.over 0 0 (-1), (M.load who (9)).2) := by simp [pgetNext, hv]
      rw [e1]
      refine (pget_first_no 0 0 (-1) hx1 (hl.keep hk1 nl) n3 _ hv).mono ?_
      rintro e w2 ⟨rfl, hb, hk2⟩
      exact ⟨rfl, true, ⟨_, _, hb, .inl ⟨rfl, rfl, rfl⟩⟩, rfl, ⟨trivial, _, _, _, hb⟩, hM1.keep hk2 (by simp [Ne.symm n1]) (by simp [Ne.symm n2]), hk1.trans (hk2.mono (by simp))⟩
    · have e1 : pgetNext c who M (.asks ) = (.links ((M.load who (9)).1), (M.load who (9)).2) := by simp [pgetNext, hv]
      rw [e1]
      refine (pget_first 0 0 (-1) hx1 (hl.keep hk1 nl) n3 _ hv hr1.1 hr1.2).mono ?_
      rintro e w2 ⟨rfl, hb, hk2⟩
      exact ⟨rfl, false, ⟨_, _, hb, .inr (.inl ⟨rfl, by simp [Fl.on]⟩)⟩, rfl, ⟨by simp only [PGetPh.ok]; exact ⟨by omega, hr1.2⟩, hb⟩, hM1.keep hk2 (by simp [Ne.symm n1]) (by simp [Ne.symm n2]), hk1.trans (hk2.mono (by simp))⟩
  | links wd =>
    simp only [PGetPh.ok] at ok
    refine flow_step'_m h hM n1 n2 ⟨by simp only [fl]; omega, by simp only [fl]; omega⟩ rfl call_pget_second (by simp [fl]) (by simp [fl]) rfl ?_
    intro w1 hx1 hM1 hk1
    have hr1 := load_range hr who (c.proc (less1 wd) 7)
    refine (pget_second wd 0 (-1) hx1 (hl.keep hk1 nl) n3 _).mono ?_
    rintro e w2 ⟨rfl, hb, hk2⟩
    exact ⟨rfl, false, ⟨_, _, hb, .inr (.inl ⟨rfl, by simp [Fl.on]⟩)⟩, rfl, ⟨by simp only [PGetPh.ok]; exact ⟨ok, hr1⟩, hb⟩, hM1.keep hk2 (by simp [Ne.symm n1]) (by simp [Ne.symm n2]), hk1.trans (hk2.mono (by simp))⟩
  | marks wd nx =>
    simp only [PGetPh.ok] at ok
    refine flow_step'_m h hM n1 n2 ⟨by simp only [fl]; omega, by simp only [fl]; omega⟩ rfl call_pget_masks (by simp [fl]) (by simp [fl]) rfl ?_
    intro w1 hx1 hM1 hk1
    have hr1 := load_range hr who (19)
    refine (pget_masks wd nx (-1) hx1 (hl.keep hk1 nl) n3 _ (by omega) (by omega)).mono ?_
    rintro e w2 ⟨rfl, bc2, hb, hc2, hk2⟩
    exact ⟨rfl, false, ⟨_, _, hb, .inr (.inl ⟨rfl, by simp [Fl.on]⟩)⟩, rfl, ⟨by simp only [PGetPh.ok]; exact ⟨ok.1, ok.2, hr1⟩, bc2, hb, hc2⟩, hM1.keep hk2 (by simp [Ne.symm n1]) (by simp [Ne.symm n2]), hk1.trans (hk2.mono (by simp))⟩
  | clears wd nx v =>
    simp only [PGetPh.ok] at ok
    obtain ⟨bc, hx, hc⟩ := h
    refine flow_step'_c hx hM n1 n2 ⟨by simp only [fl]; have := bitsu_range .andNot v (bitI (less1 wd)); omega, by simp only [fl]; have := bitsu_range .andNot v (bitI (less1 wd)); omega⟩ rfl call_store1 (by simp [fl]) (by simp [fl]) rfl ?_
    intro w1 hx1 hM1 hk1
    refine store1_any (hc.one hk1 hbig) call_pget_masked ((pget_masked wd nx (-1) hx1 (hl.keep hk1 nl) n3).mono ?_)
    rintro e w2 ⟨rfl, bc2, hb, hc2, hk2⟩
    exact ⟨rfl, false, ⟨_, _, hb, .inr (.inl ⟨rfl, by simp [Fl.on]⟩)⟩, rfl, ⟨by simp only [PGetPh.ok]; exact ⟨ok.1, ok.2.1⟩, bc2, hb, hc2⟩, hM1.keep hk2 (by simp [Ne.symm n1]) (by simp [Ne.symm n2]), hk1.trans (hk2.mono (by simp))⟩
  | heads wd nx =>
    simp only [PGetPh.ok] at ok
    obtain ⟨bc, hx, hc⟩ := h
    refine flow_step'_c hx hM n1 n2 ⟨by simp only [fl]; omega, by simp only [fl]; omega⟩ rfl call_store1 (by simp [fl]) (by simp [fl]) rfl ?_
    intro w1 hx1 hM1 hk1
    refine store1_any (hc.one hk1 hbig) call_pget_got ((pget_got wd nx (-1) hx1 (hl.keep hk1 nl) n3 (by omega) (by omega)).mono ?_)
    rintro e w2 ⟨rfl, hb, hk2⟩
    exact ⟨rfl, false, ⟨_, _, hb, .inr (.inl ⟨rfl, by simp [Fl.on]⟩)⟩, rfl, ⟨trivial, hb⟩, hM1.keep hk2 (by simp [Ne.symm n1]) (by simp [Ne.symm n2]), hk1.trans (hk2.mono (by simp))⟩
  | counts wd nx =>
    refine flow_step'_m h hM n1 n2 ⟨by simp only [fl]; omega, by simp only [fl]; omega⟩ rfl call_pget_ends (by simp [fl]) (by simp [fl]) rfl ?_
    intro w1 hx1 hM1 hk1
    refine (pget_ends_any _ _ _).mono ?_
    rintro e w2 ⟨rfl, rfl⟩
    exact ⟨rfl, true, ⟨_, _, hx1, .inl ⟨rfl, rfl, rfl⟩⟩, rfl, ⟨trivial, _, _, _, hx1⟩, hM1, hk1⟩
  | over a b d =>
    exact (flow_step_idle hst).mono fun e w2 ⟨he, hw⟩ => ⟨true, he, rfl, hw ▸ hall, hw ▸ hM, hw ▸ Keep.refl _ _⟩

set_option maxRecDepth 100000 in
set_option maxHeartbeats 600000 in
theorem pget_new {w : World} {bl : Nat} {c : Cfg} (hl : LayAt w bl c)  (who : Int)  :
    Calls Try.prog 49 #[.pointer (some ⟨bl, 0, none⟩), .int .i64 who] w (Made (pgetIs bl c who .asks) w) := by
  have HL := Lib.hid hl
  have hlt := hl.lt
  clear hl
  go_enter Try.func49, Try.ntmps49
  go_wp2_with fail
  refine (flow_of (f := zeroFl) (rest := pgetRest bl (0) (0) (-1)) ⟨_, heap_alloc_new w _⟩ who).mono ?_
  rintro e w1' ⟨rfl, hb1, hk1'⟩
  have HKA := Lib.hid (Keep.trans' (Keep.alloc (Keep.refl [] w)) hk1' (by simp))
  have HX := Lib.hid hb1
  have lx := hb1.lt
  clear hb1 hk1'
  go_wp2_with fail
  refine wp_kept_tail_at (w0 := w) (S := []) (bx := w.heap.size) (cs := ({ zeroFl with who := who } : Fl).cells ++ pgetRest bl (0) (0) (-1)) 7 (by kernel_rfl) (by kernel_rfl) (by (with_reducible exact HKA.out)) (by have hx2 := HX.out; (repeat (first | with_reducible exact hx2 | with_reducible apply Blk.drewN | with_reducible apply Blk.drew | with_reducible apply Blk.alloc | with_reducible apply Blk.set | (with_reducible apply Blk.other; rotate_left; (first | assumption | (simp; omega)); rotate_right) | with_reducible rfl | rfl | (simp [Fl.cells, pgetRest, zeroFl]; done)))) ?_
  intro w1 hk1 hx1 cx1
  have HX1 := Lib.hid hx1
  have HK1 := Lib.hid hk1
  have HL1 := Lib.hid (HL.out.keep hk1 (by simp))
  clear hx1 hk1
  simp only [Fl.cells, zeroFl, pgetRest, List.cons_append, List.nil_append] at cx1
  simp only [List.take_succ_cons, List.take_zero, List.drop_succ_cons, List.drop_zero]
  repeat (quiet_step (first | exact calls_kept (Calls.swap_eq (lay_word (HL1.out.kept _) 9 (by decide) (by decide)))))
  refine wpQuiet_nil ?_
  rintro _ ⟨⟨wq, hkq⟩, rfl⟩
  have HQ := Lib.hid hkq
  clear hkq
  go_wp2_with fail
  have hx2 := HX1.out.keep HQ.out (by simp)
  refine (flow_load (f := { zeroFl with who := who }) (rest := pgetRest bl (0) (0) (-1)) hx2 9 137 _).mono ?_
  rintro e w3 ⟨rfl, hb3, hk3⟩
  have HB3 := Lib.hid hb3
  have HK3 := Lib.hid hk3
  skip
  clear hb3 hk3 hx2
  go_wp2
  go_ret
  exact ⟨w.heap.size, rfl, Nat.le_refl _, HB3.out.lt, ⟨trivial, HB3.out⟩, ((HK1.out.trans HQ.out).trans' HK3.out (by simp))⟩


set_option maxRecDepth 100000 in
set_option maxHeartbeats 600000 in
theorem pget_Done {w : World} {bx : Nat} {d : Bool} (h : Fl.State w bx d) : Calls Try.prog 51 #[.pointer (some ⟨bx, 0, none⟩)] w fun e w' => e = .returned (.bool d) ∧ w = w' := by
  have H := Lib.hid (flow_done h)
  clear h
  cases d
  all_goals
    go_enter Try.func51, Try.ntmps51
    go_wp2_with fail
    refine H.out.mono ?_
    rintro e w1 ⟨rfl, rfl⟩
    go_wp2
    go_ret
    exact ⟨rfl, rfl⟩

set_option maxRecDepth 100000 in
set_option maxHeartbeats 600000 in
theorem pget_P_of {w : World} {bx bl : Nat} {f : Fl} {word next p : Int} (hx : Blk w bx (f.cells ++ pgetRest bl word next p)) :
    Calls Try.prog 52 #[.pointer (some ⟨bx, 0, none⟩)] w fun e w' => e = .returned (.int .i64 p) ∧ w = w' := by
  have cx := hx.cell
  unfold Fl.cells pgetRest at cx
  clear hx
  go_enter Try.func52, Try.ntmps52
  go_wp2
  go_ret
  exact ⟨rfl, rfl⟩

/-- Which processor a get has got. -/
def PGetPh.got : PGetPh → Int
  | .counts wd _ => less1 wd
  | .over _ _ d => d
  | _ => -1

theorem pget_P {bl : Nat} {c : Cfg} {who : Int} {ph : PGetPh} {w : World} {bx : Nat} (h : pgetIs bl c who ph w bx) :
    Calls Try.prog 52 #[.pointer (some ⟨bx, 0, none⟩)] w fun e w' => e = .returned (.int .i64 ph.got) ∧ w = w' := by
  obtain ⟨_, h⟩ := h
  cases ph with
  | asks => exact pget_P_of h
  | links wd => exact pget_P_of h
  | marks wd nx => exact pget_P_of h
  | clears wd nx v => obtain ⟨bc, h, _⟩ := h; exact pget_P_of h
  | heads wd nx => obtain ⟨bc, h, _⟩ := h; exact pget_P_of h
  | counts wd nx => exact pget_P_of h
  | over a b d => obtain ⟨_, _, _, h⟩ := h; exact pget_P_of h

theorem mach_pput : Machine0 77 48 := ⟨fun _ _ => by kernel_rfl, fun _ w => run_typeAssert_lacksB Try.underlying231 (by kernel_rfl) (by kernel_rfl) _ _ w, fun _ _ => by kernel_rfl, fun _ _ => by kernel_rfl⟩
theorem mach_pget : Machine0 79 50 := ⟨fun _ _ => by kernel_rfl, fun _ w => run_typeAssert_lacksB Try.underlying231 (by kernel_rfl) (by kernel_rfl) _ _ w, fun _ _ => by kernel_rfl, fun _ _ => by kernel_rfl⟩
def pputK (bl : Nat) (p : Int) (c : Cfg) (who : Int) : Kind PPutPh := plainK (pputIs bl p c who) (pputNext p c who) PPutPh.isOver 77 48
def pgetK (bl : Nat) (c : Cfg) (who : Int) : Kind PGetPh := plainK (pgetIs bl c who) (pgetNext c who) PGetPh.isOver 79 50
theorem pputK_ok {bl : Nat} {p : Int} {c : Cfg} {who : Int} : (pputK bl p c who).Ok bl c :=
  plainK_ok (n := 12) (by decide) (by decide) (fun h => h.len) (fun h k hs hb => h.keep k hs hb) (fun h => h.state) (fun h hM hl => pput_step h hM hl) (fun h => pput_Step_of h) mach_pput
theorem pgetK_ok {bl : Nat} {c : Cfg} {who : Int} : (pgetK bl c who).Ok bl c :=
  plainK_ok (n := 13) (by decide) (by decide) (fun h => h.len) (fun h k hs hb => h.keep k hs hb) (fun h => h.state) (fun h hM hl => pget_step h hM hl) (fun h => pget_Step_of h) mach_pget

end Go.Proofs.Ytophgiocmldliaa
