/- Package idlem: a new machine; each step of a machine, said of plain states. -/
import Derived.Test.YtophgiocmldliaaI1
namespace Go.Proofs.Ytophgiocmldliaa
open Go.RowKit

set_option maxRecDepth 100000 in
set_option maxHeartbeats 600000 in
theorem iput_ends_any (bx : Nat) (v : Int) (w : World) : Calls Try.prog 232 #[.pointer (some ⟨bx, 0, none⟩), .int .u64 v] w fun e w' => e = .returned (.tuple #[]) ∧ w = w' := by
  go_enter Try.func232, Try.ntmps232
  go_wp2
  go_end0
  exact ⟨rfl, rfl⟩

set_option maxRecDepth 100000 in
set_option maxHeartbeats 600000 in
theorem iget_ends_any (bx : Nat) (v : Int) (w : World) : Calls Try.prog 233 #[.pointer (some ⟨bx, 0, none⟩), .int .u64 v] w fun e w' => e = .returned (.tuple #[]) ∧ w = w' := by
  go_enter Try.func233, Try.ntmps233
  go_wp2
  go_end0
  exact ⟨rfl, rfl⟩

/-- Where a machine of idlem stands. -/
inductive IPutPh where
  | asks
  | links (v : Int)
  | heads
  | counts
  | over

def IPutPh.isOver : IPutPh → Bool
  | .over => true
  | _ => false

/-- What holds of the numbers that it holds. -/
def IPutPh.ok (t : Int) : IPutPh → Prop
  | .asks  => 0 ≤ t ∧ t < 1000
  | .links v => (0 ≤ t ∧ t < 1000) ∧ 0 ≤ v ∧ v < 18446744073709551616
  | .heads  => 0 ≤ t ∧ t < 1000
  | _ => True

/-- The machine in the block bx. -/
def iputAt (bl : Nat) (t : Int) (c : Cfg) (who : Int) (ph : IPutPh) (w : World) (bx : Nat) : Prop :=
  match ph with
  | .asks  => Blk w bx ((fl who 1 (11) (0) (0) (mval 133 bx)).cells ++ iputRest bl (t))
  | .links v => ∃ bc, Blk w bx ((fl who 2 (c.thread t 2) (0) (v) (cval 181 bc)).cells ++ iputRest bl (t)) ∧ Blk w bc [mval 184 bx]
  | .heads  => ∃ bc, Blk w bx ((fl who 2 (11) (0) (t + 1) (cval 181 bc)).cells ++ iputRest bl (t)) ∧ Blk w bc [mval 214 bx]
  | .counts  => Blk w bx ((fl who 4 (12) (0) (1) (mval 232 bx)).cells ++ iputRest bl (t))
  | .over  => ∃ at_ old x, Blk w bx ((fl who 0 at_ old x .nilFunc).cells ++ iputRest bl (t))

def iputIs (bl : Nat) (t : Int) (c : Cfg) (who : Int) (ph : IPutPh) (w : World) (bx : Nat) : Prop := ph.ok t ∧ iputAt bl t c who ph w bx

def iputNext (t : Int) (c : Cfg) (who : Int) (M : Mem) : IPutPh → IPutPh × Mem
  | .asks  => (.links ((M.load who (11)).1), (M.load who (11)).2)
  | .links v => (.heads, M.store who (c.thread t 2) (v))
  | .heads  => (.counts, M.store who (11) (t + 1))
  | .counts  => (.over, (M.add who (12) (1)).2)
  | .over  => (.over , M)

theorem iputIs.len {bl : Nat} {t : Int} {c : Cfg} {who : Int} {ph : IPutPh} {w : World} {bx : Nat} (h : iputIs bl t c who ph w bx) : Len w bx 11 := by
  obtain ⟨_, h⟩ := h
  cases ph with
  | asks  => exact ⟨_, h, rfl⟩
  | links v => obtain ⟨bc, h1, _⟩ := h; exact ⟨_, h1, rfl⟩
  | heads  => obtain ⟨bc, h1, _⟩ := h; exact ⟨_, h1, rfl⟩
  | counts  => exact ⟨_, h, rfl⟩
  | over  => obtain ⟨_, _, _, h⟩ := h; exact ⟨_, h, rfl⟩

theorem iputIs.state {bl : Nat} {t : Int} {c : Cfg} {who : Int} {ph : IPutPh} {w : World} {bx : Nat} (h : iputIs bl t c who ph w bx) : Fl.State w bx ph.isOver := by
  obtain ⟨_, h⟩ := h
  cases ph with
  | asks  => exact ⟨_, _, h, .inr (.inl ⟨rfl, by simp [fl]⟩)⟩
  | links v => obtain ⟨bc, h1, _⟩ := h; exact ⟨_, _, h1, .inr (.inl ⟨rfl, by simp [fl]⟩)⟩
  | heads  => obtain ⟨bc, h1, _⟩ := h; exact ⟨_, _, h1, .inr (.inl ⟨rfl, by simp [fl]⟩)⟩
  | counts  => exact ⟨_, _, h, .inr (.inl ⟨rfl, by simp [fl]⟩)⟩
  | over  => obtain ⟨_, _, _, h⟩ := h; exact ⟨_, _, h, .inl ⟨rfl, rfl, rfl⟩⟩

theorem iputIs.keep {bl : Nat} {t : Int} {c : Cfg} {who : Int} {ph : IPutPh} {w w' : World} {bx : Nat} {S : List Nat} (h : iputIs bl t c who ph w bx) (k : Keep S w w') (hs : bx ∉ S) (hb : ∀ x ∈ S, Unbox w x) : iputIs bl t c who ph w' bx := by
  obtain ⟨h0, h⟩ := h
  refine ⟨h0, ?_⟩
  cases ph with
  | asks  => exact Blk.keep h k hs
  | links v => obtain ⟨bc, h1, h2⟩ := h; exact ⟨bc, h1.keep k hs, h2.box k hb⟩
  | heads  => obtain ⟨bc, h1, h2⟩ := h; exact ⟨bc, h1.keep k hs, h2.box k hb⟩
  | counts  => exact Blk.keep h k hs
  | over  => obtain ⟨a1, a2, a3, h⟩ := h; exact ⟨a1, a2, a3, h.keep k hs⟩

theorem call_iput_first : Callable 133 := fun _ _ => by kernel_rfl

theorem call_iput_linked : Callable 184 := fun _ _ => by kernel_rfl

theorem call_iput_lies : Callable 214 := fun _ _ => by kernel_rfl

theorem call_iput_ends : Callable 232 := fun _ _ => by kernel_rfl

set_option maxRecDepth 100000 in
set_option maxHeartbeats 600000 in
theorem iput_Step_of {w : World} {bx : Nat} {m : Value} {R : Bool → World → Prop} (h : Calls Try.prog 127 #[.pointer (some ⟨bx, 0, none⟩), m] w (Stepped R)) :
    Calls Try.prog 39 #[.pointer (some ⟨bx, 0, none⟩), m] w (Stepped R) := by
  have H := Lib.hid h
  clear h
  go_enter Try.func39, Try.ntmps39
  go_wp2_with fail
  refine H.out.mono ?_
  rintro e w1 ⟨d, rfl, hR⟩
  have HR := Lib.hid hR
  clear hR
  cases d
  all_goals
    go_wp2
    go_ret
    exact ⟨_, rfl, HR.out⟩

set_option maxRecDepth 100000 in
set_option maxHeartbeats 600000 in
theorem iput_step {w : World} {bx bm bw bl : Nat} {t : Int} {c : Cfg} {who : Int} {ph : IPutPh} {M : Mem} (h : iputIs bl t c who ph w bx) (hM : MemAt w bm bw M) (hl : LayAt w bl c) :
    Calls Try.prog 39 #[.pointer (some ⟨bx, 0, none⟩), .pointer (some ⟨bm, 0, none⟩)] w (Stepped (Then (iputIs bl t c who) IPutPh.isOver bx bm bw (iputNext t c who M ph) w)) := by
  obtain ⟨n1, n2⟩ := hM.ne_of_len h.len (by decide) (by decide)
  obtain ⟨n4, n5⟩ := hM.ne_of_len hl.len (by decide) (by decide)
  have n3 : bl ≠ bx := hl.len.ne h.len (by decide)
  have nl : bl ∉ [bx, bm, bw] := by simp [n3, n4, n5]
  have hbig := three_big h.len (by decide) hM
  have hr := hM.range
  refine iput_Step_of ?_
  have hst := h.state
  have hall := h
  obtain ⟨ok, h⟩ := h
  cases ph with
  | asks  =>
    simp only [IPutPh.ok] at ok
    refine flow_step'_m h hM n1 n2 ⟨by simp only [fl]; omega, by simp only [fl]; omega⟩ rfl call_iput_first (by simp [fl]) (by simp [fl]) rfl ?_
    intro w1 hx1 hM1 hk1
    have hr1 := load_range hr who (11)
    refine (iput_first t hx1 (hl.keep hk1 nl) n3 _).mono ?_
    rintro e w2 ⟨rfl, bc2, hb, hc2, hk2⟩
    exact ⟨rfl, false, ⟨_, _, hb, .inr (.inl ⟨rfl, by simp [Fl.on]⟩)⟩, rfl, ⟨by simp only [IPutPh.ok]; exact ⟨ok, hr1⟩, bc2, hb, hc2⟩, hM1.keep hk2 (by simp [Ne.symm n1]) (by simp [Ne.symm n2]), hk1.trans (hk2.mono (by simp))⟩
  | links v =>
    simp only [IPutPh.ok] at ok
    obtain ⟨bc, hx, hc⟩ := h
    refine flow_step'_c hx hM n1 n2 ⟨by simp only [fl]; omega, by simp only [fl]; omega⟩ rfl call_store1 (by simp [fl]) (by simp [fl]) rfl ?_
    intro w1 hx1 hM1 hk1
    refine store1_any (hc.one hk1 hbig) call_iput_linked ((iput_linked t hx1 (hl.keep hk1 nl) n3 ok.1.1 ok.1.2).mono ?_)
    rintro e w2 ⟨rfl, bc2, hb, hc2, hk2⟩
    exact ⟨rfl, false, ⟨_, _, hb, .inr (.inl ⟨rfl, by simp [Fl.on]⟩)⟩, rfl, ⟨by simp only [IPutPh.ok]; exact ok.1, bc2, hb, hc2⟩, hM1.keep hk2 (by simp [Ne.symm n1]) (by simp [Ne.symm n2]), hk1.trans (hk2.mono (by simp))⟩
  | heads  =>
    simp only [IPutPh.ok] at ok
    obtain ⟨bc, hx, hc⟩ := h
    refine flow_step'_c hx hM n1 n2 ⟨by simp only [fl]; omega, by simp only [fl]; omega⟩ rfl call_store1 (by simp [fl]) (by simp [fl]) rfl ?_
    intro w1 hx1 hM1 hk1
    refine store1_any (hc.one hk1 hbig) call_iput_lies ((iput_lies t hx1 (hl.keep hk1 nl) n3).mono ?_)
    rintro e w2 ⟨rfl, hb, hk2⟩
    exact ⟨rfl, false, ⟨_, _, hb, .inr (.inl ⟨rfl, by simp [Fl.on]⟩)⟩, rfl, ⟨trivial, hb⟩, hM1.keep hk2 (by simp [Ne.symm n1]) (by simp [Ne.symm n2]), hk1.trans (hk2.mono (by simp))⟩
  | counts  =>
    refine flow_step'_m h hM n1 n2 ⟨by simp only [fl]; omega, by simp only [fl]; omega⟩ rfl call_iput_ends (by simp [fl]) (by simp [fl]) rfl ?_
    intro w1 hx1 hM1 hk1
    refine (iput_ends_any _ _ _).mono ?_
    rintro e w2 ⟨rfl, rfl⟩
    exact ⟨rfl, true, ⟨_, _, hx1, .inl ⟨rfl, rfl, rfl⟩⟩, rfl, ⟨trivial, _, _, _, hx1⟩, hM1, hk1⟩
  | over  =>
    exact (flow_step_idle hst).mono fun e w2 ⟨he, hw⟩ => ⟨true, he, rfl, hw ▸ hall, hw ▸ hM, hw ▸ Keep.refl _ _⟩

set_option maxRecDepth 100000 in
set_option maxHeartbeats 600000 in
theorem iput_new {w : World} {bl : Nat} {c : Cfg} (hl : LayAt w bl c) (t : Int) (who : Int) (t0 : 0 ≤ t) (t1 : t < 1000) :
    Calls Try.prog 38 #[.pointer (some ⟨bl, 0, none⟩), .int .i64 who, .int .i64 t] w (Made (iputIs bl t c who .asks) w) := by
  have HL := Lib.hid hl
  have hlt := hl.lt
  clear hl
  go_enter Try.func38, Try.ntmps38
  go_wp2_with fail
  refine (flow_of (f := zeroFl) (rest := iputRest bl (t)) ⟨_, heap_alloc_new w _⟩ who).mono ?_
  rintro e w1' ⟨rfl, hb1, hk1'⟩
  have HKA := Lib.hid (Keep.trans' (Keep.alloc (Keep.refl [] w)) hk1' (by simp))
  have HX := Lib.hid hb1
  have lx := hb1.lt
  clear hb1 hk1'
  go_wp2_with fail
  refine wp_kept_tail_at (w0 := w) (S := []) (bx := w.heap.size) (cs := ({ zeroFl with who := who } : Fl).cells ++ iputRest bl (t)) 7 (by kernel_rfl) (by kernel_rfl) (by (with_reducible exact HKA.out)) (by have hx2 := HX.out; (repeat (first | with_reducible exact hx2 | with_reducible apply Blk.drewN | with_reducible apply Blk.drew | with_reducible apply Blk.alloc | with_reducible apply Blk.set | (with_reducible apply Blk.other; rotate_left; (first | assumption | (simp; omega)); rotate_right) | with_reducible rfl | rfl | (simp [Fl.cells, iputRest, zeroFl]; done)))) ?_
  intro w1 hk1 hx1 cx1
  have HX1 := Lib.hid hx1
  have HK1 := Lib.hid hk1
  have HL1 := Lib.hid (HL.out.keep hk1 (by simp))
  clear hx1 hk1
  simp only [Fl.cells, zeroFl, iputRest, List.cons_append, List.nil_append] at cx1
  simp only [List.take_succ_cons, List.take_zero, List.drop_succ_cons, List.drop_zero]
  repeat (quiet_step (first | exact calls_kept (Calls.swap_eq (lay_word (HL1.out.kept _) 11 (by decide) (by decide)))))
  refine wpQuiet_nil ?_
  rintro _ ⟨⟨wq, hkq⟩, rfl⟩
  have HQ := Lib.hid hkq
  clear hkq
  go_wp2_with fail
  have hx2 := HX1.out.keep HQ.out (by simp)
  refine (flow_load (f := { zeroFl with who := who }) (rest := iputRest bl (t)) hx2 11 133 _).mono ?_
  rintro e w3 ⟨rfl, hb3, hk3⟩
  have HB3 := Lib.hid hb3
  have HK3 := Lib.hid hk3
  skip
  clear hb3 hk3 hx2
  go_wp2
  go_ret
  exact ⟨w.heap.size, rfl, Nat.le_refl _, HB3.out.lt, ⟨⟨t0, t1⟩, HB3.out⟩, ((HK1.out.trans HQ.out).trans' HK3.out (by simp))⟩

/-- Where a machine of idlem stands. -/
inductive IGetPh where
  | asks
  | empty
  | links (wd : Int)
  | heads (wd : Int) (v : Int)
  | counts (wd : Int)
  | makes (v : Int)
  | over (a : Int) (b : Int)

def IGetPh.isOver : IGetPh → Bool
  | .over _ _ => true
  | _ => false

/-- What holds of the numbers that it holds. -/
def IGetPh.ok  : IGetPh → Prop
  | .links wd => 0 < wd ∧ wd < 18446744073709551616
  | .heads wd v => (0 < wd ∧ wd < 18446744073709551616) ∧ 0 ≤ v ∧ v < 18446744073709551616
  | .makes v => 0 ≤ v ∧ v < 1000
  | _ => True

/-- The machine in the block bx. -/
def igetAt (bl : Nat) (c : Cfg) (who : Int) (ph : IGetPh) (w : World) (bx : Nat) : Prop :=
  match ph with
  | .asks  => Blk w bx ((fl who 1 (11) (0) (0) (mval 134 bx)).cells ++ igetRest bl (0) (-1))
  | .empty  => Blk w bx ((fl who 1 (15) (0) (0) (mval 185 bx)).cells ++ igetRest bl (0) (-1))
  | .links wd => Blk w bx ((fl who 1 (c.thread (less1 wd) 2) (0) (0) (mval 186 bx)).cells ++ igetRest bl (wd) (-1))
  | .heads wd v => ∃ bc, Blk w bx ((fl who 2 (11) (0) (v) (cval 181 bc)).cells ++ igetRest bl (wd) (-1)) ∧ Blk w bc [mval 216 bx]
  | .counts wd => Blk w bx ((fl who 4 (12) (0) (4294967295) (mval 233 bx)).cells ++ igetRest bl (wd) (less1 wd))
  | .makes v => ∃ bc, Blk w bx ((fl who 2 (15) (0) (v + 1) (cval 181 bc)).cells ++ igetRest bl (v + 1) (-1)) ∧ Blk w bc [mval 215 bx]
  | .over a b => ∃ at_ old x, Blk w bx ((fl who 0 at_ old x .nilFunc).cells ++ igetRest bl (a) (b))

def igetIs (bl : Nat) (c : Cfg) (who : Int) (ph : IGetPh) (w : World) (bx : Nat) : Prop := ph.ok  ∧ igetAt bl c who ph w bx

def igetNext (c : Cfg) (who : Int) (M : Mem) : IGetPh → IGetPh × Mem
  | .asks  => (if ((M.load who (11)).1) = 0 then .empty else .links ((M.load who (11)).1), (M.load who (11)).2)
  | .empty  => (if c.threads ≤ ((M.load who (15)).1) then .over 0 (-1) else .makes ((M.load who (15)).1), (M.load who (15)).2)
  | .links wd => (.heads wd ((M.load who (c.thread (less1 wd) 2)).1), (M.load who (c.thread (less1 wd) 2)).2)
  | .heads wd v => (.counts wd, M.store who (11) (v))
  | .counts wd => (.over wd (less1 wd), (M.add who (12) (4294967295)).2)
  | .makes v => (.over (v + 1) (less1 (v + 1)), M.store who (15) (v + 1))
  | .over a b => (.over a b, M)

theorem igetIs.len {bl : Nat} {c : Cfg} {who : Int} {ph : IGetPh} {w : World} {bx : Nat} (h : igetIs bl c who ph w bx) : Len w bx 12 := by
  obtain ⟨_, h⟩ := h
  cases ph with
  | asks  => exact ⟨_, h, rfl⟩
  | empty  => exact ⟨_, h, rfl⟩
  | links wd => exact ⟨_, h, rfl⟩
  | heads wd v => obtain ⟨bc, h1, _⟩ := h; exact ⟨_, h1, rfl⟩
  | counts wd => exact ⟨_, h, rfl⟩
  | makes v => obtain ⟨bc, h1, _⟩ := h; exact ⟨_, h1, rfl⟩
  | over a b => obtain ⟨_, _, _, h⟩ := h; exact ⟨_, h, rfl⟩

theorem igetIs.state {bl : Nat} {c : Cfg} {who : Int} {ph : IGetPh} {w : World} {bx : Nat} (h : igetIs bl c who ph w bx) : Fl.State w bx ph.isOver := by
  obtain ⟨_, h⟩ := h
  cases ph with
  | asks  => exact ⟨_, _, h, .inr (.inl ⟨rfl, by simp [fl]⟩)⟩
  | empty  => exact ⟨_, _, h, .inr (.inl ⟨rfl, by simp [fl]⟩)⟩
  | links wd => exact ⟨_, _, h, .inr (.inl ⟨rfl, by simp [fl]⟩)⟩
  | heads wd v => obtain ⟨bc, h1, _⟩ := h; exact ⟨_, _, h1, .inr (.inl ⟨rfl, by simp [fl]⟩)⟩
  | counts wd => exact ⟨_, _, h, .inr (.inl ⟨rfl, by simp [fl]⟩)⟩
  | makes v => obtain ⟨bc, h1, _⟩ := h; exact ⟨_, _, h1, .inr (.inl ⟨rfl, by simp [fl]⟩)⟩
  | over a b => obtain ⟨_, _, _, h⟩ := h; exact ⟨_, _, h, .inl ⟨rfl, rfl, rfl⟩⟩

theorem igetIs.keep {bl : Nat} {c : Cfg} {who : Int} {ph : IGetPh} {w w' : World} {bx : Nat} {S : List Nat} (h : igetIs bl c who ph w bx) (k : Keep S w w') (hs : bx ∉ S) (hb : ∀ x ∈ S, Unbox w x) : igetIs bl c who ph w' bx := by
  obtain ⟨h0, h⟩ := h
  refine ⟨h0, ?_⟩
  cases ph with
  | asks  => exact Blk.keep h k hs
  | empty  => exact Blk.keep h k hs
  | links wd => exact Blk.keep h k hs
  | heads wd v => obtain ⟨bc, h1, h2⟩ := h; exact ⟨bc, h1.keep k hs, h2.box k hb⟩
  | counts wd => exact Blk.keep h k hs
  | makes v => obtain ⟨bc, h1, h2⟩ := h; exact ⟨bc, h1.keep k hs, h2.box k hb⟩
  | over a b => obtain ⟨a1, a2, a3, h⟩ := h; exact ⟨a1, a2, a3, h.keep k hs⟩

theorem call_iget_first : Callable 134 := fun _ _ => by kernel_rfl

theorem call_iget_more : Callable 185 := fun _ _ => by kernel_rfl

theorem call_iget_second : Callable 186 := fun _ _ => by kernel_rfl

theorem call_iget_got : Callable 216 := fun _ _ => by kernel_rfl

theorem call_iget_ends : Callable 233 := fun _ _ => by kernel_rfl

theorem call_iget_made : Callable 215 := fun _ _ => by kernel_rfl

set_option maxRecDepth 100000 in
set_option maxHeartbeats 600000 in
theorem iget_Step_of {w : World} {bx : Nat} {m : Value} {R : Bool → World → Prop} (h : Calls Try.prog 127 #[.pointer (some ⟨bx, 0, none⟩), m] w (Stepped R)) :
    Calls Try.prog 41 #[.pointer (some ⟨bx, 0, none⟩), m] w (Stepped R) := by
  have H := Lib.hid h
  clear h
  go_enter Try.func41, Try.ntmps41
  go_wp2_with fail
  refine H.out.mono ?_
  rintro e w1 ⟨d, rfl, hR⟩
  have HR := Lib.hid hR
  clear hR
  cases d
  all_goals
    go_wp2
    go_ret
    exact ⟨_, rfl, HR.out⟩

set_option maxRecDepth 100000 in
set_option maxHeartbeats 600000 in
theorem iget_step {w : World} {bx bm bw bl : Nat} {c : Cfg} {who : Int} {ph : IGetPh} {M : Mem} (h : igetIs bl c who ph w bx) (hM : MemAt w bm bw M) (hl : LayAt w bl c) :
    Calls Try.prog 41 #[.pointer (some ⟨bx, 0, none⟩), .pointer (some ⟨bm, 0, none⟩)] w (Stepped (Then (igetIs bl c who) IGetPh.isOver bx bm bw (igetNext c who M ph) w)) := by
  obtain ⟨n1, n2⟩ := hM.ne_of_len h.len (by decide) (by decide)
  obtain ⟨n4, n5⟩ := hM.ne_of_len hl.len (by decide) (by decide)
  have n3 : bl ≠ bx := hl.len.ne h.len (by decide)
  have nl : bl ∉ [bx, bm, bw] := by simp [n3, n4, n5]
  have hbig := three_big h.len (by decide) hM
  have hr := hM.range
  refine iget_Step_of ?_
  have hst := h.state
  have hall := h
  obtain ⟨ok, h⟩ := h
  cases ph with
  | asks  =>
    refine flow_step'_m h hM n1 n2 ⟨by simp only [fl]; omega, by simp only [fl]; omega⟩ rfl call_iget_first (by simp [fl]) (by simp [fl]) rfl ?_
    intro w1 hx1 hM1 hk1
    have hr1 := load_range hr who (11)
    by_cases hv : ((M.load who (11)).1) = 0
    · have e1 : igetNext c who M (.asks ) = (.empty, (M.load who (11)).2) := by simp [igetNext, hv]
      rw [e1]
      refine (iget_first_no 0 (-1) hx1 (hl.keep hk1 nl) n3 _ hv).mono ?_
      rintro e w2 ⟨rfl, hb, hk2⟩
      exact ⟨rfl, false, ⟨_, _, hb, .inr (.inl ⟨rfl, by simp [Fl.on]⟩)⟩, rfl, ⟨trivial, hb⟩, hM1.keep hk2 (by simp [Ne.symm n1]) (by simp [Ne.symm n2]), hk1.trans (hk2.mono (by simp))⟩
    · have e1 : igetNext c who M (.asks ) = (.links ((M.load who (11)).1), (M.load who (11)).2) := by simp [igetNext, hv]
      rw [e1]
      refine (iget_first 0 (-1) hx1 (hl.keep hk1 nl) n3 _ hv hr1.1 hr1.2).mono ?_
      rintro e w2 ⟨rfl, hb, hk2⟩
      exact ⟨rfl, false, ⟨_, _, hb, .inr (.inl ⟨rfl, by simp [Fl.on]⟩)⟩, rfl, ⟨by simp only [IGetPh.ok]; exact ⟨by omega, hr1.2⟩, hb⟩, hM1.keep hk2 (by simp [Ne.symm n1]) (by simp [Ne.symm n2]), hk1.trans (hk2.mono (by simp))⟩
  | empty  =>
    refine flow_step'_m h hM n1 n2 ⟨by simp only [fl]; omega, by simp only [fl]; omega⟩ rfl call_iget_more (by simp [fl]) (by simp [fl]) rfl ?_
    intro w1 hx1 hM1 hk1
    have hr1 := load_range hr who (15)
    obtain ⟨p0, p1, t0, t1, g0, g1⟩ := hl.right
    by_cases hv : c.threads ≤ ((M.load who (15)).1)
    · have e1 : igetNext c who M (.empty ) = (.over 0 (-1), (M.load who (15)).2) := by simp [igetNext, hv]
      rw [e1]
      refine (iget_more_no 0 (-1) hx1 (hl.keep hk1 nl) n3 _ hv).mono ?_
      rintro e w2 ⟨rfl, hb, hk2⟩
      exact ⟨rfl, true, ⟨_, _, hb, .inl ⟨rfl, rfl, rfl⟩⟩, rfl, ⟨trivial, _, _, _, hb⟩, hM1.keep hk2 (by simp [Ne.symm n1]) (by simp [Ne.symm n2]), hk1.trans (hk2.mono (by simp))⟩
    · have e1 : igetNext c who M (.empty ) = (.makes ((M.load who (15)).1), (M.load who (15)).2) := by simp [igetNext, hv]
      rw [e1]
      refine (iget_more_yes 0 (-1) hx1 (hl.keep hk1 nl) n3 _ hr1.1 (by omega)).mono ?_
      rintro e w2 ⟨rfl, bc2, hb, hc2, hk2⟩
      exact ⟨rfl, false, ⟨_, _, hb, .inr (.inl ⟨rfl, by simp [Fl.on]⟩)⟩, rfl, ⟨by simp only [IGetPh.ok]; exact ⟨hr1.1, by omega⟩, bc2, hb, hc2⟩, hM1.keep hk2 (by simp [Ne.symm n1]) (by simp [Ne.symm n2]), hk1.trans (hk2.mono (by simp))⟩
  | links wd =>
    simp only [IGetPh.ok] at ok
    refine flow_step'_m h hM n1 n2 ⟨by simp only [fl]; omega, by simp only [fl]; omega⟩ rfl call_iget_second (by simp [fl]) (by simp [fl]) rfl ?_
    intro w1 hx1 hM1 hk1
    have hr1 := load_range hr who (c.thread (less1 wd) 2)
    refine (iget_second wd (-1) hx1 (hl.keep hk1 nl) n3 _).mono ?_
    rintro e w2 ⟨rfl, bc2, hb, hc2, hk2⟩
    exact ⟨rfl, false, ⟨_, _, hb, .inr (.inl ⟨rfl, by simp [Fl.on]⟩)⟩, rfl, ⟨by simp only [IGetPh.ok]; exact ⟨ok, hr1⟩, bc2, hb, hc2⟩, hM1.keep hk2 (by simp [Ne.symm n1]) (by simp [Ne.symm n2]), hk1.trans (hk2.mono (by simp))⟩
  | heads wd v =>
    simp only [IGetPh.ok] at ok
    obtain ⟨bc, hx, hc⟩ := h
    refine flow_step'_c hx hM n1 n2 ⟨by simp only [fl]; omega, by simp only [fl]; omega⟩ rfl call_store1 (by simp [fl]) (by simp [fl]) rfl ?_
    intro w1 hx1 hM1 hk1
    refine store1_any (hc.one hk1 hbig) call_iget_got ((iget_got wd (-1) hx1 (hl.keep hk1 nl) n3 (by omega) (by omega) (by omega)).mono ?_)
    rintro e w2 ⟨rfl, hb, hk2⟩
    exact ⟨rfl, false, ⟨_, _, hb, .inr (.inl ⟨rfl, by simp [Fl.on]⟩)⟩, rfl, ⟨trivial, hb⟩, hM1.keep hk2 (by simp [Ne.symm n1]) (by simp [Ne.symm n2]), hk1.trans (hk2.mono (by simp))⟩
  | counts wd =>
    refine flow_step'_m h hM n1 n2 ⟨by simp only [fl]; omega, by simp only [fl]; omega⟩ rfl call_iget_ends (by simp [fl]) (by simp [fl]) rfl ?_
    intro w1 hx1 hM1 hk1
    refine (iget_ends_any _ _ _).mono ?_
    rintro e w2 ⟨rfl, rfl⟩
    exact ⟨rfl, true, ⟨_, _, hx1, .inl ⟨rfl, rfl, rfl⟩⟩, rfl, ⟨trivial, _, _, _, hx1⟩, hM1, hk1⟩
  | makes v =>
    simp only [IGetPh.ok] at ok
    obtain ⟨bc, hx, hc⟩ := h
    refine flow_step'_c hx hM n1 n2 ⟨by simp only [fl]; omega, by simp only [fl]; omega⟩ rfl call_store1 (by simp [fl]) (by simp [fl]) rfl ?_
    intro w1 hx1 hM1 hk1
    refine store1_any (hc.one hk1 hbig) call_iget_made ((iget_made (v + 1) (-1) hx1 (hl.keep hk1 nl) n3 (by omega) (by omega) (by omega)).mono ?_)
    rintro e w2 ⟨rfl, hb, hk2⟩
    exact ⟨rfl, true, ⟨_, _, hb, .inl ⟨rfl, rfl, rfl⟩⟩, rfl, ⟨trivial, _, _, _, hb⟩, hM1.keep hk2 (by simp [Ne.symm n1]) (by simp [Ne.symm n2]), hk1.trans (hk2.mono (by simp))⟩
  | over a b =>
    exact (flow_step_idle hst).mono fun e w2 ⟨he, hw⟩ => ⟨true, he, rfl, hw ▸ hall, hw ▸ hM, hw ▸ Keep.refl _ _⟩

set_option maxRecDepth 100000 in
set_option maxHeartbeats 600000 in
theorem iget_new {w : World} {bl : Nat} {c : Cfg} (hl : LayAt w bl c)  (who : Int)  :
    Calls Try.prog 40 #[.pointer (some ⟨bl, 0, none⟩), .int .i64 who] w (Made (igetIs bl c who .asks) w) := by
  have HL := Lib.hid hl
  have hlt := hl.lt
  clear hl
  go_enter Try.func40, Try.ntmps40
  go_wp2_with fail
  refine (flow_of (f := zeroFl) (rest := igetRest bl (0) (-1)) ⟨_, heap_alloc_new w _⟩ who).mono ?_
  rintro e w1' ⟨rfl, hb1, hk1'⟩
  have HKA := Lib.hid (Keep.trans' (Keep.alloc (Keep.refl [] w)) hk1' (by simp))
  have HX := Lib.hid hb1
  have lx := hb1.lt
  clear hb1 hk1'
  go_wp2_with fail
  refine wp_kept_tail_at (w0 := w) (S := []) (bx := w.heap.size) (cs := ({ zeroFl with who := who } : Fl).cells ++ igetRest bl (0) (-1)) 7 (by kernel_rfl) (by kernel_rfl) (by (with_reducible exact HKA.out)) (by have hx2 := HX.out; (repeat (first | with_reducible exact hx2 | with_reducible apply Blk.drewN | with_reducible apply Blk.drew | with_reducible apply Blk.alloc | with_reducible apply Blk.set | (with_reducible apply Blk.other; rotate_left; (first | assumption | (simp; omega)); rotate_right) | with_reducible rfl | rfl | (simp [Fl.cells, igetRest, zeroFl]; done)))) ?_
  intro w1 hk1 hx1 cx1
  have HX1 := Lib.hid hx1
  have HK1 := Lib.hid hk1
  have HL1 := Lib.hid (HL.out.keep hk1 (by simp))
  clear hx1 hk1
  simp only [Fl.cells, zeroFl, igetRest, List.cons_append, List.nil_append] at cx1
  simp only [List.take_succ_cons, List.take_zero, List.drop_succ_cons, List.drop_zero]
  repeat (quiet_step (first | exact calls_kept (Calls.swap_eq (lay_word (HL1.out.kept _) 11 (by decide) (by decide)))))
  refine wpQuiet_nil ?_
  rintro _ ⟨⟨wq, hkq⟩, rfl⟩
  have HQ := Lib.hid hkq
  clear hkq
  go_wp2_with fail
  have hx2 := HX1.out.keep HQ.out (by simp)
  refine (flow_load (f := { zeroFl with who := who }) (rest := igetRest bl (0) (-1)) hx2 11 134 _).mono ?_
  rintro e w3 ⟨rfl, hb3, hk3⟩
  have HB3 := Lib.hid hb3
  have HK3 := Lib.hid hk3
  skip
  clear hb3 hk3 hx2
  go_wp2
  go_ret
  exact ⟨w.heap.size, rfl, Nat.le_refl _, HB3.out.lt, ⟨trivial, HB3.out⟩, ((HK1.out.trans HQ.out).trans' HK3.out (by simp))⟩

set_option maxRecDepth 100000 in
set_option maxHeartbeats 600000 in
theorem iget_Done {w : World} {bx : Nat} {d : Bool} (h : Fl.State w bx d) : Calls Try.prog 43 #[.pointer (some ⟨bx, 0, none⟩)] w fun e w' => e = .returned (.bool d) ∧ w = w' := by
  have H := Lib.hid (flow_done h)
  clear h
  cases d
  all_goals
    go_enter Try.func43, Try.ntmps43
    go_wp2_with fail
    refine H.out.mono ?_
    rintro e w1 ⟨rfl, rfl⟩
    go_wp2
    go_ret
    exact ⟨rfl, rfl⟩

set_option maxRecDepth 100000 in
set_option maxHeartbeats 600000 in
theorem iget_T {bl : Nat} {c : Cfg} {who a b : Int} {w : World} {bx : Nat} (h : igetIs bl c who (.over a b) w bx) :
    Calls Try.prog 42 #[.pointer (some ⟨bx, 0, none⟩)] w fun e w' => e = .returned (.int .i64 b) ∧ w = w' := by
  obtain ⟨_, _, _, _, hx⟩ := h
  have cx := hx.cell
  unfold Fl.cells igetRest at cx
  clear hx
  go_enter Try.func42, Try.ntmps42
  go_wp2
  go_ret
  exact ⟨rfl, rfl⟩

end Go.Proofs.Ytophgiocmldliaa
