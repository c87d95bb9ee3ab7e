/- The walk of LockAlone: many that acquire and release a lock, between one another. -/
import Derived.Test.YtophgiocmldliaaL8p
import Derived.Test.YtophgiocmldliaaA08
namespace Go.Proofs.Ytophgiocmldliaa
open Go.RowKit
theorem info_acq : (Try.prog.info? 60).map (fun i => (i.zero, i.size, i.bytes)) = some (some (.pointer none), 1, 8) := by kernel_rfl
theorem under_acqs : Try.prog.underlying 58 = some (.slice 60) := by kernel_rfl
theorem info_rel : (Try.prog.info? 61).map (fun i => (i.zero, i.size, i.bytes)) = some (some (.pointer none), 1, 8) := by kernel_rfl
theorem under_rels : Try.prog.underlying 59 = some (.slice 61) := by kernel_rfl
/-- A slice of bytes. -/
def BytesAt (w : World) (v : Value) (zs : List Int) : Prop :=
  ((zs = [] ∧ ∃ a cap, v = .slice a 0 cap) ∨ ∃ b off cap, v = .slice (some ⟨b, off, none⟩) zs.length cap ∧ b < w.heap.size ∧
    ∀ i (h : i < zs.length), w.cell? ⟨b, off + i, none⟩ = some (.int .u8 zs[i])) ∧ ∀ z ∈ zs, 0 ≤ z ∧ z < 256
theorem BytesAt.keep {w w' : World} {v : Value} {zs : List Int} {S : List Nat} (h : BytesAt w v zs) (k : Keep S w w') (hs : ∀ x ∈ S, w.heap.size ≤ x) : BytesAt w' v zs := by
  refine ⟨?_, h.2⟩
  rcases h.1 with h | ⟨b, off, cap, h1, h2, h3⟩
  · exact .inl h
  · refine .inr ⟨b, off, cap, h1, Nat.lt_of_lt_of_le h2 k.size, fun i hi => ?_⟩
    have hb : w'.heap[b]? = w.heap[b]? := k.block b h2 (fun hm => by have := hs b hm; omega)
    rw [World.cell?_of_block (w := w) (w' := w') hb]
    exact h3 i hi
def ptr (b : Nat) : Value := .pointer (some ⟨b, 0, none⟩)
/-- What a thread's two places hold where it has nothing under way. -/
def OutIdle (lo bl t : Nat) (w : World) (vo : Value) : Prop := vo = .pointer none ∨ ∃ bx, vo = ptr bx ∧ lo ≤ bx ∧ IsRel bl 0 t .done w bx
def ThOk (lo bl : Nat) (F : Int) (t : Nat) (w : World) (p : L8.Ph) (vi vo : Value) : Prop :=
  match p with
  | .idle => vi = .pointer none ∧ OutIdle lo bl t w vo
  | .asks => False
  | .loads i => (∃ bx, vi = ptr bx ∧ lo ≤ bx ∧ IsAcq bl 0 t (.loads (L8.tn F i)) w bx) ∧ OutIdle lo bl t w vo
  | .owns i => (∃ bx, vi = ptr bx ∧ lo ≤ bx ∧ IsAcq bl 0 t (.owns (L8.tn F i)) w bx) ∧ OutIdle lo bl t w vo
  | .frees _ => vi = .pointer none ∧ ∃ bx, vo = ptr bx ∧ lo ≤ bx ∧ IsRel bl 0 t .frees w bx
  | .serves _ => vi = .pointer none ∧ ∃ bx, vo = ptr bx ∧ lo ≤ bx ∧ IsRel bl 0 t .serves w bx
/-- The first cell tells by whom. -/
theorem IsAcq.first {bl : Nat} {lock who : Int} {ph : AcqPh} {w : World} {bx : Nat} (h : IsAcq bl lock who ph w bx) : ∃ cs, Blk w bx (.int .i64 who :: cs) ∧ cs.length = 12 := by
  cases ph with
  | asks => exact ⟨_, h, rfl⟩
  | loads t => exact ⟨_, h, rfl⟩
  | owns t => obtain ⟨bc, h1, _⟩ := h; exact ⟨_, h1, rfl⟩
  | done t => exact ⟨_, h, rfl⟩
theorem IsRel.first {bl : Nat} {lock who : Int} {ph : RelPh} {w : World} {bx : Nat} (h : IsRel bl lock who ph w bx) : ∃ cs, Blk w bx (.int .i64 who :: cs) ∧ cs.length = 10 := by
  cases ph with
  | frees => obtain ⟨bc, h1, _⟩ := h; exact ⟨_, h1, rfl⟩
  | serves => exact ⟨_, h, rfl⟩
  | done => exact ⟨_, h, rfl⟩
/-- Block b belongs to nobody but who. -/
def Mine (w : World) (who : Int) (b : Nat) : Prop := ∃ cs, Blk w b (.int .i64 who :: cs) ∧ 1 ≤ cs.length
theorem Mine.ne {w : World} {a b : Nat} {p q : Int} (h : Mine w p a) (k : Mine w q b) (e : p ≠ q) : a ≠ b := by
  obtain ⟨cs, h1, _⟩ := h
  obtain ⟨ds, k1, _⟩ := k
  refine h1.ne k1 ?_
  intro hx
  simp at hx
  exact e hx.1
theorem Mine.unbox {w : World} {a : Nat} {p : Int} (h : Mine w p a) : Unbox w a := by
  obtain ⟨cs, h1, h2⟩ := h
  refine ⟨_, h1, ?_⟩
  intro k b hx
  simp [mval] at hx
theorem IsAcq.mine {bl : Nat} {lock who : Int} {ph : AcqPh} {w : World} {bx : Nat} (h : IsAcq bl lock who ph w bx) : Mine w who bx := let ⟨cs, h1, h2⟩ := h.first; ⟨cs, h1, by omega⟩
theorem IsRel.mine {bl : Nat} {lock who : Int} {ph : RelPh} {w : World} {bx : Nat} (h : IsRel bl lock who ph w bx) : Mine w who bx := let ⟨cs, h1, h2⟩ := h.first; ⟨cs, h1, by omega⟩
/-- What is kept where blocks change that are none of the thread's. -/
theorem ThOk.keep {lo bl : Nat} {F : Int} {t : Nat} {w w' : World} {p : L8.Ph} {vi vo : Value} {S : List Nat} (h : ThOk lo bl F t w p vi vo) (k : Keep S w w') (hs : ∀ x ∈ S, ∀ b, Mine w t b → b ≠ x) (hb : ∀ x ∈ S, Unbox w x) : ThOk lo bl F t w' p vi vo := by
  have ho : ∀ {v : Value}, OutIdle lo bl t w v → OutIdle lo bl t w' v := by
    rintro v (h | ⟨bx, h1, h0, h2⟩)
    · exact .inl h
    · exact .inr ⟨bx, h1, h0, h2.keep k (fun hm => hs bx hm bx h2.mine rfl) hb⟩
  cases p with
  | idle => exact ⟨h.1, ho h.2⟩
  | asks => exact h
  | loads i => obtain ⟨⟨bx, h1, h0, h2⟩, h3⟩ := h; exact ⟨⟨bx, h1, h0, h2.keep k (fun hm => hs bx hm bx h2.mine rfl) hb⟩, ho h3⟩
  | owns i => obtain ⟨⟨bx, h1, h0, h2⟩, h3⟩ := h; exact ⟨⟨bx, h1, h0, h2.keep k (fun hm => hs bx hm bx h2.mine rfl) hb⟩, ho h3⟩
  | frees i => obtain ⟨h3, bx, h1, h0, h2⟩ := h; exact ⟨h3, bx, h1, h0, h2.keep k (fun hm => hs bx hm bx h2.mine rfl) hb⟩
  | serves i => obtain ⟨h3, bx, h1, h0, h2⟩ := h; exact ⟨h3, bx, h1, h0, h2.keep k (fun hm => hs bx hm bx h2.mine rfl) hb⟩
theorem OutIdle.keep {lo bl t : Nat} {w w' : World} {v : Value} {S : List Nat} (h : OutIdle lo bl t w v) (k : Keep S w w') (hs : ∀ x ∈ S, ∃ m, Len w x m ∧ m ≠ 11) (hb : ∀ x ∈ S, Unbox w x) : OutIdle lo bl t w' v := by
  rcases h with h | ⟨bx, h1, h0, h2⟩
  · exact .inl h
  · refine .inr ⟨bx, h1, h0, h2.keep k (fun hm => ?_) hb⟩
    obtain ⟨m, hl, hn⟩ := hs bx hm
    exact h2.len.ne hl (Ne.symm hn) rfl
theorem upd_upd (P : Nat → L8.Ph) (t : Nat) (a b : L8.Ph) : L8.upd (L8.upd P t a) t b = L8.upd P t b := by
  funext k
  unfold L8.upd
  split <;> rfl
theorem ThOk.ptrs {lo bl : Nat} {F : Int} {t : Nat} {w : World} {p : L8.Ph} {vi vo : Value} (h : ThOk lo bl F t w p vi vo) : (∃ a, vi = .pointer a) ∧ ∃ a, vo = .pointer a := by
  have ho : ∀ {v : Value}, OutIdle lo bl t w v → ∃ a, v = .pointer a := by
    rintro v (h | ⟨bx, h1, _⟩)
    · exact ⟨_, h⟩
    · exact ⟨_, h1⟩
  cases p with
  | idle => exact ⟨⟨_, h.1⟩, ho h.2⟩
  | asks => exact h.elim
  | loads i => obtain ⟨⟨bx, h1, _⟩, h3⟩ := h; exact ⟨⟨_, h1⟩, ho h3⟩
  | owns i => obtain ⟨⟨bx, h1, _⟩, h3⟩ := h; exact ⟨⟨_, h1⟩, ho h3⟩
  | frees i => obtain ⟨h3, bx, h1, _⟩ := h; exact ⟨⟨_, h3⟩, ⟨_, h1⟩⟩
  | serves i => obtain ⟨h3, bx, h1, _⟩ := h; exact ⟨⟨_, h3⟩, ⟨_, h1⟩⟩
/-- The threads' places. -/
structure Hands (lo bl bi bo n : Nat) (F : Int) (P : Nat → L8.Ph) (w : World) (xs ys : List Value) : Prop where
  ins : Blk w bi xs
  outs : Blk w bo ys
  lx : xs.length = n
  ly : ys.length = n
  ok : ∀ t, t < n → ThOk lo bl F t w (P t) (xs.getD t undef) (ys.getD t undef)
structure St8 (F : Int) (n bl bm bw bi bo k served : Nat) (w0 wr : World) (P : Nat → L8.Ph) (M : Mem) (g v : Nat) (xs ys : List Value) : Prop where
  inv : L8.Inv F M P g v served
  gk : g ≤ k
  lay : LayAt wr bl ⟨1, n, 1⟩
  mem : MemAt wr bm bw M
  hands : Hands w0.heap.size bl bi bo n F P wr xs ys
  kept : Keep [] w0 wr
  new : w0.heap.size ≤ bm ∧ w0.heap.size ≤ bw ∧ w0.heap.size ≤ bi ∧ w0.heap.size ≤ bo
  ne : bi ≠ bo
theorem head_ptr {l : List Value} {n : Nat} (hn : 0 < n) (hl : l.length = n) (h : ∃ a, l.getD 0 undef = .pointer a) : ∃ a r, l = .pointer a :: r := by
  obtain ⟨a, ha⟩ := h
  cases l with
  | nil => simp at hl; omega
  | cons x r => simp at ha; exact ⟨a, r, by rw [ha]⟩
theorem Blk.ptr_unbox {w : World} {b : Nat} {a : Option Addr} {r : List Value} (h : Blk w b (.pointer a :: r)) : Unbox w b := ⟨_, h, by intro k b0 hx; simp [mval] at hx⟩
theorem Blk.ptr_mine {w : World} {b x : Nat} {a : Option Addr} {r : List Value} {p : Int} (h : Blk w b (.pointer a :: r)) (k : Mine w p x) : x ≠ b := by
  obtain ⟨cs, h1, _⟩ := k
  exact h1.ne h (by intro hx; simp at hx)
theorem MemAt.mine {w : World} {bm bw x : Nat} {M : Mem} {p : Int} (h : MemAt w bm bw M) (k : Mine w p x) : x ≠ bm ∧ x ≠ bw := by
  obtain ⟨cs, h1, _⟩ := k
  obtain ⟨c, hc⟩ := h.mem
  obtain ⟨s, hs⟩ := h.words
  refine ⟨h1.ne hc (by intro hx; simp [Mem.cells] at hx), h1.ne hs ?_⟩
  intro hx
  have hl := h.small.1
  cases hw : M.ws with
  | nil => rw [hw] at hl; simp at hl
  | cons y r => rw [hw] at hx; simp [u64s] at hx
theorem St8.next {F : Int} {n bl bm bw bi bo k k' served served' : Nat} {w0 wr w' : World} {P : Nat → L8.Ph} {M M' : Mem} {g g' v v' : Nat} {xs ys xs' ys' : List Value} {S : List Nat} {t : Nat} {q : L8.Ph}
    (h : St8 F n bl bm bw bi bo k served w0 wr P M g v xs ys) (ht : t < n) (hk : Keep S wr w') (hS : ∀ x ∈ S, x = bi ∨ x = bo ∨ x = bm ∨ x = bw ∨ (Mine wr t x ∧ w0.heap.size ≤ x)) (hbl : bl ∉ S)
    (hinv : L8.Inv F M' (L8.upd P t q) g' v' served') (hg : g' ≤ k') (hm : MemAt w' bm bw M') (hi : Blk w' bi xs') (ho : Blk w' bo ys') (lx : xs'.length = n) (ly : ys'.length = n)
    (hx : ∀ j, j ≠ t → xs'.getD j undef = xs.getD j undef) (hy : ∀ j, j ≠ t → ys'.getD j undef = ys.getD j undef) (hok : ThOk w0.heap.size bl F t w' q (xs'.getD t undef) (ys'.getD t undef)) :
    St8 F n bl bm bw bi bo k' served' w0 w' (L8.upd P t q) M' g' v' xs' ys' := by
  obtain ⟨_, _, hlay, hmem, hh, hkept, ⟨e1, e2, e3, e4⟩, hne⟩ := h
  have h0 := (hh.ok 0 (by omega)).ptrs
  obtain ⟨a, r, hxs⟩ := head_ptr (by omega) hh.lx h0.1
  obtain ⟨b, s, hys⟩ := head_ptr (by omega) hh.ly h0.2
  have hbi := hh.ins
  have hbo := hh.outs
  rw [hxs] at hbi
  rw [hys] at hbo
  have hub : ∀ x ∈ S, Unbox wr x := by
    intro x hx
    rcases hS x hx with rfl | rfl | rfl | rfl | ⟨h1, _⟩
    · exact hbi.ptr_unbox
    · exact hbo.ptr_unbox
    · exact hmem.big.unbox
    · exact hmem.big'.unbox
    · exact h1.unbox
  refine ⟨hinv, hg, hlay.keep hk hbl, hm, ⟨hi, ho, lx, ly, ?_⟩, hkept.trans' hk ?_, ⟨e1, e2, e3, e4⟩, hne⟩
  · intro j hj
    by_cases e : j = t
    · subst e; rw [L8.upd_same]; exact hok
    · rw [L8.upd_other _ _ e, hx j e, hy j e]
      refine (hh.ok j hj).keep hk ?_ hub
      intro x hx b hb
      rcases hS x hx with rfl | rfl | rfl | rfl | ⟨h1, _⟩
      · exact hbi.ptr_mine hb
      · exact hbo.ptr_mine hb
      · exact (hmem.mine hb).1
      · exact (hmem.mine hb).2
      · exact hb.ne h1 (by omega)
  · intro x hx
    right
    rcases hS x hx with rfl | rfl | rfl | rfl | ⟨_, h1⟩
    · exact e3
    · exact e4
    · exact e1
    · exact e2
    · exact h1
def Rel8 (F : Int) (n bl bm bw bi bo k served : Nat) (w0 wr : World) : Prop := ∃ P M g v xs ys, St8 F n bl bm bw bi bo k served w0 wr P M g v xs ys

theorem ground_get0 (n : Nat) (F : Int) (hn : 1 ≤ n) : (Mem.of (ground ⟨1, n, 1⟩ [(0, F), (1, F)])).get 0 = F := by
  unfold ground lays Mem.of Mem.get Cfg.len
  simp only [List.foldl_cons, List.foldl_nil]
  rw [putOne_yes (by rw [putOne_len]; simp; omega), putOne_yes (by simp; omega)]
  rw [L8.get_set_ne (by simp), List.getD_eq_getElem?_getD, List.getElem?_set_self (by simp; omega)]
  rfl
theorem ground_get1 (n : Nat) (F : Int) (hn : 1 ≤ n) : (Mem.of (ground ⟨1, n, 1⟩ [(0, F), (1, F)])).get 1 = F := by
  unfold ground lays Mem.of Mem.get Cfg.len
  simp only [List.foldl_cons, List.foldl_nil]
  rw [putOne_yes (by rw [putOne_len]; simp; omega), List.getD_eq_getElem?_getD, List.getElem?_set_self (by rw [putOne_len]; simp; omega)]
  rfl
set_option maxRecDepth 100000 in
set_option maxHeartbeats 600000 in
theorem rel_Done_idle {lo bl t : Nat} {w : World} {vo : Value} (h : OutIdle lo bl t w vo) : Calls Try.prog 30 #[vo] w fun e w' => e = .returned (.bool true) ∧ w = w' := by
  rcases h with rfl | ⟨bx, rfl, _, h⟩
  · go_enter Try.func30, Try.ntmps30
    go_wp2
    go_ret
    exact ⟨rfl, rfl⟩
  · exact rel_Done h.state
set_option maxRecDepth 100000 in
set_option maxHeartbeats 600000 in
theorem acq_turn {bl : Nat} {lock who τ : Int} {w : World} {bx : Nat} (h : IsAcq bl lock who (.done τ) w bx) : Calls Try.prog 34 #[.pointer (some ⟨bx, 0, none⟩)] w (Reads (.tuple #[.int .u64 τ, .bool true]) w) := by
  have cx := Blk.cell h
  unfold Fl.cells acqRest fl at cx
  clear h
  go_enter Try.func34, Try.ntmps34
  go_wp2
  go_quiet (fail)
  go_wp2
  go_ret2
  exact ⟨rfl, (Keep.refl [] w).drewN⟩
theorem getD_set_self' {l : List Value} {i : Nat} {x : Value} (h : i < l.length) : (l.set i x).getD i undef = x := by
  rw [List.getD_eq_getElem?_getD, List.getElem?_set_self h]; rfl
theorem getD_set_ne' {l : List Value} {i j : Nat} {x : Value} (h : j ≠ i) : (l.set i x).getD j undef = l.getD j undef := by
  simp [List.getD_eq_getElem?_getD, List.getElem?_set_ne (Ne.symm h)]
theorem getD_some {l : List Value} {i : Nat} (h : i < l.length) : l[i]? = some (l.getD i undef) := by
  simp [List.getD_eq_getElem?_getD, List.getElem?_eq_getElem h]
theorem own_blk_ptr {w : World} {base e n : Nat} {g : Nat} {x : Value} (h : w.ownsRow base e 1 (.slice (some ⟨g, 0, none⟩) n n) n (madeCells #[x] n).toList) : Blk w g (List.replicate n x) := by
  rw [toList_madeCells_one] at h
  exact own_full h

set_option maxRecDepth 100000 in
set_option maxHeartbeats 4000000 in
theorem lockAlone_main (F : Int) (n : Nat) (v : Value) (zs : List Int) (w : World) (f0 : 0 ≤ F) (f1 : F < 4294967296) (n0 : 1 ≤ n) (n1 : n ≤ 8) (hz : BytesAt w v zs) (hzl : zs.length ≤ 400) :
    Calls Try.prog 4 #[.int .u32 F, .int .i64 n, v] w (Reads (.bool true) w) := by
  obtain ⟨a, cap, rfl⟩ : ∃ a cap, v = .slice a zs.length cap := by
    rcases hz.1 with ⟨rfl, a, cap, rfl⟩ | ⟨b, off, cap, rfl, _⟩
    · exact ⟨_, _, rfl⟩
    · exact ⟨_, _, rfl⟩
  have HZ := Lib.hid hz
  have HAW := Lib.hid awake08
  obtain ⟨i1, hi1, ha0, ha1, ha2⟩ := info_parts info_acq
  obtain ⟨i2, hi2, hr0, hr1, hr2⟩ := info_parts info_rel
  clear hz
  go_enter Try.func4, Try.ntmps4
  go_wp2_with fail
  have hput : PutsAt (w.alloc (.cells #[.int .i64 0, .int .u64 F, .int .i64 1, .int .u64 F] 53)) (.slice (some ⟨w.heap.size, 0, none⟩) 2 2) [(0, F), (1, F)] := by
    refine .inr ⟨w.heap.size, 0, 2, rfl, by simp, ?_⟩
    intro i hi
    match i, hi with
    | 0, _ => exact ⟨by simp, by simp⟩
    | 1, _ => exact ⟨by simp, by simp⟩
  refine (lay_yes ⟨1, n, 1⟩ _ [(0, F), (1, F)] _ hput ⟨by simp, by simp, by simp; omega, by simp; omega, by simp, by simp⟩ (by simp) (by intro p hp; simp at hp; rcases hp with rfl | rfl <;> (simp only; omega))).mono ?_
  clear hput
  rintro e w1 ⟨bl, bm, bw, rm, rw', rfl, hlay, hm, -, hk, b1, b2, b3, -, -, -, -, -, -⟩
  have HLY := Lib.hid hlay
  have HM := Lib.hid hm
  have HK1 := Lib.hid ((Keep.alloc (Keep.refl [] w)).trans hk)
  have hs1 := HK1.out.size
  have lbl := hlay.lt
  have lbm := hm.lt
  have lbw := hm.lt'
  rw [World.size_alloc] at b1 b2 b3
  clear hlay hm hk
  go_wp2_with (at_make; refine wpList_make_full _ rfl _ _ 58 rfl w.heap.size 60 i1 (.pointer none) 1 under_acqs hi1 ha0 ha1 .i64 .i64 _ _ n rfl rfl rfl rfl ?c1 ?c2 ?c3 ?_)
  case c1 => rw [ha2]; omega
  case c2 => unfold maxLen; omega
  case c3 => omega
  intro w2 hown hgr
  have hk2 : Keep [] w1 w2 := grown_keep hgr (by intro b hb; cases hb)
  have HBI := Lib.hid (own_blk_ptr hown)
  have HLY2 := Lib.hid (HLY.out.keep hk2 (by simp))
  have HM2 := Lib.hid (HM.out.keep hk2 (by simp) (by simp))
  have HK2 := Lib.hid (HK1.out.trans hk2)
  have hs2 := hk2.size
  have lbi := (own_blk_ptr hown).lt
  clear hown hgr hk2 HLY HM
  go_wp2_with (at_make; refine wpList_make_full _ rfl _ _ 59 rfl w.heap.size 61 i2 (.pointer none) 1 under_rels hi2 hr0 hr1 .i64 .i64 _ _ n rfl rfl rfl rfl ?d1 ?d2 ?d3 ?_)
  case d1 => rw [hr2]; omega
  case d2 => unfold maxLen; omega
  case d3 => omega
  intro w3 hown hgr
  have hk3 : Keep [] w2 w3 := grown_keep hgr (by intro b hb; cases hb)
  have HBO := Lib.hid (own_blk_ptr hown)
  have HBI3 := Lib.hid (HBI.out.keep hk3 (by simp))
  have HLY3 := Lib.hid (HLY2.out.keep hk3 (by simp))
  have HM3 := Lib.hid (HM2.out.keep hk3 (by simp) (by simp))
  have HK3 := Lib.hid (HK2.out.trans hk3)
  have hs3 := hk3.size
  clear hown hgr hk3 HLY2 HM2 HBI
  have HST : Hid (Rel8 F n bl bm bw w1.heap.size w2.heap.size 0 0 w w3) := Lib.hid (by
    refine ⟨fun _ => .idle, _, 0, 0, _, _, L8.Inv.begin HM3.out.small.1 ?_ ?_ f0 f1, Nat.le_refl _, HLY3.out, HM3.out, ⟨HBI3.out, HBO.out, by simp, by simp, ?_⟩, HK3.out, ⟨by omega, by omega, by omega, by omega⟩, by omega⟩
    · exact ground_get0 n F (by omega)
    · exact ground_get1 n F (by omega)
    · intro t ht
      exact ⟨by simp [List.getD_eq_getElem?_getD, ht], .inl (by simp [List.getD_eq_getElem?_getD, ht])⟩)
  clear HBI3 HBO HM3 HLY3
  have hw1s := HK1.out.size
  go_wp2
  go_loopw [13, 14] (fun s i wr => ∃ k served : Nat, k ≤ zs.length ∧ served ≤ k ∧ i = .int .i64 k ∧ s = .int .u64 served ∧ Rel8 F n bl bm bw w1.heap.size w2.heap.size k served w wr)
    (fun _ i _ => zs.length - (intOf i).toNat)
  case atStart => exact ⟨0, 0, Nat.zero_le _, Nat.le_refl _, rfl, rfl, HST.out⟩
  case round =>
    obtain ⟨k, served, hk, hsk, rfl, rfl, hrel⟩ := hrel
    have HREL := Lib.hid hrel
    clear hrel
    by_cases hlt : k < zs.length
    · obtain ⟨P, M, g, v, xs, ys, hst⟩ := HREL.out
      have hZr := HZ.out.keep hst.kept (by simp)
      obtain ⟨hzc, hzr⟩ := hZr
      rcases hzc with ⟨h0, _⟩ | ⟨b, off, cap', hv, hbl, hcells⟩
      · rw [h0] at hlt
        exact absurd hlt (by simp)
      simp only [Value.slice.injEq] at hv
      obtain ⟨rfl, -, rfl⟩ := hv
      have cz := hcells k hlt
      obtain ⟨hz0, hz1⟩ := hzr _ (List.getElem_mem hlt)
      obtain ⟨z, hzz⟩ : ∃ z, zs[k] = z := ⟨_, rfl⟩
      rw [hzz] at cz hz0 hz1
      clear hcells hzr hzz
      obtain ⟨t, htz⟩ : ∃ t : Nat, z % (n : Int) = (t : Int) := ⟨(z % (n : Int)).toNat, by have := Int.emod_nonneg z (show (n : Int) ≠ 0 by omega); omega⟩
      have htn : t < n := by have := Int.emod_lt_of_pos z (show (0 : Int) < n by omega); omega
      have hgk : g ≤ k := hst.gk
      have hok := hst.hands.ok t htn
      have cbi := hst.hands.ins.cell
      have cbo := hst.hands.outs.cell
      have fbi := hst.hands.ins.free
      have fbo := hst.hands.outs.free
      have lbi' := hst.hands.ins.lt
      have lbo' := hst.hands.outs.lt
      have cit : wr.cell? ⟨w1.heap.size, t, none⟩ = some (xs.getD t undef) := by rw [cbi]; exact getD_some (by rw [hst.hands.lx]; exact htn)
      have cot : wr.cell? ⟨w2.heap.size, t, none⟩ = some (ys.getD t undef) := by rw [cbo]; exact getD_some (by rw [hst.hands.ly]; exact htn)
      have HST' := Lib.hid hst
      have hmem := hst.mem
      have hlay := hst.lay
      have hinv := hst.inv
      have e1 := hst.new.1
      have e2 := hst.new.2.1
      have HKP := Lib.hid hst.kept
      have hszr := hst.kept.size
      have hp0 := (hst.hands.ok 0 (by omega)).ptrs
      have UBI : Unbox wr w1.heap.size := by
        obtain ⟨_, _, hx⟩ := head_ptr (by omega) hst.hands.lx hp0.1
        exact Blk.ptr_unbox (hx ▸ hst.hands.ins)
      have UBO : Unbox wr w2.heap.size := by
        obtain ⟨_, _, hx⟩ := head_ptr (by omega) hst.hands.ly hp0.2
        exact Blk.ptr_unbox (hx ▸ hst.hands.outs)
      have LBI : Len wr w1.heap.size n := ⟨_, hst.hands.ins, hst.hands.lx⟩
      have LBO : Len wr w2.heap.size n := ⟨_, hst.hands.outs, hst.hands.ly⟩
      have hlx := hst.hands.lx
      have hly := hst.hands.ly
      have hbib : w1.heap.size ≠ bm ∧ w1.heap.size ≠ bw := by omega
      have hblne : bl ≠ w1.heap.size ∧ bl ≠ w2.heap.size := by omega
      clear cbi cbo hst hp0
      have hblm := hmem.ne_of_len hlay.len (by decide) (by decide)
      have HMEM := Lib.hid hmem
      have HLAY := Lib.hid hlay
      have HINV := Lib.hid hinv
      clear hmem hlay hinv HREL
      cases hP : P t with
      | asks => rw [hP] at hok; exact hok.elim
      | idle =>
        rw [hP] at hok
        obtain ⟨hvi, hvo⟩ := hok
        rw [hvi] at cit
        obtain ⟨vo, hvoe⟩ : ∃ vo, ys.getD t undef = vo := ⟨_, rfl⟩
        rw [hvoe] at cot hvo
        have HVOE := Lib.hid hvoe
        have HVO := Lib.hid hvo
        have HP := Lib.hid hP
        have HVI := Lib.hid hvi
        clear hvoe hvo hP hvi
        go_wp2_with fail
        refine (rel_Done_idle HVO.out).mono ?_
        rintro e w4 ⟨rfl, rfl⟩
        go_wp2_with fail
        refine (acq_new HLAY.out 0 t (by decide) (by decide)).mono ?_
        rintro e w4 ⟨bx, rfl, hbx, hlt4, hacq, hk4⟩
        have HA4 := Lib.hid hacq
        have HK4 := Lib.hid hk4
        have hbi4 := HST'.out.hands.ins.keep hk4 (by simp)
        have cit4 : w4.cell? ⟨w1.heap.size, t, none⟩ = some (xs.getD t undef) := by rw [hbi4.cell]; exact getD_some (by omega)
        have fbi4 := hbi4.free
        have lbi4 := hbi4.lt
        have cnz : bx ≠ w1.heap.size := by omega
        clear hacq hk4 hbi4 cit cot fbi fbo
        go_wp2_with fail
        have hkS : Keep [w1.heap.size] w4 (w4.setCell ⟨w1.heap.size, t, none⟩ (.pointer (some ⟨bx, 0, none⟩))) := (Keep.refl _ _).set (by simp)
        have hub4 : ∀ x ∈ [w1.heap.size], Unbox w4 x := by
          intro x hx
          simp only [List.mem_cons, List.not_mem_nil, or_false] at hx
          subst hx
          obtain ⟨cs, h1, h2⟩ := UBI
          exact ⟨cs, h1.keep HK4.out (by simp), h2⟩
        refine (acq_step_to (ph' := .loads (L8.tn F g)) (M' := (M.add t 0 1).2) (d := false) (HA4.out.keep hkS (by simp [cnz]) hub4) ((HMEM.out.keep HK4.out (by simp) (by simp)).keep hkS (by simp; omega) (by simp; omega)) ((HLAY.out.keep HK4.out (by simp)).keep hkS (by simp; omega)) (by decide) (by decide) (by omega) (by omega) ?_ rfl).mono ?_
        · have := ((HINV.out.start HP.out).ask (t := t) (by omega) (L8.upd_same _ _ _) t).1
          simp only [acqNext, Int.mul_zero]
          rw [this]
        rintro e w5 ⟨rfl, ha5, hm5, hk5⟩
        have hkA : Keep [w1.heap.size, bm, bw] wr w5 := ((HK4.out.mono (by simp)).set (p := ⟨w1.heap.size, t, none⟩) (by simp)).trans' hk5 (by
          intro x hx
          simp only [List.mem_cons, List.not_mem_nil, or_false] at hx
          rcases hx with rfl | rfl | rfl
          · right; exact hbx
          · left; simp
          · left; simp)
        have hbi5 : Blk w5 w1.heap.size (xs.set t (ptr bx)) := ((HST'.out.hands.ins.keep HK4.out (by simp)).set rfl).keep hk5 (by simp [Ne.symm cnz, hbib])
        have hbo5 : Blk w5 w2.heap.size ys := HST'.out.hands.outs.keep hkA (by simp; omega)
        have hov : OutIdle w.heap.size bl t w5 vo := HVO.out.keep hkA (by
          intro x hx
          simp only [List.mem_cons, List.not_mem_nil, or_false] at hx
          rcases hx with rfl | rfl | rfl
          · exact ⟨n, LBI, by omega⟩
          · exact ⟨9, HMEM.out.len, by decide⟩
          · obtain ⟨m, h1, h2⟩ := HMEM.out.wlen
            exact ⟨m, h2, by omega⟩) (by
          intro x hx
          simp only [List.mem_cons, List.not_mem_nil, or_false] at hx
          rcases hx with rfl | rfl | rfl
          · exact UBI
          · exact HMEM.out.big.unbox
          · exact HMEM.out.big'.unbox)
        have hinv5 := ((HINV.out.start HP.out).ask (t := t) (by omega) (L8.upd_same _ _ _) t).2
        rw [upd_upd] at hinv5
        have hnew := HST'.out.next (k' := k + 1) (xs' := xs.set t (ptr bx)) (ys' := ys) htn hkA (by
          intro x hx
          simp only [List.mem_cons, List.not_mem_nil, or_false] at hx
          rcases hx with rfl | rfl | rfl
          · exact .inl rfl
          · exact .inr (.inr (.inl rfl))
          · exact .inr (.inr (.inr (.inl rfl)))) (by simp [hblne, hblm]) hinv5 (by omega) hm5 hbi5 hbo5 (by simp [hlx]) hly (fun j hj => getD_set_ne' hj) (fun j _ => rfl)
          ⟨⟨bx, getD_set_self' (by omega), by omega, ha5⟩, by rw [HVOE.out]; exact hov⟩
        have HNEW := Lib.hid hnew
        clear ha5 hm5 hk5 hkA hbi5 hbo5 hov hinv5 hnew hub4 hkS UBI UBO LBI LBO
        go_wp2
        go_roundw
        case rel => exact ⟨k + 1, served, by omega, by omega, by go_num, rfl, _, _, _, _, _, _, HNEW.out⟩
        case measure => simp [intOf]; omega
      | loads i =>
        rw [hP] at hok
        obtain ⟨⟨bx, hvi, hlo, hacq⟩, hvo⟩ := hok
        rw [hvi] at cit
        unfold ptr at cit
        have HA := Lib.hid hacq
        have HVO := Lib.hid hvo
        have HVI := Lib.hid hvi
        have hlook := HINV.out.look hP t
        clear hacq hvo hvi hP cot
        have hS3 : ∀ x ∈ [bx, bm, bw], ∃ m, Len wr x m ∧ m ≠ 11 := by
          intro x hx
          simp only [List.mem_cons, List.not_mem_nil, or_false] at hx
          rcases hx with rfl | rfl | rfl
          · exact ⟨13, HA.out.len, by decide⟩
          · exact ⟨9, HMEM.out.len, by decide⟩
          · obtain ⟨m, h1, h2⟩ := HMEM.out.wlen
            exact ⟨m, h2, by omega⟩
        have hU3 : ∀ x ∈ [bx, bm, bw], Unbox wr x := by
          intro x hx
          simp only [List.mem_cons, List.not_mem_nil, or_false] at hx
          rcases hx with rfl | rfl | rfl
          · exact HA.out.mine.unbox
          · exact HMEM.out.big.unbox
          · exact HMEM.out.big'.unbox
        have hC3 : ∀ x ∈ [bx, bm, bw], x = w1.heap.size ∨ x = w2.heap.size ∨ x = bm ∨ x = bw ∨ (Mine wr t x ∧ w.heap.size ≤ x) := by
          intro x hx
          simp only [List.mem_cons, List.not_mem_nil, or_false] at hx
          rcases hx with rfl | rfl | rfl
          · exact .inr (.inr (.inr (.inr ⟨HA.out.mine, hlo⟩)))
          · exact .inr (.inr (.inl rfl))
          · exact .inr (.inr (.inr (.inl rfl)))
        have hn3 : w1.heap.size ∉ [bx, bm, bw] ∧ w2.heap.size ∉ [bx, bm, bw] := by
          have q1 := HA.out.len.ne LBI (by omega)
          have q2 := HA.out.len.ne LBO (by omega)
          constructor
          · simp [Ne.symm q1, hbib]
          · simp [Ne.symm q2]; omega
        have hl3 : bl ∉ [bx, bm, bw] := by
          have q1 := HLAY.out.len.ne HA.out.len (by decide)
          simp [q1, hblm]
        rcases hlook with ⟨-, hv1, hinv'⟩ | ⟨hv1, hinv'⟩
        · have hq : acqNext 0 t M (.loads (L8.tn F i)) = (.owns (L8.tn F i), (M.load t 1).2) := by
            simp only [acqNext, Int.mul_zero, Int.zero_add]
            rw [if_pos hv1]
          have HQ := Lib.hid hq
          clear hq hv1
          go_wp2_with fail
          refine (acq_step_to HA.out HMEM.out HLAY.out (by decide) (by decide) (by omega) (by omega) HQ.out rfl).mono ?_
          rintro e w5 ⟨rfl, ha5, hm5, hk5⟩

          have hnew := HST'.out.next (k' := k + 1) (xs' := xs) (ys' := ys) htn hk5 hC3 hl3 hinv' (by omega) hm5 (HST'.out.hands.ins.keep hk5 hn3.1) (HST'.out.hands.outs.keep hk5 hn3.2) hlx hly (fun j _ => rfl) (fun j _ => rfl) ⟨⟨bx, HVI.out, hlo, ha5⟩, HVO.out.keep hk5 hS3 hU3⟩
          have HNEW := Lib.hid hnew
          clear ha5 hm5 hk5 hnew hinv' hS3 hU3 hC3 hn3 hl3
          go_wp2
          go_roundw
          case rel => exact ⟨k + 1, served, by omega, by omega, by go_num, rfl, _, _, _, _, _, _, HNEW.out⟩
          case measure => simp [intOf]; omega
        · have hq : acqNext 0 t M (.loads (L8.tn F i)) = (.loads (L8.tn F i), (M.load t 1).2) := by
            simp only [acqNext, Int.mul_zero, Int.zero_add]
            rw [if_neg hv1]
          have HQ := Lib.hid hq
          clear hq hv1
          go_wp2_with fail
          refine (acq_step_to HA.out HMEM.out HLAY.out (by decide) (by decide) (by omega) (by omega) HQ.out rfl).mono ?_
          rintro e w5 ⟨rfl, ha5, hm5, hk5⟩

          have hnew := HST'.out.next (k' := k + 1) (xs' := xs) (ys' := ys) htn hk5 hC3 hl3 hinv' (by omega) hm5 (HST'.out.hands.ins.keep hk5 hn3.1) (HST'.out.hands.outs.keep hk5 hn3.2) hlx hly (fun j _ => rfl) (fun j _ => rfl) ⟨⟨bx, HVI.out, hlo, ha5⟩, HVO.out.keep hk5 hS3 hU3⟩
          have HNEW := Lib.hid hnew
          clear ha5 hm5 hk5 hnew hinv' hS3 hU3 hC3 hn3 hl3
          go_wp2
          go_roundw
          case rel => exact ⟨k + 1, served, by omega, by omega, by go_num, rfl, _, _, _, _, _, _, HNEW.out⟩
          case measure => simp [intOf]; omega
      | owns i =>
        rw [hP] at hok
        obtain ⟨⟨bx, hvi, hlo, hacq⟩, hvo⟩ := hok
        rw [hvi] at cit
        unfold ptr at cit
        have HA := Lib.hid hacq
        have HVI := Lib.hid hvi
        obtain ⟨hiv, hsv, hlate, hg2, hi2, hinv'⟩ := HINV.out.get hP t (t + 1)
        clear hacq hvo hvi hP cot
        have hn3 : w1.heap.size ∉ [bx, bm, bw] ∧ w2.heap.size ∉ [bx, bm, bw] := by
          have q1 := HA.out.len.ne LBI (by omega)
          have q2 := HA.out.len.ne LBO (by omega)
          constructor
          · simp [Ne.symm q1, hbib]
          · simp [Ne.symm q2]; omega
        have hl3 : bl ∉ [bx, bm, bw] := by
          have q1 := HLAY.out.len.ne HA.out.len (by decide)
          simp [q1, hblm]
        have hpk : (M.store t 2 (t + 1)).peek 2 = t + 1 := by unfold Mem.peek; rw [if_pos hi2, hg2]
        have hpi : decide ((M.store t 2 (t + 1)).isAt 2) = true := by simpa using hi2
        have htau : (L8.tn F i != (F + served) % 4294967296) = false := by
          rw [hiv, hsv]
          unfold L8.tn
          simp
        obtain ⟨tau, htq⟩ : ∃ q, L8.tn F i = q := ⟨_, rfl⟩
        rw [htq] at htau HA
        have HQ : Hid (acqNext 0 t M (.owns tau) = (.done tau, M.store t 2 (t + 1))) := Lib.hid (by simp only [acqNext, Int.mul_zero, Int.zero_add])
        have HINV' := Lib.hid hinv'
        have HPK := Lib.hid hpk
        have HPI := Lib.hid hpi
        have HIV := Lib.hid hiv
        have HSV := Lib.hid hsv
        have HLT := Lib.hid hlate
        clear htq hinv' hg2 hi2 hpk hpi hiv hsv hlate
        go_wp2_with fail
        refine (acq_step_to HA.out HMEM.out HLAY.out (by decide) (by decide) (by omega) (by omega) HQ.out rfl).mono ?_
        rintro e w5 ⟨rfl, ha5, hm5, hk5⟩
        have HA5 := Lib.hid ha5
        have HM5 := Lib.hid hm5
        have HK5 := Lib.hid hk5
        have hbi5 := HST'.out.hands.ins.keep hk5 hn3.1
        have cit5 : w5.cell? ⟨w1.heap.size, t, none⟩ = some (.pointer (some ⟨bx, 0, none⟩)) := by rw [hbi5.cell, getD_some (by omega), HVI.out]; rfl
        clear ha5 hm5 hk5 hbi5 cit
        go_wp2_with fail
        refine (acq_turn HA5.out).mono ?_
        rintro e w6 ⟨rfl, hk6⟩
        have HK6 := Lib.hid hk6
        have HM6 := Lib.hid (HM5.out.keep hk6 (by simp) (by simp))
        have HLY6 := Lib.hid ((HLAY.out.keep HK5.out hl3).keep hk6 (by simp))
        have hbi6 := (HST'.out.hands.ins.keep HK5.out hn3.1).keep hk6 (by simp)
        have hbo6 := (HST'.out.hands.outs.keep HK5.out hn3.2).keep hk6 (by simp)
        have HBI6 := Lib.hid hbi6
        have HBO6 := Lib.hid hbo6
        have HP6 := Lib.hid (mem_peek HM6.out 2)
        rw [HPK.out, HPI.out] at HP6
        have fbi6 := hbi6.free
        have fbo6 := hbo6.free
        have lbi6 := hbi6.lt
        have lbo6 := hbo6.lt
        have cit6 : w6.cell? ⟨w1.heap.size, t, none⟩ = some (xs.getD t undef) := by rw [hbi6.cell]; exact getD_some (by omega)
        have cot6 : ∀ j : Nat, j < n → w6.cell? ⟨w2.heap.size, j, none⟩ = some (ys.getD j undef) := by intro j hj; rw [hbo6.cell]; exact getD_some (by omega)
        have COT6 := Lib.hid cot6
        have HS3 : Hid (∀ x ∈ [bx, bm, bw], (∃ m, Len wr x m ∧ m ≠ 11) ∧ Unbox wr x) := Lib.hid (by
          intro x hx
          simp only [List.mem_cons, List.not_mem_nil, or_false] at hx
          rcases hx with rfl | rfl | rfl
          · exact ⟨⟨13, HA.out.len, by decide⟩, HA.out.mine.unbox⟩
          · exact ⟨⟨9, HMEM.out.len, by decide⟩, HMEM.out.big.unbox⟩
          · obtain ⟨m, h1, h2⟩ := HMEM.out.wlen
            exact ⟨⟨m, h2, by omega⟩, HMEM.out.big'.unbox⟩)
        have HOI : Hid (∀ j, j < n → OutIdle w.heap.size bl j w6 (ys.getD j undef)) := Lib.hid (by
          intro j hj
          have h1 : OutIdle w.heap.size bl j wr (ys.getD j undef) := by
            have h2 := HST'.out.hands.ok j hj
            have h3 := HLT.out j
            revert h2 h3
            cases P j with
            | idle => intro h2 _; exact h2.2
            | asks => intro h2 _; exact h2.elim
            | loads i => intro h2 _; exact h2.2
            | owns i => intro h2 _; exact h2.2
            | frees i => intro _ h3; cases h3
            | serves i => intro _ h3; cases h3
          exact (h1.keep HK5.out (fun x hx => (HS3.out x hx).1) (fun x hx => (HS3.out x hx).2)).keep HK6.out (by simp) (by simp))
        clear hk6 hbi6 hbo6 cot6 cit5 fbi fbo
        go_wp2_with fail
        refine HP6.out.mono ?_
        rintro e w7 ⟨rfl, rfl⟩
        go_wp2
        go_loop [20] (fun j => ∃ q : Nat, q ≤ n ∧ j = .int .i64 q) (fun j => n - (intOf j).toNat)
        case atStart => exact ⟨0, Nat.zero_le _, rfl⟩
        case round =>
          obtain ⟨q, hq, rfl⟩ := hrel
          by_cases hqn : q < n
          · obtain ⟨vq, hvq⟩ : ∃ vq, ys.getD q undef = vq := ⟨_, rfl⟩
            have cq := COT6.out q hqn
            have hd := rel_Done_idle (HOI.out q hqn)
            rw [hvq] at cq hd
            have HD := Lib.hid hd
            clear hvq hd
            by_cases hqt : q = t
            · have hqb : ((q : Int) != (t : Int)) = false := by subst hqt; simp
              clear hqt
              go_wp2
              go_round
              case rel => exact ⟨q + 1, by omega, by go_num⟩
              case measure => simp [intOf]; omega
            · have hqb : ((q : Int) != (t : Int)) = true := by simp; omega
              clear hqt
              go_wp2_with fail
              refine HD.out.mono ?_
              rintro e w8 ⟨rfl, rfl⟩
              go_wp2
              go_round
              case rel => exact ⟨q + 1, by omega, by go_num⟩
              case measure => simp [intOf]; omega
          · obtain rfl : n = q := by omega
            go_wp2_with fail
            have hkS : Keep [w1.heap.size] w6 (w6.setCell ⟨w1.heap.size, t, none⟩ (.pointer none)) := (Keep.refl _ _).set (by simp)
            have HLYS := Lib.hid (HLY6.out.keep hkS (by simp; omega))
            have HMS := Lib.hid (HM6.out.keep hkS (by simp; omega) (by simp; omega))
            have HBIS : Hid (Blk (w6.setCell ⟨w1.heap.size, t, none⟩ (.pointer none)) w1.heap.size (xs.set t (.pointer none))) := Lib.hid (HBI6.out.set rfl)
            have HBOS := Lib.hid (HBO6.out.keep hkS (by simp; omega))
            have HKSW : Hid (Keep [bx, bm, bw, w1.heap.size, w2.heap.size] wr (w6.setCell ⟨w1.heap.size, t, none⟩ (.pointer none))) := Lib.hid (((HK5.out.mono (by intro x hx; simp at hx ⊢; omega)).trans (HK6.out.mono (by simp))).trans (hkS.mono (by intro x hx; simp at hx ⊢; omega)))
            clear hkS cit6 fbi6
            refine (rel_new HLYS.out 0 t (by decide) (by decide)).mono ?_
            rintro e w8 ⟨bx2, rfl, hbx2, hlt8, hrel, hk8⟩
            have HR8 := Lib.hid hrel
            have HK8 := Lib.hid hk8
            have HM8 := Lib.hid (HMS.out.keep hk8 (by simp) (by simp))
            have HBI8 := Lib.hid (HBIS.out.keep hk8 (by simp))
            have hbo8 := HBOS.out.keep hk8 (by simp)
            have HBO8 := Lib.hid hbo8
            have fbo8 := hbo8.free
            have lbo8 := hbo8.lt
            have cot8 : w8.cell? ⟨w2.heap.size, t, none⟩ = some (ys.getD t undef) := by rw [hbo8.cell]; exact getD_some (by omega)
            clear hrel hk8 hbo8 fbo6
            have hsz8 : w6.heap.size ≤ bx2 := by simpa [World.setCell] using hbx2
            have hnew : St8 F n bl bm bw w1.heap.size w2.heap.size (k + 1) (served + 1) w (w8.setCell ⟨w2.heap.size, t, none⟩ (.pointer (some ⟨bx2, 0, none⟩))) (L8.upd P t (.frees i)) (M.store t 2 (t + 1)) g v (xs.set t (.pointer none)) (ys.set t (ptr bx2)) := by
              have hkE : Keep [w2.heap.size] w8 (w8.setCell ⟨w2.heap.size, t, none⟩ (.pointer (some ⟨bx2, 0, none⟩))) := (Keep.refl _ _).set (by simp)
              have hub8 : ∀ x ∈ [w2.heap.size], Unbox w8 x := by
                intro x hx
                simp only [List.mem_cons, List.not_mem_nil, or_false] at hx
                subst hx
                obtain ⟨_, _, hy⟩ := head_ptr (by omega) hly ((HST'.out.hands.ok 0 (by omega)).ptrs).2
                exact Blk.ptr_unbox (hy ▸ HBO8.out)
              refine HST'.out.next (S := [bx, bm, bw, w1.heap.size, w2.heap.size]) htn ((HKSW.out.trans (HK8.out.mono (by simp))).trans (hkE.mono (by intro x hx; simp at hx ⊢; omega))) ?_ ?_ HINV'.out (by omega) (HM8.out.keep hkE (by simp; omega) (by simp; omega)) (HBI8.out.keep hkE (by simp; omega)) (HBO8.out.set rfl) (by simp [hlx]) (by simp [hly]) (fun j hj => getD_set_ne' hj) (fun j hj => getD_set_ne' hj) ?_
              · intro x hx
                simp only [List.mem_cons, List.not_mem_nil, or_false] at hx
                rcases hx with rfl | rfl | rfl | rfl | rfl
                · exact .inr (.inr (.inr (.inr ⟨HA.out.mine, hlo⟩)))
                · exact .inr (.inr (.inl rfl))
                · exact .inr (.inr (.inr (.inl rfl)))
                · exact .inl rfl
                · exact .inr (.inl rfl)
              · have q1 := hl3
                simp only [List.mem_cons, List.not_mem_nil, or_false, not_or] at q1 ⊢
                exact ⟨q1.1, q1.2.1, q1.2.2, hblne.1, hblne.2⟩
              · exact ⟨getD_set_self' (by omega), bx2, getD_set_self' (by omega), by omega, HR8.out.keep hkE (by simp; omega) hub8⟩
            have HNEW := Lib.hid hnew
            clear hnew
            go_wp2
            go_roundw
            case rel => exact ⟨k + 1, served + 1, by omega, by omega, by go_num, by go_num, _, _, _, _, _, _, HNEW.out⟩
            case measure => simp [intOf]; omega
      | frees i =>
        rw [hP] at hok
        obtain ⟨hvi, bx, hvo, hlo, hrel⟩ := hok
        rw [hvi] at cit
        rw [hvo] at cot
        unfold ptr at cot
        have HA := Lib.hid hrel
        have HVO := Lib.hid hvo
        have HVI := Lib.hid hvi
        have hinv' := HINV.out.free hP t 0
        have HD := Lib.hid (rel_Done HA.out.state)
        have hd0 : RelPh.isDone .frees = false := rfl
        rw [hd0] at HD
        clear hrel hvo hvi hP hd0
        have hU3 : ∀ x ∈ [bx, bm, bw], Unbox wr x := by
          intro x hx
          simp only [List.mem_cons, List.not_mem_nil, or_false] at hx
          rcases hx with rfl | rfl | rfl
          · exact HA.out.mine.unbox
          · exact HMEM.out.big.unbox
          · exact HMEM.out.big'.unbox
        have hC3 : ∀ x ∈ [bx, bm, bw], x = w1.heap.size ∨ x = w2.heap.size ∨ x = bm ∨ x = bw ∨ (Mine wr t x ∧ w.heap.size ≤ x) := by
          intro x hx
          simp only [List.mem_cons, List.not_mem_nil, or_false] at hx
          rcases hx with rfl | rfl | rfl
          · exact .inr (.inr (.inr (.inr ⟨HA.out.mine, hlo⟩)))
          · exact .inr (.inr (.inl rfl))
          · exact .inr (.inr (.inr (.inl rfl)))
        have hn3 : w1.heap.size ∉ [bx, bm, bw] ∧ w2.heap.size ∉ [bx, bm, bw] := by
          have q1 := HA.out.len.ne LBI (by omega)
          have q2 := HA.out.len.ne LBO (by omega)
          constructor
          · simp [Ne.symm q1, hbib]
          · simp [Ne.symm q2]; omega
        have hl3 : bl ∉ [bx, bm, bw] := by
          have q1 := HLAY.out.len.ne HA.out.len (by decide)
          simp [q1, hblm]
        have hq : relNext 0 t M .frees = (.serves, M.store t 2 0) := by
          simp only [relNext, Int.mul_zero, Int.zero_add]
        have HQ := Lib.hid hq
        clear hq
        · go_wp2_with fail
          refine HD.out.mono ?_
          rintro e w4 ⟨rfl, rfl⟩
          go_wp2_with fail
          refine (rel_step_to HA.out HMEM.out HLAY.out (by decide) (by decide) HQ.out rfl).mono ?_
          rintro e w5 ⟨rfl, ha5, hm5, hk5⟩

          have hnew := HST'.out.next (k' := k + 1) (xs' := xs) (ys' := ys) htn hk5 hC3 hl3 hinv' (by omega) hm5 (HST'.out.hands.ins.keep hk5 hn3.1) (HST'.out.hands.outs.keep hk5 hn3.2) hlx hly (fun j _ => rfl) (fun j _ => rfl) ⟨HVI.out, bx, HVO.out, hlo, ha5⟩
          have HNEW := Lib.hid hnew
          clear ha5 hm5 hk5 hnew hinv' hU3 hC3 hn3 hl3
          go_wp2
          go_roundw
          case rel => exact ⟨k + 1, served, by omega, by omega, by go_num, rfl, _, _, _, _, _, _, HNEW.out⟩
          case measure => simp [intOf]; omega
      | serves i =>
        rw [hP] at hok
        obtain ⟨hvi, bx, hvo, hlo, hrel⟩ := hok
        rw [hvi] at cit
        rw [hvo] at cot
        unfold ptr at cot
        have HA := Lib.hid hrel
        have HVO := Lib.hid hvo
        have HVI := Lib.hid hvi
        have hinv' := HINV.out.serve hP t
        have HD := Lib.hid (rel_Done HA.out.state)
        have hd0 : RelPh.isDone .serves = false := rfl
        rw [hd0] at HD
        clear hrel hvo hvi hP hd0
        have hU3 : ∀ x ∈ [bx, bm, bw], Unbox wr x := by
          intro x hx
          simp only [List.mem_cons, List.not_mem_nil, or_false] at hx
          rcases hx with rfl | rfl | rfl
          · exact HA.out.mine.unbox
          · exact HMEM.out.big.unbox
          · exact HMEM.out.big'.unbox
        have hC3 : ∀ x ∈ [bx, bm, bw], x = w1.heap.size ∨ x = w2.heap.size ∨ x = bm ∨ x = bw ∨ (Mine wr t x ∧ w.heap.size ≤ x) := by
          intro x hx
          simp only [List.mem_cons, List.not_mem_nil, or_false] at hx
          rcases hx with rfl | rfl | rfl
          · exact .inr (.inr (.inr (.inr ⟨HA.out.mine, hlo⟩)))
          · exact .inr (.inr (.inl rfl))
          · exact .inr (.inr (.inr (.inl rfl)))
        have hn3 : w1.heap.size ∉ [bx, bm, bw] ∧ w2.heap.size ∉ [bx, bm, bw] := by
          have q1 := HA.out.len.ne LBI (by omega)
          have q2 := HA.out.len.ne LBO (by omega)
          constructor
          · simp [Ne.symm q1, hbib]
          · simp [Ne.symm q2]; omega
        have hl3 : bl ∉ [bx, bm, bw] := by
          have q1 := HLAY.out.len.ne HA.out.len (by decide)
          simp [q1, hblm]
        have hq : relNext 0 t M .serves = (.done, (M.add t 1 1).2) := by
          simp only [relNext, Int.mul_zero, Int.zero_add]
        have HQ := Lib.hid hq
        clear hq
        · go_wp2_with fail
          refine HD.out.mono ?_
          rintro e w4 ⟨rfl, rfl⟩
          go_wp2_with fail
          refine (rel_step_to HA.out HMEM.out HLAY.out (by decide) (by decide) HQ.out rfl).mono ?_
          rintro e w5 ⟨rfl, ha5, hm5, hk5⟩

          have hnew := HST'.out.next (k' := k + 1) (xs' := xs) (ys' := ys) htn hk5 hC3 hl3 hinv' (by omega) hm5 (HST'.out.hands.ins.keep hk5 hn3.1) (HST'.out.hands.outs.keep hk5 hn3.2) hlx hly (fun j _ => rfl) (fun j _ => rfl) ⟨HVI.out, .inr ⟨bx, HVO.out, hlo, ha5⟩⟩
          have HNEW := Lib.hid hnew
          clear ha5 hm5 hk5 hnew hinv' hU3 hC3 hn3 hl3
          go_wp2
          go_roundw
          case rel => exact ⟨k + 1, served, by omega, by omega, by go_num, rfl, _, _, _, _, _, _, HNEW.out⟩
          case measure => simp [intOf]; omega
    · have : k = zs.length := by omega
      subst this
      obtain ⟨P, M, g, v, xs, ys, hst⟩ := HREL.out
      have HKP := Lib.hid hst.kept
      clear hst
      go_wp2_with fail
      refine (HAW.out _).mono ?_
      rintro e w9 ⟨rfl, hk9⟩
      have HK9 := Lib.hid hk9
      clear hk9
      go_wp2
      go_ret
      exact ⟨rfl, HKP.out.trans HK9.out⟩

set_option maxRecDepth 100000 in
set_option maxHeartbeats 600000 in
theorem lockAlone_bad (F n : Int) (a : Option Addr) (len cap : Nat) (w : World) (hl : (len : Int) ≤ 9223372036854775807) (h : n < 1 ∨ 8 < n ∨ 400 < len) :
    Calls Try.prog 4 #[.int .u32 F, .int .i64 n, .slice a len cap] w (Reads (.bool true) w) := by
  have HAW := Lib.hid awake08
  have HB := Lib.hid hl
  clear hl
  by_cases h1 : n < 1
  · clear h
    go_enter Try.func4, Try.ntmps4
    go_wp2_with fail
    refine (HAW.out _).mono ?_
    rintro e w1 ⟨rfl, hk⟩
    have HK := Lib.hid hk
    clear hk
    go_wp2
    go_ret
    exact ⟨rfl, HK.out⟩
  · by_cases h2 : 8 < n
    · clear h
      go_enter Try.func4, Try.ntmps4
      go_wp2_with fail
      refine (HAW.out _).mono ?_
      rintro e w1 ⟨rfl, hk⟩
      have HK := Lib.hid hk
      clear hk
      go_wp2
      go_ret
      exact ⟨rfl, HK.out⟩
    · have h3 : 400 < len := by omega
      clear h
      go_enter Try.func4, Try.ntmps4
      go_wp2_with fail
      refine (HAW.out _).mono ?_
      rintro e w1 ⟨rfl, hk⟩
      have HK := Lib.hid hk
      clear hk
      go_wp2
      go_ret
      exact ⟨rfl, HK.out⟩

end Go.Proofs.Ytophgiocmldliaa