/- The accesses of package cell by its exported methods: Load, Store, Swap, Add, Peek, Clock, Bad, Last. -/
import Derived.Test.YtophgiocmldliaaM1
namespace Go.Proofs.Ytophgiocmldliaa
open Go.RowKit

set_option maxRecDepth 100000 in
set_option maxHeartbeats 400000 in
theorem mem_load {w : World} {bm bw : Nat} {M : Mem} (hM : MemAt w bm bw M) (who at_ : Int) :
    Calls Try.prog 152 #[.pointer (some ⟨bm, 0, none⟩), .int .i64 who, .int .i64 at_] w (MemEnd [bm, bw] bm bw (.int .u64 (M.load who at_).1) (M.load who at_).2 w) := by
  have hr := get_range (a := at_) hM.range
  by_cases hat : M.isAt at_
  · have H := Lib.hid (does_load bm bw M 1 who at_ 0 (M.get at_) true w hM hat hr fun w' _ => clo_load _ _)
    have e : M.load who at_ = (M.get at_, M.hit 1 who at_ 0 (M.get at_) true) := by unfold Mem.load; rw [if_pos hat]
    rw [e]
    clear hr hat hM e
    go_enter Try.func152, Try.ntmps152
    go_wp2_with fail
    refine H.out.mono ?_
    rintro e w1 ⟨rfl, hM1, hK1⟩
    obtain ⟨c, hm⟩ := hM1.mem
    have cm := hm.cell
    unfold Mem.cells Mem.hit at cm
    have HM := Lib.hid hM1
    have HK := Lib.hid hK1
    clear hM1 hK1 hm
    go_wp2
    go_ret
    exact ⟨rfl, HM.out, HK.out⟩
  · have H := Lib.hid (does_load_miss bm bw M 1 who at_ 0 w hM hat)
    have e : M.load who at_ = (0, M.miss 1 who at_ 0) := by unfold Mem.load; rw [if_neg hat]
    rw [e]
    clear hr hat hM e
    go_enter Try.func152, Try.ntmps152
    go_wp2_with fail
    refine H.out.mono ?_
    rintro e w1 ⟨rfl, hM1, hK1⟩
    obtain ⟨c, hm⟩ := hM1.mem
    have cm := hm.cell
    unfold Mem.cells Mem.miss Mem.begin at cm
    have HM := Lib.hid hM1
    have HK := Lib.hid hK1
    clear hM1 hK1 hm
    go_wp2
    go_ret
    exact ⟨rfl, HM.out, HK.out⟩
-- MORE

set_option maxRecDepth 100000 in
set_option maxHeartbeats 400000 in
theorem mem_store {w : World} {bm bw : Nat} {M : Mem} (hM : MemAt w bm bw M) (who at_ x : Int) (hx : 0 ≤ x ∧ x < 18446744073709551616) :
    Calls Try.prog 148 #[.pointer (some ⟨bm, 0, none⟩), .int .i64 who, .int .i64 at_, .int .u64 x] w (MemEnd [bm, bw] bm bw (.tuple #[]) (M.store who at_ x) w) := by
  have hK0 : Keep [] w (w.alloc (.cells #[.int .u64 x] 22)) := (Keep.refl _ _).alloc
  have hM0 := hM.keep hK0 (by simp) (by simp)
  have hb : Blk (w.alloc (.cells #[.int .u64 x] 22)) w.heap.size [.int .u64 x] := Blk.new rfl
  have l1 := hM.lt
  have l2 := hM.lt'
  by_cases hat : M.isAt at_
  · have H := Lib.hid (does_store bm bw w.heap.size M 2 who at_ x x true _ hM0 hat hx fun w' hk => clo_store _ _ _ _ (hb.keep hk (by simp; omega)))
    have e : M.store who at_ x = M.hit 2 who at_ x x true := by unfold Mem.store; rw [if_pos hat]
    rw [e]
    have HX := Lib.hid hx
    have HK0 := Lib.hid hK0
    clear hM0 hat hM e hb hx hK0
    go_enter Try.func148, Try.ntmps148
    go_wp2_with fail
    refine H.out.mono ?_
    rintro e w1 ⟨rfl, hM1, hK1⟩
    have HM := Lib.hid hM1
    have HK := Lib.hid hK1
    clear hM1 hK1
    go_wp2
    go_end0
    exact ⟨rfl, HM.out, (HK0.out.mono (by simp)).trans HK.out⟩
  · have H := Lib.hid (does_store_miss bm bw w.heap.size M 2 who at_ x _ hM0 hat)
    have e : M.store who at_ x = M.miss 2 who at_ x := by unfold Mem.store; rw [if_neg hat]
    rw [e]
    have HX := Lib.hid hx
    have HK0 := Lib.hid hK0
    clear hM0 hat hM e hb hx hK0
    go_enter Try.func148, Try.ntmps148
    go_wp2_with fail
    refine H.out.mono ?_
    rintro e w1 ⟨rfl, hM1, hK1⟩
    have HM := Lib.hid hM1
    have HK := Lib.hid hK1
    clear hM1 hK1
    go_wp2
    go_end0
    exact ⟨rfl, HM.out, (HK0.out.mono (by simp)).trans HK.out⟩

set_option maxRecDepth 100000 in
set_option maxHeartbeats 400000 in
theorem mem_swap {w : World} {bm bw : Nat} {M : Mem} (hM : MemAt w bm bw M) (who at_ y x : Int) (hx : 0 ≤ x ∧ x < 18446744073709551616) :
    Calls Try.prog 150 #[.pointer (some ⟨bm, 0, none⟩), .int .i64 who, .int .i64 at_, .int .u64 y, .int .u64 x] w (MemEnd [bm, bw] bm bw (.bool (M.swap who at_ y x).1) (M.swap who at_ y x).2 w) := by
  have hK0 : Keep [] w ((w.alloc (.cells #[.int .u64 y] 22)).alloc (.cells #[.int .u64 x] 22)) := ((Keep.refl _ _).alloc).alloc
  have hM0 := hM.keep hK0 (by simp) (by simp)
  have ho : Blk ((w.alloc (.cells #[.int .u64 y] 22)).alloc (.cells #[.int .u64 x] 22)) w.heap.size [.int .u64 y] := Blk.alloc (Blk.new rfl)
  have hb : Blk ((w.alloc (.cells #[.int .u64 y] 22)).alloc (.cells #[.int .u64 x] 22)) (w.heap.size + 1) [.int .u64 x] := Blk.new (by rw [World.size_alloc])
  have l1 := hM.lt
  have l2 := hM.lt'
  have hr := get_range (a := at_) hM.range
  by_cases hat : M.isAt at_
  · have n1 : w.heap.size ∉ [bm, bw] := by simp; omega
    have n2 : w.heap.size + 1 ∉ [bm, bw] := by simp; omega
    by_cases hy : M.get at_ = y
    · have ho' : Blk ((w.alloc (.cells #[.int .u64 y] 22)).alloc (.cells #[.int .u64 x] 22)) w.heap.size [.int .u64 (M.get at_)] := by rw [hy]; exact ho
      have H := Lib.hid (does_swap bm bw w.heap.size (w.heap.size + 1) M 3 who at_ x x true _ hM0 hat hx fun w' hk => clo_swap_yes _ _ _ _ _ (ho'.keep hk n1) (hb.keep hk n2))
      have e : M.swap who at_ y x = (true, M.hit 3 who at_ x x true) := by unfold Mem.swap; rw [if_pos hat, if_pos hy]
      rw [e]
      have HK0 := Lib.hid hK0
      clear hM0 hat hM e hb ho ho' n1 n2 hx hr hy hK0
      go_enter Try.func150, Try.ntmps150
      go_wp2_with fail
      refine H.out.mono ?_
      rintro e w1 ⟨rfl, hM1, hK1⟩
      obtain ⟨c, hm⟩ := hM1.mem
      have cm := hm.cell
      unfold Mem.cells Mem.hit at cm
      have HM := Lib.hid hM1
      have HK := Lib.hid hK1
      clear hM1 hK1 hm
      go_wp2
      go_ret
      exact ⟨rfl, HM.out, (HK0.out.mono (by simp)).trans HK.out⟩
    · have H := Lib.hid (does_swap bm bw w.heap.size (w.heap.size + 1) M 3 who at_ x (M.get at_) false _ hM0 hat hr fun w' hk => clo_swap_no _ _ _ _ _ (ho.keep hk n1) hy)
      have e : M.swap who at_ y x = (false, M.hit 3 who at_ x (M.get at_) false) := by unfold Mem.swap; rw [if_pos hat, if_neg hy]
      rw [e]
      have HK0 := Lib.hid hK0
      clear hM0 hat hM e hb ho n1 n2 hx hr hy hK0
      go_enter Try.func150, Try.ntmps150
      go_wp2_with fail
      refine H.out.mono ?_
      rintro e w1 ⟨rfl, hM1, hK1⟩
      obtain ⟨c, hm⟩ := hM1.mem
      have cm := hm.cell
      unfold Mem.cells Mem.hit at cm
      have HM := Lib.hid hM1
      have HK := Lib.hid hK1
      clear hM1 hK1 hm
      go_wp2
      go_ret
      exact ⟨rfl, HM.out, (HK0.out.mono (by simp)).trans HK.out⟩
  · have H := Lib.hid (does_swap_miss bm bw w.heap.size (w.heap.size + 1) M 3 who at_ x _ hM0 hat)
    have e : M.swap who at_ y x = (false, M.miss 3 who at_ x) := by unfold Mem.swap; rw [if_neg hat]
    rw [e]
    have HK0 := Lib.hid hK0
    clear hM0 hat hM e hb ho hx hr hK0
    go_enter Try.func150, Try.ntmps150
    go_wp2_with fail
    refine H.out.mono ?_
    rintro e w1 ⟨rfl, hM1, hK1⟩
    obtain ⟨c, hm⟩ := hM1.mem
    have cm := hm.cell
    unfold Mem.cells Mem.miss Mem.begin at cm
    have HM := Lib.hid hM1
    have HK := Lib.hid hK1
    clear hM1 hK1 hm
    go_wp2
    go_ret
    exact ⟨rfl, HM.out, (HK0.out.mono (by simp)).trans HK.out⟩

theorem plus_range (v w : Int) : 0 ≤ plus v w ∧ plus v w < 18446744073709551616 := by unfold plus; omega
theorem getD_set_same {l : List Int} {i : Nat} {v : Int} (h : i < l.length) : (l.set i v).getD i 0 = v := by
  rw [List.getD_eq_getElem?_getD, List.getElem?_set_self h]; rfl
set_option maxRecDepth 100000 in
set_option maxHeartbeats 400000 in
theorem mem_add {w : World} {bm bw : Nat} {M : Mem} (hM : MemAt w bm bw M) (who at_ x : Int) (hx : 0 ≤ x ∧ x < 18446744073709551616) :
    Calls Try.prog 151 #[.pointer (some ⟨bm, 0, none⟩), .int .i64 who, .int .i64 at_, .int .u64 x] w (MemEnd [bm, bw] bm bw (.int .u64 (M.add who at_ x).1) (M.add who at_ x).2 w) := by
  have hK0 : Keep [] w (w.alloc (.cells #[.int .u64 x] 22)) := (Keep.refl _ _).alloc
  have hM0 := hM.keep hK0 (by simp) (by simp)
  have hb : Blk (w.alloc (.cells #[.int .u64 x] 22)) w.heap.size [.int .u64 x] := Blk.new rfl
  have l1 := hM.lt
  have l2 := hM.lt'
  have hr := get_range (a := at_) hM.range
  by_cases hat : M.isAt at_
  · have H := Lib.hid (does_add bm bw w.heap.size M 4 who at_ x (plus (M.get at_) x) true _ hM0 hat (plus_range _ _) fun w' hk => clo_add _ _ _ _ (hb.keep hk (by simp; omega)) hr.1 hx.1)
    have e : M.add who at_ x = (plus (M.get at_) x, M.hit 4 who at_ (plus (M.get at_) x) (plus (M.get at_) x) true) := by unfold Mem.add; rw [if_pos hat]
    rw [e]
    have hl : at_.toNat < M.ws.length := by have := hat.1; have := hat.2; omega
    have h0 := hat.1
    have h1 := hat.2
    have HK0 := Lib.hid hK0
    clear hM0 hat hM e hb hx hr hK0
    generalize plus (M.get at_) x = r at *
    go_enter Try.func151, Try.ntmps151
    go_wp2_with fail
    refine H.out.mono ?_
    rintro e w1 ⟨rfl, hM1, hK1⟩
    obtain ⟨hne, hsm, ⟨c, hm⟩, ⟨sp, hw⟩, hrg⟩ := hM1
    have hne' := Ne.symm hne
    have cm := hm.cell
    have fm := hm.free
    have lm := hm.lt
    have cw : w1.cell? ⟨bw, at_.toNat, none⟩ = some (.int .u64 r) := by
      rw [hw.cell, u64s_get (by simpa [Mem.hit] using hl)]
      simp only [Mem.hit]
      rw [getD_set_same hl]
    have hlen : (M.ws.set at_.toNat r).length = M.ws.length := by simp
    unfold Mem.cells Mem.hit at cm
    rw [hlen] at cm
    clear hlen
    have HG := Lib.hid hrg
    have HK := Lib.hid hK1
    clear hrg hK1 H
    go_wp2
    go_ret
    refine ⟨rfl, ⟨hne, hsm, ⟨c, ?_⟩, ⟨sp, ?_⟩, HG.out⟩, ?_⟩
    · (repeat (first | with_reducible exact hm | with_reducible apply Blk.drewN | with_reducible apply Blk.drew | with_reducible apply Blk.alloc | with_reducible apply Blk.set | (with_reducible apply Blk.other; rotate_left; (first | assumption | (simp; omega)); rotate_right) | with_reducible rfl | rfl | (simp [Mem.cells, Mem.hit, Mem.begin]; done)))
    · exact hw.other hne
    · exact ((HK0.out.mono (by simp)).trans HK.out).set (by simp)
  · have H := Lib.hid (does_add_miss bm bw w.heap.size M 4 who at_ x _ hM0 hat)
    have e : M.add who at_ x = (0, M.miss 4 who at_ x) := by unfold Mem.add; rw [if_neg hat]
    rw [e]
    have HK0 := Lib.hid hK0
    clear hM0 hat hM e hb hx hr hK0
    go_enter Try.func151, Try.ntmps151
    go_wp2_with fail
    refine H.out.mono ?_
    rintro e w1 ⟨rfl, hM1, hK1⟩
    obtain ⟨c, hm⟩ := hM1.mem
    have cm := hm.cell
    unfold Mem.cells Mem.miss Mem.begin at cm
    have HM := Lib.hid hM1
    have HK := Lib.hid hK1
    clear hM1 hK1 hm
    go_wp2
    go_ret
    exact ⟨rfl, HM.out, (HK0.out.mono (by simp)).trans HK.out⟩

set_option maxRecDepth 100000 in
set_option maxHeartbeats 400000 in
theorem mem_peek {w : World} {bm bw : Nat} {M : Mem} (hM : MemAt w bm bw M) (at_ : Int) :
    Calls Try.prog 35 #[.pointer (some ⟨bm, 0, none⟩), .int .i64 at_] w fun e w' => e = .returned (.tuple #[.int .u64 (M.peek at_), .bool (decide (M.isAt at_))]) ∧ w = w' := by
  obtain ⟨hne, hsm, ⟨c, hm⟩, ⟨sp, hw⟩, hrg⟩ := hM
  have cm := hm.cell
  unfold Mem.cells at cm
  unfold Mem.peek
  by_cases hat : M.isAt at_
  · have e2 : decide (M.isAt at_) = true := by simpa using hat
    rw [if_pos hat, e2]
    have h0 := hat.1
    have h1 := hat.2
    have hd : decide (at_ < 0) = false := by simpa using h0
    have hc : w.cell? ⟨bw, at_.toNat, none⟩ = some (.int .u64 (M.get at_)) := by rw [hw.cell]; exact u64s_get (by omega)
    clear hrg hat e2 hm hw
    go_enter Try.func35, Try.ntmps35
    go_wp2
    go_ret2
    exact ⟨rfl, rfl⟩
  · have e2 : decide (M.isAt at_) = false := by simpa using hat
    rw [if_neg hat, e2]
    unfold Mem.isAt at hat
    by_cases h0 : at_ < 0
    · have hd : decide (at_ < 0) = true := by simpa using h0
      clear hrg hat e2 hm hw
      go_enter Try.func35, Try.ntmps35
      go_wp2
      go_ret2
      exact ⟨rfl, rfl⟩
    · have hd : decide (at_ < 0) = false := by simpa using h0
      have h1 : (M.ws.length : Int) ≤ at_ := by omega
      clear hrg hat e2 hm hw
      go_enter Try.func35, Try.ntmps35
      go_wp2
      go_ret2
      exact ⟨rfl, rfl⟩

set_option maxRecDepth 100000 in
set_option maxHeartbeats 400000 in
theorem mem_clock {w : World} {bm bw : Nat} {M : Mem} (hM : MemAt w bm bw M) :
    Calls Try.prog 159 #[.pointer (some ⟨bm, 0, none⟩)] w fun e w' => e = .returned (.int .i64 M.clock) ∧ w = w' := by
  obtain ⟨hne, hsm, ⟨c, hm⟩, ⟨sp, hw⟩, hrg⟩ := hM
  have cm := hm.cell
  unfold Mem.cells at cm
  clear hrg hm hw
  go_enter Try.func159, Try.ntmps159
  go_wp2
  go_ret
  exact ⟨rfl, rfl⟩

set_option maxRecDepth 100000 in
set_option maxHeartbeats 400000 in
theorem mem_bad {w : World} {bm bw : Nat} {M : Mem} (hM : MemAt w bm bw M) :
    Calls Try.prog 45 #[.pointer (some ⟨bm, 0, none⟩)] w fun e w' => e = .returned (.int .i64 M.bad) ∧ w = w' := by
  obtain ⟨hne, hsm, ⟨c, hm⟩, ⟨sp, hw⟩, hrg⟩ := hM
  have cm := hm.cell
  unfold Mem.cells at cm
  clear hrg hm hw
  go_enter Try.func45, Try.ntmps45
  go_wp2
  go_ret
  exact ⟨rfl, rfl⟩

end Go.Proofs.Ytophgiocmldliaa
