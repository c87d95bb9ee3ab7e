/- What each access to a memory of package cell does, said of the plain model: its answer, the memory behind it; nothing else changes. -/
import Derived.Test.YtophgiocmldliaaPm
import Derived.Test.YtophgiocmldliaaProg
import Derived.Lib.Hide
namespace Go.Proofs.Ytophgiocmldliaa
open Go.RowKit


theorem clo_load (v : Int) (w : World) : Calls Try.prog 199 #[.int .u64 v] w fun e w' => e = .returned (.tuple #[.int .u64 v, .bool true]) ∧ w = w' := by
  go_enter Try.func199, Try.ntmps199
  go_wp2
  go_ret2
  exact ⟨rfl, rfl⟩
theorem clo_store (v x : Int) (bx : Nat) (w : World) (hb : Blk w bx [.int .u64 x]) : Calls Try.prog 196 #[.int .u64 v, .pointer (some ⟨bx, 0, none⟩)] w fun e w' => e = .returned (.tuple #[.int .u64 x, .bool true]) ∧ w = w' := by
  have c := hb.cell
  go_enter Try.func196, Try.ntmps196
  go_wp2
  go_ret2
  exact ⟨rfl, rfl⟩
theorem clo_add (v x : Int) (bx : Nat) (w : World) (hb : Blk w bx [.int .u64 x]) (h0 : 0 ≤ v) (h1 : 0 ≤ x) : Calls Try.prog 198 #[.int .u64 v, .pointer (some ⟨bx, 0, none⟩)] w fun e w' => e = .returned (.tuple #[.int .u64 (plus v x), .bool true]) ∧ w = w' := by
  have c := hb.cell
  go_enter Try.func198, Try.ntmps198
  go_wp2
  go_ret2
  exact ⟨rfl, rfl⟩
theorem clo_swap_yes (v x : Int) (bo bx : Nat) (w : World) (ho : Blk w bo [.int .u64 v]) (hb : Blk w bx [.int .u64 x]) : Calls Try.prog 197 #[.int .u64 v, .pointer (some ⟨bo, 0, none⟩), .pointer (some ⟨bx, 0, none⟩)] w fun e w' => e = .returned (.tuple #[.int .u64 x, .bool true]) ∧ w = w' := by
  have c := hb.cell
  have d := ho.cell
  go_enter Try.func197, Try.ntmps197
  go_wp2
  go_ret2
  exact ⟨rfl, rfl⟩
theorem clo_swap_no (v y : Int) (bo bx : Nat) (w : World) (ho : Blk w bo [.int .u64 y]) (hn : v ≠ y) : Calls Try.prog 197 #[.int .u64 v, .pointer (some ⟨bo, 0, none⟩), .pointer (some ⟨bx, 0, none⟩)] w fun e w' => e = .returned (.tuple #[.int .u64 v, .bool false]) ∧ w = w' := by
  have d := ho.cell
  have hq : (v != y) = true := by simpa using hn
  go_enter Try.func197, Try.ntmps197
  go_wp2
  go_ret2
  exact ⟨rfl, rfl⟩


set_option maxRecDepth 100000 in
set_option maxHeartbeats 4000000 in
theorem does_load (bm bw : Nat) (M : Mem) (kind who at_ new r : Int) (d : Bool) (w : World) (hM : MemAt w bm bw M) (hat : M.isAt at_) (hr : 0 ≤ r ∧ r < 18446744073709551616)
    (hclo : ∀ w', Keep [bm, bw] w w' → Calls Try.prog 199 #[.int .u64 (M.get at_)] w' fun e w'' => e = .returned (.tuple #[.int .u64 r, .bool d]) ∧ w' = w'') :
    Calls Try.prog 195 #[.pointer (some ⟨bm, 0, none⟩), .agg #[.int .i64 kind, .int .i64 who, .int .i64 at_, .int .u64 0, .int .u64 new, .bool false], .func (.func 199) #[] #[]] w (MemEnd [bm, bw] bm bw (.tuple #[]) (M.hit kind who at_ new r d) w) := by
  have H := Lib.hid hclo
  clear hclo
  have HR := Lib.hid hr
  clear hr
  have HA := Lib.hid hat
  have h0 : 0 ≤ at_ := hat.1
  have h1 : at_ < M.ws.length := hat.2
  have hd : decide (at_ < 0) = false := by simpa using h0
  clear hat
  obtain ⟨hne, hsm, ⟨c, hm⟩, ⟨sp, hw⟩, hrg⟩ := hM
  have HG := Lib.hid hrg
  clear hrg
  have hne' : bm ≠ bw := Ne.symm hne
  have hc : w.cell? ⟨bw, at_.toNat, none⟩ = some (.int .u64 (M.get at_)) := by rw [hw.cell]; exact u64s_get (by omega)
  have cm := hm.cell
  have fm := hm.free
  have fw := hw.free
  have lm := hm.lt
  have lw := hw.lt
  unfold Mem.cells at cm
  go_enter Try.func195, Try.ntmps195
  go_wp2
  go_quiet (fail)
  go_wp2
  go_quiet (fail)
  go_wp2
  go_region_with (go_at_call 199; refine (H.out _ (by (repeat (first | with_reducible exact Keep.refl _ _ | with_reducible refine Keep.drewN ?_ | with_reducible refine Keep.drew ?_ | with_reducible refine Keep.alloc ?_ | (with_reducible refine Keep.set ?_ (by simp)) | (with_reducible refine Keep.setNew ?_ (by simp; done)) | (with_reducible refine Keep.setNew ?_ (by simp; omega)))))).mono ?_; rintro e w' ⟨rfl, rfl⟩)
  all_goals go_wp2
  all_goals go_end0
  all_goals
    refine ⟨rfl, mem_hit (c := c) (sp := sp) hne hsm HG.out HR.out ?_ HA.out ?_, ?_⟩
    · (repeat (first | with_reducible exact hm | with_reducible apply Blk.drewN | with_reducible apply Blk.drew | with_reducible apply Blk.alloc | with_reducible apply Blk.set | (with_reducible apply Blk.other; rotate_left; (first | assumption | (simp; omega)); rotate_right) | with_reducible rfl | rfl | (simp [Mem.cells, Mem.hit, Mem.begin]; done)))
    · (repeat (first | with_reducible exact hw | with_reducible apply Blk.drewN | with_reducible apply Blk.drew | with_reducible apply Blk.alloc | with_reducible apply Blk.set | (with_reducible apply Blk.other; rotate_left; (first | assumption | (simp; omega)); rotate_right) | with_reducible rfl | rfl | (simp [Mem.cells, Mem.hit, Mem.begin]; done)))
    · (repeat (first | with_reducible exact Keep.refl _ _ | with_reducible refine Keep.drewN ?_ | with_reducible refine Keep.drew ?_ | with_reducible refine Keep.alloc ?_ | (with_reducible refine Keep.set ?_ (by simp)) | (with_reducible refine Keep.setNew ?_ (by simp; done)) | (with_reducible refine Keep.setNew ?_ (by simp; omega))))
set_option maxRecDepth 100000 in
set_option maxHeartbeats 1000000 in
theorem does_load_miss (bm bw : Nat) (M : Mem) (kind who at_ new : Int) (w : World) (hM : MemAt w bm bw M) (hat : ¬ M.isAt at_) :
    Calls Try.prog 195 #[.pointer (some ⟨bm, 0, none⟩), .agg #[.int .i64 kind, .int .i64 who, .int .i64 at_, .int .u64 0, .int .u64 new, .bool false], .func (.func 199) #[] #[]] w (MemEnd [bm, bw] bm bw (.tuple #[]) (M.miss kind who at_ new) w) := by
  obtain ⟨hne, hsm, ⟨c, hm⟩, ⟨sp, hw⟩, hrg⟩ := hM
  have HG := Lib.hid hrg
  clear hrg
  have hne' : bm ≠ bw := Ne.symm hne
  have cm := hm.cell
  have fm := hm.free
  have lm := hm.lt
  have lw := hw.lt
  unfold Mem.cells at cm
  unfold Mem.isAt at hat
  by_cases h0 : at_ < 0
  · have hd : decide (at_ < 0) = true := by simpa using h0
    clear hat
    go_enter Try.func195, Try.ntmps195
    go_wp2
    go_quiet (fail)
    go_wp2
    go_end0
    refine ⟨rfl, mem_miss (c := c) (sp := sp) hne hsm HG.out ?_ ?_, ?_⟩
    · (repeat (first | with_reducible exact hm | with_reducible apply Blk.drewN | with_reducible apply Blk.drew | with_reducible apply Blk.alloc | with_reducible apply Blk.set | (with_reducible apply Blk.other; rotate_left; (first | assumption | (simp; omega)); rotate_right) | with_reducible rfl | rfl | (simp [Mem.cells, Mem.hit, Mem.begin]; done)))
    · (repeat (first | with_reducible exact hw | with_reducible apply Blk.drewN | with_reducible apply Blk.drew | with_reducible apply Blk.alloc | with_reducible apply Blk.set | (with_reducible apply Blk.other; rotate_left; (first | assumption | (simp; omega)); rotate_right) | with_reducible rfl | rfl | (simp [Mem.cells, Mem.hit, Mem.begin]; done)))
    · (repeat (first | with_reducible exact Keep.refl _ _ | with_reducible refine Keep.drewN ?_ | with_reducible refine Keep.drew ?_ | with_reducible refine Keep.alloc ?_ | (with_reducible refine Keep.set ?_ (by simp)) | (with_reducible refine Keep.setNew ?_ (by simp; done)) | (with_reducible refine Keep.setNew ?_ (by simp; omega))))
  · have h1 : (M.ws.length : Int) ≤ at_ := by omega
    have hd : decide (at_ < 0) = false := by simpa using h0
    clear hat
    go_enter Try.func195, Try.ntmps195
    go_wp2
    go_quiet (fail)
    go_wp2
    go_end0
    refine ⟨rfl, mem_miss (c := c) (sp := sp) hne hsm HG.out ?_ ?_, ?_⟩
    · (repeat (first | with_reducible exact hm | with_reducible apply Blk.drewN | with_reducible apply Blk.drew | with_reducible apply Blk.alloc | with_reducible apply Blk.set | (with_reducible apply Blk.other; rotate_left; (first | assumption | (simp; omega)); rotate_right) | with_reducible rfl | rfl | (simp [Mem.cells, Mem.hit, Mem.begin]; done)))
    · (repeat (first | with_reducible exact hw | with_reducible apply Blk.drewN | with_reducible apply Blk.drew | with_reducible apply Blk.alloc | with_reducible apply Blk.set | (with_reducible apply Blk.other; rotate_left; (first | assumption | (simp; omega)); rotate_right) | with_reducible rfl | rfl | (simp [Mem.cells, Mem.hit, Mem.begin]; done)))
    · (repeat (first | with_reducible exact Keep.refl _ _ | with_reducible refine Keep.drewN ?_ | with_reducible refine Keep.drew ?_ | with_reducible refine Keep.alloc ?_ | (with_reducible refine Keep.set ?_ (by simp)) | (with_reducible refine Keep.setNew ?_ (by simp; done)) | (with_reducible refine Keep.setNew ?_ (by simp; omega))))


set_option maxRecDepth 100000 in
set_option maxHeartbeats 4000000 in
theorem does_store (bm bw : Nat) (b1 : Nat) (M : Mem) (kind who at_ new r : Int) (d : Bool) (w : World) (hM : MemAt w bm bw M) (hat : M.isAt at_) (hr : 0 ≤ r ∧ r < 18446744073709551616)
    (hclo : ∀ w', Keep [bm, bw] w w' → Calls Try.prog 196 #[.int .u64 (M.get at_), .pointer (some ⟨b1, 0, none⟩)] w' fun e w'' => e = .returned (.tuple #[.int .u64 r, .bool d]) ∧ w' = w'') :
    Calls Try.prog 195 #[.pointer (some ⟨bm, 0, none⟩), .agg #[.int .i64 kind, .int .i64 who, .int .i64 at_, .int .u64 0, .int .u64 new, .bool false], .func (.func 196) #[] #[.pointer (some ⟨b1, 0, none⟩)]] w (MemEnd [bm, bw] bm bw (.tuple #[]) (M.hit kind who at_ new r d) w) := by
  have H := Lib.hid hclo
  clear hclo
  have HR := Lib.hid hr
  clear hr
  have HA := Lib.hid hat
  have h0 : 0 ≤ at_ := hat.1
  have h1 : at_ < M.ws.length := hat.2
  have hd : decide (at_ < 0) = false := by simpa using h0
  clear hat
  obtain ⟨hne, hsm, ⟨c, hm⟩, ⟨sp, hw⟩, hrg⟩ := hM
  have HG := Lib.hid hrg
  clear hrg
  have hne' : bm ≠ bw := Ne.symm hne
  have hc : w.cell? ⟨bw, at_.toNat, none⟩ = some (.int .u64 (M.get at_)) := by rw [hw.cell]; exact u64s_get (by omega)
  have cm := hm.cell
  have fm := hm.free
  have fw := hw.free
  have lm := hm.lt
  have lw := hw.lt
  unfold Mem.cells at cm
  go_enter Try.func195, Try.ntmps195
  go_wp2
  go_quiet (fail)
  go_wp2
  go_quiet (fail)
  go_wp2
  go_region_with (go_at_call 196; refine (H.out _ (by (repeat (first | with_reducible exact Keep.refl _ _ | with_reducible refine Keep.drewN ?_ | with_reducible refine Keep.drew ?_ | with_reducible refine Keep.alloc ?_ | (with_reducible refine Keep.set ?_ (by simp)) | (with_reducible refine Keep.setNew ?_ (by simp; done)) | (with_reducible refine Keep.setNew ?_ (by simp; omega)))))).mono ?_; rintro e w' ⟨rfl, rfl⟩)
  all_goals go_wp2
  all_goals go_end0
  all_goals
    refine ⟨rfl, mem_hit (c := c) (sp := sp) hne hsm HG.out HR.out ?_ HA.out ?_, ?_⟩
    · (repeat (first | with_reducible exact hm | with_reducible apply Blk.drewN | with_reducible apply Blk.drew | with_reducible apply Blk.alloc | with_reducible apply Blk.set | (with_reducible apply Blk.other; rotate_left; (first | assumption | (simp; omega)); rotate_right) | with_reducible rfl | rfl | (simp [Mem.cells, Mem.hit, Mem.begin]; done)))
    · (repeat (first | with_reducible exact hw | with_reducible apply Blk.drewN | with_reducible apply Blk.drew | with_reducible apply Blk.alloc | with_reducible apply Blk.set | (with_reducible apply Blk.other; rotate_left; (first | assumption | (simp; omega)); rotate_right) | with_reducible rfl | rfl | (simp [Mem.cells, Mem.hit, Mem.begin]; done)))
    · (repeat (first | with_reducible exact Keep.refl _ _ | with_reducible refine Keep.drewN ?_ | with_reducible refine Keep.drew ?_ | with_reducible refine Keep.alloc ?_ | (with_reducible refine Keep.set ?_ (by simp)) | (with_reducible refine Keep.setNew ?_ (by simp; done)) | (with_reducible refine Keep.setNew ?_ (by simp; omega))))
set_option maxRecDepth 100000 in
set_option maxHeartbeats 1000000 in
theorem does_store_miss (bm bw : Nat) (b1 : Nat) (M : Mem) (kind who at_ new : Int) (w : World) (hM : MemAt w bm bw M) (hat : ¬ M.isAt at_) :
    Calls Try.prog 195 #[.pointer (some ⟨bm, 0, none⟩), .agg #[.int .i64 kind, .int .i64 who, .int .i64 at_, .int .u64 0, .int .u64 new, .bool false], .func (.func 196) #[] #[.pointer (some ⟨b1, 0, none⟩)]] w (MemEnd [bm, bw] bm bw (.tuple #[]) (M.miss kind who at_ new) w) := by
  obtain ⟨hne, hsm, ⟨c, hm⟩, ⟨sp, hw⟩, hrg⟩ := hM
  have HG := Lib.hid hrg
  clear hrg
  have hne' : bm ≠ bw := Ne.symm hne
  have cm := hm.cell
  have fm := hm.free
  have lm := hm.lt
  have lw := hw.lt
  unfold Mem.cells at cm
  unfold Mem.isAt at hat
  by_cases h0 : at_ < 0
  · have hd : decide (at_ < 0) = true := by simpa using h0
    clear hat
    go_enter Try.func195, Try.ntmps195
    go_wp2
    go_quiet (fail)
    go_wp2
    go_end0
    refine ⟨rfl, mem_miss (c := c) (sp := sp) hne hsm HG.out ?_ ?_, ?_⟩
    · (repeat (first | with_reducible exact hm | with_reducible apply Blk.drewN | with_reducible apply Blk.drew | with_reducible apply Blk.alloc | with_reducible apply Blk.set | (with_reducible apply Blk.other; rotate_left; (first | assumption | (simp; omega)); rotate_right) | with_reducible rfl | rfl | (simp [Mem.cells, Mem.hit, Mem.begin]; done)))
    · (repeat (first | with_reducible exact hw | with_reducible apply Blk.drewN | with_reducible apply Blk.drew | with_reducible apply Blk.alloc | with_reducible apply Blk.set | (with_reducible apply Blk.other; rotate_left; (first | assumption | (simp; omega)); rotate_right) | with_reducible rfl | rfl | (simp [Mem.cells, Mem.hit, Mem.begin]; done)))
    · (repeat (first | with_reducible exact Keep.refl _ _ | with_reducible refine Keep.drewN ?_ | with_reducible refine Keep.drew ?_ | with_reducible refine Keep.alloc ?_ | (with_reducible refine Keep.set ?_ (by simp)) | (with_reducible refine Keep.setNew ?_ (by simp; done)) | (with_reducible refine Keep.setNew ?_ (by simp; omega))))
  · have h1 : (M.ws.length : Int) ≤ at_ := by omega
    have hd : decide (at_ < 0) = false := by simpa using h0
    clear hat
    go_enter Try.func195, Try.ntmps195
    go_wp2
    go_quiet (fail)
    go_wp2
    go_end0
    refine ⟨rfl, mem_miss (c := c) (sp := sp) hne hsm HG.out ?_ ?_, ?_⟩
    · (repeat (first | with_reducible exact hm | with_reducible apply Blk.drewN | with_reducible apply Blk.drew | with_reducible apply Blk.alloc | with_reducible apply Blk.set | (with_reducible apply Blk.other; rotate_left; (first | assumption | (simp; omega)); rotate_right) | with_reducible rfl | rfl | (simp [Mem.cells, Mem.hit, Mem.begin]; done)))
    · (repeat (first | with_reducible exact hw | with_reducible apply Blk.drewN | with_reducible apply Blk.drew | with_reducible apply Blk.alloc | with_reducible apply Blk.set | (with_reducible apply Blk.other; rotate_left; (first | assumption | (simp; omega)); rotate_right) | with_reducible rfl | rfl | (simp [Mem.cells, Mem.hit, Mem.begin]; done)))
    · (repeat (first | with_reducible exact Keep.refl _ _ | with_reducible refine Keep.drewN ?_ | with_reducible refine Keep.drew ?_ | with_reducible refine Keep.alloc ?_ | (with_reducible refine Keep.set ?_ (by simp)) | (with_reducible refine Keep.setNew ?_ (by simp; done)) | (with_reducible refine Keep.setNew ?_ (by simp; omega))))


set_option maxRecDepth 100000 in
set_option maxHeartbeats 4000000 in
theorem does_swap (bm bw : Nat) (b1 b2 : Nat) (M : Mem) (kind who at_ new r : Int) (d : Bool) (w : World) (hM : MemAt w bm bw M) (hat : M.isAt at_) (hr : 0 ≤ r ∧ r < 18446744073709551616)
    (hclo : ∀ w', Keep [bm, bw] w w' → Calls Try.prog 197 #[.int .u64 (M.get at_), .pointer (some ⟨b1, 0, none⟩), .pointer (some ⟨b2, 0, none⟩)] w' fun e w'' => e = .returned (.tuple #[.int .u64 r, .bool d]) ∧ w' = w'') :
    Calls Try.prog 195 #[.pointer (some ⟨bm, 0, none⟩), .agg #[.int .i64 kind, .int .i64 who, .int .i64 at_, .int .u64 0, .int .u64 new, .bool false], .func (.func 197) #[] #[.pointer (some ⟨b1, 0, none⟩), .pointer (some ⟨b2, 0, none⟩)]] w (MemEnd [bm, bw] bm bw (.tuple #[]) (M.hit kind who at_ new r d) w) := by
  have H := Lib.hid hclo
  clear hclo
  have HR := Lib.hid hr
  clear hr
  have HA := Lib.hid hat
  have h0 : 0 ≤ at_ := hat.1
  have h1 : at_ < M.ws.length := hat.2
  have hd : decide (at_ < 0) = false := by simpa using h0
  clear hat
  obtain ⟨hne, hsm, ⟨c, hm⟩, ⟨sp, hw⟩, hrg⟩ := hM
  have HG := Lib.hid hrg
  clear hrg
  have hne' : bm ≠ bw := Ne.symm hne
  have hc : w.cell? ⟨bw, at_.toNat, none⟩ = some (.int .u64 (M.get at_)) := by rw [hw.cell]; exact u64s_get (by omega)
  have cm := hm.cell
  have fm := hm.free
  have fw := hw.free
  have lm := hm.lt
  have lw := hw.lt
  unfold Mem.cells at cm
  go_enter Try.func195, Try.ntmps195
  go_wp2
  go_quiet (fail)
  go_wp2
  go_quiet (fail)
  go_wp2
  go_region_with (go_at_call 197; refine (H.out _ (by (repeat (first | with_reducible exact Keep.refl _ _ | with_reducible refine Keep.drewN ?_ | with_reducible refine Keep.drew ?_ | with_reducible refine Keep.alloc ?_ | (with_reducible refine Keep.set ?_ (by simp)) | (with_reducible refine Keep.setNew ?_ (by simp; done)) | (with_reducible refine Keep.setNew ?_ (by simp; omega)))))).mono ?_; rintro e w' ⟨rfl, rfl⟩)
  all_goals go_wp2
  all_goals go_end0
  all_goals
    refine ⟨rfl, mem_hit (c := c) (sp := sp) hne hsm HG.out HR.out ?_ HA.out ?_, ?_⟩
    · (repeat (first | with_reducible exact hm | with_reducible apply Blk.drewN | with_reducible apply Blk.drew | with_reducible apply Blk.alloc | with_reducible apply Blk.set | (with_reducible apply Blk.other; rotate_left; (first | assumption | (simp; omega)); rotate_right) | with_reducible rfl | rfl | (simp [Mem.cells, Mem.hit, Mem.begin]; done)))
    · (repeat (first | with_reducible exact hw | with_reducible apply Blk.drewN | with_reducible apply Blk.drew | with_reducible apply Blk.alloc | with_reducible apply Blk.set | (with_reducible apply Blk.other; rotate_left; (first | assumption | (simp; omega)); rotate_right) | with_reducible rfl | rfl | (simp [Mem.cells, Mem.hit, Mem.begin]; done)))
    · (repeat (first | with_reducible exact Keep.refl _ _ | with_reducible refine Keep.drewN ?_ | with_reducible refine Keep.drew ?_ | with_reducible refine Keep.alloc ?_ | (with_reducible refine Keep.set ?_ (by simp)) | (with_reducible refine Keep.setNew ?_ (by simp; done)) | (with_reducible refine Keep.setNew ?_ (by simp; omega))))
set_option maxRecDepth 100000 in
set_option maxHeartbeats 1000000 in
theorem does_swap_miss (bm bw : Nat) (b1 b2 : Nat) (M : Mem) (kind who at_ new : Int) (w : World) (hM : MemAt w bm bw M) (hat : ¬ M.isAt at_) :
    Calls Try.prog 195 #[.pointer (some ⟨bm, 0, none⟩), .agg #[.int .i64 kind, .int .i64 who, .int .i64 at_, .int .u64 0, .int .u64 new, .bool false], .func (.func 197) #[] #[.pointer (some ⟨b1, 0, none⟩), .pointer (some ⟨b2, 0, none⟩)]] w (MemEnd [bm, bw] bm bw (.tuple #[]) (M.miss kind who at_ new) w) := by
  obtain ⟨hne, hsm, ⟨c, hm⟩, ⟨sp, hw⟩, hrg⟩ := hM
  have HG := Lib.hid hrg
  clear hrg
  have hne' : bm ≠ bw := Ne.symm hne
  have cm := hm.cell
  have fm := hm.free
  have lm := hm.lt
  have lw := hw.lt
  unfold Mem.cells at cm
  unfold Mem.isAt at hat
  by_cases h0 : at_ < 0
  · have hd : decide (at_ < 0) = true := by simpa using h0
    clear hat
    go_enter Try.func195, Try.ntmps195
    go_wp2
    go_quiet (fail)
    go_wp2
    go_end0
    refine ⟨rfl, mem_miss (c := c) (sp := sp) hne hsm HG.out ?_ ?_, ?_⟩
    · (repeat (first | with_reducible exact hm | with_reducible apply Blk.drewN | with_reducible apply Blk.drew | with_reducible apply Blk.alloc | with_reducible apply Blk.set | (with_reducible apply Blk.other; rotate_left; (first | assumption | (simp; omega)); rotate_right) | with_reducible rfl | rfl | (simp [Mem.cells, Mem.hit, Mem.begin]; done)))
    · (repeat (first | with_reducible exact hw | with_reducible apply Blk.drewN | with_reducible apply Blk.drew | with_reducible apply Blk.alloc | with_reducible apply Blk.set | (with_reducible apply Blk.other; rotate_left; (first | assumption | (simp; omega)); rotate_right) | with_reducible rfl | rfl | (simp [Mem.cells, Mem.hit, Mem.begin]; done)))
    · (repeat (first | with_reducible exact Keep.refl _ _ | with_reducible refine Keep.drewN ?_ | with_reducible refine Keep.drew ?_ | with_reducible refine Keep.alloc ?_ | (with_reducible refine Keep.set ?_ (by simp)) | (with_reducible refine Keep.setNew ?_ (by simp; done)) | (with_reducible refine Keep.setNew ?_ (by simp; omega))))
  · have h1 : (M.ws.length : Int) ≤ at_ := by omega
    have hd : decide (at_ < 0) = false := by simpa using h0
    clear hat
    go_enter Try.func195, Try.ntmps195
    go_wp2
    go_quiet (fail)
    go_wp2
    go_end0
    refine ⟨rfl, mem_miss (c := c) (sp := sp) hne hsm HG.out ?_ ?_, ?_⟩
    · (repeat (first | with_reducible exact hm | with_reducible apply Blk.drewN | with_reducible apply Blk.drew | with_reducible apply Blk.alloc | with_reducible apply Blk.set | (with_reducible apply Blk.other; rotate_left; (first | assumption | (simp; omega)); rotate_right) | with_reducible rfl | rfl | (simp [Mem.cells, Mem.hit, Mem.begin]; done)))
    · (repeat (first | with_reducible exact hw | with_reducible apply Blk.drewN | with_reducible apply Blk.drew | with_reducible apply Blk.alloc | with_reducible apply Blk.set | (with_reducible apply Blk.other; rotate_left; (first | assumption | (simp; omega)); rotate_right) | with_reducible rfl | rfl | (simp [Mem.cells, Mem.hit, Mem.begin]; done)))
    · (repeat (first | with_reducible exact Keep.refl _ _ | with_reducible refine Keep.drewN ?_ | with_reducible refine Keep.drew ?_ | with_reducible refine Keep.alloc ?_ | (with_reducible refine Keep.set ?_ (by simp)) | (with_reducible refine Keep.setNew ?_ (by simp; done)) | (with_reducible refine Keep.setNew ?_ (by simp; omega))))


set_option maxRecDepth 100000 in
set_option maxHeartbeats 4000000 in
theorem does_add (bm bw : Nat) (b1 : Nat) (M : Mem) (kind who at_ new r : Int) (d : Bool) (w : World) (hM : MemAt w bm bw M) (hat : M.isAt at_) (hr : 0 ≤ r ∧ r < 18446744073709551616)
    (hclo : ∀ w', Keep [bm, bw] w w' → Calls Try.prog 198 #[.int .u64 (M.get at_), .pointer (some ⟨b1, 0, none⟩)] w' fun e w'' => e = .returned (.tuple #[.int .u64 r, .bool d]) ∧ w' = w'') :
    Calls Try.prog 195 #[.pointer (some ⟨bm, 0, none⟩), .agg #[.int .i64 kind, .int .i64 who, .int .i64 at_, .int .u64 0, .int .u64 new, .bool false], .func (.func 198) #[] #[.pointer (some ⟨b1, 0, none⟩)]] w (MemEnd [bm, bw] bm bw (.tuple #[]) (M.hit kind who at_ new r d) w) := by
  have H := Lib.hid hclo
  clear hclo
  have HR := Lib.hid hr
  clear hr
  have HA := Lib.hid hat
  have h0 : 0 ≤ at_ := hat.1
  have h1 : at_ < M.ws.length := hat.2
  have hd : decide (at_ < 0) = false := by simpa using h0
  clear hat
  obtain ⟨hne, hsm, ⟨c, hm⟩, ⟨sp, hw⟩, hrg⟩ := hM
  have HG := Lib.hid hrg
  clear hrg
  have hne' : bm ≠ bw := Ne.symm hne
  have hc : w.cell? ⟨bw, at_.toNat, none⟩ = some (.int .u64 (M.get at_)) := by rw [hw.cell]; exact u64s_get (by omega)
  have cm := hm.cell
  have fm := hm.free
  have fw := hw.free
  have lm := hm.lt
  have lw := hw.lt
  unfold Mem.cells at cm
  go_enter Try.func195, Try.ntmps195
  go_wp2
  go_quiet (fail)
  go_wp2
  go_quiet (fail)
  go_wp2
  go_region_with (go_at_call 198; refine (H.out _ (by (repeat (first | with_reducible exact Keep.refl _ _ | with_reducible refine Keep.drewN ?_ | with_reducible refine Keep.drew ?_ | with_reducible refine Keep.alloc ?_ | (with_reducible refine Keep.set ?_ (by simp)) | (with_reducible refine Keep.setNew ?_ (by simp; done)) | (with_reducible refine Keep.setNew ?_ (by simp; omega)))))).mono ?_; rintro e w' ⟨rfl, rfl⟩)
  all_goals go_wp2
  all_goals go_end0
  all_goals
    refine ⟨rfl, mem_hit (c := c) (sp := sp) hne hsm HG.out HR.out ?_ HA.out ?_, ?_⟩
    · (repeat (first | with_reducible exact hm | with_reducible apply Blk.drewN | with_reducible apply Blk.drew | with_reducible apply Blk.alloc | with_reducible apply Blk.set | (with_reducible apply Blk.other; rotate_left; (first | assumption | (simp; omega)); rotate_right) | with_reducible rfl | rfl | (simp [Mem.cells, Mem.hit, Mem.begin]; done)))
    · (repeat (first | with_reducible exact hw | with_reducible apply Blk.drewN | with_reducible apply Blk.drew | with_reducible apply Blk.alloc | with_reducible apply Blk.set | (with_reducible apply Blk.other; rotate_left; (first | assumption | (simp; omega)); rotate_right) | with_reducible rfl | rfl | (simp [Mem.cells, Mem.hit, Mem.begin]; done)))
    · (repeat (first | with_reducible exact Keep.refl _ _ | with_reducible refine Keep.drewN ?_ | with_reducible refine Keep.drew ?_ | with_reducible refine Keep.alloc ?_ | (with_reducible refine Keep.set ?_ (by simp)) | (with_reducible refine Keep.setNew ?_ (by simp; done)) | (with_reducible refine Keep.setNew ?_ (by simp; omega))))
set_option maxRecDepth 100000 in
set_option maxHeartbeats 1000000 in
theorem does_add_miss (bm bw : Nat) (b1 : Nat) (M : Mem) (kind who at_ new : Int) (w : World) (hM : MemAt w bm bw M) (hat : ¬ M.isAt at_) :
    Calls Try.prog 195 #[.pointer (some ⟨bm, 0, none⟩), .agg #[.int .i64 kind, .int .i64 who, .int .i64 at_, .int .u64 0, .int .u64 new, .bool false], .func (.func 198) #[] #[.pointer (some ⟨b1, 0, none⟩)]] w (MemEnd [bm, bw] bm bw (.tuple #[]) (M.miss kind who at_ new) w) := by
  obtain ⟨hne, hsm, ⟨c, hm⟩, ⟨sp, hw⟩, hrg⟩ := hM
  have HG := Lib.hid hrg
  clear hrg
  have hne' : bm ≠ bw := Ne.symm hne
  have cm := hm.cell
  have fm := hm.free
  have lm := hm.lt
  have lw := hw.lt
  unfold Mem.cells at cm
  unfold Mem.isAt at hat
  by_cases h0 : at_ < 0
  · have hd : decide (at_ < 0) = true := by simpa using h0
    clear hat
    go_enter Try.func195, Try.ntmps195
    go_wp2
    go_quiet (fail)
    go_wp2
    go_end0
    refine ⟨rfl, mem_miss (c := c) (sp := sp) hne hsm HG.out ?_ ?_, ?_⟩
    · (repeat (first | with_reducible exact hm | with_reducible apply Blk.drewN | with_reducible apply Blk.drew | with_reducible apply Blk.alloc | with_reducible apply Blk.set | (with_reducible apply Blk.other; rotate_left; (first | assumption | (simp; omega)); rotate_right) | with_reducible rfl | rfl | (simp [Mem.cells, Mem.hit, Mem.begin]; done)))
    · (repeat (first | with_reducible exact hw | with_reducible apply Blk.drewN | with_reducible apply Blk.drew | with_reducible apply Blk.alloc | with_reducible apply Blk.set | (with_reducible apply Blk.other; rotate_left; (first | assumption | (simp; omega)); rotate_right) | with_reducible rfl | rfl | (simp [Mem.cells, Mem.hit, Mem.begin]; done)))
    · (repeat (first | with_reducible exact Keep.refl _ _ | with_reducible refine Keep.drewN ?_ | with_reducible refine Keep.drew ?_ | with_reducible refine Keep.alloc ?_ | (with_reducible refine Keep.set ?_ (by simp)) | (with_reducible refine Keep.setNew ?_ (by simp; done)) | (with_reducible refine Keep.setNew ?_ (by simp; omega))))
  · have h1 : (M.ws.length : Int) ≤ at_ := by omega
    have hd : decide (at_ < 0) = false := by simpa using h0
    clear hat
    go_enter Try.func195, Try.ntmps195
    go_wp2
    go_quiet (fail)
    go_wp2
    go_end0
    refine ⟨rfl, mem_miss (c := c) (sp := sp) hne hsm HG.out ?_ ?_, ?_⟩
    · (repeat (first | with_reducible exact hm | with_reducible apply Blk.drewN | with_reducible apply Blk.drew | with_reducible apply Blk.alloc | with_reducible apply Blk.set | (with_reducible apply Blk.other; rotate_left; (first | assumption | (simp; omega)); rotate_right) | with_reducible rfl | rfl | (simp [Mem.cells, Mem.hit, Mem.begin]; done)))
    · (repeat (first | with_reducible exact hw | with_reducible apply Blk.drewN | with_reducible apply Blk.drew | with_reducible apply Blk.alloc | with_reducible apply Blk.set | (with_reducible apply Blk.other; rotate_left; (first | assumption | (simp; omega)); rotate_right) | with_reducible rfl | rfl | (simp [Mem.cells, Mem.hit, Mem.begin]; done)))
    · (repeat (first | with_reducible exact Keep.refl _ _ | with_reducible refine Keep.drewN ?_ | with_reducible refine Keep.drew ?_ | with_reducible refine Keep.alloc ?_ | (with_reducible refine Keep.set ?_ (by simp)) | (with_reducible refine Keep.setNew ?_ (by simp; done)) | (with_reducible refine Keep.setNew ?_ (by simp; omega))))

end Go.Proofs.Ytophgiocmldliaa
