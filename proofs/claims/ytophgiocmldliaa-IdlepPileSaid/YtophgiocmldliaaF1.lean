/- Package flow: what a step of a flow does, over any machine that holds one. -/
import Derived.Test.YtophgiocmldliaaM2
import Derived.Test.YtophgiocmldliaaL1
namespace Go.Proofs.Ytophgiocmldliaa
open Go.RowKit

/-- A flow, as plain data. -/
structure Fl where
  who : Int
  kind : Int
  at_ : Int
  old : Int
  w : Int
  then_ : Value
  asleep : Bool
  sub : Value
  after : Value
def Fl.cells (f : Fl) : List Value := [.int .i64 f.who, .int .i64 f.kind, .int .i64 f.at_, .int .u64 f.old, .int .u64 f.w, f.then_, .bool f.asleep, f.sub, f.after]
/-- What an access answers, and the memory behind it. -/
def Fl.acc (f : Fl) (M : Mem) : Int × Mem :=
  if f.kind = 2 then (0, M.store f.who f.at_ f.w)
  else if f.kind = 3 then (if (M.swap f.who f.at_ f.old f.w).1 then 1 else 0, (M.swap f.who f.at_ f.old f.w).2)
  else if f.kind = 4 then M.add f.who f.at_ f.w
  else M.load f.who f.at_
def Fl.fits (f : Fl) : Prop := 0 ≤ f.w ∧ f.w < 18446744073709551616

theorem eql_nil_nil (w : World) : (binOp .eql 156 .nilIface .nilIface).run Try.prog w = .ok (.bool true) w := by kernel_rfl

set_option maxRecDepth 100000 in
set_option maxHeartbeats 600000 in
theorem flow_done_idle {w : World} {bx : Nat} {f : Fl} {rest : List Value} (hx : Blk w bx (f.cells ++ rest)) (hk : f.kind = 0) (hs : f.sub = .nilIface) :
    Calls Try.prog 122 #[.pointer (some ⟨bx, 0, none⟩)] w fun e w' => e = .returned (.bool true) ∧ w = w' := by
  have cx := hx.cell
  unfold Fl.cells at cx
  rw [hk, hs] at cx
  clear hk hs hx
  have hz := eql_nil_nil
  go_enter Try.func122, Try.ntmps122
  go_wp2
  go_ret
  exact ⟨rfl, rfl⟩
set_option maxRecDepth 100000 in
set_option maxHeartbeats 600000 in
theorem flow_done_access {w : World} {bx : Nat} {f : Fl} {rest : List Value} (hx : Blk w bx (f.cells ++ rest)) (hk : f.kind ≠ 0) :
    Calls Try.prog 122 #[.pointer (some ⟨bx, 0, none⟩)] w fun e w' => e = .returned (.bool false) ∧ w = w' := by
  have cx := hx.cell
  unfold Fl.cells at cx
  have hb : (f.kind == 0) = false := by simpa using hk
  clear hx hk
  go_enter Try.func122, Try.ntmps122
  go_wp2
  go_ret
  exact ⟨rfl, rfl⟩
set_option maxRecDepth 100000 in
set_option maxHeartbeats 600000 in
theorem flow_done_runs {w : World} {bx : Nat} {f : Fl} {rest : List Value} (hx : Blk w bx (f.cells ++ rest)) (hk : f.kind = 0) {t b2 : Nat} (hs : f.sub = .iface t (.pointer (some ⟨b2, 0, none⟩)))
    (hz : ∀ w, (binOp .eql 156 (.iface t (.pointer (some ⟨b2, 0, none⟩))) .nilIface).run Try.prog w = .ok (.bool false) w) :
    Calls Try.prog 122 #[.pointer (some ⟨bx, 0, none⟩)] w fun e w' => e = .returned (.bool false) ∧ w = w' := by
  have cx := hx.cell
  unfold Fl.cells at cx
  rw [hk, hs] at cx
  clear hk hx hs
  go_enter Try.func122, Try.ntmps122
  go_wp2
  go_ret
  exact ⟨rfl, rfl⟩
set_option maxRecDepth 100000 in
set_option maxHeartbeats 600000 in
theorem flow_asleep_no {w : World} {bx bm bw : Nat} {M : Mem} {f : Fl} {rest : List Value} (hx : Blk w bx (f.cells ++ rest)) (hM : MemAt w bm bw M) (hk : f.kind ≠ 5)
    (ha : ∀ w, (Instr.typeAssert f.sub 156 231 true).run Try.prog w = .ok (.tuple #[.nilIface, .bool false]) w) :
    Calls Try.prog 179 #[.pointer (some ⟨bx, 0, none⟩), .pointer (some ⟨bm, 0, none⟩)] w fun e w' => e = .returned (.bool false) ∧ w = w' := by
  have cx := hx.cell
  unfold Fl.cells at cx
  have HP := Lib.hid (mem_peek hM f.at_)
  have hb : (f.kind == 5) = false := by simpa using hk
  clear hx hM hk
  go_enter Try.func179, Try.ntmps179
  go_wp2_with fail
  refine HP.out.mono ?_
  rintro e w1 ⟨rfl, rfl⟩
  go_wp2
  go_ret
  exact ⟨rfl, rfl⟩
set_option maxRecDepth 100000 in
set_option maxHeartbeats 600000 in
theorem flow_asleep_yes {w : World} {bx bm bw : Nat} {M : Mem} {f : Fl} {rest : List Value} (hx : Blk w bx (f.cells ++ rest)) (hM : MemAt w bm bw M) (hk : f.kind = 5) (hs : f.sub = .nilIface) (b : Bool) (hb : (f.asleep && (M.peek f.at_ == 0)) = b) :
    Calls Try.prog 179 #[.pointer (some ⟨bx, 0, none⟩), .pointer (some ⟨bm, 0, none⟩)] w fun e w' => e = .returned (.bool b) ∧ w = w' := by
  have cx := hx.cell
  unfold Fl.cells at cx
  rw [hk, hs] at cx
  have HP := Lib.hid (mem_peek hM f.at_)
  have ha : ∀ w, (Instr.typeAssert .nilIface 156 231 true).run Try.prog w = .ok (.tuple #[.nilIface, .bool false]) w := fun _ => by kernel_rfl
  clear hx hM hk hs
  cases hA : f.asleep with
  | true =>
    rw [hA] at hb cx
    have hq : (M.peek f.at_ == 0) = b := by simpa using hb
    clear hb hA
    cases b
    all_goals
      go_enter Try.func179, Try.ntmps179
      go_wp2_with fail
      refine HP.out.mono ?_
      rintro e w1 ⟨rfl, rfl⟩
      go_wp2
      go_ret
      exact ⟨rfl, rfl⟩
  | false =>
    rw [hA] at hb cx
    have hq : b = false := by simpa using hb.symm
    subst hq
    clear hb hA
    go_enter Try.func179, Try.ntmps179
    go_wp2_with fail
    refine HP.out.mono ?_
    rintro e w1 ⟨rfl, rfl⟩
    go_wp2
    go_ret
    exact ⟨rfl, rfl⟩


set_option maxRecDepth 100000 in
set_option maxHeartbeats 600000 in
theorem flow_does {w : World} {bx bm bw : Nat} {M : Mem} {f : Fl} {rest : List Value} (hx : Blk w bx (f.cells ++ rest)) (hM : MemAt w bm bw M) (hw : f.fits) :
    Calls Try.prog 213 #[.pointer (some ⟨bx, 0, none⟩), .pointer (some ⟨bm, 0, none⟩)] w (MemEnd [bm, bw] bm bw (.int .u64 (f.acc M).1) (f.acc M).2 w) := by
  have cx := hx.cell
  unfold Fl.cells at cx
  unfold Fl.acc
  have hMd : MemAt w.drew bm bw M := hM.keep (S := []) ((Keep.refl _ _).drew) (by simp) (by simp)
  by_cases h2 : f.kind = 2
  · rw [if_pos h2]
    rw [h2] at cx
    have H := Lib.hid (mem_store hMd f.who f.at_ f.w hw)
    clear hx hM hw h2 hMd
    go_enter Try.func213, Try.ntmps213
    go_wp2
    go_still_tail 13, (by kernel_rfl)
    change wpList _ _ _ _ _ w.drew
    go_wp2_with fail
    refine H.out.mono ?_
    rintro e w1 ⟨rfl, hM1, hK1⟩
    have HM := Lib.hid hM1
    have HK := Lib.hid hK1
    clear hM1 hK1
    go_wp2
    go_ret
    exact ⟨rfl, HM.out, Keep.trans ((Keep.refl _ _).drew) HK.out⟩
  · rw [if_neg h2]
    have q2 : (f.kind == 2) = false := by simpa using h2
    by_cases h3 : f.kind = 3
    · rw [if_pos h3]
      rw [h3] at cx
      have H := Lib.hid (mem_swap hMd f.who f.at_ f.old f.w hw)
      clear hx hM hw h2 hMd h3 q2
      generalize M.swap f.who f.at_ f.old f.w = r at *
      obtain ⟨b, M'⟩ := r
      cases b
      all_goals
        simp only at H
        go_enter Try.func213, Try.ntmps213
        go_wp2
        go_still_tail 17, (by kernel_rfl)
        change wpList _ _ _ _ _ w.drew
        go_wp2_with fail
        refine H.out.mono ?_
        rintro e w1 ⟨rfl, hM1, hK1⟩
        have HM := Lib.hid hM1
        have HK := Lib.hid hK1
        clear hM1 hK1
        go_wp2
        go_ret
        exact ⟨rfl, HM.out, Keep.trans ((Keep.refl _ _).drew) HK.out⟩
    · rw [if_neg h3]
      have q3 : (f.kind == 3) = false := by simpa using h3
      by_cases h4 : f.kind = 4
      · rw [if_pos h4]
        rw [h4] at cx
        have H := Lib.hid (mem_add hMd f.who f.at_ f.w hw)
        clear hx hM hw h2 hMd h3 q2 h4 q3
        go_enter Try.func213, Try.ntmps213
        go_wp2
        go_still_tail 13, (by kernel_rfl)
        change wpList _ _ _ _ _ w.drew
        go_wp2_with fail
        refine H.out.mono ?_
        rintro e w1 ⟨rfl, hM1, hK1⟩
        have HM := Lib.hid hM1
        have HK := Lib.hid hK1
        clear hM1 hK1
        go_wp2
        go_ret
        exact ⟨rfl, HM.out, Keep.trans ((Keep.refl _ _).drew) HK.out⟩
      · rw [if_neg h4]
        have q4 : (f.kind == 4) = false := by simpa using h4
        have H := Lib.hid (mem_load hMd f.who f.at_)
        clear hx hM hw h2 hMd h3 h4
        go_enter Try.func213, Try.ntmps213
        go_wp2
        go_still_tail 9, (by kernel_rfl)
        change wpList _ _ _ _ _ w.drew
        go_wp2_with fail
        refine H.out.mono ?_
        rintro e w1 ⟨rfl, hM1, hK1⟩
        have HM := Lib.hid hM1
        have HK := Lib.hid hK1
        clear hM1 hK1
        go_wp2
        go_ret
        exact ⟨rfl, HM.out, Keep.trans ((Keep.refl _ _).drew) HK.out⟩

end Go.Proofs.Ytophgiocmldliaa