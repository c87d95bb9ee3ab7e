/- The page's example of layer 8: a lock is acquired in three steps. -/
import Derived.Test.YtophgiocmldliaaG3
namespace Go.Proofs.Ytophgiocmldliaa
open Go.RowKit
namespace A08
def M0 : Mem := Mem.of (ground ⟨1, 2, 1⟩ [])
def M1 : Mem := (M0.add 1 3 1).2
def M2 : Mem := (M1.load 1 4).2
def M3 : Mem := M2.store 1 5 2
theorem s1 : acqNext 1 1 M0 .asks = (.loads 0, M1) := by kernel_rfl
theorem s2 : acqNext 1 1 M1 (.loads 0) = (.owns 0, M2) := by kernel_rfl
theorem s3 : acqNext 1 1 M2 (.owns 0) = (.done 0, M3) := by kernel_rfl
theorem p5 : M3.peek 5 = 2 := by kernel_rfl
theorem i5 : decide (M3.isAt 5) = true := by kernel_rfl
end A08
theorem few_121 : Cfg.Few ⟨1, 2, 1⟩ := ⟨by decide, by decide, by decide, by decide, by decide, by decide⟩

set_option maxRecDepth 100000 in
set_option maxHeartbeats 600000 in
theorem awake08 (w : World) : Calls Try.prog 28 #[] w (Reads (.bool true) w) := by
  have HL := Lib.hid (fun w => lay_yes ⟨1, 2, 1⟩ (.slice none 0 0) [] w (.inl ⟨rfl, rfl⟩) few_121 (by decide) (by intro p hp; cases hp))
  unfold groundV at HL
  go_enter Try.func28, Try.ntmps28
  go_wp2_with fail
  refine (HL.out _).mono ?_
  rintro e w1 ⟨bl, bm, bw, rm, rw', rfl, hlay, hm, -, hk, b1, b2, b3, -, -, -, -, -, -⟩
  have HLY := Lib.hid hlay
  have HM : Hid (MemAt w1 bm bw A08.M0) := Lib.hid hm
  have HK := Lib.hid hk
  clear hlay hm hk
  go_wp2_with fail
  refine (acq_new HLY.out 1 1 (by decide) (by decide)).mono ?_
  rintro e w2 ⟨bx, rfl, hbx, hlt, hacq, hk2⟩
  have HA2 : Hid (IsAcq bl 1 1 .asks w2 bx) := Lib.hid hacq
  have HLY2 := Lib.hid (HLY.out.keep hk2 (by simp))
  have HM2 := Lib.hid (HM.out.keep hk2 (by simp) (by simp))
  have HK2 := Lib.hid (HK.out.trans hk2)
  have hs2 := HK.out.size
  clear hacq hk2
  go_wp2_with fail
  refine (acq_step_to HA2.out HM2.out HLY2.out (by decide) (by decide) (by decide) (by decide) A08.s1 rfl).mono ?_
  rintro e w3 ⟨rfl, ha, hm, hk⟩
  have HA3 := Lib.hid ha
  have HM3 := Lib.hid hm
  have HLY3 := Lib.hid (HLY2.out.keep hk (by have := HLY2.out.lt; have h1 := HLY2.out.len.ne HA2.out.len (by decide); have h2 := HM2.out.ne_of_len HLY2.out.len (by decide) (by decide); simp [h1, h2.1, h2.2]))
  have HK3 := Lib.hid (HK2.out.trans' hk (by simp; omega))
  clear ha hm hk HA2 HM2 HLY2 HK2
  go_wp2_with fail
  refine (acq_step_to HA3.out HM3.out HLY3.out (by decide) (by decide) (by decide) (by decide) A08.s2 rfl).mono ?_
  rintro e w4 ⟨rfl, ha, hm, hk⟩
  have HA4 := Lib.hid ha
  have HM4 := Lib.hid hm
  have HLY4 := Lib.hid (HLY3.out.keep hk (by have := HLY3.out.lt; have h1 := HLY3.out.len.ne HA3.out.len (by decide); have h2 := HM3.out.ne_of_len HLY3.out.len (by decide) (by decide); simp [h1, h2.1, h2.2]))
  have HK4 := Lib.hid (HK3.out.trans' hk (by simp; omega))
  clear ha hm hk HA3 HM3 HLY3 HK3
  go_wp2_with fail
  refine (acq_step_to HA4.out HM4.out HLY4.out (by decide) (by decide) (by decide) (by decide) A08.s3 rfl).mono ?_
  rintro e w5 ⟨rfl, ha, hm, hk⟩
  have HA5 := Lib.hid ha
  have HM5 := Lib.hid hm
  have HLY5 := Lib.hid (HLY4.out.keep hk (by have := HLY4.out.lt; have h1 := HLY4.out.len.ne HA4.out.len (by decide); have h2 := HM4.out.ne_of_len HLY4.out.len (by decide) (by decide); simp [h1, h2.1, h2.2]))
  have HK5 := Lib.hid (HK4.out.trans' hk (by simp; omega))
  clear ha hm hk HA4 HM4 HLY4 HK4
  have HP := Lib.hid (mem_peek HM5.out 5)
  rw [A08.p5, A08.i5] at HP
  have HD := Lib.hid (acq_Done HA5.out.state)
  have hd : AcqPh.isDone (.done 0) = true := rfl
  rw [hd] at HD
  clear hd
  go_wp2_with fail
  refine HP.out.mono ?_
  rintro e w6 ⟨rfl, rfl⟩
  go_wp2_with fail
  refine HD.out.mono ?_
  rintro e w7 ⟨rfl, rfl⟩
  go_wp2
  go_ret
  exact ⟨rfl, HK5.out⟩

end Go.Proofs.Ytophgiocmldliaa