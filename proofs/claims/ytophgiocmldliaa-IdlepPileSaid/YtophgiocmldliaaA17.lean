/- The page's example of layer 17: two processors are put, one is got. -/
import Derived.Test.YtophgiocmldliaaI17
import Derived.Test.YtophgiocmldliaaSm
namespace Go.Proofs.Ytophgiocmldliaa
open Go.RowKit
theorem few_331 : Cfg.Few ⟨3, 3, 1⟩ := ⟨by decide, by decide, by decide, by decide, by decide, by decide⟩
theorem a17_plain : ∃ M1 M2 M3 a b, P18.steps (pputNext 0 ⟨3, 3, 1⟩ 0) 6 (.asks, Mem.of (ground ⟨3, 3, 1⟩ [])) = (.over, M1) ∧ P18.steps (pputNext 2 ⟨3, 3, 1⟩ 0) 6 (.asks, M1) = (.over, M2) ∧ P17.Inv ⟨3, 3, 1⟩ M2 [2, 0] ∧ P18.steps (pgetNext ⟨3, 3, 1⟩ 0) 6 (.asks, M2) = (.over a b 2, M3) := by
  have h0 : P17.Inv ⟨3, 3, 1⟩ (Mem.of (ground ⟨3, 3, 1⟩ [])) [] := P17.begin (P := 3) (by decide) (by decide)
  obtain ⟨M1, e1, h1⟩ := P17.put_one (who := 0) (p := 0) h0 (by decide) (by decide) (by simp) 0
  obtain ⟨M2, e2, h2⟩ := P17.put_one (who := 0) (p := 2) h1 (by decide) (by decide) (by simp) 0
  obtain ⟨M3, a, b, e3, h3⟩ := P17.get_some (who := 0) h2 0
  exact ⟨M1, M2, M3, a, b, e1, e2, h2, e3⟩
theorem a17_lt {w : World} {b n : Nat} (h : Len w b n) : b < w.heap.size := let ⟨_, h, _⟩ := h; h.lt
theorem a17_ne {w : World} {b b2 bm bw n : Nat} {M : Mem} (h : Len w b n) (h1 : n ≠ 9) (h2 : n < 280) (hM : MemAt w bm bw M) (hb : b ≠ b2) : b ∉ [b2, bm, bw] := by
  obtain ⟨n1, n2⟩ := hM.ne_of_len h h1 h2
  simp [hb, n1, n2]

set_option maxRecDepth 100000 in
set_option maxHeartbeats 4000000 in
theorem awake17 (w : World) : Calls Try.prog 46 #[] w (Reads (.bool true) w) := by
  have HL := Lib.hid (fun w => lay_yes ⟨3, 3, 1⟩ (.slice none 0 0) [] w (.inl ⟨rfl, rfl⟩) few_331 (by decide) (by intro p hp; cases hp))
  unfold groundV at HL
  have HPL := Lib.hid a17_plain
  go_enter Try.func46, Try.ntmps46
  go_wp2_with fail
  refine (HL.out _).mono ?_
  rintro e w1 ⟨bl, bm, bw, rm, rw', rfl, hlay, hm, -, hk, b1, b2, b3, -, -, -, -, -, -⟩
  have HLA := Lib.hid hlay
  have HMA := Lib.hid hm
  have HKA := Lib.hid hk
  have HLO : Hid (w.heap.size ≤ bm ∧ w.heap.size ≤ bw ∧ w.heap.size ≤ w1.heap.size) := Lib.hid ⟨b2, b3, hk.size⟩
  clear hlay hm hk b1 b2 b3
  go_wp2_with fail
  refine (pput_new HLA.out 0 0 (by decide) (by decide)).mono ?_
  rintro e w2 ⟨ba, rfl, hba, hba2, hB2, hk2⟩
  have HB2 := Lib.hid hB2
  have HK2 := Lib.hid hk2
  clear hB2 hk2
  go_wp2_with fail
  refine (pput_new (HLA.out.keep HK2.out (by simp)) 2 0 (by decide) (by decide)).mono ?_
  rintro e w3 ⟨bb, rfl, hbb, hbb2, hB3, hk3⟩
  have HB3 := Lib.hid hB3
  have HK3 := Lib.hid hk3
  clear hB3 hk3
  go_wp2_with fail
  refine (pget_new (HLA.out.keep (HK2.out.trans HK3.out) (by simp)) 0).mono ?_
  rintro e w4 ⟨bx, rfl, hbx, hbx2, hB4, hk4⟩
  have HK4 := Lib.hid ((HK2.out.trans HK3.out).trans hk4)
  have HAX : Hid (pputIs bl 0 ⟨3, 3, 1⟩ 0 .asks w4 ba) := Lib.hid (HB2.out.keep (HK3.out.trans hk4) (by simp) (by simp))
  have HBX : Hid (pputIs bl 2 ⟨3, 3, 1⟩ 0 .asks w4 bb) := Lib.hid (HB3.out.keep hk4 (by simp) (by simp))
  have HXX : Hid (pgetIs bl ⟨3, 3, 1⟩ 0 .asks w4 bx) := Lib.hid hB4
  have HLAY := Lib.hid (HLA.out.keep HK4.out (by simp))
  have HM := Lib.hid (HMA.out.keep HK4.out (by simp) (by simp))
  have HKW := Lib.hid (HKA.out.trans HK4.out)
  have HNE : Hid (ba ≠ bb ∧ ba ≠ bx ∧ bb ≠ bx ∧ w.heap.size ≤ ba ∧ w.heap.size ≤ bb ∧ w.heap.size ≤ bx ∧ w.heap.size ≤ bm ∧ w.heap.size ≤ bw) := Lib.hid (by
    have := HLO.out
    have := HK2.out.size
    have := HK3.out.size
    omega)
  have NBL : Hid (bl ∉ [ba, bm, bw]) := Lib.hid (a17_ne HLAY.out.len (by decide) (by decide) HM.out (HLAY.out.len.ne HAX.out.len (by decide)))
  clear hB4 hk4 HB2 HB3 HK2 HK3 HLA HMA HKA hba hba2 hbb hbb2 hbx hbx2 HLO
  obtain ⟨M1, M2, M3, ga, gb, e1, e2, hinv, e3⟩ := HPL.out
  have E1 := Lib.hid e1
  have E2 := Lib.hid e2
  have E3 := Lib.hid e3
  have HIN := Lib.hid hinv
  clear e1 e2 e3 hinv HPL
  go_wp2
  go_loopw [8] (fun s wq => ∃ q : Nat, q ≤ 6 ∧ s = .int .i64 q ∧ Stepping (pputIs bl 0 ⟨3, 3, 1⟩ 0) ba bm bw (P18.steps (pputNext 0 ⟨3, 3, 1⟩ 0) q (.asks, Mem.of (ground ⟨3, 3, 1⟩ []))) w4 wq) (fun s _ => 6 - (intOf s).toNat)
  case atStart => exact ⟨0, Nat.zero_le _, rfl, HAX.out, HM.out, Keep.refl _ _⟩
  case round =>
    obtain ⟨q, hq, rfl, hS⟩ := hrel
    have HS := Lib.hid hS
    clear hS
    by_cases hq6 : q < 6
    · go_wp2_with fail
      refine (pput_step HS.out.here HS.out.mem (HLAY.out.keep HS.out.kept NBL.out)).mono ?_
      rintro e w5 ⟨d, rfl, hth⟩
      have HTH := Lib.hid hth
      clear hth
      go_wp2
      go_roundw
      case rel => exact ⟨q + 1, by omega, by go_num, HS.out.next HTH.out⟩
      case measure => simp [intOf]; omega
    · obtain rfl : q = 6 := by omega
      clear hq hq6
      obtain ⟨wx, rfl⟩ : ∃ wx : World, wx = wr := ⟨_, rfl⟩
      have hS := HS.out
      rw [E1.out] at hS
      obtain ⟨-, hm5, hk5⟩ := hS
      have hub := fun x hx => (three_big HAX.out.len (by decide) HM.out x hx).unbox
      have HBX5 : Hid (pputIs bl 2 ⟨3, 3, 1⟩ 0 .asks _ bb) := Lib.hid (HBX.out.keep hk5 (a17_ne HBX.out.len (by decide) (by decide) HM.out (Ne.symm HNE.out.1)) hub)
      have HXX5 : Hid (pgetIs bl ⟨3, 3, 1⟩ 0 .asks _ bx) := Lib.hid (HXX.out.keep hk5 (a17_ne HXX.out.len (by decide) (by decide) HM.out (Ne.symm HNE.out.2.1)) hub)
      have HLAY5 := Lib.hid (HLAY.out.keep hk5 NBL.out)
      have HKW5 : Hid (Keep [] w _) := Lib.hid (HKW.out.trans' hk5 (by intro x hx; have := HNE.out; simp only [List.mem_cons, List.not_mem_nil, or_false] at hx; rcases hx with rfl | rfl | rfl <;> (right; omega)))
      have HM5 := Lib.hid hm5
      have NBL5 : Hid (bl ∉ [bb, bm, bw]) := Lib.hid (a17_ne HLAY5.out.len (by decide) (by decide) HM5.out (HLAY5.out.len.ne HBX5.out.len (by decide)))
      clear hm5 hk5 hub HLAY HM HKW NBL HBX HXX HAX HS
      go_wp2
      go_loopw [9] (fun s wq => ∃ q : Nat, q ≤ 6 ∧ s = .int .i64 q ∧ Stepping (pputIs bl 2 ⟨3, 3, 1⟩ 0) bb bm bw (P18.steps (pputNext 2 ⟨3, 3, 1⟩ 0) q (.asks, M1)) wx wq) (fun s _ => 6 - (intOf s).toNat)
      case atStart => exact ⟨0, Nat.zero_le _, rfl, HBX5.out, HM5.out, Keep.refl _ _⟩
      case round =>
        obtain ⟨q, hq, rfl, hS⟩ := hrel
        have HS := Lib.hid hS
        clear hS
        by_cases hq6 : q < 6
        · go_wp2_with fail
          refine (pput_step HS.out.here HS.out.mem (HLAY5.out.keep HS.out.kept NBL5.out)).mono ?_
          rintro e w5 ⟨d, rfl, hth⟩
          have HTH := Lib.hid hth
          clear hth
          go_wp2
          go_roundw
          case rel => exact ⟨q + 1, by omega, by go_num, HS.out.next HTH.out⟩
          case measure => simp [intOf]; omega
        · obtain rfl : q = 6 := by omega
          clear hq hq6
          obtain ⟨wx, rfl⟩ : ∃ wy : World, wy = wr := ⟨_, rfl⟩
          have hS := HS.out
          rw [E2.out] at hS
          obtain ⟨-, hm6, hk6⟩ := hS
          have hub := fun x hx => (three_big HBX5.out.len (by decide) HM5.out x hx).unbox
          have HXX6 : Hid (pgetIs bl ⟨3, 3, 1⟩ 0 .asks _ bx) := Lib.hid (HXX5.out.keep hk6 (a17_ne HXX5.out.len (by decide) (by decide) HM5.out (Ne.symm HNE.out.2.2.1)) hub)
          have HLAY6 := Lib.hid (HLAY5.out.keep hk6 NBL5.out)
          have HKW6 : Hid (Keep [] w _) := Lib.hid (HKW5.out.trans' hk6 (by intro x hx; have := HNE.out; simp only [List.mem_cons, List.not_mem_nil, or_false] at hx; rcases hx with rfl | rfl | rfl <;> (right; omega)))
          have HM6 := Lib.hid hm6
          clear hm6 hk6 hub HLAY5 HM5 HKW5 NBL5 HBX5 HXX5 HS
          have HLI := Lib.hid (idlep_list HLAY6.out HM6.out HIN.out.list (by decide))
          go_wp2_with fail
          refine HLI.out.mono ?_
          rintro e w7 ⟨vl, rfl, hvl, hk7⟩
          obtain ⟨la, lcap, rfl⟩ := hvl.form
          have HV := Lib.hid hvl
          have HLAY := Lib.hid (HLAY6.out.keep hk7 (by simp))
          have HM := Lib.hid (HM6.out.keep hk7 (by simp) (by simp))
          have HXX : Hid (pgetIs bl ⟨3, 3, 1⟩ 0 .asks _ bx) := Lib.hid (HXX6.out.keep hk7 (by simp) (by simp))
          have HKW := Lib.hid (HKW6.out.trans hk7)
          have HP := Lib.hid (mem_peek HM.out 19)
          rw [HIN.out.many.2, show P17.mask [2, 0] = 5 from by decide] at HP
          have NBL : Hid (bl ∉ [bx, bm, bw]) := Lib.hid (a17_ne HLAY.out.len (by decide) (by decide) HM.out (HLAY.out.len.ne HXX.out.len (by decide)))
          have HVB := Lib.hid (HV.out.at_)
          have NV : Hid (∀ g, (Value.slice la 2 lcap).ownBlock = some g → g ∉ [bx, bm, bw]) := Lib.hid (by
            intro g hg
            have h1 := HVB.out g hg
            have h2 := a17_lt HXX6.out.len
            have h3 := HM6.out.lt
            have h4 := HM6.out.lt'
            simp only [List.mem_cons, List.not_mem_nil, or_false, not_or]
            omega)
          clear hvl hk7 HLAY6 HM6 HXX6 HKW6 HLI
          go_wp2_with fail
          refine HP.out.mono ?_
          rintro e w8 ⟨rfl, rfl⟩
          obtain ⟨wz, hwz⟩ : ∃ wz, wz = w7 := ⟨_, rfl⟩
          subst hwz
          go_wp2
          go_loopw [14] (fun s wq => ∃ q : Nat, q ≤ 6 ∧ s = .int .i64 q ∧ Stepping (pgetIs bl ⟨3, 3, 1⟩ 0) bx bm bw (P18.steps (pgetNext ⟨3, 3, 1⟩ 0) q (.asks, M2)) wz wq) (fun s _ => 6 - (intOf s).toNat)
          case atStart => exact ⟨0, Nat.zero_le _, rfl, HXX.out, HM.out, Keep.refl _ _⟩
          case round =>
            obtain ⟨q, hq, rfl, hS⟩ := hrel
            have HS := Lib.hid hS
            clear hS
            by_cases hq6 : q < 6
            · go_wp2_with fail
              refine (pget_step HS.out.here HS.out.mem (HLAY.out.keep HS.out.kept NBL.out)).mono ?_
              rintro e w5 ⟨d, rfl, hth⟩
              have HTH := Lib.hid hth
              clear hth
              go_wp2
              go_roundw
              case rel => exact ⟨q + 1, by omega, by go_num, HS.out.next HTH.out⟩
              case measure => simp [intOf]; omega
            · obtain rfl : q = 6 := by omega
              clear hq hq6
              obtain ⟨wx, rfl⟩ : ∃ wv : World, wv = wr := ⟨_, rfl⟩
              have hS := HS.out
              rw [E3.out] at hS
              obtain ⟨hh, hm9, hk9⟩ := hS
              have HV9 := Lib.hid (HV.out.keep hk9 NV.out)
              have HKW9 : Hid (Keep [] w _) := Lib.hid (HKW.out.trans' hk9 (by intro x hx; have := HNE.out; simp only [List.mem_cons, List.not_mem_nil, or_false] at hx; rcases hx with rfl | rfl | rfl <;> (right; omega)))
              have HH := Lib.hid hh
              have HQ := Lib.hid (same_int (l := [2, 0]) (k := [2, 0]) (HV9.out.alloc2 (o := .cells #[.int .i64 2, .int .i64 0] 3)).rd (IntsRd.lit [2, 0] (by decide) (by decide)))
              rw [show decide (([2, 0] : List Int) = [2, 0]) = true from by decide] at HQ
              clear hh hm9 hk9
              go_wp2_with fail
              refine HQ.out.mono ?_
              rintro e wb ⟨rfl, hk10⟩
              have hkb : Keep [] _ wb := Keep.trans (Keep.alloc (Keep.refl _ _)) hk10
              have HKB := Lib.hid hkb
              clear hk10 hkb
              have hh2 := HH.out.keep HKB.out (by simp) (by simp)
              have HT := Lib.hid (pget_P hh2)
              have HD := Lib.hid (pget_Done hh2.state)
              rw [show PGetPh.isOver (.over ga gb 2) = true from rfl] at HD
              rw [show PGetPh.got (.over ga gb 2) = 2 from rfl] at HT
              have HKF := Lib.hid (HKW9.out.trans HKB.out)
              clear hh2
              go_wp2_with fail
              refine HD.out.mono ?_
              rintro e wc ⟨rfl, rfl⟩
              go_wp2_with fail
              refine HT.out.mono ?_
              rintro e wd ⟨rfl, rfl⟩
              go_wp2
              go_ret
              exact ⟨rfl, HKF.out⟩

end Go.Proofs.Ytophgiocmldliaa
