/- The page's example of layer 18: threads are got, one is put, one is got. -/
import Derived.Test.YtophgiocmldliaaI18
import Derived.Test.YtophgiocmldliaaSm
namespace Go.Proofs.Ytophgiocmldliaa
open Go.RowKit
namespace A18
def S (k : Nat) (M : Mem) (out : List Int) : Prop :=
  (k = 0 ∧ out = [] ∧ P18.Inv ⟨1, 2, 1⟩ M [] [] 0) ∨ (k = 1 ∧ out = [0] ∧ P18.Inv ⟨1, 2, 1⟩ M [] [0] 1) ∨ (k = 2 ∧ out = [0, 1] ∧ P18.Inv ⟨1, 2, 1⟩ M [] [0, 1] 2) ∨
  (k = 3 ∧ out = [0, 1, -1] ∧ P18.Inv ⟨1, 2, 1⟩ M [] [0, 1] 2) ∨ (k = 4 ∧ out = [0, 1, -1, 0] ∧ P18.Inv ⟨1, 2, 1⟩ M [] [1, 0] 2)
theorem begin : S 0 (Mem.of (ground ⟨1, 2, 1⟩ [])) [] := .inl ⟨rfl, rfl, P18.begin (T := 2) (by decide) (by decide)⟩
theorem get {k : Nat} {M : Mem} {out : List Int} (h : S k M out) (hk : k < 3) : ∃ M' a t, P18.steps (igetNext ⟨1, 2, 1⟩ 0) 4 (.asks, M) = (.over a t, M') ∧ S (k + 1) M' (out ++ [t]) := by
  rcases h with ⟨rfl, rfl, h⟩ | ⟨rfl, rfl, h⟩ | ⟨rfl, rfl, h⟩ | ⟨rfl, _⟩ | ⟨rfl, _⟩
  · obtain ⟨M', h1, h2⟩ := P18.get_new (who := 0) h (by decide) 0
    exact ⟨M', _, _, h1, .inr (.inl ⟨rfl, rfl, h2⟩)⟩
  · obtain ⟨M', h1, h2⟩ := P18.get_new (who := 0) h (by decide) 0
    exact ⟨M', _, _, h1, .inr (.inr (.inl ⟨rfl, rfl, h2⟩))⟩
  · obtain ⟨M', h1, h2⟩ := P18.get_none (who := 0) h (by decide) 0
    exact ⟨M', _, _, h1, .inr (.inr (.inr (.inl ⟨rfl, rfl, h2⟩)))⟩
  · omega
  · omega
theorem put {M : Mem} {out : List Int} (h : S 3 M out) : ∃ M', P18.steps (iputNext 0 ⟨1, 2, 1⟩ 0) 4 (.asks, M) = (.over, M') ∧ P18.Inv ⟨1, 2, 1⟩ M' [0] [1] 2 ∧ out = [0, 1, -1] := by
  rcases h with ⟨h, _⟩ | ⟨h, _⟩ | ⟨h, _⟩ | ⟨_, rfl, h⟩ | ⟨h, _⟩
  · omega
  · omega
  · omega
  · obtain ⟨M', h1, h2⟩ := P18.put_one (who := 0) h (List.Perm.refl _) 0
    exact ⟨M', h1, h2, rfl⟩
  · omega
theorem last {M : Mem} (h : P18.Inv ⟨1, 2, 1⟩ M [0] [1] 2) : ∃ M' a t, P18.steps (igetNext ⟨1, 2, 1⟩ 0) 4 (.asks, M) = (.over a t, M') ∧ S 4 M' ([0, 1, -1] ++ [t]) := by
  obtain ⟨M', h1, h2⟩ := P18.get_some (who := 0) h 0
  exact ⟨M', _, _, h1, .inr (.inr (.inr (.inr ⟨rfl, rfl, h2⟩)))⟩
theorem ends {M : Mem} {out : List Int} (h : S 4 M out) : out = [0, 1, -1, 0] ∧ P18.Inv ⟨1, 2, 1⟩ M [] [1, 0] 2 := by
  rcases h with ⟨h, _⟩ | ⟨h, _⟩ | ⟨h, _⟩ | ⟨h, _⟩ | ⟨_, h⟩
  · omega
  · omega
  · omega
  · omega
  · exact h
end A18
theorem few_121' : Cfg.Few ⟨1, 2, 1⟩ := ⟨by decide, by decide, by decide, by decide, by decide, by decide⟩
theorem idlem_spare_of {w : World} {bl bm bw : Nat} {M : Mem} {had : List Int} (hl : LayAt w bl ⟨1, 2, 1⟩) (hM : MemAt w bm bw M) (h : P18.Inv ⟨1, 2, 1⟩ M [] had 2) :
    Calls Try.prog 44 #[.pointer (some ⟨bl, 0, none⟩), .pointer (some ⟨bm, 0, none⟩)] w (Reads (.int .i64 0) w) := by
  have hl2 := P18.len_small h.right
  have h3 := h.len
  have e := idlem_spare hl hM 0 2 (by unfold Mem.peek; rw [if_pos ⟨by decide, by omega⟩]; exact h.count) (by unfold Mem.peek; rw [if_pos ⟨by decide, by omega⟩]; exact h.made) (by decide) (by decide) (by decide) (by decide)
  exact e

set_option maxRecDepth 100000 in
set_option maxHeartbeats 4000000 in
theorem awake18 (w : World) : Calls Try.prog 37 #[] w (Reads (.bool true) w) := by
  have HL := Lib.hid (fun w => lay_yes ⟨1, 2, 1⟩ (.slice none 0 0) [] w (.inl ⟨rfl, rfl⟩) few_121' (by decide) (by intro p hp; cases hp))
  unfold groundV at HL
  have HU := Lib.hid under_ints
  have HI := Lib.hid info_int
  go_enter Try.func37, Try.ntmps37
  go_wp2_with fail
  refine (HL.out _).mono ?_
  rintro e w1 ⟨bl, bm, bw, rm, rw', rfl, hlay, hm, -, hk, b1, b2, b3, -, -, -, -, -, -⟩
  have HLAY := Lib.hid hlay
  have HMEM := Lib.hid hm
  have HK := Lib.hid hk
  have HHI : Hid (bl < w1.heap.size ∧ bm < w1.heap.size ∧ bw < w1.heap.size) := Lib.hid ⟨hlay.lt, hm.lt, hm.lt'⟩
  have HLO0 : Hid (w.heap.size ≤ bm ∧ w.heap.size ≤ bw ∧ w.heap.size ≤ w1.heap.size) := Lib.hid ⟨b2, b3, hk.size⟩
  clear hlay hm hk b1 b2 b3
  go_wp2
  go_loopw [5, 6] (fun v i wr => ∃ k : Nat, k ≤ 4 ∧ i = .int .i64 k ∧ ∃ M out, A18.S k M out ∧ LayAt wr bl ⟨1, 2, 1⟩ ∧ MemAt wr bm bw M ∧ Ints wr w1.heap.size v out ∧ Keep [] w wr) (fun _ i _ => 4 - (intOf i).toNat)
  case atStart => exact ⟨0, Nat.zero_le _, rfl, _, _, A18.begin, HLAY.out, HMEM.out, Ints.nil (Nat.le_refl _), HK.out⟩
  case round =>
    obtain ⟨k, hk, rfl, M, out, hs, hl, hm, hv, hkw⟩ := hrel
    have HS0 := Lib.hid hs
    have HLR := Lib.hid hl
    have HMR := Lib.hid hm
    have HVR := Lib.hid hv
    have HKR := Lib.hid hkw
    obtain ⟨va, vcap, rfl⟩ := hv.form
    have hol : out.length ≤ 4 := by rcases hs with ⟨_, rfl, _⟩ | ⟨_, rfl, _⟩ | ⟨_, rfl, _⟩ | ⟨_, rfl, _⟩ | ⟨_, rfl, _⟩ <;> simp
    clear hs hl hm hv hkw
    by_cases hk3 : k < 3
    · have HGET := Lib.hid (A18.get HS0.out hk3)
      have q1 : ((k : Int) == 3) = false := by simp; omega
      have hk4 : k < 4 := by omega
      obtain ⟨wo, rfl⟩ : ∃ wo : World, wo = wr := ⟨_, rfl⟩
      go_wp2_with fail
      refine (iget_new HLR.out 0).mono ?_
      rintro e w2 ⟨bx, rfl, hbx, hbl, hB2, hk2⟩
      have HB2 := Lib.hid hB2
      have HM2 := Lib.hid (HMR.out.keep hk2 (by simp) (by simp))
      have HL2 := Lib.hid (HLR.out.keep hk2 (by simp))
      have HV2 := Lib.hid (HVR.out.keep hk2 (by simp))
      have HK2 := Lib.hid (HKR.out.trans hk2)
      have HVB0 := Lib.hid HVR.out.at_
      have hbb := HLR.out.lt
      have hsz := HKR.out.size
      have HLO : Hid (w.heap.size ≤ bx ∧ w.heap.size ≤ bm ∧ w.heap.size ≤ bw ∧ w.heap.size ≤ w1.heap.size) := Lib.hid (by have := HLO0.out; omega)
      have NBL : Hid (bl ∉ [bx, bm, bw]) := Lib.hid (by have h2 := HM2.out.ne_of_len HL2.out.len (by decide) (by decide); simp [h2.1, h2.2]; omega)
      have NV : Hid (∀ g, Value.ownBlock _ = some g → g ∉ [bx, bm, bw]) := Lib.hid (by
        intro g hg
        have h1 := HVB0.out g hg
        have h2 := HHI.out
        simp only [List.mem_cons, List.not_mem_nil, or_false, not_or]
        omega)
      clear hB2 hk2 hbb hsz
      go_wp2
      go_loopw [10] (fun s wq => ∃ q : Nat, q ≤ 4 ∧ s = .int .i64 q ∧ Stepping (igetIs bl ⟨1, 2, 1⟩ 0) bx bm bw (P18.steps (igetNext ⟨1, 2, 1⟩ 0) q (.asks, M)) w2 wq) (fun s _ => 4 - (intOf s).toNat)
      case atStart => exact ⟨0, Nat.zero_le _, rfl, HB2.out, HM2.out, Keep.refl _ _⟩
      case round =>
        obtain ⟨q, hq, rfl, hS⟩ := hrel
        have HS := Lib.hid hS
        clear hS
        by_cases hq6 : q < 4
        · go_wp2_with fail
          refine (iget_step HS.out.here HS.out.mem (HL2.out.keep HS.out.kept NBL.out)).mono ?_
          rintro e w5 ⟨d, rfl, hth⟩
          have HTH := Lib.hid hth
          clear hth
          go_wp2
          go_roundw
          case rel => exact ⟨q + 1, by omega, by go_num, HS.out.next HTH.out⟩
          case measure => simp [intOf]; omega
        · obtain rfl : q = 4 := by omega
          clear hq hq6
          obtain ⟨M', a', t, hst, hnx⟩ := HGET.out
          have hS := HS.out
          rw [hst] at hS
          obtain ⟨hh, hm5, hk5⟩ := hS
          have HT := Lib.hid (iget_T hh)
          have HM5 := Lib.hid hm5
          have HL5 := Lib.hid (HL2.out.keep hk5 NBL.out)
          have HV5 := Lib.hid (HV2.out.keep hk5 NV.out)
          have HKW : Hid (Keep [] w _) := Lib.hid (HK2.out.trans' hk5 (by intro x hx; have := HLO.out; simp only [List.mem_cons, List.not_mem_nil, or_false] at hx; rcases hx with rfl | rfl | rfl <;> (right; omega)))
          have HNX := Lib.hid hnx
          have HVB5 := Lib.hid HV5.out.at_
          clear hst hnx hh hm5 hk5
          go_wp2_with fail
          refine HT.out.mono ?_
          rintro e w5 ⟨rfl, rfl⟩
          go_wp2_with (at_builtin; refine wpList_append_int (.tmp 43) (.tmp 46) HU.out HI.out rfl rfl HV5.out (by rfl) (by rfl) (by omega) ?_)
          intro g cap w6 hrow hk6 hor
          have HM6 := Lib.hid (HM5.out.keep hk6 (by intro hm; have := HVB5.out bm (by simpa using hm); have := HHI.out; omega) (by intro hm; have := HVB5.out bw (by simpa using hm); have := HHI.out; omega))
          have HL6 := Lib.hid (HL5.out.keep hk6 (by intro hm; have := HVB5.out bl (by simpa using hm); have := HHI.out; omega))
          have HK6 := Lib.hid (HKW.out.trans' hk6 (by intro x hx; right; have := HVB5.out x (by simpa using hx); have := HLO.out; omega))
          have HV6 := Lib.hid hrow
          have hl7 : (out ++ [t]).length = out.length + 1 := by simp
          clear hrow hk6 hor
          go_wp2
          go_roundw
          case rel => exact ⟨k + 1, by omega, by go_num, _, _, HNX.out, HL6.out, HM6.out, HV6.out, HK6.out⟩
          case measure => simp [intOf]; omega
    · by_cases hk4 : k = 3
      · subst hk4
        obtain ⟨M1, hp1, hp2, hp3⟩ := A18.put HS0.out
        have HPST := Lib.hid hp1
        have HGET0 := Lib.hid (A18.last hp2)
        have HOUT := Lib.hid hp3
        clear hp1 hp2 hp3 hk3 hk
        obtain ⟨wo, rfl⟩ : ∃ wo : World, wo = wr := ⟨_, rfl⟩
        go_wp2_with fail
        refine (iput_new HLR.out 0 0 (by decide) (by decide)).mono ?_
        rintro e w2 ⟨bx, rfl, hbx, hbl, hB2, hk2⟩
        have HB2 := Lib.hid hB2
        have HM2 := Lib.hid (HMR.out.keep hk2 (by simp) (by simp))
        have HL2 := Lib.hid (HLR.out.keep hk2 (by simp))
        have HV2 := Lib.hid (HVR.out.keep hk2 (by simp))
        have HK2 := Lib.hid (HKR.out.trans hk2)
        have HVB0 := Lib.hid HVR.out.at_
        have hbb := HLR.out.lt
        have hsz := HKR.out.size
        have HLO : Hid (w.heap.size ≤ bx ∧ w.heap.size ≤ bm ∧ w.heap.size ≤ bw ∧ w.heap.size ≤ w1.heap.size) := Lib.hid (by have := HLO0.out; omega)
        have NBL : Hid (bl ∉ [bx, bm, bw]) := Lib.hid (by have h2 := HM2.out.ne_of_len HL2.out.len (by decide) (by decide); simp [h2.1, h2.2]; omega)
        have NV : Hid (∀ g, Value.ownBlock _ = some g → g ∉ [bx, bm, bw]) := Lib.hid (by
          intro g hg
          have h1 := HVB0.out g hg
          have h2 := HHI.out
          simp only [List.mem_cons, List.not_mem_nil, or_false, not_or]
          omega)
        clear hB2 hk2 hbb hsz
        go_wp2
        go_loopw [8] (fun s wq => ∃ q : Nat, q ≤ 4 ∧ s = .int .i64 q ∧ Stepping (iputIs bl 0 ⟨1, 2, 1⟩ 0) bx bm bw (P18.steps (iputNext 0 ⟨1, 2, 1⟩ 0) q (.asks, M)) w2 wq) (fun s _ => 4 - (intOf s).toNat)
        case atStart => exact ⟨0, Nat.zero_le _, rfl, HB2.out, HM2.out, Keep.refl _ _⟩
        case round =>
          obtain ⟨q, hq, rfl, hS⟩ := hrel
          have HS := Lib.hid hS
          clear hS
          by_cases hq6 : q < 4
          · go_wp2_with fail
            refine (iput_step HS.out.here HS.out.mem (HL2.out.keep HS.out.kept NBL.out)).mono ?_
            rintro e w5 ⟨d, rfl, hth⟩
            have HTH := Lib.hid hth
            clear hth
            go_wp2
            go_roundw
            case rel => exact ⟨q + 1, by omega, by go_num, HS.out.next HTH.out⟩
            case measure => simp [intOf]; omega
          · obtain rfl : q = 4 := by omega
            clear hq hq6
            have hS := HS.out
            rw [HPST.out] at hS
            obtain ⟨hh, hm5, hk5⟩ := hS
            have HM3 := Lib.hid hm5
            have HL3 := Lib.hid (HL2.out.keep hk5 NBL.out)
            have HV3 := Lib.hid (HV2.out.keep hk5 NV.out)
            have HK3 : Hid (Keep [] w _) := Lib.hid (HK2.out.trans' hk5 (by intro x hx; have := HLO.out; simp only [List.mem_cons, List.not_mem_nil, or_false] at hx; rcases hx with rfl | rfl | rfl <;> (right; omega)))
            have HGET : Hid (∃ M' a t, P18.steps (igetNext ⟨1, 2, 1⟩ 0) 4 (.asks, M1) = (.over a t, M') ∧ A18.S (3 + 1) M' (out ++ [t])) := Lib.hid (by rw [HOUT.out]; exact HGET0.out)
            clear hh hm5 hk5 HB2 HM2 HL2 HV2 HK2 HVB0 HLO NBL NV HS HPST
            obtain ⟨wp, rfl⟩ : ∃ wp : World, wp = wr := ⟨_, rfl⟩
            go_wp2_with fail
            refine (iget_new HL3.out 0).mono ?_
            rintro e w2 ⟨bx, rfl, hbx, hbl, hB2, hk2⟩
            have HB2 := Lib.hid hB2
            have HM2 := Lib.hid (HM3.out.keep hk2 (by simp) (by simp))
            have HL2 := Lib.hid (HL3.out.keep hk2 (by simp))
            have HV2 := Lib.hid (HV3.out.keep hk2 (by simp))
            have HK2 := Lib.hid (HK3.out.trans hk2)
            have HVB0 := Lib.hid HV3.out.at_
            have hbb := HL3.out.lt
            have hsz := HK3.out.size
            have HLO : Hid (w.heap.size ≤ bx ∧ w.heap.size ≤ bm ∧ w.heap.size ≤ bw ∧ w.heap.size ≤ w1.heap.size) := Lib.hid (by have := HLO0.out; omega)
            have NBL : Hid (bl ∉ [bx, bm, bw]) := Lib.hid (by have h2 := HM2.out.ne_of_len HL2.out.len (by decide) (by decide); simp [h2.1, h2.2]; omega)
            have NV : Hid (∀ g, Value.ownBlock _ = some g → g ∉ [bx, bm, bw]) := Lib.hid (by
              intro g hg
              have h1 := HVB0.out g hg
              have h2 := HHI.out
              simp only [List.mem_cons, List.not_mem_nil, or_false, not_or]
              omega)
            clear hB2 hk2 hbb hsz
            go_wp2
            go_loopw [10] (fun s wq => ∃ q : Nat, q ≤ 4 ∧ s = .int .i64 q ∧ Stepping (igetIs bl ⟨1, 2, 1⟩ 0) bx bm bw (P18.steps (igetNext ⟨1, 2, 1⟩ 0) q (.asks, M1)) w2 wq) (fun s _ => 4 - (intOf s).toNat)
            case atStart => exact ⟨0, Nat.zero_le _, rfl, HB2.out, HM2.out, Keep.refl _ _⟩
            case round =>
              obtain ⟨q, hq, rfl, hS⟩ := hrel
              have HS := Lib.hid hS
              clear hS
              by_cases hq6 : q < 4
              · go_wp2_with fail
                refine (iget_step HS.out.here HS.out.mem (HL2.out.keep HS.out.kept NBL.out)).mono ?_
                rintro e w5 ⟨d, rfl, hth⟩
                have HTH := Lib.hid hth
                clear hth
                go_wp2
                go_roundw
                case rel => exact ⟨q + 1, by omega, by go_num, HS.out.next HTH.out⟩
                case measure => simp [intOf]; omega
              · obtain rfl : q = 4 := by omega
                clear hq hq6
                obtain ⟨M', a', t, hst, hnx⟩ := HGET.out
                have hS := HS.out
                rw [hst] at hS
                obtain ⟨hh, hm5, hk5⟩ := hS
                have HT := Lib.hid (iget_T hh)
                have HM5 := Lib.hid hm5
                have HL5 := Lib.hid (HL2.out.keep hk5 NBL.out)
                have HV5 := Lib.hid (HV2.out.keep hk5 NV.out)
                have HKW : Hid (Keep [] w _) := Lib.hid (HK2.out.trans' hk5 (by intro x hx; have := HLO.out; simp only [List.mem_cons, List.not_mem_nil, or_false] at hx; rcases hx with rfl | rfl | rfl <;> (right; omega)))
                have HNX := Lib.hid hnx
                have HVB5 := Lib.hid HV5.out.at_
                clear hst hnx hh hm5 hk5
                go_wp2_with fail
                refine HT.out.mono ?_
                rintro e w5 ⟨rfl, rfl⟩
                go_wp2_with (at_builtin; refine wpList_append_int (.tmp 43) (.tmp 46) HU.out HI.out rfl rfl HV5.out (by rfl) (by rfl) (by omega) ?_)
                intro g cap w6 hrow hk6 hor
                have HM6 := Lib.hid (HM5.out.keep hk6 (by intro hm; have := HVB5.out bm (by simpa using hm); have := HHI.out; omega) (by intro hm; have := HVB5.out bw (by simpa using hm); have := HHI.out; omega))
                have HL6 := Lib.hid (HL5.out.keep hk6 (by intro hm; have := HVB5.out bl (by simpa using hm); have := HHI.out; omega))
                have HK6 := Lib.hid (HKW.out.trans' hk6 (by intro x hx; right; have := HVB5.out x (by simpa using hx); have := HLO.out; omega))
                have HV6 := Lib.hid hrow
                have hl7 : (out ++ [t]).length = out.length + 1 := by simp
                clear hrow hk6 hor
                go_wp2
                go_roundw
                case rel => exact ⟨4, by omega, by go_num, _, _, HNX.out, HL6.out, HM6.out, HV6.out, HK6.out⟩
                case measure => simp [intOf]
      · obtain rfl : k = 4 := by omega
        obtain ⟨hout, hinv⟩ := A18.ends HS0.out
        subst hout
        have HSP := Lib.hid (fun (w' : World) (k' : Keep [] wr w') => idlem_spare_of (HLR.out.keep k' (by simp)) (HMR.out.keep k' (by simp) (by simp)) hinv)
        have HQ := Lib.hid (same_int (l := [0, 1, -1, 0]) (k := [0, 1, -1, 0]) (HVR.out.alloc2 (o := .cells #[.int .i64 0, .int .i64 1, .int .i64 (-1), .int .i64 0] 3)).rd (IntsRd.lit [0, 1, -1, 0] (by decide) (by decide)))
        rw [show decide (([0, 1, -1, 0] : List Int) = [0, 1, -1, 0]) = true from by decide] at HQ
        clear hinv hk3 hk4 hk
        go_wp2_with fail
        refine HQ.out.mono ?_
        rintro e w8 ⟨rfl, hk8⟩
        have hk9 : Keep [] wr w8 := Keep.trans (Keep.alloc (Keep.refl _ _)) hk8
        have HK9 := Lib.hid hk9
        clear hk8 hk9
        go_wp2_with fail
        refine (HSP.out _ HK9.out).mono ?_
        rintro e w9 ⟨rfl, hk10⟩
        have HK10 := Lib.hid ((HKR.out.trans HK9.out).trans hk10)
        clear hk10
        go_wp2
        go_ret
        exact ⟨rfl, HK10.out⟩

end Go.Proofs.Ytophgiocmldliaa
