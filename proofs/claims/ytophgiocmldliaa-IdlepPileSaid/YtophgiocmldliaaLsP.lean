/- Package idlep: the processors on the list. -/
import Derived.Test.YtophgiocmldliaaLs
namespace Go.Proofs.Ytophgiocmldliaa
open Go.RowKit Go.Maps
theorem idlep_list_under : Try.prog.underlying 178 = some (.map 3 3) := by kernel_rfl

set_option maxRecDepth 100000 in
set_option maxHeartbeats 2000000 in
theorem idlep_list {w : World} {bl bm bw f0 : Nat} {c : Cfg} {M : Mem} {F : List Int × Bool} (hl : LayAt w bl c) (hM : MemAt w bm bw M) (hF : chase M (fun x => c.proc x 7) f0 (M.peek 9) [] = some F) (hlen : F.1.length < 100000) :
    Calls Try.prog 53 #[.pointer (some ⟨bl, 0, none⟩), .pointer (some ⟨bm, 0, none⟩)] w (Listed F w) := by
  have HL := Lib.hid hl
  have HM := Lib.hid hM
  have hw0 := hl.lt
  have hm0 := hM.lt
  have hb0 := hM.lt'
  have HR := Lib.hid hM.range
  have hp := load_range hM.range 0 9
  have hpk : (M.load 0 9).1 = M.peek 9 := by unfold Mem.load Mem.peek; split <;> rfl
  rw [hpk] at hp
  have HP := Lib.hid (mem_peek hM 9)
  have hmm := @run_makeMap Try.prog
  have HU := Lib.hid under_ints'
  have HI := Lib.hid info_int'
  obtain ⟨w1, hw1⟩ : ∃ w1, M.peek 9 = w1 := ⟨_, rfl⟩
  rw [hw1] at hF hp HP
  have HW1 := Lib.hid hw1
  have HLD : Hid (∃ f, chase M (fun x => c.proc x 7) f w1 [] = some F) := Lib.hid ⟨_, hF⟩
  clear hl hM hF hpk hw1
  go_enter Try.func53, Try.ntmps53
  go_wp2_with fail
  refine (lay_word (c := c) (HL.out.keep (Keep.alloc (Keep.refl [] w)) (by simp)) 9 (by decide) (by decide)).mono ?_
  rintro e w2 ⟨rfl, rfl⟩
  go_wp2_with fail
  refine (mem_peek (HM.out.keep (Keep.alloc (Keep.refl [] w)) (by simp) (by simp)) 9).mono ?_
  rintro e w2 ⟨rfl, rfl⟩
  go_wp2
  go_loopw [6, 8] (fun v wv wr => ∃ (x : Int) (out : List Int), wv = .int .u64 x ∧ (0 ≤ x ∧ x < 18446744073709551616) ∧ Ints wr (w.heap.size + 1) v out ∧ wr.ownsMap Try.prog 3 (plainElem (H := Unit) Try.prog 3) w.heap.size out.length (seenD out) ∧ Keep [] w wr ∧ ∃ f, chase M (fun x => c.proc x 7) f x out = some F)
    (fun v _ _ => F.1.length + 1 - (match v with | .slice _ k _ => k | _ => 0))
  case atStart => exact ⟨w1, [], by rw [HW1.out], hp, Ints.nil (by simp), World.ownsMap_made _ _ _ _, Keep.alloc (Keep.refl _ _), HLD.out⟩
  case round =>
    obtain ⟨x, out, rfl, ⟨x0, x1⟩, hv, hown, hk, hch⟩ := hrel
    have HCH := Lib.hid hch
    have HV := Lib.hid hv
    have HOWN := Lib.hid hown
    have HK := Lib.hid hk
    have hlen2 : out.length ≤ F.1.length := by obtain ⟨f, h⟩ := hch; exact chase_len h
    obtain ⟨va, vcap, rfl⟩ := hv.form
    have hlr := HL.out.keep hk (by simp)
    have hmr := HM.out.keep hk (by simp) (by simp)
    have HLR := Lib.hid hlr
    have HMR := Lib.hid hmr
    have hws := hk.size
    have hol := HOWN.out.lt
    clear hch hv hown hk hlr hmr HLD hp hmm
    by_cases hx : x = 0
    · have hxz : (x != 0) = false := by simp [hx]
      have HF := Lib.hid (chase_end HCH.out hx)
      clear hx
      go_wp2
      go_ret2
      rw [HF.out]
      exact ⟨_, rfl, HV.out.base (by omega), HK.out⟩
    · have hxz : (x != 0) = true := by simpa using hx
      have hw2 := wrap64_less1 x0 x1
      have hlt := less1_range x0 x1
      have HX := Lib.hid hx
      obtain ⟨t, ht⟩ : ∃ t, less1 x = t := ⟨_, rfl⟩
      rw [ht] at hw2 hlt
      have HT := Lib.hid ht
      have t0 := hlt.1
      have t1 := hlt.2
      clear hx ht hlt
      go_wp2_with fail
      refine (lay_proc HLR.out t 7 (by decide) (by decide)).mono ?_
      rintro e w3 ⟨rfl, hk3⟩
      have HM3 := Lib.hid (HMR.out.keep hk3 (by simp) (by simp))
      have HV3 := Lib.hid (HV.out.keep hk3 (by simp))
      have HOWN3 := Lib.hid (ownsMap_keep HOWN.out hk3 (by simp))
      have HK3 := Lib.hid (HK.out.trans hk3)
      have hws3 := hk3.size
      obtain ⟨ad, had⟩ : ∃ ad, c.proc t 7 = ad := ⟨_, rfl⟩
      have HAD := Lib.hid had
      rw [had]
      clear hk3 had
      go_wp2_with fail
      refine (mem_peek HM3.out ad).mono ?_
      rintro e w4 ⟨rfl, rfl⟩
      have hkey : keyOf Try.prog 3 (.int .i64 t) = some (.int .i64 t) := keyOf_int_mk Try.underlying3 (wf_i64 t0 t1)
      have hsee := seenD_at out t
      by_cases hat : M.isAt ad
      · have q1 : decide (M.isAt ad) = true := by simpa using hat
        have hpg : M.peek ad = M.get ad := by unfold Mem.peek; rw [if_pos hat]
        rw [q1, hpg]
        have hgr := get_range (a := ad) HR.out
        have HGR := Lib.hid hgr
        obtain ⟨y, hy⟩ : ∃ y, M.get ad = y := ⟨_, rfl⟩
        have HY := Lib.hid hy
        rw [hy]
        clear q1 hpg hgr hy
        by_cases hin : t ∈ out
        · have HF := Lib.hid (chase_bad HCH.out HX.out (by rw [HT.out]; exact fun h => h.2 hin))
          rw [if_pos hin] at hsee
          clear hin hat
          go_wp2_with (at_lookup; refine wpList_lookup_g _ (by rfl) _ _ 178 rfl 3 3 keyed_int idlep_list_under Try.underlying3 (zero_int _) w.heap.size out.length _ rfl HOWN3.out _ _ rfl hkey 1 hsee ?_)
          go_wp2
          go_ret2
          rw [HF.out]
          exact ⟨_, rfl, HV3.out.base (by omega), HK3.out⟩
        · have HN := Lib.hid (chase_next HCH.out HX.out (by rw [HT.out, HAD.out]; exact ⟨hat, hin⟩))
          rw [if_neg hin] at hsee
          clear hin hat
          go_wp2_with (first | (at_lookup; refine wpList_lookup_g _ (by rfl) _ _ 178 rfl 3 3 keyed_int idlep_list_under Try.underlying3 (zero_int _) w.heap.size out.length _ rfl HOWN3.out _ _ rfl hkey 0 hsee ?_) | (at_mapUpdate; refine wpList_mapUpdate_own _ rfl _ _ _ 178 rfl 3 3 keyed_int idlep_list_under _ w.heap.size out.length _ rfl HOWN3.out (by unfold maxLen; omega) _ _ _ rfl rfl hkey _ [] (plainElem_int Try.underlying3 (by decide)) ?_; intro w5 hown5 hgr5; rw [← seenD_snoc] at hown5; have hk5 : Keep [w.heap.size] _ w5 := grown_keep hgr5 (by intro b hb; left; cases hb; simp); have HV5 := Lib.hid (HV3.out.keep hk5 (by intro g hg; have := HV3.out.at_ g hg; simp; omega)); have HVB5 := Lib.hid HV5.out.at_; have HOWN5 := Lib.hid hown5; have HK5 := Lib.hid (HK3.out.trans' hk5 (by simp)); clear hown5 hgr5 hk5 hsee hkey) | (at_builtin; refine wpList_append_int (.tmp 47) (.tmp 49) HU.out HI.out rfl rfl HV5.out (by rfl) (by rfl) (by omega) ?_))
          intro g cap w6 hrow hk6 hor
          have HOWN6 := Lib.hid (ownsMap_keep HOWN5.out hk6 (by intro hm; have := HVB5.out w.heap.size (by simpa using hm); omega))
          have HK6 := Lib.hid (HK5.out.trans' hk6 (by intro b hb; have := HVB5.out b (by simpa using hb); omega))
          have HV6 := Lib.hid hrow
          have hl6 : (out ++ [t]).length = out.length + 1 := by simp
          have HCN : Hid (∃ f, chase M (fun x => c.proc x 7) f y (out ++ [t]) = some F) := Lib.hid (by have h := HN.out; rw [HT.out, HAD.out, HY.out] at h; exact h)
          have hl7 : out.length + 1 ≤ F.1.length := by obtain ⟨f, h⟩ := HCN.out; have := chase_len h; rw [hl6] at this; exact this
          clear hrow hk6 hor
          go_wp2
          go_roundw
          case rel => exact ⟨y, out ++ [t], rfl, HGR.out.imp (fun h => HY.out ▸ h) (fun h => HY.out ▸ h), HV6.out, by rw [hl6]; exact HOWN6.out, HK6.out, HCN.out⟩
          case measure => simp only; omega
      · have q1 : decide (M.isAt ad) = false := by simpa using hat
        have HF := Lib.hid (chase_bad HCH.out HX.out (by rw [HT.out, HAD.out]; exact fun h => hat h.1))
        rw [q1]
        clear q1 hat hsee hkey
        go_wp2
        go_ret2
        rw [HF.out]
        exact ⟨_, rfl, HV3.out.base (by omega), HK3.out⟩

end Go.Proofs.Ytophgiocmldliaa
