/- The walk of IdlepPile: processors are put and got, round after round. -/
import Derived.Deep.QuietTactic
import Derived.Test.YtophgiocmldliaaH17
import Derived.Test.YtophgiocmldliaaI18
import Derived.Test.YtophgiocmldliaaLsP
namespace Go.Proofs.Ytophgiocmldliaa
open Go.RowKit
structure R17 (P bl bm bw B : Nat) (w wr : World) (v : Value) (pile : List Int) (M : Mem) : Prop where
  inv : P17.Inv ⟨P, P, 1⟩ M pile.reverse
  lay : LayAt wr bl ⟨P, P, 1⟩
  mem : MemAt wr bm bw M
  ints : Ints wr B v pile
  kept : Keep [] w wr
  lo : w.heap.size ≤ bm ∧ w.heap.size ≤ bw ∧ w.heap.size ≤ B
  hi : bl < B ∧ bm < B ∧ bw < B
theorem R17.keep {P bl bm bw B : Nat} {w wr w' : World} {v : Value} {pile : List Int} {M : Mem} (h : R17 P bl bm bw B w wr v pile M) (k : Keep [] wr w') : R17 P bl bm bw B w w' v pile M :=
  ⟨h.inv, h.lay.keep k (by simp), h.mem.keep k (by simp) (by simp), h.ints.keep k (by simp), h.kept.trans k, h.lo, h.hi⟩
theorem R17.four {P bl bm bw B : Nat} {w wr : World} {v : Value} {pile : List Int} {M : Mem} (h : R17 P bl bm bw B w wr v pile M) : ∀ q ∈ pile, 0 ≤ q ∧ q < 4 := fun q hq => h.inv.four q (by simpa using hq)
theorem R17.nodup {P bl bm bw B : Nat} {w wr : World} {v : Value} {pile : List Int} {M : Mem} (h : R17 P bl bm bw B w wr v pile M) : pile.Nodup := (List.reverse_perm pile).nodup_iff.1 h.inv.unlike
theorem R17.few {P bl bm bw B : Nat} {w wr : World} {v : Value} {pile : List Int} {M : Mem} (h : R17 P bl bm bw B w wr v pile M) : pile.length ≤ 4 := P17.nodup_len _ h.nodup h.four
theorem R17.many {P bl bm bw B : Nat} {w wr : World} {v : Value} {pile : List Int} {M : Mem} (h : R17 P bl bm bw B w wr v pile M) : M.peek 10 = pile.length ∧ M.peek 19 = P17.mask pile.reverse := by
  have := h.inv.many
  simpa using this
theorem rev_get {l : List Int} {n q : Nat} (hn : l.length = n) (hq : q < n) : l.reverse.getD (n - 1 - q) 0 = l.getD q 0 := by
  subst hn
  rw [List.getD_eq_getElem?_getD, List.getD_eq_getElem?_getD, List.getElem?_reverse (by omega)]
  congr 2
  omega
theorem mask_take {l : List Int} {q : Nat} (hq : q < l.length) : P17.mask (l.take (q + 1)) = P17.mask (l.take q) + bitI (l.getD q 0) := by
  rw [List.take_add_one, P17.mask_append, List.getElem?_eq_getElem hq, List.getD_eq_getElem?_getD, List.getElem?_eq_getElem hq]
  simp [P17.mask]
theorem getD_mem {l : List Int} {q : Nat} (hq : q < l.length) : l.getD q 0 ∈ l := by
  rw [List.getD_eq_getElem?_getD, List.getElem?_eq_getElem hq]
  exact List.getElem_mem hq
theorem pop_facts {l : List Int} {m : Nat} (h : l.length = m + 1) : l.reverse.headD (-1) = l.getD m 0 ∧ l.reverse.tail = (l.take m).reverse := by
  obtain ⟨r, y, rfl⟩ : ∃ r y, l = r ++ [y] := ⟨l.dropLast, l.getLast (by intro e; simp [e] at h), (List.dropLast_concat_getLast _).symm⟩
  obtain rfl : r.length = m := by simpa using h
  simp [List.getD_eq_getElem?_getD]
theorem take_mem {l : List Int} {q : Nat} (hq : q < l.length) (p : Int) : (p ∈ l.take (q + 1)) ↔ (p ∈ l.take q ∨ l.getD q 0 = p) := by
  rw [List.take_add_one, List.mem_append, List.getElem?_eq_getElem hq, List.getD_eq_getElem?_getD, List.getElem?_eq_getElem hq]
  simp
  constructor <;> (rintro (h | h) <;> simp [h])

set_option maxRecDepth 100000 in
set_option maxHeartbeats 4000000 in
theorem idlep_main (P : Nat) (v : Value) (zs : List Int) (w : World) (n0 : 1 ≤ P) (n1 : P ≤ 4) (hz : Bys w v zs) (hzl : zs.length ≤ 100)
    (haw : ∀ w, Calls Try.prog 46 #[] w (Reads (.bool true) w)) : Calls Try.prog 6 #[.int .i64 P, v] w (Reads (.bool true) w) := by
  obtain ⟨a, cap, rfl⟩ := hz.form
  have HZ := Lib.hid hz
  have HAW := Lib.hid haw
  have HU := Lib.hid under_ints
  have HI := Lib.hid info_int
  clear hz haw
  go_enter Try.func6, Try.ntmps6
  go_wp2_with fail
  refine (lay_yes ⟨P, P, 1⟩ (.slice none 0 0) [] _ (.inl ⟨rfl, rfl⟩) ⟨by simp <;> omega, by simp <;> omega, by simp <;> omega, by simp <;> omega, by simp, by simp⟩ (by simp) (by intro p hp; cases hp)).mono ?_
  rintro e w1 ⟨bl, bm, bw, rm, rw', rfl, hlay, hm, -, hk, b1, b2, b3, -, -, -, -, -, -⟩
  have HST : Hid (R17 P bl bm bw w1.heap.size w w1 (.slice none 0 0) [] (Mem.of (ground ⟨P, P, 1⟩ []))) := Lib.hid (by
    refine ⟨P17.begin n0 n1, hlay, hm, Ints.nil (Nat.le_refl _), hk, ⟨b2, b3, hk.size⟩, hlay.lt, hm.lt, hm.lt'⟩)
  clear hlay hm hk b1 b2 b3
  go_wp2
  go_loopw [9, 10] (fun v i wr => ∃ k : Nat, k ≤ zs.length ∧ i = .int .i64 k ∧ ∃ pile M, R17 P bl bm bw w1.heap.size w wr v pile M)
    (fun _ i _ => zs.length - (intOf i).toNat)
  case atStart => exact ⟨0, Nat.zero_le _, rfl, _, _, HST.out⟩
  case round =>
    obtain ⟨k, hk, rfl, pile, M, hrel⟩ := hrel
    have HR := Lib.hid hrel
    obtain ⟨ha, hcap, rfl⟩ := hrel.ints.form
    have hfew := hrel.few
    clear hrel HST
    by_cases hlt : k < zs.length
    · obtain ⟨zb, zo, zc, hzv, zlt, czw, z0, z1⟩ := HZ.out.at_ hlt
      obtain ⟨z, hzz⟩ : ∃ z, zs.getD k 0 = z := ⟨_, rfl⟩
      rw [hzz] at czw z0 z1
      have cz := HR.out.kept.cell czw zlt (by simp)
      have CZW := Lib.hid czw
      clear hzz czw
      simp only [Value.slice.injEq] at hzv
      obtain ⟨rfl, -, rfl⟩ := hzv
      obtain ⟨p, hp⟩ : ∃ p : Int, (z / 2) % (P : Int) = p := ⟨_, rfl⟩
      have p0 : 0 ≤ p := by have := Int.emod_nonneg (z / 2) (show (P : Int) ≠ 0 by omega); omega
      have p1 : p < P := by have := Int.emod_lt_of_pos (z / 2) (show (0 : Int) < P by omega); omega
      go_wp2
      go_loop [12, 13] (fun l i => ∃ q : Nat, q ≤ pile.length ∧ i = .int .i64 q ∧ l = .bool (decide (p ∈ pile.take q))) (fun _ i => pile.length - (intOf i).toNat)
      case atStart => exact ⟨0, Nat.zero_le _, rfl, by simp⟩
      case round =>
        obtain ⟨q, hq, rfl, rfl⟩ := hrel
        by_cases hql : q < pile.length
        · obtain ⟨g, gcap, hgv, cg, hgc, hgl, hgm, hgB, hgs⟩ := HR.out.ints.read hql
          simp only [Value.slice.injEq] at hgv
          obtain ⟨rfl, -, rfl⟩ := hgv
          have htm := take_mem hql p
          obtain ⟨y, hy⟩ : ∃ y, pile.getD q 0 = y := ⟨_, rfl⟩
          rw [hy] at cg htm
          have HTM := Lib.hid htm
          clear hy htm hgs hgB
          by_cases hin : p ∈ pile.take q
          · rw [show decide (p ∈ pile.take q) = true from by simpa using hin]
            have HIN : Hid (decide (p ∈ pile.take (q + 1)) = true) := Lib.hid (by simpa using HTM.out.2 (.inl hin))
            clear hin
            go_wp2
            go_round
            case rel => exact ⟨q + 1, by omega, by go_num, by rw [HIN.out]⟩
            case measure => simp [intOf]; omega
          · rw [show decide (p ∈ pile.take q) = false from by simpa using hin]
            have HIN : Hid (decide (p ∈ pile.take (q + 1)) = (y == p)) := Lib.hid (by
              by_cases e : y = p
              · simp [e, HTM.out.2 (.inr e)]
              · have : ¬ p ∈ pile.take (q + 1) := fun h => (HTM.out.1 h).elim hin e
                simp [e, this])
            clear hin
            go_wp2
            go_round
            case rel => exact ⟨q + 1, by omega, by go_num, by rw [HIN.out]⟩
            case measure => simp [intOf]; omega
        · obtain rfl : q = pile.length := by omega
          rw [List.take_length]
          clear hq hql
          by_cases hodd : z % 2 = 1
          · have q1 : (z % 2 == 1) = true := by simp [hodd]
            have q2 : (z % 2 == 0) = false := by simp [hodd]
            clear hodd
            obtain ⟨lies, hlies⟩ : ∃ lies, decide (p ∈ pile) = lies := ⟨_, rfl⟩
            rw [hlies]
            clear hlies
            go_wp2_with fail
            refine (pget_new HR.out.lay 0).mono ?_
            rintro e w2 ⟨bx, rfl, hbx, hbl, hB2, hk2⟩
            have HB2 := Lib.hid hB2
            have HM2 := Lib.hid (HR.out.mem.keep hk2 (by simp) (by simp))
            have HL2 := Lib.hid (HR.out.lay.keep hk2 (by simp))
            have HV2 := Lib.hid (HR.out.ints.keep hk2 (by simp))
            have HK2 := Lib.hid hk2
            have NBL : Hid (bl ∉ [bx, bm, bw]) := Lib.hid (by have h1 := HR.out.lay.lt; have h2 := HM2.out.ne_of_len HL2.out.len (by decide) (by decide); simp [h2.1, h2.2]; omega)
            have NV : Hid (∀ g, (Value.slice ha pile.length hcap).ownBlock = some g → g ∉ [bx, bm, bw]) := Lib.hid (by
              intro g hg
              have h1 := HR.out.ints.at_ g hg
              have h2 := HR.out.hi
              simp only [List.mem_cons, List.not_mem_nil, or_false, not_or]
              omega)
            clear hB2 hk2
            go_wp2
            go_loopw [17] (fun s wq => ∃ q : Nat, q ≤ 8 ∧ s = .int .i64 q ∧ Stepping (pgetIs bl ⟨P, P, 1⟩ 0) bx bm bw (P18.steps (pgetNext ⟨P, P, 1⟩ 0) q (.asks, M)) w2 wq) (fun s _ => 8 - (intOf s).toNat)
            case atStart => exact ⟨0, Nat.zero_le _, rfl, HB2.out, HM2.out, Keep.refl _ _⟩
            case round =>
              obtain ⟨q, hq, rfl, hS⟩ := hrel
              have HS := Lib.hid hS
              clear hS
              by_cases hq6 : q < 8
              · go_wp2_with fail
                refine (pget_step HS.out.here HS.out.mem (HL2.out.keep HS.out.kept NBL.out)).mono ?_
                rintro e w5 ⟨d, rfl, hth⟩
                have HTH := Lib.hid hth
                clear hth
                go_wp2
                go_roundw
                case rel => exact ⟨q + 1, by omega, by go_num, HS.out.next HTH.out⟩
                case measure => simp [intOf]; omega
              · obtain rfl : q = 8 := by omega
                clear hq hq6
                obtain ⟨wx, rfl⟩ : ∃ wx : World, wx = wr := ⟨_, rfl⟩
                obtain ⟨M', ga, gb, hst, hinv⟩ := P17.get_any (who := 0) HR.out.inv 2
                have hS := HS.out
                rw [show (8 : Nat) = 2 + 6 from rfl, hst] at hS
                obtain ⟨hh, hm5, hk5⟩ := hS
                have HT := Lib.hid (pget_P hh)
                have HD := Lib.hid (pget_Done hh.state)
                rw [show PGetPh.isOver (.over ga gb (pile.reverse.headD (-1))) = true from rfl] at HD
                rw [show PGetPh.got (.over ga gb (pile.reverse.headD (-1))) = pile.reverse.headD (-1) from rfl] at HT
                have HM5 := Lib.hid hm5
                have HL5 := Lib.hid (HL2.out.keep hk5 NBL.out)
                have HV5 := Lib.hid (HV2.out.keep hk5 NV.out)
                have HKW := Lib.hid ((HK2.out.mono (S' := [bx, bm, bw]) (by simp)).trans hk5)
                have HKA : Hid (Keep [] w _) := Lib.hid (HR.out.kept.trans' HKW.out (by intro x hx; simp only [List.mem_cons, List.not_mem_nil, or_false] at hx; have := HR.out.lo; have := HR.out.kept.size; rcases hx with rfl | rfl | rfl <;> (right; omega)))
                have HIN := Lib.hid hinv
                clear hst hinv hh hm5 hk5 cz hp
                by_cases hne : pile.length = 0
                · obtain rfl : pile = [] := List.length_eq_zero_iff.1 hne
                  have HR2 : Hid (R17 P bl bm bw w1.heap.size w _ (.slice ha ([] : List Int).length hcap) [] M') := Lib.hid ⟨HIN.out, HL5.out, HM5.out, HV5.out, HKA.out, HR.out.lo, HR.out.hi⟩
                  simp only [List.reverse_nil, List.headD_nil, List.length_nil] at HT HR2 hfew ⊢
                  clear hne
                  go_wp2_with fail
                  refine HD.out.mono ?_
                  rintro e w5 ⟨rfl, rfl⟩
                  go_wp2_with fail
                  refine HT.out.mono ?_
                  rintro e w5 ⟨rfl, rfl⟩
                  have HF := Lib.hid HR2.out.four
                  have HL4 := Lib.hid HR2.out.few
                  have HUN := Lib.hid HR2.out.nodup
                  have HLI := Lib.hid (idlep_list HR2.out.lay HR2.out.mem HR2.out.inv.list (by have := HR2.out.few; rw [List.length_reverse]; omega))
                  have HMY := Lib.hid HR2.out.many
                  have hlen4 : 0 ≤ 4 := by decide
                  go_wp2_with fail
                  refine HLI.out.mono ?_
                  rintro e w7 ⟨vl, rfl, hvl, hk7⟩
                  obtain ⟨la, lcap, rfl⟩ := hvl.form
                  have HVL := Lib.hid hvl
                  have HR3 := Lib.hid (HR2.out.keep hk7)
                  have HP1 := Lib.hid (mem_peek HR3.out.mem 10)
                  have HP2 := Lib.hid (mem_peek HR3.out.mem 19)
                  rw [HMY.out.1] at HP1
                  rw [HMY.out.2, P17.mask_rev] at HP2
                  have hll : ((([] : List Int)).reverse).length = 0 := by simp
                  simp only [hll] at HVL ⊢
                  have hll2 : (([] : List Int)).length = 0 := by simp
                  have HLL := Lib.hid hll
                  have HL2 : Hid ((([] : List Int)).length ≤ 0 ∧ 0 ≤ (([] : List Int)).length) := Lib.hid (by omega)
                  clear hvl hk7 hll hll2
                  go_wp2_with fail
                  refine HP1.out.mono ?_
                  rintro e w8 ⟨rfl, rfl⟩
                  go_wp2_with fail
                  refine HP2.out.mono ?_
                  rintro e w8 ⟨rfl, rfl⟩
                  go_wp2
                  go_loopw [26, 27] (fun bs i wq => ∃ q : Nat, q ≤ 0 ∧ i = .int .i64 q ∧ bs = .int .u64 (P17.mask ((([] : List Int)).take q)) ∧ R17 P bl bm bw w1.heap.size w wq (.slice ha 0 hcap) (([] : List Int)) M' ∧ ∃ B2, Ints wq B2 (.slice la 0 lcap) (([] : List Int)).reverse) (fun _ i _ => 0 - (intOf i).toNat)
                  case atStart => exact ⟨0, Nat.zero_le _, rfl, rfl, HR3.out, _, HVL.out⟩
                  case round =>
                    obtain ⟨q, hq, rfl, rfl, hr3, B2, hvl⟩ := hrel
                    clear HR3 HVL
                    have HR3 := Lib.hid hr3
                    have HVL := Lib.hid hvl
                    clear hr3 hvl
                    by_cases hql : q < 0
                    · exact absurd hql (by omega)
                    · obtain rfl : 0 = q := by omega
                      have HLQ := HL2.out
                      have hmr := P17.mask_range (l := ([] : List Int)) HF.out HUN.out
                      rw [show (([] : List Int)).take (0) = ([] : List Int) from by exact List.take_of_length_le (by have := HL2.out; omega)]
                      obtain ⟨mq, hmq⟩ : ∃ mq, P17.mask (([] : List Int)) = mq := ⟨_, rfl⟩
                      rw [hmq] at hmr ⊢
                      have e5 : (mq != mq) = false := by simp
                      have e6 : (((0 : Nat) : Int) != ((0 : Nat) : Int)) = false := by simp
                      have e7 : IntKind.u64.wrap ((0 : Nat) : Int) = ((0 : Nat) : Int) := wrap_u64_small (by omega) (by omega)
                      clear hmq hq hql
                      go_wp2
                      go_roundw
                      case rel => exact ⟨k + 1, by omega, by go_num, _, _, HR3.out⟩
                      case measure => simp [intOf]; omega
                · obtain ⟨m, hm⟩ : ∃ m, pile.length = m + 1 := ⟨pile.length - 1, by omega⟩
                  have hpf := pop_facts hm
                  obtain ⟨g, gcap, hgv, cg, hgc, hgl, hgm, hgB, hgs⟩ := HV5.out.read (k := m) (by omega)
                  simp only [Value.slice.injEq] at hgv
                  obtain ⟨rfl, -, rfl⟩ := hgv
                  have hvp := HV5.out
                  rw [hm] at hvp
                  have hvp := hvp.pop hm
                  have hin := HIN.out
                  rw [hpf.2] at hin
                  rw [hpf.1] at HT
                  obtain ⟨y, hy⟩ : ∃ y, pile.getD m 0 = y := ⟨_, rfl⟩
                  rw [hy] at HT cg
                  have HR2 : Hid (R17 P bl bm bw w1.heap.size w _ (.slice (some ⟨g, 0, none⟩) m hcap) (pile.take m) M') := Lib.hid ⟨hin, HL5.out, HM5.out, hvp, HKA.out, HR.out.lo, HR.out.hi⟩
                  have htl : (pile.take m).length = m := by simp; omega
                  have hmc : m ≤ hcap := by omega
                  have e4 : (y != y) = false := by simp
                  have hm1 : (pile.length : Int) - 1 = m := by omega
                  have q3 : decide (0 < pile.length) = true := by simp; omega
                  have hml : m < pile.length := by omega
                  clear hvp hin hy hne hpf
                  go_wp2_with fail
                  refine HD.out.mono ?_
                  rintro e w5 ⟨rfl, rfl⟩
                  go_wp2_with fail
                  refine HT.out.mono ?_
                  rintro e w5 ⟨rfl, rfl⟩
                  have HTL := Lib.hid htl
                  have hm4 : m ≤ 4 := by omega
                  clear htl hm hm1 q3 hml hmc e4 hgs hgB hfew cg hgc hgl hgm
                  have HF := Lib.hid HR2.out.four
                  have HL4 := Lib.hid HR2.out.few
                  have HUN := Lib.hid HR2.out.nodup
                  have HLI := Lib.hid (idlep_list HR2.out.lay HR2.out.mem HR2.out.inv.list (by have := HR2.out.few; rw [List.length_reverse]; omega))
                  have HMY := Lib.hid HR2.out.many
                  have hlen4 : m ≤ 4 := by have := HL4.out; omega
                  go_wp2_with fail
                  refine HLI.out.mono ?_
                  rintro e w7 ⟨vl, rfl, hvl, hk7⟩
                  obtain ⟨la, lcap, rfl⟩ := hvl.form
                  have HVL := Lib.hid hvl
                  have HR3 := Lib.hid (HR2.out.keep hk7)
                  have HP1 := Lib.hid (mem_peek HR3.out.mem 10)
                  have HP2 := Lib.hid (mem_peek HR3.out.mem 19)
                  rw [HMY.out.1, HTL.out] at HP1
                  rw [HMY.out.2, P17.mask_rev] at HP2
                  have hll : ((pile.take m).reverse).length = m := by rw [List.length_reverse]; exact HTL.out
                  simp only [hll] at HVL ⊢
                  have hll2 : (pile.take m).length = m := HTL.out
                  have HLL := Lib.hid hll
                  have HL2 : Hid ((pile.take m).length ≤ m ∧ m ≤ (pile.take m).length) := Lib.hid (by omega)
                  clear hvl hk7 hll hll2
                  go_wp2_with fail
                  refine HP1.out.mono ?_
                  rintro e w8 ⟨rfl, rfl⟩
                  go_wp2_with fail
                  refine HP2.out.mono ?_
                  rintro e w8 ⟨rfl, rfl⟩
                  go_wp2
                  go_loopw [26, 27] (fun bs i wq => ∃ q : Nat, q ≤ m ∧ i = .int .i64 q ∧ bs = .int .u64 (P17.mask ((pile.take m).take q)) ∧ R17 P bl bm bw w1.heap.size w wq (.slice (some ⟨g, 0, none⟩) m hcap) (pile.take m) M' ∧ ∃ B2, Ints wq B2 (.slice la m lcap) (pile.take m).reverse) (fun _ i _ => m - (intOf i).toNat)
                  case atStart => exact ⟨0, Nat.zero_le _, rfl, rfl, HR3.out, _, HVL.out⟩
                  case round =>
                    obtain ⟨q, hq, rfl, rfl, hr3, B2, hvl⟩ := hrel
                    clear HR3 HVL
                    have HR3 := Lib.hid hr3
                    have HVL := Lib.hid hvl
                    clear hr3 hvl
                    by_cases hql : q < m
                    · obtain ⟨g, gcap, hgv, cg, hgc, hgl, hgm, hgB, hgs⟩ := HR3.out.ints.read (k := q) (by have := HL2.out; omega)
                      obtain ⟨g2, gcap2, hgv2, cg2, hgc2, hgl2, hgm2, hgB2, hgs2⟩ := HVL.out.read (k := m - 1 - q) (by rw [HLL.out]; omega)
                      rw [show (pile.take m).length = m from by have := HL2.out; omega] at hgv
                      rw [HLL.out] at hgv2
                      simp only [Value.slice.injEq] at hgv hgv2
                      obtain ⟨hga, -, hgb⟩ := hgv
                      cases hga
                      subst hgb
                      unfold maxLen at hgm hgm2
                      obtain ⟨rfl, -, rfl⟩ := hgv2
                      rw [rev_get (l := pile.take m) (by have := HL2.out; omega) hql] at cg2
                      have hms := mask_take (l := pile.take m) (q := q) (by have := HL2.out; omega)
                      have hy4 := HF.out ((pile.take m).getD q 0) (getD_mem (by have := HL2.out; omega))
                      have hmr := P17.mask_range (l := (pile.take m).take q) (fun p hp => HF.out p (List.mem_of_mem_take hp)) (HUN.out.sublist (List.take_sublist _ _))
                      have hmr2 := P17.mask_range (l := (pile.take m).take (q + 1)) (fun p hp => HF.out p (List.mem_of_mem_take hp)) (HUN.out.sublist (List.take_sublist _ _))
                      obtain ⟨y, hy⟩ : ∃ y, (pile.take m).getD q 0 = y := ⟨_, rfl⟩
                      rw [hy] at cg cg2 hms hy4
                      rw [hms] at hmr2
                      obtain ⟨mq, hmq⟩ : ∃ mq, P17.mask ((pile.take m).take q) = mq := ⟨_, rfl⟩
                      rw [hmq] at hms hmr hmr2
                      rw [hmq]
                      obtain ⟨b, hb⟩ : ∃ b, bitI y = b := ⟨_, rfl⟩
                      have HBT := Lib.hid (fun w => ref17_bit w hy4.1 hy4.2)
                      rw [hb] at hms hmr2 HBT
                      have hwb := wrap_u64_small (x := mq + b) (by omega) (by omega)
                      obtain ⟨d, hd⟩ : ∃ d : Nat, m - 1 - q = d := ⟨_, rfl⟩
                      have e1 : decide (((m : Nat) : Int) ≤ q) = false := by simp; omega
                      have e2 : ((m : Nat) : Int) - 1 - q = d := by omega
                      have e3 : (y != y) = false := by simp
                      have hw1 : IntKind.i64.wrap (((m : Nat) : Int) - 1) = ((m : Nat) : Int) - 1 := wrap_in (by omega) (by omega)
                      have hw2 : IntKind.i64.wrap (((m : Nat) : Int) - 1 - q) = d := by rw [e2]; exact wrap_in (by omega) (by omega)
                      rw [hd] at cg2 hgc2
                      have hdl : d < m := by omega
                      have hw3 : IntKind.i64.wrap ((d : Nat) : Int) = d := wrap_in (by omega) (by omega)
                      clear e2
                      have HMS := Lib.hid hms
                      clear hy hmq hb hms hmr hmr2 hd hgs hgs2 hgB hgB2
                      go_wp2_with fail
                      refine (HBT.out _).mono ?_
                      rintro e w9 ⟨rfl, rfl⟩
                      go_wp2
                      go_quiet (fail)
                      go_wp2
                      go_roundw
                      case rel => exact ⟨q + 1, by omega, by go_num, by rw [HMS.out], HR3.out.keep (Keep.refl _ _).drewN, _, HVL.out.keep (Keep.refl [] _).drewN (by simp)⟩
                      case measure => simp [intOf]; omega
                    · obtain rfl : m = q := by omega
                      have HLQ := HL2.out
                      have hmr := P17.mask_range (l := pile.take m) HF.out HUN.out
                      rw [show (pile.take m).take (m) = pile.take m from by exact List.take_of_length_le (by have := HL2.out; omega)]
                      obtain ⟨mq, hmq⟩ : ∃ mq, P17.mask (pile.take m) = mq := ⟨_, rfl⟩
                      rw [hmq] at hmr ⊢
                      have e5 : (mq != mq) = false := by simp
                      have e6 : (((m : Nat) : Int) != ((m : Nat) : Int)) = false := by simp
                      have e7 : IntKind.u64.wrap ((m : Nat) : Int) = ((m : Nat) : Int) := wrap_u64_small (by omega) (by omega)
                      clear hmq hq hql
                      go_wp2
                      go_roundw
                      case rel => exact ⟨k + 1, by omega, by go_num, _, _, HR3.out⟩
                      case measure => simp [intOf]; omega
          · have q1 : (z % 2 == 1) = false := by simp [hodd]
            have q2 : (z % 2 == 0) = true := by have : z % 2 = 0 := by omega
                                                simp [this]
            clear hodd
            by_cases hin : p ∈ pile
            · rw [show decide (p ∈ pile) = true from by simpa using hin]
              have HR2 := HR
              clear hin hp
              have HF := Lib.hid HR2.out.four
              have HL4 := Lib.hid HR2.out.few
              have HUN := Lib.hid HR2.out.nodup
              have HLI := Lib.hid (idlep_list HR2.out.lay HR2.out.mem HR2.out.inv.list (by have := HR2.out.few; rw [List.length_reverse]; omega))
              have HMY := Lib.hid HR2.out.many
              have hlen4 : pile.length ≤ 4 := by have := HL4.out; simp at this ⊢; omega
              go_wp2_with fail
              refine HLI.out.mono ?_
              rintro e w7 ⟨vl, rfl, hvl, hk7⟩
              obtain ⟨la, lcap, rfl⟩ := hvl.form
              have HVL := Lib.hid hvl
              have HR3 := Lib.hid (HR2.out.keep hk7)
              have HP1 := Lib.hid (mem_peek HR3.out.mem 10)
              have HP2 := Lib.hid (mem_peek HR3.out.mem 19)
              rw [HMY.out.1] at HP1
              rw [HMY.out.2, P17.mask_rev] at HP2
              have hll : ((pile).reverse).length = pile.length := by simp
              simp only [hll] at HVL ⊢
              have hll2 : pile.length = pile.length := rfl
              have HLL := Lib.hid hll
              have HL2 : Hid ((pile).length ≤ pile.length ∧ pile.length ≤ (pile).length) := Lib.hid (by omega)
              clear hvl hk7 hll hll2
              go_wp2_with fail
              refine HP1.out.mono ?_
              rintro e w8 ⟨rfl, rfl⟩
              go_wp2_with fail
              refine HP2.out.mono ?_
              rintro e w8 ⟨rfl, rfl⟩
              go_wp2
              go_loopw [26, 27] (fun bs i wq => ∃ q : Nat, q ≤ pile.length ∧ i = .int .i64 q ∧ bs = .int .u64 (P17.mask ((pile).take q)) ∧ R17 P bl bm bw w1.heap.size w wq (.slice ha pile.length hcap) (pile) M ∧ ∃ B2, Ints wq B2 (.slice la pile.length lcap) (pile).reverse) (fun _ i _ => pile.length - (intOf i).toNat)
              case atStart => exact ⟨0, Nat.zero_le _, rfl, rfl, HR3.out, _, HVL.out⟩
              case round =>
                obtain ⟨q, hq, rfl, rfl, hr3, B2, hvl⟩ := hrel
                clear HR3 HVL
                have HR3 := Lib.hid hr3
                have HVL := Lib.hid hvl
                clear hr3 hvl
                by_cases hql : q < pile.length
                · obtain ⟨g, gcap, hgv, cg, hgc, hgl, hgm, hgB, hgs⟩ := HR3.out.ints.read (k := q) (by have := HL2.out; omega)
                  obtain ⟨g2, gcap2, hgv2, cg2, hgc2, hgl2, hgm2, hgB2, hgs2⟩ := HVL.out.read (k := pile.length - 1 - q) (by rw [HLL.out]; omega)
                  rw [show (pile).length = pile.length from by have := HL2.out; omega] at hgv
                  rw [HLL.out] at hgv2
                  simp only [Value.slice.injEq] at hgv hgv2
                  obtain ⟨hga, -, hgb⟩ := hgv
                  cases hga
                  subst hgb
                  unfold maxLen at hgm hgm2
                  obtain ⟨rfl, -, rfl⟩ := hgv2
                  rw [rev_get (l := pile) (by have := HL2.out; omega) hql] at cg2
                  have hms := mask_take (l := pile) (q := q) (by have := HL2.out; omega)
                  have hy4 := HF.out ((pile).getD q 0) (getD_mem (by have := HL2.out; omega))
                  have hmr := P17.mask_range (l := (pile).take q) (fun p hp => HF.out p (List.mem_of_mem_take hp)) (HUN.out.sublist (List.take_sublist _ _))
                  have hmr2 := P17.mask_range (l := (pile).take (q + 1)) (fun p hp => HF.out p (List.mem_of_mem_take hp)) (HUN.out.sublist (List.take_sublist _ _))
                  obtain ⟨y, hy⟩ : ∃ y, (pile).getD q 0 = y := ⟨_, rfl⟩
                  rw [hy] at cg cg2 hms hy4
                  rw [hms] at hmr2
                  obtain ⟨mq, hmq⟩ : ∃ mq, P17.mask ((pile).take q) = mq := ⟨_, rfl⟩
                  rw [hmq] at hms hmr hmr2
                  rw [hmq]
                  obtain ⟨b, hb⟩ : ∃ b, bitI y = b := ⟨_, rfl⟩
                  have HBT := Lib.hid (fun w => ref17_bit w hy4.1 hy4.2)
                  rw [hb] at hms hmr2 HBT
                  have hwb := wrap_u64_small (x := mq + b) (by omega) (by omega)
                  obtain ⟨d, hd⟩ : ∃ d : Nat, pile.length - 1 - q = d := ⟨_, rfl⟩
                  have e1 : decide (((pile.length : Nat) : Int) ≤ q) = false := by simp; omega
                  have e2 : ((pile.length : Nat) : Int) - 1 - q = d := by omega
                  have e3 : (y != y) = false := by simp
                  have hw1 : IntKind.i64.wrap (((pile.length : Nat) : Int) - 1) = ((pile.length : Nat) : Int) - 1 := wrap_in (by omega) (by omega)
                  have hw2 : IntKind.i64.wrap (((pile.length : Nat) : Int) - 1 - q) = d := by rw [e2]; exact wrap_in (by omega) (by omega)
                  rw [hd] at cg2 hgc2
                  have hdl : d < pile.length := by omega
                  have hw3 : IntKind.i64.wrap ((d : Nat) : Int) = d := wrap_in (by omega) (by omega)
                  clear e2
                  have HMS := Lib.hid hms
                  clear hy hmq hb hms hmr hmr2 hd hgs hgs2 hgB hgB2
                  go_wp2_with fail
                  refine (HBT.out _).mono ?_
                  rintro e w9 ⟨rfl, rfl⟩
                  go_wp2
                  go_quiet (fail)
                  go_wp2
                  go_roundw
                  case rel => exact ⟨q + 1, by omega, by go_num, by rw [HMS.out], HR3.out.keep (Keep.refl _ _).drewN, _, HVL.out.keep (Keep.refl [] _).drewN (by simp)⟩
                  case measure => simp [intOf]; omega
                · obtain rfl : pile.length = q := by omega
                  have HLQ := HL2.out
                  have hmr := P17.mask_range (l := pile) HF.out HUN.out
                  rw [show (pile).take (pile.length) = pile from by exact List.take_of_length_le (by have := HL2.out; omega)]
                  obtain ⟨mq, hmq⟩ : ∃ mq, P17.mask (pile) = mq := ⟨_, rfl⟩
                  rw [hmq] at hmr ⊢
                  have e5 : (mq != mq) = false := by simp
                  have e6 : (((pile.length : Nat) : Int) != ((pile.length : Nat) : Int)) = false := by simp
                  have e7 : IntKind.u64.wrap ((pile.length : Nat) : Int) = ((pile.length : Nat) : Int) := wrap_u64_small (by omega) (by omega)
                  clear hmq hq hql
                  go_wp2
                  go_roundw
                  case rel => exact ⟨k + 1, by omega, by go_num, _, _, HR3.out⟩
                  case measure => simp [intOf]; omega
            · rw [show decide (p ∈ pile) = false from by simpa using hin]
              have HNL := Lib.hid hin
              clear hin
              go_wp2_with fail
              refine (pput_new HR.out.lay p 0 p0 (by omega)).mono ?_
              rintro e w2 ⟨bx, rfl, hbx, hbl, hB2, hk2⟩
              have HB2 := Lib.hid hB2
              have HM2 := Lib.hid (HR.out.mem.keep hk2 (by simp) (by simp))
              have HL2 := Lib.hid (HR.out.lay.keep hk2 (by simp))
              have HV2 := Lib.hid (HR.out.ints.keep hk2 (by simp))
              have HK2 := Lib.hid hk2
              have NBL : Hid (bl ∉ [bx, bm, bw]) := Lib.hid (by have h1 := HR.out.lay.lt; have h2 := HM2.out.ne_of_len HL2.out.len (by decide) (by decide); simp [h2.1, h2.2]; omega)
              have NV : Hid (∀ g, (Value.slice ha pile.length hcap).ownBlock = some g → g ∉ [bx, bm, bw]) := Lib.hid (by
                intro g hg
                have h1 := HR.out.ints.at_ g hg
                have h2 := HR.out.hi
                simp only [List.mem_cons, List.not_mem_nil, or_false, not_or]
                omega)
              clear hB2 hk2
              go_wp2
              go_loopw [15] (fun s wq => ∃ q : Nat, q ≤ 8 ∧ s = .int .i64 q ∧ Stepping (pputIs bl p ⟨P, P, 1⟩ 0) bx bm bw (P18.steps (pputNext p ⟨P, P, 1⟩ 0) q (.asks, M)) w2 wq) (fun s _ => 8 - (intOf s).toNat)
              case atStart => exact ⟨0, Nat.zero_le _, rfl, HB2.out, HM2.out, Keep.refl _ _⟩
              case round =>
                obtain ⟨q, hq, rfl, hS⟩ := hrel
                have HS := Lib.hid hS
                clear hS
                by_cases hq6 : q < 8
                · go_wp2_with fail
                  refine (pput_step HS.out.here HS.out.mem (HL2.out.keep HS.out.kept NBL.out)).mono ?_
                  rintro e w5 ⟨d, rfl, hth⟩
                  have HTH := Lib.hid hth
                  clear hth
                  go_wp2
                  go_roundw
                  case rel => exact ⟨q + 1, by omega, by go_num, HS.out.next HTH.out⟩
                  case measure => simp [intOf]; omega
                · obtain rfl : q = 8 := by omega
                  clear hq hq6
                  obtain ⟨wx, rfl⟩ : ∃ wx : World, wx = wr := ⟨_, rfl⟩
                  obtain ⟨M', hst, hinv⟩ := P17.put_one (who := 0) HR.out.inv p0 p1 (by simpa using HNL.out) 2
                  have hS := HS.out
                  rw [show (8 : Nat) = 2 + 6 from rfl, hst] at hS
                  obtain ⟨hh, hm5, hk5⟩ := hS
                  have HM5 := Lib.hid hm5
                  have HL5 := Lib.hid (HL2.out.keep hk5 NBL.out)
                  have HV5 := Lib.hid (HV2.out.keep hk5 NV.out)
                  have HKW := Lib.hid ((HK2.out.mono (S' := [bx, bm, bw]) (by simp)).trans hk5)
                  have cz2 := HKW.out.cell cz (Nat.lt_of_lt_of_le zlt HR.out.kept.size) (by have := HR.out.lo; have := HR.out.kept.size; simp; omega)
                  have HKA : Hid (Keep [] w _) := Lib.hid (HR.out.kept.trans' HKW.out (by intro x hx; simp only [List.mem_cons, List.not_mem_nil, or_false] at hx; have := HR.out.lo; have := HR.out.kept.size; rcases hx with rfl | rfl | rfl <;> (right; omega)))
                  have HIN : Hid (P17.Inv ⟨P, P, 1⟩ M' (pile ++ [p]).reverse) := Lib.hid (by simpa using hinv)
                  have HVB := Lib.hid HV5.out.at_
                  clear hst hinv hh hm5 hk5 cz hp
                  go_wp2_with (at_builtin; refine wpList_append_int (.tmp 99) (.tmp 101) HU.out HI.out rfl rfl HV5.out (by rfl) (by rfl) (by omega) ?_)
                  intro g gcap w6 hrow hk6 hor
                  have hbo := HVB.out
                  have hlo := HR.out.lo
                  have hhi := HR.out.hi
                  have HR2 : Hid (R17 P bl bm bw w1.heap.size w w6 (.slice (some ⟨g, 0, none⟩) (pile.length + 1) gcap) (pile ++ [p]) M') := Lib.hid
                    ⟨HIN.out, HL5.out.keep hk6 (by intro hm; have := hbo bl (by simpa using hm); omega), HM5.out.keep hk6 (by intro hm; have := hbo bm (by simpa using hm); omega) (by intro hm; have := hbo bw (by simpa using hm); omega), hrow,
                     HKA.out.trans' hk6 (by intro x hx; right; have := hbo x (by simpa using hx); omega), HR.out.lo, HR.out.hi⟩
                  have cz3 := hk6.cell cz2 (Nat.lt_of_lt_of_le zlt HKA.out.size) (by intro hm; have := hbo zb (by simpa using hm); omega)
                  obtain ⟨n, hn⟩ : ∃ n, pile.length + 1 = n := ⟨_, rfl⟩
                  have hnf : n ≤ 5 := by omega
                  rw [hn] at HR2 ⊢
                  have HTL : Hid ((pile ++ [p]).length = n) := Lib.hid (by simp [← hn])
                  clear hrow hk6 hor hbo cz2 hn hfew
                  obtain ⟨wy, rfl⟩ : ∃ wy : World, wy = w6 := ⟨_, rfl⟩

                  have HF := Lib.hid HR2.out.four
                  have HL4 := Lib.hid HR2.out.few
                  have HUN := Lib.hid HR2.out.nodup
                  have HLI := Lib.hid (idlep_list HR2.out.lay HR2.out.mem HR2.out.inv.list (by have := HR2.out.few; rw [List.length_reverse]; omega))
                  have HMY := Lib.hid HR2.out.many
                  have hlen4 : n ≤ 4 := by have := HL4.out; have := HTL.out; omega
                  go_wp2_with fail
                  refine HLI.out.mono ?_
                  rintro e w7 ⟨vl, rfl, hvl, hk7⟩
                  obtain ⟨la, lcap, rfl⟩ := hvl.form
                  have HVL := Lib.hid hvl
                  have HR3 := Lib.hid (HR2.out.keep hk7)
                  have HP1 := Lib.hid (mem_peek HR3.out.mem 10)
                  have HP2 := Lib.hid (mem_peek HR3.out.mem 19)
                  rw [HMY.out.1, HTL.out] at HP1
                  rw [HMY.out.2, P17.mask_rev] at HP2
                  have hll : ((pile ++ [p]).reverse).length = n := by rw [List.length_reverse]; exact HTL.out
                  simp only [hll] at HVL ⊢
                  have hll2 : (pile ++ [p]).length = n := HTL.out
                  have HLL := Lib.hid hll
                  have HL2 : Hid ((pile ++ [p]).length ≤ n ∧ n ≤ (pile ++ [p]).length) := Lib.hid (by omega)
                  clear hvl hk7 hll hll2
                  go_wp2_with fail
                  refine HP1.out.mono ?_
                  rintro e w8 ⟨rfl, rfl⟩
                  go_wp2_with fail
                  refine HP2.out.mono ?_
                  rintro e w8 ⟨rfl, rfl⟩
                  go_wp2
                  go_loopw [26, 27] (fun bs i wq => ∃ q : Nat, q ≤ n ∧ i = .int .i64 q ∧ bs = .int .u64 (P17.mask ((pile ++ [p]).take q)) ∧ R17 P bl bm bw w1.heap.size w wq (.slice (some ⟨g, 0, none⟩) n gcap) (pile ++ [p]) M' ∧ ∃ B2, Ints wq B2 (.slice la n lcap) (pile ++ [p]).reverse) (fun _ i _ => n - (intOf i).toNat)
                  case atStart => exact ⟨0, Nat.zero_le _, rfl, rfl, HR3.out, _, HVL.out⟩
                  case round =>
                    obtain ⟨q, hq, rfl, rfl, hr3, B2, hvl⟩ := hrel
                    clear HR3 HVL
                    have HR3 := Lib.hid hr3
                    have HVL := Lib.hid hvl
                    clear hr3 hvl
                    by_cases hql : q < n
                    · obtain ⟨g, gcap, hgv, cg, hgc, hgl, hgm, hgB, hgs⟩ := HR3.out.ints.read (k := q) (by have := HL2.out; omega)
                      obtain ⟨g2, gcap2, hgv2, cg2, hgc2, hgl2, hgm2, hgB2, hgs2⟩ := HVL.out.read (k := n - 1 - q) (by rw [HLL.out]; omega)
                      rw [show (pile ++ [p]).length = n from by have := HL2.out; omega] at hgv
                      rw [HLL.out] at hgv2
                      simp only [Value.slice.injEq] at hgv hgv2
                      obtain ⟨hga, -, hgb⟩ := hgv
                      cases hga
                      subst hgb
                      unfold maxLen at hgm hgm2
                      obtain ⟨rfl, -, rfl⟩ := hgv2
                      rw [rev_get (l := pile ++ [p]) (by have := HL2.out; omega) hql] at cg2
                      have hms := mask_take (l := pile ++ [p]) (q := q) (by have := HL2.out; omega)
                      have hy4 := HF.out ((pile ++ [p]).getD q 0) (getD_mem (by have := HL2.out; omega))
                      have hmr := P17.mask_range (l := (pile ++ [p]).take q) (fun p hp => HF.out p (List.mem_of_mem_take hp)) (HUN.out.sublist (List.take_sublist _ _))
                      have hmr2 := P17.mask_range (l := (pile ++ [p]).take (q + 1)) (fun p hp => HF.out p (List.mem_of_mem_take hp)) (HUN.out.sublist (List.take_sublist _ _))
                      obtain ⟨y, hy⟩ : ∃ y, (pile ++ [p]).getD q 0 = y := ⟨_, rfl⟩
                      rw [hy] at cg cg2 hms hy4
                      rw [hms] at hmr2
                      obtain ⟨mq, hmq⟩ : ∃ mq, P17.mask ((pile ++ [p]).take q) = mq := ⟨_, rfl⟩
                      rw [hmq] at hms hmr hmr2
                      rw [hmq]
                      obtain ⟨b, hb⟩ : ∃ b, bitI y = b := ⟨_, rfl⟩
                      have HBT := Lib.hid (fun w => ref17_bit w hy4.1 hy4.2)
                      rw [hb] at hms hmr2 HBT
                      have hwb := wrap_u64_small (x := mq + b) (by omega) (by omega)
                      obtain ⟨d, hd⟩ : ∃ d : Nat, n - 1 - q = d := ⟨_, rfl⟩
                      have e1 : decide (((n : Nat) : Int) ≤ q) = false := by simp; omega
                      have e2 : ((n : Nat) : Int) - 1 - q = d := by omega
                      have e3 : (y != y) = false := by simp
                      have hw1 : IntKind.i64.wrap (((n : Nat) : Int) - 1) = ((n : Nat) : Int) - 1 := wrap_in (by omega) (by omega)
                      have hw2 : IntKind.i64.wrap (((n : Nat) : Int) - 1 - q) = d := by rw [e2]; exact wrap_in (by omega) (by omega)
                      rw [hd] at cg2 hgc2
                      have hdl : d < n := by omega
                      have hw3 : IntKind.i64.wrap ((d : Nat) : Int) = d := wrap_in (by omega) (by omega)
                      clear e2
                      have HMS := Lib.hid hms
                      clear hy hmq hb hms hmr hmr2 hd hgs hgs2 hgB hgB2
                      go_wp2_with fail
                      refine (HBT.out _).mono ?_
                      rintro e w9 ⟨rfl, rfl⟩
                      go_wp2
                      go_quiet (fail)
                      go_wp2
                      go_roundw
                      case rel => exact ⟨q + 1, by omega, by go_num, by rw [HMS.out], HR3.out.keep (Keep.refl _ _).drewN, _, HVL.out.keep (Keep.refl [] _).drewN (by simp)⟩
                      case measure => simp [intOf]; omega
                    · obtain rfl : n = q := by omega
                      have HLQ := HL2.out
                      have hmr := P17.mask_range (l := pile ++ [p]) HF.out HUN.out
                      rw [show (pile ++ [p]).take (n) = pile ++ [p] from by exact List.take_of_length_le (by have := HL2.out; omega)]
                      obtain ⟨mq, hmq⟩ : ∃ mq, P17.mask (pile ++ [p]) = mq := ⟨_, rfl⟩
                      rw [hmq] at hmr ⊢
                      have e5 : (mq != mq) = false := by simp
                      have e6 : (((n : Nat) : Int) != ((n : Nat) : Int)) = false := by simp
                      have e7 : IntKind.u64.wrap ((n : Nat) : Int) = ((n : Nat) : Int) := wrap_u64_small (by omega) (by omega)
                      clear hmq hq hql
                      go_wp2
                      go_roundw
                      case rel => exact ⟨k + 1, by omega, by go_num, _, _, HR3.out⟩
                      case measure => simp [intOf]; omega
    · obtain rfl : k = zs.length := by omega
      have HB := Lib.hid (mem_bad HR.out.mem)
      rw [HR.out.inv.bad] at HB
      clear hlt hk
      go_wp2_with fail
      refine (HAW.out _).mono ?_
      rintro e w9 ⟨rfl, hk9⟩
      have HB9 := Lib.hid (mem_bad (HR.out.mem.keep hk9 (by simp) (by simp)))
      rw [HR.out.inv.bad] at HB9
      have HK9 := Lib.hid (HR.out.kept.trans hk9)
      clear hk9
      go_wp2_with fail
      refine HB9.out.mono ?_
      rintro e w10 ⟨rfl, rfl⟩
      go_wp2
      go_ret
      exact ⟨rfl, HK9.out⟩

end Go.Proofs.Ytophgiocmldliaa
