/- The walk of IdlemMany: threads are got and put, round after round. -/
import Derived.Test.YtophgiocmldliaaW18
import Derived.Test.YtophgiocmldliaaIn
import Derived.Test.YtophgiocmldliaaG3
namespace Go.Proofs.Ytophgiocmldliaa
open Go.RowKit
/-- A machine that has gone on for some steps. -/
structure Stepping {Ph : Type} (Is : Ph → World → Nat → Prop) (bx bm bw : Nat) (q : Ph × Mem) (w wq : World) : Prop where
  here : Is q.1 wq bx
  mem : MemAt wq bm bw q.2
  kept : Keep [bx, bm, bw] w wq
theorem Stepping.next {Ph : Type} {Is : Ph → World → Nat → Prop} {over : Ph → Bool} {next : Mem → Ph → Ph × Mem} {bx bm bw : Nat} {q0 : Ph × Mem} {k : Nat} {w wq w' : World} {d : Bool}
    (h : Stepping Is bx bm bw (P18.steps next k q0) w wq) (t : Then Is over bx bm bw (next (P18.steps next k q0).2 (P18.steps next k q0).1) wq d w') : Stepping Is bx bm bw (P18.steps next (k + 1) q0) w w' := by
  rw [P18.steps_succ]
  exact ⟨t.2.1, t.2.2.1, h.kept.trans t.2.2.2⟩
structure R18 (T bl bm bw B : Nat) (w wr : World) (v : Value) (had : List Int) (M : Mem) (free : List Int) (n : Nat) : Prop where
  inv : P18.Inv ⟨1, T, 1⟩ M free had n
  lay : LayAt wr bl ⟨1, T, 1⟩
  mem : MemAt wr bm bw M
  ints : Ints wr B v had
  kept : Keep [] w wr
  lo : w.heap.size ≤ bm ∧ w.heap.size ≤ bw ∧ w.heap.size ≤ B
  hi : bl < B ∧ bm < B ∧ bw < B
theorem R18.few {T bl bm bw B : Nat} {w wr : World} {v : Value} {had : List Int} {M : Mem} {free : List Int} {n : Nat} (h : R18 T bl bm bw B w wr v had M free n) : had.length ≤ T := by
  have h1 := h.inv.all
  have h2 := h.inv.most
  simp only at h2
  omega
/-- What is asked of the spare ones at a round's end. -/
theorem R18.spare {T bl bm bw B : Nat} {w wr : World} {v : Value} {had : List Int} {M : Mem} {free : List Int} {n : Nat} (h : R18 T bl bm bw B w wr v had M free n) (hT : T ≤ 8) :
    Calls Try.prog 44 #[.pointer (some ⟨bl, 0, none⟩), .pointer (some ⟨bm, 0, none⟩)] wr (Reads (.int .i64 ((T : Int) - had.length)) wr) := by
  have hl := P18.len_small h.inv.right
  have h1 := h.inv.all
  have h2 := h.inv.most
  have h3 := h.inv.len
  simp only at h2
  have e := idlem_spare h.lay h.mem free.length n (by unfold Mem.peek; rw [if_pos ⟨by decide, by omega⟩]; exact h.inv.count) (by unfold Mem.peek; rw [if_pos ⟨by decide, by omega⟩]; exact h.inv.made) (by omega) (by omega) (by omega) (by omega)
  have e2 : ((T : Int) + free.length - n) = (T : Int) - had.length := by omega
  rw [← e2]
  exact e
/-- The world behind a change of the machine's and the memory's blocks. -/
theorem R18.next {T bl bm bw B : Nat} {w wr w' : World} {v v' : Value} {had had' : List Int} {M M' : Mem} {free free' : List Int} {n n' : Nat} {S : List Nat} (h : R18 T bl bm bw B w wr v had M free n)
    (hi : P18.Inv ⟨1, T, 1⟩ M' free' had' n') (hm : MemAt w' bm bw M') (hv : Ints w' B v' had') (k : Keep S wr w') (hS : ∀ x ∈ S, w.heap.size ≤ x) (hb : bl ∉ S) : R18 T bl bm bw B w w' v' had' M' free' n' :=
  ⟨hi, h.lay.keep k hb, hm, hv, h.kept.trans' k fun x hx => .inr (hS x hx), h.lo, h.hi⟩
theorem law18_set {h : List Int} {k n : Nat} (hn : h.length = n + 1) (hk : k < n + 1) : h.Perm (h.getD k 0 :: ((h.set k (h.getD n 0)).take n)) := by
  obtain ⟨l, y, rfl, rfl⟩ : ∃ l y, h = l ++ [y] ∧ n = l.length := by
    refine ⟨h.take n, h.getD n 0, ?_, by simp; omega⟩
    have e := List.take_append_drop n h
    rw [List.drop_eq_getElem_cons (by omega), List.drop_eq_nil_of_le (by omega)] at e
    rw [List.getD_eq_getElem?_getD, List.getElem?_eq_getElem (by omega)]
    exact e.symm
  have hy : (l ++ [y]).getD l.length 0 = y := by simp [List.getD_eq_getElem?_getD]
  rw [hy]
  by_cases e : k = l.length
  · subst e
    rw [hy]
    simp only [List.set_append_right _ _ (Nat.le_refl _), Nat.sub_self, List.set_cons_zero, List.take_left']
    exact List.perm_append_comm
  · have hl : k < l.length := by omega
    have h1 : (l ++ [y]).getD k 0 = l[k] := by simp [List.getD_eq_getElem?_getD, List.getElem?_append_left hl, hl]
    rw [h1, List.set_append_left _ _ hl, List.take_left' (by simp)]
    have h2 : l = l.take k ++ l[k] :: l.drop (k + 1) := by
      rw [← List.drop_eq_getElem_cons hl, List.take_append_drop]
    have h3 : l.set k y = l.take k ++ y :: l.drop (k + 1) := List.set_eq_take_append_cons_drop .. ▸ by rw [if_pos hl]
    rw [h3]
    refine (show (l ++ [y]).Perm (y :: l) from List.perm_append_comm).trans ?_
    refine ((List.Perm.cons y (by rw [← h2])).trans (List.Perm.cons y (List.perm_middle (a := l[k]) (l₁ := l.take k) (l₂ := l.drop (k + 1))))).trans ?_
    refine (List.Perm.swap _ _ _).trans ?_
    exact List.Perm.cons _ List.perm_middle.symm

set_option maxRecDepth 100000 in
set_option maxHeartbeats 2000000 in
theorem idlem_main (T : Nat) (v : Value) (zs : List Int) (w : World) (n0 : 1 ≤ T) (n1 : T ≤ 8) (hz : Bys w v zs) (hzl : zs.length ≤ 100)
    (haw : ∀ w, Calls Try.prog 37 #[] w (Reads (.bool true) w)) : Calls Try.prog 5 #[.int .i64 T, v] w (Reads (.bool true) w) := by
  obtain ⟨a, cap, rfl⟩ := hz.form
  have HZ := Lib.hid hz
  have HAW := Lib.hid haw
  have HU := Lib.hid under_ints
  have HI := Lib.hid info_int
  clear hz haw
  go_enter Try.func5, Try.ntmps5
  go_wp2_with fail
  refine (lay_yes ⟨1, T, 1⟩ (.slice none 0 0) [] _ (.inl ⟨rfl, rfl⟩) ⟨by simp, by simp, by simp; omega, by simp; omega, by simp, by simp⟩ (by simp) (by intro p hp; cases hp)).mono ?_
  rintro e w1 ⟨bl, bm, bw, rm, rw', rfl, hlay, hm, -, hk, b1, b2, b3, -, -, -, -, -, -⟩
  have HST : Hid (R18 T bl bm bw w1.heap.size w w1 (.slice none 0 0) [] (Mem.of (ground ⟨1, T, 1⟩ [])) [] 0) := Lib.hid (by
    refine ⟨P18.begin n0 n1, hlay, hm, Ints.nil (Nat.le_refl _), hk, ⟨b2, b3, hk.size⟩, hlay.lt, hm.lt, hm.lt'⟩)
  clear hlay hm hk b1 b2 b3
  go_wp2
  go_loopw [9, 10] (fun v i wr => ∃ k : Nat, k ≤ zs.length ∧ i = .int .i64 k ∧ ∃ had M free n, R18 T bl bm bw w1.heap.size w wr v had M free n)
    (fun _ i _ => zs.length - (intOf i).toNat)
  case atStart => exact ⟨0, Nat.zero_le _, rfl, _, _, _, _, HST.out⟩
  case round =>
    obtain ⟨k, hk, rfl, had, M, free, n, hrel⟩ := hrel
    have HR := Lib.hid hrel
    obtain ⟨ha, hcap, rfl⟩ := hrel.ints.form
    have hfew := hrel.few
    clear hrel HST
    by_cases hlt : k < zs.length
    · obtain ⟨zb, zo, zc, hzv, zlt, czw, z0, z1⟩ := HZ.out.at_ hlt
      obtain ⟨z, hzz⟩ : ∃ z, zs.getD k 0 = z := ⟨_, rfl⟩
      rw [hzz] at czw z0 z1
      have cz := HR.out.kept.cell czw zlt (by simp)
      have CZW := Lib.hid czw
      clear hzz czw
      simp only [Value.slice.injEq] at hzv
      obtain ⟨rfl, -, rfl⟩ := hzv
      by_cases hodd : z % 2 = 1
      · have q1 : (z % 2 == 1) = true := by simp [hodd]
        have q2 : (z % 2 == 0) = false := by simp [hodd]
        clear hodd
        by_cases hne : had.length = 0
        · have q3 : decide (0 < had.length) = false := by simp [hne]
          clear hne
          go_wp2_with fail
          refine (HR.out.spare n1).mono ?_
          rintro e w2 ⟨rfl, hk2⟩
          have HK2 := Lib.hid hk2
          clear hk2
          go_wp2
          go_roundw
          case rel => exact ⟨k + 1, by omega, by go_num, _, _, _, _, HR.out.next HR.out.inv (HR.out.mem.keep HK2.out (by simp) (by simp)) (HR.out.ints.keep HK2.out (by simp)) HK2.out (by simp) (by simp)⟩
          case measure => simp [intOf]; omega
        · obtain ⟨m, hm⟩ : ∃ m, had.length = m + 1 := ⟨had.length - 1, by omega⟩
          have q3 : decide (0 < had.length) = true := by simp; omega
          obtain ⟨g, hcap', sp, hv, hgB, hblk, hsp, hcm⟩ := HR.out.ints.blk (by omega)
          simp only [Value.slice.injEq] at hv
          obtain ⟨rfl, -, rfl⟩ := hv
          obtain ⟨j, hj⟩ : ∃ j : Nat, (z / 2) % (had.length : Int) = j := ⟨((z / 2) % (had.length : Int)).toNat, by have := Int.emod_nonneg (z / 2) (show (had.length : Int) ≠ 0 by omega); omega⟩
          have hjl : j < had.length := by have := Int.emod_lt_of_pos (z / 2) (show (0 : Int) < had.length by omega); omega
          have cj : wr.cell? ⟨g, j, none⟩ = some (.int .i64 (had.getD j 0)) := by rw [hblk.cell]; exact i64s_get hjl
          obtain ⟨x, hx⟩ : ∃ x, had.getD j 0 = x := ⟨_, rfl⟩
          rw [hx] at cj
          have HXX := Lib.hid hx
          have HMM := Lib.hid hm
          have hxlow : 0 ≤ x ∧ x < 1000 := by
            have h1 := HR.out.inv.low x (by rw [← hx, List.getD_eq_getElem?_getD, List.getElem?_eq_getElem hjl]; simp)
            have h2 := HR.out.inv.most
            simp only at h2
            omega
          clear hx hm hne hblk hsp
          go_wp2_with fail
          refine (iput_new HR.out.lay x 0 hxlow.1 hxlow.2).mono ?_
          rintro e w2 ⟨bx, rfl, hbx, hbl, hB2, hk2⟩
          have HB2 := Lib.hid hB2
          have HM2 := Lib.hid (HR.out.mem.keep hk2 (by simp) (by simp))
          have HL2 := Lib.hid (HR.out.lay.keep hk2 (by simp))
          have HV2 := Lib.hid (HR.out.ints.keep hk2 (by simp))
          have HK2 := Lib.hid hk2
          have NBL : Hid (bl ∉ [bx, bm, bw]) := Lib.hid (by have h1 := HR.out.lay.lt; have h2 := HM2.out.ne_of_len HL2.out.len (by decide) (by decide); simp [h2.1, h2.2]; omega)
          have hgl := (HR.out.ints.at_ g rfl).2
          clear hB2 hk2
          go_wp2
          go_loopw [14] (fun s wq => ∃ q : Nat, q ≤ 6 ∧ s = .int .i64 q ∧ Stepping (iputIs bl x ⟨1, T, 1⟩ 0) bx bm bw (P18.steps (iputNext x ⟨1, T, 1⟩ 0) q (.asks, M)) w2 wq) (fun s _ => 6 - (intOf s).toNat)
          case atStart => exact ⟨0, Nat.zero_le _, rfl, HB2.out, HM2.out, Keep.refl _ _⟩
          case round =>
            obtain ⟨q, hq, rfl, hS⟩ := hrel
            have HS := Lib.hid hS
            clear hS
            by_cases hq6 : q < 6
            · go_wp2_with fail
              refine (iput_step HS.out.here HS.out.mem (HL2.out.keep HS.out.kept NBL.out)).mono ?_
              rintro e w5 ⟨d, rfl, hth⟩
              have HTH := Lib.hid hth
              clear hth
              go_wp2
              go_roundw
              case rel => exact ⟨q + 1, by omega, by go_num, HS.out.next HTH.out⟩
              case measure => simp [intOf]; omega
            · obtain rfl : q = 6 := by omega
              clear hq hq6
              obtain ⟨M', hst, hinv⟩ : ∃ M', P18.steps (iputNext x ⟨1, T, 1⟩ 0) 6 (.asks, M) = (.over, M') ∧ P18.Inv ⟨1, T, 1⟩ M' (x :: free) ((had.set j (had.getD (had.length - 1) 0)).take (had.length - 1)) n :=
                P18.put_one HR.out.inv (by have := law18_set (h := had) (n := had.length - 1) (k := j) (by omega) (by omega); rw [HXX.out] at this; exact this) 2
              rw [hst] at HS
              have hhi := HR.out.hi
              have hkw := (HK2.out.mono (S' := [bx, bm, bw]) (by simp)).trans HS.out.kept
              have hvq := HV2.out.keep HS.out.kept (by intro g' hg; simp only [Value.ownBlock, Option.some.injEq] at hg; subst hg; simp only [List.mem_cons, List.not_mem_nil, or_false, not_or]; omega)
              obtain ⟨g2, hcap2, sp2, hv2, -, hblk2, hsp2, hcm2⟩ := hvq.blk (by omega)
              simp only [Value.slice.injEq, Option.some.injEq, Addr.mk.injEq, and_true, true_and] at hv2
              obtain ⟨rfl, rfl⟩ := hv2
              have hm1 : (had.length : Int) - 1 = (m : Int) := by have := HMM.out; omega
              have hml : m < had.length := by have := HMM.out; omega
              have hmc : m ≤ hcap := by omega
              obtain ⟨y, hy⟩ : ∃ y, had.getD m 0 = y := ⟨_, rfl⟩
              have HY := Lib.hid hy
              have cy := hblk2.cell m
              rw [i64s_get hml, hy] at cy
              have fy := hblk2.free
              have cj2 := hblk2.cell j
              rw [i64s_get hjl, HXX.out] at cj2
              have ly := hblk2.lt
              have cz2 := hkw.cell cz (Nat.lt_of_lt_of_le zlt HR.out.kept.size) (by have := HR.out.lo; have := HR.out.kept.size; simp; omega)
              have hzg : zb ≠ g := by have := HR.out.lo; omega
              have hvs := (hvq.set rfl j y)
              have HVS := Lib.hid hvs
              have HKW := Lib.hid hkw
              have HIN := Lib.hid hinv
              clear hst hinv hkw hvq hblk2 hsp2 hvs hy
              go_wp2_with fail
              have hin := HIN.out
              have hms : had.length - 1 = m := by have := HMM.out; omega
              rw [hms, HY.out] at hin
              have hvp := HVS.out
              rw [HMM.out] at hvp
              have hvp := hvp.pop (by simp [HMM.out])
              have hks := (HKW.out.mono (S' := [bx, bm, bw, g]) (by intro x hx; simp only [List.mem_cons, List.not_mem_nil, or_false] at hx; rcases hx with rfl | rfl | rfl <;> simp)).trans ((Keep.refl [bx, bm, bw, g] _).set (p := ⟨g, j, none⟩) (v := .int .i64 y) (by simp))
              have hlo := HR.out.lo
              have hsz := HR.out.kept.size
              have HR2 := Lib.hid (HR.out.next hin (HS.out.mem.keep (S := [g]) ((Keep.refl _ _).set (p := ⟨g, j, none⟩) (v := .int .i64 y) (by simp)) (by simp; omega) (by simp; omega)) hvp hks (by simp; omega) (by have := NBL.out; simp at this ⊢; omega))
              have hlen2 : ((had.set j y).take m).length = m := by simp; omega
              have hsp := HR2.out.spare n1
              rw [hlen2] at hsp
              refine hsp.mono ?_
              rintro e w6 ⟨rfl, hk6⟩
              have HK6 := Lib.hid hk6
              clear hk6 hsp hin hvp hks
              go_wp2
              go_roundw
              case rel => exact ⟨k + 1, by omega, by go_num, _, _, _, _, HR2.out.next HR2.out.inv (HR2.out.mem.keep HK6.out (by simp) (by simp)) (HR2.out.ints.keep HK6.out (by simp)) HK6.out (by simp) (by simp)⟩
              case measure => simp [intOf]; omega
      · have q1 : (z % 2 == 1) = false := by simp [hodd]
        have q2 : (z % 2 == 0) = true := by have : z % 2 = 0 := by omega
                                            simp [this]
        clear hodd
        go_wp2_with fail
        refine (iget_new HR.out.lay 0).mono ?_
        rintro e w2 ⟨bx, rfl, hbx, hbl, hB2, hk2⟩
        have HB2 := Lib.hid hB2
        have HM2 := Lib.hid (HR.out.mem.keep hk2 (by simp) (by simp))
        have HL2 := Lib.hid (HR.out.lay.keep hk2 (by simp))
        have HV2 := Lib.hid (HR.out.ints.keep hk2 (by simp))
        have HK2 := Lib.hid hk2
        have NBL : Hid (bl ∉ [bx, bm, bw]) := Lib.hid (by have h1 := HR.out.lay.lt; have h2 := HM2.out.ne_of_len HL2.out.len (by decide) (by decide); simp [h2.1, h2.2]; omega)
        have NV : Hid (∀ g, (Value.slice ha had.length hcap).ownBlock = some g → g ∉ [bx, bm, bw]) := Lib.hid (by
          intro g hg
          have h1 := HR.out.ints.at_ g hg
          have h2 := HR.out.hi
          simp only [List.mem_cons, List.not_mem_nil, or_false, not_or]
          omega)
        clear hB2 hk2
        go_wp2
        go_loopw [16] (fun s wq => ∃ q : Nat, q ≤ 6 ∧ s = .int .i64 q ∧ Stepping (igetIs bl ⟨1, T, 1⟩ 0) bx bm bw (P18.steps (igetNext ⟨1, T, 1⟩ 0) q (.asks, M)) w2 wq) (fun s _ => 6 - (intOf s).toNat)
        case atStart => exact ⟨0, Nat.zero_le _, rfl, HB2.out, HM2.out, Keep.refl _ _⟩
        case round =>
          obtain ⟨q, hq, rfl, hS⟩ := hrel
          have HS := Lib.hid hS
          clear hS
          by_cases hq6 : q < 6
          · go_wp2_with fail
            refine (iget_step HS.out.here HS.out.mem (HL2.out.keep HS.out.kept NBL.out)).mono ?_
            rintro e w5 ⟨d, rfl, hth⟩
            have HTH := Lib.hid hth
            clear hth
            go_wp2
            go_roundw
            case rel => exact ⟨q + 1, by omega, by go_num, HS.out.next HTH.out⟩
            case measure => simp [intOf]; omega
          · obtain rfl : q = 6 := by omega
            clear hq hq6
            rcases P18.get_any (who := 0) HR.out.inv 2 with ⟨M', t, r, n', hst, hinv, t0, t1, tl, tn⟩ | ⟨M', r, hfull, hst, hinv⟩
            · have hS := HS.out
              rw [show (6 : Nat) = 2 + 4 from rfl, hst] at hS
              obtain ⟨hh, hm5, hk5⟩ := hS
              have HT := Lib.hid (iget_T hh)
              have HD := Lib.hid (iget_Done hh.state)
              rw [show IGetPh.isOver (.over (t + 1) t) = true from rfl] at HD
              simp only at t1 tl
              have e1 : (t == -1) = false := by simp; omega
              have e2 : ((had.length : Int) == (T : Int)) = false := by simp; omega
              have e3 : decide ((T : Int) ≤ t) = false := by simp; omega
              have e4 : (t != -1) = true := by simp; omega
              have HNI : Hid (∀ j, j < had.length → had.getD j 0 ≠ t) := Lib.hid (by
                intro j hj he
                rw [List.getD_eq_getElem?_getD, List.getElem?_eq_getElem hj] at he
                exact tn (he ▸ List.getElem_mem hj))
              have HM5 := Lib.hid hm5
              have HK5 := Lib.hid hk5
              have HKW := Lib.hid ((HK2.out.mono (S' := [bx, bm, bw]) (by simp)).trans hk5)
              have HV5 := Lib.hid (HV2.out.keep hk5 NV.out)
              have HIN := Lib.hid hinv
              clear hst hinv hh hm5 hk5 cz
              go_wp2_with fail
              refine HT.out.mono ?_
              rintro e w5 ⟨rfl, rfl⟩
              go_wp2_with fail
              refine HD.out.mono ?_
              rintro e w5 ⟨rfl, rfl⟩
              go_wp2
              go_loop [18] (fun i => ∃ j : Nat, j ≤ had.length ∧ i = .int .i64 j) (fun i => had.length - (intOf i).toNat)
              case atStart => exact ⟨0, Nat.zero_le _, rfl⟩
              case round =>
                obtain ⟨j, hj, rfl⟩ := hrel
                by_cases hjl : j < had.length
                · obtain ⟨g, hcap', sp, hv, hgB, hblk, hsp, hcm⟩ := HV5.out.blk (by omega)
                  simp only [Value.slice.injEq] at hv
                  obtain ⟨rfl, -, rfl⟩ := hv
                  have cj := hblk.cell j
                  rw [i64s_get hjl] at cj
                  have hne := HNI.out j hjl
                  obtain ⟨y, hy⟩ : ∃ y, had.getD j 0 = y := ⟨_, rfl⟩
                  rw [hy] at cj hne
                  have q9 : (y == t) = false := by simpa using hne
                  have hjc : j < hcap := by omega
                  clear hy hne hblk hsp
                  go_wp2
                  go_round
                  case rel => exact ⟨j + 1, by omega, by go_num⟩
                  case measure => simp [intOf]; omega
                · obtain rfl : j = had.length := by omega
                  clear hjl hj
                  go_wp2_with (at_builtin; refine wpList_append_int (.tmp 139) (.tmp 141) HU.out HI.out rfl rfl HV5.out (by rfl) (by rfl) (by omega) ?_)
                  intro g cap w6 hrow hk6 hor
                  have hbo := HV5.out.at_
                  have hlo := HR.out.lo
                  have hhi := HR.out.hi
                  have hka : Keep [] w w6 := (HR.out.kept.trans' HKW.out (by intro x hx; simp only [List.mem_cons, List.not_mem_nil, or_false] at hx; rcases hx with rfl | rfl | rfl <;> (have := HR.out.kept.size; right; omega))).trans' hk6 (by intro x hx; right; have := hbo x (by simpa using hx); omega)
                  have HR2 : Hid (R18 T bl bm bw w1.heap.size w w6 (.slice (some ⟨g, 0, none⟩) (had.length + 1) cap) (had ++ [t]) M' r n') := Lib.hid
                    ⟨HIN.out, (HL2.out.keep HK5.out NBL.out).keep hk6 (by intro hm; have := hbo bl (by simpa using hm); omega), HM5.out.keep hk6 (by intro hm; have := hbo bm (by simpa using hm); omega) (by intro hm; have := hbo bw (by simpa using hm); omega), hrow, hka, HR.out.lo, HR.out.hi⟩
                  have hsp := HR2.out.spare n1
                  have hl7 : (had ++ [t]).length = had.length + 1 := by simp
                  rw [hl7] at hsp
                  have HSP := Lib.hid hsp
                  clear hrow hk6 hor hbo hlo hhi hka hsp hl7
                  go_wp2_with fail
                  refine HSP.out.mono ?_
                  rintro e w7 ⟨rfl, hk7⟩
                  have HK7 := Lib.hid hk7
                  clear hk7
                  go_wp2
                  go_roundw
                  case rel => exact ⟨k + 1, by omega, by go_num, _, _, _, _, HR2.out.next HR2.out.inv (HR2.out.mem.keep HK7.out (by simp) (by simp)) (HR2.out.ints.keep HK7.out (by simp)) HK7.out (by simp) (by simp)⟩
                  case measure => simp [intOf]; omega
            · have hS := HS.out
              rw [show (6 : Nat) = 2 + 4 from rfl, hst] at hS
              obtain ⟨hh, hm5, hk5⟩ := hS
              have HT := Lib.hid (iget_T hh)
              have HD := Lib.hid (iget_Done hh.state)
              rw [show IGetPh.isOver (.over 0 (-1)) = true from rfl] at HD
              simp only at hfull
              have e2 : ((had.length : Int) == (T : Int)) = true := by simp; omega
              have e3 : decide ((T : Int) ≤ -1) = false := by simp; omega
              have HNI : Hid (∀ j, j < had.length → had.getD j 0 ≠ -1) := Lib.hid (by
                intro j hj he
                have h1 := HR.out.inv.low (had.getD j 0) (by rw [List.getD_eq_getElem?_getD, List.getElem?_eq_getElem hj]; simp)
                omega)
              have HM5 := Lib.hid hm5
              have HK5 := Lib.hid hk5
              have HKW := Lib.hid ((HK2.out.mono (S' := [bx, bm, bw]) (by simp)).trans hk5)
              have HV5 := Lib.hid (HV2.out.keep hk5 NV.out)
              have HIN := Lib.hid hinv
              clear hst hinv hh hm5 hk5 cz
              go_wp2_with fail
              refine HT.out.mono ?_
              rintro e w5 ⟨rfl, rfl⟩
              go_wp2_with fail
              refine HD.out.mono ?_
              rintro e w5 ⟨rfl, rfl⟩
              go_wp2
              go_loop [18] (fun i => ∃ j : Nat, j ≤ had.length ∧ i = .int .i64 j) (fun i => had.length - (intOf i).toNat)
              case atStart => exact ⟨0, Nat.zero_le _, rfl⟩
              case round =>
                obtain ⟨j, hj, rfl⟩ := hrel
                by_cases hjl : j < had.length
                · obtain ⟨g, hcap', sp, hv, hgB, hblk, hsp, hcm⟩ := HV5.out.blk (by omega)
                  simp only [Value.slice.injEq] at hv
                  obtain ⟨rfl, -, rfl⟩ := hv
                  have cj := hblk.cell j
                  rw [i64s_get hjl] at cj
                  have hne := HNI.out j hjl
                  obtain ⟨y, hy⟩ : ∃ y, had.getD j 0 = y := ⟨_, rfl⟩
                  rw [hy] at cj hne
                  have q9 : (y == (-1)) = false := by simpa using hne
                  have hjc : j < hcap := by omega
                  clear hy hne hblk hsp
                  go_wp2
                  go_round
                  case rel => exact ⟨j + 1, by omega, by go_num⟩
                  case measure => simp [intOf]; omega
                · obtain rfl : j = had.length := by omega
                  clear hjl hj
                  have hlo := HR.out.lo
                  have hka : Keep [] w _ := HR.out.kept.trans' HKW.out (by intro x hx; simp only [List.mem_cons, List.not_mem_nil, or_false] at hx; rcases hx with rfl | rfl | rfl <;> (have := HR.out.kept.size; right; omega))
                  have HR2 : Hid (R18 T bl bm bw w1.heap.size w _ (.slice ha had.length hcap) had M' r n) := Lib.hid
                    ⟨HIN.out, HL2.out.keep HK5.out NBL.out, HM5.out, HV5.out, hka, HR.out.lo, HR.out.hi⟩
                  have HSP := Lib.hid (HR2.out.spare n1)
                  clear hlo hka
                  go_wp2_with fail
                  refine HSP.out.mono ?_
                  rintro e w7 ⟨rfl, hk7⟩
                  have HK7 := Lib.hid hk7
                  clear hk7
                  go_wp2
                  go_roundw
                  case rel => exact ⟨k + 1, by omega, by go_num, _, _, _, _, HR2.out.next HR2.out.inv (HR2.out.mem.keep HK7.out (by simp) (by simp)) (HR2.out.ints.keep HK7.out (by simp)) HK7.out (by simp) (by simp)⟩
                  case measure => simp [intOf]; omega
    · obtain rfl : k = zs.length := by omega
      have HB := Lib.hid (mem_bad HR.out.mem)
      rw [HR.out.inv.bad] at HB
      clear hlt hk
      go_wp2_with fail
      refine (HAW.out _).mono ?_
      rintro e w9 ⟨rfl, hk9⟩
      have HB9 := Lib.hid (mem_bad (HR.out.mem.keep hk9 (by simp) (by simp)))
      rw [HR.out.inv.bad] at HB9
      have HK9 := Lib.hid (HR.out.kept.trans hk9)
      clear hk9
      go_wp2_with fail
      refine HB9.out.mono ?_
      rintro e w10 ⟨rfl, rfl⟩
      go_wp2
      go_ret
      exact ⟨rfl, HK9.out⟩

end Go.Proofs.Ytophgiocmldliaa
