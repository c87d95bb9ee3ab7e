/- Package dice: the document's script. -/
import Derived.Test.YtophgiocmldliaaD5
namespace Go.Proofs.Ytophgiocmldliaa
open Go.RowKit
namespace D38
theorem bel_nat (s : Int) (N : Nat) {n : Int} (h : 1 ≤ n) : ∃ q : Nat, bel s N n = q ∧ (q : Int) < n := by
  have h1 := bel_range s N h
  exact ⟨(bel s N n).toNat, (Int.toNat_of_nonneg h1.1).symm, by rw [Int.toNat_of_nonneg h1.1]; exact h1.2⟩
theorem facts0 {s T : Int} {N q : Nat} (h : bel s N 8 = 0) (hq : bel s (N + 1) 16 = q) : eKind s N = 2 ∧ eWho s T N = 0 ∧ eMany s N = q + 1 ∧ eEnd s N = N + 1 + 1 := by
  unfold eMany eEnd eN eKind eWho
  rw [h]
  refine ⟨by simp, by simp, ?_, by simp⟩
  rw [if_neg (by decide), if_pos (by decide), hq]
  omega
theorem facts1 {s T : Int} {N q : Nat} (h : bel s N 8 = 1) (hq : bel s (N + 1) 16 = q) : eKind s N = 3 ∧ eWho s T N = 0 ∧ eMany s N = q + 1 ∧ eEnd s N = N + 1 + 1 := by
  unfold eMany eEnd eN eKind eWho
  rw [h]
  refine ⟨by simp, by simp, ?_, by simp⟩
  rw [if_neg (by decide), if_pos (by decide), hq]
  omega
theorem facts2 {s T : Int} {N : Nat} (h : bel s N 8 = 2) : eKind s N = 4 ∧ eWho s T N = bel s (N + 1) T ∧ eMany s N = 1 ∧ eEnd s N = N + 2 := by
  unfold eMany eEnd eN eKind eWho
  rw [h]
  exact ⟨by simp, by simp, by simp, by simp⟩
theorem facts3 {s T : Int} {N q k : Nat} (h : bel s N 8 = k) (hk : 3 ≤ k) (hq : bel s (N + 2) 16 = q) : eKind s N = 1 ∧ eWho s T N = bel s (N + 1) T ∧ eMany s N = q + 1 ∧ eEnd s N = N + 2 + 1 := by
  unfold eMany eEnd eN eKind eWho
  rw [h]
  rw [if_neg (by omega), if_neg (by omega), if_neg (by omega), if_neg (by omega), if_neg (by omega), if_neg (by omega), if_neg (by omega), hq]
  exact ⟨rfl, rfl, by omega, rfl⟩
end D38

theorem take_rep {α : Type} {l : List α} {e : α} {j q n : Nat} (hj : j ≤ q) (h1 : l.length + j ≤ n) (h2 : j = q ∨ n = l.length + j) : (l ++ List.replicate q e).take n = l ++ List.replicate j e := by
  rcases h2 with rfl | h2
  · exact List.take_of_length_le (by simp; omega)
  · rw [List.take_append, List.take_of_length_le (by omega)]
    congr 1
    rw [List.take_replicate]
    congr 1
    omega

set_option maxRecDepth 100000 in
set_option maxHeartbeats 4000000 in
theorem refd_script {w : World} {b : Nat} {s : Int} {N : Nat} (h : Blk w b [.int .u64 s, .int .i64 N]) (hN : N < 50000) (T : Int) (t0 : 1 ≤ T) (t1 : T ≤ 256) (n : Int) (hn : n ≤ 300) :
    Calls Try.prog 25 #[.pointer (some ⟨b, 0, none⟩), .int .i64 T, .int .i64 n] w fun e w' => ∃ v, e = .returned v ∧ Ents w' w.heap.size v (D38.scr s T n.toNat n.toNat [] N).1 ∧ Blk w' b [.int .u64 s, .int .i64 ((D38.scr s T n.toNat n.toNat [] N).2 : Nat)] ∧ Keep [b] w w' := by
  have hbw := h.lt
  have HX := Lib.hid h
  obtain ⟨F, hF⟩ : ∃ F, D38.scr s T n.toNat n.toNat [] N = F := ⟨_, rfl⟩
  have HL0 := Lib.hid (D38.Leads.begin s T n.toNat N)
  rw [hF] at HL0
  rw [hF]
  clear h hF
  go_enter Try.func25, Try.ntmps25
  go_wp2
  go_loopw [7] (fun v wr => ∃ (l : List (Int × Int)) (K : Nat), Ents wr w.heap.size v l ∧ Blk wr b [.int .u64 s, .int .i64 K] ∧ Keep [b] w wr ∧ D38.Leads s T n.toNat F l K ∧ l.length ≤ 300 ∧ K ≤ N + 3 * l.length) (fun v _ => n.toNat - (match v with | .slice _ k _ => k | _ => 0))
  case atStart => exact ⟨[], N, Row.nil (by simp), HX.out, Keep.refl _ _, HL0.out, by simp, by simp⟩
  case round =>
    obtain ⟨l, K, hv, hb, hk, hlead, hl, hKN⟩ := hrel
    obtain ⟨va, vcap, rfl⟩ := hv.form
    have HV := Lib.hid hv
    have HB := Lib.hid hb
    have HK := Lib.hid hk
    have HLD := Lib.hid hlead
    have hws := hk.size
    have hvb := HV.out.at_
    have HVB := Lib.hid hvb
    obtain ⟨k8, hk8, hk80⟩ := D38.bel_nat s K (n := 8) (by decide)
    have HK8 := Lib.hid hk8
    clear hk8
    clear hv hb hk hlead hvb HL0 HX
    by_cases hlt : (l.length : Int) < n
    · obtain ⟨wo, rfl⟩ : ∃ wo : World, wo = wr := ⟨_, rfl⟩
      by_cases hkc : k8 = 0
      · subst hkc
        have hk8 : D38.bel s K 8 = 0 := HK8.out
        obtain ⟨q, hq, hq1⟩ := D38.bel_nat s (K + 1) (n := 16) (by decide)
        have HFA := Lib.hid (D38.facts0 (T := T) hk8 hq)
        have HQQ := Lib.hid hq
        clear hq
        have HB0 := Lib.hid (fun (w : World) (h : Blk w b [.int .u64 s, .int .i64 K]) => refd_below h (by omega) 8 (by decide))
        rw [show D38.belN K 8 = K + 1 from rfl] at HB0
        rw [hk8] at HB0
        clear hk8
        go_wp2_with fail
        refine (HB0.out _ HB.out).mono ?_
        rintro e w1 ⟨rfl, hb, hk1⟩
        have HK1 : Hid (Keep [b] w w1) := Lib.hid (HK.out.trans hk1)
        have HX1 := Lib.hid hb
        have HV1 := Lib.hid (HV.out.keep hk1 (by intro g hg hm; have := HVB.out g hg; simp only [List.mem_cons, List.not_mem_nil, or_false] at hm; omega))
        have hws1 := HK1.out.size
        have hbl1 := hb.lt
        have hsz1 := hk1.size
        clear hb hk1
        have HB3 := Lib.hid (fun (w : World) (h : Blk w b [.int .u64 s, .int .i64 ((K + 1 : Nat) : Int)]) => refd_below h (by omega) 16 (by decide))
        rw [show D38.belN (K + 1) 16 = K + 1 + 1 from rfl] at HB3
        rw [HQQ.out] at HB3
        go_wp2_with fail
        refine (HB3.out _ (by (repeat (first | with_reducible exact HX1.out | with_reducible apply Blk.drewN | with_reducible apply Blk.drew | with_reducible apply Blk.alloc | with_reducible apply Blk.set | (with_reducible apply Blk.other; rotate_left; (first | assumption | (simp; omega)); rotate_right) | with_reducible rfl | rfl)))).mono ?_
        rintro e w3 ⟨rfl, hb, hk3⟩
        have he3 : Blk w3 w1.heap.size [.int .i64 2, .int .i64 0] := Blk.keep (by (repeat (first | with_reducible exact Blk.new rfl | with_reducible apply Blk.drew | with_reducible apply Blk.set | with_reducible apply Blk.alloc | with_reducible rfl | rfl))) hk3 (by simp; omega)
        have HK3 : Hid (Keep [b] w w3) := Lib.hid (Keep.trans (by (repeat (first | with_reducible exact HK1.out | with_reducible exact Keep.refl _ _ | with_reducible refine Keep.drewN ?_ | with_reducible refine Keep.drew ?_ | with_reducible refine Keep.alloc ?_ | ((with_reducible refine Keep.setNew ?_ ?_); rotate_left; (simp <;> omega)) | ((with_reducible refine Keep.set ?_ ?_); rotate_left; (simp <;> done))))) hk3)
        have HX3 := Lib.hid hb
        have HE3 := Lib.hid he3
        have HV3 := Lib.hid (Row.keep (show Row 43 2 _ w.heap.size (.slice va l.length vcap) l.length (entc l) from by (repeat (first | with_reducible exact HV1.out | with_reducible apply Row.alloc | ((with_reducible refine Row.stored ?_ ?_); rotate_left; (intro g hg; have := HVB.out g hg; simp <;> omega))))) hk3 (by intro g hg hm; have := HVB.out g hg; simp only [List.mem_cons, List.not_mem_nil, or_false] at hm; omega))
        have hws3 := HK3.out.size
        clear hb hk3 he3
        skip
        have hw1 : IntKind.i64.wrap (1 + (q : Int)) = (q : Int) + 1 := by rw [IntKind.wrap_i64]; omega
        have hEB : w1.heap.size < w3.heap.size := HE3.out.lt
        go_wp2
        skip
        go_loopw [7, 11] (fun v i wq => ∃ j : Nat, j ≤ q + 1 ∧ i = .int .i64 j ∧ Ents wq w.heap.size v (l ++ List.replicate j (2, 0)) ∧ ((l.length + j : Nat) : Int) ≤ n ∧ Blk wq b [.int .u64 s, .int .i64 ((K + 1 + 1 : Nat) : Int)] ∧ Blk wq w1.heap.size [.int .i64 2, .int .i64 0] ∧ Keep [b] w wq ∧ (∀ g, v.ownBlock = some g → g ≠ w1.heap.size)) (fun _ i _ => q + 1 - (intOf i).toNat)
        case atStart => exact ⟨0, Nat.zero_le _, rfl, by rw [List.replicate_zero, List.append_nil]; exact HV3.out, by simp; omega, HX3.out, HE3.out, HK3.out, by intro g hg; have := HVB.out g hg; omega⟩
        case round =>
          obtain ⟨j, hj, rfl, hv, hjn, hb, he, hk, hne⟩ := hrel
          obtain ⟨va2, vcap2, rfl⟩ := hv.form
          have HLEN := Lib.hid (show (l ++ List.replicate j ((2, 0) : Int × Int)).length = l.length + j by simp)
          have HSN := Lib.hid (show (l ++ List.replicate (j + 1) ((2, 0) : Int × Int)) = (l ++ List.replicate j (2, 0)) ++ [(2, 0)] by rw [rep_snoc, List.append_assoc])
          have HTK := Lib.hid (fun h2 => take_rep (α := Int × Int) (l := l) (e := (2, 0)) (j := j) (q := q + 1) (n := n.toNat) hj (by omega) h2)
          obtain ⟨l2, hl2⟩ : ∃ l2, l ++ List.replicate j ((2, 0) : Int × Int) = l2 := ⟨_, rfl⟩
          rw [hl2] at hv HLEN HSN HTK hne
          rw [hl2]
          have hlen2 := HLEN.out
          have HV4 := Lib.hid hv
          have HX4 := Lib.hid hb
          have HE4 := Lib.hid he
          have HK4 := Lib.hid hk
          have cx := he.cell
          have fx := he.free
          have lx := he.lt
          have hws4 := hk.size
          obtain ⟨m2, hm2⟩ : ∃ m2, l2.length = m2 := ⟨_, rfl⟩
          rw [hm2] at hlen2 hne
          have HNE := Lib.hid hne
          have HM2 := Lib.hid hm2
          rw [hm2]
          have hv' : Row 43 2 wr w.heap.size (.slice va2 m2 vcap2) m2 (entc l2) := by have h := hv; unfold Ents at h; rw [hm2] at h; exact h
          have HVR := Lib.hid hv'
          have hm2l : m2 < 1000 := by omega
          clear hv hv' hb he hk hne hl2 hm2
          by_cases hjt : j < q + 1
          · have hmle : l.length + j = m2 := hlen2.symm
            have HMLE := Lib.hid hmle
            clear hlen2 hmle
            by_cases hln : (m2 : Int) < n
            · go_wp2_with (at_builtin; refine wpList_append_one (es := [.int .i64 (2), .int .i64 (0)]) (.tmp 50) (.tmp 52) row_ent rfl rfl HVR.out (by rfl) (by rfl) rfl (by intro u hu; exact entc_one u (2, 0) hu) (by omega) (by decide) ?_)
              intro g cap w6 hrow hk6 hor
              have HB6 := Lib.hid (HX4.out.own hk6 (by intro g hg e; have := HVR.out.at_ g hg; omega))
              have HE6 := Lib.hid (HE4.out.own hk6 (by intro g hg e; exact HNE.out g hg e.symm))
              have HK6 := Lib.hid (keep_own HK4.out hk6 (fun g hg => by have := HVR.out.at_ g hg; omega))
              have hsn := Ents.snoc (l := l2) (by rw [HM2.out]; exact hrow)
              rw [← HSN.out] at hsn
              have HV6 := Lib.hid hsn
              have HNE6 : Hid (∀ g', (Value.slice (some ⟨g, 0, none⟩) (m2 + 1) cap).ownBlock = some g' → g' ≠ w1.heap.size) := Lib.hid (by
                intro g' hg'
                simp only [Value.ownBlock, Option.some.injEq] at hg'
                subst hg'
                rcases hor with h | h
                · exact HNE.out _ h
                · omega)
              clear hrow hk6 hor hsn cx fx lx
              have hmm : ((l.length + (j + 1) : Nat) : Int) ≤ n := by have := HMLE.out; omega
              go_wp2
              go_roundw
              case rel => exact ⟨j + 1, by omega, by go_num, HV6.out, hmm, HB6.out, HE6.out, HK6.out, HNE6.out⟩
              case measure => simp [intOf]; omega
            · have hq5 : decide ((m2 : Int) < n) = false := by simp; omega
              have hst := HLD.out.step (by omega)
              unfold D38.run at hst
              rw [HFA.out.1, HFA.out.2.1, HFA.out.2.2.1, HFA.out.2.2.2, HTK.out (.inr (by have := HMLE.out; omega))] at hst
              have HST := Lib.hid hst
              have hml := HMLE.out
              have hnm : n ≤ (m2 : Int) := by omega
              have hm3 : m2 ≤ 300 := by omega
              have hml2 : l.length < m2 := by omega
              clear hst hln hml
              go_wp2
              go_roundw
              case rel => exact ⟨_, _, by unfold Ents; rw [HM2.out]; exact HVR.out, HX4.out, HK4.out, HST.out, by rw [HM2.out]; omega, by rw [HM2.out]; omega⟩
              case measure => simp only; omega
          · obtain rfl : j = q + 1 := by omega
            have hst := HLD.out.step (by omega)
            unfold D38.run at hst
            rw [HFA.out.1, HFA.out.2.1, HFA.out.2.2.1, HFA.out.2.2.2, HTK.out (.inl rfl)] at hst
            have HST := Lib.hid hst
            clear hst hjt hj
            go_wp2
            go_roundw
            case rel => exact ⟨_, _, by unfold Ents; rw [HM2.out]; exact HVR.out, HX4.out, HK4.out, HST.out, by rw [HM2.out]; omega, by rw [HM2.out]; omega⟩
            case measure => simp only; omega
      by_cases hkc : k8 = 1
      · subst hkc
        have hk8 : D38.bel s K 8 = 1 := HK8.out
        obtain ⟨q, hq, hq1⟩ := D38.bel_nat s (K + 1) (n := 16) (by decide)
        have HFA := Lib.hid (D38.facts1 (T := T) hk8 hq)
        have HQQ := Lib.hid hq
        clear hq
        have HB0 := Lib.hid (fun (w : World) (h : Blk w b [.int .u64 s, .int .i64 K]) => refd_below h (by omega) 8 (by decide))
        rw [show D38.belN K 8 = K + 1 from rfl] at HB0
        rw [hk8] at HB0
        clear hk8
        go_wp2_with fail
        refine (HB0.out _ HB.out).mono ?_
        rintro e w1 ⟨rfl, hb, hk1⟩
        have HK1 : Hid (Keep [b] w w1) := Lib.hid (HK.out.trans hk1)
        have HX1 := Lib.hid hb
        have HV1 := Lib.hid (HV.out.keep hk1 (by intro g hg hm; have := HVB.out g hg; simp only [List.mem_cons, List.not_mem_nil, or_false] at hm; omega))
        have hws1 := HK1.out.size
        have hbl1 := hb.lt
        have hsz1 := hk1.size
        clear hb hk1
        have HB3 := Lib.hid (fun (w : World) (h : Blk w b [.int .u64 s, .int .i64 ((K + 1 : Nat) : Int)]) => refd_below h (by omega) 16 (by decide))
        rw [show D38.belN (K + 1) 16 = K + 1 + 1 from rfl] at HB3
        rw [HQQ.out] at HB3
        go_wp2_with fail
        refine (HB3.out _ (by (repeat (first | with_reducible exact HX1.out | with_reducible apply Blk.drewN | with_reducible apply Blk.drew | with_reducible apply Blk.alloc | with_reducible apply Blk.set | (with_reducible apply Blk.other; rotate_left; (first | assumption | (simp; omega)); rotate_right) | with_reducible rfl | rfl)))).mono ?_
        rintro e w3 ⟨rfl, hb, hk3⟩
        have he3 : Blk w3 w1.heap.size [.int .i64 3, .int .i64 0] := Blk.keep (by (repeat (first | with_reducible exact Blk.new rfl | with_reducible apply Blk.drew | with_reducible apply Blk.set | with_reducible apply Blk.alloc | with_reducible rfl | rfl))) hk3 (by simp; omega)
        have HK3 : Hid (Keep [b] w w3) := Lib.hid (Keep.trans (by (repeat (first | with_reducible exact HK1.out | with_reducible exact Keep.refl _ _ | with_reducible refine Keep.drewN ?_ | with_reducible refine Keep.drew ?_ | with_reducible refine Keep.alloc ?_ | ((with_reducible refine Keep.setNew ?_ ?_); rotate_left; (simp <;> omega)) | ((with_reducible refine Keep.set ?_ ?_); rotate_left; (simp <;> done))))) hk3)
        have HX3 := Lib.hid hb
        have HE3 := Lib.hid he3
        have HV3 := Lib.hid (Row.keep (show Row 43 2 _ w.heap.size (.slice va l.length vcap) l.length (entc l) from by (repeat (first | with_reducible exact HV1.out | with_reducible apply Row.alloc | ((with_reducible refine Row.stored ?_ ?_); rotate_left; (intro g hg; have := HVB.out g hg; simp <;> omega))))) hk3 (by intro g hg hm; have := HVB.out g hg; simp only [List.mem_cons, List.not_mem_nil, or_false] at hm; omega))
        have hws3 := HK3.out.size
        clear hb hk3 he3
        skip
        have hw1 : IntKind.i64.wrap (1 + (q : Int)) = (q : Int) + 1 := by rw [IntKind.wrap_i64]; omega
        have hEB : w1.heap.size < w3.heap.size := HE3.out.lt
        go_wp2
        skip
        go_loopw [7, 11] (fun v i wq => ∃ j : Nat, j ≤ q + 1 ∧ i = .int .i64 j ∧ Ents wq w.heap.size v (l ++ List.replicate j (3, 0)) ∧ ((l.length + j : Nat) : Int) ≤ n ∧ Blk wq b [.int .u64 s, .int .i64 ((K + 1 + 1 : Nat) : Int)] ∧ Blk wq w1.heap.size [.int .i64 3, .int .i64 0] ∧ Keep [b] w wq ∧ (∀ g, v.ownBlock = some g → g ≠ w1.heap.size)) (fun _ i _ => q + 1 - (intOf i).toNat)
        case atStart => exact ⟨0, Nat.zero_le _, rfl, by rw [List.replicate_zero, List.append_nil]; exact HV3.out, by simp; omega, HX3.out, HE3.out, HK3.out, by intro g hg; have := HVB.out g hg; omega⟩
        case round =>
          obtain ⟨j, hj, rfl, hv, hjn, hb, he, hk, hne⟩ := hrel
          obtain ⟨va2, vcap2, rfl⟩ := hv.form
          have HLEN := Lib.hid (show (l ++ List.replicate j ((3, 0) : Int × Int)).length = l.length + j by simp)
          have HSN := Lib.hid (show (l ++ List.replicate (j + 1) ((3, 0) : Int × Int)) = (l ++ List.replicate j (3, 0)) ++ [(3, 0)] by rw [rep_snoc, List.append_assoc])
          have HTK := Lib.hid (fun h2 => take_rep (α := Int × Int) (l := l) (e := (3, 0)) (j := j) (q := q + 1) (n := n.toNat) hj (by omega) h2)
          obtain ⟨l2, hl2⟩ : ∃ l2, l ++ List.replicate j ((3, 0) : Int × Int) = l2 := ⟨_, rfl⟩
          rw [hl2] at hv HLEN HSN HTK hne
          rw [hl2]
          have hlen2 := HLEN.out
          have HV4 := Lib.hid hv
          have HX4 := Lib.hid hb
          have HE4 := Lib.hid he
          have HK4 := Lib.hid hk
          have cx := he.cell
          have fx := he.free
          have lx := he.lt
          have hws4 := hk.size
          obtain ⟨m2, hm2⟩ : ∃ m2, l2.length = m2 := ⟨_, rfl⟩
          rw [hm2] at hlen2 hne
          have HNE := Lib.hid hne
          have HM2 := Lib.hid hm2
          rw [hm2]
          have hv' : Row 43 2 wr w.heap.size (.slice va2 m2 vcap2) m2 (entc l2) := by have h := hv; unfold Ents at h; rw [hm2] at h; exact h
          have HVR := Lib.hid hv'
          have hm2l : m2 < 1000 := by omega
          clear hv hv' hb he hk hne hl2 hm2
          by_cases hjt : j < q + 1
          · have hmle : l.length + j = m2 := hlen2.symm
            have HMLE := Lib.hid hmle
            clear hlen2 hmle
            by_cases hln : (m2 : Int) < n
            · go_wp2_with (at_builtin; refine wpList_append_one (es := [.int .i64 (3), .int .i64 (0)]) (.tmp 50) (.tmp 52) row_ent rfl rfl HVR.out (by rfl) (by rfl) rfl (by intro u hu; exact entc_one u (3, 0) hu) (by omega) (by decide) ?_)
              intro g cap w6 hrow hk6 hor
              have HB6 := Lib.hid (HX4.out.own hk6 (by intro g hg e; have := HVR.out.at_ g hg; omega))
              have HE6 := Lib.hid (HE4.out.own hk6 (by intro g hg e; exact HNE.out g hg e.symm))
              have HK6 := Lib.hid (keep_own HK4.out hk6 (fun g hg => by have := HVR.out.at_ g hg; omega))
              have hsn := Ents.snoc (l := l2) (by rw [HM2.out]; exact hrow)
              rw [← HSN.out] at hsn
              have HV6 := Lib.hid hsn
              have HNE6 : Hid (∀ g', (Value.slice (some ⟨g, 0, none⟩) (m2 + 1) cap).ownBlock = some g' → g' ≠ w1.heap.size) := Lib.hid (by
                intro g' hg'
                simp only [Value.ownBlock, Option.some.injEq] at hg'
                subst hg'
                rcases hor with h | h
                · exact HNE.out _ h
                · omega)
              clear hrow hk6 hor hsn cx fx lx
              have hmm : ((l.length + (j + 1) : Nat) : Int) ≤ n := by have := HMLE.out; omega
              go_wp2
              go_roundw
              case rel => exact ⟨j + 1, by omega, by go_num, HV6.out, hmm, HB6.out, HE6.out, HK6.out, HNE6.out⟩
              case measure => simp [intOf]; omega
            · have hq5 : decide ((m2 : Int) < n) = false := by simp; omega
              have hst := HLD.out.step (by omega)
              unfold D38.run at hst
              rw [HFA.out.1, HFA.out.2.1, HFA.out.2.2.1, HFA.out.2.2.2, HTK.out (.inr (by have := HMLE.out; omega))] at hst
              have HST := Lib.hid hst
              have hml := HMLE.out
              have hnm : n ≤ (m2 : Int) := by omega
              have hm3 : m2 ≤ 300 := by omega
              have hml2 : l.length < m2 := by omega
              clear hst hln hml
              go_wp2
              go_roundw
              case rel => exact ⟨_, _, by unfold Ents; rw [HM2.out]; exact HVR.out, HX4.out, HK4.out, HST.out, by rw [HM2.out]; omega, by rw [HM2.out]; omega⟩
              case measure => simp only; omega
          · obtain rfl : j = q + 1 := by omega
            have hst := HLD.out.step (by omega)
            unfold D38.run at hst
            rw [HFA.out.1, HFA.out.2.1, HFA.out.2.2.1, HFA.out.2.2.2, HTK.out (.inl rfl)] at hst
            have HST := Lib.hid hst
            clear hst hjt hj
            go_wp2
            go_roundw
            case rel => exact ⟨_, _, by unfold Ents; rw [HM2.out]; exact HVR.out, HX4.out, HK4.out, HST.out, by rw [HM2.out]; omega, by rw [HM2.out]; omega⟩
            case measure => simp only; omega
      by_cases hkc : k8 = 2
      · subst hkc
        have hk8 : D38.bel s K 8 = 2 := HK8.out
        have HFA := Lib.hid (D38.facts2 (T := T) hk8)
        have HB0 := Lib.hid (fun (w : World) (h : Blk w b [.int .u64 s, .int .i64 K]) => refd_below h (by omega) 8 (by decide))
        rw [show D38.belN K 8 = K + 1 from rfl] at HB0
        rw [hk8] at HB0
        clear hk8
        go_wp2_with fail
        refine (HB0.out _ HB.out).mono ?_
        rintro e w1 ⟨rfl, hb, hk1⟩
        have HK1 : Hid (Keep [b] w w1) := Lib.hid (HK.out.trans hk1)
        have HX1 := Lib.hid hb
        have HV1 := Lib.hid (HV.out.keep hk1 (by intro g hg hm; have := HVB.out g hg; simp only [List.mem_cons, List.not_mem_nil, or_false] at hm; omega))
        have hws1 := HK1.out.size
        have hbl1 := hb.lt
        have hsz1 := hk1.size
        clear hb hk1
        have HB2 := Lib.hid (fun (w : World) (h : Blk w b [.int .u64 s, .int .i64 ((K + 1 : Nat) : Int)]) => refd_below h (by omega) T (by omega))
        rw [show D38.belN (K + 1) T = K + 2 by unfold D38.belN; rw [if_neg (by omega)]] at HB2
        obtain ⟨t, ht⟩ : ∃ t, D38.bel s (K + 1) T = t := ⟨_, rfl⟩
        rw [ht] at HFA HB2
        clear ht
        go_wp2_with fail
        refine (HB2.out _ (by (repeat (first | with_reducible exact HX1.out | with_reducible apply Blk.drewN | with_reducible apply Blk.drew | with_reducible apply Blk.alloc | with_reducible apply Blk.set | (with_reducible apply Blk.other; rotate_left; (first | assumption | (simp; omega)); rotate_right) | with_reducible rfl | rfl)))).mono ?_
        rintro e w2 ⟨rfl, hb, hk2⟩
        have he2 : Blk w2 w1.heap.size [.int .i64 4, .int .i64 0] := Blk.keep (by (repeat (first | with_reducible exact Blk.new rfl | with_reducible apply Blk.drew | with_reducible apply Blk.set | with_reducible apply Blk.alloc | with_reducible rfl | rfl))) hk2 (by simp; omega)
        have HK2 : Hid (Keep [b] w w2) := Lib.hid (Keep.trans (by (repeat (first | with_reducible exact HK1.out | with_reducible exact Keep.refl _ _ | with_reducible refine Keep.drewN ?_ | with_reducible refine Keep.drew ?_ | with_reducible refine Keep.alloc ?_ | ((with_reducible refine Keep.setNew ?_ ?_); rotate_left; (simp <;> omega)) | ((with_reducible refine Keep.set ?_ ?_); rotate_left; (simp <;> done))))) hk2)
        have HX2 := Lib.hid hb
        have HE2 := Lib.hid he2
        have HV2 := Lib.hid (Row.keep (show Row 43 2 _ w.heap.size (.slice va l.length vcap) l.length (entc l) from by (repeat (first | with_reducible exact HV1.out | with_reducible apply Row.alloc | ((with_reducible refine Row.stored ?_ ?_); rotate_left; (intro g hg; have := HVB.out g hg; simp <;> omega))))) hk2 (by intro g hg hm; have := HVB.out g hg; simp only [List.mem_cons, List.not_mem_nil, or_false] at hm; omega))
        have hws2 := HK2.out.size
        have cx := he2.cell
        have fx := he2.free
        have lx := he2.lt
        clear hb hk2 he2
        have hEB : w1.heap.size < w2.heap.size := HE2.out.lt
        go_wp2
        clear cx fx lx
        go_loopw [7, 11] (fun v i wq => ∃ j : Nat, j ≤ 1 ∧ i = .int .i64 j ∧ Ents wq w.heap.size v (l ++ List.replicate j (4, t)) ∧ ((l.length + j : Nat) : Int) ≤ n ∧ Blk wq b [.int .u64 s, .int .i64 ((K + 2 : Nat) : Int)] ∧ Blk wq w1.heap.size [.int .i64 4, .int .i64 t] ∧ Keep [b] w wq ∧ (∀ g, v.ownBlock = some g → g ≠ w1.heap.size)) (fun _ i _ => 1 - (intOf i).toNat)
        case atStart => exact ⟨0, Nat.zero_le _, rfl, by rw [List.replicate_zero, List.append_nil]; exact (Row.stored HV2.out (by intro g hg; have := HVB.out g hg; simp <;> omega)), by simp; omega, HX2.out.other (by simp <;> omega), HE2.out.set rfl, HK2.out.setNew (by simp <;> omega), by intro g hg; have := HVB.out g hg; omega⟩
        case round =>
          obtain ⟨j, hj, rfl, hv, hjn, hb, he, hk, hne⟩ := hrel
          obtain ⟨va2, vcap2, rfl⟩ := hv.form
          have HLEN := Lib.hid (show (l ++ List.replicate j ((4, t) : Int × Int)).length = l.length + j by simp)
          have HSN := Lib.hid (show (l ++ List.replicate (j + 1) ((4, t) : Int × Int)) = (l ++ List.replicate j (4, t)) ++ [(4, t)] by rw [rep_snoc, List.append_assoc])
          have HTK := Lib.hid (fun h2 => take_rep (α := Int × Int) (l := l) (e := (4, t)) (j := j) (q := 1) (n := n.toNat) hj (by omega) h2)
          obtain ⟨l2, hl2⟩ : ∃ l2, l ++ List.replicate j ((4, t) : Int × Int) = l2 := ⟨_, rfl⟩
          rw [hl2] at hv HLEN HSN HTK hne
          rw [hl2]
          have hlen2 := HLEN.out
          have HV4 := Lib.hid hv
          have HX4 := Lib.hid hb
          have HE4 := Lib.hid he
          have HK4 := Lib.hid hk
          have cx := he.cell
          have fx := he.free
          have lx := he.lt
          have hws4 := hk.size
          obtain ⟨m2, hm2⟩ : ∃ m2, l2.length = m2 := ⟨_, rfl⟩
          rw [hm2] at hlen2 hne
          have HNE := Lib.hid hne
          have HM2 := Lib.hid hm2
          rw [hm2]
          have hv' : Row 43 2 wr w.heap.size (.slice va2 m2 vcap2) m2 (entc l2) := by have h := hv; unfold Ents at h; rw [hm2] at h; exact h
          have HVR := Lib.hid hv'
          have hm2l : m2 < 1000 := by omega
          clear hv hv' hb he hk hne hl2 hm2
          by_cases hjt : j < 1
          · have hmle : l.length + j = m2 := hlen2.symm
            have HMLE := Lib.hid hmle
            clear hlen2 hmle
            by_cases hln : (m2 : Int) < n
            · go_wp2_with (at_builtin; refine wpList_append_one (es := [.int .i64 (4), .int .i64 (t)]) (.tmp 50) (.tmp 52) row_ent rfl rfl HVR.out (by rfl) (by rfl) rfl (by intro u hu; exact entc_one u (4, t) hu) (by omega) (by decide) ?_)
              intro g cap w6 hrow hk6 hor
              have HB6 := Lib.hid (HX4.out.own hk6 (by intro g hg e; have := HVR.out.at_ g hg; omega))
              have HE6 := Lib.hid (HE4.out.own hk6 (by intro g hg e; exact HNE.out g hg e.symm))
              have HK6 := Lib.hid (keep_own HK4.out hk6 (fun g hg => by have := HVR.out.at_ g hg; omega))
              have hsn := Ents.snoc (l := l2) (by rw [HM2.out]; exact hrow)
              rw [← HSN.out] at hsn
              have HV6 := Lib.hid hsn
              have HNE6 : Hid (∀ g', (Value.slice (some ⟨g, 0, none⟩) (m2 + 1) cap).ownBlock = some g' → g' ≠ w1.heap.size) := Lib.hid (by
                intro g' hg'
                simp only [Value.ownBlock, Option.some.injEq] at hg'
                subst hg'
                rcases hor with h | h
                · exact HNE.out _ h
                · omega)
              clear hrow hk6 hor hsn cx fx lx
              have hmm : ((l.length + (j + 1) : Nat) : Int) ≤ n := by have := HMLE.out; omega
              go_wp2
              go_roundw
              case rel => exact ⟨j + 1, by omega, by go_num, HV6.out, hmm, HB6.out, HE6.out, HK6.out, HNE6.out⟩
              case measure => simp [intOf]; omega
            · have hq5 : decide ((m2 : Int) < n) = false := by simp; omega
              have hst := HLD.out.step (by omega)
              unfold D38.run at hst
              rw [HFA.out.1, HFA.out.2.1, HFA.out.2.2.1, HFA.out.2.2.2, HTK.out (.inr (by have := HMLE.out; omega))] at hst
              have HST := Lib.hid hst
              have hml := HMLE.out
              have hnm : n ≤ (m2 : Int) := by omega
              have hm3 : m2 ≤ 300 := by omega
              have hml2 : l.length < m2 := by omega
              clear hst hln hml
              go_wp2
              go_roundw
              case rel => exact ⟨_, _, by unfold Ents; rw [HM2.out]; exact HVR.out, HX4.out, HK4.out, HST.out, by rw [HM2.out]; omega, by rw [HM2.out]; omega⟩
              case measure => simp only; omega
          · obtain rfl : j = 1 := by omega
            have hst := HLD.out.step (by omega)
            unfold D38.run at hst
            rw [HFA.out.1, HFA.out.2.1, HFA.out.2.2.1, HFA.out.2.2.2, HTK.out (.inl rfl)] at hst
            have HST := Lib.hid hst
            clear hst hjt hj
            go_wp2
            go_roundw
            case rel => exact ⟨_, _, by unfold Ents; rw [HM2.out]; exact HVR.out, HX4.out, HK4.out, HST.out, by rw [HM2.out]; omega, by rw [HM2.out]; omega⟩
            case measure => simp only; omega
      have hk3 : 3 ≤ k8 := by omega
      have hk8 := HK8.out
      obtain ⟨q, hq, hq1⟩ := D38.bel_nat s (K + 2) (n := 16) (by decide)
      have HFA := Lib.hid (D38.facts3 (T := T) hk8 hk3 hq)
      have HQQ := Lib.hid hq
      clear hq
      have HB0 := Lib.hid (fun (w : World) (h : Blk w b [.int .u64 s, .int .i64 K]) => refd_below h (by omega) 8 (by decide))
      rw [show D38.belN K 8 = K + 1 from rfl] at HB0
      rw [hk8] at HB0
      have q0 : ((k8 : Int) == 0) = false := by simp; omega
      have q1 : ((k8 : Int) == 1) = false := by simp; omega
      have q2 : ((k8 : Int) == 2) = false := by simp; omega
      have q3 : decide (1 < (k8 : Int)) = true := by simp; omega
      have q4 : ((k8 : Int) != 2) = true := by simp; omega
      clear hk8
      go_wp2_with fail
      refine (HB0.out _ HB.out).mono ?_
      rintro e w1 ⟨rfl, hb, hk1⟩
      have HK1 : Hid (Keep [b] w w1) := Lib.hid (HK.out.trans hk1)
      have HX1 := Lib.hid hb
      have HV1 := Lib.hid (HV.out.keep hk1 (by intro g hg hm; have := HVB.out g hg; simp only [List.mem_cons, List.not_mem_nil, or_false] at hm; omega))
      have hws1 := HK1.out.size
      have hbl1 := hb.lt
      have hsz1 := hk1.size
      clear hb hk1
      have HB2 := Lib.hid (fun (w : World) (h : Blk w b [.int .u64 s, .int .i64 ((K + 1 : Nat) : Int)]) => refd_below h (by omega) T (by omega))
      rw [show D38.belN (K + 1) T = K + 2 by unfold D38.belN; rw [if_neg (by omega)]] at HB2
      obtain ⟨t, ht⟩ : ∃ t, D38.bel s (K + 1) T = t := ⟨_, rfl⟩
      rw [ht] at HFA HB2
      clear ht
      go_wp2_with fail
      refine (HB2.out _ (by (repeat (first | with_reducible exact HX1.out | with_reducible apply Blk.drewN | with_reducible apply Blk.drew | with_reducible apply Blk.alloc | with_reducible apply Blk.set | (with_reducible apply Blk.other; rotate_left; (first | assumption | (simp; omega)); rotate_right) | with_reducible rfl | rfl)))).mono ?_
      rintro e w2 ⟨rfl, hb, hk2⟩
      have he2 : Blk w2 w1.heap.size [.int .i64 1, .int .i64 0] := Blk.keep (by (repeat (first | with_reducible exact Blk.new rfl | with_reducible apply Blk.drew | with_reducible apply Blk.set | with_reducible apply Blk.alloc | with_reducible rfl | rfl))) hk2 (by simp; omega)
      have HK2 : Hid (Keep [b] w w2) := Lib.hid (Keep.trans (by (repeat (first | with_reducible exact HK1.out | with_reducible exact Keep.refl _ _ | with_reducible refine Keep.drewN ?_ | with_reducible refine Keep.drew ?_ | with_reducible refine Keep.alloc ?_ | ((with_reducible refine Keep.setNew ?_ ?_); rotate_left; (simp <;> omega)) | ((with_reducible refine Keep.set ?_ ?_); rotate_left; (simp <;> done))))) hk2)
      have HX2 := Lib.hid hb
      have HE2 := Lib.hid he2
      have HV2 := Lib.hid (Row.keep (show Row 43 2 _ w.heap.size (.slice va l.length vcap) l.length (entc l) from by (repeat (first | with_reducible exact HV1.out | with_reducible apply Row.alloc | ((with_reducible refine Row.stored ?_ ?_); rotate_left; (intro g hg; have := HVB.out g hg; simp <;> omega))))) hk2 (by intro g hg hm; have := HVB.out g hg; simp only [List.mem_cons, List.not_mem_nil, or_false] at hm; omega))
      have hws2 := HK2.out.size
      have cx := he2.cell
      have fx := he2.free
      have lx := he2.lt
      clear hb hk2 he2
      have HB3 := Lib.hid (fun (w : World) (h : Blk w b [.int .u64 s, .int .i64 ((K + 2 : Nat) : Int)]) => refd_below h (by omega) 16 (by decide))
      rw [show D38.belN (K + 2) 16 = K + 2 + 1 from rfl] at HB3
      rw [HQQ.out] at HB3
      go_wp2_with fail
      refine (HB3.out _ (by (repeat (first | with_reducible exact HX2.out | with_reducible apply Blk.drewN | with_reducible apply Blk.drew | with_reducible apply Blk.alloc | with_reducible apply Blk.set | (with_reducible apply Blk.other; rotate_left; (first | assumption | (simp; omega)); rotate_right) | with_reducible rfl | rfl)))).mono ?_
      rintro e w3 ⟨rfl, hb, hk3⟩
      have he3 : Blk w3 w1.heap.size [.int .i64 1, .int .i64 t] := Blk.keep (by (repeat (first | with_reducible exact HE2.out | with_reducible exact Blk.new rfl | with_reducible apply Blk.drew | with_reducible apply Blk.set | with_reducible apply Blk.alloc | with_reducible rfl | rfl))) hk3 (by simp; omega)
      have HK3 : Hid (Keep [b] w w3) := Lib.hid (Keep.trans (by (repeat (first | with_reducible exact HK2.out | with_reducible exact Keep.refl _ _ | with_reducible refine Keep.drewN ?_ | with_reducible refine Keep.drew ?_ | with_reducible refine Keep.alloc ?_ | ((with_reducible refine Keep.setNew ?_ ?_); rotate_left; (simp <;> omega)) | ((with_reducible refine Keep.set ?_ ?_); rotate_left; (simp <;> done))))) hk3)
      have HX3 := Lib.hid hb
      have HE3 := Lib.hid he3
      have HV3 := Lib.hid (Row.keep (show Row 43 2 _ w.heap.size (.slice va l.length vcap) l.length (entc l) from by (repeat (first | with_reducible exact HV2.out | with_reducible apply Row.alloc | ((with_reducible refine Row.stored ?_ ?_); rotate_left; (intro g hg; have := HVB.out g hg; simp <;> omega))))) hk3 (by intro g hg hm; have := HVB.out g hg; simp only [List.mem_cons, List.not_mem_nil, or_false] at hm; omega))
      have hws3 := HK3.out.size
      clear hb hk3 he3
      clear cx fx lx
      have hw1 : IntKind.i64.wrap (1 + (q : Int)) = (q : Int) + 1 := by rw [IntKind.wrap_i64]; omega
      have hEB : w1.heap.size < w3.heap.size := HE3.out.lt
      go_wp2
      skip
      go_loopw [7, 11] (fun v i wq => ∃ j : Nat, j ≤ q + 1 ∧ i = .int .i64 j ∧ Ents wq w.heap.size v (l ++ List.replicate j (1, t)) ∧ ((l.length + j : Nat) : Int) ≤ n ∧ Blk wq b [.int .u64 s, .int .i64 ((K + 2 + 1 : Nat) : Int)] ∧ Blk wq w1.heap.size [.int .i64 1, .int .i64 t] ∧ Keep [b] w wq ∧ (∀ g, v.ownBlock = some g → g ≠ w1.heap.size)) (fun _ i _ => q + 1 - (intOf i).toNat)
      case atStart => exact ⟨0, Nat.zero_le _, rfl, by rw [List.replicate_zero, List.append_nil]; exact HV3.out, by simp; omega, HX3.out, HE3.out, HK3.out, by intro g hg; have := HVB.out g hg; omega⟩
      case round =>
        obtain ⟨j, hj, rfl, hv, hjn, hb, he, hk, hne⟩ := hrel
        obtain ⟨va2, vcap2, rfl⟩ := hv.form
        have HLEN := Lib.hid (show (l ++ List.replicate j ((1, t) : Int × Int)).length = l.length + j by simp)
        have HSN := Lib.hid (show (l ++ List.replicate (j + 1) ((1, t) : Int × Int)) = (l ++ List.replicate j (1, t)) ++ [(1, t)] by rw [rep_snoc, List.append_assoc])
        have HTK := Lib.hid (fun h2 => take_rep (α := Int × Int) (l := l) (e := (1, t)) (j := j) (q := q + 1) (n := n.toNat) hj (by omega) h2)
        obtain ⟨l2, hl2⟩ : ∃ l2, l ++ List.replicate j ((1, t) : Int × Int) = l2 := ⟨_, rfl⟩
        rw [hl2] at hv HLEN HSN HTK hne
        rw [hl2]
        have hlen2 := HLEN.out
        have HV4 := Lib.hid hv
        have HX4 := Lib.hid hb
        have HE4 := Lib.hid he
        have HK4 := Lib.hid hk
        have cx := he.cell
        have fx := he.free
        have lx := he.lt
        have hws4 := hk.size
        obtain ⟨m2, hm2⟩ : ∃ m2, l2.length = m2 := ⟨_, rfl⟩
        rw [hm2] at hlen2 hne
        have HNE := Lib.hid hne
        have HM2 := Lib.hid hm2
        rw [hm2]
        have hv' : Row 43 2 wr w.heap.size (.slice va2 m2 vcap2) m2 (entc l2) := by have h := hv; unfold Ents at h; rw [hm2] at h; exact h
        have HVR := Lib.hid hv'
        have hm2l : m2 < 1000 := by omega
        clear hv hv' hb he hk hne hl2 hm2
        by_cases hjt : j < q + 1
        · have hmle : l.length + j = m2 := hlen2.symm
          have HMLE := Lib.hid hmle
          clear hlen2 hmle
          by_cases hln : (m2 : Int) < n
          · go_wp2_with (at_builtin; refine wpList_append_one (es := [.int .i64 (1), .int .i64 (t)]) (.tmp 50) (.tmp 52) row_ent rfl rfl HVR.out (by rfl) (by rfl) rfl (by intro u hu; exact entc_one u (1, t) hu) (by omega) (by decide) ?_)
            intro g cap w6 hrow hk6 hor
            have HB6 := Lib.hid (HX4.out.own hk6 (by intro g hg e; have := HVR.out.at_ g hg; omega))
            have HE6 := Lib.hid (HE4.out.own hk6 (by intro g hg e; exact HNE.out g hg e.symm))
            have HK6 := Lib.hid (keep_own HK4.out hk6 (fun g hg => by have := HVR.out.at_ g hg; omega))
            have hsn := Ents.snoc (l := l2) (by rw [HM2.out]; exact hrow)
            rw [← HSN.out] at hsn
            have HV6 := Lib.hid hsn
            have HNE6 : Hid (∀ g', (Value.slice (some ⟨g, 0, none⟩) (m2 + 1) cap).ownBlock = some g' → g' ≠ w1.heap.size) := Lib.hid (by
              intro g' hg'
              simp only [Value.ownBlock, Option.some.injEq] at hg'
              subst hg'
              rcases hor with h | h
              · exact HNE.out _ h
              · omega)
            clear hrow hk6 hor hsn cx fx lx
            have hmm : ((l.length + (j + 1) : Nat) : Int) ≤ n := by have := HMLE.out; omega
            go_wp2
            go_roundw
            case rel => exact ⟨j + 1, by omega, by go_num, HV6.out, hmm, HB6.out, HE6.out, HK6.out, HNE6.out⟩
            case measure => simp [intOf]; omega
          · have hq5 : decide ((m2 : Int) < n) = false := by simp; omega
            have hst := HLD.out.step (by omega)
            unfold D38.run at hst
            rw [HFA.out.1, HFA.out.2.1, HFA.out.2.2.1, HFA.out.2.2.2, HTK.out (.inr (by have := HMLE.out; omega))] at hst
            have HST := Lib.hid hst
            have hml := HMLE.out
            have hnm : n ≤ (m2 : Int) := by omega
            have hm3 : m2 ≤ 300 := by omega
            have hml2 : l.length < m2 := by omega
            clear hst hln hml
            go_wp2
            go_roundw
            case rel => exact ⟨_, _, by unfold Ents; rw [HM2.out]; exact HVR.out, HX4.out, HK4.out, HST.out, by rw [HM2.out]; omega, by rw [HM2.out]; omega⟩
            case measure => simp only; omega
        · obtain rfl : j = q + 1 := by omega
          have hst := HLD.out.step (by omega)
          unfold D38.run at hst
          rw [HFA.out.1, HFA.out.2.1, HFA.out.2.2.1, HFA.out.2.2.2, HTK.out (.inl rfl)] at hst
          have HST := Lib.hid hst
          clear hst hjt hj
          go_wp2
          go_roundw
          case rel => exact ⟨_, _, by unfold Ents; rw [HM2.out]; exact HVR.out, HX4.out, HK4.out, HST.out, by rw [HM2.out]; omega, by rw [HM2.out]; omega⟩
          case measure => simp only; omega
    · have hq3 : decide ((l.length : Int) < n) = false := by simp; omega
      have HF := Lib.hid (HLD.out.stop (by omega))
      clear hlt
      go_wp2
      go_ret
      rw [HF.out]
      exact ⟨_, rfl, HV.out, HB.out, HK.out⟩

end Go.Proofs.Ytophgiocmldliaa
