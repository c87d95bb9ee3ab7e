/- Two lists of ints held against each other. -/
import Derived.Test.YtophgiocmldliaaIn
namespace Go.Proofs.Ytophgiocmldliaa
open Go.RowKit
/-- A slice of ints, as it is read. -/
def IntsRd (w : World) (v : Value) (l : List Int) : Prop := (l = [] ∧ ∃ a cap, v = .slice a 0 cap) ∨ ∃ g cap sp, v = .slice (some ⟨g, 0, none⟩) l.length cap ∧ Blk w g (i64s l ++ sp) ∧ l.length ≤ cap ∧ cap ≤ maxLen
theorem Ints.alloc2 {w : World} {base : Nat} {v : Value} {xs : List Int} {o : Obj} (h : Ints w base v xs) : Ints (w.alloc o) base v xs := h.keep (Keep.alloc (Keep.refl [] w)) (by simp)
theorem Ints.rd {w : World} {base : Nat} {v : Value} {l : List Int} (h : Ints w base v l) : IntsRd w v l := by
  by_cases hl : l = []
  · subst hl
    obtain ⟨a, cap, rfl⟩ := h.form
    exact .inl ⟨rfl, a, cap, rfl⟩
  · obtain ⟨g, cap, sp, rfl, _, h2, h3, h4⟩ := h.blk (List.length_pos_iff.2 hl)
    exact .inr ⟨g, cap, sp, rfl, h2, by omega, h4⟩
theorem IntsRd.form {w : World} {v : Value} {l : List Int} (h : IntsRd w v l) : ∃ a cap, v = .slice a l.length cap := by
  rcases h with ⟨rfl, a, cap, rfl⟩ | ⟨g, cap, sp, rfl, _⟩
  · exact ⟨a, cap, rfl⟩
  · exact ⟨_, cap, rfl⟩
theorem IntsRd.keep {w w' : World} {v : Value} {l : List Int} (h : IntsRd w v l) (k : Keep [] w w') : IntsRd w' v l := by
  rcases h with h | ⟨g, cap, sp, rfl, h, r⟩
  · exact .inl h
  · exact .inr ⟨g, cap, sp, rfl, h.keep k (by simp), r⟩
theorem IntsRd.blk {w : World} {v : Value} {l : List Int} (h : IntsRd w v l) (hn : 0 < l.length) : ∃ g cap sp, v = .slice (some ⟨g, 0, none⟩) l.length cap ∧ Blk w g (i64s l ++ sp) ∧ l.length ≤ cap ∧ cap ≤ maxLen := by
  rcases h with ⟨rfl, _⟩ | h
  · simp at hn
  · exact h
theorem IntsRd.lit {w : World} {T : TypeId} (l : List Int) (hl : l.length ≤ 1000) (hn : l ≠ []) : IntsRd (w.alloc (.cells (i64s l).toArray T)) (.slice (some ⟨w.heap.size, 0, none⟩) l.length l.length) l :=
  .inr ⟨_, _, [], rfl, by rw [List.append_nil]; exact Blk.new rfl, Nat.le_refl _, by unfold maxLen; omega⟩

set_option maxRecDepth 100000 in
set_option maxHeartbeats 2000000 in
theorem same_int {w : World} {va vb : Value} {l k : List Int} (ha : IntsRd w va l) (hb : IntsRd w vb k) :
    Calls Try.prog 86 #[va, vb] w (Reads (.bool (decide (l = k))) w) := by
  obtain ⟨aa, ca, rfl⟩ := ha.form
  obtain ⟨ab, cb, rfl⟩ := hb.form
  have HA := Lib.hid ha
  have HB := Lib.hid hb
  clear ha hb
  by_cases hlen : l.length = k.length
  · have q1 : ((l.length : Int) != (k.length : Int)) = false := by simp; omega
    have HLEN := Lib.hid hlen
    clear hlen
    go_enter Try.func86, Try.ntmps86
    go_wp2
    go_loopw [5] (fun i wr => ∃ j : Nat, j ≤ l.length ∧ i = .int .i64 j ∧ l.take j = k.take j ∧ Keep [] w wr) (fun i _ => l.length - (intOf i).toNat)
    case atStart => exact ⟨0, Nat.zero_le _, rfl, by simp, Keep.refl _ _⟩
    case round =>
      obtain ⟨j, hj, rfl, htk, hkp⟩ := hrel
      have HTK := Lib.hid htk
      have HKP := Lib.hid hkp
      clear htk
      by_cases hlt : j < l.length
      · have hlk : j < k.length := by have := HLEN.out; omega
        obtain ⟨ga, ca', sa, hva, hba, hca, hcm⟩ := (HA.out.keep hkp).blk (by omega)
        obtain ⟨gb, cb', sb, hvb, hbb, hcb, -⟩ := (HB.out.keep hkp).blk (by omega)
        simp only [Value.slice.injEq] at hva hvb
        obtain ⟨rfl, -, rfl⟩ := hva
        obtain ⟨rfl, -, rfl⟩ := hvb
        have h1 := hba.cell j
        have h2 := hbb.cell j
        rw [i64s_get hlt] at h1
        rw [i64s_get hlk] at h2
        have hx0 : l.getD j 0 = l[j] := by rw [List.getD_eq_getElem?_getD, List.getElem?_eq_getElem hlt]; rfl
        have hy0 : k.getD j 0 = k[j] := by rw [List.getD_eq_getElem?_getD, List.getElem?_eq_getElem hlk]; rfl
        obtain ⟨x, hx⟩ : ∃ x, l.getD j 0 = x := ⟨_, rfl⟩
        obtain ⟨y, hy⟩ : ∃ y, k.getD j 0 = y := ⟨_, rfl⟩
        rw [hx] at h1
        rw [hy] at h2
        have HX := Lib.hid (hx0.symm.trans hx)
        have HY := Lib.hid (hy0.symm.trans hy)
        unfold maxLen at hcm
        have hjj : (j : Int) + 1 ≤ 9223372036854775807 := by omega
        have hj0 : (0 : Int) ≤ (j : Int) := by omega
        have hjl : (j : Int) < (l.length : Int) := by omega
        have hjk : (j : Int) < (k.length : Int) := by omega
        clear hx hy hx0 hy0 hba hbb hkp hcm
        by_cases hxy : x = y
        · have q2 : (x != y) = false := by simp [hxy]
          have HXY := Lib.hid hxy
          clear hxy
          go_wp2
          go_quiet (fail)
          go_wp2
          go_roundw
          case rel => exact ⟨j + 1, by omega, by go_num, by rw [List.take_succ_eq_append_getElem hlt, List.take_succ_eq_append_getElem hlk, HTK.out, HX.out, HY.out, HXY.out], HKP.out.drewN⟩
          case measure => simp [intOf]; omega
        · have q2 : (x != y) = true := by simpa using hxy
          have HR : Hid (decide (l = k) = false) := Lib.hid (by
            rw [decide_eq_false_iff_not]
            rintro rfl
            exact hxy (HX.out.symm.trans HY.out))
          clear hxy
          go_wp2
          go_quiet (fail)
          go_wp2
          go_ret
          rw [HR.out]
          exact ⟨rfl, HKP.out.drewN⟩
      · obtain rfl : j = l.length := by omega
        have HR : Hid (decide (l = k) = true) := Lib.hid (by
          rw [decide_eq_true_iff]
          have h := HTK.out
          rw [List.take_length, HLEN.out, List.take_length] at h
          exact h)
        clear hlt hj
        go_wp2
        go_ret
        rw [HR.out]
        exact ⟨rfl, HKP.out⟩
  · have q1 : ((l.length : Int) != (k.length : Int)) = true := by simp; omega
    have HR : Hid (decide (l = k) = false) := Lib.hid (by
      rw [decide_eq_false_iff_not]
      rintro rfl
      exact hlen rfl)
    clear hlen
    go_enter Try.func86, Try.ntmps86
    go_wp2
    go_ret
    rw [HR.out]
    exact ⟨rfl, Keep.refl _ _⟩

end Go.Proofs.Ytophgiocmldliaa
