/- Package dice: a run of a script; entries cut to so many. -/
import Derived.Test.YtophgiocmldliaaD3
namespace Go.Proofs.Ytophgiocmldliaa
open Go.RowKit
theorem row_ent : RowT Try.prog 43 2 35 16 := ⟨by kernel_rfl, ⟨.agg #[.int .i64 0, .int .i64 0], by decide, by kernel_rfl⟩, by decide⟩
/-- Entries as cells. -/
def entc (l : List (Int × Int)) : List Value := l.flatMap fun e => [.int .i64 e.1, .int .i64 e.2]
theorem entc_len (l : List (Int × Int)) : (entc l).length = l.length * 2 := by
  induction l with
  | nil => rfl
  | cons e l ih => simp only [entc, List.flatMap_cons, List.length_append, List.length_cons, List.length_nil] at ih ⊢; omega
theorem entc_app (l k : List (Int × Int)) : entc (l ++ k) = entc l ++ entc k := by simp [entc]
theorem entc_take (l : List (Int × Int)) (n : Nat) : (entc l).take (n * 2) = entc (l.take n) := by
  induction l generalizing n with
  | nil => simp [entc]
  | cons e l ih =>
    cases n with
    | zero => simp [entc]
    | succ n =>
      have h := ih n
      simp only [entc, List.flatMap_cons, List.take_succ_cons] at h ⊢
      rw [show (n + 1) * 2 = n * 2 + 1 + 1 by omega]
      simp only [List.cons_append, List.nil_append, List.take_succ_cons, h]
theorem entc_one (u : Value) (e : Int × Int) (h : u ∈ [Value.int .i64 e.1, Value.int .i64 e.2]) : u.oneCell' = true := by
  simp only [List.mem_cons, List.not_mem_nil, or_false] at h
  rcases h with rfl | rfl <;> rfl
theorem entc_cells (l : List (Int × Int)) : ∀ u ∈ entc l, u.oneCell' = true := by
  intro u hu
  simp only [entc, List.mem_flatMap] at hu
  obtain ⟨e, _, he⟩ := hu
  exact entc_one u e he
/-- A slice of entries that a call made. -/
def Ents (w : World) (base : Nat) (v : Value) (l : List (Int × Int)) : Prop := Row 43 2 w base v l.length (entc l)
theorem Ents.snoc {w : World} {base : Nat} {v : Value} {l : List (Int × Int)} {x y : Int} (h : Row 43 2 w base v (l.length + 1) (entc l ++ [.int .i64 x, .int .i64 y])) : Ents w base v (l ++ [(x, y)]) := by
  unfold Ents
  rw [entc_app, List.length_append]
  exact h
theorem Row.cut {E sz : Nat} {w : World} {base g cap n m : Nat} {cs : List Value} (h : Row E sz w base (.slice (some ⟨g, 0, none⟩) n cap) n cs) (hm : m ≤ n) : Row E sz w base (.slice (some ⟨g, 0, none⟩) m cap) m (cs.take (m * sz)) := by
  obtain ⟨⟨h1, ⟨h2, _⟩ | ⟨g', cap', cur, hv, hb, hh, hc, hx, hs, ht⟩⟩, hbase⟩ := h
  · cases h2
  · simp only [Value.slice.injEq, Option.some.injEq, Addr.mk.injEq, and_true, true_and] at hv
    obtain ⟨rfl, rfl⟩ := hv
    have hmul : m * sz ≤ n * sz := Nat.mul_le_mul_right _ hm
    refine ⟨⟨by rw [List.length_take]; omega, .inr ⟨g, cap, cur, rfl, hb, hh, by omega, hx, hs, ?_⟩⟩, hbase⟩
    rw [← ht, List.take_take, Nat.min_eq_left hmul]
theorem Row.lit {E sz : Nat} {w : World} {base : Nat} {cs : List Value} (hb : base ≤ w.heap.size) (hl : cs.length = sz) : Row E sz (w.alloc (.cells cs.toArray E)) base (.slice (some ⟨w.heap.size, 0, none⟩) 1 1) 1 cs := by
  refine ⟨⟨by omega, .inr ⟨w.heap.size, 1, cs.toArray, rfl, hb, heap_alloc_new w _, Nat.le_refl _, by unfold maxLen; decide, by simpa using hl, ?_⟩⟩, by simp; omega⟩
  rw [Nat.one_mul, ← hl]
  simp
theorem Ents.cut {w : World} {base g cap m : Nat} {l : List (Int × Int)} (h : Ents w base (.slice (some ⟨g, 0, none⟩) l.length cap) l) (hm : m ≤ l.length) : Ents w base (.slice (some ⟨g, 0, none⟩) m cap) (l.take m) := by
  have h2 := Row.cut (m := m) h hm
  unfold Ents
  rw [List.length_take, Nat.min_eq_left hm, ← entc_take]
  exact h2
namespace D38
def eKind (s : Int) (N : Nat) : Int := if bel s N 8 = 0 then 2 else if bel s N 8 = 1 then 3 else if bel s N 8 = 2 then 4 else 1
def eWho (s T : Int) (N : Nat) : Int := if bel s N 8 ≤ 1 then 0 else bel s (N + 1) T
def eN (s : Int) (N : Nat) : Nat := if bel s N 8 ≤ 1 then N + 1 else N + 2
def eMany (s : Int) (N : Nat) : Nat := if bel s N 8 = 2 then 1 else (1 + bel s (eN s N) 16).toNat
def eEnd (s : Int) (N : Nat) : Nat := if bel s N 8 = 2 then eN s N else eN s N + 1
theorem eMany_le (s : Int) (N : Nat) : 1 ≤ eMany s N ∧ eMany s N ≤ 16 := by
  have := bel_range s (eN s N) (n := 16) (by decide)
  unfold eMany
  split <;> omega
theorem eEnd_le (s : Int) (N : Nat) : N ≤ eEnd s N ∧ eEnd s N ≤ N + 3 := by
  unfold eEnd eN
  split <;> split <;> omega
/-- The entries of one run. -/
def run (s T : Int) (N : Nat) : List (Int × Int) := List.replicate (eMany s N) (eKind s N, eWho s T N)
theorem run_len (s T : Int) (N : Nat) : (run s T N).length = eMany s N := by simp [run]
end D38
theorem rep_snoc {α : Type} (j : Nat) (x : α) : List.replicate (j + 1) x = List.replicate j x ++ [x] := List.replicate_succ'

set_option maxRecDepth 100000 in
set_option maxHeartbeats 1000000 in
theorem dice_some {w : World} {base : Nat} {va vb : Value} {l k : List (Int × Int)} (ha : Ents w base va l) (hb : Ents w base vb k) (hne : ∀ g, vb.ownBlock = some g → va.ownBlock ≠ some g) (n : Nat) (hk : k ≠ []) (hl : l.length + k.length < 100000) :
    Calls Try.prog 111 #[va, .int .i64 n, vb] w fun e w' => ∃ v, e = .returned v ∧ Ents w' base v ((l ++ k).take n) ∧ Keep va.ownBlock.toList w w' ∧ (va.ownBlock = v.ownBlock ∨ ∃ g, v.ownBlock = some g ∧ w.heap.size ≤ g) := by
  obtain ⟨aa, ca, rfl⟩ := ha.form
  have hkl : 0 < k.length := List.length_pos_iff.2 hk
  obtain ⟨gb, cb, sp, rfl, hgb, hblk, hcb, -, -⟩ := hb.blk hkl
  have HA := Lib.hid ha
  have HN : Hid (∀ (j : Nat) (u : Value), (entc k)[j]? = some u → w.cell? ((⟨gb, 0, none⟩ : Addr).add j) = some u) := Lib.hid (by
    intro j u hj
    have hc := hblk.cell j
    rw [List.getElem?_append_left (by rcases List.getElem?_eq_some_iff.1 hj with ⟨h, _⟩; exact h), hj] at hc
    rw [← hc]
    congr 1
    unfold Addr.add
    split
    · rename_i h0; simp [h0]
    · simp)
  clear ha hb hblk hk hne
  go_enter Try.func111, Try.ntmps111
  go_wp2_with (at_builtin; refine wpList_append_many (es := entc k) (.tmp 7) (.tmp 8) row_ent rfl rfl HA.out (by rfl) (by rfl) (entc_len k) HN.out (entc_cells k) hkl (by omega) (by decide) ?_)
  intro g cap w1 hrow hk1 hor
  have hrow2 : Ents w1 base (.slice (some ⟨g, 0, none⟩) (l ++ k).length cap) (l ++ k) := by
    unfold Ents
    rw [entc_app, List.length_append]
    exact hrow
  have HK1 := Lib.hid hk1
  have HOR := Lib.hid hor
  obtain ⟨_, _, _, hv, _, _, hcap, hcm, _⟩ := Row.blk hrow (by omega)
  simp only [Value.slice.injEq, Option.some.injEq, Addr.mk.injEq, and_true, true_and] at hv
  obtain ⟨rfl, rfl⟩ := hv
  unfold maxLen at hcm
  have HCUT := Lib.hid (fun m hm => Ents.cut (m := m) hrow2 hm)
  rw [List.length_append] at HCUT
  clear hrow hrow2 hk1 hor
  by_cases hle : l.length + k.length ≤ n
  · have hle' : (l.length : Int) + (k.length : Int) ≤ (n : Int) := by omega
    go_wp2
    go_ret
    exact ⟨_, rfl, by have := HCUT.out _ (Nat.le_refl _); rw [List.take_of_length_le (by rw [List.length_append]; omega)] at this ⊢; exact this, HK1.out, by rcases HOR.out with h | h; exact .inl h; exact .inr ⟨_, rfl, h⟩⟩
  · have hle' : ¬ (l.length : Int) + (k.length : Int) ≤ (n : Int) := by omega
    have hnc : (n : Int) ≤ (cap : Int) := by omega
    go_wp2
    go_ret
    exact ⟨_, rfl, HCUT.out _ (by omega), HK1.out, by rcases HOR.out with h | h; exact .inl h; exact .inr ⟨_, rfl, h⟩⟩

theorem Ents.base {w : World} {base base' : Nat} {v : Value} {l : List (Int × Int)} (h : Ents w base v l) (hb : base' ≤ base) : Ents w base' v l := by
  obtain ⟨⟨h1, h⟩, h2⟩ := h
  refine ⟨⟨h1, ?_⟩, by omega⟩
  rcases h with h | ⟨g, cap, cur, e, hg, r⟩
  · exact .inl h
  · exact .inr ⟨g, cap, cur, e, by omega, r⟩

set_option maxRecDepth 100000 in
set_option maxHeartbeats 1000000 in
theorem dice_run_0 {w : World} {b : Nat} {s : Int} {N : Nat} (h : Blk w b [.int .u64 (D38.at_ s N)]) (T : Int) (t0 : 1 ≤ T) (t1 : T ≤ 256) (hk : D38.bel s N 8 = 0) :
    Calls Try.prog 112 #[.pointer (some ⟨b, 0, none⟩), .int .i64 T] w fun e w' => ∃ v, e = .returned v ∧ Ents w' w.heap.size v (D38.run s T N) ∧ Blk w' b [.int .u64 (D38.at_ s (D38.eEnd s N))] ∧ Keep [b] w w' := by
  have hbw := h.lt
  have HEK : Hid (D38.eKind s N = 2) := Lib.hid (by unfold D38.eKind; rw [if_pos (by omega)])
  have HEW : Hid (D38.eWho s T N = 0) := Lib.hid (by unfold D38.eWho; rw [if_pos (by omega)])
  have hen : D38.eN s N = N + 1 := by unfold D38.eN; rw [if_pos (by omega)]
  have HEM : Hid (D38.eMany s N = (1 + D38.bel s (N + 1) 16).toNat) := Lib.hid (by unfold D38.eMany; rw [if_neg (by omega), hen])
  have HEE : Hid (D38.eEnd s N = N + 1 + 1) := Lib.hid (by unfold D38.eEnd; rw [if_neg (by omega), hen])
  have HRUN : Hid (D38.run s T N = List.replicate (D38.eMany s N) (D38.eKind s N, D38.eWho s T N)) := Lib.hid rfl
  have HB := Lib.hid (fun (w : World) (h : Blk w b [.int .u64 (D38.at_ s N)]) => dice_below h 8 (by decide))
  rw [show D38.belN N 8 = N + 1 from rfl] at HB
  rw [hk] at HB
  have HX := Lib.hid h
  clear hk hen h
  go_enter Try.func112, Try.ntmps112
  go_wp2_with fail
  refine (HB.out _ (by (repeat (first | with_reducible exact HX.out | with_reducible apply Blk.drewN | with_reducible apply Blk.drew | with_reducible apply Blk.alloc | with_reducible apply Blk.set | (with_reducible apply Blk.other; rotate_left; (first | assumption | (simp; omega)); rotate_right) | with_reducible rfl | rfl)))).mono ?_
  rintro e w1 ⟨rfl, hb, hk1⟩
  have he1 : Blk w1 w.heap.size [.int .i64 0, .int .i64 0] := Blk.keep (by (repeat (first | with_reducible exact Blk.new rfl | with_reducible apply Blk.drew | with_reducible apply Blk.alloc | with_reducible apply Blk.set | with_reducible rfl | rfl))) hk1 (by simp; omega)
  have HK1 : Hid (Keep [b] w w1) := Lib.hid (Keep.trans (by (repeat (first | with_reducible exact Keep.refl _ _ | with_reducible exact Keep.refl _ _ | with_reducible refine Keep.drewN ?_ | with_reducible refine Keep.drew ?_ | with_reducible refine Keep.alloc ?_ | ((with_reducible refine Keep.setNew ?_ ?_); rotate_left; (simp <;> omega)) | ((with_reducible refine Keep.set ?_ ?_); rotate_left; (simp <;> done))))) hk1)
  have HX1 := Lib.hid hb
  have HE1 := Lib.hid he1
  have cx := he1.cell
  have fx := he1.free
  have lx := he1.lt
  have hws := HK1.out.size
  clear hb hk1 he1
  have HB3 := Lib.hid (fun (w : World) (h : Blk w b [.int .u64 (D38.at_ s (N + 1))]) => dice_below h 16 (by decide))
  rw [show D38.belN (N + 1) 16 = N + 1 + 1 from rfl] at HB3
  have hr := D38.bel_range s (N + 1) (n := 16) (by decide)
  obtain ⟨q, hq⟩ : ∃ q : Nat, D38.bel s (N + 1) 16 = q := ⟨(D38.bel s (N + 1) 16).toNat, by omega⟩
  rw [hq] at HB3 HEM hr
  have hq1 : q < 16 := by omega
  clear hr hq
  have HEMQ : Hid (D38.eMany s N = q + 1) := Lib.hid (by rw [HEM.out]; omega)
  go_wp2_with fail
  refine (HB3.out _ (by (repeat (first | with_reducible exact HX1.out | with_reducible apply Blk.drewN | with_reducible apply Blk.drew | with_reducible apply Blk.alloc | with_reducible apply Blk.set | (with_reducible apply Blk.other; rotate_left; (first | assumption | (simp; omega)); rotate_right) | with_reducible rfl | rfl)))).mono ?_
  rintro e w3 ⟨rfl, hb, hk3⟩
  have he3 : Blk w3 w.heap.size [.int .i64 2, .int .i64 0] := Blk.keep (by (repeat (first | with_reducible exact HE1.out | with_reducible apply Blk.drew | with_reducible apply Blk.alloc | with_reducible apply Blk.set | with_reducible rfl | rfl))) hk3 (by simp; omega)
  have HK3 : Hid (Keep [b] w w3) := Lib.hid (Keep.trans (by (repeat (first | with_reducible exact HK1.out | with_reducible exact Keep.refl _ _ | with_reducible refine Keep.drewN ?_ | with_reducible refine Keep.drew ?_ | with_reducible refine Keep.alloc ?_ | ((with_reducible refine Keep.setNew ?_ ?_); rotate_left; (simp <;> omega)) | ((with_reducible refine Keep.set ?_ ?_); rotate_left; (simp <;> done))))) hk3)
  have HX3 := Lib.hid hb
  have HE3 := Lib.hid he3
  have hws3 := HK3.out.size
  have hwl3 := he3.lt
  clear hb hk3 he3 cx fx lx
  have hw1 : IntKind.i64.wrap (1 + (q : Int)) = (q : Int) + 1 := by rw [IntKind.wrap_i64]; omega
  go_wp2
  go_loopw [6, 31] (fun v i wq => ∃ j : Nat, j ≤ q + 1 ∧ i = .int .i64 j ∧ Ents wq (w.heap.size + 1) v (List.replicate j (2, 0)) ∧ Blk wq b [.int .u64 (D38.at_ s (N + 1 + 1))] ∧ Blk wq w.heap.size [.int .i64 2, .int .i64 0] ∧ Keep [b] w wq) (fun _ i _ => q + 1 - (intOf i).toNat)
  case atStart => exact ⟨0, Nat.zero_le _, rfl, Row.nil (by omega), HX3.out, HE3.out, HK3.out⟩
  case round =>
    obtain ⟨j, hj, rfl, hv, hb, he, hk⟩ := hrel
    obtain ⟨va, vcap, rfl⟩ := hv.form
    rw [List.length_replicate] at *
    have hv' : Row 43 2 wr (w.heap.size + 1) (.slice va j vcap) j (entc (List.replicate j (2, 0))) := by have h := hv; unfold Ents at h; rw [List.length_replicate] at h; exact h
    have HV := Lib.hid hv'
    have HX4 := Lib.hid hb
    have HE4 := Lib.hid he
    have HK4 := Lib.hid hk
    have cx := he.cell
    have fx := he.free
    have lx := he.lt
    have hws4 := hk.size
    clear hv hv' hb he hk
    by_cases hjt : j < q + 1
    · go_wp2_with (at_builtin; refine wpList_append_one (es := [.int .i64 (2), .int .i64 (0)]) (.tmp 33) (.tmp 35) row_ent rfl rfl HV.out (by rfl) (by rfl) rfl (by intro u hu; exact entc_one u (2, 0) hu) (by omega) (by decide) ?_)
      intro g cap w6 hrow hk6 hor
      have HB6 := Lib.hid (HX4.out.own hk6 (by intro g hg e; have := HV.out.at_ g hg; omega))
      have HE6 := Lib.hid (HE4.out.own hk6 (by intro g hg e; have := HV.out.at_ g hg; omega))
      have HK6 := Lib.hid (keep_own HK4.out hk6 (fun g hg => by have := HV.out.at_ g hg; omega))
      have hsn := Ents.snoc (l := List.replicate j (2, 0)) (by rw [List.length_replicate]; exact hrow)
      rw [← rep_snoc] at hsn
      have HV6 := Lib.hid hsn
      clear hrow hk6 hor hsn cx fx lx
      go_wp2
      go_roundw
      case rel => exact ⟨j + 1, by omega, by go_num, HV6.out, HB6.out, HE6.out, HK6.out⟩
      case measure => simp [intOf]; omega
    · obtain rfl : j = q + 1 := by omega
      clear hjt hj
      go_wp2
      go_ret
      refine ⟨_, rfl, ?_, ?_, HK4.out⟩
      · rw [HRUN.out, HEMQ.out, HEK.out, HEW.out]
        exact Ents.base (by unfold Ents; rw [List.length_replicate]; exact HV.out) (by omega)
      · rw [HEE.out]; exact HX4.out

set_option maxRecDepth 100000 in
set_option maxHeartbeats 1000000 in
theorem dice_run_1 {w : World} {b : Nat} {s : Int} {N : Nat} (h : Blk w b [.int .u64 (D38.at_ s N)]) (T : Int) (t0 : 1 ≤ T) (t1 : T ≤ 256) (hk : D38.bel s N 8 = 1) :
    Calls Try.prog 112 #[.pointer (some ⟨b, 0, none⟩), .int .i64 T] w fun e w' => ∃ v, e = .returned v ∧ Ents w' w.heap.size v (D38.run s T N) ∧ Blk w' b [.int .u64 (D38.at_ s (D38.eEnd s N))] ∧ Keep [b] w w' := by
  have hbw := h.lt
  have HEK : Hid (D38.eKind s N = 3) := Lib.hid (by unfold D38.eKind; rw [if_neg (by omega)]; rw [if_pos (by omega)])
  have HEW : Hid (D38.eWho s T N = 0) := Lib.hid (by unfold D38.eWho; rw [if_pos (by omega)])
  have hen : D38.eN s N = N + 1 := by unfold D38.eN; rw [if_pos (by omega)]
  have HEM : Hid (D38.eMany s N = (1 + D38.bel s (N + 1) 16).toNat) := Lib.hid (by unfold D38.eMany; rw [if_neg (by omega), hen])
  have HEE : Hid (D38.eEnd s N = N + 1 + 1) := Lib.hid (by unfold D38.eEnd; rw [if_neg (by omega), hen])
  have HRUN : Hid (D38.run s T N = List.replicate (D38.eMany s N) (D38.eKind s N, D38.eWho s T N)) := Lib.hid rfl
  have HB := Lib.hid (fun (w : World) (h : Blk w b [.int .u64 (D38.at_ s N)]) => dice_below h 8 (by decide))
  rw [show D38.belN N 8 = N + 1 from rfl] at HB
  rw [hk] at HB
  have HX := Lib.hid h
  clear hk hen h
  go_enter Try.func112, Try.ntmps112
  go_wp2_with fail
  refine (HB.out _ (by (repeat (first | with_reducible exact HX.out | with_reducible apply Blk.drewN | with_reducible apply Blk.drew | with_reducible apply Blk.alloc | with_reducible apply Blk.set | (with_reducible apply Blk.other; rotate_left; (first | assumption | (simp; omega)); rotate_right) | with_reducible rfl | rfl)))).mono ?_
  rintro e w1 ⟨rfl, hb, hk1⟩
  have he1 : Blk w1 w.heap.size [.int .i64 0, .int .i64 0] := Blk.keep (by (repeat (first | with_reducible exact Blk.new rfl | with_reducible apply Blk.drew | with_reducible apply Blk.alloc | with_reducible apply Blk.set | with_reducible rfl | rfl))) hk1 (by simp; omega)
  have HK1 : Hid (Keep [b] w w1) := Lib.hid (Keep.trans (by (repeat (first | with_reducible exact Keep.refl _ _ | with_reducible exact Keep.refl _ _ | with_reducible refine Keep.drewN ?_ | with_reducible refine Keep.drew ?_ | with_reducible refine Keep.alloc ?_ | ((with_reducible refine Keep.setNew ?_ ?_); rotate_left; (simp <;> omega)) | ((with_reducible refine Keep.set ?_ ?_); rotate_left; (simp <;> done))))) hk1)
  have HX1 := Lib.hid hb
  have HE1 := Lib.hid he1
  have cx := he1.cell
  have fx := he1.free
  have lx := he1.lt
  have hws := HK1.out.size
  clear hb hk1 he1
  have HB3 := Lib.hid (fun (w : World) (h : Blk w b [.int .u64 (D38.at_ s (N + 1))]) => dice_below h 16 (by decide))
  rw [show D38.belN (N + 1) 16 = N + 1 + 1 from rfl] at HB3
  have hr := D38.bel_range s (N + 1) (n := 16) (by decide)
  obtain ⟨q, hq⟩ : ∃ q : Nat, D38.bel s (N + 1) 16 = q := ⟨(D38.bel s (N + 1) 16).toNat, by omega⟩
  rw [hq] at HB3 HEM hr
  have hq1 : q < 16 := by omega
  clear hr hq
  have HEMQ : Hid (D38.eMany s N = q + 1) := Lib.hid (by rw [HEM.out]; omega)
  go_wp2_with fail
  refine (HB3.out _ (by (repeat (first | with_reducible exact HX1.out | with_reducible apply Blk.drewN | with_reducible apply Blk.drew | with_reducible apply Blk.alloc | with_reducible apply Blk.set | (with_reducible apply Blk.other; rotate_left; (first | assumption | (simp; omega)); rotate_right) | with_reducible rfl | rfl)))).mono ?_
  rintro e w3 ⟨rfl, hb, hk3⟩
  have he3 : Blk w3 w.heap.size [.int .i64 3, .int .i64 0] := Blk.keep (by (repeat (first | with_reducible exact HE1.out | with_reducible apply Blk.drew | with_reducible apply Blk.alloc | with_reducible apply Blk.set | with_reducible rfl | rfl))) hk3 (by simp; omega)
  have HK3 : Hid (Keep [b] w w3) := Lib.hid (Keep.trans (by (repeat (first | with_reducible exact HK1.out | with_reducible exact Keep.refl _ _ | with_reducible refine Keep.drewN ?_ | with_reducible refine Keep.drew ?_ | with_reducible refine Keep.alloc ?_ | ((with_reducible refine Keep.setNew ?_ ?_); rotate_left; (simp <;> omega)) | ((with_reducible refine Keep.set ?_ ?_); rotate_left; (simp <;> done))))) hk3)
  have HX3 := Lib.hid hb
  have HE3 := Lib.hid he3
  have hws3 := HK3.out.size
  have hwl3 := he3.lt
  clear hb hk3 he3 cx fx lx
  have hw1 : IntKind.i64.wrap (1 + (q : Int)) = (q : Int) + 1 := by rw [IntKind.wrap_i64]; omega
  go_wp2
  go_loopw [6, 31] (fun v i wq => ∃ j : Nat, j ≤ q + 1 ∧ i = .int .i64 j ∧ Ents wq (w.heap.size + 1) v (List.replicate j (3, 0)) ∧ Blk wq b [.int .u64 (D38.at_ s (N + 1 + 1))] ∧ Blk wq w.heap.size [.int .i64 3, .int .i64 0] ∧ Keep [b] w wq) (fun _ i _ => q + 1 - (intOf i).toNat)
  case atStart => exact ⟨0, Nat.zero_le _, rfl, Row.nil (by omega), HX3.out, HE3.out, HK3.out⟩
  case round =>
    obtain ⟨j, hj, rfl, hv, hb, he, hk⟩ := hrel
    obtain ⟨va, vcap, rfl⟩ := hv.form
    rw [List.length_replicate] at *
    have hv' : Row 43 2 wr (w.heap.size + 1) (.slice va j vcap) j (entc (List.replicate j (3, 0))) := by have h := hv; unfold Ents at h; rw [List.length_replicate] at h; exact h
    have HV := Lib.hid hv'
    have HX4 := Lib.hid hb
    have HE4 := Lib.hid he
    have HK4 := Lib.hid hk
    have cx := he.cell
    have fx := he.free
    have lx := he.lt
    have hws4 := hk.size
    clear hv hv' hb he hk
    by_cases hjt : j < q + 1
    · go_wp2_with (at_builtin; refine wpList_append_one (es := [.int .i64 (3), .int .i64 (0)]) (.tmp 33) (.tmp 35) row_ent rfl rfl HV.out (by rfl) (by rfl) rfl (by intro u hu; exact entc_one u (3, 0) hu) (by omega) (by decide) ?_)
      intro g cap w6 hrow hk6 hor
      have HB6 := Lib.hid (HX4.out.own hk6 (by intro g hg e; have := HV.out.at_ g hg; omega))
      have HE6 := Lib.hid (HE4.out.own hk6 (by intro g hg e; have := HV.out.at_ g hg; omega))
      have HK6 := Lib.hid (keep_own HK4.out hk6 (fun g hg => by have := HV.out.at_ g hg; omega))
      have hsn := Ents.snoc (l := List.replicate j (3, 0)) (by rw [List.length_replicate]; exact hrow)
      rw [← rep_snoc] at hsn
      have HV6 := Lib.hid hsn
      clear hrow hk6 hor hsn cx fx lx
      go_wp2
      go_roundw
      case rel => exact ⟨j + 1, by omega, by go_num, HV6.out, HB6.out, HE6.out, HK6.out⟩
      case measure => simp [intOf]; omega
    · obtain rfl : j = q + 1 := by omega
      clear hjt hj
      go_wp2
      go_ret
      refine ⟨_, rfl, ?_, ?_, HK4.out⟩
      · rw [HRUN.out, HEMQ.out, HEK.out, HEW.out]
        exact Ents.base (by unfold Ents; rw [List.length_replicate]; exact HV.out) (by omega)
      · rw [HEE.out]; exact HX4.out

set_option maxRecDepth 100000 in
set_option maxHeartbeats 1000000 in
theorem dice_run_2 {w : World} {b : Nat} {s : Int} {N : Nat} (h : Blk w b [.int .u64 (D38.at_ s N)]) (T : Int) (t0 : 1 ≤ T) (t1 : T ≤ 256) (hk : D38.bel s N 8 = 2) :
    Calls Try.prog 112 #[.pointer (some ⟨b, 0, none⟩), .int .i64 T] w fun e w' => ∃ v, e = .returned v ∧ Ents w' w.heap.size v (D38.run s T N) ∧ Blk w' b [.int .u64 (D38.at_ s (D38.eEnd s N))] ∧ Keep [b] w w' := by
  have hbw := h.lt
  have HEK : Hid (D38.eKind s N = 4) := Lib.hid (by unfold D38.eKind; rw [if_neg (by omega)]; rw [if_neg (by omega)]; rw [if_pos (by omega)])
  have HEW : Hid (D38.eWho s T N = D38.bel s (N + 1) T) := Lib.hid (by unfold D38.eWho; rw [if_neg (by omega)])
  have hen : D38.eN s N = N + 2 := by unfold D38.eN; rw [if_neg (by omega)]
  have HEM : Hid (D38.eMany s N = 1) := Lib.hid (by unfold D38.eMany; rw [if_pos (by omega)])
  have HEE : Hid (D38.eEnd s N = N + 2) := Lib.hid (by unfold D38.eEnd; rw [if_pos (by omega), hen])
  have HRUN : Hid (D38.run s T N = List.replicate (D38.eMany s N) (D38.eKind s N, D38.eWho s T N)) := Lib.hid rfl
  have HB := Lib.hid (fun (w : World) (h : Blk w b [.int .u64 (D38.at_ s N)]) => dice_below h 8 (by decide))
  rw [show D38.belN N 8 = N + 1 from rfl] at HB
  rw [hk] at HB
  have HX := Lib.hid h
  clear hk hen h
  go_enter Try.func112, Try.ntmps112
  go_wp2_with fail
  refine (HB.out _ (by (repeat (first | with_reducible exact HX.out | with_reducible apply Blk.drewN | with_reducible apply Blk.drew | with_reducible apply Blk.alloc | with_reducible apply Blk.set | (with_reducible apply Blk.other; rotate_left; (first | assumption | (simp; omega)); rotate_right) | with_reducible rfl | rfl)))).mono ?_
  rintro e w1 ⟨rfl, hb, hk1⟩
  have he1 : Blk w1 w.heap.size [.int .i64 0, .int .i64 0] := Blk.keep (by (repeat (first | with_reducible exact Blk.new rfl | with_reducible apply Blk.drew | with_reducible apply Blk.alloc | with_reducible apply Blk.set | with_reducible rfl | rfl))) hk1 (by simp; omega)
  have HK1 : Hid (Keep [b] w w1) := Lib.hid (Keep.trans (by (repeat (first | with_reducible exact Keep.refl _ _ | with_reducible exact Keep.refl _ _ | with_reducible refine Keep.drewN ?_ | with_reducible refine Keep.drew ?_ | with_reducible refine Keep.alloc ?_ | ((with_reducible refine Keep.setNew ?_ ?_); rotate_left; (simp <;> omega)) | ((with_reducible refine Keep.set ?_ ?_); rotate_left; (simp <;> done))))) hk1)
  have HX1 := Lib.hid hb
  have HE1 := Lib.hid he1
  have cx := he1.cell
  have fx := he1.free
  have lx := he1.lt
  have hws := HK1.out.size
  clear hb hk1 he1
  have HB2 := Lib.hid (fun (w : World) (h : Blk w b [.int .u64 (D38.at_ s (N + 1))]) => dice_below h T (by omega))
  rw [show D38.belN (N + 1) T = N + 2 by unfold D38.belN; rw [if_neg (by omega)]] at HB2
  go_wp2_with fail
  refine (HB2.out _ (by (repeat (first | with_reducible exact HX1.out | with_reducible apply Blk.drewN | with_reducible apply Blk.drew | with_reducible apply Blk.alloc | with_reducible apply Blk.set | (with_reducible apply Blk.other; rotate_left; (first | assumption | (simp; omega)); rotate_right) | with_reducible rfl | rfl)))).mono ?_
  rintro e w2 ⟨rfl, hb, hk2⟩
  have he2 : Blk w2 w.heap.size [.int .i64 0, .int .i64 0] := HE1.out.keep hk2 (by simp; omega)
  have HK2 : Hid (Keep [b] w w2) := Lib.hid (HK1.out.trans hk2)
  have HX2 := Lib.hid hb
  have HE2 := Lib.hid he2
  have hws2 := HK2.out.size
  clear cx fx lx
  have cx := he2.cell
  have fx := he2.free
  have lx := he2.lt
  obtain ⟨t, ht⟩ : ∃ t, D38.bel s (N + 1) T = t := ⟨_, rfl⟩
  rw [ht] at HEW
  rw [ht]
  clear hb hk2 he2 ht
  go_wp2
  go_ret
  refine ⟨_, rfl, ?_, ?_, (Keep.alloc HK2.out)⟩
  · rw [HRUN.out, HEM.out, HEK.out, HEW.out]
    show Row _ 2 _ _ _ 1 _
    exact Row.lit (E := 43) (cs := [.int .i64 4, .int .i64 t]) (by omega) (by with_unfolding_all rfl)
  · rw [HEE.out]; exact HX2.out.alloc

set_option maxRecDepth 100000 in
set_option maxHeartbeats 1000000 in
theorem dice_run_3 {w : World} {b : Nat} {s : Int} {N : Nat} (h : Blk w b [.int .u64 (D38.at_ s N)]) (T : Int) (t0 : 1 ≤ T) (t1 : T ≤ 256) (hk : 3 ≤ D38.bel s N 8) :
    Calls Try.prog 112 #[.pointer (some ⟨b, 0, none⟩), .int .i64 T] w fun e w' => ∃ v, e = .returned v ∧ Ents w' w.heap.size v (D38.run s T N) ∧ Blk w' b [.int .u64 (D38.at_ s (D38.eEnd s N))] ∧ Keep [b] w w' := by
  have hbw := h.lt
  have HEK : Hid (D38.eKind s N = 1) := Lib.hid (by unfold D38.eKind; rw [if_neg (by omega)]; rw [if_neg (by omega)]; rw [if_neg (by omega)])
  have HEW : Hid (D38.eWho s T N = D38.bel s (N + 1) T) := Lib.hid (by unfold D38.eWho; rw [if_neg (by omega)])
  have hen : D38.eN s N = N + 2 := by unfold D38.eN; rw [if_neg (by omega)]
  have HEM : Hid (D38.eMany s N = (1 + D38.bel s (N + 2) 16).toNat) := Lib.hid (by unfold D38.eMany; rw [if_neg (by omega), hen])
  have HEE : Hid (D38.eEnd s N = N + 2 + 1) := Lib.hid (by unfold D38.eEnd; rw [if_neg (by omega), hen])
  have HRUN : Hid (D38.run s T N = List.replicate (D38.eMany s N) (D38.eKind s N, D38.eWho s T N)) := Lib.hid rfl
  have HB := Lib.hid (fun (w : World) (h : Blk w b [.int .u64 (D38.at_ s N)]) => dice_below h 8 (by decide))
  rw [show D38.belN N 8 = N + 1 from rfl] at HB
  have q0 : (D38.bel s N 8 == 0) = false := by simp; omega
  have q1 : (D38.bel s N 8 == 1) = false := by simp; omega
  have q2 : (D38.bel s N 8 == 2) = false := by simp; omega
  obtain ⟨k, hkk⟩ : ∃ k, D38.bel s N 8 = k := ⟨_, rfl⟩
  rw [hkk] at HB q0 q1 q2
  clear hkk
  have HX := Lib.hid h
  clear hk hen h
  go_enter Try.func112, Try.ntmps112
  go_wp2_with fail
  refine (HB.out _ (by (repeat (first | with_reducible exact HX.out | with_reducible apply Blk.drewN | with_reducible apply Blk.drew | with_reducible apply Blk.alloc | with_reducible apply Blk.set | (with_reducible apply Blk.other; rotate_left; (first | assumption | (simp; omega)); rotate_right) | with_reducible rfl | rfl)))).mono ?_
  rintro e w1 ⟨rfl, hb, hk1⟩
  have he1 : Blk w1 w.heap.size [.int .i64 0, .int .i64 0] := Blk.keep (by (repeat (first | with_reducible exact Blk.new rfl | with_reducible apply Blk.drew | with_reducible apply Blk.alloc | with_reducible apply Blk.set | with_reducible rfl | rfl))) hk1 (by simp; omega)
  have HK1 : Hid (Keep [b] w w1) := Lib.hid (Keep.trans (by (repeat (first | with_reducible exact Keep.refl _ _ | with_reducible exact Keep.refl _ _ | with_reducible refine Keep.drewN ?_ | with_reducible refine Keep.drew ?_ | with_reducible refine Keep.alloc ?_ | ((with_reducible refine Keep.setNew ?_ ?_); rotate_left; (simp <;> omega)) | ((with_reducible refine Keep.set ?_ ?_); rotate_left; (simp <;> done))))) hk1)
  have HX1 := Lib.hid hb
  have HE1 := Lib.hid he1
  have cx := he1.cell
  have fx := he1.free
  have lx := he1.lt
  have hws := HK1.out.size
  clear hb hk1 he1
  have HB2 := Lib.hid (fun (w : World) (h : Blk w b [.int .u64 (D38.at_ s (N + 1))]) => dice_below h T (by omega))
  rw [show D38.belN (N + 1) T = N + 2 by unfold D38.belN; rw [if_neg (by omega)]] at HB2
  go_wp2_with fail
  refine (HB2.out _ (by (repeat (first | with_reducible exact HX1.out | with_reducible apply Blk.drewN | with_reducible apply Blk.drew | with_reducible apply Blk.alloc | with_reducible apply Blk.set | (with_reducible apply Blk.other; rotate_left; (first | assumption | (simp; omega)); rotate_right) | with_reducible rfl | rfl)))).mono ?_
  rintro e w2 ⟨rfl, hb, hk2⟩
  have he2 : Blk w2 w.heap.size [.int .i64 0, .int .i64 0] := HE1.out.keep hk2 (by simp; omega)
  have HK2 : Hid (Keep [b] w w2) := Lib.hid (HK1.out.trans hk2)
  have HX2 := Lib.hid hb
  have HE2 := Lib.hid he2
  have hws2 := HK2.out.size
  clear cx fx lx
  have cx := he2.cell
  have fx := he2.free
  have lx := he2.lt
  obtain ⟨t, ht⟩ : ∃ t, D38.bel s (N + 1) T = t := ⟨_, rfl⟩
  rw [ht] at HEW
  rw [ht]
  clear hb hk2 he2 ht
  have HB3 := Lib.hid (fun (w : World) (h : Blk w b [.int .u64 (D38.at_ s (N + 2))]) => dice_below h 16 (by decide))
  rw [show D38.belN (N + 2) 16 = N + 2 + 1 from rfl] at HB3
  have hr := D38.bel_range s (N + 2) (n := 16) (by decide)
  obtain ⟨q, hq⟩ : ∃ q : Nat, D38.bel s (N + 2) 16 = q := ⟨(D38.bel s (N + 2) 16).toNat, by omega⟩
  rw [hq] at HB3 HEM hr
  have hq1 : q < 16 := by omega
  clear hr hq
  have HEMQ : Hid (D38.eMany s N = q + 1) := Lib.hid (by rw [HEM.out]; omega)
  go_wp2_with fail
  refine (HB3.out _ (by (repeat (first | with_reducible exact HX2.out | with_reducible apply Blk.drewN | with_reducible apply Blk.drew | with_reducible apply Blk.alloc | with_reducible apply Blk.set | (with_reducible apply Blk.other; rotate_left; (first | assumption | (simp; omega)); rotate_right) | with_reducible rfl | rfl)))).mono ?_
  rintro e w3 ⟨rfl, hb, hk3⟩
  have he3 : Blk w3 w.heap.size [.int .i64 1, .int .i64 t] := Blk.keep (by (repeat (first | with_reducible exact HE2.out | with_reducible apply Blk.drew | with_reducible apply Blk.alloc | with_reducible apply Blk.set | with_reducible rfl | rfl))) hk3 (by simp; omega)
  have HK3 : Hid (Keep [b] w w3) := Lib.hid (Keep.trans (by (repeat (first | with_reducible exact HK2.out | with_reducible exact Keep.refl _ _ | with_reducible refine Keep.drewN ?_ | with_reducible refine Keep.drew ?_ | with_reducible refine Keep.alloc ?_ | ((with_reducible refine Keep.setNew ?_ ?_); rotate_left; (simp <;> omega)) | ((with_reducible refine Keep.set ?_ ?_); rotate_left; (simp <;> done))))) hk3)
  have HX3 := Lib.hid hb
  have HE3 := Lib.hid he3
  have hws3 := HK3.out.size
  have hwl3 := he3.lt
  clear hb hk3 he3 cx fx lx
  have hw1 : IntKind.i64.wrap (1 + (q : Int)) = (q : Int) + 1 := by rw [IntKind.wrap_i64]; omega
  go_wp2
  go_loopw [6, 31] (fun v i wq => ∃ j : Nat, j ≤ q + 1 ∧ i = .int .i64 j ∧ Ents wq (w.heap.size + 1) v (List.replicate j (1, t)) ∧ Blk wq b [.int .u64 (D38.at_ s (N + 2 + 1))] ∧ Blk wq w.heap.size [.int .i64 1, .int .i64 t] ∧ Keep [b] w wq) (fun _ i _ => q + 1 - (intOf i).toNat)
  case atStart => exact ⟨0, Nat.zero_le _, rfl, Row.nil (by omega), HX3.out, HE3.out, HK3.out⟩
  case round =>
    obtain ⟨j, hj, rfl, hv, hb, he, hk⟩ := hrel
    obtain ⟨va, vcap, rfl⟩ := hv.form
    rw [List.length_replicate] at *
    have hv' : Row 43 2 wr (w.heap.size + 1) (.slice va j vcap) j (entc (List.replicate j (1, t))) := by have h := hv; unfold Ents at h; rw [List.length_replicate] at h; exact h
    have HV := Lib.hid hv'
    have HX4 := Lib.hid hb
    have HE4 := Lib.hid he
    have HK4 := Lib.hid hk
    have cx := he.cell
    have fx := he.free
    have lx := he.lt
    have hws4 := hk.size
    clear hv hv' hb he hk
    by_cases hjt : j < q + 1
    · go_wp2_with (at_builtin; refine wpList_append_one (es := [.int .i64 (1), .int .i64 (t)]) (.tmp 33) (.tmp 35) row_ent rfl rfl HV.out (by rfl) (by rfl) rfl (by intro u hu; exact entc_one u (1, t) hu) (by omega) (by decide) ?_)
      intro g cap w6 hrow hk6 hor
      have HB6 := Lib.hid (HX4.out.own hk6 (by intro g hg e; have := HV.out.at_ g hg; omega))
      have HE6 := Lib.hid (HE4.out.own hk6 (by intro g hg e; have := HV.out.at_ g hg; omega))
      have HK6 := Lib.hid (keep_own HK4.out hk6 (fun g hg => by have := HV.out.at_ g hg; omega))
      have hsn := Ents.snoc (l := List.replicate j (1, t)) (by rw [List.length_replicate]; exact hrow)
      rw [← rep_snoc] at hsn
      have HV6 := Lib.hid hsn
      clear hrow hk6 hor hsn cx fx lx
      go_wp2
      go_roundw
      case rel => exact ⟨j + 1, by omega, by go_num, HV6.out, HB6.out, HE6.out, HK6.out⟩
      case measure => simp [intOf]; omega
    · obtain rfl : j = q + 1 := by omega
      clear hjt hj
      go_wp2
      go_ret
      refine ⟨_, rfl, ?_, ?_, HK4.out⟩
      · rw [HRUN.out, HEMQ.out, HEK.out, HEW.out]
        exact Ents.base (by unfold Ents; rw [List.length_replicate]; exact HV.out) (by omega)
      · rw [HEE.out]; exact HX4.out

end Go.Proofs.Ytophgiocmldliaa
