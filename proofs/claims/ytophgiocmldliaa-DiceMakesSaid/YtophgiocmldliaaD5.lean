/- Package dice: scripts and draws, of both. -/
import Derived.Test.YtophgiocmldliaaD4
namespace Go.Proofs.Ytophgiocmldliaa
open Go.RowKit
theorem dice_run {w : World} {b : Nat} {s : Int} {N : Nat} (h : Blk w b [.int .u64 (D38.at_ s N)]) (T : Int) (t0 : 1 ≤ T) (t1 : T ≤ 256) :
    Calls Try.prog 112 #[.pointer (some ⟨b, 0, none⟩), .int .i64 T] w fun e w' => ∃ v, e = .returned v ∧ Ents w' w.heap.size v (D38.run s T N) ∧ Blk w' b [.int .u64 (D38.at_ s (D38.eEnd s N))] ∧ Keep [b] w w' := by
  have hr := D38.bel_range s N (n := 8) (by decide)
  by_cases h0 : D38.bel s N 8 = 0
  · exact dice_run_0 h T t0 t1 h0
  by_cases h1 : D38.bel s N 8 = 1
  · exact dice_run_1 h T t0 t1 h1
  by_cases h2 : D38.bel s N 8 = 2
  · exact dice_run_2 h T t0 t1 h2
  exact dice_run_3 h T t0 t1 (by omega)
theorem dice_some' {w : World} {base : Nat} {va vb : Value} {l k : List (Int × Int)} (ha : Ents w base va l) (hb : Ents w base vb k) (hne : ∀ g, vb.ownBlock = some g → va.ownBlock ≠ some g) (n : Int) (h0 : 0 ≤ n) (hk : k ≠ []) (hl : l.length + k.length < 100000) :
    Calls Try.prog 111 #[va, .int .i64 n, vb] w fun e w' => ∃ v, e = .returned v ∧ Ents w' base v ((l ++ k).take n.toNat) ∧ Keep va.ownBlock.toList w w' ∧ (va.ownBlock = v.ownBlock ∨ ∃ g, v.ownBlock = some g ∧ w.heap.size ≤ g) := by
  obtain ⟨m, rfl⟩ := Int.eq_ofNat_of_zero_le h0
  exact dice_some ha hb hne m hk hl
theorem Row.alloc {E sz : Nat} {w : World} {base : Nat} {v : Value} {n : Nat} {cs : List Value} {o : Obj} (h : Row E sz w base v n cs) : Row E sz (w.alloc o) base v n cs := h.keep (Keep.alloc (Keep.refl [] w)) (by simp)
theorem Row.stored {E sz : Nat} {w : World} {base : Nat} {v x : Value} {n : Nat} {cs : List Value} {p : Addr} (h : Row E sz w base v n cs) (hp : ∀ g, v.ownBlock = some g → g ≠ p.block) : Row E sz (w.setCell p x) base v n cs := h.keep ((Keep.refl [p.block] w).set (by simp)) (by intro g hg hm; simp only [List.mem_cons, List.not_mem_nil, or_false] at hm; exact hp g hg hm)
namespace D38
/-- Entries until there are n of them: f runs at most. -/
def scr (s T : Int) (n : Nat) : Nat → List (Int × Int) → Nat → List (Int × Int) × Nat
  | 0, l, N => (l, N)
  | f + 1, l, N => if l.length < n then scr s T n f ((l ++ run s T N).take n) (eEnd s N) else (l, N)
theorem scr_stop (s T : Int) (n : Nat) {l : List (Int × Int)} {N : Nat} (h : n ≤ l.length) : ∀ f, scr s T n f l N = (l, N)
  | 0 => rfl
  | f + 1 => by rw [scr, if_neg (by omega)]
/-- What is to come leads to F. -/
def Leads (s T : Int) (n : Nat) (F : List (Int × Int) × Nat) (l : List (Int × Int)) (N : Nat) : Prop := ∃ f, n ≤ l.length + f ∧ scr s T n f l N = F
theorem Leads.begin (s T : Int) (n : Nat) (N : Nat) : Leads s T n (scr s T n n [] N) [] N := ⟨n, by simp, rfl⟩
theorem Leads.step {s T : Int} {n : Nat} {F : List (Int × Int) × Nat} {l : List (Int × Int)} {N : Nat} (h : Leads s T n F l N) (hl : l.length < n) : Leads s T n F ((l ++ run s T N).take n) (eEnd s N) := by
  obtain ⟨f, h1, h2⟩ := h
  have h3 := eMany_le s N
  cases f with
  | zero => omega
  | succ f =>
    rw [scr, if_pos hl] at h2
    refine ⟨f, ?_, h2⟩
    rw [List.length_take, List.length_append, run_len]
    omega
theorem Leads.stop {s T : Int} {n : Nat} {F : List (Int × Int) × Nat} {l : List (Int × Int)} {N : Nat} (h : Leads s T n F l N) (hl : n ≤ l.length) : F = (l, N) := by
  obtain ⟨f, h1, h2⟩ := h
  rw [← h2, scr_stop s T n hl]
end D38

set_option maxRecDepth 100000 in
set_option maxHeartbeats 1000000 in
theorem dice_script {w : World} {b : Nat} {s : Int} {N : Nat} (h : Blk w b [.int .u64 (D38.at_ s N)]) (p T g : Int) (t0 : 1 ≤ T) (t1 : T ≤ 256) (n : Int) (hn : n ≤ 300) :
    Calls Try.prog 20 #[.pointer (some ⟨b, 0, none⟩), .agg #[.int .i64 p, .int .i64 T, .int .i64 g], .int .i64 n] w fun e w' => ∃ v, e = .returned v ∧ Ents w' w.heap.size v (D38.scr s T n.toNat n.toNat [] N).1 ∧ Blk w' b [.int .u64 (D38.at_ s (D38.scr s T n.toNat n.toNat [] N).2)] ∧ Keep [b] w w' := by
  have hbw := h.lt
  have HX := Lib.hid h
  obtain ⟨F, hF⟩ : ∃ F, D38.scr s T n.toNat n.toNat [] N = F := ⟨_, rfl⟩
  have HL0 := Lib.hid (D38.Leads.begin s T n.toNat N)
  rw [hF] at HL0
  rw [hF]
  have hq : decide (256 < T) = false := by simp; omega
  have hq2 : decide (T < 1) = false := by simp; omega
  clear h hF
  go_enter Try.func20, Try.ntmps20
  go_wp2
  go_loopw [7] (fun v wr => ∃ (l : List (Int × Int)) (K : Nat), Ents wr (w.heap.size + 1) v l ∧ Blk wr b [.int .u64 (D38.at_ s K)] ∧ Blk wr w.heap.size [.int .i64 p, .int .i64 T, .int .i64 g] ∧ Keep [b] w wr ∧ D38.Leads s T n.toNat F l K ∧ l.length ≤ 300) (fun v _ => n.toNat - (match v with | .slice _ k _ => k | _ => 0))
  case atStart => exact ⟨[], N, Row.nil (by simp), by (repeat (first | with_reducible exact HX.out | with_reducible apply Blk.drewN | with_reducible apply Blk.drew | with_reducible apply Blk.alloc | with_reducible apply Blk.set | (with_reducible apply Blk.other; rotate_left; (first | assumption | (simp; omega)); rotate_right) | with_reducible rfl | rfl)), Blk.new rfl, Keep.alloc (Keep.refl _ _), HL0.out, by simp⟩
  case round =>
    obtain ⟨l, K, hv, hb, hc, hk, hlead, hl⟩ := hrel
    obtain ⟨va, vcap, rfl⟩ := hv.form
    have HV := Lib.hid hv
    have HB := Lib.hid hb
    have HC := Lib.hid hc
    have HK := Lib.hid hk
    have HLD := Lib.hid hlead
    have cc := hc.cell
    have hws := hk.size
    have hvb := HV.out.at_
    have HVB := Lib.hid hvb
    clear hv hb hc hk hlead hvb HL0 HX
    by_cases hlt : (l.length : Int) < n
    · go_wp2_with fail
      refine (dice_run HB.out T t0 t1).mono ?_
      rintro e w1 ⟨vb, rfl, hvb, hb1, hk1⟩
      have HVB1 := Lib.hid hvb
      have HB1 := Lib.hid hb1
      have HC1 := Lib.hid (HC.out.keep hk1 (by simp; omega))
      have HK1 := Lib.hid (HK.out.trans hk1)
      have HV1 := Lib.hid (HV.out.keep hk1 (by intro g hg hm; have := HVB.out g hg; simp only [List.mem_cons, List.not_mem_nil, or_false] at hm; omega))
      have hws1 := hk1.size
      clear hvb hb1 hk1
      have hrl := D38.eMany_le s K
      have hne : D38.run s T K ≠ [] := by intro h0; have := D38.run_len s T K; rw [h0] at this; simp at this; omega
      go_wp2_with fail
      have hcl := HC.out.lt
      refine (dice_some' HV1.out (HVB1.out.base (by omega)) (by intro g hg hg2; have h1 := HVB1.out.at_ g hg; have h2 := HVB.out g hg2; omega) n (by omega) hne (by rw [D38.run_len]; omega)).mono ?_
      rintro e w2 ⟨v2, rfl, hv2, hk2, hor⟩
      have hst := HLD.out.step (by omega)
      have hgt : l.length < ((l ++ D38.run s T K).take n.toNat).length := by rw [List.length_take, List.length_append, D38.run_len]; omega
      have hle : ((l ++ D38.run s T K).take n.toNat).length ≤ 300 := by rw [List.length_take]; omega
      obtain ⟨l2, hl2⟩ : ∃ l2, (l ++ D38.run s T K).take n.toNat = l2 := ⟨_, rfl⟩
      rw [hl2] at hv2 hst hgt hle
      have HV2 := Lib.hid hv2
      have HST := Lib.hid hst
      have HB2 := Lib.hid (HB1.out.own hk2 (by intro g hg e; have := HVB.out g hg; omega))
      have HC2 := Lib.hid (HC1.out.own hk2 (by intro g hg e; have := HVB.out g hg; omega))
      have HK2 := Lib.hid (keep_own HK1.out hk2 (fun g hg => by have := HVB.out g hg; omega))
      obtain ⟨va2, vcap2, rfl⟩ := hv2.form
      clear hv2 hk2 hor hne hst hl2
      go_wp2
      go_roundw
      case rel => exact ⟨_, _, HV2.out, HB2.out, HC2.out, HK2.out, HST.out, hle⟩
      case measure => simp only; omega
    · have hq3 : decide ((l.length : Int) < n) = false := by simp; omega
      have HF := Lib.hid (HLD.out.stop (by omega))
      clear hlt
      go_wp2
      go_ret
      rw [HF.out]
      exact ⟨_, rfl, HV.out.base (by omega), HB.out, HK.out⟩

end Go.Proofs.Ytophgiocmldliaa
