/- Package dice: a number below another one, of the document; a word of a program, of both. -/
import Derived.Test.YtophgiocmldliaaD1
namespace Go.Proofs.Ytophgiocmldliaa
open Go.RowKit
set_option maxRecDepth 100000 in
set_option maxHeartbeats 600000 in
theorem refd_below {w : World} {b : Nat} {s : Int} {N : Nat} (h : Blk w b [.int .u64 s, .int .i64 N]) (hN : N < 100000000) (n : Int) (n1 : n < 9223372036854775808) :
    Calls Try.prog 113 #[.pointer (some ⟨b, 0, none⟩), .int .i64 n] w fun e w' => e = .returned (.int .i64 (D38.bel s N n)) ∧ Blk w' b [.int .u64 s, .int .i64 (D38.belN N n : Nat)] ∧ Keep [b] w w' := by
  unfold D38.bel D38.belN
  by_cases hn : n < 1
  · rw [if_pos hn, if_pos hn]
    have HX := Lib.hid h
    have q : decide (n < 1) = true := by simpa using hn
    clear h
    go_enter Try.func113, Try.ntmps113
    go_wp2
    go_ret
    exact ⟨rfl, HX.out, Keep.refl _ _⟩
  · rw [if_neg hn, if_neg hn]
    have HX := Lib.hid h
    have HN := Lib.hid (fun w => ref_number s (N + 1) (by omega) w)
    have q : decide (n < 1) = false := by simpa using hn
    have hr := D38.num_range s (N + 1)
    have hr0 := hr.1
    have hr1 := hr.2
    have hm0 : 0 ≤ D38.num s (N + 1) % n := Int.emod_nonneg _ (by omega)
    have hm1 : D38.num s (N + 1) % n < n := Int.emod_lt_of_pos _ (by omega)
    have hn0 : 1 ≤ n := by omega
    have hz : (n == 0) = false := by simp; omega
    have hN0 : (N : Int) < 100000000 := by omega
    have cx := h.cell
    have fx := h.free
    have lx := h.lt
    clear h hr hn
    go_enter Try.func113, Try.ntmps113
    go_wp2
    go_quiet ((go_at_call 26; exact Calls.quiet_of_same ((HN.out _).mono fun _ _ hh => ⟨hh.1, hh.2.symm⟩)))
    go_wp2
    go_ret
    exact ⟨rfl, (Blk.set HX.out rfl).drewN, (Keep.set (Keep.refl _ _) (by simp)).drewN⟩

namespace D38
def word (s : Int) (N : Nat) (n : Int) : Int :=
  if bel s N 8 = 0 then 2 + 8 * bel s (N + 1) n else if bel s N 8 = 1 then 3 else if bel s N 8 = 2 then 4 else if bel s N 8 = 3 then 5 + 8 * bel s (N + 1) 8 else if bel s N 8 = 4 then 6 else 1 + 8 * bel s (N + 1) 16
def wordN (s : Int) (N : Nat) (n : Int) : Nat :=
  if bel s N 8 = 0 then belN (N + 1) n else if bel s N 8 = 1 then N + 1 else if bel s N 8 = 2 then N + 1 else if bel s N 8 = 3 then N + 2 else if bel s N 8 = 4 then N + 1 else N + 2
theorem or_add {r k : Nat} (hk : k < 8) (hr : r < 1000) : bits .or .u64 (r * 8 : Nat) (k : Nat) = (r * 8 + k : Nat) := by
  have h1 : ∀ (x : Nat), x < 10000 → (BitVec.ofInt 64 (x : Int)).toNat = x := by
    intro x hx
    rw [BitVec.toNat_ofInt]
    omega
  have e : ∀ a b : Int, bits .or .u64 a b = IntKind.u64.wrap ((BitVec.ofInt 64 a ||| BitVec.ofInt 64 b : BitVec 64).toNat : Nat) := fun _ _ => rfl
  rw [e, BitVec.toNat_or, h1 _ (by omega), h1 _ (by omega), u64w]
  have h2 : r * 8 ||| k = r * 8 + k := by
    have := Nat.two_pow_add_eq_or_of_lt (i := 3) (b := k) (by omega) r
    rw [Nat.mul_comm, ← this]
  rw [h2]
  omega
end D38
set_option maxRecDepth 100000 in
set_option maxHeartbeats 600000 in
theorem dice_word (k r : Int) (k0 : 0 ≤ k) (k1 : k < 8) (r0 : 0 ≤ r) (r1 : r < 1000) (w : World) :
    Calls Try.prog 174 #[.int .i64 k, .int .i64 r] w fun e w' => e = .returned (.int .u64 (k + 8 * r)) ∧ w = w' := by
  obtain ⟨a, rfl⟩ := Int.eq_ofNat_of_zero_le k0
  obtain ⟨b, rfl⟩ := Int.eq_ofNat_of_zero_le r0
  have H := Lib.hid (D38.or_add (r := b) (k := a) (by omega) (by omega))
  go_enter Try.func174, Try.ntmps174
  go_wp2
  go_ret
  refine ⟨D38.ret_u64 ?_, rfl⟩
  have h := H.out
  simp only [Int.natCast_mul, Int.natCast_add] at h
  refine h.trans ?_
  simp
  omega

set_option maxRecDepth 100000 in
set_option maxHeartbeats 600000 in
theorem dice_instr_0 {w : World} {b : Nat} {s : Int} {N : Nat} (h : Blk w b [.int .u64 (D38.at_ s N)]) (hN : N < 100000) (n : Int) (n0 : 1 ≤ n) (n1 : n ≤ 16) (hk : D38.bel s N 8 = 0) :
    Calls Try.prog 114 #[.pointer (some ⟨b, 0, none⟩), .int .i64 n] w fun e w' => e = .returned (.int .u64 (D38.word s N n)) ∧ Blk w' b ([.int .u64 (D38.at_ s (D38.wordN s N n))]) ∧ Keep [b] w w' := by
  have HW : Hid (D38.word s N n = 2 + 8 * D38.bel s (N + 1) n) := Lib.hid (by unfold D38.word; rw [if_pos hk])
  have HN : Hid (D38.wordN s N n = D38.belN (N + 1) n) := Lib.hid (by unfold D38.wordN; rw [if_pos hk])
  have HB := Lib.hid (dice_below h 8 (by decide))
  have hN1 : D38.belN N 8 = N + 1 := rfl
  rw [hN1] at HB
  rw [hk] at HB
  clear hk hN1 h
  have hr := D38.bel_range s (N + 1) (n := n) (by omega)
  have hr0 := hr.1
  have hr1 : D38.bel s (N + 1) n < 16 := by omega
  clear hr
  have HB2 := Lib.hid (fun (w : World) (h : Blk w b ([.int .u64 (D38.at_ s (N + 1))])) => dice_below h (n) (by omega))
  obtain ⟨r, hr⟩ : ∃ r, D38.bel s (N + 1) n = r := ⟨_, rfl⟩
  rw [hr] at HB2 HW hr0 hr1
  clear hr
  go_enter Try.func114, Try.ntmps114
  go_wp2_with fail
  refine HB.out.mono ?_
  rintro e w1 ⟨rfl, hb, hk1⟩
  have HX1 := Lib.hid hb
  have HK1 := Lib.hid hk1
  clear hb hk1
  go_wp2_with fail
  refine (HB2.out _ HX1.out).mono ?_
  rintro e w2 ⟨rfl, hb, hk2⟩
  have HX2 := Lib.hid hb
  have HK2 := Lib.hid hk2
  clear hb hk2
  go_wp2_with fail
  refine (dice_word 2 r (by decide) (by decide) hr0 (by omega) _).mono ?_
  rintro e w3 ⟨rfl, rfl⟩
  go_wp2
  go_ret
  rw [HW.out, HN.out]
  exact ⟨D38.ret_u64 (by first | rfl | omega), HX2.out, HK1.out.trans HK2.out⟩

set_option maxRecDepth 100000 in
set_option maxHeartbeats 600000 in
theorem dice_instr_1 {w : World} {b : Nat} {s : Int} {N : Nat} (h : Blk w b [.int .u64 (D38.at_ s N)]) (hN : N < 100000) (n : Int) (n0 : 1 ≤ n) (n1 : n ≤ 16) (hk : D38.bel s N 8 = 1) :
    Calls Try.prog 114 #[.pointer (some ⟨b, 0, none⟩), .int .i64 n] w fun e w' => e = .returned (.int .u64 (D38.word s N n)) ∧ Blk w' b ([.int .u64 (D38.at_ s (D38.wordN s N n))]) ∧ Keep [b] w w' := by
  have HW : Hid (D38.word s N n = 3) := Lib.hid (by unfold D38.word; rw [if_neg (by omega)]; rw [if_pos hk])
  have HN : Hid (D38.wordN s N n = N + 1) := Lib.hid (by unfold D38.wordN; rw [if_neg (by omega)]; rw [if_pos hk])
  have HB := Lib.hid (dice_below h 8 (by decide))
  have hN1 : D38.belN N 8 = N + 1 := rfl
  rw [hN1] at HB
  rw [hk] at HB
  clear hk hN1 h
  go_enter Try.func114, Try.ntmps114
  go_wp2_with fail
  refine HB.out.mono ?_
  rintro e w1 ⟨rfl, hb, hk1⟩
  have HX1 := Lib.hid hb
  have HK1 := Lib.hid hk1
  clear hb hk1
  go_wp2_with fail
  refine (dice_word 3 0 (by decide) (by decide) (by decide) (by decide) _).mono ?_
  rintro e w3 ⟨rfl, rfl⟩
  go_wp2
  go_ret
  rw [HW.out, HN.out]
  exact ⟨D38.ret_u64 (by first | rfl | omega), HX1.out, HK1.out⟩

set_option maxRecDepth 100000 in
set_option maxHeartbeats 600000 in
theorem dice_instr_2 {w : World} {b : Nat} {s : Int} {N : Nat} (h : Blk w b [.int .u64 (D38.at_ s N)]) (hN : N < 100000) (n : Int) (n0 : 1 ≤ n) (n1 : n ≤ 16) (hk : D38.bel s N 8 = 2) :
    Calls Try.prog 114 #[.pointer (some ⟨b, 0, none⟩), .int .i64 n] w fun e w' => e = .returned (.int .u64 (D38.word s N n)) ∧ Blk w' b ([.int .u64 (D38.at_ s (D38.wordN s N n))]) ∧ Keep [b] w w' := by
  have HW : Hid (D38.word s N n = 4) := Lib.hid (by unfold D38.word; rw [if_neg (by omega)]; rw [if_neg (by omega)]; rw [if_pos hk])
  have HN : Hid (D38.wordN s N n = N + 1) := Lib.hid (by unfold D38.wordN; rw [if_neg (by omega)]; rw [if_neg (by omega)]; rw [if_pos hk])
  have HB := Lib.hid (dice_below h 8 (by decide))
  have hN1 : D38.belN N 8 = N + 1 := rfl
  rw [hN1] at HB
  rw [hk] at HB
  clear hk hN1 h
  go_enter Try.func114, Try.ntmps114
  go_wp2_with fail
  refine HB.out.mono ?_
  rintro e w1 ⟨rfl, hb, hk1⟩
  have HX1 := Lib.hid hb
  have HK1 := Lib.hid hk1
  clear hb hk1
  go_wp2_with fail
  refine (dice_word 4 0 (by decide) (by decide) (by decide) (by decide) _).mono ?_
  rintro e w3 ⟨rfl, rfl⟩
  go_wp2
  go_ret
  rw [HW.out, HN.out]
  exact ⟨D38.ret_u64 (by first | rfl | omega), HX1.out, HK1.out⟩

set_option maxRecDepth 100000 in
set_option maxHeartbeats 600000 in
theorem dice_instr_3 {w : World} {b : Nat} {s : Int} {N : Nat} (h : Blk w b [.int .u64 (D38.at_ s N)]) (hN : N < 100000) (n : Int) (n0 : 1 ≤ n) (n1 : n ≤ 16) (hk : D38.bel s N 8 = 3) :
    Calls Try.prog 114 #[.pointer (some ⟨b, 0, none⟩), .int .i64 n] w fun e w' => e = .returned (.int .u64 (D38.word s N n)) ∧ Blk w' b ([.int .u64 (D38.at_ s (D38.wordN s N n))]) ∧ Keep [b] w w' := by
  have HW : Hid (D38.word s N n = 5 + 8 * D38.bel s (N + 1) 8) := Lib.hid (by unfold D38.word; rw [if_neg (by omega)]; rw [if_neg (by omega)]; rw [if_neg (by omega)]; rw [if_pos hk])
  have HN : Hid (D38.wordN s N n = N + 2) := Lib.hid (by unfold D38.wordN; rw [if_neg (by omega)]; rw [if_neg (by omega)]; rw [if_neg (by omega)]; rw [if_pos hk])
  have HB := Lib.hid (dice_below h 8 (by decide))
  have hN1 : D38.belN N 8 = N + 1 := rfl
  rw [hN1] at HB
  rw [hk] at HB
  clear hk hN1 h
  have hr := D38.bel_range s (N + 1) (n := 8) (by omega)
  have hr0 := hr.1
  have hr1 : D38.bel s (N + 1) 8 < 16 := by omega
  clear hr
  have HB2 := Lib.hid (fun (w : World) (h : Blk w b ([.int .u64 (D38.at_ s (N + 1))])) => dice_below h (8) (by omega))
  obtain ⟨r, hr⟩ : ∃ r, D38.bel s (N + 1) 8 = r := ⟨_, rfl⟩
  rw [hr] at HB2 HW hr0 hr1
  clear hr
  go_enter Try.func114, Try.ntmps114
  go_wp2_with fail
  refine HB.out.mono ?_
  rintro e w1 ⟨rfl, hb, hk1⟩
  have HX1 := Lib.hid hb
  have HK1 := Lib.hid hk1
  clear hb hk1
  go_wp2_with fail
  refine (HB2.out _ HX1.out).mono ?_
  rintro e w2 ⟨rfl, hb, hk2⟩
  have HX2 := Lib.hid hb
  have HK2 := Lib.hid hk2
  clear hb hk2
  go_wp2_with fail
  refine (dice_word 5 r (by decide) (by decide) hr0 (by omega) _).mono ?_
  rintro e w3 ⟨rfl, rfl⟩
  go_wp2
  go_ret
  rw [HW.out, HN.out]
  exact ⟨D38.ret_u64 (by first | rfl | omega), HX2.out, HK1.out.trans HK2.out⟩

set_option maxRecDepth 100000 in
set_option maxHeartbeats 600000 in
theorem dice_instr_4 {w : World} {b : Nat} {s : Int} {N : Nat} (h : Blk w b [.int .u64 (D38.at_ s N)]) (hN : N < 100000) (n : Int) (n0 : 1 ≤ n) (n1 : n ≤ 16) (hk : D38.bel s N 8 = 4) :
    Calls Try.prog 114 #[.pointer (some ⟨b, 0, none⟩), .int .i64 n] w fun e w' => e = .returned (.int .u64 (D38.word s N n)) ∧ Blk w' b ([.int .u64 (D38.at_ s (D38.wordN s N n))]) ∧ Keep [b] w w' := by
  have HW : Hid (D38.word s N n = 6) := Lib.hid (by unfold D38.word; rw [if_neg (by omega)]; rw [if_neg (by omega)]; rw [if_neg (by omega)]; rw [if_neg (by omega)]; rw [if_pos hk])
  have HN : Hid (D38.wordN s N n = N + 1) := Lib.hid (by unfold D38.wordN; rw [if_neg (by omega)]; rw [if_neg (by omega)]; rw [if_neg (by omega)]; rw [if_neg (by omega)]; rw [if_pos hk])
  have HB := Lib.hid (dice_below h 8 (by decide))
  have hN1 : D38.belN N 8 = N + 1 := rfl
  rw [hN1] at HB
  rw [hk] at HB
  clear hk hN1 h
  go_enter Try.func114, Try.ntmps114
  go_wp2_with fail
  refine HB.out.mono ?_
  rintro e w1 ⟨rfl, hb, hk1⟩
  have HX1 := Lib.hid hb
  have HK1 := Lib.hid hk1
  clear hb hk1
  go_wp2_with fail
  refine (dice_word 6 0 (by decide) (by decide) (by decide) (by decide) _).mono ?_
  rintro e w3 ⟨rfl, rfl⟩
  go_wp2
  go_ret
  rw [HW.out, HN.out]
  exact ⟨D38.ret_u64 (by first | rfl | omega), HX1.out, HK1.out⟩

set_option maxRecDepth 100000 in
set_option maxHeartbeats 600000 in
theorem dice_instr_5 {w : World} {b : Nat} {s : Int} {N : Nat} (h : Blk w b [.int .u64 (D38.at_ s N)]) (hN : N < 100000) (n : Int) (n0 : 1 ≤ n) (n1 : n ≤ 16) (hk : 5 ≤ D38.bel s N 8) :
    Calls Try.prog 114 #[.pointer (some ⟨b, 0, none⟩), .int .i64 n] w fun e w' => e = .returned (.int .u64 (D38.word s N n)) ∧ Blk w' b ([.int .u64 (D38.at_ s (D38.wordN s N n))]) ∧ Keep [b] w w' := by
  have HW : Hid (D38.word s N n = 1 + 8 * D38.bel s (N + 1) 16) := Lib.hid (by unfold D38.word; rw [if_neg (by omega)]; rw [if_neg (by omega)]; rw [if_neg (by omega)]; rw [if_neg (by omega)]; rw [if_neg (by omega)])
  have HN : Hid (D38.wordN s N n = N + 2) := Lib.hid (by unfold D38.wordN; rw [if_neg (by omega)]; rw [if_neg (by omega)]; rw [if_neg (by omega)]; rw [if_neg (by omega)]; rw [if_neg (by omega)])
  have HB := Lib.hid (dice_below h 8 (by decide))
  have hN1 : D38.belN N 8 = N + 1 := rfl
  rw [hN1] at HB
  have q0 : (D38.bel s N 8 == 0) = false := by simp; omega
  have q1 : (D38.bel s N 8 == 1) = false := by simp; omega
  have q2 : (D38.bel s N 8 == 2) = false := by simp; omega
  have q3 : (D38.bel s N 8 == 3) = false := by simp; omega
  have q4 : (D38.bel s N 8 == 4) = false := by simp; omega
  obtain ⟨k, hkk⟩ : ∃ k, D38.bel s N 8 = k := ⟨_, rfl⟩
  rw [hkk] at HB q0 q1 q2 q3 q4
  clear hkk
  clear hk hN1 h
  have hr := D38.bel_range s (N + 1) (n := 16) (by omega)
  have hr0 := hr.1
  have hr1 : D38.bel s (N + 1) 16 < 16 := by omega
  clear hr
  have HB2 := Lib.hid (fun (w : World) (h : Blk w b ([.int .u64 (D38.at_ s (N + 1))])) => dice_below h (16) (by omega))
  obtain ⟨r, hr⟩ : ∃ r, D38.bel s (N + 1) 16 = r := ⟨_, rfl⟩
  rw [hr] at HB2 HW hr0 hr1
  clear hr
  go_enter Try.func114, Try.ntmps114
  go_wp2_with fail
  refine HB.out.mono ?_
  rintro e w1 ⟨rfl, hb, hk1⟩
  have HX1 := Lib.hid hb
  have HK1 := Lib.hid hk1
  clear hb hk1
  go_wp2_with fail
  refine (HB2.out _ HX1.out).mono ?_
  rintro e w2 ⟨rfl, hb, hk2⟩
  have HX2 := Lib.hid hb
  have HK2 := Lib.hid hk2
  clear hb hk2
  go_wp2_with fail
  refine (dice_word 1 r (by decide) (by decide) hr0 (by omega) _).mono ?_
  rintro e w3 ⟨rfl, rfl⟩
  go_wp2
  go_ret
  rw [HW.out, HN.out]
  exact ⟨D38.ret_u64 (by first | rfl | omega), HX2.out, HK1.out.trans HK2.out⟩

theorem dice_instr {w : World} {b : Nat} {s : Int} {N : Nat} (h : Blk w b [.int .u64 (D38.at_ s N)]) (hN : N < 100000) (n : Int) (n0 : 1 ≤ n) (n1 : n ≤ 16) :
    Calls Try.prog 114 #[.pointer (some ⟨b, 0, none⟩), .int .i64 n] w fun e w' => e = .returned (.int .u64 (D38.word s N n)) ∧ Blk w' b ([.int .u64 (D38.at_ s (D38.wordN s N n))]) ∧ Keep [b] w w' := by
  have hr := D38.bel_range s N (n := 8) (by decide)
  by_cases h0 : D38.bel s N 8 = 0
  · exact dice_instr_0 h hN n n0 n1 h0
  by_cases h1 : D38.bel s N 8 = 1
  · exact dice_instr_1 h hN n n0 n1 h1
  by_cases h2 : D38.bel s N 8 = 2
  · exact dice_instr_2 h hN n n0 n1 h2
  by_cases h3 : D38.bel s N 8 = 3
  · exact dice_instr_3 h hN n n0 n1 h3
  by_cases h4 : D38.bel s N 8 = 4
  · exact dice_instr_4 h hN n n0 n1 h4
  exact dice_instr_5 h hN n n0 n1 (by omega)

set_option maxRecDepth 100000 in
set_option maxHeartbeats 600000 in
theorem refd_word_0 {w : World} {b : Nat} {s : Int} {N : Nat} (h : Blk w b [.int .u64 s, .int .i64 N]) (hN : N < 100000) (n : Int) (n0 : 1 ≤ n) (n1 : n ≤ 16) (hk : D38.bel s N 8 = 0) :
    Calls Try.prog 115 #[.pointer (some ⟨b, 0, none⟩), .int .i64 n] w fun e w' => e = .returned (.int .u64 (D38.word s N n)) ∧ Blk w' b ([.int .u64 s, .int .i64 (D38.wordN s N n : Nat)]) ∧ Keep [b] w w' := by
  have HW : Hid (D38.word s N n = 2 + 8 * D38.bel s (N + 1) n) := Lib.hid (by unfold D38.word; rw [if_pos hk])
  have HN : Hid (D38.wordN s N n = D38.belN (N + 1) n) := Lib.hid (by unfold D38.wordN; rw [if_pos hk])
  have HB := Lib.hid (refd_below h (by omega) 8 (by decide))
  have hN1 : D38.belN N 8 = N + 1 := rfl
  rw [hN1] at HB
  rw [hk] at HB
  clear hk hN1 h
  have hr := D38.bel_range s (N + 1) (n := n) (by omega)
  have hr0 := hr.1
  have hr1 : D38.bel s (N + 1) n < 16 := by omega
  clear hr
  have HB2 := Lib.hid (fun (w : World) (h : Blk w b ([.int .u64 s, .int .i64 (N + 1 : Nat)])) => refd_below h (by omega) (n) (by omega))
  obtain ⟨r, hr⟩ : ∃ r, D38.bel s (N + 1) n = r := ⟨_, rfl⟩
  rw [hr] at HB2 HW hr0 hr1
  clear hr
  go_enter Try.func115, Try.ntmps115
  go_wp2_with fail
  refine HB.out.mono ?_
  rintro e w1 ⟨rfl, hb, hk1⟩
  have HX1 := Lib.hid hb
  have HK1 := Lib.hid hk1
  clear hb hk1
  go_wp2_with fail
  refine (HB2.out _ HX1.out).mono ?_
  rintro e w2 ⟨rfl, hb, hk2⟩
  have HX2 := Lib.hid hb
  have HK2 := Lib.hid hk2
  clear hb hk2
  go_wp2
  go_ret
  rw [HW.out, HN.out]
  exact ⟨D38.ret_u64 (by first | rfl | omega), HX2.out, HK1.out.trans HK2.out⟩

set_option maxRecDepth 100000 in
set_option maxHeartbeats 600000 in
theorem refd_word_1 {w : World} {b : Nat} {s : Int} {N : Nat} (h : Blk w b [.int .u64 s, .int .i64 N]) (hN : N < 100000) (n : Int) (n0 : 1 ≤ n) (n1 : n ≤ 16) (hk : D38.bel s N 8 = 1) :
    Calls Try.prog 115 #[.pointer (some ⟨b, 0, none⟩), .int .i64 n] w fun e w' => e = .returned (.int .u64 (D38.word s N n)) ∧ Blk w' b ([.int .u64 s, .int .i64 (D38.wordN s N n : Nat)]) ∧ Keep [b] w w' := by
  have HW : Hid (D38.word s N n = 3) := Lib.hid (by unfold D38.word; rw [if_neg (by omega)]; rw [if_pos hk])
  have HN : Hid (D38.wordN s N n = N + 1) := Lib.hid (by unfold D38.wordN; rw [if_neg (by omega)]; rw [if_pos hk])
  have HB := Lib.hid (refd_below h (by omega) 8 (by decide))
  have hN1 : D38.belN N 8 = N + 1 := rfl
  rw [hN1] at HB
  rw [hk] at HB
  clear hk hN1 h
  go_enter Try.func115, Try.ntmps115
  go_wp2_with fail
  refine HB.out.mono ?_
  rintro e w1 ⟨rfl, hb, hk1⟩
  have HX1 := Lib.hid hb
  have HK1 := Lib.hid hk1
  clear hb hk1
  go_wp2
  go_ret
  rw [HW.out, HN.out]
  exact ⟨D38.ret_u64 (by first | rfl | omega), HX1.out, HK1.out⟩

set_option maxRecDepth 100000 in
set_option maxHeartbeats 600000 in
theorem refd_word_2 {w : World} {b : Nat} {s : Int} {N : Nat} (h : Blk w b [.int .u64 s, .int .i64 N]) (hN : N < 100000) (n : Int) (n0 : 1 ≤ n) (n1 : n ≤ 16) (hk : D38.bel s N 8 = 2) :
    Calls Try.prog 115 #[.pointer (some ⟨b, 0, none⟩), .int .i64 n] w fun e w' => e = .returned (.int .u64 (D38.word s N n)) ∧ Blk w' b ([.int .u64 s, .int .i64 (D38.wordN s N n : Nat)]) ∧ Keep [b] w w' := by
  have HW : Hid (D38.word s N n = 4) := Lib.hid (by unfold D38.word; rw [if_neg (by omega)]; rw [if_neg (by omega)]; rw [if_pos hk])
  have HN : Hid (D38.wordN s N n = N + 1) := Lib.hid (by unfold D38.wordN; rw [if_neg (by omega)]; rw [if_neg (by omega)]; rw [if_pos hk])
  have HB := Lib.hid (refd_below h (by omega) 8 (by decide))
  have hN1 : D38.belN N 8 = N + 1 := rfl
  rw [hN1] at HB
  rw [hk] at HB
  clear hk hN1 h
  go_enter Try.func115, Try.ntmps115
  go_wp2_with fail
  refine HB.out.mono ?_
  rintro e w1 ⟨rfl, hb, hk1⟩
  have HX1 := Lib.hid hb
  have HK1 := Lib.hid hk1
  clear hb hk1
  go_wp2
  go_ret
  rw [HW.out, HN.out]
  exact ⟨D38.ret_u64 (by first | rfl | omega), HX1.out, HK1.out⟩

set_option maxRecDepth 100000 in
set_option maxHeartbeats 600000 in
theorem refd_word_3 {w : World} {b : Nat} {s : Int} {N : Nat} (h : Blk w b [.int .u64 s, .int .i64 N]) (hN : N < 100000) (n : Int) (n0 : 1 ≤ n) (n1 : n ≤ 16) (hk : D38.bel s N 8 = 3) :
    Calls Try.prog 115 #[.pointer (some ⟨b, 0, none⟩), .int .i64 n] w fun e w' => e = .returned (.int .u64 (D38.word s N n)) ∧ Blk w' b ([.int .u64 s, .int .i64 (D38.wordN s N n : Nat)]) ∧ Keep [b] w w' := by
  have HW : Hid (D38.word s N n = 5 + 8 * D38.bel s (N + 1) 8) := Lib.hid (by unfold D38.word; rw [if_neg (by omega)]; rw [if_neg (by omega)]; rw [if_neg (by omega)]; rw [if_pos hk])
  have HN : Hid (D38.wordN s N n = N + 2) := Lib.hid (by unfold D38.wordN; rw [if_neg (by omega)]; rw [if_neg (by omega)]; rw [if_neg (by omega)]; rw [if_pos hk])
  have HB := Lib.hid (refd_below h (by omega) 8 (by decide))
  have hN1 : D38.belN N 8 = N + 1 := rfl
  rw [hN1] at HB
  rw [hk] at HB
  clear hk hN1 h
  have hr := D38.bel_range s (N + 1) (n := 8) (by omega)
  have hr0 := hr.1
  have hr1 : D38.bel s (N + 1) 8 < 16 := by omega
  clear hr
  have HB2 := Lib.hid (fun (w : World) (h : Blk w b ([.int .u64 s, .int .i64 (N + 1 : Nat)])) => refd_below h (by omega) (8) (by omega))
  obtain ⟨r, hr⟩ : ∃ r, D38.bel s (N + 1) 8 = r := ⟨_, rfl⟩
  rw [hr] at HB2 HW hr0 hr1
  clear hr
  go_enter Try.func115, Try.ntmps115
  go_wp2_with fail
  refine HB.out.mono ?_
  rintro e w1 ⟨rfl, hb, hk1⟩
  have HX1 := Lib.hid hb
  have HK1 := Lib.hid hk1
  clear hb hk1
  go_wp2_with fail
  refine (HB2.out _ HX1.out).mono ?_
  rintro e w2 ⟨rfl, hb, hk2⟩
  have HX2 := Lib.hid hb
  have HK2 := Lib.hid hk2
  clear hb hk2
  go_wp2
  go_ret
  rw [HW.out, HN.out]
  exact ⟨D38.ret_u64 (by first | rfl | omega), HX2.out, HK1.out.trans HK2.out⟩

set_option maxRecDepth 100000 in
set_option maxHeartbeats 600000 in
theorem refd_word_4 {w : World} {b : Nat} {s : Int} {N : Nat} (h : Blk w b [.int .u64 s, .int .i64 N]) (hN : N < 100000) (n : Int) (n0 : 1 ≤ n) (n1 : n ≤ 16) (hk : D38.bel s N 8 = 4) :
    Calls Try.prog 115 #[.pointer (some ⟨b, 0, none⟩), .int .i64 n] w fun e w' => e = .returned (.int .u64 (D38.word s N n)) ∧ Blk w' b ([.int .u64 s, .int .i64 (D38.wordN s N n : Nat)]) ∧ Keep [b] w w' := by
  have HW : Hid (D38.word s N n = 6) := Lib.hid (by unfold D38.word; rw [if_neg (by omega)]; rw [if_neg (by omega)]; rw [if_neg (by omega)]; rw [if_neg (by omega)]; rw [if_pos hk])
  have HN : Hid (D38.wordN s N n = N + 1) := Lib.hid (by unfold D38.wordN; rw [if_neg (by omega)]; rw [if_neg (by omega)]; rw [if_neg (by omega)]; rw [if_neg (by omega)]; rw [if_pos hk])
  have HB := Lib.hid (refd_below h (by omega) 8 (by decide))
  have hN1 : D38.belN N 8 = N + 1 := rfl
  rw [hN1] at HB
  rw [hk] at HB
  clear hk hN1 h
  go_enter Try.func115, Try.ntmps115
  go_wp2_with fail
  refine HB.out.mono ?_
  rintro e w1 ⟨rfl, hb, hk1⟩
  have HX1 := Lib.hid hb
  have HK1 := Lib.hid hk1
  clear hb hk1
  go_wp2
  go_ret
  rw [HW.out, HN.out]
  exact ⟨D38.ret_u64 (by first | rfl | omega), HX1.out, HK1.out⟩

set_option maxRecDepth 100000 in
set_option maxHeartbeats 600000 in
theorem refd_word_5 {w : World} {b : Nat} {s : Int} {N : Nat} (h : Blk w b [.int .u64 s, .int .i64 N]) (hN : N < 100000) (n : Int) (n0 : 1 ≤ n) (n1 : n ≤ 16) (hk : 5 ≤ D38.bel s N 8) :
    Calls Try.prog 115 #[.pointer (some ⟨b, 0, none⟩), .int .i64 n] w fun e w' => e = .returned (.int .u64 (D38.word s N n)) ∧ Blk w' b ([.int .u64 s, .int .i64 (D38.wordN s N n : Nat)]) ∧ Keep [b] w w' := by
  have HW : Hid (D38.word s N n = 1 + 8 * D38.bel s (N + 1) 16) := Lib.hid (by unfold D38.word; rw [if_neg (by omega)]; rw [if_neg (by omega)]; rw [if_neg (by omega)]; rw [if_neg (by omega)]; rw [if_neg (by omega)])
  have HN : Hid (D38.wordN s N n = N + 2) := Lib.hid (by unfold D38.wordN; rw [if_neg (by omega)]; rw [if_neg (by omega)]; rw [if_neg (by omega)]; rw [if_neg (by omega)]; rw [if_neg (by omega)])
  have HB := Lib.hid (refd_below h (by omega) 8 (by decide))
  have hN1 : D38.belN N 8 = N + 1 := rfl
  rw [hN1] at HB
  have q0 : (D38.bel s N 8 == 0) = false := by simp; omega
  have q1 : (D38.bel s N 8 == 1) = false := by simp; omega
  have q2 : (D38.bel s N 8 == 2) = false := by simp; omega
  have q3 : (D38.bel s N 8 == 3) = false := by simp; omega
  have q4 : (D38.bel s N 8 == 4) = false := by simp; omega
  obtain ⟨k, hkk⟩ : ∃ k, D38.bel s N 8 = k := ⟨_, rfl⟩
  rw [hkk] at HB q0 q1 q2 q3 q4
  clear hkk
  clear hk hN1 h
  have hr := D38.bel_range s (N + 1) (n := 16) (by omega)
  have hr0 := hr.1
  have hr1 : D38.bel s (N + 1) 16 < 16 := by omega
  clear hr
  have HB2 := Lib.hid (fun (w : World) (h : Blk w b ([.int .u64 s, .int .i64 (N + 1 : Nat)])) => refd_below h (by omega) (16) (by omega))
  obtain ⟨r, hr⟩ : ∃ r, D38.bel s (N + 1) 16 = r := ⟨_, rfl⟩
  rw [hr] at HB2 HW hr0 hr1
  clear hr
  go_enter Try.func115, Try.ntmps115
  go_wp2_with fail
  refine HB.out.mono ?_
  rintro e w1 ⟨rfl, hb, hk1⟩
  have HX1 := Lib.hid hb
  have HK1 := Lib.hid hk1
  clear hb hk1
  go_wp2_with fail
  refine (HB2.out _ HX1.out).mono ?_
  rintro e w2 ⟨rfl, hb, hk2⟩
  have HX2 := Lib.hid hb
  have HK2 := Lib.hid hk2
  clear hb hk2
  go_wp2
  go_ret
  rw [HW.out, HN.out]
  exact ⟨D38.ret_u64 (by first | rfl | omega), HX2.out, HK1.out.trans HK2.out⟩

theorem refd_word {w : World} {b : Nat} {s : Int} {N : Nat} (h : Blk w b [.int .u64 s, .int .i64 N]) (hN : N < 100000) (n : Int) (n0 : 1 ≤ n) (n1 : n ≤ 16) :
    Calls Try.prog 115 #[.pointer (some ⟨b, 0, none⟩), .int .i64 n] w fun e w' => e = .returned (.int .u64 (D38.word s N n)) ∧ Blk w' b ([.int .u64 s, .int .i64 (D38.wordN s N n : Nat)]) ∧ Keep [b] w w' := by
  have hr := D38.bel_range s N (n := 8) (by decide)
  by_cases h0 : D38.bel s N 8 = 0
  · exact refd_word_0 h hN n n0 n1 h0
  by_cases h1 : D38.bel s N 8 = 1
  · exact refd_word_1 h hN n n0 n1 h1
  by_cases h2 : D38.bel s N 8 = 2
  · exact refd_word_2 h hN n n0 n1 h2
  by_cases h3 : D38.bel s N 8 = 3
  · exact refd_word_3 h hN n n0 n1 h3
  by_cases h4 : D38.bel s N 8 = 4
  · exact refd_word_4 h hN n n0 n1 h4
  exact refd_word_5 h hN n n0 n1 (by omega)

end Go.Proofs.Ytophgiocmldliaa
