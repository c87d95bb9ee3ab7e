/- Package dice: the words of programs, and the next numbers. -/
import Derived.Test.YtophgiocmldliaaD2
namespace Go.Proofs.Ytophgiocmldliaa
open Go.RowKit
theorem row_u64 : RowT Try.prog 22 1 39 8 := ⟨by kernel_rfl, ⟨.int .u64 0, by decide, by kernel_rfl⟩, by decide⟩
/-- Whole numbers as cells. -/
def u64c (l : List Int) : List Value := l.map (Value.int .u64)
theorem u64c_len (l : List Int) : (u64c l).length = l.length := by simp [u64c]
theorem u64c_app (l k : List Int) : u64c (l ++ k) = u64c l ++ u64c k := by simp [u64c]
namespace D38
/-- So many words of a program of n, and how many numbers were taken then. -/
def wordsN (s n : Int) : Nat → Nat → Nat
  | 0, N => N
  | k + 1, N => wordN s (wordsN s n k N) n
def words (s n : Int) : Nat → Nat → List Int
  | 0, _ => []
  | k + 1, N => words s n k N ++ [word s (wordsN s n k N) n]
def many (s : Int) (N : Nat) : Nat := (1 + bel s N 8).toNat
def progsN (s n : Int) : Nat → Nat → Nat
  | 0, N => N
  | p + 1, N => wordsN s n (many s (progsN s n p N)) (progsN s n p N + 1)
def sep (p : Nat) : List Int := if p = 0 then [] else [7]
def progs (s n : Int) : Nat → Nat → List Int
  | 0, _ => []
  | p + 1, N => progs s n p N ++ sep p ++ words s n (many s (progsN s n p N)) (progsN s n p N + 1)
theorem wordN_le (s n : Int) (N : Nat) : N ≤ wordN s N n ∧ wordN s N n ≤ N + 2 := by
  have := belN_le (N + 1) n
  unfold wordN
  split
  · omega
  split
  · omega
  split
  · omega
  split
  · omega
  split <;> omega
theorem wordsN_le (s n : Int) (N : Nat) : ∀ k, N ≤ wordsN s n k N ∧ wordsN s n k N ≤ N + 2 * k
  | 0 => by simp [wordsN]
  | k + 1 => by
    have h1 := wordsN_le s n N k
    have h2 := wordN_le s n (wordsN s n k N)
    simp only [wordsN]
    omega
theorem many_le (s : Int) (N : Nat) : 1 ≤ many s N ∧ many s N ≤ 8 ∧ (many s N : Int) = 1 + bel s N 8 := by
  have := bel_range s N (n := 8) (by decide)
  unfold many
  omega
theorem progsN_le (s n : Int) (N : Nat) : ∀ p, N ≤ progsN s n p N ∧ progsN s n p N ≤ N + 17 * p
  | 0 => by simp [progsN]
  | p + 1 => by
    have h1 := progsN_le s n N p
    have h2 := many_le s (progsN s n p N)
    have h3 := wordsN_le s n (progsN s n p N + 1) (many s (progsN s n p N))
    simp only [progsN]
    omega
theorem words_len (s n : Int) (N : Nat) : ∀ k, (words s n k N).length = k
  | 0 => rfl
  | k + 1 => by simp [words, words_len s n N k]
theorem progs_len (s n : Int) (N : Nat) : ∀ p, (progs s n p N).length ≤ 9 * p
  | 0 => by simp [progs]
  | p + 1 => by
    have h1 := progs_len s n N p
    have h2 := many_le s (progsN s n p N)
    have h3 : (sep p).length ≤ 1 := by unfold sep; split <;> simp
    simp only [progs, List.length_append, words_len]
    omega
end D38
/-- A slice of whole numbers that a call made. -/
def U64s (w : World) (base : Nat) (v : Value) (l : List Int) : Prop := Row 22 1 w base v l.length (u64c l)
theorem U64s.snoc {w : World} {base : Nat} {v : Value} {l : List Int} {x : Int} (h : Row 22 1 w base v (l.length + 1) (u64c l ++ [.int .u64 x])) : U64s w base v (l ++ [x]) := by
  unfold U64s
  rw [u64c_app, List.length_append]
  exact h
theorem keep_own {w0 w w' : World} {S : List Nat} {v : Value} (h : Keep S w0 w) (k : Keep v.ownBlock.toList w w') (hb : ∀ g, v.ownBlock = some g → w0.heap.size ≤ g) : Keep S w0 w' :=
  h.trans' k fun x hx => .inr (hb x (by simpa using hx))
theorem Blk.own {w w' : World} {b : Nat} {cs : List Value} {v : Value} (h : Blk w b cs) (k : Keep v.ownBlock.toList w w') (hb : ∀ g, v.ownBlock = some g → b ≠ g) : Blk w' b cs :=
  h.keep k fun hm => hb b (by simpa using hm) rfl

set_option maxRecDepth 100000 in
set_option maxHeartbeats 1000000 in
theorem dice_programs_a {w : World} {b : Nat} {s : Int} {N : Nat} (h : Blk w b [.int .u64 (D38.at_ s (N))]) (hN : N < 50000) (n : Int) (hn : n < 1) :
    Calls Try.prog 23 #[.pointer (some ⟨b, 0, none⟩), .int .i64 n] w fun e w' => ∃ v, e = .returned v ∧ U64s w' w.heap.size v (D38.progs s (1 : Int) ((1 : Int)).toNat N) ∧ Blk w' b [.int .u64 (D38.at_ s (D38.progsN s (1 : Int) ((1 : Int)).toNat N))] ∧ Keep [b] w w' := by
  have HX := Lib.hid h
  have hbw := h.lt
  clear h
  have c1 : ¬ 16 < n := by omega
  go_enter Try.func23, Try.ntmps23
  go_wp2
  go_loopw [5, 13] (fun v i wr => ∃ p : Nat, p ≤ ((1 : Int)).toNat ∧ i = .int .i64 p ∧ U64s wr w.heap.size v (D38.progs s (1 : Int) p N) ∧ Blk wr b [.int .u64 (D38.at_ s (D38.progsN s (1 : Int) p N))] ∧ Keep [b] w wr) (fun _ i _ => ((1 : Int)).toNat - (intOf i).toNat)
  case atStart => exact ⟨0, Nat.zero_le _, rfl, Row.nil (Nat.le_refl _), HX.out, Keep.refl _ _⟩
  case round =>
    obtain ⟨p, hp, rfl, hv, hb, hk⟩ := hrel
    have HB := Lib.hid hb
    have HK := Lib.hid hk
    have hpn := D38.progsN_le s (1 : Int) N p
    have hpl := D38.progs_len s (1 : Int) N p
    have HPP := Lib.hid (show D38.progsN s (1 : Int) (p + 1) N = D38.wordsN s (1 : Int) (D38.many s (D38.progsN s (1 : Int) p N)) (D38.progsN s (1 : Int) p N + 1) from rfl)
    have HPL := Lib.hid (show D38.progs s (1 : Int) (p + 1) N = D38.progs s (1 : Int) p N ++ D38.sep p ++ D38.words s (1 : Int) (D38.many s (D38.progsN s (1 : Int) p N)) (D38.progsN s (1 : Int) p N + 1) from rfl)
    clear hb hk
    by_cases hlt : (p : Int) < (1 : Int)
    · obtain ⟨N1, hN1⟩ : ∃ N1, D38.progsN s (1 : Int) p N = N1 := ⟨_, rfl⟩
      obtain ⟨l1, hl1⟩ : ∃ l1, D38.progs s (1 : Int) p N = l1 := ⟨_, rfl⟩
      rw [hN1] at HB hpn HPP HPL
      rw [hl1] at hv hpl HPL
      clear hN1 hl1
      have hmany := D38.many_le s N1
      obtain ⟨q, hq⟩ : ∃ q, D38.many s N1 = q := ⟨_, rfl⟩
      rw [hq] at hmany HPP HPL
      have HM := Lib.hid hmany.2.2
      have hq1 := hmany.1
      have hq2 := hmany.2.1
      clear hmany hq
      have hN1b : N1 < 60000 := by omega
      clear hpn
      -- behind the separator
      have cont : ∀ (w2 : World) (v2 : Value), U64s w2 w.heap.size v2 (l1 ++ D38.sep p) → Blk w2 b [.int .u64 (D38.at_ s (N1))] → Keep [b] w w2 → True := fun _ _ _ _ _ => trivial
      clear cont
      obtain ⟨va, vcap, rfl⟩ := hv.form
      have HV := Lib.hid hv
      have hvb := hv.at_
      have HVB := Lib.hid hvb
      clear hv hvb
      by_cases hp0 : p = 0
      · have hsep : D38.sep p = [] := by unfold D38.sep; rw [if_pos hp0]
        rw [hsep, List.append_nil] at HPL
        have q0 : decide ((0 : Int) < (p : Int)) = false := by simp; omega
        clear hsep
        go_wp2_with fail
        refine (dice_below HB.out 8 (by decide)).mono ?_
        rintro e w3 ⟨rfl, hb3, hk3⟩
        rw [show D38.belN N1 8 = N1 + 1 from rfl] at hb3
        have HB3 := Lib.hid hb3
        have HK3 := Lib.hid (HK.out.trans hk3)
        have HV3 := Lib.hid (HV.out.keep hk3 (by intro g hg hm; have := HV.out.at_ g hg; simp only [List.mem_cons, List.not_mem_nil, or_false] at hm; omega))
        clear hb3 hk3
        have hm2 : 1 + D38.bel s N1 8 = (q : Int) := HM.out.symm
        obtain ⟨t, ht⟩ : ∃ t, D38.bel s N1 8 = t := ⟨_, rfl⟩
        rw [ht] at hm2
        have hw1 : IntKind.i64.wrap (1 + t) = (q : Int) := by rw [IntKind.wrap_i64]; omega
        have ht0 : 0 ≤ t := by omega
        have ht1 : t < 8 := by omega
        rw [ht]
        clear ht
        go_wp2
        go_loopw [5, 24] (fun v i wq => ∃ j : Nat, j ≤ q ∧ i = .int .i64 j ∧ U64s wq w.heap.size v (l1 ++ D38.words s (1 : Int) j (N1 + 1)) ∧ Blk wq b [.int .u64 (D38.at_ s (D38.wordsN s (1 : Int) j (N1 + 1)))] ∧ Keep [b] w wq) (fun _ i _ => q - (intOf i).toNat)
        case atStart => exact ⟨0, Nat.zero_le _, rfl, by show U64s _ _ _ (l1 ++ []); rw [List.append_nil]; exact HV3.out, HB3.out, HK3.out⟩
        case round =>
          obtain ⟨j, hj, rfl, hv, hb, hk⟩ := hrel
          have HB4 := Lib.hid hb
          have HK4 := Lib.hid hk
          have hwn := D38.wordsN_le s (1 : Int) (N1 + 1) j
          have hwl := D38.words_len s (1 : Int) (N1 + 1) j
          have hlen : (l1 ++ D38.words s (1 : Int) j (N1 + 1)).length < 100000 := by simp only [List.length_append, hwl, List.length_cons, List.length_nil]; omega
          have HW1 := Lib.hid (show D38.words s (1 : Int) (j + 1) (N1 + 1) = D38.words s (1 : Int) j (N1 + 1) ++ [D38.word s (D38.wordsN s (1 : Int) j (N1 + 1)) (1 : Int)] from rfl)
          have HW2 := Lib.hid (show D38.wordsN s (1 : Int) (j + 1) (N1 + 1) = D38.wordN s (D38.wordsN s (1 : Int) j (N1 + 1)) (1 : Int) from rfl)
          obtain ⟨N2, hN2⟩ : ∃ N2, D38.wordsN s (1 : Int) j (N1 + 1) = N2 := ⟨_, rfl⟩
          rw [hN2] at HB4 hwn HW1 HW2
          obtain ⟨l2, hl2⟩ : ∃ l2, l1 ++ D38.words s (1 : Int) j (N1 + 1) = l2 := ⟨_, rfl⟩
          rw [hl2] at hv hlen
          have HL2 := Lib.hid hl2
          have HNN := Lib.hid hN2
          obtain ⟨vb, vcap2, rfl⟩ := hv.form
          have HV4 := Lib.hid hv
          have hN2b : N2 < 80000 := by omega
          clear hb hk hwl hl2 hN2 hv hwn
          by_cases hjt : j < q
          · go_wp2_with fail
            refine (dice_instr HB4.out (by omega) (1 : Int) (by omega) (by omega)).mono ?_
            rintro e w5 ⟨rfl, hb5, hk5⟩
            have HB5 := Lib.hid hb5
            have HK5 := Lib.hid (HK4.out.trans hk5)
            have HV5 := Lib.hid (HV4.out.keep hk5 (by intro g hg hm; have := HV4.out.at_ g hg; simp only [List.mem_cons, List.not_mem_nil, or_false] at hm; omega))
            clear hb5 hk5
            obtain ⟨x, hx⟩ : ∃ x, D38.word s N2 (1 : Int) = x := ⟨_, rfl⟩
            rw [hx] at HW1
            rw [hx]
            clear hx
            go_wp2_with (at_builtin; refine wpList_append_one (es := [.int .u64 x]) (.tmp 26) (.tmp 30) row_u64 rfl rfl HV5.out (by rfl) (by rfl) rfl (by simp; rfl) (by omega) (by decide) ?_)
            intro g cap w6 hrow hk6 hor
            have HB6 := Lib.hid (HB5.out.own hk6 (by intro g hg e; have := HV5.out.at_ g hg; omega))
            have HK6 := Lib.hid (keep_own HK5.out hk6 (fun g hg => (HV5.out.at_ g hg).1))
            have HV6 := Lib.hid (U64s.snoc hrow)
            clear hrow hk6 hor
            go_wp2
            go_roundw
            case rel => exact ⟨j + 1, by omega, by go_num, by rw [HW1.out, ← List.append_assoc, HL2.out]; exact HV6.out, by rw [HW2.out]; exact HB6.out, HK6.out⟩
            case measure => simp [intOf]; omega
          · obtain rfl : j = q := by omega
            clear hjt hj
            go_wp2
            go_roundw
            case rel => exact ⟨p + 1, by omega, by go_num, by rw [HPL.out, HL2.out]; exact HV4.out, by rw [HPP.out, HNN.out]; exact HB4.out, HK4.out⟩
            case measure => simp [intOf]; omega
      · exact absurd hlt (by omega)
    · have hpm : p = ((1 : Int)).toNat := by omega
      subst hpm
      obtain ⟨va, vcap, rfl⟩ := hv.form
      have HV := Lib.hid hv
      clear hv hlt hp
      go_wp2
      go_ret
      exact ⟨_, rfl, HV.out, HB.out, HK.out⟩

set_option maxRecDepth 100000 in
set_option maxHeartbeats 1000000 in
theorem dice_programs_b {w : World} {b : Nat} {s : Int} {N : Nat} (h : Blk w b [.int .u64 (D38.at_ s (N))]) (hN : N < 50000) (n : Int) (hn : 1 ≤ n) (hn2 : n ≤ 16) :
    Calls Try.prog 23 #[.pointer (some ⟨b, 0, none⟩), .int .i64 n] w fun e w' => ∃ v, e = .returned v ∧ U64s w' w.heap.size v (D38.progs s n (n).toNat N) ∧ Blk w' b [.int .u64 (D38.at_ s (D38.progsN s n (n).toNat N))] ∧ Keep [b] w w' := by
  have HX := Lib.hid h
  have hbw := h.lt
  clear h
  have c1 : ¬ n < 1 := by omega
  go_enter Try.func23, Try.ntmps23
  go_wp2
  go_loopw [5, 13] (fun v i wr => ∃ p : Nat, p ≤ (n).toNat ∧ i = .int .i64 p ∧ U64s wr w.heap.size v (D38.progs s n p N) ∧ Blk wr b [.int .u64 (D38.at_ s (D38.progsN s n p N))] ∧ Keep [b] w wr) (fun _ i _ => (n).toNat - (intOf i).toNat)
  case atStart => exact ⟨0, Nat.zero_le _, rfl, Row.nil (Nat.le_refl _), HX.out, Keep.refl _ _⟩
  case round =>
    obtain ⟨p, hp, rfl, hv, hb, hk⟩ := hrel
    have HB := Lib.hid hb
    have HK := Lib.hid hk
    have hpn := D38.progsN_le s n N p
    have hpl := D38.progs_len s n N p
    have HPP := Lib.hid (show D38.progsN s n (p + 1) N = D38.wordsN s n (D38.many s (D38.progsN s n p N)) (D38.progsN s n p N + 1) from rfl)
    have HPL := Lib.hid (show D38.progs s n (p + 1) N = D38.progs s n p N ++ D38.sep p ++ D38.words s n (D38.many s (D38.progsN s n p N)) (D38.progsN s n p N + 1) from rfl)
    clear hb hk
    by_cases hlt : (p : Int) < n
    · obtain ⟨N1, hN1⟩ : ∃ N1, D38.progsN s n p N = N1 := ⟨_, rfl⟩
      obtain ⟨l1, hl1⟩ : ∃ l1, D38.progs s n p N = l1 := ⟨_, rfl⟩
      rw [hN1] at HB hpn HPP HPL
      rw [hl1] at hv hpl HPL
      clear hN1 hl1
      have hmany := D38.many_le s N1
      obtain ⟨q, hq⟩ : ∃ q, D38.many s N1 = q := ⟨_, rfl⟩
      rw [hq] at hmany HPP HPL
      have HM := Lib.hid hmany.2.2
      have hq1 := hmany.1
      have hq2 := hmany.2.1
      clear hmany hq
      have hN1b : N1 < 60000 := by omega
      clear hpn
      -- behind the separator
      have cont : ∀ (w2 : World) (v2 : Value), U64s w2 w.heap.size v2 (l1 ++ D38.sep p) → Blk w2 b [.int .u64 (D38.at_ s (N1))] → Keep [b] w w2 → True := fun _ _ _ _ _ => trivial
      clear cont
      obtain ⟨va, vcap, rfl⟩ := hv.form
      have HV := Lib.hid hv
      have hvb := hv.at_
      have HVB := Lib.hid hvb
      clear hv hvb
      by_cases hp0 : p = 0
      · have hsep : D38.sep p = [] := by unfold D38.sep; rw [if_pos hp0]
        rw [hsep, List.append_nil] at HPL
        have q0 : decide ((0 : Int) < (p : Int)) = false := by simp; omega
        clear hsep
        go_wp2_with fail
        refine (dice_below HB.out 8 (by decide)).mono ?_
        rintro e w3 ⟨rfl, hb3, hk3⟩
        rw [show D38.belN N1 8 = N1 + 1 from rfl] at hb3
        have HB3 := Lib.hid hb3
        have HK3 := Lib.hid (HK.out.trans hk3)
        have HV3 := Lib.hid (HV.out.keep hk3 (by intro g hg hm; have := HV.out.at_ g hg; simp only [List.mem_cons, List.not_mem_nil, or_false] at hm; omega))
        clear hb3 hk3
        have hm2 : 1 + D38.bel s N1 8 = (q : Int) := HM.out.symm
        obtain ⟨t, ht⟩ : ∃ t, D38.bel s N1 8 = t := ⟨_, rfl⟩
        rw [ht] at hm2
        have hw1 : IntKind.i64.wrap (1 + t) = (q : Int) := by rw [IntKind.wrap_i64]; omega
        have ht0 : 0 ≤ t := by omega
        have ht1 : t < 8 := by omega
        rw [ht]
        clear ht
        go_wp2
        go_loopw [5, 24] (fun v i wq => ∃ j : Nat, j ≤ q ∧ i = .int .i64 j ∧ U64s wq w.heap.size v (l1 ++ D38.words s n j (N1 + 1)) ∧ Blk wq b [.int .u64 (D38.at_ s (D38.wordsN s n j (N1 + 1)))] ∧ Keep [b] w wq) (fun _ i _ => q - (intOf i).toNat)
        case atStart => exact ⟨0, Nat.zero_le _, rfl, by show U64s _ _ _ (l1 ++ []); rw [List.append_nil]; exact HV3.out, HB3.out, HK3.out⟩
        case round =>
          obtain ⟨j, hj, rfl, hv, hb, hk⟩ := hrel
          have HB4 := Lib.hid hb
          have HK4 := Lib.hid hk
          have hwn := D38.wordsN_le s n (N1 + 1) j
          have hwl := D38.words_len s n (N1 + 1) j
          have hlen : (l1 ++ D38.words s n j (N1 + 1)).length < 100000 := by simp only [List.length_append, hwl, List.length_cons, List.length_nil]; omega
          have HW1 := Lib.hid (show D38.words s n (j + 1) (N1 + 1) = D38.words s n j (N1 + 1) ++ [D38.word s (D38.wordsN s n j (N1 + 1)) n] from rfl)
          have HW2 := Lib.hid (show D38.wordsN s n (j + 1) (N1 + 1) = D38.wordN s (D38.wordsN s n j (N1 + 1)) n from rfl)
          obtain ⟨N2, hN2⟩ : ∃ N2, D38.wordsN s n j (N1 + 1) = N2 := ⟨_, rfl⟩
          rw [hN2] at HB4 hwn HW1 HW2
          obtain ⟨l2, hl2⟩ : ∃ l2, l1 ++ D38.words s n j (N1 + 1) = l2 := ⟨_, rfl⟩
          rw [hl2] at hv hlen
          have HL2 := Lib.hid hl2
          have HNN := Lib.hid hN2
          obtain ⟨vb, vcap2, rfl⟩ := hv.form
          have HV4 := Lib.hid hv
          have hN2b : N2 < 80000 := by omega
          clear hb hk hwl hl2 hN2 hv hwn
          by_cases hjt : j < q
          · go_wp2_with fail
            refine (dice_instr HB4.out (by omega) n (by omega) (by omega)).mono ?_
            rintro e w5 ⟨rfl, hb5, hk5⟩
            have HB5 := Lib.hid hb5
            have HK5 := Lib.hid (HK4.out.trans hk5)
            have HV5 := Lib.hid (HV4.out.keep hk5 (by intro g hg hm; have := HV4.out.at_ g hg; simp only [List.mem_cons, List.not_mem_nil, or_false] at hm; omega))
            clear hb5 hk5
            obtain ⟨x, hx⟩ : ∃ x, D38.word s N2 n = x := ⟨_, rfl⟩
            rw [hx] at HW1
            rw [hx]
            clear hx
            go_wp2_with (at_builtin; refine wpList_append_one (es := [.int .u64 x]) (.tmp 26) (.tmp 30) row_u64 rfl rfl HV5.out (by rfl) (by rfl) rfl (by simp; rfl) (by omega) (by decide) ?_)
            intro g cap w6 hrow hk6 hor
            have HB6 := Lib.hid (HB5.out.own hk6 (by intro g hg e; have := HV5.out.at_ g hg; omega))
            have HK6 := Lib.hid (keep_own HK5.out hk6 (fun g hg => (HV5.out.at_ g hg).1))
            have HV6 := Lib.hid (U64s.snoc hrow)
            clear hrow hk6 hor
            go_wp2
            go_roundw
            case rel => exact ⟨j + 1, by omega, by go_num, by rw [HW1.out, ← List.append_assoc, HL2.out]; exact HV6.out, by rw [HW2.out]; exact HB6.out, HK6.out⟩
            case measure => simp [intOf]; omega
          · obtain rfl : j = q := by omega
            clear hjt hj
            go_wp2
            go_roundw
            case rel => exact ⟨p + 1, by omega, by go_num, by rw [HPL.out, HL2.out]; exact HV4.out, by rw [HPP.out, HNN.out]; exact HB4.out, HK4.out⟩
            case measure => simp [intOf]; omega
      · have hsep : D38.sep p = [7] := by unfold D38.sep; rw [if_neg hp0]
        rw [hsep] at HPL
        have q0 : 0 < p := by omega
        clear hsep hp0
        go_wp2_with (at_builtin; refine wpList_append_one (es := [.int .u64 7]) (.tmp 18) (.tmp 19) row_u64 rfl rfl HV.out (by rfl) (by rfl) rfl (by simp; rfl) (by omega) (by decide) ?_)
        intro g cap w2 hrow hk2 hor
        have HB2 := Lib.hid (HB.out.own hk2 (by intro g hg e; have := HVB.out g hg; omega))
        have HK2 := Lib.hid (keep_own HK.out hk2 (fun g hg => (HVB.out g hg).1))
        have HV2 := Lib.hid (U64s.snoc hrow)
        clear hrow hk2 hor
        go_wp2_with fail
        refine (dice_below HB2.out 8 (by decide)).mono ?_
        rintro e w3 ⟨rfl, hb3, hk3⟩
        rw [show D38.belN N1 8 = N1 + 1 from rfl] at hb3
        have HB3 := Lib.hid hb3
        have HK3 := Lib.hid (HK2.out.trans hk3)
        have HV3 := Lib.hid (HV2.out.keep hk3 (by intro g hg hm; have := HV2.out.at_ g hg; simp only [List.mem_cons, List.not_mem_nil, or_false] at hm; omega))
        clear hb3 hk3
        have hm2 : 1 + D38.bel s N1 8 = (q : Int) := HM.out.symm
        obtain ⟨t, ht⟩ : ∃ t, D38.bel s N1 8 = t := ⟨_, rfl⟩
        rw [ht] at hm2
        have hw1 : IntKind.i64.wrap (1 + t) = (q : Int) := by rw [IntKind.wrap_i64]; omega
        have ht0 : 0 ≤ t := by omega
        have ht1 : t < 8 := by omega
        rw [ht]
        clear ht
        go_wp2
        go_loopw [5, 24] (fun v i wq => ∃ j : Nat, j ≤ q ∧ i = .int .i64 j ∧ U64s wq w.heap.size v (l1 ++ [7] ++ D38.words s n j (N1 + 1)) ∧ Blk wq b [.int .u64 (D38.at_ s (D38.wordsN s n j (N1 + 1)))] ∧ Keep [b] w wq) (fun _ i _ => q - (intOf i).toNat)
        case atStart => exact ⟨0, Nat.zero_le _, rfl, by show U64s _ _ _ (l1 ++ [7] ++ []); rw [List.append_nil]; exact HV3.out, HB3.out, HK3.out⟩
        case round =>
          obtain ⟨j, hj, rfl, hv, hb, hk⟩ := hrel
          have HB4 := Lib.hid hb
          have HK4 := Lib.hid hk
          have hwn := D38.wordsN_le s n (N1 + 1) j
          have hwl := D38.words_len s n (N1 + 1) j
          have hlen : (l1 ++ [7] ++ D38.words s n j (N1 + 1)).length < 100000 := by simp only [List.length_append, hwl, List.length_cons, List.length_nil]; omega
          have HW1 := Lib.hid (show D38.words s n (j + 1) (N1 + 1) = D38.words s n j (N1 + 1) ++ [D38.word s (D38.wordsN s n j (N1 + 1)) n] from rfl)
          have HW2 := Lib.hid (show D38.wordsN s n (j + 1) (N1 + 1) = D38.wordN s (D38.wordsN s n j (N1 + 1)) n from rfl)
          obtain ⟨N2, hN2⟩ : ∃ N2, D38.wordsN s n j (N1 + 1) = N2 := ⟨_, rfl⟩
          rw [hN2] at HB4 hwn HW1 HW2
          obtain ⟨l2, hl2⟩ : ∃ l2, l1 ++ [7] ++ D38.words s n j (N1 + 1) = l2 := ⟨_, rfl⟩
          rw [hl2] at hv hlen
          have HL2 := Lib.hid hl2
          have HNN := Lib.hid hN2
          obtain ⟨vb, vcap2, rfl⟩ := hv.form
          have HV4 := Lib.hid hv
          have hN2b : N2 < 80000 := by omega
          clear hb hk hwl hl2 hN2 hv hwn
          by_cases hjt : j < q
          · go_wp2_with fail
            refine (dice_instr HB4.out (by omega) n (by omega) (by omega)).mono ?_
            rintro e w5 ⟨rfl, hb5, hk5⟩
            have HB5 := Lib.hid hb5
            have HK5 := Lib.hid (HK4.out.trans hk5)
            have HV5 := Lib.hid (HV4.out.keep hk5 (by intro g hg hm; have := HV4.out.at_ g hg; simp only [List.mem_cons, List.not_mem_nil, or_false] at hm; omega))
            clear hb5 hk5
            obtain ⟨x, hx⟩ : ∃ x, D38.word s N2 n = x := ⟨_, rfl⟩
            rw [hx] at HW1
            rw [hx]
            clear hx
            go_wp2_with (at_builtin; refine wpList_append_one (es := [.int .u64 x]) (.tmp 26) (.tmp 30) row_u64 rfl rfl HV5.out (by rfl) (by rfl) rfl (by simp; rfl) (by omega) (by decide) ?_)
            intro g cap w6 hrow hk6 hor
            have HB6 := Lib.hid (HB5.out.own hk6 (by intro g hg e; have := HV5.out.at_ g hg; omega))
            have HK6 := Lib.hid (keep_own HK5.out hk6 (fun g hg => (HV5.out.at_ g hg).1))
            have HV6 := Lib.hid (U64s.snoc hrow)
            clear hrow hk6 hor
            go_wp2
            go_roundw
            case rel => exact ⟨j + 1, by omega, by go_num, by rw [HW1.out, ← List.append_assoc, HL2.out]; exact HV6.out, by rw [HW2.out]; exact HB6.out, HK6.out⟩
            case measure => simp [intOf]; omega
          · obtain rfl : j = q := by omega
            clear hjt hj
            go_wp2
            go_roundw
            case rel => exact ⟨p + 1, by omega, by go_num, by rw [HPL.out, HL2.out]; exact HV4.out, by rw [HPP.out, HNN.out]; exact HB4.out, HK4.out⟩
            case measure => simp [intOf]; omega
    · have hpm : p = (n).toNat := by omega
      subst hpm
      obtain ⟨va, vcap, rfl⟩ := hv.form
      have HV := Lib.hid hv
      clear hv hlt hp
      go_wp2
      go_ret
      exact ⟨_, rfl, HV.out, HB.out, HK.out⟩

set_option maxRecDepth 100000 in
set_option maxHeartbeats 1000000 in
theorem dice_programs_c {w : World} {b : Nat} {s : Int} {N : Nat} (h : Blk w b [.int .u64 (D38.at_ s (N))]) (hN : N < 50000) (n : Int) (hn : 16 < n) :
    Calls Try.prog 23 #[.pointer (some ⟨b, 0, none⟩), .int .i64 n] w fun e w' => ∃ v, e = .returned v ∧ U64s w' w.heap.size v (D38.progs s (16 : Int) ((16 : Int)).toNat N) ∧ Blk w' b [.int .u64 (D38.at_ s (D38.progsN s (16 : Int) ((16 : Int)).toNat N))] ∧ Keep [b] w w' := by
  have HX := Lib.hid h
  have hbw := h.lt
  clear h
  have c1 : ¬ n < 1 := by omega
  have c2 : ¬ n ≤ 16 := by omega
  go_enter Try.func23, Try.ntmps23
  go_wp2
  go_loopw [5, 13] (fun v i wr => ∃ p : Nat, p ≤ ((16 : Int)).toNat ∧ i = .int .i64 p ∧ U64s wr w.heap.size v (D38.progs s (16 : Int) p N) ∧ Blk wr b [.int .u64 (D38.at_ s (D38.progsN s (16 : Int) p N))] ∧ Keep [b] w wr) (fun _ i _ => ((16 : Int)).toNat - (intOf i).toNat)
  case atStart => exact ⟨0, Nat.zero_le _, rfl, Row.nil (Nat.le_refl _), HX.out, Keep.refl _ _⟩
  case round =>
    obtain ⟨p, hp, rfl, hv, hb, hk⟩ := hrel
    have HB := Lib.hid hb
    have HK := Lib.hid hk
    have hpn := D38.progsN_le s (16 : Int) N p
    have hpl := D38.progs_len s (16 : Int) N p
    have HPP := Lib.hid (show D38.progsN s (16 : Int) (p + 1) N = D38.wordsN s (16 : Int) (D38.many s (D38.progsN s (16 : Int) p N)) (D38.progsN s (16 : Int) p N + 1) from rfl)
    have HPL := Lib.hid (show D38.progs s (16 : Int) (p + 1) N = D38.progs s (16 : Int) p N ++ D38.sep p ++ D38.words s (16 : Int) (D38.many s (D38.progsN s (16 : Int) p N)) (D38.progsN s (16 : Int) p N + 1) from rfl)
    clear hb hk
    by_cases hlt : (p : Int) < (16 : Int)
    · obtain ⟨N1, hN1⟩ : ∃ N1, D38.progsN s (16 : Int) p N = N1 := ⟨_, rfl⟩
      obtain ⟨l1, hl1⟩ : ∃ l1, D38.progs s (16 : Int) p N = l1 := ⟨_, rfl⟩
      rw [hN1] at HB hpn HPP HPL
      rw [hl1] at hv hpl HPL
      clear hN1 hl1
      have hmany := D38.many_le s N1
      obtain ⟨q, hq⟩ : ∃ q, D38.many s N1 = q := ⟨_, rfl⟩
      rw [hq] at hmany HPP HPL
      have HM := Lib.hid hmany.2.2
      have hq1 := hmany.1
      have hq2 := hmany.2.1
      clear hmany hq
      have hN1b : N1 < 60000 := by omega
      clear hpn
      -- behind the separator
      have cont : ∀ (w2 : World) (v2 : Value), U64s w2 w.heap.size v2 (l1 ++ D38.sep p) → Blk w2 b [.int .u64 (D38.at_ s (N1))] → Keep [b] w w2 → True := fun _ _ _ _ _ => trivial
      clear cont
      obtain ⟨va, vcap, rfl⟩ := hv.form
      have HV := Lib.hid hv
      have hvb := hv.at_
      have HVB := Lib.hid hvb
      clear hv hvb
      by_cases hp0 : p = 0
      · have hsep : D38.sep p = [] := by unfold D38.sep; rw [if_pos hp0]
        rw [hsep, List.append_nil] at HPL
        have q0 : decide ((0 : Int) < (p : Int)) = false := by simp; omega
        clear hsep
        go_wp2_with fail
        refine (dice_below HB.out 8 (by decide)).mono ?_
        rintro e w3 ⟨rfl, hb3, hk3⟩
        rw [show D38.belN N1 8 = N1 + 1 from rfl] at hb3
        have HB3 := Lib.hid hb3
        have HK3 := Lib.hid (HK.out.trans hk3)
        have HV3 := Lib.hid (HV.out.keep hk3 (by intro g hg hm; have := HV.out.at_ g hg; simp only [List.mem_cons, List.not_mem_nil, or_false] at hm; omega))
        clear hb3 hk3
        have hm2 : 1 + D38.bel s N1 8 = (q : Int) := HM.out.symm
        obtain ⟨t, ht⟩ : ∃ t, D38.bel s N1 8 = t := ⟨_, rfl⟩
        rw [ht] at hm2
        have hw1 : IntKind.i64.wrap (1 + t) = (q : Int) := by rw [IntKind.wrap_i64]; omega
        have ht0 : 0 ≤ t := by omega
        have ht1 : t < 8 := by omega
        rw [ht]
        clear ht
        go_wp2
        go_loopw [5, 24] (fun v i wq => ∃ j : Nat, j ≤ q ∧ i = .int .i64 j ∧ U64s wq w.heap.size v (l1 ++ D38.words s (16 : Int) j (N1 + 1)) ∧ Blk wq b [.int .u64 (D38.at_ s (D38.wordsN s (16 : Int) j (N1 + 1)))] ∧ Keep [b] w wq) (fun _ i _ => q - (intOf i).toNat)
        case atStart => exact ⟨0, Nat.zero_le _, rfl, by show U64s _ _ _ (l1 ++ []); rw [List.append_nil]; exact HV3.out, HB3.out, HK3.out⟩
        case round =>
          obtain ⟨j, hj, rfl, hv, hb, hk⟩ := hrel
          have HB4 := Lib.hid hb
          have HK4 := Lib.hid hk
          have hwn := D38.wordsN_le s (16 : Int) (N1 + 1) j
          have hwl := D38.words_len s (16 : Int) (N1 + 1) j
          have hlen : (l1 ++ D38.words s (16 : Int) j (N1 + 1)).length < 100000 := by simp only [List.length_append, hwl, List.length_cons, List.length_nil]; omega
          have HW1 := Lib.hid (show D38.words s (16 : Int) (j + 1) (N1 + 1) = D38.words s (16 : Int) j (N1 + 1) ++ [D38.word s (D38.wordsN s (16 : Int) j (N1 + 1)) (16 : Int)] from rfl)
          have HW2 := Lib.hid (show D38.wordsN s (16 : Int) (j + 1) (N1 + 1) = D38.wordN s (D38.wordsN s (16 : Int) j (N1 + 1)) (16 : Int) from rfl)
          obtain ⟨N2, hN2⟩ : ∃ N2, D38.wordsN s (16 : Int) j (N1 + 1) = N2 := ⟨_, rfl⟩
          rw [hN2] at HB4 hwn HW1 HW2
          obtain ⟨l2, hl2⟩ : ∃ l2, l1 ++ D38.words s (16 : Int) j (N1 + 1) = l2 := ⟨_, rfl⟩
          rw [hl2] at hv hlen
          have HL2 := Lib.hid hl2
          have HNN := Lib.hid hN2
          obtain ⟨vb, vcap2, rfl⟩ := hv.form
          have HV4 := Lib.hid hv
          have hN2b : N2 < 80000 := by omega
          clear hb hk hwl hl2 hN2 hv hwn
          by_cases hjt : j < q
          · go_wp2_with fail
            refine (dice_instr HB4.out (by omega) (16 : Int) (by omega) (by omega)).mono ?_
            rintro e w5 ⟨rfl, hb5, hk5⟩
            have HB5 := Lib.hid hb5
            have HK5 := Lib.hid (HK4.out.trans hk5)
            have HV5 := Lib.hid (HV4.out.keep hk5 (by intro g hg hm; have := HV4.out.at_ g hg; simp only [List.mem_cons, List.not_mem_nil, or_false] at hm; omega))
            clear hb5 hk5
            obtain ⟨x, hx⟩ : ∃ x, D38.word s N2 (16 : Int) = x := ⟨_, rfl⟩
            rw [hx] at HW1
            rw [hx]
            clear hx
            go_wp2_with (at_builtin; refine wpList_append_one (es := [.int .u64 x]) (.tmp 26) (.tmp 30) row_u64 rfl rfl HV5.out (by rfl) (by rfl) rfl (by simp; rfl) (by omega) (by decide) ?_)
            intro g cap w6 hrow hk6 hor
            have HB6 := Lib.hid (HB5.out.own hk6 (by intro g hg e; have := HV5.out.at_ g hg; omega))
            have HK6 := Lib.hid (keep_own HK5.out hk6 (fun g hg => (HV5.out.at_ g hg).1))
            have HV6 := Lib.hid (U64s.snoc hrow)
            clear hrow hk6 hor
            go_wp2
            go_roundw
            case rel => exact ⟨j + 1, by omega, by go_num, by rw [HW1.out, ← List.append_assoc, HL2.out]; exact HV6.out, by rw [HW2.out]; exact HB6.out, HK6.out⟩
            case measure => simp [intOf]; omega
          · obtain rfl : j = q := by omega
            clear hjt hj
            go_wp2
            go_roundw
            case rel => exact ⟨p + 1, by omega, by go_num, by rw [HPL.out, HL2.out]; exact HV4.out, by rw [HPP.out, HNN.out]; exact HB4.out, HK4.out⟩
            case measure => simp [intOf]; omega
      · have hsep : D38.sep p = [7] := by unfold D38.sep; rw [if_neg hp0]
        rw [hsep] at HPL
        have q0 : 0 < p := by omega
        clear hsep hp0
        go_wp2_with (at_builtin; refine wpList_append_one (es := [.int .u64 7]) (.tmp 18) (.tmp 19) row_u64 rfl rfl HV.out (by rfl) (by rfl) rfl (by simp; rfl) (by omega) (by decide) ?_)
        intro g cap w2 hrow hk2 hor
        have HB2 := Lib.hid (HB.out.own hk2 (by intro g hg e; have := HVB.out g hg; omega))
        have HK2 := Lib.hid (keep_own HK.out hk2 (fun g hg => (HVB.out g hg).1))
        have HV2 := Lib.hid (U64s.snoc hrow)
        clear hrow hk2 hor
        go_wp2_with fail
        refine (dice_below HB2.out 8 (by decide)).mono ?_
        rintro e w3 ⟨rfl, hb3, hk3⟩
        rw [show D38.belN N1 8 = N1 + 1 from rfl] at hb3
        have HB3 := Lib.hid hb3
        have HK3 := Lib.hid (HK2.out.trans hk3)
        have HV3 := Lib.hid (HV2.out.keep hk3 (by intro g hg hm; have := HV2.out.at_ g hg; simp only [List.mem_cons, List.not_mem_nil, or_false] at hm; omega))
        clear hb3 hk3
        have hm2 : 1 + D38.bel s N1 8 = (q : Int) := HM.out.symm
        obtain ⟨t, ht⟩ : ∃ t, D38.bel s N1 8 = t := ⟨_, rfl⟩
        rw [ht] at hm2
        have hw1 : IntKind.i64.wrap (1 + t) = (q : Int) := by rw [IntKind.wrap_i64]; omega
        have ht0 : 0 ≤ t := by omega
        have ht1 : t < 8 := by omega
        rw [ht]
        clear ht
        go_wp2
        go_loopw [5, 24] (fun v i wq => ∃ j : Nat, j ≤ q ∧ i = .int .i64 j ∧ U64s wq w.heap.size v (l1 ++ [7] ++ D38.words s (16 : Int) j (N1 + 1)) ∧ Blk wq b [.int .u64 (D38.at_ s (D38.wordsN s (16 : Int) j (N1 + 1)))] ∧ Keep [b] w wq) (fun _ i _ => q - (intOf i).toNat)
        case atStart => exact ⟨0, Nat.zero_le _, rfl, by show U64s _ _ _ (l1 ++ [7] ++ []); rw [List.append_nil]; exact HV3.out, HB3.out, HK3.out⟩
        case round =>
          obtain ⟨j, hj, rfl, hv, hb, hk⟩ := hrel
          have HB4 := Lib.hid hb
          have HK4 := Lib.hid hk
          have hwn := D38.wordsN_le s (16 : Int) (N1 + 1) j
          have hwl := D38.words_len s (16 : Int) (N1 + 1) j
          have hlen : (l1 ++ [7] ++ D38.words s (16 : Int) j (N1 + 1)).length < 100000 := by simp only [List.length_append, hwl, List.length_cons, List.length_nil]; omega
          have HW1 := Lib.hid (show D38.words s (16 : Int) (j + 1) (N1 + 1) = D38.words s (16 : Int) j (N1 + 1) ++ [D38.word s (D38.wordsN s (16 : Int) j (N1 + 1)) (16 : Int)] from rfl)
          have HW2 := Lib.hid (show D38.wordsN s (16 : Int) (j + 1) (N1 + 1) = D38.wordN s (D38.wordsN s (16 : Int) j (N1 + 1)) (16 : Int) from rfl)
          obtain ⟨N2, hN2⟩ : ∃ N2, D38.wordsN s (16 : Int) j (N1 + 1) = N2 := ⟨_, rfl⟩
          rw [hN2] at HB4 hwn HW1 HW2
          obtain ⟨l2, hl2⟩ : ∃ l2, l1 ++ [7] ++ D38.words s (16 : Int) j (N1 + 1) = l2 := ⟨_, rfl⟩
          rw [hl2] at hv hlen
          have HL2 := Lib.hid hl2
          have HNN := Lib.hid hN2
          obtain ⟨vb, vcap2, rfl⟩ := hv.form
          have HV4 := Lib.hid hv
          have hN2b : N2 < 80000 := by omega
          clear hb hk hwl hl2 hN2 hv hwn
          by_cases hjt : j < q
          · go_wp2_with fail
            refine (dice_instr HB4.out (by omega) (16 : Int) (by omega) (by omega)).mono ?_
            rintro e w5 ⟨rfl, hb5, hk5⟩
            have HB5 := Lib.hid hb5
            have HK5 := Lib.hid (HK4.out.trans hk5)
            have HV5 := Lib.hid (HV4.out.keep hk5 (by intro g hg hm; have := HV4.out.at_ g hg; simp only [List.mem_cons, List.not_mem_nil, or_false] at hm; omega))
            clear hb5 hk5
            obtain ⟨x, hx⟩ : ∃ x, D38.word s N2 (16 : Int) = x := ⟨_, rfl⟩
            rw [hx] at HW1
            rw [hx]
            clear hx
            go_wp2_with (at_builtin; refine wpList_append_one (es := [.int .u64 x]) (.tmp 26) (.tmp 30) row_u64 rfl rfl HV5.out (by rfl) (by rfl) rfl (by simp; rfl) (by omega) (by decide) ?_)
            intro g cap w6 hrow hk6 hor
            have HB6 := Lib.hid (HB5.out.own hk6 (by intro g hg e; have := HV5.out.at_ g hg; omega))
            have HK6 := Lib.hid (keep_own HK5.out hk6 (fun g hg => (HV5.out.at_ g hg).1))
            have HV6 := Lib.hid (U64s.snoc hrow)
            clear hrow hk6 hor
            go_wp2
            go_roundw
            case rel => exact ⟨j + 1, by omega, by go_num, by rw [HW1.out, ← List.append_assoc, HL2.out]; exact HV6.out, by rw [HW2.out]; exact HB6.out, HK6.out⟩
            case measure => simp [intOf]; omega
          · obtain rfl : j = q := by omega
            clear hjt hj
            go_wp2
            go_roundw
            case rel => exact ⟨p + 1, by omega, by go_num, by rw [HPL.out, HL2.out]; exact HV4.out, by rw [HPP.out, HNN.out]; exact HB4.out, HK4.out⟩
            case measure => simp [intOf]; omega
    · have hpm : p = ((16 : Int)).toNat := by omega
      subst hpm
      obtain ⟨va, vcap, rfl⟩ := hv.form
      have HV := Lib.hid hv
      clear hv hlt hp
      go_wp2
      go_ret
      exact ⟨_, rfl, HV.out, HB.out, HK.out⟩

set_option maxRecDepth 100000 in
set_option maxHeartbeats 1000000 in
theorem refd_programs_a {w : World} {b : Nat} {s : Int} {N : Nat} (h : Blk w b [.int .u64 s, .int .i64 ((N : Nat) : Int)]) (hN : N < 50000) (n : Int) (hn : n < 1) :
    Calls Try.prog 24 #[.pointer (some ⟨b, 0, none⟩), .int .i64 n] w fun e w' => ∃ v, e = .returned v ∧ U64s w' w.heap.size v (D38.progs s (1 : Int) ((1 : Int)).toNat N) ∧ Blk w' b [.int .u64 s, .int .i64 ((D38.progsN s (1 : Int) ((1 : Int)).toNat N : Nat) : Int)] ∧ Keep [b] w w' := by
  have HX := Lib.hid h
  have hbw := h.lt
  clear h
  have c1 : ¬ 16 < n := by omega
  go_enter Try.func24, Try.ntmps24
  go_wp2
  go_loopw [5, 6] (fun v i wr => ∃ p : Nat, p ≤ ((1 : Int)).toNat ∧ i = .int .i64 p ∧ U64s wr w.heap.size v (D38.progs s (1 : Int) p N) ∧ Blk wr b [.int .u64 s, .int .i64 ((D38.progsN s (1 : Int) p N : Nat) : Int)] ∧ Keep [b] w wr) (fun _ i _ => ((1 : Int)).toNat - (intOf i).toNat)
  case atStart => exact ⟨0, Nat.zero_le _, rfl, Row.nil (Nat.le_refl _), HX.out, Keep.refl _ _⟩
  case round =>
    obtain ⟨p, hp, rfl, hv, hb, hk⟩ := hrel
    have HB := Lib.hid hb
    have HK := Lib.hid hk
    have hpn := D38.progsN_le s (1 : Int) N p
    have hpl := D38.progs_len s (1 : Int) N p
    have HPP := Lib.hid (show D38.progsN s (1 : Int) (p + 1) N = D38.wordsN s (1 : Int) (D38.many s (D38.progsN s (1 : Int) p N)) (D38.progsN s (1 : Int) p N + 1) from rfl)
    have HPL := Lib.hid (show D38.progs s (1 : Int) (p + 1) N = D38.progs s (1 : Int) p N ++ D38.sep p ++ D38.words s (1 : Int) (D38.many s (D38.progsN s (1 : Int) p N)) (D38.progsN s (1 : Int) p N + 1) from rfl)
    clear hb hk
    by_cases hlt : (p : Int) < (1 : Int)
    · obtain ⟨N1, hN1⟩ : ∃ N1, D38.progsN s (1 : Int) p N = N1 := ⟨_, rfl⟩
      obtain ⟨l1, hl1⟩ : ∃ l1, D38.progs s (1 : Int) p N = l1 := ⟨_, rfl⟩
      rw [hN1] at HB hpn HPP HPL
      rw [hl1] at hv hpl HPL
      clear hN1 hl1
      have hmany := D38.many_le s N1
      obtain ⟨q, hq⟩ : ∃ q, D38.many s N1 = q := ⟨_, rfl⟩
      rw [hq] at hmany HPP HPL
      have HM := Lib.hid hmany.2.2
      have hq1 := hmany.1
      have hq2 := hmany.2.1
      clear hmany hq
      have hN1b : N1 < 60000 := by omega
      clear hpn
      -- behind the separator
      have cont : ∀ (w2 : World) (v2 : Value), U64s w2 w.heap.size v2 (l1 ++ D38.sep p) → Blk w2 b [.int .u64 s, .int .i64 ((N1 : Nat) : Int)] → Keep [b] w w2 → True := fun _ _ _ _ _ => trivial
      clear cont
      obtain ⟨va, vcap, rfl⟩ := hv.form
      have HV := Lib.hid hv
      have hvb := hv.at_
      have HVB := Lib.hid hvb
      clear hv hvb
      by_cases hp0 : p = 0
      · have hsep : D38.sep p = [] := by unfold D38.sep; rw [if_pos hp0]
        rw [hsep, List.append_nil] at HPL
        have q0 : decide ((0 : Int) < (p : Int)) = false := by simp; omega
        clear hsep
        go_wp2_with fail
        refine (refd_below HB.out (by omega) 8 (by decide)).mono ?_
        rintro e w3 ⟨rfl, hb3, hk3⟩
        rw [show D38.belN N1 8 = N1 + 1 from rfl] at hb3
        have HB3 := Lib.hid hb3
        have HK3 := Lib.hid (HK.out.trans hk3)
        have HV3 := Lib.hid (HV.out.keep hk3 (by intro g hg hm; have := HV.out.at_ g hg; simp only [List.mem_cons, List.not_mem_nil, or_false] at hm; omega))
        clear hb3 hk3
        have hm2 : 1 + D38.bel s N1 8 = (q : Int) := HM.out.symm
        obtain ⟨t, ht⟩ : ∃ t, D38.bel s N1 8 = t := ⟨_, rfl⟩
        rw [ht] at hm2
        have hw1 : IntKind.i64.wrap (1 + t) = (q : Int) := by rw [IntKind.wrap_i64]; omega
        have ht0 : 0 ≤ t := by omega
        have ht1 : t < 8 := by omega
        rw [ht]
        clear ht
        go_wp2
        go_loopw [5, 8] (fun v i wq => ∃ j : Nat, j ≤ q ∧ i = .int .i64 j ∧ U64s wq w.heap.size v (l1 ++ D38.words s (1 : Int) j (N1 + 1)) ∧ Blk wq b [.int .u64 s, .int .i64 ((D38.wordsN s (1 : Int) j (N1 + 1) : Nat) : Int)] ∧ Keep [b] w wq) (fun _ i _ => q - (intOf i).toNat)
        case atStart => exact ⟨0, Nat.zero_le _, rfl, by show U64s _ _ _ (l1 ++ []); rw [List.append_nil]; exact HV3.out, HB3.out, HK3.out⟩
        case round =>
          obtain ⟨j, hj, rfl, hv, hb, hk⟩ := hrel
          have HB4 := Lib.hid hb
          have HK4 := Lib.hid hk
          have hwn := D38.wordsN_le s (1 : Int) (N1 + 1) j
          have hwl := D38.words_len s (1 : Int) (N1 + 1) j
          have hlen : (l1 ++ D38.words s (1 : Int) j (N1 + 1)).length < 100000 := by simp only [List.length_append, hwl, List.length_cons, List.length_nil]; omega
          have HW1 := Lib.hid (show D38.words s (1 : Int) (j + 1) (N1 + 1) = D38.words s (1 : Int) j (N1 + 1) ++ [D38.word s (D38.wordsN s (1 : Int) j (N1 + 1)) (1 : Int)] from rfl)
          have HW2 := Lib.hid (show D38.wordsN s (1 : Int) (j + 1) (N1 + 1) = D38.wordN s (D38.wordsN s (1 : Int) j (N1 + 1)) (1 : Int) from rfl)
          obtain ⟨N2, hN2⟩ : ∃ N2, D38.wordsN s (1 : Int) j (N1 + 1) = N2 := ⟨_, rfl⟩
          rw [hN2] at HB4 hwn HW1 HW2
          obtain ⟨l2, hl2⟩ : ∃ l2, l1 ++ D38.words s (1 : Int) j (N1 + 1) = l2 := ⟨_, rfl⟩
          rw [hl2] at hv hlen
          have HL2 := Lib.hid hl2
          have HNN := Lib.hid hN2
          obtain ⟨vb, vcap2, rfl⟩ := hv.form
          have HV4 := Lib.hid hv
          have hN2b : N2 < 80000 := by omega
          clear hb hk hwl hl2 hN2 hv hwn
          by_cases hjt : j < q
          · go_wp2_with fail
            refine (refd_word HB4.out (by omega) (1 : Int) (by omega) (by omega)).mono ?_
            rintro e w5 ⟨rfl, hb5, hk5⟩
            have HB5 := Lib.hid hb5
            have HK5 := Lib.hid (HK4.out.trans hk5)
            have HV5 := Lib.hid (HV4.out.keep hk5 (by intro g hg hm; have := HV4.out.at_ g hg; simp only [List.mem_cons, List.not_mem_nil, or_false] at hm; omega))
            clear hb5 hk5
            obtain ⟨x, hx⟩ : ∃ x, D38.word s N2 (1 : Int) = x := ⟨_, rfl⟩
            rw [hx] at HW1
            rw [hx]
            clear hx
            go_wp2_with (at_builtin; refine wpList_append_one (es := [.int .u64 x]) (.tmp 30) (.tmp 34) row_u64 rfl rfl HV5.out (by rfl) (by rfl) rfl (by simp; rfl) (by omega) (by decide) ?_)
            intro g cap w6 hrow hk6 hor
            have HB6 := Lib.hid (HB5.out.own hk6 (by intro g hg e; have := HV5.out.at_ g hg; omega))
            have HK6 := Lib.hid (keep_own HK5.out hk6 (fun g hg => (HV5.out.at_ g hg).1))
            have HV6 := Lib.hid (U64s.snoc hrow)
            clear hrow hk6 hor
            go_wp2
            go_roundw
            case rel => exact ⟨j + 1, by omega, by go_num, by rw [HW1.out, ← List.append_assoc, HL2.out]; exact HV6.out, by rw [HW2.out]; exact HB6.out, HK6.out⟩
            case measure => simp [intOf]; omega
          · obtain rfl : j = q := by omega
            clear hjt hj
            go_wp2
            go_roundw
            case rel => exact ⟨p + 1, by omega, by go_num, by rw [HPL.out, HL2.out]; exact HV4.out, by rw [HPP.out, HNN.out]; exact HB4.out, HK4.out⟩
            case measure => simp [intOf]; omega
      · exact absurd hlt (by omega)
    · have hpm : p = ((1 : Int)).toNat := by omega
      subst hpm
      obtain ⟨va, vcap, rfl⟩ := hv.form
      have HV := Lib.hid hv
      clear hv hlt hp
      go_wp2
      go_ret
      exact ⟨_, rfl, HV.out, HB.out, HK.out⟩

set_option maxRecDepth 100000 in
set_option maxHeartbeats 1000000 in
theorem refd_programs_b {w : World} {b : Nat} {s : Int} {N : Nat} (h : Blk w b [.int .u64 s, .int .i64 ((N : Nat) : Int)]) (hN : N < 50000) (n : Int) (hn : 1 ≤ n) (hn2 : n ≤ 16) :
    Calls Try.prog 24 #[.pointer (some ⟨b, 0, none⟩), .int .i64 n] w fun e w' => ∃ v, e = .returned v ∧ U64s w' w.heap.size v (D38.progs s n (n).toNat N) ∧ Blk w' b [.int .u64 s, .int .i64 ((D38.progsN s n (n).toNat N : Nat) : Int)] ∧ Keep [b] w w' := by
  have HX := Lib.hid h
  have hbw := h.lt
  clear h
  have c1 : ¬ n < 1 := by omega
  go_enter Try.func24, Try.ntmps24
  go_wp2
  go_loopw [5, 6] (fun v i wr => ∃ p : Nat, p ≤ (n).toNat ∧ i = .int .i64 p ∧ U64s wr w.heap.size v (D38.progs s n p N) ∧ Blk wr b [.int .u64 s, .int .i64 ((D38.progsN s n p N : Nat) : Int)] ∧ Keep [b] w wr) (fun _ i _ => (n).toNat - (intOf i).toNat)
  case atStart => exact ⟨0, Nat.zero_le _, rfl, Row.nil (Nat.le_refl _), HX.out, Keep.refl _ _⟩
  case round =>
    obtain ⟨p, hp, rfl, hv, hb, hk⟩ := hrel
    have HB := Lib.hid hb
    have HK := Lib.hid hk
    have hpn := D38.progsN_le s n N p
    have hpl := D38.progs_len s n N p
    have HPP := Lib.hid (show D38.progsN s n (p + 1) N = D38.wordsN s n (D38.many s (D38.progsN s n p N)) (D38.progsN s n p N + 1) from rfl)
    have HPL := Lib.hid (show D38.progs s n (p + 1) N = D38.progs s n p N ++ D38.sep p ++ D38.words s n (D38.many s (D38.progsN s n p N)) (D38.progsN s n p N + 1) from rfl)
    clear hb hk
    by_cases hlt : (p : Int) < n
    · obtain ⟨N1, hN1⟩ : ∃ N1, D38.progsN s n p N = N1 := ⟨_, rfl⟩
      obtain ⟨l1, hl1⟩ : ∃ l1, D38.progs s n p N = l1 := ⟨_, rfl⟩
      rw [hN1] at HB hpn HPP HPL
      rw [hl1] at hv hpl HPL
      clear hN1 hl1
      have hmany := D38.many_le s N1
      obtain ⟨q, hq⟩ : ∃ q, D38.many s N1 = q := ⟨_, rfl⟩
      rw [hq] at hmany HPP HPL
      have HM := Lib.hid hmany.2.2
      have hq1 := hmany.1
      have hq2 := hmany.2.1
      clear hmany hq
      have hN1b : N1 < 60000 := by omega
      clear hpn
      -- behind the separator
      have cont : ∀ (w2 : World) (v2 : Value), U64s w2 w.heap.size v2 (l1 ++ D38.sep p) → Blk w2 b [.int .u64 s, .int .i64 ((N1 : Nat) : Int)] → Keep [b] w w2 → True := fun _ _ _ _ _ => trivial
      clear cont
      obtain ⟨va, vcap, rfl⟩ := hv.form
      have HV := Lib.hid hv
      have hvb := hv.at_
      have HVB := Lib.hid hvb
      clear hv hvb
      by_cases hp0 : p = 0
      · have hsep : D38.sep p = [] := by unfold D38.sep; rw [if_pos hp0]
        rw [hsep, List.append_nil] at HPL
        have q0 : decide ((0 : Int) < (p : Int)) = false := by simp; omega
        clear hsep
        go_wp2_with fail
        refine (refd_below HB.out (by omega) 8 (by decide)).mono ?_
        rintro e w3 ⟨rfl, hb3, hk3⟩
        rw [show D38.belN N1 8 = N1 + 1 from rfl] at hb3
        have HB3 := Lib.hid hb3
        have HK3 := Lib.hid (HK.out.trans hk3)
        have HV3 := Lib.hid (HV.out.keep hk3 (by intro g hg hm; have := HV.out.at_ g hg; simp only [List.mem_cons, List.not_mem_nil, or_false] at hm; omega))
        clear hb3 hk3
        have hm2 : 1 + D38.bel s N1 8 = (q : Int) := HM.out.symm
        obtain ⟨t, ht⟩ : ∃ t, D38.bel s N1 8 = t := ⟨_, rfl⟩
        rw [ht] at hm2
        have hw1 : IntKind.i64.wrap (1 + t) = (q : Int) := by rw [IntKind.wrap_i64]; omega
        have ht0 : 0 ≤ t := by omega
        have ht1 : t < 8 := by omega
        rw [ht]
        clear ht
        go_wp2
        go_loopw [5, 8] (fun v i wq => ∃ j : Nat, j ≤ q ∧ i = .int .i64 j ∧ U64s wq w.heap.size v (l1 ++ D38.words s n j (N1 + 1)) ∧ Blk wq b [.int .u64 s, .int .i64 ((D38.wordsN s n j (N1 + 1) : Nat) : Int)] ∧ Keep [b] w wq) (fun _ i _ => q - (intOf i).toNat)
        case atStart => exact ⟨0, Nat.zero_le _, rfl, by show U64s _ _ _ (l1 ++ []); rw [List.append_nil]; exact HV3.out, HB3.out, HK3.out⟩
        case round =>
          obtain ⟨j, hj, rfl, hv, hb, hk⟩ := hrel
          have HB4 := Lib.hid hb
          have HK4 := Lib.hid hk
          have hwn := D38.wordsN_le s n (N1 + 1) j
          have hwl := D38.words_len s n (N1 + 1) j
          have hlen : (l1 ++ D38.words s n j (N1 + 1)).length < 100000 := by simp only [List.length_append, hwl, List.length_cons, List.length_nil]; omega
          have HW1 := Lib.hid (show D38.words s n (j + 1) (N1 + 1) = D38.words s n j (N1 + 1) ++ [D38.word s (D38.wordsN s n j (N1 + 1)) n] from rfl)
          have HW2 := Lib.hid (show D38.wordsN s n (j + 1) (N1 + 1) = D38.wordN s (D38.wordsN s n j (N1 + 1)) n from rfl)
          obtain ⟨N2, hN2⟩ : ∃ N2, D38.wordsN s n j (N1 + 1) = N2 := ⟨_, rfl⟩
          rw [hN2] at HB4 hwn HW1 HW2
          obtain ⟨l2, hl2⟩ : ∃ l2, l1 ++ D38.words s n j (N1 + 1) = l2 := ⟨_, rfl⟩
          rw [hl2] at hv hlen
          have HL2 := Lib.hid hl2
          have HNN := Lib.hid hN2
          obtain ⟨vb, vcap2, rfl⟩ := hv.form
          have HV4 := Lib.hid hv
          have hN2b : N2 < 80000 := by omega
          clear hb hk hwl hl2 hN2 hv hwn
          by_cases hjt : j < q
          · go_wp2_with fail
            refine (refd_word HB4.out (by omega) n (by omega) (by omega)).mono ?_
            rintro e w5 ⟨rfl, hb5, hk5⟩
            have HB5 := Lib.hid hb5
            have HK5 := Lib.hid (HK4.out.trans hk5)
            have HV5 := Lib.hid (HV4.out.keep hk5 (by intro g hg hm; have := HV4.out.at_ g hg; simp only [List.mem_cons, List.not_mem_nil, or_false] at hm; omega))
            clear hb5 hk5
            obtain ⟨x, hx⟩ : ∃ x, D38.word s N2 n = x := ⟨_, rfl⟩
            rw [hx] at HW1
            rw [hx]
            clear hx
            go_wp2_with (at_builtin; refine wpList_append_one (es := [.int .u64 x]) (.tmp 30) (.tmp 34) row_u64 rfl rfl HV5.out (by rfl) (by rfl) rfl (by simp; rfl) (by omega) (by decide) ?_)
            intro g cap w6 hrow hk6 hor
            have HB6 := Lib.hid (HB5.out.own hk6 (by intro g hg e; have := HV5.out.at_ g hg; omega))
            have HK6 := Lib.hid (keep_own HK5.out hk6 (fun g hg => (HV5.out.at_ g hg).1))
            have HV6 := Lib.hid (U64s.snoc hrow)
            clear hrow hk6 hor
            go_wp2
            go_roundw
            case rel => exact ⟨j + 1, by omega, by go_num, by rw [HW1.out, ← List.append_assoc, HL2.out]; exact HV6.out, by rw [HW2.out]; exact HB6.out, HK6.out⟩
            case measure => simp [intOf]; omega
          · obtain rfl : j = q := by omega
            clear hjt hj
            go_wp2
            go_roundw
            case rel => exact ⟨p + 1, by omega, by go_num, by rw [HPL.out, HL2.out]; exact HV4.out, by rw [HPP.out, HNN.out]; exact HB4.out, HK4.out⟩
            case measure => simp [intOf]; omega
      · have hsep : D38.sep p = [7] := by unfold D38.sep; rw [if_neg hp0]
        rw [hsep] at HPL
        have q0 : 0 < p := by omega
        clear hsep hp0
        go_wp2_with (at_builtin; refine wpList_append_one (es := [.int .u64 7]) (.tmp 19) (.tmp 20) row_u64 rfl rfl HV.out (by rfl) (by rfl) rfl (by simp; rfl) (by omega) (by decide) ?_)
        intro g cap w2 hrow hk2 hor
        have HB2 := Lib.hid (HB.out.own hk2 (by intro g hg e; have := HVB.out g hg; omega))
        have HK2 := Lib.hid (keep_own HK.out hk2 (fun g hg => (HVB.out g hg).1))
        have HV2 := Lib.hid (U64s.snoc hrow)
        clear hrow hk2 hor
        go_wp2_with fail
        refine (refd_below HB2.out (by omega) 8 (by decide)).mono ?_
        rintro e w3 ⟨rfl, hb3, hk3⟩
        rw [show D38.belN N1 8 = N1 + 1 from rfl] at hb3
        have HB3 := Lib.hid hb3
        have HK3 := Lib.hid (HK2.out.trans hk3)
        have HV3 := Lib.hid (HV2.out.keep hk3 (by intro g hg hm; have := HV2.out.at_ g hg; simp only [List.mem_cons, List.not_mem_nil, or_false] at hm; omega))
        clear hb3 hk3
        have hm2 : 1 + D38.bel s N1 8 = (q : Int) := HM.out.symm
        obtain ⟨t, ht⟩ : ∃ t, D38.bel s N1 8 = t := ⟨_, rfl⟩
        rw [ht] at hm2
        have hw1 : IntKind.i64.wrap (1 + t) = (q : Int) := by rw [IntKind.wrap_i64]; omega
        have ht0 : 0 ≤ t := by omega
        have ht1 : t < 8 := by omega
        rw [ht]
        clear ht
        go_wp2
        go_loopw [5, 8] (fun v i wq => ∃ j : Nat, j ≤ q ∧ i = .int .i64 j ∧ U64s wq w.heap.size v (l1 ++ [7] ++ D38.words s n j (N1 + 1)) ∧ Blk wq b [.int .u64 s, .int .i64 ((D38.wordsN s n j (N1 + 1) : Nat) : Int)] ∧ Keep [b] w wq) (fun _ i _ => q - (intOf i).toNat)
        case atStart => exact ⟨0, Nat.zero_le _, rfl, by show U64s _ _ _ (l1 ++ [7] ++ []); rw [List.append_nil]; exact HV3.out, HB3.out, HK3.out⟩
        case round =>
          obtain ⟨j, hj, rfl, hv, hb, hk⟩ := hrel
          have HB4 := Lib.hid hb
          have HK4 := Lib.hid hk
          have hwn := D38.wordsN_le s n (N1 + 1) j
          have hwl := D38.words_len s n (N1 + 1) j
          have hlen : (l1 ++ [7] ++ D38.words s n j (N1 + 1)).length < 100000 := by simp only [List.length_append, hwl, List.length_cons, List.length_nil]; omega
          have HW1 := Lib.hid (show D38.words s n (j + 1) (N1 + 1) = D38.words s n j (N1 + 1) ++ [D38.word s (D38.wordsN s n j (N1 + 1)) n] from rfl)
          have HW2 := Lib.hid (show D38.wordsN s n (j + 1) (N1 + 1) = D38.wordN s (D38.wordsN s n j (N1 + 1)) n from rfl)
          obtain ⟨N2, hN2⟩ : ∃ N2, D38.wordsN s n j (N1 + 1) = N2 := ⟨_, rfl⟩
          rw [hN2] at HB4 hwn HW1 HW2
          obtain ⟨l2, hl2⟩ : ∃ l2, l1 ++ [7] ++ D38.words s n j (N1 + 1) = l2 := ⟨_, rfl⟩
          rw [hl2] at hv hlen
          have HL2 := Lib.hid hl2
          have HNN := Lib.hid hN2
          obtain ⟨vb, vcap2, rfl⟩ := hv.form
          have HV4 := Lib.hid hv
          have hN2b : N2 < 80000 := by omega
          clear hb hk hwl hl2 hN2 hv hwn
          by_cases hjt : j < q
          · go_wp2_with fail
            refine (refd_word HB4.out (by omega) n (by omega) (by omega)).mono ?_
            rintro e w5 ⟨rfl, hb5, hk5⟩
            have HB5 := Lib.hid hb5
            have HK5 := Lib.hid (HK4.out.trans hk5)
            have HV5 := Lib.hid (HV4.out.keep hk5 (by intro g hg hm; have := HV4.out.at_ g hg; simp only [List.mem_cons, List.not_mem_nil, or_false] at hm; omega))
            clear hb5 hk5
            obtain ⟨x, hx⟩ : ∃ x, D38.word s N2 n = x := ⟨_, rfl⟩
            rw [hx] at HW1
            rw [hx]
            clear hx
            go_wp2_with (at_builtin; refine wpList_append_one (es := [.int .u64 x]) (.tmp 30) (.tmp 34) row_u64 rfl rfl HV5.out (by rfl) (by rfl) rfl (by simp; rfl) (by omega) (by decide) ?_)
            intro g cap w6 hrow hk6 hor
            have HB6 := Lib.hid (HB5.out.own hk6 (by intro g hg e; have := HV5.out.at_ g hg; omega))
            have HK6 := Lib.hid (keep_own HK5.out hk6 (fun g hg => (HV5.out.at_ g hg).1))
            have HV6 := Lib.hid (U64s.snoc hrow)
            clear hrow hk6 hor
            go_wp2
            go_roundw
            case rel => exact ⟨j + 1, by omega, by go_num, by rw [HW1.out, ← List.append_assoc, HL2.out]; exact HV6.out, by rw [HW2.out]; exact HB6.out, HK6.out⟩
            case measure => simp [intOf]; omega
          · obtain rfl : j = q := by omega
            clear hjt hj
            go_wp2
            go_roundw
            case rel => exact ⟨p + 1, by omega, by go_num, by rw [HPL.out, HL2.out]; exact HV4.out, by rw [HPP.out, HNN.out]; exact HB4.out, HK4.out⟩
            case measure => simp [intOf]; omega
    · have hpm : p = (n).toNat := by omega
      subst hpm
      obtain ⟨va, vcap, rfl⟩ := hv.form
      have HV := Lib.hid hv
      clear hv hlt hp
      go_wp2
      go_ret
      exact ⟨_, rfl, HV.out, HB.out, HK.out⟩

set_option maxRecDepth 100000 in
set_option maxHeartbeats 1000000 in
theorem refd_programs_c {w : World} {b : Nat} {s : Int} {N : Nat} (h : Blk w b [.int .u64 s, .int .i64 ((N : Nat) : Int)]) (hN : N < 50000) (n : Int) (hn : 16 < n) :
    Calls Try.prog 24 #[.pointer (some ⟨b, 0, none⟩), .int .i64 n] w fun e w' => ∃ v, e = .returned v ∧ U64s w' w.heap.size v (D38.progs s (16 : Int) ((16 : Int)).toNat N) ∧ Blk w' b [.int .u64 s, .int .i64 ((D38.progsN s (16 : Int) ((16 : Int)).toNat N : Nat) : Int)] ∧ Keep [b] w w' := by
  have HX := Lib.hid h
  have hbw := h.lt
  clear h
  have c1 : ¬ n < 1 := by omega
  have c2 : ¬ n ≤ 16 := by omega
  go_enter Try.func24, Try.ntmps24
  go_wp2
  go_loopw [5, 6] (fun v i wr => ∃ p : Nat, p ≤ ((16 : Int)).toNat ∧ i = .int .i64 p ∧ U64s wr w.heap.size v (D38.progs s (16 : Int) p N) ∧ Blk wr b [.int .u64 s, .int .i64 ((D38.progsN s (16 : Int) p N : Nat) : Int)] ∧ Keep [b] w wr) (fun _ i _ => ((16 : Int)).toNat - (intOf i).toNat)
  case atStart => exact ⟨0, Nat.zero_le _, rfl, Row.nil (Nat.le_refl _), HX.out, Keep.refl _ _⟩
  case round =>
    obtain ⟨p, hp, rfl, hv, hb, hk⟩ := hrel
    have HB := Lib.hid hb
    have HK := Lib.hid hk
    have hpn := D38.progsN_le s (16 : Int) N p
    have hpl := D38.progs_len s (16 : Int) N p
    have HPP := Lib.hid (show D38.progsN s (16 : Int) (p + 1) N = D38.wordsN s (16 : Int) (D38.many s (D38.progsN s (16 : Int) p N)) (D38.progsN s (16 : Int) p N + 1) from rfl)
    have HPL := Lib.hid (show D38.progs s (16 : Int) (p + 1) N = D38.progs s (16 : Int) p N ++ D38.sep p ++ D38.words s (16 : Int) (D38.many s (D38.progsN s (16 : Int) p N)) (D38.progsN s (16 : Int) p N + 1) from rfl)
    clear hb hk
    by_cases hlt : (p : Int) < (16 : Int)
    · obtain ⟨N1, hN1⟩ : ∃ N1, D38.progsN s (16 : Int) p N = N1 := ⟨_, rfl⟩
      obtain ⟨l1, hl1⟩ : ∃ l1, D38.progs s (16 : Int) p N = l1 := ⟨_, rfl⟩
      rw [hN1] at HB hpn HPP HPL
      rw [hl1] at hv hpl HPL
      clear hN1 hl1
      have hmany := D38.many_le s N1
      obtain ⟨q, hq⟩ : ∃ q, D38.many s N1 = q := ⟨_, rfl⟩
      rw [hq] at hmany HPP HPL
      have HM := Lib.hid hmany.2.2
      have hq1 := hmany.1
      have hq2 := hmany.2.1
      clear hmany hq
      have hN1b : N1 < 60000 := by omega
      clear hpn
      -- behind the separator
      have cont : ∀ (w2 : World) (v2 : Value), U64s w2 w.heap.size v2 (l1 ++ D38.sep p) → Blk w2 b [.int .u64 s, .int .i64 ((N1 : Nat) : Int)] → Keep [b] w w2 → True := fun _ _ _ _ _ => trivial
      clear cont
      obtain ⟨va, vcap, rfl⟩ := hv.form
      have HV := Lib.hid hv
      have hvb := hv.at_
      have HVB := Lib.hid hvb
      clear hv hvb
      by_cases hp0 : p = 0
      · have hsep : D38.sep p = [] := by unfold D38.sep; rw [if_pos hp0]
        rw [hsep, List.append_nil] at HPL
        have q0 : decide ((0 : Int) < (p : Int)) = false := by simp; omega
        clear hsep
        go_wp2_with fail
        refine (refd_below HB.out (by omega) 8 (by decide)).mono ?_
        rintro e w3 ⟨rfl, hb3, hk3⟩
        rw [show D38.belN N1 8 = N1 + 1 from rfl] at hb3
        have HB3 := Lib.hid hb3
        have HK3 := Lib.hid (HK.out.trans hk3)
        have HV3 := Lib.hid (HV.out.keep hk3 (by intro g hg hm; have := HV.out.at_ g hg; simp only [List.mem_cons, List.not_mem_nil, or_false] at hm; omega))
        clear hb3 hk3
        have hm2 : 1 + D38.bel s N1 8 = (q : Int) := HM.out.symm
        obtain ⟨t, ht⟩ : ∃ t, D38.bel s N1 8 = t := ⟨_, rfl⟩
        rw [ht] at hm2
        have hw1 : IntKind.i64.wrap (1 + t) = (q : Int) := by rw [IntKind.wrap_i64]; omega
        have ht0 : 0 ≤ t := by omega
        have ht1 : t < 8 := by omega
        rw [ht]
        clear ht
        go_wp2
        go_loopw [5, 8] (fun v i wq => ∃ j : Nat, j ≤ q ∧ i = .int .i64 j ∧ U64s wq w.heap.size v (l1 ++ D38.words s (16 : Int) j (N1 + 1)) ∧ Blk wq b [.int .u64 s, .int .i64 ((D38.wordsN s (16 : Int) j (N1 + 1) : Nat) : Int)] ∧ Keep [b] w wq) (fun _ i _ => q - (intOf i).toNat)
        case atStart => exact ⟨0, Nat.zero_le _, rfl, by show U64s _ _ _ (l1 ++ []); rw [List.append_nil]; exact HV3.out, HB3.out, HK3.out⟩
        case round =>
          obtain ⟨j, hj, rfl, hv, hb, hk⟩ := hrel
          have HB4 := Lib.hid hb
          have HK4 := Lib.hid hk
          have hwn := D38.wordsN_le s (16 : Int) (N1 + 1) j
          have hwl := D38.words_len s (16 : Int) (N1 + 1) j
          have hlen : (l1 ++ D38.words s (16 : Int) j (N1 + 1)).length < 100000 := by simp only [List.length_append, hwl, List.length_cons, List.length_nil]; omega
          have HW1 := Lib.hid (show D38.words s (16 : Int) (j + 1) (N1 + 1) = D38.words s (16 : Int) j (N1 + 1) ++ [D38.word s (D38.wordsN s (16 : Int) j (N1 + 1)) (16 : Int)] from rfl)
          have HW2 := Lib.hid (show D38.wordsN s (16 : Int) (j + 1) (N1 + 1) = D38.wordN s (D38.wordsN s (16 : Int) j (N1 + 1)) (16 : Int) from rfl)
          obtain ⟨N2, hN2⟩ : ∃ N2, D38.wordsN s (16 : Int) j (N1 + 1) = N2 := ⟨_, rfl⟩
          rw [hN2] at HB4 hwn HW1 HW2
          obtain ⟨l2, hl2⟩ : ∃ l2, l1 ++ D38.words s (16 : Int) j (N1 + 1) = l2 := ⟨_, rfl⟩
          rw [hl2] at hv hlen
          have HL2 := Lib.hid hl2
          have HNN := Lib.hid hN2
          obtain ⟨vb, vcap2, rfl⟩ := hv.form
          have HV4 := Lib.hid hv
          have hN2b : N2 < 80000 := by omega
          clear hb hk hwl hl2 hN2 hv hwn
          by_cases hjt : j < q
          · go_wp2_with fail
            refine (refd_word HB4.out (by omega) (16 : Int) (by omega) (by omega)).mono ?_
            rintro e w5 ⟨rfl, hb5, hk5⟩
            have HB5 := Lib.hid hb5
            have HK5 := Lib.hid (HK4.out.trans hk5)
            have HV5 := Lib.hid (HV4.out.keep hk5 (by intro g hg hm; have := HV4.out.at_ g hg; simp only [List.mem_cons, List.not_mem_nil, or_false] at hm; omega))
            clear hb5 hk5
            obtain ⟨x, hx⟩ : ∃ x, D38.word s N2 (16 : Int) = x := ⟨_, rfl⟩
            rw [hx] at HW1
            rw [hx]
            clear hx
            go_wp2_with (at_builtin; refine wpList_append_one (es := [.int .u64 x]) (.tmp 30) (.tmp 34) row_u64 rfl rfl HV5.out (by rfl) (by rfl) rfl (by simp; rfl) (by omega) (by decide) ?_)
            intro g cap w6 hrow hk6 hor
            have HB6 := Lib.hid (HB5.out.own hk6 (by intro g hg e; have := HV5.out.at_ g hg; omega))
            have HK6 := Lib.hid (keep_own HK5.out hk6 (fun g hg => (HV5.out.at_ g hg).1))
            have HV6 := Lib.hid (U64s.snoc hrow)
            clear hrow hk6 hor
            go_wp2
            go_roundw
            case rel => exact ⟨j + 1, by omega, by go_num, by rw [HW1.out, ← List.append_assoc, HL2.out]; exact HV6.out, by rw [HW2.out]; exact HB6.out, HK6.out⟩
            case measure => simp [intOf]; omega
          · obtain rfl : j = q := by omega
            clear hjt hj
            go_wp2
            go_roundw
            case rel => exact ⟨p + 1, by omega, by go_num, by rw [HPL.out, HL2.out]; exact HV4.out, by rw [HPP.out, HNN.out]; exact HB4.out, HK4.out⟩
            case measure => simp [intOf]; omega
      · have hsep : D38.sep p = [7] := by unfold D38.sep; rw [if_neg hp0]
        rw [hsep] at HPL
        have q0 : 0 < p := by omega
        clear hsep hp0
        go_wp2_with (at_builtin; refine wpList_append_one (es := [.int .u64 7]) (.tmp 19) (.tmp 20) row_u64 rfl rfl HV.out (by rfl) (by rfl) rfl (by simp; rfl) (by omega) (by decide) ?_)
        intro g cap w2 hrow hk2 hor
        have HB2 := Lib.hid (HB.out.own hk2 (by intro g hg e; have := HVB.out g hg; omega))
        have HK2 := Lib.hid (keep_own HK.out hk2 (fun g hg => (HVB.out g hg).1))
        have HV2 := Lib.hid (U64s.snoc hrow)
        clear hrow hk2 hor
        go_wp2_with fail
        refine (refd_below HB2.out (by omega) 8 (by decide)).mono ?_
        rintro e w3 ⟨rfl, hb3, hk3⟩
        rw [show D38.belN N1 8 = N1 + 1 from rfl] at hb3
        have HB3 := Lib.hid hb3
        have HK3 := Lib.hid (HK2.out.trans hk3)
        have HV3 := Lib.hid (HV2.out.keep hk3 (by intro g hg hm; have := HV2.out.at_ g hg; simp only [List.mem_cons, List.not_mem_nil, or_false] at hm; omega))
        clear hb3 hk3
        have hm2 : 1 + D38.bel s N1 8 = (q : Int) := HM.out.symm
        obtain ⟨t, ht⟩ : ∃ t, D38.bel s N1 8 = t := ⟨_, rfl⟩
        rw [ht] at hm2
        have hw1 : IntKind.i64.wrap (1 + t) = (q : Int) := by rw [IntKind.wrap_i64]; omega
        have ht0 : 0 ≤ t := by omega
        have ht1 : t < 8 := by omega
        rw [ht]
        clear ht
        go_wp2
        go_loopw [5, 8] (fun v i wq => ∃ j : Nat, j ≤ q ∧ i = .int .i64 j ∧ U64s wq w.heap.size v (l1 ++ [7] ++ D38.words s (16 : Int) j (N1 + 1)) ∧ Blk wq b [.int .u64 s, .int .i64 ((D38.wordsN s (16 : Int) j (N1 + 1) : Nat) : Int)] ∧ Keep [b] w wq) (fun _ i _ => q - (intOf i).toNat)
        case atStart => exact ⟨0, Nat.zero_le _, rfl, by show U64s _ _ _ (l1 ++ [7] ++ []); rw [List.append_nil]; exact HV3.out, HB3.out, HK3.out⟩
        case round =>
          obtain ⟨j, hj, rfl, hv, hb, hk⟩ := hrel
          have HB4 := Lib.hid hb
          have HK4 := Lib.hid hk
          have hwn := D38.wordsN_le s (16 : Int) (N1 + 1) j
          have hwl := D38.words_len s (16 : Int) (N1 + 1) j
          have hlen : (l1 ++ [7] ++ D38.words s (16 : Int) j (N1 + 1)).length < 100000 := by simp only [List.length_append, hwl, List.length_cons, List.length_nil]; omega
          have HW1 := Lib.hid (show D38.words s (16 : Int) (j + 1) (N1 + 1) = D38.words s (16 : Int) j (N1 + 1) ++ [D38.word s (D38.wordsN s (16 : Int) j (N1 + 1)) (16 : Int)] from rfl)
          have HW2 := Lib.hid (show D38.wordsN s (16 : Int) (j + 1) (N1 + 1) = D38.wordN s (D38.wordsN s (16 : Int) j (N1 + 1)) (16 : Int) from rfl)
          obtain ⟨N2, hN2⟩ : ∃ N2, D38.wordsN s (16 : Int) j (N1 + 1) = N2 := ⟨_, rfl⟩
          rw [hN2] at HB4 hwn HW1 HW2
          obtain ⟨l2, hl2⟩ : ∃ l2, l1 ++ [7] ++ D38.words s (16 : Int) j (N1 + 1) = l2 := ⟨_, rfl⟩
          rw [hl2] at hv hlen
          have HL2 := Lib.hid hl2
          have HNN := Lib.hid hN2
          obtain ⟨vb, vcap2, rfl⟩ := hv.form
          have HV4 := Lib.hid hv
          have hN2b : N2 < 80000 := by omega
          clear hb hk hwl hl2 hN2 hv hwn
          by_cases hjt : j < q
          · go_wp2_with fail
            refine (refd_word HB4.out (by omega) (16 : Int) (by omega) (by omega)).mono ?_
            rintro e w5 ⟨rfl, hb5, hk5⟩
            have HB5 := Lib.hid hb5
            have HK5 := Lib.hid (HK4.out.trans hk5)
            have HV5 := Lib.hid (HV4.out.keep hk5 (by intro g hg hm; have := HV4.out.at_ g hg; simp only [List.mem_cons, List.not_mem_nil, or_false] at hm; omega))
            clear hb5 hk5
            obtain ⟨x, hx⟩ : ∃ x, D38.word s N2 (16 : Int) = x := ⟨_, rfl⟩
            rw [hx] at HW1
            rw [hx]
            clear hx
            go_wp2_with (at_builtin; refine wpList_append_one (es := [.int .u64 x]) (.tmp 30) (.tmp 34) row_u64 rfl rfl HV5.out (by rfl) (by rfl) rfl (by simp; rfl) (by omega) (by decide) ?_)
            intro g cap w6 hrow hk6 hor
            have HB6 := Lib.hid (HB5.out.own hk6 (by intro g hg e; have := HV5.out.at_ g hg; omega))
            have HK6 := Lib.hid (keep_own HK5.out hk6 (fun g hg => (HV5.out.at_ g hg).1))
            have HV6 := Lib.hid (U64s.snoc hrow)
            clear hrow hk6 hor
            go_wp2
            go_roundw
            case rel => exact ⟨j + 1, by omega, by go_num, by rw [HW1.out, ← List.append_assoc, HL2.out]; exact HV6.out, by rw [HW2.out]; exact HB6.out, HK6.out⟩
            case measure => simp [intOf]; omega
          · obtain rfl : j = q := by omega
            clear hjt hj
            go_wp2
            go_roundw
            case rel => exact ⟨p + 1, by omega, by go_num, by rw [HPL.out, HL2.out]; exact HV4.out, by rw [HPP.out, HNN.out]; exact HB4.out, HK4.out⟩
            case measure => simp [intOf]; omega
    · have hpm : p = ((16 : Int)).toNat := by omega
      subst hpm
      obtain ⟨va, vcap, rfl⟩ := hv.form
      have HV := Lib.hid hv
      clear hv hlt hp
      go_wp2
      go_ret
      exact ⟨_, rfl, HV.out, HB.out, HK.out⟩

def clamp (n : Int) : Int := if n < 1 then 1 else if 16 < n then 16 else n
theorem dice_programs {w : World} {b : Nat} {s : Int} {N : Nat} (h : Blk w b [.int .u64 (D38.at_ s N)]) (hN : N < 50000) (n : Int) :
    Calls Try.prog 23 #[.pointer (some ⟨b, 0, none⟩), .int .i64 n] w fun e w' => ∃ v, e = .returned v ∧ U64s w' w.heap.size v (D38.progs s (clamp n) (clamp n).toNat N) ∧ Blk w' b [.int .u64 (D38.at_ s (D38.progsN s (clamp n) (clamp n).toNat N))] ∧ Keep [b] w w' := by
  unfold clamp
  split
  · exact dice_programs_a h hN n (by omega)
  split
  · exact dice_programs_c h hN n (by omega)
  · exact dice_programs_b h hN n (by omega) (by omega)
theorem refd_programs {w : World} {b : Nat} {s : Int} {N : Nat} (h : Blk w b [.int .u64 s, .int .i64 N]) (hN : N < 50000) (n : Int) :
    Calls Try.prog 24 #[.pointer (some ⟨b, 0, none⟩), .int .i64 n] w fun e w' => ∃ v, e = .returned v ∧ U64s w' w.heap.size v (D38.progs s (clamp n) (clamp n).toNat N) ∧ Blk w' b [.int .u64 s, .int .i64 (D38.progsN s (clamp n) (clamp n).toNat N : Nat)] ∧ Keep [b] w w' := by
  unfold clamp
  split
  · exact refd_programs_a h hN n (by omega)
  split
  · exact refd_programs_c h hN n (by omega)
  · exact refd_programs_b h hN n (by omega) (by omega)

end Go.Proofs.Ytophgiocmldliaa
