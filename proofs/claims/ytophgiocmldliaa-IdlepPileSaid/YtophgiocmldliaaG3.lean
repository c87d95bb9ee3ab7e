/- A ground: its layout, its memory, and the document's. -/
import Derived.Test.YtophgiocmldliaaG2
namespace Go.Proofs.Ytophgiocmldliaa
open Go.RowKit
theorem info_put : (Try.prog.info? 53).map (fun i => (i.zero, i.size, i.bytes)) = some (some (.agg #[.int .i64 0, .int .u64 0]), 2, 16) := by kernel_rfl
theorem under_puts : Try.prog.underlying 54 = some (.slice 53) := by kernel_rfl
/-- A slice of words that are laid. -/
def PutsAt (w : World) (v : Value) (ps : List (Int × Int)) : Prop :=
  (v = .slice none 0 0 ∧ ps = []) ∨ ∃ b off cap, v = .slice (some ⟨b, off, none⟩) ps.length cap ∧ b < w.heap.size ∧
    ∀ i (h : i < ps.length), w.cell? ⟨b, off + i * 2, none⟩ = some (.int .i64 ps[i].1) ∧ w.cell? ⟨b, off + i * 2 + 1, none⟩ = some (.int .u64 ps[i].2)
theorem PutsAt.keep {w w' : World} {v : Value} {ps : List (Int × Int)} {S : List Nat} (h : PutsAt w v ps) (k : Keep S w w') (hs : ∀ x ∈ S, w.heap.size ≤ x) : PutsAt w' v ps := by
  rcases h with h | ⟨b, off, cap, h1, h2, h3⟩
  · exact .inl h
  · refine .inr ⟨b, off, cap, h1, Nat.lt_of_lt_of_le h2 k.size, fun i hi => ?_⟩
    have hb : w'.heap[b]? = w.heap[b]? := k.block b h2 (fun hm => by have := hs b hm; omega)
    rw [World.cell?_of_block (w := w) (w' := w') hb, World.cell?_of_block (w := w) (w' := w') hb]
    exact h3 i hi
/-- One word that is laid. -/
def putOne (ws : List Int) (p : Int × Int) : List Int := if 0 ≤ p.1 ∧ p.1 < ws.length then ws.set p.1.toNat p.2 else ws
def lays (ws : List Int) (ps : List (Int × Int)) : List Int := ps.foldl putOne ws
theorem putOne_len (ws : List Int) (p : Int × Int) : (putOne ws p).length = ws.length := by unfold putOne; split <;> simp
theorem putOne_no {ws : List Int} {p : Int × Int} (h : p.1 < 0 ∨ (ws.length : Int) ≤ p.1) : putOne ws p = ws := by
  unfold putOne
  rw [if_neg (by omega)]
theorem putOne_yes {ws : List Int} {p : Int × Int} (h : 0 ≤ p.1 ∧ p.1 < ws.length) : putOne ws p = ws.set p.1.toNat p.2 := by
  unfold putOne
  rw [if_pos h]
theorem lays_len (ps : List (Int × Int)) : ∀ ws : List Int, (lays ws ps).length = ws.length := by
  induction ps with
  | nil => intro ws; rfl
  | cons p ps ih => intro ws; show (lays (putOne ws p) ps).length = _; rw [ih, putOne_len]
theorem lays_take (ws : List Int) (ps : List (Int × Int)) (k : Nat) (h : k < ps.length) : lays ws (ps.take (k + 1)) = putOne (lays ws (ps.take k)) ps[k] := by
  unfold lays
  rw [List.take_succ_eq_append_getElem h, List.foldl_append]
  rfl
theorem lays_range (ps : List (Int × Int)) (hp : ∀ p ∈ ps, 0 ≤ p.2 ∧ p.2 < 18446744073709551616) : ∀ ws : List Int, (∀ x ∈ ws, 0 ≤ x ∧ x < 18446744073709551616) → ∀ x ∈ lays ws ps, 0 ≤ x ∧ x < 18446744073709551616 := by
  induction ps with
  | nil => intro ws h; exact h
  | cons p ps ih =>
    intro ws h
    refine ih (fun q hq => hp q (List.mem_cons_of_mem _ hq)) (putOne ws p) ?_
    unfold putOne
    split
    · exact range_set h (hp p List.mem_cons_self)
    · exact h
/-- The words of a ground. -/
def ground (c : Cfg) (ps : List (Int × Int)) : List Int := lays (List.replicate c.len.toNat 0) ps
structure Cfg.Few (c : Cfg) : Prop where
  p0 : 1 ≤ c.procs
  p1 : c.procs ≤ 4
  t0 : c.procs ≤ c.threads
  t1 : c.threads ≤ 8
  g0 : 1 ≤ c.gs
  g1 : c.gs ≤ 60
theorem Cfg.Few.right {c : Cfg} (h : c.Few) : c.Right := by obtain ⟨p0, p1, t0, t1, g0, g1⟩ := h; exact ⟨p0, by omega, t0, by omega, g0, by omega⟩
def groundV (c : Cfg) (v : Value) : Value := .agg #[.int .i64 c.procs, .int .i64 c.threads, .int .i64 c.gs, v]
def LaidNo (w : World) (e : Ending) (w' : World) : Prop := e = .returned (.tuple #[.pointer none, .pointer none, .pointer none, .bool false]) ∧ Keep [] w w'
def LaidYes (c : Cfg) (ps : List (Int × Int)) (w : World) (e : Ending) (w' : World) : Prop := ∃ bl bm bw rm rw, e = .returned (.tuple #[.pointer (some ⟨bl, 0, none⟩), .pointer (some ⟨bm, 0, none⟩), .pointer (some ⟨rm, 0, none⟩), .bool true]) ∧
  LayAt w' bl c ∧ MemAt w' bm bw (Mem.of (ground c ps)) ∧ MemAt w' rm rw (Mem.of (ground c ps)) ∧ Keep [] w w' ∧ w.heap.size ≤ bl ∧ w.heap.size ≤ bm ∧ w.heap.size ≤ bw ∧ w.heap.size ≤ rm ∧ w.heap.size ≤ rw ∧ bm < rm ∧ bm < rw ∧ bw < rm ∧ bw < rw

set_option maxRecDepth 100000 in
set_option maxHeartbeats 600000 in
theorem lay_no_few (c : Cfg) (v : Value) (w : World) (h : fewB c.procs c.threads c.gs = false) : Calls Try.prog 29 #[groundV c v] w (LaidNo w) := by
  have HF := Lib.hid (fun w => law_few c.procs c.threads c.gs w)
  rw [h] at HF
  clear h
  unfold groundV cfgV at *
  go_enter Try.func29, Try.ntmps29
  go_wp2_with fail
  refine (HF.out _).mono ?_
  rintro e w1 ⟨rfl, hk⟩
  have HK := Lib.hid (Keep.trans (Keep.alloc (Keep.refl [] w)) hk)
  clear hk
  go_wp2
  exact bodyPost_ret (v := .tuple #[.pointer none, .pointer none, .pointer none, .bool false]) (by simp [results, Try.results29, go_sem]) rfl ⟨rfl, HK.out⟩

set_option maxRecDepth 100000 in
set_option maxHeartbeats 600000 in
theorem lay_no_many (c : Cfg) (v : Value) (ps : List (Int × Int)) (w : World) (hp : PutsAt w v ps) (h : 400 < ps.length) (h2 : (ps.length : Int) ≤ 9223372036854775807) : Calls Try.prog 29 #[groundV c v] w (LaidNo w) := by
  have HF := Lib.hid (fun w => law_few c.procs c.threads c.gs w)
  obtain ⟨a, cap, rfl⟩ : ∃ a cap, v = .slice a ps.length cap := by
    rcases hp with ⟨rfl, rfl⟩ | ⟨b, off, cap, rfl, _⟩
    · exact ⟨_, _, rfl⟩
    · exact ⟨_, _, rfl⟩
  clear hp
  cases hb : fewB c.procs c.threads c.gs with
  | false => exact lay_no_few c _ w hb
  | true =>
    rw [hb] at HF
    clear hb
    unfold groundV cfgV at *
    go_enter Try.func29, Try.ntmps29
    go_wp2_with fail
    refine (HF.out _).mono ?_
    rintro e w1 ⟨rfl, hk⟩
    have cb := (Blk.new (w := w) (cs := [.int .i64 c.procs, .int .i64 c.threads, .int .i64 c.gs, .slice a ps.length cap]) (T := 56) rfl).keep hk (by simp)
    have cc := cb.cell
    have HK := Lib.hid (Keep.trans (Keep.alloc (Keep.refl [] w)) hk)
    clear hk cb
    go_wp2
    exact bodyPost_ret (v := .tuple #[.pointer none, .pointer none, .pointer none, .bool false]) (by simp [results, Try.results29, go_sem]) rfl ⟨rfl, HK.out⟩

theorem own_full {w : World} {base e n g : Nat} {xs : List Value} (h : w.ownsRow base e 1 (.slice (some ⟨g, 0, none⟩) n n) n xs) : Blk w g xs := by
  obtain ⟨h1, ⟨h2, _⟩ | ⟨g', cap, cur, h2, hb, hh, hc, hm, hs, ht⟩⟩ := h
  · simp at h2
  · simp only [Value.slice.injEq, Option.some.injEq, Addr.mk.injEq, and_true, true_and] at h2
    obtain ⟨rfl, rfl⟩ := h2
    refine ⟨e, ?_⟩
    rw [hh, ← ht, Nat.mul_one, List.take_of_length_le (by rw [Array.length_toList, hs]; omega)]
theorem u64s_rep (n : Nat) : u64s (List.replicate n 0) = (madeCells #[.int .u64 0] n).toList := by
  rw [toList_madeCells_one]
  simp [u64s]
set_option maxRecDepth 100000 in
set_option maxHeartbeats 2000000 in
theorem lay_yes (c : Cfg) (v : Value) (ps : List (Int × Int)) (w : World) (hp : PutsAt w v ps) (hf : c.Few) (h : ps.length ≤ 400) (hr : ∀ p ∈ ps, 0 ≤ p.2 ∧ p.2 < 18446744073709551616) : Calls Try.prog 29 #[groundV c v] w (LaidYes c ps w) := by
  have HF := Lib.hid (fun w => law_few c.procs c.threads c.gs w)
  rw [fewB_true ⟨hf.p0, hf.p1, hf.t0, hf.t1, hf.g0, hf.g1⟩] at HF
  have hR := hf.right
  have HL := Lib.hid (fun w => ref_len c.procs c.threads c.gs w ⟨hR.p0, hR.p1, hR.t0, hR.t1, hR.g0, hR.g1⟩)
  have HO := Lib.hid (fun w => lay_of_yes c hR w)
  have HPR := Lib.hid hr
  obtain ⟨i0, hi, hz0, hz1, hz2⟩ := info_parts info_u64
  obtain ⟨a, cap, rfl⟩ : ∃ a cap, v = .slice a ps.length cap := by
    rcases hp with ⟨rfl, rfl⟩ | ⟨b, off, cap, rfl, _⟩
    · exact ⟨_, _, rfl⟩
    · exact ⟨_, _, rfl⟩
  have HP := Lib.hid hp
  obtain ⟨N, hN⟩ : ∃ N : Nat, 20 + 264 * c.procs + 3 * c.threads + 2 * c.gs = (N : Int) := ⟨(20 + 264 * c.procs + 3 * c.threads + 2 * c.gs).toNat, by have := hf.p0; have := hf.t0; have := hf.g0; omega⟩
  have hNl : 280 ≤ N := by have := hf.p0; have := hf.t0; have := hf.g0; omega
  have hNu : N ≤ 2000 := by have := hf.p1; have := hf.t1; have := hf.g1; omega
  have HNN := Lib.hid hN
  obtain ⟨p0, p1, t0, t1, g0, g1⟩ := hf
  clear hp hr hR hN
  unfold groundV cfgV at *
  go_enter Try.func29, Try.ntmps29
  go_wp2_with fail
  refine (HF.out _).mono ?_
  rintro e w1 ⟨rfl, hk⟩
  have cb := (Blk.new (w := w) (cs := [.int .i64 c.procs, .int .i64 c.threads, .int .i64 c.gs, .slice a ps.length cap]) (T := 56) rfl).keep hk (by simp)
  have cc := cb.cell
  have HB := Lib.hid cb
  have HK := Lib.hid (Keep.trans (Keep.alloc (Keep.refl [] w)) hk)
  clear hk cb
  go_wp2_with fail
  refine (HL.out _).mono ?_
  rintro e w2 ⟨rfl, hk⟩
  have hb2 := HB.out.keep hk (by simp)
  have cc2 := hb2.cell
  have HB2 := Lib.hid hb2
  have HK2 := Lib.hid (HK.out.trans hk)
  have hs2 := HK2.out.size
  have lb2 := hb2.lt
  clear hk hb2 cc HB HK
  go_wp2_with (at_make; refine wpList_make_full _ rfl _ _ 39 rfl (w.heap.size + 1) 22 i0 (.int .u64 0) 1 under_u64s hi hz0 hz1 .i64 .i64 _ _ N rfl rfl HNN.out HNN.out ?c1 ?c2 ?c3 ?_)
  case c1 => rw [hz2]; omega
  case c2 => unfold maxLen; omega
  case c3 => omega
  intro w3 hown hgr
  have hk3 : Keep [] w2 w3 := grown_keep hgr (by intro b hb; cases hb)
  have hg3 : Blk w3 w2.heap.size (u64s (List.replicate N 0)) := by
    rw [u64s_rep]
    exact own_full hown
  have hb3 := HB2.out.keep hk3 (by simp)
  have HK3 := Lib.hid (HK2.out.trans hk3)
  have HG3 := Lib.hid hg3
  have HB3 := Lib.hid hb3
  have hs3 := HK3.out.size
  have lg3 := hg3.lt
  clear hk3 hg3 hb3 hown hgr cc2 HB2
  go_wp2
  go_loopw [7] (fun i wr => ∃ k : Nat, k ≤ ps.length ∧ i = .int .i64 k ∧ Blk wr w2.heap.size (u64s (lays (List.replicate N 0) (ps.take k))) ∧ Keep [w2.heap.size] w3 wr)
    (fun i _ => ps.length - (intOf i).toNat)
  case atStart => exact ⟨0, Nat.zero_le _, rfl, HG3.out, Keep.refl _ _⟩
  case round =>
    obtain ⟨k, hk, rfl, hblk, hkp⟩ := hrel
    have HBK := Lib.hid hblk
    have HKP := Lib.hid hkp
    have hbr := HB3.out.keep hkp (by simp; omega)
    have cbr := hbr.cell
    have hszr := hkp.size
    have flk := hblk.free
    have llk := hblk.lt
    clear hblk hkp hbr
    by_cases hlt : k < ps.length
    · have hHP := HP.out.keep (HK3.out.trans' HKP.out (by simp; omega)) (by simp)
      rcases hHP with ⟨_, h0⟩ | ⟨b, off, cap', hv, hbl, hcells⟩
      · rw [h0] at hlt
        exact absurd hlt (by simp)
      · simp only [Value.slice.injEq] at hv
        obtain ⟨rfl, -, rfl⟩ := hv
        obtain ⟨ca, cw⟩ := hcells k hlt
        obtain ⟨pa, hpa⟩ : ∃ q, ps[k].1 = q := ⟨_, rfl⟩
        obtain ⟨pw, hpw⟩ : ∃ q, ps[k].2 = q := ⟨_, rfl⟩
        rw [hpa] at ca
        rw [hpw] at cw
        have HPA := Lib.hid hpa
        have HPW := Lib.hid hpw
        clear hpa hpw hcells
        by_cases h1 : pa < 0
        · go_wp2
          go_roundw
          case rel => exact ⟨k + 1, by omega, by go_num, by rw [lays_take _ _ _ hlt, putOne_no (.inl (by rw [HPA.out]; exact h1))]; exact HBK.out, HKP.out⟩
          case measure => simp [intOf]; omega
        · by_cases h2 : (N : Int) ≤ pa
          · go_wp2
            go_roundw
            case rel => exact ⟨k + 1, by omega, by go_num, by rw [lays_take _ _ _ hlt, putOne_no (.inr (by rw [HPA.out, lays_len]; simpa using h2))]; exact HBK.out, HKP.out⟩
            case measure => simp [intOf]; omega
          · have h1' : 0 ≤ pa := by omega
            have h2' : pa < (N : Int) := by omega
            have cwd : wr.cell? ⟨w2.heap.size, pa.toNat, none⟩ = some (.int .u64 ((lays (List.replicate N 0) (ps.take k)).getD pa.toNat 0)) := by
              have := u64s_get (l := lays (List.replicate N 0) (ps.take k)) (sp := []) (i := pa.toNat) (by rw [lays_len]; simp; omega)
              rw [HBK.out.cell]
              simpa using this
            generalize (lays (List.replicate N 0) (ps.take k)).getD pa.toNat 0 = old at cwd
            clear h1 h2
            go_wp2
            refine wp_region_still_tail 14 (by kernel_rfl) (by kernel_rfl) ?_
            simp only [List.take_succ_cons, List.take_zero, List.drop_succ_cons, List.drop_zero]
            change wpStill _ _ (World.drew _) _ _ _
            repeat (first | still_step)
            try refine wpStill_nil ?_
            change wpList _ _ _ _ _ (World.drew _)
            go_wp2
            go_roundw
            case rel =>
              have hbk2 := HBK.out
              refine ⟨k + 1, by omega, by go_num, ?_, ?_⟩
              · rw [lays_take _ _ _ hlt, putOne_yes ⟨by rw [HPA.out]; exact h1', by rw [HPA.out, lays_len]; simpa using h2'⟩, HPA.out, HPW.out]
                refine Blk.drew (Blk.set hbk2 ?_)
                have := u64s_set (l := lays (List.replicate N 0) (ps.take k)) (sp := []) (i := pa.toNat) (v := pw) (by rw [lays_len]; simp; omega)
                simpa using this
              · exact HKP.out.trans (by (repeat (first | with_reducible exact Keep.refl _ _ | with_reducible refine Keep.drewN ?_ | with_reducible refine Keep.drew ?_ | with_reducible refine Keep.alloc ?_ | (with_reducible refine Keep.set ?_ (by simp)) | (with_reducible refine Keep.setNew ?_ (by simp; done)) | (with_reducible refine Keep.setNew ?_ (by simp; omega)))))
            case measure => simp [intOf]; omega
    · have : k = ps.length := by omega
      subst this
      have HW : Hid (Blk wr w2.heap.size (u64s (ground c ps))) := by
        have h1 := HBK.out
        rw [List.take_length] at h1
        have h2 : c.len.toNat = N := by unfold Cfg.len; rw [HNN.out]; simp
        unfold ground
        rw [h2]
        exact h1
      have hwl : (ground c ps).length = N := by
        unfold ground
        rw [lays_len, List.length_replicate]
        unfold Cfg.len
        rw [HNN.out]
        simp
      have HWL := Lib.hid hwl
      have HWR := Lib.hid (lays_range ps HPR.out (List.replicate c.len.toNat 0) (by intro x hx; rw [List.eq_of_mem_replicate hx]; decide))
      have HKW := Lib.hid (HK3.out.trans' HKP.out (by simp; omega))
      clear HBK hwl HKP
      go_wp2_with fail
      refine (HO.out _).mono ?_
      rintro e w5 ⟨bl, rfl, hbl, hlay, hk5⟩
      have HLY := Lib.hid hlay
      have HK5 := Lib.hid hk5
      have HW5 := Lib.hid (HW.out.keep hk5 (by simp))
      have hs5 := hk5.size
      have ll := hlay.lt
      clear hlay hk5
      go_wp2_with fail
      have HC := Lib.hid (cell_of (c := N) (sp := []) (ws := ground c ps) (by simpa using HW5.out) (by rw [HWL.out]; exact hNl) (by rw [HWL.out]; omega) HWR.out)
      rw [HWL.out] at HC
      refine HC.out.mono ?_
      rintro e w6 ⟨bm, bw, rfl, hbm, hbw, hmem, hk6⟩
      have HM6 := Lib.hid hmem
      have HK6 := Lib.hid hk6
      have HW6 := Lib.hid (HW5.out.keep hk6 (by simp))
      have lm := hmem.lt
      have lw := hmem.lt'
      have hs6 := hk6.size
      clear hmem hk6
      go_wp2_with fail
      have HN := Lib.hid (ref_new (c := N) (sp := []) (ws := ground c ps) (by simpa using HW6.out) (by rw [HWL.out]; exact hNl) (by rw [HWL.out]; omega) HWR.out)
      rw [HWL.out] at HN
      refine HN.out.mono ?_
      rintro e w7 ⟨rm, rw', rfl, hrm, hrw, hmem, hk7⟩
      have HM7 := Lib.hid hmem
      have HK7 := Lib.hid hk7
      clear hmem hk7
      go_wp2
      refine bodyPost_ret (v := .tuple #[.pointer (some ⟨bl, 0, none⟩), .pointer (some ⟨bm, 0, none⟩), .pointer (some ⟨rm, 0, none⟩), .bool true]) (by simp [results, Try.results29, go_sem]) rfl ?_
      have hss := HKW.out.size
      exact ⟨bl, bm, bw, rm, rw', rfl, (HLY.out.keep HK6.out (by simp)).keep HK7.out (by simp), HM6.out.keep HK7.out (by simp) (by simp), HM7.out, ((HKW.out.trans HK5.out).trans HK6.out).trans HK7.out, by omega, by omega, by omega, by omega, by omega, by omega, by omega, by omega, by omega⟩

end Go.Proofs.Ytophgiocmldliaa