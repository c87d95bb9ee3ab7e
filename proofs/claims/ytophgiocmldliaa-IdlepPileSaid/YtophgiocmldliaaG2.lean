/- A memory out of words: slices.Clone, cell.Of, the reference's New. -/
import Derived.Test.YtophgiocmldliaaG1
import Derived.Deep.AppendLies
import Derived.Deep.RegionLaw
namespace Go.Proofs.Ytophgiocmldliaa
open Go.RowKit
theorem info_u64 : (Try.prog.info? 22).map (fun i => (i.zero, i.size, i.bytes)) = some (some (.int .u64 0), 1, 8) := by kernel_rfl
theorem under_u64s : Try.prog.underlying 39 = some (.slice 22) := by kernel_rfl
theorem under_ints : Try.prog.underlying 69 = some (.slice 3) := by kernel_rfl
theorem info_int : (Try.prog.info? 3).map (fun i => (i.zero, i.size, i.bytes)) = some (some (.int .i64 0), 1, 8) := by kernel_rfl
/-- A row that is owned, as a block. -/
theorem own_blk {w : World} {base e n : Nat} {v : Value} {xs : List Value} (h : w.ownsRow base e 1 v n xs) (hn : 0 < n) : ∃ g cap sp, v = .slice (some ⟨g, 0, none⟩) n cap ∧ base ≤ g ∧ Blk w g (xs ++ sp) ∧ cap ≤ maxLen ∧ n + sp.length = cap := by
  obtain ⟨h1, ⟨_, h2⟩ | ⟨g, cap, cur, rfl, hb, hh, hc, hm, hs, ht⟩⟩ := h
  · omega
  · refine ⟨g, cap, cur.toList.drop n, rfl, hb, ⟨e, ?_⟩, hm, ?_⟩
    · rw [hh, ← ht, Nat.mul_one, List.take_append_drop]
    · simp only [List.length_drop, Array.length_toList, hs]; omega
theorem grown_keep {w w' : World} {r : Option Nat} (h : w.grownBy w' r) {S : List Nat} (hs : ∀ k, r = some k → k ∈ S ∨ w.heap.size ≤ k) : Keep S w w' :=
  ⟨h.os, h.tape, h.output, h.size, fun k hk hn => h.block k hk (fun e => by
    rcases hs k e.symm with h1 | h1
    · exact hn h1
    · omega)⟩
theorem take_snoc_u64s {ws : List Int} {k : Nat} (h : k < ws.length) : u64s (ws.take (k + 1)) = u64s (ws.take k) ++ [.int .u64 (ws.getD k 0)] := by
  rw [List.take_succ_eq_append_getElem h]
  simp only [u64s, List.map_append, List.map_cons, List.map_nil, List.getD_eq_getElem?_getD, List.getElem?_eq_getElem h, Option.getD_some]
theorem own_base {w : World} {base e size n : Nat} {v : Value} {xs : List Value} (h : w.ownsRow base e size v n xs) : ∀ k, v.ownBlock = some k → base ≤ k := by
  intro k hk
  obtain ⟨_, ⟨rfl, _⟩ | ⟨g, cap, cur, rfl, hb, _⟩⟩ := h
  · simp [Value.ownBlock] at hk
  · simp [Value.ownBlock] at hk
    omega
theorem own_ne {w : World} {b e size n : Nat} {v : Value} {xs : List Value} (h : w.ownsRow (b + 1) e size v n xs) : some b ≠ v.ownBlock := by
  intro hk
  have := own_base h b hk.symm
  omega
theorem own_drew {w : World} {base e size n : Nat} {v : Value} {xs : List Value} (h : w.ownsRow base e size v n xs) : w.drew.ownsRow base e size v n xs := h
theorem one_new (w : World) (x : Value) (T : TypeId) : ∀ j u, [x][j]? = some u → ((w.alloc (.cells #[x] T)).drew).cell? ((⟨w.heap.size, 0, none⟩ : Addr).add j) = some u := by
  intro j u hj
  match j, hj with
  | 0, hj =>
    simp at hj
    subst hj
    show (w.alloc (.cells #[x] T)).cell? ⟨w.heap.size, 0, none⟩ = _
    simp
/-- A slice value that reads as the list ws. -/
def SliceU (w : World) (ws : List Int) (v : Value) : Prop := ∃ g cap sp, v = .slice (some ⟨g, 0, none⟩) ws.length cap ∧ Blk w g (u64s ws ++ sp) ∧ cap ≤ maxLen
theorem run_eql_slice_nil_some (w : World) (a : Addr) (n c : Nat) : (binOp .eql 39 (.slice (some a) n c) (.slice none 0 0)).run Try.prog w = .ok (.bool false) w := Lib.run_eql_slice_nil w _ _ _ _ _ _ _ under_u64s
def FreshU (ws : List Int) (w : World) (e : Ending) (w' : World) : Prop := ∃ g cap sp, e = .returned (.slice (some ⟨g, 0, none⟩) ws.length cap) ∧ w.heap.size ≤ g ∧ Blk w' g (u64s ws ++ sp) ∧ cap ≤ maxLen ∧ ws.length + sp.length = cap ∧ Keep [] w w'
theorem u64s_one (ws : List Int) : ∀ u ∈ u64s ws, u.oneCell' = true := by
  intro u hu
  simp only [u64s, List.mem_map] at hu
  obtain ⟨a, _, rfl⟩ := hu
  rfl
theorem u64s_len (ws : List Int) : (u64s ws).length = ws.length := by simp [u64s]

set_option maxRecDepth 100000 in
set_option maxHeartbeats 600000 in
theorem clone_u64 {w : World} {bs c : Nat} {ws : List Int} {sp : List Value} (hb : Blk w bs (u64s ws ++ sp)) (h0 : 0 < ws.length) (h1 : ws.length ≤ 1000000) :
    Calls Try.prog 161 #[.slice (some ⟨bs, 0, none⟩) ws.length c] w (FreshU ws w) := by
  have hnil := run_eql_slice_nil_some
  obtain ⟨i0, hi, hz0, hz1, hz2⟩ := info_parts info_u64
  have hcell : ∀ j u, (u64s ws)[j]? = some u → (w.alloc (.cells #[] 22)).cell? ((⟨bs, 0, none⟩ : Addr).add j) = some u := by
    intro j u hj
    have e : ((⟨bs, 0, none⟩ : Addr).add j) = ⟨bs, j, none⟩ := by
      unfold Addr.add
      split
      · rename_i h; subst h; rfl
      · simp
    rw [e, (Blk.alloc hb).cell, List.getElem?_append_left (List.getElem?_eq_some_iff.1 hj).1]
    exact hj
  have HC := Lib.hid hcell
  clear hcell hb
  go_enter Try.func161, Try.ntmps161
  go_wp2_with (at_builtin; refine wpList_append_own _ rfl _ _ 39 rfl w.heap.size 22 i0 (.int .u64 0) 1 8 under_u64s hi hz0 hz1 hz2 rfl (by decide) _ 0 [] rfl (World.ownsRow_lit w #[] 0 (Nat.le_refl _) (by unfold maxLen; omega) rfl) ⟨bs, 0, none⟩ ws.length c (u64s ws) rfl ?c1 HC.out ?c2 ?c3 ?c4 ?c5 ?_)
  case c1 => rw [u64s_len]; omega
  case c2 => exact u64s_one ws
  case c3 => unfold maxLen; omega
  case c4 => omega
  case c5 => simp
  intro v' w1 hown hg _
  obtain ⟨g, cap, sp', rfl, hb1, hblk, hcap, hlen⟩ := own_blk hown (by omega)
  have HB := Lib.hid hblk
  have HG := Lib.hid hg
  have HL := Lib.hid hlen
  clear hblk hg hown hlen
  go_wp2
  go_ret
  refine ⟨g, cap, sp', by simp, hb1, by simpa using HB.out, hcap, by simpa using HL.out, ?_⟩
  exact Keep.trans' (Keep.alloc (Keep.refl [] w)) (grown_keep (S := [w.heap.size]) HG.out (by intro k hk; left; simp [Value.ownBlock] at hk; simp [hk])) (by simp)

/-- The memory of words at its beginning. -/
def Mem.of (ws : List Int) : Mem := ⟨ws, 0, 0, 0, 0, 0, 0, 0, false⟩
def MemNew (ws : List Int) (k : Value → Value) (w : World) (e : Ending) (w' : World) : Prop := ∃ bm bw, e = .returned (k (.pointer (some ⟨bm, 0, none⟩))) ∧ w.heap.size ≤ bm ∧ w.heap.size ≤ bw ∧ MemAt w' bm bw (Mem.of ws) ∧ Keep [] w w'

set_option maxRecDepth 100000 in
set_option maxHeartbeats 600000 in
theorem cell_of {w : World} {bs c : Nat} {ws : List Int} {sp : List Value} (hb : Blk w bs (u64s ws ++ sp)) (h0 : 280 ≤ ws.length) (h1 : ws.length ≤ 200000) (hr : ∀ x ∈ ws, 0 ≤ x ∧ x < 18446744073709551616) :
    Calls Try.prog 120 #[.slice (some ⟨bs, 0, none⟩) ws.length c] w (MemNew ws (fun p => .tuple #[p, .int .i64 0]) w) := by
  have H := Lib.hid (clone_u64 (c := c) hb (by omega) (by omega))
  have HR := Lib.hid hr
  clear hb hr
  go_enter Try.func120, Try.ntmps120
  go_wp2_with fail
  refine H.out.mono ?_
  rintro e w1 ⟨g, cap, sp', rfl, hg, hblk, hcap, hlen, hk⟩
  have HB := Lib.hid hblk
  have HK := Lib.hid hk
  have lg := hblk.lt
  have hs1 := hk.size
  clear hblk hk hlen
  go_wp2
  go_ret2
  refine ⟨w1.heap.size, g, rfl, hs1, hg, ⟨by omega, ⟨h0, by show ws.length ≤ 1000000; omega⟩, ⟨cap, Blk.new rfl⟩, ⟨sp', HB.out.alloc⟩, HR.out⟩, HK.out.trans (by (repeat (first | with_reducible exact Keep.refl _ _ | with_reducible refine Keep.drewN ?_ | with_reducible refine Keep.drew ?_ | with_reducible refine Keep.alloc ?_ | (with_reducible refine Keep.set ?_ (by simp)) | (with_reducible refine Keep.setNew ?_ (by simp; done)) | (with_reducible refine Keep.setNew ?_ (by simp; omega)))))⟩

set_option maxRecDepth 100000 in
set_option maxHeartbeats 600000 in
theorem ref_new {w : World} {bs c : Nat} {ws : List Int} {sp : List Value} (hb : Blk w bs (u64s ws ++ sp)) (h0 : 280 ≤ ws.length) (h1 : ws.length ≤ 200000) (hr : ∀ x ∈ ws, 0 ≤ x ∧ x < 18446744073709551616) :
    Calls Try.prog 121 #[.slice (some ⟨bs, 0, none⟩) ws.length c] w (MemNew ws (fun p => p) w) := by
  have HB := Lib.hid hb
  have HR := Lib.hid hr
  have lb := hb.lt
  obtain ⟨i0, hi, hz0, hz1, hz2⟩ := info_parts info_u64
  clear hb hr
  go_enter Try.func121, Try.ntmps121
  go_wp2
  go_loopw [4] (fun i wr => ∃ k : Nat, k ≤ ws.length ∧ i = .int .i64 k ∧ (∃ v, Blk wr w.heap.size [v, .int .i64 0, .int .i64 0, .int .i64 0, .int .i64 0, .int .i64 0, .int .u64 0, .int .u64 0, .bool false] ∧ wr.ownsRow (w.heap.size + 1) 22 1 v k (u64s (ws.take k))) ∧ Keep [] w wr)
    (fun i _ => ws.length - (intOf i).toNat)
  case atStart =>
    exact ⟨0, Nat.zero_le _, rfl, ⟨.slice none 0 0, Blk.new rfl, ⟨by simp [u64s], .inl ⟨rfl, rfl⟩⟩⟩, by (repeat (first | with_reducible exact Keep.refl _ _ | with_reducible refine Keep.drewN ?_ | with_reducible refine Keep.drew ?_ | with_reducible refine Keep.alloc ?_ | (with_reducible refine Keep.set ?_ (by simp)) | (with_reducible refine Keep.setNew ?_ (by simp; done)) | (with_reducible refine Keep.setNew ?_ (by simp; omega))))⟩
  case round =>
    obtain ⟨k, hk, rfl, ⟨v, hv, hown⟩, hkp⟩ := hrel
    have HKP := Lib.hid hkp
    have HV := Lib.hid hv
    have HOWN := Lib.hid hown
    have cv := hv.cell
    have fv := hv.free
    have lv := hv.lt
    have hsz := hkp.size
    clear hkp hv hown
    by_cases hlt : k < ws.length
    · have hbk := HB.out.keep HKP.out (by simp)
      have cbs : wr.cell? ⟨bs, k, none⟩ = some (.int .u64 (ws.getD k 0)) := by rw [hbk.cell]; exact u64s_get hlt
      clear hbk
      obtain ⟨x, hx⟩ : ∃ x, ws.getD k 0 = x := ⟨_, rfl⟩
      rw [hx] at cbs
      have HXX := Lib.hid hx
      clear hx
      have HN := Lib.hid (one_new wr (.int .u64 x) 22)
      have HO := Lib.hid (own_drew (HOWN.out.alloc (.cells #[.int .u64 x] 22)))
      go_wp2
      go_region_law (first | (refine step_append_lies _ rfl (.tmp 17) (.tmp 22) 39 rfl (w.heap.size + 1) 22 i0 (.int .u64 0) 1 8 under_u64s hi hz0 hz1 hz2 rfl (by decide) _ k _ rfl HO.out ⟨wr.heap.size, 0, none⟩ 1 1 [.int .u64 x] rfl rfl HN.out (by simp; rfl) (by decide) (by unfold maxLen; omega) (by omega) (by simp; omega) _ rfl ?_; intro g cap w1 hown1 hgr1 hgb hgl; have hv1 := ((HV.out.alloc (o := .cells #[.int .u64 x] 22)).drew).of_heap (hgr1.block _ (by simp; omega) (own_ne HOWN.out)); have cv1 := hv1.cell; have fv1 := hv1.free; have HV1 := Lib.hid hv1; have HOWN1 := Lib.hid hown1; have HGR := Lib.hid hgr1; clear hv1 hown1 hgr1 hgb hgl cv fv))
      all_goals go_wp2
      all_goals
        go_roundw
        case rel =>
          have hv2 := HV1.out
          refine ⟨k + 1, by omega, by go_num, ⟨_, Blk.set hv2 rfl, ?_⟩, ?_⟩
          · have h2 := ownsRow_setCell_below HOWN1.out (a := ⟨w.heap.size, 0, none⟩) (Nat.lt_succ_self _) (.slice (some ⟨g, 0, none⟩) (k + 1) cap)
            rw [take_snoc_u64s hlt, HXX.out]
            exact h2
          · have hA : Keep (w.heap.size :: v.ownBlock.toList) wr _ := (((Keep.refl (w.heap.size :: v.ownBlock.toList) wr).alloc (o := .cells #[.int .u64 x] 22)).drew.trans (grown_keep HGR.out (by intro b hb; left; exact List.mem_cons_of_mem _ (Option.mem_toList.2 hb)))).set (p := ⟨w.heap.size, 0, none⟩) (v := .slice (some ⟨g, 0, none⟩) (k + 1) cap) (by simp)
            refine HKP.out.trans' hA ?_
            intro b hb
            right
            simp only [List.mem_cons, Option.mem_toList] at hb
            rcases hb with rfl | hb
            · exact Nat.le_refl _
            · have := own_base HOWN.out b hb
              omega
        case measure => simp [intOf]; omega
    · have : k = ws.length := by omega
      subst this
      obtain ⟨g, cap, sp', rfl, hgb, hblk, hcap, hlen⟩ := own_blk HOWN.out (by omega)
      have HBK := Lib.hid hblk
      clear hblk hlen
      go_wp2
      go_ret
      refine ⟨w.heap.size, g, rfl, Nat.le_refl _, by omega, ⟨by omega, ⟨h0, by show ws.length ≤ 1000000; omega⟩, ⟨cap, HV.out⟩, ⟨sp', ?_⟩, HR.out⟩, HKP.out⟩
      have hb2 := HBK.out
      rw [List.take_of_length_le (Nat.le_refl _)] at hb2
      exact hb2

end Go.Proofs.Ytophgiocmldliaa