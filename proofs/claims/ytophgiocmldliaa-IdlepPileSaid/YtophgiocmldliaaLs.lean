/- Lists of linked things: what a walk through a memory tells. -/
import Derived.Test.YtophgiocmldliaaS2
import Derived.Test.YtophgiocmldliaaIn
import Derived.Maps.Own
import Derived.Maps.OwnOps
import Derived.Maps.Views
import Derived.Maps.Ext
namespace Go.Proofs.Ytophgiocmldliaa
open Go.RowKit Go.Maps
/-- From the word w on, behind those of out: all that are met, and whether the list ends. -/
def chase (M : Mem) (addr : Int → Int) : Nat → Int → List Int → Option (List Int × Bool)
  | 0, _, _ => none
  | f + 1, w, out => if w = 0 then some (out, true) else if M.isAt (addr (less1 w)) ∧ less1 w ∉ out then chase M addr f (M.get (addr (less1 w))) (out ++ [less1 w]) else some (out, false)
theorem chase_len {M : Mem} {addr : Int → Int} {F : List Int × Bool} : ∀ {f : Nat} {w : Int} {out : List Int}, chase M addr f w out = some F → out.length ≤ F.1.length
  | 0, _, _, h => by simp [chase] at h
  | f + 1, w, out, h => by
    rw [chase] at h
    split at h
    · simp only [Option.some.injEq] at h; rw [← h]; exact Nat.le_refl _
    · split at h
      · have := chase_len h
        simp only [List.length_append, List.length_cons, List.length_nil] at this
        omega
      · simp only [Option.some.injEq] at h; rw [← h]; exact Nat.le_refl _
/-- The numbers that were seen, as a map. -/
def seenD (out : List Int) : DataW Unit := out.foldl (fun D t => D.put (.int .i64 t) (.lit (.int .i64 1))) (.map [])
theorem seenD_snoc (out : List Int) (t : Int) : seenD (out ++ [t]) = (seenD out).put (.int .i64 t) (.lit (.int .i64 1)) := by simp [seenD]
theorem isMap_put' {D : DataW Unit} (h : IsMap D) (k : Lit) (d : DataW Unit) : IsMap (D.put k d) := by
  obtain ⟨es, rfl⟩ := h
  exact ⟨_, rfl⟩
theorem seenD_map (out : List Int) : IsMap (seenD out) := by
  unfold seenD
  suffices h : ∀ (l : List Int) (D : DataW Unit), IsMap D → IsMap (l.foldl (fun D t => D.put (.int .i64 t) (.lit (.int .i64 1))) D) from h _ _ ⟨[], rfl⟩
  intro l
  induction l with
  | nil => intro D h; exact h
  | cons t l ih => intro D h; exact ih _ (isMap_put' h _ _)
theorem seenD_at (out : List Int) (t : Int) : (seenD out).atKey (.int .i64 t) (.lit (.int .i64 0)) = .lit (.int .i64 (if t ∈ out then 1 else 0)) := by
  suffices h : ∀ r : List Int, (seenD r.reverse).atKey (.int .i64 t) (.lit (.int .i64 0)) = .lit (.int .i64 (if t ∈ r then 1 else 0)) by
    have := h out.reverse
    simpa using this
  intro r
  induction r with
  | nil => rfl
  | cons a r ih =>
    rw [List.reverse_cons, seenD_snoc]
    by_cases e : t = a
    · subst e
      rw [atKey_put_same (seenD_map _) (by trivial), if_pos (by simp)]
    · rw [atKey_put_other (by intro h; simp only [Lit.int.injEq, true_and] at h; exact e h), ih]
      simp [e]
theorem keyed_int : Keyed Try.prog 3 := int_keyed Try.underlying3
theorem zero_int (w : World) : (zeroValue 3).run Try.prog w = .ok (.int .i64 0) w := by kernel_rfl
theorem under_ints' : Try.prog.underlying 69 = some (.slice 3) := by kernel_rfl
theorem info_int' : (Try.prog.info? 3).map (fun i => (i.zero, i.size, i.bytes)) = some (some (.int .i64 0), 1, 8) := by kernel_rfl
/-- A look-up that is guarded, and carried out. -/
theorem wpList_lookup_g {P : Program} (w : World) {ops : Array Oper} {rest : List Oper} {o : Oper} {a : Act} {Q : Exit → Act → World → Prop}
    (hg : Region.wanted o (yielded ops a.tmps) = true) (m x : Operand) (t : TypeId) (hop : o.op = Op.lookup t m x false)
    (k e : TypeId) (K : Keyed P k) (ht : P.underlying t = some (.map k e)) (he : P.underlying e = some (.int .i64)) (hz : (zeroValue e).run P w = .ok (.int .i64 0) w) (b n : Nat) (D : DataW Unit)
    (hm : a.eval m = .map (some b)) (hown : w.ownsMap P k (plainElem P e) b n D) (key : Value) (kl : Lit) (hx : a.eval x = key) (hkey : keyOf P k key = some kl) (r : Int) (hr : D.atKey kl (.lit (.int .i64 0)) = .lit (.int .i64 r))
    (hK : wpList P ops Q rest (a.put o.dst (.int .i64 r)) w) : wpList P ops Q (o :: rest) a w := by
  obtain ⟨c, hrun, hat, hwc⟩ := hown.lookup_int K ht he hz hkey
  have hc : c = r := by
    rw [hr] at hat
    simpa using hat.symm
  subst hc
  refine wpList_step fun K' hK' => ?_
  simp only [hg, if_true]
  unfold Oper.wp
  simp [execOp, hop, hm, hx, hrun, Result.andThen]
  exact hK' _ _ hK
theorem Ints.base {w : World} {base base' : Nat} {v : Value} {l : List Int} (h : Ints w base v l) (hb : base' ≤ base) : Ints w base' v l := by
  obtain ⟨⟨h1, h⟩, h2⟩ := h
  refine ⟨⟨h1, ?_⟩, by omega⟩
  rcases h with h | ⟨g, cap, cur, e, hg, r⟩
  · exact .inl h
  · exact .inr ⟨g, cap, cur, e, by omega, r⟩
/-- What a list tells: its numbers, and whether it is right. -/
def Listed (F : List Int × Bool) (w : World) (e : Ending) (w' : World) : Prop := ∃ v, e = .returned (.tuple #[v, .bool F.2]) ∧ Ints w' w.heap.size v F.1 ∧ Keep [] w w'
theorem ownsMap_keep {P : Program} {k : TypeId} {R : Value → Option (DataW Unit × List MemPlace)} {w w' : World} {b n : Nat} {D : DataW Unit} {S : List Nat} (h : w.ownsMap P k R b n D) (kp : Keep S w w') (hb : b ∉ S) : w'.ownsMap P k R b n D := by
  have hl := h.lt
  obtain ⟨es, cl, h1, h2⟩ := h
  exact ⟨es, cl, (kp.block b hl hb).trans h1, h2⟩
theorem wf_i64 {t : Int} (h0 : -9223372036854775808 ≤ t) (h1 : t < 9223372036854775808) : (Lit.int .i64 t).wf = true := by
  simp [Lit.wf, IntKind.min, IntKind.max, IntKind.bits, IntKind.signed]
  omega
theorem chase_end {M : Mem} {addr : Int → Int} {F : List Int × Bool} {w : Int} {out : List Int} (h : ∃ f, chase M addr f w out = some F) (hw : w = 0) : F = (out, true) := by
  obtain ⟨f, h⟩ := h
  cases f with
  | zero => simp [chase] at h
  | succ f => rw [chase, if_pos hw] at h; simpa using h.symm
theorem chase_bad {M : Mem} {addr : Int → Int} {F : List Int × Bool} {w : Int} {out : List Int} (h : ∃ f, chase M addr f w out = some F) (hw : w ≠ 0) (hn : ¬ (M.isAt (addr (less1 w)) ∧ less1 w ∉ out)) : F = (out, false) := by
  obtain ⟨f, h⟩ := h
  cases f with
  | zero => simp [chase] at h
  | succ f => rw [chase, if_neg hw, if_neg hn] at h; simpa using h.symm
theorem chase_next {M : Mem} {addr : Int → Int} {F : List Int × Bool} {w : Int} {out : List Int} (h : ∃ f, chase M addr f w out = some F) (hw : w ≠ 0) (hn : M.isAt (addr (less1 w)) ∧ less1 w ∉ out) : ∃ f, chase M addr f (M.get (addr (less1 w))) (out ++ [less1 w]) = some F := by
  obtain ⟨f, h⟩ := h
  cases f with
  | zero => simp [chase] at h
  | succ f => rw [chase, if_neg hw, if_pos hn] at h; exact ⟨f, h⟩
theorem Ints.alloc {w : World} {base : Nat} {v : Value} {xs : List Int} {o : Obj} (h : Ints w base v xs) : Ints (w.alloc o) base v xs := h.keep (Keep.alloc (Keep.refl [] w)) (by simp)

end Go.Proofs.Ytophgiocmldliaa
