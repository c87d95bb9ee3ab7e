/- Arguments opened: arrays and structs of whole numbers, by value; slices. -/
import Derived.Test.YtophgiocmldliaaW0
import Derived.ProofKit
import Derived.OpenShut
import Derived.ShutString
import Derived.ChangeOld
import Derived.Below
import Derived.Lib.SmallJoins
import Derived.Deep.Slices
namespace Go.Proofs.Ytophgiocmldliaa
open Go.RowKit Go.ChangeShapes Go.WideShapes Go.Deep Go.Joins
theorem list2 {l : List Int} (h : l.length = 2) : ∃ a b, l = [a, b] := by
  match l, h with
  | [a, b], _ => exact ⟨a, b, rfl⟩
theorem list3 {l : List Int} (h : l.length = 3) : ∃ a b c, l = [a, b, c] := by
  match l, h with
  | [a, b, c], _ => exact ⟨a, b, c, rfl⟩
section
variable {H : Type} {enc : TypeId × Value → H} {P : Program} {w : World} {base : Nat} {spare : Nat → Bool} {held : Bool}
def intOfV : Value → Int
  | .int _ z => z
  | _ => 0
theorem okWide_array {r : Reach} {t : TypeId} {v : Value} {b0 n : Nat} {e : TypeId} (ht : P.underlying t = some (.array n e)) (h : Value.okWide P w r b0 t v) : ∃ cs, v = .agg cs ∧ cs.size = P.cellsOf t := by
  simp only [Value.okWide, ht] at h
  obtain ⟨cs, h1, h2, _⟩ := h
  exact ⟨cs, h1, h2⟩
/-- An array of whole numbers that came in. -/
theorem open_arr {r : Reach} {t e : TypeId} {k : IntKind} {n b0 : Nat} {v : Value} {d : DataW H} {p : List MemPlace} (ht : P.underlying t = some (.array n e)) (he : P.underlying e = some (.int k)) (hc : P.cellsOf e = 1) (hC : P.cellsOf t = n)
    (hv : Value.okWide P w r b0 t v) (h : DataW.Trod enc P w base spare held t v d p) : ∃ zs : List Int, zs.length = n ∧ v = .agg (zs.map (Value.int k)).toArray ∧ ∀ z ∈ zs, (Lit.int k z).wf = true := by
  obtain ⟨cs, rfl, hsz⟩ := okWide_array ht hv
  obtain ⟨fuel, hf⟩ := h
  obtain ⟨xs, m, _, _, hl, hxl, hx⟩ := DataW.trod_array ht hf
  have each : ∀ i (hi : i < cs.size), ∃ z, cs[i] = .int k z ∧ (Lit.int k z).wf = true := by
    intro i hi
    have h1 := hx i (by omega)
    rw [hc, Nat.mul_one, List.getElem?_eq_getElem (by omega)] at h1
    obtain ⟨z, h2, _, h3⟩ := DataW.trod_int he h1
    refine ⟨z, ?_, h3⟩
    have h4 : (Value.agg cs).cells.toList = cs.toList := rfl
    rw [h4, List.drop_eq_getElem_cons (by simpa using hi)] at h2
    simpa using h2
  refine ⟨cs.toList.map intOfV, by simp; omega, ?_, ?_⟩
  · congr 1
    apply Array.ext
    · simp
    · intro i h1 h2
      obtain ⟨z, hz, _⟩ := each i h1
      simp [hz, intOfV]
  · intro z hz
    simp only [List.mem_map, Array.mem_toList_iff] at hz
    obtain ⟨u, hu, rfl⟩ := hz
    obtain ⟨i, hi, rfl⟩ := Array.mem_iff_getElem.1 hu
    obtain ⟨z, hz, hw⟩ := each i hi
    rw [hz]
    exact hw
/-- A struct of three whole numbers that came in. -/
theorem open_ints3 {r : Reach} {b0 : Nat} {t e0 e1 e2 : TypeId} {k0 k1 k2 : IntKind} {f0 f1 f2 : Field} {v : Value} {d : DataW H} {p : List MemPlace} (hs : P.underlying t = some (.struct #[f0, f1, f2])) (hone : oneCellFields P #[f0, f1, f2] = true) (hC : P.cellsOf t = 3)
    (t0 : f0.type = e0) (t1 : f1.type = e1) (t2 : f2.type = e2) (h0 : P.underlying e0 = some (.int k0)) (h1 : P.underlying e1 = some (.int k1)) (h2 : P.underlying e2 = some (.int k2))
    (hv : Value.okWide P w r b0 t v) (h : DataW.Trod enc P w base spare held t v d p) : ∃ a b c : Int, v = .agg #[.int k0 a, .int k1 b, .int k2 c] ∧ (Lit.int k0 a).wf = true ∧ (Lit.int k1 b).wf = true ∧ (Lit.int k2 c).wf = true := by
  obtain ⟨v0, v1, v2, y0, y1, y2, n, rfl, _, _, g0, g1, g2⟩ := open_agg3 hs hone hC hv h
  rw [t0] at g0
  rw [t1] at g1
  rw [t2] at g2
  obtain ⟨a, ha, _, wa⟩ := DataW.trod_int h0 g0
  obtain ⟨b, hb, _, wb⟩ := DataW.trod_int h1 g1
  obtain ⟨c, hc, _, wc⟩ := DataW.trod_int h2 g2
  simp only [List.cons.injEq, and_true] at ha hb hc
  subst ha hb hc
  exact ⟨a, b, c, rfl, wa, wb, wc⟩
end
end Go.Proofs.Ytophgiocmldliaa
