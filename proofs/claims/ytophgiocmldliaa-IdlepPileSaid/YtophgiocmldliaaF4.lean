/- What lets an access come: Load, Store, Swap, Add of a flow; to whom it belongs. -/
import Derived.Test.YtophgiocmldliaaF3
namespace Go.Proofs.Ytophgiocmldliaa
open Go.RowKit
/-- A flow at which an access comes. -/
def Fl.on (f : Fl) (kind at_ old w : Int) (F : Value) : Fl := { f with kind := kind, at_ := at_, old := old, w := w, then_ := F }
/-- A method value of the machine at bx. -/
def mval (k bx : Nat) : Value := .func (.func k) #[.pointer (some ⟨bx, 0, none⟩)] #[]
/-- A closure over the box bc. -/
def cval (k bc : Nat) : Value := .func (.func k) #[] #[.pointer (some ⟨bc, 0, none⟩)]
def Sets (bx : Nat) (cs : List Value) (w : World) (e : Ending) (w' : World) : Prop := e = .returned (.tuple #[]) ∧ Blk w' bx cs ∧ Keep [bx] w w'

set_option maxRecDepth 100000 in
set_option maxHeartbeats 600000 in
theorem flow_load {w : World} {bx : Nat} {f : Fl} {rest : List Value} (hx : Blk w bx (f.cells ++ rest)) (at_ : Int) (k b0 : Nat) :
    Calls Try.prog 131 #[.pointer (some ⟨bx, 0, none⟩), .int .i64 at_, mval k b0] w (Sets bx ((f.on 1 at_ 0 0 (mval k b0)).cells ++ rest) w) := by
  have cx := hx.cell
  have fx := hx.free
  have lx := hx.lt
  have HX := Lib.hid hx
  unfold Fl.cells at cx
  clear hx
  unfold mval
  go_enter Try.func131, Try.ntmps131
  go_wp2
  go_end0
  go_wp2
  go_end0
  refine ⟨rfl, ?_, by (repeat (first | with_reducible exact Keep.refl _ _ | with_reducible refine Keep.drewN ?_ | with_reducible refine Keep.drew ?_ | with_reducible refine Keep.alloc ?_ | (with_reducible refine Keep.set ?_ (by simp)) | (with_reducible refine Keep.setNew ?_ (by simp; done)) | (with_reducible refine Keep.setNew ?_ (by simp; omega))))⟩
  have hx2 := HX.out
  (repeat (first | with_reducible exact hx2 | with_reducible apply Blk.drewN | with_reducible apply Blk.drew | with_reducible apply Blk.alloc | with_reducible apply Blk.set | (with_reducible apply Blk.other; rotate_left; (first | assumption | (simp; omega)); rotate_right) | with_reducible rfl | rfl | (simp [Fl.cells, Fl.on, mval]; done)))

set_option maxRecDepth 100000 in
set_option maxHeartbeats 600000 in
theorem flow_add {w : World} {bx : Nat} {f : Fl} {rest : List Value} (hx : Blk w bx (f.cells ++ rest)) (at_ x : Int) (k b0 : Nat) :
    Calls Try.prog 124 #[.pointer (some ⟨bx, 0, none⟩), .int .i64 at_, .int .u64 x, mval k b0] w (Sets bx ((f.on 4 at_ 0 x (mval k b0)).cells ++ rest) w) := by
  have cx := hx.cell
  have fx := hx.free
  have lx := hx.lt
  have HX := Lib.hid hx
  unfold Fl.cells at cx
  clear hx
  unfold mval
  go_enter Try.func124, Try.ntmps124
  go_wp2
  go_end0
  go_wp2
  go_end0
  refine ⟨rfl, ?_, by (repeat (first | with_reducible exact Keep.refl _ _ | with_reducible refine Keep.drewN ?_ | with_reducible refine Keep.drew ?_ | with_reducible refine Keep.alloc ?_ | (with_reducible refine Keep.set ?_ (by simp)) | (with_reducible refine Keep.setNew ?_ (by simp; done)) | (with_reducible refine Keep.setNew ?_ (by simp; omega))))⟩
  have hx2 := HX.out
  (repeat (first | with_reducible exact hx2 | with_reducible apply Blk.drewN | with_reducible apply Blk.drew | with_reducible apply Blk.alloc | with_reducible apply Blk.set | (with_reducible apply Blk.other; rotate_left; (first | assumption | (simp; omega)); rotate_right) | with_reducible rfl | rfl | (simp [Fl.cells, Fl.on, mval]; done)))

set_option maxRecDepth 100000 in
set_option maxHeartbeats 600000 in
theorem flow_of {w : World} {bx : Nat} {f : Fl} {rest : List Value} (hx : Blk w bx (f.cells ++ rest)) (who : Int) :
    Calls Try.prog 123 #[.pointer (some ⟨bx, 0, none⟩), .int .i64 who] w (Sets bx (({ f with who := who } : Fl).cells ++ rest) w) := by
  have cx := hx.cell
  have fx := hx.free
  have HX := Lib.hid hx
  unfold Fl.cells at cx
  clear hx
  go_enter Try.func123, Try.ntmps123
  go_wp2
  go_end0
  refine ⟨rfl, ?_, by (repeat (first | with_reducible exact Keep.refl _ _ | with_reducible refine Keep.drewN ?_ | with_reducible refine Keep.drew ?_ | with_reducible refine Keep.alloc ?_ | (with_reducible refine Keep.set ?_ (by simp)) | (with_reducible refine Keep.setNew ?_ (by simp; done)) | (with_reducible refine Keep.setNew ?_ (by simp; omega))))⟩
  have hx2 := HX.out
  (repeat (first | with_reducible exact hx2 | with_reducible apply Blk.drewN | with_reducible apply Blk.drew | with_reducible apply Blk.alloc | with_reducible apply Blk.set | (with_reducible apply Blk.other; rotate_left; (first | assumption | (simp; omega)); rotate_right) | with_reducible rfl | rfl | (simp [Fl.cells]; done)))
set_option maxRecDepth 100000 in
set_option maxHeartbeats 600000 in
theorem flow_who {w : World} {bx : Nat} {f : Fl} {rest : List Value} (hx : Blk w bx (f.cells ++ rest)) :
    Calls Try.prog 211 #[.pointer (some ⟨bx, 0, none⟩)] w fun e w' => e = .returned (.int .i64 f.who) ∧ w = w' := by
  have cx := hx.cell
  unfold Fl.cells at cx
  clear hx
  go_enter Try.func211, Try.ntmps211
  go_wp2
  go_ret
  exact ⟨rfl, rfl⟩

set_option maxRecDepth 100000 in
set_option maxHeartbeats 600000 in
theorem flow_store {w : World} {bx : Nat} {f : Fl} {rest : List Value} (hx : Blk w bx (f.cells ++ rest)) (at_ x : Int) (k b0 : Nat) :
    Calls Try.prog 128 #[.pointer (some ⟨bx, 0, none⟩), .int .i64 at_, .int .u64 x, mval k b0] w fun e w' => Sets bx ((f.on 2 at_ 0 x (cval 181 w.heap.size)).cells ++ rest) w e w' ∧ Blk w' w.heap.size [mval k b0] := by
  have cx := hx.cell
  have fx := hx.free
  have lx := hx.lt
  have HX := Lib.hid hx
  unfold Fl.cells at cx
  clear hx
  unfold mval
  go_enter Try.func128, Try.ntmps128
  go_wp2
  go_end0
  go_wp2
  go_end0
  refine ⟨⟨rfl, ?_, by (repeat (first | with_reducible exact Keep.refl _ _ | with_reducible refine Keep.drewN ?_ | with_reducible refine Keep.drew ?_ | with_reducible refine Keep.alloc ?_ | (with_reducible refine Keep.set ?_ (by simp)) | (with_reducible refine Keep.setNew ?_ (by simp; done)) | (with_reducible refine Keep.setNew ?_ (by simp; omega))))⟩, ?_⟩
  · have hx2 := HX.out
    (repeat (first | with_reducible exact hx2 | with_reducible apply Blk.drewN | with_reducible apply Blk.drew | with_reducible apply Blk.alloc | with_reducible apply Blk.set | (with_reducible apply Blk.other; rotate_left; (first | assumption | (simp; omega)); rotate_right) | with_reducible rfl | rfl | (simp [Fl.cells, Fl.on, cval]; done)))
  · (repeat (first | with_reducible apply Blk.drewN | with_reducible apply Blk.drew | (with_reducible apply Blk.other; rotate_left; (first | assumption | (simp; omega)); rotate_right) | (with_reducible refine Blk.new ?_; simp; done)))

/- Swap -/
set_option maxRecDepth 100000 in
set_option maxHeartbeats 600000 in
theorem flow_swap {w : World} {bx : Nat} {f : Fl} {rest : List Value} (hx : Blk w bx (f.cells ++ rest)) (at_ y x : Int) (k b0 : Nat) :
    Calls Try.prog 227 #[.pointer (some ⟨bx, 0, none⟩), .int .i64 at_, .int .u64 y, .int .u64 x, mval k b0] w fun e w' => Sets bx ((f.on 3 at_ y x (cval 243 w.heap.size)).cells ++ rest) w e w' ∧ Blk w' w.heap.size [mval k b0] := by
  have cx := hx.cell
  have fx := hx.free
  have lx := hx.lt
  have HX := Lib.hid hx
  unfold Fl.cells at cx
  clear hx
  unfold mval
  go_enter Try.func227, Try.ntmps227
  go_wp2
  go_end0
  go_wp2
  go_end0
  refine ⟨⟨rfl, ?_, by (repeat (first | with_reducible exact Keep.refl _ _ | with_reducible refine Keep.drewN ?_ | with_reducible refine Keep.drew ?_ | with_reducible refine Keep.alloc ?_ | (with_reducible refine Keep.set ?_ (by simp)) | (with_reducible refine Keep.setNew ?_ (by simp; done)) | (with_reducible refine Keep.setNew ?_ (by simp; omega))))⟩, ?_⟩
  · have hx2 := HX.out
    (repeat (first | with_reducible exact hx2 | with_reducible apply Blk.drewN | with_reducible apply Blk.drew | with_reducible apply Blk.alloc | with_reducible apply Blk.set | (with_reducible apply Blk.other; rotate_left; (first | assumption | (simp; omega)); rotate_right) | with_reducible rfl | rfl | (simp [Fl.cells, Fl.on, cval]; done)))
  · (repeat (first | with_reducible apply Blk.drewN | with_reducible apply Blk.drew | (with_reducible apply Blk.other; rotate_left; (first | assumption | (simp; omega)); rotate_right) | (with_reducible refine Blk.new ?_; simp; done)))

end Go.Proofs.Ytophgiocmldliaa