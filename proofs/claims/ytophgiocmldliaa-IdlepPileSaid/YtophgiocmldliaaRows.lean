/-
  No cell of these rows narrows 'for every input' (looked for: loops, veiled, ifaces, maps, wideKeys, modest, calm, conditions, laid).
  DERIVED. THE GIVEN ROWS OF THIS SEAT. 13 by the template 'for every input the law returns true; each argument reads behind the call as it read before'; 0 by the template 'total and deterministic' (their statements: YtophgiocmldliaaTotals.lean).
  GIVEN WITH THE SEED: the statements are not yours to turn. If you find one false, say at which input.
  Laid BY PROGRAM, IN A SANDBOX (cutbox-rows.mjs): the forced cells as the released guide's own fill.sh prints them over the translation ef9fbb4b1af9a86e… (all of the seat's roots in one cut). By AI agents, Wed Nov 11 2026. No macro, syntax, notation, axiom, sorry.
-/
import Derived.Test.YtophgiocmldliaaChecked
import GoSem.Claim
import GoSem.ClaimJoined
import GoSem.ClaimMapViews
import Derived.JoinedTies
import Derived.KernelRfl
namespace Go.Proofs.Ytophgiocmldliaa
/- THE CELL 'sum', in the pinned program and in every row, IS THE sha256 OF THE DUMP (.gsa) THAT YtophgiocmldliaaProg.lean LOADS. Nothing in Lean hashes anything: it is a label: what it is worth is what the hold of that sum in a sandbox is worth. -/
noncomputable def Try.pinned : Pinned := { name := "ytophgiocmldliaa", sum := "ef9fbb4b1af9a86e49ea9888ab2bd6b4e9ae334ca50dc2a947cdd93c888bda78", checked := Try.checked }
namespace Rows
def none {H : Type} : Left H := { results := [], args := [] }

/-- 'turnspitlaw38.DiceMakes': WHATEVER THE INPUT: true; the input reads as it did. -/
def diceMakesSpec : ChangeSpec := { name := "diceMakes", fn := fun _ => fun
  | [d1, d2, d3] => { results := [.lit (.bool true)], args := [d1, d2, d3] }
  | _ => none }
def diceMakesRow : OpenClaim := { program := "ytophgiocmldliaa", sum := "ef9fbb4b1af9a86e49ea9888ab2bd6b4e9ae334ca50dc2a947cdd93c888bda78", func := "turnspit/turnspitlaw38.DiceMakes", spec := "diceMakes", apart := false }
def DiceMakesSaid : Prop := diceMakesRow.holds Try.pinned (OpenSpec.ofChange diceMakesSpec)

/-- ITS FALSE NEIGHBOUR: 'it returns false'. Refute it at one input. -/
def diceMakesWrong : ChangeSpec := { name := "diceMakes", fn := fun _ => fun
  | [d1, d2, d3] => { results := [.lit (.bool false)], args := [d1, d2, d3] }
  | _ => none }
def DiceMakesWrongFalsely : Prop := diceMakesRow.holds Try.pinned (OpenSpec.ofChange diceMakesWrong)

/-- 'turnspitlaw08.LockAlone': WHATEVER THE INPUT: true; the input reads as it did. -/
def lockAloneSpec : ChangeSpec := { name := "lockAlone", fn := fun _ => fun
  | [d1, d2, d3] => { results := [.lit (.bool true)], args := [d1, d2, d3] }
  | _ => none }
def lockAloneRow : OpenClaim := { program := "ytophgiocmldliaa", sum := "ef9fbb4b1af9a86e49ea9888ab2bd6b4e9ae334ca50dc2a947cdd93c888bda78", func := "turnspit/turnspitlaw08.LockAlone", spec := "lockAlone", unfollowed := true, recurses := true, apart := false }
def LockAloneSaid : Prop := lockAloneRow.holds Try.pinned (OpenSpec.ofChange lockAloneSpec)

/-- ITS FALSE NEIGHBOUR: 'it returns false'. Refute it at one input. -/
def lockAloneWrong : ChangeSpec := { name := "lockAlone", fn := fun _ => fun
  | [d1, d2, d3] => { results := [.lit (.bool false)], args := [d1, d2, d3] }
  | _ => none }
def LockAloneWrongFalsely : Prop := lockAloneRow.holds Try.pinned (OpenSpec.ofChange lockAloneWrong)

/-- 'turnspitlaw18.IdlemMany': WHATEVER THE INPUT: true; the input reads as it did. -/
def idlemManySpec : ChangeSpec := { name := "idlemMany", fn := fun _ => fun
  | [d1, d2] => { results := [.lit (.bool true)], args := [d1, d2] }
  | _ => none }
def idlemManyRow : OpenClaim := { program := "ytophgiocmldliaa", sum := "ef9fbb4b1af9a86e49ea9888ab2bd6b4e9ae334ca50dc2a947cdd93c888bda78", func := "turnspit/turnspitlaw18.IdlemMany", spec := "idlemMany", unfollowed := true, recurses := true, apart := false }
def IdlemManySaid : Prop := idlemManyRow.holds Try.pinned (OpenSpec.ofChange idlemManySpec)

/-- ITS FALSE NEIGHBOUR: 'it returns false'. Refute it at one input. -/
def idlemManyWrong : ChangeSpec := { name := "idlemMany", fn := fun _ => fun
  | [d1, d2] => { results := [.lit (.bool false)], args := [d1, d2] }
  | _ => none }
def IdlemManyWrongFalsely : Prop := idlemManyRow.holds Try.pinned (OpenSpec.ofChange idlemManyWrong)

/-- 'turnspitlaw17.IdlepPile': WHATEVER THE INPUT: true; the input reads as it did. -/
def idlepPileSpec : ChangeSpec := { name := "idlepPile", fn := fun _ => fun
  | [d1, d2] => { results := [.lit (.bool true)], args := [d1, d2] }
  | _ => none }
def idlepPileRow : OpenClaim := { program := "ytophgiocmldliaa", sum := "ef9fbb4b1af9a86e49ea9888ab2bd6b4e9ae334ca50dc2a947cdd93c888bda78", func := "turnspit/turnspitlaw17.IdlepPile", spec := "idlepPile", unfollowed := true, recurses := true, apart := false }
def IdlepPileSaid : Prop := idlepPileRow.holds Try.pinned (OpenSpec.ofChange idlepPileSpec)

/-- ITS FALSE NEIGHBOUR: 'it returns false'. Refute it at one input. -/
def idlepPileWrong : ChangeSpec := { name := "idlepPile", fn := fun _ => fun
  | [d1, d2] => { results := [.lit (.bool false)], args := [d1, d2] }
  | _ => none }
def IdlepPileWrongFalsely : Prop := idlepPileRow.holds Try.pinned (OpenSpec.ofChange idlepPileWrong)

/-- 'turnspitlaw11.GfreeMany': WHATEVER THE INPUT: true; the input reads as it did. -/
def gfreeManySpec : ChangeSpec := { name := "gfreeMany", fn := fun _ => fun
  | [d1, d2] => { results := [.lit (.bool true)], args := [d1, d2] }
  | _ => none }
def gfreeManyRow : OpenClaim := { program := "ytophgiocmldliaa", sum := "ef9fbb4b1af9a86e49ea9888ab2bd6b4e9ae334ca50dc2a947cdd93c888bda78", func := "turnspit/turnspitlaw11.GfreeMany", spec := "gfreeMany", unfollowed := true, recurses := true, apart := false }
def GfreeManySaid : Prop := gfreeManyRow.holds Try.pinned (OpenSpec.ofChange gfreeManySpec)

/-- ITS FALSE NEIGHBOUR: 'it returns false'. Refute it at one input. -/
def gfreeManyWrong : ChangeSpec := { name := "gfreeMany", fn := fun _ => fun
  | [d1, d2] => { results := [.lit (.bool false)], args := [d1, d2] }
  | _ => none }
def GfreeManyWrongFalsely : Prop := gfreeManyRow.holds Try.pinned (OpenSpec.ofChange gfreeManyWrong)

/-- 'turnspitlaw16.StealHalf': WHATEVER THE INPUT: true; the input reads as it did. -/
def stealHalfSpec : ChangeSpec := { name := "stealHalf", fn := fun _ => fun
  | [d1, d2] => { results := [.lit (.bool true)], args := [d1, d2] }
  | _ => none }
def stealHalfRow : OpenClaim := { program := "ytophgiocmldliaa", sum := "ef9fbb4b1af9a86e49ea9888ab2bd6b4e9ae334ca50dc2a947cdd93c888bda78", func := "turnspit/turnspitlaw16.StealHalf", spec := "stealHalf", unfollowed := true, recurses := true, apart := false }
def StealHalfSaid : Prop := stealHalfRow.holds Try.pinned (OpenSpec.ofChange stealHalfSpec)

/-- ITS FALSE NEIGHBOUR: 'it returns false'. Refute it at one input. -/
def stealHalfWrong : ChangeSpec := { name := "stealHalf", fn := fun _ => fun
  | [d1, d2] => { results := [.lit (.bool false)], args := [d1, d2] }
  | _ => none }
def StealHalfWrongFalsely : Prop := stealHalfRow.holds Try.pinned (OpenSpec.ofChange stealHalfWrong)

/-- 'turnspitlaw11.GfreeGets': WHATEVER THE INPUT: true; the input reads as it did. -/
def gfreeGetsSpec : ChangeSpec := { name := "gfreeGets", fn := fun _ => fun
  | [d1, d2, d3] => { results := [.lit (.bool true)], args := [d1, d2, d3] }
  | _ => none }
def gfreeGetsRow : OpenClaim := { program := "ytophgiocmldliaa", sum := "ef9fbb4b1af9a86e49ea9888ab2bd6b4e9ae334ca50dc2a947cdd93c888bda78", func := "turnspit/turnspitlaw11.GfreeGets", spec := "gfreeGets", unfollowed := true, recurses := true, apart := false }
def GfreeGetsSaid : Prop := gfreeGetsRow.holds Try.pinned (OpenSpec.ofChange gfreeGetsSpec)

/-- ITS FALSE NEIGHBOUR: 'it returns false'. Refute it at one input. -/
def gfreeGetsWrong : ChangeSpec := { name := "gfreeGets", fn := fun _ => fun
  | [d1, d2, d3] => { results := [.lit (.bool false)], args := [d1, d2, d3] }
  | _ => none }
def GfreeGetsWrongFalsely : Prop := gfreeGetsRow.holds Try.pinned (OpenSpec.ofChange gfreeGetsWrong)

/-- 'turnspitlaw11.GfreePuts': WHATEVER THE INPUT: true; the input reads as it did. -/
def gfreePutsSpec : ChangeSpec := { name := "gfreePuts", fn := fun _ => fun
  | [d1, d2, d3] => { results := [.lit (.bool true)], args := [d1, d2, d3] }
  | _ => none }
def gfreePutsRow : OpenClaim := { program := "ytophgiocmldliaa", sum := "ef9fbb4b1af9a86e49ea9888ab2bd6b4e9ae334ca50dc2a947cdd93c888bda78", func := "turnspit/turnspitlaw11.GfreePuts", spec := "gfreePuts", unfollowed := true, recurses := true, apart := false }
def GfreePutsSaid : Prop := gfreePutsRow.holds Try.pinned (OpenSpec.ofChange gfreePutsSpec)

/-- ITS FALSE NEIGHBOUR: 'it returns false'. Refute it at one input. -/
def gfreePutsWrong : ChangeSpec := { name := "gfreePuts", fn := fun _ => fun
  | [d1, d2, d3] => { results := [.lit (.bool false)], args := [d1, d2, d3] }
  | _ => none }
def GfreePutsWrongFalsely : Prop := gfreePutsRow.holds Try.pinned (OpenSpec.ofChange gfreePutsWrong)

/-- 'turnspitlaw13.GlobqOrder': WHATEVER THE INPUT: true; the input reads as it did. -/
def globqOrderSpec : ChangeSpec := { name := "globqOrder", fn := fun _ => fun
  | [d1, d2] => { results := [.lit (.bool true)], args := [d1, d2] }
  | _ => none }
def globqOrderRow : OpenClaim := { program := "ytophgiocmldliaa", sum := "ef9fbb4b1af9a86e49ea9888ab2bd6b4e9ae334ca50dc2a947cdd93c888bda78", func := "turnspit/turnspitlaw13.GlobqOrder", spec := "globqOrder", unfollowed := true, recurses := true, apart := false }
def GlobqOrderSaid : Prop := globqOrderRow.holds Try.pinned (OpenSpec.ofChange globqOrderSpec)

/-- ITS FALSE NEIGHBOUR: 'it returns false'. Refute it at one input. -/
def globqOrderWrong : ChangeSpec := { name := "globqOrder", fn := fun _ => fun
  | [d1, d2] => { results := [.lit (.bool false)], args := [d1, d2] }
  | _ => none }
def GlobqOrderWrongFalsely : Prop := globqOrderRow.holds Try.pinned (OpenSpec.ofChange globqOrderWrong)

/-- 'turnspitlaw14.RputFull': WHATEVER THE INPUT: true; the input reads as it did. -/
def rputFullSpec : ChangeSpec := { name := "rputFull", fn := fun _ => fun
  | [d1, d2, d3] => { results := [.lit (.bool true)], args := [d1, d2, d3] }
  | _ => none }
def rputFullRow : OpenClaim := { program := "ytophgiocmldliaa", sum := "ef9fbb4b1af9a86e49ea9888ab2bd6b4e9ae334ca50dc2a947cdd93c888bda78", func := "turnspit/turnspitlaw14.RputFull", spec := "rputFull", unfollowed := true, recurses := true, apart := false }
def RputFullSaid : Prop := rputFullRow.holds Try.pinned (OpenSpec.ofChange rputFullSpec)

/-- ITS FALSE NEIGHBOUR: 'it returns false'. Refute it at one input. -/
def rputFullWrong : ChangeSpec := { name := "rputFull", fn := fun _ => fun
  | [d1, d2, d3] => { results := [.lit (.bool false)], args := [d1, d2, d3] }
  | _ => none }
def RputFullWrongFalsely : Prop := rputFullRow.holds Try.pinned (OpenSpec.ofChange rputFullWrong)

/-- 'turnspitlaw13.GlobqPuts': WHATEVER THE INPUT: true; the input reads as it did. -/
def globqPutsSpec : ChangeSpec := { name := "globqPuts", fn := fun _ => fun
  | [d1, d2, d3] => { results := [.lit (.bool true)], args := [d1, d2, d3] }
  | _ => none }
def globqPutsRow : OpenClaim := { program := "ytophgiocmldliaa", sum := "ef9fbb4b1af9a86e49ea9888ab2bd6b4e9ae334ca50dc2a947cdd93c888bda78", func := "turnspit/turnspitlaw13.GlobqPuts", spec := "globqPuts", unfollowed := true, recurses := true, apart := false }
def GlobqPutsSaid : Prop := globqPutsRow.holds Try.pinned (OpenSpec.ofChange globqPutsSpec)

/-- ITS FALSE NEIGHBOUR: 'it returns false'. Refute it at one input. -/
def globqPutsWrong : ChangeSpec := { name := "globqPuts", fn := fun _ => fun
  | [d1, d2, d3] => { results := [.lit (.bool false)], args := [d1, d2, d3] }
  | _ => none }
def GlobqPutsWrongFalsely : Prop := globqPutsRow.holds Try.pinned (OpenSpec.ofChange globqPutsWrong)

/-- 'turnspitlaw15.RgetOrder': WHATEVER THE INPUT: true; the input reads as it did. -/
def rgetOrderSpec : ChangeSpec := { name := "rgetOrder", fn := fun _ => fun
  | [d1, d2] => { results := [.lit (.bool true)], args := [d1, d2] }
  | _ => none }
def rgetOrderRow : OpenClaim := { program := "ytophgiocmldliaa", sum := "ef9fbb4b1af9a86e49ea9888ab2bd6b4e9ae334ca50dc2a947cdd93c888bda78", func := "turnspit/turnspitlaw15.RgetOrder", spec := "rgetOrder", unfollowed := true, recurses := true, apart := false }
def RgetOrderSaid : Prop := rgetOrderRow.holds Try.pinned (OpenSpec.ofChange rgetOrderSpec)

/-- ITS FALSE NEIGHBOUR: 'it returns false'. Refute it at one input. -/
def rgetOrderWrong : ChangeSpec := { name := "rgetOrder", fn := fun _ => fun
  | [d1, d2] => { results := [.lit (.bool false)], args := [d1, d2] }
  | _ => none }
def RgetOrderWrongFalsely : Prop := rgetOrderRow.holds Try.pinned (OpenSpec.ofChange rgetOrderWrong)

/-- 'turnspitlaw13.GlobqPulls': WHATEVER THE INPUT: true; the input reads as it did. -/
def globqPullsSpec : ChangeSpec := { name := "globqPulls", fn := fun _ => fun
  | [d1, d2, d3] => { results := [.lit (.bool true)], args := [d1, d2, d3] }
  | _ => none }
def globqPullsRow : OpenClaim := { program := "ytophgiocmldliaa", sum := "ef9fbb4b1af9a86e49ea9888ab2bd6b4e9ae334ca50dc2a947cdd93c888bda78", func := "turnspit/turnspitlaw13.GlobqPulls", spec := "globqPulls", unfollowed := true, recurses := true, apart := false }
def GlobqPullsSaid : Prop := globqPullsRow.holds Try.pinned (OpenSpec.ofChange globqPullsSpec)

/-- ITS FALSE NEIGHBOUR: 'it returns false'. Refute it at one input. -/
def globqPullsWrong : ChangeSpec := { name := "globqPulls", fn := fun _ => fun
  | [d1, d2, d3] => { results := [.lit (.bool false)], args := [d1, d2, d3] }
  | _ => none }
def GlobqPullsWrongFalsely : Prop := globqPullsRow.holds Try.pinned (OpenSpec.ofChange globqPullsWrong)

/- THE SECOND FORM. 'bulk': how many values and letters a reading holds, each counted each time it is reached (what is shared counts as often as it is met; a slice's spare places count too). A statement '..UptoSaid' is the law's where the arguments, and the package variables that the reading takes, are together of bulk at most 1048576: NARROWER than '..Said'. Prove '..Said' where nothing that the law and all that it calls make is longer than what came in: it says more and counts as full. Else prove '..UptoSaid'. A law counts once. -/
mutual
def uptoBulk {H : Type} : DataW H → Nat
  | .lit (.string bytes) => bytes.length + 1
  | .lit _ => 1
  | .nil => 1
  | .ptr d => uptoBulk d + 1
  | .slice elems spare => uptoBulkAll elems + uptoBulkAll spare + 1
  | .agg parts => uptoBulkAll parts + 1
  | .iface _ d => uptoBulk d + 1
  | .map entries => uptoBulkEntries entries + 1
  | .held _ => 1
def uptoBulkAll {H : Type} : List (DataW H) → Nat
  | [] => 0
  | d :: r => uptoBulk d + uptoBulkAll r
def uptoBulkEntries {H : Type} : List (Lit × DataW H) → Nat
  | [] => 0
  | x :: r => uptoBulkEntry x + uptoBulkEntries r
def uptoBulkEntry {H : Type} : Lit × DataW H → Nat
  | (.string bytes, d) => bytes.length + uptoBulk d + 1
  | (_, d) => uptoBulk d + 1
 end
def uptoSmall : (H : Type) → List (DataW H) → Bool := fun _ ds => decide (uptoBulkAll ds ≤ 1048576)
def OpenSpec.upto (s : _root_.Go.ChangeSpec) : _root_.Go.OpenSpec := { _root_.Go.OpenSpec.ofChange s with cond := some uptoSmall }

/-- 'turnspitlaw38.DiceMakes', WHERE WHAT IT READS IS OF BULK AT MOST 1048576: true; the input reads as it did. -/
def diceMakesUptoRow : OpenClaim := { program := "ytophgiocmldliaa", sum := "ef9fbb4b1af9a86e49ea9888ab2bd6b4e9ae334ca50dc2a947cdd93c888bda78", func := "turnspit/turnspitlaw38.DiceMakes", spec := "diceMakes", apart := false, narrowed := true }
def DiceMakesUptoSaid : Prop := diceMakesUptoRow.holds Try.pinned (OpenSpec.upto diceMakesSpec)

/-- 'turnspitlaw08.LockAlone', WHERE WHAT IT READS IS OF BULK AT MOST 1048576: true; the input reads as it did. -/
def lockAloneUptoRow : OpenClaim := { program := "ytophgiocmldliaa", sum := "ef9fbb4b1af9a86e49ea9888ab2bd6b4e9ae334ca50dc2a947cdd93c888bda78", func := "turnspit/turnspitlaw08.LockAlone", spec := "lockAlone", unfollowed := true, recurses := true, apart := false, narrowed := true }
def LockAloneUptoSaid : Prop := lockAloneUptoRow.holds Try.pinned (OpenSpec.upto lockAloneSpec)

/-- 'turnspitlaw18.IdlemMany', WHERE WHAT IT READS IS OF BULK AT MOST 1048576: true; the input reads as it did. -/
def idlemManyUptoRow : OpenClaim := { program := "ytophgiocmldliaa", sum := "ef9fbb4b1af9a86e49ea9888ab2bd6b4e9ae334ca50dc2a947cdd93c888bda78", func := "turnspit/turnspitlaw18.IdlemMany", spec := "idlemMany", unfollowed := true, recurses := true, apart := false, narrowed := true }
def IdlemManyUptoSaid : Prop := idlemManyUptoRow.holds Try.pinned (OpenSpec.upto idlemManySpec)

/-- 'turnspitlaw17.IdlepPile', WHERE WHAT IT READS IS OF BULK AT MOST 1048576: true; the input reads as it did. -/
def idlepPileUptoRow : OpenClaim := { program := "ytophgiocmldliaa", sum := "ef9fbb4b1af9a86e49ea9888ab2bd6b4e9ae334ca50dc2a947cdd93c888bda78", func := "turnspit/turnspitlaw17.IdlepPile", spec := "idlepPile", unfollowed := true, recurses := true, apart := false, narrowed := true }
def IdlepPileUptoSaid : Prop := idlepPileUptoRow.holds Try.pinned (OpenSpec.upto idlepPileSpec)

/-- 'turnspitlaw11.GfreeMany', WHERE WHAT IT READS IS OF BULK AT MOST 1048576: true; the input reads as it did. -/
def gfreeManyUptoRow : OpenClaim := { program := "ytophgiocmldliaa", sum := "ef9fbb4b1af9a86e49ea9888ab2bd6b4e9ae334ca50dc2a947cdd93c888bda78", func := "turnspit/turnspitlaw11.GfreeMany", spec := "gfreeMany", unfollowed := true, recurses := true, apart := false, narrowed := true }
def GfreeManyUptoSaid : Prop := gfreeManyUptoRow.holds Try.pinned (OpenSpec.upto gfreeManySpec)

/-- 'turnspitlaw16.StealHalf', WHERE WHAT IT READS IS OF BULK AT MOST 1048576: true; the input reads as it did. -/
def stealHalfUptoRow : OpenClaim := { program := "ytophgiocmldliaa", sum := "ef9fbb4b1af9a86e49ea9888ab2bd6b4e9ae334ca50dc2a947cdd93c888bda78", func := "turnspit/turnspitlaw16.StealHalf", spec := "stealHalf", unfollowed := true, recurses := true, apart := false, narrowed := true }
def StealHalfUptoSaid : Prop := stealHalfUptoRow.holds Try.pinned (OpenSpec.upto stealHalfSpec)

/-- 'turnspitlaw11.GfreeGets', WHERE WHAT IT READS IS OF BULK AT MOST 1048576: true; the input reads as it did. -/
def gfreeGetsUptoRow : OpenClaim := { program := "ytophgiocmldliaa", sum := "ef9fbb4b1af9a86e49ea9888ab2bd6b4e9ae334ca50dc2a947cdd93c888bda78", func := "turnspit/turnspitlaw11.GfreeGets", spec := "gfreeGets", unfollowed := true, recurses := true, apart := false, narrowed := true }
def GfreeGetsUptoSaid : Prop := gfreeGetsUptoRow.holds Try.pinned (OpenSpec.upto gfreeGetsSpec)

/-- 'turnspitlaw11.GfreePuts', WHERE WHAT IT READS IS OF BULK AT MOST 1048576: true; the input reads as it did. -/
def gfreePutsUptoRow : OpenClaim := { program := "ytophgiocmldliaa", sum := "ef9fbb4b1af9a86e49ea9888ab2bd6b4e9ae334ca50dc2a947cdd93c888bda78", func := "turnspit/turnspitlaw11.GfreePuts", spec := "gfreePuts", unfollowed := true, recurses := true, apart := false, narrowed := true }
def GfreePutsUptoSaid : Prop := gfreePutsUptoRow.holds Try.pinned (OpenSpec.upto gfreePutsSpec)

/-- 'turnspitlaw13.GlobqOrder', WHERE WHAT IT READS IS OF BULK AT MOST 1048576: true; the input reads as it did. -/
def globqOrderUptoRow : OpenClaim := { program := "ytophgiocmldliaa", sum := "ef9fbb4b1af9a86e49ea9888ab2bd6b4e9ae334ca50dc2a947cdd93c888bda78", func := "turnspit/turnspitlaw13.GlobqOrder", spec := "globqOrder", unfollowed := true, recurses := true, apart := false, narrowed := true }
def GlobqOrderUptoSaid : Prop := globqOrderUptoRow.holds Try.pinned (OpenSpec.upto globqOrderSpec)

/-- 'turnspitlaw14.RputFull', WHERE WHAT IT READS IS OF BULK AT MOST 1048576: true; the input reads as it did. -/
def rputFullUptoRow : OpenClaim := { program := "ytophgiocmldliaa", sum := "ef9fbb4b1af9a86e49ea9888ab2bd6b4e9ae334ca50dc2a947cdd93c888bda78", func := "turnspit/turnspitlaw14.RputFull", spec := "rputFull", unfollowed := true, recurses := true, apart := false, narrowed := true }
def RputFullUptoSaid : Prop := rputFullUptoRow.holds Try.pinned (OpenSpec.upto rputFullSpec)

/-- 'turnspitlaw13.GlobqPuts', WHERE WHAT IT READS IS OF BULK AT MOST 1048576: true; the input reads as it did. -/
def globqPutsUptoRow : OpenClaim := { program := "ytophgiocmldliaa", sum := "ef9fbb4b1af9a86e49ea9888ab2bd6b4e9ae334ca50dc2a947cdd93c888bda78", func := "turnspit/turnspitlaw13.GlobqPuts", spec := "globqPuts", unfollowed := true, recurses := true, apart := false, narrowed := true }
def GlobqPutsUptoSaid : Prop := globqPutsUptoRow.holds Try.pinned (OpenSpec.upto globqPutsSpec)

/-- 'turnspitlaw15.RgetOrder', WHERE WHAT IT READS IS OF BULK AT MOST 1048576: true; the input reads as it did. -/
def rgetOrderUptoRow : OpenClaim := { program := "ytophgiocmldliaa", sum := "ef9fbb4b1af9a86e49ea9888ab2bd6b4e9ae334ca50dc2a947cdd93c888bda78", func := "turnspit/turnspitlaw15.RgetOrder", spec := "rgetOrder", unfollowed := true, recurses := true, apart := false, narrowed := true }
def RgetOrderUptoSaid : Prop := rgetOrderUptoRow.holds Try.pinned (OpenSpec.upto rgetOrderSpec)

/-- 'turnspitlaw13.GlobqPulls', WHERE WHAT IT READS IS OF BULK AT MOST 1048576: true; the input reads as it did. -/
def globqPullsUptoRow : OpenClaim := { program := "ytophgiocmldliaa", sum := "ef9fbb4b1af9a86e49ea9888ab2bd6b4e9ae334ca50dc2a947cdd93c888bda78", func := "turnspit/turnspitlaw13.GlobqPulls", spec := "globqPulls", unfollowed := true, recurses := true, apart := false, narrowed := true }
def GlobqPullsUptoSaid : Prop := globqPullsUptoRow.holds Try.pinned (OpenSpec.upto globqPullsSpec)

end Rows
end Go.Proofs.Ytophgiocmldliaa
