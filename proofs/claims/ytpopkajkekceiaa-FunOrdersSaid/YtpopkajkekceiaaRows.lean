/-
  No cell of these rows narrows 'for every input' (looked for: loops, veiled, ifaces, maps, wideKeys, modest, calm, conditions, laid).
  DERIVED. THE GIVEN ROWS OF THIS SEAT. 6 by the template 'for every input the law returns true; each argument reads behind the call as it read before'; 0 by the template 'total and deterministic' (their statements: YtpopkajkekceiaaTotals.lean).
  GIVEN WITH THE SEED: the statements are not yours to turn. If you find one false, say at which input.
  Laid BY PROGRAM, IN A SANDBOX (cutbox-rows.mjs): the forced cells as the released guide's own fill.sh prints them over the translation 8f8d576344f4f2f6… (all of the seat's roots in one cut). By AI agents, Wed Nov 11 2026. No macro, syntax, notation, axiom, sorry.
-/
import Derived.Test.YtpopkajkekceiaaChecked
import GoSem.Claim
import GoSem.ClaimJoined
import GoSem.ClaimMapViews
import Derived.JoinedTies
import Derived.KernelRfl
namespace Go.Proofs.Ytpopkajkekceiaa
/- THE CELL 'sum', in the pinned program and in every row, IS THE sha256 OF THE DUMP (.gsa) THAT YtpopkajkekceiaaProg.lean LOADS. Nothing in Lean hashes anything: it is a label: what it is worth is what the hold of that sum in a sandbox is worth. -/
noncomputable def Try.pinned : Pinned := { name := "ytpopkajkekceiaa", sum := "8f8d576344f4f2f6c933186eb0825c7ab5d0ab8940823dd38b28129a6724c8a1", checked := Try.checked }
namespace Rows
def none {H : Type} : Left H := { results := [], args := [] }

/-- 'betrothallaw06.FunChecks': WHATEVER THE INPUT: true; the input reads as it did. -/
def funChecksSpec : ChangeSpec := { name := "funChecks", fn := fun _ => fun
  | [d] => { results := [.lit (.bool true)], args := [d] }
  | _ => none }
def funChecksRow : OpenClaim := { program := "ytpopkajkekceiaa", sum := "8f8d576344f4f2f6c933186eb0825c7ab5d0ab8940823dd38b28129a6724c8a1", func := "betrothal/betrothallaw06.FunChecks", spec := "funChecks", unfollowed := true, recurses := true, apart := false }
def FunChecksSaid : Prop := funChecksRow.holds Try.pinned (OpenSpec.ofChange funChecksSpec)

/-- ITS FALSE NEIGHBOUR: 'it returns false'. Refute it at one input. -/
def funChecksWrong : ChangeSpec := { name := "funChecks", fn := fun _ => fun
  | [d] => { results := [.lit (.bool false)], args := [d] }
  | _ => none }
def FunChecksWrongFalsely : Prop := funChecksRow.holds Try.pinned (OpenSpec.ofChange funChecksWrong)

/-- 'betrothallaw06.FunTells': WHATEVER THE INPUT: true; the input reads as it did. -/
def funTellsSpec : ChangeSpec := { name := "funTells", fn := fun _ => fun
  | [d1, d2] => { results := [.lit (.bool true)], args := [d1, d2] }
  | _ => none }
def funTellsRow : OpenClaim := { program := "ytpopkajkekceiaa", sum := "8f8d576344f4f2f6c933186eb0825c7ab5d0ab8940823dd38b28129a6724c8a1", func := "betrothal/betrothallaw06.FunTells", spec := "funTells", unfollowed := true, recurses := true, apart := false }
def FunTellsSaid : Prop := funTellsRow.holds Try.pinned (OpenSpec.ofChange funTellsSpec)

/-- ITS FALSE NEIGHBOUR: 'it returns false'. Refute it at one input. -/
def funTellsWrong : ChangeSpec := { name := "funTells", fn := fun _ => fun
  | [d1, d2] => { results := [.lit (.bool false)], args := [d1, d2] }
  | _ => none }
def FunTellsWrongFalsely : Prop := funTellsRow.holds Try.pinned (OpenSpec.ofChange funTellsWrong)

/-- 'betrothallaw06.FunBounds': WHATEVER THE INPUT: true; the input reads as it did. -/
def funBoundsSpec : ChangeSpec := { name := "funBounds", fn := fun _ => fun
  | [d1, d2] => { results := [.lit (.bool true)], args := [d1, d2] }
  | _ => none }
def funBoundsRow : OpenClaim := { program := "ytpopkajkekceiaa", sum := "8f8d576344f4f2f6c933186eb0825c7ab5d0ab8940823dd38b28129a6724c8a1", func := "betrothal/betrothallaw06.FunBounds", spec := "funBounds", unfollowed := true, recurses := true, apart := false }
def FunBoundsSaid : Prop := funBoundsRow.holds Try.pinned (OpenSpec.ofChange funBoundsSpec)

/-- ITS FALSE NEIGHBOUR: 'it returns false'. Refute it at one input. -/
def funBoundsWrong : ChangeSpec := { name := "funBounds", fn := fun _ => fun
  | [d1, d2] => { results := [.lit (.bool false)], args := [d1, d2] }
  | _ => none }
def FunBoundsWrongFalsely : Prop := funBoundsRow.holds Try.pinned (OpenSpec.ofChange funBoundsWrong)

/-- 'betrothallaw06.FunHolds': WHATEVER THE INPUT: true; the input reads as it did. -/
def funHoldsSpec : ChangeSpec := { name := "funHolds", fn := fun _ => fun
  | [d] => { results := [.lit (.bool true)], args := [d] }
  | _ => none }
def funHoldsRow : OpenClaim := { program := "ytpopkajkekceiaa", sum := "8f8d576344f4f2f6c933186eb0825c7ab5d0ab8940823dd38b28129a6724c8a1", func := "betrothal/betrothallaw06.FunHolds", spec := "funHolds", unfollowed := true, recurses := true, apart := false }
def FunHoldsSaid : Prop := funHoldsRow.holds Try.pinned (OpenSpec.ofChange funHoldsSpec)

/-- ITS FALSE NEIGHBOUR: 'it returns false'. Refute it at one input. -/
def funHoldsWrong : ChangeSpec := { name := "funHolds", fn := fun _ => fun
  | [d] => { results := [.lit (.bool false)], args := [d] }
  | _ => none }
def FunHoldsWrongFalsely : Prop := funHoldsRow.holds Try.pinned (OpenSpec.ofChange funHoldsWrong)

/-- 'betrothallaw06.FunOrders': WHATEVER THE INPUT: true; the input reads as it did. -/
def funOrdersSpec : ChangeSpec := { name := "funOrders", fn := fun _ => fun
  | [d1, d2] => { results := [.lit (.bool true)], args := [d1, d2] }
  | _ => none }
def funOrdersRow : OpenClaim := { program := "ytpopkajkekceiaa", sum := "8f8d576344f4f2f6c933186eb0825c7ab5d0ab8940823dd38b28129a6724c8a1", func := "betrothal/betrothallaw06.FunOrders", spec := "funOrders", unfollowed := true, recurses := true, apart := false }
def FunOrdersSaid : Prop := funOrdersRow.holds Try.pinned (OpenSpec.ofChange funOrdersSpec)

/-- ITS FALSE NEIGHBOUR: 'it returns false'. Refute it at one input. -/
def funOrdersWrong : ChangeSpec := { name := "funOrders", fn := fun _ => fun
  | [d1, d2] => { results := [.lit (.bool false)], args := [d1, d2] }
  | _ => none }
def FunOrdersWrongFalsely : Prop := funOrdersRow.holds Try.pinned (OpenSpec.ofChange funOrdersWrong)

/-- 'betrothallaw06.FunSame': WHATEVER THE INPUT: true; the input reads as it did. -/
def funSameSpec : ChangeSpec := { name := "funSame", fn := fun _ => fun
  | [d1, d2] => { results := [.lit (.bool true)], args := [d1, d2] }
  | _ => none }
def funSameRow : OpenClaim := { program := "ytpopkajkekceiaa", sum := "8f8d576344f4f2f6c933186eb0825c7ab5d0ab8940823dd38b28129a6724c8a1", func := "betrothal/betrothallaw06.FunSame", spec := "funSame", unfollowed := true, recurses := true, apart := false }
def FunSameSaid : Prop := funSameRow.holds Try.pinned (OpenSpec.ofChange funSameSpec)

/-- ITS FALSE NEIGHBOUR: 'it returns false'. Refute it at one input. -/
def funSameWrong : ChangeSpec := { name := "funSame", fn := fun _ => fun
  | [d1, d2] => { results := [.lit (.bool false)], args := [d1, d2] }
  | _ => none }
def FunSameWrongFalsely : Prop := funSameRow.holds Try.pinned (OpenSpec.ofChange funSameWrong)

/- THE SECOND FORM. 'bulk': how many values and letters a reading holds, each counted each time it is reached (what is shared counts as often as it is met; a slice's spare places count too). A statement '..UptoSaid' is the law's where the arguments, and the package variables that the reading takes, are together of bulk at most 1048576: NARROWER than '..Said'. Prove '..Said' where nothing that the law and all that it calls make is longer than what came in: it says more and counts as full. Else prove '..UptoSaid'. A law counts once. -/
mutual
def uptoBulk {H : Type} : DataW H → Nat
  | .lit (.string bytes) => bytes.length + 1
  | .lit _ => 1
  | .nil => 1
  | .ptr d => uptoBulk d + 1
  | .slice elems spare => uptoBulkAll elems + uptoBulkAll spare + 1
  | .agg parts => uptoBulkAll parts + 1
  | .iface _ d => uptoBulk d + 1
  | .map entries => uptoBulkEntries entries + 1
  | .held _ => 1
def uptoBulkAll {H : Type} : List (DataW H) → Nat
  | [] => 0
  | d :: r => uptoBulk d + uptoBulkAll r
def uptoBulkEntries {H : Type} : List (Lit × DataW H) → Nat
  | [] => 0
  | x :: r => uptoBulkEntry x + uptoBulkEntries r
def uptoBulkEntry {H : Type} : Lit × DataW H → Nat
  | (.string bytes, d) => bytes.length + uptoBulk d + 1
  | (_, d) => uptoBulk d + 1
 end
def uptoSmall : (H : Type) → List (DataW H) → Bool := fun _ ds => decide (uptoBulkAll ds ≤ 1048576)
def OpenSpec.upto (s : _root_.Go.ChangeSpec) : _root_.Go.OpenSpec := { _root_.Go.OpenSpec.ofChange s with cond := some uptoSmall }

/-- 'betrothallaw06.FunChecks', WHERE WHAT IT READS IS OF BULK AT MOST 1048576: true; the input reads as it did. -/
def funChecksUptoRow : OpenClaim := { program := "ytpopkajkekceiaa", sum := "8f8d576344f4f2f6c933186eb0825c7ab5d0ab8940823dd38b28129a6724c8a1", func := "betrothal/betrothallaw06.FunChecks", spec := "funChecks", unfollowed := true, recurses := true, apart := false, narrowed := true }
def FunChecksUptoSaid : Prop := funChecksUptoRow.holds Try.pinned (OpenSpec.upto funChecksSpec)

/-- 'betrothallaw06.FunTells', WHERE WHAT IT READS IS OF BULK AT MOST 1048576: true; the input reads as it did. -/
def funTellsUptoRow : OpenClaim := { program := "ytpopkajkekceiaa", sum := "8f8d576344f4f2f6c933186eb0825c7ab5d0ab8940823dd38b28129a6724c8a1", func := "betrothal/betrothallaw06.FunTells", spec := "funTells", unfollowed := true, recurses := true, apart := false, narrowed := true }
def FunTellsUptoSaid : Prop := funTellsUptoRow.holds Try.pinned (OpenSpec.upto funTellsSpec)

/-- 'betrothallaw06.FunBounds', WHERE WHAT IT READS IS OF BULK AT MOST 1048576: true; the input reads as it did. -/
def funBoundsUptoRow : OpenClaim := { program := "ytpopkajkekceiaa", sum := "8f8d576344f4f2f6c933186eb0825c7ab5d0ab8940823dd38b28129a6724c8a1", func := "betrothal/betrothallaw06.FunBounds", spec := "funBounds", unfollowed := true, recurses := true, apart := false, narrowed := true }
def FunBoundsUptoSaid : Prop := funBoundsUptoRow.holds Try.pinned (OpenSpec.upto funBoundsSpec)

/-- 'betrothallaw06.FunHolds', WHERE WHAT IT READS IS OF BULK AT MOST 1048576: true; the input reads as it did. -/
def funHoldsUptoRow : OpenClaim := { program := "ytpopkajkekceiaa", sum := "8f8d576344f4f2f6c933186eb0825c7ab5d0ab8940823dd38b28129a6724c8a1", func := "betrothal/betrothallaw06.FunHolds", spec := "funHolds", unfollowed := true, recurses := true, apart := false, narrowed := true }
def FunHoldsUptoSaid : Prop := funHoldsUptoRow.holds Try.pinned (OpenSpec.upto funHoldsSpec)

/-- 'betrothallaw06.FunOrders', WHERE WHAT IT READS IS OF BULK AT MOST 1048576: true; the input reads as it did. -/
def funOrdersUptoRow : OpenClaim := { program := "ytpopkajkekceiaa", sum := "8f8d576344f4f2f6c933186eb0825c7ab5d0ab8940823dd38b28129a6724c8a1", func := "betrothal/betrothallaw06.FunOrders", spec := "funOrders", unfollowed := true, recurses := true, apart := false, narrowed := true }
def FunOrdersUptoSaid : Prop := funOrdersUptoRow.holds Try.pinned (OpenSpec.upto funOrdersSpec)

/-- 'betrothallaw06.FunSame', WHERE WHAT IT READS IS OF BULK AT MOST 1048576: true; the input reads as it did. -/
def funSameUptoRow : OpenClaim := { program := "ytpopkajkekceiaa", sum := "8f8d576344f4f2f6c933186eb0825c7ab5d0ab8940823dd38b28129a6724c8a1", func := "betrothal/betrothallaw06.FunSame", spec := "funSame", unfollowed := true, recurses := true, apart := false, narrowed := true }
def FunSameUptoSaid : Prop := funSameUptoRow.holds Try.pinned (OpenSpec.upto funSameSpec)

end Rows
end Go.Proofs.Ytpopkajkekceiaa
