/-
  No cell of these rows narrows 'for every input' (looked for: loops, veiled, ifaces, maps, wideKeys, modest, calm, conditions, laid).
  DERIVED. THE GIVEN ROWS OF THIS SEAT. 3 by the template 'for every input the law returns true; each argument reads behind the call as it read before'; 0 by the template 'total and deterministic' (their statements: YtnfneinonkpmeaaTotals.lean).
  GIVEN WITH THE SEED: the statements are not yours to turn. If you find one false, say at which input.
  Laid BY PROGRAM, IN A SANDBOX (cutbox-rows.mjs): the forced cells as the released guide's own fill.sh prints them over the translation b86af8a8b5c17d0f… (all of the seat's roots in one cut). By AI agents, Wed Nov 11 2026. No macro, syntax, notation, axiom, sorry.
-/
import Derived.Test.YtnfneinonkpmeaaChecked
import GoSem.Claim
import GoSem.ClaimJoined
import GoSem.ClaimMapViews
import Derived.JoinedTies
import Derived.KernelRfl
namespace Go.Proofs.Ytnfneinonkpmeaa
/- THE CELL 'sum', in the pinned program and in every row, IS THE sha256 OF THE DUMP (.gsa) THAT YtnfneinonkpmeaaProg.lean LOADS. Nothing in Lean hashes anything: it is a label: what it is worth is what the hold of that sum in a sandbox is worth. -/
noncomputable def Try.pinned : Pinned := { name := "ytnfneinonkpmeaa", sum := "b86af8a8b5c17d0f46bcdc107d5b5c4b8cfcb3229286e2b28075a84adfa819f6", checked := Try.checked }
namespace Rows
def none {H : Type} : Left H := { results := [], args := [] }

/-- 'brazierlaw15.PickFns': WHATEVER THE INPUT: true; the input reads as it did. -/
def pickFnsSpec : ChangeSpec := { name := "pickFns", fn := fun _ => fun
  | [d] => { results := [.lit (.bool true)], args := [d] }
  | _ => none }
def pickFnsRow : OpenClaim := { program := "ytnfneinonkpmeaa", sum := "b86af8a8b5c17d0f46bcdc107d5b5c4b8cfcb3229286e2b28075a84adfa819f6", func := "brazier/brazierlaw15.PickFns", spec := "pickFns", apart := false }
def PickFnsSaid : Prop := pickFnsRow.holds Try.pinned (OpenSpec.ofChange pickFnsSpec)

/-- ITS FALSE NEIGHBOUR: 'it returns false'. Refute it at one input. -/
def pickFnsWrong : ChangeSpec := { name := "pickFns", fn := fun _ => fun
  | [d] => { results := [.lit (.bool false)], args := [d] }
  | _ => none }
def PickFnsWrongFalsely : Prop := pickFnsRow.holds Try.pinned (OpenSpec.ofChange pickFnsWrong)

/-- 'brazierlaw15.PickKeeps': WHATEVER THE INPUT: true; the input reads as it did. -/
def pickKeepsSpec : ChangeSpec := { name := "pickKeeps", fn := fun _ => fun
  | [d1, d2, d3] => { results := [.lit (.bool true)], args := [d1, d2, d3] }
  | _ => none }
def pickKeepsRow : OpenClaim := { program := "ytnfneinonkpmeaa", sum := "b86af8a8b5c17d0f46bcdc107d5b5c4b8cfcb3229286e2b28075a84adfa819f6", func := "brazier/brazierlaw15.PickKeeps", spec := "pickKeeps", recurses := true, apart := false }
def PickKeepsSaid : Prop := pickKeepsRow.holds Try.pinned (OpenSpec.ofChange pickKeepsSpec)

/-- ITS FALSE NEIGHBOUR: 'it returns false'. Refute it at one input. -/
def pickKeepsWrong : ChangeSpec := { name := "pickKeeps", fn := fun _ => fun
  | [d1, d2, d3] => { results := [.lit (.bool false)], args := [d1, d2, d3] }
  | _ => none }
def PickKeepsWrongFalsely : Prop := pickKeepsRow.holds Try.pinned (OpenSpec.ofChange pickKeepsWrong)

/-- 'brazierlaw15.PickOne': WHATEVER THE INPUT: true; the input reads as it did. -/
def pickOneSpec : ChangeSpec := { name := "pickOne", fn := fun _ => fun
  | [d1, d2, d3] => { results := [.lit (.bool true)], args := [d1, d2, d3] }
  | _ => none }
def pickOneRow : OpenClaim := { program := "ytnfneinonkpmeaa", sum := "b86af8a8b5c17d0f46bcdc107d5b5c4b8cfcb3229286e2b28075a84adfa819f6", func := "brazier/brazierlaw15.PickOne", spec := "pickOne", unfollowed := true, recurses := true, apart := false }
def PickOneSaid : Prop := pickOneRow.holds Try.pinned (OpenSpec.ofChange pickOneSpec)

/-- ITS FALSE NEIGHBOUR: 'it returns false'. Refute it at one input. -/
def pickOneWrong : ChangeSpec := { name := "pickOne", fn := fun _ => fun
  | [d1, d2, d3] => { results := [.lit (.bool false)], args := [d1, d2, d3] }
  | _ => none }
def PickOneWrongFalsely : Prop := pickOneRow.holds Try.pinned (OpenSpec.ofChange pickOneWrong)

/- THE SECOND FORM. 'bulk': how many values and letters a reading holds, each counted each time it is reached (what is shared counts as often as it is met; a slice's spare places count too). A statement '..UptoSaid' is the law's where the arguments, and the package variables that the reading takes, are together of bulk at most 1048576: NARROWER than '..Said'. Prove '..Said' where nothing that the law and all that it calls make is longer than what came in: it says more and counts as full. Else prove '..UptoSaid'. A law counts once. -/
mutual
def uptoBulk {H : Type} : DataW H → Nat
  | .lit (.string bytes) => bytes.length + 1
  | .lit _ => 1
  | .nil => 1
  | .ptr d => uptoBulk d + 1
  | .slice elems spare => uptoBulkAll elems + uptoBulkAll spare + 1
  | .agg parts => uptoBulkAll parts + 1
  | .iface _ d => uptoBulk d + 1
  | .map entries => uptoBulkEntries entries + 1
  | .held _ => 1
def uptoBulkAll {H : Type} : List (DataW H) → Nat
  | [] => 0
  | d :: r => uptoBulk d + uptoBulkAll r
def uptoBulkEntries {H : Type} : List (Lit × DataW H) → Nat
  | [] => 0
  | x :: r => uptoBulkEntry x + uptoBulkEntries r
def uptoBulkEntry {H : Type} : Lit × DataW H → Nat
  | (.string bytes, d) => bytes.length + uptoBulk d + 1
  | (_, d) => uptoBulk d + 1
 end
def uptoSmall : (H : Type) → List (DataW H) → Bool := fun _ ds => decide (uptoBulkAll ds ≤ 1048576)
def OpenSpec.upto (s : _root_.Go.ChangeSpec) : _root_.Go.OpenSpec := { _root_.Go.OpenSpec.ofChange s with cond := some uptoSmall }

/-- 'brazierlaw15.PickFns', WHERE WHAT IT READS IS OF BULK AT MOST 1048576: true; the input reads as it did. -/
def pickFnsUptoRow : OpenClaim := { program := "ytnfneinonkpmeaa", sum := "b86af8a8b5c17d0f46bcdc107d5b5c4b8cfcb3229286e2b28075a84adfa819f6", func := "brazier/brazierlaw15.PickFns", spec := "pickFns", apart := false, narrowed := true }
def PickFnsUptoSaid : Prop := pickFnsUptoRow.holds Try.pinned (OpenSpec.upto pickFnsSpec)

/-- 'brazierlaw15.PickKeeps', WHERE WHAT IT READS IS OF BULK AT MOST 1048576: true; the input reads as it did. -/
def pickKeepsUptoRow : OpenClaim := { program := "ytnfneinonkpmeaa", sum := "b86af8a8b5c17d0f46bcdc107d5b5c4b8cfcb3229286e2b28075a84adfa819f6", func := "brazier/brazierlaw15.PickKeeps", spec := "pickKeeps", recurses := true, apart := false, narrowed := true }
def PickKeepsUptoSaid : Prop := pickKeepsUptoRow.holds Try.pinned (OpenSpec.upto pickKeepsSpec)

/-- 'brazierlaw15.PickOne', WHERE WHAT IT READS IS OF BULK AT MOST 1048576: true; the input reads as it did. -/
def pickOneUptoRow : OpenClaim := { program := "ytnfneinonkpmeaa", sum := "b86af8a8b5c17d0f46bcdc107d5b5c4b8cfcb3229286e2b28075a84adfa819f6", func := "brazier/brazierlaw15.PickOne", spec := "pickOne", unfollowed := true, recurses := true, apart := false, narrowed := true }
def PickOneUptoSaid : Prop := pickOneUptoRow.holds Try.pinned (OpenSpec.upto pickOneSpec)

end Rows
end Go.Proofs.Ytnfneinonkpmeaa
