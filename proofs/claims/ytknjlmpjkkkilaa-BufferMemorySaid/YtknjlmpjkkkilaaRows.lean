/-
  No cell of these rows narrows 'for every input' (looked for: loops, veiled, ifaces, maps, wideKeys, modest, calm, conditions, laid).
  DERIVED. THE GIVEN ROWS OF THIS SEAT. 6 by the template 'for every input the law returns true; each argument reads behind the call as it read before'; 0 by the template 'total and deterministic' (their statements: YtknjlmpjkkkilaaTotals.lean).
  GIVEN WITH THE SEED: the statements are not yours to turn. If you find one false, say at which input.
  Laid BY PROGRAM, IN A SANDBOX (cutbox-rows.mjs): the forced cells as the released guide's own fill.sh prints them over the translation daa7ab8c0c54a811… (all of the seat's roots in one cut). By AI agents, Wed Nov 11 2026. No macro, syntax, notation, axiom, sorry.
-/
import Derived.Test.YtknjlmpjkkkilaaChecked
import GoSem.Claim
import GoSem.ClaimJoined
import GoSem.ClaimMapViews
import Derived.JoinedTies
import Derived.KernelRfl
namespace Go.Proofs.Ytknjlmpjkkkilaa
/- THE CELL 'sum', in the pinned program and in every row, IS THE sha256 OF THE DUMP (.gsa) THAT YtknjlmpjkkkilaaProg.lean LOADS. Nothing in Lean hashes anything: it is a label: what it is worth is what the hold of that sum in a sandbox is worth. -/
noncomputable def Try.pinned : Pinned := { name := "ytknjlmpjkkkilaa", sum := "daa7ab8c0c54a81179aadfad6cd42f36618d212df4e010d4f2eb15b8cf3bdc34", checked := Try.checked }
namespace Rows
def none {H : Type} : Left H := { results := [], args := [] }

/-- 'quadrillelaw14.BufferOne': WHATEVER THE INPUT: true; the input reads as it did. -/
def bufferOneSpec : ChangeSpec := { name := "bufferOne", fn := fun _ => fun
  | [d1, d2, d3] => { results := [.lit (.bool true)], args := [d1, d2, d3] }
  | _ => none }
def bufferOneRow : OpenClaim := { program := "ytknjlmpjkkkilaa", sum := "daa7ab8c0c54a81179aadfad6cd42f36618d212df4e010d4f2eb15b8cf3bdc34", func := "quadrille/quadrillelaw14.BufferOne", spec := "bufferOne", unfollowed := true, recurses := true, apart := false }
def BufferOneSaid : Prop := bufferOneRow.holds Try.pinned (OpenSpec.ofChange bufferOneSpec)

/-- ITS FALSE NEIGHBOUR: 'it returns false'. Refute it at one input. -/
def bufferOneWrong : ChangeSpec := { name := "bufferOne", fn := fun _ => fun
  | [d1, d2, d3] => { results := [.lit (.bool false)], args := [d1, d2, d3] }
  | _ => none }
def BufferOneWrongFalsely : Prop := bufferOneRow.holds Try.pinned (OpenSpec.ofChange bufferOneWrong)

/-- 'quadrillelaw14.BufferForwards': WHATEVER THE INPUT: true; the input reads as it did. -/
def bufferForwardsSpec : ChangeSpec := { name := "bufferForwards", fn := fun _ => fun
  | [d1, d2, d3] => { results := [.lit (.bool true)], args := [d1, d2, d3] }
  | _ => none }
def bufferForwardsRow : OpenClaim := { program := "ytknjlmpjkkkilaa", sum := "daa7ab8c0c54a81179aadfad6cd42f36618d212df4e010d4f2eb15b8cf3bdc34", func := "quadrille/quadrillelaw14.BufferForwards", spec := "bufferForwards", unfollowed := true, recurses := true, apart := false }
def BufferForwardsSaid : Prop := bufferForwardsRow.holds Try.pinned (OpenSpec.ofChange bufferForwardsSpec)

/-- ITS FALSE NEIGHBOUR: 'it returns false'. Refute it at one input. -/
def bufferForwardsWrong : ChangeSpec := { name := "bufferForwards", fn := fun _ => fun
  | [d1, d2, d3] => { results := [.lit (.bool false)], args := [d1, d2, d3] }
  | _ => none }
def BufferForwardsWrongFalsely : Prop := bufferForwardsRow.holds Try.pinned (OpenSpec.ofChange bufferForwardsWrong)

/-- 'quadrillelaw14.BufferPushes': WHATEVER THE INPUT: true; the input reads as it did. -/
def bufferPushesSpec : ChangeSpec := { name := "bufferPushes", fn := fun _ => fun
  | [d] => { results := [.lit (.bool true)], args := [d] }
  | _ => none }
def bufferPushesRow : OpenClaim := { program := "ytknjlmpjkkkilaa", sum := "daa7ab8c0c54a81179aadfad6cd42f36618d212df4e010d4f2eb15b8cf3bdc34", func := "quadrille/quadrillelaw14.BufferPushes", spec := "bufferPushes", unfollowed := true, recurses := true, apart := false }
def BufferPushesSaid : Prop := bufferPushesRow.holds Try.pinned (OpenSpec.ofChange bufferPushesSpec)

/-- ITS FALSE NEIGHBOUR: 'it returns false'. Refute it at one input. -/
def bufferPushesWrong : ChangeSpec := { name := "bufferPushes", fn := fun _ => fun
  | [d] => { results := [.lit (.bool false)], args := [d] }
  | _ => none }
def BufferPushesWrongFalsely : Prop := bufferPushesRow.holds Try.pinned (OpenSpec.ofChange bufferPushesWrong)

/-- 'quadrillelaw14.BufferMemory': WHATEVER THE INPUT: true; the input reads as it did. -/
def bufferMemorySpec : ChangeSpec := { name := "bufferMemory", fn := fun _ => fun
  | [d1, d2, d3, d4] => { results := [.lit (.bool true)], args := [d1, d2, d3, d4] }
  | _ => none }
def bufferMemoryRow : OpenClaim := { program := "ytknjlmpjkkkilaa", sum := "daa7ab8c0c54a81179aadfad6cd42f36618d212df4e010d4f2eb15b8cf3bdc34", func := "quadrille/quadrillelaw14.BufferMemory", spec := "bufferMemory", unfollowed := true, recurses := true, apart := false }
def BufferMemorySaid : Prop := bufferMemoryRow.holds Try.pinned (OpenSpec.ofChange bufferMemorySpec)

/-- ITS FALSE NEIGHBOUR: 'it returns false'. Refute it at one input. -/
def bufferMemoryWrong : ChangeSpec := { name := "bufferMemory", fn := fun _ => fun
  | [d1, d2, d3, d4] => { results := [.lit (.bool false)], args := [d1, d2, d3, d4] }
  | _ => none }
def BufferMemoryWrongFalsely : Prop := bufferMemoryRow.holds Try.pinned (OpenSpec.ofChange bufferMemoryWrong)

/-- 'quadrillelaw14.BufferPlays': WHATEVER THE INPUT: true; the input reads as it did. -/
def bufferPlaysSpec : ChangeSpec := { name := "bufferPlays", fn := fun _ => fun
  | [d] => { results := [.lit (.bool true)], args := [d] }
  | _ => none }
def bufferPlaysRow : OpenClaim := { program := "ytknjlmpjkkkilaa", sum := "daa7ab8c0c54a81179aadfad6cd42f36618d212df4e010d4f2eb15b8cf3bdc34", func := "quadrille/quadrillelaw14.BufferPlays", spec := "bufferPlays", unfollowed := true, recurses := true, apart := false }
def BufferPlaysSaid : Prop := bufferPlaysRow.holds Try.pinned (OpenSpec.ofChange bufferPlaysSpec)

/-- ITS FALSE NEIGHBOUR: 'it returns false'. Refute it at one input. -/
def bufferPlaysWrong : ChangeSpec := { name := "bufferPlays", fn := fun _ => fun
  | [d] => { results := [.lit (.bool false)], args := [d] }
  | _ => none }
def BufferPlaysWrongFalsely : Prop := bufferPlaysRow.holds Try.pinned (OpenSpec.ofChange bufferPlaysWrong)

/-- 'quadrillelaw14.BufferCopies': WHATEVER THE INPUT: true; the input reads as it did. -/
def bufferCopiesSpec : ChangeSpec := { name := "bufferCopies", fn := fun _ => fun
  | [d1, d2] => { results := [.lit (.bool true)], args := [d1, d2] }
  | _ => none }
def bufferCopiesRow : OpenClaim := { program := "ytknjlmpjkkkilaa", sum := "daa7ab8c0c54a81179aadfad6cd42f36618d212df4e010d4f2eb15b8cf3bdc34", func := "quadrille/quadrillelaw14.BufferCopies", spec := "bufferCopies", unfollowed := true, recurses := true, apart := false }
def BufferCopiesSaid : Prop := bufferCopiesRow.holds Try.pinned (OpenSpec.ofChange bufferCopiesSpec)

/-- ITS FALSE NEIGHBOUR: 'it returns false'. Refute it at one input. -/
def bufferCopiesWrong : ChangeSpec := { name := "bufferCopies", fn := fun _ => fun
  | [d1, d2] => { results := [.lit (.bool false)], args := [d1, d2] }
  | _ => none }
def BufferCopiesWrongFalsely : Prop := bufferCopiesRow.holds Try.pinned (OpenSpec.ofChange bufferCopiesWrong)

/- THE SECOND FORM. 'bulk': how many values and letters a reading holds, each counted each time it is reached (what is shared counts as often as it is met; a slice's spare places count too). A statement '..UptoSaid' is the law's where the arguments, and the package variables that the reading takes, are together of bulk at most 1048576: NARROWER than '..Said'. Prove '..Said' where nothing that the law and all that it calls make is longer than what came in: it says more and counts as full. Else prove '..UptoSaid'. A law counts once. -/
mutual
def uptoBulk {H : Type} : DataW H → Nat
  | .lit (.string bytes) => bytes.length + 1
  | .lit _ => 1
  | .nil => 1
  | .ptr d => uptoBulk d + 1
  | .slice elems spare => uptoBulkAll elems + uptoBulkAll spare + 1
  | .agg parts => uptoBulkAll parts + 1
  | .iface _ d => uptoBulk d + 1
  | .map entries => uptoBulkEntries entries + 1
  | .held _ => 1
def uptoBulkAll {H : Type} : List (DataW H) → Nat
  | [] => 0
  | d :: r => uptoBulk d + uptoBulkAll r
def uptoBulkEntries {H : Type} : List (Lit × DataW H) → Nat
  | [] => 0
  | x :: r => uptoBulkEntry x + uptoBulkEntries r
def uptoBulkEntry {H : Type} : Lit × DataW H → Nat
  | (.string bytes, d) => bytes.length + uptoBulk d + 1
  | (_, d) => uptoBulk d + 1
 end
def uptoSmall : (H : Type) → List (DataW H) → Bool := fun _ ds => decide (uptoBulkAll ds ≤ 1048576)
def OpenSpec.upto (s : _root_.Go.ChangeSpec) : _root_.Go.OpenSpec := { _root_.Go.OpenSpec.ofChange s with cond := some uptoSmall }

/-- 'quadrillelaw14.BufferOne', WHERE WHAT IT READS IS OF BULK AT MOST 1048576: true; the input reads as it did. -/
def bufferOneUptoRow : OpenClaim := { program := "ytknjlmpjkkkilaa", sum := "daa7ab8c0c54a81179aadfad6cd42f36618d212df4e010d4f2eb15b8cf3bdc34", func := "quadrille/quadrillelaw14.BufferOne", spec := "bufferOne", unfollowed := true, recurses := true, apart := false, narrowed := true }
def BufferOneUptoSaid : Prop := bufferOneUptoRow.holds Try.pinned (OpenSpec.upto bufferOneSpec)

/-- 'quadrillelaw14.BufferForwards', WHERE WHAT IT READS IS OF BULK AT MOST 1048576: true; the input reads as it did. -/
def bufferForwardsUptoRow : OpenClaim := { program := "ytknjlmpjkkkilaa", sum := "daa7ab8c0c54a81179aadfad6cd42f36618d212df4e010d4f2eb15b8cf3bdc34", func := "quadrille/quadrillelaw14.BufferForwards", spec := "bufferForwards", unfollowed := true, recurses := true, apart := false, narrowed := true }
def BufferForwardsUptoSaid : Prop := bufferForwardsUptoRow.holds Try.pinned (OpenSpec.upto bufferForwardsSpec)

/-- 'quadrillelaw14.BufferPushes', WHERE WHAT IT READS IS OF BULK AT MOST 1048576: true; the input reads as it did. -/
def bufferPushesUptoRow : OpenClaim := { program := "ytknjlmpjkkkilaa", sum := "daa7ab8c0c54a81179aadfad6cd42f36618d212df4e010d4f2eb15b8cf3bdc34", func := "quadrille/quadrillelaw14.BufferPushes", spec := "bufferPushes", unfollowed := true, recurses := true, apart := false, narrowed := true }
def BufferPushesUptoSaid : Prop := bufferPushesUptoRow.holds Try.pinned (OpenSpec.upto bufferPushesSpec)

/-- 'quadrillelaw14.BufferMemory', WHERE WHAT IT READS IS OF BULK AT MOST 1048576: true; the input reads as it did. -/
def bufferMemoryUptoRow : OpenClaim := { program := "ytknjlmpjkkkilaa", sum := "daa7ab8c0c54a81179aadfad6cd42f36618d212df4e010d4f2eb15b8cf3bdc34", func := "quadrille/quadrillelaw14.BufferMemory", spec := "bufferMemory", unfollowed := true, recurses := true, apart := false, narrowed := true }
def BufferMemoryUptoSaid : Prop := bufferMemoryUptoRow.holds Try.pinned (OpenSpec.upto bufferMemorySpec)

/-- 'quadrillelaw14.BufferPlays', WHERE WHAT IT READS IS OF BULK AT MOST 1048576: true; the input reads as it did. -/
def bufferPlaysUptoRow : OpenClaim := { program := "ytknjlmpjkkkilaa", sum := "daa7ab8c0c54a81179aadfad6cd42f36618d212df4e010d4f2eb15b8cf3bdc34", func := "quadrille/quadrillelaw14.BufferPlays", spec := "bufferPlays", unfollowed := true, recurses := true, apart := false, narrowed := true }
def BufferPlaysUptoSaid : Prop := bufferPlaysUptoRow.holds Try.pinned (OpenSpec.upto bufferPlaysSpec)

/-- 'quadrillelaw14.BufferCopies', WHERE WHAT IT READS IS OF BULK AT MOST 1048576: true; the input reads as it did. -/
def bufferCopiesUptoRow : OpenClaim := { program := "ytknjlmpjkkkilaa", sum := "daa7ab8c0c54a81179aadfad6cd42f36618d212df4e010d4f2eb15b8cf3bdc34", func := "quadrille/quadrillelaw14.BufferCopies", spec := "bufferCopies", unfollowed := true, recurses := true, apart := false, narrowed := true }
def BufferCopiesUptoSaid : Prop := bufferCopiesUptoRow.holds Try.pinned (OpenSpec.upto bufferCopiesSpec)

end Rows
end Go.Proofs.Ytknjlmpjkkkilaa
