/-
  No cell of these rows narrows 'for every input' (looked for: loops, veiled, ifaces, maps, wideKeys, modest, calm, conditions, laid).
  DERIVED. THE GIVEN ROWS OF THIS SEAT. 7 by the template 'for every input the law returns true; each argument reads behind the call as it read before'; 0 by the template 'total and deterministic' (their statements: YtklokcndhkhdmaaTotals.lean).
  GIVEN WITH THE SEED: the statements are not yours to turn. If you find one false, say at which input.
  Laid BY PROGRAM, IN A SANDBOX (cutbox-rows.mjs): the forced cells as the released guide's own fill.sh prints them over the translation 951ed825d26a82fb… (all of the seat's roots in one cut). By AI agents, Wed Nov 11 2026. No macro, syntax, notation, axiom, sorry.
-/
import Derived.Test.YtklokcndhkhdmaaChecked
import GoSem.Claim
import GoSem.ClaimJoined
import GoSem.ClaimMapViews
import Derived.JoinedTies
import Derived.KernelRfl
namespace Go.Proofs.Ytklokcndhkhdmaa
/- THE CELL 'sum', in the pinned program and in every row, IS THE sha256 OF THE DUMP (.gsa) THAT YtklokcndhkhdmaaProg.lean LOADS. Nothing in Lean hashes anything: it is a label: what it is worth is what the hold of that sum in a sandbox is worth. -/
noncomputable def Try.pinned : Pinned := { name := "ytklokcndhkhdmaa", sum := "951ed825d26a82fb1f20d1c93edaff51251b988b93c8ed994b35a02a2471b49b", checked := Try.checked }
namespace Rows
def none {H : Type} : Left H := { results := [], args := [] }

/-- 'quadrillelaw11.NetChecks': WHATEVER THE INPUT: true; the input reads as it did. -/
def netChecksSpec : ChangeSpec := { name := "netChecks", fn := fun _ => fun
  | [d] => { results := [.lit (.bool true)], args := [d] }
  | _ => none }
def netChecksRow : OpenClaim := { program := "ytklokcndhkhdmaa", sum := "951ed825d26a82fb1f20d1c93edaff51251b988b93c8ed994b35a02a2471b49b", func := "quadrille/quadrillelaw11.NetChecks", spec := "netChecks", apart := false }
def NetChecksSaid : Prop := netChecksRow.holds Try.pinned (OpenSpec.ofChange netChecksSpec)

/-- ITS FALSE NEIGHBOUR: 'it returns false'. Refute it at one input. -/
def netChecksWrong : ChangeSpec := { name := "netChecks", fn := fun _ => fun
  | [d] => { results := [.lit (.bool false)], args := [d] }
  | _ => none }
def NetChecksWrongFalsely : Prop := netChecksRow.holds Try.pinned (OpenSpec.ofChange netChecksWrong)

/-- 'quadrillelaw11.NetAll': WHATEVER THE INPUT: true; the input reads as it did. -/
def netAllSpec : ChangeSpec := { name := "netAll", fn := fun _ => fun
  | [d1, d2] => { results := [.lit (.bool true)], args := [d1, d2] }
  | _ => none }
def netAllRow : OpenClaim := { program := "ytklokcndhkhdmaa", sum := "951ed825d26a82fb1f20d1c93edaff51251b988b93c8ed994b35a02a2471b49b", func := "quadrille/quadrillelaw11.NetAll", spec := "netAll", apart := false }
def NetAllSaid : Prop := netAllRow.holds Try.pinned (OpenSpec.ofChange netAllSpec)

/-- ITS FALSE NEIGHBOUR: 'it returns false'. Refute it at one input. -/
def netAllWrong : ChangeSpec := { name := "netAll", fn := fun _ => fun
  | [d1, d2] => { results := [.lit (.bool false)], args := [d1, d2] }
  | _ => none }
def NetAllWrongFalsely : Prop := netAllRow.holds Try.pinned (OpenSpec.ofChange netAllWrong)

/-- 'quadrillelaw11.NetPlays': WHATEVER THE INPUT: true; the input reads as it did. -/
def netPlaysSpec : ChangeSpec := { name := "netPlays", fn := fun _ => fun
  | [d1, d2] => { results := [.lit (.bool true)], args := [d1, d2] }
  | _ => none }
def netPlaysRow : OpenClaim := { program := "ytklokcndhkhdmaa", sum := "951ed825d26a82fb1f20d1c93edaff51251b988b93c8ed994b35a02a2471b49b", func := "quadrille/quadrillelaw11.NetPlays", spec := "netPlays", unfollowed := true, recurses := true, apart := false }
def NetPlaysSaid : Prop := netPlaysRow.holds Try.pinned (OpenSpec.ofChange netPlaysSpec)

/-- ITS FALSE NEIGHBOUR: 'it returns false'. Refute it at one input. -/
def netPlaysWrong : ChangeSpec := { name := "netPlays", fn := fun _ => fun
  | [d1, d2] => { results := [.lit (.bool false)], args := [d1, d2] }
  | _ => none }
def NetPlaysWrongFalsely : Prop := netPlaysRow.holds Try.pinned (OpenSpec.ofChange netPlaysWrong)

/-- 'quadrillelaw11.NetSends': WHATEVER THE INPUT: true; the input reads as it did. -/
def netSendsSpec : ChangeSpec := { name := "netSends", fn := fun _ => fun
  | [d1, d2] => { results := [.lit (.bool true)], args := [d1, d2] }
  | _ => none }
def netSendsRow : OpenClaim := { program := "ytklokcndhkhdmaa", sum := "951ed825d26a82fb1f20d1c93edaff51251b988b93c8ed994b35a02a2471b49b", func := "quadrille/quadrillelaw11.NetSends", spec := "netSends", unfollowed := true, recurses := true, apart := false }
def NetSendsSaid : Prop := netSendsRow.holds Try.pinned (OpenSpec.ofChange netSendsSpec)

/-- ITS FALSE NEIGHBOUR: 'it returns false'. Refute it at one input. -/
def netSendsWrong : ChangeSpec := { name := "netSends", fn := fun _ => fun
  | [d1, d2] => { results := [.lit (.bool false)], args := [d1, d2] }
  | _ => none }
def NetSendsWrongFalsely : Prop := netSendsRow.holds Try.pinned (OpenSpec.ofChange netSendsWrong)

/-- 'quadrillelaw11.NetDelivers': WHATEVER THE INPUT: true; the input reads as it did. -/
def netDeliversSpec : ChangeSpec := { name := "netDelivers", fn := fun _ => fun
  | [d1, d2] => { results := [.lit (.bool true)], args := [d1, d2] }
  | _ => none }
def netDeliversRow : OpenClaim := { program := "ytklokcndhkhdmaa", sum := "951ed825d26a82fb1f20d1c93edaff51251b988b93c8ed994b35a02a2471b49b", func := "quadrille/quadrillelaw11.NetDelivers", spec := "netDelivers", unfollowed := true, recurses := true, apart := false }
def NetDeliversSaid : Prop := netDeliversRow.holds Try.pinned (OpenSpec.ofChange netDeliversSpec)

/-- ITS FALSE NEIGHBOUR: 'it returns false'. Refute it at one input. -/
def netDeliversWrong : ChangeSpec := { name := "netDelivers", fn := fun _ => fun
  | [d1, d2] => { results := [.lit (.bool false)], args := [d1, d2] }
  | _ => none }
def NetDeliversWrongFalsely : Prop := netDeliversRow.holds Try.pinned (OpenSpec.ofChange netDeliversWrong)

/-- 'quadrillelaw11.NetMakes': WHATEVER THE INPUT: true; the input reads as it did. -/
def netMakesSpec : ChangeSpec := { name := "netMakes", fn := fun _ => fun
  | [d] => { results := [.lit (.bool true)], args := [d] }
  | _ => none }
def netMakesRow : OpenClaim := { program := "ytklokcndhkhdmaa", sum := "951ed825d26a82fb1f20d1c93edaff51251b988b93c8ed994b35a02a2471b49b", func := "quadrille/quadrillelaw11.NetMakes", spec := "netMakes", unfollowed := true, recurses := true, apart := false }
def NetMakesSaid : Prop := netMakesRow.holds Try.pinned (OpenSpec.ofChange netMakesSpec)

/-- ITS FALSE NEIGHBOUR: 'it returns false'. Refute it at one input. -/
def netMakesWrong : ChangeSpec := { name := "netMakes", fn := fun _ => fun
  | [d] => { results := [.lit (.bool false)], args := [d] }
  | _ => none }
def NetMakesWrongFalsely : Prop := netMakesRow.holds Try.pinned (OpenSpec.ofChange netMakesWrong)

/-- 'quadrillelaw11.NetCopies': WHATEVER THE INPUT: true; the input reads as it did. -/
def netCopiesSpec : ChangeSpec := { name := "netCopies", fn := fun _ => fun
  | [d1, d2, d3] => { results := [.lit (.bool true)], args := [d1, d2, d3] }
  | _ => none }
def netCopiesRow : OpenClaim := { program := "ytklokcndhkhdmaa", sum := "951ed825d26a82fb1f20d1c93edaff51251b988b93c8ed994b35a02a2471b49b", func := "quadrille/quadrillelaw11.NetCopies", spec := "netCopies", unfollowed := true, recurses := true, apart := false }
def NetCopiesSaid : Prop := netCopiesRow.holds Try.pinned (OpenSpec.ofChange netCopiesSpec)

/-- ITS FALSE NEIGHBOUR: 'it returns false'. Refute it at one input. -/
def netCopiesWrong : ChangeSpec := { name := "netCopies", fn := fun _ => fun
  | [d1, d2, d3] => { results := [.lit (.bool false)], args := [d1, d2, d3] }
  | _ => none }
def NetCopiesWrongFalsely : Prop := netCopiesRow.holds Try.pinned (OpenSpec.ofChange netCopiesWrong)

/- THE SECOND FORM. 'bulk': how many values and letters a reading holds, each counted each time it is reached (what is shared counts as often as it is met; a slice's spare places count too). A statement '..UptoSaid' is the law's where the arguments, and the package variables that the reading takes, are together of bulk at most 1048576: NARROWER than '..Said'. Prove '..Said' where nothing that the law and all that it calls make is longer than what came in: it says more and counts as full. Else prove '..UptoSaid'. A law counts once. -/
mutual
def uptoBulk {H : Type} : DataW H → Nat
  | .lit (.string bytes) => bytes.length + 1
  | .lit _ => 1
  | .nil => 1
  | .ptr d => uptoBulk d + 1
  | .slice elems spare => uptoBulkAll elems + uptoBulkAll spare + 1
  | .agg parts => uptoBulkAll parts + 1
  | .iface _ d => uptoBulk d + 1
  | .map entries => uptoBulkEntries entries + 1
  | .held _ => 1
def uptoBulkAll {H : Type} : List (DataW H) → Nat
  | [] => 0
  | d :: r => uptoBulk d + uptoBulkAll r
def uptoBulkEntries {H : Type} : List (Lit × DataW H) → Nat
  | [] => 0
  | x :: r => uptoBulkEntry x + uptoBulkEntries r
def uptoBulkEntry {H : Type} : Lit × DataW H → Nat
  | (.string bytes, d) => bytes.length + uptoBulk d + 1
  | (_, d) => uptoBulk d + 1
 end
def uptoSmall : (H : Type) → List (DataW H) → Bool := fun _ ds => decide (uptoBulkAll ds ≤ 1048576)
def OpenSpec.upto (s : _root_.Go.ChangeSpec) : _root_.Go.OpenSpec := { _root_.Go.OpenSpec.ofChange s with cond := some uptoSmall }

/-- 'quadrillelaw11.NetChecks', WHERE WHAT IT READS IS OF BULK AT MOST 1048576: true; the input reads as it did. -/
def netChecksUptoRow : OpenClaim := { program := "ytklokcndhkhdmaa", sum := "951ed825d26a82fb1f20d1c93edaff51251b988b93c8ed994b35a02a2471b49b", func := "quadrille/quadrillelaw11.NetChecks", spec := "netChecks", apart := false, narrowed := true }
def NetChecksUptoSaid : Prop := netChecksUptoRow.holds Try.pinned (OpenSpec.upto netChecksSpec)

/-- 'quadrillelaw11.NetAll', WHERE WHAT IT READS IS OF BULK AT MOST 1048576: true; the input reads as it did. -/
def netAllUptoRow : OpenClaim := { program := "ytklokcndhkhdmaa", sum := "951ed825d26a82fb1f20d1c93edaff51251b988b93c8ed994b35a02a2471b49b", func := "quadrille/quadrillelaw11.NetAll", spec := "netAll", apart := false, narrowed := true }
def NetAllUptoSaid : Prop := netAllUptoRow.holds Try.pinned (OpenSpec.upto netAllSpec)

/-- 'quadrillelaw11.NetPlays', WHERE WHAT IT READS IS OF BULK AT MOST 1048576: true; the input reads as it did. -/
def netPlaysUptoRow : OpenClaim := { program := "ytklokcndhkhdmaa", sum := "951ed825d26a82fb1f20d1c93edaff51251b988b93c8ed994b35a02a2471b49b", func := "quadrille/quadrillelaw11.NetPlays", spec := "netPlays", unfollowed := true, recurses := true, apart := false, narrowed := true }
def NetPlaysUptoSaid : Prop := netPlaysUptoRow.holds Try.pinned (OpenSpec.upto netPlaysSpec)

/-- 'quadrillelaw11.NetSends', WHERE WHAT IT READS IS OF BULK AT MOST 1048576: true; the input reads as it did. -/
def netSendsUptoRow : OpenClaim := { program := "ytklokcndhkhdmaa", sum := "951ed825d26a82fb1f20d1c93edaff51251b988b93c8ed994b35a02a2471b49b", func := "quadrille/quadrillelaw11.NetSends", spec := "netSends", unfollowed := true, recurses := true, apart := false, narrowed := true }
def NetSendsUptoSaid : Prop := netSendsUptoRow.holds Try.pinned (OpenSpec.upto netSendsSpec)

/-- 'quadrillelaw11.NetDelivers', WHERE WHAT IT READS IS OF BULK AT MOST 1048576: true; the input reads as it did. -/
def netDeliversUptoRow : OpenClaim := { program := "ytklokcndhkhdmaa", sum := "951ed825d26a82fb1f20d1c93edaff51251b988b93c8ed994b35a02a2471b49b", func := "quadrille/quadrillelaw11.NetDelivers", spec := "netDelivers", unfollowed := true, recurses := true, apart := false, narrowed := true }
def NetDeliversUptoSaid : Prop := netDeliversUptoRow.holds Try.pinned (OpenSpec.upto netDeliversSpec)

/-- 'quadrillelaw11.NetMakes', WHERE WHAT IT READS IS OF BULK AT MOST 1048576: true; the input reads as it did. -/
def netMakesUptoRow : OpenClaim := { program := "ytklokcndhkhdmaa", sum := "951ed825d26a82fb1f20d1c93edaff51251b988b93c8ed994b35a02a2471b49b", func := "quadrille/quadrillelaw11.NetMakes", spec := "netMakes", unfollowed := true, recurses := true, apart := false, narrowed := true }
def NetMakesUptoSaid : Prop := netMakesUptoRow.holds Try.pinned (OpenSpec.upto netMakesSpec)

/-- 'quadrillelaw11.NetCopies', WHERE WHAT IT READS IS OF BULK AT MOST 1048576: true; the input reads as it did. -/
def netCopiesUptoRow : OpenClaim := { program := "ytklokcndhkhdmaa", sum := "951ed825d26a82fb1f20d1c93edaff51251b988b93c8ed994b35a02a2471b49b", func := "quadrille/quadrillelaw11.NetCopies", spec := "netCopies", unfollowed := true, recurses := true, apart := false, narrowed := true }
def NetCopiesUptoSaid : Prop := netCopiesUptoRow.holds Try.pinned (OpenSpec.upto netCopiesSpec)

end Rows
end Go.Proofs.Ytklokcndhkhdmaa
