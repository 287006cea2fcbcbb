/-
  No cell of these rows narrows 'for every input' (looked for: loops, veiled, ifaces, maps, wideKeys, modest, calm, conditions, laid).
  DERIVED. THE GIVEN ROWS OF THIS SEAT. 5 by the template 'for every input the law returns true; each argument reads behind the call as it read before'; 0 by the template 'total and deterministic' (their statements: YtgjaennilkhejaaTotals.lean).
  GIVEN WITH THE SEED: the statements are not yours to turn. If you find one false, say at which input.
  Laid BY PROGRAM, IN A SANDBOX (cutbox-rows.mjs): the forced cells as the released guide's own fill.sh prints them over the translation 90fb380f20a23191… (all of the seat's roots in one cut). By AI agents, Wed Nov 11 2026. No macro, syntax, notation, axiom, sorry.
-/
import Derived.Test.YtgjaennilkhejaaChecked
import GoSem.Claim
import GoSem.ClaimJoined
import GoSem.ClaimMapViews
import Derived.JoinedTies
import Derived.KernelRfl
namespace Go.Proofs.Ytgjaennilkhejaa
/- THE CELL 'sum', in the pinned program and in every row, IS THE sha256 OF THE DUMP (.gsa) THAT YtgjaennilkhejaaProg.lean LOADS. Nothing in Lean hashes anything: it is a label: what it is worth is what the hold of that sum in a sandbox is worth. -/
noncomputable def Try.pinned : Pinned := { name := "ytgjaennilkhejaa", sum := "90fb380f20a23191ada63b15dbfbb5d4a85567fcadf4440acbc8b3e06a11d6ac", checked := Try.checked }
namespace Rows
def none {H : Type} : Left H := { results := [], args := [] }

/-- 'stithylaw11.WarmApart': WHATEVER THE INPUT: true; the input reads as it did. -/
def warmApartSpec : ChangeSpec := { name := "warmApart", fn := fun _ => fun
  | [d1, d2, d3, d4] => { results := [.lit (.bool true)], args := [d1, d2, d3, d4] }
  | _ => none }
def warmApartRow : OpenClaim := { program := "ytgjaennilkhejaa", sum := "90fb380f20a23191ada63b15dbfbb5d4a85567fcadf4440acbc8b3e06a11d6ac", func := "stithy/stithylaw11.WarmApart", spec := "warmApart", unfollowed := true, recurses := true, plainKeys := false, apart := false }
def WarmApartSaid : Prop := warmApartRow.holds Try.pinned (OpenSpec.ofChange warmApartSpec)

/-- ITS FALSE NEIGHBOUR: 'it returns false'. Refute it at one input. -/
def warmApartWrong : ChangeSpec := { name := "warmApart", fn := fun _ => fun
  | [d1, d2, d3, d4] => { results := [.lit (.bool false)], args := [d1, d2, d3, d4] }
  | _ => none }
def WarmApartWrongFalsely : Prop := warmApartRow.holds Try.pinned (OpenSpec.ofChange warmApartWrong)

/-- 'stithylaw11.WarmLogs': WHATEVER THE INPUT: true; the input reads as it did. -/
def warmLogsSpec : ChangeSpec := { name := "warmLogs", fn := fun _ => fun
  | [d] => { results := [.lit (.bool true)], args := [d] }
  | _ => none }
def warmLogsRow : OpenClaim := { program := "ytgjaennilkhejaa", sum := "90fb380f20a23191ada63b15dbfbb5d4a85567fcadf4440acbc8b3e06a11d6ac", func := "stithy/stithylaw11.WarmLogs", spec := "warmLogs", unfollowed := true, recurses := true, plainKeys := false, apart := false }
def WarmLogsSaid : Prop := warmLogsRow.holds Try.pinned (OpenSpec.ofChange warmLogsSpec)

/-- ITS FALSE NEIGHBOUR: 'it returns false'. Refute it at one input. -/
def warmLogsWrong : ChangeSpec := { name := "warmLogs", fn := fun _ => fun
  | [d] => { results := [.lit (.bool false)], args := [d] }
  | _ => none }
def WarmLogsWrongFalsely : Prop := warmLogsRow.holds Try.pinned (OpenSpec.ofChange warmLogsWrong)

/-- 'stithylaw11.WarmMarks': WHATEVER THE INPUT: true; the input reads as it did. -/
def warmMarksSpec : ChangeSpec := { name := "warmMarks", fn := fun _ => fun
  | [d] => { results := [.lit (.bool true)], args := [d] }
  | _ => none }
def warmMarksRow : OpenClaim := { program := "ytgjaennilkhejaa", sum := "90fb380f20a23191ada63b15dbfbb5d4a85567fcadf4440acbc8b3e06a11d6ac", func := "stithy/stithylaw11.WarmMarks", spec := "warmMarks", unfollowed := true, recurses := true, plainKeys := false, apart := false }
def WarmMarksSaid : Prop := warmMarksRow.holds Try.pinned (OpenSpec.ofChange warmMarksSpec)

/-- ITS FALSE NEIGHBOUR: 'it returns false'. Refute it at one input. -/
def warmMarksWrong : ChangeSpec := { name := "warmMarks", fn := fun _ => fun
  | [d] => { results := [.lit (.bool false)], args := [d] }
  | _ => none }
def WarmMarksWrongFalsely : Prop := warmMarksRow.holds Try.pinned (OpenSpec.ofChange warmMarksWrong)

/-- 'stithylaw11.WarmBack': WHATEVER THE INPUT: true; the input reads as it did. -/
def warmBackSpec : ChangeSpec := { name := "warmBack", fn := fun _ => fun
  | [d1, d2, d3, d4, d5, d6] => { results := [.lit (.bool true)], args := [d1, d2, d3, d4, d5, d6] }
  | _ => none }
def warmBackRow : OpenClaim := { program := "ytgjaennilkhejaa", sum := "90fb380f20a23191ada63b15dbfbb5d4a85567fcadf4440acbc8b3e06a11d6ac", func := "stithy/stithylaw11.WarmBack", spec := "warmBack", unfollowed := true, recurses := true, plainKeys := false, apart := false }
def WarmBackSaid : Prop := warmBackRow.holds Try.pinned (OpenSpec.ofChange warmBackSpec)

/-- ITS FALSE NEIGHBOUR: 'it returns false'. Refute it at one input. -/
def warmBackWrong : ChangeSpec := { name := "warmBack", fn := fun _ => fun
  | [d1, d2, d3, d4, d5, d6] => { results := [.lit (.bool false)], args := [d1, d2, d3, d4, d5, d6] }
  | _ => none }
def WarmBackWrongFalsely : Prop := warmBackRow.holds Try.pinned (OpenSpec.ofChange warmBackWrong)

/-- 'stithylaw11.WarmPlays': WHATEVER THE INPUT: true; the input reads as it did. -/
def warmPlaysSpec : ChangeSpec := { name := "warmPlays", fn := fun _ => fun
  | [d] => { results := [.lit (.bool true)], args := [d] }
  | _ => none }
def warmPlaysRow : OpenClaim := { program := "ytgjaennilkhejaa", sum := "90fb380f20a23191ada63b15dbfbb5d4a85567fcadf4440acbc8b3e06a11d6ac", func := "stithy/stithylaw11.WarmPlays", spec := "warmPlays", unfollowed := true, recurses := true, plainKeys := false, apart := false }
def WarmPlaysSaid : Prop := warmPlaysRow.holds Try.pinned (OpenSpec.ofChange warmPlaysSpec)

/-- ITS FALSE NEIGHBOUR: 'it returns false'. Refute it at one input. -/
def warmPlaysWrong : ChangeSpec := { name := "warmPlays", fn := fun _ => fun
  | [d] => { results := [.lit (.bool false)], args := [d] }
  | _ => none }
def WarmPlaysWrongFalsely : Prop := warmPlaysRow.holds Try.pinned (OpenSpec.ofChange warmPlaysWrong)

/- THE SECOND FORM. 'bulk': how many values and letters a reading holds, each counted each time it is reached (what is shared counts as often as it is met; a slice's spare places count too). A statement '..UptoSaid' is the law's where the arguments, and the package variables that the reading takes, are together of bulk at most 1048576: NARROWER than '..Said'. Prove '..Said' where nothing that the law and all that it calls make is longer than what came in: it says more and counts as full. Else prove '..UptoSaid'. A law counts once. -/
mutual
def uptoBulk {H : Type} : DataW H → Nat
  | .lit (.string bytes) => bytes.length + 1
  | .lit _ => 1
  | .nil => 1
  | .ptr d => uptoBulk d + 1
  | .slice elems spare => uptoBulkAll elems + uptoBulkAll spare + 1
  | .agg parts => uptoBulkAll parts + 1
  | .iface _ d => uptoBulk d + 1
  | .map entries => uptoBulkEntries entries + 1
  | .held _ => 1
def uptoBulkAll {H : Type} : List (DataW H) → Nat
  | [] => 0
  | d :: r => uptoBulk d + uptoBulkAll r
def uptoBulkEntries {H : Type} : List (Lit × DataW H) → Nat
  | [] => 0
  | x :: r => uptoBulkEntry x + uptoBulkEntries r
def uptoBulkEntry {H : Type} : Lit × DataW H → Nat
  | (.string bytes, d) => bytes.length + uptoBulk d + 1
  | (_, d) => uptoBulk d + 1
 end
def uptoSmall : (H : Type) → List (DataW H) → Bool := fun _ ds => decide (uptoBulkAll ds ≤ 1048576)
def OpenSpec.upto (s : _root_.Go.ChangeSpec) : _root_.Go.OpenSpec := { _root_.Go.OpenSpec.ofChange s with cond := some uptoSmall }

/-- 'stithylaw11.WarmApart', WHERE WHAT IT READS IS OF BULK AT MOST 1048576: true; the input reads as it did. -/
def warmApartUptoRow : OpenClaim := { program := "ytgjaennilkhejaa", sum := "90fb380f20a23191ada63b15dbfbb5d4a85567fcadf4440acbc8b3e06a11d6ac", func := "stithy/stithylaw11.WarmApart", spec := "warmApart", unfollowed := true, recurses := true, plainKeys := false, apart := false, narrowed := true }
def WarmApartUptoSaid : Prop := warmApartUptoRow.holds Try.pinned (OpenSpec.upto warmApartSpec)

/-- 'stithylaw11.WarmLogs', WHERE WHAT IT READS IS OF BULK AT MOST 1048576: true; the input reads as it did. -/
def warmLogsUptoRow : OpenClaim := { program := "ytgjaennilkhejaa", sum := "90fb380f20a23191ada63b15dbfbb5d4a85567fcadf4440acbc8b3e06a11d6ac", func := "stithy/stithylaw11.WarmLogs", spec := "warmLogs", unfollowed := true, recurses := true, plainKeys := false, apart := false, narrowed := true }
def WarmLogsUptoSaid : Prop := warmLogsUptoRow.holds Try.pinned (OpenSpec.upto warmLogsSpec)

/-- 'stithylaw11.WarmMarks', WHERE WHAT IT READS IS OF BULK AT MOST 1048576: true; the input reads as it did. -/
def warmMarksUptoRow : OpenClaim := { program := "ytgjaennilkhejaa", sum := "90fb380f20a23191ada63b15dbfbb5d4a85567fcadf4440acbc8b3e06a11d6ac", func := "stithy/stithylaw11.WarmMarks", spec := "warmMarks", unfollowed := true, recurses := true, plainKeys := false, apart := false, narrowed := true }
def WarmMarksUptoSaid : Prop := warmMarksUptoRow.holds Try.pinned (OpenSpec.upto warmMarksSpec)

/-- 'stithylaw11.WarmBack', WHERE WHAT IT READS IS OF BULK AT MOST 1048576: true; the input reads as it did. -/
def warmBackUptoRow : OpenClaim := { program := "ytgjaennilkhejaa", sum := "90fb380f20a23191ada63b15dbfbb5d4a85567fcadf4440acbc8b3e06a11d6ac", func := "stithy/stithylaw11.WarmBack", spec := "warmBack", unfollowed := true, recurses := true, plainKeys := false, apart := false, narrowed := true }
def WarmBackUptoSaid : Prop := warmBackUptoRow.holds Try.pinned (OpenSpec.upto warmBackSpec)

/-- 'stithylaw11.WarmPlays', WHERE WHAT IT READS IS OF BULK AT MOST 1048576: true; the input reads as it did. -/
def warmPlaysUptoRow : OpenClaim := { program := "ytgjaennilkhejaa", sum := "90fb380f20a23191ada63b15dbfbb5d4a85567fcadf4440acbc8b3e06a11d6ac", func := "stithy/stithylaw11.WarmPlays", spec := "warmPlays", unfollowed := true, recurses := true, plainKeys := false, apart := false, narrowed := true }
def WarmPlaysUptoSaid : Prop := warmPlaysUptoRow.holds Try.pinned (OpenSpec.upto warmPlaysSpec)

end Rows
end Go.Proofs.Ytgjaennilkhejaa
