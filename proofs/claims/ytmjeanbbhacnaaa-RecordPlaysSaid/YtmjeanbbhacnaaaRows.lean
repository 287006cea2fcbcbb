/-
  No cell of these rows narrows 'for every input' (looked for: loops, veiled, ifaces, maps, wideKeys, modest, calm, conditions, laid).
  DERIVED. THE GIVEN ROWS OF THIS SEAT. 12 by the template 'for every input the law returns true; each argument reads behind the call as it read before'; 0 by the template 'total and deterministic' (their statements: YtmjeanbbhacnaaaTotals.lean).
  GIVEN WITH THE SEED: the statements are not yours to turn. If you find one false, say at which input.
  Laid BY PROGRAM, IN A SANDBOX (cutbox-rows.mjs): the forced cells as the released guide's own fill.sh prints them over the translation 37416e0cb5e6c027… (all of the seat's roots in one cut). By AI agents, Wed Nov 11 2026. No macro, syntax, notation, axiom, sorry.
-/
import Derived.Test.YtmjeanbbhacnaaaChecked
import GoSem.Claim
import GoSem.ClaimJoined
import GoSem.ClaimMapViews
import Derived.JoinedTies
import Derived.KernelRfl
namespace Go.Proofs.Ytmjeanbbhacnaaa
/- THE CELL 'sum', in the pinned program and in every row, IS THE sha256 OF THE DUMP (.gsa) THAT YtmjeanbbhacnaaaProg.lean LOADS. Nothing in Lean hashes anything: it is a label: what it is worth is what the hold of that sum in a sandbox is worth. -/
noncomputable def Try.pinned : Pinned := { name := "ytmjeanbbhacnaaa", sum := "37416e0cb5e6c02780f9d170f67f265982828839702e37cfa46fb82592b5d599", checked := Try.checked }
namespace Rows
def none {H : Type} : Left H := { results := [], args := [] }

/-- 'stithylaw06.DiskApart': WHATEVER THE INPUT: true; the input reads as it did. -/
def diskApartSpec : ChangeSpec := { name := "diskApart", fn := fun _ => fun
  | [d1, d2, d3] => { results := [.lit (.bool true)], args := [d1, d2, d3] }
  | _ => none }
def diskApartRow : OpenClaim := { program := "ytmjeanbbhacnaaa", sum := "37416e0cb5e6c02780f9d170f67f265982828839702e37cfa46fb82592b5d599", func := "stithy/stithylaw06.DiskApart", spec := "diskApart", unfollowed := true, recurses := true, apart := false }
def DiskApartSaid : Prop := diskApartRow.holds Try.pinned (OpenSpec.ofChange diskApartSpec)

/-- ITS FALSE NEIGHBOUR: 'it returns false'. Refute it at one input. -/
def diskApartWrong : ChangeSpec := { name := "diskApart", fn := fun _ => fun
  | [d1, d2, d3] => { results := [.lit (.bool false)], args := [d1, d2, d3] }
  | _ => none }
def DiskApartWrongFalsely : Prop := diskApartRow.holds Try.pinned (OpenSpec.ofChange diskApartWrong)

/-- 'stithylaw07.RecordPlays': WHATEVER THE INPUT: true; the input reads as it did. -/
def recordPlaysSpec : ChangeSpec := { name := "recordPlays", fn := fun _ => fun
  | [d1, d2] => { results := [.lit (.bool true)], args := [d1, d2] }
  | _ => none }
def recordPlaysRow : OpenClaim := { program := "ytmjeanbbhacnaaa", sum := "37416e0cb5e6c02780f9d170f67f265982828839702e37cfa46fb82592b5d599", func := "stithy/stithylaw07.RecordPlays", spec := "recordPlays", unfollowed := true, recurses := true, apart := false }
def RecordPlaysSaid : Prop := recordPlaysRow.holds Try.pinned (OpenSpec.ofChange recordPlaysSpec)

/-- ITS FALSE NEIGHBOUR: 'it returns false'. Refute it at one input. -/
def recordPlaysWrong : ChangeSpec := { name := "recordPlays", fn := fun _ => fun
  | [d1, d2] => { results := [.lit (.bool false)], args := [d1, d2] }
  | _ => none }
def RecordPlaysWrongFalsely : Prop := recordPlaysRow.holds Try.pinned (OpenSpec.ofChange recordPlaysWrong)

/-- 'stithylaw07.RecordFrames': WHATEVER THE INPUT: true; the input reads as it did. -/
def recordFramesSpec : ChangeSpec := { name := "recordFrames", fn := fun _ => fun
  | [d1, d2, d3, d4, d5] => { results := [.lit (.bool true)], args := [d1, d2, d3, d4, d5] }
  | _ => none }
def recordFramesRow : OpenClaim := { program := "ytmjeanbbhacnaaa", sum := "37416e0cb5e6c02780f9d170f67f265982828839702e37cfa46fb82592b5d599", func := "stithy/stithylaw07.RecordFrames", spec := "recordFrames", apart := false }
def RecordFramesSaid : Prop := recordFramesRow.holds Try.pinned (OpenSpec.ofChange recordFramesSpec)

/-- ITS FALSE NEIGHBOUR: 'it returns false'. Refute it at one input. -/
def recordFramesWrong : ChangeSpec := { name := "recordFrames", fn := fun _ => fun
  | [d1, d2, d3, d4, d5] => { results := [.lit (.bool false)], args := [d1, d2, d3, d4, d5] }
  | _ => none }
def RecordFramesWrongFalsely : Prop := recordFramesRow.holds Try.pinned (OpenSpec.ofChange recordFramesWrong)

/-- 'stithylaw07.RecordBack': WHATEVER THE INPUT: true; the input reads as it did. -/
def recordBackSpec : ChangeSpec := { name := "recordBack", fn := fun _ => fun
  | [d1, d2] => { results := [.lit (.bool true)], args := [d1, d2] }
  | _ => none }
def recordBackRow : OpenClaim := { program := "ytmjeanbbhacnaaa", sum := "37416e0cb5e6c02780f9d170f67f265982828839702e37cfa46fb82592b5d599", func := "stithy/stithylaw07.RecordBack", spec := "recordBack", apart := false }
def RecordBackSaid : Prop := recordBackRow.holds Try.pinned (OpenSpec.ofChange recordBackSpec)

/-- ITS FALSE NEIGHBOUR: 'it returns false'. Refute it at one input. -/
def recordBackWrong : ChangeSpec := { name := "recordBack", fn := fun _ => fun
  | [d1, d2] => { results := [.lit (.bool false)], args := [d1, d2] }
  | _ => none }
def RecordBackWrongFalsely : Prop := recordBackRow.holds Try.pinned (OpenSpec.ofChange recordBackWrong)

/-- 'stithylaw06.DiskArms': WHATEVER THE INPUT: true; the input reads as it did. -/
def diskArmsSpec : ChangeSpec := { name := "diskArms", fn := fun _ => fun
  | [d] => { results := [.lit (.bool true)], args := [d] }
  | _ => none }
def diskArmsRow : OpenClaim := { program := "ytmjeanbbhacnaaa", sum := "37416e0cb5e6c02780f9d170f67f265982828839702e37cfa46fb82592b5d599", func := "stithy/stithylaw06.DiskArms", spec := "diskArms", unfollowed := true, recurses := true, apart := false }
def DiskArmsSaid : Prop := diskArmsRow.holds Try.pinned (OpenSpec.ofChange diskArmsSpec)

/-- ITS FALSE NEIGHBOUR: 'it returns false'. Refute it at one input. -/
def diskArmsWrong : ChangeSpec := { name := "diskArms", fn := fun _ => fun
  | [d] => { results := [.lit (.bool false)], args := [d] }
  | _ => none }
def DiskArmsWrongFalsely : Prop := diskArmsRow.holds Try.pinned (OpenSpec.ofChange diskArmsWrong)

/-- 'stithylaw06.DiskKeeps': WHATEVER THE INPUT: true; the input reads as it did. -/
def diskKeepsSpec : ChangeSpec := { name := "diskKeeps", fn := fun _ => fun
  | [d1, d2, d3, d4] => { results := [.lit (.bool true)], args := [d1, d2, d3, d4] }
  | _ => none }
def diskKeepsRow : OpenClaim := { program := "ytmjeanbbhacnaaa", sum := "37416e0cb5e6c02780f9d170f67f265982828839702e37cfa46fb82592b5d599", func := "stithy/stithylaw06.DiskKeeps", spec := "diskKeeps", unfollowed := true, recurses := true, apart := false }
def DiskKeepsSaid : Prop := diskKeepsRow.holds Try.pinned (OpenSpec.ofChange diskKeepsSpec)

/-- ITS FALSE NEIGHBOUR: 'it returns false'. Refute it at one input. -/
def diskKeepsWrong : ChangeSpec := { name := "diskKeeps", fn := fun _ => fun
  | [d1, d2, d3, d4] => { results := [.lit (.bool false)], args := [d1, d2, d3, d4] }
  | _ => none }
def DiskKeepsWrongFalsely : Prop := diskKeepsRow.holds Try.pinned (OpenSpec.ofChange diskKeepsWrong)

/-- 'stithylaw06.DiskRenames': WHATEVER THE INPUT: true; the input reads as it did. -/
def diskRenamesSpec : ChangeSpec := { name := "diskRenames", fn := fun _ => fun
  | [d1, d2] => { results := [.lit (.bool true)], args := [d1, d2] }
  | _ => none }
def diskRenamesRow : OpenClaim := { program := "ytmjeanbbhacnaaa", sum := "37416e0cb5e6c02780f9d170f67f265982828839702e37cfa46fb82592b5d599", func := "stithy/stithylaw06.DiskRenames", spec := "diskRenames", unfollowed := true, recurses := true, apart := false }
def DiskRenamesSaid : Prop := diskRenamesRow.holds Try.pinned (OpenSpec.ofChange diskRenamesSpec)

/-- ITS FALSE NEIGHBOUR: 'it returns false'. Refute it at one input. -/
def diskRenamesWrong : ChangeSpec := { name := "diskRenames", fn := fun _ => fun
  | [d1, d2] => { results := [.lit (.bool false)], args := [d1, d2] }
  | _ => none }
def DiskRenamesWrongFalsely : Prop := diskRenamesRow.holds Try.pinned (OpenSpec.ofChange diskRenamesWrong)

/-- 'stithylaw07.RecordMends': WHATEVER THE INPUT: true; the input reads as it did. -/
def recordMendsSpec : ChangeSpec := { name := "recordMends", fn := fun _ => fun
  | [d1, d2] => { results := [.lit (.bool true)], args := [d1, d2] }
  | _ => none }
def recordMendsRow : OpenClaim := { program := "ytmjeanbbhacnaaa", sum := "37416e0cb5e6c02780f9d170f67f265982828839702e37cfa46fb82592b5d599", func := "stithy/stithylaw07.RecordMends", spec := "recordMends", unfollowed := true, recurses := true, apart := false }
def RecordMendsSaid : Prop := recordMendsRow.holds Try.pinned (OpenSpec.ofChange recordMendsSpec)

/-- ITS FALSE NEIGHBOUR: 'it returns false'. Refute it at one input. -/
def recordMendsWrong : ChangeSpec := { name := "recordMends", fn := fun _ => fun
  | [d1, d2] => { results := [.lit (.bool false)], args := [d1, d2] }
  | _ => none }
def RecordMendsWrongFalsely : Prop := recordMendsRow.holds Try.pinned (OpenSpec.ofChange recordMendsWrong)

/-- 'stithylaw07.RecordTears': WHATEVER THE INPUT: true; the input reads as it did. -/
def recordTearsSpec : ChangeSpec := { name := "recordTears", fn := fun _ => fun
  | [d1, d2, d3] => { results := [.lit (.bool true)], args := [d1, d2, d3] }
  | _ => none }
def recordTearsRow : OpenClaim := { program := "ytmjeanbbhacnaaa", sum := "37416e0cb5e6c02780f9d170f67f265982828839702e37cfa46fb82592b5d599", func := "stithy/stithylaw07.RecordTears", spec := "recordTears", unfollowed := true, recurses := true, apart := false }
def RecordTearsSaid : Prop := recordTearsRow.holds Try.pinned (OpenSpec.ofChange recordTearsSpec)

/-- ITS FALSE NEIGHBOUR: 'it returns false'. Refute it at one input. -/
def recordTearsWrong : ChangeSpec := { name := "recordTears", fn := fun _ => fun
  | [d1, d2, d3] => { results := [.lit (.bool false)], args := [d1, d2, d3] }
  | _ => none }
def RecordTearsWrongFalsely : Prop := recordTearsRow.holds Try.pinned (OpenSpec.ofChange recordTearsWrong)

/-- 'stithylaw07.RecordAdds': WHATEVER THE INPUT: true; the input reads as it did. -/
def recordAddsSpec : ChangeSpec := { name := "recordAdds", fn := fun _ => fun
  | [d] => { results := [.lit (.bool true)], args := [d] }
  | _ => none }
def recordAddsRow : OpenClaim := { program := "ytmjeanbbhacnaaa", sum := "37416e0cb5e6c02780f9d170f67f265982828839702e37cfa46fb82592b5d599", func := "stithy/stithylaw07.RecordAdds", spec := "recordAdds", unfollowed := true, recurses := true, apart := false }
def RecordAddsSaid : Prop := recordAddsRow.holds Try.pinned (OpenSpec.ofChange recordAddsSpec)

/-- ITS FALSE NEIGHBOUR: 'it returns false'. Refute it at one input. -/
def recordAddsWrong : ChangeSpec := { name := "recordAdds", fn := fun _ => fun
  | [d] => { results := [.lit (.bool false)], args := [d] }
  | _ => none }
def RecordAddsWrongFalsely : Prop := recordAddsRow.holds Try.pinned (OpenSpec.ofChange recordAddsWrong)

/-- 'stithylaw07.RecordReplaces': WHATEVER THE INPUT: true; the input reads as it did. -/
def recordReplacesSpec : ChangeSpec := { name := "recordReplaces", fn := fun _ => fun
  | [d1, d2, d3, d4, d5, d6] => { results := [.lit (.bool true)], args := [d1, d2, d3, d4, d5, d6] }
  | _ => none }
def recordReplacesRow : OpenClaim := { program := "ytmjeanbbhacnaaa", sum := "37416e0cb5e6c02780f9d170f67f265982828839702e37cfa46fb82592b5d599", func := "stithy/stithylaw07.RecordReplaces", spec := "recordReplaces", unfollowed := true, recurses := true, apart := false }
def RecordReplacesSaid : Prop := recordReplacesRow.holds Try.pinned (OpenSpec.ofChange recordReplacesSpec)

/-- ITS FALSE NEIGHBOUR: 'it returns false'. Refute it at one input. -/
def recordReplacesWrong : ChangeSpec := { name := "recordReplaces", fn := fun _ => fun
  | [d1, d2, d3, d4, d5, d6] => { results := [.lit (.bool false)], args := [d1, d2, d3, d4, d5, d6] }
  | _ => none }
def RecordReplacesWrongFalsely : Prop := recordReplacesRow.holds Try.pinned (OpenSpec.ofChange recordReplacesWrong)

/-- 'stithylaw06.DiskRoom': WHATEVER THE INPUT: true; the input reads as it did. -/
def diskRoomSpec : ChangeSpec := { name := "diskRoom", fn := fun _ => fun
  | [d1, d2, d3, d4] => { results := [.lit (.bool true)], args := [d1, d2, d3, d4] }
  | _ => none }
def diskRoomRow : OpenClaim := { program := "ytmjeanbbhacnaaa", sum := "37416e0cb5e6c02780f9d170f67f265982828839702e37cfa46fb82592b5d599", func := "stithy/stithylaw06.DiskRoom", spec := "diskRoom", unfollowed := true, recurses := true, apart := false }
def DiskRoomSaid : Prop := diskRoomRow.holds Try.pinned (OpenSpec.ofChange diskRoomSpec)

/-- ITS FALSE NEIGHBOUR: 'it returns false'. Refute it at one input. -/
def diskRoomWrong : ChangeSpec := { name := "diskRoom", fn := fun _ => fun
  | [d1, d2, d3, d4] => { results := [.lit (.bool false)], args := [d1, d2, d3, d4] }
  | _ => none }
def DiskRoomWrongFalsely : Prop := diskRoomRow.holds Try.pinned (OpenSpec.ofChange diskRoomWrong)

/- THE SECOND FORM. 'bulk': how many values and letters a reading holds, each counted each time it is reached (what is shared counts as often as it is met; a slice's spare places count too). A statement '..UptoSaid' is the law's where the arguments, and the package variables that the reading takes, are together of bulk at most 1048576: NARROWER than '..Said'. Prove '..Said' where nothing that the law and all that it calls make is longer than what came in: it says more and counts as full. Else prove '..UptoSaid'. A law counts once. -/
mutual
def uptoBulk {H : Type} : DataW H → Nat
  | .lit (.string bytes) => bytes.length + 1
  | .lit _ => 1
  | .nil => 1
  | .ptr d => uptoBulk d + 1
  | .slice elems spare => uptoBulkAll elems + uptoBulkAll spare + 1
  | .agg parts => uptoBulkAll parts + 1
  | .iface _ d => uptoBulk d + 1
  | .map entries => uptoBulkEntries entries + 1
  | .held _ => 1
def uptoBulkAll {H : Type} : List (DataW H) → Nat
  | [] => 0
  | d :: r => uptoBulk d + uptoBulkAll r
def uptoBulkEntries {H : Type} : List (Lit × DataW H) → Nat
  | [] => 0
  | x :: r => uptoBulkEntry x + uptoBulkEntries r
def uptoBulkEntry {H : Type} : Lit × DataW H → Nat
  | (.string bytes, d) => bytes.length + uptoBulk d + 1
  | (_, d) => uptoBulk d + 1
 end
def uptoSmall : (H : Type) → List (DataW H) → Bool := fun _ ds => decide (uptoBulkAll ds ≤ 1048576)
def OpenSpec.upto (s : _root_.Go.ChangeSpec) : _root_.Go.OpenSpec := { _root_.Go.OpenSpec.ofChange s with cond := some uptoSmall }

/-- 'stithylaw06.DiskApart', WHERE WHAT IT READS IS OF BULK AT MOST 1048576: true; the input reads as it did. -/
def diskApartUptoRow : OpenClaim := { program := "ytmjeanbbhacnaaa", sum := "37416e0cb5e6c02780f9d170f67f265982828839702e37cfa46fb82592b5d599", func := "stithy/stithylaw06.DiskApart", spec := "diskApart", unfollowed := true, recurses := true, apart := false, narrowed := true }
def DiskApartUptoSaid : Prop := diskApartUptoRow.holds Try.pinned (OpenSpec.upto diskApartSpec)

/-- 'stithylaw07.RecordPlays', WHERE WHAT IT READS IS OF BULK AT MOST 1048576: true; the input reads as it did. -/
def recordPlaysUptoRow : OpenClaim := { program := "ytmjeanbbhacnaaa", sum := "37416e0cb5e6c02780f9d170f67f265982828839702e37cfa46fb82592b5d599", func := "stithy/stithylaw07.RecordPlays", spec := "recordPlays", unfollowed := true, recurses := true, apart := false, narrowed := true }
def RecordPlaysUptoSaid : Prop := recordPlaysUptoRow.holds Try.pinned (OpenSpec.upto recordPlaysSpec)

/-- 'stithylaw07.RecordFrames', WHERE WHAT IT READS IS OF BULK AT MOST 1048576: true; the input reads as it did. -/
def recordFramesUptoRow : OpenClaim := { program := "ytmjeanbbhacnaaa", sum := "37416e0cb5e6c02780f9d170f67f265982828839702e37cfa46fb82592b5d599", func := "stithy/stithylaw07.RecordFrames", spec := "recordFrames", apart := false, narrowed := true }
def RecordFramesUptoSaid : Prop := recordFramesUptoRow.holds Try.pinned (OpenSpec.upto recordFramesSpec)

/-- 'stithylaw07.RecordBack', WHERE WHAT IT READS IS OF BULK AT MOST 1048576: true; the input reads as it did. -/
def recordBackUptoRow : OpenClaim := { program := "ytmjeanbbhacnaaa", sum := "37416e0cb5e6c02780f9d170f67f265982828839702e37cfa46fb82592b5d599", func := "stithy/stithylaw07.RecordBack", spec := "recordBack", apart := false, narrowed := true }
def RecordBackUptoSaid : Prop := recordBackUptoRow.holds Try.pinned (OpenSpec.upto recordBackSpec)

/-- 'stithylaw06.DiskArms', WHERE WHAT IT READS IS OF BULK AT MOST 1048576: true; the input reads as it did. -/
def diskArmsUptoRow : OpenClaim := { program := "ytmjeanbbhacnaaa", sum := "37416e0cb5e6c02780f9d170f67f265982828839702e37cfa46fb82592b5d599", func := "stithy/stithylaw06.DiskArms", spec := "diskArms", unfollowed := true, recurses := true, apart := false, narrowed := true }
def DiskArmsUptoSaid : Prop := diskArmsUptoRow.holds Try.pinned (OpenSpec.upto diskArmsSpec)

/-- 'stithylaw06.DiskKeeps', WHERE WHAT IT READS IS OF BULK AT MOST 1048576: true; the input reads as it did. -/
def diskKeepsUptoRow : OpenClaim := { program := "ytmjeanbbhacnaaa", sum := "37416e0cb5e6c02780f9d170f67f265982828839702e37cfa46fb82592b5d599", func := "stithy/stithylaw06.DiskKeeps", spec := "diskKeeps", unfollowed := true, recurses := true, apart := false, narrowed := true }
def DiskKeepsUptoSaid : Prop := diskKeepsUptoRow.holds Try.pinned (OpenSpec.upto diskKeepsSpec)

/-- 'stithylaw06.DiskRenames', WHERE WHAT IT READS IS OF BULK AT MOST 1048576: true; the input reads as it did. -/
def diskRenamesUptoRow : OpenClaim := { program := "ytmjeanbbhacnaaa", sum := "37416e0cb5e6c02780f9d170f67f265982828839702e37cfa46fb82592b5d599", func := "stithy/stithylaw06.DiskRenames", spec := "diskRenames", unfollowed := true, recurses := true, apart := false, narrowed := true }
def DiskRenamesUptoSaid : Prop := diskRenamesUptoRow.holds Try.pinned (OpenSpec.upto diskRenamesSpec)

/-- 'stithylaw07.RecordMends', WHERE WHAT IT READS IS OF BULK AT MOST 1048576: true; the input reads as it did. -/
def recordMendsUptoRow : OpenClaim := { program := "ytmjeanbbhacnaaa", sum := "37416e0cb5e6c02780f9d170f67f265982828839702e37cfa46fb82592b5d599", func := "stithy/stithylaw07.RecordMends", spec := "recordMends", unfollowed := true, recurses := true, apart := false, narrowed := true }
def RecordMendsUptoSaid : Prop := recordMendsUptoRow.holds Try.pinned (OpenSpec.upto recordMendsSpec)

/-- 'stithylaw07.RecordTears', WHERE WHAT IT READS IS OF BULK AT MOST 1048576: true; the input reads as it did. -/
def recordTearsUptoRow : OpenClaim := { program := "ytmjeanbbhacnaaa", sum := "37416e0cb5e6c02780f9d170f67f265982828839702e37cfa46fb82592b5d599", func := "stithy/stithylaw07.RecordTears", spec := "recordTears", unfollowed := true, recurses := true, apart := false, narrowed := true }
def RecordTearsUptoSaid : Prop := recordTearsUptoRow.holds Try.pinned (OpenSpec.upto recordTearsSpec)

/-- 'stithylaw07.RecordAdds', WHERE WHAT IT READS IS OF BULK AT MOST 1048576: true; the input reads as it did. -/
def recordAddsUptoRow : OpenClaim := { program := "ytmjeanbbhacnaaa", sum := "37416e0cb5e6c02780f9d170f67f265982828839702e37cfa46fb82592b5d599", func := "stithy/stithylaw07.RecordAdds", spec := "recordAdds", unfollowed := true, recurses := true, apart := false, narrowed := true }
def RecordAddsUptoSaid : Prop := recordAddsUptoRow.holds Try.pinned (OpenSpec.upto recordAddsSpec)

/-- 'stithylaw07.RecordReplaces', WHERE WHAT IT READS IS OF BULK AT MOST 1048576: true; the input reads as it did. -/
def recordReplacesUptoRow : OpenClaim := { program := "ytmjeanbbhacnaaa", sum := "37416e0cb5e6c02780f9d170f67f265982828839702e37cfa46fb82592b5d599", func := "stithy/stithylaw07.RecordReplaces", spec := "recordReplaces", unfollowed := true, recurses := true, apart := false, narrowed := true }
def RecordReplacesUptoSaid : Prop := recordReplacesUptoRow.holds Try.pinned (OpenSpec.upto recordReplacesSpec)

/-- 'stithylaw06.DiskRoom', WHERE WHAT IT READS IS OF BULK AT MOST 1048576: true; the input reads as it did. -/
def diskRoomUptoRow : OpenClaim := { program := "ytmjeanbbhacnaaa", sum := "37416e0cb5e6c02780f9d170f67f265982828839702e37cfa46fb82592b5d599", func := "stithy/stithylaw06.DiskRoom", spec := "diskRoom", unfollowed := true, recurses := true, apart := false, narrowed := true }
def DiskRoomUptoSaid : Prop := diskRoomUptoRow.holds Try.pinned (OpenSpec.upto diskRoomSpec)

end Rows
end Go.Proofs.Ytmjeanbbhacnaaa
