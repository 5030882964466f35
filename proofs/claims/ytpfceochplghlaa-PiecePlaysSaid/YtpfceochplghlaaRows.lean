/-
  No cell of these rows narrows 'for every input' (looked for: loops, veiled, ifaces, maps, wideKeys, modest, calm, conditions, laid).
  DERIVED. THE GIVEN ROWS OF THIS SEAT. 6 by the template 'for every input the law returns true; each argument reads behind the call as it read before'; 0 by the template 'total and deterministic' (their statements: YtpfceochplghlaaTotals.lean).
  GIVEN WITH THE SEED: the statements are not yours to turn. If you find one false, say at which input.
  Laid BY PROGRAM, IN A SANDBOX (cutbox-rows.mjs): the forced cells as the released guide's own fill.sh prints them over the translation 56354447f1577028… (all of the seat's roots in one cut). By AI agents, Wed Nov 11 2026. No macro, syntax, notation, axiom, sorry.
-/
import Derived.Test.YtpfceochplghlaaChecked
import GoSem.Claim
import GoSem.ClaimJoined
import GoSem.ClaimMapViews
import Derived.JoinedTies
import Derived.KernelRfl
namespace Go.Proofs.Ytpfceochplghlaa
/- THE CELL 'sum', in the pinned program and in every row, IS THE sha256 OF THE DUMP (.gsa) THAT YtpfceochplghlaaProg.lean LOADS. Nothing in Lean hashes anything: it is a label: what it is worth is what the hold of that sum in a sandbox is worth. -/
noncomputable def Try.pinned : Pinned := { name := "ytpfceochplghlaa", sum := "56354447f1577028e76d5a1705a4915c29e15bb92b5b997be88ed70c21400bc5", checked := Try.checked }
namespace Rows
def none {H : Type} : Left H := { results := [], args := [] }

/-- 'standishlaw3.PieceRoom': WHATEVER THE INPUT: true; the input reads as it did. -/
def pieceRoomSpec : ChangeSpec := { name := "pieceRoom", fn := fun _ => fun
  | [d1, d2] => { results := [.lit (.bool true)], args := [d1, d2] }
  | _ => none }
def pieceRoomRow : OpenClaim := { program := "ytpfceochplghlaa", sum := "56354447f1577028e76d5a1705a4915c29e15bb92b5b997be88ed70c21400bc5", func := "standish/standishlaw3.PieceRoom", spec := "pieceRoom", inPlace := ["slices.overlaps[standish/api.Piece]"], unfollowed := true, recurses := true, apart := false }
def PieceRoomSaid : Prop := pieceRoomRow.holds Try.pinned (OpenSpec.ofChange pieceRoomSpec)

/-- ITS FALSE NEIGHBOUR: 'it returns false'. Refute it at one input. -/
def pieceRoomWrong : ChangeSpec := { name := "pieceRoom", fn := fun _ => fun
  | [d1, d2] => { results := [.lit (.bool false)], args := [d1, d2] }
  | _ => none }
def PieceRoomWrongFalsely : Prop := pieceRoomRow.holds Try.pinned (OpenSpec.ofChange pieceRoomWrong)

/-- 'standishlaw3.PieceFits': WHATEVER THE INPUT: true; the input reads as it did. -/
def pieceFitsSpec : ChangeSpec := { name := "pieceFits", fn := fun _ => fun
  | [d1, d2] => { results := [.lit (.bool true)], args := [d1, d2] }
  | _ => none }
def pieceFitsRow : OpenClaim := { program := "ytpfceochplghlaa", sum := "56354447f1577028e76d5a1705a4915c29e15bb92b5b997be88ed70c21400bc5", func := "standish/standishlaw3.PieceFits", spec := "pieceFits", inPlace := ["slices.overlaps[standish/api.Piece]"], unfollowed := true, recurses := true, apart := false }
def PieceFitsSaid : Prop := pieceFitsRow.holds Try.pinned (OpenSpec.ofChange pieceFitsSpec)

/-- ITS FALSE NEIGHBOUR: 'it returns false'. Refute it at one input. -/
def pieceFitsWrong : ChangeSpec := { name := "pieceFits", fn := fun _ => fun
  | [d1, d2] => { results := [.lit (.bool false)], args := [d1, d2] }
  | _ => none }
def PieceFitsWrongFalsely : Prop := pieceFitsRow.holds Try.pinned (OpenSpec.ofChange pieceFitsWrong)

/-- 'standishlaw3.PieceList': WHATEVER THE INPUT: true; the input reads as it did. -/
def pieceListSpec : ChangeSpec := { name := "pieceList", fn := fun _ => fun
  | [d1, d2] => { results := [.lit (.bool true)], args := [d1, d2] }
  | _ => none }
def pieceListRow : OpenClaim := { program := "ytpfceochplghlaa", sum := "56354447f1577028e76d5a1705a4915c29e15bb92b5b997be88ed70c21400bc5", func := "standish/standishlaw3.PieceList", spec := "pieceList", inPlace := ["slices.overlaps[standish/api.Piece]"], unfollowed := true, recurses := true, apart := false }
def PieceListSaid : Prop := pieceListRow.holds Try.pinned (OpenSpec.ofChange pieceListSpec)

/-- ITS FALSE NEIGHBOUR: 'it returns false'. Refute it at one input. -/
def pieceListWrong : ChangeSpec := { name := "pieceList", fn := fun _ => fun
  | [d1, d2] => { results := [.lit (.bool false)], args := [d1, d2] }
  | _ => none }
def PieceListWrongFalsely : Prop := pieceListRow.holds Try.pinned (OpenSpec.ofChange pieceListWrong)

/-- 'standishlaw3.PieceWhole': WHATEVER THE INPUT: true; the input reads as it did. -/
def pieceWholeSpec : ChangeSpec := { name := "pieceWhole", fn := fun _ => fun
  | [d1, d2] => { results := [.lit (.bool true)], args := [d1, d2] }
  | _ => none }
def pieceWholeRow : OpenClaim := { program := "ytpfceochplghlaa", sum := "56354447f1577028e76d5a1705a4915c29e15bb92b5b997be88ed70c21400bc5", func := "standish/standishlaw3.PieceWhole", spec := "pieceWhole", inPlace := ["slices.overlaps[standish/api.Piece]"], unfollowed := true, recurses := true, apart := false }
def PieceWholeSaid : Prop := pieceWholeRow.holds Try.pinned (OpenSpec.ofChange pieceWholeSpec)

/-- ITS FALSE NEIGHBOUR: 'it returns false'. Refute it at one input. -/
def pieceWholeWrong : ChangeSpec := { name := "pieceWhole", fn := fun _ => fun
  | [d1, d2] => { results := [.lit (.bool false)], args := [d1, d2] }
  | _ => none }
def PieceWholeWrongFalsely : Prop := pieceWholeRow.holds Try.pinned (OpenSpec.ofChange pieceWholeWrong)

/-- 'standishlaw3.PieceTyped': WHATEVER THE INPUT: true; the input reads as it did. -/
def pieceTypedSpec : ChangeSpec := { name := "pieceTyped", fn := fun _ => fun
  | [d1, d2, d3] => { results := [.lit (.bool true)], args := [d1, d2, d3] }
  | _ => none }
def pieceTypedRow : OpenClaim := { program := "ytpfceochplghlaa", sum := "56354447f1577028e76d5a1705a4915c29e15bb92b5b997be88ed70c21400bc5", func := "standish/standishlaw3.PieceTyped", spec := "pieceTyped", inPlace := ["slices.overlaps[standish/api.Piece]"], unfollowed := true, recurses := true, apart := false }
def PieceTypedSaid : Prop := pieceTypedRow.holds Try.pinned (OpenSpec.ofChange pieceTypedSpec)

/-- ITS FALSE NEIGHBOUR: 'it returns false'. Refute it at one input. -/
def pieceTypedWrong : ChangeSpec := { name := "pieceTyped", fn := fun _ => fun
  | [d1, d2, d3] => { results := [.lit (.bool false)], args := [d1, d2, d3] }
  | _ => none }
def PieceTypedWrongFalsely : Prop := pieceTypedRow.holds Try.pinned (OpenSpec.ofChange pieceTypedWrong)

/-- 'standishlaw3.PiecePlays': WHATEVER THE INPUT: true; the input reads as it did. -/
def piecePlaysSpec : ChangeSpec := { name := "piecePlays", fn := fun _ => fun
  | [d1, d2] => { results := [.lit (.bool true)], args := [d1, d2] }
  | _ => none }
def piecePlaysRow : OpenClaim := { program := "ytpfceochplghlaa", sum := "56354447f1577028e76d5a1705a4915c29e15bb92b5b997be88ed70c21400bc5", func := "standish/standishlaw3.PiecePlays", spec := "piecePlays", inPlace := ["slices.overlaps[standish/api.Piece]"], unfollowed := true, recurses := true, apart := false }
def PiecePlaysSaid : Prop := piecePlaysRow.holds Try.pinned (OpenSpec.ofChange piecePlaysSpec)

/-- ITS FALSE NEIGHBOUR: 'it returns false'. Refute it at one input. -/
def piecePlaysWrong : ChangeSpec := { name := "piecePlays", fn := fun _ => fun
  | [d1, d2] => { results := [.lit (.bool false)], args := [d1, d2] }
  | _ => none }
def PiecePlaysWrongFalsely : Prop := piecePlaysRow.holds Try.pinned (OpenSpec.ofChange piecePlaysWrong)

/- THE SECOND FORM. 'bulk': how many values and letters a reading holds, each counted each time it is reached (what is shared counts as often as it is met; a slice's spare places count too). A statement '..UptoSaid' is the law's where the arguments, and the package variables that the reading takes, are together of bulk at most 1048576: NARROWER than '..Said'. Prove '..Said' where nothing that the law and all that it calls make is longer than what came in: it says more and counts as full. Else prove '..UptoSaid'. A law counts once. -/
mutual
def uptoBulk {H : Type} : DataW H → Nat
  | .lit (.string bytes) => bytes.length + 1
  | .lit _ => 1
  | .nil => 1
  | .ptr d => uptoBulk d + 1
  | .slice elems spare => uptoBulkAll elems + uptoBulkAll spare + 1
  | .agg parts => uptoBulkAll parts + 1
  | .iface _ d => uptoBulk d + 1
  | .map entries => uptoBulkEntries entries + 1
  | .held _ => 1
def uptoBulkAll {H : Type} : List (DataW H) → Nat
  | [] => 0
  | d :: r => uptoBulk d + uptoBulkAll r
def uptoBulkEntries {H : Type} : List (Lit × DataW H) → Nat
  | [] => 0
  | x :: r => uptoBulkEntry x + uptoBulkEntries r
def uptoBulkEntry {H : Type} : Lit × DataW H → Nat
  | (.string bytes, d) => bytes.length + uptoBulk d + 1
  | (_, d) => uptoBulk d + 1
 end
def uptoSmall : (H : Type) → List (DataW H) → Bool := fun _ ds => decide (uptoBulkAll ds ≤ 1048576)
def OpenSpec.upto (s : _root_.Go.ChangeSpec) : _root_.Go.OpenSpec := { _root_.Go.OpenSpec.ofChange s with cond := some uptoSmall }

/-- 'standishlaw3.PieceRoom', WHERE WHAT IT READS IS OF BULK AT MOST 1048576: true; the input reads as it did. -/
def pieceRoomUptoRow : OpenClaim := { program := "ytpfceochplghlaa", sum := "56354447f1577028e76d5a1705a4915c29e15bb92b5b997be88ed70c21400bc5", func := "standish/standishlaw3.PieceRoom", spec := "pieceRoom", inPlace := ["slices.overlaps[standish/api.Piece]"], unfollowed := true, recurses := true, apart := false, narrowed := true }
def PieceRoomUptoSaid : Prop := pieceRoomUptoRow.holds Try.pinned (OpenSpec.upto pieceRoomSpec)

/-- 'standishlaw3.PieceFits', WHERE WHAT IT READS IS OF BULK AT MOST 1048576: true; the input reads as it did. -/
def pieceFitsUptoRow : OpenClaim := { program := "ytpfceochplghlaa", sum := "56354447f1577028e76d5a1705a4915c29e15bb92b5b997be88ed70c21400bc5", func := "standish/standishlaw3.PieceFits", spec := "pieceFits", inPlace := ["slices.overlaps[standish/api.Piece]"], unfollowed := true, recurses := true, apart := false, narrowed := true }
def PieceFitsUptoSaid : Prop := pieceFitsUptoRow.holds Try.pinned (OpenSpec.upto pieceFitsSpec)

/-- 'standishlaw3.PieceList', WHERE WHAT IT READS IS OF BULK AT MOST 1048576: true; the input reads as it did. -/
def pieceListUptoRow : OpenClaim := { program := "ytpfceochplghlaa", sum := "56354447f1577028e76d5a1705a4915c29e15bb92b5b997be88ed70c21400bc5", func := "standish/standishlaw3.PieceList", spec := "pieceList", inPlace := ["slices.overlaps[standish/api.Piece]"], unfollowed := true, recurses := true, apart := false, narrowed := true }
def PieceListUptoSaid : Prop := pieceListUptoRow.holds Try.pinned (OpenSpec.upto pieceListSpec)

/-- 'standishlaw3.PieceWhole', WHERE WHAT IT READS IS OF BULK AT MOST 1048576: true; the input reads as it did. -/
def pieceWholeUptoRow : OpenClaim := { program := "ytpfceochplghlaa", sum := "56354447f1577028e76d5a1705a4915c29e15bb92b5b997be88ed70c21400bc5", func := "standish/standishlaw3.PieceWhole", spec := "pieceWhole", inPlace := ["slices.overlaps[standish/api.Piece]"], unfollowed := true, recurses := true, apart := false, narrowed := true }
def PieceWholeUptoSaid : Prop := pieceWholeUptoRow.holds Try.pinned (OpenSpec.upto pieceWholeSpec)

/-- 'standishlaw3.PieceTyped', WHERE WHAT IT READS IS OF BULK AT MOST 1048576: true; the input reads as it did. -/
def pieceTypedUptoRow : OpenClaim := { program := "ytpfceochplghlaa", sum := "56354447f1577028e76d5a1705a4915c29e15bb92b5b997be88ed70c21400bc5", func := "standish/standishlaw3.PieceTyped", spec := "pieceTyped", inPlace := ["slices.overlaps[standish/api.Piece]"], unfollowed := true, recurses := true, apart := false, narrowed := true }
def PieceTypedUptoSaid : Prop := pieceTypedUptoRow.holds Try.pinned (OpenSpec.upto pieceTypedSpec)

/-- 'standishlaw3.PiecePlays', WHERE WHAT IT READS IS OF BULK AT MOST 1048576: true; the input reads as it did. -/
def piecePlaysUptoRow : OpenClaim := { program := "ytpfceochplghlaa", sum := "56354447f1577028e76d5a1705a4915c29e15bb92b5b997be88ed70c21400bc5", func := "standish/standishlaw3.PiecePlays", spec := "piecePlays", inPlace := ["slices.overlaps[standish/api.Piece]"], unfollowed := true, recurses := true, apart := false, narrowed := true }
def PiecePlaysUptoSaid : Prop := piecePlaysUptoRow.holds Try.pinned (OpenSpec.upto piecePlaysSpec)

end Rows
end Go.Proofs.Ytpfceochplghlaa
