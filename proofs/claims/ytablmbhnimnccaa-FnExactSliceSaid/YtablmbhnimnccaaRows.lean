/-
  NARROWER THAN 'FOR EVERY INPUT', by the rows' own cells (each row's printed sentence says how): FnExactSlice: loops · FnExactPieces: loops · FnExactAgain: loops.
  DERIVED. THE GIVEN ROWS OF THIS SEAT. 8 by the template 'for every input the law returns true; each argument reads behind the call as it read before'; 0 by the template 'total and deterministic' (their statements: YtablmbhnimnccaaTotals.lean).
  GIVEN WITH THE SEED: the statements are not yours to turn. If you find one false, say at which input.
  Laid BY PROGRAM, IN A SANDBOX (cutbox-rows.mjs): the forced cells as the released guide's own fill.sh prints them over the translation 9185ac91f9a3a52d… (all of the seat's roots in one cut). By AI agents, Wed Nov 11 2026. No macro, syntax, notation, axiom, sorry.
-/
import Derived.Test.YtablmbhnimnccaaChecked
import GoSem.Claim
import GoSem.ClaimJoined
import GoSem.ClaimMapViews
import Derived.JoinedTies
import Derived.KernelRfl
namespace Go.Proofs.Ytablmbhnimnccaa
/- THE CELL 'sum', in the pinned program and in every row, IS THE sha256 OF THE DUMP (.gsa) THAT YtablmbhnimnccaaProg.lean LOADS. Nothing in Lean hashes anything: it is a label: what it is worth is what the hold of that sum in a sandbox is worth. -/
noncomputable def Try.pinned : Pinned := { name := "ytablmbhnimnccaa", sum := "9185ac91f9a3a52d377aab63bc778ab2c4f508b9b042c3d993a5285b9885acec", checked := Try.checked }
namespace Rows
def none {H : Type} : Left H := { results := [], args := [] }

/-- 'laws.FnExactSlice': WHATEVER THE INPUT: true; the input reads as it did. -/
def fnExactSliceSpec : ChangeSpec := { name := "fnExactSlice", fn := fun _ => fun
  | [d1, d2, d3, d4] => { results := [.lit (.bool true)], args := [d1, d2, d3, d4] }
  | _ => none }
def fnExactSliceRow : OpenClaim := { program := "ytablmbhnimnccaa", sum := "9185ac91f9a3a52d377aab63bc778ab2c4f508b9b042c3d993a5285b9885acec", func := "loop.example/g00125/laws.FnExactSlice", spec := "fnExactSlice", inPlace := ["internal/abi.NoEscape"], recurses := true, loops := true, apart := false }
def FnExactSliceSaid : Prop := fnExactSliceRow.holds Try.pinned (OpenSpec.ofChange fnExactSliceSpec)

/-- ITS FALSE NEIGHBOUR: 'it returns false'. Refute it at one input. -/
def fnExactSliceWrong : ChangeSpec := { name := "fnExactSlice", fn := fun _ => fun
  | [d1, d2, d3, d4] => { results := [.lit (.bool false)], args := [d1, d2, d3, d4] }
  | _ => none }
def FnExactSliceWrongFalsely : Prop := fnExactSliceRow.holds Try.pinned (OpenSpec.ofChange fnExactSliceWrong)

/-- 'laws.FnExactPieces': WHATEVER THE INPUT: true; the input reads as it did. -/
def fnExactPiecesSpec : ChangeSpec := { name := "fnExactPieces", fn := fun _ => fun
  | [d] => { results := [.lit (.bool true)], args := [d] }
  | _ => none }
def fnExactPiecesRow : OpenClaim := { program := "ytablmbhnimnccaa", sum := "9185ac91f9a3a52d377aab63bc778ab2c4f508b9b042c3d993a5285b9885acec", func := "loop.example/g00125/laws.FnExactPieces", spec := "fnExactPieces", recurses := true, loops := true, apart := false }
def FnExactPiecesSaid : Prop := fnExactPiecesRow.holds Try.pinned (OpenSpec.ofChange fnExactPiecesSpec)

/-- ITS FALSE NEIGHBOUR: 'it returns false'. Refute it at one input. -/
def fnExactPiecesWrong : ChangeSpec := { name := "fnExactPieces", fn := fun _ => fun
  | [d] => { results := [.lit (.bool false)], args := [d] }
  | _ => none }
def FnExactPiecesWrongFalsely : Prop := fnExactPiecesRow.holds Try.pinned (OpenSpec.ofChange fnExactPiecesWrong)

/-- 'laws.FnExactAgain': WHATEVER THE INPUT: true; the input reads as it did. -/
def fnExactAgainSpec : ChangeSpec := { name := "fnExactAgain", fn := fun _ => fun
  | [d] => { results := [.lit (.bool true)], args := [d] }
  | _ => none }
def fnExactAgainRow : OpenClaim := { program := "ytablmbhnimnccaa", sum := "9185ac91f9a3a52d377aab63bc778ab2c4f508b9b042c3d993a5285b9885acec", func := "loop.example/g00125/laws.FnExactAgain", spec := "fnExactAgain", unfollowed := true, recurses := true, loops := true, apart := false }
def FnExactAgainSaid : Prop := fnExactAgainRow.holds Try.pinned (OpenSpec.ofChange fnExactAgainSpec)

/-- ITS FALSE NEIGHBOUR: 'it returns false'. Refute it at one input. -/
def fnExactAgainWrong : ChangeSpec := { name := "fnExactAgain", fn := fun _ => fun
  | [d] => { results := [.lit (.bool false)], args := [d] }
  | _ => none }
def FnExactAgainWrongFalsely : Prop := fnExactAgainRow.holds Try.pinned (OpenSpec.ofChange fnExactAgainWrong)

/-- 'laws.FnBytes': WHATEVER THE INPUT: true; the input reads as it did. -/
def fnBytesSpec : ChangeSpec := { name := "fnBytes", fn := fun _ => fun
  | [d] => { results := [.lit (.bool true)], args := [d] }
  | _ => none }
def fnBytesRow : OpenClaim := { program := "ytablmbhnimnccaa", sum := "9185ac91f9a3a52d377aab63bc778ab2c4f508b9b042c3d993a5285b9885acec", func := "loop.example/g00125/laws.FnBytes", spec := "fnBytes", unfollowed := true, recurses := true, apart := false }
def FnBytesSaid : Prop := fnBytesRow.holds Try.pinned (OpenSpec.ofChange fnBytesSpec)

/-- ITS FALSE NEIGHBOUR: 'it returns false'. Refute it at one input. -/
def fnBytesWrong : ChangeSpec := { name := "fnBytes", fn := fun _ => fun
  | [d] => { results := [.lit (.bool false)], args := [d] }
  | _ => none }
def FnBytesWrongFalsely : Prop := fnBytesRow.holds Try.pinned (OpenSpec.ofChange fnBytesWrong)

/-- 'laws.FnBricks': WHATEVER THE INPUT: true; the input reads as it did. -/
def fnBricksSpec : ChangeSpec := { name := "fnBricks", fn := fun _ => fun
  | [d] => { results := [.lit (.bool true)], args := [d] }
  | _ => none }
def fnBricksRow : OpenClaim := { program := "ytablmbhnimnccaa", sum := "9185ac91f9a3a52d377aab63bc778ab2c4f508b9b042c3d993a5285b9885acec", func := "loop.example/g00125/laws.FnBricks", spec := "fnBricks", recurses := true, apart := false }
def FnBricksSaid : Prop := fnBricksRow.holds Try.pinned (OpenSpec.ofChange fnBricksSpec)

/-- ITS FALSE NEIGHBOUR: 'it returns false'. Refute it at one input. -/
def fnBricksWrong : ChangeSpec := { name := "fnBricks", fn := fun _ => fun
  | [d] => { results := [.lit (.bool false)], args := [d] }
  | _ => none }
def FnBricksWrongFalsely : Prop := fnBricksRow.holds Try.pinned (OpenSpec.ofChange fnBricksWrong)

/-- 'laws.FnNot': WHATEVER THE INPUT: true; the input reads as it did. -/
def fnNotSpec : ChangeSpec := { name := "fnNot", fn := fun _ => fun
  | [d] => { results := [.lit (.bool true)], args := [d] }
  | _ => none }
def fnNotRow : OpenClaim := { program := "ytablmbhnimnccaa", sum := "9185ac91f9a3a52d377aab63bc778ab2c4f508b9b042c3d993a5285b9885acec", func := "loop.example/g00125/laws.FnNot", spec := "fnNot", unfollowed := true, recurses := true, apart := false }
def FnNotSaid : Prop := fnNotRow.holds Try.pinned (OpenSpec.ofChange fnNotSpec)

/-- ITS FALSE NEIGHBOUR: 'it returns false'. Refute it at one input. -/
def fnNotWrong : ChangeSpec := { name := "fnNot", fn := fun _ => fun
  | [d] => { results := [.lit (.bool false)], args := [d] }
  | _ => none }
def FnNotWrongFalsely : Prop := fnNotRow.holds Try.pinned (OpenSpec.ofChange fnNotWrong)

/-- 'laws.FnConvex': WHATEVER THE INPUT: true; the input reads as it did. -/
def fnConvexSpec : ChangeSpec := { name := "fnConvex", fn := fun _ => fun
  | [d] => { results := [.lit (.bool true)], args := [d] }
  | _ => none }
def fnConvexRow : OpenClaim := { program := "ytablmbhnimnccaa", sum := "9185ac91f9a3a52d377aab63bc778ab2c4f508b9b042c3d993a5285b9885acec", func := "loop.example/g00125/laws.FnConvex", spec := "fnConvex", recurses := true, apart := false }
def FnConvexSaid : Prop := fnConvexRow.holds Try.pinned (OpenSpec.ofChange fnConvexSpec)

/-- ITS FALSE NEIGHBOUR: 'it returns false'. Refute it at one input. -/
def fnConvexWrong : ChangeSpec := { name := "fnConvex", fn := fun _ => fun
  | [d] => { results := [.lit (.bool false)], args := [d] }
  | _ => none }
def FnConvexWrongFalsely : Prop := fnConvexRow.holds Try.pinned (OpenSpec.ofChange fnConvexWrong)

/-- 'laws.FnExactFaceCount': WHATEVER THE INPUT: true; the input reads as it did. -/
def fnExactFaceCountSpec : ChangeSpec := { name := "fnExactFaceCount", fn := fun _ => fun
  | [d] => { results := [.lit (.bool true)], args := [d] }
  | _ => none }
def fnExactFaceCountRow : OpenClaim := { program := "ytablmbhnimnccaa", sum := "9185ac91f9a3a52d377aab63bc778ab2c4f508b9b042c3d993a5285b9885acec", func := "loop.example/g00125/laws.FnExactFaceCount", spec := "fnExactFaceCount", unfollowed := true, recurses := true, apart := false }
def FnExactFaceCountSaid : Prop := fnExactFaceCountRow.holds Try.pinned (OpenSpec.ofChange fnExactFaceCountSpec)

/-- ITS FALSE NEIGHBOUR: 'it returns false'. Refute it at one input. -/
def fnExactFaceCountWrong : ChangeSpec := { name := "fnExactFaceCount", fn := fun _ => fun
  | [d] => { results := [.lit (.bool false)], args := [d] }
  | _ => none }
def FnExactFaceCountWrongFalsely : Prop := fnExactFaceCountRow.holds Try.pinned (OpenSpec.ofChange fnExactFaceCountWrong)

/- THE SECOND FORM. 'bulk': how many values and letters a reading holds, each counted each time it is reached (what is shared counts as often as it is met; a slice's spare places count too). A statement '..UptoSaid' is the law's where the arguments, and the package variables that the reading takes, are together of bulk at most 1048576: NARROWER than '..Said'. Prove '..Said' where nothing that the law and all that it calls make is longer than what came in: it says more and counts as full. Else prove '..UptoSaid'. A law counts once. -/
mutual
def uptoBulk {H : Type} : DataW H → Nat
  | .lit (.string bytes) => bytes.length + 1
  | .lit _ => 1
  | .nil => 1
  | .ptr d => uptoBulk d + 1
  | .slice elems spare => uptoBulkAll elems + uptoBulkAll spare + 1
  | .agg parts => uptoBulkAll parts + 1
  | .iface _ d => uptoBulk d + 1
  | .map entries => uptoBulkEntries entries + 1
  | .held _ => 1
def uptoBulkAll {H : Type} : List (DataW H) → Nat
  | [] => 0
  | d :: r => uptoBulk d + uptoBulkAll r
def uptoBulkEntries {H : Type} : List (Lit × DataW H) → Nat
  | [] => 0
  | x :: r => uptoBulkEntry x + uptoBulkEntries r
def uptoBulkEntry {H : Type} : Lit × DataW H → Nat
  | (.string bytes, d) => bytes.length + uptoBulk d + 1
  | (_, d) => uptoBulk d + 1
 end
def uptoSmall : (H : Type) → List (DataW H) → Bool := fun _ ds => decide (uptoBulkAll ds ≤ 1048576)
def OpenSpec.upto (s : _root_.Go.ChangeSpec) : _root_.Go.OpenSpec := { _root_.Go.OpenSpec.ofChange s with cond := some uptoSmall }

/-- 'laws.FnExactSlice', WHERE WHAT IT READS IS OF BULK AT MOST 1048576: true; the input reads as it did. -/
def fnExactSliceUptoRow : OpenClaim := { program := "ytablmbhnimnccaa", sum := "9185ac91f9a3a52d377aab63bc778ab2c4f508b9b042c3d993a5285b9885acec", func := "loop.example/g00125/laws.FnExactSlice", spec := "fnExactSlice", inPlace := ["internal/abi.NoEscape"], recurses := true, loops := true, apart := false, narrowed := true }
def FnExactSliceUptoSaid : Prop := fnExactSliceUptoRow.holds Try.pinned (OpenSpec.upto fnExactSliceSpec)

/-- 'laws.FnExactPieces', WHERE WHAT IT READS IS OF BULK AT MOST 1048576: true; the input reads as it did. -/
def fnExactPiecesUptoRow : OpenClaim := { program := "ytablmbhnimnccaa", sum := "9185ac91f9a3a52d377aab63bc778ab2c4f508b9b042c3d993a5285b9885acec", func := "loop.example/g00125/laws.FnExactPieces", spec := "fnExactPieces", recurses := true, loops := true, apart := false, narrowed := true }
def FnExactPiecesUptoSaid : Prop := fnExactPiecesUptoRow.holds Try.pinned (OpenSpec.upto fnExactPiecesSpec)

/-- 'laws.FnExactAgain', WHERE WHAT IT READS IS OF BULK AT MOST 1048576: true; the input reads as it did. -/
def fnExactAgainUptoRow : OpenClaim := { program := "ytablmbhnimnccaa", sum := "9185ac91f9a3a52d377aab63bc778ab2c4f508b9b042c3d993a5285b9885acec", func := "loop.example/g00125/laws.FnExactAgain", spec := "fnExactAgain", unfollowed := true, recurses := true, loops := true, apart := false, narrowed := true }
def FnExactAgainUptoSaid : Prop := fnExactAgainUptoRow.holds Try.pinned (OpenSpec.upto fnExactAgainSpec)

/-- 'laws.FnBytes', WHERE WHAT IT READS IS OF BULK AT MOST 1048576: true; the input reads as it did. -/
def fnBytesUptoRow : OpenClaim := { program := "ytablmbhnimnccaa", sum := "9185ac91f9a3a52d377aab63bc778ab2c4f508b9b042c3d993a5285b9885acec", func := "loop.example/g00125/laws.FnBytes", spec := "fnBytes", unfollowed := true, recurses := true, apart := false, narrowed := true }
def FnBytesUptoSaid : Prop := fnBytesUptoRow.holds Try.pinned (OpenSpec.upto fnBytesSpec)

/-- 'laws.FnBricks', WHERE WHAT IT READS IS OF BULK AT MOST 1048576: true; the input reads as it did. -/
def fnBricksUptoRow : OpenClaim := { program := "ytablmbhnimnccaa", sum := "9185ac91f9a3a52d377aab63bc778ab2c4f508b9b042c3d993a5285b9885acec", func := "loop.example/g00125/laws.FnBricks", spec := "fnBricks", recurses := true, apart := false, narrowed := true }
def FnBricksUptoSaid : Prop := fnBricksUptoRow.holds Try.pinned (OpenSpec.upto fnBricksSpec)

/-- 'laws.FnNot', WHERE WHAT IT READS IS OF BULK AT MOST 1048576: true; the input reads as it did. -/
def fnNotUptoRow : OpenClaim := { program := "ytablmbhnimnccaa", sum := "9185ac91f9a3a52d377aab63bc778ab2c4f508b9b042c3d993a5285b9885acec", func := "loop.example/g00125/laws.FnNot", spec := "fnNot", unfollowed := true, recurses := true, apart := false, narrowed := true }
def FnNotUptoSaid : Prop := fnNotUptoRow.holds Try.pinned (OpenSpec.upto fnNotSpec)

/-- 'laws.FnConvex', WHERE WHAT IT READS IS OF BULK AT MOST 1048576: true; the input reads as it did. -/
def fnConvexUptoRow : OpenClaim := { program := "ytablmbhnimnccaa", sum := "9185ac91f9a3a52d377aab63bc778ab2c4f508b9b042c3d993a5285b9885acec", func := "loop.example/g00125/laws.FnConvex", spec := "fnConvex", recurses := true, apart := false, narrowed := true }
def FnConvexUptoSaid : Prop := fnConvexUptoRow.holds Try.pinned (OpenSpec.upto fnConvexSpec)

/-- 'laws.FnExactFaceCount', WHERE WHAT IT READS IS OF BULK AT MOST 1048576: true; the input reads as it did. -/
def fnExactFaceCountUptoRow : OpenClaim := { program := "ytablmbhnimnccaa", sum := "9185ac91f9a3a52d377aab63bc778ab2c4f508b9b042c3d993a5285b9885acec", func := "loop.example/g00125/laws.FnExactFaceCount", spec := "fnExactFaceCount", unfollowed := true, recurses := true, apart := false, narrowed := true }
def FnExactFaceCountUptoSaid : Prop := fnExactFaceCountUptoRow.holds Try.pinned (OpenSpec.upto fnExactFaceCountSpec)

end Rows
end Go.Proofs.Ytablmbhnimnccaa
