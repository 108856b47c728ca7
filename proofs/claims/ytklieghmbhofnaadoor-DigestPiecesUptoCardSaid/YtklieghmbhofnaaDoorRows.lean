/-
  NARROWER THAN 'FOR EVERY INPUT', by the rows' own cells (each row's printed sentence says how): DigestMores: laid · DigestChecks: laid · DigestPieces: laid · DigestTexts: laid · DigestMacs: laid · DigestBursts: laid · DigestLinear: laid · DigestCuts: laid · DigestKeyed: laid.
  DERIVED. THE GIVEN ROWS OF THIS SEAT. 9 by the template 'for every input the law returns true; each argument reads behind the call as it read before'; 0 by the template 'total and deterministic' (their statements: YtklieghmbhofnaaDoorTotals.lean).
  GIVEN WITH THE SEED: the statements are not yours to turn. If you find one false, say at which input.
  Laid BY PROGRAM, IN A SANDBOX (cutbox-rows.mjs): the forced cells as the released guide's own fill.sh prints them over the translation 5b07b31f37170dde… (all of the seat's roots in one cut). By AI agents, Wed Nov 11 2026. No macro, syntax, notation, axiom, sorry.
-/
import Derived.Test.YtklieghmbhofnaaDoorChecked
import GoSem.Claim
import GoSem.ClaimJoined
import GoSem.ClaimMapViews
import Derived.JoinedTies
import Derived.KernelRfl
namespace Go.Proofs.YtklieghmbhofnaaDoor
/- THE CELL 'sum', in the pinned program and in every row, IS THE sha256 OF THE DUMP (.gsa) THAT YtklieghmbhofnaaDoorProg.lean LOADS. Nothing in Lean hashes anything: it is a label: what it is worth is what the hold of that sum in a sandbox is worth. -/
noncomputable def Tryd.pinned : Pinned := { name := "ytklieghmbhofnaadoor", sum := "5b07b31f37170dde033d4bcc0ba8e0bf7943b8ec7d9902eaa78599cabe8cc938", checked := Tryd.checked }
namespace Rows
def none {H : Type} : Left H := { results := [], args := [] }

/- WHAT THE LISTED PACKAGE-LEVEL VARIABLES READ AS WHEN THE CALL BEGINS. Each datum BY PROGRAM (the guide's laid-datum.mjs) off the statement by which the dump's own 'gosem.cut.vars' lays the variable. In a bare row this is a premise. The card (YtklieghmbhofnaaDoorCards.lean) ties it to the program's text. -/
def laid_witness_digest_halves {H : Type} : DataW H := .agg [.lit (.int .u32 0), .lit (.int .u32 274646895), .lit (.int .u32 549293790), .lit (.int .u32 820201905), .lit (.int .u32 1098587580), .lit (.int .u32 1361435347), .lit (.int .u32 1640403810), .lit (.int .u32 1905808397), .lit (.int .u32 2197175160), .lit (.int .u32 2460548119), .lit (.int .u32 2722870694), .lit (.int .u32 2987750089), .lit (.int .u32 3280807620), .lit (.int .u32 3553878443), .lit (.int .u32 3811616794), .lit (.int .u32 4084100981)]
def laid_witness_digest_rounds {H : Type} : DataW H := .agg [.lit (.int .u32 1116352408), .lit (.int .u32 1899447441), .lit (.int .u32 3049323471), .lit (.int .u32 3921009573), .lit (.int .u32 961987163), .lit (.int .u32 1508970993), .lit (.int .u32 2453635748), .lit (.int .u32 2870763221), .lit (.int .u32 3624381080), .lit (.int .u32 310598401), .lit (.int .u32 607225278), .lit (.int .u32 1426881987), .lit (.int .u32 1925078388), .lit (.int .u32 2162078206), .lit (.int .u32 2614888103), .lit (.int .u32 3248222580), .lit (.int .u32 3835390401), .lit (.int .u32 4022224774), .lit (.int .u32 264347078), .lit (.int .u32 604807628), .lit (.int .u32 770255983), .lit (.int .u32 1249150122), .lit (.int .u32 1555081692), .lit (.int .u32 1996064986), .lit (.int .u32 2554220882), .lit (.int .u32 2821834349), .lit (.int .u32 2952996808), .lit (.int .u32 3210313671), .lit (.int .u32 3336571891), .lit (.int .u32 3584528711), .lit (.int .u32 113926993), .lit (.int .u32 338241895), .lit (.int .u32 666307205), .lit (.int .u32 773529912), .lit (.int .u32 1294757372), .lit (.int .u32 1396182291), .lit (.int .u32 1695183700), .lit (.int .u32 1986661051), .lit (.int .u32 2177026350), .lit (.int .u32 2456956037), .lit (.int .u32 2730485921), .lit (.int .u32 2820302411), .lit (.int .u32 3259730800), .lit (.int .u32 3345764771), .lit (.int .u32 3516065817), .lit (.int .u32 3600352804), .lit (.int .u32 4094571909), .lit (.int .u32 275423344), .lit (.int .u32 430227734), .lit (.int .u32 506948616), .lit (.int .u32 659060556), .lit (.int .u32 883997877), .lit (.int .u32 958139571), .lit (.int .u32 1322822218), .lit (.int .u32 1537002063), .lit (.int .u32 1747873779), .lit (.int .u32 1955562222), .lit (.int .u32 2024104815), .lit (.int .u32 2227730452), .lit (.int .u32 2361852424), .lit (.int .u32 2428436474), .lit (.int .u32 2756734187), .lit (.int .u32 3204031479), .lit (.int .u32 3329325298)]
def laid_witness_digest_first {H : Type} : DataW H := .agg [.lit (.int .u32 1779033703), .lit (.int .u32 3144134277), .lit (.int .u32 1013904242), .lit (.int .u32 2773480762), .lit (.int .u32 1359893119), .lit (.int .u32 2600822924), .lit (.int .u32 528734635), .lit (.int .u32 1541459225)]

/-- 'witnesslaw1.DigestMores': WHATEVER THE INPUT: true; the input reads as it did. -/
def digestMoresSpec : ChangeSpec := { name := "digestMores", fn := fun _ => fun
  | [d1, d2] => { results := [.lit (.bool true)], args := [d1, d2] }
  | _ => none }
def digestMoresRow : OpenClaim := { program := "ytklieghmbhofnaadoor", sum := "5b07b31f37170dde033d4bcc0ba8e0bf7943b8ec7d9902eaa78599cabe8cc938", func := "witness/witnesslaw1.DigestMores", spec := "digestMores", named := ["witness/digest.halves"], apart := false, laid := [("witness/digest.halves", laid_witness_digest_halves)] }
def DigestMoresSaid : Prop := digestMoresRow.holds Tryd.pinned (OpenSpec.ofChange digestMoresSpec)

/-- ITS FALSE NEIGHBOUR: 'it returns false'. Refute it at one input. -/
def digestMoresWrong : ChangeSpec := { name := "digestMores", fn := fun _ => fun
  | [d1, d2] => { results := [.lit (.bool false)], args := [d1, d2] }
  | _ => none }
def DigestMoresWrongFalsely : Prop := digestMoresRow.holds Tryd.pinned (OpenSpec.ofChange digestMoresWrong)

/-- 'witnesslaw1.DigestChecks': WHATEVER THE INPUT: true; the input reads as it did. -/
def digestChecksSpec : ChangeSpec := { name := "digestChecks", fn := fun _ => fun
  | [d] => { results := [.lit (.bool true)], args := [d] }
  | _ => none }
def digestChecksRow : OpenClaim := { program := "ytklieghmbhofnaadoor", sum := "5b07b31f37170dde033d4bcc0ba8e0bf7943b8ec7d9902eaa78599cabe8cc938", func := "witness/witnesslaw1.DigestChecks", spec := "digestChecks", named := ["witness/digest.halves"], apart := false, laid := [("witness/digest.halves", laid_witness_digest_halves)] }
def DigestChecksSaid : Prop := digestChecksRow.holds Tryd.pinned (OpenSpec.ofChange digestChecksSpec)

/-- ITS FALSE NEIGHBOUR: 'it returns false'. Refute it at one input. -/
def digestChecksWrong : ChangeSpec := { name := "digestChecks", fn := fun _ => fun
  | [d] => { results := [.lit (.bool false)], args := [d] }
  | _ => none }
def DigestChecksWrongFalsely : Prop := digestChecksRow.holds Tryd.pinned (OpenSpec.ofChange digestChecksWrong)

/-- 'witnesslaw1.DigestPieces': WHATEVER THE INPUT: true; the input reads as it did. -/
def digestPiecesSpec : ChangeSpec := { name := "digestPieces", fn := fun _ => fun
  | [d] => { results := [.lit (.bool true)], args := [d] }
  | _ => none }
def digestPiecesRow : OpenClaim := { program := "ytklieghmbhofnaadoor", sum := "5b07b31f37170dde033d4bcc0ba8e0bf7943b8ec7d9902eaa78599cabe8cc938", func := "witness/witnesslaw1.DigestPieces", spec := "digestPieces", named := ["witness/digest.first", "witness/digest.rounds"], apart := false, laid := [("witness/digest.rounds", laid_witness_digest_rounds), ("witness/digest.first", laid_witness_digest_first)] }
def DigestPiecesSaid : Prop := digestPiecesRow.holds Tryd.pinned (OpenSpec.ofChange digestPiecesSpec)

/-- ITS FALSE NEIGHBOUR: 'it returns false'. Refute it at one input. -/
def digestPiecesWrong : ChangeSpec := { name := "digestPieces", fn := fun _ => fun
  | [d] => { results := [.lit (.bool false)], args := [d] }
  | _ => none }
def DigestPiecesWrongFalsely : Prop := digestPiecesRow.holds Tryd.pinned (OpenSpec.ofChange digestPiecesWrong)

/-- 'witnesslaw1.DigestTexts': WHATEVER THE INPUT: true; the input reads as it did. -/
def digestTextsSpec : ChangeSpec := { name := "digestTexts", fn := fun _ => fun
  | [d] => { results := [.lit (.bool true)], args := [d] }
  | _ => none }
def digestTextsRow : OpenClaim := { program := "ytklieghmbhofnaadoor", sum := "5b07b31f37170dde033d4bcc0ba8e0bf7943b8ec7d9902eaa78599cabe8cc938", func := "witness/witnesslaw1.DigestTexts", spec := "digestTexts", named := ["witness/digest.first", "witness/digest.rounds"], apart := false, laid := [("witness/digest.rounds", laid_witness_digest_rounds), ("witness/digest.first", laid_witness_digest_first)] }
def DigestTextsSaid : Prop := digestTextsRow.holds Tryd.pinned (OpenSpec.ofChange digestTextsSpec)

/-- ITS FALSE NEIGHBOUR: 'it returns false'. Refute it at one input. -/
def digestTextsWrong : ChangeSpec := { name := "digestTexts", fn := fun _ => fun
  | [d] => { results := [.lit (.bool false)], args := [d] }
  | _ => none }
def DigestTextsWrongFalsely : Prop := digestTextsRow.holds Tryd.pinned (OpenSpec.ofChange digestTextsWrong)

/-- 'witnesslaw1.DigestMacs': WHATEVER THE INPUT: true; the input reads as it did. -/
def digestMacsSpec : ChangeSpec := { name := "digestMacs", fn := fun _ => fun
  | [d1, d2] => { results := [.lit (.bool true)], args := [d1, d2] }
  | _ => none }
def digestMacsRow : OpenClaim := { program := "ytklieghmbhofnaadoor", sum := "5b07b31f37170dde033d4bcc0ba8e0bf7943b8ec7d9902eaa78599cabe8cc938", func := "witness/witnesslaw1.DigestMacs", spec := "digestMacs", named := ["witness/digest.first", "witness/digest.rounds"], apart := false, laid := [("witness/digest.rounds", laid_witness_digest_rounds), ("witness/digest.first", laid_witness_digest_first)] }
def DigestMacsSaid : Prop := digestMacsRow.holds Tryd.pinned (OpenSpec.ofChange digestMacsSpec)

/-- ITS FALSE NEIGHBOUR: 'it returns false'. Refute it at one input. -/
def digestMacsWrong : ChangeSpec := { name := "digestMacs", fn := fun _ => fun
  | [d1, d2] => { results := [.lit (.bool false)], args := [d1, d2] }
  | _ => none }
def DigestMacsWrongFalsely : Prop := digestMacsRow.holds Tryd.pinned (OpenSpec.ofChange digestMacsWrong)

/-- 'witnesslaw1.DigestBursts': WHATEVER THE INPUT: true; the input reads as it did. -/
def digestBurstsSpec : ChangeSpec := { name := "digestBursts", fn := fun _ => fun
  | [d1, d2, d3] => { results := [.lit (.bool true)], args := [d1, d2, d3] }
  | _ => none }
def digestBurstsRow : OpenClaim := { program := "ytklieghmbhofnaadoor", sum := "5b07b31f37170dde033d4bcc0ba8e0bf7943b8ec7d9902eaa78599cabe8cc938", func := "witness/witnesslaw1.DigestBursts", spec := "digestBursts", inPlace := ["internal/abi.NoEscape"], named := ["witness/digest.first", "witness/digest.rounds", "witness/digest.halves"], apart := false, laid := [("witness/digest.rounds", laid_witness_digest_rounds), ("witness/digest.first", laid_witness_digest_first), ("witness/digest.halves", laid_witness_digest_halves)] }
def DigestBurstsSaid : Prop := digestBurstsRow.holds Tryd.pinned (OpenSpec.ofChange digestBurstsSpec)

/-- ITS FALSE NEIGHBOUR: 'it returns false'. Refute it at one input. -/
def digestBurstsWrong : ChangeSpec := { name := "digestBursts", fn := fun _ => fun
  | [d1, d2, d3] => { results := [.lit (.bool false)], args := [d1, d2, d3] }
  | _ => none }
def DigestBurstsWrongFalsely : Prop := digestBurstsRow.holds Tryd.pinned (OpenSpec.ofChange digestBurstsWrong)

/-- 'witnesslaw1.DigestLinear': WHATEVER THE INPUT: true; the input reads as it did. -/
def digestLinearSpec : ChangeSpec := { name := "digestLinear", fn := fun _ => fun
  | [d1, d2, d3] => { results := [.lit (.bool true)], args := [d1, d2, d3] }
  | _ => none }
def digestLinearRow : OpenClaim := { program := "ytklieghmbhofnaadoor", sum := "5b07b31f37170dde033d4bcc0ba8e0bf7943b8ec7d9902eaa78599cabe8cc938", func := "witness/witnesslaw1.DigestLinear", spec := "digestLinear", inPlace := ["internal/abi.NoEscape"], named := ["witness/digest.first", "witness/digest.rounds", "witness/digest.halves"], apart := false, laid := [("witness/digest.rounds", laid_witness_digest_rounds), ("witness/digest.first", laid_witness_digest_first), ("witness/digest.halves", laid_witness_digest_halves)] }
def DigestLinearSaid : Prop := digestLinearRow.holds Tryd.pinned (OpenSpec.ofChange digestLinearSpec)

/-- ITS FALSE NEIGHBOUR: 'it returns false'. Refute it at one input. -/
def digestLinearWrong : ChangeSpec := { name := "digestLinear", fn := fun _ => fun
  | [d1, d2, d3] => { results := [.lit (.bool false)], args := [d1, d2, d3] }
  | _ => none }
def DigestLinearWrongFalsely : Prop := digestLinearRow.holds Tryd.pinned (OpenSpec.ofChange digestLinearWrong)

/-- 'witnesslaw1.DigestCuts': WHATEVER THE INPUT: true; the input reads as it did. -/
def digestCutsSpec : ChangeSpec := { name := "digestCuts", fn := fun _ => fun
  | [d1, d2] => { results := [.lit (.bool true)], args := [d1, d2] }
  | _ => none }
def digestCutsRow : OpenClaim := { program := "ytklieghmbhofnaadoor", sum := "5b07b31f37170dde033d4bcc0ba8e0bf7943b8ec7d9902eaa78599cabe8cc938", func := "witness/witnesslaw1.DigestCuts", spec := "digestCuts", inPlace := ["internal/abi.NoEscape"], named := ["witness/digest.first", "witness/digest.rounds", "witness/digest.halves"], apart := false, laid := [("witness/digest.rounds", laid_witness_digest_rounds), ("witness/digest.first", laid_witness_digest_first), ("witness/digest.halves", laid_witness_digest_halves)] }
def DigestCutsSaid : Prop := digestCutsRow.holds Tryd.pinned (OpenSpec.ofChange digestCutsSpec)

/-- ITS FALSE NEIGHBOUR: 'it returns false'. Refute it at one input. -/
def digestCutsWrong : ChangeSpec := { name := "digestCuts", fn := fun _ => fun
  | [d1, d2] => { results := [.lit (.bool false)], args := [d1, d2] }
  | _ => none }
def DigestCutsWrongFalsely : Prop := digestCutsRow.holds Tryd.pinned (OpenSpec.ofChange digestCutsWrong)

/-- 'witnesslaw1.DigestKeyed': WHATEVER THE INPUT: true; the input reads as it did. -/
def digestKeyedSpec : ChangeSpec := { name := "digestKeyed", fn := fun _ => fun
  | [d1, d2, d3] => { results := [.lit (.bool true)], args := [d1, d2, d3] }
  | _ => none }
def digestKeyedRow : OpenClaim := { program := "ytklieghmbhofnaadoor", sum := "5b07b31f37170dde033d4bcc0ba8e0bf7943b8ec7d9902eaa78599cabe8cc938", func := "witness/witnesslaw1.DigestKeyed", spec := "digestKeyed", inPlace := ["internal/abi.NoEscape"], named := ["witness/digest.first", "witness/digest.rounds", "witness/digest.halves"], apart := false, laid := [("witness/digest.rounds", laid_witness_digest_rounds), ("witness/digest.first", laid_witness_digest_first), ("witness/digest.halves", laid_witness_digest_halves)] }
def DigestKeyedSaid : Prop := digestKeyedRow.holds Tryd.pinned (OpenSpec.ofChange digestKeyedSpec)

/-- ITS FALSE NEIGHBOUR: 'it returns false'. Refute it at one input. -/
def digestKeyedWrong : ChangeSpec := { name := "digestKeyed", fn := fun _ => fun
  | [d1, d2, d3] => { results := [.lit (.bool false)], args := [d1, d2, d3] }
  | _ => none }
def DigestKeyedWrongFalsely : Prop := digestKeyedRow.holds Tryd.pinned (OpenSpec.ofChange digestKeyedWrong)

/- THE SECOND FORM. 'bulk': how many values and letters a reading holds, each counted each time it is reached (what is shared counts as often as it is met; a slice's spare places count too). A statement '..UptoSaid' is the law's where the arguments, and the package variables that the reading takes, are together of bulk at most 1048576: NARROWER than '..Said'. Prove '..Said' where nothing that the law and all that it calls make is longer than what came in: it says more and counts as full. Else prove '..UptoSaid'. A law counts once. -/
mutual
def uptoBulk {H : Type} : DataW H → Nat
  | .lit (.string bytes) => bytes.length + 1
  | .lit _ => 1
  | .nil => 1
  | .ptr d => uptoBulk d + 1
  | .slice elems spare => uptoBulkAll elems + uptoBulkAll spare + 1
  | .agg parts => uptoBulkAll parts + 1
  | .iface _ d => uptoBulk d + 1
  | .map entries => uptoBulkEntries entries + 1
  | .held _ => 1
def uptoBulkAll {H : Type} : List (DataW H) → Nat
  | [] => 0
  | d :: r => uptoBulk d + uptoBulkAll r
def uptoBulkEntries {H : Type} : List (Lit × DataW H) → Nat
  | [] => 0
  | x :: r => uptoBulkEntry x + uptoBulkEntries r
def uptoBulkEntry {H : Type} : Lit × DataW H → Nat
  | (.string bytes, d) => bytes.length + uptoBulk d + 1
  | (_, d) => uptoBulk d + 1
 end
def uptoSmall : (H : Type) → List (DataW H) → Bool := fun _ ds => decide (uptoBulkAll ds ≤ 1048576)
def OpenSpec.upto (s : _root_.Go.ChangeSpec) : _root_.Go.OpenSpec := { _root_.Go.OpenSpec.ofChange s with cond := some uptoSmall }

/-- 'witnesslaw1.DigestMores', WHERE WHAT IT READS IS OF BULK AT MOST 1048576: true; the input reads as it did. -/
def digestMoresUptoRow : OpenClaim := { program := "ytklieghmbhofnaadoor", sum := "5b07b31f37170dde033d4bcc0ba8e0bf7943b8ec7d9902eaa78599cabe8cc938", func := "witness/witnesslaw1.DigestMores", spec := "digestMores", named := ["witness/digest.halves"], apart := false, laid := [("witness/digest.halves", laid_witness_digest_halves)], narrowed := true }
def DigestMoresUptoSaid : Prop := digestMoresUptoRow.holds Tryd.pinned (OpenSpec.upto digestMoresSpec)

/-- 'witnesslaw1.DigestChecks', WHERE WHAT IT READS IS OF BULK AT MOST 1048576: true; the input reads as it did. -/
def digestChecksUptoRow : OpenClaim := { program := "ytklieghmbhofnaadoor", sum := "5b07b31f37170dde033d4bcc0ba8e0bf7943b8ec7d9902eaa78599cabe8cc938", func := "witness/witnesslaw1.DigestChecks", spec := "digestChecks", named := ["witness/digest.halves"], apart := false, laid := [("witness/digest.halves", laid_witness_digest_halves)], narrowed := true }
def DigestChecksUptoSaid : Prop := digestChecksUptoRow.holds Tryd.pinned (OpenSpec.upto digestChecksSpec)

/-- 'witnesslaw1.DigestPieces', WHERE WHAT IT READS IS OF BULK AT MOST 1048576: true; the input reads as it did. -/
def digestPiecesUptoRow : OpenClaim := { program := "ytklieghmbhofnaadoor", sum := "5b07b31f37170dde033d4bcc0ba8e0bf7943b8ec7d9902eaa78599cabe8cc938", func := "witness/witnesslaw1.DigestPieces", spec := "digestPieces", named := ["witness/digest.first", "witness/digest.rounds"], apart := false, laid := [("witness/digest.rounds", laid_witness_digest_rounds), ("witness/digest.first", laid_witness_digest_first)], narrowed := true }
def DigestPiecesUptoSaid : Prop := digestPiecesUptoRow.holds Tryd.pinned (OpenSpec.upto digestPiecesSpec)

/-- 'witnesslaw1.DigestTexts', WHERE WHAT IT READS IS OF BULK AT MOST 1048576: true; the input reads as it did. -/
def digestTextsUptoRow : OpenClaim := { program := "ytklieghmbhofnaadoor", sum := "5b07b31f37170dde033d4bcc0ba8e0bf7943b8ec7d9902eaa78599cabe8cc938", func := "witness/witnesslaw1.DigestTexts", spec := "digestTexts", named := ["witness/digest.first", "witness/digest.rounds"], apart := false, laid := [("witness/digest.rounds", laid_witness_digest_rounds), ("witness/digest.first", laid_witness_digest_first)], narrowed := true }
def DigestTextsUptoSaid : Prop := digestTextsUptoRow.holds Tryd.pinned (OpenSpec.upto digestTextsSpec)

/-- 'witnesslaw1.DigestMacs', WHERE WHAT IT READS IS OF BULK AT MOST 1048576: true; the input reads as it did. -/
def digestMacsUptoRow : OpenClaim := { program := "ytklieghmbhofnaadoor", sum := "5b07b31f37170dde033d4bcc0ba8e0bf7943b8ec7d9902eaa78599cabe8cc938", func := "witness/witnesslaw1.DigestMacs", spec := "digestMacs", named := ["witness/digest.first", "witness/digest.rounds"], apart := false, laid := [("witness/digest.rounds", laid_witness_digest_rounds), ("witness/digest.first", laid_witness_digest_first)], narrowed := true }
def DigestMacsUptoSaid : Prop := digestMacsUptoRow.holds Tryd.pinned (OpenSpec.upto digestMacsSpec)

/-- 'witnesslaw1.DigestBursts', WHERE WHAT IT READS IS OF BULK AT MOST 1048576: true; the input reads as it did. -/
def digestBurstsUptoRow : OpenClaim := { program := "ytklieghmbhofnaadoor", sum := "5b07b31f37170dde033d4bcc0ba8e0bf7943b8ec7d9902eaa78599cabe8cc938", func := "witness/witnesslaw1.DigestBursts", spec := "digestBursts", inPlace := ["internal/abi.NoEscape"], named := ["witness/digest.first", "witness/digest.rounds", "witness/digest.halves"], apart := false, laid := [("witness/digest.rounds", laid_witness_digest_rounds), ("witness/digest.first", laid_witness_digest_first), ("witness/digest.halves", laid_witness_digest_halves)], narrowed := true }
def DigestBurstsUptoSaid : Prop := digestBurstsUptoRow.holds Tryd.pinned (OpenSpec.upto digestBurstsSpec)

/-- 'witnesslaw1.DigestLinear', WHERE WHAT IT READS IS OF BULK AT MOST 1048576: true; the input reads as it did. -/
def digestLinearUptoRow : OpenClaim := { program := "ytklieghmbhofnaadoor", sum := "5b07b31f37170dde033d4bcc0ba8e0bf7943b8ec7d9902eaa78599cabe8cc938", func := "witness/witnesslaw1.DigestLinear", spec := "digestLinear", inPlace := ["internal/abi.NoEscape"], named := ["witness/digest.first", "witness/digest.rounds", "witness/digest.halves"], apart := false, laid := [("witness/digest.rounds", laid_witness_digest_rounds), ("witness/digest.first", laid_witness_digest_first), ("witness/digest.halves", laid_witness_digest_halves)], narrowed := true }
def DigestLinearUptoSaid : Prop := digestLinearUptoRow.holds Tryd.pinned (OpenSpec.upto digestLinearSpec)

/-- 'witnesslaw1.DigestCuts', WHERE WHAT IT READS IS OF BULK AT MOST 1048576: true; the input reads as it did. -/
def digestCutsUptoRow : OpenClaim := { program := "ytklieghmbhofnaadoor", sum := "5b07b31f37170dde033d4bcc0ba8e0bf7943b8ec7d9902eaa78599cabe8cc938", func := "witness/witnesslaw1.DigestCuts", spec := "digestCuts", inPlace := ["internal/abi.NoEscape"], named := ["witness/digest.first", "witness/digest.rounds", "witness/digest.halves"], apart := false, laid := [("witness/digest.rounds", laid_witness_digest_rounds), ("witness/digest.first", laid_witness_digest_first), ("witness/digest.halves", laid_witness_digest_halves)], narrowed := true }
def DigestCutsUptoSaid : Prop := digestCutsUptoRow.holds Tryd.pinned (OpenSpec.upto digestCutsSpec)

/-- 'witnesslaw1.DigestKeyed', WHERE WHAT IT READS IS OF BULK AT MOST 1048576: true; the input reads as it did. -/
def digestKeyedUptoRow : OpenClaim := { program := "ytklieghmbhofnaadoor", sum := "5b07b31f37170dde033d4bcc0ba8e0bf7943b8ec7d9902eaa78599cabe8cc938", func := "witness/witnesslaw1.DigestKeyed", spec := "digestKeyed", inPlace := ["internal/abi.NoEscape"], named := ["witness/digest.first", "witness/digest.rounds", "witness/digest.halves"], apart := false, laid := [("witness/digest.rounds", laid_witness_digest_rounds), ("witness/digest.first", laid_witness_digest_first), ("witness/digest.halves", laid_witness_digest_halves)], narrowed := true }
def DigestKeyedUptoSaid : Prop := digestKeyedUptoRow.holds Tryd.pinned (OpenSpec.upto digestKeyedSpec)

end Rows
end Go.Proofs.YtklieghmbhofnaaDoor
