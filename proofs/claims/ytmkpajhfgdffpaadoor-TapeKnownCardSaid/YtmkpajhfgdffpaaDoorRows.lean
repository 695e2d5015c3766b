/-
  NARROWER THAN 'FOR EVERY INPUT', by the rows' own cells (each row's printed sentence says how): TapeParts: laid · TapeBlocks: laid · TapeDraws: laid · TapeCopies: laid · TapeSkips: laid · TapeKnown: laid.
  DERIVED. THE GIVEN ROWS OF THIS SEAT. 6 by the template 'for every input the law returns true; each argument reads behind the call as it read before'; 0 by the template 'total and deterministic' (their statements: YtmkpajhfgdffpaaDoorTotals.lean).
  GIVEN WITH THE SEED: the statements are not yours to turn. If you find one false, say at which input.
  Laid BY PROGRAM, IN A SANDBOX (cutbox-rows.mjs): the forced cells as the released guide's own fill.sh prints them over the translation b7b89779480a95cf… (all of the seat's roots in one cut). By AI agents, Wed Nov 11 2026. No macro, syntax, notation, axiom, sorry.
-/
import Derived.Test.YtmkpajhfgdffpaaDoorChecked
import GoSem.Claim
import GoSem.ClaimJoined
import GoSem.ClaimMapViews
import Derived.JoinedTies
import Derived.KernelRfl
namespace Go.Proofs.YtmkpajhfgdffpaaDoor
/- THE CELL 'sum', in the pinned program and in every row, IS THE sha256 OF THE DUMP (.gsa) THAT YtmkpajhfgdffpaaDoorProg.lean LOADS. Nothing in Lean hashes anything: it is a label: what it is worth is what the hold of that sum in a sandbox is worth. -/
noncomputable def Tryd.pinned : Pinned := { name := "ytmkpajhfgdffpaadoor", sum := "b7b89779480a95cf561b93b1542736e29cc85beb0cdf0d667dc3e36bec554d96", checked := Tryd.checked }
namespace Rows
def none {H : Type} : Left H := { results := [], args := [] }

/- WHAT THE LISTED PACKAGE-LEVEL VARIABLES READ AS WHEN THE CALL BEGINS. Each datum BY PROGRAM (the guide's laid-datum.mjs) off the statement by which the dump's own 'gosem.cut.vars' lays the variable. In a bare row this is a premise. The card (YtmkpajhfgdffpaaDoorCards.lean) ties it to the program's text. -/
def laid_sealchain_sha_round {H : Type} : DataW H := .agg [.lit (.int .u32 1116352408), .lit (.int .u32 1899447441), .lit (.int .u32 3049323471), .lit (.int .u32 3921009573), .lit (.int .u32 961987163), .lit (.int .u32 1508970993), .lit (.int .u32 2453635748), .lit (.int .u32 2870763221), .lit (.int .u32 3624381080), .lit (.int .u32 310598401), .lit (.int .u32 607225278), .lit (.int .u32 1426881987), .lit (.int .u32 1925078388), .lit (.int .u32 2162078206), .lit (.int .u32 2614888103), .lit (.int .u32 3248222580), .lit (.int .u32 3835390401), .lit (.int .u32 4022224774), .lit (.int .u32 264347078), .lit (.int .u32 604807628), .lit (.int .u32 770255983), .lit (.int .u32 1249150122), .lit (.int .u32 1555081692), .lit (.int .u32 1996064986), .lit (.int .u32 2554220882), .lit (.int .u32 2821834349), .lit (.int .u32 2952996808), .lit (.int .u32 3210313671), .lit (.int .u32 3336571891), .lit (.int .u32 3584528711), .lit (.int .u32 113926993), .lit (.int .u32 338241895), .lit (.int .u32 666307205), .lit (.int .u32 773529912), .lit (.int .u32 1294757372), .lit (.int .u32 1396182291), .lit (.int .u32 1695183700), .lit (.int .u32 1986661051), .lit (.int .u32 2177026350), .lit (.int .u32 2456956037), .lit (.int .u32 2730485921), .lit (.int .u32 2820302411), .lit (.int .u32 3259730800), .lit (.int .u32 3345764771), .lit (.int .u32 3516065817), .lit (.int .u32 3600352804), .lit (.int .u32 4094571909), .lit (.int .u32 275423344), .lit (.int .u32 430227734), .lit (.int .u32 506948616), .lit (.int .u32 659060556), .lit (.int .u32 883997877), .lit (.int .u32 958139571), .lit (.int .u32 1322822218), .lit (.int .u32 1537002063), .lit (.int .u32 1747873779), .lit (.int .u32 1955562222), .lit (.int .u32 2024104815), .lit (.int .u32 2227730452), .lit (.int .u32 2361852424), .lit (.int .u32 2428436474), .lit (.int .u32 2756734187), .lit (.int .u32 3204031479), .lit (.int .u32 3329325298)]
def laid_sealchain_sha_first {H : Type} : DataW H := .agg [.lit (.int .u32 1779033703), .lit (.int .u32 3144134277), .lit (.int .u32 1013904242), .lit (.int .u32 2773480762), .lit (.int .u32 1359893119), .lit (.int .u32 2600822924), .lit (.int .u32 528734635), .lit (.int .u32 1541459225)]

/-- 'sealchainlaw06.TapeParts': WHATEVER THE INPUT: true; the input reads as it did. -/
def tapePartsSpec : ChangeSpec := { name := "tapeParts", fn := fun _ => fun
  | [d1, d2] => { results := [.lit (.bool true)], args := [d1, d2] }
  | _ => none }
def tapePartsRow : OpenClaim := { program := "ytmkpajhfgdffpaadoor", sum := "b7b89779480a95cf561b93b1542736e29cc85beb0cdf0d667dc3e36bec554d96", func := "sealchain/sealchainlaw06.TapeParts", spec := "tapeParts", named := ["sealchain/sha.first", "sealchain/sha.round"], apart := false, laid := [("sealchain/sha.round", laid_sealchain_sha_round), ("sealchain/sha.first", laid_sealchain_sha_first)] }
def TapePartsSaid : Prop := tapePartsRow.holds Tryd.pinned (OpenSpec.ofChange tapePartsSpec)

/-- ITS FALSE NEIGHBOUR: 'it returns false'. Refute it at one input. -/
def tapePartsWrong : ChangeSpec := { name := "tapeParts", fn := fun _ => fun
  | [d1, d2] => { results := [.lit (.bool false)], args := [d1, d2] }
  | _ => none }
def TapePartsWrongFalsely : Prop := tapePartsRow.holds Tryd.pinned (OpenSpec.ofChange tapePartsWrong)

/-- 'sealchainlaw06.TapeBlocks': WHATEVER THE INPUT: true; the input reads as it did. -/
def tapeBlocksSpec : ChangeSpec := { name := "tapeBlocks", fn := fun _ => fun
  | [d1, d2] => { results := [.lit (.bool true)], args := [d1, d2] }
  | _ => none }
def tapeBlocksRow : OpenClaim := { program := "ytmkpajhfgdffpaadoor", sum := "b7b89779480a95cf561b93b1542736e29cc85beb0cdf0d667dc3e36bec554d96", func := "sealchain/sealchainlaw06.TapeBlocks", spec := "tapeBlocks", named := ["sealchain/sha.first", "sealchain/sha.round"], apart := false, laid := [("sealchain/sha.round", laid_sealchain_sha_round), ("sealchain/sha.first", laid_sealchain_sha_first)] }
def TapeBlocksSaid : Prop := tapeBlocksRow.holds Tryd.pinned (OpenSpec.ofChange tapeBlocksSpec)

/-- ITS FALSE NEIGHBOUR: 'it returns false'. Refute it at one input. -/
def tapeBlocksWrong : ChangeSpec := { name := "tapeBlocks", fn := fun _ => fun
  | [d1, d2] => { results := [.lit (.bool false)], args := [d1, d2] }
  | _ => none }
def TapeBlocksWrongFalsely : Prop := tapeBlocksRow.holds Tryd.pinned (OpenSpec.ofChange tapeBlocksWrong)

/-- 'sealchainlaw06.TapeDraws': WHATEVER THE INPUT: true; the input reads as it did. -/
def tapeDrawsSpec : ChangeSpec := { name := "tapeDraws", fn := fun _ => fun
  | [d1, d2] => { results := [.lit (.bool true)], args := [d1, d2] }
  | _ => none }
def tapeDrawsRow : OpenClaim := { program := "ytmkpajhfgdffpaadoor", sum := "b7b89779480a95cf561b93b1542736e29cc85beb0cdf0d667dc3e36bec554d96", func := "sealchain/sealchainlaw06.TapeDraws", spec := "tapeDraws", named := ["sealchain/sha.first", "sealchain/sha.round"], apart := false, laid := [("sealchain/sha.round", laid_sealchain_sha_round), ("sealchain/sha.first", laid_sealchain_sha_first)] }
def TapeDrawsSaid : Prop := tapeDrawsRow.holds Tryd.pinned (OpenSpec.ofChange tapeDrawsSpec)

/-- ITS FALSE NEIGHBOUR: 'it returns false'. Refute it at one input. -/
def tapeDrawsWrong : ChangeSpec := { name := "tapeDraws", fn := fun _ => fun
  | [d1, d2] => { results := [.lit (.bool false)], args := [d1, d2] }
  | _ => none }
def TapeDrawsWrongFalsely : Prop := tapeDrawsRow.holds Tryd.pinned (OpenSpec.ofChange tapeDrawsWrong)

/-- 'sealchainlaw06.TapeCopies': WHATEVER THE INPUT: true; the input reads as it did. -/
def tapeCopiesSpec : ChangeSpec := { name := "tapeCopies", fn := fun _ => fun
  | [d1, d2] => { results := [.lit (.bool true)], args := [d1, d2] }
  | _ => none }
def tapeCopiesRow : OpenClaim := { program := "ytmkpajhfgdffpaadoor", sum := "b7b89779480a95cf561b93b1542736e29cc85beb0cdf0d667dc3e36bec554d96", func := "sealchain/sealchainlaw06.TapeCopies", spec := "tapeCopies", named := ["sealchain/sha.first", "sealchain/sha.round"], apart := false, laid := [("sealchain/sha.round", laid_sealchain_sha_round), ("sealchain/sha.first", laid_sealchain_sha_first)] }
def TapeCopiesSaid : Prop := tapeCopiesRow.holds Tryd.pinned (OpenSpec.ofChange tapeCopiesSpec)

/-- ITS FALSE NEIGHBOUR: 'it returns false'. Refute it at one input. -/
def tapeCopiesWrong : ChangeSpec := { name := "tapeCopies", fn := fun _ => fun
  | [d1, d2] => { results := [.lit (.bool false)], args := [d1, d2] }
  | _ => none }
def TapeCopiesWrongFalsely : Prop := tapeCopiesRow.holds Tryd.pinned (OpenSpec.ofChange tapeCopiesWrong)

/-- 'sealchainlaw06.TapeSkips': WHATEVER THE INPUT: true; the input reads as it did. -/
def tapeSkipsSpec : ChangeSpec := { name := "tapeSkips", fn := fun _ => fun
  | [d1, d2] => { results := [.lit (.bool true)], args := [d1, d2] }
  | _ => none }
def tapeSkipsRow : OpenClaim := { program := "ytmkpajhfgdffpaadoor", sum := "b7b89779480a95cf561b93b1542736e29cc85beb0cdf0d667dc3e36bec554d96", func := "sealchain/sealchainlaw06.TapeSkips", spec := "tapeSkips", named := ["sealchain/sha.first", "sealchain/sha.round"], apart := false, laid := [("sealchain/sha.round", laid_sealchain_sha_round), ("sealchain/sha.first", laid_sealchain_sha_first)] }
def TapeSkipsSaid : Prop := tapeSkipsRow.holds Tryd.pinned (OpenSpec.ofChange tapeSkipsSpec)

/-- ITS FALSE NEIGHBOUR: 'it returns false'. Refute it at one input. -/
def tapeSkipsWrong : ChangeSpec := { name := "tapeSkips", fn := fun _ => fun
  | [d1, d2] => { results := [.lit (.bool false)], args := [d1, d2] }
  | _ => none }
def TapeSkipsWrongFalsely : Prop := tapeSkipsRow.holds Tryd.pinned (OpenSpec.ofChange tapeSkipsWrong)

/-- 'sealchainlaw06.TapeKnown': WHATEVER THE INPUT: true; the input reads as it did. -/
def tapeKnownSpec : ChangeSpec := { name := "tapeKnown", fn := fun _ => fun
  | [] => { results := [.lit (.bool true)], args := [] }
  | _ => none }
def tapeKnownRow : OpenClaim := { program := "ytmkpajhfgdffpaadoor", sum := "b7b89779480a95cf561b93b1542736e29cc85beb0cdf0d667dc3e36bec554d96", func := "sealchain/sealchainlaw06.TapeKnown", spec := "tapeKnown", named := ["sealchain/sha.first", "sealchain/sha.round"], apart := false, laid := [("sealchain/sha.round", laid_sealchain_sha_round), ("sealchain/sha.first", laid_sealchain_sha_first)] }
def TapeKnownSaid : Prop := tapeKnownRow.holds Tryd.pinned (OpenSpec.ofChange tapeKnownSpec)

/-- ITS FALSE NEIGHBOUR: 'it returns false'. Refute it at one input. -/
def tapeKnownWrong : ChangeSpec := { name := "tapeKnown", fn := fun _ => fun
  | [] => { results := [.lit (.bool false)], args := [] }
  | _ => none }
def TapeKnownWrongFalsely : Prop := tapeKnownRow.holds Tryd.pinned (OpenSpec.ofChange tapeKnownWrong)

/- THE SECOND FORM. 'bulk': how many values and letters a reading holds, each counted each time it is reached (what is shared counts as often as it is met; a slice's spare places count too). A statement '..UptoSaid' is the law's where the arguments, and the package variables that the reading takes, are together of bulk at most 1048576: NARROWER than '..Said'. Prove '..Said' where nothing that the law and all that it calls make is longer than what came in: it says more and counts as full. Else prove '..UptoSaid'. A law counts once. -/
mutual
def uptoBulk {H : Type} : DataW H → Nat
  | .lit (.string bytes) => bytes.length + 1
  | .lit _ => 1
  | .nil => 1
  | .ptr d => uptoBulk d + 1
  | .slice elems spare => uptoBulkAll elems + uptoBulkAll spare + 1
  | .agg parts => uptoBulkAll parts + 1
  | .iface _ d => uptoBulk d + 1
  | .map entries => uptoBulkEntries entries + 1
  | .held _ => 1
def uptoBulkAll {H : Type} : List (DataW H) → Nat
  | [] => 0
  | d :: r => uptoBulk d + uptoBulkAll r
def uptoBulkEntries {H : Type} : List (Lit × DataW H) → Nat
  | [] => 0
  | x :: r => uptoBulkEntry x + uptoBulkEntries r
def uptoBulkEntry {H : Type} : Lit × DataW H → Nat
  | (.string bytes, d) => bytes.length + uptoBulk d + 1
  | (_, d) => uptoBulk d + 1
 end
def uptoSmall : (H : Type) → List (DataW H) → Bool := fun _ ds => decide (uptoBulkAll ds ≤ 1048576)
def OpenSpec.upto (s : _root_.Go.ChangeSpec) : _root_.Go.OpenSpec := { _root_.Go.OpenSpec.ofChange s with cond := some uptoSmall }

/-- 'sealchainlaw06.TapeParts', WHERE WHAT IT READS IS OF BULK AT MOST 1048576: true; the input reads as it did. -/
def tapePartsUptoRow : OpenClaim := { program := "ytmkpajhfgdffpaadoor", sum := "b7b89779480a95cf561b93b1542736e29cc85beb0cdf0d667dc3e36bec554d96", func := "sealchain/sealchainlaw06.TapeParts", spec := "tapeParts", named := ["sealchain/sha.first", "sealchain/sha.round"], apart := false, laid := [("sealchain/sha.round", laid_sealchain_sha_round), ("sealchain/sha.first", laid_sealchain_sha_first)], narrowed := true }
def TapePartsUptoSaid : Prop := tapePartsUptoRow.holds Tryd.pinned (OpenSpec.upto tapePartsSpec)

/-- 'sealchainlaw06.TapeBlocks', WHERE WHAT IT READS IS OF BULK AT MOST 1048576: true; the input reads as it did. -/
def tapeBlocksUptoRow : OpenClaim := { program := "ytmkpajhfgdffpaadoor", sum := "b7b89779480a95cf561b93b1542736e29cc85beb0cdf0d667dc3e36bec554d96", func := "sealchain/sealchainlaw06.TapeBlocks", spec := "tapeBlocks", named := ["sealchain/sha.first", "sealchain/sha.round"], apart := false, laid := [("sealchain/sha.round", laid_sealchain_sha_round), ("sealchain/sha.first", laid_sealchain_sha_first)], narrowed := true }
def TapeBlocksUptoSaid : Prop := tapeBlocksUptoRow.holds Tryd.pinned (OpenSpec.upto tapeBlocksSpec)

/-- 'sealchainlaw06.TapeDraws', WHERE WHAT IT READS IS OF BULK AT MOST 1048576: true; the input reads as it did. -/
def tapeDrawsUptoRow : OpenClaim := { program := "ytmkpajhfgdffpaadoor", sum := "b7b89779480a95cf561b93b1542736e29cc85beb0cdf0d667dc3e36bec554d96", func := "sealchain/sealchainlaw06.TapeDraws", spec := "tapeDraws", named := ["sealchain/sha.first", "sealchain/sha.round"], apart := false, laid := [("sealchain/sha.round", laid_sealchain_sha_round), ("sealchain/sha.first", laid_sealchain_sha_first)], narrowed := true }
def TapeDrawsUptoSaid : Prop := tapeDrawsUptoRow.holds Tryd.pinned (OpenSpec.upto tapeDrawsSpec)

/-- 'sealchainlaw06.TapeCopies', WHERE WHAT IT READS IS OF BULK AT MOST 1048576: true; the input reads as it did. -/
def tapeCopiesUptoRow : OpenClaim := { program := "ytmkpajhfgdffpaadoor", sum := "b7b89779480a95cf561b93b1542736e29cc85beb0cdf0d667dc3e36bec554d96", func := "sealchain/sealchainlaw06.TapeCopies", spec := "tapeCopies", named := ["sealchain/sha.first", "sealchain/sha.round"], apart := false, laid := [("sealchain/sha.round", laid_sealchain_sha_round), ("sealchain/sha.first", laid_sealchain_sha_first)], narrowed := true }
def TapeCopiesUptoSaid : Prop := tapeCopiesUptoRow.holds Tryd.pinned (OpenSpec.upto tapeCopiesSpec)

/-- 'sealchainlaw06.TapeSkips', WHERE WHAT IT READS IS OF BULK AT MOST 1048576: true; the input reads as it did. -/
def tapeSkipsUptoRow : OpenClaim := { program := "ytmkpajhfgdffpaadoor", sum := "b7b89779480a95cf561b93b1542736e29cc85beb0cdf0d667dc3e36bec554d96", func := "sealchain/sealchainlaw06.TapeSkips", spec := "tapeSkips", named := ["sealchain/sha.first", "sealchain/sha.round"], apart := false, laid := [("sealchain/sha.round", laid_sealchain_sha_round), ("sealchain/sha.first", laid_sealchain_sha_first)], narrowed := true }
def TapeSkipsUptoSaid : Prop := tapeSkipsUptoRow.holds Tryd.pinned (OpenSpec.upto tapeSkipsSpec)

/-- 'sealchainlaw06.TapeKnown', WHERE WHAT IT READS IS OF BULK AT MOST 1048576: true; the input reads as it did. -/
def tapeKnownUptoRow : OpenClaim := { program := "ytmkpajhfgdffpaadoor", sum := "b7b89779480a95cf561b93b1542736e29cc85beb0cdf0d667dc3e36bec554d96", func := "sealchain/sealchainlaw06.TapeKnown", spec := "tapeKnown", named := ["sealchain/sha.first", "sealchain/sha.round"], apart := false, laid := [("sealchain/sha.round", laid_sealchain_sha_round), ("sealchain/sha.first", laid_sealchain_sha_first)], narrowed := true }
def TapeKnownUptoSaid : Prop := tapeKnownUptoRow.holds Tryd.pinned (OpenSpec.upto tapeKnownSpec)

end Rows
end Go.Proofs.YtmkpajhfgdffpaaDoor
