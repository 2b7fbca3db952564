/-
  NARROWER THAN 'FOR EVERY INPUT', by the rows' own cells (each row's printed sentence says how): PairsRoot: laid · VerifyTells: laid · VerifyNames: laid · TreeRoads: laid · ClashSeeks: laid · VerifyChain: laid · ProofMakes: laid · PairsWays: laid · ProofNames: laid · VerifyMade: laid · TreeTells: laid · PairsNames: laid · ProofTrue: laid · TreeNames: laid · ProofOne: laid · TreeStays: laid · ClashTells: laid · ClashShows: laid · ClashNames: laid · TreeMaps: laid.
  DERIVED. THE GIVEN ROWS OF THIS SEAT. 20 by the template 'for every input the law returns true; each argument reads behind the call as it read before'; 0 by the template 'total and deterministic' (their statements: YtefneilaongpbaaDoorTotals.lean).
  GIVEN WITH THE SEED: the statements are not yours to turn. If you find one false, say at which input.
  Laid BY PROGRAM, IN A SANDBOX (cutbox-rows.mjs): the forced cells as the released guide's own fill.sh prints them over the translation e04dd917891f80ec… (all of the seat's roots in one cut). By AI agents, Wed Nov 11 2026. No macro, syntax, notation, axiom, sorry.
-/
import Derived.Test.YtefneilaongpbaaDoorChecked
import GoSem.Claim
import GoSem.ClaimJoined
import GoSem.ClaimMapViews
import Derived.JoinedTies
import Derived.KernelRfl
namespace Go.Proofs.YtefneilaongpbaaDoor
/- THE CELL 'sum', in the pinned program and in every row, IS THE sha256 OF THE DUMP (.gsa) THAT YtefneilaongpbaaDoorProg.lean LOADS. Nothing in Lean hashes anything: it is a label: what it is worth is what the hold of that sum in a sandbox is worth. -/
noncomputable def Tryd.pinned : Pinned := { name := "ytefneilaongpbaadoor", sum := "e04dd917891f80ecef5605d28ece665a46f4f1a4680549259e71359a2ef2ff9e", checked := Tryd.checked }
namespace Rows
def none {H : Type} : Left H := { results := [], args := [] }

/- WHAT THE LISTED PACKAGE-LEVEL VARIABLES READ AS WHEN THE CALL BEGINS. Each datum BY PROGRAM (the guide's laid-datum.mjs) off the statement by which the dump's own 'gosem.cut.vars' lays the variable. In a bare row this is a premise. The card (YtefneilaongpbaaDoorCards.lean) ties it to the program's text. -/
def laid_beadroll_sha_k {H : Type} : DataW H := .agg [.lit (.int .u32 1116352408), .lit (.int .u32 1899447441), .lit (.int .u32 3049323471), .lit (.int .u32 3921009573), .lit (.int .u32 961987163), .lit (.int .u32 1508970993), .lit (.int .u32 2453635748), .lit (.int .u32 2870763221), .lit (.int .u32 3624381080), .lit (.int .u32 310598401), .lit (.int .u32 607225278), .lit (.int .u32 1426881987), .lit (.int .u32 1925078388), .lit (.int .u32 2162078206), .lit (.int .u32 2614888103), .lit (.int .u32 3248222580), .lit (.int .u32 3835390401), .lit (.int .u32 4022224774), .lit (.int .u32 264347078), .lit (.int .u32 604807628), .lit (.int .u32 770255983), .lit (.int .u32 1249150122), .lit (.int .u32 1555081692), .lit (.int .u32 1996064986), .lit (.int .u32 2554220882), .lit (.int .u32 2821834349), .lit (.int .u32 2952996808), .lit (.int .u32 3210313671), .lit (.int .u32 3336571891), .lit (.int .u32 3584528711), .lit (.int .u32 113926993), .lit (.int .u32 338241895), .lit (.int .u32 666307205), .lit (.int .u32 773529912), .lit (.int .u32 1294757372), .lit (.int .u32 1396182291), .lit (.int .u32 1695183700), .lit (.int .u32 1986661051), .lit (.int .u32 2177026350), .lit (.int .u32 2456956037), .lit (.int .u32 2730485921), .lit (.int .u32 2820302411), .lit (.int .u32 3259730800), .lit (.int .u32 3345764771), .lit (.int .u32 3516065817), .lit (.int .u32 3600352804), .lit (.int .u32 4094571909), .lit (.int .u32 275423344), .lit (.int .u32 430227734), .lit (.int .u32 506948616), .lit (.int .u32 659060556), .lit (.int .u32 883997877), .lit (.int .u32 958139571), .lit (.int .u32 1322822218), .lit (.int .u32 1537002063), .lit (.int .u32 1747873779), .lit (.int .u32 1955562222), .lit (.int .u32 2024104815), .lit (.int .u32 2227730452), .lit (.int .u32 2361852424), .lit (.int .u32 2428436474), .lit (.int .u32 2756734187), .lit (.int .u32 3204031479), .lit (.int .u32 3329325298)]

/-- 'beadrolllaw05.PairsRoot': WHATEVER THE INPUT: true; the input reads as it did. -/
def pairsRootSpec : ChangeSpec := { name := "pairsRoot", fn := fun _ => fun
  | [d] => { results := [.lit (.bool true)], args := [d] }
  | _ => none }
def pairsRootRow : OpenClaim := { program := "ytefneilaongpbaadoor", sum := "e04dd917891f80ecef5605d28ece665a46f4f1a4680549259e71359a2ef2ff9e", func := "beadroll/beadrolllaw05.PairsRoot", spec := "pairsRoot", unfollowed := true, recurses := true, named := ["beadroll/sha.k"], apart := false, laid := [("beadroll/sha.k", laid_beadroll_sha_k)] }
def PairsRootSaid : Prop := pairsRootRow.holds Tryd.pinned (OpenSpec.ofChange pairsRootSpec)

/-- ITS FALSE NEIGHBOUR: 'it returns false'. Refute it at one input. -/
def pairsRootWrong : ChangeSpec := { name := "pairsRoot", fn := fun _ => fun
  | [d] => { results := [.lit (.bool false)], args := [d] }
  | _ => none }
def PairsRootWrongFalsely : Prop := pairsRootRow.holds Tryd.pinned (OpenSpec.ofChange pairsRootWrong)

/-- 'beadrolllaw08.VerifyTells': WHATEVER THE INPUT: true; the input reads as it did. -/
def verifyTellsSpec : ChangeSpec := { name := "verifyTells", fn := fun _ => fun
  | [d1, d2] => { results := [.lit (.bool true)], args := [d1, d2] }
  | _ => none }
def verifyTellsRow : OpenClaim := { program := "ytefneilaongpbaadoor", sum := "e04dd917891f80ecef5605d28ece665a46f4f1a4680549259e71359a2ef2ff9e", func := "beadroll/beadrolllaw08.VerifyTells", spec := "verifyTells", unfollowed := true, recurses := true, named := ["beadroll/sha.k"], apart := false, laid := [("beadroll/sha.k", laid_beadroll_sha_k)] }
def VerifyTellsSaid : Prop := verifyTellsRow.holds Tryd.pinned (OpenSpec.ofChange verifyTellsSpec)

/-- ITS FALSE NEIGHBOUR: 'it returns false'. Refute it at one input. -/
def verifyTellsWrong : ChangeSpec := { name := "verifyTells", fn := fun _ => fun
  | [d1, d2] => { results := [.lit (.bool false)], args := [d1, d2] }
  | _ => none }
def VerifyTellsWrongFalsely : Prop := verifyTellsRow.holds Tryd.pinned (OpenSpec.ofChange verifyTellsWrong)

/-- 'beadrolllaw08.VerifyNames': WHATEVER THE INPUT: true; the input reads as it did. -/
def verifyNamesSpec : ChangeSpec := { name := "verifyNames", fn := fun _ => fun
  | [] => { results := [.lit (.bool true)], args := [] }
  | _ => none }
def verifyNamesRow : OpenClaim := { program := "ytefneilaongpbaadoor", sum := "e04dd917891f80ecef5605d28ece665a46f4f1a4680549259e71359a2ef2ff9e", func := "beadroll/beadrolllaw08.VerifyNames", spec := "verifyNames", unfollowed := true, recurses := true, named := ["beadroll/sha.k"], apart := false, laid := [("beadroll/sha.k", laid_beadroll_sha_k)] }
def VerifyNamesSaid : Prop := verifyNamesRow.holds Tryd.pinned (OpenSpec.ofChange verifyNamesSpec)

/-- ITS FALSE NEIGHBOUR: 'it returns false'. Refute it at one input. -/
def verifyNamesWrong : ChangeSpec := { name := "verifyNames", fn := fun _ => fun
  | [] => { results := [.lit (.bool false)], args := [] }
  | _ => none }
def VerifyNamesWrongFalsely : Prop := verifyNamesRow.holds Tryd.pinned (OpenSpec.ofChange verifyNamesWrong)

/-- 'beadrolllaw06.TreeRoads': WHATEVER THE INPUT: true; the input reads as it did. -/
def treeRoadsSpec : ChangeSpec := { name := "treeRoads", fn := fun _ => fun
  | [d1, d2] => { results := [.lit (.bool true)], args := [d1, d2] }
  | _ => none }
def treeRoadsRow : OpenClaim := { program := "ytefneilaongpbaadoor", sum := "e04dd917891f80ecef5605d28ece665a46f4f1a4680549259e71359a2ef2ff9e", func := "beadroll/beadrolllaw06.TreeRoads", spec := "treeRoads", unfollowed := true, recurses := true, named := ["beadroll/sha.k"], apart := false, laid := [("beadroll/sha.k", laid_beadroll_sha_k)] }
def TreeRoadsSaid : Prop := treeRoadsRow.holds Tryd.pinned (OpenSpec.ofChange treeRoadsSpec)

/-- ITS FALSE NEIGHBOUR: 'it returns false'. Refute it at one input. -/
def treeRoadsWrong : ChangeSpec := { name := "treeRoads", fn := fun _ => fun
  | [d1, d2] => { results := [.lit (.bool false)], args := [d1, d2] }
  | _ => none }
def TreeRoadsWrongFalsely : Prop := treeRoadsRow.holds Tryd.pinned (OpenSpec.ofChange treeRoadsWrong)

/-- 'beadrolllaw09.ClashSeeks': WHATEVER THE INPUT: true; the input reads as it did. -/
def clashSeeksSpec : ChangeSpec := { name := "clashSeeks", fn := fun _ => fun
  | [d1, d2] => { results := [.lit (.bool true)], args := [d1, d2] }
  | _ => none }
def clashSeeksRow : OpenClaim := { program := "ytefneilaongpbaadoor", sum := "e04dd917891f80ecef5605d28ece665a46f4f1a4680549259e71359a2ef2ff9e", func := "beadroll/beadrolllaw09.ClashSeeks", spec := "clashSeeks", unfollowed := true, recurses := true, named := ["beadroll/sha.k"], apart := false, laid := [("beadroll/sha.k", laid_beadroll_sha_k)] }
def ClashSeeksSaid : Prop := clashSeeksRow.holds Tryd.pinned (OpenSpec.ofChange clashSeeksSpec)

/-- ITS FALSE NEIGHBOUR: 'it returns false'. Refute it at one input. -/
def clashSeeksWrong : ChangeSpec := { name := "clashSeeks", fn := fun _ => fun
  | [d1, d2] => { results := [.lit (.bool false)], args := [d1, d2] }
  | _ => none }
def ClashSeeksWrongFalsely : Prop := clashSeeksRow.holds Tryd.pinned (OpenSpec.ofChange clashSeeksWrong)

/-- 'beadrolllaw08.VerifyChain': WHATEVER THE INPUT: true; the input reads as it did. -/
def verifyChainSpec : ChangeSpec := { name := "verifyChain", fn := fun _ => fun
  | [d] => { results := [.lit (.bool true)], args := [d] }
  | _ => none }
def verifyChainRow : OpenClaim := { program := "ytefneilaongpbaadoor", sum := "e04dd917891f80ecef5605d28ece665a46f4f1a4680549259e71359a2ef2ff9e", func := "beadroll/beadrolllaw08.VerifyChain", spec := "verifyChain", unfollowed := true, recurses := true, named := ["beadroll/sha.k"], apart := false, laid := [("beadroll/sha.k", laid_beadroll_sha_k)] }
def VerifyChainSaid : Prop := verifyChainRow.holds Tryd.pinned (OpenSpec.ofChange verifyChainSpec)

/-- ITS FALSE NEIGHBOUR: 'it returns false'. Refute it at one input. -/
def verifyChainWrong : ChangeSpec := { name := "verifyChain", fn := fun _ => fun
  | [d] => { results := [.lit (.bool false)], args := [d] }
  | _ => none }
def VerifyChainWrongFalsely : Prop := verifyChainRow.holds Tryd.pinned (OpenSpec.ofChange verifyChainWrong)

/-- 'beadrolllaw07.ProofMakes': WHATEVER THE INPUT: true; the input reads as it did. -/
def proofMakesSpec : ChangeSpec := { name := "proofMakes", fn := fun _ => fun
  | [d1, d2] => { results := [.lit (.bool true)], args := [d1, d2] }
  | _ => none }
def proofMakesRow : OpenClaim := { program := "ytefneilaongpbaadoor", sum := "e04dd917891f80ecef5605d28ece665a46f4f1a4680549259e71359a2ef2ff9e", func := "beadroll/beadrolllaw07.ProofMakes", spec := "proofMakes", unfollowed := true, recurses := true, named := ["beadroll/sha.k"], apart := false, laid := [("beadroll/sha.k", laid_beadroll_sha_k)] }
def ProofMakesSaid : Prop := proofMakesRow.holds Tryd.pinned (OpenSpec.ofChange proofMakesSpec)

/-- ITS FALSE NEIGHBOUR: 'it returns false'. Refute it at one input. -/
def proofMakesWrong : ChangeSpec := { name := "proofMakes", fn := fun _ => fun
  | [d1, d2] => { results := [.lit (.bool false)], args := [d1, d2] }
  | _ => none }
def ProofMakesWrongFalsely : Prop := proofMakesRow.holds Tryd.pinned (OpenSpec.ofChange proofMakesWrong)

/-- 'beadrolllaw05.PairsWays': WHATEVER THE INPUT: true; the input reads as it did. -/
def pairsWaysSpec : ChangeSpec := { name := "pairsWays", fn := fun _ => fun
  | [d1, d2, d3] => { results := [.lit (.bool true)], args := [d1, d2, d3] }
  | _ => none }
def pairsWaysRow : OpenClaim := { program := "ytefneilaongpbaadoor", sum := "e04dd917891f80ecef5605d28ece665a46f4f1a4680549259e71359a2ef2ff9e", func := "beadroll/beadrolllaw05.PairsWays", spec := "pairsWays", inPlace := ["slices.overlaps[beadroll/api.Pair]"], unfollowed := true, recurses := true, named := ["beadroll/sha.k"], apart := false, laid := [("beadroll/sha.k", laid_beadroll_sha_k)] }
def PairsWaysSaid : Prop := pairsWaysRow.holds Tryd.pinned (OpenSpec.ofChange pairsWaysSpec)

/-- ITS FALSE NEIGHBOUR: 'it returns false'. Refute it at one input. -/
def pairsWaysWrong : ChangeSpec := { name := "pairsWays", fn := fun _ => fun
  | [d1, d2, d3] => { results := [.lit (.bool false)], args := [d1, d2, d3] }
  | _ => none }
def PairsWaysWrongFalsely : Prop := pairsWaysRow.holds Tryd.pinned (OpenSpec.ofChange pairsWaysWrong)

/-- 'beadrolllaw07.ProofNames': WHATEVER THE INPUT: true; the input reads as it did. -/
def proofNamesSpec : ChangeSpec := { name := "proofNames", fn := fun _ => fun
  | [] => { results := [.lit (.bool true)], args := [] }
  | _ => none }
def proofNamesRow : OpenClaim := { program := "ytefneilaongpbaadoor", sum := "e04dd917891f80ecef5605d28ece665a46f4f1a4680549259e71359a2ef2ff9e", func := "beadroll/beadrolllaw07.ProofNames", spec := "proofNames", unfollowed := true, recurses := true, named := ["beadroll/sha.k"], apart := false, laid := [("beadroll/sha.k", laid_beadroll_sha_k)] }
def ProofNamesSaid : Prop := proofNamesRow.holds Tryd.pinned (OpenSpec.ofChange proofNamesSpec)

/-- ITS FALSE NEIGHBOUR: 'it returns false'. Refute it at one input. -/
def proofNamesWrong : ChangeSpec := { name := "proofNames", fn := fun _ => fun
  | [] => { results := [.lit (.bool false)], args := [] }
  | _ => none }
def ProofNamesWrongFalsely : Prop := proofNamesRow.holds Tryd.pinned (OpenSpec.ofChange proofNamesWrong)

/-- 'beadrolllaw08.VerifyMade': WHATEVER THE INPUT: true; the input reads as it did. -/
def verifyMadeSpec : ChangeSpec := { name := "verifyMade", fn := fun _ => fun
  | [d1, d2] => { results := [.lit (.bool true)], args := [d1, d2] }
  | _ => none }
def verifyMadeRow : OpenClaim := { program := "ytefneilaongpbaadoor", sum := "e04dd917891f80ecef5605d28ece665a46f4f1a4680549259e71359a2ef2ff9e", func := "beadroll/beadrolllaw08.VerifyMade", spec := "verifyMade", unfollowed := true, recurses := true, named := ["beadroll/sha.k"], apart := false, laid := [("beadroll/sha.k", laid_beadroll_sha_k)] }
def VerifyMadeSaid : Prop := verifyMadeRow.holds Tryd.pinned (OpenSpec.ofChange verifyMadeSpec)

/-- ITS FALSE NEIGHBOUR: 'it returns false'. Refute it at one input. -/
def verifyMadeWrong : ChangeSpec := { name := "verifyMade", fn := fun _ => fun
  | [d1, d2] => { results := [.lit (.bool false)], args := [d1, d2] }
  | _ => none }
def VerifyMadeWrongFalsely : Prop := verifyMadeRow.holds Tryd.pinned (OpenSpec.ofChange verifyMadeWrong)

/-- 'beadrolllaw06.TreeTells': WHATEVER THE INPUT: true; the input reads as it did. -/
def treeTellsSpec : ChangeSpec := { name := "treeTells", fn := fun _ => fun
  | [d1, d2, d3, d4] => { results := [.lit (.bool true)], args := [d1, d2, d3, d4] }
  | _ => none }
def treeTellsRow : OpenClaim := { program := "ytefneilaongpbaadoor", sum := "e04dd917891f80ecef5605d28ece665a46f4f1a4680549259e71359a2ef2ff9e", func := "beadroll/beadrolllaw06.TreeTells", spec := "treeTells", unfollowed := true, recurses := true, named := ["beadroll/sha.k"], apart := false, laid := [("beadroll/sha.k", laid_beadroll_sha_k)] }
def TreeTellsSaid : Prop := treeTellsRow.holds Tryd.pinned (OpenSpec.ofChange treeTellsSpec)

/-- ITS FALSE NEIGHBOUR: 'it returns false'. Refute it at one input. -/
def treeTellsWrong : ChangeSpec := { name := "treeTells", fn := fun _ => fun
  | [d1, d2, d3, d4] => { results := [.lit (.bool false)], args := [d1, d2, d3, d4] }
  | _ => none }
def TreeTellsWrongFalsely : Prop := treeTellsRow.holds Tryd.pinned (OpenSpec.ofChange treeTellsWrong)

/-- 'beadrolllaw05.PairsNames': WHATEVER THE INPUT: true; the input reads as it did. -/
def pairsNamesSpec : ChangeSpec := { name := "pairsNames", fn := fun _ => fun
  | [] => { results := [.lit (.bool true)], args := [] }
  | _ => none }
def pairsNamesRow : OpenClaim := { program := "ytefneilaongpbaadoor", sum := "e04dd917891f80ecef5605d28ece665a46f4f1a4680549259e71359a2ef2ff9e", func := "beadroll/beadrolllaw05.PairsNames", spec := "pairsNames", inPlace := ["slices.overlaps[beadroll/api.Pair]"], unfollowed := true, recurses := true, named := ["beadroll/sha.k"], apart := false, laid := [("beadroll/sha.k", laid_beadroll_sha_k)] }
def PairsNamesSaid : Prop := pairsNamesRow.holds Tryd.pinned (OpenSpec.ofChange pairsNamesSpec)

/-- ITS FALSE NEIGHBOUR: 'it returns false'. Refute it at one input. -/
def pairsNamesWrong : ChangeSpec := { name := "pairsNames", fn := fun _ => fun
  | [] => { results := [.lit (.bool false)], args := [] }
  | _ => none }
def PairsNamesWrongFalsely : Prop := pairsNamesRow.holds Tryd.pinned (OpenSpec.ofChange pairsNamesWrong)

/-- 'beadrolllaw07.ProofTrue': WHATEVER THE INPUT: true; the input reads as it did. -/
def proofTrueSpec : ChangeSpec := { name := "proofTrue", fn := fun _ => fun
  | [d1, d2] => { results := [.lit (.bool true)], args := [d1, d2] }
  | _ => none }
def proofTrueRow : OpenClaim := { program := "ytefneilaongpbaadoor", sum := "e04dd917891f80ecef5605d28ece665a46f4f1a4680549259e71359a2ef2ff9e", func := "beadroll/beadrolllaw07.ProofTrue", spec := "proofTrue", unfollowed := true, recurses := true, named := ["beadroll/sha.k"], apart := false, laid := [("beadroll/sha.k", laid_beadroll_sha_k)] }
def ProofTrueSaid : Prop := proofTrueRow.holds Tryd.pinned (OpenSpec.ofChange proofTrueSpec)

/-- ITS FALSE NEIGHBOUR: 'it returns false'. Refute it at one input. -/
def proofTrueWrong : ChangeSpec := { name := "proofTrue", fn := fun _ => fun
  | [d1, d2] => { results := [.lit (.bool false)], args := [d1, d2] }
  | _ => none }
def ProofTrueWrongFalsely : Prop := proofTrueRow.holds Tryd.pinned (OpenSpec.ofChange proofTrueWrong)

/-- 'beadrolllaw06.TreeNames': WHATEVER THE INPUT: true; the input reads as it did. -/
def treeNamesSpec : ChangeSpec := { name := "treeNames", fn := fun _ => fun
  | [] => { results := [.lit (.bool true)], args := [] }
  | _ => none }
def treeNamesRow : OpenClaim := { program := "ytefneilaongpbaadoor", sum := "e04dd917891f80ecef5605d28ece665a46f4f1a4680549259e71359a2ef2ff9e", func := "beadroll/beadrolllaw06.TreeNames", spec := "treeNames", unfollowed := true, recurses := true, named := ["beadroll/sha.k"], apart := false, laid := [("beadroll/sha.k", laid_beadroll_sha_k)] }
def TreeNamesSaid : Prop := treeNamesRow.holds Tryd.pinned (OpenSpec.ofChange treeNamesSpec)

/-- ITS FALSE NEIGHBOUR: 'it returns false'. Refute it at one input. -/
def treeNamesWrong : ChangeSpec := { name := "treeNames", fn := fun _ => fun
  | [] => { results := [.lit (.bool false)], args := [] }
  | _ => none }
def TreeNamesWrongFalsely : Prop := treeNamesRow.holds Tryd.pinned (OpenSpec.ofChange treeNamesWrong)

/-- 'beadrolllaw07.ProofOne': WHATEVER THE INPUT: true; the input reads as it did. -/
def proofOneSpec : ChangeSpec := { name := "proofOne", fn := fun _ => fun
  | [d1, d2] => { results := [.lit (.bool true)], args := [d1, d2] }
  | _ => none }
def proofOneRow : OpenClaim := { program := "ytefneilaongpbaadoor", sum := "e04dd917891f80ecef5605d28ece665a46f4f1a4680549259e71359a2ef2ff9e", func := "beadroll/beadrolllaw07.ProofOne", spec := "proofOne", unfollowed := true, recurses := true, named := ["beadroll/sha.k"], apart := false, laid := [("beadroll/sha.k", laid_beadroll_sha_k)] }
def ProofOneSaid : Prop := proofOneRow.holds Tryd.pinned (OpenSpec.ofChange proofOneSpec)

/-- ITS FALSE NEIGHBOUR: 'it returns false'. Refute it at one input. -/
def proofOneWrong : ChangeSpec := { name := "proofOne", fn := fun _ => fun
  | [d1, d2] => { results := [.lit (.bool false)], args := [d1, d2] }
  | _ => none }
def ProofOneWrongFalsely : Prop := proofOneRow.holds Tryd.pinned (OpenSpec.ofChange proofOneWrong)

/-- 'beadrolllaw06.TreeStays': WHATEVER THE INPUT: true; the input reads as it did. -/
def treeStaysSpec : ChangeSpec := { name := "treeStays", fn := fun _ => fun
  | [d1, d2, d3, d4, d5] => { results := [.lit (.bool true)], args := [d1, d2, d3, d4, d5] }
  | _ => none }
def treeStaysRow : OpenClaim := { program := "ytefneilaongpbaadoor", sum := "e04dd917891f80ecef5605d28ece665a46f4f1a4680549259e71359a2ef2ff9e", func := "beadroll/beadrolllaw06.TreeStays", spec := "treeStays", unfollowed := true, recurses := true, named := ["beadroll/sha.k"], apart := false, laid := [("beadroll/sha.k", laid_beadroll_sha_k)] }
def TreeStaysSaid : Prop := treeStaysRow.holds Tryd.pinned (OpenSpec.ofChange treeStaysSpec)

/-- ITS FALSE NEIGHBOUR: 'it returns false'. Refute it at one input. -/
def treeStaysWrong : ChangeSpec := { name := "treeStays", fn := fun _ => fun
  | [d1, d2, d3, d4, d5] => { results := [.lit (.bool false)], args := [d1, d2, d3, d4, d5] }
  | _ => none }
def TreeStaysWrongFalsely : Prop := treeStaysRow.holds Tryd.pinned (OpenSpec.ofChange treeStaysWrong)

/-- 'beadrolllaw09.ClashTells': WHATEVER THE INPUT: true; the input reads as it did. -/
def clashTellsSpec : ChangeSpec := { name := "clashTells", fn := fun _ => fun
  | [d1, d2, d3] => { results := [.lit (.bool true)], args := [d1, d2, d3] }
  | _ => none }
def clashTellsRow : OpenClaim := { program := "ytefneilaongpbaadoor", sum := "e04dd917891f80ecef5605d28ece665a46f4f1a4680549259e71359a2ef2ff9e", func := "beadroll/beadrolllaw09.ClashTells", spec := "clashTells", unfollowed := true, recurses := true, named := ["beadroll/sha.k"], apart := false, laid := [("beadroll/sha.k", laid_beadroll_sha_k)] }
def ClashTellsSaid : Prop := clashTellsRow.holds Tryd.pinned (OpenSpec.ofChange clashTellsSpec)

/-- ITS FALSE NEIGHBOUR: 'it returns false'. Refute it at one input. -/
def clashTellsWrong : ChangeSpec := { name := "clashTells", fn := fun _ => fun
  | [d1, d2, d3] => { results := [.lit (.bool false)], args := [d1, d2, d3] }
  | _ => none }
def ClashTellsWrongFalsely : Prop := clashTellsRow.holds Tryd.pinned (OpenSpec.ofChange clashTellsWrong)

/-- 'beadrolllaw09.ClashShows': WHATEVER THE INPUT: true; the input reads as it did. -/
def clashShowsSpec : ChangeSpec := { name := "clashShows", fn := fun _ => fun
  | [d1, d2] => { results := [.lit (.bool true)], args := [d1, d2] }
  | _ => none }
def clashShowsRow : OpenClaim := { program := "ytefneilaongpbaadoor", sum := "e04dd917891f80ecef5605d28ece665a46f4f1a4680549259e71359a2ef2ff9e", func := "beadroll/beadrolllaw09.ClashShows", spec := "clashShows", unfollowed := true, recurses := true, named := ["beadroll/sha.k"], apart := false, laid := [("beadroll/sha.k", laid_beadroll_sha_k)] }
def ClashShowsSaid : Prop := clashShowsRow.holds Tryd.pinned (OpenSpec.ofChange clashShowsSpec)

/-- ITS FALSE NEIGHBOUR: 'it returns false'. Refute it at one input. -/
def clashShowsWrong : ChangeSpec := { name := "clashShows", fn := fun _ => fun
  | [d1, d2] => { results := [.lit (.bool false)], args := [d1, d2] }
  | _ => none }
def ClashShowsWrongFalsely : Prop := clashShowsRow.holds Tryd.pinned (OpenSpec.ofChange clashShowsWrong)

/-- 'beadrolllaw09.ClashNames': WHATEVER THE INPUT: true; the input reads as it did. -/
def clashNamesSpec : ChangeSpec := { name := "clashNames", fn := fun _ => fun
  | [] => { results := [.lit (.bool true)], args := [] }
  | _ => none }
def clashNamesRow : OpenClaim := { program := "ytefneilaongpbaadoor", sum := "e04dd917891f80ecef5605d28ece665a46f4f1a4680549259e71359a2ef2ff9e", func := "beadroll/beadrolllaw09.ClashNames", spec := "clashNames", unfollowed := true, recurses := true, named := ["beadroll/sha.k"], apart := false, laid := [("beadroll/sha.k", laid_beadroll_sha_k)] }
def ClashNamesSaid : Prop := clashNamesRow.holds Tryd.pinned (OpenSpec.ofChange clashNamesSpec)

/-- ITS FALSE NEIGHBOUR: 'it returns false'. Refute it at one input. -/
def clashNamesWrong : ChangeSpec := { name := "clashNames", fn := fun _ => fun
  | [] => { results := [.lit (.bool false)], args := [] }
  | _ => none }
def ClashNamesWrongFalsely : Prop := clashNamesRow.holds Tryd.pinned (OpenSpec.ofChange clashNamesWrong)

/-- 'beadrolllaw06.TreeMaps': WHATEVER THE INPUT: true; the input reads as it did. -/
def treeMapsSpec : ChangeSpec := { name := "treeMaps", fn := fun _ => fun
  | [d1, d2, d3] => { results := [.lit (.bool true)], args := [d1, d2, d3] }
  | _ => none }
def treeMapsRow : OpenClaim := { program := "ytefneilaongpbaadoor", sum := "e04dd917891f80ecef5605d28ece665a46f4f1a4680549259e71359a2ef2ff9e", func := "beadroll/beadrolllaw06.TreeMaps", spec := "treeMaps", inPlace := ["slices.overlaps[beadroll/api.Pair]"], unfollowed := true, recurses := true, named := ["beadroll/sha.k"], apart := false, laid := [("beadroll/sha.k", laid_beadroll_sha_k)] }
def TreeMapsSaid : Prop := treeMapsRow.holds Tryd.pinned (OpenSpec.ofChange treeMapsSpec)

/-- ITS FALSE NEIGHBOUR: 'it returns false'. Refute it at one input. -/
def treeMapsWrong : ChangeSpec := { name := "treeMaps", fn := fun _ => fun
  | [d1, d2, d3] => { results := [.lit (.bool false)], args := [d1, d2, d3] }
  | _ => none }
def TreeMapsWrongFalsely : Prop := treeMapsRow.holds Tryd.pinned (OpenSpec.ofChange treeMapsWrong)

/- THE SECOND FORM. 'bulk': how many values and letters a reading holds, each counted each time it is reached (what is shared counts as often as it is met; a slice's spare places count too). A statement '..UptoSaid' is the law's where the arguments, and the package variables that the reading takes, are together of bulk at most 1048576: NARROWER than '..Said'. Prove '..Said' where nothing that the law and all that it calls make is longer than what came in: it says more and counts as full. Else prove '..UptoSaid'. A law counts once. -/
mutual
def uptoBulk {H : Type} : DataW H → Nat
  | .lit (.string bytes) => bytes.length + 1
  | .lit _ => 1
  | .nil => 1
  | .ptr d => uptoBulk d + 1
  | .slice elems spare => uptoBulkAll elems + uptoBulkAll spare + 1
  | .agg parts => uptoBulkAll parts + 1
  | .iface _ d => uptoBulk d + 1
  | .map entries => uptoBulkEntries entries + 1
  | .held _ => 1
def uptoBulkAll {H : Type} : List (DataW H) → Nat
  | [] => 0
  | d :: r => uptoBulk d + uptoBulkAll r
def uptoBulkEntries {H : Type} : List (Lit × DataW H) → Nat
  | [] => 0
  | x :: r => uptoBulkEntry x + uptoBulkEntries r
def uptoBulkEntry {H : Type} : Lit × DataW H → Nat
  | (.string bytes, d) => bytes.length + uptoBulk d + 1
  | (_, d) => uptoBulk d + 1
 end
def uptoSmall : (H : Type) → List (DataW H) → Bool := fun _ ds => decide (uptoBulkAll ds ≤ 1048576)
def OpenSpec.upto (s : _root_.Go.ChangeSpec) : _root_.Go.OpenSpec := { _root_.Go.OpenSpec.ofChange s with cond := some uptoSmall }

/-- 'beadrolllaw05.PairsRoot', WHERE WHAT IT READS IS OF BULK AT MOST 1048576: true; the input reads as it did. -/
def pairsRootUptoRow : OpenClaim := { program := "ytefneilaongpbaadoor", sum := "e04dd917891f80ecef5605d28ece665a46f4f1a4680549259e71359a2ef2ff9e", func := "beadroll/beadrolllaw05.PairsRoot", spec := "pairsRoot", unfollowed := true, recurses := true, named := ["beadroll/sha.k"], apart := false, laid := [("beadroll/sha.k", laid_beadroll_sha_k)], narrowed := true }
def PairsRootUptoSaid : Prop := pairsRootUptoRow.holds Tryd.pinned (OpenSpec.upto pairsRootSpec)

/-- 'beadrolllaw08.VerifyTells', WHERE WHAT IT READS IS OF BULK AT MOST 1048576: true; the input reads as it did. -/
def verifyTellsUptoRow : OpenClaim := { program := "ytefneilaongpbaadoor", sum := "e04dd917891f80ecef5605d28ece665a46f4f1a4680549259e71359a2ef2ff9e", func := "beadroll/beadrolllaw08.VerifyTells", spec := "verifyTells", unfollowed := true, recurses := true, named := ["beadroll/sha.k"], apart := false, laid := [("beadroll/sha.k", laid_beadroll_sha_k)], narrowed := true }
def VerifyTellsUptoSaid : Prop := verifyTellsUptoRow.holds Tryd.pinned (OpenSpec.upto verifyTellsSpec)

/-- 'beadrolllaw08.VerifyNames', WHERE WHAT IT READS IS OF BULK AT MOST 1048576: true; the input reads as it did. -/
def verifyNamesUptoRow : OpenClaim := { program := "ytefneilaongpbaadoor", sum := "e04dd917891f80ecef5605d28ece665a46f4f1a4680549259e71359a2ef2ff9e", func := "beadroll/beadrolllaw08.VerifyNames", spec := "verifyNames", unfollowed := true, recurses := true, named := ["beadroll/sha.k"], apart := false, laid := [("beadroll/sha.k", laid_beadroll_sha_k)], narrowed := true }
def VerifyNamesUptoSaid : Prop := verifyNamesUptoRow.holds Tryd.pinned (OpenSpec.upto verifyNamesSpec)

/-- 'beadrolllaw06.TreeRoads', WHERE WHAT IT READS IS OF BULK AT MOST 1048576: true; the input reads as it did. -/
def treeRoadsUptoRow : OpenClaim := { program := "ytefneilaongpbaadoor", sum := "e04dd917891f80ecef5605d28ece665a46f4f1a4680549259e71359a2ef2ff9e", func := "beadroll/beadrolllaw06.TreeRoads", spec := "treeRoads", unfollowed := true, recurses := true, named := ["beadroll/sha.k"], apart := false, laid := [("beadroll/sha.k", laid_beadroll_sha_k)], narrowed := true }
def TreeRoadsUptoSaid : Prop := treeRoadsUptoRow.holds Tryd.pinned (OpenSpec.upto treeRoadsSpec)

/-- 'beadrolllaw09.ClashSeeks', WHERE WHAT IT READS IS OF BULK AT MOST 1048576: true; the input reads as it did. -/
def clashSeeksUptoRow : OpenClaim := { program := "ytefneilaongpbaadoor", sum := "e04dd917891f80ecef5605d28ece665a46f4f1a4680549259e71359a2ef2ff9e", func := "beadroll/beadrolllaw09.ClashSeeks", spec := "clashSeeks", unfollowed := true, recurses := true, named := ["beadroll/sha.k"], apart := false, laid := [("beadroll/sha.k", laid_beadroll_sha_k)], narrowed := true }
def ClashSeeksUptoSaid : Prop := clashSeeksUptoRow.holds Tryd.pinned (OpenSpec.upto clashSeeksSpec)

/-- 'beadrolllaw08.VerifyChain', WHERE WHAT IT READS IS OF BULK AT MOST 1048576: true; the input reads as it did. -/
def verifyChainUptoRow : OpenClaim := { program := "ytefneilaongpbaadoor", sum := "e04dd917891f80ecef5605d28ece665a46f4f1a4680549259e71359a2ef2ff9e", func := "beadroll/beadrolllaw08.VerifyChain", spec := "verifyChain", unfollowed := true, recurses := true, named := ["beadroll/sha.k"], apart := false, laid := [("beadroll/sha.k", laid_beadroll_sha_k)], narrowed := true }
def VerifyChainUptoSaid : Prop := verifyChainUptoRow.holds Tryd.pinned (OpenSpec.upto verifyChainSpec)

/-- 'beadrolllaw07.ProofMakes', WHERE WHAT IT READS IS OF BULK AT MOST 1048576: true; the input reads as it did. -/
def proofMakesUptoRow : OpenClaim := { program := "ytefneilaongpbaadoor", sum := "e04dd917891f80ecef5605d28ece665a46f4f1a4680549259e71359a2ef2ff9e", func := "beadroll/beadrolllaw07.ProofMakes", spec := "proofMakes", unfollowed := true, recurses := true, named := ["beadroll/sha.k"], apart := false, laid := [("beadroll/sha.k", laid_beadroll_sha_k)], narrowed := true }
def ProofMakesUptoSaid : Prop := proofMakesUptoRow.holds Tryd.pinned (OpenSpec.upto proofMakesSpec)

/-- 'beadrolllaw05.PairsWays', WHERE WHAT IT READS IS OF BULK AT MOST 1048576: true; the input reads as it did. -/
def pairsWaysUptoRow : OpenClaim := { program := "ytefneilaongpbaadoor", sum := "e04dd917891f80ecef5605d28ece665a46f4f1a4680549259e71359a2ef2ff9e", func := "beadroll/beadrolllaw05.PairsWays", spec := "pairsWays", inPlace := ["slices.overlaps[beadroll/api.Pair]"], unfollowed := true, recurses := true, named := ["beadroll/sha.k"], apart := false, laid := [("beadroll/sha.k", laid_beadroll_sha_k)], narrowed := true }
def PairsWaysUptoSaid : Prop := pairsWaysUptoRow.holds Tryd.pinned (OpenSpec.upto pairsWaysSpec)

/-- 'beadrolllaw07.ProofNames', WHERE WHAT IT READS IS OF BULK AT MOST 1048576: true; the input reads as it did. -/
def proofNamesUptoRow : OpenClaim := { program := "ytefneilaongpbaadoor", sum := "e04dd917891f80ecef5605d28ece665a46f4f1a4680549259e71359a2ef2ff9e", func := "beadroll/beadrolllaw07.ProofNames", spec := "proofNames", unfollowed := true, recurses := true, named := ["beadroll/sha.k"], apart := false, laid := [("beadroll/sha.k", laid_beadroll_sha_k)], narrowed := true }
def ProofNamesUptoSaid : Prop := proofNamesUptoRow.holds Tryd.pinned (OpenSpec.upto proofNamesSpec)

/-- 'beadrolllaw08.VerifyMade', WHERE WHAT IT READS IS OF BULK AT MOST 1048576: true; the input reads as it did. -/
def verifyMadeUptoRow : OpenClaim := { program := "ytefneilaongpbaadoor", sum := "e04dd917891f80ecef5605d28ece665a46f4f1a4680549259e71359a2ef2ff9e", func := "beadroll/beadrolllaw08.VerifyMade", spec := "verifyMade", unfollowed := true, recurses := true, named := ["beadroll/sha.k"], apart := false, laid := [("beadroll/sha.k", laid_beadroll_sha_k)], narrowed := true }
def VerifyMadeUptoSaid : Prop := verifyMadeUptoRow.holds Tryd.pinned (OpenSpec.upto verifyMadeSpec)

/-- 'beadrolllaw06.TreeTells', WHERE WHAT IT READS IS OF BULK AT MOST 1048576: true; the input reads as it did. -/
def treeTellsUptoRow : OpenClaim := { program := "ytefneilaongpbaadoor", sum := "e04dd917891f80ecef5605d28ece665a46f4f1a4680549259e71359a2ef2ff9e", func := "beadroll/beadrolllaw06.TreeTells", spec := "treeTells", unfollowed := true, recurses := true, named := ["beadroll/sha.k"], apart := false, laid := [("beadroll/sha.k", laid_beadroll_sha_k)], narrowed := true }
def TreeTellsUptoSaid : Prop := treeTellsUptoRow.holds Tryd.pinned (OpenSpec.upto treeTellsSpec)

/-- 'beadrolllaw05.PairsNames', WHERE WHAT IT READS IS OF BULK AT MOST 1048576: true; the input reads as it did. -/
def pairsNamesUptoRow : OpenClaim := { program := "ytefneilaongpbaadoor", sum := "e04dd917891f80ecef5605d28ece665a46f4f1a4680549259e71359a2ef2ff9e", func := "beadroll/beadrolllaw05.PairsNames", spec := "pairsNames", inPlace := ["slices.overlaps[beadroll/api.Pair]"], unfollowed := true, recurses := true, named := ["beadroll/sha.k"], apart := false, laid := [("beadroll/sha.k", laid_beadroll_sha_k)], narrowed := true }
def PairsNamesUptoSaid : Prop := pairsNamesUptoRow.holds Tryd.pinned (OpenSpec.upto pairsNamesSpec)

/-- 'beadrolllaw07.ProofTrue', WHERE WHAT IT READS IS OF BULK AT MOST 1048576: true; the input reads as it did. -/
def proofTrueUptoRow : OpenClaim := { program := "ytefneilaongpbaadoor", sum := "e04dd917891f80ecef5605d28ece665a46f4f1a4680549259e71359a2ef2ff9e", func := "beadroll/beadrolllaw07.ProofTrue", spec := "proofTrue", unfollowed := true, recurses := true, named := ["beadroll/sha.k"], apart := false, laid := [("beadroll/sha.k", laid_beadroll_sha_k)], narrowed := true }
def ProofTrueUptoSaid : Prop := proofTrueUptoRow.holds Tryd.pinned (OpenSpec.upto proofTrueSpec)

/-- 'beadrolllaw06.TreeNames', WHERE WHAT IT READS IS OF BULK AT MOST 1048576: true; the input reads as it did. -/
def treeNamesUptoRow : OpenClaim := { program := "ytefneilaongpbaadoor", sum := "e04dd917891f80ecef5605d28ece665a46f4f1a4680549259e71359a2ef2ff9e", func := "beadroll/beadrolllaw06.TreeNames", spec := "treeNames", unfollowed := true, recurses := true, named := ["beadroll/sha.k"], apart := false, laid := [("beadroll/sha.k", laid_beadroll_sha_k)], narrowed := true }
def TreeNamesUptoSaid : Prop := treeNamesUptoRow.holds Tryd.pinned (OpenSpec.upto treeNamesSpec)

/-- 'beadrolllaw07.ProofOne', WHERE WHAT IT READS IS OF BULK AT MOST 1048576: true; the input reads as it did. -/
def proofOneUptoRow : OpenClaim := { program := "ytefneilaongpbaadoor", sum := "e04dd917891f80ecef5605d28ece665a46f4f1a4680549259e71359a2ef2ff9e", func := "beadroll/beadrolllaw07.ProofOne", spec := "proofOne", unfollowed := true, recurses := true, named := ["beadroll/sha.k"], apart := false, laid := [("beadroll/sha.k", laid_beadroll_sha_k)], narrowed := true }
def ProofOneUptoSaid : Prop := proofOneUptoRow.holds Tryd.pinned (OpenSpec.upto proofOneSpec)

/-- 'beadrolllaw06.TreeStays', WHERE WHAT IT READS IS OF BULK AT MOST 1048576: true; the input reads as it did. -/
def treeStaysUptoRow : OpenClaim := { program := "ytefneilaongpbaadoor", sum := "e04dd917891f80ecef5605d28ece665a46f4f1a4680549259e71359a2ef2ff9e", func := "beadroll/beadrolllaw06.TreeStays", spec := "treeStays", unfollowed := true, recurses := true, named := ["beadroll/sha.k"], apart := false, laid := [("beadroll/sha.k", laid_beadroll_sha_k)], narrowed := true }
def TreeStaysUptoSaid : Prop := treeStaysUptoRow.holds Tryd.pinned (OpenSpec.upto treeStaysSpec)

/-- 'beadrolllaw09.ClashTells', WHERE WHAT IT READS IS OF BULK AT MOST 1048576: true; the input reads as it did. -/
def clashTellsUptoRow : OpenClaim := { program := "ytefneilaongpbaadoor", sum := "e04dd917891f80ecef5605d28ece665a46f4f1a4680549259e71359a2ef2ff9e", func := "beadroll/beadrolllaw09.ClashTells", spec := "clashTells", unfollowed := true, recurses := true, named := ["beadroll/sha.k"], apart := false, laid := [("beadroll/sha.k", laid_beadroll_sha_k)], narrowed := true }
def ClashTellsUptoSaid : Prop := clashTellsUptoRow.holds Tryd.pinned (OpenSpec.upto clashTellsSpec)

/-- 'beadrolllaw09.ClashShows', WHERE WHAT IT READS IS OF BULK AT MOST 1048576: true; the input reads as it did. -/
def clashShowsUptoRow : OpenClaim := { program := "ytefneilaongpbaadoor", sum := "e04dd917891f80ecef5605d28ece665a46f4f1a4680549259e71359a2ef2ff9e", func := "beadroll/beadrolllaw09.ClashShows", spec := "clashShows", unfollowed := true, recurses := true, named := ["beadroll/sha.k"], apart := false, laid := [("beadroll/sha.k", laid_beadroll_sha_k)], narrowed := true }
def ClashShowsUptoSaid : Prop := clashShowsUptoRow.holds Tryd.pinned (OpenSpec.upto clashShowsSpec)

/-- 'beadrolllaw09.ClashNames', WHERE WHAT IT READS IS OF BULK AT MOST 1048576: true; the input reads as it did. -/
def clashNamesUptoRow : OpenClaim := { program := "ytefneilaongpbaadoor", sum := "e04dd917891f80ecef5605d28ece665a46f4f1a4680549259e71359a2ef2ff9e", func := "beadroll/beadrolllaw09.ClashNames", spec := "clashNames", unfollowed := true, recurses := true, named := ["beadroll/sha.k"], apart := false, laid := [("beadroll/sha.k", laid_beadroll_sha_k)], narrowed := true }
def ClashNamesUptoSaid : Prop := clashNamesUptoRow.holds Tryd.pinned (OpenSpec.upto clashNamesSpec)

/-- 'beadrolllaw06.TreeMaps', WHERE WHAT IT READS IS OF BULK AT MOST 1048576: true; the input reads as it did. -/
def treeMapsUptoRow : OpenClaim := { program := "ytefneilaongpbaadoor", sum := "e04dd917891f80ecef5605d28ece665a46f4f1a4680549259e71359a2ef2ff9e", func := "beadroll/beadrolllaw06.TreeMaps", spec := "treeMaps", inPlace := ["slices.overlaps[beadroll/api.Pair]"], unfollowed := true, recurses := true, named := ["beadroll/sha.k"], apart := false, laid := [("beadroll/sha.k", laid_beadroll_sha_k)], narrowed := true }
def TreeMapsUptoSaid : Prop := treeMapsUptoRow.holds Tryd.pinned (OpenSpec.upto treeMapsSpec)

end Rows
end Go.Proofs.YtefneilaongpbaaDoor
