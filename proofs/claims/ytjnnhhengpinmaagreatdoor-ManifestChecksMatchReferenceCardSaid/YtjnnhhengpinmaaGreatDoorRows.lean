/-
  NARROWER THAN 'FOR EVERY INPUT', by the rows' own cells (each row's printed sentence says how): ManifestMatchesReference: laid · ManifestChecksMatchReference: laid · ManifestDecodeMatchesReference: laid · ManifestRoundTrip: laid · ManifestProved: laid · ManifestBinding: laid · ManifestRoots: laid · ManifestFixity: laid · ManifestOrder: laid · ManifestPaths: laid.
  DERIVED. THE GIVEN ROWS OF THIS SEAT. 10 by the template 'for every input the law returns true; each argument reads behind the call as it read before'; 0 by the template 'total and deterministic' (their statements: YtjnnhhengpinmaaGreatDoorTotals.lean).
  GIVEN WITH THE SEED: the statements are not yours to turn. If you find one false, say at which input.
  Laid BY PROGRAM, IN A SANDBOX (cutbox-rows.mjs): the forced cells as the released guide's own fill.sh prints them over the translation a4d07d9d4028da1a… (all of the seat's roots in one cut). By AI agents, Wed Nov 11 2026. No macro, syntax, notation, axiom, sorry.
-/
import Derived.Test.YtjnnhhengpinmaaGreatDoorChecked
import GoSem.Claim
import GoSem.ClaimJoined
import GoSem.ClaimMapViews
import Derived.JoinedTies
import Derived.KernelRfl
namespace Go.Proofs.YtjnnhhengpinmaaGreatDoor
/- THE CELL 'sum', in the pinned program and in every row, IS THE sha256 OF THE DUMP (.gsa) THAT YtjnnhhengpinmaaGreatDoorProg.lean LOADS. Nothing in Lean hashes anything: it is a label: what it is worth is what the hold of that sum in a sandbox is worth. -/
noncomputable def Tryz.pinned : Pinned := { name := "ytjnnhhengpinmaagreatdoor", sum := "a4d07d9d4028da1a4b5eaa2837e24498168300438ad98fdf2ae560d2750f0943", checked := Tryz.checked }
namespace Rows
def none {H : Type} : Left H := { results := [], args := [] }

/- WHAT THE LISTED PACKAGE-LEVEL VARIABLES READ AS WHEN THE CALL BEGINS. Each datum BY PROGRAM (the guide's laid-datum.mjs) off the statement by which the dump's own 'gosem.cut.vars' lays the variable. In a bare row this is a premise. The card (YtjnnhhengpinmaaGreatDoorCards.lean) ties it to the program's text. -/
def laid_evergreen_digest_round {H : Type} : DataW H := .agg [.lit (.int .u32 1116352408), .lit (.int .u32 1899447441), .lit (.int .u32 3049323471), .lit (.int .u32 3921009573), .lit (.int .u32 961987163), .lit (.int .u32 1508970993), .lit (.int .u32 2453635748), .lit (.int .u32 2870763221), .lit (.int .u32 3624381080), .lit (.int .u32 310598401), .lit (.int .u32 607225278), .lit (.int .u32 1426881987), .lit (.int .u32 1925078388), .lit (.int .u32 2162078206), .lit (.int .u32 2614888103), .lit (.int .u32 3248222580), .lit (.int .u32 3835390401), .lit (.int .u32 4022224774), .lit (.int .u32 264347078), .lit (.int .u32 604807628), .lit (.int .u32 770255983), .lit (.int .u32 1249150122), .lit (.int .u32 1555081692), .lit (.int .u32 1996064986), .lit (.int .u32 2554220882), .lit (.int .u32 2821834349), .lit (.int .u32 2952996808), .lit (.int .u32 3210313671), .lit (.int .u32 3336571891), .lit (.int .u32 3584528711), .lit (.int .u32 113926993), .lit (.int .u32 338241895), .lit (.int .u32 666307205), .lit (.int .u32 773529912), .lit (.int .u32 1294757372), .lit (.int .u32 1396182291), .lit (.int .u32 1695183700), .lit (.int .u32 1986661051), .lit (.int .u32 2177026350), .lit (.int .u32 2456956037), .lit (.int .u32 2730485921), .lit (.int .u32 2820302411), .lit (.int .u32 3259730800), .lit (.int .u32 3345764771), .lit (.int .u32 3516065817), .lit (.int .u32 3600352804), .lit (.int .u32 4094571909), .lit (.int .u32 275423344), .lit (.int .u32 430227734), .lit (.int .u32 506948616), .lit (.int .u32 659060556), .lit (.int .u32 883997877), .lit (.int .u32 958139571), .lit (.int .u32 1322822218), .lit (.int .u32 1537002063), .lit (.int .u32 1747873779), .lit (.int .u32 1955562222), .lit (.int .u32 2024104815), .lit (.int .u32 2227730452), .lit (.int .u32 2361852424), .lit (.int .u32 2428436474), .lit (.int .u32 2756734187), .lit (.int .u32 3204031479), .lit (.int .u32 3329325298)]

/-- 'evergreenlaw14.ManifestMatchesReference': WHATEVER THE INPUT: true; the input reads as it did. -/
def manifestMatchesReferenceSpec : ChangeSpec := { name := "manifestMatchesReference", fn := fun _ => fun
  | [d1, d2, d3, d4, d5, d6, d7, d8] => { results := [.lit (.bool true)], args := [d1, d2, d3, d4, d5, d6, d7, d8] }
  | _ => none }
def manifestMatchesReferenceRow : OpenClaim := { program := "ytjnnhhengpinmaagreatdoor", sum := "a4d07d9d4028da1a4b5eaa2837e24498168300438ad98fdf2ae560d2750f0943", func := "evergreen/evergreenlaw14.ManifestMatchesReference", spec := "manifestMatchesReference", inPlace := ["internal/bytealg.IndexByteString", "internal/bytealg.IndexString", "internal/abi.NoEscape", "internal/bytealg.MakeNoZero"], unfollowed := true, recurses := true, named := ["evergreen/digest.round", "internal/bytealg.MaxLen"], apart := false, laid := [("evergreen/digest.round", laid_evergreen_digest_round)] }
def ManifestMatchesReferenceSaid : Prop := manifestMatchesReferenceRow.holds Tryz.pinned (OpenSpec.ofChange manifestMatchesReferenceSpec)

/-- ITS FALSE NEIGHBOUR: 'it returns false'. Refute it at one input. -/
def manifestMatchesReferenceWrong : ChangeSpec := { name := "manifestMatchesReference", fn := fun _ => fun
  | [d1, d2, d3, d4, d5, d6, d7, d8] => { results := [.lit (.bool false)], args := [d1, d2, d3, d4, d5, d6, d7, d8] }
  | _ => none }
def ManifestMatchesReferenceWrongFalsely : Prop := manifestMatchesReferenceRow.holds Tryz.pinned (OpenSpec.ofChange manifestMatchesReferenceWrong)

/-- 'evergreenlaw14.ManifestChecksMatchReference': WHATEVER THE INPUT: true; the input reads as it did. -/
def manifestChecksMatchReferenceSpec : ChangeSpec := { name := "manifestChecksMatchReference", fn := fun _ => fun
  | [d1, d2, d3, d4, d5, d6, d7, d8, d9] => { results := [.lit (.bool true)], args := [d1, d2, d3, d4, d5, d6, d7, d8, d9] }
  | _ => none }
def manifestChecksMatchReferenceRow : OpenClaim := { program := "ytjnnhhengpinmaagreatdoor", sum := "a4d07d9d4028da1a4b5eaa2837e24498168300438ad98fdf2ae560d2750f0943", func := "evergreen/evergreenlaw14.ManifestChecksMatchReference", spec := "manifestChecksMatchReference", inPlace := ["internal/bytealg.IndexByteString", "internal/bytealg.IndexString", "internal/abi.NoEscape", "internal/bytealg.MakeNoZero"], unfollowed := true, recurses := true, named := ["evergreen/digest.round", "internal/bytealg.MaxLen"], apart := false, laid := [("evergreen/digest.round", laid_evergreen_digest_round)] }
def ManifestChecksMatchReferenceSaid : Prop := manifestChecksMatchReferenceRow.holds Tryz.pinned (OpenSpec.ofChange manifestChecksMatchReferenceSpec)

/-- ITS FALSE NEIGHBOUR: 'it returns false'. Refute it at one input. -/
def manifestChecksMatchReferenceWrong : ChangeSpec := { name := "manifestChecksMatchReference", fn := fun _ => fun
  | [d1, d2, d3, d4, d5, d6, d7, d8, d9] => { results := [.lit (.bool false)], args := [d1, d2, d3, d4, d5, d6, d7, d8, d9] }
  | _ => none }
def ManifestChecksMatchReferenceWrongFalsely : Prop := manifestChecksMatchReferenceRow.holds Tryz.pinned (OpenSpec.ofChange manifestChecksMatchReferenceWrong)

/-- 'evergreenlaw14.ManifestDecodeMatchesReference': WHATEVER THE INPUT: true; the input reads as it did. -/
def manifestDecodeMatchesReferenceSpec : ChangeSpec := { name := "manifestDecodeMatchesReference", fn := fun _ => fun
  | [d] => { results := [.lit (.bool true)], args := [d] }
  | _ => none }
def manifestDecodeMatchesReferenceRow : OpenClaim := { program := "ytjnnhhengpinmaagreatdoor", sum := "a4d07d9d4028da1a4b5eaa2837e24498168300438ad98fdf2ae560d2750f0943", func := "evergreen/evergreenlaw14.ManifestDecodeMatchesReference", spec := "manifestDecodeMatchesReference", inPlace := ["internal/bytealg.IndexByteString", "internal/bytealg.IndexString", "internal/abi.NoEscape", "internal/bytealg.MakeNoZero"], unfollowed := true, recurses := true, named := ["evergreen/digest.round", "internal/bytealg.MaxLen"], apart := false, laid := [("evergreen/digest.round", laid_evergreen_digest_round)] }
def ManifestDecodeMatchesReferenceSaid : Prop := manifestDecodeMatchesReferenceRow.holds Tryz.pinned (OpenSpec.ofChange manifestDecodeMatchesReferenceSpec)

/-- ITS FALSE NEIGHBOUR: 'it returns false'. Refute it at one input. -/
def manifestDecodeMatchesReferenceWrong : ChangeSpec := { name := "manifestDecodeMatchesReference", fn := fun _ => fun
  | [d] => { results := [.lit (.bool false)], args := [d] }
  | _ => none }
def ManifestDecodeMatchesReferenceWrongFalsely : Prop := manifestDecodeMatchesReferenceRow.holds Tryz.pinned (OpenSpec.ofChange manifestDecodeMatchesReferenceWrong)

/-- 'evergreenlaw14.ManifestRoundTrip': WHATEVER THE INPUT: true; the input reads as it did. -/
def manifestRoundTripSpec : ChangeSpec := { name := "manifestRoundTrip", fn := fun _ => fun
  | [d1, d2, d3, d4, d5] => { results := [.lit (.bool true)], args := [d1, d2, d3, d4, d5] }
  | _ => none }
def manifestRoundTripRow : OpenClaim := { program := "ytjnnhhengpinmaagreatdoor", sum := "a4d07d9d4028da1a4b5eaa2837e24498168300438ad98fdf2ae560d2750f0943", func := "evergreen/evergreenlaw14.ManifestRoundTrip", spec := "manifestRoundTrip", inPlace := ["internal/bytealg.IndexByteString", "internal/bytealg.IndexString", "internal/abi.NoEscape", "internal/bytealg.MakeNoZero"], unfollowed := true, recurses := true, named := ["evergreen/digest.round", "internal/bytealg.MaxLen"], apart := false, laid := [("evergreen/digest.round", laid_evergreen_digest_round)] }
def ManifestRoundTripSaid : Prop := manifestRoundTripRow.holds Tryz.pinned (OpenSpec.ofChange manifestRoundTripSpec)

/-- ITS FALSE NEIGHBOUR: 'it returns false'. Refute it at one input. -/
def manifestRoundTripWrong : ChangeSpec := { name := "manifestRoundTrip", fn := fun _ => fun
  | [d1, d2, d3, d4, d5] => { results := [.lit (.bool false)], args := [d1, d2, d3, d4, d5] }
  | _ => none }
def ManifestRoundTripWrongFalsely : Prop := manifestRoundTripRow.holds Tryz.pinned (OpenSpec.ofChange manifestRoundTripWrong)

/-- 'evergreenlaw14.ManifestProved': WHATEVER THE INPUT: true; the input reads as it did. -/
def manifestProvedSpec : ChangeSpec := { name := "manifestProved", fn := fun _ => fun
  | [d1, d2, d3] => { results := [.lit (.bool true)], args := [d1, d2, d3] }
  | _ => none }
def manifestProvedRow : OpenClaim := { program := "ytjnnhhengpinmaagreatdoor", sum := "a4d07d9d4028da1a4b5eaa2837e24498168300438ad98fdf2ae560d2750f0943", func := "evergreen/evergreenlaw14.ManifestProved", spec := "manifestProved", inPlace := ["internal/bytealg.IndexByteString", "internal/bytealg.IndexString", "internal/abi.NoEscape", "internal/bytealg.MakeNoZero"], unfollowed := true, recurses := true, named := ["evergreen/digest.round", "internal/bytealg.MaxLen"], apart := false, laid := [("evergreen/digest.round", laid_evergreen_digest_round)] }
def ManifestProvedSaid : Prop := manifestProvedRow.holds Tryz.pinned (OpenSpec.ofChange manifestProvedSpec)

/-- ITS FALSE NEIGHBOUR: 'it returns false'. Refute it at one input. -/
def manifestProvedWrong : ChangeSpec := { name := "manifestProved", fn := fun _ => fun
  | [d1, d2, d3] => { results := [.lit (.bool false)], args := [d1, d2, d3] }
  | _ => none }
def ManifestProvedWrongFalsely : Prop := manifestProvedRow.holds Tryz.pinned (OpenSpec.ofChange manifestProvedWrong)

/-- 'evergreenlaw14.ManifestBinding': WHATEVER THE INPUT: true; the input reads as it did. -/
def manifestBindingSpec : ChangeSpec := { name := "manifestBinding", fn := fun _ => fun
  | [d1, d2, d3, d4, d5, d6, d7] => { results := [.lit (.bool true)], args := [d1, d2, d3, d4, d5, d6, d7] }
  | _ => none }
def manifestBindingRow : OpenClaim := { program := "ytjnnhhengpinmaagreatdoor", sum := "a4d07d9d4028da1a4b5eaa2837e24498168300438ad98fdf2ae560d2750f0943", func := "evergreen/evergreenlaw14.ManifestBinding", spec := "manifestBinding", inPlace := ["internal/bytealg.IndexByteString", "internal/bytealg.IndexString", "internal/abi.NoEscape", "internal/bytealg.MakeNoZero"], unfollowed := true, recurses := true, named := ["evergreen/digest.round", "internal/bytealg.MaxLen"], apart := false, laid := [("evergreen/digest.round", laid_evergreen_digest_round)] }
def ManifestBindingSaid : Prop := manifestBindingRow.holds Tryz.pinned (OpenSpec.ofChange manifestBindingSpec)

/-- ITS FALSE NEIGHBOUR: 'it returns false'. Refute it at one input. -/
def manifestBindingWrong : ChangeSpec := { name := "manifestBinding", fn := fun _ => fun
  | [d1, d2, d3, d4, d5, d6, d7] => { results := [.lit (.bool false)], args := [d1, d2, d3, d4, d5, d6, d7] }
  | _ => none }
def ManifestBindingWrongFalsely : Prop := manifestBindingRow.holds Tryz.pinned (OpenSpec.ofChange manifestBindingWrong)

/-- 'evergreenlaw14.ManifestRoots': WHATEVER THE INPUT: true; the input reads as it did. -/
def manifestRootsSpec : ChangeSpec := { name := "manifestRoots", fn := fun _ => fun
  | [d1, d2, d3, d4, d5, d6] => { results := [.lit (.bool true)], args := [d1, d2, d3, d4, d5, d6] }
  | _ => none }
def manifestRootsRow : OpenClaim := { program := "ytjnnhhengpinmaagreatdoor", sum := "a4d07d9d4028da1a4b5eaa2837e24498168300438ad98fdf2ae560d2750f0943", func := "evergreen/evergreenlaw14.ManifestRoots", spec := "manifestRoots", inPlace := ["internal/bytealg.IndexByteString", "internal/bytealg.IndexString", "internal/abi.NoEscape", "internal/bytealg.MakeNoZero"], unfollowed := true, recurses := true, named := ["evergreen/digest.round", "internal/bytealg.MaxLen"], apart := false, laid := [("evergreen/digest.round", laid_evergreen_digest_round)] }
def ManifestRootsSaid : Prop := manifestRootsRow.holds Tryz.pinned (OpenSpec.ofChange manifestRootsSpec)

/-- ITS FALSE NEIGHBOUR: 'it returns false'. Refute it at one input. -/
def manifestRootsWrong : ChangeSpec := { name := "manifestRoots", fn := fun _ => fun
  | [d1, d2, d3, d4, d5, d6] => { results := [.lit (.bool false)], args := [d1, d2, d3, d4, d5, d6] }
  | _ => none }
def ManifestRootsWrongFalsely : Prop := manifestRootsRow.holds Tryz.pinned (OpenSpec.ofChange manifestRootsWrong)

/-- 'evergreenlaw14.ManifestFixity': WHATEVER THE INPUT: true; the input reads as it did. -/
def manifestFixitySpec : ChangeSpec := { name := "manifestFixity", fn := fun _ => fun
  | [d1, d2, d3] => { results := [.lit (.bool true)], args := [d1, d2, d3] }
  | _ => none }
def manifestFixityRow : OpenClaim := { program := "ytjnnhhengpinmaagreatdoor", sum := "a4d07d9d4028da1a4b5eaa2837e24498168300438ad98fdf2ae560d2750f0943", func := "evergreen/evergreenlaw14.ManifestFixity", spec := "manifestFixity", inPlace := ["internal/bytealg.IndexByteString", "internal/bytealg.IndexString", "internal/abi.NoEscape", "internal/bytealg.MakeNoZero"], unfollowed := true, recurses := true, named := ["evergreen/digest.round", "internal/bytealg.MaxLen"], apart := false, laid := [("evergreen/digest.round", laid_evergreen_digest_round)] }
def ManifestFixitySaid : Prop := manifestFixityRow.holds Tryz.pinned (OpenSpec.ofChange manifestFixitySpec)

/-- ITS FALSE NEIGHBOUR: 'it returns false'. Refute it at one input. -/
def manifestFixityWrong : ChangeSpec := { name := "manifestFixity", fn := fun _ => fun
  | [d1, d2, d3] => { results := [.lit (.bool false)], args := [d1, d2, d3] }
  | _ => none }
def ManifestFixityWrongFalsely : Prop := manifestFixityRow.holds Tryz.pinned (OpenSpec.ofChange manifestFixityWrong)

/-- 'evergreenlaw14.ManifestOrder': WHATEVER THE INPUT: true; the input reads as it did. -/
def manifestOrderSpec : ChangeSpec := { name := "manifestOrder", fn := fun _ => fun
  | [d1, d2, d3] => { results := [.lit (.bool true)], args := [d1, d2, d3] }
  | _ => none }
def manifestOrderRow : OpenClaim := { program := "ytjnnhhengpinmaagreatdoor", sum := "a4d07d9d4028da1a4b5eaa2837e24498168300438ad98fdf2ae560d2750f0943", func := "evergreen/evergreenlaw14.ManifestOrder", spec := "manifestOrder", inPlace := ["internal/bytealg.IndexByteString", "internal/bytealg.IndexString", "internal/abi.NoEscape", "internal/bytealg.MakeNoZero"], unfollowed := true, recurses := true, named := ["evergreen/digest.round", "internal/bytealg.MaxLen"], apart := false, laid := [("evergreen/digest.round", laid_evergreen_digest_round)] }
def ManifestOrderSaid : Prop := manifestOrderRow.holds Tryz.pinned (OpenSpec.ofChange manifestOrderSpec)

/-- ITS FALSE NEIGHBOUR: 'it returns false'. Refute it at one input. -/
def manifestOrderWrong : ChangeSpec := { name := "manifestOrder", fn := fun _ => fun
  | [d1, d2, d3] => { results := [.lit (.bool false)], args := [d1, d2, d3] }
  | _ => none }
def ManifestOrderWrongFalsely : Prop := manifestOrderRow.holds Tryz.pinned (OpenSpec.ofChange manifestOrderWrong)

/-- 'evergreenlaw14.ManifestPaths': WHATEVER THE INPUT: true; the input reads as it did. -/
def manifestPathsSpec : ChangeSpec := { name := "manifestPaths", fn := fun _ => fun
  | [d1, d2] => { results := [.lit (.bool true)], args := [d1, d2] }
  | _ => none }
def manifestPathsRow : OpenClaim := { program := "ytjnnhhengpinmaagreatdoor", sum := "a4d07d9d4028da1a4b5eaa2837e24498168300438ad98fdf2ae560d2750f0943", func := "evergreen/evergreenlaw14.ManifestPaths", spec := "manifestPaths", inPlace := ["internal/bytealg.IndexByteString", "internal/bytealg.IndexString", "internal/abi.NoEscape", "internal/bytealg.MakeNoZero"], unfollowed := true, recurses := true, named := ["evergreen/digest.round", "internal/bytealg.MaxLen"], apart := false, laid := [("evergreen/digest.round", laid_evergreen_digest_round)] }
def ManifestPathsSaid : Prop := manifestPathsRow.holds Tryz.pinned (OpenSpec.ofChange manifestPathsSpec)

/-- ITS FALSE NEIGHBOUR: 'it returns false'. Refute it at one input. -/
def manifestPathsWrong : ChangeSpec := { name := "manifestPaths", fn := fun _ => fun
  | [d1, d2] => { results := [.lit (.bool false)], args := [d1, d2] }
  | _ => none }
def ManifestPathsWrongFalsely : Prop := manifestPathsRow.holds Tryz.pinned (OpenSpec.ofChange manifestPathsWrong)

/- THE SECOND FORM. 'bulk': how many values and letters a reading holds, each counted each time it is reached (what is shared counts as often as it is met; a slice's spare places count too). A statement '..UptoSaid' is the law's where the arguments, and the package variables that the reading takes, are together of bulk at most 1048576: NARROWER than '..Said'. Prove '..Said' where nothing that the law and all that it calls make is longer than what came in: it says more and counts as full. Else prove '..UptoSaid'. A law counts once. -/
mutual
def uptoBulk {H : Type} : DataW H → Nat
  | .lit (.string bytes) => bytes.length + 1
  | .lit _ => 1
  | .nil => 1
  | .ptr d => uptoBulk d + 1
  | .slice elems spare => uptoBulkAll elems + uptoBulkAll spare + 1
  | .agg parts => uptoBulkAll parts + 1
  | .iface _ d => uptoBulk d + 1
  | .map entries => uptoBulkEntries entries + 1
  | .held _ => 1
def uptoBulkAll {H : Type} : List (DataW H) → Nat
  | [] => 0
  | d :: r => uptoBulk d + uptoBulkAll r
def uptoBulkEntries {H : Type} : List (Lit × DataW H) → Nat
  | [] => 0
  | x :: r => uptoBulkEntry x + uptoBulkEntries r
def uptoBulkEntry {H : Type} : Lit × DataW H → Nat
  | (.string bytes, d) => bytes.length + uptoBulk d + 1
  | (_, d) => uptoBulk d + 1
 end
def uptoSmall : (H : Type) → List (DataW H) → Bool := fun _ ds => decide (uptoBulkAll ds ≤ 1048576)
def OpenSpec.upto (s : _root_.Go.ChangeSpec) : _root_.Go.OpenSpec := { _root_.Go.OpenSpec.ofChange s with cond := some uptoSmall }

/-- 'evergreenlaw14.ManifestMatchesReference', WHERE WHAT IT READS IS OF BULK AT MOST 1048576: true; the input reads as it did. -/
def manifestMatchesReferenceUptoRow : OpenClaim := { program := "ytjnnhhengpinmaagreatdoor", sum := "a4d07d9d4028da1a4b5eaa2837e24498168300438ad98fdf2ae560d2750f0943", func := "evergreen/evergreenlaw14.ManifestMatchesReference", spec := "manifestMatchesReference", inPlace := ["internal/bytealg.IndexByteString", "internal/bytealg.IndexString", "internal/abi.NoEscape", "internal/bytealg.MakeNoZero"], unfollowed := true, recurses := true, named := ["evergreen/digest.round", "internal/bytealg.MaxLen"], apart := false, laid := [("evergreen/digest.round", laid_evergreen_digest_round)], narrowed := true }
def ManifestMatchesReferenceUptoSaid : Prop := manifestMatchesReferenceUptoRow.holds Tryz.pinned (OpenSpec.upto manifestMatchesReferenceSpec)

/-- 'evergreenlaw14.ManifestChecksMatchReference', WHERE WHAT IT READS IS OF BULK AT MOST 1048576: true; the input reads as it did. -/
def manifestChecksMatchReferenceUptoRow : OpenClaim := { program := "ytjnnhhengpinmaagreatdoor", sum := "a4d07d9d4028da1a4b5eaa2837e24498168300438ad98fdf2ae560d2750f0943", func := "evergreen/evergreenlaw14.ManifestChecksMatchReference", spec := "manifestChecksMatchReference", inPlace := ["internal/bytealg.IndexByteString", "internal/bytealg.IndexString", "internal/abi.NoEscape", "internal/bytealg.MakeNoZero"], unfollowed := true, recurses := true, named := ["evergreen/digest.round", "internal/bytealg.MaxLen"], apart := false, laid := [("evergreen/digest.round", laid_evergreen_digest_round)], narrowed := true }
def ManifestChecksMatchReferenceUptoSaid : Prop := manifestChecksMatchReferenceUptoRow.holds Tryz.pinned (OpenSpec.upto manifestChecksMatchReferenceSpec)

/-- 'evergreenlaw14.ManifestDecodeMatchesReference', WHERE WHAT IT READS IS OF BULK AT MOST 1048576: true; the input reads as it did. -/
def manifestDecodeMatchesReferenceUptoRow : OpenClaim := { program := "ytjnnhhengpinmaagreatdoor", sum := "a4d07d9d4028da1a4b5eaa2837e24498168300438ad98fdf2ae560d2750f0943", func := "evergreen/evergreenlaw14.ManifestDecodeMatchesReference", spec := "manifestDecodeMatchesReference", inPlace := ["internal/bytealg.IndexByteString", "internal/bytealg.IndexString", "internal/abi.NoEscape", "internal/bytealg.MakeNoZero"], unfollowed := true, recurses := true, named := ["evergreen/digest.round", "internal/bytealg.MaxLen"], apart := false, laid := [("evergreen/digest.round", laid_evergreen_digest_round)], narrowed := true }
def ManifestDecodeMatchesReferenceUptoSaid : Prop := manifestDecodeMatchesReferenceUptoRow.holds Tryz.pinned (OpenSpec.upto manifestDecodeMatchesReferenceSpec)

/-- 'evergreenlaw14.ManifestRoundTrip', WHERE WHAT IT READS IS OF BULK AT MOST 1048576: true; the input reads as it did. -/
def manifestRoundTripUptoRow : OpenClaim := { program := "ytjnnhhengpinmaagreatdoor", sum := "a4d07d9d4028da1a4b5eaa2837e24498168300438ad98fdf2ae560d2750f0943", func := "evergreen/evergreenlaw14.ManifestRoundTrip", spec := "manifestRoundTrip", inPlace := ["internal/bytealg.IndexByteString", "internal/bytealg.IndexString", "internal/abi.NoEscape", "internal/bytealg.MakeNoZero"], unfollowed := true, recurses := true, named := ["evergreen/digest.round", "internal/bytealg.MaxLen"], apart := false, laid := [("evergreen/digest.round", laid_evergreen_digest_round)], narrowed := true }
def ManifestRoundTripUptoSaid : Prop := manifestRoundTripUptoRow.holds Tryz.pinned (OpenSpec.upto manifestRoundTripSpec)

/-- 'evergreenlaw14.ManifestProved', WHERE WHAT IT READS IS OF BULK AT MOST 1048576: true; the input reads as it did. -/
def manifestProvedUptoRow : OpenClaim := { program := "ytjnnhhengpinmaagreatdoor", sum := "a4d07d9d4028da1a4b5eaa2837e24498168300438ad98fdf2ae560d2750f0943", func := "evergreen/evergreenlaw14.ManifestProved", spec := "manifestProved", inPlace := ["internal/bytealg.IndexByteString", "internal/bytealg.IndexString", "internal/abi.NoEscape", "internal/bytealg.MakeNoZero"], unfollowed := true, recurses := true, named := ["evergreen/digest.round", "internal/bytealg.MaxLen"], apart := false, laid := [("evergreen/digest.round", laid_evergreen_digest_round)], narrowed := true }
def ManifestProvedUptoSaid : Prop := manifestProvedUptoRow.holds Tryz.pinned (OpenSpec.upto manifestProvedSpec)

/-- 'evergreenlaw14.ManifestBinding', WHERE WHAT IT READS IS OF BULK AT MOST 1048576: true; the input reads as it did. -/
def manifestBindingUptoRow : OpenClaim := { program := "ytjnnhhengpinmaagreatdoor", sum := "a4d07d9d4028da1a4b5eaa2837e24498168300438ad98fdf2ae560d2750f0943", func := "evergreen/evergreenlaw14.ManifestBinding", spec := "manifestBinding", inPlace := ["internal/bytealg.IndexByteString", "internal/bytealg.IndexString", "internal/abi.NoEscape", "internal/bytealg.MakeNoZero"], unfollowed := true, recurses := true, named := ["evergreen/digest.round", "internal/bytealg.MaxLen"], apart := false, laid := [("evergreen/digest.round", laid_evergreen_digest_round)], narrowed := true }
def ManifestBindingUptoSaid : Prop := manifestBindingUptoRow.holds Tryz.pinned (OpenSpec.upto manifestBindingSpec)

/-- 'evergreenlaw14.ManifestRoots', WHERE WHAT IT READS IS OF BULK AT MOST 1048576: true; the input reads as it did. -/
def manifestRootsUptoRow : OpenClaim := { program := "ytjnnhhengpinmaagreatdoor", sum := "a4d07d9d4028da1a4b5eaa2837e24498168300438ad98fdf2ae560d2750f0943", func := "evergreen/evergreenlaw14.ManifestRoots", spec := "manifestRoots", inPlace := ["internal/bytealg.IndexByteString", "internal/bytealg.IndexString", "internal/abi.NoEscape", "internal/bytealg.MakeNoZero"], unfollowed := true, recurses := true, named := ["evergreen/digest.round", "internal/bytealg.MaxLen"], apart := false, laid := [("evergreen/digest.round", laid_evergreen_digest_round)], narrowed := true }
def ManifestRootsUptoSaid : Prop := manifestRootsUptoRow.holds Tryz.pinned (OpenSpec.upto manifestRootsSpec)

/-- 'evergreenlaw14.ManifestFixity', WHERE WHAT IT READS IS OF BULK AT MOST 1048576: true; the input reads as it did. -/
def manifestFixityUptoRow : OpenClaim := { program := "ytjnnhhengpinmaagreatdoor", sum := "a4d07d9d4028da1a4b5eaa2837e24498168300438ad98fdf2ae560d2750f0943", func := "evergreen/evergreenlaw14.ManifestFixity", spec := "manifestFixity", inPlace := ["internal/bytealg.IndexByteString", "internal/bytealg.IndexString", "internal/abi.NoEscape", "internal/bytealg.MakeNoZero"], unfollowed := true, recurses := true, named := ["evergreen/digest.round", "internal/bytealg.MaxLen"], apart := false, laid := [("evergreen/digest.round", laid_evergreen_digest_round)], narrowed := true }
def ManifestFixityUptoSaid : Prop := manifestFixityUptoRow.holds Tryz.pinned (OpenSpec.upto manifestFixitySpec)

/-- 'evergreenlaw14.ManifestOrder', WHERE WHAT IT READS IS OF BULK AT MOST 1048576: true; the input reads as it did. -/
def manifestOrderUptoRow : OpenClaim := { program := "ytjnnhhengpinmaagreatdoor", sum := "a4d07d9d4028da1a4b5eaa2837e24498168300438ad98fdf2ae560d2750f0943", func := "evergreen/evergreenlaw14.ManifestOrder", spec := "manifestOrder", inPlace := ["internal/bytealg.IndexByteString", "internal/bytealg.IndexString", "internal/abi.NoEscape", "internal/bytealg.MakeNoZero"], unfollowed := true, recurses := true, named := ["evergreen/digest.round", "internal/bytealg.MaxLen"], apart := false, laid := [("evergreen/digest.round", laid_evergreen_digest_round)], narrowed := true }
def ManifestOrderUptoSaid : Prop := manifestOrderUptoRow.holds Tryz.pinned (OpenSpec.upto manifestOrderSpec)

/-- 'evergreenlaw14.ManifestPaths', WHERE WHAT IT READS IS OF BULK AT MOST 1048576: true; the input reads as it did. -/
def manifestPathsUptoRow : OpenClaim := { program := "ytjnnhhengpinmaagreatdoor", sum := "a4d07d9d4028da1a4b5eaa2837e24498168300438ad98fdf2ae560d2750f0943", func := "evergreen/evergreenlaw14.ManifestPaths", spec := "manifestPaths", inPlace := ["internal/bytealg.IndexByteString", "internal/bytealg.IndexString", "internal/abi.NoEscape", "internal/bytealg.MakeNoZero"], unfollowed := true, recurses := true, named := ["evergreen/digest.round", "internal/bytealg.MaxLen"], apart := false, laid := [("evergreen/digest.round", laid_evergreen_digest_round)], narrowed := true }
def ManifestPathsUptoSaid : Prop := manifestPathsUptoRow.holds Tryz.pinned (OpenSpec.upto manifestPathsSpec)

end Rows
end Go.Proofs.YtjnnhhengpinmaaGreatDoor
