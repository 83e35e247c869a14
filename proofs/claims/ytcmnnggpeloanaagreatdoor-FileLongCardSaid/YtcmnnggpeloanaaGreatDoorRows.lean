/-
  NARROWER THAN 'FOR EVERY INPUT', by the rows' own cells (each row's printed sentence says how): GzipFeeds: laid · GzipAlls: laid · FileTypes: laid · FileLong: laid · FileExtracts: laid · FileNested: laid.
  DERIVED. THE GIVEN ROWS OF THIS SEAT. 6 by the template 'for every input the law returns true; each argument reads behind the call as it read before'; 0 by the template 'total and deterministic' (their statements: YtcmnnggpeloanaaGreatDoorTotals.lean).
  GIVEN WITH THE SEED: the statements are not yours to turn. If you find one false, say at which input.
  Laid BY PROGRAM, IN A SANDBOX (cutbox-rows.mjs): the forced cells as the released guide's own fill.sh prints them over the translation cbf0f5c6b830b738… (all of the seat's roots in one cut). By AI agents, Wed Nov 11 2026. No macro, syntax, notation, axiom, sorry.
-/
import Derived.Test.YtcmnnggpeloanaaGreatDoorChecked
import GoSem.Claim
import GoSem.ClaimJoined
import GoSem.ClaimMapViews
import Derived.JoinedTies
import Derived.KernelRfl
namespace Go.Proofs.YtcmnnggpeloanaaGreatDoor
/- THE CELL 'sum', in the pinned program and in every row, IS THE sha256 OF THE DUMP (.gsa) THAT YtcmnnggpeloanaaGreatDoorProg.lean LOADS. Nothing in Lean hashes anything: it is a label: what it is worth is what the hold of that sum in a sandbox is worth. -/
noncomputable def Tryz.pinned : Pinned := { name := "ytcmnnggpeloanaagreatdoor", sum := "cbf0f5c6b830b7380c8cbfa73dc3017b772533a11df113f84d532b569674bfa9", checked := Tryz.checked }
namespace Rows
def none {H : Type} : Left H := { results := [], args := [] }

/- WHAT THE LISTED PACKAGE-LEVEL VARIABLES READ AS WHEN THE CALL BEGINS. Each datum BY PROGRAM (the guide's laid-datum.mjs) off the statement by which the dump's own 'gosem.cut.vars' lays the variable. In a bare row this is a premise. The card (YtcmnnggpeloanaaGreatDoorCards.lean) ties it to the program's text. -/
def laid_bytes_ErrTooLarge {H : Type} : DataW H := .iface "*errors.errorString" (.ptr (.agg [.lit (.string [98, 121, 116, 101, 115, 46, 66, 117, 102, 102, 101, 114, 58, 32, 116, 111, 111, 32, 108, 97, 114, 103, 101])]))
def laid_intrusion_inflate_order {H : Type} : DataW H := .agg [.lit (.int .i64 16), .lit (.int .i64 17), .lit (.int .i64 18), .lit (.int .i64 0), .lit (.int .i64 8), .lit (.int .i64 7), .lit (.int .i64 9), .lit (.int .i64 6), .lit (.int .i64 10), .lit (.int .i64 5), .lit (.int .i64 11), .lit (.int .i64 4), .lit (.int .i64 12), .lit (.int .i64 3), .lit (.int .i64 13), .lit (.int .i64 2), .lit (.int .i64 14), .lit (.int .i64 1), .lit (.int .i64 15)]
def laid_intrusion_digest_constants {H : Type} : DataW H := .agg [.lit (.int .u32 1116352408), .lit (.int .u32 1899447441), .lit (.int .u32 3049323471), .lit (.int .u32 3921009573), .lit (.int .u32 961987163), .lit (.int .u32 1508970993), .lit (.int .u32 2453635748), .lit (.int .u32 2870763221), .lit (.int .u32 3624381080), .lit (.int .u32 310598401), .lit (.int .u32 607225278), .lit (.int .u32 1426881987), .lit (.int .u32 1925078388), .lit (.int .u32 2162078206), .lit (.int .u32 2614888103), .lit (.int .u32 3248222580), .lit (.int .u32 3835390401), .lit (.int .u32 4022224774), .lit (.int .u32 264347078), .lit (.int .u32 604807628), .lit (.int .u32 770255983), .lit (.int .u32 1249150122), .lit (.int .u32 1555081692), .lit (.int .u32 1996064986), .lit (.int .u32 2554220882), .lit (.int .u32 2821834349), .lit (.int .u32 2952996808), .lit (.int .u32 3210313671), .lit (.int .u32 3336571891), .lit (.int .u32 3584528711), .lit (.int .u32 113926993), .lit (.int .u32 338241895), .lit (.int .u32 666307205), .lit (.int .u32 773529912), .lit (.int .u32 1294757372), .lit (.int .u32 1396182291), .lit (.int .u32 1695183700), .lit (.int .u32 1986661051), .lit (.int .u32 2177026350), .lit (.int .u32 2456956037), .lit (.int .u32 2730485921), .lit (.int .u32 2820302411), .lit (.int .u32 3259730800), .lit (.int .u32 3345764771), .lit (.int .u32 3516065817), .lit (.int .u32 3600352804), .lit (.int .u32 4094571909), .lit (.int .u32 275423344), .lit (.int .u32 430227734), .lit (.int .u32 506948616), .lit (.int .u32 659060556), .lit (.int .u32 883997877), .lit (.int .u32 958139571), .lit (.int .u32 1322822218), .lit (.int .u32 1537002063), .lit (.int .u32 1747873779), .lit (.int .u32 1955562222), .lit (.int .u32 2024104815), .lit (.int .u32 2227730452), .lit (.int .u32 2361852424), .lit (.int .u32 2428436474), .lit (.int .u32 2756734187), .lit (.int .u32 3204031479), .lit (.int .u32 3329325298)]

/-- 'intrusionlaw38.GzipFeeds': WHATEVER THE INPUT: true; the input reads as it did. -/
def gzipFeedsSpec : ChangeSpec := { name := "gzipFeeds", fn := fun _ => fun
  | [d1, d2] => { results := [.lit (.bool true)], args := [d1, d2] }
  | _ => none }
def gzipFeedsRow : OpenClaim := { program := "ytcmnnggpeloanaagreatdoor", sum := "cbf0f5c6b830b7380c8cbfa73dc3017b772533a11df113f84d532b569674bfa9", func := "intrusion/intrusionlaw38.GzipFeeds", spec := "gzipFeeds", inPlace := ["internal/bytealg.IndexByteString", "internal/bytealg.IndexString", "internal/abi.NoEscape"], unfollowed := true, recurses := true, named := ["internal/bytealg.MaxLen", "bytes.ErrTooLarge", "intrusion/inflate.order"], apart := false, laid := [("bytes.ErrTooLarge", laid_bytes_ErrTooLarge), ("intrusion/inflate.order", laid_intrusion_inflate_order)] }
def GzipFeedsSaid : Prop := gzipFeedsRow.holds Tryz.pinned (OpenSpec.ofChange gzipFeedsSpec)

/-- ITS FALSE NEIGHBOUR: 'it returns false'. Refute it at one input. -/
def gzipFeedsWrong : ChangeSpec := { name := "gzipFeeds", fn := fun _ => fun
  | [d1, d2] => { results := [.lit (.bool false)], args := [d1, d2] }
  | _ => none }
def GzipFeedsWrongFalsely : Prop := gzipFeedsRow.holds Tryz.pinned (OpenSpec.ofChange gzipFeedsWrong)

/-- 'intrusionlaw38.GzipAlls': WHATEVER THE INPUT: true; the input reads as it did. -/
def gzipAllsSpec : ChangeSpec := { name := "gzipAlls", fn := fun _ => fun
  | [d1, d2] => { results := [.lit (.bool true)], args := [d1, d2] }
  | _ => none }
def gzipAllsRow : OpenClaim := { program := "ytcmnnggpeloanaagreatdoor", sum := "cbf0f5c6b830b7380c8cbfa73dc3017b772533a11df113f84d532b569674bfa9", func := "intrusion/intrusionlaw38.GzipAlls", spec := "gzipAlls", inPlace := ["internal/bytealg.IndexByteString", "internal/bytealg.IndexString", "internal/abi.NoEscape"], unfollowed := true, recurses := true, named := ["internal/bytealg.MaxLen", "bytes.ErrTooLarge", "intrusion/inflate.order"], apart := false, laid := [("bytes.ErrTooLarge", laid_bytes_ErrTooLarge), ("intrusion/inflate.order", laid_intrusion_inflate_order)] }
def GzipAllsSaid : Prop := gzipAllsRow.holds Tryz.pinned (OpenSpec.ofChange gzipAllsSpec)

/-- ITS FALSE NEIGHBOUR: 'it returns false'. Refute it at one input. -/
def gzipAllsWrong : ChangeSpec := { name := "gzipAlls", fn := fun _ => fun
  | [d1, d2] => { results := [.lit (.bool false)], args := [d1, d2] }
  | _ => none }
def GzipAllsWrongFalsely : Prop := gzipAllsRow.holds Tryz.pinned (OpenSpec.ofChange gzipAllsWrong)

/-- 'intrusionlaw39.FileTypes': WHATEVER THE INPUT: true; the input reads as it did. -/
def fileTypesSpec : ChangeSpec := { name := "fileTypes", fn := fun _ => fun
  | [d] => { results := [.lit (.bool true)], args := [d] }
  | _ => none }
def fileTypesRow : OpenClaim := { program := "ytcmnnggpeloanaagreatdoor", sum := "cbf0f5c6b830b7380c8cbfa73dc3017b772533a11df113f84d532b569674bfa9", func := "intrusion/intrusionlaw39.FileTypes", spec := "fileTypes", unfollowed := true, recurses := true, named := ["intrusion/digest.constants"], apart := false, laid := [("intrusion/digest.constants", laid_intrusion_digest_constants)] }
def FileTypesSaid : Prop := fileTypesRow.holds Tryz.pinned (OpenSpec.ofChange fileTypesSpec)

/-- ITS FALSE NEIGHBOUR: 'it returns false'. Refute it at one input. -/
def fileTypesWrong : ChangeSpec := { name := "fileTypes", fn := fun _ => fun
  | [d] => { results := [.lit (.bool false)], args := [d] }
  | _ => none }
def FileTypesWrongFalsely : Prop := fileTypesRow.holds Tryz.pinned (OpenSpec.ofChange fileTypesWrong)

/-- 'intrusionlaw39.FileLong': WHATEVER THE INPUT: true; the input reads as it did. -/
def fileLongSpec : ChangeSpec := { name := "fileLong", fn := fun _ => fun
  | [d1, d2] => { results := [.lit (.bool true)], args := [d1, d2] }
  | _ => none }
def fileLongRow : OpenClaim := { program := "ytcmnnggpeloanaagreatdoor", sum := "cbf0f5c6b830b7380c8cbfa73dc3017b772533a11df113f84d532b569674bfa9", func := "intrusion/intrusionlaw39.FileLong", spec := "fileLong", unfollowed := true, recurses := true, named := ["intrusion/digest.constants"], apart := false, laid := [("intrusion/digest.constants", laid_intrusion_digest_constants)] }
def FileLongSaid : Prop := fileLongRow.holds Tryz.pinned (OpenSpec.ofChange fileLongSpec)

/-- ITS FALSE NEIGHBOUR: 'it returns false'. Refute it at one input. -/
def fileLongWrong : ChangeSpec := { name := "fileLong", fn := fun _ => fun
  | [d1, d2] => { results := [.lit (.bool false)], args := [d1, d2] }
  | _ => none }
def FileLongWrongFalsely : Prop := fileLongRow.holds Tryz.pinned (OpenSpec.ofChange fileLongWrong)

/-- 'intrusionlaw39.FileExtracts': WHATEVER THE INPUT: true; the input reads as it did. -/
def fileExtractsSpec : ChangeSpec := { name := "fileExtracts", fn := fun _ => fun
  | [d1, d2, d3] => { results := [.lit (.bool true)], args := [d1, d2, d3] }
  | _ => none }
def fileExtractsRow : OpenClaim := { program := "ytcmnnggpeloanaagreatdoor", sum := "cbf0f5c6b830b7380c8cbfa73dc3017b772533a11df113f84d532b569674bfa9", func := "intrusion/intrusionlaw39.FileExtracts", spec := "fileExtracts", unfollowed := true, recurses := true, named := ["intrusion/digest.constants"], apart := false, laid := [("intrusion/digest.constants", laid_intrusion_digest_constants)] }
def FileExtractsSaid : Prop := fileExtractsRow.holds Tryz.pinned (OpenSpec.ofChange fileExtractsSpec)

/-- ITS FALSE NEIGHBOUR: 'it returns false'. Refute it at one input. -/
def fileExtractsWrong : ChangeSpec := { name := "fileExtracts", fn := fun _ => fun
  | [d1, d2, d3] => { results := [.lit (.bool false)], args := [d1, d2, d3] }
  | _ => none }
def FileExtractsWrongFalsely : Prop := fileExtractsRow.holds Tryz.pinned (OpenSpec.ofChange fileExtractsWrong)

/-- 'intrusionlaw39.FileNested': WHATEVER THE INPUT: true; the input reads as it did. -/
def fileNestedSpec : ChangeSpec := { name := "fileNested", fn := fun _ => fun
  | [d1, d2] => { results := [.lit (.bool true)], args := [d1, d2] }
  | _ => none }
def fileNestedRow : OpenClaim := { program := "ytcmnnggpeloanaagreatdoor", sum := "cbf0f5c6b830b7380c8cbfa73dc3017b772533a11df113f84d532b569674bfa9", func := "intrusion/intrusionlaw39.FileNested", spec := "fileNested", unfollowed := true, recurses := true, named := ["intrusion/digest.constants"], apart := false, laid := [("intrusion/digest.constants", laid_intrusion_digest_constants)] }
def FileNestedSaid : Prop := fileNestedRow.holds Tryz.pinned (OpenSpec.ofChange fileNestedSpec)

/-- ITS FALSE NEIGHBOUR: 'it returns false'. Refute it at one input. -/
def fileNestedWrong : ChangeSpec := { name := "fileNested", fn := fun _ => fun
  | [d1, d2] => { results := [.lit (.bool false)], args := [d1, d2] }
  | _ => none }
def FileNestedWrongFalsely : Prop := fileNestedRow.holds Tryz.pinned (OpenSpec.ofChange fileNestedWrong)

/- THE SECOND FORM. 'bulk': how many values and letters a reading holds, each counted each time it is reached (what is shared counts as often as it is met; a slice's spare places count too). A statement '..UptoSaid' is the law's where the arguments, and the package variables that the reading takes, are together of bulk at most 1048576: NARROWER than '..Said'. Prove '..Said' where nothing that the law and all that it calls make is longer than what came in: it says more and counts as full. Else prove '..UptoSaid'. A law counts once. -/
mutual
def uptoBulk {H : Type} : DataW H → Nat
  | .lit (.string bytes) => bytes.length + 1
  | .lit _ => 1
  | .nil => 1
  | .ptr d => uptoBulk d + 1
  | .slice elems spare => uptoBulkAll elems + uptoBulkAll spare + 1
  | .agg parts => uptoBulkAll parts + 1
  | .iface _ d => uptoBulk d + 1
  | .map entries => uptoBulkEntries entries + 1
  | .held _ => 1
def uptoBulkAll {H : Type} : List (DataW H) → Nat
  | [] => 0
  | d :: r => uptoBulk d + uptoBulkAll r
def uptoBulkEntries {H : Type} : List (Lit × DataW H) → Nat
  | [] => 0
  | x :: r => uptoBulkEntry x + uptoBulkEntries r
def uptoBulkEntry {H : Type} : Lit × DataW H → Nat
  | (.string bytes, d) => bytes.length + uptoBulk d + 1
  | (_, d) => uptoBulk d + 1
 end
def uptoSmall : (H : Type) → List (DataW H) → Bool := fun _ ds => decide (uptoBulkAll ds ≤ 1048576)
def OpenSpec.upto (s : _root_.Go.ChangeSpec) : _root_.Go.OpenSpec := { _root_.Go.OpenSpec.ofChange s with cond := some uptoSmall }

/-- 'intrusionlaw38.GzipFeeds', WHERE WHAT IT READS IS OF BULK AT MOST 1048576: true; the input reads as it did. -/
def gzipFeedsUptoRow : OpenClaim := { program := "ytcmnnggpeloanaagreatdoor", sum := "cbf0f5c6b830b7380c8cbfa73dc3017b772533a11df113f84d532b569674bfa9", func := "intrusion/intrusionlaw38.GzipFeeds", spec := "gzipFeeds", inPlace := ["internal/bytealg.IndexByteString", "internal/bytealg.IndexString", "internal/abi.NoEscape"], unfollowed := true, recurses := true, named := ["internal/bytealg.MaxLen", "bytes.ErrTooLarge", "intrusion/inflate.order"], apart := false, laid := [("bytes.ErrTooLarge", laid_bytes_ErrTooLarge), ("intrusion/inflate.order", laid_intrusion_inflate_order)], narrowed := true }
def GzipFeedsUptoSaid : Prop := gzipFeedsUptoRow.holds Tryz.pinned (OpenSpec.upto gzipFeedsSpec)

/-- 'intrusionlaw38.GzipAlls', WHERE WHAT IT READS IS OF BULK AT MOST 1048576: true; the input reads as it did. -/
def gzipAllsUptoRow : OpenClaim := { program := "ytcmnnggpeloanaagreatdoor", sum := "cbf0f5c6b830b7380c8cbfa73dc3017b772533a11df113f84d532b569674bfa9", func := "intrusion/intrusionlaw38.GzipAlls", spec := "gzipAlls", inPlace := ["internal/bytealg.IndexByteString", "internal/bytealg.IndexString", "internal/abi.NoEscape"], unfollowed := true, recurses := true, named := ["internal/bytealg.MaxLen", "bytes.ErrTooLarge", "intrusion/inflate.order"], apart := false, laid := [("bytes.ErrTooLarge", laid_bytes_ErrTooLarge), ("intrusion/inflate.order", laid_intrusion_inflate_order)], narrowed := true }
def GzipAllsUptoSaid : Prop := gzipAllsUptoRow.holds Tryz.pinned (OpenSpec.upto gzipAllsSpec)

/-- 'intrusionlaw39.FileTypes', WHERE WHAT IT READS IS OF BULK AT MOST 1048576: true; the input reads as it did. -/
def fileTypesUptoRow : OpenClaim := { program := "ytcmnnggpeloanaagreatdoor", sum := "cbf0f5c6b830b7380c8cbfa73dc3017b772533a11df113f84d532b569674bfa9", func := "intrusion/intrusionlaw39.FileTypes", spec := "fileTypes", unfollowed := true, recurses := true, named := ["intrusion/digest.constants"], apart := false, laid := [("intrusion/digest.constants", laid_intrusion_digest_constants)], narrowed := true }
def FileTypesUptoSaid : Prop := fileTypesUptoRow.holds Tryz.pinned (OpenSpec.upto fileTypesSpec)

/-- 'intrusionlaw39.FileLong', WHERE WHAT IT READS IS OF BULK AT MOST 1048576: true; the input reads as it did. -/
def fileLongUptoRow : OpenClaim := { program := "ytcmnnggpeloanaagreatdoor", sum := "cbf0f5c6b830b7380c8cbfa73dc3017b772533a11df113f84d532b569674bfa9", func := "intrusion/intrusionlaw39.FileLong", spec := "fileLong", unfollowed := true, recurses := true, named := ["intrusion/digest.constants"], apart := false, laid := [("intrusion/digest.constants", laid_intrusion_digest_constants)], narrowed := true }
def FileLongUptoSaid : Prop := fileLongUptoRow.holds Tryz.pinned (OpenSpec.upto fileLongSpec)

/-- 'intrusionlaw39.FileExtracts', WHERE WHAT IT READS IS OF BULK AT MOST 1048576: true; the input reads as it did. -/
def fileExtractsUptoRow : OpenClaim := { program := "ytcmnnggpeloanaagreatdoor", sum := "cbf0f5c6b830b7380c8cbfa73dc3017b772533a11df113f84d532b569674bfa9", func := "intrusion/intrusionlaw39.FileExtracts", spec := "fileExtracts", unfollowed := true, recurses := true, named := ["intrusion/digest.constants"], apart := false, laid := [("intrusion/digest.constants", laid_intrusion_digest_constants)], narrowed := true }
def FileExtractsUptoSaid : Prop := fileExtractsUptoRow.holds Tryz.pinned (OpenSpec.upto fileExtractsSpec)

/-- 'intrusionlaw39.FileNested', WHERE WHAT IT READS IS OF BULK AT MOST 1048576: true; the input reads as it did. -/
def fileNestedUptoRow : OpenClaim := { program := "ytcmnnggpeloanaagreatdoor", sum := "cbf0f5c6b830b7380c8cbfa73dc3017b772533a11df113f84d532b569674bfa9", func := "intrusion/intrusionlaw39.FileNested", spec := "fileNested", unfollowed := true, recurses := true, named := ["intrusion/digest.constants"], apart := false, laid := [("intrusion/digest.constants", laid_intrusion_digest_constants)], narrowed := true }
def FileNestedUptoSaid : Prop := fileNestedUptoRow.holds Tryz.pinned (OpenSpec.upto fileNestedSpec)

end Rows
end Go.Proofs.YtcmnnggpeloanaaGreatDoor
