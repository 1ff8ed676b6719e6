/-
  NARROWER THAN 'FOR EVERY INPUT', by the rows' own cells (each row's printed sentence says how): FnData: laid · FnFromEarly: laid · FnHello: laid · FnHelloBad: laid · FnNoop: laid · FnQuit: laid · FnReset: laid · FnAuth: laid.
  DERIVED. THE GIVEN ROWS OF THIS SEAT. 8 by the template 'for every input the law returns true; each argument reads behind the call as it read before'; 0 by the template 'total and deterministic' (their statements: YtahiahboneljaaaGreatDoorTotals.lean).
  GIVEN WITH THE SEED: the statements are not yours to turn. If you find one false, say at which input.
  Laid BY PROGRAM, IN A SANDBOX (cutbox-rows.mjs): the forced cells as the released guide's own fill.sh prints them over the translation 717c9612e10b74a3… (all of the seat's roots in one cut). By AI agents, Wed Nov 11 2026. No macro, syntax, notation, axiom, sorry.
-/
import Derived.Test.YtahiahboneljaaaGreatDoorChecked
import GoSem.PinnedTables
import GoSem.Claim
import GoSem.ClaimJoined
import GoSem.ClaimMapViews
import Derived.JoinedTies
import Derived.KernelRfl
namespace Go.Proofs.YtahiahboneljaaaGreatDoor
/- THE CELL 'sum', in the pinned program and in every row, IS THE sha256 OF THE DUMP (.gsa) THAT YtahiahboneljaaaGreatDoorProg.lean LOADS. Nothing in Lean hashes anything: it is a label: what it is worth is what the hold of that sum in a sandbox is worth. -/
noncomputable def Tryz.pinned : Pinned := { name := "ytahiahboneljaaagreatdoor", sum := "717c9612e10b74a33b392638c17998ce97310a4b87dfd2508466c82cd500c57a", checked := Tryz.checked }
namespace Rows
def none {H : Type} : Left H := { results := [], args := [] }

/- WHAT THE LISTED PACKAGE-LEVEL VARIABLES READ AS WHEN THE CALL BEGINS. Each datum BY PROGRAM (the guide's laid-datum.mjs) off the statement by which the dump's own 'gosem.cut.vars' lays the variable. In a bare row this is a premise. The card (YtahiahboneljaaaGreatDoorCards.lean) ties it to the program's text. -/
def laid_unicode_utf8_acceptRanges {H : Type} : DataW H := .agg [.agg [.lit (.int .u8 128), .lit (.int .u8 191)], .agg [.lit (.int .u8 160), .lit (.int .u8 191)], .agg [.lit (.int .u8 128), .lit (.int .u8 159)], .agg [.lit (.int .u8 144), .lit (.int .u8 191)], .agg [.lit (.int .u8 128), .lit (.int .u8 143)], .agg [.lit (.int .u8 0), .lit (.int .u8 0)], .agg [.lit (.int .u8 0), .lit (.int .u8 0)], .agg [.lit (.int .u8 0), .lit (.int .u8 0)], .agg [.lit (.int .u8 0), .lit (.int .u8 0)], .agg [.lit (.int .u8 0), .lit (.int .u8 0)], .agg [.lit (.int .u8 0), .lit (.int .u8 0)], .agg [.lit (.int .u8 0), .lit (.int .u8 0)], .agg [.lit (.int .u8 0), .lit (.int .u8 0)], .agg [.lit (.int .u8 0), .lit (.int .u8 0)], .agg [.lit (.int .u8 0), .lit (.int .u8 0)], .agg [.lit (.int .u8 0), .lit (.int .u8 0)]]
/-- One of Go's own tables, pinned by name: the form's constant. -/
def laid_unicode_utf8_first : DataW Unit := Go.Pinned.utf8First

/-- 'laws.FnData': WHATEVER THE INPUT: true; the input reads as it did. -/
def fnDataSpec : ChangeSpec := { name := "fnData", fn := fun _ => fun
  | [d] => { results := [.lit (.bool true)], args := [d] }
  | _ => none }
def fnDataRow : OpenClaim := { program := "ytahiahboneljaaagreatdoor", sum := "717c9612e10b74a33b392638c17998ce97310a4b87dfd2508466c82cd500c57a", func := "loop.example/mailhost/laws.FnData", spec := "fnData", inPlace := ["internal/bytealg.CountString", "internal/bytealg.IndexByteString", "internal/bytealg.IndexString", "internal/abi.NoEscape"], unfollowed := true, recurses := true, named := ["unicode/utf8.first", "unicode/utf8.acceptRanges", "internal/bytealg.MaxLen"], apart := false, laid := [("unicode/utf8.acceptRanges", laid_unicode_utf8_acceptRanges), ("unicode/utf8.first", laid_unicode_utf8_first)] }
def FnDataSaid : Prop := fnDataRow.holds Tryz.pinned (OpenSpec.ofChange fnDataSpec)

/-- ITS FALSE NEIGHBOUR: 'it returns false'. Refute it at one input. -/
def fnDataWrong : ChangeSpec := { name := "fnData", fn := fun _ => fun
  | [d] => { results := [.lit (.bool false)], args := [d] }
  | _ => none }
def FnDataWrongFalsely : Prop := fnDataRow.holds Tryz.pinned (OpenSpec.ofChange fnDataWrong)

/-- 'laws.FnFromEarly': WHATEVER THE INPUT: true; the input reads as it did. -/
def fnFromEarlySpec : ChangeSpec := { name := "fnFromEarly", fn := fun _ => fun
  | [d] => { results := [.lit (.bool true)], args := [d] }
  | _ => none }
def fnFromEarlyRow : OpenClaim := { program := "ytahiahboneljaaagreatdoor", sum := "717c9612e10b74a33b392638c17998ce97310a4b87dfd2508466c82cd500c57a", func := "loop.example/mailhost/laws.FnFromEarly", spec := "fnFromEarly", inPlace := ["internal/bytealg.CountString", "internal/bytealg.IndexByteString", "internal/bytealg.IndexString", "internal/abi.NoEscape"], unfollowed := true, recurses := true, named := ["unicode/utf8.first", "unicode/utf8.acceptRanges", "internal/bytealg.MaxLen"], apart := false, laid := [("unicode/utf8.acceptRanges", laid_unicode_utf8_acceptRanges), ("unicode/utf8.first", laid_unicode_utf8_first)] }
def FnFromEarlySaid : Prop := fnFromEarlyRow.holds Tryz.pinned (OpenSpec.ofChange fnFromEarlySpec)

/-- ITS FALSE NEIGHBOUR: 'it returns false'. Refute it at one input. -/
def fnFromEarlyWrong : ChangeSpec := { name := "fnFromEarly", fn := fun _ => fun
  | [d] => { results := [.lit (.bool false)], args := [d] }
  | _ => none }
def FnFromEarlyWrongFalsely : Prop := fnFromEarlyRow.holds Tryz.pinned (OpenSpec.ofChange fnFromEarlyWrong)

/-- 'laws.FnHello': WHATEVER THE INPUT: true; the input reads as it did. -/
def fnHelloSpec : ChangeSpec := { name := "fnHello", fn := fun _ => fun
  | [d] => { results := [.lit (.bool true)], args := [d] }
  | _ => none }
def fnHelloRow : OpenClaim := { program := "ytahiahboneljaaagreatdoor", sum := "717c9612e10b74a33b392638c17998ce97310a4b87dfd2508466c82cd500c57a", func := "loop.example/mailhost/laws.FnHello", spec := "fnHello", inPlace := ["internal/bytealg.CountString", "internal/bytealg.IndexByteString", "internal/bytealg.IndexString", "internal/abi.NoEscape"], unfollowed := true, recurses := true, named := ["unicode/utf8.first", "unicode/utf8.acceptRanges", "internal/bytealg.MaxLen"], apart := false, laid := [("unicode/utf8.acceptRanges", laid_unicode_utf8_acceptRanges), ("unicode/utf8.first", laid_unicode_utf8_first)] }
def FnHelloSaid : Prop := fnHelloRow.holds Tryz.pinned (OpenSpec.ofChange fnHelloSpec)

/-- ITS FALSE NEIGHBOUR: 'it returns false'. Refute it at one input. -/
def fnHelloWrong : ChangeSpec := { name := "fnHello", fn := fun _ => fun
  | [d] => { results := [.lit (.bool false)], args := [d] }
  | _ => none }
def FnHelloWrongFalsely : Prop := fnHelloRow.holds Tryz.pinned (OpenSpec.ofChange fnHelloWrong)

/-- 'laws.FnHelloBad': WHATEVER THE INPUT: true; the input reads as it did. -/
def fnHelloBadSpec : ChangeSpec := { name := "fnHelloBad", fn := fun _ => fun
  | [d] => { results := [.lit (.bool true)], args := [d] }
  | _ => none }
def fnHelloBadRow : OpenClaim := { program := "ytahiahboneljaaagreatdoor", sum := "717c9612e10b74a33b392638c17998ce97310a4b87dfd2508466c82cd500c57a", func := "loop.example/mailhost/laws.FnHelloBad", spec := "fnHelloBad", inPlace := ["internal/bytealg.CountString", "internal/bytealg.IndexByteString", "internal/bytealg.IndexString", "internal/abi.NoEscape"], unfollowed := true, recurses := true, named := ["unicode/utf8.first", "unicode/utf8.acceptRanges", "internal/bytealg.MaxLen"], apart := false, laid := [("unicode/utf8.acceptRanges", laid_unicode_utf8_acceptRanges), ("unicode/utf8.first", laid_unicode_utf8_first)] }
def FnHelloBadSaid : Prop := fnHelloBadRow.holds Tryz.pinned (OpenSpec.ofChange fnHelloBadSpec)

/-- ITS FALSE NEIGHBOUR: 'it returns false'. Refute it at one input. -/
def fnHelloBadWrong : ChangeSpec := { name := "fnHelloBad", fn := fun _ => fun
  | [d] => { results := [.lit (.bool false)], args := [d] }
  | _ => none }
def FnHelloBadWrongFalsely : Prop := fnHelloBadRow.holds Tryz.pinned (OpenSpec.ofChange fnHelloBadWrong)

/-- 'laws.FnNoop': WHATEVER THE INPUT: true; the input reads as it did. -/
def fnNoopSpec : ChangeSpec := { name := "fnNoop", fn := fun _ => fun
  | [d] => { results := [.lit (.bool true)], args := [d] }
  | _ => none }
def fnNoopRow : OpenClaim := { program := "ytahiahboneljaaagreatdoor", sum := "717c9612e10b74a33b392638c17998ce97310a4b87dfd2508466c82cd500c57a", func := "loop.example/mailhost/laws.FnNoop", spec := "fnNoop", inPlace := ["internal/bytealg.CountString", "internal/bytealg.IndexByteString", "internal/bytealg.IndexString", "internal/abi.NoEscape"], unfollowed := true, recurses := true, named := ["unicode/utf8.first", "unicode/utf8.acceptRanges", "internal/bytealg.MaxLen"], apart := false, laid := [("unicode/utf8.acceptRanges", laid_unicode_utf8_acceptRanges), ("unicode/utf8.first", laid_unicode_utf8_first)] }
def FnNoopSaid : Prop := fnNoopRow.holds Tryz.pinned (OpenSpec.ofChange fnNoopSpec)

/-- ITS FALSE NEIGHBOUR: 'it returns false'. Refute it at one input. -/
def fnNoopWrong : ChangeSpec := { name := "fnNoop", fn := fun _ => fun
  | [d] => { results := [.lit (.bool false)], args := [d] }
  | _ => none }
def FnNoopWrongFalsely : Prop := fnNoopRow.holds Tryz.pinned (OpenSpec.ofChange fnNoopWrong)

/-- 'laws.FnQuit': WHATEVER THE INPUT: true; the input reads as it did. -/
def fnQuitSpec : ChangeSpec := { name := "fnQuit", fn := fun _ => fun
  | [d] => { results := [.lit (.bool true)], args := [d] }
  | _ => none }
def fnQuitRow : OpenClaim := { program := "ytahiahboneljaaagreatdoor", sum := "717c9612e10b74a33b392638c17998ce97310a4b87dfd2508466c82cd500c57a", func := "loop.example/mailhost/laws.FnQuit", spec := "fnQuit", inPlace := ["internal/bytealg.CountString", "internal/bytealg.IndexByteString", "internal/bytealg.IndexString", "internal/abi.NoEscape"], unfollowed := true, recurses := true, named := ["unicode/utf8.first", "unicode/utf8.acceptRanges", "internal/bytealg.MaxLen"], apart := false, laid := [("unicode/utf8.acceptRanges", laid_unicode_utf8_acceptRanges), ("unicode/utf8.first", laid_unicode_utf8_first)] }
def FnQuitSaid : Prop := fnQuitRow.holds Tryz.pinned (OpenSpec.ofChange fnQuitSpec)

/-- ITS FALSE NEIGHBOUR: 'it returns false'. Refute it at one input. -/
def fnQuitWrong : ChangeSpec := { name := "fnQuit", fn := fun _ => fun
  | [d] => { results := [.lit (.bool false)], args := [d] }
  | _ => none }
def FnQuitWrongFalsely : Prop := fnQuitRow.holds Tryz.pinned (OpenSpec.ofChange fnQuitWrong)

/-- 'laws.FnReset': WHATEVER THE INPUT: true; the input reads as it did. -/
def fnResetSpec : ChangeSpec := { name := "fnReset", fn := fun _ => fun
  | [d] => { results := [.lit (.bool true)], args := [d] }
  | _ => none }
def fnResetRow : OpenClaim := { program := "ytahiahboneljaaagreatdoor", sum := "717c9612e10b74a33b392638c17998ce97310a4b87dfd2508466c82cd500c57a", func := "loop.example/mailhost/laws.FnReset", spec := "fnReset", inPlace := ["internal/bytealg.CountString", "internal/bytealg.IndexByteString", "internal/bytealg.IndexString", "internal/abi.NoEscape"], unfollowed := true, recurses := true, named := ["unicode/utf8.first", "unicode/utf8.acceptRanges", "internal/bytealg.MaxLen"], apart := false, laid := [("unicode/utf8.acceptRanges", laid_unicode_utf8_acceptRanges), ("unicode/utf8.first", laid_unicode_utf8_first)] }
def FnResetSaid : Prop := fnResetRow.holds Tryz.pinned (OpenSpec.ofChange fnResetSpec)

/-- ITS FALSE NEIGHBOUR: 'it returns false'. Refute it at one input. -/
def fnResetWrong : ChangeSpec := { name := "fnReset", fn := fun _ => fun
  | [d] => { results := [.lit (.bool false)], args := [d] }
  | _ => none }
def FnResetWrongFalsely : Prop := fnResetRow.holds Tryz.pinned (OpenSpec.ofChange fnResetWrong)

/-- 'laws.FnAuth': WHATEVER THE INPUT: true; the input reads as it did. -/
def fnAuthSpec : ChangeSpec := { name := "fnAuth", fn := fun _ => fun
  | [d1, d2] => { results := [.lit (.bool true)], args := [d1, d2] }
  | _ => none }
def fnAuthRow : OpenClaim := { program := "ytahiahboneljaaagreatdoor", sum := "717c9612e10b74a33b392638c17998ce97310a4b87dfd2508466c82cd500c57a", func := "loop.example/mailhost/laws.FnAuth", spec := "fnAuth", inPlace := ["internal/bytealg.CountString", "internal/bytealg.IndexByteString", "internal/bytealg.IndexString", "internal/abi.NoEscape"], unfollowed := true, recurses := true, named := ["unicode/utf8.first", "unicode/utf8.acceptRanges", "internal/bytealg.MaxLen"], apart := false, laid := [("unicode/utf8.acceptRanges", laid_unicode_utf8_acceptRanges), ("unicode/utf8.first", laid_unicode_utf8_first)] }
def FnAuthSaid : Prop := fnAuthRow.holds Tryz.pinned (OpenSpec.ofChange fnAuthSpec)

/-- ITS FALSE NEIGHBOUR: 'it returns false'. Refute it at one input. -/
def fnAuthWrong : ChangeSpec := { name := "fnAuth", fn := fun _ => fun
  | [d1, d2] => { results := [.lit (.bool false)], args := [d1, d2] }
  | _ => none }
def FnAuthWrongFalsely : Prop := fnAuthRow.holds Tryz.pinned (OpenSpec.ofChange fnAuthWrong)

/- THE SECOND FORM. 'bulk': how many values and letters a reading holds, each counted each time it is reached (what is shared counts as often as it is met; a slice's spare places count too). A statement '..UptoSaid' is the law's where the arguments, and the package variables that the reading takes, are together of bulk at most 1048576: NARROWER than '..Said'. Prove '..Said' where nothing that the law and all that it calls make is longer than what came in: it says more and counts as full. Else prove '..UptoSaid'. A law counts once. -/
mutual
def uptoBulk {H : Type} : DataW H → Nat
  | .lit (.string bytes) => bytes.length + 1
  | .lit _ => 1
  | .nil => 1
  | .ptr d => uptoBulk d + 1
  | .slice elems spare => uptoBulkAll elems + uptoBulkAll spare + 1
  | .agg parts => uptoBulkAll parts + 1
  | .iface _ d => uptoBulk d + 1
  | .map entries => uptoBulkEntries entries + 1
  | .held _ => 1
def uptoBulkAll {H : Type} : List (DataW H) → Nat
  | [] => 0
  | d :: r => uptoBulk d + uptoBulkAll r
def uptoBulkEntries {H : Type} : List (Lit × DataW H) → Nat
  | [] => 0
  | x :: r => uptoBulkEntry x + uptoBulkEntries r
def uptoBulkEntry {H : Type} : Lit × DataW H → Nat
  | (.string bytes, d) => bytes.length + uptoBulk d + 1
  | (_, d) => uptoBulk d + 1
 end
def uptoSmall : (H : Type) → List (DataW H) → Bool := fun _ ds => decide (uptoBulkAll ds ≤ 1048576)
def OpenSpec.upto (s : _root_.Go.ChangeSpec) : _root_.Go.OpenSpec := { _root_.Go.OpenSpec.ofChange s with cond := some uptoSmall }

/-- 'laws.FnData', WHERE WHAT IT READS IS OF BULK AT MOST 1048576: true; the input reads as it did. -/
def fnDataUptoRow : OpenClaim := { program := "ytahiahboneljaaagreatdoor", sum := "717c9612e10b74a33b392638c17998ce97310a4b87dfd2508466c82cd500c57a", func := "loop.example/mailhost/laws.FnData", spec := "fnData", inPlace := ["internal/bytealg.CountString", "internal/bytealg.IndexByteString", "internal/bytealg.IndexString", "internal/abi.NoEscape"], unfollowed := true, recurses := true, named := ["unicode/utf8.first", "unicode/utf8.acceptRanges", "internal/bytealg.MaxLen"], apart := false, laid := [("unicode/utf8.acceptRanges", laid_unicode_utf8_acceptRanges), ("unicode/utf8.first", laid_unicode_utf8_first)], narrowed := true }
def FnDataUptoSaid : Prop := fnDataUptoRow.holds Tryz.pinned (OpenSpec.upto fnDataSpec)

/-- 'laws.FnFromEarly', WHERE WHAT IT READS IS OF BULK AT MOST 1048576: true; the input reads as it did. -/
def fnFromEarlyUptoRow : OpenClaim := { program := "ytahiahboneljaaagreatdoor", sum := "717c9612e10b74a33b392638c17998ce97310a4b87dfd2508466c82cd500c57a", func := "loop.example/mailhost/laws.FnFromEarly", spec := "fnFromEarly", inPlace := ["internal/bytealg.CountString", "internal/bytealg.IndexByteString", "internal/bytealg.IndexString", "internal/abi.NoEscape"], unfollowed := true, recurses := true, named := ["unicode/utf8.first", "unicode/utf8.acceptRanges", "internal/bytealg.MaxLen"], apart := false, laid := [("unicode/utf8.acceptRanges", laid_unicode_utf8_acceptRanges), ("unicode/utf8.first", laid_unicode_utf8_first)], narrowed := true }
def FnFromEarlyUptoSaid : Prop := fnFromEarlyUptoRow.holds Tryz.pinned (OpenSpec.upto fnFromEarlySpec)

/-- 'laws.FnHello', WHERE WHAT IT READS IS OF BULK AT MOST 1048576: true; the input reads as it did. -/
def fnHelloUptoRow : OpenClaim := { program := "ytahiahboneljaaagreatdoor", sum := "717c9612e10b74a33b392638c17998ce97310a4b87dfd2508466c82cd500c57a", func := "loop.example/mailhost/laws.FnHello", spec := "fnHello", inPlace := ["internal/bytealg.CountString", "internal/bytealg.IndexByteString", "internal/bytealg.IndexString", "internal/abi.NoEscape"], unfollowed := true, recurses := true, named := ["unicode/utf8.first", "unicode/utf8.acceptRanges", "internal/bytealg.MaxLen"], apart := false, laid := [("unicode/utf8.acceptRanges", laid_unicode_utf8_acceptRanges), ("unicode/utf8.first", laid_unicode_utf8_first)], narrowed := true }
def FnHelloUptoSaid : Prop := fnHelloUptoRow.holds Tryz.pinned (OpenSpec.upto fnHelloSpec)

/-- 'laws.FnHelloBad', WHERE WHAT IT READS IS OF BULK AT MOST 1048576: true; the input reads as it did. -/
def fnHelloBadUptoRow : OpenClaim := { program := "ytahiahboneljaaagreatdoor", sum := "717c9612e10b74a33b392638c17998ce97310a4b87dfd2508466c82cd500c57a", func := "loop.example/mailhost/laws.FnHelloBad", spec := "fnHelloBad", inPlace := ["internal/bytealg.CountString", "internal/bytealg.IndexByteString", "internal/bytealg.IndexString", "internal/abi.NoEscape"], unfollowed := true, recurses := true, named := ["unicode/utf8.first", "unicode/utf8.acceptRanges", "internal/bytealg.MaxLen"], apart := false, laid := [("unicode/utf8.acceptRanges", laid_unicode_utf8_acceptRanges), ("unicode/utf8.first", laid_unicode_utf8_first)], narrowed := true }
def FnHelloBadUptoSaid : Prop := fnHelloBadUptoRow.holds Tryz.pinned (OpenSpec.upto fnHelloBadSpec)

/-- 'laws.FnNoop', WHERE WHAT IT READS IS OF BULK AT MOST 1048576: true; the input reads as it did. -/
def fnNoopUptoRow : OpenClaim := { program := "ytahiahboneljaaagreatdoor", sum := "717c9612e10b74a33b392638c17998ce97310a4b87dfd2508466c82cd500c57a", func := "loop.example/mailhost/laws.FnNoop", spec := "fnNoop", inPlace := ["internal/bytealg.CountString", "internal/bytealg.IndexByteString", "internal/bytealg.IndexString", "internal/abi.NoEscape"], unfollowed := true, recurses := true, named := ["unicode/utf8.first", "unicode/utf8.acceptRanges", "internal/bytealg.MaxLen"], apart := false, laid := [("unicode/utf8.acceptRanges", laid_unicode_utf8_acceptRanges), ("unicode/utf8.first", laid_unicode_utf8_first)], narrowed := true }
def FnNoopUptoSaid : Prop := fnNoopUptoRow.holds Tryz.pinned (OpenSpec.upto fnNoopSpec)

/-- 'laws.FnQuit', WHERE WHAT IT READS IS OF BULK AT MOST 1048576: true; the input reads as it did. -/
def fnQuitUptoRow : OpenClaim := { program := "ytahiahboneljaaagreatdoor", sum := "717c9612e10b74a33b392638c17998ce97310a4b87dfd2508466c82cd500c57a", func := "loop.example/mailhost/laws.FnQuit", spec := "fnQuit", inPlace := ["internal/bytealg.CountString", "internal/bytealg.IndexByteString", "internal/bytealg.IndexString", "internal/abi.NoEscape"], unfollowed := true, recurses := true, named := ["unicode/utf8.first", "unicode/utf8.acceptRanges", "internal/bytealg.MaxLen"], apart := false, laid := [("unicode/utf8.acceptRanges", laid_unicode_utf8_acceptRanges), ("unicode/utf8.first", laid_unicode_utf8_first)], narrowed := true }
def FnQuitUptoSaid : Prop := fnQuitUptoRow.holds Tryz.pinned (OpenSpec.upto fnQuitSpec)

/-- 'laws.FnReset', WHERE WHAT IT READS IS OF BULK AT MOST 1048576: true; the input reads as it did. -/
def fnResetUptoRow : OpenClaim := { program := "ytahiahboneljaaagreatdoor", sum := "717c9612e10b74a33b392638c17998ce97310a4b87dfd2508466c82cd500c57a", func := "loop.example/mailhost/laws.FnReset", spec := "fnReset", inPlace := ["internal/bytealg.CountString", "internal/bytealg.IndexByteString", "internal/bytealg.IndexString", "internal/abi.NoEscape"], unfollowed := true, recurses := true, named := ["unicode/utf8.first", "unicode/utf8.acceptRanges", "internal/bytealg.MaxLen"], apart := false, laid := [("unicode/utf8.acceptRanges", laid_unicode_utf8_acceptRanges), ("unicode/utf8.first", laid_unicode_utf8_first)], narrowed := true }
def FnResetUptoSaid : Prop := fnResetUptoRow.holds Tryz.pinned (OpenSpec.upto fnResetSpec)

/-- 'laws.FnAuth', WHERE WHAT IT READS IS OF BULK AT MOST 1048576: true; the input reads as it did. -/
def fnAuthUptoRow : OpenClaim := { program := "ytahiahboneljaaagreatdoor", sum := "717c9612e10b74a33b392638c17998ce97310a4b87dfd2508466c82cd500c57a", func := "loop.example/mailhost/laws.FnAuth", spec := "fnAuth", inPlace := ["internal/bytealg.CountString", "internal/bytealg.IndexByteString", "internal/bytealg.IndexString", "internal/abi.NoEscape"], unfollowed := true, recurses := true, named := ["unicode/utf8.first", "unicode/utf8.acceptRanges", "internal/bytealg.MaxLen"], apart := false, laid := [("unicode/utf8.acceptRanges", laid_unicode_utf8_acceptRanges), ("unicode/utf8.first", laid_unicode_utf8_first)], narrowed := true }
def FnAuthUptoSaid : Prop := fnAuthUptoRow.holds Tryz.pinned (OpenSpec.upto fnAuthSpec)

end Rows
end Go.Proofs.YtahiahboneljaaaGreatDoor
