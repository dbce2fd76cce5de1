/-
  NARROWER THAN 'FOR EVERY INPUT', by the rows' own cells (each row's printed sentence says how): OctetWrites: laid · OctetShort: laid · OctetCut: laid · OctetBits: laid · OctetReads: laid · OctetBack: laid · OctetKnown: laid.
  DERIVED. THE GIVEN ROWS OF THIS SEAT. 7 by the template 'for every input the law returns true; each argument reads behind the call as it read before'; 0 by the template 'total and deterministic' (their statements: YtpmfaocegkjhmaaDoorTotals.lean).
  GIVEN WITH THE SEED: the statements are not yours to turn. If you find one false, say at which input.
  Laid BY PROGRAM, IN A SANDBOX (cutbox-rows.mjs): the forced cells as the released guide's own fill.sh prints them over the translation 1a0154ada2ee817b… (all of the seat's roots in one cut). By AI agents, Wed Nov 11 2026. No macro, syntax, notation, axiom, sorry.
-/
import Derived.Test.YtpmfaocegkjhmaaDoorChecked
import GoSem.Claim
import GoSem.ClaimJoined
import GoSem.ClaimMapViews
import Derived.JoinedTies
import Derived.KernelRfl
namespace Go.Proofs.YtpmfaocegkjhmaaDoor
/- THE CELL 'sum', in the pinned program and in every row, IS THE sha256 OF THE DUMP (.gsa) THAT YtpmfaocegkjhmaaDoorProg.lean LOADS. Nothing in Lean hashes anything: it is a label: what it is worth is what the hold of that sum in a sandbox is worth. -/
noncomputable def Tryd.pinned : Pinned := { name := "ytpmfaocegkjhmaadoor", sum := "1a0154ada2ee817b1f46e7c69da88cbecbae96533c09ee939db040b660787d71", checked := Tryd.checked }
namespace Rows
def none {H : Type} : Left H := { results := [], args := [] }

/- WHAT THE LISTED PACKAGE-LEVEL VARIABLES READ AS WHEN THE CALL BEGINS. Each datum BY PROGRAM (the guide's laid-datum.mjs) off the statement by which the dump's own 'gosem.cut.vars' lays the variable. In a bare row this is a premise. The card (YtpmfaocegkjhmaaDoorCards.lean) ties it to the program's text. -/
def laid_sounder_octet_limits {H : Type} : DataW H := .agg [.lit (.int .i64 63), .lit (.int .i64 16383), .lit (.int .i64 1073741823), .lit (.int .i64 9007199254740991)]

/-- 'sounderlaw02.OctetWrites': WHATEVER THE INPUT: true; the input reads as it did. -/
def octetWritesSpec : ChangeSpec := { name := "octetWrites", fn := fun _ => fun
  | [d1, d2, d3] => { results := [.lit (.bool true)], args := [d1, d2, d3] }
  | _ => none }
def octetWritesRow : OpenClaim := { program := "ytpmfaocegkjhmaadoor", sum := "1a0154ada2ee817b1f46e7c69da88cbecbae96533c09ee939db040b660787d71", func := "sounder/sounderlaw02.OctetWrites", spec := "octetWrites", unfollowed := true, recurses := true, named := ["sounder/octet.limits"], apart := false, laid := [("sounder/octet.limits", laid_sounder_octet_limits)] }
def OctetWritesSaid : Prop := octetWritesRow.holds Tryd.pinned (OpenSpec.ofChange octetWritesSpec)

/-- ITS FALSE NEIGHBOUR: 'it returns false'. Refute it at one input. -/
def octetWritesWrong : ChangeSpec := { name := "octetWrites", fn := fun _ => fun
  | [d1, d2, d3] => { results := [.lit (.bool false)], args := [d1, d2, d3] }
  | _ => none }
def OctetWritesWrongFalsely : Prop := octetWritesRow.holds Tryd.pinned (OpenSpec.ofChange octetWritesWrong)

/-- 'sounderlaw02.OctetShort': WHATEVER THE INPUT: true; the input reads as it did. -/
def octetShortSpec : ChangeSpec := { name := "octetShort", fn := fun _ => fun
  | [d1, d2] => { results := [.lit (.bool true)], args := [d1, d2] }
  | _ => none }
def octetShortRow : OpenClaim := { program := "ytpmfaocegkjhmaadoor", sum := "1a0154ada2ee817b1f46e7c69da88cbecbae96533c09ee939db040b660787d71", func := "sounder/sounderlaw02.OctetShort", spec := "octetShort", unfollowed := true, recurses := true, named := ["sounder/octet.limits"], apart := false, laid := [("sounder/octet.limits", laid_sounder_octet_limits)] }
def OctetShortSaid : Prop := octetShortRow.holds Tryd.pinned (OpenSpec.ofChange octetShortSpec)

/-- ITS FALSE NEIGHBOUR: 'it returns false'. Refute it at one input. -/
def octetShortWrong : ChangeSpec := { name := "octetShort", fn := fun _ => fun
  | [d1, d2] => { results := [.lit (.bool false)], args := [d1, d2] }
  | _ => none }
def OctetShortWrongFalsely : Prop := octetShortRow.holds Tryd.pinned (OpenSpec.ofChange octetShortWrong)

/-- 'sounderlaw02.OctetCut': WHATEVER THE INPUT: true; the input reads as it did. -/
def octetCutSpec : ChangeSpec := { name := "octetCut", fn := fun _ => fun
  | [d1, d2] => { results := [.lit (.bool true)], args := [d1, d2] }
  | _ => none }
def octetCutRow : OpenClaim := { program := "ytpmfaocegkjhmaadoor", sum := "1a0154ada2ee817b1f46e7c69da88cbecbae96533c09ee939db040b660787d71", func := "sounder/sounderlaw02.OctetCut", spec := "octetCut", unfollowed := true, recurses := true, named := ["sounder/octet.limits"], apart := false, laid := [("sounder/octet.limits", laid_sounder_octet_limits)] }
def OctetCutSaid : Prop := octetCutRow.holds Tryd.pinned (OpenSpec.ofChange octetCutSpec)

/-- ITS FALSE NEIGHBOUR: 'it returns false'. Refute it at one input. -/
def octetCutWrong : ChangeSpec := { name := "octetCut", fn := fun _ => fun
  | [d1, d2] => { results := [.lit (.bool false)], args := [d1, d2] }
  | _ => none }
def OctetCutWrongFalsely : Prop := octetCutRow.holds Tryd.pinned (OpenSpec.ofChange octetCutWrong)

/-- 'sounderlaw02.OctetBits': WHATEVER THE INPUT: true; the input reads as it did. -/
def octetBitsSpec : ChangeSpec := { name := "octetBits", fn := fun _ => fun
  | [d] => { results := [.lit (.bool true)], args := [d] }
  | _ => none }
def octetBitsRow : OpenClaim := { program := "ytpmfaocegkjhmaadoor", sum := "1a0154ada2ee817b1f46e7c69da88cbecbae96533c09ee939db040b660787d71", func := "sounder/sounderlaw02.OctetBits", spec := "octetBits", unfollowed := true, recurses := true, named := ["sounder/octet.limits"], apart := false, laid := [("sounder/octet.limits", laid_sounder_octet_limits)] }
def OctetBitsSaid : Prop := octetBitsRow.holds Tryd.pinned (OpenSpec.ofChange octetBitsSpec)

/-- ITS FALSE NEIGHBOUR: 'it returns false'. Refute it at one input. -/
def octetBitsWrong : ChangeSpec := { name := "octetBits", fn := fun _ => fun
  | [d] => { results := [.lit (.bool false)], args := [d] }
  | _ => none }
def OctetBitsWrongFalsely : Prop := octetBitsRow.holds Tryd.pinned (OpenSpec.ofChange octetBitsWrong)

/-- 'sounderlaw02.OctetReads': WHATEVER THE INPUT: true; the input reads as it did. -/
def octetReadsSpec : ChangeSpec := { name := "octetReads", fn := fun _ => fun
  | [d1, d2] => { results := [.lit (.bool true)], args := [d1, d2] }
  | _ => none }
def octetReadsRow : OpenClaim := { program := "ytpmfaocegkjhmaadoor", sum := "1a0154ada2ee817b1f46e7c69da88cbecbae96533c09ee939db040b660787d71", func := "sounder/sounderlaw02.OctetReads", spec := "octetReads", unfollowed := true, recurses := true, named := ["sounder/octet.limits"], apart := false, laid := [("sounder/octet.limits", laid_sounder_octet_limits)] }
def OctetReadsSaid : Prop := octetReadsRow.holds Tryd.pinned (OpenSpec.ofChange octetReadsSpec)

/-- ITS FALSE NEIGHBOUR: 'it returns false'. Refute it at one input. -/
def octetReadsWrong : ChangeSpec := { name := "octetReads", fn := fun _ => fun
  | [d1, d2] => { results := [.lit (.bool false)], args := [d1, d2] }
  | _ => none }
def OctetReadsWrongFalsely : Prop := octetReadsRow.holds Tryd.pinned (OpenSpec.ofChange octetReadsWrong)

/-- 'sounderlaw02.OctetBack': WHATEVER THE INPUT: true; the input reads as it did. -/
def octetBackSpec : ChangeSpec := { name := "octetBack", fn := fun _ => fun
  | [d1, d2, d3] => { results := [.lit (.bool true)], args := [d1, d2, d3] }
  | _ => none }
def octetBackRow : OpenClaim := { program := "ytpmfaocegkjhmaadoor", sum := "1a0154ada2ee817b1f46e7c69da88cbecbae96533c09ee939db040b660787d71", func := "sounder/sounderlaw02.OctetBack", spec := "octetBack", unfollowed := true, recurses := true, named := ["sounder/octet.limits"], apart := false, laid := [("sounder/octet.limits", laid_sounder_octet_limits)] }
def OctetBackSaid : Prop := octetBackRow.holds Tryd.pinned (OpenSpec.ofChange octetBackSpec)

/-- ITS FALSE NEIGHBOUR: 'it returns false'. Refute it at one input. -/
def octetBackWrong : ChangeSpec := { name := "octetBack", fn := fun _ => fun
  | [d1, d2, d3] => { results := [.lit (.bool false)], args := [d1, d2, d3] }
  | _ => none }
def OctetBackWrongFalsely : Prop := octetBackRow.holds Tryd.pinned (OpenSpec.ofChange octetBackWrong)

/-- 'sounderlaw02.OctetKnown': WHATEVER THE INPUT: true; the input reads as it did. -/
def octetKnownSpec : ChangeSpec := { name := "octetKnown", fn := fun _ => fun
  | [] => { results := [.lit (.bool true)], args := [] }
  | _ => none }
def octetKnownRow : OpenClaim := { program := "ytpmfaocegkjhmaadoor", sum := "1a0154ada2ee817b1f46e7c69da88cbecbae96533c09ee939db040b660787d71", func := "sounder/sounderlaw02.OctetKnown", spec := "octetKnown", unfollowed := true, recurses := true, named := ["sounder/octet.limits"], apart := false, laid := [("sounder/octet.limits", laid_sounder_octet_limits)] }
def OctetKnownSaid : Prop := octetKnownRow.holds Tryd.pinned (OpenSpec.ofChange octetKnownSpec)

/-- ITS FALSE NEIGHBOUR: 'it returns false'. Refute it at one input. -/
def octetKnownWrong : ChangeSpec := { name := "octetKnown", fn := fun _ => fun
  | [] => { results := [.lit (.bool false)], args := [] }
  | _ => none }
def OctetKnownWrongFalsely : Prop := octetKnownRow.holds Tryd.pinned (OpenSpec.ofChange octetKnownWrong)

/- THE SECOND FORM. 'bulk': how many values and letters a reading holds, each counted each time it is reached (what is shared counts as often as it is met; a slice's spare places count too). A statement '..UptoSaid' is the law's where the arguments, and the package variables that the reading takes, are together of bulk at most 1048576: NARROWER than '..Said'. Prove '..Said' where nothing that the law and all that it calls make is longer than what came in: it says more and counts as full. Else prove '..UptoSaid'. A law counts once. -/
mutual
def uptoBulk {H : Type} : DataW H → Nat
  | .lit (.string bytes) => bytes.length + 1
  | .lit _ => 1
  | .nil => 1
  | .ptr d => uptoBulk d + 1
  | .slice elems spare => uptoBulkAll elems + uptoBulkAll spare + 1
  | .agg parts => uptoBulkAll parts + 1
  | .iface _ d => uptoBulk d + 1
  | .map entries => uptoBulkEntries entries + 1
  | .held _ => 1
def uptoBulkAll {H : Type} : List (DataW H) → Nat
  | [] => 0
  | d :: r => uptoBulk d + uptoBulkAll r
def uptoBulkEntries {H : Type} : List (Lit × DataW H) → Nat
  | [] => 0
  | x :: r => uptoBulkEntry x + uptoBulkEntries r
def uptoBulkEntry {H : Type} : Lit × DataW H → Nat
  | (.string bytes, d) => bytes.length + uptoBulk d + 1
  | (_, d) => uptoBulk d + 1
 end
def uptoSmall : (H : Type) → List (DataW H) → Bool := fun _ ds => decide (uptoBulkAll ds ≤ 1048576)
def OpenSpec.upto (s : _root_.Go.ChangeSpec) : _root_.Go.OpenSpec := { _root_.Go.OpenSpec.ofChange s with cond := some uptoSmall }

/-- 'sounderlaw02.OctetWrites', WHERE WHAT IT READS IS OF BULK AT MOST 1048576: true; the input reads as it did. -/
def octetWritesUptoRow : OpenClaim := { program := "ytpmfaocegkjhmaadoor", sum := "1a0154ada2ee817b1f46e7c69da88cbecbae96533c09ee939db040b660787d71", func := "sounder/sounderlaw02.OctetWrites", spec := "octetWrites", unfollowed := true, recurses := true, named := ["sounder/octet.limits"], apart := false, laid := [("sounder/octet.limits", laid_sounder_octet_limits)], narrowed := true }
def OctetWritesUptoSaid : Prop := octetWritesUptoRow.holds Tryd.pinned (OpenSpec.upto octetWritesSpec)

/-- 'sounderlaw02.OctetShort', WHERE WHAT IT READS IS OF BULK AT MOST 1048576: true; the input reads as it did. -/
def octetShortUptoRow : OpenClaim := { program := "ytpmfaocegkjhmaadoor", sum := "1a0154ada2ee817b1f46e7c69da88cbecbae96533c09ee939db040b660787d71", func := "sounder/sounderlaw02.OctetShort", spec := "octetShort", unfollowed := true, recurses := true, named := ["sounder/octet.limits"], apart := false, laid := [("sounder/octet.limits", laid_sounder_octet_limits)], narrowed := true }
def OctetShortUptoSaid : Prop := octetShortUptoRow.holds Tryd.pinned (OpenSpec.upto octetShortSpec)

/-- 'sounderlaw02.OctetCut', WHERE WHAT IT READS IS OF BULK AT MOST 1048576: true; the input reads as it did. -/
def octetCutUptoRow : OpenClaim := { program := "ytpmfaocegkjhmaadoor", sum := "1a0154ada2ee817b1f46e7c69da88cbecbae96533c09ee939db040b660787d71", func := "sounder/sounderlaw02.OctetCut", spec := "octetCut", unfollowed := true, recurses := true, named := ["sounder/octet.limits"], apart := false, laid := [("sounder/octet.limits", laid_sounder_octet_limits)], narrowed := true }
def OctetCutUptoSaid : Prop := octetCutUptoRow.holds Tryd.pinned (OpenSpec.upto octetCutSpec)

/-- 'sounderlaw02.OctetBits', WHERE WHAT IT READS IS OF BULK AT MOST 1048576: true; the input reads as it did. -/
def octetBitsUptoRow : OpenClaim := { program := "ytpmfaocegkjhmaadoor", sum := "1a0154ada2ee817b1f46e7c69da88cbecbae96533c09ee939db040b660787d71", func := "sounder/sounderlaw02.OctetBits", spec := "octetBits", unfollowed := true, recurses := true, named := ["sounder/octet.limits"], apart := false, laid := [("sounder/octet.limits", laid_sounder_octet_limits)], narrowed := true }
def OctetBitsUptoSaid : Prop := octetBitsUptoRow.holds Tryd.pinned (OpenSpec.upto octetBitsSpec)

/-- 'sounderlaw02.OctetReads', WHERE WHAT IT READS IS OF BULK AT MOST 1048576: true; the input reads as it did. -/
def octetReadsUptoRow : OpenClaim := { program := "ytpmfaocegkjhmaadoor", sum := "1a0154ada2ee817b1f46e7c69da88cbecbae96533c09ee939db040b660787d71", func := "sounder/sounderlaw02.OctetReads", spec := "octetReads", unfollowed := true, recurses := true, named := ["sounder/octet.limits"], apart := false, laid := [("sounder/octet.limits", laid_sounder_octet_limits)], narrowed := true }
def OctetReadsUptoSaid : Prop := octetReadsUptoRow.holds Tryd.pinned (OpenSpec.upto octetReadsSpec)

/-- 'sounderlaw02.OctetBack', WHERE WHAT IT READS IS OF BULK AT MOST 1048576: true; the input reads as it did. -/
def octetBackUptoRow : OpenClaim := { program := "ytpmfaocegkjhmaadoor", sum := "1a0154ada2ee817b1f46e7c69da88cbecbae96533c09ee939db040b660787d71", func := "sounder/sounderlaw02.OctetBack", spec := "octetBack", unfollowed := true, recurses := true, named := ["sounder/octet.limits"], apart := false, laid := [("sounder/octet.limits", laid_sounder_octet_limits)], narrowed := true }
def OctetBackUptoSaid : Prop := octetBackUptoRow.holds Tryd.pinned (OpenSpec.upto octetBackSpec)

/-- 'sounderlaw02.OctetKnown', WHERE WHAT IT READS IS OF BULK AT MOST 1048576: true; the input reads as it did. -/
def octetKnownUptoRow : OpenClaim := { program := "ytpmfaocegkjhmaadoor", sum := "1a0154ada2ee817b1f46e7c69da88cbecbae96533c09ee939db040b660787d71", func := "sounder/sounderlaw02.OctetKnown", spec := "octetKnown", unfollowed := true, recurses := true, named := ["sounder/octet.limits"], apart := false, laid := [("sounder/octet.limits", laid_sounder_octet_limits)], narrowed := true }
def OctetKnownUptoSaid : Prop := octetKnownUptoRow.holds Tryd.pinned (OpenSpec.upto octetKnownSpec)

end Rows
end Go.Proofs.YtpmfaocegkjhmaaDoor
