/-
  NARROWER THAN 'FOR EVERY INPUT', by the rows' own cells (each row's printed sentence says how): CrcSums: laid · CrcNibbles: laid · CrcJoins: laid · CrcParts: laid · CrcSeals: laid · CrcChecks: laid · CrcBroken: laid · CrcZeros: laid.
  DERIVED. THE GIVEN ROWS OF THIS SEAT. 8 by the template 'for every input the law returns true; each argument reads behind the call as it read before'; 0 by the template 'total and deterministic' (their statements: YtcmpaebogekdcaaDoorTotals.lean).
  GIVEN WITH THE SEED: the statements are not yours to turn. If you find one false, say at which input.
  Laid BY PROGRAM, IN A SANDBOX (cutbox-rows.mjs): the forced cells as the released guide's own fill.sh prints them over the translation fcce8d0baa122396… (all of the seat's roots in one cut). By AI agents, Wed Nov 11 2026. No macro, syntax, notation, axiom, sorry.
-/
import Derived.Test.YtcmpaebogekdcaaDoorChecked
import GoSem.Claim
import GoSem.ClaimJoined
import GoSem.ClaimMapViews
import Derived.JoinedTies
import Derived.KernelRfl
namespace Go.Proofs.YtcmpaebogekdcaaDoor
/- THE CELL 'sum', in the pinned program and in every row, IS THE sha256 OF THE DUMP (.gsa) THAT YtcmpaebogekdcaaDoorProg.lean LOADS. Nothing in Lean hashes anything: it is a label: what it is worth is what the hold of that sum in a sandbox is worth. -/
noncomputable def Tryd.pinned : Pinned := { name := "ytcmpaebogekdcaadoor", sum := "fcce8d0baa1223965e1be944b95d88efdf2b00c2fc5bd050c4e7983476559db4", checked := Tryd.checked }
namespace Rows
def none {H : Type} : Left H := { results := [], args := [] }

/- WHAT THE LISTED PACKAGE-LEVEL VARIABLES READ AS WHEN THE CALL BEGINS. Each datum BY PROGRAM (the guide's laid-datum.mjs) off the statement by which the dump's own 'gosem.cut.vars' lays the variable. In a bare row this is a premise. The card (YtcmpaebogekdcaaDoorCards.lean) ties it to the program's text. -/
def laid_thatch_crc_nibbles {H : Type} : DataW H := .agg [.lit (.int .u32 0), .lit (.int .u32 274646895), .lit (.int .u32 549293790), .lit (.int .u32 820201905), .lit (.int .u32 1098587580), .lit (.int .u32 1361435347), .lit (.int .u32 1640403810), .lit (.int .u32 1905808397), .lit (.int .u32 2197175160), .lit (.int .u32 2460548119), .lit (.int .u32 2722870694), .lit (.int .u32 2987750089), .lit (.int .u32 3280807620), .lit (.int .u32 3553878443), .lit (.int .u32 3811616794), .lit (.int .u32 4084100981)]

/-- 'thatchlaw02.CrcSums': WHATEVER THE INPUT: true; the input reads as it did. -/
def crcSumsSpec : ChangeSpec := { name := "crcSums", fn := fun _ => fun
  | [d1, d2] => { results := [.lit (.bool true)], args := [d1, d2] }
  | _ => none }
def crcSumsRow : OpenClaim := { program := "ytcmpaebogekdcaadoor", sum := "fcce8d0baa1223965e1be944b95d88efdf2b00c2fc5bd050c4e7983476559db4", func := "thatch/thatchlaw02.CrcSums", spec := "crcSums", named := ["thatch/crc.nibbles"], apart := false, laid := [("thatch/crc.nibbles", laid_thatch_crc_nibbles)] }
def CrcSumsSaid : Prop := crcSumsRow.holds Tryd.pinned (OpenSpec.ofChange crcSumsSpec)

/-- ITS FALSE NEIGHBOUR: 'it returns false'. Refute it at one input. -/
def crcSumsWrong : ChangeSpec := { name := "crcSums", fn := fun _ => fun
  | [d1, d2] => { results := [.lit (.bool false)], args := [d1, d2] }
  | _ => none }
def CrcSumsWrongFalsely : Prop := crcSumsRow.holds Tryd.pinned (OpenSpec.ofChange crcSumsWrong)

/-- 'thatchlaw02.CrcNibbles': WHATEVER THE INPUT: true; the input reads as it did. -/
def crcNibblesSpec : ChangeSpec := { name := "crcNibbles", fn := fun _ => fun
  | [d] => { results := [.lit (.bool true)], args := [d] }
  | _ => none }
def crcNibblesRow : OpenClaim := { program := "ytcmpaebogekdcaadoor", sum := "fcce8d0baa1223965e1be944b95d88efdf2b00c2fc5bd050c4e7983476559db4", func := "thatch/thatchlaw02.CrcNibbles", spec := "crcNibbles", named := ["thatch/crc.nibbles"], apart := false, laid := [("thatch/crc.nibbles", laid_thatch_crc_nibbles)] }
def CrcNibblesSaid : Prop := crcNibblesRow.holds Tryd.pinned (OpenSpec.ofChange crcNibblesSpec)

/-- ITS FALSE NEIGHBOUR: 'it returns false'. Refute it at one input. -/
def crcNibblesWrong : ChangeSpec := { name := "crcNibbles", fn := fun _ => fun
  | [d] => { results := [.lit (.bool false)], args := [d] }
  | _ => none }
def CrcNibblesWrongFalsely : Prop := crcNibblesRow.holds Tryd.pinned (OpenSpec.ofChange crcNibblesWrong)

/-- 'thatchlaw02.CrcJoins': WHATEVER THE INPUT: true; the input reads as it did. -/
def crcJoinsSpec : ChangeSpec := { name := "crcJoins", fn := fun _ => fun
  | [d1, d2] => { results := [.lit (.bool true)], args := [d1, d2] }
  | _ => none }
def crcJoinsRow : OpenClaim := { program := "ytcmpaebogekdcaadoor", sum := "fcce8d0baa1223965e1be944b95d88efdf2b00c2fc5bd050c4e7983476559db4", func := "thatch/thatchlaw02.CrcJoins", spec := "crcJoins", named := ["thatch/crc.nibbles"], apart := false, laid := [("thatch/crc.nibbles", laid_thatch_crc_nibbles)] }
def CrcJoinsSaid : Prop := crcJoinsRow.holds Tryd.pinned (OpenSpec.ofChange crcJoinsSpec)

/-- ITS FALSE NEIGHBOUR: 'it returns false'. Refute it at one input. -/
def crcJoinsWrong : ChangeSpec := { name := "crcJoins", fn := fun _ => fun
  | [d1, d2] => { results := [.lit (.bool false)], args := [d1, d2] }
  | _ => none }
def CrcJoinsWrongFalsely : Prop := crcJoinsRow.holds Tryd.pinned (OpenSpec.ofChange crcJoinsWrong)

/-- 'thatchlaw02.CrcParts': WHATEVER THE INPUT: true; the input reads as it did. -/
def crcPartsSpec : ChangeSpec := { name := "crcParts", fn := fun _ => fun
  | [d] => { results := [.lit (.bool true)], args := [d] }
  | _ => none }
def crcPartsRow : OpenClaim := { program := "ytcmpaebogekdcaadoor", sum := "fcce8d0baa1223965e1be944b95d88efdf2b00c2fc5bd050c4e7983476559db4", func := "thatch/thatchlaw02.CrcParts", spec := "crcParts", named := ["thatch/crc.nibbles"], apart := false, laid := [("thatch/crc.nibbles", laid_thatch_crc_nibbles)] }
def CrcPartsSaid : Prop := crcPartsRow.holds Tryd.pinned (OpenSpec.ofChange crcPartsSpec)

/-- ITS FALSE NEIGHBOUR: 'it returns false'. Refute it at one input. -/
def crcPartsWrong : ChangeSpec := { name := "crcParts", fn := fun _ => fun
  | [d] => { results := [.lit (.bool false)], args := [d] }
  | _ => none }
def CrcPartsWrongFalsely : Prop := crcPartsRow.holds Tryd.pinned (OpenSpec.ofChange crcPartsWrong)

/-- 'thatchlaw02.CrcSeals': WHATEVER THE INPUT: true; the input reads as it did. -/
def crcSealsSpec : ChangeSpec := { name := "crcSeals", fn := fun _ => fun
  | [d] => { results := [.lit (.bool true)], args := [d] }
  | _ => none }
def crcSealsRow : OpenClaim := { program := "ytcmpaebogekdcaadoor", sum := "fcce8d0baa1223965e1be944b95d88efdf2b00c2fc5bd050c4e7983476559db4", func := "thatch/thatchlaw02.CrcSeals", spec := "crcSeals", named := ["thatch/crc.nibbles"], apart := false, laid := [("thatch/crc.nibbles", laid_thatch_crc_nibbles)] }
def CrcSealsSaid : Prop := crcSealsRow.holds Tryd.pinned (OpenSpec.ofChange crcSealsSpec)

/-- ITS FALSE NEIGHBOUR: 'it returns false'. Refute it at one input. -/
def crcSealsWrong : ChangeSpec := { name := "crcSeals", fn := fun _ => fun
  | [d] => { results := [.lit (.bool false)], args := [d] }
  | _ => none }
def CrcSealsWrongFalsely : Prop := crcSealsRow.holds Tryd.pinned (OpenSpec.ofChange crcSealsWrong)

/-- 'thatchlaw02.CrcChecks': WHATEVER THE INPUT: true; the input reads as it did. -/
def crcChecksSpec : ChangeSpec := { name := "crcChecks", fn := fun _ => fun
  | [d] => { results := [.lit (.bool true)], args := [d] }
  | _ => none }
def crcChecksRow : OpenClaim := { program := "ytcmpaebogekdcaadoor", sum := "fcce8d0baa1223965e1be944b95d88efdf2b00c2fc5bd050c4e7983476559db4", func := "thatch/thatchlaw02.CrcChecks", spec := "crcChecks", named := ["thatch/crc.nibbles"], apart := false, laid := [("thatch/crc.nibbles", laid_thatch_crc_nibbles)] }
def CrcChecksSaid : Prop := crcChecksRow.holds Tryd.pinned (OpenSpec.ofChange crcChecksSpec)

/-- ITS FALSE NEIGHBOUR: 'it returns false'. Refute it at one input. -/
def crcChecksWrong : ChangeSpec := { name := "crcChecks", fn := fun _ => fun
  | [d] => { results := [.lit (.bool false)], args := [d] }
  | _ => none }
def CrcChecksWrongFalsely : Prop := crcChecksRow.holds Tryd.pinned (OpenSpec.ofChange crcChecksWrong)

/-- 'thatchlaw02.CrcBroken': WHATEVER THE INPUT: true; the input reads as it did. -/
def crcBrokenSpec : ChangeSpec := { name := "crcBroken", fn := fun _ => fun
  | [d1, d2, d3] => { results := [.lit (.bool true)], args := [d1, d2, d3] }
  | _ => none }
def crcBrokenRow : OpenClaim := { program := "ytcmpaebogekdcaadoor", sum := "fcce8d0baa1223965e1be944b95d88efdf2b00c2fc5bd050c4e7983476559db4", func := "thatch/thatchlaw02.CrcBroken", spec := "crcBroken", named := ["thatch/crc.nibbles"], apart := false, laid := [("thatch/crc.nibbles", laid_thatch_crc_nibbles)] }
def CrcBrokenSaid : Prop := crcBrokenRow.holds Tryd.pinned (OpenSpec.ofChange crcBrokenSpec)

/-- ITS FALSE NEIGHBOUR: 'it returns false'. Refute it at one input. -/
def crcBrokenWrong : ChangeSpec := { name := "crcBroken", fn := fun _ => fun
  | [d1, d2, d3] => { results := [.lit (.bool false)], args := [d1, d2, d3] }
  | _ => none }
def CrcBrokenWrongFalsely : Prop := crcBrokenRow.holds Tryd.pinned (OpenSpec.ofChange crcBrokenWrong)

/-- 'thatchlaw02.CrcZeros': WHATEVER THE INPUT: true; the input reads as it did. -/
def crcZerosSpec : ChangeSpec := { name := "crcZeros", fn := fun _ => fun
  | [d1, d2] => { results := [.lit (.bool true)], args := [d1, d2] }
  | _ => none }
def crcZerosRow : OpenClaim := { program := "ytcmpaebogekdcaadoor", sum := "fcce8d0baa1223965e1be944b95d88efdf2b00c2fc5bd050c4e7983476559db4", func := "thatch/thatchlaw02.CrcZeros", spec := "crcZeros", named := ["thatch/crc.nibbles"], apart := false, laid := [("thatch/crc.nibbles", laid_thatch_crc_nibbles)] }
def CrcZerosSaid : Prop := crcZerosRow.holds Tryd.pinned (OpenSpec.ofChange crcZerosSpec)

/-- ITS FALSE NEIGHBOUR: 'it returns false'. Refute it at one input. -/
def crcZerosWrong : ChangeSpec := { name := "crcZeros", fn := fun _ => fun
  | [d1, d2] => { results := [.lit (.bool false)], args := [d1, d2] }
  | _ => none }
def CrcZerosWrongFalsely : Prop := crcZerosRow.holds Tryd.pinned (OpenSpec.ofChange crcZerosWrong)

/- THE SECOND FORM. 'bulk': how many values and letters a reading holds, each counted each time it is reached (what is shared counts as often as it is met; a slice's spare places count too). A statement '..UptoSaid' is the law's where the arguments, and the package variables that the reading takes, are together of bulk at most 1048576: NARROWER than '..Said'. Prove '..Said' where nothing that the law and all that it calls make is longer than what came in: it says more and counts as full. Else prove '..UptoSaid'. A law counts once. -/
mutual
def uptoBulk {H : Type} : DataW H → Nat
  | .lit (.string bytes) => bytes.length + 1
  | .lit _ => 1
  | .nil => 1
  | .ptr d => uptoBulk d + 1
  | .slice elems spare => uptoBulkAll elems + uptoBulkAll spare + 1
  | .agg parts => uptoBulkAll parts + 1
  | .iface _ d => uptoBulk d + 1
  | .map entries => uptoBulkEntries entries + 1
  | .held _ => 1
def uptoBulkAll {H : Type} : List (DataW H) → Nat
  | [] => 0
  | d :: r => uptoBulk d + uptoBulkAll r
def uptoBulkEntries {H : Type} : List (Lit × DataW H) → Nat
  | [] => 0
  | x :: r => uptoBulkEntry x + uptoBulkEntries r
def uptoBulkEntry {H : Type} : Lit × DataW H → Nat
  | (.string bytes, d) => bytes.length + uptoBulk d + 1
  | (_, d) => uptoBulk d + 1
 end
def uptoSmall : (H : Type) → List (DataW H) → Bool := fun _ ds => decide (uptoBulkAll ds ≤ 1048576)
def OpenSpec.upto (s : _root_.Go.ChangeSpec) : _root_.Go.OpenSpec := { _root_.Go.OpenSpec.ofChange s with cond := some uptoSmall }

/-- 'thatchlaw02.CrcSums', WHERE WHAT IT READS IS OF BULK AT MOST 1048576: true; the input reads as it did. -/
def crcSumsUptoRow : OpenClaim := { program := "ytcmpaebogekdcaadoor", sum := "fcce8d0baa1223965e1be944b95d88efdf2b00c2fc5bd050c4e7983476559db4", func := "thatch/thatchlaw02.CrcSums", spec := "crcSums", named := ["thatch/crc.nibbles"], apart := false, laid := [("thatch/crc.nibbles", laid_thatch_crc_nibbles)], narrowed := true }
def CrcSumsUptoSaid : Prop := crcSumsUptoRow.holds Tryd.pinned (OpenSpec.upto crcSumsSpec)

/-- 'thatchlaw02.CrcNibbles', WHERE WHAT IT READS IS OF BULK AT MOST 1048576: true; the input reads as it did. -/
def crcNibblesUptoRow : OpenClaim := { program := "ytcmpaebogekdcaadoor", sum := "fcce8d0baa1223965e1be944b95d88efdf2b00c2fc5bd050c4e7983476559db4", func := "thatch/thatchlaw02.CrcNibbles", spec := "crcNibbles", named := ["thatch/crc.nibbles"], apart := false, laid := [("thatch/crc.nibbles", laid_thatch_crc_nibbles)], narrowed := true }
def CrcNibblesUptoSaid : Prop := crcNibblesUptoRow.holds Tryd.pinned (OpenSpec.upto crcNibblesSpec)

/-- 'thatchlaw02.CrcJoins', WHERE WHAT IT READS IS OF BULK AT MOST 1048576: true; the input reads as it did. -/
def crcJoinsUptoRow : OpenClaim := { program := "ytcmpaebogekdcaadoor", sum := "fcce8d0baa1223965e1be944b95d88efdf2b00c2fc5bd050c4e7983476559db4", func := "thatch/thatchlaw02.CrcJoins", spec := "crcJoins", named := ["thatch/crc.nibbles"], apart := false, laid := [("thatch/crc.nibbles", laid_thatch_crc_nibbles)], narrowed := true }
def CrcJoinsUptoSaid : Prop := crcJoinsUptoRow.holds Tryd.pinned (OpenSpec.upto crcJoinsSpec)

/-- 'thatchlaw02.CrcParts', WHERE WHAT IT READS IS OF BULK AT MOST 1048576: true; the input reads as it did. -/
def crcPartsUptoRow : OpenClaim := { program := "ytcmpaebogekdcaadoor", sum := "fcce8d0baa1223965e1be944b95d88efdf2b00c2fc5bd050c4e7983476559db4", func := "thatch/thatchlaw02.CrcParts", spec := "crcParts", named := ["thatch/crc.nibbles"], apart := false, laid := [("thatch/crc.nibbles", laid_thatch_crc_nibbles)], narrowed := true }
def CrcPartsUptoSaid : Prop := crcPartsUptoRow.holds Tryd.pinned (OpenSpec.upto crcPartsSpec)

/-- 'thatchlaw02.CrcSeals', WHERE WHAT IT READS IS OF BULK AT MOST 1048576: true; the input reads as it did. -/
def crcSealsUptoRow : OpenClaim := { program := "ytcmpaebogekdcaadoor", sum := "fcce8d0baa1223965e1be944b95d88efdf2b00c2fc5bd050c4e7983476559db4", func := "thatch/thatchlaw02.CrcSeals", spec := "crcSeals", named := ["thatch/crc.nibbles"], apart := false, laid := [("thatch/crc.nibbles", laid_thatch_crc_nibbles)], narrowed := true }
def CrcSealsUptoSaid : Prop := crcSealsUptoRow.holds Tryd.pinned (OpenSpec.upto crcSealsSpec)

/-- 'thatchlaw02.CrcChecks', WHERE WHAT IT READS IS OF BULK AT MOST 1048576: true; the input reads as it did. -/
def crcChecksUptoRow : OpenClaim := { program := "ytcmpaebogekdcaadoor", sum := "fcce8d0baa1223965e1be944b95d88efdf2b00c2fc5bd050c4e7983476559db4", func := "thatch/thatchlaw02.CrcChecks", spec := "crcChecks", named := ["thatch/crc.nibbles"], apart := false, laid := [("thatch/crc.nibbles", laid_thatch_crc_nibbles)], narrowed := true }
def CrcChecksUptoSaid : Prop := crcChecksUptoRow.holds Tryd.pinned (OpenSpec.upto crcChecksSpec)

/-- 'thatchlaw02.CrcBroken', WHERE WHAT IT READS IS OF BULK AT MOST 1048576: true; the input reads as it did. -/
def crcBrokenUptoRow : OpenClaim := { program := "ytcmpaebogekdcaadoor", sum := "fcce8d0baa1223965e1be944b95d88efdf2b00c2fc5bd050c4e7983476559db4", func := "thatch/thatchlaw02.CrcBroken", spec := "crcBroken", named := ["thatch/crc.nibbles"], apart := false, laid := [("thatch/crc.nibbles", laid_thatch_crc_nibbles)], narrowed := true }
def CrcBrokenUptoSaid : Prop := crcBrokenUptoRow.holds Tryd.pinned (OpenSpec.upto crcBrokenSpec)

/-- 'thatchlaw02.CrcZeros', WHERE WHAT IT READS IS OF BULK AT MOST 1048576: true; the input reads as it did. -/
def crcZerosUptoRow : OpenClaim := { program := "ytcmpaebogekdcaadoor", sum := "fcce8d0baa1223965e1be944b95d88efdf2b00c2fc5bd050c4e7983476559db4", func := "thatch/thatchlaw02.CrcZeros", spec := "crcZeros", named := ["thatch/crc.nibbles"], apart := false, laid := [("thatch/crc.nibbles", laid_thatch_crc_nibbles)], narrowed := true }
def CrcZerosUptoSaid : Prop := crcZerosUptoRow.holds Tryd.pinned (OpenSpec.upto crcZerosSpec)

end Rows
end Go.Proofs.YtcmpaebogekdcaaDoor
