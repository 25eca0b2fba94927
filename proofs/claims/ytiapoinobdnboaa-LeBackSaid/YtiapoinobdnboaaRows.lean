/-
  No cell of these rows narrows 'for every input' (looked for: loops, veiled, ifaces, maps, wideKeys, modest, calm, conditions, laid).
  DERIVED. THE GIVEN ROWS OF THIS SEAT. 6 by the template 'for every input the law returns true; each argument reads behind the call as it read before'; 0 by the template 'total and deterministic' (their statements: YtiapoinobdnboaaTotals.lean).
  GIVEN WITH THE SEED: the statements are not yours to turn. If you find one false, say at which input.
  Laid BY PROGRAM, IN A SANDBOX (cutbox-rows.mjs): the forced cells as the released guide's own fill.sh prints them over the translation c7d890a7c93ac970… (all of the seat's roots in one cut). By AI agents, Wed Nov 11 2026. No macro, syntax, notation, axiom, sorry.
-/
import Derived.Test.YtiapoinobdnboaaChecked
import GoSem.Claim
import GoSem.ClaimJoined
import GoSem.ClaimMapViews
import Derived.JoinedTies
import Derived.KernelRfl
namespace Go.Proofs.Ytiapoinobdnboaa
/- THE CELL 'sum', in the pinned program and in every row, IS THE sha256 OF THE DUMP (.gsa) THAT YtiapoinobdnboaaProg.lean LOADS. Nothing in Lean hashes anything: it is a label: what it is worth is what the hold of that sum in a sandbox is worth. -/
noncomputable def Try.pinned : Pinned := { name := "ytiapoinobdnboaa", sum := "c7d890a7c93ac970abeacab2eaed9636602426370fe6b397755b2e61a72f3049", checked := Try.checked }
namespace Rows
def none {H : Type} : Left H := { results := [], args := [] }

/-- 'thatchlaw01.LeBack': WHATEVER THE INPUT: true; the input reads as it did. -/
def leBackSpec : ChangeSpec := { name := "leBack", fn := fun _ => fun
  | [d] => { results := [.lit (.bool true)], args := [d] }
  | _ => none }
def leBackRow : OpenClaim := { program := "ytiapoinobdnboaa", sum := "c7d890a7c93ac970abeacab2eaed9636602426370fe6b397755b2e61a72f3049", func := "thatch/thatchlaw01.LeBack", spec := "leBack", unfollowed := true, recurses := true, apart := false }
def LeBackSaid : Prop := leBackRow.holds Try.pinned (OpenSpec.ofChange leBackSpec)

/-- ITS FALSE NEIGHBOUR: 'it returns false'. Refute it at one input. -/
def leBackWrong : ChangeSpec := { name := "leBack", fn := fun _ => fun
  | [d] => { results := [.lit (.bool false)], args := [d] }
  | _ => none }
def LeBackWrongFalsely : Prop := leBackRow.holds Try.pinned (OpenSpec.ofChange leBackWrong)

/-- 'thatchlaw01.LeGets': WHATEVER THE INPUT: true; the input reads as it did. -/
def leGetsSpec : ChangeSpec := { name := "leGets", fn := fun _ => fun
  | [d1, d2] => { results := [.lit (.bool true)], args := [d1, d2] }
  | _ => none }
def leGetsRow : OpenClaim := { program := "ytiapoinobdnboaa", sum := "c7d890a7c93ac970abeacab2eaed9636602426370fe6b397755b2e61a72f3049", func := "thatch/thatchlaw01.LeGets", spec := "leGets", unfollowed := true, recurses := true, apart := false }
def LeGetsSaid : Prop := leGetsRow.holds Try.pinned (OpenSpec.ofChange leGetsSpec)

/-- ITS FALSE NEIGHBOUR: 'it returns false'. Refute it at one input. -/
def leGetsWrong : ChangeSpec := { name := "leGets", fn := fun _ => fun
  | [d1, d2] => { results := [.lit (.bool false)], args := [d1, d2] }
  | _ => none }
def LeGetsWrongFalsely : Prop := leGetsRow.holds Try.pinned (OpenSpec.ofChange leGetsWrong)

/-- 'thatchlaw01.LePuts': WHATEVER THE INPUT: true; the input reads as it did. -/
def lePutsSpec : ChangeSpec := { name := "lePuts", fn := fun _ => fun
  | [d1, d2] => { results := [.lit (.bool true)], args := [d1, d2] }
  | _ => none }
def lePutsRow : OpenClaim := { program := "ytiapoinobdnboaa", sum := "c7d890a7c93ac970abeacab2eaed9636602426370fe6b397755b2e61a72f3049", func := "thatch/thatchlaw01.LePuts", spec := "lePuts", unfollowed := true, recurses := true, apart := false }
def LePutsSaid : Prop := lePutsRow.holds Try.pinned (OpenSpec.ofChange lePutsSpec)

/-- ITS FALSE NEIGHBOUR: 'it returns false'. Refute it at one input. -/
def lePutsWrong : ChangeSpec := { name := "lePuts", fn := fun _ => fun
  | [d1, d2] => { results := [.lit (.bool false)], args := [d1, d2] }
  | _ => none }
def LePutsWrongFalsely : Prop := lePutsRow.holds Try.pinned (OpenSpec.ofChange lePutsWrong)

/-- 'thatchlaw01.LeBits': WHATEVER THE INPUT: true; the input reads as it did. -/
def leBitsSpec : ChangeSpec := { name := "leBits", fn := fun _ => fun
  | [d1, d2] => { results := [.lit (.bool true)], args := [d1, d2] }
  | _ => none }
def leBitsRow : OpenClaim := { program := "ytiapoinobdnboaa", sum := "c7d890a7c93ac970abeacab2eaed9636602426370fe6b397755b2e61a72f3049", func := "thatch/thatchlaw01.LeBits", spec := "leBits", unfollowed := true, recurses := true, apart := false }
def LeBitsSaid : Prop := leBitsRow.holds Try.pinned (OpenSpec.ofChange leBitsSpec)

/-- ITS FALSE NEIGHBOUR: 'it returns false'. Refute it at one input. -/
def leBitsWrong : ChangeSpec := { name := "leBits", fn := fun _ => fun
  | [d1, d2] => { results := [.lit (.bool false)], args := [d1, d2] }
  | _ => none }
def LeBitsWrongFalsely : Prop := leBitsRow.holds Try.pinned (OpenSpec.ofChange leBitsWrong)

/-- 'thatchlaw01.LeUnpacks': WHATEVER THE INPUT: true; the input reads as it did. -/
def leUnpacksSpec : ChangeSpec := { name := "leUnpacks", fn := fun _ => fun
  | [d1, d2] => { results := [.lit (.bool true)], args := [d1, d2] }
  | _ => none }
def leUnpacksRow : OpenClaim := { program := "ytiapoinobdnboaa", sum := "c7d890a7c93ac970abeacab2eaed9636602426370fe6b397755b2e61a72f3049", func := "thatch/thatchlaw01.LeUnpacks", spec := "leUnpacks", unfollowed := true, recurses := true, apart := false }
def LeUnpacksSaid : Prop := leUnpacksRow.holds Try.pinned (OpenSpec.ofChange leUnpacksSpec)

/-- ITS FALSE NEIGHBOUR: 'it returns false'. Refute it at one input. -/
def leUnpacksWrong : ChangeSpec := { name := "leUnpacks", fn := fun _ => fun
  | [d1, d2] => { results := [.lit (.bool false)], args := [d1, d2] }
  | _ => none }
def LeUnpacksWrongFalsely : Prop := leUnpacksRow.holds Try.pinned (OpenSpec.ofChange leUnpacksWrong)

/-- 'thatchlaw01.LeNobody': WHATEVER THE INPUT: true; the input reads as it did. -/
def leNobodySpec : ChangeSpec := { name := "leNobody", fn := fun _ => fun
  | [d] => { results := [.lit (.bool true)], args := [d] }
  | _ => none }
def leNobodyRow : OpenClaim := { program := "ytiapoinobdnboaa", sum := "c7d890a7c93ac970abeacab2eaed9636602426370fe6b397755b2e61a72f3049", func := "thatch/thatchlaw01.LeNobody", spec := "leNobody", unfollowed := true, recurses := true, apart := false }
def LeNobodySaid : Prop := leNobodyRow.holds Try.pinned (OpenSpec.ofChange leNobodySpec)

/-- ITS FALSE NEIGHBOUR: 'it returns false'. Refute it at one input. -/
def leNobodyWrong : ChangeSpec := { name := "leNobody", fn := fun _ => fun
  | [d] => { results := [.lit (.bool false)], args := [d] }
  | _ => none }
def LeNobodyWrongFalsely : Prop := leNobodyRow.holds Try.pinned (OpenSpec.ofChange leNobodyWrong)

/- THE SECOND FORM. 'bulk': how many values and letters a reading holds, each counted each time it is reached (what is shared counts as often as it is met; a slice's spare places count too). A statement '..UptoSaid' is the law's where the arguments, and the package variables that the reading takes, are together of bulk at most 1048576: NARROWER than '..Said'. Prove '..Said' where nothing that the law and all that it calls make is longer than what came in: it says more and counts as full. Else prove '..UptoSaid'. A law counts once. -/
mutual
def uptoBulk {H : Type} : DataW H → Nat
  | .lit (.string bytes) => bytes.length + 1
  | .lit _ => 1
  | .nil => 1
  | .ptr d => uptoBulk d + 1
  | .slice elems spare => uptoBulkAll elems + uptoBulkAll spare + 1
  | .agg parts => uptoBulkAll parts + 1
  | .iface _ d => uptoBulk d + 1
  | .map entries => uptoBulkEntries entries + 1
  | .held _ => 1
def uptoBulkAll {H : Type} : List (DataW H) → Nat
  | [] => 0
  | d :: r => uptoBulk d + uptoBulkAll r
def uptoBulkEntries {H : Type} : List (Lit × DataW H) → Nat
  | [] => 0
  | x :: r => uptoBulkEntry x + uptoBulkEntries r
def uptoBulkEntry {H : Type} : Lit × DataW H → Nat
  | (.string bytes, d) => bytes.length + uptoBulk d + 1
  | (_, d) => uptoBulk d + 1
 end
def uptoSmall : (H : Type) → List (DataW H) → Bool := fun _ ds => decide (uptoBulkAll ds ≤ 1048576)
def OpenSpec.upto (s : _root_.Go.ChangeSpec) : _root_.Go.OpenSpec := { _root_.Go.OpenSpec.ofChange s with cond := some uptoSmall }

/-- 'thatchlaw01.LeBack', WHERE WHAT IT READS IS OF BULK AT MOST 1048576: true; the input reads as it did. -/
def leBackUptoRow : OpenClaim := { program := "ytiapoinobdnboaa", sum := "c7d890a7c93ac970abeacab2eaed9636602426370fe6b397755b2e61a72f3049", func := "thatch/thatchlaw01.LeBack", spec := "leBack", unfollowed := true, recurses := true, apart := false, narrowed := true }
def LeBackUptoSaid : Prop := leBackUptoRow.holds Try.pinned (OpenSpec.upto leBackSpec)

/-- 'thatchlaw01.LeGets', WHERE WHAT IT READS IS OF BULK AT MOST 1048576: true; the input reads as it did. -/
def leGetsUptoRow : OpenClaim := { program := "ytiapoinobdnboaa", sum := "c7d890a7c93ac970abeacab2eaed9636602426370fe6b397755b2e61a72f3049", func := "thatch/thatchlaw01.LeGets", spec := "leGets", unfollowed := true, recurses := true, apart := false, narrowed := true }
def LeGetsUptoSaid : Prop := leGetsUptoRow.holds Try.pinned (OpenSpec.upto leGetsSpec)

/-- 'thatchlaw01.LePuts', WHERE WHAT IT READS IS OF BULK AT MOST 1048576: true; the input reads as it did. -/
def lePutsUptoRow : OpenClaim := { program := "ytiapoinobdnboaa", sum := "c7d890a7c93ac970abeacab2eaed9636602426370fe6b397755b2e61a72f3049", func := "thatch/thatchlaw01.LePuts", spec := "lePuts", unfollowed := true, recurses := true, apart := false, narrowed := true }
def LePutsUptoSaid : Prop := lePutsUptoRow.holds Try.pinned (OpenSpec.upto lePutsSpec)

/-- 'thatchlaw01.LeBits', WHERE WHAT IT READS IS OF BULK AT MOST 1048576: true; the input reads as it did. -/
def leBitsUptoRow : OpenClaim := { program := "ytiapoinobdnboaa", sum := "c7d890a7c93ac970abeacab2eaed9636602426370fe6b397755b2e61a72f3049", func := "thatch/thatchlaw01.LeBits", spec := "leBits", unfollowed := true, recurses := true, apart := false, narrowed := true }
def LeBitsUptoSaid : Prop := leBitsUptoRow.holds Try.pinned (OpenSpec.upto leBitsSpec)

/-- 'thatchlaw01.LeUnpacks', WHERE WHAT IT READS IS OF BULK AT MOST 1048576: true; the input reads as it did. -/
def leUnpacksUptoRow : OpenClaim := { program := "ytiapoinobdnboaa", sum := "c7d890a7c93ac970abeacab2eaed9636602426370fe6b397755b2e61a72f3049", func := "thatch/thatchlaw01.LeUnpacks", spec := "leUnpacks", unfollowed := true, recurses := true, apart := false, narrowed := true }
def LeUnpacksUptoSaid : Prop := leUnpacksUptoRow.holds Try.pinned (OpenSpec.upto leUnpacksSpec)

/-- 'thatchlaw01.LeNobody', WHERE WHAT IT READS IS OF BULK AT MOST 1048576: true; the input reads as it did. -/
def leNobodyUptoRow : OpenClaim := { program := "ytiapoinobdnboaa", sum := "c7d890a7c93ac970abeacab2eaed9636602426370fe6b397755b2e61a72f3049", func := "thatch/thatchlaw01.LeNobody", spec := "leNobody", unfollowed := true, recurses := true, apart := false, narrowed := true }
def LeNobodyUptoSaid : Prop := leNobodyUptoRow.holds Try.pinned (OpenSpec.upto leNobodySpec)

end Rows
end Go.Proofs.Ytiapoinobdnboaa
