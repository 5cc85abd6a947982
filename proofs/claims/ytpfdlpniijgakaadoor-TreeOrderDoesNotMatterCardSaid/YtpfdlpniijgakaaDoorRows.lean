/-
  NARROWER THAN 'FOR EVERY INPUT', by the rows' own cells (each row's printed sentence says how): TreeNodesCount: laid · TreeShares: laid · TreeDiffMatchesSpec: laid · TreeDiffLeads: laid · TreePlays: laid · TreeOrderDoesNotMatter: laid.
  DERIVED. THE GIVEN ROWS OF THIS SEAT. 6 by the template 'for every input the law returns true; each argument reads behind the call as it read before'; 0 by the template 'total and deterministic' (their statements: YtpfdlpniijgakaaDoorTotals.lean).
  GIVEN WITH THE SEED: the statements are not yours to turn. If you find one false, say at which input.
  Laid BY PROGRAM, IN A SANDBOX (cutbox-rows.mjs): the forced cells as the released guide's own fill.sh prints them over the translation b1185715f7ed10e3… (all of the seat's roots in one cut). By AI agents, Wed Nov 11 2026. No macro, syntax, notation, axiom, sorry.
-/
import Derived.Test.YtpfdlpniijgakaaDoorChecked
import GoSem.Claim
import GoSem.ClaimJoined
import GoSem.ClaimMapViews
import Derived.JoinedTies
import Derived.KernelRfl
namespace Go.Proofs.YtpfdlpniijgakaaDoor
/- THE CELL 'sum', in the pinned program and in every row, IS THE sha256 OF THE DUMP (.gsa) THAT YtpfdlpniijgakaaDoorProg.lean LOADS. Nothing in Lean hashes anything: it is a label: what it is worth is what the hold of that sum in a sandbox is worth. -/
noncomputable def Tryd.pinned : Pinned := { name := "ytpfdlpniijgakaadoor", sum := "b1185715f7ed10e337b7ac287981fa1e959c7581a7c9ed3e42aede94aeeaef0e", checked := Tryd.checked }
namespace Rows
def none {H : Type} : Left H := { results := [], args := [] }

/- WHAT THE LISTED PACKAGE-LEVEL VARIABLES READ AS WHEN THE CALL BEGINS. Each datum BY PROGRAM (the guide's laid-datum.mjs) off the statement by which the dump's own 'gosem.cut.vars' lays the variable. In a bare row this is a premise. The card (YtpfdlpniijgakaaDoorCards.lean) ties it to the program's text. -/
def laid_math_bits_deBruijn32tab {H : Type} : DataW H := .agg [.lit (.int .u8 0), .lit (.int .u8 1), .lit (.int .u8 28), .lit (.int .u8 2), .lit (.int .u8 29), .lit (.int .u8 14), .lit (.int .u8 24), .lit (.int .u8 3), .lit (.int .u8 30), .lit (.int .u8 22), .lit (.int .u8 20), .lit (.int .u8 15), .lit (.int .u8 25), .lit (.int .u8 17), .lit (.int .u8 4), .lit (.int .u8 8), .lit (.int .u8 31), .lit (.int .u8 27), .lit (.int .u8 13), .lit (.int .u8 23), .lit (.int .u8 21), .lit (.int .u8 19), .lit (.int .u8 16), .lit (.int .u8 7), .lit (.int .u8 26), .lit (.int .u8 12), .lit (.int .u8 18), .lit (.int .u8 6), .lit (.int .u8 11), .lit (.int .u8 5), .lit (.int .u8 10), .lit (.int .u8 9)]

/-- 'solventlaw26.TreeNodesCount': WHATEVER THE INPUT: true; the input reads as it did. -/
def treeNodesCountSpec : ChangeSpec := { name := "treeNodesCount", fn := fun _ => fun
  | [d] => { results := [.lit (.bool true)], args := [d] }
  | _ => none }
def treeNodesCountRow : OpenClaim := { program := "ytpfdlpniijgakaadoor", sum := "b1185715f7ed10e337b7ac287981fa1e959c7581a7c9ed3e42aede94aeeaef0e", func := "solvent/solventlaw26.TreeNodesCount", spec := "treeNodesCount", unfollowed := true, recurses := true, named := ["math/bits.deBruijn32tab"], apart := false, laid := [("math/bits.deBruijn32tab", laid_math_bits_deBruijn32tab)] }
def TreeNodesCountSaid : Prop := treeNodesCountRow.holds Tryd.pinned (OpenSpec.ofChange treeNodesCountSpec)

/-- ITS FALSE NEIGHBOUR: 'it returns false'. Refute it at one input. -/
def treeNodesCountWrong : ChangeSpec := { name := "treeNodesCount", fn := fun _ => fun
  | [d] => { results := [.lit (.bool false)], args := [d] }
  | _ => none }
def TreeNodesCountWrongFalsely : Prop := treeNodesCountRow.holds Tryd.pinned (OpenSpec.ofChange treeNodesCountWrong)

/-- 'solventlaw26.TreeShares': WHATEVER THE INPUT: true; the input reads as it did. -/
def treeSharesSpec : ChangeSpec := { name := "treeShares", fn := fun _ => fun
  | [d1, d2] => { results := [.lit (.bool true)], args := [d1, d2] }
  | _ => none }
def treeSharesRow : OpenClaim := { program := "ytpfdlpniijgakaadoor", sum := "b1185715f7ed10e337b7ac287981fa1e959c7581a7c9ed3e42aede94aeeaef0e", func := "solvent/solventlaw26.TreeShares", spec := "treeShares", unfollowed := true, recurses := true, named := ["math/bits.deBruijn32tab"], apart := false, laid := [("math/bits.deBruijn32tab", laid_math_bits_deBruijn32tab)] }
def TreeSharesSaid : Prop := treeSharesRow.holds Tryd.pinned (OpenSpec.ofChange treeSharesSpec)

/-- ITS FALSE NEIGHBOUR: 'it returns false'. Refute it at one input. -/
def treeSharesWrong : ChangeSpec := { name := "treeShares", fn := fun _ => fun
  | [d1, d2] => { results := [.lit (.bool false)], args := [d1, d2] }
  | _ => none }
def TreeSharesWrongFalsely : Prop := treeSharesRow.holds Tryd.pinned (OpenSpec.ofChange treeSharesWrong)

/-- 'solventlaw26.TreeDiffMatchesSpec': WHATEVER THE INPUT: true; the input reads as it did. -/
def treeDiffMatchesSpecSpec : ChangeSpec := { name := "treeDiffMatchesSpec", fn := fun _ => fun
  | [d] => { results := [.lit (.bool true)], args := [d] }
  | _ => none }
def treeDiffMatchesSpecRow : OpenClaim := { program := "ytpfdlpniijgakaadoor", sum := "b1185715f7ed10e337b7ac287981fa1e959c7581a7c9ed3e42aede94aeeaef0e", func := "solvent/solventlaw26.TreeDiffMatchesSpec", spec := "treeDiffMatchesSpec", unfollowed := true, recurses := true, named := ["math/bits.deBruijn32tab"], apart := false, laid := [("math/bits.deBruijn32tab", laid_math_bits_deBruijn32tab)] }
def TreeDiffMatchesSpecSaid : Prop := treeDiffMatchesSpecRow.holds Tryd.pinned (OpenSpec.ofChange treeDiffMatchesSpecSpec)

/-- ITS FALSE NEIGHBOUR: 'it returns false'. Refute it at one input. -/
def treeDiffMatchesSpecWrong : ChangeSpec := { name := "treeDiffMatchesSpec", fn := fun _ => fun
  | [d] => { results := [.lit (.bool false)], args := [d] }
  | _ => none }
def TreeDiffMatchesSpecWrongFalsely : Prop := treeDiffMatchesSpecRow.holds Tryd.pinned (OpenSpec.ofChange treeDiffMatchesSpecWrong)

/-- 'solventlaw26.TreeDiffLeads': WHATEVER THE INPUT: true; the input reads as it did. -/
def treeDiffLeadsSpec : ChangeSpec := { name := "treeDiffLeads", fn := fun _ => fun
  | [d1, d2] => { results := [.lit (.bool true)], args := [d1, d2] }
  | _ => none }
def treeDiffLeadsRow : OpenClaim := { program := "ytpfdlpniijgakaadoor", sum := "b1185715f7ed10e337b7ac287981fa1e959c7581a7c9ed3e42aede94aeeaef0e", func := "solvent/solventlaw26.TreeDiffLeads", spec := "treeDiffLeads", unfollowed := true, recurses := true, named := ["math/bits.deBruijn32tab"], apart := false, laid := [("math/bits.deBruijn32tab", laid_math_bits_deBruijn32tab)] }
def TreeDiffLeadsSaid : Prop := treeDiffLeadsRow.holds Tryd.pinned (OpenSpec.ofChange treeDiffLeadsSpec)

/-- ITS FALSE NEIGHBOUR: 'it returns false'. Refute it at one input. -/
def treeDiffLeadsWrong : ChangeSpec := { name := "treeDiffLeads", fn := fun _ => fun
  | [d1, d2] => { results := [.lit (.bool false)], args := [d1, d2] }
  | _ => none }
def TreeDiffLeadsWrongFalsely : Prop := treeDiffLeadsRow.holds Tryd.pinned (OpenSpec.ofChange treeDiffLeadsWrong)

/-- 'solventlaw26.TreePlays': WHATEVER THE INPUT: true; the input reads as it did. -/
def treePlaysSpec : ChangeSpec := { name := "treePlays", fn := fun _ => fun
  | [d1, d2, d3] => { results := [.lit (.bool true)], args := [d1, d2, d3] }
  | _ => none }
def treePlaysRow : OpenClaim := { program := "ytpfdlpniijgakaadoor", sum := "b1185715f7ed10e337b7ac287981fa1e959c7581a7c9ed3e42aede94aeeaef0e", func := "solvent/solventlaw26.TreePlays", spec := "treePlays", unfollowed := true, recurses := true, named := ["math/bits.deBruijn32tab"], apart := false, laid := [("math/bits.deBruijn32tab", laid_math_bits_deBruijn32tab)] }
def TreePlaysSaid : Prop := treePlaysRow.holds Tryd.pinned (OpenSpec.ofChange treePlaysSpec)

/-- ITS FALSE NEIGHBOUR: 'it returns false'. Refute it at one input. -/
def treePlaysWrong : ChangeSpec := { name := "treePlays", fn := fun _ => fun
  | [d1, d2, d3] => { results := [.lit (.bool false)], args := [d1, d2, d3] }
  | _ => none }
def TreePlaysWrongFalsely : Prop := treePlaysRow.holds Tryd.pinned (OpenSpec.ofChange treePlaysWrong)

/-- 'solventlaw26.TreeOrderDoesNotMatter': WHATEVER THE INPUT: true; the input reads as it did. -/
def treeOrderDoesNotMatterSpec : ChangeSpec := { name := "treeOrderDoesNotMatter", fn := fun _ => fun
  | [d1, d2] => { results := [.lit (.bool true)], args := [d1, d2] }
  | _ => none }
def treeOrderDoesNotMatterRow : OpenClaim := { program := "ytpfdlpniijgakaadoor", sum := "b1185715f7ed10e337b7ac287981fa1e959c7581a7c9ed3e42aede94aeeaef0e", func := "solvent/solventlaw26.TreeOrderDoesNotMatter", spec := "treeOrderDoesNotMatter", unfollowed := true, recurses := true, named := ["math/bits.deBruijn32tab"], apart := false, laid := [("math/bits.deBruijn32tab", laid_math_bits_deBruijn32tab)] }
def TreeOrderDoesNotMatterSaid : Prop := treeOrderDoesNotMatterRow.holds Tryd.pinned (OpenSpec.ofChange treeOrderDoesNotMatterSpec)

/-- ITS FALSE NEIGHBOUR: 'it returns false'. Refute it at one input. -/
def treeOrderDoesNotMatterWrong : ChangeSpec := { name := "treeOrderDoesNotMatter", fn := fun _ => fun
  | [d1, d2] => { results := [.lit (.bool false)], args := [d1, d2] }
  | _ => none }
def TreeOrderDoesNotMatterWrongFalsely : Prop := treeOrderDoesNotMatterRow.holds Tryd.pinned (OpenSpec.ofChange treeOrderDoesNotMatterWrong)

/- THE SECOND FORM. 'bulk': how many values and letters a reading holds, each counted each time it is reached (what is shared counts as often as it is met; a slice's spare places count too). A statement '..UptoSaid' is the law's where the arguments, and the package variables that the reading takes, are together of bulk at most 1048576: NARROWER than '..Said'. Prove '..Said' where nothing that the law and all that it calls make is longer than what came in: it says more and counts as full. Else prove '..UptoSaid'. A law counts once. -/
mutual
def uptoBulk {H : Type} : DataW H → Nat
  | .lit (.string bytes) => bytes.length + 1
  | .lit _ => 1
  | .nil => 1
  | .ptr d => uptoBulk d + 1
  | .slice elems spare => uptoBulkAll elems + uptoBulkAll spare + 1
  | .agg parts => uptoBulkAll parts + 1
  | .iface _ d => uptoBulk d + 1
  | .map entries => uptoBulkEntries entries + 1
  | .held _ => 1
def uptoBulkAll {H : Type} : List (DataW H) → Nat
  | [] => 0
  | d :: r => uptoBulk d + uptoBulkAll r
def uptoBulkEntries {H : Type} : List (Lit × DataW H) → Nat
  | [] => 0
  | x :: r => uptoBulkEntry x + uptoBulkEntries r
def uptoBulkEntry {H : Type} : Lit × DataW H → Nat
  | (.string bytes, d) => bytes.length + uptoBulk d + 1
  | (_, d) => uptoBulk d + 1
 end
def uptoSmall : (H : Type) → List (DataW H) → Bool := fun _ ds => decide (uptoBulkAll ds ≤ 1048576)
def OpenSpec.upto (s : _root_.Go.ChangeSpec) : _root_.Go.OpenSpec := { _root_.Go.OpenSpec.ofChange s with cond := some uptoSmall }

/-- 'solventlaw26.TreeNodesCount', WHERE WHAT IT READS IS OF BULK AT MOST 1048576: true; the input reads as it did. -/
def treeNodesCountUptoRow : OpenClaim := { program := "ytpfdlpniijgakaadoor", sum := "b1185715f7ed10e337b7ac287981fa1e959c7581a7c9ed3e42aede94aeeaef0e", func := "solvent/solventlaw26.TreeNodesCount", spec := "treeNodesCount", unfollowed := true, recurses := true, named := ["math/bits.deBruijn32tab"], apart := false, laid := [("math/bits.deBruijn32tab", laid_math_bits_deBruijn32tab)], narrowed := true }
def TreeNodesCountUptoSaid : Prop := treeNodesCountUptoRow.holds Tryd.pinned (OpenSpec.upto treeNodesCountSpec)

/-- 'solventlaw26.TreeShares', WHERE WHAT IT READS IS OF BULK AT MOST 1048576: true; the input reads as it did. -/
def treeSharesUptoRow : OpenClaim := { program := "ytpfdlpniijgakaadoor", sum := "b1185715f7ed10e337b7ac287981fa1e959c7581a7c9ed3e42aede94aeeaef0e", func := "solvent/solventlaw26.TreeShares", spec := "treeShares", unfollowed := true, recurses := true, named := ["math/bits.deBruijn32tab"], apart := false, laid := [("math/bits.deBruijn32tab", laid_math_bits_deBruijn32tab)], narrowed := true }
def TreeSharesUptoSaid : Prop := treeSharesUptoRow.holds Tryd.pinned (OpenSpec.upto treeSharesSpec)

/-- 'solventlaw26.TreeDiffMatchesSpec', WHERE WHAT IT READS IS OF BULK AT MOST 1048576: true; the input reads as it did. -/
def treeDiffMatchesSpecUptoRow : OpenClaim := { program := "ytpfdlpniijgakaadoor", sum := "b1185715f7ed10e337b7ac287981fa1e959c7581a7c9ed3e42aede94aeeaef0e", func := "solvent/solventlaw26.TreeDiffMatchesSpec", spec := "treeDiffMatchesSpec", unfollowed := true, recurses := true, named := ["math/bits.deBruijn32tab"], apart := false, laid := [("math/bits.deBruijn32tab", laid_math_bits_deBruijn32tab)], narrowed := true }
def TreeDiffMatchesSpecUptoSaid : Prop := treeDiffMatchesSpecUptoRow.holds Tryd.pinned (OpenSpec.upto treeDiffMatchesSpecSpec)

/-- 'solventlaw26.TreeDiffLeads', WHERE WHAT IT READS IS OF BULK AT MOST 1048576: true; the input reads as it did. -/
def treeDiffLeadsUptoRow : OpenClaim := { program := "ytpfdlpniijgakaadoor", sum := "b1185715f7ed10e337b7ac287981fa1e959c7581a7c9ed3e42aede94aeeaef0e", func := "solvent/solventlaw26.TreeDiffLeads", spec := "treeDiffLeads", unfollowed := true, recurses := true, named := ["math/bits.deBruijn32tab"], apart := false, laid := [("math/bits.deBruijn32tab", laid_math_bits_deBruijn32tab)], narrowed := true }
def TreeDiffLeadsUptoSaid : Prop := treeDiffLeadsUptoRow.holds Tryd.pinned (OpenSpec.upto treeDiffLeadsSpec)

/-- 'solventlaw26.TreePlays', WHERE WHAT IT READS IS OF BULK AT MOST 1048576: true; the input reads as it did. -/
def treePlaysUptoRow : OpenClaim := { program := "ytpfdlpniijgakaadoor", sum := "b1185715f7ed10e337b7ac287981fa1e959c7581a7c9ed3e42aede94aeeaef0e", func := "solvent/solventlaw26.TreePlays", spec := "treePlays", unfollowed := true, recurses := true, named := ["math/bits.deBruijn32tab"], apart := false, laid := [("math/bits.deBruijn32tab", laid_math_bits_deBruijn32tab)], narrowed := true }
def TreePlaysUptoSaid : Prop := treePlaysUptoRow.holds Tryd.pinned (OpenSpec.upto treePlaysSpec)

/-- 'solventlaw26.TreeOrderDoesNotMatter', WHERE WHAT IT READS IS OF BULK AT MOST 1048576: true; the input reads as it did. -/
def treeOrderDoesNotMatterUptoRow : OpenClaim := { program := "ytpfdlpniijgakaadoor", sum := "b1185715f7ed10e337b7ac287981fa1e959c7581a7c9ed3e42aede94aeeaef0e", func := "solvent/solventlaw26.TreeOrderDoesNotMatter", spec := "treeOrderDoesNotMatter", unfollowed := true, recurses := true, named := ["math/bits.deBruijn32tab"], apart := false, laid := [("math/bits.deBruijn32tab", laid_math_bits_deBruijn32tab)], narrowed := true }
def TreeOrderDoesNotMatterUptoSaid : Prop := treeOrderDoesNotMatterUptoRow.holds Tryd.pinned (OpenSpec.upto treeOrderDoesNotMatterSpec)

end Rows
end Go.Proofs.YtpfdlpniijgakaaDoor
