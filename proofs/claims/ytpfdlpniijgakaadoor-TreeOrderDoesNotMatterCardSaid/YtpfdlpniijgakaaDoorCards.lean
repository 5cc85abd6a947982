/-
  DERIVED. GIVEN WITH THE SEED: THE CARDS: each row of YtpfdlpniijgakaaDoorRows.lean that lists a variable, with what it lists TIED to the program's text (the seventh form; the later family's looks); each row that meets fmt, with fmt's text TOLD by the authors' own Lean function (tested against real Go, not proved from fmt's source: count such statements apart). THE CARD IS WHAT COUNTS. Prove the row's statement (the work); the ties are given (YtpfdlpniijgakaaDoorTie.lean); close each card by the builder's one call (the guide's Derived/Test/ToyasCard.lean, 'card_holds'). Laid BY PROGRAM, IN A SANDBOX (cutbox-door.mjs). By AI agents, Wed Nov 11 2026. No macro, syntax, notation, axiom, sorry.
-/
import Derived.Test.YtpfdlpniijgakaaDoorRows
import GoSem.ClaimSeven
namespace Go.Proofs.YtpfdlpniijgakaaDoor
namespace Rows

/-- THE TIED CARD OF 'solventlaw26.TreeNodesCount'. -/
def treeNodesCountCard : Claim7 := { stood := { row := treeNodesCountRow, standIns := [], harness := (true, "412cdf51e392c1caa9ccfce42da9bf76fdbf0cac5586afb74b005b9931e52e6f"), looks := false }, kinds := [], alts := [], laidByText := true, laidKinds := [.data], laidTests := true, laidLooks := .later }
def TreeNodesCountCardSaid : Prop := Claim7.holds Tryd.pinned (.plain (OpenSpec.ofChange treeNodesCountSpec)) treeNodesCountCard

/-- THE TIED CARD OF 'solventlaw26.TreeShares'. -/
def treeSharesCard : Claim7 := { stood := { row := treeSharesRow, standIns := [], harness := (true, "412cdf51e392c1caa9ccfce42da9bf76fdbf0cac5586afb74b005b9931e52e6f"), looks := false }, kinds := [], alts := [], laidByText := true, laidKinds := [.data], laidTests := true, laidLooks := .later }
def TreeSharesCardSaid : Prop := Claim7.holds Tryd.pinned (.plain (OpenSpec.ofChange treeSharesSpec)) treeSharesCard

/-- THE TIED CARD OF 'solventlaw26.TreeDiffMatchesSpec'. -/
def treeDiffMatchesSpecCard : Claim7 := { stood := { row := treeDiffMatchesSpecRow, standIns := [], harness := (true, "412cdf51e392c1caa9ccfce42da9bf76fdbf0cac5586afb74b005b9931e52e6f"), looks := false }, kinds := [], alts := [], laidByText := true, laidKinds := [.data], laidTests := true, laidLooks := .later }
def TreeDiffMatchesSpecCardSaid : Prop := Claim7.holds Tryd.pinned (.plain (OpenSpec.ofChange treeDiffMatchesSpecSpec)) treeDiffMatchesSpecCard

/-- THE TIED CARD OF 'solventlaw26.TreeDiffLeads'. -/
def treeDiffLeadsCard : Claim7 := { stood := { row := treeDiffLeadsRow, standIns := [], harness := (true, "412cdf51e392c1caa9ccfce42da9bf76fdbf0cac5586afb74b005b9931e52e6f"), looks := false }, kinds := [], alts := [], laidByText := true, laidKinds := [.data], laidTests := true, laidLooks := .later }
def TreeDiffLeadsCardSaid : Prop := Claim7.holds Tryd.pinned (.plain (OpenSpec.ofChange treeDiffLeadsSpec)) treeDiffLeadsCard

/-- THE TIED CARD OF 'solventlaw26.TreePlays'. -/
def treePlaysCard : Claim7 := { stood := { row := treePlaysRow, standIns := [], harness := (true, "412cdf51e392c1caa9ccfce42da9bf76fdbf0cac5586afb74b005b9931e52e6f"), looks := false }, kinds := [], alts := [], laidByText := true, laidKinds := [.data], laidTests := true, laidLooks := .later }
def TreePlaysCardSaid : Prop := Claim7.holds Tryd.pinned (.plain (OpenSpec.ofChange treePlaysSpec)) treePlaysCard

/-- THE TIED CARD OF 'solventlaw26.TreeOrderDoesNotMatter'. -/
def treeOrderDoesNotMatterCard : Claim7 := { stood := { row := treeOrderDoesNotMatterRow, standIns := [], harness := (true, "412cdf51e392c1caa9ccfce42da9bf76fdbf0cac5586afb74b005b9931e52e6f"), looks := false }, kinds := [], alts := [], laidByText := true, laidKinds := [.data], laidTests := true, laidLooks := .later }
def TreeOrderDoesNotMatterCardSaid : Prop := Claim7.holds Tryd.pinned (.plain (OpenSpec.ofChange treeOrderDoesNotMatterSpec)) treeOrderDoesNotMatterCard

/-- THE SECOND FORM's CARD OF 'solventlaw26.TreeNodesCount'. -/
def treeNodesCountUptoCard : Claim7 := { stood := { row := treeNodesCountUptoRow, standIns := [], harness := (true, "412cdf51e392c1caa9ccfce42da9bf76fdbf0cac5586afb74b005b9931e52e6f"), looks := false }, kinds := [], alts := [], laidByText := true, laidKinds := [.data], laidTests := true, laidLooks := .later }
def TreeNodesCountUptoCardSaid : Prop := Claim7.holds Tryd.pinned (.plain (OpenSpec.upto treeNodesCountSpec)) treeNodesCountUptoCard

/-- THE SECOND FORM's CARD OF 'solventlaw26.TreeShares'. -/
def treeSharesUptoCard : Claim7 := { stood := { row := treeSharesUptoRow, standIns := [], harness := (true, "412cdf51e392c1caa9ccfce42da9bf76fdbf0cac5586afb74b005b9931e52e6f"), looks := false }, kinds := [], alts := [], laidByText := true, laidKinds := [.data], laidTests := true, laidLooks := .later }
def TreeSharesUptoCardSaid : Prop := Claim7.holds Tryd.pinned (.plain (OpenSpec.upto treeSharesSpec)) treeSharesUptoCard

/-- THE SECOND FORM's CARD OF 'solventlaw26.TreeDiffMatchesSpec'. -/
def treeDiffMatchesSpecUptoCard : Claim7 := { stood := { row := treeDiffMatchesSpecUptoRow, standIns := [], harness := (true, "412cdf51e392c1caa9ccfce42da9bf76fdbf0cac5586afb74b005b9931e52e6f"), looks := false }, kinds := [], alts := [], laidByText := true, laidKinds := [.data], laidTests := true, laidLooks := .later }
def TreeDiffMatchesSpecUptoCardSaid : Prop := Claim7.holds Tryd.pinned (.plain (OpenSpec.upto treeDiffMatchesSpecSpec)) treeDiffMatchesSpecUptoCard

/-- THE SECOND FORM's CARD OF 'solventlaw26.TreeDiffLeads'. -/
def treeDiffLeadsUptoCard : Claim7 := { stood := { row := treeDiffLeadsUptoRow, standIns := [], harness := (true, "412cdf51e392c1caa9ccfce42da9bf76fdbf0cac5586afb74b005b9931e52e6f"), looks := false }, kinds := [], alts := [], laidByText := true, laidKinds := [.data], laidTests := true, laidLooks := .later }
def TreeDiffLeadsUptoCardSaid : Prop := Claim7.holds Tryd.pinned (.plain (OpenSpec.upto treeDiffLeadsSpec)) treeDiffLeadsUptoCard

/-- THE SECOND FORM's CARD OF 'solventlaw26.TreePlays'. -/
def treePlaysUptoCard : Claim7 := { stood := { row := treePlaysUptoRow, standIns := [], harness := (true, "412cdf51e392c1caa9ccfce42da9bf76fdbf0cac5586afb74b005b9931e52e6f"), looks := false }, kinds := [], alts := [], laidByText := true, laidKinds := [.data], laidTests := true, laidLooks := .later }
def TreePlaysUptoCardSaid : Prop := Claim7.holds Tryd.pinned (.plain (OpenSpec.upto treePlaysSpec)) treePlaysUptoCard

/-- THE SECOND FORM's CARD OF 'solventlaw26.TreeOrderDoesNotMatter'. -/
def treeOrderDoesNotMatterUptoCard : Claim7 := { stood := { row := treeOrderDoesNotMatterUptoRow, standIns := [], harness := (true, "412cdf51e392c1caa9ccfce42da9bf76fdbf0cac5586afb74b005b9931e52e6f"), looks := false }, kinds := [], alts := [], laidByText := true, laidKinds := [.data], laidTests := true, laidLooks := .later }
def TreeOrderDoesNotMatterUptoCardSaid : Prop := Claim7.holds Tryd.pinned (.plain (OpenSpec.upto treeOrderDoesNotMatterSpec)) treeOrderDoesNotMatterUptoCard
end Rows
end Go.Proofs.YtpfdlpniijgakaaDoor
