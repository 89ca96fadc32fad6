/-
  No cell of these rows narrows 'for every input' (looked for: loops, veiled, ifaces, maps, wideKeys, modest, calm, conditions, laid).
  DERIVED. THE GIVEN ROWS OF THIS SEAT. 3 by the template 'for every input the law returns true; each argument reads behind the call as it read before'; 0 by the template 'total and deterministic' (their statements: YthndadengamanaaTotals.lean).
  GIVEN WITH THE SEED: the statements are not yours to turn. If you find one false, say at which input.
  Laid BY PROGRAM, IN A SANDBOX (cutbox-rows.mjs): the forced cells as the released guide's own fill.sh prints them over the translation 7adcbb236cd8c29b… (all of the seat's roots in one cut). By AI agents, Wed Nov 11 2026. No macro, syntax, notation, axiom, sorry.
-/
import Derived.Test.YthndadengamanaaChecked
import GoSem.Claim
import GoSem.ClaimJoined
import GoSem.ClaimMapViews
import Derived.JoinedTies
import Derived.KernelRfl
namespace Go.Proofs.Ythndadengamanaa
/- THE CELL 'sum', in the pinned program and in every row, IS THE sha256 OF THE DUMP (.gsa) THAT YthndadengamanaaProg.lean LOADS. Nothing in Lean hashes anything: it is a label: what it is worth is what the hold of that sum in a sandbox is worth. -/
noncomputable def Try.pinned : Pinned := { name := "ythndadengamanaa", sum := "7adcbb236cd8c29b57776d20faeb0506aad5ceb238320133b64c38b070d0021c", checked := Try.checked }
namespace Rows
def none {H : Type} : Left H := { results := [], args := [] }

/-- 'registrarlaw18.MemberTells': WHATEVER THE INPUT: true; the input reads as it did. -/
def memberTellsSpec : ChangeSpec := { name := "memberTells", fn := fun _ => fun
  | [d1, d2, d3] => { results := [.lit (.bool true)], args := [d1, d2, d3] }
  | _ => none }
def memberTellsRow : OpenClaim := { program := "ythndadengamanaa", sum := "7adcbb236cd8c29b57776d20faeb0506aad5ceb238320133b64c38b070d0021c", func := "registrar/registrarlaw18.MemberTells", spec := "memberTells", inPlace := ["slices.overlaps[string]"], unfollowed := true, recurses := true, apart := false }
def MemberTellsSaid : Prop := memberTellsRow.holds Try.pinned (OpenSpec.ofChange memberTellsSpec)

/-- ITS FALSE NEIGHBOUR: 'it returns false'. Refute it at one input. -/
def memberTellsWrong : ChangeSpec := { name := "memberTells", fn := fun _ => fun
  | [d1, d2, d3] => { results := [.lit (.bool false)], args := [d1, d2, d3] }
  | _ => none }
def MemberTellsWrongFalsely : Prop := memberTellsRow.holds Try.pinned (OpenSpec.ofChange memberTellsWrong)

/-- 'registrarlaw18.MemberHolds': WHATEVER THE INPUT: true; the input reads as it did. -/
def memberHoldsSpec : ChangeSpec := { name := "memberHolds", fn := fun _ => fun
  | [d] => { results := [.lit (.bool true)], args := [d] }
  | _ => none }
def memberHoldsRow : OpenClaim := { program := "ythndadengamanaa", sum := "7adcbb236cd8c29b57776d20faeb0506aad5ceb238320133b64c38b070d0021c", func := "registrar/registrarlaw18.MemberHolds", spec := "memberHolds", inPlace := ["slices.overlaps[string]", "slices.overlaps[registrar/api.Role]"], unfollowed := true, recurses := true, apart := false }
def MemberHoldsSaid : Prop := memberHoldsRow.holds Try.pinned (OpenSpec.ofChange memberHoldsSpec)

/-- ITS FALSE NEIGHBOUR: 'it returns false'. Refute it at one input. -/
def memberHoldsWrong : ChangeSpec := { name := "memberHolds", fn := fun _ => fun
  | [d] => { results := [.lit (.bool false)], args := [d] }
  | _ => none }
def MemberHoldsWrongFalsely : Prop := memberHoldsRow.holds Try.pinned (OpenSpec.ofChange memberHoldsWrong)

/-- 'registrarlaw18.MemberApart': WHATEVER THE INPUT: true; the input reads as it did. -/
def memberApartSpec : ChangeSpec := { name := "memberApart", fn := fun _ => fun
  | [d1, d2, d3] => { results := [.lit (.bool true)], args := [d1, d2, d3] }
  | _ => none }
def memberApartRow : OpenClaim := { program := "ythndadengamanaa", sum := "7adcbb236cd8c29b57776d20faeb0506aad5ceb238320133b64c38b070d0021c", func := "registrar/registrarlaw18.MemberApart", spec := "memberApart", inPlace := ["slices.overlaps[string]", "slices.overlaps[registrar/api.Role]"], unfollowed := true, recurses := true, apart := false }
def MemberApartSaid : Prop := memberApartRow.holds Try.pinned (OpenSpec.ofChange memberApartSpec)

/-- ITS FALSE NEIGHBOUR: 'it returns false'. Refute it at one input. -/
def memberApartWrong : ChangeSpec := { name := "memberApart", fn := fun _ => fun
  | [d1, d2, d3] => { results := [.lit (.bool false)], args := [d1, d2, d3] }
  | _ => none }
def MemberApartWrongFalsely : Prop := memberApartRow.holds Try.pinned (OpenSpec.ofChange memberApartWrong)

/- THE SECOND FORM. 'bulk': how many values and letters a reading holds, each counted each time it is reached (what is shared counts as often as it is met; a slice's spare places count too). A statement '..UptoSaid' is the law's where the arguments, and the package variables that the reading takes, are together of bulk at most 1048576: NARROWER than '..Said'. Prove '..Said' where nothing that the law and all that it calls make is longer than what came in: it says more and counts as full. Else prove '..UptoSaid'. A law counts once. -/
mutual
def uptoBulk {H : Type} : DataW H → Nat
  | .lit (.string bytes) => bytes.length + 1
  | .lit _ => 1
  | .nil => 1
  | .ptr d => uptoBulk d + 1
  | .slice elems spare => uptoBulkAll elems + uptoBulkAll spare + 1
  | .agg parts => uptoBulkAll parts + 1
  | .iface _ d => uptoBulk d + 1
  | .map entries => uptoBulkEntries entries + 1
  | .held _ => 1
def uptoBulkAll {H : Type} : List (DataW H) → Nat
  | [] => 0
  | d :: r => uptoBulk d + uptoBulkAll r
def uptoBulkEntries {H : Type} : List (Lit × DataW H) → Nat
  | [] => 0
  | x :: r => uptoBulkEntry x + uptoBulkEntries r
def uptoBulkEntry {H : Type} : Lit × DataW H → Nat
  | (.string bytes, d) => bytes.length + uptoBulk d + 1
  | (_, d) => uptoBulk d + 1
 end
def uptoSmall : (H : Type) → List (DataW H) → Bool := fun _ ds => decide (uptoBulkAll ds ≤ 1048576)
def OpenSpec.upto (s : _root_.Go.ChangeSpec) : _root_.Go.OpenSpec := { _root_.Go.OpenSpec.ofChange s with cond := some uptoSmall }

/-- 'registrarlaw18.MemberTells', WHERE WHAT IT READS IS OF BULK AT MOST 1048576: true; the input reads as it did. -/
def memberTellsUptoRow : OpenClaim := { program := "ythndadengamanaa", sum := "7adcbb236cd8c29b57776d20faeb0506aad5ceb238320133b64c38b070d0021c", func := "registrar/registrarlaw18.MemberTells", spec := "memberTells", inPlace := ["slices.overlaps[string]"], unfollowed := true, recurses := true, apart := false, narrowed := true }
def MemberTellsUptoSaid : Prop := memberTellsUptoRow.holds Try.pinned (OpenSpec.upto memberTellsSpec)

/-- 'registrarlaw18.MemberHolds', WHERE WHAT IT READS IS OF BULK AT MOST 1048576: true; the input reads as it did. -/
def memberHoldsUptoRow : OpenClaim := { program := "ythndadengamanaa", sum := "7adcbb236cd8c29b57776d20faeb0506aad5ceb238320133b64c38b070d0021c", func := "registrar/registrarlaw18.MemberHolds", spec := "memberHolds", inPlace := ["slices.overlaps[string]", "slices.overlaps[registrar/api.Role]"], unfollowed := true, recurses := true, apart := false, narrowed := true }
def MemberHoldsUptoSaid : Prop := memberHoldsUptoRow.holds Try.pinned (OpenSpec.upto memberHoldsSpec)

/-- 'registrarlaw18.MemberApart', WHERE WHAT IT READS IS OF BULK AT MOST 1048576: true; the input reads as it did. -/
def memberApartUptoRow : OpenClaim := { program := "ythndadengamanaa", sum := "7adcbb236cd8c29b57776d20faeb0506aad5ceb238320133b64c38b070d0021c", func := "registrar/registrarlaw18.MemberApart", spec := "memberApart", inPlace := ["slices.overlaps[string]", "slices.overlaps[registrar/api.Role]"], unfollowed := true, recurses := true, apart := false, narrowed := true }
def MemberApartUptoSaid : Prop := memberApartUptoRow.holds Try.pinned (OpenSpec.upto memberApartSpec)

end Rows
end Go.Proofs.Ythndadengamanaa
