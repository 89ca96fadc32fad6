/-
  NARROWER THAN 'FOR EVERY INPUT', by the rows' own cells (each row's printed sentence says how): WhyTells: loops · WhyHolds: loops · WhyGone: loops.
  DERIVED. THE GIVEN ROWS OF THIS SEAT. 5 by the template 'for every input the law returns true; each argument reads behind the call as it read before'; 0 by the template 'total and deterministic' (their statements: YtlfphpegelclpaaGreatTotals.lean).
  GIVEN WITH THE SEED: the statements are not yours to turn. If you find one false, say at which input.
  Laid BY PROGRAM, IN A SANDBOX (cutbox-rows.mjs): the forced cells as the released guide's own fill.sh prints them over the translation 8ca3cbb226b5ae56… (all of the seat's roots in one cut). By AI agents, Wed Nov 11 2026. No macro, syntax, notation, axiom, sorry.
-/
import Derived.Test.YtlfphpegelclpaaGreatChecked
import GoSem.Claim
import GoSem.ClaimJoined
import GoSem.ClaimMapViews
import Derived.JoinedTies
import Derived.KernelRfl
namespace Go.Proofs.YtlfphpegelclpaaGreat
/- THE CELL 'sum', in the pinned program and in every row, IS THE sha256 OF THE DUMP (.gsa) THAT YtlfphpegelclpaaGreatProg.lean LOADS. Nothing in Lean hashes anything: it is a label: what it is worth is what the hold of that sum in a sandbox is worth. -/
noncomputable def Tryz.pinned : Pinned := { name := "ytlfphpegelclpaagreat", sum := "8ca3cbb226b5ae5612d937f8a3e402e612a98d78c4b172ca8e6d628bd5b3cab6", checked := Tryz.checked }
namespace Rows
def none {H : Type} : Left H := { results := [], args := [] }

/-- 'registrarlaw32.WhyTells': WHATEVER THE INPUT: true; the input reads as it did. -/
def whyTellsSpec : ChangeSpec := { name := "whyTells", fn := fun _ => fun
  | [d1, d2, d3] => { results := [.lit (.bool true)], args := [d1, d2, d3] }
  | _ => none }
def whyTellsRow : OpenClaim := { program := "ytlfphpegelclpaagreat", sum := "8ca3cbb226b5ae5612d937f8a3e402e612a98d78c4b172ca8e6d628bd5b3cab6", func := "registrar/registrarlaw32.WhyTells", spec := "whyTells", unfollowed := true, recurses := true, loops := true, apart := false }
def WhyTellsSaid : Prop := whyTellsRow.holds Tryz.pinned (OpenSpec.ofChange whyTellsSpec)

/-- ITS FALSE NEIGHBOUR: 'it returns false'. Refute it at one input. -/
def whyTellsWrong : ChangeSpec := { name := "whyTells", fn := fun _ => fun
  | [d1, d2, d3] => { results := [.lit (.bool false)], args := [d1, d2, d3] }
  | _ => none }
def WhyTellsWrongFalsely : Prop := whyTellsRow.holds Tryz.pinned (OpenSpec.ofChange whyTellsWrong)

/-- 'registrarlaw32.WhyPaths': WHATEVER THE INPUT: true; the input reads as it did. -/
def whyPathsSpec : ChangeSpec := { name := "whyPaths", fn := fun _ => fun
  | [d1, d2, d3] => { results := [.lit (.bool true)], args := [d1, d2, d3] }
  | _ => none }
def whyPathsRow : OpenClaim := { program := "ytlfphpegelclpaagreat", sum := "8ca3cbb226b5ae5612d937f8a3e402e612a98d78c4b172ca8e6d628bd5b3cab6", func := "registrar/registrarlaw32.WhyPaths", spec := "whyPaths", unfollowed := true, recurses := true, apart := false }
def WhyPathsSaid : Prop := whyPathsRow.holds Tryz.pinned (OpenSpec.ofChange whyPathsSpec)

/-- ITS FALSE NEIGHBOUR: 'it returns false'. Refute it at one input. -/
def whyPathsWrong : ChangeSpec := { name := "whyPaths", fn := fun _ => fun
  | [d1, d2, d3] => { results := [.lit (.bool false)], args := [d1, d2, d3] }
  | _ => none }
def WhyPathsWrongFalsely : Prop := whyPathsRow.holds Tryz.pinned (OpenSpec.ofChange whyPathsWrong)

/-- 'registrarlaw32.WhyMembers': WHATEVER THE INPUT: true; the input reads as it did. -/
def whyMembersSpec : ChangeSpec := { name := "whyMembers", fn := fun _ => fun
  | [d1, d2] => { results := [.lit (.bool true)], args := [d1, d2] }
  | _ => none }
def whyMembersRow : OpenClaim := { program := "ytlfphpegelclpaagreat", sum := "8ca3cbb226b5ae5612d937f8a3e402e612a98d78c4b172ca8e6d628bd5b3cab6", func := "registrar/registrarlaw32.WhyMembers", spec := "whyMembers", unfollowed := true, recurses := true, apart := false }
def WhyMembersSaid : Prop := whyMembersRow.holds Tryz.pinned (OpenSpec.ofChange whyMembersSpec)

/-- ITS FALSE NEIGHBOUR: 'it returns false'. Refute it at one input. -/
def whyMembersWrong : ChangeSpec := { name := "whyMembers", fn := fun _ => fun
  | [d1, d2] => { results := [.lit (.bool false)], args := [d1, d2] }
  | _ => none }
def WhyMembersWrongFalsely : Prop := whyMembersRow.holds Tryz.pinned (OpenSpec.ofChange whyMembersWrong)

/-- 'registrarlaw32.WhyHolds': WHATEVER THE INPUT: true; the input reads as it did. -/
def whyHoldsSpec : ChangeSpec := { name := "whyHolds", fn := fun _ => fun
  | [d1, d2, d3] => { results := [.lit (.bool true)], args := [d1, d2, d3] }
  | _ => none }
def whyHoldsRow : OpenClaim := { program := "ytlfphpegelclpaagreat", sum := "8ca3cbb226b5ae5612d937f8a3e402e612a98d78c4b172ca8e6d628bd5b3cab6", func := "registrar/registrarlaw32.WhyHolds", spec := "whyHolds", unfollowed := true, recurses := true, loops := true, apart := false }
def WhyHoldsSaid : Prop := whyHoldsRow.holds Tryz.pinned (OpenSpec.ofChange whyHoldsSpec)

/-- ITS FALSE NEIGHBOUR: 'it returns false'. Refute it at one input. -/
def whyHoldsWrong : ChangeSpec := { name := "whyHolds", fn := fun _ => fun
  | [d1, d2, d3] => { results := [.lit (.bool false)], args := [d1, d2, d3] }
  | _ => none }
def WhyHoldsWrongFalsely : Prop := whyHoldsRow.holds Tryz.pinned (OpenSpec.ofChange whyHoldsWrong)

/-- 'registrarlaw32.WhyGone': WHATEVER THE INPUT: true; the input reads as it did. -/
def whyGoneSpec : ChangeSpec := { name := "whyGone", fn := fun _ => fun
  | [d1, d2, d3] => { results := [.lit (.bool true)], args := [d1, d2, d3] }
  | _ => none }
def whyGoneRow : OpenClaim := { program := "ytlfphpegelclpaagreat", sum := "8ca3cbb226b5ae5612d937f8a3e402e612a98d78c4b172ca8e6d628bd5b3cab6", func := "registrar/registrarlaw32.WhyGone", spec := "whyGone", inPlace := ["slices.overlaps[registrar/api.Role]", "slices.overlaps[string]"], unfollowed := true, recurses := true, loops := true, apart := false }
def WhyGoneSaid : Prop := whyGoneRow.holds Tryz.pinned (OpenSpec.ofChange whyGoneSpec)

/-- ITS FALSE NEIGHBOUR: 'it returns false'. Refute it at one input. -/
def whyGoneWrong : ChangeSpec := { name := "whyGone", fn := fun _ => fun
  | [d1, d2, d3] => { results := [.lit (.bool false)], args := [d1, d2, d3] }
  | _ => none }
def WhyGoneWrongFalsely : Prop := whyGoneRow.holds Tryz.pinned (OpenSpec.ofChange whyGoneWrong)

/- THE SECOND FORM. 'bulk': how many values and letters a reading holds, each counted each time it is reached (what is shared counts as often as it is met; a slice's spare places count too). A statement '..UptoSaid' is the law's where the arguments, and the package variables that the reading takes, are together of bulk at most 1048576: NARROWER than '..Said'. Prove '..Said' where nothing that the law and all that it calls make is longer than what came in: it says more and counts as full. Else prove '..UptoSaid'. A law counts once. -/
mutual
def uptoBulk {H : Type} : DataW H → Nat
  | .lit (.string bytes) => bytes.length + 1
  | .lit _ => 1
  | .nil => 1
  | .ptr d => uptoBulk d + 1
  | .slice elems spare => uptoBulkAll elems + uptoBulkAll spare + 1
  | .agg parts => uptoBulkAll parts + 1
  | .iface _ d => uptoBulk d + 1
  | .map entries => uptoBulkEntries entries + 1
  | .held _ => 1
def uptoBulkAll {H : Type} : List (DataW H) → Nat
  | [] => 0
  | d :: r => uptoBulk d + uptoBulkAll r
def uptoBulkEntries {H : Type} : List (Lit × DataW H) → Nat
  | [] => 0
  | x :: r => uptoBulkEntry x + uptoBulkEntries r
def uptoBulkEntry {H : Type} : Lit × DataW H → Nat
  | (.string bytes, d) => bytes.length + uptoBulk d + 1
  | (_, d) => uptoBulk d + 1
 end
def uptoSmall : (H : Type) → List (DataW H) → Bool := fun _ ds => decide (uptoBulkAll ds ≤ 1048576)
def OpenSpec.upto (s : _root_.Go.ChangeSpec) : _root_.Go.OpenSpec := { _root_.Go.OpenSpec.ofChange s with cond := some uptoSmall }

/-- 'registrarlaw32.WhyTells', WHERE WHAT IT READS IS OF BULK AT MOST 1048576: true; the input reads as it did. -/
def whyTellsUptoRow : OpenClaim := { program := "ytlfphpegelclpaagreat", sum := "8ca3cbb226b5ae5612d937f8a3e402e612a98d78c4b172ca8e6d628bd5b3cab6", func := "registrar/registrarlaw32.WhyTells", spec := "whyTells", unfollowed := true, recurses := true, loops := true, apart := false, narrowed := true }
def WhyTellsUptoSaid : Prop := whyTellsUptoRow.holds Tryz.pinned (OpenSpec.upto whyTellsSpec)

/-- 'registrarlaw32.WhyPaths', WHERE WHAT IT READS IS OF BULK AT MOST 1048576: true; the input reads as it did. -/
def whyPathsUptoRow : OpenClaim := { program := "ytlfphpegelclpaagreat", sum := "8ca3cbb226b5ae5612d937f8a3e402e612a98d78c4b172ca8e6d628bd5b3cab6", func := "registrar/registrarlaw32.WhyPaths", spec := "whyPaths", unfollowed := true, recurses := true, apart := false, narrowed := true }
def WhyPathsUptoSaid : Prop := whyPathsUptoRow.holds Tryz.pinned (OpenSpec.upto whyPathsSpec)

/-- 'registrarlaw32.WhyMembers', WHERE WHAT IT READS IS OF BULK AT MOST 1048576: true; the input reads as it did. -/
def whyMembersUptoRow : OpenClaim := { program := "ytlfphpegelclpaagreat", sum := "8ca3cbb226b5ae5612d937f8a3e402e612a98d78c4b172ca8e6d628bd5b3cab6", func := "registrar/registrarlaw32.WhyMembers", spec := "whyMembers", unfollowed := true, recurses := true, apart := false, narrowed := true }
def WhyMembersUptoSaid : Prop := whyMembersUptoRow.holds Tryz.pinned (OpenSpec.upto whyMembersSpec)

/-- 'registrarlaw32.WhyHolds', WHERE WHAT IT READS IS OF BULK AT MOST 1048576: true; the input reads as it did. -/
def whyHoldsUptoRow : OpenClaim := { program := "ytlfphpegelclpaagreat", sum := "8ca3cbb226b5ae5612d937f8a3e402e612a98d78c4b172ca8e6d628bd5b3cab6", func := "registrar/registrarlaw32.WhyHolds", spec := "whyHolds", unfollowed := true, recurses := true, loops := true, apart := false, narrowed := true }
def WhyHoldsUptoSaid : Prop := whyHoldsUptoRow.holds Tryz.pinned (OpenSpec.upto whyHoldsSpec)

/-- 'registrarlaw32.WhyGone', WHERE WHAT IT READS IS OF BULK AT MOST 1048576: true; the input reads as it did. -/
def whyGoneUptoRow : OpenClaim := { program := "ytlfphpegelclpaagreat", sum := "8ca3cbb226b5ae5612d937f8a3e402e612a98d78c4b172ca8e6d628bd5b3cab6", func := "registrar/registrarlaw32.WhyGone", spec := "whyGone", inPlace := ["slices.overlaps[registrar/api.Role]", "slices.overlaps[string]"], unfollowed := true, recurses := true, loops := true, apart := false, narrowed := true }
def WhyGoneUptoSaid : Prop := whyGoneUptoRow.holds Tryz.pinned (OpenSpec.upto whyGoneSpec)

end Rows
end Go.Proofs.YtlfphpegelclpaaGreat
