/-
  NARROWER THAN 'FOR EVERY INPUT', by the rows' own cells (each row's printed sentence says how): AccessAllows: loops · AccessDenies: loops.
  DERIVED. THE GIVEN ROWS OF THIS SEAT. 2 by the template 'for every input the law returns true; each argument reads behind the call as it read before'; 0 by the template 'total and deterministic' (their statements: YtdhfbakalknplaaGreatTotals.lean).
  GIVEN WITH THE SEED: the statements are not yours to turn. If you find one false, say at which input.
  Laid BY PROGRAM, IN A SANDBOX (cutbox-rows.mjs): the forced cells as the released guide's own fill.sh prints them over the translation 8141437afd0b6c2d… (all of the seat's roots in one cut). By AI agents, Wed Nov 11 2026. No macro, syntax, notation, axiom, sorry.
-/
import Derived.Test.YtdhfbakalknplaaGreatChecked
import GoSem.Claim
import GoSem.ClaimJoined
import GoSem.ClaimMapViews
import Derived.JoinedTies
import Derived.KernelRfl
namespace Go.Proofs.YtdhfbakalknplaaGreat
/- THE CELL 'sum', in the pinned program and in every row, IS THE sha256 OF THE DUMP (.gsa) THAT YtdhfbakalknplaaGreatProg.lean LOADS. Nothing in Lean hashes anything: it is a label: what it is worth is what the hold of that sum in a sandbox is worth. -/
noncomputable def Tryz.pinned : Pinned := { name := "ytdhfbakalknplaagreat", sum := "8141437afd0b6c2d0118fbc0bfdcf33fd2a46a352634bfb29cc48231077a7adf", checked := Tryz.checked }
namespace Rows
def none {H : Type} : Left H := { results := [], args := [] }

/-- 'registrarlaw20.AccessAllows': WHATEVER THE INPUT: true; the input reads as it did. -/
def accessAllowsSpec : ChangeSpec := { name := "accessAllows", fn := fun _ => fun
  | [d1, d2, d3] => { results := [.lit (.bool true)], args := [d1, d2, d3] }
  | _ => none }
def accessAllowsRow : OpenClaim := { program := "ytdhfbakalknplaagreat", sum := "8141437afd0b6c2d0118fbc0bfdcf33fd2a46a352634bfb29cc48231077a7adf", func := "registrar/registrarlaw20.AccessAllows", spec := "accessAllows", inPlace := ["internal/bytealg.abigen_runtime_cmpstring"], unfollowed := true, recurses := true, loops := true, apart := false }
def AccessAllowsSaid : Prop := accessAllowsRow.holds Tryz.pinned (OpenSpec.ofChange accessAllowsSpec)

/-- ITS FALSE NEIGHBOUR: 'it returns false'. Refute it at one input. -/
def accessAllowsWrong : ChangeSpec := { name := "accessAllows", fn := fun _ => fun
  | [d1, d2, d3] => { results := [.lit (.bool false)], args := [d1, d2, d3] }
  | _ => none }
def AccessAllowsWrongFalsely : Prop := accessAllowsRow.holds Tryz.pinned (OpenSpec.ofChange accessAllowsWrong)

/-- 'registrarlaw20.AccessDenies': WHATEVER THE INPUT: true; the input reads as it did. -/
def accessDeniesSpec : ChangeSpec := { name := "accessDenies", fn := fun _ => fun
  | [d1, d2, d3] => { results := [.lit (.bool true)], args := [d1, d2, d3] }
  | _ => none }
def accessDeniesRow : OpenClaim := { program := "ytdhfbakalknplaagreat", sum := "8141437afd0b6c2d0118fbc0bfdcf33fd2a46a352634bfb29cc48231077a7adf", func := "registrar/registrarlaw20.AccessDenies", spec := "accessDenies", inPlace := ["internal/bytealg.abigen_runtime_cmpstring"], unfollowed := true, recurses := true, loops := true, apart := false }
def AccessDeniesSaid : Prop := accessDeniesRow.holds Tryz.pinned (OpenSpec.ofChange accessDeniesSpec)

/-- ITS FALSE NEIGHBOUR: 'it returns false'. Refute it at one input. -/
def accessDeniesWrong : ChangeSpec := { name := "accessDenies", fn := fun _ => fun
  | [d1, d2, d3] => { results := [.lit (.bool false)], args := [d1, d2, d3] }
  | _ => none }
def AccessDeniesWrongFalsely : Prop := accessDeniesRow.holds Tryz.pinned (OpenSpec.ofChange accessDeniesWrong)

/- THE SECOND FORM. 'bulk': how many values and letters a reading holds, each counted each time it is reached (what is shared counts as often as it is met; a slice's spare places count too). A statement '..UptoSaid' is the law's where the arguments, and the package variables that the reading takes, are together of bulk at most 1048576: NARROWER than '..Said'. Prove '..Said' where nothing that the law and all that it calls make is longer than what came in: it says more and counts as full. Else prove '..UptoSaid'. A law counts once. -/
mutual
def uptoBulk {H : Type} : DataW H → Nat
  | .lit (.string bytes) => bytes.length + 1
  | .lit _ => 1
  | .nil => 1
  | .ptr d => uptoBulk d + 1
  | .slice elems spare => uptoBulkAll elems + uptoBulkAll spare + 1
  | .agg parts => uptoBulkAll parts + 1
  | .iface _ d => uptoBulk d + 1
  | .map entries => uptoBulkEntries entries + 1
  | .held _ => 1
def uptoBulkAll {H : Type} : List (DataW H) → Nat
  | [] => 0
  | d :: r => uptoBulk d + uptoBulkAll r
def uptoBulkEntries {H : Type} : List (Lit × DataW H) → Nat
  | [] => 0
  | x :: r => uptoBulkEntry x + uptoBulkEntries r
def uptoBulkEntry {H : Type} : Lit × DataW H → Nat
  | (.string bytes, d) => bytes.length + uptoBulk d + 1
  | (_, d) => uptoBulk d + 1
 end
def uptoSmall : (H : Type) → List (DataW H) → Bool := fun _ ds => decide (uptoBulkAll ds ≤ 1048576)
def OpenSpec.upto (s : _root_.Go.ChangeSpec) : _root_.Go.OpenSpec := { _root_.Go.OpenSpec.ofChange s with cond := some uptoSmall }

/-- 'registrarlaw20.AccessAllows', WHERE WHAT IT READS IS OF BULK AT MOST 1048576: true; the input reads as it did. -/
def accessAllowsUptoRow : OpenClaim := { program := "ytdhfbakalknplaagreat", sum := "8141437afd0b6c2d0118fbc0bfdcf33fd2a46a352634bfb29cc48231077a7adf", func := "registrar/registrarlaw20.AccessAllows", spec := "accessAllows", inPlace := ["internal/bytealg.abigen_runtime_cmpstring"], unfollowed := true, recurses := true, loops := true, apart := false, narrowed := true }
def AccessAllowsUptoSaid : Prop := accessAllowsUptoRow.holds Tryz.pinned (OpenSpec.upto accessAllowsSpec)

/-- 'registrarlaw20.AccessDenies', WHERE WHAT IT READS IS OF BULK AT MOST 1048576: true; the input reads as it did. -/
def accessDeniesUptoRow : OpenClaim := { program := "ytdhfbakalknplaagreat", sum := "8141437afd0b6c2d0118fbc0bfdcf33fd2a46a352634bfb29cc48231077a7adf", func := "registrar/registrarlaw20.AccessDenies", spec := "accessDenies", inPlace := ["internal/bytealg.abigen_runtime_cmpstring"], unfollowed := true, recurses := true, loops := true, apart := false, narrowed := true }
def AccessDeniesUptoSaid : Prop := accessDeniesUptoRow.holds Tryz.pinned (OpenSpec.upto accessDeniesSpec)

end Rows
end Go.Proofs.YtdhfbakalknplaaGreat
