/-
  No cell of these rows narrows 'for every input' (looked for: loops, veiled, ifaces, maps, wideKeys, modest, calm, conditions, laid).
  DERIVED. THE GIVEN ROWS OF THIS SEAT. 5 by the template 'for every input the law returns true; each argument reads behind the call as it read before'; 0 by the template 'total and deterministic' (their statements: YtdmefifamlpbiaaTotals.lean).
  GIVEN WITH THE SEED: the statements are not yours to turn. If you find one false, say at which input.
  Laid BY PROGRAM, IN A SANDBOX (cutbox-rows.mjs): the forced cells as the released guide's own fill.sh prints them over the translation 4d74b1bf4a6fae1d… (all of the seat's roots in one cut). By AI agents, Wed Nov 11 2026. No macro, syntax, notation, axiom, sorry.
-/
import Derived.Test.YtdmefifamlpbiaaChecked
import GoSem.Claim
import GoSem.ClaimJoined
import GoSem.ClaimMapViews
import Derived.JoinedTies
import Derived.KernelRfl
namespace Go.Proofs.Ytdmefifamlpbiaa
/- THE CELL 'sum', in the pinned program and in every row, IS THE sha256 OF THE DUMP (.gsa) THAT YtdmefifamlpbiaaProg.lean LOADS. Nothing in Lean hashes anything: it is a label: what it is worth is what the hold of that sum in a sandbox is worth. -/
noncomputable def Try.pinned : Pinned := { name := "ytdmefifamlpbiaa", sum := "4d74b1bf4a6fae1df48f584a593a0d61b5ac92cecc123fae94a1f9251eeffd49", checked := Try.checked }
namespace Rows
def none {H : Type} : Left H := { results := [], args := [] }

/-- 'registrarlaw21.MdlServes': WHATEVER THE INPUT: true; the input reads as it did. -/
def mdlServesSpec : ChangeSpec := { name := "mdlServes", fn := fun _ => fun
  | [d] => { results := [.lit (.bool true)], args := [d] }
  | _ => none }
def mdlServesRow : OpenClaim := { program := "ytdmefifamlpbiaa", sum := "4d74b1bf4a6fae1df48f584a593a0d61b5ac92cecc123fae94a1f9251eeffd49", func := "registrar/registrarlaw21.MdlServes", spec := "mdlServes", unfollowed := true, recurses := true, apart := false }
def MdlServesSaid : Prop := mdlServesRow.holds Try.pinned (OpenSpec.ofChange mdlServesSpec)

/-- ITS FALSE NEIGHBOUR: 'it returns false'. Refute it at one input. -/
def mdlServesWrong : ChangeSpec := { name := "mdlServes", fn := fun _ => fun
  | [d] => { results := [.lit (.bool false)], args := [d] }
  | _ => none }
def MdlServesWrongFalsely : Prop := mdlServesRow.holds Try.pinned (OpenSpec.ofChange mdlServesWrong)

/-- 'registrarlaw21.MdlGoes': WHATEVER THE INPUT: true; the input reads as it did. -/
def mdlGoesSpec : ChangeSpec := { name := "mdlGoes", fn := fun _ => fun
  | [d1, d2, d3] => { results := [.lit (.bool true)], args := [d1, d2, d3] }
  | _ => none }
def mdlGoesRow : OpenClaim := { program := "ytdmefifamlpbiaa", sum := "4d74b1bf4a6fae1df48f584a593a0d61b5ac92cecc123fae94a1f9251eeffd49", func := "registrar/registrarlaw21.MdlGoes", spec := "mdlGoes", unfollowed := true, recurses := true, apart := false }
def MdlGoesSaid : Prop := mdlGoesRow.holds Try.pinned (OpenSpec.ofChange mdlGoesSpec)

/-- ITS FALSE NEIGHBOUR: 'it returns false'. Refute it at one input. -/
def mdlGoesWrong : ChangeSpec := { name := "mdlGoes", fn := fun _ => fun
  | [d1, d2, d3] => { results := [.lit (.bool false)], args := [d1, d2, d3] }
  | _ => none }
def MdlGoesWrongFalsely : Prop := mdlGoesRow.holds Try.pinned (OpenSpec.ofChange mdlGoesWrong)

/-- 'registrarlaw21.MdlOrdered': WHATEVER THE INPUT: true; the input reads as it did. -/
def mdlOrderedSpec : ChangeSpec := { name := "mdlOrdered", fn := fun _ => fun
  | [d] => { results := [.lit (.bool true)], args := [d] }
  | _ => none }
def mdlOrderedRow : OpenClaim := { program := "ytdmefifamlpbiaa", sum := "4d74b1bf4a6fae1df48f584a593a0d61b5ac92cecc123fae94a1f9251eeffd49", func := "registrar/registrarlaw21.MdlOrdered", spec := "mdlOrdered", unfollowed := true, recurses := true, apart := false }
def MdlOrderedSaid : Prop := mdlOrderedRow.holds Try.pinned (OpenSpec.ofChange mdlOrderedSpec)

/-- ITS FALSE NEIGHBOUR: 'it returns false'. Refute it at one input. -/
def mdlOrderedWrong : ChangeSpec := { name := "mdlOrdered", fn := fun _ => fun
  | [d] => { results := [.lit (.bool false)], args := [d] }
  | _ => none }
def MdlOrderedWrongFalsely : Prop := mdlOrderedRow.holds Try.pinned (OpenSpec.ofChange mdlOrderedWrong)

/-- 'registrarlaw21.MdlPlays': WHATEVER THE INPUT: true; the input reads as it did. -/
def mdlPlaysSpec : ChangeSpec := { name := "mdlPlays", fn := fun _ => fun
  | [d] => { results := [.lit (.bool true)], args := [d] }
  | _ => none }
def mdlPlaysRow : OpenClaim := { program := "ytdmefifamlpbiaa", sum := "4d74b1bf4a6fae1df48f584a593a0d61b5ac92cecc123fae94a1f9251eeffd49", func := "registrar/registrarlaw21.MdlPlays", spec := "mdlPlays", unfollowed := true, recurses := true, apart := false }
def MdlPlaysSaid : Prop := mdlPlaysRow.holds Try.pinned (OpenSpec.ofChange mdlPlaysSpec)

/-- ITS FALSE NEIGHBOUR: 'it returns false'. Refute it at one input. -/
def mdlPlaysWrong : ChangeSpec := { name := "mdlPlays", fn := fun _ => fun
  | [d] => { results := [.lit (.bool false)], args := [d] }
  | _ => none }
def MdlPlaysWrongFalsely : Prop := mdlPlaysRow.holds Try.pinned (OpenSpec.ofChange mdlPlaysWrong)

/-- 'registrarlaw21.MdlNone': WHATEVER THE INPUT: true; the input reads as it did. -/
def mdlNoneSpec : ChangeSpec := { name := "mdlNone", fn := fun _ => fun
  | [d] => { results := [.lit (.bool true)], args := [d] }
  | _ => none }
def mdlNoneRow : OpenClaim := { program := "ytdmefifamlpbiaa", sum := "4d74b1bf4a6fae1df48f584a593a0d61b5ac92cecc123fae94a1f9251eeffd49", func := "registrar/registrarlaw21.MdlNone", spec := "mdlNone", unfollowed := true, recurses := true, apart := false }
def MdlNoneSaid : Prop := mdlNoneRow.holds Try.pinned (OpenSpec.ofChange mdlNoneSpec)

/-- ITS FALSE NEIGHBOUR: 'it returns false'. Refute it at one input. -/
def mdlNoneWrong : ChangeSpec := { name := "mdlNone", fn := fun _ => fun
  | [d] => { results := [.lit (.bool false)], args := [d] }
  | _ => none }
def MdlNoneWrongFalsely : Prop := mdlNoneRow.holds Try.pinned (OpenSpec.ofChange mdlNoneWrong)

/- THE SECOND FORM. 'bulk': how many values and letters a reading holds, each counted each time it is reached (what is shared counts as often as it is met; a slice's spare places count too). A statement '..UptoSaid' is the law's where the arguments, and the package variables that the reading takes, are together of bulk at most 1048576: NARROWER than '..Said'. Prove '..Said' where nothing that the law and all that it calls make is longer than what came in: it says more and counts as full. Else prove '..UptoSaid'. A law counts once. -/
mutual
def uptoBulk {H : Type} : DataW H → Nat
  | .lit (.string bytes) => bytes.length + 1
  | .lit _ => 1
  | .nil => 1
  | .ptr d => uptoBulk d + 1
  | .slice elems spare => uptoBulkAll elems + uptoBulkAll spare + 1
  | .agg parts => uptoBulkAll parts + 1
  | .iface _ d => uptoBulk d + 1
  | .map entries => uptoBulkEntries entries + 1
  | .held _ => 1
def uptoBulkAll {H : Type} : List (DataW H) → Nat
  | [] => 0
  | d :: r => uptoBulk d + uptoBulkAll r
def uptoBulkEntries {H : Type} : List (Lit × DataW H) → Nat
  | [] => 0
  | x :: r => uptoBulkEntry x + uptoBulkEntries r
def uptoBulkEntry {H : Type} : Lit × DataW H → Nat
  | (.string bytes, d) => bytes.length + uptoBulk d + 1
  | (_, d) => uptoBulk d + 1
 end
def uptoSmall : (H : Type) → List (DataW H) → Bool := fun _ ds => decide (uptoBulkAll ds ≤ 1048576)
def OpenSpec.upto (s : _root_.Go.ChangeSpec) : _root_.Go.OpenSpec := { _root_.Go.OpenSpec.ofChange s with cond := some uptoSmall }

/-- 'registrarlaw21.MdlServes', WHERE WHAT IT READS IS OF BULK AT MOST 1048576: true; the input reads as it did. -/
def mdlServesUptoRow : OpenClaim := { program := "ytdmefifamlpbiaa", sum := "4d74b1bf4a6fae1df48f584a593a0d61b5ac92cecc123fae94a1f9251eeffd49", func := "registrar/registrarlaw21.MdlServes", spec := "mdlServes", unfollowed := true, recurses := true, apart := false, narrowed := true }
def MdlServesUptoSaid : Prop := mdlServesUptoRow.holds Try.pinned (OpenSpec.upto mdlServesSpec)

/-- 'registrarlaw21.MdlGoes', WHERE WHAT IT READS IS OF BULK AT MOST 1048576: true; the input reads as it did. -/
def mdlGoesUptoRow : OpenClaim := { program := "ytdmefifamlpbiaa", sum := "4d74b1bf4a6fae1df48f584a593a0d61b5ac92cecc123fae94a1f9251eeffd49", func := "registrar/registrarlaw21.MdlGoes", spec := "mdlGoes", unfollowed := true, recurses := true, apart := false, narrowed := true }
def MdlGoesUptoSaid : Prop := mdlGoesUptoRow.holds Try.pinned (OpenSpec.upto mdlGoesSpec)

/-- 'registrarlaw21.MdlOrdered', WHERE WHAT IT READS IS OF BULK AT MOST 1048576: true; the input reads as it did. -/
def mdlOrderedUptoRow : OpenClaim := { program := "ytdmefifamlpbiaa", sum := "4d74b1bf4a6fae1df48f584a593a0d61b5ac92cecc123fae94a1f9251eeffd49", func := "registrar/registrarlaw21.MdlOrdered", spec := "mdlOrdered", unfollowed := true, recurses := true, apart := false, narrowed := true }
def MdlOrderedUptoSaid : Prop := mdlOrderedUptoRow.holds Try.pinned (OpenSpec.upto mdlOrderedSpec)

/-- 'registrarlaw21.MdlPlays', WHERE WHAT IT READS IS OF BULK AT MOST 1048576: true; the input reads as it did. -/
def mdlPlaysUptoRow : OpenClaim := { program := "ytdmefifamlpbiaa", sum := "4d74b1bf4a6fae1df48f584a593a0d61b5ac92cecc123fae94a1f9251eeffd49", func := "registrar/registrarlaw21.MdlPlays", spec := "mdlPlays", unfollowed := true, recurses := true, apart := false, narrowed := true }
def MdlPlaysUptoSaid : Prop := mdlPlaysUptoRow.holds Try.pinned (OpenSpec.upto mdlPlaysSpec)

/-- 'registrarlaw21.MdlNone', WHERE WHAT IT READS IS OF BULK AT MOST 1048576: true; the input reads as it did. -/
def mdlNoneUptoRow : OpenClaim := { program := "ytdmefifamlpbiaa", sum := "4d74b1bf4a6fae1df48f584a593a0d61b5ac92cecc123fae94a1f9251eeffd49", func := "registrar/registrarlaw21.MdlNone", spec := "mdlNone", unfollowed := true, recurses := true, apart := false, narrowed := true }
def MdlNoneUptoSaid : Prop := mdlNoneUptoRow.holds Try.pinned (OpenSpec.upto mdlNoneSpec)

end Rows
end Go.Proofs.Ytdmefifamlpbiaa
