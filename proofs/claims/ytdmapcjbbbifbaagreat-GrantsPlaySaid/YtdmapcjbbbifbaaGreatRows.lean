/-
  NARROWER THAN 'FOR EVERY INPUT', by the rows' own cells (each row's printed sentence says how): GrantsPlay: loops · GrantsTell: loops · GrantsHold: loops · GrantsGone: loops.
  DERIVED. THE GIVEN ROWS OF THIS SEAT. 4 by the template 'for every input the law returns true; each argument reads behind the call as it read before'; 0 by the template 'total and deterministic' (their statements: YtdmapcjbbbifbaaGreatTotals.lean).
  GIVEN WITH THE SEED: the statements are not yours to turn. If you find one false, say at which input.
  Laid BY PROGRAM, IN A SANDBOX (cutbox-rows.mjs): the forced cells as the released guide's own fill.sh prints them over the translation 94459f423f3139ea… (all of the seat's roots in one cut). By AI agents, Wed Nov 11 2026. No macro, syntax, notation, axiom, sorry.
-/
import Derived.Test.YtdmapcjbbbifbaaGreatChecked
import GoSem.Claim
import GoSem.ClaimJoined
import GoSem.ClaimMapViews
import Derived.JoinedTies
import Derived.KernelRfl
namespace Go.Proofs.YtdmapcjbbbifbaaGreat
/- THE CELL 'sum', in the pinned program and in every row, IS THE sha256 OF THE DUMP (.gsa) THAT YtdmapcjbbbifbaaGreatProg.lean LOADS. Nothing in Lean hashes anything: it is a label: what it is worth is what the hold of that sum in a sandbox is worth. -/
noncomputable def Tryz.pinned : Pinned := { name := "ytdmapcjbbbifbaagreat", sum := "94459f423f3139eaf65bfdc181ad303a30217d0da9b188517dff4b7976b990ce", checked := Tryz.checked }
namespace Rows
def none {H : Type} : Left H := { results := [], args := [] }

/-- 'registrarlaw19.GrantsPlay': WHATEVER THE INPUT: true; the input reads as it did. -/
def grantsPlaySpec : ChangeSpec := { name := "grantsPlay", fn := fun _ => fun
  | [d1, d2] => { results := [.lit (.bool true)], args := [d1, d2] }
  | _ => none }
def grantsPlayRow : OpenClaim := { program := "ytdmapcjbbbifbaagreat", sum := "94459f423f3139eaf65bfdc181ad303a30217d0da9b188517dff4b7976b990ce", func := "registrar/registrarlaw19.GrantsPlay", spec := "grantsPlay", inPlace := ["slices.overlaps[registrar/api.Role]", "slices.overlaps[string]"], unfollowed := true, recurses := true, loops := true, apart := false }
def GrantsPlaySaid : Prop := grantsPlayRow.holds Tryz.pinned (OpenSpec.ofChange grantsPlaySpec)

/-- ITS FALSE NEIGHBOUR: 'it returns false'. Refute it at one input. -/
def grantsPlayWrong : ChangeSpec := { name := "grantsPlay", fn := fun _ => fun
  | [d1, d2] => { results := [.lit (.bool false)], args := [d1, d2] }
  | _ => none }
def GrantsPlayWrongFalsely : Prop := grantsPlayRow.holds Tryz.pinned (OpenSpec.ofChange grantsPlayWrong)

/-- 'registrarlaw19.GrantsTell': WHATEVER THE INPUT: true; the input reads as it did. -/
def grantsTellSpec : ChangeSpec := { name := "grantsTell", fn := fun _ => fun
  | [d1, d2, d3] => { results := [.lit (.bool true)], args := [d1, d2, d3] }
  | _ => none }
def grantsTellRow : OpenClaim := { program := "ytdmapcjbbbifbaagreat", sum := "94459f423f3139eaf65bfdc181ad303a30217d0da9b188517dff4b7976b990ce", func := "registrar/registrarlaw19.GrantsTell", spec := "grantsTell", inPlace := ["slices.overlaps[registrar/api.Role]", "slices.overlaps[string]"], unfollowed := true, recurses := true, loops := true, apart := false }
def GrantsTellSaid : Prop := grantsTellRow.holds Tryz.pinned (OpenSpec.ofChange grantsTellSpec)

/-- ITS FALSE NEIGHBOUR: 'it returns false'. Refute it at one input. -/
def grantsTellWrong : ChangeSpec := { name := "grantsTell", fn := fun _ => fun
  | [d1, d2, d3] => { results := [.lit (.bool false)], args := [d1, d2, d3] }
  | _ => none }
def GrantsTellWrongFalsely : Prop := grantsTellRow.holds Tryz.pinned (OpenSpec.ofChange grantsTellWrong)

/-- 'registrarlaw19.GrantsHold': WHATEVER THE INPUT: true; the input reads as it did. -/
def grantsHoldSpec : ChangeSpec := { name := "grantsHold", fn := fun _ => fun
  | [d] => { results := [.lit (.bool true)], args := [d] }
  | _ => none }
def grantsHoldRow : OpenClaim := { program := "ytdmapcjbbbifbaagreat", sum := "94459f423f3139eaf65bfdc181ad303a30217d0da9b188517dff4b7976b990ce", func := "registrar/registrarlaw19.GrantsHold", spec := "grantsHold", inPlace := ["slices.overlaps[registrar/api.Role]", "slices.overlaps[string]"], unfollowed := true, recurses := true, loops := true, apart := false }
def GrantsHoldSaid : Prop := grantsHoldRow.holds Tryz.pinned (OpenSpec.ofChange grantsHoldSpec)

/-- ITS FALSE NEIGHBOUR: 'it returns false'. Refute it at one input. -/
def grantsHoldWrong : ChangeSpec := { name := "grantsHold", fn := fun _ => fun
  | [d] => { results := [.lit (.bool false)], args := [d] }
  | _ => none }
def GrantsHoldWrongFalsely : Prop := grantsHoldRow.holds Tryz.pinned (OpenSpec.ofChange grantsHoldWrong)

/-- 'registrarlaw19.GrantsGone': WHATEVER THE INPUT: true; the input reads as it did. -/
def grantsGoneSpec : ChangeSpec := { name := "grantsGone", fn := fun _ => fun
  | [d1, d2] => { results := [.lit (.bool true)], args := [d1, d2] }
  | _ => none }
def grantsGoneRow : OpenClaim := { program := "ytdmapcjbbbifbaagreat", sum := "94459f423f3139eaf65bfdc181ad303a30217d0da9b188517dff4b7976b990ce", func := "registrar/registrarlaw19.GrantsGone", spec := "grantsGone", inPlace := ["slices.overlaps[registrar/api.Role]", "slices.overlaps[string]"], unfollowed := true, recurses := true, loops := true, apart := false }
def GrantsGoneSaid : Prop := grantsGoneRow.holds Tryz.pinned (OpenSpec.ofChange grantsGoneSpec)

/-- ITS FALSE NEIGHBOUR: 'it returns false'. Refute it at one input. -/
def grantsGoneWrong : ChangeSpec := { name := "grantsGone", fn := fun _ => fun
  | [d1, d2] => { results := [.lit (.bool false)], args := [d1, d2] }
  | _ => none }
def GrantsGoneWrongFalsely : Prop := grantsGoneRow.holds Tryz.pinned (OpenSpec.ofChange grantsGoneWrong)

/- THE SECOND FORM. 'bulk': how many values and letters a reading holds, each counted each time it is reached (what is shared counts as often as it is met; a slice's spare places count too). A statement '..UptoSaid' is the law's where the arguments, and the package variables that the reading takes, are together of bulk at most 1048576: NARROWER than '..Said'. Prove '..Said' where nothing that the law and all that it calls make is longer than what came in: it says more and counts as full. Else prove '..UptoSaid'. A law counts once. -/
mutual
def uptoBulk {H : Type} : DataW H → Nat
  | .lit (.string bytes) => bytes.length + 1
  | .lit _ => 1
  | .nil => 1
  | .ptr d => uptoBulk d + 1
  | .slice elems spare => uptoBulkAll elems + uptoBulkAll spare + 1
  | .agg parts => uptoBulkAll parts + 1
  | .iface _ d => uptoBulk d + 1
  | .map entries => uptoBulkEntries entries + 1
  | .held _ => 1
def uptoBulkAll {H : Type} : List (DataW H) → Nat
  | [] => 0
  | d :: r => uptoBulk d + uptoBulkAll r
def uptoBulkEntries {H : Type} : List (Lit × DataW H) → Nat
  | [] => 0
  | x :: r => uptoBulkEntry x + uptoBulkEntries r
def uptoBulkEntry {H : Type} : Lit × DataW H → Nat
  | (.string bytes, d) => bytes.length + uptoBulk d + 1
  | (_, d) => uptoBulk d + 1
 end
def uptoSmall : (H : Type) → List (DataW H) → Bool := fun _ ds => decide (uptoBulkAll ds ≤ 1048576)
def OpenSpec.upto (s : _root_.Go.ChangeSpec) : _root_.Go.OpenSpec := { _root_.Go.OpenSpec.ofChange s with cond := some uptoSmall }

/-- 'registrarlaw19.GrantsPlay', WHERE WHAT IT READS IS OF BULK AT MOST 1048576: true; the input reads as it did. -/
def grantsPlayUptoRow : OpenClaim := { program := "ytdmapcjbbbifbaagreat", sum := "94459f423f3139eaf65bfdc181ad303a30217d0da9b188517dff4b7976b990ce", func := "registrar/registrarlaw19.GrantsPlay", spec := "grantsPlay", inPlace := ["slices.overlaps[registrar/api.Role]", "slices.overlaps[string]"], unfollowed := true, recurses := true, loops := true, apart := false, narrowed := true }
def GrantsPlayUptoSaid : Prop := grantsPlayUptoRow.holds Tryz.pinned (OpenSpec.upto grantsPlaySpec)

/-- 'registrarlaw19.GrantsTell', WHERE WHAT IT READS IS OF BULK AT MOST 1048576: true; the input reads as it did. -/
def grantsTellUptoRow : OpenClaim := { program := "ytdmapcjbbbifbaagreat", sum := "94459f423f3139eaf65bfdc181ad303a30217d0da9b188517dff4b7976b990ce", func := "registrar/registrarlaw19.GrantsTell", spec := "grantsTell", inPlace := ["slices.overlaps[registrar/api.Role]", "slices.overlaps[string]"], unfollowed := true, recurses := true, loops := true, apart := false, narrowed := true }
def GrantsTellUptoSaid : Prop := grantsTellUptoRow.holds Tryz.pinned (OpenSpec.upto grantsTellSpec)

/-- 'registrarlaw19.GrantsHold', WHERE WHAT IT READS IS OF BULK AT MOST 1048576: true; the input reads as it did. -/
def grantsHoldUptoRow : OpenClaim := { program := "ytdmapcjbbbifbaagreat", sum := "94459f423f3139eaf65bfdc181ad303a30217d0da9b188517dff4b7976b990ce", func := "registrar/registrarlaw19.GrantsHold", spec := "grantsHold", inPlace := ["slices.overlaps[registrar/api.Role]", "slices.overlaps[string]"], unfollowed := true, recurses := true, loops := true, apart := false, narrowed := true }
def GrantsHoldUptoSaid : Prop := grantsHoldUptoRow.holds Tryz.pinned (OpenSpec.upto grantsHoldSpec)

/-- 'registrarlaw19.GrantsGone', WHERE WHAT IT READS IS OF BULK AT MOST 1048576: true; the input reads as it did. -/
def grantsGoneUptoRow : OpenClaim := { program := "ytdmapcjbbbifbaagreat", sum := "94459f423f3139eaf65bfdc181ad303a30217d0da9b188517dff4b7976b990ce", func := "registrar/registrarlaw19.GrantsGone", spec := "grantsGone", inPlace := ["slices.overlaps[registrar/api.Role]", "slices.overlaps[string]"], unfollowed := true, recurses := true, loops := true, apart := false, narrowed := true }
def GrantsGoneUptoSaid : Prop := grantsGoneUptoRow.holds Tryz.pinned (OpenSpec.upto grantsGoneSpec)

end Rows
end Go.Proofs.YtdmapcjbbbifbaaGreat
