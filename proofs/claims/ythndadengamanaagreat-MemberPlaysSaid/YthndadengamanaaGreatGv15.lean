/- Keys that are strings or numbers. Conditions: none. -/
import Derived.Test.YthndadengamanaaGreatGv14
namespace Go.Gv
open Go
def iEq (a b : Int) : Bool := a == b
theorem iEq_iff {a b : Int} : iEq a b = true ↔ a = b := by simp [iEq]
theorem beq_sEq (a b : ByteArray) : (a == b) = sEq a b := by
  rw [Bool.eq_iff_iff, sEq_iff]
  obtain ⟨d⟩ := a
  obtain ⟨e⟩ := b
  show (d == e) = true ↔ _
  simp
theorem checkKey_plain {P : Program} {kt : TypeId} {v : Value} {d : TypeDesc} (hu : P.underlying kt = some d) (h : ∀ (empty : Bool) (w : World), (match d, v with
    | .string, .string _ => True | .int _, .int _ _ => True | .bool, .bool _ => True | _, _ => False)) (empty : Bool) (w : World) : (Instr.checkKey empty 10000 kt v).run P w = .ok () w := by
  have h := h empty w
  show (Instr.checkKey empty (9999 + 1) kt v).run P w = .ok () w
  rw [Instr.checkKey]
  rw [run_bind (run_underlying' hu)]
  cases d <;> cases v <;> simp at h <;> rfl
theorem keyLaw_str {P : Program} {kt : TypeId} (hu : P.underlying kt = some .string) : KeyLaw P kt Value.string sEq := by
  refine keyLaw_now hu (fun empty k w => checkKey_plain hu (fun _ _ => trivial) empty w) (fun a b => ?_) (fun a b h => ?_)
  · simp only [Instr.sameNow, beq_sEq]
  · rw [sEq_iff.1 h]
    exact sameBits_str _ _
theorem keyLaw_int {P : Program} {kt : TypeId} {k : IntKind} (hu : P.underlying kt = some (.int k)) : KeyLaw P kt (Value.int k) iEq := by
  refine keyLaw_now hu (fun empty n w => checkKey_plain hu (fun _ _ => trivial) empty w) (fun a b => ?_) (fun a b h => ?_)
  · simp [Instr.sameNow, iEq]
  · rw [iEq_iff.1 h]
    exact sameBits_int _ _ _
theorem all_one {α : Type} {rel : Mem → List Value → α → Prop} [Mono rel] {I : Mem} {cs : List Value} {x : α} (h : rel I cs x) : (Value.agg cs.toArray).cells.toList.all Value.oneCell' = true :=
  List.all_eq_true.2 (Mono.one h)
theorem all_raw {v : Value} (h : v.oneCell' = true) : v.cells.toList.all Value.oneCell' = true := by
  cases v <;> first | rfl | (simp [Value.oneCell'] at h)
end Go.Gv
