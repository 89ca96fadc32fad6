/- Scopes through which a run goes without a jump; parts of strings. Conditions: none. -/
import Derived.Test.YthndadengamanaaGreatGv21
import Derived.Scope
namespace Go.Gv
open Go
section
variable {P : Program} {n : Nat} {Q : Exit → Act → World → Prop} {fr : Fr} {w : World}
theorem W.scope {c : Code} (h : W P n c (Exit.noGoto Q) fr w) : W P n (.scope c) Q fr w := fun a ha => wp_scope_straight (h a ha)
theorem En.sc_normal (h : En n Q .normal fr w) : En n (Exit.noGoto Q) .normal fr w := fun a ha => h a ha
theorem En.sc_ret (h : En n Q .ret fr w) : En n (Exit.noGoto Q) .ret fr w := fun a ha => h a ha
theorem En.sc_exit {id : Nat} (h : En n Q (.exit id) fr w) : En n (Exit.noGoto Q) (.exit id) fr w := fun a ha => h a ha
end
/-- A part of a string. -/
def ssub (s : ByteArray) (lo hi : Int) : Option ByteArray := if 0 ≤ lo ∧ lo ≤ hi ∧ hi ≤ (s.size : Int) then some (s.extract lo.toNat hi.toNat) else none
theorem ssub_some {s r : ByteArray} {lo hi : Int} (h : ssub s lo hi = some r) : 0 ≤ lo ∧ lo ≤ hi ∧ hi ≤ (s.size : Int) ∧ r = s.extract lo.toNat hi.toNat := by
  unfold ssub at h
  split at h
  · rename_i hc
    injection h with h
    exact ⟨hc.1, hc.2.1, hc.2.2, h.symm⟩
  · cases h
section
variable {P : Program} {n : Nat} {K : World → Prop} {qt : Op → Bool} {z : Nat} {ops : Array Oper} {Q : Exit → Act → World → Prop} {fr : Fr} {w : World} {l : List Nat} {i : Nat}
  {dst : Option Tmp} {ty : TypeId} {pos : String} {after : Array Edge} {guard : Option (Nat × Bool)}
theorem run_sliceS {t : TypeId} (ht : P.underlying t = some .string) (s : ByteArray) {lo hi : Option Value} {a b : Nat}
    (hlo : lo = none ∧ a = 0 ∨ ∃ k, lo = some (.int k (a : Int))) (hhi : hi = none ∧ b = s.size ∨ ∃ k, hi = some (.int k (b : Int))) (h1 : a ≤ b) (h2 : b ≤ s.size) :
    (Instr.sliceAt t (.string s) lo hi none).run P w = .ok (.string (s.extract a b)) w := by
  have hu := run_underlying' (P := P) (w := w) ht
  rcases hlo with ⟨rfl, rfl⟩ | ⟨k1, rfl⟩ <;> rcases hhi with ⟨rfl, rfl⟩ | ⟨k2, rfl⟩ <;>
    simp [Instr.sliceAt, Instr.slice, Instr.sliceBounds, Instr.sliceBound, asIntOf, hu, h1, h2]
theorem WO.sliceS {t : TypeId} {x : Operand} {lo hi : Option Operand} (ho : ops[i]? = some ⟨dst, .slice t x lo hi none, ty, pos, after, guard⟩) (hok : okAt n ops fr ⟨dst, .slice t x lo hi none, ty, pos, after, guard⟩ = true)
    (ht : P.underlying t = some .string) {s r : ByteArray} (hx : ev fr x = .string s) (l' h' : Int)
    (hlo : lo = none ∧ l' = 0 ∨ ∃ k o, lo = some o ∧ ev fr o = .int k l') (hhi : hi = none ∧ h' = (s.size : Int) ∨ ∃ k o, hi = some o ∧ ev fr o = .int k h') (hr : ssub s l' h' = some r)
    (h : WO P n K qt z ops Q l (pt fr dst (.string r)) w) : WO P n K qt z ops Q (i :: l) fr w := by
  obtain ⟨g0, g1, g2, rfl⟩ := ssub_some hr
  refine WO.val ho hok _ (fun w' hw' => ?_) h
  simp only [execOp, hx, Option.map_none]
  rw [run_bind (run_sliceS (P := P) (w := w') ht s (a := l'.toNat) (b := h'.toNat) ?_ ?_ (by omega) (by omega))]
  · rfl
  · rcases hlo with ⟨rfl, rfl⟩ | ⟨k, o, rfl, eo⟩
    · exact .inl ⟨rfl, rfl⟩
    · exact .inr ⟨k, by rw [Option.map_some, eo, Int.toNat_of_nonneg g0]⟩
  · rcases hhi with ⟨rfl, rfl⟩ | ⟨k, o, rfl, eo⟩
    · exact .inl ⟨rfl, by omega⟩
    · exact .inr ⟨k, by rw [Option.map_some, eo, Int.toNat_of_nonneg (by omega)]⟩
end
end Go.Gv
