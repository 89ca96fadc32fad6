/- What a role is all of. Conditions: none. -/
import Derived.Test.YthndadengamanaaGreatO
namespace Go.Proofs.YthndadengamanaaGreat
open Go.Gv
abbrev Role := api_Role
theorem keq : KEq sEq := fun a b => by
  rw [sEq_data]
  constructor
  · intro h
    have h := eq_of_beq h
    cases a; cases b
    simp only at h
    congr
    exact Array.toList_inj.1 h
  · rintro rfl
    simp
theorem at_eq (l : List Role) (n : ByteArray) : member_at l n = some (match l.findIdx? (fun x => sEq x.Name n) with | some j => (j : Int) | none => -1) := by
  unfold member_at slices_IndexFunc_api_Role
  rw [forN_find (fun x : Role => sEq x.Name n) (fun j => (j : Int))]
  · cases l.findIdx? (fun x => sEq x.Name n) <;> rfl
  · intro j x hx
    simp only [idx_nat, hx, Option.bind_some]
    unfold member_at_1
    simp only [Option.bind_some]
    cases sEq x.Name n <;> rfl
/-- Where a role stands: nowhere, or there. -/
theorem at_spec (l : List Role) (n : ByteArray) : ((∀ y ∈ l, y.Name ≠ n) ∧ member_at l n = some (-1)) ∨ ∃ A x B, l = A ++ x :: B ∧ x.Name = n ∧ (∀ y ∈ A, y.Name ≠ n) ∧ member_at l n = some (A.length : Int) := by
  rw [at_eq]
  rcases find_cases (fun x : Role => sEq x.Name n) l with ⟨h, e⟩ | ⟨A, x, B, h1, h2, h3, h4⟩
  · left
    refine ⟨fun y hy e1 => ?_, by rw [e]⟩
    have := h y hy
    rw [(keq _ _).2 e1] at this
    cases this
  · right
    refine ⟨A, x, B, h1, (keq _ _).1 h2, fun y hy e1 => ?_, by rw [h4]⟩
    have := h3 y hy
    rw [(keq _ _).2 e1] at this
    cases this
/-- The names of which a role is a member, that of the first of its name. -/
def ins (l : List Role) (n : ByteArray) : List ByteArray := ((l.find? fun x => sEq x.Name n).map (·.In)).getD []
def has (l : List Role) (n : ByteArray) : Prop := ∃ x ∈ l, x.Name = n
theorem at_has (l : List Role) (n : ByteArray) : ∃ i, member_at l n = some i ∧ (0 ≤ i ↔ has l n) := by
  rcases at_spec l n with ⟨h, e⟩ | ⟨A, x, B, h1, h2, h3, h4⟩
  · exact ⟨_, e, ⟨fun hi => by omega, fun ⟨x, hx, hn⟩ => absurd hn (h x hx)⟩⟩
  · exact ⟨_, h4, ⟨fun _ => ⟨x, by rw [h1]; simp, h2⟩, fun _ => by omega⟩⟩
theorem find_eq (l : List Role) (n : ByteArray) (hs : ∀ x ∈ l, x.In.length ≤ 1000) : ∃ r b, member_Find l n = some (r, b) ∧ r.In = ins l n ∧ (b = true ↔ has l n) ∧ (b = true → r.Name = n) := by
  unfold member_Find
  rcases at_spec l n with ⟨h, e⟩ | ⟨A, x, B, h1, h2, h3, h4⟩
  · rw [e]
    refine ⟨z_api_Role, false, rfl, ?_, ?_, by simp⟩
    · unfold ins
      rw [List.find?_eq_none.2]
      · rfl
      · intro y hy hn
        exact h y hy ((keq _ _).1 hn)
    · constructor
      · intro hb; cases hb
      · rintro ⟨x, hx, hn⟩; exact absurd hn (h x hx)
  · rw [h4]
    simp only [Option.bind_some]
    rw [show decide ((A.length : Int) < 0) = false by simp]
    have hx : idx l (A.length : Int) = some x := by
      rw [h1, idx_nat, List.getElem?_append_right (Nat.le_refl _), Nat.sub_self]
      rfl
    simp only [cond_false]
    rw [hx]
    simp only [Option.bind_some]
    have hxl : x ∈ l := by rw [h1]; simp
    have hc : slices_Clone_string x.In = some x.In := by
      unfold slices_Clone_string
      have := hs x hxl
      rw [app_le (by simp; omega)]
      rfl
    rw [hc]
    refine ⟨{ x with In := x.In }, true, rfl, ?_, ⟨fun _ => ⟨x, hxl, h2⟩, fun _ => rfl⟩, fun _ => h2⟩
    unfold ins
    rw [h1, List.find?_append, List.find?_eq_none.2]
    · simp [(keq _ _).2 h2]
    · intro y hy hn
      exact h3 y hy ((keq _ _).1 hn)
/-- What a role is, over others. -/
inductive Rch (l : List Role) (n : ByteArray) : ByteArray → Prop
  | self : Rch l n n
  | step {a b : ByteArray} : Rch l n a → b ∈ ins l a → has l b → Rch l n b
end Go.Proofs.YthndadengamanaaGreat
