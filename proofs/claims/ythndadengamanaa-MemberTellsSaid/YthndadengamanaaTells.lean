/- What any role is all of, and whether it is there. Conditions: none. -/
import Derived.Test.YthndadengamanaaWorks
namespace Go.Proofs.Ythndadengamanaa
open Go.Gv
theorem Sm.of_few {l : List Role} (h : l.length ≤ 12 ∧ (∀ x ∈ l, x.In.length ≤ 12) ∧ (∀ x ∈ l, x.Name.size ≤ 100) ∧ ∀ x ∈ l, ∀ s ∈ x.In, s.size ≤ 100) : Sm l := ⟨by omega, fun x hx => by have := h.2.1 x hx; omega, fun x hx => by have := h.2.2.1 x hx; omega⟩
/-- What is found is what stands there. -/
theorem find_same {l : List Role} (h : Sm l) (n : ByteArray) : (member_Find l n = some (z_api_Role, false) ∧ registrarref18_At l n = some (-1)) ∨ ∃ (k : Nat) (x : Role), x ∈ l ∧ member_Find l n = some (x, true) ∧ registrarref18_At l n = some (k : Int) ∧ idx l (k : Int) = some x := by
  unfold member_Find
  rw [at_same]
  by_cases hn : has l n
  · right
    obtain ⟨k, hk, e⟩ := Fst.of_has hn
    obtain ⟨x, hx, _, hm, _⟩ := hk.get
    refine ⟨k, x, hm, ?_, e, by rw [idx_nat]; exact hx⟩
    rw [e]
    have hi : idx l (k : Int) = some x := by rw [idx_nat]; exact hx
    have hc : slices_Clone_string x.In = some x.In := by
      unfold slices_Clone_string
      have := h.2.1 x hm
      rw [app_le (by simp; omega)]
      rfl
    simp only [Option.bind_some]
    rw [show decide ((k : Int) < 0) = false by simp]
    simp only [cond_false, hi, Option.bind_some, hc]
  · left
    rw [rat_none hn]
    exact ⟨rfl, rfl⟩
theorem tells_ok {A B C : Prop} (p0 : List Role) (p1 p2 : ByteArray) (_ : A) (_ : B) (_ : C) : registrarlaw18_MemberTells p0 p1 p2 = some true := by
  refine Ret.eq ?_
  unfold registrarlaw18_MemberTells
  refine RB.bind (few_spec p0) ?_
  intro b hb
  rw [works_eq]
  refine RB.cond (fun _ => RB.ret rfl) (fun e => ?_)
  have hb2 : b = true := by cases b <;> simp_all
  have hs := Sm.of_few (hb hb2)
  have tail : RB True ((bif false then some false else (member_All p0 p1).bind (fun (r162 : List ByteArray) => (registrarref18_All p0 p1).bind (fun (r168 : List ByteArray) => (registrarref12_SameTexts r162 r168).bind (fun (r174 : Bool) => ((bif r174 then (member_Is p0 p1 p2).bind (fun (r184 : Bool) => (registrarref18_Is p0 p1 p2).bind (fun (r190 : Bool) => some (r184 == r190))) else some false)).bind (fun (j175 : Bool) => ((bif j175 then (some true).bind (fun (r202 : Bool) => some r202) else some false)).bind (fun (j193 : Bool) => some j193))))))) (fun r => r = true) := by
    simp only [cond_false]
    obtain ⟨r, hr, _⟩ := rall_eq (n := p1) hs.1 hs.2.1
    rw [all_same hs, hr]
    simp only [Option.bind_some]
    rw [same_refl]
    simp only [Option.bind_some, cond_true]
    obtain ⟨c, hc, _⟩ := is_eq hs p1 p2
    rw [← is_same hs, hc]
    cases c <;> exact RB.ret rfl
  rcases find_same hs p1 with ⟨e1, e2⟩ | ⟨k, x, hm, e1, e2, e3⟩
  · rw [e1, e2]
    refine RB.bindE (x := (z_api_Role, false)) rfl ?_
    refine RB.bindE (x := (-1 : Int)) rfl ?_
    exact RB.bindE (x := false) (by kernel_rfl) tail
  · rw [e1, e2]
    have hx := hs.2.1 x hm
    have h1 : registrarref18_Same [x] [x] = some true := rsame_refl [x] (by simp) (fun y hy => by rw [List.mem_singleton] at hy; subst hy; omega)
    refine RB.bindE (x := (x, true)) rfl ?_
    refine RB.bindE (x := (k : Int)) rfl ?_
    refine RB.bindE (x := false) ?_ tail
    rw [show (decide ((k : Int) ≥ 0)) = true by simp]
    simp only [beq_self_eq_true, Bool.not_true, cond_false, cond_true, e3, h1, Option.bind_some, Bool.false_or, Bool.false_and]
end Go.Proofs.Ythndadengamanaa
