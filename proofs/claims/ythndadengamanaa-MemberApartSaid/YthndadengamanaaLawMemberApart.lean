/- The statement MemberApart. Conditions: none. -/
import Derived.Test.YthndadengamanaaRows
import Derived.Test.YthndadengamanaaApart
set_option maxRecDepth 100000
namespace Go.Proofs.Ythndadengamanaa
open Go.Gv
set_option maxHeartbeats 1000000 in
theorem MemberApart_row : Rows.MemberApartSaid := by
  refine OpenClaim.holds_of_wide 5 Try.f5 rfl rfl rfl rfl rfl rfl rfl ⟨rfl, rfl, rfl, rfl, rfl⟩ rfl rfl rfl rfl rfl (by kernel_rfl) Try.func5 (by kernel_rfl) (of_decide_eq_true (by kernel_rfl)) (by unfold Func.isWrapper; rw [if_neg (of_decide_eq_false (by kernel_rfl))]; exact ⟨rfl, rfl⟩) (fun os started H enc _ => ?_)
  refine row_lift (C := Try.checked) (s := Rows.memberApartSpec) (tb := 4) (by kernel_rfl) started (by kernel_rfl) Try.func5 (ChangeSpec.witness6 (enc := enc) (C := Try.checked) false ⟨#[], #[.slice none 0 0, .string ⟨#[]⟩, .string ⟨#[]⟩], []⟩ 8 (by kernel_rfl) (by kernel_rfl) (by kernel_rfl) (by kernel_rfl)) (by kernel_rfl) (by kernel_rfl) (by kernel_rfl) (by kernel_rfl) rfl (fun ds hds => ?_) ?_
  · match ds, hds with
    | [d0, d1, d2], _ => rfl
  intro W base args ds ps hval hA
  have hp : Try.f5.params.toList = [35, 9, 9] := by kernel_rfl
  rw [hp] at hA
  obtain ⟨v0, vs0, d0, ds0, p0, q0, hargs, rfl, rfl, t0, r0⟩ := ChangeShapes.trodAll_cons hA
  obtain ⟨v1, vs1, d1, ds1, p1, q1, rfl, rfl, rfl, t1, r1⟩ := ChangeShapes.trodAll_cons r0
  obtain ⟨v2, vs2, d2, ds2, p2, q2, rfl, rfl, rfl, t2, r2⟩ := ChangeShapes.trodAll_cons r1
  obtain ⟨rfl, rfl, rfl⟩ := ChangeShapes.trodAll_nil r2
  have ha : args = #[v0, v1, v2] := by cases args; simp_all
  subst ha
  obtain ⟨x0, a0, c0, rfl, f0, w0⟩ := arg_slice (e := 38) (by kernel_rfl) (opens_slice (e := 38) (by kernel_rfl) (by kernel_rfl) (by kernel_rfl) opens_registrarlaw18_Act) (hval 0 35 v0 (by kernel_rfl) rfl) t0
  obtain ⟨x1, rfl, w1⟩ := arg_str (by kernel_rfl) (hval 1 9 v1 (by kernel_rfl) rfl) t1
  obtain ⟨x2, rfl, w2⟩ := arg_str (by kernel_rfl) (hval 2 9 v2 (by kernel_rfl) rfl) t2
  exact registrarlaw18_MemberApart_ok f0 (st_start W) (apart_ok x0 x1 x2 w0 w1 w2)
end Go.Proofs.Ythndadengamanaa
