/- The statement WhyMembers. Conditions: none. -/
import Derived.Test.YtlfphpegelclpaaGreatRows
import Derived.Test.YtlfphpegelclpaaGreatHA
set_option maxRecDepth 100000
namespace Go.Proofs.YtlfphpegelclpaaGreat
open Go.Gv
set_option maxHeartbeats 1000000 in
theorem WhyMembers_row : Rows.WhyMembersSaid := by
  refine OpenClaim.holds_of_wide 5 Tryz.f5 rfl rfl rfl rfl rfl rfl rfl ⟨rfl, rfl, rfl, rfl, rfl⟩ rfl rfl rfl rfl rfl (by kernel_rfl) Tryz.func5 (by kernel_rfl) (of_decide_eq_true (by kernel_rfl)) (by unfold Func.isWrapper; rw [if_neg (of_decide_eq_false (by kernel_rfl))]; exact ⟨rfl, rfl⟩) (fun os started H enc _ => ?_)
  refine row_lift (C := Tryz.checked) (s := Rows.whyMembersSpec) (tb := 4) (by kernel_rfl) started (by kernel_rfl) Tryz.func5 (ChangeSpec.witness6 (enc := enc) (C := Tryz.checked) false ⟨#[], #[.slice none 0 0, .slice none 0 0], []⟩ 8 (by kernel_rfl) (by kernel_rfl) (by kernel_rfl) (by kernel_rfl)) (by kernel_rfl) (by kernel_rfl) (by kernel_rfl) (by kernel_rfl) rfl (fun ds hds => ?_) ?_
  · match ds, hds with
    | [d0, d1], _ => rfl
  intro W base args ds ps hval hA
  have hp : Tryz.f5.params.toList = [31, 41] := by kernel_rfl
  rw [hp] at hA
  obtain ⟨v0, vs0, d0, ds0, p0, q0, hargs, rfl, rfl, t0, r0⟩ := ChangeShapes.trodAll_cons hA
  obtain ⟨v1, vs1, d1, ds1, p1, q1, rfl, rfl, rfl, t1, r1⟩ := ChangeShapes.trodAll_cons r0
  obtain ⟨rfl, rfl, rfl⟩ := ChangeShapes.trodAll_nil r1
  have ha : args = #[v0, v1] := by cases args; simp_all
  subst ha
  obtain ⟨x0, a0, c0, rfl, f0, w0⟩ := arg_slice (e := 74) (by kernel_rfl) (opens_slice (e := 74) (by kernel_rfl) (by kernel_rfl) (by kernel_rfl) opens_qJ) (hval 0 31 v0 (by kernel_rfl) rfl) t0
  obtain ⟨x1, a1, c1, rfl, f1, w1⟩ := arg_slice (e := 9) (by kernel_rfl) (opens_slice (e := 9) (by kernel_rfl) (by kernel_rfl) (by kernel_rfl) (opens_str (by kernel_rfl))) (hval 1 41 v1 (by kernel_rfl) rfl) t1
  exact law32_WhyMembers_ok f0 f1 (st_start W) (members_ok x0 x1 w0 w1)
end Go.Proofs.YtlfphpegelclpaaGreat
