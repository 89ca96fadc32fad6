/- The statement ChainKeeps. Conditions: none. -/
import Derived.Test.YtpgmbifboopfmaaGreatRows
import Derived.Test.YtpgmbifboopfmaaGreatHB
set_option maxRecDepth 100000
namespace Go.Proofs.YtpgmbifboopfmaaGreat
open Go.Gv
set_option maxHeartbeats 1000000 in
theorem ChainKeeps_row : Rows.ChainKeepsSaid := by
  refine OpenClaim.holds_of_wide 5 Tryz.f5 rfl rfl rfl rfl rfl rfl rfl ⟨rfl, rfl, rfl, rfl, rfl⟩ rfl rfl rfl rfl rfl (by kernel_rfl) Tryz.func5 (by kernel_rfl) (of_decide_eq_true (by kernel_rfl)) (by unfold Func.isWrapper; rw [if_neg (of_decide_eq_false (by kernel_rfl))]; exact ⟨rfl, rfl⟩) (fun os started H enc _ => ?_)
  refine row_lift (C := Tryz.checked) (s := Rows.chainKeepsSpec) (tb := 4) (by kernel_rfl) started (by kernel_rfl) Tryz.func5 (ChangeSpec.witness6 (enc := enc) (C := Tryz.checked) false ⟨#[], #[.slice none 0 0, .int .i64 0], []⟩ 8 (by kernel_rfl) (by kernel_rfl) (by kernel_rfl) (by kernel_rfl)) (by kernel_rfl) (by kernel_rfl) (by kernel_rfl) (by kernel_rfl) rfl (fun ds hds => ?_) ?_
  · match ds, hds with
    | [d0, d1], _ => rfl
  intro W base args ds ps hval hA
  have hp : Tryz.f5.params.toList = [22, 3] := by kernel_rfl
  rw [hp] at hA
  obtain ⟨v0, vs0, d0, ds0, p0, q0, hargs, rfl, rfl, t0, r0⟩ := ChangeShapes.trodAll_cons hA
  obtain ⟨v1, vs1, d1, ds1, p1, q1, rfl, rfl, rfl, t1, r1⟩ := ChangeShapes.trodAll_cons r0
  obtain ⟨rfl, rfl, rfl⟩ := ChangeShapes.trodAll_nil r1
  have ha : args = #[v0, v1] := by cases args; simp_all
  subst ha
  obtain ⟨x0, a0, c0, rfl, f0, w0⟩ := arg_slice (e := 50) (by kernel_rfl) (opens_slice (e := 50) (by kernel_rfl) (by kernel_rfl) (by kernel_rfl) opens_law22_Act) (hval 0 22 v0 (by kernel_rfl) rfl) t0
  obtain ⟨x1, rfl, w1⟩ := arg_int (k := .i64) (by kernel_rfl) (hval 1 3 v1 (by kernel_rfl) rfl) t1
  exact law22_ChainKeeps_ok f0 (st_start W) (keeps_ok x0 x1 w0 w1)
end Go.Proofs.YtpgmbifboopfmaaGreat
