/- The statement ChainNone. Conditions: none. -/
import Derived.Test.YtpgmbifboopfmaaRows
import Derived.Test.YtpgmbifboopfmaaHA
set_option maxRecDepth 100000
namespace Go.Proofs.Ytpgmbifboopfmaa
open Go.Gv
set_option maxHeartbeats 1000000 in
theorem ChainNone_row : Rows.ChainNoneSaid := by
  refine OpenClaim.holds_of_wide 3 Try.f3 rfl rfl rfl rfl rfl rfl rfl ⟨rfl, rfl, rfl, rfl, rfl⟩ rfl rfl rfl rfl rfl (by kernel_rfl) Try.func3 (by kernel_rfl) (of_decide_eq_true (by kernel_rfl)) (by unfold Func.isWrapper; rw [if_neg (of_decide_eq_false (by kernel_rfl))]; exact ⟨rfl, rfl⟩) (fun os started H enc _ => ?_)
  refine row_lift (C := Try.checked) (s := Rows.chainNoneSpec) (tb := 4) (by kernel_rfl) started (by kernel_rfl) Try.func3 (ChangeSpec.witness6 (enc := enc) (C := Try.checked) false ⟨#[], #[.int .i64 0, .int .i64 0], []⟩ 8 (by kernel_rfl) (by kernel_rfl) (by kernel_rfl) (by kernel_rfl)) (by kernel_rfl) (by kernel_rfl) (by kernel_rfl) (by kernel_rfl) rfl (fun ds hds => ?_) ?_
  · match ds, hds with
    | [d0, d1], _ => rfl
  intro W base args ds ps hval hA
  have hp : Try.f3.params.toList = [3, 3] := by kernel_rfl
  rw [hp] at hA
  obtain ⟨v0, vs0, d0, ds0, p0, q0, hargs, rfl, rfl, t0, r0⟩ := ChangeShapes.trodAll_cons hA
  obtain ⟨v1, vs1, d1, ds1, p1, q1, rfl, rfl, rfl, t1, r1⟩ := ChangeShapes.trodAll_cons r0
  obtain ⟨rfl, rfl, rfl⟩ := ChangeShapes.trodAll_nil r1
  have ha : args = #[v0, v1] := by cases args; simp_all
  subst ha
  obtain ⟨x0, rfl, w0⟩ := arg_int (k := .i64) (by kernel_rfl) (hval 0 3 v0 (by kernel_rfl) rfl) t0
  obtain ⟨x1, rfl, w1⟩ := arg_int (k := .i64) (by kernel_rfl) (hval 1 3 v1 (by kernel_rfl) rfl) t1
  exact law22_ChainNone_ok  (st_start W) (none_ok x0 x1 w0 w1)
end Go.Proofs.Ytpgmbifboopfmaa
