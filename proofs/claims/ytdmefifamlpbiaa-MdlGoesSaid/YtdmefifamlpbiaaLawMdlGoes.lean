/- The statement MdlGoes. Conditions: none. -/
import Derived.Test.YtdmefifamlpbiaaRows
import Derived.Test.YtdmefifamlpbiaaNone
set_option maxRecDepth 100000
namespace Go.Proofs.Ytdmefifamlpbiaa
open Go.Gv
set_option maxHeartbeats 1000000 in
theorem MdlGoes_row : Rows.MdlGoesSaid := by
  refine OpenClaim.holds_of_wide 4 Try.f4 rfl rfl rfl rfl rfl rfl rfl ⟨rfl, rfl, rfl, rfl, rfl⟩ rfl rfl rfl rfl rfl (by kernel_rfl) Try.func4 (by kernel_rfl) (of_decide_eq_true (by kernel_rfl)) (by unfold Func.isWrapper; rw [if_neg (of_decide_eq_false (by kernel_rfl))]; exact ⟨rfl, rfl⟩) (fun os started H enc _ => ?_)
  refine row_lift (C := Try.checked) (s := Rows.mdlGoesSpec) (tb := 4) (by kernel_rfl) started (by kernel_rfl) Try.func4 (ChangeSpec.witness6 (enc := enc) (C := Try.checked) false ⟨#[], #[.slice none 0 0, .int .i64 0, .int .i64 0], []⟩ 8 (by kernel_rfl) (by kernel_rfl) (by kernel_rfl) (by kernel_rfl)) (by kernel_rfl) (by kernel_rfl) (by kernel_rfl) (by kernel_rfl) rfl (fun ds hds => ?_) ?_
  · match ds, hds with
    | [d0, d1, d2], _ => rfl
  intro W base args ds ps hval hA
  have hp : Try.f4.params.toList = [22, 3, 3] := by kernel_rfl
  rw [hp] at hA
  obtain ⟨v0, vs0, d0, ds0, p0, q0, hargs, rfl, rfl, t0, r0⟩ := ChangeShapes.trodAll_cons hA
  obtain ⟨v1, vs1, d1, ds1, p1, q1, rfl, rfl, rfl, t1, r1⟩ := ChangeShapes.trodAll_cons r0
  obtain ⟨v2, vs2, d2, ds2, p2, q2, rfl, rfl, rfl, t2, r2⟩ := ChangeShapes.trodAll_cons r1
  obtain ⟨rfl, rfl, rfl⟩ := ChangeShapes.trodAll_nil r2
  have ha : args = #[v0, v1, v2] := by cases args; simp_all
  subst ha
  obtain ⟨x0, a0, c0, rfl, f0, w0⟩ := arg_slice (e := 27) (by kernel_rfl) (opens_slice (e := 27) (by kernel_rfl) (by kernel_rfl) (by kernel_rfl) opens_registrarlaw21_Act) (hval 0 22 v0 (by kernel_rfl) rfl) t0
  obtain ⟨x1, rfl, w1⟩ := arg_int (k := .i64) (by kernel_rfl) (hval 1 3 v1 (by kernel_rfl) rfl) t1
  obtain ⟨x2, rfl, w2⟩ := arg_int (k := .i64) (by kernel_rfl) (hval 2 3 v2 (by kernel_rfl) rfl) t2
  exact registrarlaw21_MdlGoes_ok f0 (st_start W) (goes_true x0 x1 x2 w0 w1 w2)
end Go.Proofs.Ytdmefifamlpbiaa
