/- The statement MdlNone. Conditions: none. -/
import Derived.Test.YtdmefifamlpbiaaRows
import Derived.Test.YtdmefifamlpbiaaNone
set_option maxRecDepth 100000
namespace Go.Proofs.Ytdmefifamlpbiaa
open Go.Gv
set_option maxHeartbeats 1000000 in
theorem MdlNone_row : Rows.MdlNoneSaid := by
  refine OpenClaim.holds_of_wide 7 Try.f7 rfl rfl rfl rfl rfl rfl rfl ⟨rfl, rfl, rfl, rfl, rfl⟩ rfl rfl rfl rfl rfl (by kernel_rfl) Try.func7 (by kernel_rfl) (of_decide_eq_true (by kernel_rfl)) (by unfold Func.isWrapper; rw [if_neg (of_decide_eq_false (by kernel_rfl))]; exact ⟨rfl, rfl⟩) (fun os started H enc _ => ?_)
  refine row_lift (C := Try.checked) (s := Rows.mdlNoneSpec) (tb := 4) (by kernel_rfl) started (by kernel_rfl) Try.func7 (ChangeSpec.witness6 (enc := enc) (C := Try.checked) false ⟨#[], #[.agg #[(.int .i64 0), (.int .i64 0), (.int .i64 0), (.string (⟨#[]⟩ : ByteArray))]], []⟩ 8 (by kernel_rfl) (by kernel_rfl) (by kernel_rfl) (by kernel_rfl)) (by kernel_rfl) (by kernel_rfl) (by kernel_rfl) (by kernel_rfl) rfl (fun ds hds => ?_) ?_
  · match ds, hds with
    | [d0], _ => rfl
  intro W base args ds ps hval hA
  have hp : Try.f7.params.toList = [27] := by kernel_rfl
  rw [hp] at hA
  obtain ⟨v0, vs0, d0, ds0, p0, q0, hargs, rfl, rfl, t0, r0⟩ := ChangeShapes.trodAll_cons hA
  obtain ⟨rfl, rfl, rfl⟩ := ChangeShapes.trodAll_nil r0
  have ha : args = #[v0] := by cases args; simp_all
  subst ha
  obtain ⟨x0, cs0, rfl, e0, w0⟩ := arg_struct (fs := P.fieldsOf 27) (by kernel_rfl) opens_registrarlaw21_Act (hval 0 27 v0 (by kernel_rfl) rfl) t0
  have e0 : cs0.toList = cs_registrarlaw21_Act x0 := e0
  have e0 := Array.toList_inj.1 (e0.trans List.toList_toArray.symm)
  subst e0
  exact registrarlaw21_MdlNone_ok  (st_start W) (none_true x0 w0)
end Go.Proofs.Ytdmefifamlpbiaa
