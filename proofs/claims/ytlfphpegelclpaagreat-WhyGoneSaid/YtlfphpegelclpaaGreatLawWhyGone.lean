/- The statement WhyGone. Conditions: none. -/
import Derived.Test.YtlfphpegelclpaaGreatRows
import Derived.Test.YtlfphpegelclpaaGreatHB
set_option maxRecDepth 100000
namespace Go.Proofs.YtlfphpegelclpaaGreat
open Go.Gv
set_option maxHeartbeats 1000000 in
theorem WhyGone_row : Rows.WhyGoneSaid := by
  refine OpenClaim.holds_of_wide 7 Tryz.f7 rfl rfl rfl rfl rfl rfl rfl ⟨rfl, rfl, rfl, rfl, rfl⟩ rfl rfl rfl rfl rfl (by kernel_rfl) Tryz.func7 (by kernel_rfl) (of_decide_eq_true (by kernel_rfl)) (by unfold Func.isWrapper; rw [if_neg (of_decide_eq_false (by kernel_rfl))]; exact ⟨rfl, rfl⟩) (fun os started H enc _ => ?_)
  refine row_lift (C := Tryz.checked) (s := Rows.whyGoneSpec) (tb := 4) (by kernel_rfl) started (by kernel_rfl) Tryz.func7 (ChangeSpec.witness6 (enc := enc) (C := Tryz.checked) false ⟨#[], #[.slice none 0 0, .agg #[(.string (⟨#[]⟩ : ByteArray)), (.string (⟨#[]⟩ : ByteArray)), (.int .i64 0)], .int .u8 0], []⟩ 8 (by kernel_rfl) (by kernel_rfl) (by kernel_rfl) (by kernel_rfl)) (by kernel_rfl) (by kernel_rfl) (by kernel_rfl) (by kernel_rfl) rfl (fun ds hds => ?_) ?_
  · match ds, hds with
    | [d0, d1, d2], _ => rfl
  intro W base args ds ps hval hA
  have hp : Tryz.f7.params.toList = [22, 25, 5] := by kernel_rfl
  rw [hp] at hA
  obtain ⟨v0, vs0, d0, ds0, p0, q0, hargs, rfl, rfl, t0, r0⟩ := ChangeShapes.trodAll_cons hA
  obtain ⟨v1, vs1, d1, ds1, p1, q1, rfl, rfl, rfl, t1, r1⟩ := ChangeShapes.trodAll_cons r0
  obtain ⟨v2, vs2, d2, ds2, p2, q2, rfl, rfl, rfl, t2, r2⟩ := ChangeShapes.trodAll_cons r1
  obtain ⟨rfl, rfl, rfl⟩ := ChangeShapes.trodAll_nil r2
  have ha : args = #[v0, v1, v2] := by cases args; simp_all
  subst ha
  obtain ⟨x0, a0, c0, rfl, f0, w0⟩ := arg_slice (e := 71) (by kernel_rfl) (opens_slice (e := 71) (by kernel_rfl) (by kernel_rfl) (by kernel_rfl) opens_law19_Act) (hval 0 22 v0 (by kernel_rfl) rfl) t0
  obtain ⟨x1, cs1, rfl, e1, w1⟩ := arg_struct (fs := P.fieldsOf 25) (by kernel_rfl) opens_law32_Asked (hval 1 25 v1 (by kernel_rfl) rfl) t1
  have e1 : cs1.toList = cs_law32_Asked x1 := e1
  have e1 := Array.toList_inj.1 (e1.trans List.toList_toArray.symm)
  subst e1
  obtain ⟨x2, rfl, w2⟩ := arg_int (k := .u8) (by kernel_rfl) (hval 2 5 v2 (by kernel_rfl) rfl) t2
  exact law32_WhyGone_ok f0 (st_start W) (wgone_ok x0 x1 x2 w0 w1 w2)
end Go.Proofs.YtlfphpegelclpaaGreat
