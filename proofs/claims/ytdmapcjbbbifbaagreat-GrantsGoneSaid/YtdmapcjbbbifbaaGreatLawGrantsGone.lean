/- The statement GrantsGone. Conditions: none. -/
import Derived.Test.YtdmapcjbbbifbaaGreatRows
import Derived.Test.YtdmapcjbbbifbaaGreatHB
set_option maxRecDepth 100000
namespace Go.Proofs.YtdmapcjbbbifbaaGreat
open Go.Gv
set_option maxHeartbeats 1000000 in
theorem GrantsGone_row : Rows.GrantsGoneSaid := by
  refine OpenClaim.holds_of_wide 6 Tryz.f6 rfl rfl rfl rfl rfl rfl rfl ⟨rfl, rfl, rfl, rfl, rfl⟩ rfl rfl rfl rfl rfl (by kernel_rfl) Tryz.func6 (by kernel_rfl) (of_decide_eq_true (by kernel_rfl)) (by unfold Func.isWrapper; rw [if_neg (of_decide_eq_false (by kernel_rfl))]; exact ⟨rfl, rfl⟩) (fun os started H enc _ => ?_)
  refine row_lift (C := Tryz.checked) (s := Rows.grantsGoneSpec) (tb := 4) (by kernel_rfl) started (by kernel_rfl) Tryz.func6 (ChangeSpec.witness6 (enc := enc) (C := Tryz.checked) false ⟨#[], #[.slice none 0 0, .agg #[(.int .i64 0), (.string (⟨#[]⟩ : ByteArray)), (.string (⟨#[]⟩ : ByteArray)), (.string (⟨#[]⟩ : ByteArray)), (.slice none 0 0), (.slice none 0 0), (.slice none 0 0), (.slice none 0 0), (.int .i64 0), (.int .i64 0), (.int .i64 0), (.int .i64 0), (.string (⟨#[]⟩ : ByteArray)), (.string (⟨#[]⟩ : ByteArray)), (.slice none 0 0), (.slice none 0 0), (.slice none 0 0), (.int .i64 0), (.int .i64 0), (.bool false), (.slice none 0 0), (.string (⟨#[]⟩ : ByteArray))]], []⟩ 8 (by kernel_rfl) (by kernel_rfl) (by kernel_rfl) (by kernel_rfl)) (by kernel_rfl) (by kernel_rfl) (by kernel_rfl) (by kernel_rfl) rfl (fun ds hds => ?_) ?_
  · match ds, hds with
    | [d0, d1], _ => rfl
  intro W base args ds ps hval hA
  have hp : Tryz.f6.params.toList = [22, 46] := by kernel_rfl
  rw [hp] at hA
  obtain ⟨v0, vs0, d0, ds0, p0, q0, hargs, rfl, rfl, t0, r0⟩ := ChangeShapes.trodAll_cons hA
  obtain ⟨v1, vs1, d1, ds1, p1, q1, rfl, rfl, rfl, t1, r1⟩ := ChangeShapes.trodAll_cons r0
  obtain ⟨rfl, rfl, rfl⟩ := ChangeShapes.trodAll_nil r1
  have ha : args = #[v0, v1] := by cases args; simp_all
  subst ha
  obtain ⟨x0, a0, c0, rfl, f0, w0⟩ := arg_slice (e := 46) (by kernel_rfl) (opens_slice (e := 46) (by kernel_rfl) (by kernel_rfl) (by kernel_rfl) opens_law19_Act) (hval 0 22 v0 (by kernel_rfl) rfl) t0
  obtain ⟨x1, cs1, rfl, e1, w1⟩ := arg_struct (fs := P.fieldsOf 46) (by kernel_rfl) opens_law19_Act (hval 1 46 v1 (by kernel_rfl) rfl) t1
  obtain ⟨v1, e1, f1⟩ := e1
  have e1 := Array.toList_inj.1 (e1.trans List.toList_toArray.symm)
  subst e1
  exact law19_GrantsGone_ok f0 f1 (st_start W) (gone_ok x0 x1 w0 w1)
end Go.Proofs.YtdmapcjbbbifbaaGreat
