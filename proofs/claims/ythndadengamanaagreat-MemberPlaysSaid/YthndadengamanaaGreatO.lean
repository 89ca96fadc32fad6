/- What arguments say. Conditions: none. -/
import Derived.Test.YthndadengamanaaGreatF4
set_option maxRecDepth 100000
namespace Go.Proofs.YthndadengamanaaGreat
open Go.Gv
def wf_api_Role (x : api_Role) : Prop := (fun s => s.size ≤ maxLen) x.Name ∧ (fun xs => xs.length ≤ maxLen ∧ ∀ x ∈ xs, (fun s => s.size ≤ maxLen) x) x.In
theorem opens_api_Role : Opens P 28 R_api_Role wf_api_Role := by
  intro H enc w fuel cs x h
  obtain ⟨x0, h0, w0⟩ := opens_field (by kernel_rfl) h 0 (ft := 9) (off := 0) (sz := 1) (by kernel_rfl) (opens_str (by kernel_rfl))
  have e0 := h0
  obtain ⟨x1, h1, w1⟩ := opens_field (by kernel_rfl) h 1 (ft := 26) (off := 1) (sz := 1) (by kernel_rfl) (opens_slice (e := 9) (by kernel_rfl) (by kernel_rfl) (by kernel_rfl) (opens_str (by kernel_rfl)))
  obtain ⟨a1, c1, e1, f1⟩ := h1
  exact ⟨⟨x0, x1⟩, ⟨⟨⟨a1, c1⟩⟩, (cut e0 (cut e1 (opens_len (by kernel_rfl) h (n := 2) (by kernel_rfl)))), ⟨f1⟩⟩, ⟨w0, w1⟩⟩
def wf_registrarlaw18_Act (x : registrarlaw18_Act) : Prop := (fun n => IntKind.min .i64 ≤ n ∧ n ≤ IntKind.max .i64) x.Do ∧ (fun s => s.size ≤ maxLen) x.Name ∧ (fun s => s.size ≤ maxLen) x.Role
theorem opens_registrarlaw18_Act : Opens P 31 R_registrarlaw18_Act wf_registrarlaw18_Act := by
  intro H enc w fuel cs x h
  obtain ⟨x0, h0, w0⟩ := opens_field (by kernel_rfl) h 0 (ft := 3) (off := 0) (sz := 1) (by kernel_rfl) (opens_int (by kernel_rfl))
  have e0 := h0
  obtain ⟨x1, h1, w1⟩ := opens_field (by kernel_rfl) h 1 (ft := 9) (off := 1) (sz := 1) (by kernel_rfl) (opens_str (by kernel_rfl))
  have e1 := h1
  obtain ⟨x2, h2, w2⟩ := opens_field (by kernel_rfl) h 2 (ft := 9) (off := 2) (sz := 1) (by kernel_rfl) (opens_str (by kernel_rfl))
  have e2 := h2
  exact ⟨⟨x0, x1, x2⟩, (cut e0 (cut e1 (cut e2 (opens_len (by kernel_rfl) h (n := 3) (by kernel_rfl))))), ⟨w0, w1, w2⟩⟩
end Go.Proofs.YthndadengamanaaGreat
