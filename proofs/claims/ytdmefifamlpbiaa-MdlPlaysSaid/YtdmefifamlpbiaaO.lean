/- What arguments say. Conditions: none. -/
import Derived.Test.YtdmefifamlpbiaaF7
set_option maxRecDepth 100000
namespace Go.Proofs.Ytdmefifamlpbiaa
open Go.Gv
def wf_registrarlaw21_Act (x : registrarlaw21_Act) : Prop := (fun n => IntKind.min .i64 ≤ n ∧ n ≤ IntKind.max .i64) x.Do ∧ (fun n => IntKind.min .i64 ≤ n ∧ n ≤ IntKind.max .i64) x.Who ∧ (fun n => IntKind.min .i64 ≤ n ∧ n ≤ IntKind.max .i64) x.Mode ∧ (fun s => s.size ≤ maxLen) x.Path
theorem opens_registrarlaw21_Act : Opens P 27 R_registrarlaw21_Act wf_registrarlaw21_Act := by
  intro H enc w fuel cs x h
  obtain ⟨x0, h0, w0⟩ := opens_field (by kernel_rfl) h 0 (ft := 3) (off := 0) (sz := 1) (by kernel_rfl) (opens_int (by kernel_rfl))
  have e0 := h0
  obtain ⟨x1, h1, w1⟩ := opens_field (by kernel_rfl) h 1 (ft := 3) (off := 1) (sz := 1) (by kernel_rfl) (opens_int (by kernel_rfl))
  have e1 := h1
  obtain ⟨x2, h2, w2⟩ := opens_field (by kernel_rfl) h 2 (ft := 3) (off := 2) (sz := 1) (by kernel_rfl) (opens_int (by kernel_rfl))
  have e2 := h2
  obtain ⟨x3, h3, w3⟩ := opens_field (by kernel_rfl) h 3 (ft := 9) (off := 3) (sz := 1) (by kernel_rfl) (opens_str (by kernel_rfl))
  have e3 := h3
  exact ⟨⟨x0, x1, x2, x3⟩, (cut e0 (cut e1 (cut e2 (cut e3 (opens_len (by kernel_rfl) h (n := 4) (by kernel_rfl)))))), ⟨w0, w1, w2, w3⟩⟩
end Go.Proofs.Ytdmefifamlpbiaa
