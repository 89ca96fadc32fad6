/- What arguments say. Conditions: none. -/
import Derived.Test.YtfabocipcjnfnaaF4
set_option maxRecDepth 100000
namespace Go.Proofs.Ytfabocipcjnfnaa
open Go.Gv
def wf_api_Need (x : api_Need) : Prop := (fun s => s.size ≤ maxLen) x.Path ∧ (fun n => IntKind.min .i64 ≤ n ∧ n ≤ IntKind.max .i64) x.Mode
theorem opens_api_Need : Opens P 28 R_api_Need wf_api_Need := by
  intro H enc w fuel cs x h
  obtain ⟨x0, h0, w0⟩ := opens_field (by kernel_rfl) h 0 (ft := 9) (off := 0) (sz := 1) (by kernel_rfl) (opens_str (by kernel_rfl))
  have e0 := h0
  obtain ⟨x1, h1, w1⟩ := opens_field (by kernel_rfl) h 1 (ft := 3) (off := 1) (sz := 1) (by kernel_rfl) (opens_int (by kernel_rfl))
  have e1 := h1
  exact ⟨⟨x0, x1⟩, (cut e0 (cut e1 (opens_len (by kernel_rfl) h (n := 2) (by kernel_rfl)))), ⟨w0, w1⟩⟩
end Go.Proofs.Ytfabocipcjnfnaa
