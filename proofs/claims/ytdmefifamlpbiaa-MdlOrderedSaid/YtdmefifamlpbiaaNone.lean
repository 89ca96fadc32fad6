/- Locks that are not there: the plain law of MdlNone. Conditions: none. -/
import Derived.Test.YtdmefifamlpbiaaGoes
namespace Go.Proofs.Ytdmefifamlpbiaa
open Go.Gv
theorem none_true (a : registrarlaw21_Act) (ha : wf_registrarlaw21_Act a) : registrarlaw21_MdlNone a = some true := by
  unfold registrarlaw21_MdlNone
  rw [works_eq]
  rfl
end Go.Proofs.Ytdmefifamlpbiaa
