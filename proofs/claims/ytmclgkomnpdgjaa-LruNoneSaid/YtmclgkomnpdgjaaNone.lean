/- A cache that is not there, and one that no call made: the plain law of LruNone. Conditions: none. -/
import Derived.Test.YtmclgkomnpdgjaaKeeps
namespace Go.Proofs.Ytmclgkomnpdgjaa
open Go.Gv
theorem none_true (a : registrarlaw26_Act) (ha : wf_registrarlaw26_Act a) : registrarlaw26_LruNone a = some true := by
  unfold registrarlaw26_LruNone
  rw [works_eq]
  rfl
end Go.Proofs.Ytmclgkomnpdgjaa
