/- Locks: nobody who waits is passed by. Conditions: none. -/
import Derived.Test.YtdmefifamlpbiaaMode
namespace Go.Proofs.Ytdmefifamlpbiaa
open Go.Gv
theorem getElem_pre {α : Type} {D S F : List α} {x : α} (h : F = D ++ x :: S) : F[D.length]? = some x := by
  rw [h, List.getElem?_append_right (Nat.le_refl _), Nat.sub_self]
  rfl
theorem long_eq (a : registrarlaw21_Act) : registrarlaw21_long a = some (decide ((a.Path.size : Int) > 100)) := rfl
end Go.Proofs.Ytdmefifamlpbiaa
