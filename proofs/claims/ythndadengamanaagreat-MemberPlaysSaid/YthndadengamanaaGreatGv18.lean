/- Loops of a known number of rounds, unrolled. Conditions: none. -/
import Derived.Test.YthndadengamanaaGreatGv17
import Derived.LoopN
namespace Go.Gv
open Go
section
variable {P : Program} {n : Nat} {Q : Exit → Act → World → Prop} {fr : Fr} {w : World}
/-- Where a round of an unrolled loop ends: k more may come. -/
def rds (P : Program) (c : Code) (Q : Exit → Act → World → Prop) (k : Nat) : Exit → Act → World → Prop := Exit.then (Code.rounds P c Q k) Q
theorem W.unroll {c : Code} (k : Nat) (h : W P n c (rds P c Q k) fr w) : W P n (.loop c) Q fr w := fun a ha => wp_loop_rounds (k + 1) (h a ha)
theorem En.again {c : Code} {k : Nat} (h : W P n c (rds P c Q k) fr w) : En n (rds P c Q (k + 1)) .normal fr w := fun a ha => h a ha
theorem En.un_exit {c : Code} {k id : Nat} (h : En n Q (.exit id) fr w) : En n (rds P c Q k) (.exit id) fr w := fun a ha => h a ha
theorem En.un_ret {c : Code} {k : Nat} (h : En n Q .ret fr w) : En n (rds P c Q k) .ret fr w := fun a ha => h a ha
end
end Go.Gv
