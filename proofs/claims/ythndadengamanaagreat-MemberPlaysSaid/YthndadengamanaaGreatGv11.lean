/- Small words for maps' keys and raw cells. Conditions: none. -/
import Derived.Test.YthndadengamanaaGreatGv10
import Derived.Lib.Bytealg
import Derived.Laws.Externs
namespace Go.Gv
open Go
/-- A cell of which nothing is known. -/
def RRaw (_ : Mem) (cs : List Value) (x : Value) : Prop := cs = [x] ∧ x.oneCell' = true
instance : Mono RRaw := ⟨fun _ h => h, fun h v hv => by rw [h.1] at hv; simp at hv; subst hv; exact h.2⟩
theorem toList_inj {a b : ByteArray} (h : a.toList = b.toList) : a = b := by
  rw [ByteArray.toList_eq, ByteArray.toList_eq] at h
  exact ByteArray.ext (Array.toList_inj.mp h)
theorem sEq_iff {a b : ByteArray} : sEq a b = true ↔ a = b := by
  unfold sEq
  constructor
  · intro h; exact toList_inj (by simpa using h)
  · rintro rfl; simp
theorem sEq_refl (a : ByteArray) : sEq a a = true := sEq_iff.2 rfl
theorem sEq_refl' (a : ByteArray) : (a == a) = true := by
  obtain ⟨d⟩ := a
  show (d == d) = true
  simp
theorem sameBits_int (n : Nat) (k : IntKind) (a : Int) : Instr.sameBits n (.int k a) (.int k a) = true := by cases n <;> simp [Instr.sameBits]
theorem sameBits_str (n : Nat) (a : ByteArray) : Instr.sameBits n (.string a) (.string a) = true := by cases n <;> (simp only [Instr.sameBits]; exact sEq_refl' a)
theorem sameBits_bool (n : Nat) (a : Bool) : Instr.sameBits n (.bool a) (.bool a) = true := by cases n <;> simp [Instr.sameBits]
theorem sameBits_agg (n : Nat) (cs : List Value) (h : ∀ c ∈ cs, Instr.sameBits n c c = true) : Instr.sameBits (n + 1) (.agg cs.toArray) (.agg cs.toArray) = true := by
  simp only [Instr.sameBits, beq_self_eq_true, Bool.true_and, List.all_eq_true]
  intro p hp
  have : ∀ (l : List Value) (p : Value × Value), p ∈ l.zip l → p.1 = p.2 ∧ p.1 ∈ l := by
    intro l
    induction l with
    | nil => intro p hp; cases hp
    | cons a r ih =>
      intro p hp
      simp only [List.zip_cons_cons, List.mem_cons] at hp
      rcases hp with rfl | hp
      · exact ⟨rfl, by simp⟩
      · obtain ⟨h1, h2⟩ := ih p hp
        exact ⟨h1, by simp [h2]⟩
  obtain ⟨h1, h2⟩ := this _ p hp
  obtain ⟨x, y⟩ := p
  simp only at h1 h2 ⊢
  subst h1
  exact h x h2
/-- How two strings stand. -/
def cmpS (a b : ByteArray) : Int := Lib.compareBytes a.data.toList b.data.toList
section
variable {P : Program} {n : Nat} {K : World → Prop} {qt : Op → Bool} {z : Nat} {ops : Array Oper} {Q : Exit → Act → World → Prop} {fr : Fr} {w : World} {l : List Nat} {i : Nat}
variable {dst : Option Tmp} {ty : TypeId} {pos : String} {after : Array Edge} {guard : Option (Nat × Bool)}
/-- A call of a function without a Go body, whose entry asks nothing of the world. -/
theorem WO.extern {f : FuncId} {fn : Func} {as : Array Operand} {ats : Array TypeId} (ho : ops[i]? = some ⟨dst, .call ⟨.value (.func f), as, ats⟩, ty, pos, after, guard⟩) (hok : okAt n ops fr ⟨dst, .call ⟨.value (.func f), as, ats⟩, ty, pos, after, guard⟩ = true)
    {e : Array Value → Sem Value} (hf : P.funcs[f]? = some fn) (hname : (fn.name == "runtime.NumGoroutine") = false) (hb : fn.body.isNone = true) (hn : Extern.findNext fn = none) (he : Extern.find fn = some e)
    {args : Array Value} (ha : as.map (ev fr) = args) (v : Value) (hv : ∀ w', Kx K (qt (.call ⟨.value (.func f), as, ats⟩)) w w' → (e args).run P w' = .ok v w') (h : WO P n K qt z ops Q l (pt fr dst v) w) : WO P n K qt z ops Q (i :: l) fr w := by
  refine WO.val ho hok v (fun w' hw' => ?_) h
  simp only [execOp, resolve, ev, ha, Deferred.ofValue]
  rw [run_bind (a := ({ target := .fn (.func f) #[], args := args } : Deferred)) (w' := w') (by simp [pure])]
  simp only [invoke]
  rw [Array.append_empty, run_callFunc_extern hf hname hb hn he, hv w' hw']
  rfl
theorem WO.cmpstring {f : FuncId} {fn : Func} {as : Array Operand} {ats : Array TypeId} (ho : ops[i]? = some ⟨dst, .call ⟨.value (.func f), as, ats⟩, ty, pos, after, guard⟩) (hok : okAt n ops fr ⟨dst, .call ⟨.value (.func f), as, ats⟩, ty, pos, after, guard⟩ = true)
    (hf : P.funcs[f]? = some fn) (hname : (fn.name == "runtime.NumGoroutine") = false) (hb : fn.body.isNone = true) (hn : Extern.findNext fn = none) (he : Extern.find fn = some Extern.BytealgCompare.compare)
    {a b : ByteArray} (ha : as.map (ev fr) = #[.string a, .string b]) (h : WO P n K qt z ops Q l (pt fr dst (.int .i64 (cmpS a b))) w) : WO P n K qt z ops Q (i :: l) fr w :=
  WO.extern ho hok hf hname hb hn he ha _ (fun w' _ => Lib.run_compareString a b w') h
end
/-- What a computation that may call itself comes to, with as much room as it needs. -/
noncomputable def anyFuel {α : Type} (f : Nat → Option α) : Option α := by
  classical
  exact if h : ∃ n r, f n = some r then some h.choose_spec.choose else none
theorem anyFuel_some {α : Type} {f : Nat → Option α} {r : α} (h : anyFuel f = some r) : ∃ n, f n = some r := by
  classical
  unfold anyFuel at h
  split at h
  · rename_i hh
    injection h with h
    subst h
    exact ⟨_, hh.choose_spec.choose_spec⟩
  · cases h
theorem anyFuel_of {α : Type} {f : Nat → Option α} {r : α} (h1 : ∃ n r', f n = some r') (h2 : ∀ n r', f n = some r' → r' = r) : anyFuel f = some r := by
  classical
  unfold anyFuel
  rw [dif_pos h1, h2 _ _ h1.choose_spec.choose_spec]
end Go.Gv
