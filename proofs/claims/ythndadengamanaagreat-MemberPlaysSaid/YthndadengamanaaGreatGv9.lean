/- Equality of structs; struct keys. Conditions: none. -/
import Derived.Test.YthndadengamanaaGreatGv8
import Derived.Laws.StructEq
import Derived.Laws.Cover3
namespace Go.Gv
open Go
def partV (P : Program) (t : TypeId) (cs : Array Value) (off : Nat) : Option Value :=
  match aggOf P t, sizeIs P t with
  | some true, some n => some (.agg (cs.extract off (off + n)))
  | some false, _ => cs[off]?
  | _, _ => none
def eqFs (P : Program) (eq : TypeId → Value → Value → Option Bool) : List Field → Array Value → Array Value → Option Bool
  | [], _, _ => some true
  | f :: r, xs, ys => if f.name == "_" then eqFs P eq r xs ys else
    match partV P f.type xs f.offset, partV P f.type ys f.offset with
    | some a, some b => (eq f.type a b).bind fun e => (eqFs P eq r xs ys).map fun s => e && s
    | _, _ => none
def eqV (P : Program) : Nat → TypeId → Value → Value → Option Bool
  | 0, _, _, _ => none
  | d + 1, t, x, y =>
    match x, y with
    | .int k a, .int k' b => match P.underlying t with
      | some (.int _) => if k = k' then some (a == b) else none
      | _ => none
    | .string a, .string b => match P.underlying t with
      | some .string => some (sEq a b)
      | _ => none
    | .bool a, .bool b => match P.underlying t with
      | some .bool => some (a == b)
      | _ => none
    | .agg xs, .agg ys => match P.underlying t with
      | some (.struct fs) => if P.stoodInHeld t then none else eqFs P (eqV P d) fs.toList xs ys
      | _ => none
    | _, _ => none
section
variable {P : Program} {w : World}
theorem run_part {t : TypeId} {cs : Array Value} {off : Nat} {v : Value} (h : partV P t cs off = some v) : (part t cs off).run P w = .ok v w := by
  unfold partV at h
  split at h
  · rename_i n ha hn
    injection h with h
    subst h
    unfold part
    rw [run_bind (run_isAgg ha)]
    simp only [if_true]
    rw [run_bind (run_sizeOf hn)]
    rfl
  · rename_i ha
    unfold part
    rw [run_bind (run_isAgg ha)]
    simp [h]
  · cases h
theorem eqV_run : ∀ (d : Nat), (∀ (t : TypeId) (x y : Value) (b : Bool), eqV P d t x y = some b → ∀ D, d ≤ D → (Op.equalIn D t x y).run P w = .ok b w)
  | 0 => fun t x y b h => by simp [eqV] at h
  | d + 1 => by
    have ih := eqV_run d
    have ihf : ∀ (fs : List Field) (xs ys : Array Value) (b : Bool), eqFs P (eqV P d) fs xs ys = some b → ∀ D, d ≤ D → (Op.eqFields D xs ys fs).run P w = .ok b w := by
      intro fs
      induction fs with
      | nil => intro xs ys b h D _; simp [eqFs] at h; subst h; simp [Op.eqFields]
      | cons f r ihr =>
        intro xs ys b h D hD
        rw [eqFs] at h
        by_cases hn : (f.name == "_") = true
        · rw [if_pos hn] at h
          have hn' : ¬ (f.name ≠ "_") := by simpa using hn
          rw [Op.eqFields, if_neg hn']
          exact ihr xs ys b h D hD
        · rw [if_neg hn] at h
          have hn' : f.name ≠ "_" := by simpa using hn
          cases ha : partV P f.type xs f.offset with
          | none => simp [ha] at h
          | some a =>
            cases hb : partV P f.type ys f.offset with
            | none => simp [ha, hb] at h
            | some c =>
              simp only [ha, hb] at h
              obtain ⟨e, he, h2⟩ := bind_some h
              cases hs : eqFs P (eqV P d) r xs ys with
              | none => simp [hs] at h2
              | some s =>
                simp [hs] at h2
                subst h2
                rw [Op.eqFields]
                simp only [if_pos hn', Sem.run_bind, run_part ha, run_part hb, ih _ _ _ _ he D hD, Result.andThen_ok]
                cases e
                · simp
                · simpa using ihr xs ys s hs D hD
    intro t x y b h D hD
    obtain ⟨D, rfl⟩ : ∃ k, D = k + 1 := ⟨D - 1, by omega⟩
    cases x with
    | int k a =>
      cases y with
      | int k' a' =>
        simp only [eqV] at h
        split at h
        · rename_i k1 hu
          split at h
          · rename_i hk
            subst hk
            injection h with h
            subst h
            exact run_equalIn_int _ D t _ k1 _ _ hu
          · cases h
        · cases h
      | _ => simp [eqV] at h
    | string a =>
      cases y with
      | string a' =>
        simp only [eqV] at h
        split at h
        · rename_i hu
          injection h with h
          subst h
          exact run_equalIn_string _ D t _ _ hu
        · cases h
      | _ => simp [eqV] at h
    | bool a =>
      cases y with
      | bool a' =>
        simp only [eqV] at h
        split at h
        · rename_i hu
          injection h with h
          subst h
          exact run_equalIn_bool' _ D t _ _ hu
        · cases h
      | _ => simp [eqV] at h
    | agg xs =>
      cases y with
      | agg ys =>
        simp only [eqV] at h
        split at h
        · rename_i fs hu
          split at h
          · cases h
          · rename_i hp
            have hf : P.fieldsOf t = fs := by simp [Program.fieldsOf, hu]
            rw [run_equalIn_struct (P := P) w D t _ _ (by rw [hf]; exact hu) (by simpa using hp), hf]
            exact ihf _ _ _ b h D (by omega)
        · cases h
      | _ => simp [eqV] at h
    | _ => cases y <;> simp [eqV] at h
variable {n : Nat} {K : World → Prop} {qt : Op → Bool} {z : Nat} {ops : Array Oper} {Q : Exit → Act → World → Prop} {fr : Fr} {l : List Nat} {i : Nat}
  {dst : Option Tmp} {ty : TypeId} {pos : String} {after : Array Edge} {guard : Option (Nat × Bool)}
/-- '==' and '!=' of structs. -/
theorem WO.eqStruct {op : BinOp} {t t' : TypeId} {x y : Operand} (ho : ops[i]? = some ⟨dst, .binOp op t x y t', ty, pos, after, guard⟩) (hok : okAt n ops fr ⟨dst, .binOp op t x y t', ty, pos, after, guard⟩ = true)
    {xs ys : Array Value} (hx : ev fr x = .agg xs) (hy : ev fr y = .agg ys) (hg : P.eqGuardType P.depth t = false) (d : Nat) (hd : Nat.ble d 10000 = true) {b : Bool} (hb : eqV P d t (.agg xs) (.agg ys) = some b)
    (r : Bool) (hop : op = .eql ∧ r = b ∨ op = .neq ∧ r = !b) (h : WO P n K qt z ops Q l (pt fr dst (.bool r)) w) : WO P n K qt z ops Q (i :: l) fr w := by
  refine WO.val' ho hok _ (fun w' => ?_) h
  have he : (Op.equal t (.agg xs) (.agg ys)).run P w' = .ok b w' := eqV_run d t _ _ b hb 10000 (Nat.le_of_ble_eq_true hd)
  have hgu : ∀ o : BinOp, (eqGuard o t x y (.agg xs) (.agg ys)).run P w' = .ok () w' := by
    intro o
    unfold eqGuard
    by_cases hc : (o matches .eql | .neq) = true
    · simp [hg]
    · cases o <;> simp_all
  rcases hop with ⟨rfl, rfl⟩ | ⟨rfl, rfl⟩
  · simp only [execOp, hx, hy]
    rw [run_bind (a := Value.bool r) (w' := w') (by
      rw [run_bind (hgu _)]
      simp only [binOp]
      rw [run_bind he]
      rfl)]
    rfl
  · simp only [execOp, hx, hy]
    rw [run_bind (a := Value.bool (!b)) (w' := w') (by
      rw [run_bind (hgu _)]
      simp only [binOp]
      rw [run_bind he]
      rfl)]
    rfl
/-- A slice held against nil. -/
theorem WO.eqNil {t t' : TypeId} {x y : Operand} (ho : ops[i]? = some ⟨dst, .binOp .eql t x y t', ty, pos, after, guard⟩) (hok : okAt n ops fr ⟨dst, .binOp .eql t x y t', ty, pos, after, guard⟩ = true)
    {e : Nat} (ht : sliceOf P t = some e) {a : Option Addr} {len cap : Nat} (hx : ev fr x = .slice a len cap) (hy : ev fr y = .slice none 0 0) (h : WO P n K qt z ops Q l (pt fr dst (.bool a.isNone)) w) : WO P n K qt z ops Q (i :: l) fr w := by
  refine WO.val' ho hok _ (fun w' => ?_) h
  simp only [execOp, hx, hy]
  rw [run_bind (a := Value.bool a.isNone) (w' := w') (by
    have hg : (eqGuard .eql t x y (.slice a len cap) (.slice none 0 0)).run P w' = .ok () w' := by simp [eqGuard]
    rw [run_bind hg]
    have he : (Op.equal t (.slice a len cap) (.slice none 0 0)).run P w' = .ok a.isNone w' := by
      exact run_equal_slice_nil w' t e a len cap (sliceOf_eq ht)
    simp only [binOp]
    rw [run_bind he]
    rfl)]
  rfl
end
end Go.Gv
