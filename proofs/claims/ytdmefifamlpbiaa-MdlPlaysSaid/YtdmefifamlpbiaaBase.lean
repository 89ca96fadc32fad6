/- Locks: what the functions come to. Conditions: none. -/
import Derived.Test.YtdmefifamlpbiaaO
namespace Go.Proofs.Ytdmefifamlpbiaa
open Go.Gv
abbrev One := mdl_one
abbrev Place := mdl_place
theorem keq : KEq sEq := fun a b => by
  rw [sEq_data]
  constructor
  · intro h
    have h := eq_of_beq h
    cases a; cases b
    simp only at h
    congr
    exact Array.toList_inj.1 h
  · rintro rfl
    simp
def G (a b : Int) : Bool := decide (1 ≤ a ∧ a ≤ 3 ∧ 1 ≤ b ∧ b ≤ 3 ∧ (a = 1 ∨ b = 1 ∨ a = b))
theorem goes_eq (a b : Int) : mdl_Goes a b = some (G a b) := rfl
theorem G_symm (a b : Int) : G a b = G b a := by
  unfold G
  congr 1
  refine propext ⟨?_, ?_⟩ <;> rintro ⟨h1, h2, h3, h4, h5⟩ <;> exact ⟨h3, h4, h1, h2, by omega⟩
/-- What stands at a path. -/
def Pl (l : mdl_Locks) (k : ByteArray) : Place := (mget sEq l.at_ k).getD z_mdl_place
theorem index_eq (xs : List One) (f : One → Option Bool) (q : One → Bool) (hf : ∀ x, f x = some (q x)) : slices_IndexFunc_mdl_one xs f = some (match xs.findIdx? q with | some j => (j : Int) | none => -1) := by
  unfold slices_IndexFunc_mdl_one
  rw [forN_find q (fun j => (j : Int))]
  · cases xs.findIdx? q <;> rfl
  · intro j x hx
    simp only [idx_nat, hx, Option.bind_some, hf]
    cases q x <;> rfl
theorem find_eq (xs : List One) (w : Int) : mdl_find xs w = some (match xs.findIdx? (fun x => x.who == w) with | some j => (j : Int) | none => -1) := by
  unfold mdl_find
  rw [index_eq xs (fun u0 => mdl_find_1 u0 w) (fun x => x.who == w) (fun x => rfl)]
  rfl
/-- Where somebody stands: nowhere, or there. -/
theorem find_spec (xs : List One) (w : Int) : ((∀ y ∈ xs, y.who ≠ w) ∧ mdl_find xs w = some (-1)) ∨ ∃ A x B, xs = A ++ x :: B ∧ x.who = w ∧ (∀ y ∈ A, y.who ≠ w) ∧ mdl_find xs w = some (A.length : Int) := by
  rw [find_eq]
  rcases find_cases (fun x : One => x.who == w) xs with ⟨h, e⟩ | ⟨A, x, B, h1, h2, h3, h4⟩
  · left
    refine ⟨fun y hy e1 => ?_, by rw [e]⟩
    have := h y hy
    simp [e1] at this
  · right
    refine ⟨A, x, B, h1, by simpa using h2, fun y hy e1 => ?_, by rw [h4]⟩
    have := h3 y hy
    simp [e1] at this
theorem pgoes_eq (p : Place) (m : Int) : mdl_place_goes p m = some (p.held.all fun x => G x.mode m) := by
  unfold mdl_place_goes slices_ContainsFunc_mdl_one
  rw [index_eq p.held (fun u0 => mdl_place_goes_1 u0 m) (fun x => !G x.mode m) (fun x => rfl)]
  simp only [Option.bind_some, Option.some.injEq]
  rcases find_cases (fun x : One => !G x.mode m) p.held with ⟨h, e⟩ | ⟨A, x, B, h1, h2, h3, h4⟩
  · rw [e]
    have : (p.held.all fun x => G x.mode m) = true := List.all_eq_true.2 fun x hx => by have := h x hx; simpa using this
    rw [this]
    rfl
  · rw [h4]
    have : (p.held.all fun x => G x.mode m) = false := by
      cases hx : (p.held.all fun x => G x.mode m) with
      | false => rfl
      | true => rw [h1] at hx; simp at hx h2; simp [h2] at hx
    rw [this]
    simp
theorem clone_eq {xs : List One} (h : xs.length ≤ 1000) : slices_Clone_mdl_one xs = some xs := by
  unfold slices_Clone_mdl_one
  rw [app_le (by simp; omega)]
  rfl
theorem sub1 {α : Type} (x : α) (r : List α) : sub (x :: r) 1 (((x :: r).length : Nat) : Int) = some r := by
  have := sub_at (xs := x :: r) (lo := 1) (hi := (((x :: r).length : Nat) : Int)) (i := 1) (j := (x :: r).length) rfl rfl (by simp) (Nat.le_refl _)
  rw [this]
  simp
theorem set_eq (l : mdl_Locks) (k : ByteArray) (p : Place) (h : p.held.length + p.queue.length ≤ 1000) : mdl_Locks_set l k p = some (if p.held = [] ∧ p.queue = [] then ⟨mdel sEq l.at_ k⟩ else ⟨mset sEq l.at_ k p⟩) := by
  unfold mdl_Locks_set
  rw [w64_id (by omega) (by omega)]
  by_cases hx : p.held = [] ∧ p.queue = []
  · rw [if_pos hx, hx.1, hx.2]
    rfl
  · rw [if_neg hx]
    have : (((p.held.length : Int) + (p.queue.length : Int)) == 0) = false := by
      cases hb : (((p.held.length : Int) + (p.queue.length : Int)) == 0) with
      | false => rfl
      | true =>
        have := eq_of_beq hb
        exact absurd ⟨List.eq_nil_of_length_eq_zero (by omega), List.eq_nil_of_length_eq_zero (by omega)⟩ hx
    rw [this]
    rfl
/-- A list without some. -/
theorem delete_eq {xs : List One} {f : One → Option Bool} {q : One → Bool} (hf : ∀ x, f x = some (q x)) (hl : xs.length ≤ 1000) : slices_DeleteFunc_mdl_one xs f = some (xs.filter fun x => !q x) := by
  unfold slices_DeleteFunc_mdl_one
  rw [index_eq xs f q hf]
  simp only [Option.bind_some]
  rcases find_cases q xs with ⟨h, e⟩ | ⟨A, x, B, h1, h2, h3, h4⟩
  · rw [e]
    simp only [beq_self_eq_true, cond_true]
    rw [List.filter_eq_self.2 fun y hy => by rw [h y hy]; rfl]
  · rw [h4]
    have e1 : ((A.length : Int) == -1) = false := by
      cases hb : ((A.length : Int) == -1) with
      | false => rfl
      | true => have := eq_of_beq hb; omega
    simp only [e1, cond_false]
    have hA : A.filter (fun x => !q x) = A := List.filter_eq_self.2 fun y hy => by rw [h3 y hy]; rfl
    have hlen : xs.length = A.length + (B.length + 1) := by rw [h1]; simp
    refine Ret.eq (RB.bind (R := fun t => ∃ D : List One, t.2 = xs.filter (fun x => !q x) ++ D ∧ t.2.length = xs.length ∧ t.1 = ((xs.filter fun x => !q x).length : Int))
      (loopO_rb (fun (s : Int × Int × List One) => ∃ (i : Nat) (D : List One), A.length < i ∧ i ≤ xs.length ∧ s.2.1 = (i : Int) ∧ s.1 = (((xs.take i).filter fun x => !q x).length : Int) ∧ s.2.2 = (xs.take i).filter (fun x => !q x) ++ D ++ xs.drop i ∧ s.2.2.length = xs.length ∧ D ≠ []) (fun s => ((xs.length : Int) - s.2.1).toNat) ?_ ?_) ?_)
    · rintro ⟨a, b, ys⟩ ⟨i, D, h5, h6, hb, ha, hy, hyl, hD⟩
      simp only at hb ha hy hyl
      subst hb ha
      refine RB.cond (fun hc => ?_) (fun hc => ?_)
      · have hi : i < xs.length := by simp only [decide_eq_true_eq] at hc; omega
        have hx : xs[i]? = some xs[i] := List.getElem?_eq_getElem hi
        have hfl : (List.filter (fun x => !q x) (xs.take i)).length + D.length = i := by
          have := congrArg List.length hy
          simp only [List.length_append, List.length_drop] at this
          omega
        have hyi : ys[i]? = some xs[i] := by
          rw [hy, List.getElem?_append_right (by simp; omega)]
          simp only [List.length_append, hfl, Nat.sub_self]
          rw [List.getElem?_drop]
          simp
        have hxd : xs.drop i = xs[i] :: xs.drop (i + 1) := List.drop_eq_getElem_cons hi
        have hw : w64 ((i : Int) + 1) = ((i + 1 : Nat) : Int) := by rw [w64_id (by omega) (by omega)]; rfl
        simp only [idx_nat, hyi, Option.bind_some, hf, hw]
        obtain ⟨d, D', rfl⟩ := List.exists_cons_of_ne_nil hD
        cases hq : q xs[i] with
        | true =>
          simp only [Bool.not_true, cond_false, Option.bind_some]
          refine RB.ret ⟨⟨i + 1, (d :: D') ++ [xs[i]], by omega, by omega, rfl, ?_, ?_, hyl, by simp⟩, by simp only; omega⟩
          · rw [take_snoc hx, List.filter_append]
            simp [hq]
          · simp only
            rw [hy, hxd, take_snoc hx, List.filter_append]
            simp [hq]
        | false =>
          have hj : ys[((xs.take i).filter fun x => !q x).length]? = some d := by
            rw [hy, List.append_assoc, List.getElem?_append_right (Nat.le_refl _), Nat.sub_self]
            rfl
          have hw2 : w64 (((List.filter (fun x => !q x) (xs.take i)).length : Int) + 1) = (((List.filter (fun x => !q x) (xs.take (i + 1))).length : Nat) : Int) := by
            rw [w64_id (by simp at hfl; omega) (by simp at hfl; omega), take_snoc hx, List.filter_append]
            simp [hq]
          simp only [Bool.not_false, cond_true, idx_nat, hj, Option.bind_some, hw2]
          refine RB.ret ⟨⟨i + 1, D' ++ [xs[i]], by omega, by omega, rfl, rfl, ?_, ?_, by simp⟩, by simp only; omega⟩
          · simp only
            rw [hy, hxd, take_snoc hx, List.filter_append]
            simp [hq]
          · simp only [List.length_set]
            exact hyl
      · have hi : i = xs.length := by simp only [decide_eq_false_iff_not] at hc; omega
        subst hi
        refine RB.ret ⟨D, ?_, hyl, ?_⟩
        · simpa using hy
        · simp
    · refine ⟨A.length + 1, [x], by omega, by omega, ?_, ?_, ?_, rfl, by simp⟩
      · simp only
        rw [w64_id (by omega) (by omega)]
        rfl
      · simp only
        rw [h1, List.take_append, List.take_of_length_le (show A.length ≤ A.length + 1 by omega)]
        simp [hA, h2]
      · simp only
        rw [h1, List.take_append, List.drop_append, List.take_of_length_le (show A.length ≤ A.length + 1 by omega), List.drop_of_length_le (show A.length ≤ A.length + 1 by omega)]
        simp [hA, h2]
    · rintro ⟨a, ys⟩ ⟨D, hy, hyl, ha⟩
      simp only at hy hyl ha
      subst ha
      have hle : (xs.filter fun x => !q x).length ≤ ys.length := by rw [hy]; simp
      refine RB.bindE (sub_at (i := (xs.filter fun x => !q x).length) (j := ys.length) rfl rfl hle (Nat.le_refl _)) ?_
      refine RB.bindE (sub_at (i := 0) (j := (xs.filter fun x => !q x).length) rfl rfl (by omega) ?_) (RB.ret ?_)
      · simp
        omega
      · simp only [List.drop_zero, Int.toNat_natCast]
        rw [hy, List.take_append_of_le_length (by simp), List.take_append_of_le_length (by simp)]
        simp
def wo (w : Int) (xs : List One) : List One := xs.filter fun x => !(x.who == w)
theorem without_eq {xs : List One} {w : Int} (h : xs.length ≤ 1000) : mdl_without xs w = some (wo w xs) := by
  unfold mdl_without
  rw [clone_eq h]
  simp only [Option.bind_some]
  rw [delete_eq (f := fun u0 => mdl_without_1 u0 w) (q := fun x => x.who == w) (fun x => rfl) h]
  rfl
end Go.Proofs.Ytdmefifamlpbiaa
