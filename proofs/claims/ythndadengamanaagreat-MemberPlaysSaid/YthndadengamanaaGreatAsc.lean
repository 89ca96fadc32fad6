/- Rising lists; whether a text is one of a list; whether a role is another one. Conditions: none. -/
import Derived.Test.YthndadengamanaaGreatOne
namespace Go.Proofs.YthndadengamanaaGreat
open Go.Gv
abbrev Asc (s : List ByteArray) : Prop := s.Pairwise (fun a b => sLt a b = true)
theorem Asc.drop_lt {s : List ByteArray} (hs : Asc s) {i : Nat} {x y : ByteArray} (h : ∀ z, s[i]? = some z → sLt x z = true) (hy : y ∈ s.drop i) : sLt x y = true := by
  obtain ⟨j, hj⟩ := List.mem_iff_getElem?.1 hy
  rw [List.getElem?_drop] at hj
  have hlt : i < s.length := by have := (List.getElem?_eq_some_iff.1 hj).1; omega
  have hi := h _ (List.getElem?_eq_getElem hlt)
  cases j with
  | zero => rw [Nat.add_zero] at hj; exact h y hj
  | succ j =>
    obtain ⟨hj1, rfl⟩ := List.getElem?_eq_some_iff.1 hj
    exact sLt_trans hi (List.pairwise_iff_getElem.1 hs i (i + (j + 1)) hlt hj1 (by omega))
theorem Asc.ins {A B : List ByteArray} {x : ByteArray} (hs : Asc (A ++ B)) (h1 : ∀ y ∈ A, sLt y x = true) (h2 : ∀ y ∈ B, sLt x y = true) : Asc (A ++ x :: B) := by
  have h := List.pairwise_append.1 hs
  refine List.pairwise_append.2 ⟨h.1, List.pairwise_cons.2 ⟨h2, h.2.1⟩, fun a ha b hb => ?_⟩
  rcases List.mem_cons.1 hb with rfl | hb
  · exact h1 a ha
  · exact h.2.2 a ha b hb
/-! ### Lists of texts -/
theorem any_find {xs : List ByteArray} {n : ByteArray} {p : ByteArray → Bool} (hp : ∀ x, p x = true ↔ x = n) : (xs.findIdx? p).isSome = true ↔ n ∈ xs := by
  rcases find_cases p xs with ⟨h, e⟩ | ⟨A, x, B, h1, h2, h3, h4⟩
  · rw [e]
    refine Iff.intro (fun h => Bool.noConfusion h) (fun hn => ?_)
    have := h n hn
    rw [(hp n).2 rfl] at this
    cases this
  · rw [h4]
    exact ⟨fun _ => by rw [h1, ← (hp x).1 h2]; simp, fun _ => rfl⟩
theorem has_eq (xs : List ByteArray) (n : ByteArray) : ∃ b, registrarref14_Has xs n = some b ∧ (b = true ↔ n ∈ xs) := by
  unfold registrarref14_Has
  rw [forN_find (fun x => sEq x n) (fun _ => true) (fun j x hx => by simp only [idx_nat, hx, Option.bind_some]; cases sEq x n <;> rfl)]
  have := any_find (xs := xs) (n := n) (p := fun x => sEq x n) (fun x => keq x n)
  cases h : xs.findIdx? (fun x => sEq x n) with
  | none => rw [h] at this; exact ⟨false, rfl, by rw [← this]; simp⟩
  | some j => rw [h] at this; exact ⟨true, rfl, by rw [← this]; simp⟩
theorem contains_eq (xs : List ByteArray) (n : ByteArray) : ∃ b, slices_Contains_string xs n = some b ∧ (b = true ↔ n ∈ xs) := by
  unfold slices_Contains_string slices_Index_string
  rw [forN_find (fun x => sEq n x) (fun j => (j : Int)) (fun j x hx => by simp only [idx_nat, hx, Option.bind_some]; cases sEq n x <;> rfl)]
  have := any_find (xs := xs) (n := n) (p := fun x => sEq n x) (fun x => (keq n x).trans eq_comm)
  cases h : xs.findIdx? (fun x => sEq n x) with
  | none => rw [h] at this; exact ⟨false, rfl, by rw [← this]; simp⟩
  | some j => rw [h] at this; exact ⟨true, by simp, by rw [← this]; simp⟩
theorem bool_iff {a b : Bool} {p : Prop} (ha : a = true ↔ p) (hb : b = true ↔ p) : a = b := by cases a <;> cases b <;> simp_all
theorem rsame_refl (l : List Role) (hl : l.length ≤ 1000) (hi : ∀ x ∈ l, x.In.length ≤ 1000) : registrarref18_Same l l = some true := by
  unfold registrarref18_Same
  rw [show ((l.length : Int) != (l.length : Int)) = false by simp]
  simp only [cond_false]
  rw [forN_list (v := false) (fun _ : Role => true) ?_]
  · rw [show (l.all fun _ => true) = true by simp]
    rfl
  · intro j x hx
    simp only [idx_nat, hx, Option.bind_some]
    rw [keq.refl, show ((x.In.length : Int) != (x.In.length : Int)) = false by simp]
    simp only [Bool.not_true, cond_false, Option.bind_some]
    have hxl := hi x (List.mem_of_getElem? hx)
    have : Ret (loopO (fun (s28 : Int) => (bif decide (s28 < (x.In.length : Int)) then (idx x.In s28).bind fun x37 => (idx x.In s28).bind fun x39 => bif !sEq x37 x39 then some (Sum.inr (Sum.inl false)) else some (Sum.inl (w64 (s28 + 1))) else some (Sum.inr (Sum.inr ())) : Option (Int ⊕ (Bool ⊕ Unit)))) 0) (fun t => t = .inr ()) := by
      refine loopO_rb (fun (s : Int) => ∃ i : Nat, s = i ∧ i ≤ x.In.length) (fun s => x.In.length - s.toNat) ?_ ⟨0, rfl, by omega⟩
      rintro s ⟨i, rfl, hi⟩
      by_cases hlt : i < x.In.length
      · rw [show decide ((i : Int) < (x.In.length : Int)) = true by simp [hlt]]
        have hz : x.In[i]? = some x.In[i] := List.getElem?_eq_getElem hlt
        simp only [cond_true, idx_nat, hz, Option.bind_some, keq.refl]
        exact RB.ret ⟨⟨i + 1, by rw [w64_id (by omega) (by omega)]; rfl, hlt⟩, by rw [w64_id (by omega) (by omega)]; omega⟩
      · rw [show decide ((i : Int) < (x.In.length : Int)) = false by simp; omega]
        exact RB.ret rfl
    rw [this.eq]
    rfl
def Sm (l : List Role) : Prop := l.length ≤ 100 ∧ (∀ x ∈ l, x.In.length ≤ 100) ∧ ∀ x ∈ l, x.Name.size ≤ 1000
theorem is_eq {l : List Role} (h : Sm l) (n o : ByteArray) : ∃ b, member_Is l n o = some b ∧ (b = true ↔ has l n ∧ Rch l n o) := by
  obtain ⟨a, ha, ga⟩ := all_eq (n := n) h.1 h.2.1 h.2.2
  obtain ⟨b, hb, gb⟩ := contains_eq a o
  refine ⟨b, by unfold member_Is; rw [ha]; simp only [Option.bind_some]; rw [hb]; rfl, gb.trans ?_⟩
  by_cases hn : has l n
  · rw [(ga.1 hn).2]; simp [hn]
  · rw [ga.2 hn]; simp [hn]
end Go.Proofs.YthndadengamanaaGreat
