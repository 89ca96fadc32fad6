/- Lists without some; searches in rising lists. Conditions: none. -/
import Derived.Test.YthndadengamanaaGreatWorks
namespace Go.Proofs.YthndadengamanaaGreat
open Go.Gv
theorem index_eq (xs : List ByteArray) (f : ByteArray → Option Bool) (q : ByteArray → Bool) (hf : ∀ x, f x = some (q x)) : slices_IndexFunc_string xs f = some (match xs.findIdx? q with | some j => (j : Int) | none => -1) := by
  unfold slices_IndexFunc_string
  rw [forN_find q (fun j => (j : Int))]
  · cases xs.findIdx? q <;> rfl
  · intro j x hx
    simp only [idx_nat, hx, Option.bind_some, hf]
    cases q x <;> rfl
/-- A list without some. -/
theorem delete_eq {xs : List ByteArray} {f : ByteArray → Option Bool} {q : ByteArray → Bool} (hf : ∀ x, f x = some (q x)) (hl : xs.length ≤ 1000) : slices_DeleteFunc_string xs f = some (xs.filter fun x => !q x) := by
  unfold slices_DeleteFunc_string
  rw [index_eq xs f q hf]
  simp only [Option.bind_some]
  rcases find_cases q xs with ⟨h, e⟩ | ⟨A, x, B, h1, h2, h3, h4⟩
  · rw [e]
    simp only [beq_self_eq_true, cond_true]
    rw [List.filter_eq_self.2 fun y hy => by rw [h y hy]; rfl]
  · rw [h4]
    have e1 : ((A.length : Int) == -1) = false := by
      cases hb : ((A.length : Int) == -1) with
      | false => rfl
      | true => have := eq_of_beq hb; omega
    simp only [e1, cond_false]
    have hA : A.filter (fun x => !q x) = A := List.filter_eq_self.2 fun y hy => by rw [h3 y hy]; rfl
    have hlen : xs.length = A.length + (B.length + 1) := by rw [h1]; simp
    refine Ret.eq (RB.bind (R := fun t => ∃ D : List ByteArray, t.2 = xs.filter (fun x => !q x) ++ D ∧ t.2.length = xs.length ∧ t.1 = ((xs.filter fun x => !q x).length : Int))
      (loopO_rb (fun (s : Int × Int × List ByteArray) => ∃ (i : Nat) (D : List ByteArray), A.length < i ∧ i ≤ xs.length ∧ s.2.1 = (i : Int) ∧ s.1 = (((xs.take i).filter fun x => !q x).length : Int) ∧ s.2.2 = (xs.take i).filter (fun x => !q x) ++ D ++ xs.drop i ∧ s.2.2.length = xs.length ∧ D ≠ []) (fun s => ((xs.length : Int) - s.2.1).toNat) ?_ ?_) ?_)
    · rintro ⟨a, b, ys⟩ ⟨i, D, h5, h6, hb, ha, hy, hyl, hD⟩
      simp only at hb ha hy hyl
      subst hb ha
      refine RB.cond (fun hc => ?_) (fun hc => ?_)
      · have hi : i < xs.length := by simp only [decide_eq_true_eq] at hc; omega
        have hx : xs[i]? = some xs[i] := List.getElem?_eq_getElem hi
        have hfl : (List.filter (fun x => !q x) (xs.take i)).length + D.length = i := by
          have := congrArg List.length hy
          simp only [List.length_append, List.length_drop] at this
          omega
        have hyi : ys[i]? = some xs[i] := by
          rw [hy, List.getElem?_append_right (by simp; omega)]
          simp only [List.length_append, hfl, Nat.sub_self]
          rw [List.getElem?_drop]
          simp
        have hxd : xs.drop i = xs[i] :: xs.drop (i + 1) := List.drop_eq_getElem_cons hi
        have hw : w64 ((i : Int) + 1) = ((i + 1 : Nat) : Int) := by rw [w64_id (by omega) (by omega)]; rfl
        simp only [idx_nat, hyi, Option.bind_some, hf, hw]
        obtain ⟨d, D', rfl⟩ := List.exists_cons_of_ne_nil hD
        cases hq : q xs[i] with
        | true =>
          simp only [Bool.not_true, cond_false, Option.bind_some]
          refine RB.ret ⟨⟨i + 1, (d :: D') ++ [xs[i]], by omega, by omega, rfl, ?_, ?_, hyl, by simp⟩, by simp only; omega⟩
          · rw [take_snoc hx, List.filter_append]
            simp [hq]
          · simp only
            rw [hy, hxd, take_snoc hx, List.filter_append]
            simp [hq]
        | false =>
          have hj : ys[((xs.take i).filter fun x => !q x).length]? = some d := by
            rw [hy, List.append_assoc, List.getElem?_append_right (Nat.le_refl _), Nat.sub_self]
            rfl
          have hw2 : w64 (((List.filter (fun x => !q x) (xs.take i)).length : Int) + 1) = (((List.filter (fun x => !q x) (xs.take (i + 1))).length : Nat) : Int) := by
            rw [w64_id (by simp at hfl; omega) (by simp at hfl; omega), take_snoc hx, List.filter_append]
            simp [hq]
          simp only [Bool.not_false, cond_true, idx_nat, hj, Option.bind_some, hw2]
          refine RB.ret ⟨⟨i + 1, D' ++ [xs[i]], by omega, by omega, rfl, rfl, ?_, ?_, by simp⟩, by simp only; omega⟩
          · simp only
            rw [hy, hxd, take_snoc hx, List.filter_append]
            simp [hq]
          · simp only [List.length_set]
            exact hyl
      · have hi : i = xs.length := by simp only [decide_eq_false_iff_not] at hc; omega
        subst hi
        refine RB.ret ⟨D, ?_, hyl, ?_⟩
        · simpa using hy
        · simp
    · refine ⟨A.length + 1, [x], by omega, by omega, ?_, ?_, ?_, rfl, by simp⟩
      · simp only
        rw [w64_id (by omega) (by omega)]
        rfl
      · simp only
        rw [h1, List.take_append, List.take_of_length_le (show A.length ≤ A.length + 1 by omega)]
        simp [hA, h2]
      · simp only
        rw [h1, List.take_append, List.drop_append, List.take_of_length_le (show A.length ≤ A.length + 1 by omega), List.drop_of_length_le (show A.length ≤ A.length + 1 by omega)]
        simp [hA, h2]
    · rintro ⟨a, ys⟩ ⟨D, hy, hyl, ha⟩
      simp only at hy hyl ha
      subst ha
      have hle : (xs.filter fun x => !q x).length ≤ ys.length := by rw [hy]; simp
      refine RB.bindE (sub_at (i := (xs.filter fun x => !q x).length) (j := ys.length) rfl rfl hle (Nat.le_refl _)) ?_
      refine RB.bindE (sub_at (i := 0) (j := (xs.filter fun x => !q x).length) rfl rfl (by omega) ?_) (RB.ret ?_)
      · simp
        omega
      · simp only [List.drop_zero, Int.toNat_natCast]
        rw [hy, List.take_append_of_le_length (by simp), List.take_append_of_le_length (by simp)]
        simp
theorem less_eq (a b : ByteArray) : cmp_Less_string a b = some (sLt a b) := by
  unfold cmp_Less_string cmp_isNaN_string
  rw [keq.refl]
  rfl
theorem nan_eq (a : ByteArray) : slices_isNaN_string a = some false := by
  unfold slices_isNaN_string
  rw [keq.refl]
  rfl
theorem half (a b : Nat) (h : a + b < 4611686018427387904) : w64 (Int.fdiv (IntKind.wrap .u64 (w64 ((a : Int) + (b : Int)))) (2 ^ 1)) = (((a + b) / 2 : Nat) : Int) := by
  rw [w64_id (n := (a : Int) + (b : Int)) (by omega) (by omega)]
  have h1 : IntKind.wrap .u64 ((a : Int) + (b : Int)) = ((a + b : Nat) : Int) := by
    simp only [IntKind.wrap, IntKind.signed, IntKind.bits]
    simp
    omega
  rw [h1]
  have h2 : Int.fdiv ((a + b : Nat) : Int) (2 ^ 1) = (((a + b) / 2 : Nat) : Int) := by
    rw [Int.fdiv_eq_ediv_of_nonneg _ (by decide)]
    simp
  rw [h2, w64_id (by omega) (by omega)]
/-- Where a text stands in a rising list, or would. -/
theorem search_spec {s : List ByteArray} {x : ByteArray} (hs : Asc s) (hl : s.length ≤ 1000) : ∃ (k : Nat) (b : Bool), slices_BinarySearch_string s x = some ((k : Int), b) ∧ k ≤ s.length ∧ (∀ y ∈ s.take k, sLt y x = true) ∧ ∀ y ∈ s.drop k, sLt y x = false := by
  have h : Ret (slices_BinarySearch_string s x) (fun r => ∃ k : Nat, r.1 = (k : Int) ∧ k ≤ s.length ∧ (∀ y ∈ s.take k, sLt y x = true) ∧ ∀ y ∈ s.drop k, sLt y x = false) := by
    unfold slices_BinarySearch_string
    refine RB.bind (R := fun (r : Int) => ∃ k : Nat, r = (k : Int) ∧ k ≤ s.length ∧ (∀ y ∈ s.take k, sLt y x = true) ∧ ∀ y ∈ s.drop k, sLt y x = false) (loopO_rb (fun (q : Int × Int) => ∃ i j : Nat, q.1 = (i : Int) ∧ q.2 = (j : Int) ∧ i ≤ j ∧ j ≤ s.length ∧ (∀ y ∈ s.take i, sLt y x = true) ∧ ∀ y ∈ s.drop j, sLt y x = false) (fun q => (q.2 - q.1).toNat) ?_ ⟨0, s.length, rfl, rfl, by omega, Nat.le_refl _, by simp, by simp⟩) ?_
    · rintro ⟨a, b⟩ ⟨i, j, h1, h2, h3, h4, h5, h6⟩
      simp only at h1 h2
      subst h1 h2
      refine RB.cond (fun hc => ?_) (fun hc => RB.ret ⟨i, rfl, by omega, h5, ?_⟩)
      · have hij : i < j := by simp at hc; omega
        rw [half i j (by omega)]
        have hm : (i + j) / 2 < s.length := by omega
        have hx : s[(i + j) / 2]? = some s[(i + j) / 2] := List.getElem?_eq_getElem hm
        simp only [idx_nat, hx, Option.bind_some, less_eq]
        cases hlt : sLt s[(i + j) / 2] x with
        | true =>
          simp only [cond_true, Option.bind_some]
          refine RB.ret ⟨⟨(i + j) / 2 + 1, j, by simp only; rw [w64_id (by omega) (by omega)]; rfl, rfl, by omega, h4, fun y hy => ?_, h6⟩, by simp only; rw [w64_id (by omega) (by omega)]; omega⟩
          obtain ⟨n, hn⟩ := List.mem_iff_getElem?.1 hy
          rw [List.getElem?_take] at hn
          split at hn
          · rename_i hnm
            by_cases e : n = (i + j) / 2
            · subst e; rw [hx] at hn; injection hn with hn; rw [← hn]; exact hlt
            · obtain ⟨hn1, rfl⟩ := List.getElem?_eq_some_iff.1 hn
              exact sLt_trans (List.pairwise_iff_getElem.1 hs n ((i + j) / 2) hn1 hm (by omega)) hlt
          · cases hn
        | false =>
          simp only [cond_false, Option.bind_some]
          refine RB.ret ⟨⟨i, (i + j) / 2, rfl, rfl, by omega, by omega, h5, fun y hy => ?_⟩, by simp only; omega⟩
          obtain ⟨n, hn⟩ := List.mem_iff_getElem?.1 hy
          rw [List.getElem?_drop] at hn
          obtain ⟨hn1, rfl⟩ := List.getElem?_eq_some_iff.1 hn
          cases hb : sLt s[(i + j) / 2 + n] x with
          | false => rfl
          | true =>
            cases n with
            | zero => simp only [Nat.add_zero] at hb; rw [hlt] at hb; cases hb
            | succ n =>
              have := sLt_trans (List.pairwise_iff_getElem.1 hs ((i + j) / 2) ((i + j) / 2 + (n + 1)) hm hn1 (by omega)) hb
              rw [hlt] at this; cases this
      · have : i = j := by simp at hc; omega
        rw [this]; exact h6
    · rintro r ⟨k, rfl, h1, h2, h3⟩
      refine RB.bind (R := fun _ => True) (RB.cond (fun hc => ?_) (fun _ => RB.ret trivial)) (fun b _ => RB.ret ⟨k, rfl, h1, h2, h3⟩)
      have hk : k < s.length := by simp at hc; omega
      have hx : s[k]? = some s[k] := List.getElem?_eq_getElem hk
      simp only [idx_nat, hx, Option.bind_some, nan_eq]
      cases sEq s[k] x <;> exact RB.ret trivial
  obtain ⟨⟨r, b⟩, hr, k, h1, h2⟩ := h.ex
  simp only at h1
  subst h1
  exact ⟨k, b, hr, h2⟩
theorem search_in {s : List ByteArray} {x : ByteArray} (hs : Asc s) (hl : s.length ≤ 1000) (hx : x ∉ s) : ∃ (k : Nat) (b : Bool), slices_BinarySearch_string s x = some ((k : Int), b) ∧ k ≤ s.length ∧ (∀ y ∈ s.take k, sLt y x = true) ∧ ∀ y ∈ s.drop k, sLt x y = true := by
  obtain ⟨k, b, h1, h2, h3, h4⟩ := search_spec (x := x) hs hl
  refine ⟨k, b, h1, h2, h3, fun y hy => ?_⟩
  rcases sLt_total y x with h | h | h
  · rw [h4 y hy] at h; cases h
  · exact absurd (h ▸ List.mem_of_mem_drop hy) hx
  · exact h
end Go.Proofs.YthndadengamanaaGreat
