/- Whether a text is a name can always be told. Conditions: none. -/
import Derived.Test.YthndadengamanaaGreatSearch
namespace Go.Proofs.YthndadengamanaaGreat
open Go.Gv
theorem sAt_some {s : ByteArray} {i : Int} (h0 : 0 ≤ i) (h1 : i < (s.size : Int)) : ∃ c, sAt s i = some c := by
  unfold sAt
  simp [h0, h1]
theorem small_eq (c : Int) : ∃ b, lex_small c = some b := ⟨_, rfl⟩
theorem one1_eq (c : Int) : ∃ b, lex_one_1 c = some b := by
  unfold lex_one_1 lex_small lex_digit
  simp only [Option.bind_some]
  cases (decide (c ≥ 97) && decide (c ≤ 122)) <;> exact ⟨_, rfl⟩
theorem one2_eq (c : Int) : ∃ b, lex_one_2 c = some b := ⟨_, rfl⟩
theorem while_ret {s : ByteArray} {m : Int} {p : Int → Option Bool} (hp : ∀ c, ∃ b, p c = some b) (hs : s.size ≤ 100000) : Ret (lex_while s 0 m p) (fun r => 0 ≤ r ∧ r ≤ (s.size : Int)) := by
  unfold lex_while
  refine RB.bind (loopO_rb (fun (q : Int) => 0 ≤ q ∧ q ≤ (s.size : Int)) (fun q => ((s.size : Int) - q).toNat) ?_ ⟨by omega, by omega⟩) (fun r h => RB.ret h)
  rintro q ⟨h1, h2⟩
  rw [w64_id (n := 0 + q) (by omega) (by omega), Int.zero_add]
  refine RB.bind (R := fun b => b = true → q < (s.size : Int)) (RB.cond (fun hc => ?_) (fun _ => RB.ret (fun h => by cases h))) (fun b hb => RB.cond (fun e => RB.ret ⟨?_, ?_⟩) (fun _ => RB.ret ⟨h1, h2⟩))
  · have hq : q < (s.size : Int) := by simp at hc; omega
    obtain ⟨c, hc⟩ := sAt_some h1 hq
    obtain ⟨b, hb⟩ := hp c
    rw [hc]
    simp only [Option.bind_some, hb]
    exact RB.ret fun _ => hq
  · have := hb e
    rw [w64_id (by omega) (by omega)]; omega
  · have := hb e
    rw [w64_id (by omega) (by omega)]; omega
theorem alone_ret {s : ByteArray} {i : Int} (h0 : 0 ≤ i) : ∃ r, lex_alone s i = some r := by
  refine Ret.ex (Q := fun _ => True) ?_ |>.imp fun r h => h.1
  unfold lex_alone
  refine RB.bind (R := fun _ => True) (RB.cond (fun hc => ?_) (fun _ => RB.ret trivial)) (fun b _ => RB.cond (fun _ => RB.ret trivial) (fun _ => RB.ret trivial))
  obtain ⟨c, hc⟩ := sAt_some h0 (s := s) (by simpa using hc)
  obtain ⟨b, hb⟩ := glued_eq c
  rw [hc]
  simp only [Option.bind_some, hb]
  exact RB.ret trivial
theorem quoted_ret {s : ByteArray} (hs : s.size ≤ 100000) : ∃ r, lex_quoted s = some r := by
  refine Ret.ex (Q := fun _ => True) ?_ |>.imp fun r h => h.1
  unfold lex_quoted
  refine RB.bind (loopO_rb (Q := fun _ => True) (fun (q : Int) => 0 ≤ q ∧ (q ≤ (s.size : Int) ∨ q = 1)) (fun q => ((s.size : Int) + 2 - q).toNat) ?_ ⟨by omega, .inr rfl⟩) (fun t _ => by cases t <;> exact RB.ret trivial)
  rintro q ⟨h1, h2⟩
  refine RB.cond (fun hc => ?_) (fun _ => RB.ret trivial)
  have hq : q < (s.size : Int) := by simpa using hc
  obtain ⟨c, hc⟩ := sAt_some h1 hq
  rw [hc]
  simp only [Option.bind_some]
  refine RB.bind (R := fun _ => True) (RB.cond (fun _ => RB.ret trivial) (fun _ => RB.ret trivial)) (fun b _ => RB.cond (fun _ => RB.ret trivial) (fun _ => ?_))
  have hw : w64 (q + 1) = q + 1 := w64_id (by omega) (by omega)
  rw [hw]
  refine RB.bind (R := fun t => ∀ k, t = .inl k → k = q ∨ (k = q + 1 ∧ q + 1 < (s.size : Int))) (RB.cond (fun _ => RB.ret fun k h => by injection h with h; exact .inl h.symm) (fun _ => ?_)) ?_
  · refine RB.bind (R := fun b => b = true → q + 1 < (s.size : Int)) (RB.cond (fun hc => ?_) (fun _ => RB.ret (fun h => by cases h))) (fun b hb => RB.cond (fun e => RB.ret fun k h => by injection h with h; exact .inr ⟨h.symm, hb e⟩) (fun _ => RB.ret fun k h => by cases h))
    have hq2 : q + 1 < (s.size : Int) := by simpa using hc
    obtain ⟨c, hc⟩ := sAt_some (by omega) hq2
    rw [hc]
    exact RB.ret fun _ => hq2
  · rintro t ht
    cases t with
    | inl k =>
      rcases ht k rfl with rfl | ⟨rfl, h⟩
      · refine RB.ret ⟨⟨by rw [hw]; omega, .inl (by rw [hw]; omega)⟩, by rw [hw]; omega⟩
      · have hw2 : w64 (q + 1 + 1) = q + 1 + 1 := w64_id (by omega) (by omega)
        refine RB.ret ⟨⟨by rw [hw2]; omega, .inl (by rw [hw2]; omega)⟩, by rw [hw2]; omega⟩
    | inr v => exact RB.ret trivial
theorem prefix_ret (s p : ByteArray) : ∃ b, strings_HasPrefix s p = some b := by
  refine Ret.ex (Q := fun _ => True) ?_ |>.imp fun r h => h.1
  unfold strings_HasPrefix internal_stringslite_HasPrefix
  refine RB.bind (R := fun _ => True) (RB.bind (R := fun _ => True) (RB.cond (fun hc => ?_) (fun _ => RB.ret trivial)) (fun _ _ => RB.ret trivial)) (fun _ _ => RB.ret trivial)
  have : (p.size : Int) ≤ (s.size : Int) := by simpa using hc
  unfold ssub
  rw [if_pos ⟨by omega, by omega, this⟩]
  exact RB.ret trivial
theorem sign_ret (s : ByteArray) : ∃ r, lex_sign s = some r := by
  refine Ret.ex (Q := fun _ => True) ?_ |>.imp fun r h => h.1
  unfold lex_sign
  refine RB.bind (R := fun _ => True) (RB.bind (R := fun _ => True) (RB.mono (forN_ret (fun _ _ => True) (Q := fun _ => True) trivial ?_) (fun _ _ => trivial)) ?_) (fun _ _ => RB.ret trivial)
  · rintro j x hj _
    obtain ⟨y, hy, _⟩ := idx_lt (xs := ([(⟨#[60, 62]⟩ : ByteArray), (⟨#[60, 61]⟩ : ByteArray), (⟨#[62, 61]⟩ : ByteArray), (⟨#[124, 124]⟩ : ByteArray)] : List ByteArray)) (i := (j : Int)) (by omega) (by simp; omega)
    rw [hy]
    obtain ⟨b, hb⟩ := prefix_ret s y
    simp only [Option.bind_some, hb]
    cases b <;> exact RB.ret trivial
  · rintro t _
    cases t with
    | inr v => exact RB.ret trivial
    | inl u =>
      refine RB.bind (R := fun _ => True) (RB.mono (forN_ret (fun _ _ => True) (Q := fun _ => True) trivial ?_) (fun _ _ => trivial)) (fun t _ => by cases t <;> exact RB.ret trivial)
      rintro j x hj _
      obtain ⟨y, hy, _⟩ := idx_lt (xs := ([(⟨#[40]⟩ : ByteArray), (⟨#[41]⟩ : ByteArray), (⟨#[44]⟩ : ByteArray), (⟨#[61]⟩ : ByteArray), (⟨#[60]⟩ : ByteArray), (⟨#[62]⟩ : ByteArray), (⟨#[43]⟩ : ByteArray), (⟨#[45]⟩ : ByteArray), (⟨#[42]⟩ : ByteArray), (⟨#[47]⟩ : ByteArray), (⟨#[37]⟩ : ByteArray)] : List ByteArray)) (i := (j : Int)) (by omega) (by simp; omega)
      rw [hy]
      obtain ⟨b, hb⟩ := prefix_ret s y
      simp only [Option.bind_some, hb]
      cases b <;> exact RB.ret trivial
theorem one_ret {s : ByteArray} (hs : s.size ≤ 100000) (h0 : 0 < s.size) : ∃ r, lex_one s = some r := by
  refine Ret.ex (Q := fun _ => True) ?_ |>.imp fun r h => h.1
  unfold lex_one
  obtain ⟨c, hc⟩ := sAt_some (s := s) (i := 0) (by omega) (by omega)
  rw [hc]
  simp only [Option.bind_some]
  have al : ∀ (k i : Int), 0 ≤ i → Ret ((lex_alone s i).bind fun r => some (k, r)) (fun _ => True) := fun k i h => by
    obtain ⟨r, hr⟩ := alone_ret (s := s) h
    rw [hr]; exact RB.ret trivial
  refine RB.bind (R := fun _ => True) (RB.of rfl trivial) (fun b _ => RB.cond (fun _ => RB.bind (while_ret one1_eq hs) (fun r h => al 1 r h.1)) (fun _ => ?_))
  refine RB.bind (R := fun _ => True) (RB.of rfl trivial) (fun b _ => RB.cond (fun _ => RB.bind (while_ret one2_eq hs) (fun r h => al 2 r h.1)) (fun _ => ?_))
  refine RB.cond (fun _ => al 3 1 (by omega)) (fun _ => ?_)
  refine RB.bind (R := fun _ => True) (RB.of rfl trivial) (fun b _ => RB.cond (fun _ => RB.bind (while_ret (fun c => ⟨_, rfl⟩) hs) (fun r h => al 3 r h.1)) (fun _ => ?_))
  refine RB.cond (fun _ => ?_) (fun _ => RB.cond (fun _ => ?_) (fun _ => ?_))
  · obtain ⟨r, hr⟩ := quoted_ret hs
    rw [hr]; exact RB.ret trivial
  · refine RB.bind (R := fun b => b = false → 2 ≤ s.size) (RB.cond (fun _ => RB.ret (fun h => by cases h)) (fun hc => ?_)) (fun b hb => ?_)
    · have h2 : 2 ≤ s.size := by simp at hc; omega
      obtain ⟨c, hc⟩ := sAt_some (s := s) (i := 1) (by omega) (by omega)
      rw [hc]
      exact RB.ret fun _ => h2
    · refine RB.bind (R := fun _ => True) (RB.cond (fun _ => RB.ret trivial) (fun e => ?_)) (fun _ _ => RB.cond (fun _ => RB.ret trivial) (fun _ => al 5 2 (by omega)))
      have := hb e
      obtain ⟨c, hc⟩ := sAt_some (s := s) (i := 1) (by omega) (by omega)
      rw [hc]
      exact RB.ret trivial
  · obtain ⟨r, hr⟩ := sign_ret s
    rw [hr]; exact RB.ret trivial
theorem name_ret {s : ByteArray} (hs : s.size ≤ 100000) : ∃ b, lex_IsName s = some b := by
  refine Ret.ex (Q := fun _ => True) ?_ |>.imp fun r h => h.1
  unfold lex_IsName lex_Right
  simp only
  refine RB.bind (R := fun _ => True) (RB.cond (fun _ => RB.ret trivial) (fun _ => RB.cond (fun _ => RB.ret trivial) (fun e => ?_))) (fun _ _ => RB.ret trivial)
  have h0 : 0 < s.size := by
    rcases Nat.eq_zero_or_pos s.size with h | h
    · exfalso
      have : s = (⟨#[]⟩ : ByteArray) := by
        cases s with
        | mk d => congr 1; exact Array.eq_empty_of_size_eq_zero h
      rw [this, keq.refl] at e
      cases e
    · exact h
  obtain ⟨r, hr⟩ := one_ret hs h0
  rw [hr]
  exact RB.ret trivial
end Go.Proofs.YthndadengamanaaGreat
