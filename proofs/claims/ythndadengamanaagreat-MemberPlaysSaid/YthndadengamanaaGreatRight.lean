/- Whether roles are right. Conditions: none. -/
import Derived.Test.YthndadengamanaaGreatAsc
namespace Go.Proofs.YthndadengamanaaGreat
open Go.Gv
/-- A search by a function that may be told. -/
theorem cf_str {xs : List ByteArray} {p1 : ByteArray → Option Bool} {P : ByteArray → Prop} (h : ∀ s ∈ xs, ∃ b, p1 s = some b ∧ (b = true ↔ P s)) : ∃ b, slices_ContainsFunc_string xs p1 = some b ∧ (b = true ↔ ∃ s ∈ xs, P s) := by
  refine Ret.ex ?_
  unfold slices_ContainsFunc_string slices_IndexFunc_string
  refine RB.bind (R := fun (r : Int) => (r = -1 ∧ ∀ s ∈ xs, ¬ P s) ∨ (0 ≤ r ∧ ∃ s ∈ xs, P s)) (RB.bind (forN_ret (fun i _ => ∀ s ∈ xs.take i, ¬ P s) (Q := fun (r : Int) => 0 ≤ r ∧ ∃ s ∈ xs, P s) (by simp) ?_) ?_) ?_
  · rintro i _ hi g
    have hx : xs[i]? = some xs[i] := List.getElem?_eq_getElem hi
    obtain ⟨b, hb, hb2⟩ := h xs[i] (List.getElem_mem hi)
    simp only [idx_nat, hx, Option.bind_some, hb]
    refine RB.cond (fun e => RB.ret ⟨by omega, _, List.getElem_mem hi, hb2.1 e⟩) (fun e => RB.ret fun s hs => ?_)
    rw [take_snoc hx, List.mem_append, List.mem_singleton] at hs
    rcases hs with hs | rfl
    · exact g s hs
    · exact fun hp => by rw [hb2.2 hp] at e; cases e
  · rintro t ht
    cases t with
    | inl u => rw [List.take_length] at ht; exact RB.ret (.inl ⟨rfl, ht⟩)
    | inr v => exact RB.ret (.inr ht)
  · rintro r (⟨rfl, hr⟩ | ⟨hr, hs⟩)
    · exact RB.ret (by simp; exact hr)
    · exact RB.ret (by simp [hr]; exact hs)
theorem cf_role {xs : List Role} {p1 : Role → Option Bool} {P : Role → Prop} (h : ∀ s ∈ xs, ∃ b, p1 s = some b ∧ (b = true ↔ P s)) : ∃ b, slices_ContainsFunc_api_Role xs p1 = some b ∧ (b = true ↔ ∃ s ∈ xs, P s) := by
  refine Ret.ex ?_
  unfold slices_ContainsFunc_api_Role slices_IndexFunc_api_Role
  refine RB.bind (R := fun (r : Int) => (r = -1 ∧ ∀ s ∈ xs, ¬ P s) ∨ (0 ≤ r ∧ ∃ s ∈ xs, P s)) (RB.bind (forN_ret (fun i _ => ∀ s ∈ xs.take i, ¬ P s) (Q := fun (r : Int) => 0 ≤ r ∧ ∃ s ∈ xs, P s) (by simp) ?_) ?_) ?_
  · rintro i _ hi g
    have hx : xs[i]? = some xs[i] := List.getElem?_eq_getElem hi
    obtain ⟨b, hb, hb2⟩ := h xs[i] (List.getElem_mem hi)
    simp only [idx_nat, hx, Option.bind_some, hb]
    refine RB.cond (fun e => RB.ret ⟨by omega, _, List.getElem_mem hi, hb2.1 e⟩) (fun e => RB.ret fun s hs => ?_)
    rw [take_snoc hx, List.mem_append, List.mem_singleton] at hs
    rcases hs with hs | rfl
    · exact g s hs
    · exact fun hp => by rw [hb2.2 hp] at e; cases e
  · rintro t ht
    cases t with
    | inl u => rw [List.take_length] at ht; exact RB.ret (.inl ⟨rfl, ht⟩)
    | inr v => exact RB.ret (.inr ht)
  · rintro r (⟨rfl, hr⟩ | ⟨hr, hs⟩)
    · exact RB.ret (by simp; exact hr)
    · exact RB.ret (by simp [hr]; exact hs)
theorem names_eq {l : List Role} (hl : l.length ≤ 1000) : member_names l = some (l.map (·.Name)) := by
  have h : Ret (member_names l) (fun r => r = l.map (·.Name)) := by
    unfold member_names
    refine RB.bind (forE_ret (fun i s => s = (l.take i).map (·.Name)) (by simp) ?_) ?_
    · rintro i s hi rfl
      have hx : l[i]? = some l[i] := List.getElem?_eq_getElem hi
      simp only [idx_nat, hx, Option.bind_some]
      rw [app_le (by simp; omega)]
      exact RB.ret (by rw [take_snoc hx, List.map_append]; rfl)
    · rintro s hs
      rw [List.take_length] at hs
      exact RB.ret hs
  exact h.eq
theorem asc_next {s : List ByteArray} {i : Nat} {x : ByteArray} (h1 : 1 ≤ i) (hx : s[i]? = some x) (hs : Asc (s.take i)) (hlt : ∀ y, s[i - 1]? = some y → sLt y x = true) : Asc (s.take (i + 1)) := by
  rw [take_snoc hx]
  refine List.pairwise_append.2 ⟨hs, List.pairwise_singleton .., fun a ha b hb => ?_⟩
  rw [List.mem_singleton] at hb
  subst hb
  have hi := (List.getElem?_eq_some_iff.1 hx).1
  have h0 : s[i - 1]? = some s[i - 1] := List.getElem?_eq_getElem (by omega)
  obtain ⟨j, hj⟩ := List.mem_iff_getElem?.1 ha
  rw [List.getElem?_take] at hj
  split at hj
  · rename_i hji
    by_cases e : j = i - 1
    · subst e
      exact hlt a hj
    · have := hlt _ h0
      refine sLt_trans ?_ this
      have h2 := List.pairwise_iff_getElem.1 hs j (i - 1) (by simp; omega) (by simp; omega) (by omega)
      have hj3 := (List.getElem?_eq_some_iff.1 hj).2
      simp only [List.getElem_take] at h2
      rw [hj3] at h2
      exact h2
  · cases hj
theorem rising_eq {s : List ByteArray} (hl : s.length ≤ 1000) : ∃ b, member_rising s = some b ∧ (b = true ↔ Asc s) := by
  refine Ret.ex ?_
  unfold member_rising
  refine RB.bind (R := fun t => (t = .inl false ∧ ¬ Asc s) ∨ (t = .inr () ∧ Asc s)) (loopO_rb (fun (q : Int) => ∃ i : Nat, q = i ∧ 1 ≤ i ∧ (i ≤ s.length ∨ i = 1) ∧ Asc (s.take i)) (fun q => s.length + 1 - q.toNat) ?_ ⟨1, rfl, Nat.le_refl _, .inr rfl, ?_⟩) ?_
  · rintro q ⟨i, rfl, h1, h2, h3⟩
    by_cases hlt : i < s.length
    · rw [show decide ((i : Int) < (s.length : Int)) = true by simp [hlt]]
      have hx : s[i]? = some s[i] := List.getElem?_eq_getElem hlt
      have hy : s[i - 1]? = some s[i - 1] := List.getElem?_eq_getElem (by omega)
      rw [w64_id (n := (i : Int) - 1) (by omega) (by omega), show (i : Int) - 1 = ((i - 1 : Nat) : Int) by omega]
      simp only [cond_true, idx_nat, hx, hy, Option.bind_some]
      refine RB.cond (fun e => RB.ret (.inl ⟨rfl, fun ha => ?_⟩)) (fun e => RB.ret ⟨⟨i + 1, by rw [w64_id (by omega) (by omega)]; rfl, by omega, .inl hlt, ?_⟩, ?_⟩)
      · have := List.pairwise_iff_getElem.1 ha (i - 1) i (by omega) hlt (by omega)
        rw [this] at e; cases e
      · refine asc_next h1 hx h3 fun y hy' => ?_
        rw [hy] at hy'; injection hy' with hy'
        subst hy'
        simpa using e
      · rw [w64_id (by omega) (by omega)]; omega
    · rw [show decide ((i : Int) < (s.length : Int)) = false by simp; omega]
      rw [List.take_of_length_le (by omega)] at h3
      exact RB.ret (.inr ⟨rfl, h3⟩)
  · cases s with
    | nil => exact List.Pairwise.nil
    | cons x r => exact List.pairwise_singleton ..
  · rintro t (⟨rfl, h⟩ | ⟨rfl, h⟩)
    · exact RB.ret (by simp [h])
    · exact RB.ret (by simp [h])
/-- Roles are right. -/
structure Right (l : List Role) : Prop where
  few : l.length ≤ 8
  asc : Asc (l.map (·.Name))
  nm : ∀ x ∈ l, lex_IsName x.Name = some true
  ain : ∀ x ∈ l, Asc x.In
  mem : ∀ x ∈ l, ∀ s ∈ x.In, has l s
  no : ∀ x ∈ l, ∀ s ∈ x.In, ¬ Rch l s x.Name
theorem has_names {l : List Role} {s : ByteArray} : s ∈ l.map (·.Name) ↔ has l s := by
  rw [List.mem_map]
  rfl
theorem check_of {l : List Role} (h : Sm l) (hn : ∀ x ∈ l, ∃ b, lex_IsName x.Name = some b) : ∃ e, member_Check l = some e ∧ (e = 0 ∨ e = 2) ∧ (e = 0 ↔ Right l) := by
  refine Ret.ex ?_
  unfold member_Check
  refine RB.bindE (names_eq (by have := h.1; omega)) ?_
  obtain ⟨br, hr, hr2⟩ := rising_eq (s := l.map (·.Name)) (by simp; have := h.1; omega)
  rw [hr]
  refine RB.bind (R := fun b => b = false ↔ l.length ≤ 8 ∧ Asc (l.map (·.Name))) (RB.cond (fun e => RB.ret ?_) (fun e => RB.ret ?_)) ?_
  · simp at e
    constructor
    · intro h; cases h
    · intro h; omega
  · simp at e
    rw [← hr2]
    cases br <;> simp; omega
  intro b hb
  refine RB.cond (fun e => RB.ret ⟨.inr rfl, Iff.intro (fun h => by cases h) (fun hR => ?_)⟩) (fun e => ?_)
  · rw [hb.2 ⟨hR.few, hR.asc⟩] at e; cases e
  obtain ⟨h8, ha⟩ := hb.1 e
  refine RB.bind (forN_ret (fun i _ => ∀ x ∈ l.take i, lex_IsName x.Name = some true ∧ Asc x.In ∧ ∀ s ∈ x.In, has l s) (Q := fun (v : Int) => v = 2 ∧ ¬ Right l) (by simp) ?_) ?_
  · rintro i _ hi g
    have hx : l[i]? = some l[i] := List.getElem?_eq_getElem hi
    have hm : l[i] ∈ l := List.getElem_mem hi
    obtain ⟨b1, hb1⟩ := hn _ hm
    obtain ⟨b2, hb2, hb2'⟩ := rising_eq (s := l[i].In) (by have := h.2.1 _ hm; omega)
    obtain ⟨b3, hb3, hb3'⟩ := cf_str (xs := l[i].In) (p1 := fun u0 => member_Check_1 u0 (l.map (·.Name))) (P := fun s => ¬ has l s) (fun s _ => by
      obtain ⟨b, hb, hb'⟩ := contains_eq (l.map (·.Name)) s
      refine ⟨!b, by unfold member_Check_1; rw [hb]; rfl, ?_⟩
      rw [← has_names, ← hb']
      cases b <;> simp)
    simp only [idx_nat, hx, Option.bind_some, hb1, hb2, hb3]
    cases b1 with
    | false => exact RB.ret ⟨rfl, fun hR => by have := hR.nm _ hm; rw [hb1] at this; cases this⟩
    | true =>
      cases b2 with
      | false =>
        refine RB.ret ⟨rfl, fun hR => ?_⟩
        have := hb2'.2 (hR.ain _ hm)
        cases this
      | true =>
        cases b3 with
        | true =>
          refine RB.ret ⟨rfl, fun hR => ?_⟩
          obtain ⟨s, hs, hns⟩ := hb3'.1 rfl
          exact hns (hR.mem _ hm s hs)
        | false =>
          refine RB.ret fun x hx' => ?_
          rw [take_snoc hx, List.mem_append, List.mem_singleton] at hx'
          rcases hx' with hx' | rfl
          · exact g x hx'
          · refine ⟨hb1, hb2'.1 rfl, fun s hs => Classical.byContradiction fun hns => ?_⟩
            have := hb3'.2 ⟨s, hs, hns⟩
            cases this
  · rintro t ht
    cases t with
    | inr v => exact RB.ret ⟨.inr ht.1, fun e => (by have := ht.1; omega), fun hR => absurd hR ht.2⟩
    | inl u =>
      rw [List.take_length] at ht
      obtain ⟨b, hb, hb'⟩ := cf_role (xs := l) (p1 := fun u0 => member_Check_2 u0 l) (P := fun x => ∃ s ∈ x.In, has l s ∧ Rch l s x.Name) (fun x _ => by
        obtain ⟨b, hb, hb'⟩ := cf_str (xs := x.In) (p1 := fun u0 => member_round_1 u0 l x) (P := fun s => has l s ∧ Rch l s x.Name) (fun s _ => by
          obtain ⟨b, hb, hb'⟩ := is_eq h s x.Name
          exact ⟨b, by unfold member_round_1; rw [hb]; rfl, hb'⟩)
        exact ⟨b, by unfold member_Check_2 member_round; rw [hb]; rfl, hb'⟩)
      simp only [hb, Option.bind_some]
      refine RB.cond (fun e => RB.ret ⟨.inr rfl, Iff.intro (fun h => by cases h) (fun hR => ?_)⟩) (fun e => RB.ret ⟨.inl rfl, Iff.intro (fun _ => ?_) (fun _ => rfl)⟩)
      · obtain ⟨x, hx, s, hs, _, hr⟩ := hb'.1 e
        exact absurd hr (hR.no x hx s hs)
      · refine ⟨h8, ha, fun x hx => (ht x hx).1, fun x hx => (ht x hx).2.1, fun x hx => (ht x hx).2.2, fun x hx s hs hr => ?_⟩
        rw [hb'.2 ⟨x, hx, s, hs, (ht x hx).2.2 s hs, hr⟩] at e
        cases e
end Go.Proofs.YthndadengamanaaGreat
