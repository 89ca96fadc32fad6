/- What the document's roles are all of, as a rising list. Conditions: none. -/
import Derived.Test.YthndadengamanaaGreatRef
namespace Go.Proofs.YthndadengamanaaGreat
open Go.Gv
theorem into_spec {s : List ByteArray} {x : ByteArray} (hs : Asc s) (hx : x ∉ s) (hl : s.length ≤ 1000) : ∃ A B, s = A ++ B ∧ (∀ y ∈ A, sLt y x = true) ∧ (∀ y ∈ B, sLt x y = true) ∧ registrarref18_into s x = some (A ++ x :: B) := by
  have h : Ret (registrarref18_into s x) (fun r => ∃ A B, s = A ++ B ∧ (∀ y ∈ A, sLt y x = true) ∧ (∀ y ∈ B, sLt x y = true) ∧ r = A ++ x :: B) := by
    unfold registrarref18_into
    refine RB.bind (R := fun (q : Int) => ∃ i : Nat, q = i ∧ i ≤ s.length ∧ (∀ y ∈ s.take i, sLt y x = true) ∧ ∀ z, s[i]? = some z → sLt x z = true) (loopO_rb (fun (q : Int) => ∃ i : Nat, q = i ∧ i ≤ s.length ∧ ∀ y ∈ s.take i, sLt y x = true) (fun q => s.length - q.toNat) ?_ ⟨0, rfl, by omega, by simp⟩) ?_
    · rintro q ⟨i, rfl, hi, h1⟩
      by_cases hlt : i < s.length
      · rw [show decide ((i : Int) < (s.length : Int)) = true by simp [hlt]]
        have hz : s[i]? = some s[i] := List.getElem?_eq_getElem hlt
        simp only [cond_true, idx_nat, hz, Option.bind_some]
        cases hc : sLt s[i] x with
        | true =>
          refine RB.ret ⟨⟨i + 1, by rw [w64_id (by omega) (by omega)]; rfl, hlt, fun y hy => ?_⟩, by rw [w64_id (by omega) (by omega)]; omega⟩
          rw [take_snoc hz, List.mem_append, List.mem_singleton] at hy
          rcases hy with hy | rfl
          · exact h1 y hy
          · exact hc
        | false =>
          refine RB.ret ⟨i, rfl, hi, h1, fun z hz' => ?_⟩
          rw [hz] at hz'
          injection hz' with hz'
          subst hz'
          rcases sLt_total s[i] x with h | h | h
          · rw [hc] at h; cases h
          · exact absurd (h ▸ List.getElem_mem hlt) hx
          · exact h
      · rw [show decide ((i : Int) < (s.length : Int)) = false by simp; omega]
        simp only [cond_false, Option.bind_some]
        refine RB.ret ⟨i, rfl, hi, h1, fun z hz => ?_⟩
        have := (List.getElem?_eq_some_iff.1 hz).1
        omega
    · rintro q ⟨i, rfl, hi, h1, h2⟩
      rw [sub_at (lo := 0) (i := 0) (j := i) rfl rfl (by omega) hi, sub_at (i := i) (j := s.length) rfl rfl hi (by omega)]
      simp only [Option.bind_some, List.drop_zero, List.take_length]
      rw [app_le (by simp; omega)]
      simp only [Option.bind_some, List.nil_append]
      rw [app_le (by simp; omega)]
      simp only [Option.bind_some]
      rw [app_le (by simp; omega)]
      exact RB.ret ⟨s.take i, s.drop i, (List.take_append_drop i s).symm, h1, fun y hy => hs.drop_lt h2 hy, by simp⟩
  obtain ⟨r, hr, A, B, h1, h2, h3, rfl⟩ := h.ex
  exact ⟨A, B, h1, h2, h3, hr⟩
theorem rall_eq {l : List Role} {n : ByteArray} (hl : l.length ≤ 100) (hi : ∀ x ∈ l, x.In.length ≤ 100) : ∃ r, registrarref18_All l n = some r ∧ Good l n r := by
  refine Ret.ex ?_
  unfold registrarref18_All
  refine RB.bind (reach_spec hl hi) ?_
  rintro is ⟨hs, hc⟩
  refine RB.bind (R := fun r => Asc r ∧ ∀ m, m ∈ r ↔ ∃ k, k < l.length ∧ is[k]? = some true ∧ ∃ x, l[k]? = some x ∧ x.Name = m) (forE_ret (fun K r => Asc r ∧ r.length ≤ K ∧ ∀ m, m ∈ r ↔ ∃ k, k < K ∧ is[k]? = some true ∧ ∃ x, l[k]? = some x ∧ x.Name = m) ⟨List.Pairwise.nil, Nat.le_refl _, fun m => by simp⟩ ?_ |>.mono fun r h => ⟨h.1, h.2.2⟩) ?_
  · rintro K r hK ⟨g1, g2, g3⟩
    obtain ⟨b, hb⟩ := flag_idx hs hK
    have hx : l[K]? = some l[K] := List.getElem?_eq_getElem hK
    simp only [idx_nat, hb, hx, Option.bind_some]
    cases b with
    | false =>
      refine RB.ret ⟨g1, by omega, fun m => (g3 m).trans ⟨fun ⟨k, h1, h2⟩ => ⟨k, by omega, h2⟩, fun ⟨k, h1, h2, h3⟩ => ⟨k, ?_, h2, h3⟩⟩⟩
      have : k ≠ K := by rintro rfl; rw [hb] at h2; cases h2
      omega
    | true =>
      obtain ⟨a, ha, _, _⟩ := hs.so K hb
      have hn : l[K].Name ∉ r := by
        intro hm
        obtain ⟨k, h1, h2, x, h3, h4⟩ := (g3 _).1 hm
        obtain ⟨a', ha', _, _⟩ := hs.so k h2
        obtain ⟨y, hy1, hy2, _⟩ := ha.get
        obtain ⟨y', hy1', hy2', _⟩ := ha'.get
        rw [hx] at hy1; injection hy1 with hy1
        rw [h3] at hy1'; injection hy1' with hy1'
        subst hy1 hy1'
        rw [h4, hy2] at hy2'
        subst hy2'
        have := ha.uniq ha'
        omega
      obtain ⟨A, B, e, e1, e2, e3⟩ := into_spec g1 hn (by omega)
      simp only [cond_true]
      rw [e3]
      refine RB.ret ⟨(e ▸ g1 : Asc (A ++ B)).ins e1 e2, by rw [e] at g2; simp at g2 ⊢; omega, fun m => ?_⟩
      have : m ∈ A ++ l[K].Name :: B ↔ m = l[K].Name ∨ m ∈ r := by rw [e]; simp only [List.mem_append, List.mem_cons]; exact ⟨fun h => by rcases h with h | h | h <;> simp [h], fun h => by rcases h with h | h | h <;> simp [h]⟩
      rw [this, g3]
      constructor
      · rintro (rfl | ⟨k, h1, h2⟩)
        · exact ⟨K, by omega, hb, _, hx, rfl⟩
        · exact ⟨k, by omega, h2⟩
      · rintro ⟨k, h1, h2, x, h3, h4⟩
        by_cases e : k = K
        · subst e
          rw [hx] at h3; injection h3 with h3
          exact .inl (by rw [h3]; exact h4.symm)
        · exact .inr ⟨k, by omega, h2, x, h3, h4⟩
  · rintro r ⟨h1, h2⟩
    refine RB.ret ⟨fun hn => ⟨h1, fun m => ?_⟩, fun hn => ?_⟩
    · rw [h2]
      constructor
      · rintro ⟨k, g1, g2, x, g3, g4⟩
        obtain ⟨a, ha, hr, _⟩ := hs.so k g2
        obtain ⟨y, hy1, hy2, _⟩ := ha.get
        rw [g3] at hy1; injection hy1 with hy1
        subst hy1
        rw [← g4, hy2]
        exact hr
      · intro hr
        have hm : has l m := by cases hr with | self => exact hn | step _ _ h => exact h
        obtain ⟨j, hj, hf⟩ := closed_all hs hc m hr hm
        obtain ⟨y, hy1, hy2, _⟩ := hj.get
        exact ⟨j, hj.lt, hf, y, hy1, hy2⟩
    · cases r with
      | nil => rfl
      | cons m r =>
        obtain ⟨k, g1, g2, _⟩ := (h2 m).1 (by simp)
        obtain ⟨_, _, _, hh⟩ := hs.so k g2
        exact absurd hh hn
theorem contains_has (xs : List ByteArray) (n : ByteArray) : slices_Contains_string xs n = registrarref14_Has xs n := by
  obtain ⟨a, ha, ha'⟩ := contains_eq xs n
  obtain ⟨b, hb, hb'⟩ := has_eq xs n
  rw [ha, hb, bool_iff ha' hb']
/-! ### All, and whether a role is another one -/
theorem all_same {l : List Role} (h : Sm l) (n : ByteArray) : member_All l n = registrarref18_All l n := by
  obtain ⟨a, ha, ga⟩ := all_eq (n := n) h.1 h.2.1 h.2.2
  obtain ⟨b, hb, gb⟩ := rall_eq (n := n) h.1 h.2.1
  rw [ha, hb, ga.uniq gb]
theorem is_same {l : List Role} (h : Sm l) (n o : ByteArray) : member_Is l n o = registrarref18_Is l n o := by
  unfold member_Is registrarref18_Is
  rw [all_same h]
  simp only [contains_has]
theorem few_spec (l : List Role) : Ret (registrarref18_Few l) (fun b => b = true → l.length ≤ 12 ∧ (∀ x ∈ l, x.In.length ≤ 12) ∧ (∀ x ∈ l, x.Name.size ≤ 100) ∧ ∀ x ∈ l, ∀ s ∈ x.In, s.size ≤ 100) := by
  unfold registrarref18_Few
  refine RB.cond (fun _ => RB.ret (fun h => by cases h)) (fun h0 => ?_)
  have h0 : l.length ≤ 12 := by simp at h0; omega
  refine RB.bind (forN_ret (fun k _ => ∀ x ∈ l.take k, x.In.length ≤ 12 ∧ x.Name.size ≤ 100 ∧ ∀ s ∈ x.In, s.size ≤ 100) (Q := fun b => b = false) (by simp) ?_) ?_
  · rintro k _ hk g
    have hx : l[k]? = some l[k] := List.getElem?_eq_getElem hk
    simp only [idx_nat, hx, Option.bind_some]
    refine RB.bind (R := fun b => b = false → l[k].In.length ≤ 12 ∧ l[k].Name.size ≤ 100) (RB.cond (fun _ => RB.ret (fun h => by cases h)) (fun h1 => RB.ret (fun h2 => by simp at h1 h2; omega))) ?_
    intro b hb
    refine RB.cond (fun _ => RB.ret rfl) (fun hb2 => ?_)
    have hb := hb hb2
    refine RB.bind (R := fun t => t = .inl false ∨ (t = .inr () ∧ ∀ s ∈ l[k].In, s.size ≤ 100)) (loopO_rb (fun (s : Int) => ∃ i : Nat, s = i ∧ i ≤ l[k].In.length ∧ ∀ s ∈ l[k].In.take i, s.size ≤ 100) (fun s => l[k].In.length - s.toNat) ?_ ⟨0, rfl, by omega, by simp⟩) ?_
    · rintro s ⟨i, rfl, hi, hh⟩
      by_cases hlt : i < l[k].In.length
      · rw [show decide ((i : Int) < (l[k].In.length : Int)) = true by simp [hlt]]
        have hz : l[k].In[i]? = some l[k].In[i] := List.getElem?_eq_getElem hlt
        simp only [cond_true, idx_nat, hz, Option.bind_some]
        refine RB.cond (fun _ => RB.ret (.inl rfl)) (fun h3 => RB.ret ⟨⟨i + 1, by rw [w64_id (by omega) (by omega)]; rfl, hlt, fun s hs => ?_⟩, by rw [w64_id (by omega) (by omega)]; omega⟩)
        rw [take_snoc hz, List.mem_append, List.mem_singleton] at hs
        rcases hs with hs | rfl
        · exact hh s hs
        · simp at h3; omega
      · rw [show decide ((i : Int) < (l[k].In.length : Int)) = false by simp; omega]
        refine RB.ret (.inr ⟨rfl, fun s hs => hh s ?_⟩)
        rw [List.take_of_length_le (by omega)]
        exact hs
    · rintro t (rfl | ⟨rfl, hh⟩)
      · exact RB.ret rfl
      · refine RB.ret fun x hx' => ?_
        rw [take_snoc hx, List.mem_append, List.mem_singleton] at hx'
        rcases hx' with hx' | rfl
        · exact g x hx'
        · exact ⟨hb.1, hb.2, hh⟩
  · rintro t ht
    cases t with
    | inl u =>
      rw [List.take_length] at ht
      exact RB.ret fun _ => ⟨h0, fun x hx => (ht x hx).1, fun x hx => (ht x hx).2.1, fun x hx => (ht x hx).2.2⟩
    | inr b => exact RB.ret fun h => by rw [ht] at h; cases h
end Go.Proofs.YthndadengamanaaGreat
