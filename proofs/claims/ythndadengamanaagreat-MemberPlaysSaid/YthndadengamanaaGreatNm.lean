/- Whether a text is a name: the program's answer, and the document's. Conditions: none. -/
import Derived.Test.YthndadengamanaaGreatInto
namespace Go.Proofs.YthndadengamanaaGreat
open Go.Gv
def Sml (c : Int) : Prop := 97 ≤ c ∧ c ≤ 122
def Wrd (c : Int) : Prop := (97 ≤ c ∧ c ≤ 122) ∨ (48 ≤ c ∧ c ≤ 57) ∨ c = 95
/-- A text is a name. -/
def Nmd (s : ByteArray) : Prop := s.size ≤ 12 ∧ (∃ c, sAt s 0 = some c ∧ Sml c) ∧ ∀ (i : Nat) (c : Int), sAt s (i : Int) = some c → Wrd c
theorem sAt_lt {s : ByteArray} {i : Nat} {c : Int} (h : sAt s (i : Int) = some c) : i < s.size := by
  unfold sAt at h
  rw [if_pos (by omega), Int.toNat_natCast] at h
  cases hx : s[i]? with
  | none => rw [hx] at h; cases h
  | some b => exact (getElem?_eq_some_iff.1 hx).1
theorem small_iff (c : Int) : lex_small c = some (decide (c ≥ 97) && decide (c ≤ 122)) ∧ ((decide (c ≥ 97) && decide (c ≤ 122)) = true ↔ Sml c) := ⟨rfl, by unfold Sml; simp⟩
theorem one1_iff (c : Int) : ∃ b, lex_one_1 c = some b ∧ (b = true ↔ Wrd c) := by
  refine Ret.ex ?_
  unfold lex_one_1 lex_small lex_digit
  simp only [Option.bind_some]
  refine RB.bind (R := fun b => b = true ↔ Sml c ∨ (48 ≤ c ∧ c ≤ 57)) (RB.cond (fun h => RB.ret ?_) (fun h => RB.ret ?_)) (fun b hb => RB.ret ?_)
  · simp only [Bool.and_eq_true, decide_eq_true_eq] at h
    exact ⟨fun _ => .inl ⟨h.1, h.2⟩, fun _ => rfl⟩
  · have hn : ¬ Sml c := fun hs => by unfold Sml at hs; simp at h; omega
    simp only [Bool.and_eq_true, decide_eq_true_eq]
    constructor
    · rintro ⟨h1, h2⟩; exact .inr ⟨h1, h2⟩
    · rintro (h1 | h1)
      · exact absurd h1 hn
      · exact h1
  · rw [Bool.or_eq_true, hb, beq_iff_eq]
    unfold Wrd Sml
    constructor
    · rintro ((h | h) | h)
      · exact .inl h
      · exact .inr (.inl h)
      · exact .inr (.inr h)
    · rintro (h | h | h)
      · exact .inl (.inl h)
      · exact .inl (.inr h)
      · exact .inr h
theorem while_spec {s : ByteArray} (hs : s.size ≤ 100000) : Ret (lex_while s 0 12 (fun u => lex_one_1 u)) (fun r => ∃ k : Nat, r = (k : Int) ∧ k ≤ s.size ∧ k ≤ 12 ∧ (∀ (i : Nat) c, i < k → sAt s (i : Int) = some c → Wrd c) ∧ (k < s.size → k < 12 → ∀ c, sAt s (k : Int) = some c → ¬ Wrd c)) := by
  unfold lex_while
  refine RB.bind (loopO_rb (fun (q : Int) => ∃ k : Nat, q = (k : Int) ∧ k ≤ s.size ∧ k ≤ 12 ∧ ∀ (i : Nat) c, i < k → sAt s (i : Int) = some c → Wrd c) (fun q => s.size - q.toNat) ?_ ⟨0, rfl, by omega, by omega, by omega⟩) (fun r h => RB.ret h)
  rintro q ⟨k, rfl, h1, h2, h3⟩
  rw [w64_id (n := 0 + (k : Int)) (by omega) (by omega), Int.zero_add]
  by_cases hc : k < s.size ∧ k < 12
  · rw [show (decide ((k : Int) < (s.size : Int)) && decide ((k : Int) < 12)) = true by simp; omega]
    obtain ⟨c, hc2⟩ := sAt_some (s := s) (i := (k : Int)) (by omega) (by omega)
    obtain ⟨b, hb, hb2⟩ := one1_iff c
    simp only [cond_true, hc2, Option.bind_some, hb]
    cases b with
    | true =>
      refine RB.ret ⟨⟨k + 1, by rw [w64_id (by omega) (by omega)]; rfl, by omega, by omega, fun i d hi hd => ?_⟩, by rw [w64_id (by omega) (by omega)]; omega⟩
      by_cases e : i = k
      · subst e; rw [hc2] at hd; injection hd with hd; rw [← hd]; exact hb2.1 rfl
      · exact h3 i d (by omega) hd
    | false =>
      refine RB.ret ⟨k, rfl, h1, h2, h3, fun _ _ d hd hw => ?_⟩
      rw [hc2] at hd; injection hd with hd
      subst hd
      have := hb2.2 hw
      cases this
  · rw [show (decide ((k : Int) < (s.size : Int)) && decide ((k : Int) < 12)) = false by simp; omega]
    exact RB.ret ⟨k, rfl, h1, h2, h3, fun a b => absurd ⟨a, b⟩ hc⟩
theorem alone_spec {s : ByteArray} {k : Nat} (hk : 0 < k) : Ret (lex_alone s (k : Int)) (fun r => r = (s.size : Int) ∧ 0 < s.size ↔ k = s.size) := by
  unfold lex_alone
  refine RB.bind (R := fun b => b = true → k < s.size) (RB.cond (fun hc => ?_) (fun _ => RB.ret (fun h => by cases h))) (fun b hb => RB.cond (fun e => RB.ret ?_) (fun e => RB.ret ?_))
  · have hlt : k < s.size := by simp at hc; omega
    obtain ⟨c, hc⟩ := sAt_some (s := s) (i := (k : Int)) (by omega) (by omega)
    obtain ⟨b, hb⟩ := glued_eq c
    rw [hc]
    simp only [Option.bind_some, hb]
    exact RB.ret fun _ => hlt
  · have := hb e
    omega
  · omega
/-- A token that begins with no small letter is no name. -/
theorem other_spec {s : ByteArray} {c : Int} (hs : s.size ≤ 100000) (h0 : 0 < s.size) (hc : sAt s 0 = some c) (hn : ¬ Sml c) : Ret (lex_one s) (fun r => r.1 ≠ 1) := by
  unfold lex_one
  rw [hc]
  simp only [Option.bind_some]
  have al : ∀ (k i : Int), 0 ≤ i → k ≠ 1 → Ret ((lex_alone s i).bind fun r => some (k, r)) (fun r => r.1 ≠ 1) := fun k i h hk => by
    obtain ⟨r, hr⟩ := alone_ret (s := s) h
    rw [hr]; exact RB.ret hk
  obtain ⟨e1, e2⟩ := small_iff c
  rw [e1]
  simp only [Option.bind_some]
  refine RB.cond (fun h => absurd (e2.1 h) hn) (fun _ => ?_)
  refine RB.bind (R := fun _ => True) (RB.of rfl trivial) (fun b _ => RB.cond (fun _ => RB.bind (while_ret one2_eq hs) (fun r h => al 2 r h.1 (by decide))) (fun _ => ?_))
  refine RB.cond (fun _ => al 3 1 (by omega) (by decide)) (fun _ => ?_)
  refine RB.bind (R := fun _ => True) (RB.of rfl trivial) (fun b _ => RB.cond (fun _ => RB.bind (while_ret (fun c => ⟨_, rfl⟩) hs) (fun r h => al 3 r h.1 (by decide))) (fun _ => ?_))
  refine RB.cond (fun _ => ?_) (fun _ => RB.cond (fun _ => ?_) (fun _ => ?_))
  · obtain ⟨r, hr⟩ := quoted_ret hs
    rw [hr]; exact RB.ret (by simp)
  · refine RB.bind (R := fun b => b = false → 2 ≤ s.size) (RB.cond (fun _ => RB.ret (fun h => by cases h)) (fun hc => ?_)) (fun b hb => ?_)
    · have h2 : 2 ≤ s.size := by simp at hc; omega
      obtain ⟨c, hc⟩ := sAt_some (s := s) (i := 1) (by omega) (by omega)
      rw [hc]
      exact RB.ret fun _ => h2
    · refine RB.bind (R := fun _ => True) (RB.cond (fun _ => RB.ret trivial) (fun e => ?_)) (fun _ _ => RB.cond (fun _ => RB.ret (by decide)) (fun _ => al 5 2 (by omega) (by decide)))
      have := hb e
      obtain ⟨c, hc⟩ := sAt_some (s := s) (i := 1) (by omega) (by omega)
      rw [hc]
      exact RB.ret trivial
  · obtain ⟨r, hr⟩ := sign_ret s
    rw [hr]; exact RB.ret (by simp)
theorem size_pos {s : ByteArray} (h : sEq s (⟨#[]⟩ : ByteArray) = false) : 0 < s.size := by
  rcases Nat.eq_zero_or_pos s.size with h0 | h0
  · exfalso
    have : s = (⟨#[]⟩ : ByteArray) := by
      cases s with
      | mk d => congr 1; exact Array.eq_empty_of_size_eq_zero h0
    rw [this, keq.refl] at h
    cases h
  · exact h0
theorem Nmd.pos {s : ByteArray} (h : Nmd s) : 0 < s.size := by
  obtain ⟨_, ⟨c, hc, _⟩, _⟩ := h
  exact sAt_lt (i := 0) hc
theorem name_spec {s : ByteArray} (hs : s.size ≤ 100000) : ∃ b, lex_IsName s = some b ∧ (b = true ↔ Nmd s) := by
  refine Ret.ex ?_
  unfold lex_IsName lex_Right
  simp only
  refine RB.bind (R := fun b => b = true ↔ Nmd s) (RB.cond (fun h => by cases h) (fun _ => RB.cond (fun e => RB.ret ?_) (fun e => ?_))) (fun b hb => RB.ret hb)
  · constructor
    · intro h; cases h
    · intro h
      have := h.pos
      rw [(keq _ _).1 e] at this
      cases this
  · have h0 := size_pos e
    obtain ⟨c, hc⟩ := sAt_some (s := s) (i := 0) (by omega) (by omega)
    by_cases hsm : Sml c
    · have : Ret (lex_one s) (fun r => r.1 = 1 ∧ (r.2 = (s.size : Int) ↔ Nmd s)) := by
        unfold lex_one
        rw [hc]
        simp only [Option.bind_some]
        obtain ⟨e1, e2⟩ := small_iff c
        rw [e1]
        simp only [Option.bind_some]
        refine RB.cond (fun _ => ?_) (fun h => by rw [e2.2 hsm] at h; cases h)
        refine RB.bind (while_spec hs) ?_
        rintro r ⟨k, rfl, h1, h2, h3, h4⟩
        have hk : 0 < k := by
          rcases Nat.eq_zero_or_pos k with hk | hk
          · subst hk
            exact absurd (.inl hsm) (h4 h0 (by omega) c hc)
          · exact hk
        refine RB.bind (alone_spec hk) (fun r hr => RB.ret ⟨rfl, ?_⟩)
        have : r = (s.size : Int) ↔ k = s.size := ⟨fun h => hr.1 ⟨h, h0⟩, fun h => (hr.2 h).1⟩
        rw [this]
        constructor
        · rintro rfl
          exact ⟨h2, ⟨c, hc, hsm⟩, fun i d hd => h3 i d (sAt_lt hd) hd⟩
        · rintro ⟨g1, _, g3⟩
          rcases Nat.lt_or_ge k s.size with hlt | hge
          · obtain ⟨d, hd⟩ := sAt_some (s := s) (i := (k : Int)) (by omega) (by omega)
            exact absurd (g3 k d hd) (h4 hlt (by omega) d hd)
          · omega
      refine RB.bind this ?_
      rintro ⟨k, r⟩ ⟨g1, g2⟩
      simp only at g1 g2
      subst g1
      refine RB.ret ?_
      rw [← g2]
      simp
    · refine RB.bind (other_spec hs h0 hc hsm) ?_
      rintro ⟨k, r⟩ g1
      simp only at g1
      refine RB.ret ⟨fun h => ?_, fun h => ?_⟩
      · simp only [Bool.and_eq_true, beq_iff_eq] at h
        exact absurd h.2 g1
      · obtain ⟨_, ⟨d, hd, hds⟩, _⟩ := h
        rw [hc] at hd; injection hd with hd
        subst hd
        exact absurd hds hsm
end Go.Proofs.YthndadengamanaaGreat
