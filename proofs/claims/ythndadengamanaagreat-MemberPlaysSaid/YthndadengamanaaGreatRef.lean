/- What the document's roles are all of is what is reached. Conditions: none. -/
import Derived.Test.YthndadengamanaaGreatKeep
namespace Go.Proofs.YthndadengamanaaGreat
open Go.Gv
theorem rat_spec (l : List Role) (n : ByteArray) : ((∀ y ∈ l, y.Name ≠ n) ∧ registrarref18_At l n = some (-1)) ∨ ∃ A x B, l = A ++ x :: B ∧ x.Name = n ∧ (∀ y ∈ A, y.Name ≠ n) ∧ registrarref18_At l n = some (A.length : Int) := by
  have e : registrarref18_At l n = some (match l.findIdx? (fun x => sEq x.Name n) with | some j => (j : Int) | none => -1) := by
    unfold registrarref18_At
    rw [forN_find (fun x : Role => sEq x.Name n) (fun j => (j : Int))]
    · cases l.findIdx? (fun x => sEq x.Name n) <;> rfl
    · intro j x hx
      simp only [idx_nat, hx, Option.bind_some]
      cases sEq x.Name n <;> rfl
  rw [e]
  rcases find_cases (fun x : Role => sEq x.Name n) l with ⟨h, e⟩ | ⟨A, x, B, h1, h2, h3, h4⟩
  · left
    refine ⟨fun y hy e1 => ?_, by rw [e]⟩
    have := h y hy
    rw [(keq _ _).2 e1] at this
    cases this
  · right
    refine ⟨A, x, B, h1, (keq _ _).1 h2, fun y hy e1 => ?_, by rw [h4]⟩
    have := h3 y hy
    rw [(keq _ _).2 e1] at this
    cases this
/-- The first place of a name. -/
def Fst (l : List Role) (k : Nat) (n : ByteArray) : Prop := ∃ A x B, l = A ++ x :: B ∧ x.Name = n ∧ (∀ y ∈ A, y.Name ≠ n) ∧ k = A.length
theorem Fst.get {l : List Role} {k : Nat} {n : ByteArray} (h : Fst l k n) : ∃ x, l[k]? = some x ∧ x.Name = n ∧ x ∈ l ∧ ins l n = x.In := by
  obtain ⟨A, x, B, rfl, h2, h3, rfl⟩ := h
  refine ⟨x, by simp, h2, by simp, ?_⟩
  unfold ins
  rw [List.find?_append, List.find?_eq_none.2]
  · simp [(keq _ _).2 h2]
  · intro y hy hn
    exact h3 y hy ((keq _ _).1 hn)
theorem Fst.lt {l : List Role} {k : Nat} {n : ByteArray} (h : Fst l k n) : k < l.length := by
  obtain ⟨A, x, B, rfl, h2, h3, rfl⟩ := h
  simp
theorem Fst.hs {l : List Role} {k : Nat} {n : ByteArray} (h : Fst l k n) : has l n := by
  obtain ⟨x, _, h2, h3, _⟩ := h.get
  exact ⟨x, h3, h2⟩
theorem Fst.uniq {l : List Role} {j k : Nat} {n : ByteArray} (h1 : Fst l j n) (h2 : Fst l k n) : j = k := by
  obtain ⟨A, x, B, e1, g1, g2, rfl⟩ := h1
  obtain ⟨A', x', B', e2, g1', g2', rfl⟩ := h2
  have e : A ++ x :: B = A' ++ x' :: B' := by rw [← e1, e2]
  rcases List.append_eq_append_iff.1 e with ⟨c, hc1, hc2⟩ | ⟨c, hc1, hc2⟩
  · cases c with
    | nil => simp [hc1]
    | cons z c =>
      simp only [List.cons_append, List.cons.injEq] at hc2
      exact absurd g1 (by rw [hc2.1]; exact g2' z (by rw [hc1]; simp))
  · cases c with
    | nil => simp [hc1]
    | cons z c =>
      simp only [List.cons_append, List.cons.injEq] at hc2
      exact absurd g1' (by rw [hc2.1]; exact g2 z (by rw [hc1]; simp))
theorem Fst.of_has {l : List Role} {n : ByteArray} (h : has l n) : ∃ k, Fst l k n ∧ registrarref18_At l n = some (k : Int) := by
  rcases rat_spec l n with ⟨h1, _⟩ | ⟨A, x, B, h1, h2, h3, h4⟩
  · obtain ⟨x, hx, hn⟩ := h
    exact absurd hn (h1 x hx)
  · exact ⟨A.length, ⟨A, x, B, h1, h2, h3, rfl⟩, h4⟩
theorem rat_none {l : List Role} {n : ByteArray} (h : ¬ has l n) : registrarref18_At l n = some (-1) := by
  rcases rat_spec l n with ⟨_, e⟩ | ⟨A, x, B, h1, h2, _⟩
  · exact e
  · exact absurd ⟨x, by rw [h1]; simp, h2⟩ h
theorem at_same (l : List Role) (n : ByteArray) : member_at l n = registrarref18_At l n := by
  rcases at_spec l n with ⟨h, e⟩ | ⟨A, x, B, h1, h2, h3, h4⟩
  · rw [e, rat_none]
    rintro ⟨x, hx, hn⟩
    exact h x hx hn
  · obtain ⟨k, hk, e⟩ := Fst.of_has (l := l) (n := n) ⟨x, by rw [h1]; simp, h2⟩
    rw [h4, e, hk.uniq ⟨A, x, B, h1, h2, h3, rfl⟩]
/-- Flags: who is flagged is reached. -/
structure Sd (l : List Role) (n : ByteArray) (is : List Bool) : Prop where
  len : is.length = l.length
  so : ∀ k : Nat, is[k]? = some true → ∃ a, Fst l k a ∧ Rch l n a ∧ has l n
  self : ∀ k, Fst l k n → is[k]? = some true
def Mon (a b : List Bool) : Prop := ∀ k : Nat, a[k]? = some true → b[k]? = some true
def Cl (l : List Role) (is : List Bool) : Prop := ∀ (k : Nat) (a b : ByteArray) (j : Nat), is[k]? = some true → Fst l k a → b ∈ ins l a → Fst l j b → is[j]? = some true
theorem cnt : ∀ (a b : List Bool), a.length = b.length → Mon a b → a = b ∨ a.count true < b.count true
  | [], [], _, _ => .inl rfl
  | [], _ :: _, h, _ => by cases h
  | _ :: _, [], h, _ => by cases h
  | x :: a, y :: b, h, hm => by
    have ih := cnt a b (by simpa using h) (fun k hk => by simpa using hm (k + 1) (by simpa using hk))
    have h0 := hm 0
    simp only [List.getElem?_cons_zero, Option.some.injEq] at h0
    cases x <;> cases y <;> simp_all <;> rcases ih with rfl | ih <;> omega
theorem mon_set {is : List Bool} {j : Nat} : Mon is (is.set j true) := by
  intro k hk
  rw [List.getElem?_set]
  split
  · rename_i e
    subst e
    have := (List.getElem?_eq_some_iff.1 hk).1
    simp [this]
  · exact hk
theorem Sd.set {l : List Role} {n : ByteArray} {is : List Bool} (h : Sd l n is) {j : Nat} {b : ByteArray} (hj : Fst l j b) (hb : Rch l n b) (hn : has l n) : Sd l n (is.set j true) := by
  refine ⟨by simpa using h.len, fun k hk => ?_, fun k hk => mon_set k (h.self k hk)⟩
  rw [List.getElem?_set] at hk
  split at hk
  · rename_i e
    subst e
    exact ⟨b, hj, hb, hn⟩
  · exact h.so k hk
theorem set_at {l : List Role} {n : ByteArray} {is : List Bool} (h : Sd l n is) {j : Nat} {b : ByteArray} (hj : Fst l j b) : (is.set j true)[j]? = some true := by
  have := hj.lt
  rw [← h.len] at this
  simp [this]
theorem flag_idx {l : List Role} {n : ByteArray} {is : List Bool} (h : Sd l n is) {k : Nat} (hk : k < l.length) : ∃ b, is[k]? = some b := by
  rw [← h.len] at hk
  exact ⟨_, List.getElem?_eq_getElem hk⟩
theorem ins_has {l : List Role} {a b : ByteArray} (hb : b ∈ ins l a) : has l a := by
  cases hf : l.find? (fun x => sEq x.Name a) with
  | none => unfold ins at hb; rw [hf] at hb; cases hb
  | some y => exact ⟨y, List.mem_of_find?_eq_some hf, (keq _ _).1 (by simpa using List.find?_some hf)⟩
theorem closed_all {l : List Role} {n : ByteArray} {is : List Bool} (hs : Sd l n is) (hc : Cl l is) : ∀ a, Rch l n a → has l a → ∃ j, Fst l j a ∧ is[j]? = some true := by
  intro a ha
  induction ha with
  | self => intro hh; obtain ⟨j, hj, _⟩ := Fst.of_has hh; exact ⟨j, hj, hs.self j hj⟩
  | @step a b hr hb hh ih =>
    intro _
    obtain ⟨k', hk', hf⟩ := ih (ins_has hb)
    obtain ⟨j, hj, _⟩ := Fst.of_has hh
    exact ⟨j, hj, hc k' a b j hf hk' hb hj⟩
theorem reach_spec {l : List Role} {n : ByteArray} (hl : l.length ≤ 100) (hi : ∀ x ∈ l, x.In.length ≤ 100) : Ret (registrarref18_Reach l n) (fun is => Sd l n is ∧ Cl l is) := by
  unfold registrarref18_Reach
  refine RB.bindE (x := l.length) (by unfold mk; rw [if_pos ⟨by omega, by omega⟩]; rfl) ?_
  refine RB.bind (R := fun (r : Int) => (r = -1 ∧ ¬ has l n) ∨ ∃ k : Nat, r = k ∧ Fst l k n) ?_ ?_
  · by_cases hn : has l n
    · obtain ⟨k, hk, e⟩ := Fst.of_has hn
      exact RB.of e (.inr ⟨k, rfl, hk⟩)
    · exact RB.of (rat_none hn) (.inl ⟨rfl, hn⟩)
  intro r hr
  refine RB.bind (R := fun is => Sd l n is ∧ (has l n → 1 ≤ is.count true)) ?_ ?_
  · rcases hr with ⟨rfl, hn⟩ | ⟨k, rfl, hk⟩
    · refine RB.ret ⟨⟨by simp, fun k hk => ?_, fun k hk => absurd hk.hs hn⟩, fun h => absurd h hn⟩
      rw [List.getElem?_replicate] at hk
      split at hk <;> cases hk
    · rw [show decide ((k : Int) ≥ 0) = true by simp]
      simp only [cond_true]
      have hlt := hk.lt
      rw [idx_nat, List.getElem?_replicate, if_pos hlt]
      simp only [Option.bind_some, Int.toNat_natCast]
      have hat : ((List.replicate l.length false).set k true)[k]? = some true := by simp [hlt]
      refine RB.ret ⟨⟨by simp, fun j hj => ?_, fun j hj => ?_⟩, fun _ => ?_⟩
      · rw [List.getElem?_set] at hj
        split at hj
        · rename_i e
          subst e
          exact ⟨n, hk, .self, hk.hs⟩
        · rw [List.getElem?_replicate] at hj
          split at hj <;> cases hj
      · rw [hj.uniq hk]; exact hat
      · exact List.count_pos_iff.2 (List.mem_of_getElem? hat)
  rintro is0 ⟨hs0, hc0⟩
  refine RB.bind (R := fun is => Sd l n is ∧ Cl l is) (RB.mono (forE_ret (fun t is => Sd l n is ∧ (Cl l is ∨ (has l n → t + 1 ≤ is.count true))) ⟨hs0, .inr hc0⟩ ?_) ?_) (fun is h => RB.ret h)
  · rintro t is ht ⟨hs, hc⟩
    refine RB.bind (R := fun is' => Sd l n is' ∧ Mon is is' ∧ ∀ k, k < l.length → is[k]? = some true → ∀ a, Fst l k a → ∀ b ∈ ins l a, ∀ j, Fst l j b → is'[j]? = some true) (forE_ret (fun K is' => Sd l n is' ∧ Mon is is' ∧ ∀ k, k < K → is[k]? = some true → ∀ a, Fst l k a → ∀ b ∈ ins l a, ∀ j, Fst l j b → is'[j]? = some true) ⟨hs, fun k hk => hk, fun k hk => absurd hk (by omega)⟩ ?_) ?_
    · rintro K s hK ⟨g1, g2, g3⟩
      obtain ⟨x, hx⟩ : ∃ x, l[K]? = some x := ⟨_, List.getElem?_eq_getElem hK⟩
      have hxl : x.In.length ≤ 100 := hi x (List.mem_of_getElem? hx)
      refine RB.bind (R := fun s' => Sd l n s' ∧ Mon s s' ∧ (s[K]? = some true → ∀ b ∈ x.In, ∀ j, Fst l j b → s'[j]? = some true)) (loopO_rb (fun (u : Int × List Bool) => ∃ J : Nat, u.1 = J ∧ J ≤ x.In.length ∧ Sd l n u.2 ∧ Mon s u.2 ∧ ∀ b ∈ x.In.take J, ∀ j, Fst l j b → u.2[j]? = some true) (fun u => x.In.length - u.1.toNat) ?_ ⟨0, rfl, by omega, g1, fun k hk => hk, by simp⟩) ?_
      · rintro ⟨q, s'⟩ ⟨J, hJ, hJ2, f1, f2, f3⟩
        simp only at hJ f1 f2 f3
        subst hJ
        obtain ⟨bk, hbk⟩ := flag_idx f1 hK
        simp only [idx_nat, hbk, hx, Option.bind_some]
        cases bk with
        | false =>
          simp only [cond_false, Option.bind_some]
          refine RB.ret ⟨f1, f2, fun hh => ?_⟩
          have := f2 K hh
          rw [hbk] at this
          cases this
        | true =>
          simp only [cond_true, Option.bind_some]
          by_cases hlt : J < x.In.length
          · rw [show decide ((J : Int) < (x.In.length : Int)) = true by simp [hlt]]
            have hb : x.In[J]? = some x.In[J] := List.getElem?_eq_getElem hlt
            simp only [cond_true, idx_nat, hb, Option.bind_some]
            obtain ⟨a, ha1, ha2, ha3⟩ := f1.so K hbk
            obtain ⟨x', hx', hn', _, hin⟩ := ha1.get
            rw [hx] at hx'
            injection hx' with hx'
            subst hx'
            by_cases hh : has l x.In[J]
            · obtain ⟨k2, hk2, e2⟩ := Fst.of_has hh
              rw [e2]
              obtain ⟨b2, hb2⟩ := flag_idx f1 hk2.lt
              simp only [Option.bind_some, idx_nat, hb2]
              rw [show decide ((k2 : Int) ≥ 0) = true by simp]
              simp only [cond_true, Option.bind_some, Int.toNat_natCast]
              refine RB.ret ⟨⟨J + 1, ?_, hlt, f1.set hk2 (.step ha2 (by rw [hin]; exact List.getElem_mem hlt) hh) ha3, fun k hk => mon_set k (f2 k hk), ?_⟩, ?_⟩
              · simp only; rw [w64_id (by omega) (by omega)]; rfl
              · intro b hb3 j hj
                rw [take_snoc hb, List.mem_append, List.mem_singleton] at hb3
                rcases hb3 with hb3 | rfl
                · exact mon_set j (f3 b hb3 j hj)
                · rw [hj.uniq hk2]; exact set_at f1 hk2
              · simp only; rw [w64_id (by omega) (by omega)]; omega
            · rw [rat_none hh]
              simp only [Option.bind_some]
              rw [show decide ((-1 : Int) ≥ 0) = false by decide]
              simp only [cond_false, Option.bind_some]
              refine RB.ret ⟨⟨J + 1, ?_, hlt, f1, f2, ?_⟩, ?_⟩
              · simp only; rw [w64_id (by omega) (by omega)]; rfl
              · intro b hb3 j hj
                rw [take_snoc hb, List.mem_append, List.mem_singleton] at hb3
                rcases hb3 with hb3 | rfl
                · exact f3 b hb3 j hj
                · exact absurd hj.hs hh
              · simp only; rw [w64_id (by omega) (by omega)]; omega
          · rw [show decide ((J : Int) < (x.In.length : Int)) = false by simp; omega]
            simp only [cond_false]
            refine RB.ret ⟨f1, f2, fun _ b hb => f3 b ?_⟩
            rw [List.take_of_length_le (by omega)]
            exact hb
      · rintro s' ⟨f1, f2, f3⟩
        refine RB.ret ⟨f1, fun k hk => f2 k (g2 k hk), fun k hk hf a ha b hb j hj => ?_⟩
        by_cases e : k = K
        · subst e
          obtain ⟨x', hx', hn', _, hin⟩ := ha.get
          rw [hx] at hx'
          injection hx' with hx'
          subst hx'
          exact f3 (g2 _ hf) b (by rw [← hin]; exact hb) j hj
        · exact f2 j (g3 k (by omega) hf a ha b hb j hj)
    · rintro is' ⟨g1, g2, g3⟩
      refine RB.ret ⟨g1, ?_⟩
      rcases cnt is is' (by rw [hs.len, g1.len]) g2 with rfl | hlt
      · left
        intro k a b j hk ha hb hj
        exact g3 k (by have := (List.getElem?_eq_some_iff.1 hk).1; rw [hs.len] at this; exact this) hk a ha b hb j hj
      · rcases hc with hc | hc
        · exfalso
          have : Mon is' is := by
            intro k hk
            obtain ⟨a, ha1, ha2, ha3⟩ := g1.so k hk
            obtain ⟨j, hj, hf⟩ := closed_all hs hc a ha2 ha1.hs
            rw [ha1.uniq hj]
            exact hf
          rcases cnt is' is (by rw [hs.len, g1.len]) this with e | e
          · rw [e] at hlt; omega
          · omega
        · exact .inr fun hn => by have := hc hn; omega
  · rintro is ⟨hs, hc⟩
    refine ⟨hs, ?_⟩
    rcases hc with hc | hc
    · exact hc
    · by_cases hn : has l n
      · have h1 := hc hn
        have h2 := List.count_le_length (a := true) (l := is)
        rw [hs.len] at h2
        omega
      · intro k a b j hk
        obtain ⟨_, _, _, hh⟩ := hs.so k hk
        exact absurd hh hn
end Go.Proofs.YthndadengamanaaGreat
