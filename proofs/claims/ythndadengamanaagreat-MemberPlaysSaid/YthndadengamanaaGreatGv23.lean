/- Computations by what they make sure of: where what a loop over a map leaves hangs on the order. Conditions: none. -/
import Derived.Test.YthndadengamanaaGreatGv22
namespace Go.Gv
open Go
/-- A computation, by what holds of all that it may come to. -/
abbrev M (α : Type) := (α → Prop) → Prop
section
variable {α β κ ν σ τ : Type}
def optM (o : Option α) : M α := fun Q => ∃ x, o = some x ∧ Q x
def bindM (m : M β) (f : β → M α) : M α := fun Q => m (fun x => f x Q)
def retM (x : α) : M α := fun Q => Q x
def itM (step : σ → M (σ ⊕ τ)) : Nat → σ → M τ
  | 0, _ => fun _ => False
  | k + 1, s => fun Q => step s (Sum.elim (fun s' => itM step k s' Q) Q)
def loopM (step : σ → M (σ ⊕ τ)) (s : σ) : M τ := fun Q => ∃ k, itM step k s Q
def rangeM (step : κ → ν → σ → Option (σ ⊕ τ)) (l : List (κ × ν)) (s : σ) : M (σ ⊕ τ) := fun Q => ∀ l', l'.Perm l → ∃ y, foldR step l' s = some y ∧ Q y
theorem optM_some {o : Option β} {f : β → M α} {Q : α → Prop} (h : bindM (optM o) f Q) : ∃ x, o = some x ∧ f x Q := h
theorem condM_t {b : Bool} {x y : M α} {Q : α → Prop} (hb : b = true) (h : (cond b x y) Q) : x Q := by rw [hb] at h; exact h
theorem condM_f {b : Bool} {x y : M α} {Q : α → Prop} (hb : b = false) (h : (cond b x y) Q) : y Q := by rw [hb] at h; exact h
open Classical in
/-- What comes out, if it is but one. -/
noncomputable def ofM (m : M α) : Option α := if h : ∃ r, m (fun x => x = r) then some (Classical.choose h) else none
theorem ofM_some {m : M α} {r : α} (h : ofM m = some r) : m (fun x => x = r) := by
  unfold ofM at h
  split at h
  · rename_i hx
    injection h with h
    rw [← h]
    exact Classical.choose_spec hx
  · cases h
/-- Where all that comes out is one and the same. -/
theorem ofM_eq {m : M α} {r : α} (h : m (fun x => x = r)) (hm : ∀ Q Q' : α → Prop, m Q → m Q' → ∃ x, Q x ∧ Q' x) : ofM m = some r := by
  unfold ofM
  have hx : ∃ r, m (fun x => x = r) := ⟨r, h⟩
  rw [dif_pos hx]
  obtain ⟨x, h1, h2⟩ := hm _ _ (Classical.choose_spec hx) h
  rw [← h1, ← h2]
end
section
variable {κ ν σ τ : Type} {P : Program} {n : Nat} {Q : Exit → Act → World → Prop} {fr : Fr} {w : World}
theorem W.loopM {c : Code} {step : σ → M (σ ⊕ τ)} {s0 : σ} {R : τ → Prop} (hr : Gv.loopM step s0 R) (Inv : σ → Fr → World → Prop) (h0 : Inv s0 fr w)
    (round : ∀ s fr w, Inv s fr w → ∀ Kx : σ → Prop, step s (Sum.elim Kx R) → W P n c (Rd n (fun fr w => ∃ s', Kx s' ∧ Inv s' fr w) Q) fr w) : W P n (.loop c) Q fr w := by
  obtain ⟨k, hk⟩ := hr
  intro a ha
  refine wp_loop_ghost (fun k a w => ∃ s fr, Ag n fr a ∧ Inv s fr w ∧ itM step k s R) (k := k) ⟨s0, fr, ha, h0, hk⟩ ?_
  rintro k a w ⟨s, fr, ha, hI, hk⟩
  cases k with
  | zero => exact hk.elim
  | succ k =>
    refine wp_mono (round s fr w hI (fun s' => itM step k s' R) hk a ha) ?_
    intro e a' w' hq
    cases e with
    | normal =>
      obtain ⟨fr', ha', s', h1, hI'⟩ := hq
      exact ⟨k, by omega, s', fr', ha', hI', h1⟩
    | _ => exact hq
theorem W.rangeM {c : Code} {step : κ → ν → σ → Option (σ ⊕ τ)} {l : List (κ × ν)} {s0 : σ} {R : σ ⊕ τ → Prop} (hr : Gv.rangeM step l s0 R) (Inv : List (κ × ν) → σ → Fr → World → Prop) (h0 : Inv l s0 fr w)
    (round : ∀ rem s fr w, Inv rem s fr w → (∀ k x rem', rem.Perm ((k, x) :: rem') → ∃ y, step k x s = some y ∧ ∀ t, y = .inr t → R (.inr t)) → (rem = [] → R (.inl s)) →
      W P n c (Rd n (fun fr w => ∃ k x rem' s', rem.Perm ((k, x) :: rem') ∧ step k x s = some (.inl s') ∧ Inv rem' s' fr w) Q) fr w) : W P n (.loop c) Q fr w := by
  intro a ha
  refine wp_loop_ghost (fun k a w => ∃ vis rem s fr, Ag n fr a ∧ Inv rem s fr w ∧ rem.length = k ∧ (vis ++ rem).Perm l ∧ foldR step vis s0 = some (.inl s)) (k := l.length)
    ⟨[], l, s0, fr, ha, h0, rfl, List.Perm.refl _, rfl⟩ ?_
  rintro k a w ⟨vis, rem, s, fr, ha, hI, rfl, hp, hf⟩
  refine wp_mono (round rem s fr w hI ?_ ?_ a ha) ?_
  · intro k x rem' hrem
    obtain ⟨y, h1, h2⟩ := hr (vis ++ (k, x) :: rem') ((List.Perm.append_left vis hrem.symm).trans hp)
    rw [foldR_app hf] at h1
    simp only [foldR] at h1
    cases hs : step k x s with
    | none => rw [hs] at h1; cases h1
    | some y' =>
      rw [hs] at h1
      refine ⟨y', rfl, ?_⟩
      rintro t rfl
      simp only [Option.bind_some, Option.some.injEq] at h1
      subst h1
      exact h2
  · rintro rfl
    obtain ⟨y, h1, h2⟩ := hr vis (by simpa using hp)
    rw [hf] at h1
    injection h1 with h1
    subst h1
    exact h2
  · intro e a' w' hq
    cases e with
    | normal =>
      obtain ⟨fr', ha', k, x, rem', s', hrem, hst, hI'⟩ := hq
      refine ⟨rem'.length, by rw [hrem.length_eq]; simp, vis ++ [(k, x)], rem', s', fr', ha', hI', rfl, ?_, ?_⟩
      · rw [List.append_assoc, List.singleton_append]
        exact (List.Perm.append_left vis hrem.symm).trans hp
      · rw [foldR_app hf]
        simp [foldR, hst]
    | _ => exact hq
end
/-! ### Plain laws -/
section
variable {α β κ ν σ τ : Type}
theorem loopM_inv {step : σ → M (σ ⊕ τ)} {Q : τ → Prop} (mono : ∀ s (A B : σ ⊕ τ → Prop), (∀ r, A r → B r) → step s A → step s B) (I : σ → Prop) (μ : σ → Nat) (hs : ∀ s, I s → step s (Sum.elim (fun s' => I s' ∧ μ s' < μ s) Q)) {s : σ} (h0 : I s) : loopM step s Q := by
  have key : ∀ m s, I s → μ s < m → itM step m s Q := by
    intro m
    induction m with
    | zero => intro s _ h; omega
    | succ m ih =>
      intro s h1 h2
      refine mono s _ _ ?_ (hs s h1)
      rintro (s' | t) h
      · exact ih s' h.1 (by have := h.2; omega)
      · exact h
  exact ⟨μ s + 1, key _ s h0 (by omega)⟩
theorem rangeM_inv {step : κ → ν → σ → Option (σ ⊕ τ)} {l : List (κ × ν)} {s : σ} {Q : σ ⊕ τ → Prop} (Good : List (κ × ν) → σ → Prop) (h0 : Good [] s) (hs : ∀ vis k x rem s, (vis ++ (k, x) :: rem).Perm l → Good vis s → ∃ s', step k x s = some (.inl s') ∧ Good (vis ++ [(k, x)]) s')
    (hq : ∀ vis s, vis.Perm l → Good vis s → Q (.inl s)) : rangeM step l s Q := by
  intro l' hl'
  have key : ∀ rem vis s, (vis ++ rem).Perm l → Good vis s → ∃ s', foldR step rem s = some (.inl s') ∧ Good (vis ++ rem) s' := by
    intro rem
    induction rem with
    | nil => intro vis s _ h; exact ⟨s, rfl, by simpa using h⟩
    | cons p rem ih =>
      intro vis s hp h
      obtain ⟨k, x⟩ := p
      obtain ⟨s1, e1, h1⟩ := hs vis k x rem s hp h
      obtain ⟨s2, e2, h2⟩ := ih (vis ++ [(k, x)]) s1 (by simpa using hp) h1
      refine ⟨s2, ?_, by simpa using h2⟩
      simp only [foldR]
      rw [e1]
      exact e2
  obtain ⟨s', e, h⟩ := key l' [] s (by simpa using hl') h0
  exact ⟨_, e, hq _ s' (by simpa using hl') (by simpa using h)⟩
/-- Whatever two things hold of all that comes out hold of one thing that does. -/
def Meets (m : M α) : Prop := ∀ Q Q' : α → Prop, m Q → m Q' → ∃ x, Q x ∧ Q' x
/-- What follows is made sure of, too. -/
def Mono_ (m : M α) : Prop := ∀ Q Q' : α → Prop, (∀ x, Q x → Q' x) → m Q → m Q'
theorem Meets.opt (o : Option α) : Meets (optM o) := by
  rintro Q Q' ⟨x, h1, h2⟩ ⟨y, h3, h4⟩
  rw [h1] at h3
  injection h3 with h3
  subst h3
  exact ⟨x, h2, h4⟩
theorem Meets.ret (x : α) : Meets (retM x) := fun _ _ h h1 => ⟨x, h, h1⟩
theorem Meets.bind {m : M β} {f : β → M α} (h : Meets m) (hf : ∀ x, Meets (f x)) : Meets (bindM m f) := by
  intro Q Q' h1 h2
  obtain ⟨x, h3, h4⟩ := h _ _ h1 h2
  exact hf x _ _ h3 h4
theorem Meets.cond {c : Bool} {x y : M α} (hx : Meets x) (hy : Meets y) : Meets (bif c then x else y) := by cases c <;> assumption
theorem Meets.no : Meets (fun _ => False : M α) := fun _ _ h => h.elim
theorem Meets.range (step : κ → ν → σ → Option (σ ⊕ τ)) (l : List (κ × ν)) (s : σ) : Meets (rangeM step l s) := by
  intro Q Q' h1 h2
  obtain ⟨x, h3, h4⟩ := h1 l (List.Perm.refl _)
  obtain ⟨y, h5, h6⟩ := h2 l (List.Perm.refl _)
  rw [h3] at h5
  injection h5 with h5
  subst h5
  exact ⟨x, h4, h6⟩
theorem Meets.loop {step : σ → M (σ ⊕ τ)} (h : ∀ s, Meets (step s)) (s : σ) : Meets (loopM step s) := by
  rintro Q Q' ⟨k, h1⟩ ⟨k', h2⟩
  induction k generalizing s k' with
  | zero => exact h1.elim
  | succ k ih =>
    cases k' with
    | zero => exact h2.elim
    | succ k' =>
      obtain ⟨r, h3, h4⟩ := h s _ _ h1 h2
      cases r with
      | inl s' => exact ih s' h3 k' h4
      | inr t => exact ⟨t, h3, h4⟩
theorem Mono_.opt (o : Option α) : Mono_ (optM o) := fun _ _ h ⟨x, h1, h2⟩ => ⟨x, h1, h x h2⟩
theorem Mono_.ret (x : α) : Mono_ (retM x) := fun _ _ h h1 => h x h1
theorem Mono_.bind {m : M β} {f : β → M α} (h : Mono_ m) (hf : ∀ x, Mono_ (f x)) : Mono_ (bindM m f) := fun Q Q' hq h1 => h _ _ (fun x => hf x Q Q' hq) h1
theorem Mono_.cond {c : Bool} {x y : M α} (hx : Mono_ x) (hy : Mono_ y) : Mono_ (bif c then x else y) := by cases c <;> assumption
theorem Mono_.no : Mono_ (fun _ => False : M α) := fun _ _ _ h => h
theorem Mono_.range (step : κ → ν → σ → Option (σ ⊕ τ)) (l : List (κ × ν)) (s : σ) : Mono_ (rangeM step l s) := fun _ _ hq h l' hl' => by
  obtain ⟨y, h1, h2⟩ := h l' hl'
  exact ⟨y, h1, hq y h2⟩
end
end Go.Gv
