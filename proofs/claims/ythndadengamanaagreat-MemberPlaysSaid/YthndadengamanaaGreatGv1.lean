/- The frame of the walks: partial frames, the weakest precondition over them, a region's operations one by one. Conditions: none. -/
import Derived.Deep.AppendSrc
import Derived.KernelRfl
import Derived.Deep.Draws
namespace Go.Gv
open Go

theorem least_ex {p : Nat → Prop} (h : ∃ k, p k) : ∃ k, p k ∧ ∀ j, p j → k ≤ j := by
  obtain ⟨k, hk⟩ := h
  induction k using Nat.strongRecOn with
  | _ k ih =>
    by_cases hj : ∃ j, j < k ∧ p j
    · obtain ⟨j, hlt, hp⟩ := hj
      exact ih j hlt hp
    · exact ⟨k, hk, fun j hp => Nat.le_of_not_lt fun hlt => hj ⟨j, hlt, hp⟩⟩
noncomputable def least {p : Nat → Prop} (h : ∃ k, p k) : Nat := Classical.choose (least_ex h)
theorem least_spec {p : Nat → Prop} (h : ∃ k, p k) : p (least h) := (Classical.choose_spec (least_ex h)).1
theorem least_le {p : Nat → Prop} (h : ∃ k, p k) {j : Nat} (hj : p j) : least h ≤ j := (Classical.choose_spec (least_ex h)).2 j hj

/-! ### Frames -/
abbrev Fr := List (Nat × Value)
def lk : Fr → Nat → Option Value
  | [], _ => none
  | (j, v) :: r, i => bif Nat.beq i j then some v else lk r i
def ev (fr : Fr) : Operand → Value
  | .tmp t => (lk fr t).getD undef
  | .const v => v
  | .global g => .pointer (some ⟨g, 0, none⟩)
  | .func f => .func (.func f) #[] #[]
def has (fr : Fr) : Operand → Bool
  | .tmp t => (lk fr t).isSome
  | _ => true
def hasAll (fr : Fr) (xs : List Operand) : Bool := xs.all (has fr)

/-- An activation agrees with a partial frame. -/
structure Ag (n : Nat) (fr : Fr) (a : Act) : Prop where
  defers : a.defers = []
  size : a.tmps.size = n
  slots : ∀ i v, lk fr i = some v → a.tmps.getD i undef = v

theorem Ag.ev {n : Nat} {fr : Fr} {a : Act} (h : Ag n fr a) {x : Operand} (hx : has fr x = true) : a.eval x = ev fr x := by
  cases x with
  | tmp t =>
    simp only [has, Option.isSome_iff_exists] at hx
    obtain ⟨v, hv⟩ := hx
    simp [Act.eval, Gv.ev, hv, h.slots t v hv]
  | _ => rfl

theorem lk_cons (d : Nat) (v : Value) (fr : Fr) (i : Nat) : lk ((d, v) :: fr) i = if i = d then some v else lk fr i := by
  simp only [lk]
  by_cases h : i = d
  · subst h; simp
  · have : Nat.beq i d = false := by
      cases hb : Nat.beq i d with
      | false => rfl
      | true => exact absurd (Nat.eq_of_beq_eq_true hb) h
    simp [this, h]

/-- What an operation leaves in its slot. -/
def pt (fr : Fr) : Option Tmp → Value → Fr
  | some d, v => (d, v) :: fr
  | none, _ => fr
def fits (n : Nat) : Option Tmp → Bool
  | some d => Nat.blt d n
  | none => true

theorem Ag.put {n : Nat} {fr : Fr} {a : Act} (h : Ag n fr a) {d : Option Tmp} (hd : fits n d = true) (v : Value) : Ag n (pt fr d v) (a.put d v) := by
  cases d with
  | none => exact h
  | some d =>
    have hlt : d < n := by
      have h2 : Nat.ble (d + 1) n = true := hd
      exact Nat.le_of_ble_eq_true h2
    refine ⟨h.defers, by simp [Act.put, h.size], fun i u hi => ?_⟩
    simp only [pt, lk_cons] at hi
    simp only [Act.put, Array.getD_eq_getD_getElem?, Array.getElem?_setIfInBounds]
    by_cases he : d = i
    · subst he
      simp at hi
      subst hi
      simp [h.size, hlt]
    · rw [if_neg (fun e => he e.symm)] at hi
      rw [if_neg he]
      have := h.slots i u hi
      rwa [Array.getD_eq_getD_getElem?] at this

theorem Ag.weaken {n : Nat} {fr fr' : Fr} {a : Act} (h : Ag n fr a) (hs : ∀ i v, lk fr' i = some v → lk fr i = some v) : Ag n fr' a :=
  ⟨h.defers, h.size, fun i v hv => h.slots i v (hs i v hv)⟩

/-- Each entry of the smaller frame stands in the greater one. -/
def Sub (fr' fr : Fr) : Prop := ∀ p ∈ fr', lk fr p.1 = some p.2
theorem Sub.lk {fr' fr : Fr} (h : Sub fr' fr) : ∀ i v, Gv.lk fr' i = some v → Gv.lk fr i = some v := by
  induction fr' with
  | nil => intro i v hv; cases hv
  | cons p r ih =>
    obtain ⟨d, u⟩ := p
    intro i v hv
    rw [lk_cons] at hv
    by_cases he : i = d
    · subst he
      simp at hv
      subst hv
      exact h (i, u) (by simp)
    · rw [if_neg he] at hv
      exact ih (fun q hq => h q (by simp [hq])) i v hv
theorem Sub.nil {fr : Fr} : Sub [] fr := fun _ h => by cases h
theorem Sub.cons {fr' fr : Fr} {d : Nat} {v : Value} (h : Gv.lk fr d = some v) (hr : Sub fr' fr) : Sub ((d, v) :: fr') fr := by
  intro p hp
  cases hp with
  | head => exact h
  | tail _ hm => exact hr p hm

/-! ### Code -/
def W (P : Program) (n : Nat) (c : Code) (Q : Exit → Act → World → Prop) (fr : Fr) (w : World) : Prop := ∀ a, Ag n fr a → c.wp P Q a w
def En (n : Nat) (Q : Exit → Act → World → Prop) (e : Exit) (fr : Fr) (w : World) : Prop := ∀ a, Ag n fr a → Q e a w
/-- What stands behind. -/
def nx (P : Program) (c : Code) (Q : Exit → Act → World → Prop) : Exit → Act → World → Prop := Exit.then (fun a w => c.wp P Q a w) Q

section
variable {P : Program} {n : Nat} {Q : Exit → Act → World → Prop} {fr : Fr} {w : World}

theorem W.weaken {c : Code} {fr' : Fr} (h : W P n c Q fr' w) (hs : Sub fr' fr) : W P n c Q fr w := fun a ha => h a (ha.weaken hs.lk)
theorem En.weaken {e : Exit} {fr' : Fr} (h : En n Q e fr' w) (hs : Sub fr' fr) : En n Q e fr w := fun a ha => h a (ha.weaken hs.lk)
theorem W.seq {x y : Code} (h : W P n x (nx P y Q) fr w) : W P n (.seq x y) Q fr w := fun a ha => wp_seq (h a ha)
theorem En.next {y : Code} (h : W P n y Q fr w) : En n (nx P y Q) .normal fr w := fun a ha => h a ha
theorem W.skip (h : En n Q .normal fr w) : W P n .skip Q fr w := fun a ha => wp_skip (h a ha)
theorem W.label {l : Nat} (h : En n Q .normal fr w) : W P n (.label l) Q fr w := fun a ha => wp_label (h a ha)
theorem W.ret (h : En n Q .ret fr w) : W P n .ret Q fr w := fun a ha => wp_ret (h a ha)
theorem W.exit {id : Nat} (h : En n Q (.exit id) fr w) : W P n (.exit id) Q fr w := fun a ha => wp_exit (h a ha)
theorem W.block {id : Nat} {c : Code} (h : W P n c (Exit.inBlock id Q) fr w) : W P n (.block id c) Q fr w := fun a ha => wp_block (h a ha)
theorem En.nx_exit {y : Code} {id : Nat} (h : En n Q (.exit id) fr w) : En n (nx P y Q) (.exit id) fr w := fun a ha => h a ha
theorem En.nx_ret {y : Code} (h : En n Q .ret fr w) : En n (nx P y Q) .ret fr w := fun a ha => h a ha
theorem En.in_normal {id : Nat} (h : En n Q .normal fr w) : En n (Exit.inBlock id Q) .normal fr w := fun a ha => h a ha
theorem En.in_ret {id : Nat} (h : En n Q .ret fr w) : En n (Exit.inBlock id Q) .ret fr w := fun a ha => h a ha
theorem En.in_hit {id : Nat} (h : En n Q .normal fr w) : En n (Exit.inBlock id Q) (.exit id) fr w := fun a ha => by
  show (if id = id then _ else _)
  rw [if_pos rfl]
  exact h a ha
theorem En.in_miss {id id' : Nat} (hne : Nat.beq id' id = false) (h : En n Q (.exit id') fr w) : En n (Exit.inBlock id Q) (.exit id') fr w := fun a ha => by
  show (if id' = id then _ else _)
  rw [if_neg (fun e => by rw [e, Nat.beq_refl] at hne; cases hne)]
  exact h a ha
theorem W.cond {c : Operand} {x y : Code} {b : Bool} (hc : ev fr c = .bool b) (hh : has fr c = true)
    (ht : b = true → W P n x Q fr w) (hf : b = false → W P n y Q fr w) : W P n (.cond c x y) Q fr w :=
  fun a ha => wp_cond_split ((ha.ev hh).trans hc) (fun e => ht e a ha) (fun e => hf e a ha)
open Classical in
/-- A loop by a ghost that each round lowers. -/
theorem wp_loop_ghost {c : Code} {a : Act} (J : Nat → Act → World → Prop) {k : Nat} (h0 : J k a w)
    (round : ∀ k a w, J k a w → c.wp P (Exit.then (fun a' w' => ∃ k', k' < k ∧ J k' a' w') Q) a w) : (Code.loop c).wp P Q a w := by
  refine wp_loop (fun a w => ∃ k, J k a w) (fun a w => if h : ∃ k, J k a w then least h else 0) ⟨k, h0⟩ ?_
  intro a w hI
  have hk := least_spec hI
  refine wp_mono (round _ a w hk) ?_
  intro e a' w' hq
  cases e with
  | normal =>
    obtain ⟨k', hlt, hJ⟩ := hq
    refine ⟨⟨k', hJ⟩, ?_⟩
    have h1 : ∃ k, J k a' w' := ⟨k', hJ⟩
    simp only [dif_pos h1, dif_pos hI]
    exact Nat.lt_of_le_of_lt (least_le h1 hJ) hlt
  | _ => exact hq
end

/-! ### Loops of plain functions -/
/-- k rounds at most. -/
def it {σ τ : Type} (step : σ → Option (σ ⊕ τ)) : Nat → σ → Option τ
  | 0, _ => none
  | k + 1, s => (step s).bind fun | .inl s' => it step k s' | .inr t => some t
open Classical in
/-- As many rounds as it takes. -/
noncomputable def loopO {σ τ : Type} (step : σ → Option (σ ⊕ τ)) (s : σ) : Option τ :=
  if h : ∃ k, (it step k s).isSome then it step (least h) s else none
theorem it_mono {σ τ : Type} {step : σ → Option (σ ⊕ τ)} {t : τ} : ∀ {k m : Nat} {s : σ}, it step k s = some t → k ≤ m → it step m s = some t
  | 0, _, _, h, _ => by cases h
  | k + 1, 0, _, _, hm => by omega
  | k + 1, m + 1, s, h, hm => by
    simp only [it] at h ⊢
    cases hs : step s with
    | none => rw [hs] at h; cases h
    | some x =>
      rw [hs] at h
      cases x with
      | inl s' => exact it_mono (k := k) (m := m) h (by omega)
      | inr t' => exact h
theorem loopO_some {σ τ : Type} {step : σ → Option (σ ⊕ τ)} {s : σ} {t : τ} : loopO step s = some t ↔ ∃ k, it step k s = some t := by
  unfold loopO
  constructor
  · intro h
    split at h
    · exact ⟨_, h⟩
    · cases h
  · rintro ⟨k, hk⟩
    have h : ∃ k, (it step k s).isSome := ⟨k, by rw [hk]; rfl⟩
    rw [dif_pos h]
    obtain ⟨u, hu⟩ := Option.isSome_iff_exists.1 (least_spec h)
    have h1 := it_mono hu (Nat.le_max_left _ k)
    have h2 := it_mono hk (Nat.le_max_right (least h) k)
    rw [hu]
    rw [h1] at h2
    exact h2
theorem loopO_next {σ τ : Type} {step : σ → Option (σ ⊕ τ)} {s s' : σ} (h : step s = some (.inl s')) : loopO step s = loopO step s' := by
  apply Option.ext
  intro t
  rw [loopO_some, loopO_some]
  constructor
  · rintro ⟨k, hk⟩
    cases k with
    | zero => cases hk
    | succ k => simp only [it, h, Option.bind_some] at hk; exact ⟨k, hk⟩
  · rintro ⟨k, hk⟩
    exact ⟨k + 1, by simp only [it, h, Option.bind_some]; exact hk⟩
theorem loopO_stop {σ τ : Type} {step : σ → Option (σ ⊕ τ)} {s : σ} {t : τ} (h : step s = some (.inr t)) : loopO step s = some t :=
  loopO_some.2 ⟨1, by simp only [it, h, Option.bind_some]⟩
/-- A loop by a relation of its states: what has been told of the first holds of what comes out. -/
theorem loopO_of {σ τ : Type} {step : σ → Option (σ ⊕ τ)} (I : σ → Prop) (R : τ → Prop) (μ : σ → Nat)
    (hs : ∀ s, I s → (∃ s', step s = some (.inl s') ∧ I s' ∧ μ s' < μ s) ∨ (∃ t, step s = some (.inr t) ∧ R t)) :
    ∀ s, I s → ∃ t, loopO step s = some t ∧ R t := by
  intro s
  generalize hm : μ s = m
  induction m using Nat.strongRecOn generalizing s with
  | _ m ih =>
    intro hI
    rcases hs s hI with ⟨s', h, hI', hlt⟩ | ⟨t, h, hR⟩
    · obtain ⟨t, ht, hR⟩ := ih (μ s') (hm ▸ hlt) s' rfl hI'
      exact ⟨t, by rw [loopO_next h]; exact ht, hR⟩
    · exact ⟨t, loopO_stop h, hR⟩

/-- n rounds, counted from i. -/
def forN {σ τ : Type} (step : Nat → σ → Option (σ ⊕ τ)) : Nat → Nat → σ → Option (σ ⊕ τ)
  | 0, _, s => some (.inl s)
  | n + 1, i, s => (step i s).bind fun | .inl s' => forN step n (i + 1) s' | .inr t => some (.inr t)
/-- The same where nothing leaves the rounds. -/
def forE {σ : Type} (step : Nat → σ → Option σ) : Nat → Nat → σ → Option σ
  | 0, _, s => some s
  | n + 1, i, s => (step i s).bind fun s' => forE step n (i + 1) s'

section
variable {P : Program} {n : Nat} {Q : Exit → Act → World → Prop} {fr : Fr} {w : World}
/-- Where a round ends. -/
def Rd (n : Nat) (Inv : Fr → World → Prop) (Q : Exit → Act → World → Prop) : Exit → Act → World → Prop :=
  Exit.then (fun a w => ∃ fr, Ag n fr a ∧ Inv fr w) Q
theorem En.round {Inv : Fr → World → Prop} (h : Inv fr w) : En n (Rd n Inv Q) .normal fr w := fun a ha => ⟨fr, ha, h⟩
theorem En.rd_exit {Inv : Fr → World → Prop} {id : Nat} (h : En n Q (.exit id) fr w) : En n (Rd n Inv Q) (.exit id) fr w := fun a ha => h a ha
theorem En.rd_ret {Inv : Fr → World → Prop} (h : En n Q .ret fr w) : En n (Rd n Inv Q) .ret fr w := fun a ha => h a ha
/-- A loop that goes as a plain function's does. -/
theorem W.loopO {c : Code} {σ τ : Type} {step : σ → Option (σ ⊕ τ)} {s0 : σ} {r : τ} (hr : loopO step s0 = some r) (Inv : σ → Fr → World → Prop) (h0 : Inv s0 fr w)
    (round : ∀ s fr w, Inv s fr w → ∀ x, step s = some x → (∀ t, x = .inr t → t = r) →
      W P n c (Rd n (fun fr w => ∃ s', x = .inl s' ∧ Inv s' fr w) Q) fr w) : W P n (.loop c) Q fr w := by
  obtain ⟨k, hk⟩ := loopO_some.1 hr
  intro a ha
  refine wp_loop_ghost (fun k a w => ∃ s fr, Ag n fr a ∧ Inv s fr w ∧ it step k s = some r) (k := k) ⟨s0, fr, ha, h0, hk⟩ ?_
  rintro k a w ⟨s, fr, ha, hI, hk⟩
  cases k with
  | zero => cases hk
  | succ k =>
    simp only [it] at hk
    cases hs : step s with
    | none => rw [hs] at hk; cases hk
    | some x =>
      rw [hs] at hk
      refine wp_mono (round s fr w hI x hs ?_ a ha) ?_
      · rintro t rfl
        simpa using hk
      · intro e a' w' hq
        cases e with
        | normal =>
          obtain ⟨fr', ha', s', rfl, hI'⟩ := hq
          exact ⟨k, by omega, s', fr', ha', hI', hk⟩
        | _ => exact hq
/-- A loop that goes as n counted rounds do; behind the last one its test leaves it. -/
theorem W.forN {c : Code} {σ τ : Type} {step : Nat → σ → Option (σ ⊕ τ)} {m : Nat} {s0 : σ} {r : σ ⊕ τ} (hr : forN step m 0 s0 = some r) (Inv : Nat → σ → Fr → World → Prop) (h0 : Inv 0 s0 fr w)
    (round : ∀ i s fr w, i < m → Inv i s fr w → ∀ x, step i s = some x → (∀ t, x = .inr t → r = .inr t) →
      W P n c (Rd n (fun fr w => ∃ s', x = .inl s' ∧ Inv (i + 1) s' fr w) Q) fr w)
    (last : ∀ s fr w, Inv m s fr w → r = .inl s → W P n c (Rd n (fun _ _ => False) Q) fr w) : W P n (.loop c) Q fr w := by
  intro a ha
  refine wp_loop_ghost (fun k a w => k ≤ m + 1 ∧ 0 < k ∧ ∃ s fr, Ag n fr a ∧ Inv (m + 1 - k) s fr w ∧ Gv.forN step (k - 1) (m + 1 - k) s = some r) (k := m + 1)
    ⟨Nat.le_refl _, by omega, s0, fr, ha, by simpa using h0, by simpa using hr⟩ ?_
  rintro k a w ⟨hk1, hk2, s, fr, ha, hI, hk⟩
  obtain ⟨k, rfl⟩ : ∃ j, k = j + 1 := ⟨k - 1, by omega⟩
  have e1 : m + 1 - (k + 1) = m - k := by omega
  rw [e1] at hI hk
  simp only [Nat.add_sub_cancel] at hk
  cases k with
  | zero =>
    simp only [Gv.forN, Option.some.injEq] at hk
    refine wp_mono (last s fr w (by simpa using hI) hk.symm a ha) ?_
    intro e a' w' hq
    cases e with
    | normal => obtain ⟨_, _, hf⟩ := hq; exact hf.elim
    | _ => exact hq
  | succ k =>
    simp only [Gv.forN] at hk
    cases hs : step (m - (k + 1)) s with
    | none => rw [hs] at hk; cases hk
    | some x =>
      rw [hs] at hk
      refine wp_mono (round _ s fr w (by omega) hI x hs ?_ a ha) ?_
      · rintro t rfl
        simpa using hk.symm
      · intro e a' w' hq
        cases e with
        | normal =>
          obtain ⟨fr', ha', s', rfl, hI'⟩ := hq
          have e2 : m - (k + 1) + 1 = m - k := by omega
          rw [e2] at hI'
          refine ⟨k + 1, by omega, by omega, by omega, s', fr', ha', ?_, ?_⟩
          · have e3 : m + 1 - (k + 1) = m - k := by omega
            rw [e3]; exact hI'
          · have e3 : m + 1 - (k + 1) = m - k := by omega
            simp only [Option.bind_some] at hk
            rw [e3, Nat.add_sub_cancel, ← e2]; exact hk
        | _ => exact hq
theorem W.forE {c : Code} {σ : Type} {step : Nat → σ → Option σ} {m : Nat} {s0 r : σ} (hr : forE step m 0 s0 = some r) (Inv : Nat → σ → Fr → World → Prop) (h0 : Inv 0 s0 fr w)
    (round : ∀ i s fr w, i < m → Inv i s fr w → ∀ x, step i s = some x → W P n c (Rd n (fun fr w => Inv (i + 1) x fr w) Q) fr w)
    (last : ∀ fr w, Inv m r fr w → W P n c (Rd n (fun _ _ => False) Q) fr w) : W P n (.loop c) Q fr w := by
  intro a ha
  refine wp_loop_ghost (fun k a w => k ≤ m + 1 ∧ 0 < k ∧ ∃ s fr, Ag n fr a ∧ Inv (m + 1 - k) s fr w ∧ Gv.forE step (k - 1) (m + 1 - k) s = some r) (k := m + 1)
    ⟨Nat.le_refl _, by omega, s0, fr, ha, by simpa using h0, by simpa using hr⟩ ?_
  rintro k a w ⟨hk1, hk2, s, fr, ha, hI, hk⟩
  obtain ⟨k, rfl⟩ : ∃ j, k = j + 1 := ⟨k - 1, by omega⟩
  have e1 : m + 1 - (k + 1) = m - k := by omega
  rw [e1] at hI hk
  simp only [Nat.add_sub_cancel] at hk
  cases k with
  | zero =>
    simp only [Gv.forE, Option.some.injEq] at hk
    subst hk
    refine wp_mono (last fr w (by simpa using hI) a ha) ?_
    intro e a' w' hq
    cases e with
    | normal => obtain ⟨_, _, hf⟩ := hq; exact hf.elim
    | _ => exact hq
  | succ k =>
    simp only [Gv.forE] at hk
    cases hs : step (m - (k + 1)) s with
    | none => rw [hs] at hk; cases hk
    | some x =>
      rw [hs] at hk
      refine wp_mono (round _ s fr w (by omega) hI x hs a ha) ?_
      intro e a' w' hq
      cases e with
      | normal =>
        obtain ⟨fr', ha', hI'⟩ := hq
        have e2 : m - (k + 1) + 1 = m - k := by omega
        rw [e2] at hI'
        refine ⟨k + 1, by omega, by omega, by omega, x, fr', ha', ?_, ?_⟩
        · have e3 : m + 1 - (k + 1) = m - k := by omega
          rw [e3]; exact hI'
        · have e3 : m + 1 - (k + 1) = m - k := by omega
          simp only [Option.bind_some] at hk
          rw [e3, Nat.add_sub_cancel, ← e2]; exact hk
      | _ => exact hq
end
end Go.Gv
