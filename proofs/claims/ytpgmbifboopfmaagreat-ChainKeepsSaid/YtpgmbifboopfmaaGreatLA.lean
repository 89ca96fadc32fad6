/- Words and rules for walks and plain laws. Conditions: none. -/
import Derived.Carry
import Derived.Deep.AppendSrc
import Derived.Deep.Draws
import Derived.Deep.Slices
import Derived.Deep.Upon
import Derived.JoinedOf
import Derived.KernelRfl
import Derived.Laws.AppendOwn
import Derived.Laws.Cover3
import Derived.Laws.Externs
import Derived.Laws.IdiomCopy
import Derived.Laws.IdiomRangeMap
import Derived.Laws.MakeOwn
import Derived.Laws.StructEq
import Derived.Lib.AppendZerosOnto
import Derived.Lib.Bytealg
import Derived.Lib.Overlaps
import Derived.LoopN
import Derived.ProofKit
import Derived.Scope
namespace Go.Gv
open Go
theorem least_ex {p : Nat → Prop} (h : ∃ k, p k) : ∃ k, p k ∧ ∀ j, p j → k ≤ j := by
  obtain ⟨k, hk⟩ := h
  induction k using Nat.strongRecOn with
  | _ k ih =>
    by_cases hj : ∃ j, j < k ∧ p j
    · obtain ⟨j, hlt, hp⟩ := hj
      exact ih j hlt hp
    · exact ⟨k, hk, fun j hp => Nat.le_of_not_lt fun hlt => hj ⟨j, hlt, hp⟩⟩
noncomputable def least {p : Nat → Prop} (h : ∃ k, p k) : Nat := Classical.choose (least_ex h)
theorem least_spec {p : Nat → Prop} (h : ∃ k, p k) : p (least h) := (Classical.choose_spec (least_ex h)).1
theorem least_le {p : Nat → Prop} (h : ∃ k, p k) {j : Nat} (hj : p j) : least h ≤ j := (Classical.choose_spec (least_ex h)).2 j hj
abbrev Fr := List (Nat × Value)
def lk : Fr → Nat → Option Value
  | [], _ => none
  | (j, v) :: r, i => bif Nat.beq i j then some v else lk r i
def ev (fr : Fr) : Operand → Value
  | .tmp t => (lk fr t).getD undef
  | .const v => v
  | .global g => .pointer (some ⟨g, 0, none⟩)
  | .func f => .func (.func f) #[] #[]
def has (fr : Fr) : Operand → Bool
  | .tmp t => (lk fr t).isSome
  | _ => true
def hasAll (fr : Fr) (xs : List Operand) : Bool := xs.all (has fr)
structure Ag (n : Nat) (fr : Fr) (a : Act) : Prop where
  defers : a.defers = []
  size : a.tmps.size = n
  slots : ∀ i v, lk fr i = some v → a.tmps.getD i undef = v
theorem Ag.ev {n : Nat} {fr : Fr} {a : Act} (h : Ag n fr a) {x : Operand} (hx : has fr x = true) : a.eval x = ev fr x := by
  cases x with
  | tmp t =>
    simp only [has, Option.isSome_iff_exists] at hx
    obtain ⟨v, hv⟩ := hx
    simp [Act.eval, Gv.ev, hv, h.slots t v hv]
  | _ => rfl
theorem lk_cons (d : Nat) (v : Value) (fr : Fr) (i : Nat) : lk ((d, v) :: fr) i = if i = d then some v else lk fr i := by
  simp only [lk]
  by_cases h : i = d
  · subst h; simp
  · have : Nat.beq i d = false := by
      cases hb : Nat.beq i d with
      | false => rfl
      | true => exact absurd (Nat.eq_of_beq_eq_true hb) h
    simp [this, h]
def pt (fr : Fr) : Option Tmp → Value → Fr
  | some d, v => (d, v) :: fr
  | none, _ => fr
def fits (n : Nat) : Option Tmp → Bool
  | some d => Nat.blt d n
  | none => true
theorem Ag.put {n : Nat} {fr : Fr} {a : Act} (h : Ag n fr a) {d : Option Tmp} (hd : fits n d = true) (v : Value) : Ag n (pt fr d v) (a.put d v) := by
  cases d with
  | none => exact h
  | some d =>
    have hlt : d < n := by
      have h2 : Nat.ble (d + 1) n = true := hd
      exact Nat.le_of_ble_eq_true h2
    refine ⟨h.defers, by simp [Act.put, h.size], fun i u hi => ?_⟩
    simp only [pt, lk_cons] at hi
    simp only [Act.put, Array.getD_eq_getD_getElem?, Array.getElem?_setIfInBounds]
    by_cases he : d = i
    · subst he
      simp at hi
      subst hi
      simp [h.size, hlt]
    · rw [if_neg (fun e => he e.symm)] at hi
      rw [if_neg he]
      have := h.slots i u hi
      rwa [Array.getD_eq_getD_getElem?] at this
theorem Ag.weaken {n : Nat} {fr fr' : Fr} {a : Act} (h : Ag n fr a) (hs : ∀ i v, lk fr' i = some v → lk fr i = some v) : Ag n fr' a :=
  ⟨h.defers, h.size, fun i v hv => h.slots i v (hs i v hv)⟩
def Sub (fr' fr : Fr) : Prop := ∀ p ∈ fr', lk fr p.1 = some p.2
theorem Sub.lk {fr' fr : Fr} (h : Sub fr' fr) : ∀ i v, Gv.lk fr' i = some v → Gv.lk fr i = some v := by
  induction fr' with
  | nil => intro i v hv; cases hv
  | cons p r ih =>
    obtain ⟨d, u⟩ := p
    intro i v hv
    rw [lk_cons] at hv
    by_cases he : i = d
    · subst he
      simp at hv
      subst hv
      exact h (i, u) (by simp)
    · rw [if_neg he] at hv
      exact ih (fun q hq => h q (by simp [hq])) i v hv
theorem Sub.nil {fr : Fr} : Sub [] fr := fun _ h => by cases h
theorem Sub.cons {fr' fr : Fr} {d : Nat} {v : Value} (h : Gv.lk fr d = some v) (hr : Sub fr' fr) : Sub ((d, v) :: fr') fr := by
  intro p hp
  cases hp with
  | head => exact h
  | tail _ hm => exact hr p hm
def W (P : Program) (n : Nat) (c : Code) (Q : Exit → Act → World → Prop) (fr : Fr) (w : World) : Prop := ∀ a, Ag n fr a → c.wp P Q a w
def En (n : Nat) (Q : Exit → Act → World → Prop) (e : Exit) (fr : Fr) (w : World) : Prop := ∀ a, Ag n fr a → Q e a w
def nx (P : Program) (c : Code) (Q : Exit → Act → World → Prop) : Exit → Act → World → Prop := Exit.then (fun a w => c.wp P Q a w) Q
section
variable {P : Program} {n : Nat} {Q : Exit → Act → World → Prop} {fr : Fr} {w : World}
theorem W.weaken {c : Code} {fr' : Fr} (h : W P n c Q fr' w) (hs : Sub fr' fr) : W P n c Q fr w := fun a ha => h a (ha.weaken hs.lk)
theorem En.weaken {e : Exit} {fr' : Fr} (h : En n Q e fr' w) (hs : Sub fr' fr) : En n Q e fr w := fun a ha => h a (ha.weaken hs.lk)
theorem W.seq {x y : Code} (h : W P n x (nx P y Q) fr w) : W P n (.seq x y) Q fr w := fun a ha => wp_seq (h a ha)
theorem ye {y : Code} (h : W P n y Q fr w) : En n (nx P y Q) .normal fr w := fun a ha => h a ha
theorem W.skip (h : En n Q .normal fr w) : W P n .skip Q fr w := fun a ha => wp_skip (h a ha)
theorem yp (h : En n Q .ret fr w) : W P n .ret Q fr w := fun a ha => wp_ret (h a ha)
theorem W.exit {id : Nat} (h : En n Q (.exit id) fr w) : W P n (.exit id) Q fr w := fun a ha => wp_exit (h a ha)
theorem yn {id : Nat} {c : Code} (h : W P n c (Exit.inBlock id Q) fr w) : W P n (.block id c) Q fr w := fun a ha => wp_block (h a ha)
theorem yo {y : Code} {id : Nat} (h : En n Q (.exit id) fr w) : En n (nx P y Q) (.exit id) fr w := fun a ha => h a ha
theorem yh {y : Code} (h : En n Q .ret fr w) : En n (nx P y Q) .ret fr w := fun a ha => h a ha
theorem yl {id : Nat} (h : En n Q .normal fr w) : En n (Exit.inBlock id Q) .normal fr w := fun a ha => h a ha
theorem yk {id : Nat} (h : En n Q .ret fr w) : En n (Exit.inBlock id Q) .ret fr w := fun a ha => h a ha
theorem yu {id : Nat} (h : En n Q .normal fr w) : En n (Exit.inBlock id Q) (.exit id) fr w := fun a ha => by
  show (if id = id then _ else _)
  rw [if_pos rfl]
  exact h a ha
theorem W.cond {c : Operand} {x y : Code} {b : Bool} (hc : ev fr c = .bool b) (hh : has fr c = true)
    (ht : b = true → W P n x Q fr w) (hf : b = false → W P n y Q fr w) : W P n (.cond c x y) Q fr w :=
  fun a ha => wp_cond_split ((ha.ev hh).trans hc) (fun e => ht e a ha) (fun e => hf e a ha)
open Classical in
theorem wp_loop_ghost {c : Code} {a : Act} (J : Nat → Act → World → Prop) {k : Nat} (h0 : J k a w)
    (round : ∀ k a w, J k a w → c.wp P (Exit.then (fun a' w' => ∃ k', k' < k ∧ J k' a' w') Q) a w) : (Code.loop c).wp P Q a w := by
  refine wp_loop (fun a w => ∃ k, J k a w) (fun a w => if h : ∃ k, J k a w then least h else 0) ⟨k, h0⟩ ?_
  intro a w hI
  have hk := least_spec hI
  refine wp_mono (round _ a w hk) ?_
  intro e a' w' hq
  cases e with
  | normal =>
    obtain ⟨k', hlt, hJ⟩ := hq
    refine ⟨⟨k', hJ⟩, ?_⟩
    have h1 : ∃ k, J k a' w' := ⟨k', hJ⟩
    simp only [dif_pos h1, dif_pos hI]
    exact Nat.lt_of_le_of_lt (least_le h1 hJ) hlt
  | _ => exact hq
end
def it {σ τ : Type} (step : σ → Option (σ ⊕ τ)) : Nat → σ → Option τ
  | 0, _ => none
  | k + 1, s => (step s).bind fun | .inl s' => it step k s' | .inr t => some t
open Classical in
noncomputable def loopO {σ τ : Type} (step : σ → Option (σ ⊕ τ)) (s : σ) : Option τ :=
  if h : ∃ k, (it step k s).isSome then it step (least h) s else none
theorem it_mono {σ τ : Type} {step : σ → Option (σ ⊕ τ)} {t : τ} : ∀ {k m : Nat} {s : σ}, it step k s = some t → k ≤ m → it step m s = some t
  | 0, _, _, h, _ => by cases h
  | k + 1, 0, _, _, hm => by omega
  | k + 1, m + 1, s, h, hm => by
    simp only [it] at h ⊢
    cases hs : step s with
    | none => rw [hs] at h; cases h
    | some x =>
      rw [hs] at h
      cases x with
      | inl s' => exact it_mono (k := k) (m := m) h (by omega)
      | inr t' => exact h
theorem loopO_some {σ τ : Type} {step : σ → Option (σ ⊕ τ)} {s : σ} {t : τ} : loopO step s = some t ↔ ∃ k, it step k s = some t := by
  unfold loopO
  constructor
  · intro h
    split at h
    · exact ⟨_, h⟩
    · cases h
  · rintro ⟨k, hk⟩
    have h : ∃ k, (it step k s).isSome := ⟨k, by rw [hk]; rfl⟩
    rw [dif_pos h]
    obtain ⟨u, hu⟩ := Option.isSome_iff_exists.1 (least_spec h)
    have h1 := it_mono hu (Nat.le_max_left _ k)
    have h2 := it_mono hk (Nat.le_max_right (least h) k)
    rw [hu]
    rw [h1] at h2
    exact h2
theorem loopO_next {σ τ : Type} {step : σ → Option (σ ⊕ τ)} {s s' : σ} (h : step s = some (.inl s')) : loopO step s = loopO step s' := by
  apply Option.ext
  intro t
  rw [loopO_some, loopO_some]
  constructor
  · rintro ⟨k, hk⟩
    cases k with
    | zero => cases hk
    | succ k => simp only [it, h, Option.bind_some] at hk; exact ⟨k, hk⟩
  · rintro ⟨k, hk⟩
    exact ⟨k + 1, by simp only [it, h, Option.bind_some]; exact hk⟩
theorem loopO_stop {σ τ : Type} {step : σ → Option (σ ⊕ τ)} {s : σ} {t : τ} (h : step s = some (.inr t)) : loopO step s = some t :=
  loopO_some.2 ⟨1, by simp only [it, h, Option.bind_some]⟩
def forN {σ τ : Type} (step : Nat → σ → Option (σ ⊕ τ)) : Nat → Nat → σ → Option (σ ⊕ τ)
  | 0, _, s => some (.inl s)
  | n + 1, i, s => (step i s).bind fun | .inl s' => forN step n (i + 1) s' | .inr t => some (.inr t)
def forE {σ : Type} (step : Nat → σ → Option σ) : Nat → Nat → σ → Option σ
  | 0, _, s => some s
  | n + 1, i, s => (step i s).bind fun s' => forE step n (i + 1) s'
section
variable {P : Program} {n : Nat} {Q : Exit → Act → World → Prop} {fr : Fr} {w : World}
def Rd (n : Nat) (Inv : Fr → World → Prop) (Q : Exit → Act → World → Prop) : Exit → Act → World → Prop :=
  Exit.then (fun a w => ∃ fr, Ag n fr a ∧ Inv fr w) Q
theorem En.round {Inv : Fr → World → Prop} (h : Inv fr w) : En n (Rd n Inv Q) .normal fr w := fun a ha => ⟨fr, ha, h⟩
theorem yq {Inv : Fr → World → Prop} {id : Nat} (h : En n Q (.exit id) fr w) : En n (Rd n Inv Q) (.exit id) fr w := fun a ha => h a ha
theorem yr {Inv : Fr → World → Prop} (h : En n Q .ret fr w) : En n (Rd n Inv Q) .ret fr w := fun a ha => h a ha
theorem ya7 {c : Code} {σ τ : Type} {step : σ → Option (σ ⊕ τ)} {s0 : σ} {r : τ} (hr : loopO step s0 = some r) (Inv : σ → Fr → World → Prop) (h0 : Inv s0 fr w)
    (round : ∀ s fr w, Inv s fr w → ∀ x, step s = some x → (∀ t, x = .inr t → t = r) →
      W P n c (Rd n (fun fr w => ∃ s', x = .inl s' ∧ Inv s' fr w) Q) fr w) : W P n (.loop c) Q fr w := by
  obtain ⟨k, hk⟩ := loopO_some.1 hr
  intro a ha
  refine wp_loop_ghost (fun k a w => ∃ s fr, Ag n fr a ∧ Inv s fr w ∧ it step k s = some r) (k := k) ⟨s0, fr, ha, h0, hk⟩ ?_
  rintro k a w ⟨s, fr, ha, hI, hk⟩
  cases k with
  | zero => cases hk
  | succ k =>
    simp only [it] at hk
    cases hs : step s with
    | none => rw [hs] at hk; cases hk
    | some x =>
      rw [hs] at hk
      refine wp_mono (round s fr w hI x hs ?_ a ha) ?_
      · rintro t rfl
        simpa using hk
      · intro e a' w' hq
        cases e with
        | normal =>
          obtain ⟨fr', ha', s', rfl, hI'⟩ := hq
          exact ⟨k, by omega, s', fr', ha', hI', hk⟩
        | _ => exact hq
theorem yap {c : Code} {σ τ : Type} {step : Nat → σ → Option (σ ⊕ τ)} {m : Nat} {s0 : σ} {r : σ ⊕ τ} (hr : forN step m 0 s0 = some r) (Inv : Nat → σ → Fr → World → Prop) (h0 : Inv 0 s0 fr w)
    (round : ∀ i s fr w, i < m → Inv i s fr w → ∀ x, step i s = some x → (∀ t, x = .inr t → r = .inr t) →
      W P n c (Rd n (fun fr w => ∃ s', x = .inl s' ∧ Inv (i + 1) s' fr w) Q) fr w)
    (last : ∀ s fr w, Inv m s fr w → r = .inl s → W P n c (Rd n (fun _ _ => False) Q) fr w) : W P n (.loop c) Q fr w := by
  intro a ha
  refine wp_loop_ghost (fun k a w => k ≤ m + 1 ∧ 0 < k ∧ ∃ s fr, Ag n fr a ∧ Inv (m + 1 - k) s fr w ∧ Gv.forN step (k - 1) (m + 1 - k) s = some r) (k := m + 1)
    ⟨Nat.le_refl _, by omega, s0, fr, ha, by simpa using h0, by simpa using hr⟩ ?_
  rintro k a w ⟨hk1, hk2, s, fr, ha, hI, hk⟩
  obtain ⟨k, rfl⟩ : ∃ j, k = j + 1 := ⟨k - 1, by omega⟩
  have e1 : m + 1 - (k + 1) = m - k := by omega
  rw [e1] at hI hk
  simp only [Nat.add_sub_cancel] at hk
  cases k with
  | zero =>
    simp only [Gv.forN, Option.some.injEq] at hk
    refine wp_mono (last s fr w (by simpa using hI) hk.symm a ha) ?_
    intro e a' w' hq
    cases e with
    | normal => obtain ⟨_, _, hf⟩ := hq; exact hf.elim
    | _ => exact hq
  | succ k =>
    simp only [Gv.forN] at hk
    cases hs : step (m - (k + 1)) s with
    | none => rw [hs] at hk; cases hk
    | some x =>
      rw [hs] at hk
      refine wp_mono (round _ s fr w (by omega) hI x hs ?_ a ha) ?_
      · rintro t rfl
        simpa using hk.symm
      · intro e a' w' hq
        cases e with
        | normal =>
          obtain ⟨fr', ha', s', rfl, hI'⟩ := hq
          have e2 : m - (k + 1) + 1 = m - k := by omega
          rw [e2] at hI'
          refine ⟨k + 1, by omega, by omega, by omega, s', fr', ha', ?_, ?_⟩
          · have e3 : m + 1 - (k + 1) = m - k := by omega
            rw [e3]; exact hI'
          · have e3 : m + 1 - (k + 1) = m - k := by omega
            simp only [Option.bind_some] at hk
            rw [e3, Nat.add_sub_cancel, ← e2]; exact hk
        | _ => exact hq
theorem ya0 {c : Code} {σ : Type} {step : Nat → σ → Option σ} {m : Nat} {s0 r : σ} (hr : forE step m 0 s0 = some r) (Inv : Nat → σ → Fr → World → Prop) (h0 : Inv 0 s0 fr w)
    (round : ∀ i s fr w, i < m → Inv i s fr w → ∀ x, step i s = some x → W P n c (Rd n (fun fr w => Inv (i + 1) x fr w) Q) fr w)
    (last : ∀ fr w, Inv m r fr w → W P n c (Rd n (fun _ _ => False) Q) fr w) : W P n (.loop c) Q fr w := by
  intro a ha
  refine wp_loop_ghost (fun k a w => k ≤ m + 1 ∧ 0 < k ∧ ∃ s fr, Ag n fr a ∧ Inv (m + 1 - k) s fr w ∧ Gv.forE step (k - 1) (m + 1 - k) s = some r) (k := m + 1)
    ⟨Nat.le_refl _, by omega, s0, fr, ha, by simpa using h0, by simpa using hr⟩ ?_
  rintro k a w ⟨hk1, hk2, s, fr, ha, hI, hk⟩
  obtain ⟨k, rfl⟩ : ∃ j, k = j + 1 := ⟨k - 1, by omega⟩
  have e1 : m + 1 - (k + 1) = m - k := by omega
  rw [e1] at hI hk
  simp only [Nat.add_sub_cancel] at hk
  cases k with
  | zero =>
    simp only [Gv.forE, Option.some.injEq] at hk
    subst hk
    refine wp_mono (last fr w (by simpa using hI) a ha) ?_
    intro e a' w' hq
    cases e with
    | normal => obtain ⟨_, _, hf⟩ := hq; exact hf.elim
    | _ => exact hq
  | succ k =>
    simp only [Gv.forE] at hk
    cases hs : step (m - (k + 1)) s with
    | none => rw [hs] at hk; cases hk
    | some x =>
      rw [hs] at hk
      refine wp_mono (round _ s fr w (by omega) hI x hs a ha) ?_
      intro e a' w' hq
      cases e with
      | normal =>
        obtain ⟨fr', ha', hI'⟩ := hq
        have e2 : m - (k + 1) + 1 = m - k := by omega
        rw [e2] at hI'
        refine ⟨k + 1, by omega, by omega, by omega, x, fr', ha', ?_, ?_⟩
        · have e3 : m + 1 - (k + 1) = m - k := by omega
          rw [e3]; exact hI'
        · have e3 : m + 1 - (k + 1) = m - k := by omega
          simp only [Option.bind_some] at hk
          rw [e3, Nat.add_sub_cancel, ← e2]; exact hk
      | _ => exact hq
end
end Go.Gv
namespace Go.Gv
open Go
abbrev Mem := Nat → Option Obj
def Mem.no : Mem := fun _ => none
def Mem.set (C : Mem) (b : Nat) (o : Obj) : Mem := fun i => if i = b then some o else C i
def one (b : Nat) (o : Obj) : Mem := Mem.no.set b o
def Mem.Le (I J : Mem) : Prop := ∀ b o, I b = some o → J b = some o
def Mem.with (I C : Mem) : Mem := fun b => match I b with | some o => some o | none => C b
theorem Mem.Le.refl (I : Mem) : I.Le I := fun _ _ h => h
theorem Mem.Le.trans {I J K : Mem} (h : I.Le J) (k : J.Le K) : I.Le K := fun b o x => k b o (h b o x)
theorem ybd (I C : Mem) : I.Le (I.with C) := fun b o h => by simp [Mem.with, h]
theorem one_at (b : Nat) (o : Obj) : one b o b = some o := by simp [one, Mem.set]
theorem one_ne {b i : Nat} {o : Obj} (h : i ≠ b) : one b o i = none := by simp [one, Mem.set, Mem.no, h]
theorem one_some {b i : Nat} {o o' : Obj} (h : one b o i = some o') : i = b ∧ o' = o := by
  by_cases e : i = b
  · subst e; rw [one_at] at h; injection h with h; exact ⟨rfl, h.symm⟩
  · rw [one_ne e] at h; cases h
def Rdb (w : World) (H : Mem) : Prop := ∀ b o, H b = some o → w.heap[b]? = some o
def Apt (C D : Mem) : Prop := ∀ b, C b = none ∨ D b = none
theorem Apt.symm {C D : Mem} (h : Apt C D) : Apt D C := fun b => (h b).symm
structure St (E w : World) (I : Mem) (Os : List Mem) : Prop where
  os : w.os = E.os
  tape : w.tape = E.tape
  output : w.output = E.output
  im : Rdb w I
  ow : ∀ C ∈ Os, Rdb w C ∧ Apt C I
  dj : Os.Pairwise Apt
section
variable {E w : World} {I : Mem} {Os : List Mem}
theorem St.rd (h : St E w I Os) {C : Mem} (hc : C ∈ Os) : Rdb w C := (h.ow C hc).1
theorem St.rd0 {C : Mem} (h : St E w I (C :: Os)) : Rdb w C := h.rd (by simp)
theorem St.drop {C : Mem} (h : St E w I (C :: Os)) : St E w I Os :=
  ⟨h.os, h.tape, h.output, h.im, fun D hd => h.ow D (by simp [hd]), (List.pairwise_cons.1 h.dj).2⟩
theorem St.sub {Os' : List Mem} (h : St E w I Os) (hs : Os'.Sublist Os) : St E w I Os' :=
  ⟨h.os, h.tape, h.output, h.im, fun D hd => h.ow D (hs.subset hd), h.dj.sublist hs⟩
theorem St.perm {Os' : List Mem} (h : St E w I Os) (hp : Os.Perm Os') : St E w I Os' :=
  ⟨h.os, h.tape, h.output, h.im, fun D hd => h.ow D (hp.mem_iff.2 hd), (hp.pairwise_iff fun h => h.symm).1 h.dj⟩
theorem St.front1 {A B : Mem} (h : St E w I (A :: B :: Os)) : St E w I (B :: A :: Os) := h.perm (.swap ..)
theorem St.front2 {A B C : Mem} (h : St E w I (A :: B :: C :: Os)) : St E w I (C :: A :: B :: Os) := h.perm ((List.Perm.cons A (.swap ..)).trans (.swap ..))
theorem St.front3 {A B C D : Mem} (h : St E w I (A :: B :: C :: D :: Os)) : St E w I (D :: A :: B :: C :: Os) :=
  h.perm (((List.Perm.cons A (List.Perm.cons B (.swap ..))).trans (.cons A (.swap ..))).trans (.swap ..))
theorem St.back2 {A B C : Mem} (h : St E w I (C :: A :: B :: Os)) : St E w I (A :: B :: C :: Os) := h.perm ((List.Perm.swap ..).trans (.cons A (.swap ..)))
theorem St.front4 {A B C D F : Mem} (h : St E w I (A :: B :: C :: D :: F :: Os)) : St E w I (F :: A :: B :: C :: D :: Os) :=
  h.perm ((((List.Perm.cons A (List.Perm.cons B (List.Perm.cons C (.swap ..)))).trans (.cons A (.cons B (.swap ..)))).trans (.cons A (.swap ..))).trans (.swap ..))
theorem St.front5 {A B C D F G : Mem} (h : St E w I (A :: B :: C :: D :: F :: G :: Os)) : St E w I (G :: A :: B :: C :: D :: F :: Os) :=
  h.perm (((List.Perm.cons A (List.Perm.cons B (List.Perm.cons C (List.Perm.cons D (.swap ..))))).trans (((List.Perm.cons A (List.Perm.cons B (List.Perm.cons C (.swap ..)))).trans (.cons A (.cons B (.swap ..)))).trans (.cons A (.swap ..)))).trans (.swap ..))
theorem St.drew (h : St E w I Os) : St E w.drew I Os := ⟨h.os, h.tape, h.output, h.im, h.ow, h.dj⟩
theorem Rdb.lt {w : World} {H : Mem} (h : Rdb w H) {b : Nat} {o : Obj} (hb : H b = some o) : b < w.heap.size := by
  have := h b o hb
  exact (Array.getElem?_eq_some_iff.1 this).1
theorem Rdb.none_of_ge {w : World} {H : Mem} (h : Rdb w H) {b : Nat} (hb : w.heap.size ≤ b) : H b = none := by
  cases he : H b with
  | none => rfl
  | some o => exact absurd (h.lt he) (by omega)
theorem St.alloc (h : St E w I Os) (o : Obj) : St E (w.alloc o) I (one w.heap.size o :: Os) := by
  have key : ∀ {H : Mem}, Rdb w H → Rdb (w.alloc o) H := by
    intro H hH b u hb
    have hlt := hH.lt hb
    show (w.heap.push o)[b]? = _
    rw [Array.getElem?_push, if_neg (by omega)]
    exact hH b u hb
  have fresh : ∀ {H : Mem}, Rdb w H → Apt (one w.heap.size o) H := by
    intro H hH b
    by_cases e : b = w.heap.size
    · subst e; exact .inr (hH.none_of_ge (Nat.le_refl _))
    · exact .inl (one_ne e)
  refine ⟨h.os, h.tape, h.output, key h.im, ?_, ?_⟩
  · intro C hC
    cases hC with
    | head =>
      refine ⟨?_, fresh h.im⟩
      intro b u hb
      obtain ⟨rfl, e⟩ := one_some hb
      rw [e]
      show (w.heap.push o)[w.heap.size]? = _
      rw [Array.getElem?_push, if_pos rfl]
    | tail _ hm => exact ⟨key (h.ow C hm).1, (h.ow C hm).2⟩
  · exact List.pairwise_cons.2 ⟨fun D hD => fresh (h.ow D hD).1, h.dj⟩
theorem St.put {C : Mem} {b : Nat} {o o' : Obj} (h : St E w I (C :: Os)) (hb : C b = some o) {w' : World} (hos : w'.os = w.os) (htape : w'.tape = w.tape) (hout : w'.output = w.output)
    (hnew : w'.heap[b]? = some o') (hold : ∀ i, i ≠ b → w'.heap[i]? = w.heap[i]?) : St E w' I (C.set b o' :: Os) := by
  have hC := h.ow C (by simp)
  have key : ∀ {H : Mem}, Rdb w H → H b = none → Rdb w' H := by
    intro H hH hn i u hi
    have hne : i ≠ b := by rintro rfl; rw [hn] at hi; cases hi
    rw [hold i hne]; exact hH i u hi
  have hIb : I b = none := by
    rcases hC.2 b with e | e
    · rw [e] at hb; cases hb
    · exact e
  have hD : ∀ D ∈ Os, D b = none := by
    intro D hd
    rcases (List.pairwise_cons.1 h.dj).1 D hd b with e | e
    · rw [e] at hb; cases hb
    · exact e
  have apt : ∀ {H : Mem}, H b = none → Apt C H → Apt (C.set b o') H := by
    intro H hn hA i
    by_cases e : i = b
    · subst e; exact .inr hn
    · rcases hA i with x | x
      · exact .inl (by simp [Mem.set, e, x])
      · exact .inr x
  refine ⟨hos.trans h.os, htape.trans h.tape, hout.trans h.output, key h.im hIb, ?_, ?_⟩
  · intro D hd
    cases hd with
    | head =>
      refine ⟨?_, apt hIb hC.2⟩
      intro i u hi
      by_cases e : i = b
      · subst e
        simp [Mem.set] at hi
        subst hi
        exact hnew
      · simp [Mem.set, e] at hi
        rw [hold i e]; exact hC.1 i u hi
    | tail _ hm => exact ⟨key (h.ow D (List.mem_cons_of_mem _ hm)).1 (hD D hm), (h.ow D (List.mem_cons_of_mem _ hm)).2⟩
  · have hp := List.pairwise_cons.1 h.dj
    exact List.pairwise_cons.2 ⟨fun D hd => apt (hD D hd) (hp.1 D hd), hp.2⟩
theorem one_set (b : Nat) (o o' : Obj) : (one b o).set b o' = one b o' := by
  funext i
  by_cases e : i = b <;> simp [one, Mem.set, e]
theorem St.publish {C : Mem} (h : St E w I (C :: Os)) : St E w (I.with C) Os := by
  have hC := h.ow C (by simp)
  have hp := List.pairwise_cons.1 h.dj
  refine ⟨h.os, h.tape, h.output, ?_, ?_, hp.2⟩
  · intro b o hb
    cases hi : I b with
    | some u => simp [Mem.with, hi] at hb; subst hb; exact h.im b u hi
    | none => simp [Mem.with, hi] at hb; exact hC.1 b o hb
  · intro D hd
    refine ⟨(h.ow D (by simp [hd])).1, fun b => ?_⟩
    rcases (h.ow D (by simp [hd])).2 b with e | e
    · exact .inl e
    · rcases hp.1 D hd b with x | x
      · exact .inr (by simp [Mem.with, e, x])
      · exact .inl x
theorem St.with_right {C : Mem} (h : St E w I (C :: Os)) : C.Le (I.with C) := by
  intro b o hb
  rcases (h.ow C (by simp)).2 b with e | e
  · rw [e] at hb; cases hb
  · simp [Mem.with, e, hb]
end
def CellsAt (H : Mem) (b off : Nat) (cs : List Value) : Prop := ∃ c T fz, H b = some (.cells c T fz) ∧ ∀ j v, cs[j]? = some v → c[off + j]? = some v
theorem CellsAt.mono {H J : Mem} {b off : Nat} {cs : List Value} (h : CellsAt H b off cs) (hl : H.Le J) : CellsAt J b off cs := by
  obtain ⟨c, T, fz, hb, hc⟩ := h
  exact ⟨c, T, fz, hl _ _ hb, hc⟩
theorem CellsAt.cell {H : Mem} {b off : Nat} {cs : List Value} (h : CellsAt H b off cs) {w : World} (hr : Rdb w H) {j : Nat} {v : Value} (hj : cs[j]? = some v) : w.cell? ⟨b, off + j, none⟩ = some v := by
  obtain ⟨c, T, fz, hb, hc⟩ := h
  simp [World.cell?, hr _ _ hb, hc j v hj]
theorem CellsAt.part {H : Mem} {b off : Nat} {cs ds : List Value} (h : CellsAt H b off cs) (k : Nat) (hd : ∀ j v, ds[j]? = some v → cs[k + j]? = some v) : CellsAt H b (off + k) ds := by
  obtain ⟨c, T, fz, hb, hc⟩ := h
  exact ⟨c, T, fz, hb, fun j v hj => by rw [Nat.add_assoc]; exact hc _ _ (hd j v hj)⟩
theorem add_plain (b off k : Nat) : (⟨b, off, none⟩ : Addr).add k = ⟨b, off + k, none⟩ := by
  unfold Addr.add
  split <;> simp_all
theorem run_loadCellsFrom {P : Program} {w : World} {b off : Nat} : ∀ (cs : List Value) (i : Nat) (acc : Array Value),
    (∀ j v, cs[j]? = some v → w.cell? ⟨b, off + (i + j), none⟩ = some v) → (loadCellsFrom ⟨b, off, none⟩ i cs.length acc).run P w = .ok (acc ++ cs.toArray) w
  | [], i, acc, _ => by simp [loadCellsFrom, pure]
  | v :: cs, i, acc, h => by
    have h0 := h 0 v rfl
    simp only [Nat.add_zero] at h0
    have ih := run_loadCellsFrom (P := P) (w := w) (b := b) (off := off) cs (i + 1) (acc.push v) (fun j u hj => by
      have := h (j + 1) u (by simpa using hj)
      rwa [show i + (j + 1) = i + 1 + j from by omega] at this)
    simp only [List.length_cons, loadCellsFrom, bind, Sem.bind, load, add_plain, Sem.run, h0]
    rw [ih]
    congr 1
    apply Array.ext'
    simp
class Mono {α : Type} (rel : Mem → List Value → α → Prop) : Prop where
  mono : ∀ {I J : Mem} {cs : List Value} {x : α}, I.Le J → rel I cs x → rel J cs x
  one : ∀ {I : Mem} {cs : List Value} {x : α}, rel I cs x → ∀ v ∈ cs, v.oneCell' = true
def big : Nat := 9223372036854775808
def bl (a : Option Addr) : Nat := (a.getD ⟨0, 0, none⟩).block
def of (a : Option Addr) : Nat := (a.getD ⟨0, 0, none⟩).off
structure SlAt {α : Type} (sz : Nat) (rel : Mem → List Value → α → Prop) (H I : Mem) (a : Option Addr) (cap : Nat) (xs : List α) : Prop where
  le : xs.length ≤ cap
  lt : cap < big
  el : ∀ i x, xs[i]? = some x → a = some ⟨bl a, of a, none⟩ ∧ ∃ cs, cs.length = sz ∧ rel I cs x ∧ CellsAt H (bl a) (of a + i * sz) cs
abbrev RSl {α : Type} (sz : Nat) (rel : Mem → List Value → α → Prop) (I : Mem) (a : Option Addr) (cap : Nat) (xs : List α) : Prop := SlAt sz rel I I a cap xs
section
variable {α : Type} {sz : Nat} {rel : Mem → List Value → α → Prop} {H I J : Mem} {a : Option Addr} {cap : Nat} {xs : List α}
theorem SlAt.mono [Mono rel] (h : SlAt sz rel H I a cap xs) (hl : I.Le J) : SlAt sz rel H J a cap xs :=
  ⟨h.le, h.lt, fun i x hx => by
    obtain ⟨e, cs, hn, hr, hc⟩ := h.el i x hx
    exact ⟨e, cs, hn, Mono.mono hl hr, hc⟩⟩
theorem SlAt.moved {H' : Mem} (h : SlAt sz rel H I a cap xs) (hl : H.Le H') : SlAt sz rel H' I a cap xs :=
  ⟨h.le, h.lt, fun i x hx => by
    obtain ⟨e, cs, hn, hr, hc⟩ := h.el i x hx
    exact ⟨e, cs, hn, hr, hc.mono hl⟩⟩
theorem RSl.mono [Mono rel] (h : RSl sz rel I a cap xs) (hl : I.Le J) : RSl sz rel J a cap xs := (SlAt.mono h hl).moved hl
theorem SlAt.ad (h : SlAt sz rel H I a cap xs) : xs = [] ∨ a = some ⟨bl a, of a, none⟩ := by
  cases xs with
  | nil => exact .inl rfl
  | cons x r => exact .inr (h.el 0 x rfl).1
theorem SlAt.nil : SlAt sz rel H I none 0 ([] : List α) := ⟨Nat.le_refl _, by unfold big; omega, fun i x hx => by cases hx⟩
theorem SlAt.len_lt (h : SlAt sz rel H I a cap xs) : xs.length < big := Nat.lt_of_le_of_lt h.le h.lt
theorem SlAt.none_nil (h : SlAt sz rel H I none cap xs) : xs = [] := by
  cases xs with
  | nil => rfl
  | cons x r =>
    obtain ⟨e, _⟩ := h.el 0 x rfl
    cases e
end
structure OwnSl {α : Type} (T sz : Nat) (rel : Mem → List Value → α → Prop) (I C : Mem) (a : Option Addr) (cap : Nat) (xs : List α) : Prop where
  sl : SlAt sz rel C I a cap xs
  own : (a = none ∧ cap = 0 ∧ C = Mem.no) ∨ ∃ b off c, a = some ⟨b, off, none⟩ ∧ C = one b (.cells c T (0, 0)) ∧ off + cap * sz ≤ c.size
section
variable {α : Type} {T sz : Nat} {rel : Mem → List Value → α → Prop} {I J C : Mem} {a : Option Addr} {cap : Nat} {xs : List α}
theorem OwnSl.mono [Mono rel] (h : OwnSl T sz rel I C a cap xs) (hl : I.Le J) : OwnSl T sz rel J C a cap xs := ⟨h.sl.mono hl, h.own⟩
theorem OwnSl.nil : OwnSl T sz rel I Mem.no none 0 ([] : List α) := ⟨SlAt.nil, .inl ⟨rfl, rfl, rfl⟩⟩
theorem St.no {E w : World} {I : Mem} {Os : List Mem} (h : St E w I Os) : St E w I (Mem.no :: Os) :=
  ⟨h.os, h.tape, h.output, h.im, fun C hC => by
    cases hC with
    | head => exact ⟨(fun b o hb => by cases hb), fun b => .inl rfl⟩
    | tail _ hm => exact h.ow C hm, List.pairwise_cons.2 ⟨fun D _ b => .inl rfl, h.dj⟩⟩
theorem OwnSl.publish [Mono rel] {E w : World} {Os : List Mem} (h : OwnSl T sz rel I C a cap xs) (hS : St E w I (C :: Os)) : RSl sz rel (I.with C) a cap xs :=
  (h.sl.mono (ybd I C)).moved hS.with_right
end
structure SW where
  a : Option Addr
  c : Nat
structure SM where
  m : Nat
  C : Mem
structure SO where
  a : Option Addr
  c : Nat
  C : Mem
def RInt (k : IntKind) (_ : Mem) (cs : List Value) (x : Int) : Prop := cs = [.int k x]
def RBool (_ : Mem) (cs : List Value) (x : Bool) : Prop := cs = [.bool x]
def RStr (_ : Mem) (cs : List Value) (x : ByteArray) : Prop := cs = [.string x]
instance {k : IntKind} : Mono (RInt k) := ⟨fun _ h => h, fun h v hv => by rw [h] at hv; simp at hv; subst hv; rfl⟩
instance : Mono RBool := ⟨fun _ h => h, fun h v hv => by rw [h] at hv; simp at hv; subst hv; rfl⟩
instance : Mono RStr := ⟨fun _ h => h, fun h v hv => by rw [h] at hv; simp at hv; subst hv; rfl⟩
def RSlC {α : Type} (sz : Nat) (rel : Mem → List Value → α → Prop) (I : Mem) (cs : List Value) (xs : List α) : Prop := ∃ a cap, cs = [.slice a xs.length cap] ∧ RSl sz rel I a cap xs
instance {α : Type} {sz : Nat} {rel : Mem → List Value → α → Prop} [Mono rel] : Mono (RSlC sz rel) := ⟨fun hl ⟨a, cap, e, h⟩ => ⟨a, cap, e, RSl.mono h hl⟩, fun ⟨a, cap, e, h⟩ v hv => by rw [e] at hv; simp at hv; subst hv; rfl⟩
end Go.Gv
namespace Go.Gv
open Go
def opsOf : Op → List Operand := fun o => o.operands.toList
def served : Op → Bool
  | .select .. | .go _ | .defer _ | .send .. | .recv .. | .makeChan .. | .ready _ | .waits _ => false
  | _ => true
theorem execOp_congr {ρ ρ' : Operand → Value} (o : Oper) (hs : served o.op = true) (h : ∀ x ∈ opsOf o.op, ρ x = ρ' x) : execOp ρ o = execOp ρ' o := by
  obtain ⟨dst, op, ty, pos, after, guard⟩ := o
  have H : ∀ x, x ∈ op.operands → ρ x = ρ' x := fun x hx => h x (by simpa [opsOf] using hx)
  clear h
  have opt : ∀ r : Option Operand, (∀ x, r = some x → ρ x = ρ' x) → r.map ρ = r.map ρ' := by
    intro r hr
    cases r with
    | none => rfl
    | some x => simp [hr x rfl]
  cases op with
  | build t ps =>
    have e : (ps.map fun (i, x) => (i, ρ x)) = ps.map fun (i, x) => (i, ρ' x) := by
      apply Array.map_congr_left
      rintro ⟨i, x⟩ hx
      have := H x (by simp only [Op.operands]; simp; exact ⟨i, hx⟩)
      simp [this]
    simp only [execOp, e]
  | buildSlice t n ps =>
    have e : (ps.map fun (i, x) => (i, ρ x)) = ps.map fun (i, x) => (i, ρ' x) := by
      apply Array.map_congr_left
      rintro ⟨i, x⟩ hx
      have := H x (by simp only [Op.operands]; simp; exact ⟨i, hx⟩)
      simp [this]
    simp only [execOp, e]
  | makeFunc f a b =>
    have e1 : a.map ρ = a.map ρ' := Array.map_congr_left fun x hx => H x (by simp [Op.operands, hx])
    have e2 : b.map ρ = b.map ρ' := Array.map_congr_left fun x hx => H x (by simp [Op.operands, hx])
    simp only [execOp, e1, e2]
  | makeMap t r =>
    have e := opt r fun x hx => H x (by simp [Op.operands, hx])
    simp only [execOp, e]
  | slice t x lo hi mx =>
    have ex := H x (by simp [Op.operands])
    have e1 := opt lo fun y hy => H y (by simp [Op.operands, hy])
    have e2 := opt hi fun y hy => H y (by simp [Op.operands, hy])
    have e3 := opt mx fun y hy => H y (by simp [Op.operands, hy])
    simp only [execOp, ex, e1, e2, e3]
  | call c =>
    obtain ⟨callee, args, ats⟩ := c
    have ea : args.map ρ = args.map ρ' := Array.map_congr_left fun x hx => H x (by simp [Op.operands, Call.operands, hx])
    cases callee with
    | value f =>
      have ef := H f (by simp [Op.operands, Call.operands])
      simp only [execOp, resolve, ea, ef]
    | invoke r m =>
      have ef := H r (by simp [Op.operands, Call.operands])
      simp only [execOp, resolve, ea, ef]
    | builtin b => simp only [execOp, resolve, ea]
  | pick c a b =>
    have e1 := H c (by simp [Op.operands]); have e2 := H a (by simp [Op.operands]); have e3 := H b (by simp [Op.operands])
    simp only [execOp, e1, e2, e3]
  | insert t m k v =>
    have e1 := H m (by simp [Op.operands]); have e2 := H k (by simp [Op.operands]); have e3 := H v (by simp [Op.operands])
    simp only [execOp, e1, e2, e3]
  | mapUpdate t m k v =>
    have e1 := H m (by simp [Op.operands]); have e2 := H k (by simp [Op.operands]); have e3 := H v (by simp [Op.operands])
    simp only [execOp, e1, e2, e3]
  | entryStore t m k v =>
    have e1 := H m (by simp [Op.operands]); have e2 := H k (by simp [Op.operands]); have e3 := H v (by simp [Op.operands])
    simp only [execOp, e1, e2, e3]
  | store t a v =>
    have e1 := H a (by simp [Op.operands]); have e2 := H v (by simp [Op.operands])
    simp only [execOp, e1, e2]
  | binOp b t x y u =>
    have e1 := H x (by simp [Op.operands]); have e2 := H y (by simp [Op.operands])
    simp only [execOp, e1, e2]
  | makeSlice t a v =>
    have e1 := H a (by simp [Op.operands]); have e2 := H v (by simp [Op.operands])
    simp only [execOp, e1, e2]
  | indexAddr t a v =>
    have e1 := H a (by simp [Op.operands]); have e2 := H v (by simp [Op.operands])
    simp only [execOp, e1, e2]
  | index t a v =>
    have e1 := H a (by simp [Op.operands]); have e2 := H v (by simp [Op.operands])
    simp only [execOp, e1, e2]
  | lookup t a v ok =>
    have e1 := H a (by simp [Op.operands]); have e2 := H v (by simp [Op.operands])
    simp only [execOp, e1, e2]
  | mapEntry t a v =>
    have e1 := H a (by simp [Op.operands]); have e2 := H v (by simp [Op.operands])
    simp only [execOp, e1, e2]
  | alloc t => rfl
  | move x => have e := H x (by simp [Op.operands]); simp only [execOp, e]
  | assign x => have e := H x (by simp [Op.operands]); simp only [execOp, e]
  | box t x => have e := H x (by simp [Op.operands]); simp only [execOp, e]
  | load t x => have e := H x (by simp [Op.operands]); simp only [execOp, e]
  | nilCheck x => have e := H x (by simp [Op.operands]); simp only [execOp, e]
  | unOp b t x => have e := H x (by simp [Op.operands]); simp only [execOp, e]
  | convert s t x => have e := H x (by simp [Op.operands]); simp only [execOp, e]
  | sliceToArrayPointer t x => have e := H x (by simp [Op.operands]); simp only [execOp, e]
  | makeInterface t x => have e := H x (by simp [Op.operands]); simp only [execOp, e]
  | fieldAddr t x k => have e := H x (by simp [Op.operands]); simp only [execOp, e]
  | field t x k => have e := H x (by simp [Op.operands]); simp only [execOp, e]
  | range t x => have e := H x (by simp [Op.operands]); simp only [execOp, e]
  | next x k => have e := H x (by simp [Op.operands]); simp only [execOp, e]
  | entry x => have e := H x (by simp [Op.operands]); simp only [execOp, e]
  | typeAssert x t u k => have e := H x (by simp [Op.operands]); simp only [execOp, e]
  | extract x k => have e := H x (by simp [Op.operands]); simp only [execOp, e]
  | panic x => have e := H x (by simp [Op.operands]); simp only [execOp, e]
  | _ => cases hs
def effK (P : Program) (o : Oper) (a : Act) (w : World) (next : Value → World → Prop) : Prop :=
  match (execOp a.eval o).run P w with
  | .ok (.value v) w' => next v w'
  | .ok .skip w' => next undef w'
  | .ok (.enter f args) w' => Calls P f args w' fun e w'' => ∃ v, e = .returned v ∧ next v w''
  | _ => False
def spOp : Op → Bool
  | .move _ => true
  | .binOp .add .. | .binOp .sub .. => true
  | .extract .. => true
  | _ => false
def wpK (P : Program) (K : World → Prop) (qt : Op → Bool) (z : Nat) (ops : Array Oper) (Q : Exit → Act → World → Prop) : List Nat → Act → World → Prop
  | [], a, w => Q .normal a w
  | i :: rest, a, w =>
    match ops[i]? with
    | none => wpK P K qt z ops Q rest a w
    | some o =>
      if Region.wanted o (yielded ops a.tmps) = true then
        (if (qt o.op && Nat.blt i z) = true then ∃ v, (∀ w', (K w' ∨ w' = w) ∨ spOp o.op = true → (execOp a.eval o).run P w' = .ok (.value v) w') ∧ wpK P K qt z ops Q rest (a.put o.dst v) w
         else effK P o a w fun v w' => (z ≤ i ∨ K w') ∧ wpK P K qt z ops Q rest (a.put o.dst v) w')
      else wpK P K qt z ops Q rest (a.put o.dst undef) w
section
variable {P : Program} {K : World → Prop} {qt : Op → Bool} {z : Nat} {ops : Array Oper} {Q : Exit → Act → World → Prop}
theorem effK.mono {o : Oper} {a : Act} {w : World} {f g : Value → World → Prop} (h : effK P o a w f) (hfg : ∀ v w', f v w' → g v w') : effK P o a w g := by
  unfold effK at h ⊢
  split at h
  · exact hfg _ _ h
  · exact hfg _ _ h
  · exact h.mono fun e w'' ⟨v, he, hv⟩ => ⟨v, he, hfg _ _ hv⟩
  · exact h.elim
theorem effK.some {o : Oper} {a : Act} {w : World} {f : Value → World → Prop} (h : effK P o a w f) : ∃ v w', f v w' := by
  unfold effK at h
  split at h
  · exact ⟨_, _, h⟩
  · exact ⟨_, _, h⟩
  · obtain ⟨e, w', fr, ⟨v, _, hv⟩, _⟩ := h []
    exact ⟨v, w', hv⟩
  · exact h.elim
theorem effK.congr {o : Oper} {a b : Act} {w : World} {f : Value → World → Prop} (he : execOp a.eval o = execOp b.eval o) (h : effK P o a w f) : effK P o b w f := by
  unfold effK at h ⊢
  rw [← he]
  exact h
theorem effK.wp {o : Oper} {a : Act} {w : World} {f : Value → World → Prop} {next : Act → World → Prop} (h : effK P o a w f) (hn : ∀ v w', f v w' → next (a.put o.dst v) w') : o.wp P a w next Q := by
  unfold effK at h
  unfold Oper.wp Oper.upon
  split at h
  · rename_i hr; rw [hr]; exact hn _ _ h
  · rename_i hr; rw [hr]; exact hn _ _ h
  · rename_i hr
    rw [hr]
    refine h.mono ?_
    rintro e w'' ⟨v, rfl, hv⟩
    exact hn _ _ hv
  · exact h.elim
theorem wpOps_of_wpK : ∀ (l : List Nat) (a : Act) (w : World), wpK P K qt z ops Q l a w → wpOps P ops Q l a w
  | [], a, w, h => h
  | i :: l, a, w, h => by
    simp only [wpK] at h
    simp only [wpOps]
    cases ho : ops[i]? with
    | none => rw [ho] at h; exact wpOps_of_wpK l a w h
    | some o =>
      simp only [ho] at h ⊢
      by_cases hw : Region.wanted o (yielded ops a.tmps) = true
      · simp only [hw, if_true] at h ⊢
        left
        by_cases hq : (qt o.op && Nat.blt i z) = true
        · rw [if_pos hq] at h
          obtain ⟨v, hv, hr⟩ := h
          unfold Oper.wp Oper.upon
          rw [hv w (.inl (.inr rfl))]
          exact wpOps_of_wpK l _ w hr
        · rw [if_neg hq] at h
          exact effK.wp h fun v w' ⟨_, hr⟩ => wpOps_of_wpK l _ w' hr
      · rw [if_neg hw] at h
        simp only [hw, if_false, Bool.false_eq_true]
        exact wpOps_of_wpK l _ w h
def dstOf (ops : Array Oper) (i : Nat) : Option Tmp := (ops[i]?).bind (·.dst)
def reads (o : Oper) (d : Option Tmp) : Bool :=
  match d with
  | none => false
  | some t => (opsOf o.op).any fun | .tmp u => Nat.beq u t | _ => false
def guards (ops : Array Oper) (o : Oper) (d : Option Tmp) : Bool :=
  match o.guard, d with
  | some (j, _), some t => (match dstOf ops j with | some u => Nat.beq u t | none => false)
  | _, _ => false
def sameDst (x y : Option Tmp) : Bool :=
  match x, y with
  | some a, some b => Nat.beq a b
  | _, _ => false
def apartOps (ops : Array Oper) (x y : Oper) : Bool :=
  !reads x y.dst && !reads y x.dst && !guards ops x y.dst && !guards ops y x.dst && !sameDst x.dst y.dst && served x.op && served y.op
theorem eval_put {o : Oper} {a : Act} {d : Option Tmp} {v : Value} (h : reads o d = false) : ∀ x ∈ opsOf o.op, (a.put d v).eval x = a.eval x := by
  intro x hx
  cases d with
  | none => rfl
  | some t =>
    cases x with
    | tmp u =>
      simp only [reads, List.any_eq_false] at h
      have := h _ hx
      simp only [Bool.not_eq_true] at this
      have hne : u ≠ t := by rintro rfl; rw [Nat.beq_refl] at this; cases this
      simp only [Act.eval, Act.put, Array.getD_eq_getD_getElem?, Array.getElem?_setIfInBounds]
      rw [if_neg (fun e => hne e.symm)]
    | _ => rfl
theorem wanted_put {o : Oper} {a : Act} {d : Option Tmp} {v : Value} (h : guards ops o d = false) : Region.wanted o (yielded ops (a.put d v).tmps) = Region.wanted o (yielded ops a.tmps) := by
  unfold Region.wanted
  cases hg : o.guard with
  | none => rfl
  | some p =>
    obtain ⟨j, want⟩ := p
    simp only
    cases d with
    | none => rfl
    | some t =>
      have : yielded ops (a.put (some t) v).tmps j = yielded ops a.tmps j := by
        unfold yielded
        simp only [guards, hg, dstOf] at h
        cases hd : (ops[j]?).bind (·.dst) with
        | none => rfl
        | some u =>
          rw [hd] at h
          have hne : u ≠ t := by rintro rfl; simp at h
          simp only [Option.bind_some, Act.put, Array.getElem?_setIfInBounds]
          rw [if_neg (fun e => hne e.symm)]
      rw [this]
theorem put_comm {a : Act} {d e : Option Tmp} {u v : Value} (h : sameDst d e = false) : (a.put d u).put e v = (a.put e v).put d u := by
  cases d with
  | none => rfl
  | some x =>
    cases e with
    | none => rfl
    | some y =>
      have hne : x ≠ y := by rintro rfl; simp [sameDst] at h
      simp only [Act.put]
      congr 1
      exact Array.setIfInBounds_comm u v hne
theorem swap {i j : Nat} {rest : List Nat} {oi oj : Oper} (hi : ops[i]? = some oi) (hj : ops[j]? = some oj) (hap : apartOps ops oi oj = true) (hq : qt oi.op = true ∨ qt oj.op = true) (hzi : i < z) (hzj : j < z)
    {a : Act} {w : World} (hK : K w) (h : wpK P K qt z ops Q (i :: j :: rest) a w) : wpK P K qt z ops Q (j :: i :: rest) a w := by
  simp only [apartOps, Bool.and_eq_true, Bool.not_eq_true'] at hap
  obtain ⟨⟨⟨⟨⟨⟨r1, r2⟩, g1⟩, g2⟩, sd⟩, s1⟩, s2⟩ := hap
  have ei : ∀ (a : Act) v, execOp (a.put oj.dst v).eval oi = execOp a.eval oi := fun a v => execOp_congr oi s1 (eval_put r1)
  have ej : ∀ (a : Act) v, execOp (a.put oi.dst v).eval oj = execOp a.eval oj := fun a v => execOp_congr oj s2 (eval_put r2)
  have wi : ∀ (a : Act) v, Region.wanted oi (yielded ops (a.put oj.dst v).tmps) = Region.wanted oi (yielded ops a.tmps) := fun a v => wanted_put g1
  have wj : ∀ (a : Act) v, Region.wanted oj (yielded ops (a.put oi.dst v).tmps) = Region.wanted oj (yielded ops a.tmps) := fun a v => wanted_put g2
  have pc : ∀ (a : Act) u v, (a.put oi.dst u).put oj.dst v = (a.put oj.dst v).put oi.dst u := fun a u v => put_comm sd
  have zi : Nat.blt i z = true := Nat.ble_eq_true_of_le hzi
  have zj : Nat.blt j z = true := Nat.ble_eq_true_of_le hzj
  simp only [wpK, hi, hj, zi, zj, Bool.and_true] at h ⊢
  by_cases hwi : Region.wanted oi (yielded ops a.tmps) = true
  · rw [if_pos hwi] at h
    by_cases hqi : qt oi.op = true
    · rw [if_pos hqi] at h
      obtain ⟨v, hv, hr⟩ := h
      by_cases hwj : Region.wanted oj (yielded ops a.tmps) = true
      · rw [if_pos hwj]
        rw [if_pos (by rw [wj]; exact hwj)] at hr
        by_cases hqj : qt oj.op = true
        · rw [if_pos hqj] at hr ⊢
          obtain ⟨u, hu, hr⟩ := hr
          refine ⟨u, fun w' hw' => by rw [← ej a v]; exact hu w' hw', ?_⟩
          rw [if_pos (by rw [wi]; exact hwi), if_pos hqi]
          refine ⟨v, fun w' hw' => by rw [ei a u]; exact hv w' hw', ?_⟩
          rw [← pc]; exact hr
        · rw [if_neg hqj] at hr ⊢
          refine (hr.congr (ej a v)).mono ?_
          rintro u w' ⟨hK', hr'⟩
          have hK' := hK'.resolve_left (by omega)
          refine ⟨.inr hK', ?_⟩
          rw [if_pos (by rw [wi]; exact hwi), if_pos hqi]
          refine ⟨v, fun w'' hw'' => ?_, by rw [← pc]; exact hr'⟩
          rw [ei a u]
          rcases hw'' with (x | rfl) | x
          · exact hv w'' (.inl (.inl x))
          · exact hv w'' (.inl (.inl hK'))
          · exact hv w'' (.inr x)
      · rw [if_neg hwj]
        rw [if_neg (by rw [wj]; exact hwj)] at hr
        rw [if_pos (by rw [wi]; exact hwi), if_pos hqi]
        exact ⟨v, fun w' hw' => by rw [ei a undef]; exact hv w' hw', by rw [← pc]; exact hr⟩
    · have hqj : qt oj.op = true := hq.resolve_left hqi
      rw [if_neg hqi] at h
      by_cases hwj : Region.wanted oj (yielded ops a.tmps) = true
      · rw [if_pos hwj, if_pos hqj]
        obtain ⟨v0, w0, hK0, h0⟩ := h.some
        rw [if_pos (by rw [wj]; exact hwj), if_pos hqj] at h0
        obtain ⟨u, hu, _⟩ := h0
        have hK0 := hK0.resolve_left (by omega)
        have hu' : ∀ w', K w' → (execOp a.eval oj).run P w' = .ok (.value u) w' := fun w' hw' => by rw [← ej a v0]; exact hu w' (.inl (.inl hw'))
        refine ⟨u, fun w' hw' => ?_, ?_⟩
        · rcases hw' with (x | rfl) | x
          · exact hu' w' x
          · exact hu' w' hK
          · rw [← ej a v0]; exact hu w' (.inr x)
        · rw [if_pos (by rw [wi]; exact hwi), if_neg hqi]
          refine (h.congr (ei a u).symm).mono ?_
          rintro v w' ⟨hK', hr⟩
          have hK' := hK'.resolve_left (by omega)
          refine ⟨.inr hK', ?_⟩
          rw [if_pos (by rw [wj]; exact hwj), if_pos hqj] at hr
          obtain ⟨u2, hu2, hr⟩ := hr
          have e1 := hu2 w' (.inl (.inl hK'))
          rw [ej a v, hu' w' hK'] at e1
          injection e1 with e1
          injection e1 with e1
          subst e1
          rw [← pc]; exact hr
      · rw [if_neg hwj, if_pos (by rw [wi]; exact hwi), if_neg hqi]
        refine (h.congr (ei a undef).symm).mono ?_
        rintro v w' ⟨hK', hr⟩
        refine ⟨hK', ?_⟩
        rw [if_neg (by rw [wj]; exact hwj)] at hr
        rw [← pc]; exact hr
  · rw [if_neg hwi] at h
    by_cases hwj : Region.wanted oj (yielded ops a.tmps) = true
    · rw [if_pos hwj]
      rw [if_pos (by rw [wj]; exact hwj)] at h
      by_cases hqj : qt oj.op = true
      · rw [if_pos hqj] at h ⊢
        obtain ⟨u, hu, hr⟩ := h
        refine ⟨u, fun w' hw' => by rw [← ej a undef]; exact hu w' hw', ?_⟩
        rw [if_neg (by rw [wi]; exact hwi), ← pc]; exact hr
      · rw [if_neg hqj] at h ⊢
        refine (h.congr (ej a undef)).mono ?_
        rintro u w' ⟨hK', hr⟩
        refine ⟨hK', ?_⟩
        rw [if_neg (by rw [wi]; exact hwi), ← pc]; exact hr
    · rw [if_neg hwj]
      rw [if_neg (by rw [wj]; exact hwj)] at h
      rw [if_neg (by rw [wi]; exact hwi), ← pc]; exact h
theorem swap_sp {i j : Nat} {rest : List Nat} {oi oj : Oper} (hi : ops[i]? = some oi) (hj : ops[j]? = some oj) (hap : apartOps ops oi oj = true) (hq : qt oi.op = true) (hsp : spOp oi.op = true) (hzi : i < z)
    {a : Act} {w : World} (h : wpK P K qt z ops Q (i :: j :: rest) a w) : wpK P K qt z ops Q (j :: i :: rest) a w := by
  simp only [apartOps, Bool.and_eq_true, Bool.not_eq_true'] at hap
  obtain ⟨⟨⟨⟨⟨⟨r1, r2⟩, g1⟩, g2⟩, sd⟩, s1⟩, s2⟩ := hap
  have ei : ∀ (a : Act) v, execOp (a.put oj.dst v).eval oi = execOp a.eval oi := fun a v => execOp_congr oi s1 (eval_put r1)
  have ej : ∀ (a : Act) v, execOp (a.put oi.dst v).eval oj = execOp a.eval oj := fun a v => execOp_congr oj s2 (eval_put r2)
  have wi : ∀ (a : Act) v, Region.wanted oi (yielded ops (a.put oj.dst v).tmps) = Region.wanted oi (yielded ops a.tmps) := fun a v => wanted_put g1
  have wj : ∀ (a : Act) v, Region.wanted oj (yielded ops (a.put oi.dst v).tmps) = Region.wanted oj (yielded ops a.tmps) := fun a v => wanted_put g2
  have pc : ∀ (a : Act) u v, (a.put oi.dst u).put oj.dst v = (a.put oj.dst v).put oi.dst u := fun a u v => put_comm sd
  have zi : Nat.blt i z = true := Nat.ble_eq_true_of_le hzi
  simp only [wpK, hi, hj, zi, Bool.and_true, hq, if_true] at h ⊢
  by_cases hwi : Region.wanted oi (yielded ops a.tmps) = true
  · rw [if_pos hwi] at h
    obtain ⟨v, hv, hr⟩ := h
    by_cases hwj : Region.wanted oj (yielded ops a.tmps) = true
    · rw [if_pos hwj]
      rw [if_pos (by rw [wj]; exact hwj)] at hr
      by_cases hqj : (qt oj.op && Nat.blt j z) = true
      · rw [if_pos hqj] at hr ⊢
        obtain ⟨u, hu, hr⟩ := hr
        refine ⟨u, fun w' hw' => by rw [← ej a v]; exact hu w' hw', ?_⟩
        rw [if_pos (by rw [wi]; exact hwi)]
        refine ⟨v, fun w' hw' => by rw [ei a u]; exact hv w' hw', ?_⟩
        rw [← pc]; exact hr
      · rw [if_neg hqj] at hr ⊢
        refine (hr.congr (ej a v)).mono ?_
        rintro u w' ⟨hK', hr'⟩
        refine ⟨hK', ?_⟩
        rw [if_pos (by rw [wi]; exact hwi)]
        exact ⟨v, fun w'' hw'' => by rw [ei a u]; exact hv w'' (.inr hsp), by rw [← pc]; exact hr'⟩
    · rw [if_neg hwj]
      rw [if_neg (by rw [wj]; exact hwj)] at hr
      rw [if_pos (by rw [wi]; exact hwi)]
      exact ⟨v, fun w' hw' => by rw [ei a undef]; exact hv w' hw', by rw [← pc]; exact hr⟩
  · rw [if_neg hwi] at h
    by_cases hwj : Region.wanted oj (yielded ops a.tmps) = true
    · rw [if_pos hwj]
      rw [if_pos (by rw [wj]; exact hwj)] at h
      by_cases hqj : (qt oj.op && Nat.blt j z) = true
      · rw [if_pos hqj] at h ⊢
        obtain ⟨u, hu, hr⟩ := h
        refine ⟨u, fun w' hw' => by rw [← ej a undef]; exact hu w' hw', ?_⟩
        rw [if_neg (by rw [wi]; exact hwi), ← pc]; exact hr
      · rw [if_neg hqj] at h ⊢
        refine (h.congr (ej a undef)).mono ?_
        rintro u w' ⟨hK', hr⟩
        refine ⟨hK', ?_⟩
        rw [if_neg (by rw [wi]; exact hwi), ← pc]; exact hr
    · rw [if_neg hwj]
      rw [if_neg (by rw [wj]; exact hwj)] at h
      rw [if_neg (by rw [wi]; exact hwi), ← pc]; exact h
theorem wpK_any {i : Nat} {r r' : List Nat} (hr : ∀ a w, wpK P K qt z ops Q r a w → wpK P K qt z ops Q r' a w) {a : Act} {w : World}
    (h : wpK P K qt z ops Q (i :: r) a w) : wpK P K qt z ops Q (i :: r') a w := by
  simp only [wpK] at h ⊢
  cases ho : ops[i]? with
  | none => rw [ho] at h; exact hr a w h
  | some o =>
    simp only [ho] at h ⊢
    by_cases hw : Region.wanted o (yielded ops a.tmps) = true
    · rw [if_pos hw] at h ⊢
      by_cases hq : (qt o.op && Nat.blt i z) = true
      · rw [if_pos hq] at h ⊢
        obtain ⟨v, hv, h⟩ := h
        exact ⟨v, hv, hr _ _ h⟩
      · rw [if_neg hq] at h ⊢
        exact h.mono fun v w' ⟨hK', h⟩ => ⟨hK', hr _ _ h⟩
    · rw [if_neg hw] at h ⊢
      exact hr _ _ h
theorem wpK_under {i : Nat} (hiz : i < z) {r r' : List Nat} (hr : ∀ a w, K w → wpK P K qt z ops Q r a w → wpK P K qt z ops Q r' a w) {a : Act} {w : World} (hK : K w)
    (h : wpK P K qt z ops Q (i :: r) a w) : wpK P K qt z ops Q (i :: r') a w := by
  simp only [wpK] at h ⊢
  cases ho : ops[i]? with
  | none => rw [ho] at h; exact hr a w hK h
  | some o =>
    simp only [ho] at h ⊢
    by_cases hw : Region.wanted o (yielded ops a.tmps) = true
    · rw [if_pos hw] at h ⊢
      by_cases hq : (qt o.op && Nat.blt i z) = true
      · rw [if_pos hq] at h ⊢
        obtain ⟨v, hv, h⟩ := h
        exact ⟨v, hv, hr _ _ hK h⟩
      · rw [if_neg hq] at h ⊢
        exact h.mono fun v w' ⟨hK', h⟩ => ⟨hK', hr _ _ (hK'.resolve_left (by omega)) h⟩
    · rw [if_neg hw] at h ⊢
      exact hr _ _ hK h
def mayPass (qt : Op → Bool) (z : Nat) (ops : Array Oper) (m x : Nat) : Bool :=
  match ops[m]?, ops[x]? with
  | some om, some ox => apartOps ops om ox && Nat.blt m z && ((Nat.blt x z && (qt om.op || qt ox.op)) || (qt om.op && spOp om.op))
  | _, _ => false
def spAt (qt : Op → Bool) (ops : Array Oper) (m : Nat) : Bool := match ops[m]? with
  | some o => qt o.op && spOp o.op
  | none => false
theorem wpK_behind_sp {m : Nat} (hs : spAt qt ops m = true) : ∀ (l1 l2 : List Nat), (∀ x ∈ l1, mayPass qt z ops m x = true) → ∀ {a : Act} {w : World}, wpK P K qt z ops Q (m :: (l1 ++ l2)) a w → wpK P K qt z ops Q (l1 ++ m :: l2) a w
  | [], l2, _, a, w, h => h
  | x :: l1, l2, hx, a, w, h => by
    have hp := hx x (by simp)
    unfold mayPass at hp
    unfold spAt at hs
    cases hm : ops[m]? with
    | none => simp [hm] at hp
    | some om =>
      cases hox : ops[x]? with
      | none => simp [hm, hox] at hp
      | some ox =>
        simp only [hm, Bool.and_eq_true] at hs
        simp only [hm, hox, Bool.and_eq_true] at hp
        have h' := swap_sp hm hox hp.1.1 hs.1 hs.2 (Nat.le_of_ble_eq_true hp.1.2) h
        exact wpK_any (fun a w h => wpK_behind_sp (by unfold spAt; rw [hm]; simp [hs.1, hs.2]) l1 l2 (fun y hy => hx y (by simp [hy])) h) h'
theorem wpK_behind {m : Nat} (hs : spAt qt ops m = false) : ∀ (l1 l2 : List Nat), (∀ x ∈ l1, mayPass qt z ops m x = true) → ∀ {a : Act} {w : World}, K w → wpK P K qt z ops Q (m :: (l1 ++ l2)) a w → wpK P K qt z ops Q (l1 ++ m :: l2) a w
  | [], l2, _, a, w, _, h => h
  | x :: l1, l2, hx, a, w, hK, h => by
    have hp := hx x (by simp)
    unfold mayPass at hp
    cases hm : ops[m]? with
    | none => simp [hm] at hp
    | some om =>
      cases hox : ops[x]? with
      | none => simp [hm, hox] at hp
      | some ox =>
        have hs' := hs
        unfold spAt at hs'
        rw [hm] at hs'
        simp only at hs'
        simp only [hm, hox, hs', Bool.or_false, Bool.and_eq_true, Bool.or_eq_true] at hp
        have hmz : m < z := Nat.le_of_ble_eq_true hp.1.2
        have hxz : x < z := Nat.le_of_ble_eq_true hp.2.1
        have h' := swap hm hox hp.1.1 hp.2.2 hmz hxz hK h
        exact wpK_under hxz (fun a w hK h => wpK_behind hs l1 l2 (fun y hy => hx y (by simp [hy])) hK h) hK h'
def aft (o : Oper) : List Edge := o.after.toList.filter fun e => Region.binds .any e
def Ordered (ops : Array Oper) (l : List Nat) : Prop := ∀ l1 m l2, l = l1 ++ m :: l2 → ∀ x ∈ l1, ∀ o, ops[x]? = some o → ∀ e ∈ aft o, e.on ≠ m
theorem Ordered.strike {l1 l2 : List Nat} {m : Nat} (h : Ordered ops (l1 ++ m :: l2)) : Ordered ops (l1 ++ l2) := by
  intro k1 y k2 e x hx o ho ed hed
  -- the same two elements stand in the longer list
  have : ∃ p1 p2, l1 ++ m :: l2 = p1 ++ y :: p2 ∧ x ∈ p1 := by
    rcases List.append_eq_append_iff.1 e with ⟨c, hc1, hc2⟩ | ⟨c, hc1, hc2⟩
    · exact ⟨l1 ++ m :: c, k2, by rw [hc2]; simp, by rw [hc1] at hx; rcases List.mem_append.1 hx with h1 | h1 <;> simp [h1]⟩
    · cases c with
      | nil =>
        simp only [List.nil_append] at hc2
        simp only [List.append_nil] at hc1
        exact ⟨l1 ++ [m], k2, by rw [← hc2]; simp, by rw [hc1]; simp [hx]⟩
      | cons z c =>
        simp only [List.cons_append, List.cons.injEq] at hc2
        obtain ⟨rfl, hc2⟩ := hc2
        exact ⟨k1, c ++ m :: l2, by rw [hc1]; simp, hx⟩
  obtain ⟨p1, p2, e', hx'⟩ := this
  exact h p1 y p2 e' x hx' o ho ed hed
def waits (ops : Array Oper) : Nat → Nat → Nat → Bool
  | 0, _, _ => false
  | k + 1, x, m => match ops[x]? with
    | some o => (aft o).any fun e => Nat.blt e.on x && (Nat.beq e.on m || (Nat.blt m e.on && waits ops k e.on m))
    | none => false
theorem not_waits {l : List Nat} (ho : Ordered ops l) {l1 l2 : List Nat} {m : Nat} (e : l = l1 ++ m :: l2) : ∀ (k x : Nat), (∀ y, m < y → y < x → y ∈ l) → x ∈ l1 → waits ops k x m = false
  | 0, _, _, _ => rfl
  | k + 1, x, hall, hx => by
    cases hw : waits ops (k + 1) x m with
    | false => rfl
    | true =>
      exfalso
      simp only [waits] at hw
      cases hox : ops[x]? with
      | none => simp [hox] at hw
      | some o =>
        simp only [hox] at hw
        obtain ⟨ed, hed, h1⟩ := List.any_eq_true.1 hw
        simp only [Bool.and_eq_true, Bool.or_eq_true] at h1
        obtain ⟨hlt, h2⟩ := h1
        have hlt : ed.on < x := Nat.le_of_ble_eq_true hlt
        rcases h2 with h2 | ⟨h2, h3⟩
        · exact ho l1 m l2 e x hx o hox ed hed (Nat.eq_of_beq_eq_true h2)
        · have hml : m < ed.on := Nat.le_of_ble_eq_true h2
          have hin := hall ed.on hml hlt
          by_cases hc : ed.on ∈ l1
          · have := not_waits ho e k ed.on (fun y hy1 hy2 => hall y hy1 (by omega)) hc
            rw [this] at h3
            cases h3
          · -- it stands behind m, and so behind x
            rw [e] at hin
            have hin2 : ed.on ∈ l2 := by
              rcases List.mem_append.1 hin with h | h
              · exact absurd h hc
              · rcases List.mem_cons.1 h with h | h
                · omega
                · exact h
            obtain ⟨p1, p2, rfl⟩ := List.append_of_mem hin2
            exact ho (l1 ++ m :: p1) ed.on p2 (by rw [e]; simp) x (by simp [hx]) o hox ed hed rfl
theorem tail_eq : ∀ (s l : List Nat), s.Perm l → Ordered ops l → s.Pairwise (· < ·) → (∀ m ∈ s, ∀ x ∈ s, ∀ y, m < y → y < x → y ∈ s) →
    s.Pairwise (fun m x => waits ops ops.size x m = true) → s = l
  | [], l, hp, _, _, _, _ => (List.Perm.eq_nil hp.symm).symm
  | m :: s, l, hp, ho, hlt, hcl, hs => by
    have hlt' := List.pairwise_cons.1 hlt
    have hs' := List.pairwise_cons.1 hs
    obtain ⟨l1, l2, rfl⟩ := List.append_of_mem (hp.subset (List.mem_cons_self))
    have hp' : s.Perm (l1 ++ l2) := (List.perm_cons m).1 (hp.trans List.perm_middle)
    have hcl' : ∀ p ∈ s, ∀ x ∈ s, ∀ y, p < y → y < x → y ∈ s := by
      intro p hpm x hx y h1 h2
      rcases List.mem_cons.1 (hcl p (List.mem_cons_of_mem _ hpm) x (List.mem_cons_of_mem _ hx) y h1 h2) with h | h
      · have := hlt'.1 p hpm
        omega
      · exact h
    have hn : l1 = [] := by
      cases l1 with
      | nil => rfl
      | cons x r =>
        have hxs : x ∈ s := hp'.symm.subset (by simp)
        have := not_waits ho rfl ops.size x (fun y h1 h2 => hp.subset (hcl m (List.mem_cons_self) x (List.mem_cons_of_mem _ hxs) y h1 h2)) (by simp)
        rw [hs'.1 x hxs] at this
        cases this
    subst hn
    rw [tail_eq s l2 hp' ho.strike hlt'.2 hcl' hs'.2]
    rfl
theorem wpK_sorted : ∀ (s l : List Nat), s.Perm l → Ordered ops l → s.Pairwise (· < ·) → (∀ m ∈ s, ∀ x ∈ s, ∀ y, m < y → y < x → y ∈ s) →
    s.Pairwise (fun m x => waits ops ops.size x m = true ∨ mayPass qt z ops m x = true) →
    ∀ {a : Act} {w : World}, K w → wpK P K qt z ops Q s a w → wpK P K qt z ops Q l a w
  | [], l, hp, _, _, _, _, a, w, _, h => by rw [List.Perm.eq_nil hp.symm]; exact h
  | m :: s, l, hp, ho, hlt, hcl, hs, a, w, hK, h => by
    by_cases hmz : m < z
    · have hlt' := List.pairwise_cons.1 hlt
      obtain ⟨l1, l2, rfl⟩ := List.append_of_mem (hp.subset (List.mem_cons_self))
      have hp' : s.Perm (l1 ++ l2) := (List.perm_cons m).1 (hp.trans List.perm_middle)
      have hs' := List.pairwise_cons.1 hs
      have hcl' : ∀ p ∈ s, ∀ x ∈ s, ∀ y, p < y → y < x → y ∈ s := by
        intro p hpm x hx y h1 h2
        rcases List.mem_cons.1 (hcl p (List.mem_cons_of_mem _ hpm) x (List.mem_cons_of_mem _ hx) y h1 h2) with h | h
        · have := hlt'.1 p hpm
          omega
        · exact h
      have h1 : wpK P K qt z ops Q (m :: (l1 ++ l2)) a w :=
        wpK_under hmz (fun a w hK h => wpK_sorted s (l1 ++ l2) hp' ho.strike hlt'.2 hcl' hs'.2 hK h) hK h
      have hmay : ∀ x ∈ l1, mayPass qt z ops m x = true := ?_
      · cases hsp : spAt qt ops m with
        | true => exact wpK_behind_sp hsp l1 l2 hmay h1
        | false => exact wpK_behind hsp l1 l2 hmay hK h1
      intro x hx
      have hxs : x ∈ s := hp'.symm.subset (List.mem_append_left _ hx)
      rcases hs'.1 x hxs with hwt | hmp
      · have := not_waits ho rfl ops.size x (fun y h1 h2 => hp.subset (hcl m (List.mem_cons_self) x (List.mem_cons_of_mem _ hxs) y h1 h2)) hx
        rw [this] at hwt
        cases hwt
      · exact hmp
    · have hall : ∀ x ∈ m :: s, z ≤ x := by
        intro x hx
        rcases List.mem_cons.1 hx with h | h
        · omega
        · have := (List.pairwise_cons.1 hlt).1 x h
          omega
      have hw : (m :: s).Pairwise (fun m x => waits ops ops.size x m = true) := by
        refine hs.imp_of_mem fun {p x} hp hx h => ?_
        rcases h with h | h
        · exact h
        · unfold mayPass at h
          have := hall p hp
          split at h
          · simp only [Bool.and_eq_true] at h
            have := Nat.le_of_ble_eq_true h.1.2
            omega
          · cases h
      rw [← tail_eq (m :: s) l hp ho hlt hcl hw]
      exact h
end
end Go.Gv
namespace Go.Gv
open Go
section
variable {ops : Array Oper}
def Clo (ops : Array Oper) (acc : List Nat) : Prop := ∀ x ∈ acc, ∀ o, ops[x]? = some o → ∀ e ∈ aft o, e.on ∈ acc
theorem ordered_snoc {acc : List Nat} {i : Nat} (h : Ordered ops acc.reverse) (hc : Clo ops acc) (hi : i ∉ acc) : Ordered ops (i :: acc).reverse := by
  rw [List.reverse_cons]
  intro l1 m l2 e x hx o ho ed hed
  rcases List.append_eq_append_iff.1 e with ⟨c, hc1, hc2⟩ | ⟨c, hc1, hc2⟩
  · -- m stands behind acc.reverse
    cases c with
    | nil =>
      simp only [List.append_nil] at hc1
      simp only [List.nil_append, List.cons.injEq] at hc2
      obtain ⟨rfl, _⟩ := hc2
      rintro rfl
      have hxm : x ∈ acc := by rw [hc1] at hx; simpa using hx
      exact hi (hc x hxm o ho ed hed)
    | cons z c =>
      simp only [List.cons_append, List.cons.injEq] at hc2
      have := congrArg List.length hc2.2
      simp at this
  · cases c with
    | nil =>
      simp only [List.append_nil] at hc1
      simp only [List.nil_append, List.cons.injEq] at hc2
      obtain ⟨rfl, _⟩ := hc2
      rintro rfl
      have hxm : x ∈ acc := by rw [← hc1] at hx; simpa using hx
      exact hi (hc x hxm o ho ed hed)
    | cons z c =>
      simp only [List.cons_append, List.cons.injEq] at hc2
      obtain ⟨rfl, hc2⟩ := hc2
      exact h l1 m c hc1 x hx o ho ed hed
def backward (ops : Array Oper) : Bool :=
  (List.range ops.size).all fun i => match ops[i]? with
    | some o => o.after.toList.all fun e => Nat.blt e.on i && Region.binds .any e
    | none => true
theorem binds_all {e : Edge} (h : Region.binds .any e = true) (m : Region.Mode) : Region.binds m e = true := by
  unfold Region.binds at h ⊢
  split <;> simp_all
theorem filter_pos {n : Nat} {p : Nat → Bool} {i : Nat} (hi : i < n) (hp : p i = true) (t : Nat) : ∃ j, ((List.range n).filter p)[t % ((List.range n).filter p).length]? = some j ∧ j < n ∧ p j = true := by
  have hmem : i ∈ (List.range n).filter p := List.mem_filter.2 ⟨List.mem_range.2 hi, hp⟩
  have hpos : 0 < ((List.range n).filter p).length := List.length_pos_of_mem hmem
  have hlt := Nat.mod_lt t hpos
  refine ⟨((List.range n).filter p)[t % ((List.range n).filter p).length], by simp [hlt], ?_⟩
  have hm := List.getElem_mem hlt
  have := List.mem_filter.1 hm
  exact ⟨List.mem_range.1 this.1, this.2⟩
theorem exists_unlisted {n : Nat} {acc : List Nat} (hn : acc.length < n) (hnd : acc.Nodup) : ∃ i, i < n ∧ i ∉ acc ∧ ∀ j, j < i → j ∈ acc := by
  have hex : ∃ i, i < n ∧ i ∉ acc := by
    by_cases h : ∃ i, i < n ∧ i ∉ acc
    · exact h
    · exfalso
      have hsub : ∀ i, i ∈ List.range n → i ∈ acc := by
        intro i hi
        by_cases hm : i ∈ acc
        · exact hm
        · exact absurd ⟨i, List.mem_range.1 hi, hm⟩ h
      have := (List.nodup_range (n := n)).length_le_of_subset hsub
      simp at this
      omega
  obtain ⟨i, ⟨h1, h2⟩, h3⟩ := least_ex hex
  refine ⟨i, h1, h2, fun j hj => ?_⟩
  by_cases hm : j ∈ acc
  · exact hm
  · have := h3 j ⟨by omega, hm⟩
    omega
def Prog (m : Region.Mode) (ops : Array Oper) : Prop := ∀ acc : List Nat, acc.length < ops.size → acc.Nodup → ∃ i, i < ops.size ∧ i ∉ acc ∧ ∀ o, ops[i]? = some o → ∀ e ∈ o.after.toList, Region.binds m e = true → e.on ∈ acc ∧ e.on < ops.size
theorem go_ok {md : Region.Mode} (hb : Prog md ops) (hin : ∀ (i : Nat) (o : Oper), ops[i]? = some o → ∀ e ∈ o.after.toList, e.on < ops.size) : ∀ (fuel t : Nat) (listed : Array Bool) (acc : List Nat),
    (∀ i, i < ops.size → (listed.getD i true = true ↔ i ∈ acc)) → (∀ i, i < ops.size → (listed.getD i false = true ↔ i ∈ acc)) → (∀ i ∈ acc, i < ops.size) → acc.Nodup → acc.length + fuel = ops.size → listed.size = ops.size →
    Ordered ops acc.reverse → Clo ops acc →
    let l := Region.linearise.go md ops fuel t listed acc
    (List.range ops.size).Perm l ∧ Ordered ops l
  | 0, t, listed, acc, _, _, hlt, hnd, hlen, _, hord, _ => by
    simp only [Region.linearise.go]
    refine ⟨?_, hord⟩
    refine (List.perm_ext_iff_of_nodup List.nodup_range (List.pairwise_reverse.2 (hnd.imp fun h => h.symm))).2 fun i => ?_
    rw [List.mem_range, List.mem_reverse]
    refine ⟨fun hi => ?_, hlt i⟩
    by_cases hm : i ∈ acc
    · exact hm
    · have hsub : (i :: acc) ⊆ List.range ops.size := by
        intro k hk
        rw [List.mem_range]
        cases hk with
        | head => exact hi
        | tail _ h => exact hlt k h
      have := (List.nodup_cons.2 ⟨hm, hnd⟩).length_le_of_subset hsub
      simp at this
      omega
  | fuel + 1, t, listed, acc, hl, hl', hlt, hnd, hlen, hsz, hord, hclo => by
    obtain ⟨i, hi1, hi2, hi3⟩ := hb acc (by omega) hnd
    simp only [Region.linearise.go]
    have hp : ((fun i => !listed.getD i true && ((ops[i]?).map (·.after.all fun e => !Region.binds md e || listed.getD e.on false)).getD false) i) = true := by
      simp only [Bool.and_eq_true, Bool.not_eq_true']
      refine ⟨?_, ?_⟩
      · cases hx : listed.getD i true with
        | false => rfl
        | true => exact absurd ((hl i hi1).1 hx) hi2
      · rw [Array.getElem?_eq_getElem hi1]
        simp only [Option.map_some, Option.getD_some]
        rw [Array.all_eq_true]
        intro k hk
        cases hbd : Region.binds md (ops[i].after[k]) with
        | false => rfl
        | true =>
          have hb2 := hi3 ops[i] (Array.getElem?_eq_getElem hi1) (ops[i].after[k]) (by simp) hbd
          simp only [Bool.not_true, Bool.false_or]
          exact (hl' _ hb2.2).2 hb2.1
    obtain ⟨j, hj, hjn, hjp⟩ := filter_pos (p := fun i => !listed.getD i true && ((ops[i]?).map (·.after.all fun e => !Region.binds md e || listed.getD e.on false)).getD false) hi1 hp t
    rw [hj]
    simp only
    simp only [Bool.and_eq_true, Bool.not_eq_true'] at hjp
    have hjacc : j ∉ acc := by
      intro hm
      have := (hl j hjn).2 hm
      rw [hjp.1] at this
      cases this
    refine go_ok hb hin fuel _ _ _ ?_ ?_ ?_ ?_ ?_ ?_ ?_ ?_
    · intro k hk
      rw [Array.getD_eq_getD_getElem?, Array.getElem?_setIfInBounds]
      by_cases e : j = k
      · subst e; simp [hsz, hk]
      · rw [if_neg e, ← Array.getD_eq_getD_getElem?, hl k hk]
        exact ⟨List.mem_cons_of_mem _, fun h => (List.mem_cons.1 h).resolve_left fun x => e x.symm⟩
    · intro k hk
      rw [Array.getD_eq_getD_getElem?, Array.getElem?_setIfInBounds]
      by_cases e : j = k
      · subst e; simp [hsz, hk]
      · rw [if_neg e, ← Array.getD_eq_getD_getElem?, hl' k hk]
        exact ⟨List.mem_cons_of_mem _, fun h => (List.mem_cons.1 h).resolve_left fun x => e x.symm⟩
    · intro k hk
      cases hk with
      | head => exact hjn
      | tail _ hm => exact hlt k hm
    · exact List.nodup_cons.2 ⟨hjacc, hnd⟩
    · simp; omega
    · simp [hsz]
    · exact ordered_snoc hord hclo hjacc
    · intro x hx o ho e he
      cases hx with
      | head =>
        rw [Array.getElem?_eq_getElem hjn] at hjp ho
        simp only [Option.map_some, Option.getD_some] at hjp
        injection ho with ho
        subst ho
        rw [Array.all_eq_true] at hjp
        obtain ⟨he, hbd⟩ := List.mem_filter.1 he
        have hlt := hin j ops[j] (Array.getElem?_eq_getElem hjn) e he
        obtain ⟨k, hk, rfl⟩ := List.mem_iff_getElem.1 he
        have h1 := hjp.2 k (by simpa using hk)
        simp only [Array.getElem_toList] at hbd hlt ⊢
        rw [binds_all hbd md] at h1
        simp only [Bool.not_true, Bool.false_or] at h1
        exact List.mem_cons_of_mem _ ((hl' _ hlt).1 h1)
      | tail _ hm => exact List.mem_cons_of_mem _ (hclo x hm o ho e he)
theorem linearise_ok {md : Region.Mode} (hb : Prog md ops) (hin : ∀ (i : Nat) (o : Oper), ops[i]? = some o → ∀ e ∈ o.after.toList, e.on < ops.size) (t : Nat) : (List.range ops.size).Perm (Region.linearise md ops t) ∧ Ordered ops (Region.linearise md ops t) := by
  unfold Region.linearise
  refine go_ok hb hin ops.size t _ [] ?_ ?_ ?_ ?_ ?_ ?_ ?_ ?_
  · intro i hi; simp [hi]
  · intro i hi; simp [hi]
  · intro i hi; cases hi
  · exact List.nodup_nil
  · simp
  · simp
  · intro l1 m l2 e; simp at e
  · intro x hx; cases hx
def Sched (ops : Array Oper) : Prop := ∀ mixed t, (List.range ops.size).Perm (Region.schedule mixed ops t) ∧ Ordered ops (Region.schedule mixed ops t)
theorem back_of (hb : backward ops = true) : ∀ (i : Nat) (o : Oper), ops[i]? = some o → ∀ e ∈ o.after.toList, e.on < i ∧ Region.binds .any e = true := by
  intro i o ho e he
  have hi : i < ops.size := (Array.getElem?_eq_some_iff.1 ho).1
  unfold backward at hb
  have h1 := List.all_eq_true.1 hb i (List.mem_range.2 hi)
  rw [ho] at h1
  have h2 := List.all_eq_true.1 h1 e he
  simp only [Bool.and_eq_true] at h2
  exact ⟨Nat.le_of_ble_eq_true h2.1, h2.2⟩
theorem departs_no (hb : backward ops = true) : Region.departs ops = false := by
  unfold Region.departs
  rw [Array.any_eq_false]
  intro i hi
  simp only [Bool.not_eq_true]
  rw [Array.any_eq_false]
  intro k hk
  have := back_of hb i ops[i] (Array.getElem?_eq_getElem hi) (ops[i].after[k]) (by simp)
  simp [this.2]
theorem Sched.back (hb : backward ops = true) : Sched ops := by
  intro mixed t
  unfold Region.schedule
  rw [departs_no hb]
  simp only [Bool.not_false, Bool.or_true, if_true]
  have hback := back_of hb
  refine linearise_ok ?_ (fun i o ho e he => ?_) t
  · intro acc hlen hnd
    obtain ⟨i, h1, h2, h3⟩ := exists_unlisted hlen hnd
    refine ⟨i, h1, h2, fun o ho e he _ => ?_⟩
    have := (hback i o ho e he).1
    exact ⟨h3 _ this, by omega⟩
  · have := (hback i o ho e he).1
    have := (Array.getElem?_eq_some_iff.1 ho).1
    omega
def okOrd (md : Region.Mode) (ops : Array Oper) : List Nat → List Nat → Bool
  | _, [] => true
  | seen, x :: r => (match ops[x]? with
    | some o => o.after.toList.all fun e => Nat.blt e.on ops.size && (!Region.binds md e || seen.any (Nat.beq e.on))
    | none => false) && okOrd md ops (x :: seen) r
theorem prog_of {md : Region.Mode} : ∀ (ord seen acc : List Nat), okOrd md ops seen ord = true → (∀ x ∈ seen, x ∈ acc) → (∃ x ∈ ord, x ∉ acc) →
    ∃ i, i < ops.size ∧ i ∉ acc ∧ ∀ o, ops[i]? = some o → ∀ e ∈ o.after.toList, Region.binds md e = true → e.on ∈ acc ∧ e.on < ops.size
  | [], seen, acc, h, hs, hx => by obtain ⟨x, hx, _⟩ := hx; cases hx
  | y :: r, seen, acc, h, hs, hx => by
    simp only [okOrd, Bool.and_eq_true] at h
    by_cases hy : y ∈ acc
    · refine prog_of r (y :: seen) acc h.2 (fun x hx => ?_) ?_
      · rcases List.mem_cons.1 hx with rfl | h
        · exact hy
        · exact hs x h
      · obtain ⟨x, hx, hn⟩ := hx
        rcases List.mem_cons.1 hx with rfl | h
        · exact absurd hy hn
        · exact ⟨x, h, hn⟩
    · cases ho : ops[y]? with
      | none => rw [ho] at h; simp at h
      | some o =>
        refine ⟨y, (Array.getElem?_eq_some_iff.1 ho).1, hy, fun o' ho' e he hbd => ?_⟩
        rw [ho'] at ho
        injection ho with ho
        subst ho
        rw [ho'] at h
        have := List.all_eq_true.1 h.1 e he
        simp only [hbd, Bool.not_true, Bool.false_or, Bool.and_eq_true] at this
        obtain ⟨h1, h2⟩ := this
        obtain ⟨x, hx, h3⟩ := List.any_eq_true.1 h2
        rw [Nat.eq_of_beq_eq_true h3]
        refine ⟨hs x hx, ?_⟩
        rw [← Nat.eq_of_beq_eq_true h3]
        exact Nat.le_of_ble_eq_true h1
def allIn (n : Nat) (ord : List Nat) : Bool := (List.range n).all fun i => ord.any (Nat.beq i)
theorem prog_ord {md : Region.Mode} {ord : List Nat} (h : okOrd md ops [] ord = true) (ha : allIn ops.size ord = true) : Prog md ops := by
  intro acc hlen hnd
  refine prog_of ord [] acc h (fun x hx => by cases hx) ?_
  obtain ⟨i, h1, h2, _⟩ := exists_unlisted hlen hnd
  have := List.all_eq_true.1 ha i (List.mem_range.2 h1)
  obtain ⟨x, hx, h3⟩ := List.any_eq_true.1 this
  rw [Nat.eq_of_beq_eq_true h3] at h2
  exact ⟨x, hx, h2⟩
theorem in_ord {md : Region.Mode} : ∀ (ord seen : List Nat), okOrd md ops seen ord = true → ∀ x ∈ ord, ∀ o, ops[x]? = some o → ∀ e ∈ o.after.toList, e.on < ops.size
  | [], _, _, x, hx, _, _, _, _ => by cases hx
  | y :: r, seen, h, x, hx, o, ho, e, he => by
    simp only [okOrd, Bool.and_eq_true] at h
    rcases List.mem_cons.1 hx with rfl | hx
    · rw [ho] at h
      have := List.all_eq_true.1 h.1 e he
      simp only [Bool.and_eq_true] at this
      exact Nat.le_of_ble_eq_true this.1
    · exact in_ord r _ h.2 x hx o ho e he
theorem Sched.ords (o1 o2 : List Nat) (h0 : okOrd .any ops [] o1 = true) (h1 : okOrd .text ops [] o1 = true) (h2 : okOrd .gc ops [] o2 = true) (a1 : allIn ops.size o1 = true) (a2 : allIn ops.size o2 = true) : Sched ops := by
  intro mixed t
  have hin : ∀ (i : Nat) (o : Oper), ops[i]? = some o → ∀ e ∈ o.after.toList, e.on < ops.size := by
    intro i o ho e he
    have := List.all_eq_true.1 a1 i (List.mem_range.2 (Array.getElem?_eq_some_iff.1 ho).1)
    obtain ⟨x, hx, h3⟩ := List.any_eq_true.1 this
    rw [← Nat.eq_of_beq_eq_true h3] at hx
    exact in_ord o1 [] h0 i hx o ho e he
  unfold Region.schedule
  split
  · exact linearise_ok (prog_ord h0 a1) hin t
  · split
    · exact linearise_ok (prog_ord h1 a1) hin _
    · exact linearise_ok (prog_ord h2 a2) hin _
def passOk (qt : Op → Bool) (z : Nat) (ops : Array Oper) : Bool :=
  (List.range ops.size).all fun x => match ops[x]? with
    | some ox => (List.range x).all fun m => waits ops ops.size x m || mayPass qt z ops m x
    | none => true
theorem passOk_pairs {qt : Op → Bool} {z : Nat} (h : passOk qt z ops = true) :
    (List.range ops.size).Pairwise (fun m x => waits ops ops.size x m = true ∨ mayPass qt z ops m x = true) := by
  have key : ∀ n, n ≤ ops.size → (List.range n).Pairwise (fun m x => waits ops ops.size x m = true ∨ mayPass qt z ops m x = true) := by
    intro n
    induction n with
    | zero => intro _; simp
    | succ n ih =>
      intro hn
      rw [List.range_succ, List.pairwise_append]
      refine ⟨ih (by omega), by simp, fun m hm x hx => ?_⟩
      rw [List.mem_singleton] at hx
      subst hx
      have h1 := List.all_eq_true.1 h x (List.mem_range.2 (by omega))
      rw [Array.getElem?_eq_getElem (by omega)] at h1
      have h2 := List.all_eq_true.1 h1 m hm
      rw [Bool.or_eq_true] at h2
      exact h2
  exact key _ (Nat.le_refl _)
end
def KT : World → Prop := fun _ => True
def qF : Op → Bool := fun _ => false
def qR : Op → Bool
  | .move _ | .pick .. | .load .. | .nilCheck _ | .binOp .. | .unOp .. | .convert .. | .fieldAddr .. | .field .. | .indexAddr .. | .index .. | .extract .. | .slice .. | .lookup .. | .makeInterface .. | .makeFunc .. => true
  | .call { callee := .builtin .len, .. } | .call { callee := .builtin .max, .. } | .call { callee := .builtin .min, .. } | .call { callee := .builtin .cap, .. } => true
  | _ => false
def WO (P : Program) (n : Nat) (K : World → Prop) (qt : Op → Bool) (z : Nat) (ops : Array Oper) (Q : Exit → Act → World → Prop) (l : List Nat) (fr : Fr) (w : World) : Prop :=
  K w → ∀ a, Ag n fr a → wpK P K qt z ops Q l a w
section
variable {P : Program} {n : Nat} {K : World → Prop} {qt : Op → Bool} {z : Nat} {ops : Array Oper} {Q : Exit → Act → World → Prop} {fr : Fr} {w : World} {l : List Nat}
theorem W.region {id : Nat} (hl : List.range ops.size = l) (h : WO P n KT qF 0 ops Q l fr w) : W P n (.region id ops false) Q fr w :=
  fun a ha => wp_region (by rw [hl]; exact wpOps_of_wpK l a w (h trivial a ha))
theorem ybl {id : Nat} (hl : List.range ops.size = l) (z : Nat) (K : World → Prop) (qt : Op → Bool) (hb : Sched ops) (hp : passOk qt z ops = true) (hK : K w.drew)
    (h : WO P n K qt z ops Q l fr w.drew) : W P n (.region id ops true) Q fr w :=
  fun a ha => wp_region_draw fun t => by
    obtain ⟨h1, h2⟩ := hb (P.follows .mixedOrders) t
    exact wpOps_of_wpK _ a w.drew (wpK_sorted _ _ h1 h2 List.pairwise_lt_range (fun m _ x hx y _ h2 => by rw [List.mem_range] at hx ⊢; omega) (passOk_pairs hp) hK (by rw [hl]; exact h hK a ha))
theorem yt (h : En n Q .normal fr w) : WO P n K qt z ops Q [] fr w := fun _ a ha => h a ha
theorem WO.weaken {fr' : Fr} (h : WO P n K qt z ops Q l fr' w) (hs : Sub fr' fr) : WO P n K qt z ops Q l fr w := fun hK a ha => h hK a (ha.weaken hs.lk)
theorem y8 (t : Nat) {u v : Value} (h0 : lk fr t = some u) (e : u = v) (h : WO P n K qt z ops Q l ((t, v) :: fr) w) : WO P n K qt z ops Q l fr w := by
  subst e
  refine fun hK a ha => h hK a (ha.weaken fun i x hx => ?_)
  rw [lk_cons] at hx
  by_cases e : i = t
  · subst e; simp at hx; subst hx; exact h0
  · rwa [if_neg e] at hx
def Kx (K : World → Prop) (q : Bool) (w w' : World) : Prop := (q = true ∧ K w') ∨ w' = w
def wantedAt (ops : Array Oper) (fr : Fr) (o : Oper) : Bool :=
  match o.guard with
  | none => true
  | some (j, want) => match dstOf ops j with
    | some t => match lk fr t with
      | some (.bool b) => b == want
      | _ => false
    | none => false
def unwantedAt (n : Nat) (ops : Array Oper) (fr : Fr) (o : Oper) : Bool :=
  match o.guard with
  | none => false
  | some (j, want) => match dstOf ops j with
    | some t => Nat.blt t n && (match lk fr t with
      | some (.bool b) => b != want
      | some _ => true
      | none => false)
    | none => true
def okAt (n : Nat) (ops : Array Oper) (fr : Fr) (o : Oper) : Bool := wantedAt ops fr o && hasAll fr (opsOf o.op) && served o.op && fits n o.dst
theorem yielded_at {a : Act} (ha : Ag n fr a) {j t : Nat} {v : Value} (hd : dstOf ops j = some t) (hv : lk fr t = some v) (hne : ∀ b, v = .bool b → True) :
    (match ((ops[j]?).bind (·.dst)).bind (a.tmps[·]?) with | some u => u | none => undef) = v := by
  have e : (ops[j]?).bind (·.dst) = some t := hd
  rw [e]
  have := ha.slots t v hv
  rw [Array.getD_eq_getD_getElem?] at this
  simp only [Option.bind_some]
  cases hx : a.tmps[t]? with
  | none => rw [hx] at this; exact this
  | some u => rw [hx] at this; exact this
theorem wanted_of {a : Act} (ha : Ag n fr a) {o : Oper} (h : wantedAt ops fr o = true) : Region.wanted o (yielded ops a.tmps) = true := by
  unfold wantedAt at h
  unfold Region.wanted
  cases hg : o.guard with
  | none => rfl
  | some p =>
    obtain ⟨j, want⟩ := p
    simp only [hg] at h ⊢
    cases hd : dstOf ops j with
    | none => simp [hd] at h
    | some t =>
      simp only [hd] at h
      cases hv : lk fr t with
      | none => simp [hv] at h
      | some v =>
        have hy := yielded_at ha hd hv (fun _ _ => trivial)
        unfold yielded
        cases v <;> simp [hv] at h
        rename_i b
        cases hx : ((ops[j]?).bind (·.dst)).bind (a.tmps[·]?) with
        | none => rw [hx] at hy; simp [undef] at hy
        | some u => rw [hx] at hy; simp at hy; subst hy; simp [h]
theorem unwanted_of {a : Act} (ha : Ag n fr a) {o : Oper} (h : unwantedAt n ops fr o = true) : Region.wanted o (yielded ops a.tmps) = false := by
  unfold unwantedAt at h
  unfold Region.wanted
  cases hg : o.guard with
  | none => simp [hg] at h
  | some p =>
    obtain ⟨j, want⟩ := p
    simp only [hg] at h ⊢
    unfold yielded
    cases hd : dstOf ops j with
    | none =>
      have e : (ops[j]?).bind (·.dst) = none := hd
      rw [e]; simp
    | some t =>
      simp only [hd, Bool.and_eq_true] at h
      cases hv : lk fr t with
      | none => simp [hv] at h
      | some v =>
        have hy := yielded_at ha hd hv (fun _ _ => trivial)
        cases hx : ((ops[j]?).bind (·.dst)).bind (a.tmps[·]?) with
        | none => simp
        | some u =>
          rw [hx] at hy; simp only at hy; subst hy
          cases u <;> simp [hv] at h ⊢
          · rename_i b; cases b <;> cases want <;> simp_all
theorem Ag.congr {a : Act} (ha : Ag n fr a) {o : Oper} (hs : served o.op = true) (hh : hasAll fr (opsOf o.op) = true) : execOp a.eval o = execOp (Gv.ev fr) o :=
  execOp_congr o hs fun x hx => ha.ev (List.all_eq_true.1 hh x hx)
theorem ybp {i : Nat} {o : Oper} (ho : ops[i]? = some o) (hok : okAt n ops fr o = true) (v : Value)
    (hr : ∀ w', (execOp (ev fr) o).run P w' = .ok (.value v) w') (h : WO P n K qt z ops Q l (pt fr o.dst v) w) : WO P n K qt z ops Q (i :: l) fr w := by
  intro hK a ha
  simp only [okAt, Bool.and_eq_true] at hok
  obtain ⟨⟨⟨hw, hh⟩, hs⟩, hf⟩ := hok
  have e := ha.congr hs hh
  simp only [wpK, ho]
  rw [if_pos (wanted_of ha hw)]
  by_cases hq : (qt o.op && Nat.blt i z) = true
  · rw [if_pos hq]
    exact ⟨v, fun w' _ => by rw [e]; exact hr w', h hK _ (ha.put hf v)⟩
  · rw [if_neg hq]
    unfold effK
    rw [e, hr w]
    exact ⟨.inr hK, h hK _ (ha.put hf v)⟩
theorem WO.val {i : Nat} {o : Oper} (ho : ops[i]? = some o) (hok : okAt n ops fr o = true) (v : Value)
    (hr : ∀ w', Kx K (qt o.op) w w' → (execOp (ev fr) o).run P w' = .ok (.value v) w') (h : WO P n K qt z ops Q l (pt fr o.dst v) w) (hsp : spOp o.op = false := by rfl) : WO P n K qt z ops Q (i :: l) fr w := by
  intro hK a ha
  simp only [okAt, Bool.and_eq_true] at hok
  obtain ⟨⟨⟨hw, hh⟩, hs⟩, hf⟩ := hok
  have e := ha.congr hs hh
  simp only [wpK, ho]
  rw [if_pos (wanted_of ha hw)]
  by_cases hq : (qt o.op && Nat.blt i z) = true
  · rw [if_pos hq]
    refine ⟨v, fun w' hw' => ?_, h hK _ (ha.put hf v)⟩
    rw [e]
    rw [hsp] at hw'
    rcases hw' with (x | x) | x
    · exact hr w' (.inl ⟨(Bool.and_eq_true _ _ ▸ hq).1, x⟩)
    · exact hr w' (.inr x)
    · cases x
  · rw [if_neg hq]
    unfold effK
    rw [e, hr w (.inr rfl)]
    exact ⟨.inr hK, h hK _ (ha.put hf v)⟩
theorem WO.pass {i : Nat} {o : Oper} (ho : ops[i]? = some o) (hun : unwantedAt n ops fr o = true) (hf : fits n o.dst = true) (h : WO P n K qt z ops Q l (pt fr o.dst undef) w) : WO P n K qt z ops Q (i :: l) fr w := by
  intro hK a ha
  simp only [wpK, ho]
  rw [if_neg (by rw [unwanted_of ha hun]; simp)]
  exact h hK _ (ha.put hf undef)
theorem ybh {i : Nat} {o : Oper} (ho : ops[i]? = some o) (hok : okAt n ops fr o = true) (hq : qt o.op = false) {v : Value} {w' : World}
    (hr : (execOp (ev fr) o).run P w = .ok (.value v) w') (hK' : K w') (h : WO P n K qt z ops Q l (pt fr o.dst v) w') : WO P n K qt z ops Q (i :: l) fr w := by
  intro hK a ha
  simp only [okAt, Bool.and_eq_true] at hok
  obtain ⟨⟨⟨hw, hh⟩, hs⟩, hf⟩ := hok
  have e := ha.congr hs hh
  simp only [wpK, ho]
  rw [if_pos (wanted_of ha hw), if_neg (by rw [hq]; simp)]
  unfold effK
  rw [e, hr]
  exact ⟨.inr hK', h hK' _ (ha.put hf v)⟩
theorem WO.acts {i : Nat} {o : Oper} (ho : ops[i]? = some o) (hok : okAt n ops fr o = true) (hq : qt o.op = false) {w' : World}
    (hr : (execOp (ev fr) o).run P w = .ok .skip w') (hK' : K w') (h : WO P n K qt z ops Q l (pt fr o.dst undef) w') : WO P n K qt z ops Q (i :: l) fr w := by
  intro hK a ha
  simp only [okAt, Bool.and_eq_true] at hok
  obtain ⟨⟨⟨hw, hh⟩, hs⟩, hf⟩ := hok
  have e := ha.congr hs hh
  simp only [wpK, ho]
  rw [if_pos (wanted_of ha hw), if_neg (by rw [hq]; simp)]
  unfold effK
  rw [e, hr]
  exact ⟨.inr hK', h hK' _ (ha.put hf undef)⟩
theorem WO.call {i : Nat} {o : Oper} (ho : ops[i]? = some o) (hok : okAt n ops fr o = true) (hq : qt o.op = false) {f : FuncId} {args : Array Value}
    (hr : (execOp (ev fr) o).run P w = .ok (.enter f args) w) {R : Ending → World → Prop} (hc : Calls P f args w R)
    (h : ∀ e w', R e w' → ∃ v, e = .returned v ∧ K w' ∧ WO P n K qt z ops Q l (pt fr o.dst v) w') : WO P n K qt z ops Q (i :: l) fr w := by
  intro hK a ha
  simp only [okAt, Bool.and_eq_true] at hok
  obtain ⟨⟨⟨hw, hh⟩, hs⟩, hf⟩ := hok
  have e := ha.congr hs hh
  simp only [wpK, ho]
  rw [if_pos (wanted_of ha hw), if_neg (by rw [hq]; simp)]
  unfold effK
  rw [e, hr]
  refine hc.mono ?_
  intro e w' hR
  obtain ⟨v, rfl, hK', hn⟩ := h e w' hR
  exact ⟨v, rfl, .inr hK', hn hK' _ (ha.put hf v)⟩
def resL (P : Program) (ops : Array Oper) (w : World) : List (Nat × Nat × Value) → Fr → List (Result Next)
  | [], _ => []
  | (i, d, v) :: r, fr => match ops[i]? with
    | some o => (execOp (ev fr) o).run P w :: resL P ops w r ((d, v) :: fr)
    | none => .ok (.value v) w :: resL P ops w r fr
def wantL (w : World) : List (Nat × Nat × Value) → List (Result Next)
  | [] => []
  | (i, d, v) :: r => .ok (.value v) w :: wantL w r
def isDst (d : Nat) : Option Tmp → Bool
  | some t => Nat.beq t d
  | none => false
def okL (n : Nat) (ops : Array Oper) : List (Nat × Nat × Value) → Fr → Bool
  | [], _ => true
  | (i, d, v) :: r, fr => match ops[i]? with
    | some o => okAt n ops fr o && isDst d o.dst && okL n ops r ((d, v) :: fr)
    | none => false
def ptL : List (Nat × Nat × Value) → Fr → Fr
  | [], fr => fr
  | (_, d, v) :: r, fr => ptL r ((d, v) :: fr)
theorem isDst_eq {d : Nat} {t : Option Tmp} (h : isDst d t = true) : t = some d := by
  cases t with
  | none => cases h
  | some x => simp only [isDst] at h; rw [Nat.eq_of_beq_eq_true h]
theorem yba : ∀ (vs : List (Nat × Nat × Value)) {fr : Fr}, okL n ops vs fr = true → (∀ w', resL P ops w' vs fr = wantL w' vs) → WO P n K qt z ops Q l (ptL vs fr) w →
    WO P n K qt z ops Q (vs.map (·.1) ++ l) fr w
  | [], fr, _, _, h => h
  | (i, d, v) :: vs, fr, hok, hr, h => by
    cases ho : ops[i]? with
    | none => simp [okL, ho] at hok
    | some o =>
      simp only [okL, ho, Bool.and_eq_true] at hok
      have hd := isDst_eq hok.1.2
      have hr' : ∀ w', (execOp (ev fr) o).run P w' = .ok (.value v) w' ∧ resL P ops w' vs ((d, v) :: fr) = wantL w' vs := by
        intro w'
        have := hr w'
        simp only [resL, ho, wantL, List.cons.injEq] at this
        exact this
      refine ybp ho hok.1.1 v (fun w' => (hr' w').1) ?_
      have hpt : pt fr o.dst v = (d, v) :: fr := by rw [hd]; rfl
      rw [hpt]
      exact yba vs hok.2 (fun w' => (hr' w').2) h
theorem W.join {c : Code} (J : Fr → World → Prop) (hrest : ∀ fr w, J fr w → En n Q .normal fr w) (h : W P n c (Rd n J Q) fr w) : W P n c Q fr w :=
  fun a ha => wp_mono (h a ha) fun e a' w' hq => by
    cases e with
    | normal => obtain ⟨fr', ha', hJ⟩ := hq; exact hrest fr' w' hJ a' ha'
    | _ => exact hq
theorem WO.tail (hz : (l.all fun i => Nat.ble z i) = true) (h : WO P n KT qF z ops Q l fr w) : WO P n K qt z ops Q l fr w := by
  intro _ a ha
  have key : ∀ (l : List Nat) (a : Act) (w : World), (∀ i ∈ l, z ≤ i) → wpK P KT qF z ops Q l a w → wpK P K qt z ops Q l a w := by
    intro l
    induction l with
    | nil => intro a w _ h; exact h
    | cons i r ih =>
      intro a w hl h
      have hi := hl i (by simp)
      have hb : Nat.blt i z = false := by
        cases hx : Nat.blt i z with
        | false => rfl
        | true => have h2 : i + 1 ≤ z := Nat.le_of_ble_eq_true hx; omega
      simp only [wpK, hb, Bool.and_false] at h ⊢
      cases ho : ops[i]? with
      | none => rw [ho] at h; exact ih a w (fun x hx => hl x (by simp [hx])) h
      | some o =>
        simp only [ho] at h ⊢
        by_cases hw : Region.wanted o (yielded ops a.tmps) = true
        · rw [if_pos hw] at h ⊢
          simp only [Bool.false_eq_true, if_false] at h ⊢
          exact h.mono fun v w' ⟨_, hr⟩ => ⟨.inl hi, ih _ _ (fun x hx => hl x (by simp [hx])) hr⟩
        · rw [if_neg hw] at h ⊢
          exact ih _ _ (fun x hx => hl x (by simp [hx])) h
  exact key l a w (fun i hi => Nat.le_of_ble_eq_true (List.all_eq_true.1 hz i hi)) (h trivial a ha)
theorem WO.join {l1 l2 : List Nat} (J : Fr → World → Prop) (hrest : ∀ fr w, J fr w → WO P n K qt z ops Q l2 fr w) (h : WO P n K qt z ops (Rd n (fun fr w => J fr w ∧ K w) Q) l1 fr w) : WO P n K qt z ops Q (l1 ++ l2) fr w := by
  intro hK a ha
  have key : ∀ (l1 : List Nat) (a : Act) (w : World), wpK P K qt z ops (Rd n (fun fr w => J fr w ∧ K w) Q) l1 a w → wpK P K qt z ops Q (l1 ++ l2) a w := by
    intro l1
    induction l1 with
    | nil => intro a w h; obtain ⟨fr', ha', hJ, hK'⟩ := h; exact hrest fr' w hJ hK' a ha'
    | cons i r ih =>
      intro a w h
      simp only [List.cons_append, wpK] at h ⊢
      cases ho : ops[i]? with
      | none => rw [ho] at h; exact ih a w h
      | some o =>
        simp only [ho] at h ⊢
        by_cases hw : Region.wanted o (yielded ops a.tmps) = true
        · rw [if_pos hw] at h ⊢
          by_cases hq : (qt o.op && Nat.blt i z) = true
          · rw [if_pos hq] at h ⊢
            obtain ⟨v, hv, h⟩ := h
            exact ⟨v, hv, ih _ _ h⟩
          · rw [if_neg hq] at h ⊢
            exact h.mono fun v w' ⟨hK', h⟩ => ⟨hK', ih _ _ h⟩
        · rw [if_neg hw] at h ⊢
          exact ih _ _ h
  exact key l1 a w (h hK a ha)
theorem WO.meet {J : Fr → World → Prop} (h : J fr w) : WO P n K qt z ops (Rd n (fun fr w => J fr w ∧ K w) Q) [] fr w := fun hK a ha => ⟨fr, ha, h, hK⟩
end
end Go.Gv
namespace Go.Gv
open Go
def aggOf (P : Program) (t : TypeId) : Option Bool :=
  match P.underlying t with
  | some (.struct _) | some (.array _ _) => some true
  | some _ => some false
  | none => none
def zeroOf (P : Program) (t : TypeId) : Option (Array Value) := (P.info? t).bind fun i => i.zero.map Value.cells
def sizeIs (P : Program) (t : TypeId) : Option Nat := (P.info? t).map (·.size)
def sliceOf (P : Program) (t : TypeId) : Option TypeId :=
  match P.underlying t with
  | some (.slice e) => some e
  | _ => none
section
variable {P : Program} {w : World}
theorem run_underlying' {t : TypeId} {d : TypeDesc} (h : P.underlying t = some d) : (underlying t).run P w = .ok d w := by
  simp [underlying, program, bind, Sem.bind, Sem.run, h, pure]
theorem run_isAgg {t : TypeId} {b : Bool} (h : aggOf P t = some b) : (isAgg t).run P w = .ok b w := by
  unfold aggOf at h
  simp only [isAgg, underlying, program, bind, Sem.bind, Sem.run]
  cases hu : P.underlying t with
  | none => simp [hu] at h
  | some d => cases d <;> simp [hu] at h <;> subst h <;> rfl
theorem run_bind {α β : Type} {x : Sem α} {f : α → Sem β} {a : α} {w' : World} (h : x.run P w = .ok a w') : (x >>= f).run P w = (f a).run P w' := by
  simp [h]
theorem run_sizeOf {t n : Nat} (h : sizeIs P t = some n) : (sizeOf t).run P w = .ok n w := by
  unfold sizeIs at h
  cases hi : P.info? t with
  | none => simp [hi] at h
  | some i =>
    simp [hi] at h
    simp [sizeOf, typeInfo, hi, h]
theorem run_zeroValue {t : TypeId} {z : Array Value} (h : zeroOf P t = some z) : ∃ v, v.cells = z ∧ (zeroValue t).run P w = .ok v w := by
  unfold zeroOf at h
  cases hi : P.info? t with
  | none => simp [hi] at h
  | some i =>
    simp [hi] at h
    obtain ⟨v, hv, e⟩ := h
    exact ⟨v, e, by simp [zeroValue, typeInfo, hi, hv]⟩
theorem sliceOf_eq {t e : TypeId} (h : sliceOf P t = some e) : P.underlying t = some (.slice e) := by
  unfold sliceOf at h
  split at h
  · rename_i e' hu; injection h with h; subst h; exact hu
  · cases h
end
section
variable {P : Program} {n : Nat} {K : World → Prop} {qt : Op → Bool} {z : Nat} {ops : Array Oper} {Q : Exit → Act → World → Prop} {fr : Fr} {w : World} {l : List Nat} {i : Nat}
  {dst : Option Tmp} {ty : TypeId} {pos : String} {after : Array Edge} {guard : Option (Nat × Bool)}
theorem cell_one {w : World} {b off : Nat} {c : Array Value} {T : TypeId} {fz : Nat × Nat} {v : Value} (h : Rdb w (one b (.cells c T fz))) (hv : c[off]? = some v) : w.cell? ⟨b, off, none⟩ = some v := by
  simp [World.cell?, h _ _ (one_at b _), hv]
theorem run_loadVar1 {t : TypeId} (ht : aggOf P t = some false) {b off : Nat} {v : Value} (hc : w.cell? ⟨b, off, none⟩ = some v) : (loadVar t ⟨b, off, none⟩).run P w = .ok v w := by
  unfold loadVar
  rw [run_bind (run_isAgg ht)]
  simp [load, Sem.run, hc]
theorem run_loadVarN {t : TypeId} (ht : aggOf P t = some true) {b off : Nat} {cs : List Value} (hs : sizeIs P t = some cs.length) (hc : ∀ j v, cs[j]? = some v → w.cell? ⟨b, off + j, none⟩ = some v) :
    (loadVar t ⟨b, off, none⟩).run P w = .ok (.agg cs.toArray) w := by
  unfold loadVar
  rw [run_bind (run_isAgg ht)]
  simp only [if_true]
  rw [run_bind (run_sizeOf hs)]
  unfold loadCells
  rw [run_bind (f := fun cs => pure (Value.agg cs)) (run_loadCellsFrom cs 0 #[] (fun j v hj => by rw [Nat.zero_add]; exact hc j v hj))]
  simp [pure]
theorem ybn {t : TypeId} {x : Operand} (ho : ops[i]? = some ⟨dst, .load t x, ty, pos, after, guard⟩) (hok : okAt n ops fr ⟨dst, .load t x, ty, pos, after, guard⟩ = true)
    (ht : aggOf P t = some false) {b off : Nat} (hx : ev fr x = .pointer (some ⟨b, off, none⟩)) {v : Value} (hc : ∀ w', Kx K (qt (.load t x)) w w' → w'.cell? ⟨b, off, none⟩ = some v)
    (h : WO P n K qt z ops Q l (pt fr dst v) w) : WO P n K qt z ops Q (i :: l) fr w := by
  refine WO.val ho hok v (fun w' hw' => ?_) h
  simp only [execOp, hx, Instr.loadAt, Instr.sureAddr]
  rw [run_bind (a := v) (w' := w') (by
    rw [run_bind (a := (⟨b, off, none⟩ : Addr)) (w' := w') rfl]
    exact run_loadVar1 ht (hc w' hw'))]
  rfl
theorem WO.loadN {t : TypeId} {x : Operand} (ho : ops[i]? = some ⟨dst, .load t x, ty, pos, after, guard⟩) (hok : okAt n ops fr ⟨dst, .load t x, ty, pos, after, guard⟩ = true)
    (ht : aggOf P t = some true) {b off : Nat} (hx : ev fr x = .pointer (some ⟨b, off, none⟩)) (cs : List Value) (hs : sizeIs P t = some cs.length)
    (hc : ∀ w', Kx K (qt (.load t x)) w w' → ∀ j v, cs[j]? = some v → w'.cell? ⟨b, off + j, none⟩ = some v)
    (h : WO P n K qt z ops Q l (pt fr dst (.agg cs.toArray)) w) : WO P n K qt z ops Q (i :: l) fr w := by
  refine WO.val ho hok (.agg cs.toArray) (fun w' hw' => ?_) h
  simp only [execOp, hx, Instr.loadAt, Instr.sureAddr]
  rw [run_bind (a := Value.agg cs.toArray) (w' := w') (by
    rw [run_bind (a := (⟨b, off, none⟩ : Addr)) (w' := w') rfl]
    exact run_loadVarN ht hs (hc w' hw'))]
  rfl
theorem run_indexAt {t e sz : Nat} (ht : sliceOf P t = some e) (hsz : sizeIs P e = some sz) (b off len cap : Nat) (k : IntKind) {j : Int} (h0 : 0 ≤ j) (h1 : j < (len : Int)) :
    (Instr.indexAt t (.slice (some ⟨b, off, none⟩) len cap) (.int k j)).run P w = .ok (.pointer (some ⟨b, off + j.toNat * sz, none⟩)) w := by
  have hs := run_sizeOf (P := P) (w := w) hsz
  have hu := run_underlying' (P := P) (w := w) (sliceOf_eq ht)
  simp [Instr.indexAt, asIntOf, hu, hs, h0, h1, add_plain]
theorem ybq {t : TypeId} {x ix : Operand} (ho : ops[i]? = some ⟨dst, .indexAddr t x ix, ty, pos, after, guard⟩) (hok : okAt n ops fr ⟨dst, .indexAddr t x ix, ty, pos, after, guard⟩ = true)
    {e sz : Nat} (ht : sliceOf P t = some e) (hsz : sizeIs P e = some sz) {a : Option Addr} {len cap : Nat} (hx : ev fr x = .slice a len cap) (ha : a = some ⟨bl a, of a, none⟩)
    {k : IntKind} {j : Int} (hi : ev fr ix = .int k j) (h0 : 0 ≤ j) (h1 : j < (len : Int))
    (h : WO P n K qt z ops Q l (pt fr dst (.pointer (some ⟨bl a, of a + j.toNat * sz, none⟩))) w) : WO P n K qt z ops Q (i :: l) fr w := by
  refine WO.val ho hok _ (fun w' hw' => ?_) h
  simp only [execOp, hx, hi]
  generalize bl a = p at *
  generalize of a = q at *
  subst ha
  rw [run_bind (run_indexAt ht hsz p q len cap k h0 h1)]
  rfl
theorem ybb {E : World} {I : Mem} {Os : List Mem} (hS : St E w I Os) {o : Oper} (ho : ops[i]? = some o) (hok : okAt n ops fr o = true) (hq : qt o.op = false)
    (obj : Obj) (mk : Nat → Value) (hr : (execOp (ev fr) o).run P w = .ok (.value (mk w.heap.size)) (w.alloc obj)) (hK : ∀ b w', St E w' I (one b obj :: Os) → K w')
    (h : ∀ b w', St E w' I (one b obj :: Os) → WO P n K qt z ops Q l (pt fr o.dst (mk b)) w') : WO P n K qt z ops Q (i :: l) fr w :=
  ybh ho hok hq hr (hK _ _ (hS.alloc obj)) (h _ _ (hS.alloc obj))
def wrt (c : Array Value) : Nat → List Value → Array Value
  | _, [] => c
  | o, v :: r => wrt (c.setIfInBounds o v) (o + 1) r
theorem wrt_size : ∀ (vs : List Value) (c : Array Value) (o : Nat), (wrt c o vs).size = c.size
  | [], c, o => rfl
  | v :: r, c, o => by rw [wrt, wrt_size r]; simp
theorem wrt_out : ∀ (vs : List Value) (c : Array Value) (o j : Nat), j < o ∨ o + vs.length ≤ j → (wrt c o vs)[j]? = c[j]?
  | [], c, o, j, _ => rfl
  | v :: r, c, o, j, h => by
    rw [wrt, wrt_out r _ (o + 1) j (by simp at h; omega), Array.getElem?_setIfInBounds, if_neg (by simp at h; omega)]
theorem wrt_in : ∀ (vs : List Value) (c : Array Value) (o j : Nat), j < vs.length → o + vs.length ≤ c.size → (wrt c o vs)[o + j]? = vs[j]?
  | [], c, o, j, h, _ => by simp at h
  | v :: r, c, o, 0, h, hs => by
    simp at hs
    show (wrt (c.setIfInBounds o v) (o + 1) r)[o]? = _
    rw [ wrt_out r _ (o + 1) o (by omega), Array.getElem?_setIfInBounds, if_pos rfl, if_pos (by omega)]
    rfl
  | v :: r, c, o, j + 1, h, hs => by
    simp at h hs
    rw [wrt]
    have := wrt_in r (c.setIfInBounds o v) (o + 1) j h (by simp; omega)
    rw [show o + (j + 1) = o + 1 + j from by omega, this]
    rfl
theorem Mem.set_set (C : Mem) (b : Nat) (o o' : Obj) : (C.set b o).set b o' = C.set b o' := by
  funext i
  by_cases e : i = b <;> simp [Mem.set, e]
theorem Mem.set_self (C : Mem) (b : Nat) (o : Obj) (h : C b = some o) : C.set b o = C := by
  funext i
  by_cases e : i = b <;> simp [Mem.set, e, h]
theorem St.setCell {E w : World} {I C : Mem} {Os : List Mem} (h : St E w I (C :: Os)) {b off : Nat} {c : Array Value} {T : TypeId} {fz : Nat × Nat} (hb : C b = some (.cells c T fz)) (v : Value) :
    St E (w.setCell ⟨b, off, none⟩ v) I (C.set b (.cells (c.setIfInBounds off v) T fz) :: Os) := by
  refine h.put hb rfl rfl rfl ?_ ?_
  · have := h.rd0 b _ hb
    simp [World.setCell, Array.getElem?_modify, this]
  · intro i hi
    simp only [World.setCell, Array.getElem?_modify]
    rw [if_neg (fun e => hi e.symm)]
theorem St.setCells {E : World} {I : Mem} {Os : List Mem} {b : Nat} {T : TypeId} {fz : Nat × Nat} : ∀ (vs : List Value) {w : World} {C : Mem} {off : Nat} {c : Array Value}, St E w I (C :: Os) → C b = some (.cells c T fz) →
    St E (w.setCells b off vs) I (C.set b (.cells (wrt c off vs) T fz) :: Os)
  | [], w, C, off, c, h, hb => by rw [World.setCells, wrt, Mem.set_self C b _ hb]; exact h
  | v :: r, w, C, off, c, h, hb => by
    rw [World.setCells, wrt]
    have := St.setCells r (off := off + 1) (h.setCell hb (off := off) v) (b := b) (T := T) (fz := fz) (c := c.setIfInBounds off v) (by simp [Mem.set])
    rwa [Mem.set_set] at this
theorem run_storeVar {t : TypeId} {v : Value} (hs : sizeIs P t = some v.cells.size) (h1 : ∀ u ∈ v.cells.toList, u.oneCell' = true) {E : World} {I C : Mem} {Os : List Mem} (hS : St E w I (C :: Os)) {b off : Nat} {c : Array Value} {T : TypeId}
    (hb : C b = some (.cells c T (0, 0))) (hlt : off + v.cells.size ≤ c.size) : (storeVar t ⟨b, off, none⟩ v).run P w = .ok () (w.setCells b off v.cells.toList) := by
  unfold storeVar
  rw [run_bind (run_sizeOf hs)]
  simp only [ne_eq, not_true, if_false]
  have hcell : ∀ j, j < v.cells.toList.length → (w.cell? ⟨b, off + 0 + j, none⟩).isSome = true := by
    intro j hj
    simp at hj
    have := hS.rd0 b _ hb
    simp [World.cell?, this]
    omega
  have hfr : ∀ j, j < v.cells.toList.length → w.frozen? ⟨b, off + 0 + j, none⟩ = false := by
    intro j hj
    have := hS.rd0 b _ hb
    simp [World.frozen?, this]
  have := run_storeCells_cells (P := P) b off v.cells.toList 0 w hcell hfr h1
  simpa [bind, Sem.bind] using this
theorem ybr {E : World} {I C : Mem} {Os : List Mem} (hS : St E w I (C :: Os)) {t : TypeId} {x y : Operand} (ho : ops[i]? = some ⟨dst, .store t x y, ty, pos, after, guard⟩) (hok : okAt n ops fr ⟨dst, .store t x y, ty, pos, after, guard⟩ = true)
    (hq : qt (.store t x y) = false) {b off : Nat} (hx : ev fr x = .pointer (some ⟨b, off, none⟩)) {v : Value} (hy : ev fr y = v) (hs : sizeIs P t = some v.cells.size) (h1 : ∀ u ∈ v.cells.toList, u.oneCell' = true)
    {c : Array Value} {T : TypeId} (hb : C b = some (.cells c T (0, 0))) (hlt : off + v.cells.size ≤ c.size)
    (hK : ∀ w', St E w' I (C.set b (.cells (wrt c off v.cells.toList) T (0, 0)) :: Os) → K w')
    (h : ∀ w', St E w' I (C.set b (.cells (wrt c off v.cells.toList) T (0, 0)) :: Os) → WO P n K qt z ops Q l (pt fr dst undef) w') : WO P n K qt z ops Q (i :: l) fr w := by
  have hS' := hS.setCells (off := off) v.cells.toList hb
  refine WO.acts ho hok hq ?_ (hK _ hS') (h _ hS')
  simp only [execOp, hx, hy, Instr.storeAt, Instr.sureAddr]
  rw [run_bind (a := ()) (w' := w.setCells b off v.cells.toList) (by
    rw [run_bind (a := (⟨b, off, none⟩ : Addr)) (w' := w) rfl]
    exact run_storeVar hs h1 hS hb hlt)]
  rfl
theorem ybj {E : World} {I : Mem} {Os : List Mem} {b : Nat} {c : Array Value} {T : TypeId} (hS : St E w I (one b (.cells c T (0, 0)) :: Os)) {t : TypeId} {x y : Operand}
    (ho : ops[i]? = some ⟨dst, .store t x y, ty, pos, after, guard⟩) (hok : okAt n ops fr ⟨dst, .store t x y, ty, pos, after, guard⟩ = true)
    (hq : qt (.store t x y) = false) (off : Nat) (hx : ev fr x = .pointer (some ⟨b, off, none⟩)) {v : Value} (hy : ev fr y = v) (hs : sizeIs P t = some v.cells.size) (h1 : v.cells.toList.all Value.oneCell' = true)
    (hlt : Nat.ble (off + v.cells.size) c.size = true) (c' : Array Value) (hc : wrt c off v.cells.toList = c')
    (hK : ∀ w', St E w' I (one b (.cells c' T (0, 0)) :: Os) → K w')
    (h : ∀ w', St E w' I (one b (.cells c' T (0, 0)) :: Os) → WO P n K qt z ops Q l (pt fr dst undef) w') : WO P n K qt z ops Q (i :: l) fr w := by
  subst hc
  refine ybr hS ho hok hq hx hy hs (fun u hu => List.all_eq_true.1 h1 u hu) (one_at b _) (Nat.le_of_ble_eq_true hlt) ?_ ?_
  · intro w' hS'; rw [one_set] at hS'; exact hK w' hS'
  · intro w' hS'; rw [one_set] at hS'; exact h w' hS'
def argFr : Nat → List Value → Fr
  | _, [] => []
  | k, v :: r => (k, v) :: argFr (k + 1) r
theorem lk_argFr : ∀ (vs : List Value) (k i : Nat) (v : Value), lk (argFr k vs) i = some v → k ≤ i ∧ vs[i - k]? = some v
  | [], _, _, _, h => by cases h
  | u :: r, k, i, v, h => by
    rw [argFr, lk_cons] at h
    by_cases e : i = k
    · subst e; simp at h; subst h; simp
    · rw [if_neg e] at h
      obtain ⟨h1, h2⟩ := lk_argFr r (k + 1) i v h
      refine ⟨by omega, ?_⟩
      rw [show i - k = (i - (k + 1)) + 1 from by omega]
      simpa using h2
theorem calls_W {f : FuncId} {fn : Func} {c : Code} {args : List Value} {R : Ending → World → Prop} (hf : P.funcs[f]? = some fn) (hb : fn.body = some c) (hn : Nat.ble args.length fn.ntmps = true)
    (h : W P fn.ntmps c (bodyPost P fn R) (argFr 0 args) w) : Calls P f args.toArray w R := by
  have hn' := Nat.le_of_ble_eq_true hn
  refine calls_of_wp hf hb (h _ ⟨rfl, by simp; omega, fun i v hv => ?_⟩)
  obtain ⟨_, h2⟩ := lk_argFr args 0 i v hv
  rw [Nat.sub_zero] at h2
  have hlt : i < args.length := (List.getElem?_eq_some_iff.1 h2).1
  rw [Array.getD_eq_getD_getElem?, Array.getElem?_append, if_pos (by simpa using hlt)]
  simp [h2]
section
variable {fn : Func} {a : Act} {R : Ending → World → Prop}
theorem En.ret0 {m : Nat} (h1 : fn.results = #[]) (h : R (.returned (.tuple #[])) w) : En m (bodyPost P fn R) .ret fr w := fun a ha => by
  refine ⟨ha.defers, _, ?_, h⟩
  simp [results, h1]
theorem En.ret1 {m : Nat} {t : Nat} (h1 : fn.results = #[.tmp t]) (v : Value) (hv : lk fr t = some v) (h : R (.returned v) w) : En m (bodyPost P fn R) .ret fr w := fun a ha => by
  refine ⟨ha.defers, v, ?_, h⟩
  have := ha.slots t v hv
  simp only [Array.getD_eq_getD_getElem?] at this
  simp [results, h1, this]
theorem En.ret2 {m : Nat} {t t' : Nat} (h1 : fn.results = #[.tmp t, .tmp t']) (v v' : Value) (hv : lk fr t = some v) (hv' : lk fr t' = some v') (h : R (.returned (.tuple #[v, v'])) w) : En m (bodyPost P fn R) .ret fr w := fun a ha => by
  refine ⟨ha.defers, _, ?_, h⟩
  have e1 := ha.slots t v hv
  have e2 := ha.slots t' v' hv'
  simp only [Array.getD_eq_getD_getElem?] at e1 e2
  simp [results, h1, e1, e2]
def ResVal (P : Program) (fr : Fr) (w : World) : ResultVar → Value → Prop
  | .tmp t, v => lk fr t = some v
  | .cell t ty, v => ∃ b off, lk fr t = some (.pointer (some ⟨b, off, none⟩)) ∧ (loadVar ty ⟨b, off, none⟩).run P w = .ok v w
theorem resVal_shape {m : Nat} {a : Act} (ha : Ag m fr a) {r : ResultVar} {v : Value} (h : ResVal P fr w r v) :
    (∃ t, r = .tmp t ∧ (a.tmps[t]?).getD undef = v) ∨ ∃ x ty b off, r = .cell x ty ∧ (a.tmps[x]?).getD undef = .pointer (some ⟨b, off, none⟩) ∧ (loadVar ty ⟨b, off, none⟩).run P w = .ok v w := by
  cases r with
  | tmp t => exact .inl ⟨t, rfl, by rw [← Array.getD_eq_getD_getElem?]; exact ha.slots t v h⟩
  | cell x ty =>
    obtain ⟨b, off, h1, h2⟩ := h
    exact .inr ⟨x, ty, b, off, rfl, by rw [← Array.getD_eq_getD_getElem?]; exact ha.slots x _ h1, h2⟩
theorem En.retc1 {m : Nat} {r1 : ResultVar} (h1 : fn.results = #[r1]) (v1 : Value) (g1 : ResVal P fr w r1 v1) (h : R (.returned v1) w) : En m (bodyPost P fn R) .ret fr w := fun a ha => by
  refine ⟨ha.defers, _, ?_, h⟩
  obtain e1 := resVal_shape ha g1
  rcases e1 with ⟨t1, rfl, e1⟩ | ⟨x1, y1, b1, o1, rfl, e1, f1⟩ <;> simp [results, h1, asAddr, *]
theorem En.retc2 {m : Nat} {r1 r2 : ResultVar} (h1 : fn.results = #[r1, r2]) (v1 v2 : Value) (g1 : ResVal P fr w r1 v1) (g2 : ResVal P fr w r2 v2) (h : R (.returned (.tuple #[v1, v2])) w) : En m (bodyPost P fn R) .ret fr w := fun a ha => by
  refine ⟨ha.defers, _, ?_, h⟩
  obtain e1 := resVal_shape ha g1
  obtain e2 := resVal_shape ha g2
  rcases e1 with ⟨t1, rfl, e1⟩ | ⟨x1, y1, b1, o1, rfl, e1, f1⟩ <;> rcases e2 with ⟨t2, rfl, e2⟩ | ⟨x2, y2, b2, o2, rfl, e2, f2⟩ <;> simp [results, h1, asAddr, *]
end
end
end Go.Gv
namespace Go.Gv
open Go
def idx {α : Type} (xs : List α) (i : Int) : Option α := if 0 ≤ i then xs[i.toNat]? else none
theorem idx_some {α : Type} {xs : List α} {i : Int} {x : α} (h : idx xs i = some x) : 0 ≤ i ∧ i < (xs.length : Int) ∧ xs[i.toNat]? = some x := by
  unfold idx at h
  split at h
  · rename_i h0
    have := (List.getElem?_eq_some_iff.1 h).1
    exact ⟨h0, by omega, h⟩
  · cases h
def app {α : Type} (by_ : Nat) (xs ys : List α) : Option (List α) := if (xs.length + ys.length) * by_ ≤ 140737488355328 then some (xs ++ ys) else none
theorem app_some {α : Type} {b : Nat} {xs ys zs : List α} (h : app b xs ys = some zs) : (xs.length + ys.length) * b ≤ 140737488355328 ∧ zs = xs ++ ys := by
  unfold app at h
  split at h
  · injection h with h; exact ⟨by assumption, h.symm⟩
  · cases h
def sub {α : Type} (xs : List α) (lo hi : Int) : Option (List α) := if 0 ≤ lo ∧ lo ≤ hi ∧ hi ≤ (xs.length : Int) then some ((xs.take hi.toNat).drop lo.toNat) else none
theorem sub_some {α : Type} {xs ys : List α} {lo hi : Int} (h : sub xs lo hi = some ys) : 0 ≤ lo ∧ lo ≤ hi ∧ hi ≤ (xs.length : Int) ∧ ys = (xs.take hi.toNat).drop lo.toNat := by
  unfold sub at h
  split at h
  · rename_i hc; injection h with h; exact ⟨hc.1, hc.2.1, hc.2.2, h.symm⟩
  · cases h
theorem bind_some {α β : Type} {x : Option α} {f : α → Option β} {b : β} (h : x.bind f = some b) : ∃ a, x = some a ∧ f a = some b := Option.bind_eq_some_iff.1 h
theorem cond_t {α : Type} {b : Bool} {x y : Option α} {r : α} (hb : b = true) (h : cond b x y = some r) : x = some r := by rw [hb] at h; exact h
theorem cond_f {α : Type} {b : Bool} {x y : Option α} {r : α} (hb : b = false) (h : cond b x y = some r) : y = some r := by rw [hb] at h; exact h
def ElAt {α : Type} (sz : Nat) (rel : Mem → List Value → α → Prop) (H I : Mem) (b o : Nat) (xs : List α) : Prop := ∀ i x, xs[i]? = some x → ∃ cs, cs.length = sz ∧ rel I cs x ∧ CellsAt H b (o + i * sz) cs
section
variable {α : Type} {sz : Nat} {rel : Mem → List Value → α → Prop} {H I : Mem} {b : Nat}
theorem flat [Mono rel] : ∀ (xs : List α) (o : Nat), ElAt sz rel H I b o xs → ∃ news : List Value, news.length = xs.length * sz ∧ (∀ w, Rdb w H → ∀ j v, news[j]? = some v → w.cell? ⟨b, o + j, none⟩ = some v) ∧
    (∀ v ∈ news, v.oneCell' = true) ∧ (∀ i x, xs[i]? = some x → ∃ cs, cs.length = sz ∧ rel I cs x ∧ ∀ j v, cs[j]? = some v → news[i * sz + j]? = some v)
  | [], o, _ => ⟨[], by simp, by simp, by simp, by simp⟩
  | x :: xs, o, h => by
    obtain ⟨cs, hn, hr, hc⟩ := h 0 x rfl
    obtain ⟨news, h1, h2, h3, h4⟩ := flat xs (o + sz) (fun i y hy => by
      obtain ⟨ds, e1, e2, e3⟩ := h (i + 1) y (by simpa using hy)
      refine ⟨ds, e1, e2, ?_⟩
      rwa [show o + (i + 1) * sz = o + sz + i * sz from by rw [Nat.add_mul]; omega] at e3)
    refine ⟨cs ++ news, by simp [h1, hn, Nat.add_mul]; omega, ?_, ?_, ?_⟩
    · intro w hw j v hj
      by_cases hlt : j < cs.length
      · rw [List.getElem?_append_left hlt] at hj
        have := hc.cell hw hj
        simpa using this
      · rw [List.getElem?_append_right (by omega)] at hj
        have := h2 w hw _ v hj
        rwa [show o + sz + (j - cs.length) = o + j from by omega] at this
    · intro v hv
      rcases List.mem_append.1 hv with h | h
      · exact Mono.one hr v h
      · exact h3 v h
    · intro i y hy
      cases i with
      | zero =>
        simp at hy
        subst hy
        refine ⟨cs, hn, hr, fun j v hj => ?_⟩
        have hlt : j < cs.length := (List.getElem?_eq_some_iff.1 hj).1
        rw [Nat.zero_mul, Nat.zero_add, List.getElem?_append_left hlt]
        exact hj
      | succ i =>
        obtain ⟨ds, e1, e2, e3⟩ := h4 i y (by simpa using hy)
        refine ⟨ds, e1, e2, fun j v hj => ?_⟩
        have := e3 j v hj
        rw [List.getElem?_append_right (by rw [hn, Nat.add_mul]; omega), hn, show (i + 1) * sz + j - sz = i * sz + j from by rw [Nat.add_mul]; omega]
        exact this
theorem SlAt.elAt {a : Option Addr} {cap : Nat} {xs : List α} (h : SlAt sz rel H I a cap xs) : ElAt sz rel H I (bl a) (of a) xs := fun i x hx => (h.el i x hx).2
def subA (a : Option Addr) (cap lo sz : Nat) : Option Addr := if cap = lo then a else a.map (·.add (lo * sz))
theorem SlAt.sub {a : Option Addr} {cap : Nat} {xs : List α} (h : SlAt sz rel H I a cap xs) {lo hi : Nat} (h1 : lo ≤ hi) (h2 : hi ≤ xs.length) : SlAt sz rel H I (subA a cap lo sz) (cap - lo) ((xs.take hi).drop lo) := by
  have hle := h.le
  have hlt := h.lt
  refine ⟨by simp; omega, by omega, fun i x hx => ?_⟩
  rw [List.getElem?_drop, List.getElem?_take] at hx
  split at hx
  · rename_i hlt'
    obtain ⟨e, cs, hn, hr, hc⟩ := h.el _ x hx
    have hne : cap ≠ lo := by omega
    have hA : subA a cap lo sz = some ⟨bl a, of a + lo * sz, none⟩ := by
      unfold subA
      rw [if_neg hne]
      generalize bl a = p at *
      generalize of a = q at *
      subst e
      simp only [Option.map_some, add_plain]
    rw [hA]
    refine ⟨rfl, cs, hn, hr, ?_⟩
    show CellsAt H (bl a) (of a + lo * sz + i * sz) cs
    rwa [Nat.add_mul, ← Nat.add_assoc] at hc
  · cases hx
theorem OwnSl.sub {T : Nat} {C : Mem} {a : Option Addr} {cap : Nat} {xs : List α} (h : OwnSl T sz rel I C a cap xs) {lo hi : Nat} (h1 : lo ≤ hi) (h2 : hi ≤ xs.length) : OwnSl T sz rel I C (subA a cap lo sz) (cap - lo) ((xs.take hi).drop lo) := by
  refine ⟨h.sl.sub h1 h2, ?_⟩
  have hle := h.sl.le
  rcases h.own with ⟨rfl, rfl, rfl⟩ | ⟨b, off, c, rfl, rfl, hs⟩
  · left
    refine ⟨?_, by omega, rfl⟩
    unfold subA
    split <;> rfl
  · right
    unfold subA
    split
    · rename_i e
      exact ⟨b, off, c, rfl, rfl, by rw [e] at hs ⊢; simp; omega⟩
    · refine ⟨b, off + lo * sz, c, by simp only [Option.map_some, add_plain], rfl, ?_⟩
      have : lo * sz + (cap - lo) * sz = cap * sz := by rw [← Nat.add_mul]; congr 1; omega
      omega
theorem OwnSl.at_ {T : Nat} {C : Mem} {a : Option Addr} {cap : Nat} {xs : List α} (h : OwnSl T sz rel I C a cap xs) {i : Nat} {x : α} (hx : xs[i]? = some x) :
    ∃ c, C = one (bl a) (.cells c T (0, 0)) ∧ a = some ⟨bl a, of a, none⟩ ∧ of a + cap * sz ≤ c.size := by
  obtain ⟨e, _⟩ := h.sl.el i x hx
  rcases h.own with ⟨rfl, _⟩ | ⟨b, off, c, rfl, rfl, hs⟩
  · cases e
  · exact ⟨c, rfl, rfl, hs⟩
end
def wrtL : List Value → Nat → List Value → List Value
  | cs, _, [] => cs
  | cs, k, v :: r => wrtL (cs.set k v) (k + 1) r
theorem wrtL_get : ∀ (vs cs : List Value) (k j : Nat), (wrtL cs k vs)[j]? = if k ≤ j ∧ j < k + vs.length ∧ j < cs.length then vs[j - k]? else cs[j]?
  | [], cs, k, j => by
    rw [wrtL, if_neg (by simp; omega)]
  | v :: r, cs, k, j => by
    rw [wrtL, wrtL_get r, List.length_set, List.getElem?_set]
    by_cases e : k = j
    · subst e
      rw [if_neg (by omega), if_pos rfl]
      by_cases hlt : k < cs.length
      · rw [if_pos hlt, if_pos ⟨Nat.le_refl _, by simp, hlt⟩]; simp
      · rw [if_neg hlt, if_neg (by omega)]; simp; omega
    · rw [if_neg e]
      by_cases hc : k + 1 ≤ j ∧ j < k + 1 + r.length ∧ j < cs.length
      · rw [if_pos hc, if_pos ⟨by omega, by simp; omega, hc.2.2⟩, show j - k = (j - (k + 1)) + 1 from by omega]
        rfl
      · rw [if_neg hc, if_neg (by simp; omega)]
theorem wrtL_length : ∀ (vs cs : List Value) (k : Nat), (wrtL cs k vs).length = cs.length
  | [], cs, k => rfl
  | v :: r, cs, k => by rw [wrtL, wrtL_length r]; simp
section
variable {P : Program} {n : Nat} {K : World → Prop} {qt : Op → Bool} {z : Nat} {ops : Array Oper} {Q : Exit → Act → World → Prop} {fr : Fr} {w : World} {l : List Nat} {i : Nat}
  {dst : Option Tmp} {ty : TypeId} {pos : String} {after : Array Edge} {guard : Option (Nat × Bool)}
  {α : Type} {sz : Nat} {rel : Mem → List Value → α → Prop} {E : World} {I : Mem} {Os : List Mem} {C : Mem} {T : Nat}
theorem OwnSl.stored {a : Option Addr} {cap : Nat} {xs : List α} (h : OwnSl T sz rel I C a cap xs) {m : Nat} {x x' : α} (hx : xs[m]? = some x) (k : Nat) (vs : List Value) (hk : k + vs.length ≤ sz)
    (hrel : ∀ cs, rel I cs x → rel I (wrtL cs k vs) x') {c : Array Value} (hC : C = one (bl a) (.cells c T (0, 0))) :
    OwnSl T sz rel I (C.set (bl a) (.cells (wrt c (of a + m * sz + k) vs) T (0, 0))) a cap (xs.set m x') := by
  obtain ⟨c0, hC0, ha, hs⟩ := h.at_ hx
  have hcc : c0 = c := by
    have := (one_at (bl a) (Obj.cells c0 T (0, 0)))
    rw [← hC0, hC, one_at] at this
    injection this with this
    injection this with this
    exact this.symm
  subst hcc
  have hlen : m < xs.length := (List.getElem?_eq_some_iff.1 hx).1
  have hle := h.sl.le
  rw [hC, one_set]
  have hms : m * sz + sz ≤ cap * sz := by
    have : (m + 1) * sz ≤ cap * sz := Nat.mul_le_mul_right _ (by omega)
    rw [Nat.add_mul] at this
    omega
  refine ⟨⟨by simpa using hle, h.sl.lt, fun j y hy => ?_⟩, .inr ⟨bl a, of a, _, ha, rfl, by rw [wrt_size]; exact hs⟩⟩
  refine ⟨ha, ?_⟩
  rw [List.getElem?_set] at hy
  by_cases e : m = j
  · subst e
    rw [if_pos rfl, if_pos hlen] at hy
    injection hy with hy
    subst hy
    obtain ⟨_, cs, hn, hr, c1, T1, fz1, hb1, hc1⟩ := h.sl.el m x hx
    rw [hC, one_at] at hb1
    injection hb1 with hb1
    injection hb1 with hb1 _ _
    subst hb1
    refine ⟨wrtL cs k vs, by rw [wrtL_length, hn], hrel cs hr, _, T, (0, 0), one_at _ _, fun p v hp => ?_⟩
    rw [wrtL_get] at hp
    split at hp
    · rename_i hcond
      have := wrt_in vs c0 (of a + m * sz + k) (p - k) (by omega) (by omega)
      rw [show of a + m * sz + k + (p - k) = of a + m * sz + p from by omega] at this
      rw [this]; exact hp
    · rename_i hcond
      have hpl : p < cs.length := (List.getElem?_eq_some_iff.1 hp).1
      rw [wrt_out _ _ _ _ (by omega)]
      exact hc1 p v hp
  · rw [if_neg e] at hy
    obtain ⟨_, cs, hn, hr, c1, T1, fz1, hb1, hc1⟩ := h.sl.el j y hy
    rw [hC, one_at] at hb1
    injection hb1 with hb1
    injection hb1 with hb1 _ _
    subst hb1
    refine ⟨cs, hn, hr, _, T, (0, 0), one_at _ _, fun p v hp => ?_⟩
    have hpl : p < cs.length := (List.getElem?_eq_some_iff.1 hp).1
    have hsep : of a + j * sz + p < of a + m * sz + k ∨ of a + m * sz + k + vs.length ≤ of a + j * sz + p := by
      rcases Nat.lt_or_ge j m with hjm | hjm
      · left
        have : (j + 1) * sz ≤ m * sz := Nat.mul_le_mul_right _ (by omega)
        rw [Nat.add_mul] at this
        omega
      · right
        have : (m + 1) * sz ≤ j * sz := Nat.mul_le_mul_right _ (by omega)
        rw [Nat.add_mul] at this
        omega
    rw [wrt_out _ _ _ _ hsep]
    exact hc1 p v hp
theorem ya2 (hS : St E w I (C :: Os)) {a : Option Addr} {cap : Nat} {xs : List α} (hown : OwnSl T sz rel I C a cap xs) {t : TypeId} {x y : Operand}
    (ho : ops[i]? = some ⟨dst, .store t x y, ty, pos, after, guard⟩) (hok : okAt n ops fr ⟨dst, .store t x y, ty, pos, after, guard⟩ = true) (hq : qt (.store t x y) = false)
    {m : Nat} {u u' : α} (hu : xs[m]? = some u) (k : Nat) (hx : ev fr x = .pointer (some ⟨bl a, of a + m * sz + k, none⟩)) {v : Value} (hy : ev fr y = v)
    (hs : sizeIs P t = some v.cells.size) (h1 : v.cells.toList.all Value.oneCell' = true) (hkb : Nat.ble (k + v.cells.toList.length) sz = true) (hrel : ∀ cs, rel I cs u → rel I (wrtL cs k v.cells.toList) u')
    (hK : ∀ w' C', St E w' I (C' :: Os) → K w')
    (h : ∀ w' C', St E w' I (C' :: Os) → OwnSl T sz rel I C' a cap (xs.set m u') → WO P n K qt z ops Q l (pt fr dst undef) w') : WO P n K qt z ops Q (i :: l) fr w := by
  have hk := Nat.le_of_ble_eq_true hkb
  obtain ⟨c, hC, ha, hsz⟩ := hown.at_ hu
  have hlen : m < xs.length := (List.getElem?_eq_some_iff.1 hu).1
  have hle := hown.sl.le
  have hms : m * sz + sz ≤ cap * sz := by
    have : (m + 1) * sz ≤ cap * sz := Nat.mul_le_mul_right _ (by omega)
    rw [Nat.add_mul] at this
    omega
  have hst := hown.stored hu k v.cells.toList hk hrel hC
  have hlt : of a + m * sz + k + v.cells.size ≤ c.size := by
    rw [Array.length_toList] at hk
    omega
  refine ybr hS ho hok hq hx hy hs (fun u hu => List.all_eq_true.1 h1 u hu) (by rw [hC]; exact one_at _ _) hlt (fun w' hS' => hK w' _ hS') (fun w' hS' => h w' _ hS' hst)
end
end Go.Gv
namespace Go.Gv
open Go
def elOf (P : Program) (T : TypeId) : Option (Nat × Nat × Array Value) := (P.info? T).bind fun i => i.zero.map fun z => (i.size, i.bytes, z.cells)
theorem elOf_some {P : Program} {T sz b : Nat} {z : Array Value} (h : elOf P T = some (sz, b, z)) : ∃ i zv, P.info? T = some i ∧ i.zero = some zv ∧ i.size = sz ∧ i.bytes = b ∧ zv.cells = z := by
  unfold elOf at h
  cases hi : P.info? T with
  | none => simp [hi] at h
  | some i =>
    cases hz : i.zero with
    | none => simp [hi, hz] at h
    | some zv =>
      simp [hi, hz] at h
      exact ⟨i, zv, rfl, hz, h.1, h.2.1, h.2.2⟩
section
variable {P : Program} {α : Type} {sz : Nat} {rel : Mem → List Value → α → Prop} {E w : World} {I C H : Mem} {Os : List Mem} {T : Nat}
theorem src_of [Mono rel] {tx e' : Nat} (hx : sliceOf P tx = some e') {a : Option Addr} {cap : Nat} {ys : List α} (h : SlAt sz rel H I a cap ys) (hr : Rdb w H) :
    ∃ news, Src P sz tx (.slice a ys.length cap) ys.length news w ∧ (∀ i x, ys[i]? = some x → ∃ cs, cs.length = sz ∧ rel I cs x ∧ ∀ j v, cs[j]? = some v → news[i * sz + j]? = some v) ∧ news.length = ys.length * sz := by
  rcases h.ad with e | e
  · subst e
    cases a with
    | none => exact ⟨[], Src.ofNil w (sliceOf_eq hx) cap, by simp, by simp⟩
    | some x => exact ⟨[], Src.ofSlice w (sliceOf_eq hx) _ _ _ [] (by simp) (fun j u hj => by simp at hj) (fun v hv => by cases hv), by simp, by simp⟩
  · obtain ⟨news, h1, h2, h3, h4⟩ := flat ys (of a) h.elAt
    refine ⟨news, ?_, h4, h1⟩
    generalize bl a = p at *
    generalize of a = q at *
    subst e
    exact Src.ofSlice w (sliceOf_eq hx) _ _ _ news h1 (fun j u hj => by rw [add_plain]; exact h2 w hr j u hj) h3
theorem run_append [Mono rel] (hS : St E w I (C :: Os)) {a : Option Addr} {cap : Nat} {xs : List α} (hown : OwnSl T sz rel I C a cap xs) {tx e' : Nat} (hx : sliceOf P tx = some e') {a2 : Option Addr} {cap2 : Nat} {ys : List α}
    (hsrc : SlAt sz rel H I a2 cap2 ys) (hr : Rdb w H) {t ty b : Nat} {z : Array Value} (ht : sliceOf P t = some T) (hT : elOf P T = some (sz, b, z)) (hz : z.size = sz) (hb : 0 < b) (hfit : (xs.length + ys.length) * b ≤ 140737488355328) :
    ∃ a' cap' w' C', (Builtin.append_ #[t, tx] ty #[.slice a xs.length cap, .slice a2 ys.length cap2]).run P w = .ok (.slice a' (xs ++ ys).length cap') w' ∧ St E w' I (C' :: Os) ∧ OwnSl T sz rel I C' a' cap' (xs ++ ys) := by
  obtain ⟨i, zv, hi, hiz, rfl, rfl, rfl⟩ := elOf_some hT
  obtain ⟨news, hs, hel, hnl⟩ := src_of (w := w) hx hsrc hr
  have hu := sliceOf_eq ht
  have hle := hown.sl.le
  have h63 : xs.length + ys.length ≤ maxLen := by
    have : xs.length + ys.length ≤ (xs.length + ys.length) * i.bytes := Nat.le_mul_of_pos_right _ hb
    simp only [maxLen]
    omega
  by_cases hroom : xs.length + ys.length ≤ cap
  · by_cases hy : ys = []
    · subst hy
      have hn : news = [] := List.eq_nil_of_length_eq_zero (by simpa using hnl)
      subst hn
      refine ⟨a, cap, w, C, ?_, hS, by simpa using hown⟩
      rw [List.append_nil]
      exact run_append_nothing w t tx ty T i hu hi a xs.length cap hle _ hs
    · rcases hown.own with ⟨rfl, rfl, rfl⟩ | ⟨bb, off, c, rfl, rfl, hcs⟩
      · exfalso
        have := List.length_pos_iff.2 hy
        omega
      · have hsz : off + (xs.length * i.size + ys.length * i.size) ≤ c.size := by
          have : (xs.length + ys.length) * i.size ≤ cap * i.size := Nat.mul_le_mul_right _ hroom
          rw [Nat.add_mul] at this
          omega
        have hcell : ∀ j, j < news.length → (w.cell? ⟨bb, off + xs.length * i.size + j, none⟩).isSome = true := by
          intro j hj
          have := hS.rd0 _ _ (one_at bb _)
          simp [World.cell?, this]
          omega
        have hfr : ∀ j, j < news.length → w.frozen? ⟨bb, off + xs.length * i.size + j, none⟩ = false := by
          intro j hj
          have := hS.rd0 _ _ (one_at bb _)
          simp [World.frozen?, this]
        have hrun := run_append_room_src w t tx ty T i hu hi bb off xs.length cap _ ys.length news hs hroom hcell hfr
        have hS' := hS.setCells (off := off + xs.length * i.size) news (one_at bb _)
        rw [one_set] at hS'
        refine ⟨some ⟨bb, off, none⟩, cap, _, _, (by rw [List.length_append]; exact hrun), hS', ⟨by simpa using hroom, hown.sl.lt, fun m x hx => ⟨rfl, ?_⟩⟩, .inr ⟨bb, off, _, rfl, rfl, by rw [wrt_size]; exact hcs⟩⟩
        show ∃ cs : List Value, _ ∧ _ ∧ CellsAt _ bb (off + m * i.size) cs
        by_cases hm : m < xs.length
        · rw [List.getElem?_append_left hm] at hx
          obtain ⟨_, cs, hn, hrl, c1, T1, fz1, hb1, hc1⟩ := hown.sl.el m x hx
          have hb1' : one bb (Obj.cells c T (0, 0)) bb = some (Obj.cells c1 T1 fz1) := hb1
          rw [one_at] at hb1'
          injection hb1' with hb1'
          injection hb1' with hb1' _ _
          subst hb1'
          refine ⟨cs, hn, hrl, _, T, (0, 0), one_at _ _, fun p v hp => ?_⟩
          have hpl : p < cs.length := (List.getElem?_eq_some_iff.1 hp).1
          have : (m + 1) * i.size ≤ xs.length * i.size := Nat.mul_le_mul_right _ (by omega)
          rw [Nat.add_mul] at this
          rw [wrt_out _ _ _ _ (by omega)]
          exact hc1 p v hp
        · rw [List.getElem?_append_right (by omega)] at hx
          obtain ⟨cs, hn, hrl, hc⟩ := hel _ x hx
          refine ⟨cs, hn, hrl, _, T, (0, 0), one_at _ _, fun p v hp => ?_⟩
          have hnew := hc p v hp
          have hlt : (m - xs.length) * i.size + p < news.length := (List.getElem?_eq_some_iff.1 hnew).1
          have := wrt_in news c (off + xs.length * i.size) ((m - xs.length) * i.size + p) hlt (by omega)
          rw [show off + m * i.size + p = off + xs.length * i.size + ((m - xs.length) * i.size + p) from by
            have : m * i.size = xs.length * i.size + (m - xs.length) * i.size := by rw [← Nat.add_mul]; congr 1; omega
            omega, this]
          exact hnew
  · obtain ⟨olds, ho1, ho2, ho3, ho4⟩ := flat xs (of a) hown.sl.elAt
    have hold : (Builtin.firstCells i.size xs.length (.slice a xs.length cap)).run P w.drew = .ok olds.toArray w.drew := by
      rcases hown.sl.ad with e | e
      · subst e
        have : olds = [] := List.eq_nil_of_length_eq_zero (by simpa using ho1)
        subst this
        cases a with
        | none => exact run_firstCells_none w.drew i.size 0 0 cap
        | some x => exact run_firstCells_some w.drew i.size 0 _ _ _ [] (by simp) (fun j u hj => by simp at hj)
      · generalize bl a = p at *
        generalize of a = q at *
        subst e
        exact run_firstCells_some w.drew i.size xs.length _ _ _ olds ho1 (fun j u hj => by
          rw [add_plain]; exact ho2 w.drew (hS.drew.rd0) j u hj)
    have hg : cap < xs.length + ys.length := by omega
    have hrun := run_append_grow_src w t tx ty T i zv hu hi hiz a xs.length cap olds hold _ ys.length news hs hg (by simp only [maxLen] at h63; omega) (growslice_fits hg hfit)
    have hge := grownCap_ge w (xs.length + ys.length) cap T
    have hcm := grownCap_le_maxLen w (xs.length + ys.length) cap T h63
    have hS' := (hS.drew.alloc (.cells ((olds ++ news).toArray ++ Builtin.zeroCells zv.cells (grownCap w (xs.length + ys.length) cap T - (xs.length + ys.length))) T)).front1.drop
    refine ⟨_, _, _, _, (by rw [List.length_append]; exact hrun), hS', ⟨by simpa using hge, by simp only [maxLen] at hcm; unfold big; omega, fun m x hx => ⟨rfl, ?_⟩⟩, .inr ⟨_, 0, _, rfl, rfl, ?_⟩⟩
    · show ∃ cs : List Value, _ ∧ _ ∧ CellsAt _ w.heap.size (0 + m * i.size) cs
      have hget : ∀ (j : Nat) (v : Value), (olds ++ news)[j]? = some v → ((olds ++ news).toArray ++ Builtin.zeroCells zv.cells (grownCap w (xs.length + ys.length) cap T - (xs.length + ys.length)))[j]? = some v := by
        intro j v hj
        have hlt : j < (olds ++ news).length := (List.getElem?_eq_some_iff.1 hj).1
        rw [Array.getElem?_append, if_pos (by simpa using hlt)]
        simpa using hj
      by_cases hm : m < xs.length
      · rw [List.getElem?_append_left hm] at hx
        obtain ⟨cs, hn, hrl, hc⟩ := ho4 m x hx
        refine ⟨cs, hn, hrl, _, T, (0, 0), one_at _ _, fun p v hp => hget _ _ ?_⟩
        have hpl : p < cs.length := (List.getElem?_eq_some_iff.1 hp).1
        have hcp := hc p v hp
        rw [Nat.zero_add, List.getElem?_append_left (List.getElem?_eq_some_iff.1 hcp).1]
        exact hcp
      · rw [List.getElem?_append_right (by omega)] at hx
        obtain ⟨cs, hn, hrl, hc⟩ := hel _ x hx
        refine ⟨cs, hn, hrl, _, T, (0, 0), one_at _ _, fun p v hp => hget _ _ ?_⟩
        have hcp := hc p v hp
        have e : m * i.size = xs.length * i.size + (m - xs.length) * i.size := by rw [← Nat.add_mul]; congr 1; omega
        rw [List.getElem?_append_right (by omega), ho1, show 0 + m * i.size + p - xs.length * i.size = (m - xs.length) * i.size + p from by omega]
        exact hcp
    · simp only [Array.size_append, List.size_toArray, size_zeroCells, List.length_append, ho1, hnl, hz, ← Nat.add_mul]
      rw [Nat.zero_add]
      apply Nat.mul_le_mul_right
      omega
variable {n : Nat} {K : World → Prop} {qt : Op → Bool} {z : Nat} {ops : Array Oper} {Q : Exit → Act → World → Prop} {fr : Fr} {l : List Nat} {i : Nat}
  {dst : Option Tmp} {ty : TypeId} {pos : String} {after : Array Edge} {guard : Option (Nat × Bool)}
theorem ya6 [Mono rel] (hS : St E w I (C :: Os)) {a : Option Addr} {cap : Nat} {xs : List α} (hown : OwnSl T sz rel I C a cap xs) {t tx : TypeId} {s x : Operand}
    (ho : ops[i]? = some ⟨dst, .call ⟨.builtin .append, #[s, x], #[t, tx]⟩, ty, pos, after, guard⟩) (hok : okAt n ops fr ⟨dst, .call ⟨.builtin .append, #[s, x], #[t, tx]⟩, ty, pos, after, guard⟩ = true)
    (hq : qt (.call ⟨.builtin .append, #[s, x], #[t, tx]⟩) = false) (ht : sliceOf P t = some T) {e' : Nat} (hx : sliceOf P tx = some e') {b : Nat} {zs : Array Value} (hT : elOf P T = some (sz, b, zs)) (hz : zs.size = sz) (hb : Nat.ble 1 b = true)
    (es : ev fr s = .slice a xs.length cap) {a2 : Option Addr} {cap2 : Nat} {ys : List α} (ex : ev fr x = .slice a2 ys.length cap2) (hsrc : SlAt sz rel H I a2 cap2 ys) (hr : Rdb w H)
    (hfit : (xs.length + ys.length) * b ≤ 140737488355328) {us : List α} (hus : us = xs ++ ys) (hK : ∀ w' C', St E w' I (C' :: Os) → K w')
    (h : ∀ a' cap' w' C', St E w' I (C' :: Os) → OwnSl T sz rel I C' a' cap' us → WO P n K qt z ops Q l (pt fr dst (.slice a' us.length cap')) w') : WO P n K qt z ops Q (i :: l) fr w := by
  subst hus
  obtain ⟨a', cap', w', C', hrun, hS', hown'⟩ := run_append (ty := ty) hS hown hx hsrc hr ht hT hz (Nat.le_of_ble_eq_true hb) hfit
  refine ybh ho hok hq (v := .slice a' (xs ++ ys).length cap') (w' := w') ?_ (hK w' C' hS') (h a' cap' w' C' hS' hown')
  simp only [execOp, resolve]
  have e1 : (#[s, x].map (ev fr)) = #[.slice a xs.length cap, .slice a2 ys.length cap2] := by simp [es, ex]
  rw [e1]
  rw [run_bind (a := ({ target := .builtin .append #[t, tx] ty (#[s, x].map fun | .const _ => true | _ => false), args := #[.slice a xs.length cap, .slice a2 ys.length cap2] } : Deferred)) (w' := w) rfl]
  simp only [invoke, Go.builtin]
  rw [run_bind hrun]
  rfl
theorem run_slice {t e : Nat} (ht : sliceOf P t = some e) (hsz : sizeIs P e = some sz) (a : Option Addr) (len cap : Nat) {lo hi : Option Value} {l h : Nat}
    (hlo : lo = none ∧ l = 0 ∨ ∃ k, lo = some (.int k (l : Int))) (hhi : hi = none ∧ h = len ∨ ∃ k, hi = some (.int k (h : Int))) (h1 : l ≤ h) (h2 : h ≤ cap) :
    (Instr.sliceAt t (.slice a len cap) lo hi none).run P w = .ok (.slice (subA a cap l sz) (h - l) (cap - l)) w := by
  have hs := run_sizeOf (P := P) (w := w) hsz
  have hu := run_underlying' (P := P) (w := w) (sliceOf_eq ht)
  rcases hlo with ⟨rfl, rfl⟩ | ⟨k1, rfl⟩ <;> rcases hhi with ⟨rfl, rfl⟩ | ⟨k2, rfl⟩ <;>
    simp [Instr.sliceAt, Instr.slice, Instr.sliceBounds, Instr.sliceBound, asIntOf, hu, hs, h1, h2, subA]
theorem ya3 {t : TypeId} {x : Operand} {lo hi : Option Operand} (ho : ops[i]? = some ⟨dst, .slice t x lo hi none, ty, pos, after, guard⟩) (hok : okAt n ops fr ⟨dst, .slice t x lo hi none, ty, pos, after, guard⟩ = true)
    {e : Nat} (ht : sliceOf P t = some e) (hsz : sizeIs P e = some sz) {a : Option Addr} {len cap : Nat} (hx : ev fr x = .slice a len cap) (l' h' : Int) (g0 : 0 ≤ l')
    (hlo : lo = none ∧ l' = 0 ∨ ∃ k o, lo = some o ∧ ev fr o = .int k l') (hhi : hi = none ∧ h' = (len : Int) ∨ ∃ k o, hi = some o ∧ ev fr o = .int k h') (g1 : l' ≤ h') (g2 : h' ≤ (cap : Int))
    (h : WO P n K qt z ops Q l (pt fr dst (.slice (subA a cap l'.toNat sz) (h'.toNat - l'.toNat) (cap - l'.toNat))) w) : WO P n K qt z ops Q (i :: l) fr w := by
  refine WO.val ho hok _ (fun w' hw' => ?_) h
  simp only [execOp, hx, Option.map_none]
  rw [run_bind (run_slice (P := P) (w := w') ht hsz a len cap (l := l'.toNat) (h := h'.toNat) ?_ ?_ (by omega) (by omega))]
  · rfl
  · rcases hlo with ⟨rfl, rfl⟩ | ⟨k, o, rfl, eo⟩
    · exact .inl ⟨rfl, rfl⟩
    · exact .inr ⟨k, by rw [Option.map_some, eo, Int.toNat_of_nonneg g0]⟩
  · rcases hhi with ⟨rfl, rfl⟩ | ⟨k, o, rfl, eo⟩
    · exact .inl ⟨rfl, by omega⟩
    · exact .inr ⟨k, by rw [Option.map_some, eo, Int.toNat_of_nonneg (by omega)]⟩
theorem WO.make (hS : St E w I Os) {t : TypeId} {s x : Operand} (ho : ops[i]? = some ⟨dst, .makeSlice t s x, ty, pos, after, guard⟩) (hok : okAt n ops fr ⟨dst, .makeSlice t s x, ty, pos, after, guard⟩ = true)
    (hq : qt (.makeSlice t s x) = false) (ht : sliceOf P t = some T) {b : Nat} {zs : Array Value} (hT : elOf P T = some (sz, b, zs)) (hz : zs.size = sz) (h1 : Nat.ble 1 sz = true) {k1 k2 : IntKind} (m : Nat) (es : ev fr s = .int k1 (m : Int)) (ex : ev fr x = .int k2 (m : Int))
    (hfit : m * b ≤ 140737488355328) (hb : Nat.ble 1 b = true) {z0 : α} (hrel : rel I zs.toList z0) (hK : ∀ w' C', St E w' I (C' :: Os) → K w')
    (h : ∀ a' w' C', St E w' I (C' :: Os) → OwnSl T sz rel I C' a' m (List.replicate m z0) → WO P n K qt z ops Q l (pt fr dst (.slice a' m m)) w') : WO P n K qt z ops Q (i :: l) fr w := by
  obtain ⟨ti, zv, hi, hiz, rfl, rfl, rfl⟩ := elOf_some hT
  have hb' := Nat.le_of_ble_eq_true hb
  have h1' := Nat.le_of_ble_eq_true h1
  have hm : m ≤ m * ti.bytes := Nat.le_mul_of_pos_right _ hb'
  have hbi : (ti.bytes : Int) * (m : Int) ≤ 281474976710656 := by
    have : ((ti.bytes * m : Nat) : Int) ≤ 281474976710656 := by rw [Nat.mul_comm]; omega
    rwa [Int.natCast_mul] at this
  have hrun := run_make (P := P) w t T ti zv (sliceOf_eq ht) hi hiz k1 k2 m m (by omega) (Int.le_refl _) hbi (by omega)
  simp only [Int.toNat_natCast] at hrun
  have hS' := hS.alloc (.cells (madeCells zv.cells (m * ti.size)) T)
  refine ybh ho hok hq (v := .slice (some ⟨w.heap.size, 0, none⟩) m m) (w' := _) ?_ (hK _ _ hS') (h _ _ _ hS' ⟨⟨by simp, by unfold big; omega, fun j x hx => ⟨rfl, ?_⟩⟩, .inr ⟨_, 0, _, rfl, rfl, by rw [size_madeCells]; omega⟩⟩)
  · simp only [execOp, es, ex]
    rw [run_bind hrun]
    rfl
  · have hj : j < m := by
      have := (List.getElem?_eq_some_iff.1 hx).1
      simpa using this
    rw [List.getElem?_replicate, if_pos hj] at hx
    injection hx with hx
    subst hx
    refine ⟨zv.cells.toList, by simpa using hz, hrel, _, T, (0, 0), one_at _ _, fun p v hp => ?_⟩
    show (madeCells zv.cells (m * ti.size))[0 + j * ti.size + p]? = some v
    have hpl : p < ti.size := by
      have := (List.getElem?_eq_some_iff.1 hp).1
      rw [Array.length_toList] at this
      omega
    have hlt : j * ti.size + p < m * ti.size := by
      have : (j + 1) * ti.size ≤ m * ti.size := Nat.mul_le_mul_right _ (by omega)
      rw [Nat.add_mul] at this
      omega
    have hmod : (j * ti.size + p) % zv.cells.size = p := by
      rw [hz, Nat.add_comm, Nat.add_mul_mod_self_right]
      exact Nat.mod_eq_of_lt hpl
    simp only [madeCells, Nat.zero_add]
    rw [Array.getElem?_map, Array.getElem?_range, if_pos hlt]
    simp only [Option.map_some, hmod]
    rw [Array.getElem?_toList] at hp
    rw [getElem!_def, hp]
end
end Go.Gv
namespace Go.Gv
open Go
abbrev w64 (n : Int) : Int := IntKind.i64.wrap n
def sEq (a b : ByteArray) : Bool := a.toList == b.toList
def sLt (a b : ByteArray) : Bool := Op.bytesLess a.toList b.toList
def sAt (s : ByteArray) (i : Int) : Option Int := if 0 ≤ i then (s[i.toNat]?).map fun b => (b.toNat : Int) else none
def must (b : Bool) : Option Unit := if b then some () else none
theorem must_some {b : Bool} {u : Unit} (h : must b = some u) : b = true := by
  unfold must at h
  split at h
  · assumption
  · cases h
theorem wrap64_in {n : Int} (h0 : -9223372036854775808 ≤ n) (h1 : n < 9223372036854775808) : IntKind.i64.wrap n = n := by
  rw [IntKind.wrap_i64]
  omega
def KR (I : Mem) (F : List Mem) (w : World) : Prop := Rdb w I ∧ ∀ C ∈ F, Rdb w C
theorem yx {I : Mem} {w : World} (h : Rdb w I) : KR I [] w := ⟨h, fun _ hc => by cases hc⟩
theorem ym {I C : Mem} {F : List Mem} {w : World} (h : Rdb w C) (t : KR I F w) : KR I (C :: F) w :=
  ⟨t.1, fun D hd => by
    cases hd with
    | head => exact h
    | tail _ hm => exact t.2 D hm⟩
theorem Rdb.of_le {w : World} {I J : Mem} (h : Rdb w J) (hl : I.Le J) : Rdb w I := fun b o x => h b o (hl b o x)
theorem rd_f {K : World → Prop} {w : World} {H : Mem} (h : Rdb w H) : ∀ w', Kx K false w w' → Rdb w' H := by
  rintro w' (⟨h, _⟩ | rfl)
  · cases h
  · exact h
theorem rd_i {q : Bool} {w : World} {I : Mem} {F : List Mem} (h : Rdb w I) : ∀ w', Kx (KR I F) q w w' → Rdb w' I := by
  rintro w' (⟨_, h⟩ | rfl)
  · exact h.1
  · exact h
theorem rd_c {q : Bool} {w : World} {I C : Mem} {F : List Mem} (hm : C ∈ F) (h : Rdb w C) : ∀ w', Kx (KR I F) q w w' → Rdb w' C := by
  rintro w' (⟨_, h⟩ | rfl)
  · exact h.2 C hm
  · exact h
theorem cells_one {w : World} {b off : Nat} {c : Array Value} {T : TypeId} {fz : Nat × Nat} {cs : List Value} (h : Rdb w (one b (.cells c T fz))) (hc : (c.toList.drop off).take cs.length = cs) :
    ∀ j v, cs[j]? = some v → w.cell? ⟨b, off + j, none⟩ = some v := by
  intro j v hj
  refine cell_one h ?_
  rw [← hc, List.getElem?_take, List.getElem?_drop] at hj
  split at hj
  · simpa using hj
  · cases hj
theorem CellsAt.cells {H : Mem} {b o off k : Nat} {cs ds : List Value} (h : CellsAt H b o cs) (hk : (cs.drop k).take ds.length = ds) (ho : off = o + k) {w : World} (hr : Rdb w H) :
    ∀ j v, ds[j]? = some v → w.cell? ⟨b, off + j, none⟩ = some v := by
  intro j v hj
  subst ho
  rw [← hk, List.getElem?_take, List.getElem?_drop] at hj
  split at hj
  · rw [Nat.add_assoc]; exact h.cell hr hj
  · cases hj
theorem CellsAt.cellk {H : Mem} {b o : Nat} {cs : List Value} (h : CellsAt H b o cs) (k : Nat) {v : Value} (hk : cs[k]? = some v) {w : World} (hr : Rdb w H) : w.cell? ⟨b, o + k, none⟩ = some v := h.cell hr hk
theorem CellsAt.cell0 {H : Mem} {b o : Nat} {cs : List Value} (h : CellsAt H b o cs) {v : Value} (hk : cs[0]? = some v) {w : World} (hr : Rdb w H) : w.cell? ⟨b, o, none⟩ = some v := h.cell hr hk
theorem St.back {E w w' : World} {I I' C : Mem} {Os : List Mem} (h0 : St E w I (C :: Os)) (hl : (I.with C).Le I') (h : St E w' I' Os) : St E w' I (C :: Os) := by
  have hp := List.pairwise_cons.1 h0.dj
  refine ⟨h.os, h.tape, h.output, h.im.of_le ((ybd I C).trans hl), ?_, h0.dj⟩
  intro D hd
  refine ⟨?_, (h0.ow D hd).2⟩
  cases hd with
  | head => exact h.im.of_le (h0.with_right.trans hl)
  | tail _ hm => exact (h.ow D hm).1
section
variable {P : Program} {n : Nat} {K : World → Prop} {qt : Op → Bool} {z : Nat} {ops : Array Oper} {Q : Exit → Act → World → Prop} {fr : Fr} {w : World} {l : List Nat} {i : Nat}
  {dst : Option Tmp} {ty : TypeId} {pos : String} {after : Array Edge} {guard : Option (Nat × Bool)}
theorem WO.incr {t t' : TypeId} {x : Operand} (ho : ops[i]? = some ⟨dst, .binOp .add t x (.const (.int .i64 1)) t', ty, pos, after, guard⟩) (hok : okAt n ops fr ⟨dst, .binOp .add t x (.const (.int .i64 1)) t', ty, pos, after, guard⟩ = true)
    {j : Nat} (hx : ev fr x = .int .i64 (j : Int)) (hj : j + 1 < big) (h : WO P n K qt z ops Q l (pt fr dst (.int .i64 ((j + 1 : Nat) : Int))) w) : WO P n K qt z ops Q (i :: l) fr w := by
  refine ybp ho hok _ (fun w' => ?_) h
  have e : IntKind.i64.wrap ((j : Int) + 1) = ((j + 1 : Nat) : Int) := by
    unfold big at hj
    rw [wrap64_in (by omega) (by omega)]
    omega
  have ec : ev fr (.const (.int .i64 1)) = .int .i64 1 := rfl
  simp only [execOp, hx, ec]
  show Result.ok (Next.value (Value.int .i64 (IntKind.i64.wrap ((j : Int) + 1)))) w' = _
  rw [e]
theorem run_indexStr {t : TypeId} (ht : P.underlying t = some .string) {s : ByteArray} {k : IntKind} {j x : Int} (hj : sAt s j = some x) : (Instr.index t (.string s) (.int k j)).run P w = .ok (.int .u8 x) w := by
  unfold sAt at hj
  split at hj
  · rename_i h0
    cases hb : s[j.toNat]? with
    | none => rw [hb] at hj; cases hj
    | some b =>
      rw [hb] at hj
      simp only [Option.map_some, Option.some.injEq] at hj
      subst hj
      simp [Instr.index, asIntOf, run_underlying' ht, h0, hb]
  · cases hj
theorem ya8 {t : TypeId} {x ix : Operand} (ho : ops[i]? = some ⟨dst, .index t x ix, ty, pos, after, guard⟩) (hok : okAt n ops fr ⟨dst, .index t x ix, ty, pos, after, guard⟩ = true)
    (ht : P.underlying t = some .string) {s : ByteArray} (hx : ev fr x = .string s) {k : IntKind} {j u : Int} (hi : ev fr ix = .int k j) (hu : sAt s j = some u)
    (h : WO P n K qt z ops Q l (pt fr dst (.int .u8 u)) w) : WO P n K qt z ops Q (i :: l) fr w := by
  refine WO.val ho hok _ (fun w' _ => ?_) h
  simp only [execOp, hx, hi]
  rw [run_bind (run_indexStr ht hu)]
  rfl
theorem WO.caseb (b : Bool) (ht : b = true → WO P n K qt z ops Q l fr w) (hf : b = false → WO P n K qt z ops Q l fr w) : WO P n K qt z ops Q l fr w := by
  cases hb : b
  · exact hf hb
  · exact ht hb
def Callable (P : Program) (g : FuncId) : Prop := ∀ args w, (callFunc g args).run P w = .ok (.enter g args) w
theorem WO.callv {f : Operand} {as : Array Operand} {ats : Array TypeId} (ho : ops[i]? = some ⟨dst, .call ⟨.value f, as, ats⟩, ty, pos, after, guard⟩) (hok : okAt n ops fr ⟨dst, .call ⟨.value f, as, ats⟩, ty, pos, after, guard⟩ = true)
    (hq : qt (.call ⟨.value f, as, ats⟩) = false) {g : FuncId} {kk args : List Value} (hx : ev fr f = .func (.func g) #[] kk.toArray) (ha : as.map (ev fr) = args.toArray) (hg : Callable P g) {R : Ending → World → Prop}
    (hc : Calls P g (args ++ kk).toArray w R) (h : ∀ e w', R e w' → ∃ v, e = .returned v ∧ K w' ∧ WO P n K qt z ops Q l (pt fr dst v) w') : WO P n K qt z ops Q (i :: l) fr w := by
  refine WO.call ho hok hq (f := g) (args := (args ++ kk).toArray) ?_ hc h
  simp only [execOp, resolve, hx, ha, Deferred.ofValue]
  rw [run_bind (a := ({ target := .fn (.func g) kk.toArray, args := #[] ++ args.toArray } : Deferred)) (w' := w) rfl]
  simp only [invoke]
  have e : #[] ++ args.toArray ++ kk.toArray = (args ++ kk).toArray := by simp
  rw [e]
  exact hg _ w
theorem yag {α : Type} {T sz : Nat} {rel : Mem → List Value → α → Prop} [Mono rel] {E w : World} {I C : Mem} {Os : List Mem} {a : Option Addr} {cap : Nat} {xs : List α} (h : OwnSl T sz rel I C a cap xs) (hS : St E w I (C :: Os)) :
    ∃ I', I.Le I' ∧ St E w I' Os ∧ RSl sz rel I' a cap xs := ⟨I.with C, ybd I C, hS.publish, h.publish hS⟩
end
def mk (b : Nat) (n : Int) : Option Nat := if 0 ≤ n ∧ n * (b : Int) ≤ 140737488355328 then some n.toNat else none
theorem mk_some {b m : Nat} {n : Int} (h : mk b n = some m) : m * b ≤ 140737488355328 ∧ n = (m : Int) := by
  unfold mk at h
  split at h
  · rename_i hc
    injection h with h
    have e : n = (m : Int) := by omega
    refine ⟨?_, e⟩
    have := hc.2
    rw [e] at this
    have h2 : ((m * b : Nat) : Int) ≤ 140737488355328 := by rw [Int.natCast_mul]; exact this
    omega
  · cases h
theorem sub_ok {α : Type} {sz : Nat} {rel : Mem → List Value → α → Prop} {H I : Mem} {a : Option Addr} {cap : Nat} {xs ys : List α} (h : SlAt sz rel H I a cap xs) {lo hi : Int} (h0 : 0 ≤ lo) (h1 : lo ≤ hi) (h2 : hi ≤ (xs.length : Int))
    (he : ys = (xs.take hi.toNat).drop lo.toNat) : ∃ a' c', SlAt sz rel H I a' c' ys ∧ Value.slice (subA a cap lo.toNat sz) (hi.toNat - lo.toNat) (cap - lo.toNat) = Value.slice a' ys.length c' := by
  subst he
  refine ⟨_, _, h.sub (lo := lo.toNat) (hi := hi.toNat) (by omega) (by omega), ?_⟩
  congr 1
  simp
  omega
inductive Elr {α : Type} (rel : Mem → List Value → α → Prop) (I : Mem) : List (List Value) → List α → Prop
  | nil : Elr rel I [] []
  | cons {cs : List Value} {x : α} {css : List (List Value)} {xs : List α} : rel I cs x → Elr rel I css xs → Elr rel I (cs :: css) (x :: xs)
theorem Elr.len {α : Type} {rel : Mem → List Value → α → Prop} {I : Mem} {css : List (List Value)} {xs : List α} (h : Elr rel I css xs) : css.length = xs.length := by
  induction h with
  | nil => rfl
  | cons _ _ ih => simp [ih]
theorem Elr.at_ {α : Type} {rel : Mem → List Value → α → Prop} {I : Mem} {sz : Nat} {css : List (List Value)} {xs : List α} (h : Elr rel I css xs) : (∀ c ∈ css, c.length = sz) →
    ∀ i x, xs[i]? = some x → ∃ cs, cs.length = sz ∧ rel I cs x ∧ ∀ j v, cs[j]? = some v → css.flatten[i * sz + j]? = some v := by
  induction h with
  | nil => intro _ i x hx; cases hx
  | cons hr _ ih =>
    rename_i cs x css xs _
    intro hsz i y hy
    have hc := hsz cs (by simp)
    cases i with
    | zero =>
      simp at hy
      subst hy
      refine ⟨cs, hc, hr, fun j v hj => ?_⟩
      have hlt : j < cs.length := (List.getElem?_eq_some_iff.1 hj).1
      rw [List.flatten_cons, Nat.zero_mul, Nat.zero_add, List.getElem?_append_left hlt]
      exact hj
    | succ i =>
      obtain ⟨ds, h1, h2, h3⟩ := ih (fun c hc => hsz c (by simp [hc])) i y (by simpa using hy)
      refine ⟨ds, h1, h2, fun j v hj => ?_⟩
      have hm : (i + 1) * sz = i * sz + sz := by rw [Nat.add_mul, Nat.one_mul]
      rw [List.flatten_cons, List.getElem?_append_right (by omega), show (i + 1) * sz + j - cs.length = i * sz + j from by omega]
      exact h3 j v hj
section
variable {P : Program} {n : Nat} {K : World → Prop} {qt : Op → Bool} {z : Nat} {ops : Array Oper} {Q : Exit → Act → World → Prop} {fr : Fr} {w : World} {l : List Nat} {i : Nat}
theorem yad {α : Type} {rel : Mem → List Value → α → Prop} {xs : List α} {E : World} {I : Mem} {Os : List Mem} (hS : St E w I Os) {o : Oper} (ho : ops[i]? = some o) (hok : okAt n ops fr o = true) (hq : qt o.op = false)
    (T sz : Nat) (css : List (List Value)) (hr : (execOp (ev fr) o).run P w = .ok (.value (.slice (some ⟨w.heap.size, 0, none⟩) css.length css.length)) (w.alloc (.cells css.flatten.toArray T (0, 0))))
    (hsz : (Nat.blt css.length 1048576 && css.all fun c => Nat.beq c.length sz) = true) (hel : Elr rel I css xs) (hK : ∀ C w', St E w' I (C :: Os) → K w')
    (h : ∀ a C w', St E w' I (C :: Os) → OwnSl T sz rel I C a css.length xs → WO P n K qt z ops Q l (pt fr o.dst (.slice a css.length css.length)) w') : WO P n K qt z ops Q (i :: l) fr w := by
  have hS' := hS.alloc (.cells css.flatten.toArray T (0, 0))
  simp only [Bool.and_eq_true] at hsz
  have hlt : css.length + 1 ≤ 1048576 := Nat.le_of_ble_eq_true hsz.1
  have hall : ∀ c ∈ css, c.length = sz := fun c hc => Nat.eq_of_beq_eq_true (List.all_eq_true.1 hsz.2 c hc)
  refine ybh ho hok hq hr (hK _ _ hS') (h _ _ _ hS' ⟨⟨by rw [hel.len]; exact Nat.le_refl _, by unfold big; omega, fun j x hx => ⟨rfl, ?_⟩⟩, .inr ⟨_, 0, _, rfl, rfl, ?_⟩⟩)
  · obtain ⟨cs, h1, h2, h3⟩ := hel.at_ hall j x hx
    refine ⟨cs, h1, h2, _, T, (0, 0), one_at _ _, fun p v hp => ?_⟩
    show (css.flatten.toArray)[0 + j * sz + p]? = some v
    rw [Nat.zero_add]
    simpa using h3 p v hp
  · have : ∀ l : List (List Value), (∀ c ∈ l, c.length = sz) → l.flatten.length = l.length * sz := by
      intro l
      induction l with
      | nil => intro _; simp
      | cons c r ih => intro hl; rw [List.flatten_cons, List.length_append, ih (fun d hd => hl d (by simp [hd])), hl c (by simp), List.length_cons, Nat.add_mul]; omega
    rw [List.size_toArray, this css hall]
    omega
end
section
variable {P : Program} {n : Nat} {Q : Exit → Act → World → Prop} {fr : Fr} {w : World} {fn : Func} {R : Ending → World → Prop}
theorem En.toRet (h : En n (bodyPost P fn R) .ret fr w) : En n (bodyPost P fn R) .normal fr w := h
end
end Go.Gv
namespace Go.Gv
open Go
def partV (P : Program) (t : TypeId) (cs : Array Value) (off : Nat) : Option Value :=
  match aggOf P t, sizeIs P t with
  | some true, some n => some (.agg (cs.extract off (off + n)))
  | some false, _ => cs[off]?
  | _, _ => none
def eqFs (P : Program) (eq : TypeId → Value → Value → Option Bool) : List Field → Array Value → Array Value → Option Bool
  | [], _, _ => some true
  | f :: r, xs, ys => if f.name == "_" then eqFs P eq r xs ys else
    match partV P f.type xs f.offset, partV P f.type ys f.offset with
    | some a, some b => (eq f.type a b).bind fun e => (eqFs P eq r xs ys).map fun s => e && s
    | _, _ => none
def eqV (P : Program) : Nat → TypeId → Value → Value → Option Bool
  | 0, _, _, _ => none
  | d + 1, t, x, y =>
    match x, y with
    | .int k a, .int k' b => match P.underlying t with
      | some (.int _) => if k = k' then some (a == b) else none
      | _ => none
    | .string a, .string b => match P.underlying t with
      | some .string => some (sEq a b)
      | _ => none
    | .bool a, .bool b => match P.underlying t with
      | some .bool => some (a == b)
      | _ => none
    | .agg xs, .agg ys => match P.underlying t with
      | some (.struct fs) => if P.stoodInHeld t then none else eqFs P (eqV P d) fs.toList xs ys
      | _ => none
    | _, _ => none
section
variable {P : Program} {w : World}
theorem run_part {t : TypeId} {cs : Array Value} {off : Nat} {v : Value} (h : partV P t cs off = some v) : (part t cs off).run P w = .ok v w := by
  unfold partV at h
  split at h
  · rename_i n ha hn
    injection h with h
    subst h
    unfold part
    rw [run_bind (run_isAgg ha)]
    simp only [if_true]
    rw [run_bind (run_sizeOf hn)]
    rfl
  · rename_i ha
    unfold part
    rw [run_bind (run_isAgg ha)]
    simp [h]
  · cases h
theorem eqV_run : ∀ (d : Nat), (∀ (t : TypeId) (x y : Value) (b : Bool), eqV P d t x y = some b → ∀ D, d ≤ D → (Op.equalIn D t x y).run P w = .ok b w)
  | 0 => fun t x y b h => by simp [eqV] at h
  | d + 1 => by
    have ih := eqV_run d
    have ihf : ∀ (fs : List Field) (xs ys : Array Value) (b : Bool), eqFs P (eqV P d) fs xs ys = some b → ∀ D, d ≤ D → (Op.eqFields D xs ys fs).run P w = .ok b w := by
      intro fs
      induction fs with
      | nil => intro xs ys b h D _; simp [eqFs] at h; subst h; simp [Op.eqFields]
      | cons f r ihr =>
        intro xs ys b h D hD
        rw [eqFs] at h
        by_cases hn : (f.name == "_") = true
        · rw [if_pos hn] at h
          have hn' : ¬ (f.name ≠ "_") := by simpa using hn
          rw [Op.eqFields, if_neg hn']
          exact ihr xs ys b h D hD
        · rw [if_neg hn] at h
          have hn' : f.name ≠ "_" := by simpa using hn
          cases ha : partV P f.type xs f.offset with
          | none => simp [ha] at h
          | some a =>
            cases hb : partV P f.type ys f.offset with
            | none => simp [ha, hb] at h
            | some c =>
              simp only [ha, hb] at h
              obtain ⟨e, he, h2⟩ := bind_some h
              cases hs : eqFs P (eqV P d) r xs ys with
              | none => simp [hs] at h2
              | some s =>
                simp [hs] at h2
                subst h2
                rw [Op.eqFields]
                simp only [if_pos hn', Sem.run_bind, run_part ha, run_part hb, ih _ _ _ _ he D hD, Result.andThen_ok]
                cases e
                · simp
                · simpa using ihr xs ys s hs D hD
    intro t x y b h D hD
    obtain ⟨D, rfl⟩ : ∃ k, D = k + 1 := ⟨D - 1, by omega⟩
    cases x with
    | int k a =>
      cases y with
      | int k' a' =>
        simp only [eqV] at h
        split at h
        · rename_i k1 hu
          split at h
          · rename_i hk
            subst hk
            injection h with h
            subst h
            exact run_equalIn_int _ D t _ k1 _ _ hu
          · cases h
        · cases h
      | _ => simp [eqV] at h
    | string a =>
      cases y with
      | string a' =>
        simp only [eqV] at h
        split at h
        · rename_i hu
          injection h with h
          subst h
          exact run_equalIn_string _ D t _ _ hu
        · cases h
      | _ => simp [eqV] at h
    | bool a =>
      cases y with
      | bool a' =>
        simp only [eqV] at h
        split at h
        · rename_i hu
          injection h with h
          subst h
          exact run_equalIn_bool' _ D t _ _ hu
        · cases h
      | _ => simp [eqV] at h
    | agg xs =>
      cases y with
      | agg ys =>
        simp only [eqV] at h
        split at h
        · rename_i fs hu
          split at h
          · cases h
          · rename_i hp
            have hf : P.fieldsOf t = fs := by simp [Program.fieldsOf, hu]
            rw [run_equalIn_struct (P := P) w D t _ _ (by rw [hf]; exact hu) (by simpa using hp), hf]
            exact ihf _ _ _ b h D (by omega)
        · cases h
      | _ => simp [eqV] at h
    | _ => cases y <;> simp [eqV] at h
variable {n : Nat} {K : World → Prop} {qt : Op → Bool} {z : Nat} {ops : Array Oper} {Q : Exit → Act → World → Prop} {fr : Fr} {l : List Nat} {i : Nat}
  {dst : Option Tmp} {ty : TypeId} {pos : String} {after : Array Edge} {guard : Option (Nat × Bool)}
theorem ybe {op : BinOp} {t t' : TypeId} {x y : Operand} (ho : ops[i]? = some ⟨dst, .binOp op t x y t', ty, pos, after, guard⟩) (hok : okAt n ops fr ⟨dst, .binOp op t x y t', ty, pos, after, guard⟩ = true)
    {xs ys : Array Value} (hx : ev fr x = .agg xs) (hy : ev fr y = .agg ys) (hg : P.eqGuardType P.depth t = false) (d : Nat) (hd : Nat.ble d 10000 = true) {b : Bool} (hb : eqV P d t (.agg xs) (.agg ys) = some b)
    (r : Bool) (hop : op = .eql ∧ r = b ∨ op = .neq ∧ r = !b) (h : WO P n K qt z ops Q l (pt fr dst (.bool r)) w) : WO P n K qt z ops Q (i :: l) fr w := by
  refine ybp ho hok _ (fun w' => ?_) h
  have he : (Op.equal t (.agg xs) (.agg ys)).run P w' = .ok b w' := eqV_run d t _ _ b hb 10000 (Nat.le_of_ble_eq_true hd)
  have hgu : ∀ o : BinOp, (eqGuard o t x y (.agg xs) (.agg ys)).run P w' = .ok () w' := by
    intro o
    unfold eqGuard
    by_cases hc : (o matches .eql | .neq) = true
    · simp [hg]
    · cases o <;> simp_all
  rcases hop with ⟨rfl, rfl⟩ | ⟨rfl, rfl⟩
  · simp only [execOp, hx, hy]
    rw [run_bind (a := Value.bool r) (w' := w') (by
      rw [run_bind (hgu _)]
      simp only [binOp]
      rw [run_bind he]
      rfl)]
    rfl
  · simp only [execOp, hx, hy]
    rw [run_bind (a := Value.bool (!b)) (w' := w') (by
      rw [run_bind (hgu _)]
      simp only [binOp]
      rw [run_bind he]
      rfl)]
    rfl
theorem ybk {t t' : TypeId} {x y : Operand} (ho : ops[i]? = some ⟨dst, .binOp .eql t x y t', ty, pos, after, guard⟩) (hok : okAt n ops fr ⟨dst, .binOp .eql t x y t', ty, pos, after, guard⟩ = true)
    {e : Nat} (ht : sliceOf P t = some e) {a : Option Addr} {len cap : Nat} (hx : ev fr x = .slice a len cap) (hy : ev fr y = .slice none 0 0) (h : WO P n K qt z ops Q l (pt fr dst (.bool a.isNone)) w) : WO P n K qt z ops Q (i :: l) fr w := by
  refine ybp ho hok _ (fun w' => ?_) h
  simp only [execOp, hx, hy]
  rw [run_bind (a := Value.bool a.isNone) (w' := w') (by
    have hg : (eqGuard .eql t x y (.slice a len cap) (.slice none 0 0)).run P w' = .ok () w' := by simp [eqGuard]
    rw [run_bind hg]
    have he : (Op.equal t (.slice a len cap) (.slice none 0 0)).run P w' = .ok a.isNone w' := by
      exact run_equal_slice_nil w' t e a len cap (sliceOf_eq ht)
    simp only [binOp]
    rw [run_bind he]
    rfl)]
  rfl
end
end Go.Gv
namespace Go.Gv
open Go
section
variable {κ ν : Type} (eq : κ → κ → Bool)
def mpos (k : κ) : List κ → Option Nat
  | [] => none
  | a :: r => if eq k a then some 0 else (mpos k r).map (· + 1)
def mget (l : List (κ × ν)) (k : κ) : Option ν := (mpos eq k (l.map (·.1))).bind fun i => (l[i]?).map (·.2)
def mhas (l : List (κ × ν)) (k : κ) : Bool := (mpos eq k (l.map (·.1))).isSome
def mset (l : List (κ × ν)) (k : κ) (v : ν) : List (κ × ν) := match mpos eq k (l.map (·.1)) with
  | some i => l.set i (k, v)
  | none => l ++ [(k, v)]
def mdel (l : List (κ × ν)) (k : κ) : List (κ × ν) := match mpos eq k (l.map (·.1)) with
  | some i => l.eraseIdx i
  | none => l
end
theorem mpos_lt {κ : Type} {eq : κ → κ → Bool} {k : κ} : ∀ {l : List κ} {i : Nat}, mpos eq k l = some i → i < l.length ∧ ∃ a, l[i]? = some a ∧ eq k a = true
  | [], i, h => by cases h
  | a :: r, i, h => by
    simp only [mpos] at h
    split at h
    · rename_i he
      injection h with h
      subst h
      exact ⟨by simp, a, rfl, he⟩
    · cases hm : mpos eq k r with
      | none => rw [hm] at h; cases h
      | some j =>
        rw [hm] at h
        simp only [Option.map_some, Option.some.injEq] at h
        subst h
        obtain ⟨h1, b, h2, h3⟩ := mpos_lt hm
        exact ⟨by simp; omega, b, by simpa using h2, h3⟩
theorem erase_map {α β : Type} (f : α → β) : ∀ (l : List α) (i : Nat), (l.map f).eraseIdx i = (l.eraseIdx i).map f
  | [], i => by simp
  | a :: r, 0 => rfl
  | a :: r, i + 1 => by simp [erase_map f r i]
structure KeyLaw (P : Program) {κ : Type} (kt : TypeId) (enc : κ → Value) (eq : κ → κ → Bool) : Prop where
  check : ∀ (empty : Bool) (k : κ) (w : World), (Instr.checkKey empty 10000 kt (enc k)).run P w = .ok () w
  find : ∀ (k : κ) (w : World) (es : List MapEntry) (ks : List κ), es.map (·.key) = ks.map enc → (Instr.findKey kt (enc k) es).run P w = .ok ((mpos eq k ks).bind fun i => (es[i]?).map fun e => (i, e.val)) w
  same : ∀ a b : κ, eq b a = true → Instr.sameBits 10000 (enc a) (enc b) = true
theorem findNow_run {κ : Type} {kind : TypeDesc} {enc : κ → Value} {eq : κ → κ → Bool} (k : κ) (he : ∀ a : κ, Instr.sameNow kind (enc k) (enc a) = some (eq k a)) :
    ∀ (es : List MapEntry) (ks : List κ) (n : Nat), es.map (·.key) = ks.map enc → Instr.findNow kind (enc k) es n = some ((mpos eq k ks).bind fun i => (es[i]?).map fun e => (n + i, e.val))
  | [], ks, n, h => by
    cases ks with
    | nil => rfl
    | cons a r => cases h
  | e :: es, ks, n, h => by
    cases ks with
    | nil => cases h
    | cons a r =>
      simp only [List.map_cons, List.cons.injEq] at h
      simp only [Instr.findNow, h.1, he a, mpos]
      cases hq : eq k a with
      | true => simp
      | false =>
        simp only [Bool.false_eq_true, if_false]
        rw [findNow_run k he es r (n + 1) h.2]
        cases mpos eq k r with
        | none => rfl
        | some j =>
          simp only [Option.map_some, Option.bind_some, List.getElem?_cons_succ]
          congr 2
          funext e
          congr 1
          omega
theorem keyLaw_now {P : Program} {κ : Type} {kt : TypeId} {kind : TypeDesc} {enc : κ → Value} {eq : κ → κ → Bool} (hu : P.underlying kt = some kind) (hc : ∀ (empty : Bool) (k : κ) (w : World), (Instr.checkKey empty 10000 kt (enc k)).run P w = .ok () w)
    (he : ∀ a b : κ, Instr.sameNow kind (enc a) (enc b) = some (eq a b)) (hs : ∀ a b : κ, eq b a = true → Instr.sameBits 10000 (enc a) (enc b) = true) : KeyLaw P kt enc eq where
  check := hc
  same := hs
  find := by
    intro k w es ks h
    unfold Instr.findKey
    rw [run_bind (run_underlying' hu), findNow_run k (he k) es ks 0 h]
    simp [pure]
def valA {ν : Type} (rel : Mem → List Value → ν → Prop) (I : Mem) (v : Value) (x : ν) : Prop := ∃ cs, v = .agg cs.toArray ∧ rel I cs x
def val1 {ν : Type} (rel : Mem → List Value → ν → Prop) (I : Mem) (v : Value) (x : ν) : Prop := rel I [v] x
class VMono {ν : Type} (val : Mem → Value → ν → Prop) : Prop where
  mono : ∀ {I J : Mem} {v : Value} {x : ν}, I.Le J → val I v x → val J v x
instance {ν : Type} {rel : Mem → List Value → ν → Prop} [Mono rel] : VMono (valA rel) := ⟨fun hl ⟨cs, e, h⟩ => ⟨cs, e, Mono.mono hl h⟩⟩
instance {ν : Type} {rel : Mem → List Value → ν → Prop} [Mono rel] : VMono (val1 rel) := ⟨fun hl h => Mono.mono (rel := rel) hl h⟩
structure OwnMap {κ ν : Type} (enc : κ → Value) (val : Mem → Value → ν → Prop) (I C : Mem) (m : Nat) (l : List (κ × ν)) : Prop where
  ex : ∃ (es : Array MapEntry) (clock : Nat), C = one m (.map es clock) ∧ es.toList.map (·.key) = l.map (fun p => enc p.1) ∧
    (∀ (i : Nat) (e : MapEntry) (p : κ × ν), es[i]? = some e → l[i]? = some p → val I e.val p.2) ∧ (∀ e ∈ es.toList, e.born < clock) ∧ (es.toList.map (·.born)).Nodup
section
variable {κ ν : Type} {enc : κ → Value} {val : Mem → Value → ν → Prop} {I J C : Mem} {m : Nat} {l : List (κ × ν)} {eq : κ → κ → Bool} {P : Program} {w : World}
theorem OwnMap.mono [VMono val] (h : OwnMap enc val I C m l) (hl : I.Le J) : OwnMap enc val J C m l := by
  obtain ⟨es, clock, h1, h2, h3, h4⟩ := h.ex
  exact ⟨es, clock, h1, h2, fun i e p he hp => VMono.mono hl (h3 i e p he hp), h4⟩
theorem OwnMap.nil : OwnMap enc val I (one m (.map #[] 0)) m ([] : List (κ × ν)) := ⟨#[], 0, rfl, rfl, fun i e p he => by simp at he, fun e he => by simp at he, by simp⟩
theorem run_getObj {r : Nat} {es : Array MapEntry} {clock : Nat} (h : w.heap[r]? = some (.map es clock)) : (getObj r).run P w = .ok (.map es clock) w := by
  simp [getObj, Sem.run, h]
theorem OwnMap.lookup (h : OwnMap enc val I C m l) {t kt et : Nat} (ht : P.underlying t = some (.map kt et)) (kl : KeyLaw P kt enc eq) (k : κ) {zv : Value} {z0 : ν} (hz : (P.info? et).bind (·.zero) = some zv) (hz0 : val I zv z0) :
    ∃ v, val I v ((mget eq l k).getD z0) ∧ ∀ w, Rdb w C → ∀ ok : Bool, (Instr.lookup t (.map (some m)) (enc k) ok).run P w = .ok (if ok then .tuple #[v, .bool (mhas eq l k)] else v) w := by
  obtain ⟨es, clock, rfl, h2, h3, h4, h5⟩ := h.ex
  have hlen : es.size = l.length := by have := congrArg List.length h2; simpa using this
  have hzr : ∀ w, (zeroValue et).run P w = .ok zv w := by
    intro w
    cases hi : P.info? et with
    | none => simp [hi] at hz
    | some i => simp [hi] at hz; simp [zeroValue, typeInfo, hi, hz]
  have hmap : es.toList.map (·.key) = (l.map (·.1)).map enc := by rw [h2, List.map_map]; rfl
  cases hp : mpos eq k (l.map (·.1)) with
  | none =>
    refine ⟨zv, by simpa [mget, hp] using hz0, fun w hw ok => ?_⟩
    have hf := kl.find k w es.toList _ hmap
    rw [hp] at hf
    simp only [Option.bind_none] at hf
    have hg := run_getObj (P := P) (hw m _ (one_at m _))
    cases ok <;> simp [Instr.lookup, run_underlying' ht, hg, kl.check, hf, hzr, mhas, hp]
  | some i =>
    obtain ⟨hlt, a, ha, hq⟩ := mpos_lt hp
    simp only [List.length_map] at hlt
    have hes : es[i]? = some (es[i]'(by omega)) := Array.getElem?_eq_getElem (by omega)
    have hl : l[i]? = some l[i] := List.getElem?_eq_getElem hlt
    refine ⟨(es[i]'(by omega)).val, by simpa [mget, hp, hl] using h3 i _ _ hes hl, fun w hw ok => ?_⟩
    have hf := kl.find k w es.toList _ hmap
    rw [hp] at hf
    simp only [Option.bind_some, Array.getElem?_toList, hes, Option.map_some] at hf
    have hg := run_getObj (P := P) (hw m _ (one_at m _))
    cases ok <;> simp [Instr.lookup, run_underlying' ht, hg, kl.check, hf, mhas, hp]
theorem St.setObj {E : World} {Os : List Mem} {es es' : Array MapEntry} {clock clock' : Nat} (hS : St E w I (one m (.map es clock) :: Os)) :
    (setObj m (.map es' clock')).run P w = .ok () { w with heap := w.heap.setIfInBounds m (.map es' clock') } ∧ St E { w with heap := w.heap.setIfInBounds m (.map es' clock') } I (one m (.map es' clock') :: Os) := by
  have hm := hS.rd0 m _ (one_at m _)
  refine ⟨by simp [Go.setObj, Sem.run, hm], ?_⟩
  have := hS.put (one_at m _) (o' := .map es' clock') (w' := { w with heap := w.heap.setIfInBounds m (.map es' clock') }) rfl rfl rfl (by
    have hlt := (Array.getElem?_eq_some_iff.1 hm).1
    simp [Array.getElem?_setIfInBounds, hlt]) (fun i hi => by
    simp only [Array.getElem?_setIfInBounds]
    rw [if_neg (fun e => hi e.symm)])
  rwa [one_set] at this
theorem OwnMap.update {E : World} {Os : List Mem} (h : OwnMap enc val I C m l) (hS : St E w I (C :: Os)) {t kt et : Nat} (ht : P.underlying t = some (.map kt et)) (kl : KeyLaw P kt enc eq) (k : κ) {v : Value} {x : ν} (hv : val I v x) :
    ∃ w' C', (Instr.mapUpdate t (.map (some m)) (enc k) v).run P w = .ok () w' ∧ St E w' I (C' :: Os) ∧ OwnMap enc val I C' m (mset eq l k x) := by
  obtain ⟨es, clock, rfl, h2, h3, h4, h5⟩ := h.ex
  have hlen : es.size = l.length := by have := congrArg List.length h2; simpa using this
  have hmap : es.toList.map (·.key) = (l.map (·.1)).map enc := by rw [h2, List.map_map]; rfl
  have hw := hS.rd0 m _ (one_at m _)
  have hf := kl.find k w es.toList _ hmap
  cases hp : mpos eq k (l.map (·.1)) with
  | none =>
    rw [hp] at hf
    simp only [Option.bind_none] at hf
    obtain ⟨r1, r2⟩ := hS.setObj (P := P) (es' := es.push { key := enc k, val := v, born := clock }) (clock' := clock + 1)
    refine ⟨_, _, ?_, r2, ⟨_, _, rfl, ?_, ?_, ?_, ?_⟩⟩
    · simp only [Instr.mapUpdate]
      rw [run_bind (run_underlying' ht)]
      simp only
      rw [run_bind (run_getObj hw)]
      simp only
      rw [run_bind (kl.check _ k w), run_bind hf]
      exact r1
    · simp [mset, hp, h2]
    · intro i e p he hpp
      simp only [mset, hp] at hpp
      rw [Array.getElem?_push] at he
      rw [List.getElem?_append] at hpp
      by_cases hi : i = es.size
      · subst hi
        rw [if_pos rfl] at he
        rw [if_neg (by omega)] at hpp
        simp [hlen] at hpp
        injection he with he
        subst he
        subst hpp
        exact hv
      · rw [if_neg hi] at he
        have hlt : i < es.size := (Array.getElem?_eq_some_iff.1 he).1
        rw [if_pos (by omega)] at hpp
        exact h3 i e p he hpp
    · intro e he
      simp at he
      rcases he with he | rfl
      · have := h4 e (by simpa using he); omega
      · simp
    · simp only [Array.toList_push, List.map_append, List.map_cons, List.map_nil]
      rw [List.nodup_append]
      refine ⟨h5, by simp, ?_⟩
      intro a ha b hb
      simp at hb
      subst hb
      obtain ⟨e, he, rfl⟩ := List.mem_map.1 ha
      have := h4 e he
      omega
  | some i =>
    obtain ⟨hlt, a, ha, hq⟩ := mpos_lt hp
    simp only [List.length_map] at hlt
    have hes : es[i]? = some (es[i]'(by omega)) := Array.getElem?_eq_getElem (by omega)
    rw [hp] at hf
    simp only [Option.bind_some, Array.getElem?_toList, hes, Option.map_some] at hf
    have hkey : (es[i]'(by omega)).key = enc a := by
      have := congrArg (fun l => l[i]?) hmap
      simp only [List.getElem?_map, Array.getElem?_toList, hes, Option.map_some] at this
      rw [List.getElem?_map] at ha
      rw [ha] at this
      simpa using this
    have hsame := kl.same a k hq
    obtain ⟨r1, r2⟩ := hS.setObj (P := P) (es' := es.modify i fun e => { e with key := enc k, val := v }) (clock' := clock)
    refine ⟨_, _, ?_, r2, ⟨_, _, rfl, ?_, ?_, ?_, ?_⟩⟩
    · simp only [Instr.mapUpdate]
      rw [run_bind (run_underlying' ht)]
      simp only
      rw [run_bind (run_getObj hw)]
      simp only
      rw [run_bind (kl.check _ k w), run_bind hf]
      simp only
      rw [run_bind (a := enc k) (w' := w) (by
        simp only [hes, Option.map_some, Option.getD_some, hkey, Instr.keyThatStays, hsame, if_true]
        rfl)]
      exact r1
    · apply List.ext_getElem?
      intro j
      simp only [mset, hp, List.getElem?_map, Array.getElem?_toList, Array.getElem?_modify, List.getElem?_set]
      by_cases hj : i = j
      · subst hj
        simp [hes, hlt]
      · rw [if_neg hj, if_neg hj]
        have := congrArg (fun l => l[j]?) h2
        simpa [List.getElem?_map] using this
    · intro j e p he hpp
      simp only [mset, hp, List.getElem?_set] at hpp
      rw [Array.getElem?_modify] at he
      by_cases hj : i = j
      · subst hj
        rw [if_pos rfl] at he
        rw [if_pos rfl, if_pos hlt] at hpp
        injection hpp with hpp
        subst hpp
        rw [hes] at he
        simp at he
        subst he
        exact hv
      · rw [if_neg hj] at he hpp
        exact h3 j e p he hpp
    · intro e he
      obtain ⟨j, hj⟩ := List.mem_iff_getElem?.1 he
      rw [Array.getElem?_toList, Array.getElem?_modify] at hj
      split at hj
      · rename_i hij
        subst hij
        rw [hes] at hj
        simp at hj
        subst hj
        exact h4 (es[i]'(by omega)) (by simp)
      · exact h4 e (List.mem_iff_getElem?.2 ⟨j, by rw [Array.getElem?_toList]; exact hj⟩)
    · have : (es.modify i fun e => { e with key := enc k, val := v }).toList.map (·.born) = es.toList.map (·.born) := by
        apply List.ext_getElem?
        intro j
        simp only [List.getElem?_map, Array.getElem?_toList, Array.getElem?_modify]
        split
        · rename_i hij
          subst hij
          rw [hes]; rfl
        · rfl
      rw [this]; exact h5
theorem OwnMap.delete {E : World} {Os : List Mem} (h : OwnMap enc val I C m l) (hS : St E w I (C :: Os)) {t kt et ty : Nat} {ats : Array Nat} (ha : ats[0]? = some t) (ht : P.underlying t = some (.map kt et)) (kl : KeyLaw P kt enc eq) (k : κ) :
    ∃ w' C', (Builtin.delete_ ats ty #[.map (some m), enc k]).run P w = .ok (.tuple #[]) w' ∧ St E w' I (C' :: Os) ∧ OwnMap enc val I C' m (mdel eq l k) := by
  obtain ⟨es, clock, rfl, h2, h3, h4, h5⟩ := h.ex
  have hlen : es.size = l.length := by have := congrArg List.length h2; simpa using this
  have hmap : es.toList.map (·.key) = (l.map (·.1)).map enc := by rw [h2, List.map_map]; rfl
  have hw := hS.rd0 m _ (one_at m _)
  have hf := kl.find k w es.toList _ hmap
  have start : ∀ (r : Option (Nat × Value)) (es' : Array MapEntry), (Instr.findKey kt (enc k) es.toList).run P w = .ok r w → (match r with | some (i, _) => setObj m (.map (es.eraseIdxIfInBounds i) clock) | none => setObj m (.map es clock)) = setObj m (.map es' clock) →
      (Builtin.delete_ ats ty #[.map (some m), enc k]).run P w = .ok (.tuple #[]) { w with heap := w.heap.setIfInBounds m (.map es' clock) } := by
    intro r es' hr he
    obtain ⟨r1, _⟩ := hS.setObj (P := P) (es' := es') (clock' := clock)
    have hg := run_getObj (P := P) hw
    have key : (do match r with | some (i, _) => setObj m (.map (es.eraseIdxIfInBounds i) clock) | none => setObj m (.map es clock)).run P w = .ok () { w with heap := w.heap.setIfInBounds m (.map es' clock) } := by
      rw [← r1]; exact congrArg (fun s => Sem.run P s w) he
    cases r with
    | none => simp only at key; simp [Builtin.delete_, ha, run_underlying' ht, hg, kl.check, hr, key]
    | some q => obtain ⟨i, v⟩ := q; simp only at key; simp [Builtin.delete_, ha, run_underlying' ht, hg, kl.check, hr, key]
  cases hp : mpos eq k (l.map (·.1)) with
  | none =>
    rw [hp] at hf
    obtain ⟨_, r2⟩ := hS.setObj (P := P) (es' := es) (clock' := clock)
    exact ⟨_, _, start none es hf rfl, r2, ⟨es, clock, rfl, by simpa [mdel, hp] using h2, by simpa [mdel, hp] using h3, h4, h5⟩⟩
  | some i =>
    obtain ⟨hlt, a, ha', hq⟩ := mpos_lt hp
    simp only [List.length_map] at hlt
    have hes : es[i]? = some (es[i]'(by omega)) := Array.getElem?_eq_getElem (by omega)
    rw [hp] at hf
    simp only [Option.bind_some, Array.getElem?_toList, hes, Option.map_some] at hf
    obtain ⟨_, r2⟩ := hS.setObj (P := P) (es' := es.eraseIdxIfInBounds i) (clock' := clock)
    have hel : (es.eraseIdxIfInBounds i).toList = es.toList.eraseIdx i := by
      rw [Array.eraseIdxIfInBounds]
      split
      · simp
      · omega
    refine ⟨_, _, start _ (es.eraseIdxIfInBounds i) hf rfl, r2, ⟨_, _, rfl, ?_, ?_, ?_, ?_⟩⟩
    · rw [hel]
      simp only [mdel, hp]
      rw [← erase_map, h2, erase_map]
    · intro j e p he hpp
      simp only [mdel, hp] at hpp
      rw [← Array.getElem?_toList, hel, List.getElem?_eraseIdx] at he
      rw [List.getElem?_eraseIdx] at hpp
      split at he
      · rename_i hj
        rw [if_pos hj] at hpp
        exact h3 j e p (by rw [← Array.getElem?_toList]; exact he) hpp
      · rename_i hj
        rw [if_neg hj] at hpp
        exact h3 (j + 1) e p (by rw [← Array.getElem?_toList]; exact he) hpp
    · intro e he
      rw [hel] at he
      exact h4 e (List.mem_of_mem_eraseIdx he)
    · rw [hel, ← erase_map]
      exact h5.sublist (List.eraseIdx_sublist _ _)
variable {n : Nat} {K : World → Prop} {qt : Op → Bool} {z : Nat} {ops : Array Oper} {Q : Exit → Act → World → Prop} {fr : Fr} {li : List Nat} {i : Nat}
  {dst : Option Tmp} {ty : TypeId} {pos : String} {after : Array Edge} {guard : Option (Nat × Bool)} {E : World} {Os : List Mem}
theorem WO.lookup {t : TypeId} {x y : Operand} {ok : Bool} (ho : ops[i]? = some ⟨dst, .lookup t x y ok, ty, pos, after, guard⟩) (hok : okAt n ops fr ⟨dst, .lookup t x y ok, ty, pos, after, guard⟩ = true)
    (hx : ev fr x = .map (some m)) {kv : Value} (hy : ev fr y = kv) {v : Value} {b : Bool} (hr : ∀ w, Rdb w C → ∀ ok : Bool, (Instr.lookup t (.map (some m)) kv ok).run P w = .ok (if ok then .tuple #[v, .bool b] else v) w)
    (hrd : ∀ w', Kx K (qt (.lookup t x y ok)) w w' → Rdb w' C) (u : Value) (hu : (if ok = true then Value.tuple #[v, .bool b] else v) = u) (h : WO P n K qt z ops Q li (pt fr dst u) w) : WO P n K qt z ops Q (i :: li) fr w := by
  subst hu
  refine WO.val ho hok _ (fun w' hw' => ?_) h
  simp only [execOp, hx, hy]
  rw [run_bind (hr w' (hrd w' hw') ok)]
  rfl
theorem WO.update [VMono val] (h0 : OwnMap enc val I C m l) (hS : St E w I (C :: Os)) {t kt et : Nat} (ht : P.underlying t = some (.map kt et)) (kl : KeyLaw P kt enc eq) {o : Oper} {x y a : Operand}
    (ho : ops[i]? = some o) (hok : okAt n ops fr o = true) (hq : qt o.op = false) (hop : o.op = .mapUpdate t x y a ∨ o.op = .insert t x y a)
    (hx : ev fr x = .map (some m)) (k : κ) (hy : ev fr y = enc k) {v : Value} (ha : ev fr a = v) {xv : ν} (hv : val I v xv) (hK : ∀ w' C', St E w' I (C' :: Os) → K w')
    (h : ∀ w' C', St E w' I (C' :: Os) → OwnMap enc val I C' m (mset eq l k xv) → WO P n K qt z ops Q li (pt fr o.dst undef) w') : WO P n K qt z ops Q (i :: li) fr w := by
  obtain ⟨w', C', hr, hS', hm⟩ := h0.update hS ht kl k hv
  refine WO.acts ho hok hq ?_ (hK w' C' hS') (h w' C' hS' hm)
  rcases hop with hop | hop <;>
  · simp only [execOp, hop, hx, hy, ha]
    rw [run_bind hr]
    rfl
theorem WO.delete (h0 : OwnMap enc val I C m l) (hS : St E w I (C :: Os)) {t kt et t2 : Nat} (ht : P.underlying t = some (.map kt et)) (kl : KeyLaw P kt enc eq) {x y : Operand}
    (ho : ops[i]? = some ⟨dst, .call ⟨.builtin .delete, #[x, y], #[t, t2]⟩, ty, pos, after, guard⟩) (hok : okAt n ops fr ⟨dst, .call ⟨.builtin .delete, #[x, y], #[t, t2]⟩, ty, pos, after, guard⟩ = true) (hq : qt (.call ⟨.builtin .delete, #[x, y], #[t, t2]⟩) = false)
    (hx : ev fr x = .map (some m)) (k : κ) (hy : ev fr y = enc k) (hK : ∀ w' C', St E w' I (C' :: Os) → K w')
    (h : ∀ w' C', St E w' I (C' :: Os) → OwnMap enc val I C' m (mdel eq l k) → WO P n K qt z ops Q li (pt fr dst (.tuple #[])) w') : WO P n K qt z ops Q (i :: li) fr w := by
  obtain ⟨w', C', hr, hS', hm⟩ := h0.delete (ty := ty) (ats := #[t, t2]) hS rfl ht kl k
  refine ybh ho hok hq (v := .tuple #[]) (w' := w') ?_ (hK w' C' hS') (h w' C' hS' hm)
  simp only [execOp, resolve]
  have e1 : (#[x, y].map (ev fr)) = #[.map (some m), enc k] := by simp [hx, hy]
  rw [e1]
  rw [run_bind (a := ({ target := .builtin .delete #[t, t2] ty (#[x, y].map fun | .const _ => true | _ => false), args := #[.map (some m), enc k] } : Deferred)) (w' := w) rfl]
  simp only [invoke, Go.builtin]
  rw [run_bind hr]
  rfl
end
end Go.Gv
namespace Go.Gv
open Go
def RRaw (_ : Mem) (cs : List Value) (x : Value) : Prop := cs = [x] ∧ x.oneCell' = true
instance : Mono RRaw := ⟨fun _ h => h, fun h v hv => by rw [h.1] at hv; simp at hv; subst hv; exact h.2⟩
theorem toList_inj {a b : ByteArray} (h : a.toList = b.toList) : a = b := by
  rw [ByteArray.toList_eq, ByteArray.toList_eq] at h
  exact ByteArray.ext (Array.toList_inj.mp h)
theorem sEq_iff {a b : ByteArray} : sEq a b = true ↔ a = b := by
  unfold sEq
  constructor
  · intro h; exact toList_inj (by simpa using h)
  · rintro rfl; simp
theorem sameBits_int (n : Nat) (k : IntKind) (a : Int) : Instr.sameBits n (.int k a) (.int k a) = true := by cases n <;> simp [Instr.sameBits]
section
variable {P : Program} {n : Nat} {K : World → Prop} {qt : Op → Bool} {z : Nat} {ops : Array Oper} {Q : Exit → Act → World → Prop} {fr : Fr} {w : World} {l : List Nat} {i : Nat}
variable {dst : Option Tmp} {ty : TypeId} {pos : String} {after : Array Edge} {guard : Option (Nat × Bool)}
end
noncomputable def anyFuel {α : Type} (f : Nat → Option α) : Option α := by
  classical
  exact if h : ∃ n r, f n = some r then some h.choose_spec.choose else none
theorem anyFuel_some {α : Type} {f : Nat → Option α} {r : α} (h : anyFuel f = some r) : ∃ n, f n = some r := by
  classical
  unfold anyFuel at h
  split at h
  · rename_i hh
    injection h with h
    subst h
    exact ⟨_, hh.choose_spec.choose_spec⟩
  · cases h
end Go.Gv
namespace Go.Gv
open Go
def memOf (w : World) : Mem := fun b => w.heap[b]?
theorem st_start (w : World) : St w w (memOf w) [] := ⟨rfl, rfl, rfl, fun b o h => h, fun C hC => (by cases hC), List.Pairwise.nil⟩
def Opens {α : Type} (P : Program) (t : TypeId) (rel : Mem → List Value → α → Prop) (wf : α → Prop) : Prop :=
  ∀ (H : Type) (enc : TypeId × Value → H) (w : World) (fuel : Nat) (cs : List Value) (x : DataW H × List MemPlace), DataW.trod enc P w 0 (fun _ => true) true fuel t cs = some x → ∃ a, rel (memOf w) cs a ∧ wf a
section
variable {P : Program} {t : TypeId}
theorem opens_int {k : IntKind} (ht : P.underlying t = some (.int k)) : Opens P t (RInt k) (fun n => k.min ≤ n ∧ n ≤ k.max) := by
  intro H enc w fuel cs x h
  obtain ⟨n, rfl, _, hw⟩ := DataW.trod_int ht h
  refine ⟨n, rfl, ?_⟩
  simpa [Lit.wf] using hw
theorem opens_bool (ht : P.underlying t = some .bool) : Opens P t RBool (fun _ => True) := by
  intro H enc w fuel cs x h
  obtain ⟨b, rfl, _⟩ := DataW.trod_bool ht h
  exact ⟨b, rfl, trivial⟩
theorem opens_str (ht : P.underlying t = some .string) : Opens P t RStr (fun s => s.size ≤ maxLen) := by
  intro H enc w fuel cs x h
  obtain ⟨s, rfl, _, hs⟩ := DataW.trod_string ht h
  exact ⟨s, rfl, hs⟩
theorem pick_list {α : Type} {q : Nat → α → Prop} : ∀ (n : Nat), (∀ i, i < n → ∃ x, q i x) → ∃ xs : List α, xs.length = n ∧ ∀ i x, xs[i]? = some x → q i x
  | 0, _ => ⟨[], rfl, fun i x h => by cases h⟩
  | n + 1, h => by
    obtain ⟨xs, h1, h2⟩ := pick_list n (fun i hi => h i (by omega))
    obtain ⟨x, hx⟩ := h n (by omega)
    refine ⟨xs ++ [x], by simp [h1], fun i y hy => ?_⟩
    by_cases hi : i < xs.length
    · rw [List.getElem?_append_left hi] at hy
      exact h2 i y hy
    · rw [List.getElem?_append_right (by omega)] at hy
      have hlt : i - xs.length < 1 := by simpa using (List.getElem?_eq_some_iff.1 hy).1
      have e : i = n := by omega
      subst e
      rw [h1, Nat.sub_self] at hy
      simp at hy
      subst hy
      exact hx
theorem opens_slice {α : Type} {e sz : Nat} {rel : Mem → List Value → α → Prop} {wf : α → Prop} (ht : P.underlying t = some (.slice e)) (hc : P.cellsOf e = sz) (hsz : Nat.blt 0 sz = true) (he : Opens P e rel wf) :
    Opens P t (RSlC sz rel) (fun xs => xs.length ≤ maxLen ∧ ∀ x ∈ xs, wf x) := by
  intro H enc w fuel cs x h
  have hsz : 0 < sz := Nat.le_of_ble_eq_true hsz
  rcases Deep.open_slice ht h with ⟨rfl, _⟩ | ⟨a, len, cap, m, n, D, Pl, rfl, _, hl, hm, hmm, _, hx⟩
  · exact ⟨[], ⟨none, 0, rfl, SlAt.nil⟩, by simp [maxLen], fun x hx => by cases hx⟩
  · simp only [if_true] at hmm
    have hsp : 0 < len → a.spot = none := by
      intro hpos
      obtain ⟨cs', e1, e2⟩ := hx 0 (by omega)
      rw [hc, Nat.zero_mul] at e1
      obtain ⟨_, e3, e4⟩ := World.cells?_some e1
      have h0 := e4 0 (by omega)
      have : cs'[0]? = some (cs'[0]'(by omega)) := List.getElem?_eq_getElem (by omega)
      rw [this] at h0
      have := World.cell?_spot h0
      simpa [Addr.add] using this
    subst hmm
    obtain ⟨xs, h1, h2⟩ := pick_list (q := fun i y => wf y ∧ ∃ cs' : List Value, cs'.length = sz ∧ rel (memOf w) cs' y ∧ some a = some (⟨bl (some a), of (some a), none⟩ : Addr) ∧ CellsAt (memOf w) a.block (a.off + i * sz) cs') len (fun i hi => by
      obtain ⟨cs', e1, e2⟩ := hx i (by omega)
      rw [hc] at e1
      obtain ⟨_, e3, e4⟩ := World.cells?_some e1
      obtain ⟨y, hy, hw⟩ := he H enc w _ _ _ e2
      have hsp := hsp (by omega)
      obtain ⟨b, off, sp⟩ := a
      simp only at hsp
      subst hsp
      refine ⟨y, hw, cs', e3, hy, rfl, ?_⟩
      have hcell : ∀ j v, cs'[j]? = some v → w.cell? ⟨b, off + i * sz + j, none⟩ = some v := by
        intro j v hj
        have hj' : j < sz := by have := (List.getElem?_eq_some_iff.1 hj).1; omega
        have := e4 j hj'
        rw [add_plain, add_plain] at this
        rw [this, hj]
      have h0 : w.cell? ⟨b, off + i * sz + 0, none⟩ = some (cs'[0]'(by omega)) := hcell 0 _ (List.getElem?_eq_getElem (by omega))
      simp only [World.cell?] at h0
      split at h0
      · rename_i c T fz hb
        refine ⟨c, T, fz, hb, fun j v hj => ?_⟩
        have := hcell j v hj
        simp only [World.cell?, hb] at this
        exact this
      · cases h0)
    refine ⟨xs, ⟨some a, m, by rw [h1], ⟨by omega, ?_, fun i y hy => ?_⟩⟩, by omega, fun y hy => ?_⟩
    · simp only [maxLen] at hm
      unfold big
      omega
    · obtain ⟨_, cs', e1, e2, e3, e4⟩ := h2 i y hy
      exact ⟨e3, cs', e1, e2, e4⟩
    · obtain ⟨i, hi, rfl⟩ := List.mem_iff_getElem.1 hy
      exact (h2 i _ (List.getElem?_eq_getElem hi)).1
theorem opens_field {α : Type} {rel : Mem → List Value → α → Prop} {wf : α → Prop} {H : Type} {enc : TypeId × Value → H} {w : World} {fuel : Nat} {cs : List Value} {x : DataW H × List MemPlace} (ht : P.underlying t = some (.struct (P.fieldsOf t)))
    (h : DataW.trod enc P w 0 (fun _ => true) true fuel t cs = some x) (i : Nat) {ft off sz : Nat} (hi : ((P.fieldsOf t)[i]?).map (fun f => (f.type, f.offset, P.cellsOf f.type)) = some (ft, off, sz)) (ho : Opens P ft rel wf) :
    ∃ a, rel (memOf w) ((cs.drop off).take sz) a ∧ wf a := by
  obtain ⟨xs, n, _, _, _, hlen, hf⟩ := DataW.trod_struct ht h
  cases hfi : (P.fieldsOf t)[i]? with
  | none => rw [hfi] at hi; cases hi
  | some f =>
    rw [hfi] at hi
    simp only [Option.map_some, Option.some.injEq, Prod.mk.injEq] at hi
    obtain ⟨rfl, rfl, rfl⟩ := hi
    have h1 := hf i f hfi
    have hlt : i < xs.length := by rw [hlen]; exact (Array.getElem?_eq_some_iff.1 hfi).1
    rw [List.getElem?_eq_getElem hlt] at h1
    exact ho _ _ _ _ _ _ h1
theorem opens_len {H : Type} {enc : TypeId × Value → H} {w : World} {fuel : Nat} {cs : List Value} {x : DataW H × List MemPlace} (ht : P.underlying t = some (.struct (P.fieldsOf t)))
    (h : DataW.trod enc P w 0 (fun _ => true) true fuel t cs = some x) {n : Nat} (hn : P.cellsOf t = n) : cs.drop n = [] := by
  obtain ⟨xs, m, _, _, hl, _, _⟩ := DataW.trod_struct ht h
  exact List.drop_eq_nil_of_le (by omega)
theorem cut {α : Type} {cs p r : List α} {o s : Nat} (h : (cs.drop o).take s = p) (hr : cs.drop (o + s) = r) : cs.drop o = p ++ r := by
  rw [← h, ← hr, ← List.drop_drop]
  exact (List.take_append_drop _ _).symm
variable {H : Type} {enc : TypeId × Value → H} {w : World} {v : Value} {d : DataW H} {ps : List MemPlace} {b : Nat}
theorem arg_int {k : IntKind} (ht : P.underlying t = some (.int k)) (hv : Value.okWide P w .any b t v) (h : DataW.Trod enc P w 0 (fun _ => true) true t v d ps) : ∃ n, v = .int k n ∧ k.min ≤ n ∧ n ≤ k.max := by
  obtain ⟨n, rfl, _, _, hw⟩ := ChangeShapes.open_int ht hv h
  exact ⟨n, rfl, by simpa [Lit.wf] using hw⟩
theorem arg_slice {α : Type} {e sz : Nat} {rel : Mem → List Value → α → Prop} {wf : List α → Prop} (ht : P.underlying t = some (.slice e)) (ho : Opens P t (RSlC sz rel) wf) (hv : Value.okWide P w .any b t v)
    (h : DataW.Trod enc P w 0 (fun _ => true) true t v d ps) : ∃ xs a cap, v = .slice a xs.length cap ∧ RSl sz rel (memOf w) a cap xs ∧ wf xs := by
  obtain ⟨a, len, cap, rfl⟩ := WideShapes.okWide_slice ht hv
  obtain ⟨fuel, hf⟩ := h
  obtain ⟨xs, ⟨a', cap', e1, e2⟩, hw⟩ := ho _ _ _ _ _ _ hf
  simp [Value.cells] at e1
  obtain ⟨rfl, rfl, rfl⟩ := e1
  exact ⟨xs, a, cap, rfl, e2, hw⟩
theorem below_of_st {E w' : World} {I' : Mem} {Os : List Mem} (hl : (memOf E).Le I') (hS : St E w' I' Os) : RowKit.Below E.heap.size E w' := by
  have hb : ∀ k, k < E.heap.size → w'.heap[k]? = E.heap[k]? := by
    intro k hk
    have h0 : memOf E k = some E.heap[k] := Array.getElem?_eq_getElem hk
    rw [hS.im k _ (hl k _ h0)]
    exact h0.symm
  refine ⟨hS.os, hS.tape, hS.output, ?_, hb⟩
  by_cases hs : E.heap.size = 0
  · omega
  · have := hb (E.heap.size - 1) (by omega)
    rw [Array.getElem?_eq_getElem (xs := E.heap) (by omega)] at this
    have := (Array.getElem?_eq_some_iff.1 this).1
    omega
theorem trodAll_stays (hl : laidOutB P = true) {W W' : World} (hb : RowKit.Below W.heap.size W W') : ∀ (ts : List TypeId) (vs : List Value) (ds : List (DataW H)) (ps : List MemPlace), (ts.all fun t => P.readableRec t && Nat.blt t P.types.size) = true →
    DataW.TrodAll enc P W 0 (fun _ => true) true ts vs ds ps → (∀ x ∈ ps, x.block < W.heap.size) → DataW.TrodAll enc P W' 0 (fun b => decide (b < W.heap.size)) true ts vs ds ps
  | [], vs, ds, ps, _, h, _ => by
    obtain ⟨rfl, rfl, rfl⟩ := ChangeShapes.trodAll_nil h
    rfl
  | t :: ts, vs, ds, ps, ht, h, hp => by
    obtain ⟨v, vs', d, ds', p, q, rfl, rfl, rfl, hd, hr⟩ := ChangeShapes.trodAll_cons h
    simp only [List.all_cons, Bool.and_eq_true] at ht
    refine ⟨p, q, RowKit.Below.trod hl ht.1.1 (Nat.le_of_ble_eq_true ht.1.2) hd hb (fun x hx => hp x (by simp [hx])), trodAll_stays hl hb ts vs' ds' q ht.2 hr (fun x hx => hp x (by simp [hx])), rfl⟩
end
theorem row_lift {C : Checked} {os : Os} {f : FuncId} {fn : Func} {s : ChangeSpec} {conds : List PathCond} {tb : TypeId} {apart fresh handsOn : Bool} {H : Type} {enc : TypeId × Value → H}
    (own : ownKnob C.prog.godebug = none) (started : os.Started) (noInit : C.prog.inits.idxOf? f = none) (hfn : C.prog.funcs[f]? = some fn)
    (witness : ∃ (w : World) (tape : Tape) (i : Input), w.os = os ∧ (w.forCall tape i).Shaped C.prog ∧ i.vars = [] ∧ Input.okWide C.prog (w.forCall tape i) .any w.heap.size f i ∧
      s.pre6 enc C.prog fn conds apart (w.forCall tape i).memory i.args ∧ ({} : Assume).holds C.prog (lone (Frame.enter C.prog f i.args .normal) [] (w.forCall tape i)))
    (hl : laidOutB C.prog = true) (hts : (fn.params.toList.all fun t => C.prog.readableRec t && Nat.blt t C.prog.types.size) = true)
    (hrt : fn.resultTypes = #[tb]) (htb : C.prog.underlying tb = some .bool) (hvars : s.vars = [])
    (hspec : ∀ ds : List (DataW H), ds.length = fn.params.size → s.fn H ds = { results := [.lit (.bool true)], args := ds })
    (law : ∀ (W : World) (base : Nat) (args : Array Value) (ds : List (DataW H)) (ps : List MemPlace), (∀ (j : Nat) t v, fn.params[j]? = some t → args[j]? = some v → Value.okWide C.prog W .any base t v) →
      DataW.TrodAll enc C.prog W 0 (fun _ => true) true fn.params.toList args.toList ds ps →
      Calls C.prog f args W fun e W' => ∃ I', e = .returned (.bool true) ∧ (memOf W).Le I' ∧ St W W' I' []) :
    ReturnsInHanded {} C os f .any (s.pre6 enc C.prog fn conds apart) (s.post enc C.prog fn apart fresh handsOn false) := by
  refine returnsInHanded_of_change own started noInit hfn witness ?_
  intro W base args ds gs before hval hW _ _
  have hW' := hW
  obtain ⟨p, q, hA, hV, rfl, hfz, hnd⟩ := hW
  rw [hvars] at hV
  have hgs : gs = [] ∧ q = [] := by
    cases gs with
    | nil => exact ⟨rfl, hV⟩
    | cons g r => exact hV.elim
  obtain ⟨rfl, rfl⟩ := hgs
  have hlen : ds.length = fn.params.size := by
    have key : ∀ (ts : List TypeId) (vs : List Value) (ds : List (DataW H)) (ps : List MemPlace), DataW.TrodAll enc C.prog W 0 (fun _ => true) true ts vs ds ps → ds.length = ts.length := by
      intro ts
      induction ts with
      | nil => intro vs ds ps h; obtain ⟨_, rfl, _⟩ := ChangeShapes.trodAll_nil h; rfl
      | cons t ts ih =>
        intro vs ds ps h
        obtain ⟨v, vs', d, ds', p, q, rfl, rfl, rfl, hd, hr⟩ := ChangeShapes.trodAll_cons h
        simp [ih _ _ _ hr]
    simpa using key _ _ _ _ hA
  refine (law W base args ds p hval hA).mono fun e W' ⟨I', he, hl', hS⟩ => ?_
  subst he
  have hb := below_of_st hl' hS
  have hsp := hspec ds hlen
  refine ⟨_, rfl, ds, [], p ++ [], [], p, [], hW', ?_, ?_, ?_, hb.frame _, fun h => by cases h⟩
  · rw [List.append_nil, hsp, hrt]
    exact ChangeShapes.trodAll_mk1 (RowKit.shut_bool htb true)
  · rw [List.append_nil, hsp]
    exact trodAll_stays hl hb _ _ _ _ hts hA (fun x hx => by simpa using hW'.lt x (by simpa using hx))
  · rw [List.append_nil, hsp, hvars]
    rfl
end Go.Gv
namespace Go.Gv
structure RB {α : Type} (b : Prop) (m : Option α) (Q : α → Prop) : Prop where
  is : b → ∃ r, m = some r
  so : ∀ r, m = some r → Q r
abbrev Ret {α : Type} (m : Option α) (Q : α → Prop) : Prop := RB True m Q
section
variable {α β σ τ : Type} {b : Prop} {Q : α → Prop} {R : β → Prop}
theorem Ret.ex {m : Option α} (h : Ret m Q) : ∃ r, m = some r ∧ Q r := by
  obtain ⟨r, hr⟩ := h.is trivial
  exact ⟨r, hr, h.so r hr⟩
theorem Ret.eq {m : Option α} {r : α} (h : Ret m (fun x => x = r)) : m = some r := by
  obtain ⟨x, hx, rfl⟩ := h.ex
  exact hx
theorem ybm {m : Option α} {r : α} (h : m = some r) (hq : Q r) : RB b m Q := ⟨fun _ => ⟨r, h⟩, fun x hx => by rw [h] at hx; injection hx with hx; subst hx; exact hq⟩
theorem yc {r : α} (hq : Q r) : RB b (some r) Q := ybm rfl hq
theorem ybg (h : ¬ b) : RB b (none : Option α) Q := ⟨fun hb => absurd hb h, fun r hr => by cases hr⟩
theorem RB.mono {m : Option α} {Q' : α → Prop} (h : RB b m Q) (hq : ∀ r, Q r → Q' r) : RB b m Q' := ⟨h.is, fun r hr => hq r (h.so r hr)⟩
theorem RB.weak {b' : Prop} {m : Option α} (h : RB b' m Q) (hb : b → b') : RB b m Q := ⟨fun x => h.is (hb x), h.so⟩
theorem yd {m : Option β} {f : β → Option α} (h : RB b m R) (hf : ∀ x, R x → RB b (f x) Q) : RB b (m.bind f) Q := by
  refine ⟨fun hb => ?_, fun r hr => ?_⟩
  · obtain ⟨x, hx⟩ := h.is hb
    obtain ⟨y, hy⟩ := (hf x (h.so x hx)).is hb
    exact ⟨y, by rw [hx]; exact hy⟩
  · cases hm : m with
    | none => rw [hm] at hr; cases hr
    | some x => rw [hm] at hr; exact (hf x (h.so x hm)).so r hr
theorem ybi {m : Option β} {x : β} {f : β → Option α} (h : m = some x) (hf : RB b (f x) Q) : RB b (m.bind f) Q := by
  rw [h]; exact hf
theorem yi {c : Bool} {x y : Option α} (ht : c = true → RB b x Q) (hf : c = false → RB b y Q) : RB b (bif c then x else y) Q := by
  cases c with
  | true => exact ht rfl
  | false => exact hf rfl
theorem RB.fuel {f : Nat → Option α} {N : Nat} (h : ∀ n, RB (N ≤ n) (f n) Q) : Ret (anyFuel f) Q := by
  refine ⟨fun _ => ?_, fun r hr => ?_⟩
  · obtain ⟨r, hr⟩ := (h N).is (Nat.le_refl _)
    unfold anyFuel
    rw [dif_pos ⟨N, r, hr⟩]
    exact ⟨_, rfl⟩
  · obtain ⟨n, hn⟩ := anyFuel_some hr
    exact (h n).so r hn
theorem idx_nat (xs : List α) (i : Nat) : idx xs (i : Int) = xs[i]? := by
  unfold idx
  rw [if_pos (by omega)]
  rfl
theorem idx_at {xs : List α} {i : Int} {j : Nat} {x : α} (hi : i = (j : Int)) (hx : xs[j]? = some x) : idx xs i = some x := by
  subst hi
  rw [idx_nat]
  exact hx
theorem idx_lt {xs : List α} {i : Int} (h0 : 0 ≤ i) (h1 : i < (xs.length : Int)) : ∃ x, idx xs i = some x ∧ xs[i.toNat]? = some x := by
  have : i.toNat < xs.length := by omega
  refine ⟨xs[i.toNat], ?_, List.getElem?_eq_getElem this⟩
  unfold idx
  rw [if_pos h0]
  exact List.getElem?_eq_getElem this
theorem idx_mem {xs : List α} {i : Nat} (h : i < xs.length) : idx xs (i : Int) = some xs[i] := by
  rw [idx_nat]
  exact List.getElem?_eq_getElem h
theorem app_le {n : Nat} {xs ys : List α} (h : (xs.length + ys.length) * n ≤ 140737488355328) : app n xs ys = some (xs ++ ys) := by
  unfold app
  rw [if_pos h]
theorem sub_at {xs : List α} {lo hi : Int} {i j : Nat} (hl : lo = (i : Int)) (hh : hi = (j : Int)) (h1 : i ≤ j) (h2 : j ≤ xs.length) : sub xs lo hi = some ((xs.take j).drop i) := by
  subst hl; subst hh
  unfold sub
  rw [if_pos ⟨by omega, by omega, by omega⟩]
  rfl
theorem w64_id {n : Int} (h1 : -9223372036854775808 ≤ n) (h2 : n < 9223372036854775808) : w64 n = n := by
  unfold w64
  simp only [IntKind.wrap, IntKind.signed, IntKind.bits]
  simp
  omega
theorem loopO_rb {step : σ → Option (σ ⊕ τ)} (I : σ → Prop) (μ : σ → Nat) {Q : τ → Prop} (hs : ∀ s, I s → RB b (step s) (fun r => match r with | .inl s' => I s' ∧ μ s' < μ s | .inr t => Q t)) {s : σ} (h0 : I s) : RB b (loopO step s) Q := by
  generalize hm : μ s = m
  induction m using Nat.strongRecOn generalizing s with
  | _ m ih =>
    have h1 := hs s h0
    cases hx : step s with
    | none =>
      refine ⟨fun hb => ?_, fun r hr => ?_⟩
      · obtain ⟨y, hy⟩ := h1.is hb
        rw [hx] at hy
        cases hy
      · obtain ⟨k, hk⟩ := loopO_some.1 hr
        cases k with
        | zero => cases hk
        | succ k => simp [it, hx] at hk
    | some x =>
      have h2 := h1.so x hx
      cases x with
      | inl s' =>
        simp only at h2
        rw [loopO_next hx]
        exact ih (μ s') (by omega) h2.1 rfl
      | inr t =>
        rw [loopO_stop hx]
        exact yc h2
theorem forE_rb {step : Nat → σ → Option σ} (I : Nat → σ → Prop) : ∀ (n i : Nat) (s : σ), (∀ j s, i ≤ j → j < i + n → I j s → RB b (step j s) (I (j + 1))) → I i s → RB b (forE step n i s) (I (i + n))
  | 0, i, s, _, h => yc h
  | n + 1, i, s, hs, h => by
    simp only [forE]
    refine yd (hs i s (Nat.le_refl _) (by omega) h) fun s' h' => ?_
    have := forE_rb I n (i + 1) s' (fun j s h1 h2 => hs j s (by omega) (by omega)) h'
    rwa [show i + 1 + n = i + (n + 1) by omega] at this
theorem forN_rb {step : Nat → σ → Option (σ ⊕ τ)} (I : Nat → σ → Prop) {Q : τ → Prop} : ∀ (n i : Nat) (s : σ), (∀ j s, i ≤ j → j < i + n → I j s → RB b (step j s) (fun r => match r with | .inl s' => I (j + 1) s' | .inr t => Q t)) → I i s →
    RB b (forN step n i s) (fun r => match r with | .inl s' => I (i + n) s' | .inr t => Q t)
  | 0, i, s, _, h => yc h
  | n + 1, i, s, hs, h => by
    simp only [forN]
    refine yd (hs i s (Nat.le_refl _) (by omega) h) fun r h' => ?_
    cases r with
    | inl s' =>
      have := forN_rb I n (i + 1) s' (fun j s h1 h2 => hs j s (by omega) (by omega)) h'
      rwa [show i + 1 + n = i + (n + 1) by omega] at this
    | inr t => exact yc h'
theorem forE_ret {step : Nat → σ → Option σ} (I : Nat → σ → Prop) {n : Nat} {s : σ} (h : I 0 s) (hs : ∀ j s, j < n → I j s → RB b (step j s) (I (j + 1))) : RB b (forE step n 0 s) (I n) := by
  have := forE_rb I n 0 s (fun j s _ h2 => hs j s (by omega)) h
  rwa [Nat.zero_add] at this
theorem forN_ret {step : Nat → σ → Option (σ ⊕ τ)} (I : Nat → σ → Prop) {Q : τ → Prop} {n : Nat} {s : σ} (h : I 0 s) (hs : ∀ j s, j < n → I j s → RB b (step j s) (fun r => match r with | .inl s' => I (j + 1) s' | .inr t => Q t)) :
    RB b (forN step n 0 s) (fun r => match r with | .inl s' => I n s' | .inr t => Q t) := by
  have := forN_rb I n 0 s (fun j s _ h2 => hs j s (by omega)) h
  rwa [Nat.zero_add] at this
theorem forN_list {step : Nat → Unit → Option (Unit ⊕ τ)} {v : τ} (p : α → Bool) {xs : List α} (h : ∀ j x, xs[j]? = some x → step j () = some (bif p x then .inl () else .inr v)) : forN step xs.length 0 () = some (bif xs.all p then .inl () else .inr v) := by
  have key : ∀ (ys : List α) (i : Nat), (∀ j x, ys[j]? = some x → xs[i + j]? = some x) → forN step ys.length i () = some (bif ys.all p then .inl () else .inr v) := by
    intro ys
    induction ys with
    | nil => intro i _; rfl
    | cons y r ih =>
      intro i hy
      simp only [List.length_cons, forN, List.all_cons]
      rw [h i y (by simpa using hy 0 y rfl)]
      cases p y with
      | true => simpa using ih (i + 1) (fun j x hx => by have := hy (j + 1) x (by simpa using hx); rwa [show i + (j + 1) = i + 1 + j by omega] at this)
      | false => rfl
  exact key xs 0 (fun j x hx => by rwa [Nat.zero_add])
theorem forE_list {step : Nat → σ → Option σ} (g : σ → α → σ) {xs : List α} {s : σ} (h : ∀ j x s, xs[j]? = some x → step j s = some (g s x)) : forE step xs.length 0 s = some (xs.foldl g s) := by
  have key : ∀ (ys : List α) (i : Nat) (s : σ), (∀ j x, ys[j]? = some x → xs[i + j]? = some x) → forE step ys.length i s = some (ys.foldl g s) := by
    intro ys
    induction ys with
    | nil => intro i s _; rfl
    | cons y r ih =>
      intro i s hy
      simp only [List.length_cons, forE, List.foldl_cons]
      rw [h i y s (by simpa using hy 0 y rfl)]
      exact ih (i + 1) _ (fun j x hx => by have := hy (j + 1) x (by simpa using hx); rwa [show i + (j + 1) = i + 1 + j by omega] at this)
  exact key xs 0 s (fun j x hx => by rwa [Nat.zero_add])
theorem forN_find {step : Nat → Unit → Option (Unit ⊕ τ)} (p : α → Bool) (v : Nat → τ) {xs : List α} (h : ∀ j x, xs[j]? = some x → step j () = some (bif p x then .inr (v j) else .inl ())) :
    forN step xs.length 0 () = some (match xs.findIdx? p with | some j => .inr (v j) | none => .inl ()) := by
  have key : ∀ (ys : List α) (i : Nat), (∀ j x, ys[j]? = some x → xs[i + j]? = some x) → forN step ys.length i () = some (match ys.findIdx? p with | some j => .inr (v (i + j)) | none => .inl ()) := by
    intro ys
    induction ys with
    | nil => intro i _; rfl
    | cons y r ih =>
      intro i hy
      simp only [List.length_cons, forN, List.findIdx?_cons]
      rw [h i y (by simpa using hy 0 y rfl)]
      cases hp : p y with
      | true => simp
      | false =>
        simp only [cond_false, Option.bind_some, Bool.false_eq_true, if_false]
        rw [ih (i + 1) (fun j x hx => by have := hy (j + 1) x (by simpa using hx); rwa [show i + (j + 1) = i + 1 + j by omega] at this)]
        cases r.findIdx? p with
        | none => rfl
        | some j => simp only [Option.map_some]; rw [show i + 1 + j = i + (j + 1) by omega]
  simpa using key xs 0 (fun j x hx => by rwa [Nat.zero_add])
end
end Go.Gv
namespace Go.Gv
theorem bl_irrefl : ∀ a : List UInt8, Op.bytesLess a a = false
  | [] => rfl
  | x :: r => by simp [Op.bytesLess, bl_irrefl r]
theorem bl_trans : ∀ {a b c : List UInt8}, Op.bytesLess a b = true → Op.bytesLess b c = true → Op.bytesLess a c = true
  | _, [], _, h, _ => by cases ‹List UInt8› <;> simp [Op.bytesLess] at h
  | [], _ :: _, [], _, h => by simp [Op.bytesLess] at h
  | [], _ :: _, _ :: _, _, _ => rfl
  | _ :: _, _ :: _, [], _, h => by simp [Op.bytesLess] at h
  | a :: x, b :: y, c :: z, h1, h2 => by
    simp only [Op.bytesLess, Bool.or_eq_true, decide_eq_true_eq, Bool.and_eq_true, beq_iff_eq] at h1 h2 ⊢
    rcases h1 with h1 | ⟨rfl, h1⟩
    · rcases h2 with h2 | ⟨rfl, h2⟩
      · exact .inl (UInt8.lt_trans h1 h2)
      · exact .inl h1
    · rcases h2 with h2 | ⟨rfl, h2⟩
      · exact .inl h2
      · exact .inr ⟨rfl, bl_trans h1 h2⟩
theorem bl_total : ∀ a b : List UInt8, Op.bytesLess a b = true ∨ a = b ∨ Op.bytesLess b a = true
  | [], [] => .inr (.inl rfl)
  | [], _ :: _ => .inl rfl
  | _ :: _, [] => .inr (.inr rfl)
  | a :: x, b :: y => by
    simp only [Op.bytesLess, Bool.or_eq_true, decide_eq_true_eq, Bool.and_eq_true, beq_iff_eq, List.cons.injEq]
    by_cases h1 : a < b
    · exact .inl (.inl h1)
    · by_cases h2 : b < a
      · exact .inr (.inr (.inl h2))
      · have e : a = b := UInt8.le_antisymm (UInt8.not_lt.1 h2) (UInt8.not_lt.1 h1)
        subst e
        rcases bl_total x y with h | h | h
        · exact .inl (.inr ⟨rfl, h⟩)
        · exact .inr (.inl ⟨rfl, h⟩)
        · exact .inr (.inr (.inr ⟨rfl, h⟩))
theorem sLt_irrefl (a : ByteArray) : sLt a a = false := bl_irrefl _
theorem sLt_trans {a b c : ByteArray} (h1 : sLt a b = true) (h2 : sLt b c = true) : sLt a c = true := bl_trans h1 h2
theorem sLt_total (a b : ByteArray) : sLt a b = true ∨ a = b ∨ sLt b a = true := by
  rcases bl_total a.toList b.toList with h | h | h
  · exact .inl h
  · exact .inr (.inl (toList_inj h))
  · exact .inr (.inr h)
theorem sLt_asymm {a b : ByteArray} (h : sLt a b = true) : sLt b a = false := by
  cases h2 : sLt b a with
  | false => rfl
  | true => have := sLt_trans h h2; rw [sLt_irrefl] at this; cases this
end Go.Gv
namespace Go.Gv
open Go
def iEq (a b : Int) : Bool := a == b
theorem iEq_iff {a b : Int} : iEq a b = true ↔ a = b := by simp [iEq]
theorem checkKey_plain {P : Program} {kt : TypeId} {v : Value} {d : TypeDesc} (hu : P.underlying kt = some d) (h : ∀ (empty : Bool) (w : World), (match d, v with
    | .string, .string _ => True | .int _, .int _ _ => True | .bool, .bool _ => True | _, _ => False)) (empty : Bool) (w : World) : (Instr.checkKey empty 10000 kt v).run P w = .ok () w := by
  have h := h empty w
  show (Instr.checkKey empty (9999 + 1) kt v).run P w = .ok () w
  rw [Instr.checkKey]
  rw [run_bind (run_underlying' hu)]
  cases d <;> cases v <;> simp at h <;> rfl
theorem keyLaw_int {P : Program} {kt : TypeId} {k : IntKind} (hu : P.underlying kt = some (.int k)) : KeyLaw P kt (Value.int k) iEq := by
  refine keyLaw_now hu (fun empty n w => checkKey_plain hu (fun _ _ => trivial) empty w) (fun a b => ?_) (fun a b h => ?_)
  · simp [Instr.sameNow, iEq]
  · rw [iEq_iff.1 h]
    exact sameBits_int _ _ _
end Go.Gv
namespace Go.Gv
open Go
def Inv (l : List Nat) (m x : Nat) : Prop := ∃ l1 l2, l = l1 ++ m :: l2 ∧ x ∈ l1
theorem Inv.strike {l1 l2 : List Nat} {m p x : Nat} (h : Inv (l1 ++ l2) p x) : Inv (l1 ++ m :: l2) p x := by
  obtain ⟨k1, k2, e, hx⟩ := h
  rcases List.append_eq_append_iff.1 e with ⟨c, hc1, hc2⟩ | ⟨c, hc1, hc2⟩
  · refine ⟨l1 ++ m :: c, k2, by rw [hc2]; simp, ?_⟩
    rw [hc1] at hx
    rcases List.mem_append.1 hx with h | h <;> simp [h]
  · cases c with
    | nil =>
      simp only [List.nil_append] at hc2
      simp only [List.append_nil] at hc1
      exact ⟨l1 ++ [m], k2, by rw [← hc2]; simp, by rw [hc1]; simp [hx]⟩
    | cons z c =>
      simp only [List.cons_append, List.cons.injEq] at hc2
      obtain ⟨rfl, hc2⟩ := hc2
      exact ⟨k1, c ++ m :: l2, by rw [hc1]; simp, hx⟩
theorem Inv.trans {l : List Nat} {m k x : Nat} (hk : k ∈ l) (h1 : ¬ Inv l m k) (h2 : ¬ Inv l k x) : ¬ Inv l m x := by
  rintro ⟨l1, l2, rfl, hx⟩
  rcases List.mem_append.1 hk with h | h
  · exact h1 ⟨l1, l2, rfl, h⟩
  · rcases List.mem_cons.1 h with rfl | h
    · exact h2 ⟨l1, l2, rfl, hx⟩
    · obtain ⟨a, b, rfl⟩ := List.append_of_mem h
      exact h2 ⟨l1 ++ m :: a, b, by simp, by simp [hx]⟩
theorem Inv.asymm {l : List Nat} (hn : l.Nodup) {a b : Nat} (h : Inv l a b) : ¬ Inv l b a := by
  rintro ⟨k1, k2, e2, ha⟩
  obtain ⟨l1, l2, e1, hb⟩ := h
  obtain ⟨p, q, rfl⟩ := List.append_of_mem hb
  have e : p ++ b :: (q ++ a :: l2) = k1 ++ b :: k2 := by rw [← e2, e1]; simp
  have hn1 : (p ++ b :: (q ++ a :: l2)).Nodup := by rw [e, ← e2]; exact hn
  have hp : p = k1 := by
    have h1 := List.nodup_append.1 hn1
    have hn2 : (k1 ++ b :: k2).Nodup := by rw [← e2]; exact hn
    have h2 := List.nodup_append.1 hn2
    have hb1 : b ∉ p := fun hm => h1.2.2 b hm b (by simp) rfl
    have hb2 : b ∉ k1 := fun hm => h2.2.2 b hm b (by simp) rfl
    rcases List.append_eq_append_iff.1 e with ⟨c, hc1, hc2⟩ | ⟨c, hc1, hc2⟩
    · cases c with
      | nil => simpa using hc1.symm
      | cons z c =>
        simp only [List.cons_append, List.cons.injEq] at hc2
        exact absurd (by rw [hc1, hc2.1]; simp) hb2
    · cases c with
      | nil => simpa using hc1
      | cons z c =>
        simp only [List.cons_append, List.cons.injEq] at hc2
        exact absurd (by rw [hc1, hc2.1]; simp) hb1
  subst hp
  have h1 := (List.nodup_append.1 hn1).2.2 a ha a (by simp)
  exact h1 rfl
section
variable {P : Program} {K : World → Prop} {qt : Op → Bool} {z : Nat} {ops : Array Oper} {Q : Exit → Act → World → Prop}
theorem mayPass_lt {m x : Nat} (h : mayPass qt z ops m x = true) : m < z := by
  unfold mayPass at h
  split at h
  · simp only [Bool.and_eq_true] at h
    exact Nat.le_of_ble_eq_true h.1.2
  · cases h
theorem tail_eq2 : ∀ (s l : List Nat), s.Perm l → (∀ x ∈ s, z ≤ x) → s.Pairwise (fun m x => ¬ Inv l m x ∨ mayPass qt z ops m x = true) → s = l
  | [], l, hp, _, _ => (List.Perm.eq_nil hp.symm).symm
  | m :: s, l, hp, hz, h => by
    obtain ⟨l1, l2, rfl⟩ := List.append_of_mem (hp.subset (List.mem_cons_self))
    have hp' : s.Perm (l1 ++ l2) := (List.perm_cons m).1 (hp.trans List.perm_middle)
    have h' := List.pairwise_cons.1 h
    have : l1 = [] := by
      cases l1 with
      | nil => rfl
      | cons x r =>
        have hx : x ∈ s := hp'.symm.subset (by simp)
        rcases h'.1 x hx with hi | hi
        · exact absurd ⟨x :: r, l2, rfl, by simp⟩ hi
        · have := mayPass_lt hi
          have := hz m (by simp)
          omega
    subst this
    simp only [List.nil_append] at hp' h ⊢
    rw [tail_eq2 s l2 hp' (fun x hx => hz x (by simp [hx])) (h'.2.imp fun {p x} hh => hh.imp (fun hn hi => hn (Inv.strike (l1 := []) (m := m) hi)) id)]
theorem wpK_sorted2 : ∀ (s l : List Nat), s.Perm l → s.Pairwise (fun m x => z ≤ m → z ≤ x) → s.Pairwise (fun m x => ¬ Inv l m x ∨ mayPass qt z ops m x = true) →
    ∀ {a : Act} {w : World}, K w → wpK P K qt z ops Q s a w → wpK P K qt z ops Q l a w
  | [], l, hp, _, _, a, w, _, h => by rw [List.Perm.eq_nil hp.symm]; exact h
  | m :: s, l, hp, ht, hs, a, w, hK, h => by
    by_cases hmz : m < z
    · obtain ⟨l1, l2, rfl⟩ := List.append_of_mem (hp.subset (List.mem_cons_self))
      have hp' : s.Perm (l1 ++ l2) := (List.perm_cons m).1 (hp.trans List.perm_middle)
      have hs' := List.pairwise_cons.1 hs
      have h1 : wpK P K qt z ops Q (m :: (l1 ++ l2)) a w :=
        wpK_under hmz (fun a w hK h => wpK_sorted2 s (l1 ++ l2) hp' (List.pairwise_cons.1 ht).2 (hs'.2.imp fun {p x} hh => hh.imp (fun hn hi => hn (Inv.strike hi)) id) hK h) hK h
      have hmay : ∀ x ∈ l1, mayPass qt z ops m x = true := fun x hx => by
        rcases hs'.1 x (hp'.symm.subset (List.mem_append_left _ hx)) with hi | hi
        · exact absurd ⟨l1, l2, rfl, hx⟩ hi
        · exact hi
      cases hsp : spAt qt ops m with
      | true => exact wpK_behind_sp hsp l1 l2 hmay h1
      | false => exact wpK_behind hsp l1 l2 hmay hK h1
    · have ht' := List.pairwise_cons.1 ht
      have e := tail_eq2 (qt := qt) (ops := ops) (m :: s) l hp (fun x hx => by
        rcases List.mem_cons.1 hx with rfl | hx
        · omega
        · exact ht'.1 x hx (by omega)) hs
      rw [← e]
      exact h
end
inductive OT
  | leaf (l : List Nat)
  | split (a b : Nat) (t1 t2 : OT)
def bef1 (ops : Array Oper) (F : List (Nat × Nat)) (m x : Nat) : Bool := waits ops ops.size x m || F.any fun p => Nat.beq p.1 m && Nat.beq p.2 x
def bef (ops : Array Oper) (F : List (Nat × Nat)) (m x : Nat) : Bool := bef1 ops F m x || (List.range ops.size).any fun k => bef1 ops F m k && bef1 ops F k x
def pairsB (p : Nat → Nat → Bool) : List Nat → Bool
  | [] => true
  | m :: r => r.all (p m) && pairsB p r
def permB (n : Nat) (l : List Nat) : Bool := (pairsB (fun a b => !Nat.beq a b) l && l.all fun i => Nat.blt i n) && (List.range n).all fun i => l.any (Nat.beq i)
def OT.ok (qt : Op → Bool) (z : Nat) (ops : Array Oper) : List (Nat × Nat) → OT → Bool
  | F, .leaf l => permB ops.size l && pairsB (fun m x => Nat.blt m z || Nat.ble z x) l && pairsB (fun m x => bef ops F m x || mayPass qt z ops m x) l
  | F, .split a b t1 t2 => OT.ok qt z ops ((a, b) :: F) t1 && OT.ok qt z ops ((b, a) :: F) t2
def OT.all (Φ : List Nat → Prop) : OT → Prop
  | .leaf l => Φ l
  | .split _ _ t1 t2 => t1.all Φ ∧ t2.all Φ
theorem pairsB_pw {p : Nat → Nat → Bool} : ∀ {l : List Nat}, pairsB p l = true → l.Pairwise fun m x => p m x = true
  | [], _ => List.Pairwise.nil
  | m :: r, h => by
    simp only [pairsB, Bool.and_eq_true] at h
    exact List.pairwise_cons.2 ⟨fun x hx => List.all_eq_true.1 h.1 x hx, pairsB_pw h.2⟩
theorem permB_perm {n : Nat} {l : List Nat} (h : permB n l = true) : l.Perm (List.range n) := by
  simp only [permB, Bool.and_eq_true] at h
  have hnd : l.Nodup := (pairsB_pw h.1.1).imp fun {a b} hh e => by
    subst e
    rw [Nat.beq_refl] at hh
    cases hh
  refine (List.perm_ext_iff_of_nodup hnd List.nodup_range).2 fun i => ⟨fun hi => List.mem_range.2 (Nat.le_of_ble_eq_true (List.all_eq_true.1 h.1.2 i hi)), fun hi => ?_⟩
  obtain ⟨x, hx, hb⟩ := List.any_eq_true.1 (List.all_eq_true.1 h.2 i hi)
  rw [Nat.eq_of_beq_eq_true hb]; exact hx
section
variable {P : Program} {n : Nat} {K : World → Prop} {qt : Op → Bool} {z : Nat} {ops : Array Oper} {Q : Exit → Act → World → Prop} {fr : Fr} {w : World}
theorem OT.sound {l : List Nat} (hp : (List.range ops.size).Perm l) (ho : Ordered ops l) {a : Act} (hK : K w) : ∀ (t : OT) (F : List (Nat × Nat)), t.ok qt z ops F = true → (∀ p ∈ F, ¬ Inv l p.1 p.2) → t.all (fun s => wpK P K qt z ops Q s a w) → wpK P K qt z ops Q l a w
  | .leaf s, F, h, hF, hw => by
    simp only [OT.ok, Bool.and_eq_true] at h
    have hs := permB_perm h.1.1
    have hin : ∀ y, y < ops.size → y ∈ l := fun y hy => hp.subset (List.mem_range.2 hy)
    have b1 : ∀ m x, x ∈ s → bef1 ops F m x = true → ¬ Inv l m x := by
      intro m x hx hb
      simp only [bef1, Bool.or_eq_true] at hb
      rcases hb with hb | hb
      · rintro ⟨l1, l2, e, hx1⟩
        have hxs : x < ops.size := List.mem_range.1 (hs.subset hx)
        have := not_waits ho e ops.size x (fun y _ h2 => hin y (by omega)) hx1
        rw [hb] at this
        cases this
      · obtain ⟨p, hp', hb⟩ := List.any_eq_true.1 hb
        simp only [Bool.and_eq_true] at hb
        rw [← Nat.eq_of_beq_eq_true hb.1, ← Nat.eq_of_beq_eq_true hb.2]
        exact hF p hp'
    refine wpK_sorted2 s l (hs.trans hp) ((pairsB_pw h.1.2).imp fun {m x} hh hz => ?_) ?_ hK hw
    · simp only [Bool.or_eq_true] at hh
      rcases hh with hh | hh
      · have := Nat.le_of_ble_eq_true hh
        omega
      · exact Nat.le_of_ble_eq_true hh
    · refine (pairsB_pw h.2).imp_of_mem fun {m x} hm hx hh => ?_
      simp only [Bool.or_eq_true] at hh
      rcases hh with hh | hh
      · left
        simp only [bef, Bool.or_eq_true] at hh
        rcases hh with hh | hh
        · exact b1 m x hx hh
        · obtain ⟨k, hk, hb⟩ := List.any_eq_true.1 hh
          simp only [Bool.and_eq_true] at hb
          exact Inv.trans (hin k (List.mem_range.1 hk)) (b1 m k (hs.symm.subset hk) hb.1) (b1 k x hx hb.2)
      · exact .inr hh
  | .split p q t1 t2, F, h, hF, hw => by
    simp only [OT.ok, Bool.and_eq_true] at h
    by_cases hi : Inv l p q
    · refine OT.sound hp ho hK t2 ((q, p) :: F) h.2 (fun e he => ?_) hw.2
      rcases List.mem_cons.1 he with rfl | he
      · exact hi.asymm (hp.nodup List.nodup_range)
      · exact hF e he
    · refine OT.sound hp ho hK t1 ((p, q) :: F) h.1 (fun e he => ?_) hw.1
      rcases List.mem_cons.1 he with rfl | he
      · exact hi
      · exact hF e he
theorem OT.all_imp {Φ Ψ : List Nat → Prop} (h : ∀ l, Φ l → Ψ l) : ∀ (t : OT), t.all Φ → t.all Ψ
  | .leaf l, hw => h l hw
  | .split _ _ t1 t2, hw => ⟨OT.all_imp h t1 hw.1, OT.all_imp h t2 hw.2⟩
theorem ybs {id : Nat} (t : OT) (z : Nat) (K : World → Prop) (qt : Op → Bool) (hb : Sched ops) (hp : t.ok qt z ops [] = true) (hK : K w.drew)
    (h : t.all fun l => WO P n K qt z ops Q l fr w.drew) : W P n (.region id ops true) Q fr w :=
  fun a ha => wp_region_draw fun u => by
    obtain ⟨h1, h2⟩ := hb (P.follows .mixedOrders) u
    exact wpOps_of_wpK _ a w.drew (OT.sound h1 h2 hK t [] hp (fun p hp => by cases hp) (OT.all_imp (fun l hl => hl hK a ha) t h))
end
end Go.Gv
namespace Go.Gv
section
variable {κ ν : Type} {eq : κ → κ → Bool}
def KEq (eq : κ → κ → Bool) : Prop := ∀ a b, eq a b = true ↔ a = b
theorem KEq.refl (h : KEq eq) (a : κ) : eq a a = true := (h a a).2 rfl
theorem KEq.ne (h : KEq eq) {a b : κ} (hn : a ≠ b) : eq a b = false := by
  cases hx : eq a b with
  | false => rfl
  | true => exact absurd ((h a b).1 hx) hn
theorem mget_nil (k : κ) : mget eq ([] : List (κ × ν)) k = none := rfl
theorem mhas_nil (k : κ) : mhas eq ([] : List (κ × ν)) k = false := rfl
theorem mget_cons (a : κ) (v : ν) (r : List (κ × ν)) (k : κ) : mget eq ((a, v) :: r) k = bif eq k a then some v else mget eq r k := by
  unfold mget
  simp only [List.map_cons, mpos]
  cases eq k a with
  | true => rfl
  | false => simp only [Bool.false_eq_true, if_false, cond_false]; cases mpos eq k (r.map (·.1)) <;> simp
theorem mhas_cons (a : κ) (v : ν) (r : List (κ × ν)) (k : κ) : mhas eq ((a, v) :: r) k = (eq k a || mhas eq r k) := by
  unfold mhas
  simp only [List.map_cons, mpos]
  cases eq k a with
  | true => rfl
  | false => simp
theorem mset_nil (k : κ) (v : ν) : mset eq [] k v = [(k, v)] := rfl
theorem mset_cons (a : κ) (u : ν) (r : List (κ × ν)) (k : κ) (v : ν) : mset eq ((a, u) :: r) k v = bif eq k a then (k, v) :: r else (a, u) :: mset eq r k v := by
  unfold mset
  simp only [List.map_cons, mpos]
  cases eq k a with
  | true => rfl
  | false => simp only [Bool.false_eq_true, if_false, cond_false]; cases mpos eq k (r.map (·.1)) <;> simp
theorem mdel_nil (k : κ) : mdel eq ([] : List (κ × ν)) k = [] := rfl
theorem mdel_cons (a : κ) (u : ν) (r : List (κ × ν)) (k : κ) : mdel eq ((a, u) :: r) k = bif eq k a then r else (a, u) :: mdel eq r k := by
  unfold mdel
  simp only [List.map_cons, mpos]
  cases eq k a with
  | true => rfl
  | false => simp only [Bool.false_eq_true, if_false, cond_false]; cases mpos eq k (r.map (·.1)) <;> simp
theorem mhas_get (l : List (κ × ν)) (k : κ) : mhas eq l k = (mget eq l k).isSome := by
  induction l with
  | nil => rfl
  | cons p r ih => obtain ⟨a, v⟩ := p; rw [mhas_cons, mget_cons]; cases eq k a <;> simp [ih]
theorem mhas_iff (h : KEq eq) {l : List (κ × ν)} {k : κ} : mhas eq l k = true ↔ k ∈ l.map (·.1) := by
  induction l with
  | nil => simp [mhas_nil]
  | cons p r ih => obtain ⟨a, v⟩ := p; rw [mhas_cons]; simp only [Bool.or_eq_true, List.map_cons, List.mem_cons, ih, h k a]
theorem mget_none (h : KEq eq) {l : List (κ × ν)} {k : κ} (hk : k ∉ l.map (·.1)) : mget eq l k = none := by
  have : mhas eq l k = false := by
    cases hx : mhas eq l k with
    | false => rfl
    | true => exact absurd ((mhas_iff h).1 hx) hk
  rw [mhas_get] at this
  simpa using this
theorem mget_some (h : KEq eq) {l : List (κ × ν)} {k : κ} (hk : k ∈ l.map (·.1)) : ∃ v, mget eq l k = some v := by
  have := (mhas_iff h).2 hk
  rw [mhas_get] at this
  exact Option.isSome_iff_exists.1 this
theorem mget_mset (h : KEq eq) (l : List (κ × ν)) (k : κ) (v : ν) (j : κ) : mget eq (mset eq l k v) j = bif eq j k then some v else mget eq l j := by
  induction l with
  | nil => rw [mset_nil, mget_cons]
  | cons p r ih =>
    obtain ⟨a, u⟩ := p
    rw [mset_cons]
    cases hk : eq k a with
    | true =>
      have := (h k a).1 hk
      subst this
      simp only [cond_true, mget_cons]
      cases eq j k <;> rfl
    | false =>
      simp only [cond_false, mget_cons, ih]
      cases hj : eq j a with
      | true =>
        have := (h j a).1 hj
        subst this
        have : eq j k = false := h.ne fun e => by subst e; rw [h.refl] at hk; cases hk
        rw [this]; rfl
      | false => rfl
theorem mset_mem (h : KEq eq) (l : List (κ × ν)) (k : κ) (v : ν) (j : κ) : j ∈ (mset eq l k v).map (·.1) ↔ j = k ∨ j ∈ l.map (·.1) := by
  rw [← mhas_iff h, ← mhas_iff h, mhas_get, mhas_get, mget_mset h]
  cases hj : eq j k with
  | true => simp [(h j k).1 hj]
  | false =>
    simp only [cond_false]
    constructor
    · exact .inr
    · rintro (rfl | h2)
      · rw [h.refl] at hj; cases hj
      · exact h2
theorem mset_nodup (h : KEq eq) {l : List (κ × ν)} (hn : (l.map (·.1)).Nodup) (k : κ) (v : ν) : ((mset eq l k v).map (·.1)).Nodup := by
  induction l with
  | nil => simp [mset_nil]
  | cons p r ih =>
    obtain ⟨a, u⟩ := p
    simp only [List.map_cons, List.nodup_cons] at hn
    rw [mset_cons]
    cases hk : eq k a with
    | true =>
      have := (h k a).1 hk
      subst this
      simpa using hn
    | false =>
      simp only [cond_false, List.map_cons, List.nodup_cons]
      refine ⟨?_, ih hn.2⟩
      rw [mset_mem h]
      rintro (rfl | h2)
      · rw [h.refl] at hk; cases hk
      · exact hn.1 h2
theorem mget_mdel (h : KEq eq) {l : List (κ × ν)} (hn : (l.map (·.1)).Nodup) (k j : κ) : mget eq (mdel eq l k) j = bif eq j k then none else mget eq l j := by
  induction l with
  | nil => rw [mdel_nil, mget_nil]; cases eq j k <;> rfl
  | cons p r ih =>
    obtain ⟨a, u⟩ := p
    simp only [List.map_cons, List.nodup_cons] at hn
    rw [mdel_cons]
    cases hk : eq k a with
    | true =>
      have := (h k a).1 hk
      subst this
      simp only [cond_true, mget_cons]
      cases hj : eq j k with
      | true => rw [(h j k).1 hj]; exact mget_none h hn.1
      | false => rfl
    | false =>
      simp only [cond_false, mget_cons, ih hn.2]
      cases hj : eq j a with
      | true =>
        have := (h j a).1 hj
        subst this
        have : eq j k = false := h.ne fun e => by subst e; rw [h.refl] at hk; cases hk
        rw [this]; rfl
      | false => rfl
theorem mdel_sub (l : List (κ × ν)) (k : κ) : (mdel eq l k).Sublist l := by
  unfold mdel
  cases mpos eq k (l.map (·.1)) with
  | none => exact List.Sublist.refl _
  | some i => exact List.eraseIdx_sublist ..
theorem mdel_nodup {l : List (κ × ν)} (hn : (l.map (·.1)).Nodup) (k : κ) : ((mdel eq l k).map (·.1)).Nodup := hn.sublist ((mdel_sub l k).map _)
theorem nodup_len {l : List (κ × ν)} {ks : List κ} (hn : (l.map (·.1)).Nodup) (hk : ks.Nodup) (hm : ∀ e, e ∈ l.map (·.1) ↔ e ∈ ks) : l.length = ks.length := by
  have := ((List.perm_ext_iff_of_nodup hn hk).2 hm).length_eq
  simpa using this
end
section
variable {α τ : Type}
theorem find_cases (p : α → Bool) : ∀ L : List α, ((∀ y ∈ L, p y = false) ∧ L.findIdx? p = none) ∨ ∃ A x B, L = A ++ x :: B ∧ p x = true ∧ (∀ y ∈ A, p y = false) ∧ L.findIdx? p = some A.length
  | [] => .inl ⟨by simp, rfl⟩
  | y :: r => by
    rw [List.findIdx?_cons]
    cases hy : p y with
    | true => exact .inr ⟨[], y, r, rfl, hy, by simp, rfl⟩
    | false =>
      rcases find_cases p r with ⟨h1, h2⟩ | ⟨A, x, B, rfl, h2, h3, h4⟩
      · exact .inl ⟨by simpa [hy] using h1, by simp [h2]⟩
      · exact .inr ⟨y :: A, x, B, rfl, h2, by simpa [hy] using h3, by simp [h4]⟩
theorem take_snoc {L : List α} {i : Nat} {x : α} (h : L[i]? = some x) : L.take (i + 1) = L.take i ++ [x] := by
  rw [List.take_add_one, h]; rfl
end
theorem sEq_data (a b : ByteArray) : sEq a b = (a.data.toList == b.data.toList) := by
  unfold sEq
  rw [ByteArray.toList_eq, ByteArray.toList_eq]
theorem sLt_data (a b : ByteArray) : sLt a b = Op.bytesLess a.data.toList b.data.toList := by
  unfold sLt
  rw [ByteArray.toList_eq, ByteArray.toList_eq]
end Go.Gv
namespace Go.Gv
open Go
section
variable {P : Program} {n : Nat} {Q : Exit → Act → World → Prop} {fr : Fr} {w : World}
def rds (P : Program) (c : Code) (Q : Exit → Act → World → Prop) (k : Nat) : Exit → Act → World → Prop := Exit.then (Code.rounds P c Q k) Q
theorem En.again {c : Code} {k : Nat} (h : W P n c (rds P c Q k) fr w) : En n (rds P c Q (k + 1)) .normal fr w := fun a ha => h a ha
end
end Go.Gv
namespace Go.Gv
open Go
section
variable {α : Type} {T sz : Nat} {rel : Mem → List Value → α → Prop} {I C : Mem} {a : Option Addr} {cap : Nat} {xs : List α}
theorem OwnSl.subA0 (h : OwnSl T sz rel I C a cap xs) : subA a cap 0 sz = a := by
  unfold subA
  rcases h.own with ⟨rfl, _, _⟩ | ⟨b, off, c, rfl, _, _⟩
  · split <;> rfl
  · split
    · rfl
    · simp [add_plain]
theorem OwnSl.pre (h : OwnSl T sz rel I C a cap xs) {hi : Int} {ys : List α} (h0 : 0 ≤ hi) (h2 : hi ≤ (xs.length : Int)) (he : ys = (xs.take hi.toNat).drop (0 : Int).toNat) :
    OwnSl T sz rel I C a cap ys ∧ Value.slice (subA a cap (0 : Int).toNat sz) (hi.toNat - (0 : Int).toNat) (cap - (0 : Int).toNat) = Value.slice a ys.length cap := by
  have e : ys = xs.take hi.toNat := by simpa using he
  subst e
  refine ⟨⟨?_, h.own⟩, ?_⟩
  · have := h.sl.sub (lo := 0) (hi := hi.toNat) (by omega) (by omega)
    rw [h.subA0] at this
    simpa using this
  · show Value.slice (subA a cap 0 sz) (hi.toNat - 0) (cap - 0) = _
    rw [h.subA0]
    simp
    omega
def vidx (xs : List α) (lo : Nat) (j : Int) : Option α := if 0 ≤ j then idx xs ((lo : Int) + j) else none
theorem vidx_some {lo : Nat} {j : Int} {x : α} (h : vidx xs lo j = some x) : 0 ≤ j ∧ idx xs ((lo : Int) + j) = some x := by
  unfold vidx at h
  split at h
  · exact ⟨by assumption, h⟩
  · cases h
theorem ybo (h : OwnSl T sz rel I C a cap xs) {lo : Nat} {j : Int} (h0 : 0 ≤ j) {x : α} (hx : idx xs ((lo : Int) + j) = some x) :
    subA a cap lo sz = some ⟨bl (subA a cap lo sz), of (subA a cap lo sz), none⟩ ∧ j < ((xs.length - lo : Nat) : Int) ∧
    Value.pointer (some ⟨bl (subA a cap lo sz), of (subA a cap lo sz) + j.toNat * sz, none⟩) = Value.pointer (some ⟨bl a, of a + ((lo : Int) + j).toNat * sz, none⟩) := by
  obtain ⟨i0, i1, i2⟩ := idx_some hx
  obtain ⟨c, rfl, ha, hs⟩ := h.at_ i2
  have hle := h.sl.le
  have hlt : lo ≠ cap := by omega
  have e : subA a cap lo sz = some ⟨bl a, of a + lo * sz, none⟩ := by
    unfold subA
    rw [if_neg (fun e => hlt e.symm), ha]
    simp [add_plain, bl, of]
  rw [e]
  refine ⟨rfl, by omega, ?_⟩
  have : ((lo : Int) + j).toNat = lo + j.toNat := by omega
  simp only [bl, of, Option.getD_some, this, Nat.add_mul, Nat.add_assoc]
theorem rep_get {zs : List Value} : ∀ (n j k : Nat) (v : Value), j < n → zs[k]? = some v → (List.replicate n zs).flatten[j * zs.length + k]? = some v
  | 0, j, k, v, h, _ => by omega
  | n + 1, 0, k, v, _, hk => by
    have := (List.getElem?_eq_some_iff.1 hk).1
    have e : zs[k] = v := by rw [List.getElem?_eq_getElem this] at hk; exact Option.some.inj hk
    simp [List.replicate_succ, List.getElem?_append, this, e]
  | n + 1, j + 1, k, v, h, hk => by
    rw [List.replicate_succ, List.flatten_cons, List.getElem?_append, if_neg (by rw [Nat.add_mul]; omega)]
    have := rep_get n j k v (by omega) hk
    rwa [show (j + 1) * zs.length + k - zs.length = j * zs.length + k by rw [Nat.add_mul]; omega]
theorem zeroCells_eq {zs : List Value} (hz : zs ≠ []) (n : Nat) : (Builtin.zeroCells zs.toArray n).toList = (List.replicate n zs).flatten := by
  have hpos : 0 < zs.length := List.length_pos_iff.2 hz
  apply List.ext_getElem?
  intro i
  unfold Builtin.zeroCells
  by_cases hi : i < n * zs.length
  · have h1 : i / zs.length < n := (Nat.div_lt_iff_lt_mul hpos).2 hi
    have h2 : i % zs.length < zs.length := Nat.mod_lt _ hpos
    have h3 := rep_get n (i / zs.length) (i % zs.length) zs[i % zs.length] h1 (List.getElem?_eq_getElem h2)
    rw [Nat.div_add_mod' i zs.length] at h3
    rw [h3]
    simp [hi, h2]
  · rw [List.getElem?_eq_none (by simp; omega), List.getElem?_eq_none (by simp; omega)]
theorem OwnSl.cleared {E w : World} {Os : List Mem} (h : OwnSl T sz rel I C a cap xs) (hS : St E w I (C :: Os)) {zs : List Value} {z0 : α} (hz : rel I zs z0) (hzl : zs.length = sz) (hz1 : zs.all Value.oneCell' = true) (hsz : 0 < sz) {lo : Nat} (hlo : lo < xs.length) (P : Program) :
    ∃ b off w' C', subA a cap lo sz = some ⟨b, off, none⟩ ∧ (storeCells ⟨b, off, none⟩ (Builtin.zeroCells zs.toArray (xs.length - lo)).toList).run P w = .ok () w' ∧ St E w' I (C' :: Os) ∧ OwnSl T sz rel I C' a cap (xs.take lo ++ List.replicate (xs.length - lo) z0) := by
  have hne : zs ≠ [] := by rintro rfl; simp at hzl; omega
  obtain ⟨c, rfl, ha, hs⟩ := h.at_ (List.getElem?_eq_getElem hlo)
  have hle := h.sl.le
  have e : subA a cap lo sz = some ⟨bl a, of a + lo * sz, none⟩ := by
    unfold subA
    rw [if_neg (by omega), ha]
    simp [add_plain, bl, of]
  generalize hvs : (Builtin.zeroCells zs.toArray (xs.length - lo)).toList = vs
  rw [zeroCells_eq hne] at hvs
  have hvl : vs.length = (xs.length - lo) * sz := by rw [← hvs]; simp [hzl]
  have hvget : ∀ j k v, j < xs.length - lo → zs[k]? = some v → vs[j * sz + k]? = some v := by
    intro j k v hj hk
    rw [← hvs, ← hzl]
    exact rep_get _ _ _ _ hj hk
  have hv1 : ∀ u ∈ vs, u.oneCell' = true := by
    intro u hu
    rw [← hvs] at hu
    obtain ⟨l, hl, hul⟩ := List.mem_flatten.1 hu
    rw [(List.mem_replicate.1 hl).2] at hul
    exact List.all_eq_true.1 hz1 u hul
  have hfit : of a + lo * sz + vs.length ≤ c.size := by
    rw [hvl]
    have h1 : lo * sz + (xs.length - lo) * sz ≤ cap * sz := by
      rw [← Nat.add_mul]
      exact Nat.mul_le_mul_right _ (by omega)
    omega
  have hw := hS.rd0 _ _ (one_at (bl a) _)
  have hrun : (storeCells ⟨bl a, of a + lo * sz, none⟩ vs).run P w = .ok () (w.setCells (bl a) (of a + lo * sz) vs) := by
    have hcell : ∀ j, j < vs.length → (w.cell? ⟨bl a, of a + lo * sz + 0 + j, none⟩).isSome = true := by
      intro j hj
      simp [World.cell?, hw]
      omega
    have hfr : ∀ j, j < vs.length → w.frozen? ⟨bl a, of a + lo * sz + 0 + j, none⟩ = false := by
      intro j hj
      simp [World.frozen?, hw]
    have := run_storeCells_cells (P := P) (bl a) (of a + lo * sz) vs 0 w hcell hfr hv1
    simpa using this
  have hS' := hS.setCells (off := of a + lo * sz) vs (one_at _ _)
  rw [one_set] at hS'
  refine ⟨_, _, _, _, e, hrun, hS', ⟨⟨?_, h.sl.lt, ?_⟩, .inr ⟨bl a, of a, _, ha, rfl, by rw [wrt_size]; exact hs⟩⟩⟩
  · simp; omega
  · intro i x hx
    refine ⟨ha, ?_⟩
    have hil : i < xs.length := by
      have := (List.getElem?_eq_some_iff.1 hx).1
      simp at this
      omega
    rw [List.getElem?_append] at hx
    by_cases hi : i < lo
    · rw [if_pos (by simp; omega)] at hx
      have hx' : xs[i]? = some x := by rw [List.getElem?_take_of_lt hi] at hx; exact hx
      obtain ⟨_, cs, hcs, hr, hc⟩ := h.sl.el i x hx'
      refine ⟨cs, hcs, hr, ?_⟩
      obtain ⟨c2, T2, fz, hb, hget⟩ := hc
      rw [one_at] at hb
      injection hb with hb
      injection hb with h1 h2 h3
      subst h1
      refine ⟨_, _, _, one_at _ _, fun j v hj => ?_⟩
      have hjs : j < sz := by rw [← hcs]; exact (List.getElem?_eq_some_iff.1 hj).1
      rw [wrt_out]
      · exact hget j v hj
      · left
        have : i * sz + sz ≤ lo * sz := by
          have : (i + 1) * sz ≤ lo * sz := Nat.mul_le_mul_right _ (by omega)
          rw [Nat.add_mul] at this; omega
        omega
    · rw [if_neg (by simp; omega)] at hx
      have hlt : (xs.take lo).length = lo := by simp; omega
      rw [hlt] at hx
      have hxz : x = z0 := by
        rw [List.getElem?_replicate] at hx
        split at hx
        · injection hx with hx; exact hx.symm
        · cases hx
      subst hxz
      refine ⟨zs, hzl, hz, _, _, _, one_at _ _, fun j v hj => ?_⟩
      have hjs : j < sz := by rw [← hzl]; exact (List.getElem?_eq_some_iff.1 hj).1
      have hv := hvget (i - lo) j v (by omega) hj
      have hidx : of a + i * sz + j = of a + lo * sz + ((i - lo) * sz + j) := by
        have : i * sz = lo * sz + (i - lo) * sz := by rw [← Nat.add_mul]; congr 1; omega
        omega
      rw [hidx, wrt_in _ _ _ _ (List.getElem?_eq_some_iff.1 hv).1 hfit]
      exact hv
variable {P : Program} {n : Nat} {K : World → Prop} {qt : Op → Bool} {z : Nat} {ops : Array Oper} {Q : Exit → Act → World → Prop} {fr : Fr} {w E : World} {li : List Nat} {Os : List Mem}
  {dst : Option Tmp} {ty : TypeId} {pos : String} {after : Array Edge} {guard : Option (Nat × Bool)} {i : Nat}
theorem WO.clear (hS : St E w I (C :: Os)) (h0 : OwnSl T sz rel I C a cap xs) {t e : Nat} (ht : P.underlying t = some (.slice e)) {zs : List Value} (hzv : zeroOf P e = some zs.toArray) {z0 : α} (hz : rel I zs z0) (hzl : Nat.beq zs.length sz = true) (hz1 : zs.all Value.oneCell' = true) (hsz : Nat.blt 0 sz = true)
    {x : Operand} (ho : ops[i]? = some ⟨dst, .call ⟨.builtin .clear, #[x], #[t]⟩, ty, pos, after, guard⟩) (hok : okAt n ops fr ⟨dst, .call ⟨.builtin .clear, #[x], #[t]⟩, ty, pos, after, guard⟩ = true) (hq : qt (.call ⟨.builtin .clear, #[x], #[t]⟩) = false)
    {lo : Nat} (hlo : lo ≤ xs.length) (hx : ev fr x = .slice (subA a cap lo sz) (xs.length - lo) (cap - lo)) (hK : ∀ w' C', St E w' I (C' :: Os) → K w')
    (h : ∀ w' C', St E w' I (C' :: Os) → OwnSl T sz rel I C' a cap (xs.take lo ++ List.replicate (xs.length - lo) z0) → WO P n K qt z ops Q li (pt fr dst (.tuple #[])) w') : WO P n K qt z ops Q (i :: li) fr w := by
  have hzl := Nat.eq_of_beq_eq_true hzl
  have hsz : 0 < sz := Nat.le_of_ble_eq_true hsz
  have hu := run_underlying' (P := P) (w := w) ht
  have e1 : (#[x].map (ev fr)) = #[.slice (subA a cap lo sz) (xs.length - lo) (cap - lo)] := by simp [hx]
  by_cases hlt : lo < xs.length
  · obtain ⟨b, off, w', C', hsub, hrun, hS', ho'⟩ := h0.cleared hS hz hzl hz1 hsz hlt P
    refine ybh ho hok hq (v := .tuple #[]) (w' := w') ?_ (hK w' C' hS') (h w' C' hS' ho')
    simp only [execOp, resolve]
    rw [e1]
    rw [run_bind (a := ({ target := .builtin .clear #[t] ty (#[x].map fun | .const _ => true | _ => false), args := #[.slice (subA a cap lo sz) (xs.length - lo) (cap - lo)] } : Deferred)) (w' := w) rfl]
    simp only [invoke, Go.builtin]
    have hne : xs.length - lo ≠ 0 := by omega
    obtain ⟨m, hm⟩ : ∃ m, xs.length - lo = m + 1 := ⟨xs.length - lo - 1, by omega⟩
    have key : (Builtin.clear_ #[t] ty #[.slice (subA a cap lo sz) (xs.length - lo) (cap - lo)]).run P w = .ok (.tuple #[]) w' := by
      obtain ⟨zv, hzc, hzr⟩ := run_zeroValue (w := w) hzv
      unfold Builtin.clear_
      simp only [List.getElem?_toArray, List.getElem?_cons_zero]
      rw [run_bind hu, hsub]
      rw [hm] at hrun ⊢
      simp only
      rw [run_bind hzr, hzc, run_bind hrun]
      rfl
    rw [run_bind key]
    rfl
  · have hle : lo = xs.length := by omega
    have hsame : xs.take lo ++ List.replicate (xs.length - lo) z0 = xs := by
      subst hle
      simp
    refine ybh ho hok hq (v := .tuple #[]) (w' := w) ?_ (hK w C hS) (h w C hS (by rw [hsame]; exact h0))
    simp only [execOp, resolve]
    rw [e1]
    rw [run_bind (a := ({ target := .builtin .clear #[t] ty (#[x].map fun | .const _ => true | _ => false), args := #[.slice (subA a cap lo sz) (xs.length - lo) (cap - lo)] } : Deferred)) (w' := w) rfl]
    simp only [invoke, Go.builtin]
    have hz0 : xs.length - lo = 0 := by omega
    have key : (Builtin.clear_ #[t] ty #[.slice (subA a cap lo sz) (xs.length - lo) (cap - lo)]).run P w = .ok (.tuple #[]) w := by
      unfold Builtin.clear_
      simp only [List.getElem?_toArray, List.getElem?_cons_zero]
      rw [run_bind hu, hz0]
      cases hsb : subA a cap lo sz <;> rfl
    rw [run_bind key]
    rfl
end
end Go.Gv
namespace Go.Gv
open Go
section
variable {κ ν σ τ : Type}
def foldR (step : κ → ν → σ → Option (σ ⊕ τ)) : List (κ × ν) → σ → Option (σ ⊕ τ)
  | [], s => some (.inl s)
  | (k, v) :: l, s => (step k v s).bind fun | .inl s' => foldR step l s' | .inr t => some (.inr t)
theorem foldR_app {step : κ → ν → σ → Option (σ ⊕ τ)} : ∀ {a b : List (κ × ν)} {s s' : σ}, foldR step a s = some (.inl s') → foldR step (a ++ b) s = foldR step b s'
  | [], b, s, s', h => by
    simp only [foldR, Option.some.injEq, Sum.inl.injEq] at h
    subst h
    rfl
  | (k, v) :: a, b, s, s', h => by
    simp only [foldR, List.cons_append] at h ⊢
    cases hs : step k v s with
    | none => rw [hs] at h; cases h
    | some x =>
      rw [hs] at h
      cases x with
      | inl s1 => exact foldR_app (a := a) h
      | inr t => simp at h
variable {P : Program} {n : Nat} {Q : Exit → Act → World → Prop} {fr : Fr} {w : World}
end
section
variable {κ ν : Type}
structure IterSt (enc : κ → Value) (val : Mem → Value → ν → Prop) (I C : Mem) (m : Nat) (cur : List (κ × ν)) (D : Mem) (b : Nat) (rem : List (κ × ν)) (last : Option (Value × Value)) : Prop where
  ex : ∃ (es : Array MapEntry) (clock : Nat) (seen : Array Nat), C = one m (.map es clock) ∧ D = one b (.mapIter (some m) clock seen clock) ∧ es.toList.map (·.key) = cur.map (fun p => enc p.1) ∧
    (∀ (i : Nat) (e : MapEntry) (p : κ × ν), es[i]? = some e → cur[i]? = some p → val I e.val p.2) ∧ (∀ e ∈ es.toList, e.born < clock) ∧ (es.toList.map (·.born)).Nodup ∧
    (((es.toList.zip cur).filter fun q => !seen.contains q.1.born).map (·.2)).Perm rem ∧ (∀ lv, last = some lv → ∃ e ∈ es.toList, seen.back? = some e.born ∧ e.key = lv.1 ∧ e.val = lv.2)
variable {enc : κ → Value} {val : Mem → Value → ν → Prop} {I J C D : Mem} {m b : Nat} {cur rem : List (κ × ν)} {last : Option (Value × Value)} {P : Program} {E w : World} {Os : List Mem}
theorem IterSt.mono [VMono val] (h : IterSt enc val I C m cur D b rem last) (hl : I.Le J) : IterSt enc val J C m cur D b rem last := by
  obtain ⟨es, clock, seen, h1, h2, h3, h4, h5⟩ := h.ex
  exact ⟨es, clock, seen, h1, h2, h3, fun i e p he hp => VMono.mono hl (h4 i e p he hp), h5⟩
theorem IterSt.start {es : Array MapEntry} {clock : Nat} (hC : C = one m (.map es clock)) (h2 : es.toList.map (·.key) = cur.map (fun p => enc p.1))
    (h3 : ∀ (i : Nat) (e : MapEntry) (p : κ × ν), es[i]? = some e → cur[i]? = some p → val I e.val p.2) (h4 : ∀ e ∈ es.toList, e.born < clock) (h5 : (es.toList.map (·.born)).Nodup) : IterSt enc val I C m cur (one b (.mapIter (some m) clock #[] clock)) b cur none := by
  refine ⟨es, clock, #[], hC, rfl, h2, h3, h4, h5, ?_, fun lv h => by cases h⟩
  have hlen : es.toList.length = cur.length := by have := congrArg List.length h2; simpa using this
  have : ((es.toList.zip cur).filter fun q => !(#[] : Array Nat).contains q.1.born) = es.toList.zip cur := by
    refine List.filter_eq_self.2 fun q _ => by simp
  rw [this, ← List.unzip_snd, List.unzip_zip hlen]
theorem run_choose_next (w : World) (k : Nat) (hk : 0 < k) : ∃ (j : Nat) (w1 : World), j < k ∧ (w1 = w ∨ w1 = w.drew) ∧ (choose (Question.mapNext k)).run P w = .ok j w1 := by
  by_cases hf : k ≤ 1
  · exact ⟨0, w, by omega, .inl rfl, by simp [choose, Sem.run, Question.forced, hf]⟩
  · exact ⟨_, w.drew, Nat.mod_lt _ hk, .inr rfl, by
      simp only [choose, Sem.run, Question.forced, decide_eq_true_eq, hf, if_false, Question.cut]
      rfl⟩
theorem perm_erase {α : Type} : ∀ (Z : List α) {j : Nat} (h : j < Z.length), Z.Perm (Z[j] :: Z.eraseIdx j)
  | [], j, h => by cases h
  | z :: Z, 0, _ => List.Perm.refl _
  | z :: Z, j + 1, h => by
    simp only [List.getElem_cons_succ, List.eraseIdx_cons_succ]
    exact ((perm_erase Z (by simpa using h)).cons z).trans (.swap ..)
theorem IterSt.next (h : IterSt enc val I C m cur D b rem last) (hS : St E w I (D :: C :: Os)) (ty : TypeId) :
    (rem = [] ∧ (Instr.next (.pointer (some ⟨b, 0, none⟩)) false ty).run P w = .ok (.tuple #[.bool false]) w) ∨
    ∃ k x rem' v w' D', rem.Perm ((k, x) :: rem') ∧ val I v x ∧ (Instr.next (.pointer (some ⟨b, 0, none⟩)) false ty).run P w = .ok (.tuple #[.bool true, enc k, v]) w' ∧ St E w' I (D' :: C :: Os) ∧ IterSt enc val I C m cur D' b rem' (some (enc k, v)) := by
  obtain ⟨es, clock, seen, rfl, rfl, h3, h4, h5, h6, h7, h8⟩ := h.ex
  have hb := hS.rd0 b _ (one_at b _)
  have hm := hS.drop.rd0 m _ (one_at m _)
  have hlen : es.toList.length = cur.length := by have := congrArg List.length h3; simpa using this
  have htest := next_test_false seen es clock clock h5 (Nat.le_refl _)
  have e1 : (es.filter fun e => !seen.contains e.born).filter (fun e => decide (e.born < clock)) = es.filter fun e => !seen.contains e.born := by
    refine Array.filter_eq_self.2 fun e he => ?_
    have := h5 e (by simp at he ⊢; exact he.1)
    simpa using this
  have e2 : (es.filter fun e => !seen.contains e.born).filter (fun e => decide (e.born ≥ clock)) = #[] := by
    rw [Array.filter_eq_empty_iff]
    intro e he
    have := h5 e (by simp at he ⊢; exact he.1)
    simp
    omega
  have hzip : ((es.toList.zip cur).filter fun q => !seen.contains q.1.born).map (·.1) = (es.filter fun e => !seen.contains e.born).toList := by
    rw [Array.toList_filter]
    have : ∀ (a : List MapEntry) (c : List (κ × ν)), a.length = c.length → ((a.zip c).filter fun q => !seen.contains q.1.born).map (·.1) = a.filter fun e => !seen.contains e.born := by
      intro a
      induction a with
      | nil => intro c _; rfl
      | cons x a ih =>
        intro c hc
        cases c with
        | nil => cases hc
        | cons y c =>
          simp only [List.zip_cons_cons, List.filter_cons]
          have := ih c (by simpa using hc)
          cases hs : seen.contains x.born <;> simpa using this
    exact this _ _ hlen
  have hpre : ∀ (L : Array MapEntry), (es.filter fun e => !seen.contains e.born) = L → (Instr.next (.pointer (some ⟨b, 0, none⟩)) false ty).run P w =
      (do match ((if L.isEmpty then #[none] else #[]) ++ L.map some)[← choose (.mapNext ((if L.isEmpty then #[none] else #[]) ++ L.map some : Array (Option MapEntry)).size)]? with
        | some (some e) => do setObj b (.mapIter (some m) clock (seen.push e.born) clock); pure (.tuple #[.bool true, e.key, e.val])
        | some none => pure (.tuple #[.bool false])
        | none => stuck "Next: no such candidate" : Sem Value).run P w := by
    rintro L rfl
    simp only [Instr.next, getObj, Sem.run_bind, Sem.run, hb, hm, Result.andThen, htest, Bool.false_eq_true, if_false, e1, e2, Array.append_empty]
    generalize Sem.run P (choose _) w = res
    cases res with
    | halt h w1 => rfl
    | ok a w1 =>
      simp only
      generalize (_ : Array (Option MapEntry))[a]? = o
      rcases o with _ | _ | _ <;> rfl
  by_cases h0 : (es.filter fun e => !seen.contains e.born) = #[]
  · left
    refine ⟨?_, ?_⟩
    · have : ((es.toList.zip cur).filter fun q => !seen.contains q.1.born) = [] := by
        rw [h0] at hzip
        simpa using hzip
      rw [this] at h7
      exact List.Perm.eq_nil h7.symm
    · rw [hpre _ h0]
      simp [choose, Sem.run, Question.forced]
  · right
    generalize hL : (es.filter fun e => !seen.contains e.born) = L at *
    have hpos : 0 < L.size := Array.size_pos_iff.2 h0
    have hne : L.isEmpty = false := by simpa [Array.isEmpty_iff] using h0
    obtain ⟨j, w1, hj, hw1, hrun⟩ := run_choose_next (P := P) w L.size hpos
    have hS1 : St E w1 I (one b (.mapIter (some m) clock seen clock) :: one m (.map es clock) :: Os) := by
      rcases hw1 with rfl | rfl
      · exact hS
      · exact hS.drew
    have hb1 := hS1.rd0 b _ (one_at b _)
    -- the one that comes
    have hzl : ((es.toList.zip cur).filter fun q => !seen.contains q.1.born).length = L.size := by
      have := congrArg List.length hzip
      simpa using this
    generalize hZ : ((es.toList.zip cur).filter fun q => !seen.contains q.1.born) = Z at *
    have hjz : j < Z.length := by omega
    have hLj : L[j] = Z[j].1 := by
      have h1 : L.toList[j]? = some L[j] := by rw [Array.getElem?_toList]; exact Array.getElem?_eq_getElem hj
      rw [← hzip, List.getElem?_map, List.getElem?_eq_getElem hjz] at h1
      simpa using h1.symm
    have hall : ∀ q ∈ Z, q ∈ es.toList.zip cur := by
      intro q hq
      rw [← hZ] at hq
      exact (List.mem_filter.1 hq).1
    have hmem2 : Z[j] ∈ es.toList.zip cur := hall _ (List.getElem_mem hjz)
    obtain ⟨i, hi⟩ := List.mem_iff_getElem?.1 hmem2
    rw [List.getElem?_zip_eq_some] at hi
    have hkey : Z[j].1.key = enc Z[j].2.1 := by
      have := congrArg (fun l => l[i]?) h3
      simp only [List.getElem?_map, hi.1, hi.2, Option.map_some] at this
      exact Option.some.inj this
    have hval : val I Z[j].1.val Z[j].2.2 := h4 i _ _ (by rw [← Array.getElem?_toList]; exact hi.1) hi.2
    have hset : (setObj b (.mapIter (some m) clock (seen.push Z[j].1.born) clock)).run P w1 = .ok () { w1 with heap := w1.heap.setIfInBounds b (.mapIter (some m) clock (seen.push Z[j].1.born) clock) } := by
      simp [Go.setObj, Sem.run, hb1]
    have hS2 : St E { w1 with heap := w1.heap.setIfInBounds b (.mapIter (some m) clock (seen.push Z[j].1.born) clock) } I (one b (.mapIter (some m) clock (seen.push Z[j].1.born) clock) :: one m (.map es clock) :: Os) := by
      have := hS1.put (one_at b _) (o' := .mapIter (some m) clock (seen.push Z[j].1.born) clock) (w' := { w1 with heap := w1.heap.setIfInBounds b (.mapIter (some m) clock (seen.push Z[j].1.born) clock) }) rfl rfl rfl (by
        have hlt := (Array.getElem?_eq_some_iff.1 hb1).1
        simp [Array.getElem?_setIfInBounds, hlt]) (fun i hi => by
        simp only [Array.getElem?_setIfInBounds]
        rw [if_neg (fun e => hi e.symm)])
      rwa [one_set] at this
    refine ⟨Z[j].2.1, Z[j].2.2, (Z.eraseIdx j).map (·.2), Z[j].1.val, _, _, ?_, hval, ?_, hS2, ⟨es, clock, seen.push Z[j].1.born, rfl, rfl, h3, h4, h5, h6, ?_, ?_⟩⟩
    · refine h7.symm.trans ?_
      exact (perm_erase Z hjz).map (·.2)
    · rw [hpre _ rfl]
      simp only [hne, Bool.false_eq_true, if_false, Array.empty_append, Array.size_map]
      rw [run_bind hrun]
      simp only [Array.getElem?_map, Array.getElem?_eq_getElem hj, Option.map_some, hLj]
      rw [run_bind hset, hkey]
      rfl
    · refine List.Perm.of_eq ?_
      have hnd : (Z.map (·.1.born)).Nodup := by
        have hsub : (Z.map (·.1)).Sublist es.toList := by
          rw [hzip, ← hL, Array.toList_filter]
          exact List.filter_sublist
        have h9 := h6.sublist (hsub.map (·.born))
        rwa [List.map_map] at h9
      have e3 : ∀ bb : Nat, ((es.toList.zip cur).filter fun q => !(seen.push bb).contains q.1.born) = Z.filter fun q => !(q.1.born == bb) := by
        intro bb
        rw [← hZ, List.filter_filter]
        refine List.filter_congr fun q _ => ?_
        rw [contains_push]
        cases seen.contains q.1.born <;> simp
      rw [e3]
      congr 1
      clear hrun hset hS2 hall hmem2 hi hkey hval e3 hZ hzip h7 hLj hzl hj
      induction Z generalizing j with
      | nil => cases hjz
      | cons z Z ih =>
        simp only [List.map_cons, List.nodup_cons] at hnd
        cases j with
        | zero =>
          simp only [List.getElem_cons_zero, List.filter_cons, beq_self_eq_true, Bool.not_true, Bool.false_eq_true, if_false, List.eraseIdx_cons_zero]
          refine List.filter_eq_self.2 fun q hq => ?_
          have : q.1.born ≠ z.1.born := fun e => hnd.1 (e ▸ List.mem_map.2 ⟨q, hq, rfl⟩)
          simpa using this
        | succ j =>
          have hj' : j < Z.length := by simpa using hjz
          have hne : z.1.born ≠ Z[j].1.born := fun e => hnd.1 (e ▸ List.mem_map.2 ⟨Z[j], List.getElem_mem hj', rfl⟩)
          have : (!(z.1.born == Z[j].1.born)) = true := by simpa using hne
          simp only [List.getElem_cons_succ, List.filter_cons, this, if_true, List.eraseIdx_cons_succ]
          rw [ih (j := j) (hjz := hj') hnd.2]
    · intro lv hlv
      injection hlv with hlv
      subst hlv
      refine ⟨Z[j].1, ?_, by simp, hkey, rfl⟩
      exact (List.of_mem_zip hmem2).1
theorem IterSt.entry {lv : Value × Value} (h : IterSt enc val I C m cur D b rem (some lv)) (hS : St E w I (D :: C :: Os)) : (Instr.entry (.pointer (some ⟨b, 0, none⟩))).run P w = .ok (.tuple #[lv.1, lv.2]) w := by
  obtain ⟨es, clock, seen, rfl, rfl, h3, h4, h5, h6, h7, h8⟩ := h.ex
  obtain ⟨e, he, hback, hk, hv⟩ := h8 lv rfl
  have hb := hS.rd0 b _ (one_at b _)
  have hm := hS.drop.rd0 m _ (one_at m _)
  have hf : es.find? (·.born == e.born) = some e := by rw [← Array.find?_toList]; exact find_born e es.toList h6 he
  simp only [Instr.entry, getObj, Sem.run_bind, Sem.run, hb, hm, Result.andThen, hback, bne_self_eq_false, Bool.false_eq_true, if_false, hf, hk, hv]
  rfl
end
section
variable {κ ν : Type} {enc : κ → Value} {val : Mem → Value → ν → Prop} {I C D : Mem} {m b : Nat} {cur rem : List (κ × ν)} {last : Option (Value × Value)}
  {P : Program} {n : Nat} {K : World → Prop} {qt : Op → Bool} {z : Nat} {ops : Array Oper} {Q : Exit → Act → World → Prop} {fr : Fr} {w E : World} {li : List Nat} {Os : List Mem}
  {dst : Option Tmp} {ty : TypeId} {pos : String} {after : Array Edge} {guard : Option (Nat × Bool)} {i : Nat}
theorem WO.rangeMap {l : List (κ × ν)} (h0 : OwnMap enc val I C m l) (hS : St E w I (C :: Os)) {t kt et : Nat} (ht : P.underlying t = some (.map kt et)) {x : Operand}
    (ho : ops[i]? = some ⟨dst, .range t x, ty, pos, after, guard⟩) (hok : okAt n ops fr ⟨dst, .range t x, ty, pos, after, guard⟩ = true) (hq : qt (.range t x) = false) (hx : ev fr x = .map (some m))
    (hK : ∀ w' D, St E w' I (D :: C :: Os) → K w')
    (h : ∀ b w' D, St E w' I (D :: C :: Os) → IterSt enc val I C m l D b l none → WO P n K qt z ops Q li (pt fr dst (.pointer (some ⟨b, 0, none⟩))) w') : WO P n K qt z ops Q (i :: li) fr w := by
  obtain ⟨es, clock, rfl, h2, h3, h4, h5⟩ := h0.ex
  have hm := hS.rd0 m _ (one_at m _)
  have hS' := hS.alloc (.mapIter (some m) clock #[] clock)
  refine ybh ho hok hq (v := .pointer (some ⟨w.heap.size, 0, none⟩)) (w' := w.alloc (.mapIter (some m) clock #[] clock)) ?_ (hK _ _ hS') (h _ _ _ hS' (IterSt.start rfl h2 h3 h4 h5))
  simp only [execOp, hx]
  rw [run_bind (run_range_map w t kt et m es clock ht hm)]
  rfl
theorem WO.next (h0 : IterSt enc val I C m cur D b rem last) (hS : St E w I (D :: C :: Os)) {x : Operand}
    (ho : ops[i]? = some ⟨dst, .next x false, ty, pos, after, guard⟩) (hok : okAt n ops fr ⟨dst, .next x false, ty, pos, after, guard⟩ = true) (hq : qt (.next x false) = false) (hx : ev fr x = .pointer (some ⟨b, 0, none⟩))
    (hK : ∀ w' D, St E w' I (D :: C :: Os) → K w')
    (he : rem = [] → WO P n K qt z ops Q li (pt fr dst (.tuple #[.bool false])) w)
    (h : ∀ k x rem' v w' D', rem.Perm ((k, x) :: rem') → val I v x → St E w' I (D' :: C :: Os) → IterSt enc val I C m cur D' b rem' (some (enc k, v)) → WO P n K qt z ops Q li (pt fr dst (.tuple #[.bool true, enc k, v])) w') : WO P n K qt z ops Q (i :: li) fr w := by
  rcases h0.next (P := P) hS ty with ⟨hr, hrun⟩ | ⟨k, y, rem', v, w', D', hp, hv, hrun, hS', hI'⟩
  · refine ybh ho hok hq (v := .tuple #[.bool false]) (w' := w) ?_ (hK _ _ hS) (he hr)
    simp only [execOp, hx]
    rw [run_bind hrun]
    rfl
  · refine ybh ho hok hq (v := .tuple #[.bool true, enc k, v]) (w' := w') ?_ (hK _ _ hS') (h k y rem' v w' D' hp hv hS' hI')
    simp only [execOp, hx]
    rw [run_bind hrun]
    rfl
theorem WO.entry {lv : Value × Value} (h0 : IterSt enc val I C m cur D b rem (some lv)) (hS : St E w I (D :: C :: Os)) {x : Operand}
    (ho : ops[i]? = some ⟨dst, .entry x, ty, pos, after, guard⟩) (hok : okAt n ops fr ⟨dst, .entry x, ty, pos, after, guard⟩ = true) (hq : qt (.entry x) = false) (hx : ev fr x = .pointer (some ⟨b, 0, none⟩)) (hK : K w)
    (h : WO P n K qt z ops Q li (pt fr dst (.tuple #[lv.1, lv.2])) w) : WO P n K qt z ops Q (i :: li) fr w := by
  refine ybh ho hok hq (v := .tuple #[lv.1, lv.2]) (w' := w) ?_ hK h
  simp only [execOp, hx]
  rw [run_bind (h0.entry hS)]
  rfl
end
end Go.Gv
namespace Go.Gv
open Go
section
variable {P : Program} {n : Nat} {Q : Exit → Act → World → Prop} {fr : Fr} {w : World}
theorem W.loopG {c : Code} (Inv : Nat → Fr → World → Prop) {k : Nat} (h0 : Inv k fr w) (round : ∀ k fr w, Inv k fr w → W P n c (Rd n (fun fr w => ∃ k', k' < k ∧ Inv k' fr w) Q) fr w) : W P n (.loop c) Q fr w := by
  intro a ha
  refine wp_loop_ghost (fun k a w => ∃ fr, Ag n fr a ∧ Inv k fr w) (k := k) ⟨fr, ha, h0⟩ ?_
  rintro k a w ⟨fr, ha, hI⟩
  refine wp_mono (round k fr w hI a ha) ?_
  intro e a' w' hq
  cases e with
  | normal =>
    obtain ⟨fr', ha', k', hk, hI'⟩ := hq
    exact ⟨k', hk, fr', ha', hI'⟩
  | _ => exact hq
end
section
variable {κ ν : Type} {enc : κ → Value} {val : Mem → Value → ν → Prop} {I J C D : Mem} {m b : Nat} {cur rem : List (κ × ν)} {last : Option (Value × Value)} {P : Program} {E w : World} {Os : List Mem} {eq : κ → κ → Bool}
theorem IterSt.own (h : IterSt enc val I C m cur D b rem last) : OwnMap enc val I C m cur := by
  obtain ⟨es, clock, seen, h1, h2, h3, h4, h5, h6, _⟩ := h.ex
  exact ⟨es, clock, h1, h3, h4, h5, h6⟩
theorem IterSt.rem_mem (h : IterSt enc val I C m cur D b rem last) {p : κ × ν} (hp : p ∈ rem) : p ∈ cur := by
  obtain ⟨es, clock, seen, h1, h2, h3, h4, h5, h6, h7, _⟩ := h.ex
  obtain ⟨q, hq, rfl⟩ := List.mem_map.1 (h7.mem_iff.2 hp)
  exact (List.of_mem_zip (List.mem_filter.1 hq).1).2
theorem zip_erase {α β : Type} : ∀ (a : List α) (c : List β) (i : Nat), (a.eraseIdx i).zip (c.eraseIdx i) = (a.zip c).eraseIdx i
  | [], c, i => by simp
  | x :: a, [], i => by cases i <;> simp
  | x :: a, y :: c, 0 => by simp
  | x :: a, y :: c, i + 1 => by simp [zip_erase a c i]
theorem IterSt.delete (h : IterSt enc val I C m cur D b rem last) (hS : St E w I (C :: D :: Os)) {t kt et ty : Nat} {ats : Array Nat} (ha : ats[0]? = some t) (ht : P.underlying t = some (.map kt et)) (kl : KeyLaw P kt enc eq) (k : κ) :
    ∃ w' C' rem', (Builtin.delete_ ats ty #[.map (some m), enc k]).run P w = .ok (.tuple #[]) w' ∧ St E w' I (C' :: D :: Os) ∧ rem'.length ≤ rem.length ∧ IterSt enc val I C' m (mdel eq cur k) D b rem' none := by
  obtain ⟨es, clock, seen, rfl, rfl, h2, h3, h4, h5, h6, _⟩ := h.ex
  have hlen : es.size = cur.length := by have := congrArg List.length h2; simpa using this
  have hmap : es.toList.map (·.key) = (cur.map (·.1)).map enc := by rw [h2, List.map_map]; rfl
  have hw := hS.rd0 m _ (one_at m _)
  have hf := kl.find k w es.toList _ hmap
  have start : ∀ (r : Option (Nat × Value)) (es' : Array MapEntry), (Instr.findKey kt (enc k) es.toList).run P w = .ok r w → (match r with | some (i, _) => setObj m (.map (es.eraseIdxIfInBounds i) clock) | none => setObj m (.map es clock)) = setObj m (.map es' clock) →
      (Builtin.delete_ ats ty #[.map (some m), enc k]).run P w = .ok (.tuple #[]) { w with heap := w.heap.setIfInBounds m (.map es' clock) } := by
    intro r es' hr he
    obtain ⟨r1, _⟩ := hS.setObj (P := P) (es' := es') (clock' := clock)
    have hg := run_getObj (P := P) hw
    have key : (do match r with | some (i, _) => setObj m (.map (es.eraseIdxIfInBounds i) clock) | none => setObj m (.map es clock)).run P w = .ok () { w with heap := w.heap.setIfInBounds m (.map es' clock) } := by
      rw [← r1]; exact congrArg (fun s => Sem.run P s w) he
    cases r with
    | none => simp only at key; simp [Builtin.delete_, ha, run_underlying' ht, hg, kl.check, hr, key]
    | some q => obtain ⟨i, v⟩ := q; simp only at key; simp [Builtin.delete_, ha, run_underlying' ht, hg, kl.check, hr, key]
  cases hp : mpos eq k (cur.map (·.1)) with
  | none =>
    rw [hp] at hf
    obtain ⟨_, r2⟩ := hS.setObj (P := P) (es' := es) (clock' := clock)
    refine ⟨_, _, rem, start none es hf rfl, r2, Nat.le_refl _, ⟨es, clock, seen, rfl, rfl, ?_, ?_, h4, h5, ?_, fun lv hlv => by cases hlv⟩⟩
    · simpa [mdel, hp] using h2
    · simpa [mdel, hp] using h3
    · simpa [mdel, hp] using h6
  | some i =>
    obtain ⟨hlt, a, ha', hq⟩ := mpos_lt hp
    simp only [List.length_map] at hlt
    have hes : es[i]? = some (es[i]'(by omega)) := Array.getElem?_eq_getElem (by omega)
    rw [hp] at hf
    simp only [Option.bind_some, Array.getElem?_toList, hes, Option.map_some] at hf
    obtain ⟨_, r2⟩ := hS.setObj (P := P) (es' := es.eraseIdxIfInBounds i) (clock' := clock)
    have hel : (es.eraseIdxIfInBounds i).toList = es.toList.eraseIdx i := by
      rw [Array.eraseIdxIfInBounds]
      split
      · simp
      · omega
    have hmd : mdel eq cur k = cur.eraseIdx i := by simp only [mdel, hp]
    refine ⟨_, _, _, start _ (es.eraseIdxIfInBounds i) hf rfl, r2, ?_, ⟨_, _, seen, rfl, rfl, ?_, ?_, ?_, ?_, List.Perm.refl _, fun lv hlv => by cases hlv⟩⟩
    · rw [hel, hmd, zip_erase]
      have h8 := ((List.eraseIdx_sublist (es.toList.zip cur) i).filter (fun q => !seen.contains q.1.born)).length_le
      have h9 := h6.length_eq
      simp only [List.length_map] at h9 ⊢
      omega
    · rw [hel, hmd, ← erase_map, h2, erase_map]
    · intro j e p he hpp
      rw [hmd] at hpp
      rw [← Array.getElem?_toList, hel, List.getElem?_eraseIdx] at he
      rw [List.getElem?_eraseIdx] at hpp
      split at he
      · rename_i hj
        rw [if_pos hj] at hpp
        exact h3 j e p (by rw [← Array.getElem?_toList]; exact he) hpp
      · rename_i hj
        rw [if_neg hj] at hpp
        exact h3 (j + 1) e p (by rw [← Array.getElem?_toList]; exact he) hpp
    · intro e he
      rw [hel] at he
      exact h4 e (List.mem_of_mem_eraseIdx he)
    · rw [hel, ← erase_map]
      exact h5.sublist (List.eraseIdx_sublist _ _)
variable {n : Nat} {K : World → Prop} {qt : Op → Bool} {z : Nat} {ops : Array Oper} {Q : Exit → Act → World → Prop} {fr : Fr} {li : List Nat} {i : Nat}
  {dst : Option Tmp} {ty : TypeId} {pos : String} {after : Array Edge} {guard : Option (Nat × Bool)}
end
end Go.Gv
namespace Go.Gv
open Go
section
variable {P : Program} {n : Nat} {Q : Exit → Act → World → Prop} {fr : Fr} {w : World}
end
def ssub (s : ByteArray) (lo hi : Int) : Option ByteArray := if 0 ≤ lo ∧ lo ≤ hi ∧ hi ≤ (s.size : Int) then some (s.extract lo.toNat hi.toNat) else none
theorem ssub_some {s r : ByteArray} {lo hi : Int} (h : ssub s lo hi = some r) : 0 ≤ lo ∧ lo ≤ hi ∧ hi ≤ (s.size : Int) ∧ r = s.extract lo.toNat hi.toNat := by
  unfold ssub at h
  split at h
  · rename_i hc
    injection h with h
    exact ⟨hc.1, hc.2.1, hc.2.2, h.symm⟩
  · cases h
section
variable {P : Program} {n : Nat} {K : World → Prop} {qt : Op → Bool} {z : Nat} {ops : Array Oper} {Q : Exit → Act → World → Prop} {fr : Fr} {w : World} {l : List Nat} {i : Nat}
  {dst : Option Tmp} {ty : TypeId} {pos : String} {after : Array Edge} {guard : Option (Nat × Bool)}
theorem run_sliceS {t : TypeId} (ht : P.underlying t = some .string) (s : ByteArray) {lo hi : Option Value} {a b : Nat}
    (hlo : lo = none ∧ a = 0 ∨ ∃ k, lo = some (.int k (a : Int))) (hhi : hi = none ∧ b = s.size ∨ ∃ k, hi = some (.int k (b : Int))) (h1 : a ≤ b) (h2 : b ≤ s.size) :
    (Instr.sliceAt t (.string s) lo hi none).run P w = .ok (.string (s.extract a b)) w := by
  have hu := run_underlying' (P := P) (w := w) ht
  rcases hlo with ⟨rfl, rfl⟩ | ⟨k1, rfl⟩ <;> rcases hhi with ⟨rfl, rfl⟩ | ⟨k2, rfl⟩ <;>
    simp [Instr.sliceAt, Instr.slice, Instr.sliceBounds, Instr.sliceBound, asIntOf, hu, h1, h2]
theorem WO.sliceS {t : TypeId} {x : Operand} {lo hi : Option Operand} (ho : ops[i]? = some ⟨dst, .slice t x lo hi none, ty, pos, after, guard⟩) (hok : okAt n ops fr ⟨dst, .slice t x lo hi none, ty, pos, after, guard⟩ = true)
    (ht : P.underlying t = some .string) {s r : ByteArray} (hx : ev fr x = .string s) (l' h' : Int)
    (hlo : lo = none ∧ l' = 0 ∨ ∃ k o, lo = some o ∧ ev fr o = .int k l') (hhi : hi = none ∧ h' = (s.size : Int) ∨ ∃ k o, hi = some o ∧ ev fr o = .int k h') (hr : ssub s l' h' = some r)
    (h : WO P n K qt z ops Q l (pt fr dst (.string r)) w) : WO P n K qt z ops Q (i :: l) fr w := by
  obtain ⟨g0, g1, g2, rfl⟩ := ssub_some hr
  refine WO.val ho hok _ (fun w' hw' => ?_) h
  simp only [execOp, hx, Option.map_none]
  rw [run_bind (run_sliceS (P := P) (w := w') ht s (a := l'.toNat) (b := h'.toNat) ?_ ?_ (by omega) (by omega))]
  · rfl
  · rcases hlo with ⟨rfl, rfl⟩ | ⟨k, o, rfl, eo⟩
    · exact .inl ⟨rfl, rfl⟩
    · exact .inr ⟨k, by rw [Option.map_some, eo, Int.toNat_of_nonneg g0]⟩
  · rcases hhi with ⟨rfl, rfl⟩ | ⟨k, o, rfl, eo⟩
    · exact .inl ⟨rfl, by omega⟩
    · exact .inr ⟨k, by rw [Option.map_some, eo, Int.toNat_of_nonneg (by omega)]⟩
end
end Go.Gv
namespace Go.Gv
open Go
abbrev M (α : Type) := (α → Prop) → Prop
section
variable {α β κ ν σ τ : Type}
def optM (o : Option α) : M α := fun Q => ∃ x, o = some x ∧ Q x
def bindM (m : M β) (f : β → M α) : M α := fun Q => m (fun x => f x Q)
def retM (x : α) : M α := fun Q => Q x
def itM (step : σ → M (σ ⊕ τ)) : Nat → σ → M τ
  | 0, _ => fun _ => False
  | k + 1, s => fun Q => step s (Sum.elim (fun s' => itM step k s' Q) Q)
def loopM (step : σ → M (σ ⊕ τ)) (s : σ) : M τ := fun Q => ∃ k, itM step k s Q
def rangeM (step : κ → ν → σ → Option (σ ⊕ τ)) (l : List (κ × ν)) (s : σ) : M (σ ⊕ τ) := fun Q => ∀ l', l'.Perm l → ∃ y, foldR step l' s = some y ∧ Q y
end
section
variable {κ ν σ τ : Type} {P : Program} {n : Nat} {Q : Exit → Act → World → Prop} {fr : Fr} {w : World}
theorem W.loopM {c : Code} {step : σ → M (σ ⊕ τ)} {s0 : σ} {R : τ → Prop} (hr : Gv.loopM step s0 R) (Inv : σ → Fr → World → Prop) (h0 : Inv s0 fr w)
    (round : ∀ s fr w, Inv s fr w → ∀ Kx : σ → Prop, step s (Sum.elim Kx R) → W P n c (Rd n (fun fr w => ∃ s', Kx s' ∧ Inv s' fr w) Q) fr w) : W P n (.loop c) Q fr w := by
  obtain ⟨k, hk⟩ := hr
  intro a ha
  refine wp_loop_ghost (fun k a w => ∃ s fr, Ag n fr a ∧ Inv s fr w ∧ itM step k s R) (k := k) ⟨s0, fr, ha, h0, hk⟩ ?_
  rintro k a w ⟨s, fr, ha, hI, hk⟩
  cases k with
  | zero => exact hk.elim
  | succ k =>
    refine wp_mono (round s fr w hI (fun s' => itM step k s' R) hk a ha) ?_
    intro e a' w' hq
    cases e with
    | normal =>
      obtain ⟨fr', ha', s', h1, hI'⟩ := hq
      exact ⟨k, by omega, s', fr', ha', hI', h1⟩
    | _ => exact hq
theorem W.rangeM {c : Code} {step : κ → ν → σ → Option (σ ⊕ τ)} {l : List (κ × ν)} {s0 : σ} {R : σ ⊕ τ → Prop} (hr : Gv.rangeM step l s0 R) (Inv : List (κ × ν) → σ → Fr → World → Prop) (h0 : Inv l s0 fr w)
    (round : ∀ rem s fr w, Inv rem s fr w → (∀ k x rem', rem.Perm ((k, x) :: rem') → ∃ y, step k x s = some y ∧ ∀ t, y = .inr t → R (.inr t)) → (rem = [] → R (.inl s)) →
      W P n c (Rd n (fun fr w => ∃ k x rem' s', rem.Perm ((k, x) :: rem') ∧ step k x s = some (.inl s') ∧ Inv rem' s' fr w) Q) fr w) : W P n (.loop c) Q fr w := by
  intro a ha
  refine wp_loop_ghost (fun k a w => ∃ vis rem s fr, Ag n fr a ∧ Inv rem s fr w ∧ rem.length = k ∧ (vis ++ rem).Perm l ∧ foldR step vis s0 = some (.inl s)) (k := l.length)
    ⟨[], l, s0, fr, ha, h0, rfl, List.Perm.refl _, rfl⟩ ?_
  rintro k a w ⟨vis, rem, s, fr, ha, hI, rfl, hp, hf⟩
  refine wp_mono (round rem s fr w hI ?_ ?_ a ha) ?_
  · intro k x rem' hrem
    obtain ⟨y, h1, h2⟩ := hr (vis ++ (k, x) :: rem') ((List.Perm.append_left vis hrem.symm).trans hp)
    rw [foldR_app hf] at h1
    simp only [foldR] at h1
    cases hs : step k x s with
    | none => rw [hs] at h1; cases h1
    | some y' =>
      rw [hs] at h1
      refine ⟨y', rfl, ?_⟩
      rintro t rfl
      simp only [Option.bind_some, Option.some.injEq] at h1
      subst h1
      exact h2
  · rintro rfl
    obtain ⟨y, h1, h2⟩ := hr vis (by simpa using hp)
    rw [hf] at h1
    injection h1 with h1
    subst h1
    exact h2
  · intro e a' w' hq
    cases e with
    | normal =>
      obtain ⟨fr', ha', k, x, rem', s', hrem, hst, hI'⟩ := hq
      refine ⟨rem'.length, by rw [hrem.length_eq]; simp, vis ++ [(k, x)], rem', s', fr', ha', hI', rfl, ?_, ?_⟩
      · rw [List.append_assoc, List.singleton_append]
        exact (List.Perm.append_left vis hrem.symm).trans hp
      · rw [foldR_app hf]
        simp [foldR, hst]
    | _ => exact hq
end
section
variable {α β κ ν σ τ : Type}
def Meets (m : M α) : Prop := ∀ Q Q' : α → Prop, m Q → m Q' → ∃ x, Q x ∧ Q' x
def Mono_ (m : M α) : Prop := ∀ Q Q' : α → Prop, (∀ x, Q x → Q' x) → m Q → m Q'
theorem Meets.opt (o : Option α) : Meets (optM o) := by
  rintro Q Q' ⟨x, h1, h2⟩ ⟨y, h3, h4⟩
  rw [h1] at h3
  injection h3 with h3
  subst h3
  exact ⟨x, h2, h4⟩
theorem Meets.ret (x : α) : Meets (retM x) := fun _ _ h h1 => ⟨x, h, h1⟩
theorem Meets.bind {m : M β} {f : β → M α} (h : Meets m) (hf : ∀ x, Meets (f x)) : Meets (bindM m f) := by
  intro Q Q' h1 h2
  obtain ⟨x, h3, h4⟩ := h _ _ h1 h2
  exact hf x _ _ h3 h4
theorem Meets.cond {c : Bool} {x y : M α} (hx : Meets x) (hy : Meets y) : Meets (bif c then x else y) := by cases c <;> assumption
theorem Meets.no : Meets (fun _ => False : M α) := fun _ _ h => h.elim
theorem Meets.range (step : κ → ν → σ → Option (σ ⊕ τ)) (l : List (κ × ν)) (s : σ) : Meets (rangeM step l s) := by
  intro Q Q' h1 h2
  obtain ⟨x, h3, h4⟩ := h1 l (List.Perm.refl _)
  obtain ⟨y, h5, h6⟩ := h2 l (List.Perm.refl _)
  rw [h3] at h5
  injection h5 with h5
  subst h5
  exact ⟨x, h4, h6⟩
theorem Meets.loop {step : σ → M (σ ⊕ τ)} (h : ∀ s, Meets (step s)) (s : σ) : Meets (loopM step s) := by
  rintro Q Q' ⟨k, h1⟩ ⟨k', h2⟩
  induction k generalizing s k' with
  | zero => exact h1.elim
  | succ k ih =>
    cases k' with
    | zero => exact h2.elim
    | succ k' =>
      obtain ⟨r, h3, h4⟩ := h s _ _ h1 h2
      cases r with
      | inl s' => exact ih s' h3 k' h4
      | inr t => exact ⟨t, h3, h4⟩
theorem Mono_.opt (o : Option α) : Mono_ (optM o) := fun _ _ h ⟨x, h1, h2⟩ => ⟨x, h1, h x h2⟩
theorem Mono_.ret (x : α) : Mono_ (retM x) := fun _ _ h h1 => h x h1
theorem Mono_.bind {m : M β} {f : β → M α} (h : Mono_ m) (hf : ∀ x, Mono_ (f x)) : Mono_ (bindM m f) := fun Q Q' hq h1 => h _ _ (fun x => hf x Q Q' hq) h1
theorem Mono_.cond {c : Bool} {x y : M α} (hx : Mono_ x) (hy : Mono_ y) : Mono_ (bif c then x else y) := by cases c <;> assumption
theorem Mono_.no : Mono_ (fun _ => False : M α) := fun _ _ _ h => h
theorem Mono_.range (step : κ → ν → σ → Option (σ ⊕ τ)) (l : List (κ × ν)) (s : σ) : Mono_ (rangeM step l s) := fun _ _ hq h l' hl' => by
  obtain ⟨y, h1, h2⟩ := h l' hl'
  exact ⟨y, h1, hq y h2⟩
end
end Go.Gv
namespace Go.Gv
open Go
structure Cel {α : Type} (sz : Nat) (rel : Mem → List Value → α → Prop) (I : Mem) (cs : List Value) (xs : List α) : Prop where
  len : cs.length = xs.length * sz
  one : ∀ v ∈ cs, v.oneCell' = true
  el : ∀ i x, xs[i]? = some x → ∃ es, es.length = sz ∧ rel I es x ∧ ∀ j v, es[j]? = some v → cs[i * sz + j]? = some v
def Hol (c : Array Value) (off : Nat) (cs : List Value) : Prop := ∀ j v, cs[j]? = some v → c[off + j]? = some v
section
variable {α : Type} {sz : Nat} {rel : Mem → List Value → α → Prop} {I C : Mem} {cs ds : List Value} {xs ys : List α} {T cap : Nat} {a : Option Addr}
theorem Cel.nil : Cel sz rel I [] ([] : List α) := ⟨by simp, by simp, by simp⟩
theorem Cel.take (h : Cel sz rel I cs xs) (k : Nat) : Cel sz rel I (cs.take (k * sz)) (xs.take k) := by
  refine ⟨?_, fun v hv => h.one v (List.mem_of_mem_take hv), fun i x hx => ?_⟩
  · rw [List.length_take, List.length_take, h.len, ← Nat.mul_comm sz, ← Nat.mul_comm sz, ← Nat.mul_comm sz]
    rcases Nat.le_total k xs.length with h1 | h1
    · rw [Nat.min_eq_left h1, Nat.min_eq_left (Nat.mul_le_mul_left _ h1)]
    · rw [Nat.min_eq_right h1, Nat.min_eq_right (Nat.mul_le_mul_left _ h1)]
  · rw [List.getElem?_take] at hx
    split at hx
    · rename_i hik
      obtain ⟨es, h1, h2, h3⟩ := h.el i x hx
      refine ⟨es, h1, h2, fun j v hj => ?_⟩
      have hjs : j < sz := by rw [← h1]; exact (List.getElem?_eq_some_iff.1 hj).1
      have : (i + 1) * sz ≤ k * sz := Nat.mul_le_mul_right _ hik
      rw [Nat.add_mul] at this
      rw [List.getElem?_take, if_pos (by omega)]
      exact h3 j v hj
    · cases hx
theorem Cel.drop (h : Cel sz rel I cs xs) (k : Nat) : Cel sz rel I (cs.drop (k * sz)) (xs.drop k) := by
  refine ⟨?_, fun v hv => h.one v (List.mem_of_mem_drop hv), fun i x hx => ?_⟩
  · rw [List.length_drop, List.length_drop, h.len, Nat.sub_mul]
  · rw [List.getElem?_drop] at hx
    obtain ⟨es, h1, h2, h3⟩ := h.el _ x hx
    refine ⟨es, h1, h2, fun j v hj => ?_⟩
    have := h3 j v hj
    rw [List.getElem?_drop, ← this]
    congr 1
    rw [Nat.add_mul]
    omega
theorem Cel.append (h : Cel sz rel I cs xs) (g : Cel sz rel I ds ys) : Cel sz rel I (cs ++ ds) (xs ++ ys) := by
  refine ⟨by rw [List.length_append, List.length_append, h.len, g.len, Nat.add_mul], fun v hv => ?_, fun i x hx => ?_⟩
  · rcases List.mem_append.1 hv with hv | hv
    · exact h.one v hv
    · exact g.one v hv
  · by_cases hi : i < xs.length
    · rw [List.getElem?_append_left hi] at hx
      obtain ⟨es, h1, h2, h3⟩ := h.el i x hx
      refine ⟨es, h1, h2, fun j v hj => ?_⟩
      have := h3 j v hj
      rw [List.getElem?_append_left (List.getElem?_eq_some_iff.1 this).1]
      exact this
    · rw [List.getElem?_append_right (by omega)] at hx
      obtain ⟨es, h1, h2, h3⟩ := g.el _ x hx
      refine ⟨es, h1, h2, fun j v hj => ?_⟩
      have := h3 j v hj
      have e : i * sz = xs.length * sz + (i - xs.length) * sz := by rw [← Nat.add_mul]; congr 1; omega
      rw [List.getElem?_append_right (by rw [h.len]; omega), h.len, ← this]
      congr 1
      omega
theorem Cel.own (h : Cel sz rel I cs xs) {c : Array Value} {b off : Nat} (hh : Hol c off cs) (hle : xs.length ≤ cap) (hlt : cap < big) (hs : off + cap * sz ≤ c.size) : OwnSl T sz rel I (Gv.one b (.cells c T (0, 0))) (some ⟨b, off, none⟩) cap xs := by
  refine ⟨⟨hle, hlt, fun i x hx => ⟨rfl, ?_⟩⟩, .inr ⟨b, off, c, rfl, rfl, hs⟩⟩
  obtain ⟨es, h1, h2, h3⟩ := h.el i x hx
  refine ⟨es, h1, h2, c, T, (0, 0), one_at _ _, fun j v hj => ?_⟩
  have := hh _ v (h3 j v hj)
  rw [← this]
  show c[off + i * sz + j]? = _
  congr 1
  omega
theorem OwnSl.block (h : OwnSl T sz rel I C a cap xs) (hn : a ≠ none) : ∃ b off c, a = some ⟨b, off, none⟩ ∧ C = Gv.one b (.cells c T (0, 0)) ∧ off + cap * sz ≤ c.size := by
  rcases h.own with ⟨rfl, _⟩ | h
  · exact absurd rfl hn
  · exact h
theorem OwnSl.ne (h : OwnSl T sz rel I C a cap xs) (hn : xs ≠ []) : a ≠ none := by
  rintro rfl
  exact hn h.sl.none_nil
theorem Hol.rd {b off : Nat} {c : Array Value} (h : ∀ w, Rdb w (Gv.one b (.cells c T (0, 0))) → ∀ j v, cs[j]? = some v → w.cell? ⟨b, off + j, none⟩ = some v) {w : World} (hw : Rdb w (Gv.one b (.cells c T (0, 0)))) : Hol c off cs := by
  intro j v hj
  have := h w hw j v hj
  have hb := hw _ _ (one_at b _)
  simpa [World.cell?, hb] using this
theorem Hol.append {c : Array Value} {off : Nat} (h : Hol c off cs) (g : Hol c (off + cs.length) ds) : Hol c off (cs ++ ds) := by
  intro j v hj
  by_cases hlt : j < cs.length
  · rw [List.getElem?_append_left hlt] at hj; exact h j v hj
  · rw [List.getElem?_append_right (by omega)] at hj
    have := g _ v hj
    rwa [show off + cs.length + (j - cs.length) = off + j by omega] at this
theorem Hol.take {c : Array Value} {off : Nat} (h : Hol c off cs) (k : Nat) : Hol c off (cs.take k) := by
  intro j v hj
  rw [List.getElem?_take] at hj
  split at hj
  · exact h j v hj
  · cases hj
theorem Hol.drop {c : Array Value} {off : Nat} (h : Hol c off cs) (k : Nat) : Hol c (off + k) (cs.drop k) := by
  intro j v hj
  rw [List.getElem?_drop] at hj
  have := h _ v hj
  rwa [show off + (k + j) = off + k + j by omega] at this
theorem Hol.wrt {c : Array Value} {off : Nat} (vs : List Value) (h : off + vs.length ≤ c.size) : Hol (Gv.wrt c off vs) off vs := by
  intro j v hj
  rw [wrt_in vs c off j (List.getElem?_eq_some_iff.1 hj).1 h]
  exact hj
theorem Hol.apart {c : Array Value} {off o : Nat} {vs : List Value} (h : Hol c off cs) (hd : off + cs.length ≤ o ∨ o + vs.length ≤ off) : Hol (Gv.wrt c o vs) off cs := by
  intro j v hj
  have := (List.getElem?_eq_some_iff.1 hj).1
  rw [wrt_out _ _ _ _ (by omega)]
  exact h j v hj
end
section
variable {P : Program} {n : Nat} {K : World → Prop} {qt : Op → Bool} {z : Nat} {ops : Array Oper} {Q : Exit → Act → World → Prop} {fr : Fr} {w E : World} {l : List Nat} {i : Nat} {I C D : Mem} {Os : List Mem}
  {dst : Option Tmp} {ty : TypeId} {pos : String} {after : Array Edge} {guard : Option (Nat × Bool)} {α : Type} {sz T : Nat} {rel : Mem → List Value → α → Prop}
theorem SlAt.take {H : Mem} {a : Option Addr} {cap : Nat} {xs : List α} (h : SlAt sz rel H I a cap xs) (k : Nat) : SlAt sz rel H I a cap (xs.take k) :=
  ⟨by have := h.le; rw [List.length_take]; omega, h.lt, fun i x hx => by
    rw [List.getElem?_take] at hx
    split at hx
    · exact h.el i x hx
    · cases hx⟩
end
end Go.Gv
namespace Go.Gv
open Go
section
variable {α : Type} {sz : Nat} {H I : Mem} {a : Option Addr} {cap : Nat} {xs : List α}
theorem SlAt.map {R R' : Mem → List Value → α → Prop} (hm : ∀ cs x, R I cs x → R' I cs x) (h : SlAt sz R H I a cap xs) : SlAt sz R' H I a cap xs :=
  ⟨h.le, h.lt, fun i x hx => by
    obtain ⟨e, cs, h1, h2, h3⟩ := h.el i x hx
    exact ⟨e, cs, h1, hm _ _ h2, h3⟩⟩
theorem ybt {R : Nat → Mem → List Value → α → Prop} (hm : ∀ k cs x, R k I cs x → R (k + 1) I cs x) (h : SlAt sz (fun I cs x => ∃ k, R k I cs x) H I a cap xs) : ∃ k, SlAt sz (R k) H I a cap xs := by
  have up : ∀ k d cs x, R k I cs x → R (k + d) I cs x := by
    intro k d
    induction d with
    | zero => exact fun cs x h => h
    | succ d ih => exact fun cs x h => hm _ _ _ (ih cs x h)
  have key : ∀ n, ∃ K, ∀ i x, i < n → xs[i]? = some x → a = some ⟨bl a, of a, none⟩ ∧ ∃ cs, cs.length = sz ∧ R K I cs x ∧ CellsAt H (bl a) (of a + i * sz) cs := by
    intro n
    induction n with
    | zero => exact ⟨0, fun i x hi => by omega⟩
    | succ n ih =>
      obtain ⟨K, hK⟩ := ih
      cases hx : xs[n]? with
      | none =>
        refine ⟨K, fun i x hi hix => ?_⟩
        by_cases e : i = n
        · subst e; rw [hx] at hix; cases hix
        · exact hK i x (by omega) hix
      | some y =>
        obtain ⟨e0, cs0, g1, ⟨k, g2⟩, g3⟩ := h.el n y hx
        refine ⟨K + k, fun i x hi hix => ?_⟩
        by_cases e : i = n
        · subst e
          rw [hx] at hix
          injection hix with hix
          subst hix
          exact ⟨e0, cs0, g1, by rw [Nat.add_comm]; exact up k K _ _ g2, g3⟩
        · obtain ⟨f1, cs, f2, f3, f4⟩ := hK i x (by omega) hix
          exact ⟨f1, cs, f2, up K k _ _ f3, f4⟩
  obtain ⟨K, hK⟩ := key xs.length
  exact ⟨K, h.le, h.lt, fun i x hx => hK i x (List.getElem?_eq_some_iff.1 hx).1 hx⟩
end
theorem nn_of {α : Type} {sz : Nat} {rel : Mem → List Value → α → Prop} {H I : Mem} {a : Option Addr} {cap : Nat} {xs : List α} (h : SlAt sz rel H I a cap xs) (hm : (!xs.isEmpty) = true) : a.isNone = false := by
  cases a with
  | none =>
    have := h.none_nil
    subst this
    cases hm
  | some x => rfl
section
variable {P : Program} {n : Nat} {K : World → Prop} {qt : Op → Bool} {z : Nat} {ops : Array Oper} {Q : Exit → Act → World → Prop} {fr : Fr} {w : World} {l : List Nat} {i : Nat}
  {dst : Option Tmp} {ty : TypeId} {pos : String} {after : Array Edge} {guard : Option (Nat × Bool)}
theorem WO.neNil {t t' : TypeId} {x y : Operand} (ho : ops[i]? = some ⟨dst, .binOp .neq t x y t', ty, pos, after, guard⟩) (hok : okAt n ops fr ⟨dst, .binOp .neq t x y t', ty, pos, after, guard⟩ = true)
    {e : Nat} (ht : sliceOf P t = some e) {a : Option Addr} {len cap : Nat} (hx : ev fr x = .slice a len cap) (hy : ev fr y = .slice none 0 0) (h : WO P n K qt z ops Q l (pt fr dst (.bool (!a.isNone))) w) : WO P n K qt z ops Q (i :: l) fr w := by
  refine ybp ho hok _ (fun w' => ?_) h
  simp only [execOp, hx, hy]
  rw [run_bind (a := Value.bool (!a.isNone)) (w' := w') (by
    have hg : (eqGuard .neq t x y (.slice a len cap) (.slice none 0 0)).run P w' = .ok () w' := by simp [eqGuard]
    rw [run_bind hg]
    have he : (Op.equal t (.slice a len cap) (.slice none 0 0)).run P w' = .ok a.isNone w' := by
      exact run_equal_slice_nil w' t e a len cap (sliceOf_eq ht)
    simp only [binOp]
    rw [run_bind he]
    rfl)]
  rfl
end
theorem St.lentBack {E w w' : World} {I I' C R : Mem} {Os : List Mem} (h0 : St E w I (C :: Os)) (hl : (I.with C).Le I') (h : St E w' I' (R :: Os)) : St E w' I (R :: C :: Os) := by
  have hb := St.back h0 hl h.drop
  have hR := h.ow R (by simp)
  have hp := List.pairwise_cons.1 h.dj
  have hno : ∀ b, R b = none ∨ (I.with C) b = none := fun b => by
    rcases hR.2 b with e | e
    · exact .inl e
    · right
      cases hx : (I.with C) b with
      | none => rfl
      | some o => rw [hl b o hx] at e; cases e
  refine ⟨hb.os, hb.tape, hb.output, hb.im, fun D hD => ?_, List.pairwise_cons.2 ⟨fun D hD => ?_, hb.dj⟩⟩
  · rcases List.mem_cons.1 hD with rfl | hD
    · refine ⟨hR.1, fun b => ?_⟩
      rcases hno b with e | e
      · exact .inl e
      · right
        cases hx : I b with
        | none => rfl
        | some o => rw [ybd I C b o hx] at e; cases e
    · exact hb.ow D hD
  · rcases List.mem_cons.1 hD with rfl | hD
    · intro b
      rcases hno b with e | e
      · exact .inl e
      · right
        cases hx : D b with
        | none => rfl
        | some o => rw [h0.with_right b o hx] at e; cases e
    · exact hp.1 D hD
theorem St.front6 {E w : World} {I : Mem} {Os : List Mem} {A B C D F G H : Mem} (h : St E w I (A :: B :: C :: D :: F :: G :: H :: Os)) : St E w I (H :: A :: B :: C :: D :: F :: G :: Os) := h.perm (List.perm_middle (l₁ := [A, B, C, D, F, G]))
theorem St.front7 {E w : World} {I : Mem} {Os : List Mem} {A B C D F G H J : Mem} (h : St E w I (A :: B :: C :: D :: F :: G :: H :: J :: Os)) : St E w I (J :: A :: B :: C :: D :: F :: G :: H :: Os) := h.perm (List.perm_middle (l₁ := [A, B, C, D, F, G, H]))
theorem St.front8 {E w : World} {I : Mem} {Os : List Mem} {A B C D F G H J K : Mem} (h : St E w I (A :: B :: C :: D :: F :: G :: H :: J :: K :: Os)) : St E w I (K :: A :: B :: C :: D :: F :: G :: H :: J :: Os) := h.perm (List.perm_middle (l₁ := [A, B, C, D, F, G, H, J]))
theorem St.front9 {E w : World} {I : Mem} {Os : List Mem} {A B C D F G H J K L : Mem} (h : St E w I (A :: B :: C :: D :: F :: G :: H :: J :: K :: L :: Os)) : St E w I (L :: A :: B :: C :: D :: F :: G :: H :: J :: K :: Os) := h.perm (List.perm_middle (l₁ := [A, B, C, D, F, G, H, J, K]))
theorem Rdb.eq {w : World} {A B : Mem} (e : A = B) (h : Rdb w A) : Rdb w B := e ▸ h
theorem OwnSl.flat {α : Type} {T sz : Nat} {rel : Mem → List Value → α → Prop} {I C : Mem} {a : Option Addr} {cap : Nat} {xs : List α} (h : OwnSl T sz rel I C a cap xs) (J : Mem) (hf : ∀ {cs x}, rel I cs x → rel J cs x) : OwnSl T sz rel J C a cap xs :=
  ⟨⟨h.sl.le, h.sl.lt, fun i x hx => let ⟨e, cs, hn, hr, hc⟩ := h.sl.el i x hx; ⟨e, cs, hn, hf hr, hc⟩⟩, h.own⟩
end Go.Gv
namespace Go.Gv
def Le {α : Type} (x y : Option α) : Prop := ∀ r, x = some r → y = some r
section
variable {α β σ τ : Type}
theorem Le.refl (x : Option α) : Le x x := fun _ h => h
theorem Le.none (x : Option α) : Le none x := fun _ h => by cases h
theorem Le.bind {x y : Option α} {f g : α → Option β} (h : Le x y) (hf : ∀ a, Le (f a) (g a)) : Le (x.bind f) (y.bind g) := fun r hr => by
  cases hx : x with
  | none => rw [hx] at hr; cases hr
  | some a =>
    rw [hx] at hr
    rw [h a hx]
    exact hf a r hr
theorem Le.cond {b : Bool} {x y x' y' : Option α} (h : Le x x') (g : Le y y') : Le (bif b then x else y) (bif b then x' else y') := by cases b; exact g; exact h
theorem Le.eq {x y : Option α} {r : α} (h : Le x y) (hx : x = some r) : y = some r := h r hx
def loopC (step : σ → Option (σ ⊕ τ)) : Nat → σ → Option τ
  | 0, _ => none
  | n + 1, s => (step s).bind fun x => match x with | .inl s' => loopC step n s' | .inr t => some t
theorem Le.loop {f g : σ → Option (σ ⊕ τ)} (h : ∀ s, Le (f s) (g s)) : ∀ (n : Nat) (s : σ), Le (loopC f n s) (loopO g s)
  | 0, s => Le.none _
  | n + 1, s => fun r hr => by
    simp only [loopC] at hr
    cases hx : f s with
    | none => rw [hx] at hr; cases hr
    | some x =>
      rw [hx] at hr
      have hg := h s x hx
      cases x with
      | inl s' => rw [loopO_next hg]; exact Le.loop h n s' r hr
      | inr t => rw [loopO_stop hg]; exact hr
theorem Le.forE {f g : Nat → σ → Option σ} (h : ∀ i s, Le (f i s) (g i s)) : ∀ (n i : Nat) (s : σ), Le (Gv.forE f n i s) (Gv.forE g n i s)
  | 0, i, s => Le.refl _
  | n + 1, i, s => by
    simp only [Gv.forE]
    exact Le.bind (h i s) (fun s' => Le.forE h n (i + 1) s')
theorem Le.forN {f g : Nat → σ → Option (σ ⊕ τ)} (h : ∀ i s, Le (f i s) (g i s)) : ∀ (n i : Nat) (s : σ), Le (Gv.forN f n i s) (Gv.forN g n i s)
  | 0, i, s => Le.refl _
  | n + 1, i, s => by
    simp only [Gv.forN]
    exact Le.bind (h i s) (fun x => by cases x with | inl s' => exact Le.forN h n (i + 1) s' | inr t => exact Le.refl _)
end
end Go.Gv
