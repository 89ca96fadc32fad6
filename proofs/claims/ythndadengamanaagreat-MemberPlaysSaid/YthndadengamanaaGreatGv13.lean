/- Plain laws: what computations that may fail come to; loops by invariants; sums that do not wrap. Conditions: none. -/
import Derived.Test.YthndadengamanaaGreatGv12
namespace Go.Gv
/-- What comes out is so; and something comes out, if b. -/
structure RB {α : Type} (b : Prop) (m : Option α) (Q : α → Prop) : Prop where
  is : b → ∃ r, m = some r
  so : ∀ r, m = some r → Q r
abbrev Ret {α : Type} (m : Option α) (Q : α → Prop) : Prop := RB True m Q
section
variable {α β σ τ : Type} {b : Prop} {Q : α → Prop} {R : β → Prop}
theorem Ret.ex {m : Option α} (h : Ret m Q) : ∃ r, m = some r ∧ Q r := by
  obtain ⟨r, hr⟩ := h.is trivial
  exact ⟨r, hr, h.so r hr⟩
theorem Ret.eq {m : Option α} {r : α} (h : Ret m (fun x => x = r)) : m = some r := by
  obtain ⟨x, hx, rfl⟩ := h.ex
  exact hx
theorem RB.of {m : Option α} {r : α} (h : m = some r) (hq : Q r) : RB b m Q := ⟨fun _ => ⟨r, h⟩, fun x hx => by rw [h] at hx; injection hx with hx; subst hx; exact hq⟩
theorem RB.ret {r : α} (hq : Q r) : RB b (some r) Q := RB.of rfl hq
theorem RB.none (h : ¬ b) : RB b (none : Option α) Q := ⟨fun hb => absurd hb h, fun r hr => by cases hr⟩
theorem RB.mono {m : Option α} {Q' : α → Prop} (h : RB b m Q) (hq : ∀ r, Q r → Q' r) : RB b m Q' := ⟨h.is, fun r hr => hq r (h.so r hr)⟩
theorem RB.weak {b' : Prop} {m : Option α} (h : RB b' m Q) (hb : b → b') : RB b m Q := ⟨fun x => h.is (hb x), h.so⟩
theorem RB.bind {m : Option β} {f : β → Option α} (h : RB b m R) (hf : ∀ x, R x → RB b (f x) Q) : RB b (m.bind f) Q := by
  refine ⟨fun hb => ?_, fun r hr => ?_⟩
  · obtain ⟨x, hx⟩ := h.is hb
    obtain ⟨y, hy⟩ := (hf x (h.so x hx)).is hb
    exact ⟨y, by rw [hx]; exact hy⟩
  · cases hm : m with
    | none => rw [hm] at hr; cases hr
    | some x => rw [hm] at hr; exact (hf x (h.so x hm)).so r hr
theorem RB.bindE {m : Option β} {x : β} {f : β → Option α} (h : m = some x) (hf : RB b (f x) Q) : RB b (m.bind f) Q := by
  rw [h]; exact hf
theorem RB.cond {c : Bool} {x y : Option α} (ht : c = true → RB b x Q) (hf : c = false → RB b y Q) : RB b (bif c then x else y) Q := by
  cases c with
  | true => exact ht rfl
  | false => exact hf rfl
theorem RB.fuel {f : Nat → Option α} {N : Nat} (h : ∀ n, RB (N ≤ n) (f n) Q) : Ret (anyFuel f) Q := by
  refine ⟨fun _ => ?_, fun r hr => ?_⟩
  · obtain ⟨r, hr⟩ := (h N).is (Nat.le_refl _)
    unfold anyFuel
    rw [dif_pos ⟨N, r, hr⟩]
    exact ⟨_, rfl⟩
  · obtain ⟨n, hn⟩ := anyFuel_some hr
    exact (h n).so r hn
theorem idx_nat (xs : List α) (i : Nat) : idx xs (i : Int) = xs[i]? := by
  unfold idx
  rw [if_pos (by omega)]
  rfl
theorem idx_at {xs : List α} {i : Int} {j : Nat} {x : α} (hi : i = (j : Int)) (hx : xs[j]? = some x) : idx xs i = some x := by
  subst hi
  rw [idx_nat]
  exact hx
theorem idx_lt {xs : List α} {i : Int} (h0 : 0 ≤ i) (h1 : i < (xs.length : Int)) : ∃ x, idx xs i = some x ∧ xs[i.toNat]? = some x := by
  have : i.toNat < xs.length := by omega
  refine ⟨xs[i.toNat], ?_, List.getElem?_eq_getElem this⟩
  unfold idx
  rw [if_pos h0]
  exact List.getElem?_eq_getElem this
theorem idx_mem {xs : List α} {i : Nat} (h : i < xs.length) : idx xs (i : Int) = some xs[i] := by
  rw [idx_nat]
  exact List.getElem?_eq_getElem h
theorem app_le {n : Nat} {xs ys : List α} (h : (xs.length + ys.length) * n ≤ 140737488355328) : app n xs ys = some (xs ++ ys) := by
  unfold app
  rw [if_pos h]
theorem sub_at {xs : List α} {lo hi : Int} {i j : Nat} (hl : lo = (i : Int)) (hh : hi = (j : Int)) (h1 : i ≤ j) (h2 : j ≤ xs.length) : sub xs lo hi = some ((xs.take j).drop i) := by
  subst hl; subst hh
  unfold sub
  rw [if_pos ⟨by omega, by omega, by omega⟩]
  rfl
theorem w64_id {n : Int} (h1 : -9223372036854775808 ≤ n) (h2 : n < 9223372036854775808) : w64 n = n := by
  unfold w64
  simp only [IntKind.wrap, IntKind.signed, IntKind.bits]
  simp
  omega
/-! ### Loops -/
theorem loopO_rb {step : σ → Option (σ ⊕ τ)} (I : σ → Prop) (μ : σ → Nat) {Q : τ → Prop} (hs : ∀ s, I s → RB b (step s) (fun r => match r with | .inl s' => I s' ∧ μ s' < μ s | .inr t => Q t)) {s : σ} (h0 : I s) : RB b (loopO step s) Q := by
  generalize hm : μ s = m
  induction m using Nat.strongRecOn generalizing s with
  | _ m ih =>
    have h1 := hs s h0
    cases hx : step s with
    | none =>
      refine ⟨fun hb => ?_, fun r hr => ?_⟩
      · obtain ⟨y, hy⟩ := h1.is hb
        rw [hx] at hy
        cases hy
      · obtain ⟨k, hk⟩ := loopO_some.1 hr
        cases k with
        | zero => cases hk
        | succ k => simp [it, hx] at hk
    | some x =>
      have h2 := h1.so x hx
      cases x with
      | inl s' =>
        simp only at h2
        rw [loopO_next hx]
        exact ih (μ s') (by omega) h2.1 rfl
      | inr t =>
        rw [loopO_stop hx]
        exact RB.ret h2
theorem forE_rb {step : Nat → σ → Option σ} (I : Nat → σ → Prop) : ∀ (n i : Nat) (s : σ), (∀ j s, i ≤ j → j < i + n → I j s → RB b (step j s) (I (j + 1))) → I i s → RB b (forE step n i s) (I (i + n))
  | 0, i, s, _, h => RB.ret h
  | n + 1, i, s, hs, h => by
    simp only [forE]
    refine RB.bind (hs i s (Nat.le_refl _) (by omega) h) fun s' h' => ?_
    have := forE_rb I n (i + 1) s' (fun j s h1 h2 => hs j s (by omega) (by omega)) h'
    rwa [show i + 1 + n = i + (n + 1) by omega] at this
theorem forN_rb {step : Nat → σ → Option (σ ⊕ τ)} (I : Nat → σ → Prop) {Q : τ → Prop} : ∀ (n i : Nat) (s : σ), (∀ j s, i ≤ j → j < i + n → I j s → RB b (step j s) (fun r => match r with | .inl s' => I (j + 1) s' | .inr t => Q t)) → I i s →
    RB b (forN step n i s) (fun r => match r with | .inl s' => I (i + n) s' | .inr t => Q t)
  | 0, i, s, _, h => RB.ret h
  | n + 1, i, s, hs, h => by
    simp only [forN]
    refine RB.bind (hs i s (Nat.le_refl _) (by omega) h) fun r h' => ?_
    cases r with
    | inl s' =>
      have := forN_rb I n (i + 1) s' (fun j s h1 h2 => hs j s (by omega) (by omega)) h'
      rwa [show i + 1 + n = i + (n + 1) by omega] at this
    | inr t => exact RB.ret h'
theorem forE_ret {step : Nat → σ → Option σ} (I : Nat → σ → Prop) {n : Nat} {s : σ} (h : I 0 s) (hs : ∀ j s, j < n → I j s → RB b (step j s) (I (j + 1))) : RB b (forE step n 0 s) (I n) := by
  have := forE_rb I n 0 s (fun j s _ h2 => hs j s (by omega)) h
  rwa [Nat.zero_add] at this
theorem forN_ret {step : Nat → σ → Option (σ ⊕ τ)} (I : Nat → σ → Prop) {Q : τ → Prop} {n : Nat} {s : σ} (h : I 0 s) (hs : ∀ j s, j < n → I j s → RB b (step j s) (fun r => match r with | .inl s' => I (j + 1) s' | .inr t => Q t)) :
    RB b (forN step n 0 s) (fun r => match r with | .inl s' => I n s' | .inr t => Q t) := by
  have := forN_rb I n 0 s (fun j s _ h2 => hs j s (by omega)) h
  rwa [Nat.zero_add] at this
/-- A search for what is not so. -/
theorem forN_all {step : Nat → Unit → Option (Unit ⊕ τ)} {v : τ} (p : Nat → Bool) : ∀ (n i : Nat), (∀ j, i ≤ j → j < i + n → step j () = some (bif p j then .inl () else .inr v)) → forN step n i () = some (bif (List.range' i n).all p then .inl () else .inr v)
  | 0, i, _ => rfl
  | n + 1, i, h => by
    simp only [forN, List.range'_succ, List.all_cons]
    rw [h i (Nat.le_refl _) (by omega)]
    cases p i with
    | true => simpa using forN_all p n (i + 1) (fun j h1 h2 => h j (by omega) (by omega))
    | false => rfl
/-- A search through a list for what is not so. -/
theorem forN_list {step : Nat → Unit → Option (Unit ⊕ τ)} {v : τ} (p : α → Bool) {xs : List α} (h : ∀ j x, xs[j]? = some x → step j () = some (bif p x then .inl () else .inr v)) : forN step xs.length 0 () = some (bif xs.all p then .inl () else .inr v) := by
  have key : ∀ (ys : List α) (i : Nat), (∀ j x, ys[j]? = some x → xs[i + j]? = some x) → forN step ys.length i () = some (bif ys.all p then .inl () else .inr v) := by
    intro ys
    induction ys with
    | nil => intro i _; rfl
    | cons y r ih =>
      intro i hy
      simp only [List.length_cons, forN, List.all_cons]
      rw [h i y (by simpa using hy 0 y rfl)]
      cases p y with
      | true => simpa using ih (i + 1) (fun j x hx => by have := hy (j + 1) x (by simpa using hx); rwa [show i + (j + 1) = i + 1 + j by omega] at this)
      | false => rfl
  exact key xs 0 (fun j x hx => by rwa [Nat.zero_add])
/-- A loop through a list. -/
theorem forE_list {step : Nat → σ → Option σ} (g : σ → α → σ) {xs : List α} {s : σ} (h : ∀ j x s, xs[j]? = some x → step j s = some (g s x)) : forE step xs.length 0 s = some (xs.foldl g s) := by
  have key : ∀ (ys : List α) (i : Nat) (s : σ), (∀ j x, ys[j]? = some x → xs[i + j]? = some x) → forE step ys.length i s = some (ys.foldl g s) := by
    intro ys
    induction ys with
    | nil => intro i s _; rfl
    | cons y r ih =>
      intro i s hy
      simp only [List.length_cons, forE, List.foldl_cons]
      rw [h i y s (by simpa using hy 0 y rfl)]
      exact ih (i + 1) _ (fun j x hx => by have := hy (j + 1) x (by simpa using hx); rwa [show i + (j + 1) = i + 1 + j by omega] at this)
  exact key xs 0 s (fun j x hx => by rwa [Nat.zero_add])
/-- A search through a list for the first that is so, and what is made of its place. -/
theorem forN_find {step : Nat → Unit → Option (Unit ⊕ τ)} (p : α → Bool) (v : Nat → τ) {xs : List α} (h : ∀ j x, xs[j]? = some x → step j () = some (bif p x then .inr (v j) else .inl ())) :
    forN step xs.length 0 () = some (match xs.findIdx? p with | some j => .inr (v j) | none => .inl ()) := by
  have key : ∀ (ys : List α) (i : Nat), (∀ j x, ys[j]? = some x → xs[i + j]? = some x) → forN step ys.length i () = some (match ys.findIdx? p with | some j => .inr (v (i + j)) | none => .inl ()) := by
    intro ys
    induction ys with
    | nil => intro i _; rfl
    | cons y r ih =>
      intro i hy
      simp only [List.length_cons, forN, List.findIdx?_cons]
      rw [h i y (by simpa using hy 0 y rfl)]
      cases hp : p y with
      | true => simp
      | false =>
        simp only [cond_false, Option.bind_some, Bool.false_eq_true, if_false]
        rw [ih (i + 1) (fun j x hx => by have := hy (j + 1) x (by simpa using hx); rwa [show i + (j + 1) = i + 1 + j by omega] at this)]
        cases r.findIdx? p with
        | none => rfl
        | some j => simp only [Option.map_some]; rw [show i + 1 + j = i + (j + 1) by omega]
  simpa using key xs 0 (fun j x hx => by rwa [Nat.zero_add])
end
end Go.Gv
