/- Locks: what holds of them whatever is done. Conditions: none. -/
import Derived.Test.YtdmefifamlpbiaaBase
namespace Go.Proofs.Ytdmefifamlpbiaa
open Go.Gv
structure Pre (n : Nat) (p : Place) : Prop where
  nd : ((p.held ++ p.queue).map (·.who)).Nodup
  wh : ∀ x ∈ p.held ++ p.queue, 1 ≤ x.who ∧ x.who ≤ 8 ∧ 1 ≤ x.mode
  len : p.held.length + p.queue.length ≤ n
  go : p.held.Pairwise (fun x y => G x.mode y.mode = true)
structure PlOk (n : Nat) (p : Place) : Prop extends Pre n p where
  bl : ∀ y r, p.queue = y :: r → ∃ x ∈ p.held, G x.mode y.mode = false
structure Inv (n : Nat) (l : mdl_Locks) : Prop where
  nd : (l.at_.map (·.1)).Nodup
  len : l.at_.length ≤ n
  ks : ∀ k ∈ l.at_.map (·.1), k.size ≤ 100
  pl : ∀ k, PlOk n (Pl l k)
  ne : ∀ k ∈ l.at_.map (·.1), (Pl l k).held ≠ []
  w1 : ∀ k k' x x', x ∈ (Pl l k).queue → x' ∈ (Pl l k').queue → x.who = x'.who → k = k'
theorem pl_none {l : mdl_Locks} {k : ByteArray} (h : k ∉ l.at_.map (·.1)) : Pl l k = ⟨[], []⟩ := by
  unfold Pl
  rw [mget_none keq h]
  rfl
theorem mset_len {κ ν : Type} {eq : κ → κ → Bool} (h : KEq eq) (l : List (κ × ν)) (k : κ) (v : ν) : (mset eq l k v).length ≤ l.length + 1 ∧ (k ∈ l.map (·.1) → (mset eq l k v).length ≤ l.length) := by
  induction l with
  | nil => rw [mset_nil]; simp
  | cons p r ih =>
    obtain ⟨a, u⟩ := p
    rw [mset_cons]
    cases he : eq k a with
    | true => simp
    | false =>
      have hn : k ≠ a := fun e => by rw [(h k a).2 e] at he; cases he
      simp only [cond_false, List.length_cons, List.map_cons, List.mem_cons]
      refine ⟨by omega, ?_⟩
      rintro (e | e)
      · exact absurd e hn
      · have := ih.2 e
        omega
theorem mget_mem {κ ν : Type} {eq : κ → κ → Bool} (h : KEq eq) {l : List (κ × ν)} (hn : (l.map (·.1)).Nodup) {k : κ} {v : ν} (hm : (k, v) ∈ l) : mget eq l k = some v := by
  induction l with
  | nil => cases hm
  | cons p r ih =>
    obtain ⟨a, u⟩ := p
    rw [mget_cons]
    simp only [List.map_cons, List.nodup_cons] at hn
    rcases List.mem_cons.1 hm with e | e
    · injection e with e1 e2
      subst e1 e2
      rw [h.refl]
      rfl
    · have hne : k ≠ a := fun e2 => hn.1 (e2 ▸ List.mem_map.2 ⟨(k, v), e, rfl⟩)
      rw [h.ne hne]
      exact ih hn.2 e
theorem Inv.mem {n : Nat} {l : mdl_Locks} (h : Inv n l) {k : ByteArray} {p : Place} (hm : (k, p) ∈ l.at_) : Pl l k = p := by
  unfold Pl
  rw [mget_mem keq h.nd hm]
  rfl
theorem Inv.at_ {n : Nat} {l : mdl_Locks} (h : Inv n l) {k : ByteArray} (hm : k ∈ l.at_.map (·.1)) : (k, Pl l k) ∈ l.at_ := by
  obtain ⟨⟨k', p⟩, h1, h2⟩ := List.mem_map.1 hm
  simp only at h2
  subst h2
  rw [h.mem h1]
  exact h1
theorem Pre.mono {n n' : Nat} {p : Place} (h : Pre n p) (hn : n ≤ n') : Pre n' p := ⟨h.nd, h.wh, by have := h.len; omega, h.go⟩
theorem PlOk.mono {n n' : Nat} {p : Place} (h : PlOk n p) (hn : n ≤ n') : PlOk n' p := ⟨h.toPre.mono hn, h.bl⟩
theorem Inv.mono {n n' : Nat} {l : mdl_Locks} (h : Inv n l) (hn : n ≤ n') : Inv n' l := ⟨h.nd, by have := h.len; omega, h.ks, fun k => (h.pl k).mono hn, h.ne, h.w1⟩
theorem ok_nil (n : Nat) : PlOk n ⟨[], []⟩ := ⟨⟨by simp, by simp, by simp, by simp⟩, fun y r e => by cases e⟩
theorem inv_new (n : Nat) : Inv n ⟨[]⟩ := ⟨by simp, by simp, by simp, fun k => by rw [pl_none (by simp)]; exact ok_nil n, by simp, fun k k' x x' hx => by rw [pl_none (by simp)] at hx; cases hx⟩
theorem Inv.set {n n' : Nat} {l : mdl_Locks} {k : ByteArray} {p : Place} (h : Inv n l) (hn : n ≤ n') (hN : n' ≤ 1000) (hp : PlOk n' p) (hk : k.size ≤ 100) (hlen : k ∈ l.at_.map (·.1) ∨ n + 1 ≤ n')
    (hw : ∀ x ∈ p.queue, ∀ j, j ≠ k → ∀ x' ∈ (Pl l j).queue, x.who ≠ x'.who) : ∃ l', mdl_Locks_set l k p = some l' ∧ Inv n' l' ∧ Pl l' k = p ∧ ∀ j, j ≠ k → Pl l' j = Pl l j := by
  have hpl := hp.len
  have hl := h.len
  rw [set_eq l k p (by omega)]
  refine ⟨_, rfl, ?_⟩
  have key : ∀ l' : mdl_Locks, (l'.at_.map (·.1)).Nodup → l'.at_.length ≤ n' → (∀ j ∈ l'.at_.map (·.1), j = k ∧ p.held ≠ [] ∨ j ≠ k ∧ j ∈ l.at_.map (·.1)) → Pl l' k = p → (∀ j, j ≠ k → Pl l' j = Pl l j) → Inv n' l' ∧ Pl l' k = p ∧ ∀ j, j ≠ k → Pl l' j = Pl l j := by
    intro l' h1 h2 h3 h4 h5
    refine ⟨⟨h1, h2, ?_, ?_, ?_, ?_⟩, h4, h5⟩
    · intro j hj
      rcases h3 j hj with ⟨rfl, _⟩ | ⟨_, hm⟩
      · exact hk
      · exact h.ks j hm
    · intro j
      by_cases e : j = k
      · subst e; rw [h4]; exact hp
      · rw [h5 j e]; exact (h.pl j).mono hn
    · intro j hj
      rcases h3 j hj with ⟨rfl, hx⟩ | ⟨e, hm⟩
      · rw [h4]; exact hx
      · rw [h5 j e]; exact h.ne j hm
    · intro j j' x x' hx hx' he
      by_cases e : j = k <;> by_cases e' : j' = k
      · rw [e, e']
      · subst e
        rw [h4] at hx
        rw [h5 j' e'] at hx'
        exact absurd he (hw x hx j' e' x' hx')
      · subst e'
        rw [h4] at hx'
        rw [h5 j e] at hx
        exact absurd he.symm (hw x' hx' j e x hx)
      · rw [h5 j e] at hx
        rw [h5 j' e'] at hx'
        exact h.w1 j j' x x' hx hx' he
  split
  · rename_i hx
    refine key _ (mdel_nodup h.nd k) ?_ ?_ ?_ ?_
    · have := (mdel_sub (eq := sEq) l.at_ k).length_le
      simp only
      omega
    · intro j hj
      exact .inr ((mdel_mem keq h.nd k j).1 hj)
    · unfold Pl
      simp only
      rw [mget_mdel keq h.nd, keq.refl]
      obtain ⟨ph, pq⟩ := p
      simp only at hx
      rw [hx.1, hx.2]
      rfl
    · intro j hj
      unfold Pl
      simp only
      rw [mget_mdel keq h.nd, keq.ne hj]
      rfl
  · rename_i hx
    have hne : p.held ≠ [] := fun e => by
      refine hx ⟨e, ?_⟩
      cases hq : p.queue with
      | nil => rfl
      | cons y r =>
        obtain ⟨x, h1, _⟩ := hp.bl y r hq
        rw [e] at h1
        cases h1
    refine key _ (mset_nodup keq h.nd k p) ?_ ?_ ?_ ?_
    · have h1 := mset_len keq l.at_ k p
      simp only
      rcases hlen with e | e
      · have := h1.2 e
        omega
      · omega
    · intro j hj
      by_cases e : j = k
      · exact .inl ⟨e, hne⟩
      · exact .inr ⟨e, ((mset_mem keq l.at_ k p j).1 hj).resolve_left e⟩
    · unfold Pl
      simp only
      rw [mget_mset keq, keq.refl]
      rfl
    · intro j hj
      unfold Pl
      simp only
      rw [mget_mset keq, keq.ne hj]
      rfl
/-- Those who wait at a path hold it, as long as they can. -/
theorem serve_eq (l : mdl_Locks) (k : ByteArray) {n : Nat} {p : Place} (hN : n ≤ 1000) (hp : Pre n p) : ∃ T R, mdl_Locks_serve l k p = mdl_Locks_set l k ⟨p.held ++ T, R⟩ ∧ p.queue = T ++ R ∧ PlOk n ⟨p.held ++ T, R⟩ := by
  have hlen := hp.len
  have key : Ret (loopO (fun (s8 : mdl_place) => ((bif (decide ((s8.queue.length : Int) > 0)) then (idx s8.queue 0).bind (fun (x21 : mdl_one) => (mdl_place_goes s8 x21.mode).bind (fun (r27 : Bool) => some r27)) else some false)).bind (fun (j17 : Bool) => (bif j17 then ((idx s8.queue 0).bind (fun (x36 : mdl_one) => (slices_Clone_mdl_one s8.held).bind (fun (r49 : List mdl_one) => (app 16 r49 ([x36] : List mdl_one)).bind (fun (x50 : List mdl_one) => some { s8 with held := x50 })))).bind (fun (j30 : mdl_place) => (sub j30.queue 1 (j30.queue.length : Int)).bind (fun (x105 : List mdl_one) => some (.inl { j30 with queue := x105 }))) else some (.inr s8)))) p : Option mdl_place) (fun s => ∃ T R, s = ⟨p.held ++ T, R⟩ ∧ p.queue = T ++ R ∧ PlOk n ⟨p.held ++ T, R⟩) := by
    refine loopO_rb (fun s => ∃ T R, s = ⟨p.held ++ T, R⟩ ∧ p.queue = T ++ R ∧ (p.held ++ T).Pairwise (fun x y => G x.mode y.mode = true)) (fun s => s.queue.length) ?_ ⟨[], p.queue, by simp, rfl, by simpa using hp.go⟩
    rintro s ⟨T, R, rfl, hq, hg⟩
    have fin : (∀ y r, R = y :: r → ∃ x ∈ p.held ++ T, G x.mode y.mode = false) → PlOk n ⟨p.held ++ T, R⟩ := by
      intro hb
      have e : p.held ++ T ++ R = p.held ++ p.queue := by rw [hq, List.append_assoc]
      refine ⟨⟨by simp only; rw [e]; exact hp.nd, by simp only; rw [e]; exact hp.wh, ?_, hg⟩, hb⟩
      have := congrArg List.length hq
      simp at this ⊢
      omega
    cases R with
    | nil => exact RB.ret ⟨T, [], rfl, hq, fin (fun y r e => by cases e)⟩
    | cons y r =>
      have hl : T.length + (r.length + 1) = p.queue.length := by rw [hq]; simp
      have e1 : decide ((((y :: r).length : Nat) : Int) > 0) = true := by simp
      have e2 : idx (y :: r) 0 = some y := rfl
      simp only [e1, cond_true, e2, Option.bind_some, pgoes_eq]
      cases hall : ((p.held ++ T).all fun x => G x.mode y.mode) with
      | true =>
        simp only [cond_true]
        rw [clone_eq (by simp; omega)]
        simp only [Option.bind_some]
        rw [app_le (by simp; omega)]
        simp only [Option.bind_some]
        rw [sub1]
        refine RB.ret ⟨⟨T ++ [y], r, by rw [List.append_assoc], by rw [hq]; simp, ?_⟩, by simp⟩
        rw [← List.append_assoc, List.pairwise_append]
        refine ⟨hg, by simp, fun a ha b hb => ?_⟩
        simp only [List.mem_singleton] at hb
        subst hb
        exact List.all_eq_true.1 hall a ha
      | false =>
        refine RB.ret ⟨T, y :: r, rfl, hq, fin ?_⟩
        intro y' r' e
        injection e with e1 e2
        subst e1 e2
        simpa using List.all_eq_false.1 hall
  obtain ⟨s, hs, T, R, rfl, h1, h2⟩ := key.ex
  refine ⟨T, R, ?_, h1, h2⟩
  unfold mdl_Locks_serve
  rw [hs]
  simp only [Option.bind_some]
  cases mdl_Locks_set l k ⟨p.held ++ T, R⟩ <;> rfl
theorem Inv.serve {n : Nat} {l : mdl_Locks} {k : ByteArray} {p : Place} (h : Inv n l) (hN : n ≤ 1000) (hp : Pre n p) (hk : k ∈ l.at_.map (·.1)) (hs : ∀ x ∈ p.queue, x ∈ (Pl l k).queue) :
    ∃ l' T R, mdl_Locks_serve l k p = some l' ∧ Inv n l' ∧ p.queue = T ++ R ∧ Pl l' k = ⟨p.held ++ T, R⟩ ∧ ∀ j, j ≠ k → Pl l' j = Pl l j := by
  obtain ⟨T, R, h1, h2, h3⟩ := serve_eq l k hN hp
  obtain ⟨l', h4, h5, h6, h7⟩ := h.set (Nat.le_refl _) hN h3 (h.ks k hk) (.inl hk) (fun x hx j hj x' hx' e => hj (h.w1 j k x' x hx' (hs x (by rw [h2]; exact List.mem_append_right _ hx)) e.symm))
  exact ⟨l', T, R, by rw [h1]; exact h4, h5, h2, h6, h7⟩
/-! ### Who waits -/
theorem foldR_none {κ ν σ τ : Type} {step : κ → ν → σ → Option (σ ⊕ τ)} : ∀ {l : List (κ × ν)} {s : σ}, (∀ k v, (k, v) ∈ l → ∀ s, step k v s = some (.inl s)) → foldR step l s = some (.inl s)
  | [], s, _ => rfl
  | (k, v) :: l, s, h => by
    simp only [foldR]
    rw [h k v (List.mem_cons_self ..)]
    exact foldR_none (fun k v hm s => h k v (List.mem_cons_of_mem _ hm) s)
theorem foldR_one {κ ν σ τ : Type} {step : κ → ν → σ → Option (σ ⊕ τ)} {r : τ} : ∀ {l : List (κ × ν)} {s : σ}, (∀ k v, (k, v) ∈ l → ∀ s, step k v s = some (.inl s) ∨ step k v s = some (.inr r)) → (∃ k v, (k, v) ∈ l ∧ ∀ s, step k v s = some (.inr r)) → foldR step l s = some (.inr r)
  | [], s, _, h => by obtain ⟨k, v, h, _⟩ := h; cases h
  | (k, v) :: l, s, h, he => by
    simp only [foldR]
    rcases h k v (List.mem_cons_self ..) s with e | e
    · rw [e]
      refine foldR_one (fun k v hm s => h k v (List.mem_cons_of_mem _ hm) s) ?_
      obtain ⟨k', v', h1, h2⟩ := he
      rcases List.mem_cons.1 h1 with e1 | e1
      · injection e1 with e1 e2
        subst e1 e2
        rw [h2 s] at e
        cases e
      · exact ⟨k', v', e1, h2⟩
    · rw [e]
      rfl
theorem at_len {A B : List One} {x : One} : idx (A ++ x :: B) (A.length : Int) = some x := by
  rw [idx_nat, List.getElem?_append_right (Nat.le_refl _), Nat.sub_self]
  rfl
theorem Inv.waits {n : Nat} {l : mdl_Locks} (h : Inv n l) (w : Int) : ((∀ k, ∀ x ∈ (Pl l k).queue, x.who ≠ w) ∧ mdl_Locks_Waits l w = some (z_api_Need, false)) ∨ ∃ k A x B, (Pl l k).queue = A ++ x :: B ∧ x.who = w ∧ (∀ y ∈ A, y.who ≠ w) ∧ mdl_Locks_Waits l w = some (⟨k, x.mode⟩, true) := by
  unfold mdl_Locks_Waits mdl_Locks_dead
  simp only [Option.bind_some]
  by_cases hx : ∃ k, ∃ x ∈ (Pl l k).queue, x.who = w
  · right
    obtain ⟨k, x, hxq, hxw⟩ := hx
    rcases find_spec (Pl l k).queue w with ⟨hno, _⟩ | ⟨A, y, B, h1, h2, h3, h4⟩
    · exact absurd hxw (hno x hxq)
    · refine ⟨k, A, y, B, h1, h2, h3, ?_⟩
      have hk : k ∈ l.at_.map (·.1) := by
        refine Classical.byContradiction fun hn => ?_
        rw [pl_none hn] at hxq
        cases hxq
      rw [(rangeO_some (r := .inr (true, (⟨k, y.mode⟩ : api_Need)))).2]
      · rfl
      · intro l' hl'
        have hat : ∀ s : api_Need, ((mdl_find (Pl l k).queue w).bind (fun (r71 : Int) => (bif (decide (r71 ≥ 0)) then (idx (Pl l k).queue r71).bind (fun (x72 : mdl_one) => some (.inr (true, (⟨k, x72.mode⟩ : api_Need)))) else some (.inl s))) : Option (api_Need ⊕ (Bool × api_Need))) = some (.inr (true, ⟨k, y.mode⟩)) := by
          intro s
          rw [h4]
          simp only [Option.bind_some]
          rw [show decide ((A.length : Int) ≥ 0) = true by simp]
          rw [h1, at_len]
          rfl
        refine foldR_one ?_ ⟨k, Pl l k, hl'.mem_iff.2 (h.at_ hk), hat⟩
        intro k' v hv s
        have hv' := h.mem (hl'.mem_iff.1 hv)
        subst hv'
        rcases find_spec (Pl l k').queue w with ⟨_, e⟩ | ⟨A', y', B', h1', h2', h3', _⟩
        · left
          rw [e]
          rfl
        · right
          have : k' = k := h.w1 k' k y' y (by rw [h1']; simp) (by rw [h1]; simp) (h2'.trans h2.symm)
          subst this
          exact hat s
  · left
    refine ⟨fun k x hxq hxw => hx ⟨k, x, hxq, hxw⟩, ?_⟩
    rw [(rangeO_some (r := .inl z_api_Need)).2]
    · rfl
    · intro l' hl'
      refine foldR_none ?_
      intro k' v hv s
      have hv' := h.mem (hl'.mem_iff.1 hv)
      subst hv'
      rcases find_spec (Pl l k').queue w with ⟨_, e⟩ | ⟨A', y', B', h1', h2', h3', _⟩
      · rw [e]
        rfl
      · exact absurd ⟨k', y', by rw [h1']; simp, h2'⟩ hx
end Go.Proofs.Ytdmefifamlpbiaa
