/- Locks: asking, letting go, leaving. Conditions: none. -/
import Derived.Test.YtdmefifamlpbiaaActs
namespace Go.Proofs.Ytdmefifamlpbiaa
open Go.Gv
theorem pl_eq (l : mdl_Locks) (k : ByteArray) : (mget sEq l.at_ k).getD z_mdl_place = Pl l k := rfl
attribute [local irreducible] Pl
/-- Of those who waited (but some) the first hold now, the others wait as they did. -/
def On (f : Int → Bool) (p p' : Place) : Prop := ∃ A B, (p.queue.map (·.who)).filter f = A ++ B ∧ (∀ a ∈ A, a ∈ p'.held.map (·.who)) ∧ B <+: p'.queue.map (·.who)
theorem On.pre {p p' : Place} (h : p.queue <+: p'.queue) : On (fun _ => true) p p' := ⟨[], p.queue.map (·.who), by simp, by simp, h.map _⟩
theorem check_eq (l : mdl_Locks) (w : Int) : mdl_Locks_check l w = some (bif decide (w < 1) || decide (w > 8) then 2 else 0) := by
  unfold mdl_Locks_check mdl_Locks_dead
  simp only [Option.bind_some]
  cases decide (w < 1) || decide (w > 8) <;> rfl
theorem sortS_perm (xs : List ByteArray) : (sortS xs).Perm xs := by
  unfold sortS
  refine ((List.mergeSort_perm _ _).map ub).trans ?_
  rw [List.map_map]
  have : xs.map (ub ∘ bs) = xs := by
    have : ub ∘ bs = id := funext ub_bs
    rw [this, List.map_id]
  rw [this]
theorem Inv.paths {n : Nat} {l : mdl_Locks} (h : Inv n l) (hN : n ≤ 1000) : ∃ ks, mdl_Locks_Paths l = some ks ∧ ks.Perm (l.at_.map (·.1)) := by
  unfold mdl_Locks_Paths mdl_Locks_dead keysO
  have hl := h.len
  rw [if_pos ⟨h.nd, by omega, fun k hk => by have := h.ks k hk; simp only [maxLen]; omega⟩]
  exact ⟨_, rfl, sortS_perm _⟩
set_option maxHeartbeats 1000000 in
theorem Inv.ask {n : Nat} {l : mdl_Locks} (h : Inv n l) (hN : n < 1000) (w : Int) (k : ByteArray) (m : Int) (hk : k.size ≤ 100) :
    ∃ b e l', mdl_Locks_Ask l w ⟨k, m⟩ = some (b, e, l') ∧ Inv (n + 1) l' ∧ ∀ j, On (fun _ => true) (Pl l j) (Pl l' j) := by
  refine (?_ : Ret (mdl_Locks_Ask l w ⟨k, m⟩) fun r => Inv (n + 1) r.2.2 ∧ ∀ j, On (fun _ => true) (Pl l j) (Pl r.2.2 j)).ex.elim fun r hr => ⟨r.1, r.2.1, r.2.2, hr.1, hr.2⟩
  have same : ∀ b e, RB True (some (b, e, l) : Option (Bool × Int × mdl_Locks)) fun r => Inv (n + 1) r.2.2 ∧ ∀ j, On (fun _ => true) (Pl l j) (Pl r.2.2 j) :=
    fun b e => RB.ret ⟨h.mono (by omega), fun j => On.pre (List.prefix_refl _)⟩
  unfold mdl_Locks_Ask
  rw [check_eq]
  simp only [Option.bind_some]
  refine RB.cond (fun _ => same _ _) (fun hc => ?_)
  have hwr : 1 ≤ w ∧ w ≤ 8 := by
    cases hb : decide (w < 1) || decide (w > 8) with
    | true => rw [hb] at hc; simp at hc
    | false => simp at hb; omega
  refine RB.cond (fun _ => same _ _) (fun hm => ?_)
  have hm1 : 1 ≤ m := by simp at hm; omega
  rcases h.waits w with ⟨hno, e⟩ | ⟨k', A, x, B, _, _, _, e⟩
  rotate_left
  · rw [e]
    exact same _ _
  rw [e]
  simp only [Option.bind_some, cond_false]
  rw [pl_eq]
  rcases find_spec (Pl l k).held w with ⟨hnh, e⟩ | ⟨A, x, B, _, _, _, e⟩
  rotate_left
  · rw [e]
    simp only [Option.bind_some]
    rw [show decide ((A.length : Int) ≥ 0) = true by simp]
    exact same _ _
  rw [e]
  simp only [Option.bind_some]
  rw [show decide ((-1 : Int) ≥ 0) = false by decide]
  simp only [cond_false]
  have hp := h.pl k
  have hlen := hp.len
  have hnd := hp.nd
  have hwa : w ∉ ((Pl l k).held ++ (Pl l k).queue).map (·.who) := by
    intro hm
    obtain ⟨x, hx, e⟩ := List.mem_map.1 hm
    rcases List.mem_append.1 hx with hx | hx
    · exact hnh x hx e
    · exact hno k x hx e
  -- the end of both branches
  have fin : ∀ (now : Bool) (p : Place), (Pl l k).queue <+: p.queue → PlOk (n + 1) p → (∀ x ∈ p.queue, x ∈ (Pl l k).queue ∨ x = ⟨w, m⟩) →
      RB True ((mdl_Locks_set l k p).bind fun (r309 : mdl_Locks) => some (now, (0 : Int), r309)) fun r => Inv (n + 1) r.2.2 ∧ ∀ j, On (fun _ => true) (Pl l j) (Pl r.2.2 j) := by
    intro now p hpre hok hq
    obtain ⟨l', h1, h2, h3, h4⟩ := h.set (n' := n + 1) (k := k) (p := p) (by omega) (by omega) hok hk (.inr (by omega)) (by
      intro x hx j hj x' hx' e
      rcases hq x hx with h5 | rfl
      · exact hj (h.w1 j k x' x hx' h5 e.symm)
      · exact hno j x' hx' e.symm)
    rw [h1]
    refine RB.ret ⟨h2, fun j => ?_⟩
    by_cases e : j = k
    · subst e; simp only; rw [h3]; exact On.pre hpre
    · simp only; rw [h4 j e]; exact On.pre (List.prefix_refl _)
  refine RB.bind (R := fun b => b = (decide ((Pl l k).queue = []) && (Pl l k).held.all fun x => G x.mode m)) ?_ ?_
  · cases hq : (Pl l k).queue with
    | nil => simp only [List.length_nil]; rw [show (((0 : Nat) : Int) == 0) = true from rfl]; simp only [cond_true, pgoes_eq, Option.bind_some]; exact RB.ret (by simp)
    | cons y r =>
      have : ((((y :: r).length : Nat) : Int) == 0) = false := by
        cases hb : ((((y :: r).length : Nat) : Int) == 0) with
        | false => rfl
        | true => have := eq_of_beq hb; simp at this; omega
      rw [this]
      exact RB.ret (by simp)
  rintro b rfl
  cases hb : (decide ((Pl l k).queue = []) && (Pl l k).held.all fun x => G x.mode m) with
  | true =>
    simp only [Bool.and_eq_true, decide_eq_true_eq] at hb
    simp only [cond_true]
    rw [clone_eq (by omega)]
    simp only [Option.bind_some]
    rw [app_le (by simp; omega)]
    simp only [Option.bind_some]
    have hq0 := hb.1
    rw [hq0] at hnd hwa hlen
    simp only [List.append_nil] at hnd hwa
    have f1 := fin true ⟨(Pl l k).held ++ [⟨w, m⟩], (Pl l k).queue⟩
    refine f1 ?_ ?_ ?_
    · simp only; exact List.prefix_refl _
    rotate_left
    · intro x hx; simp only at hx; exact .inl hx
    refine ⟨⟨?_, ?_, ?_, ?_⟩, ?_⟩
    · simp only [hq0, List.append_nil, List.map_append, List.map_cons, List.map_nil]
      rw [List.nodup_append]
      refine ⟨hnd, by simp, fun a ha b hb => ?_⟩
      simp only [List.mem_singleton] at hb
      subst hb
      exact fun e => hwa (e ▸ ha)
    · intro x hx
      simp only [hq0, List.append_nil, List.mem_append, List.mem_singleton] at hx
      rcases hx with hx | rfl
      · exact hp.wh x (List.mem_append_left _ hx)
      · exact ⟨hwr.1, hwr.2, hm1⟩
    · simp only [hq0, List.length_append, List.length_cons, List.length_nil] at hlen ⊢
      omega
    · simp only
      rw [List.pairwise_append]
      refine ⟨hp.go, by simp, fun a ha b hb2 => ?_⟩
      simp only [List.mem_singleton] at hb2
      subst hb2
      exact List.all_eq_true.1 hb.2 a ha
    · intro y r e
      simp only [hq0] at e
      cases e
  | false =>
    simp only [cond_false]
    rw [clone_eq (by omega)]
    simp only [Option.bind_some]
    rw [app_le (by simp; omega)]
    simp only [Option.bind_some]
    have f1 := fin false ⟨(Pl l k).held, (Pl l k).queue ++ [⟨w, m⟩]⟩
    refine f1 ?_ ?_ ?_
    · simp only; exact List.prefix_append _ _
    rotate_left
    · intro x hx; simpa using hx
    refine ⟨⟨?_, ?_, ?_, by simp only; exact hp.go⟩, ?_⟩
    · simp only
      rw [← List.append_assoc, List.map_append, List.nodup_append]
      refine ⟨hnd, by simp, fun a ha b hb => ?_⟩
      simp only [List.map_cons, List.map_nil, List.mem_singleton] at hb
      subst hb
      exact fun e => hwa (e ▸ ha)
    · intro x hx
      simp only at hx
      rw [← List.append_assoc, List.mem_append, List.mem_singleton] at hx
      rcases hx with hx | rfl
      · exact hp.wh x hx
      · exact ⟨hwr.1, hwr.2, hm1⟩
    · simp only [List.length_append, List.length_cons, List.length_nil]
      omega
    · intro y r e
      simp only at e ⊢
      cases hq : (Pl l k).queue with
      | nil =>
        rw [hq] at e
        injection e with e1 e2
        subst e1
        rw [hq] at hb
        simp only [decide_true, Bool.true_and] at hb
        simpa using List.all_eq_false.1 hb
      | cons y' r' =>
        rw [hq] at e
        injection e with e1 e2
        subst e1
        exact hp.bl y' r' hq
theorem wo_sub (w : Int) (xs : List One) : (wo w xs).Sublist xs := List.filter_sublist
theorem Pre.less {n : Nat} {p : Place} (h : Pre n p) (w : Int) {q : List One} (hq : q.Sublist p.queue) : Pre n ⟨wo w p.held, q⟩ := by
  have hs : (wo w p.held ++ q).Sublist (p.held ++ p.queue) := (wo_sub w p.held).append hq
  refine ⟨h.nd.sublist (hs.map _), fun x hx => h.wh x (hs.subset hx), ?_, h.go.sublist (wo_sub w _)⟩
  have h1 := (wo_sub w p.held).length_le
  have h2 := hq.length_le
  have h3 := h.len
  simp only
  omega
theorem key_of {l : mdl_Locks} {k : ByteArray} {x : One} (hx : x ∈ (Pl l k).held ∨ x ∈ (Pl l k).queue) : k ∈ l.at_.map (·.1) := by
  refine Classical.byContradiction fun hn => ?_
  rw [pl_none hn] at hx
  rcases hx with h | h <;> cases h
theorem Inv.free {n : Nat} {l : mdl_Locks} (h : Inv n l) (hN : n ≤ 1000) (w : Int) (k : ByteArray) : ∃ e l', mdl_Locks_Free l w k = some (e, l') ∧ Inv n l' ∧ ∀ j, On (fun _ => true) (Pl l j) (Pl l' j) := by
  refine (?_ : Ret (mdl_Locks_Free l w k) fun r => Inv n r.2 ∧ ∀ j, On (fun _ => true) (Pl l j) (Pl r.2 j)).ex.elim fun r hr => ⟨r.1, r.2, hr.1, hr.2⟩
  have same : ∀ e, RB True (some (e, l) : Option (Int × mdl_Locks)) fun r => Inv n r.2 ∧ ∀ j, On (fun _ => true) (Pl l j) (Pl r.2 j) :=
    fun e => RB.ret ⟨h, fun j => On.pre (List.prefix_refl _)⟩
  unfold mdl_Locks_Free
  rw [check_eq]
  simp only [Option.bind_some]
  refine RB.cond (fun _ => same _) (fun hc => ?_)
  rw [pl_eq]
  rcases find_spec (Pl l k).held w with ⟨hnh, e⟩ | ⟨A, x, B, hx, _, _, e⟩
  · rw [e]
    exact same _
  rw [e]
  simp only [Option.bind_some]
  rw [show decide ((A.length : Int) < 0) = false by simp]
  simp only [cond_false]
  have hp := h.pl k
  have hlen := hp.len
  rw [without_eq (by omega)]
  simp only [Option.bind_some]
  obtain ⟨l', T, R, h1, h2, h3, h4, h5⟩ := h.serve hN (hp.toPre.less w (List.Sublist.refl _)) (key_of (x := x) (.inl (by rw [hx]; simp))) (fun x hx => hx)
  simp only at h1 h3
  rw [h1]
  refine RB.ret ⟨h2, fun j => ?_⟩
  by_cases e : j = k
  · subst e
    simp only
    rw [h4, ]
    refine ⟨T.map (·.who), R.map (·.who), by rw [h3, List.filter_eq_self.2 (fun _ _ => rfl)]; simp, fun a ha => ?_, List.prefix_refl _⟩
    simp only [List.map_append, List.mem_append]
    exact .inr ha
  · simp only
    rw [h5 j e]
    exact On.pre (List.prefix_refl _)
theorem Inv.leave {n : Nat} {l : mdl_Locks} (h : Inv n l) (hN : n ≤ 1000) (w : Int) : ∃ e l', mdl_Locks_Leave l w = some (e, l') ∧ Inv n l' ∧ ∀ j, On (fun a => !(a == w)) (Pl l j) (Pl l' j) := by
  refine (?_ : Ret (mdl_Locks_Leave l w) fun r => Inv n r.2 ∧ ∀ j, On (fun a => !(a == w)) (Pl l j) (Pl r.2 j)).ex.elim fun r hr => ⟨r.1, r.2, hr.1, hr.2⟩
  unfold mdl_Locks_Leave
  rw [check_eq]
  simp only [Option.bind_some]
  refine RB.cond (fun hc => RB.ret ⟨h, fun j => ?_⟩) (fun hc => ?_)
  · have hwr : ¬ (1 ≤ w ∧ w ≤ 8) := by
      cases hb : decide (w < 1) || decide (w > 8) with
      | false => rw [hb] at hc; simp at hc
      | true => simp at hb; omega
    refine ⟨[], (Pl l j).queue.map (·.who), ?_, by simp, List.prefix_refl _⟩
    rw [List.filter_eq_self.2]
    · rfl
    · intro a ha
      obtain ⟨x, hx, rfl⟩ := List.mem_map.1 ha
      have := (h.pl j).wh x (List.mem_append_right _ hx)
      simp
      rintro rfl
      exact hwr ⟨this.1, this.2.1⟩
  obtain ⟨ks, e, hp⟩ := h.paths hN
  rw [e]
  simp only [Option.bind_some]
  have hnd : ks.Nodup := hp.nodup_iff.2 h.nd
  refine RB.bind (R := fun s => Inv n s ∧ (∀ k, k ∉ ks → Pl s k = Pl l k) ∧ ∀ k ∈ ks, On (fun a => !(a == w)) (Pl l k) (Pl s k)) ?_ ?_
  · refine (forE_ret (fun i s => Inv n s ∧ (∀ k, k ∉ ks.take i → Pl s k = Pl l k) ∧ ∀ k ∈ ks.take i, On (fun a => !(a == w)) (Pl l k) (Pl s k)) ⟨h, fun _ _ => rfl, by simp⟩ ?_).mono ?_
    · rintro i s hi ⟨hI, h1, h2⟩
      have hx : ks[i]? = some ks[i] := List.getElem?_eq_getElem hi
      simp only [idx_nat, hx, Option.bind_some]
      rw [pl_eq]
      have hni : ks[i] ∉ ks.take i := by
        intro hm
        have e : ks.take i ++ ks[i] :: ks.drop (i + 1) = ks := by rw [← List.drop_eq_getElem_cons hi, List.take_append_drop]
        have hnd2 := hnd
        rw [← e] at hnd2
        exact (List.nodup_append.1 hnd2).2.2 _ hm _ (List.mem_cons_self ..) rfl
      have hsame := h1 _ hni
      have hkm : ks[i] ∈ s.at_.map (·.1) := by
        have : ks[i] ∈ l.at_.map (·.1) := hp.mem_iff.1 (List.getElem_mem hi)
        obtain ⟨x, hx⟩ := List.exists_mem_of_ne_nil _ (h.ne _ this)
        exact key_of (x := x) (.inl (by rw [hsame]; exact hx))
      have hpl := hI.pl ks[i]
      have hlen := hpl.len
      rw [without_eq (by omega), without_eq (by omega)]
      simp only [Option.bind_some]
      obtain ⟨l', T, R, h3, h4, h5, h6, h7⟩ := hI.serve hN (hpl.toPre.less w (wo_sub w _)) hkm (fun x hx => (wo_sub w _).subset hx)
      simp only at h3 h5
      rw [h3]
      refine RB.ret ⟨h4, fun k hk => ?_, fun k hk => ?_⟩
      · rw [take_snoc hx, List.mem_append, List.mem_singleton] at hk
        rw [h7 k (fun e => hk (.inr e))]
        exact h1 k (fun e => hk (.inl e))
      · by_cases e : k = ks[i]
        · subst e
          rw [h6, ← hsame]
          refine ⟨T.map (·.who), R.map (·.who), ?_, fun a ha => ?_, List.prefix_refl _⟩
          · rw [← List.map_append, ← h5, List.filter_map]
            rfl
          · simp only [List.map_append, List.mem_append]
            exact .inr ha
        · rw [take_snoc hx, List.mem_append, List.mem_singleton] at hk
          rw [h7 k e]
          exact h2 k (hk.resolve_right e)
    · rintro s ⟨h1, h2, h3⟩
      rw [List.take_length] at h2 h3
      exact ⟨h1, h2, h3⟩
  · rintro s ⟨h1, h2, h3⟩
    refine RB.ret ⟨h1, fun j => ?_⟩
    by_cases hj : j ∈ ks
    · exact h3 j hj
    · simp only
      rw [h2 j hj, pl_none (fun hm => hj (hp.mem_iff.2 hm))]
      exact ⟨[], [], by simp, by simp, List.prefix_refl _⟩
def left (a : registrarlaw21_Act) (w : Int) : Bool := !(a.Do == 2 && w == a.Who)
end Go.Proofs.Ytdmefifamlpbiaa
