/- What was put is kept, as long as fewer others come than there may be: the plain law of LruKeeps. Conditions: none. -/
import Derived.Test.YtmclgkomnpdgjaaLaw
namespace Go.Proofs.Ytmclgkomnpdgjaa
open Go.Gv
theorem key_inj : ∀ {L : List R_}, (L.map key).Nodup → ∀ {x y : R_}, x ∈ L → y ∈ L → key x = key y → x = y
  | [], _, _, _, h, _, _ => by cases h
  | a :: r, hn, x, y, hx, hy, e => by
    simp only [List.map_cons, List.nodup_cons] at hn
    rcases List.mem_cons.1 hx with h1 | h1 <;> rcases List.mem_cons.1 hy with h2 | h2
    · rw [h1, h2]
    · subst h1
      exact absurd (e ▸ List.mem_map.2 ⟨y, h2, rfl⟩) hn.1
    · subst h2
      exact absurd (e ▸ List.mem_map.2 ⟨x, h1, rfl⟩) hn.1
    · exact key_inj hn.2 h1 h2 e
/-- An entry stands behind at most n others. -/
structure Near (x : R_) (n : Int) (c : lru_Cache) (r : RC) : Prop where
  ex : ∃ A B, Inv c { r with L := A ++ x :: B } ∧ (A.length : Int) ≤ n
theorem Near.put {x y : R_} {n : Int} {c : lru_Cache} {r : RC} (h : Near x n c r) (hn : n + 1 < r.Most) (hk : key x ≠ key y) : ∃ e c', lru_Cache_Put c y.Who y.Name (md y.Table y.Mark) = some (e, c') ∧ Near x (n + 1) c' r := by
  obtain ⟨A, B, hI, hA⟩ := h.ex
  rcases hI.put y with ⟨e, _, h1, _, _⟩ | ⟨c', L', _, h1, _, h3, h4⟩
  · exact ⟨e, c, h1, ⟨A, B, hI, by omega⟩⟩
  · refine ⟨0, c', h1, ⟨y :: wo (key y) A, (wo (key y) B).take (r.Most.toNat - (A.length + 2) + (A.length - (wo (key y) A).length)), ?_, ?_⟩⟩
    · have hlen : (wo (key y) A).length ≤ A.length := List.length_filter_le ..
      have e : L' = (y :: wo (key y) A) ++ x :: (wo (key y) B).take (r.Most.toNat - (A.length + 2) + (A.length - (wo (key y) A).length)) := by
        rw [h4]
        simp only
        rw [wo_app, wo_cons_no (pk_no.2 hk), ← List.cons_append, List.take_append, List.take_of_length_le (by simp; omega)]
        congr 1
        rw [show r.Most.toNat - (y :: wo (key y) A).length = (r.Most.toNat - (A.length + 2) + (A.length - (wo (key y) A).length)) + 1 by simp; omega]
        rfl
      rw [← e]
      exact h3
    · have hlen : (wo (key y) A).length ≤ A.length := List.length_filter_le ..
      simp
      omega
theorem Near.get {x : R_} {w : Int} {m : ByteArray} {n : Int} {c : lru_Cache} {r : RC} (h : Near x n c r) (hk : key x ≠ ⟨w, m⟩) : ∃ p b c', lru_Cache_Get c w m = some (p, b, c') ∧ Near x (n + 1) c' r := by
  obtain ⟨A, B, hI, hA⟩ := h.ex
  obtain ⟨p, b, c', y, L', h1, h2, h3, h4, h5⟩ := hI.get w m
  refine ⟨p, b, c', h1, ?_⟩
  cases b with
  | false =>
    obtain ⟨_, rfl, _⟩ := h5 rfl
    exact ⟨A, B, h3, by omega⟩
  | true =>
    obtain ⟨_, _, _, rfl⟩ := h4 rfl
    refine ⟨y :: wo ⟨w, m⟩ A, wo ⟨w, m⟩ B, ?_, ?_⟩
    · have e : y :: wo ⟨w, m⟩ (A ++ x :: B) = (y :: wo ⟨w, m⟩ A) ++ x :: wo ⟨w, m⟩ B := by rw [wo_app, wo_cons_no (pk_no.2 hk)]; rfl
      rw [← e]
      exact h3
    · have hlen : (wo ⟨w, m⟩ A).length ≤ A.length := List.length_filter_le ..
      simp
      omega
theorem keeps_true (l m : List registrarlaw26_Act) (a : registrarlaw26_Act) (hl : l.length ≤ maxLen ∧ ∀ x ∈ l, wf_registrarlaw26_Act x) (hm : m.length ≤ maxLen ∧ ∀ x ∈ m, wf_registrarlaw26_Act x) (ha : wf_registrarlaw26_Act a) : registrarlaw26_LruKeeps l m a = some true := by
  have hml : m.length ≤ 9223372036854775807 := by have := hm.1; simp only [maxLen] at this; omega
  unfold registrarlaw26_LruKeeps
  have hmod : 0 ≤ Int.tmod (l.length : Int) 7 ∧ Int.tmod (l.length : Int) 7 < 7 := ⟨Int.tmod_nonneg _ (by omega), Int.tmod_lt_of_pos _ (by omega)⟩
  rw [w64_id (by omega) (by omega)]
  obtain ⟨c0, r0, hc0, hr0, i0, _, _⟩ := new_ok (1 + Int.tmod (l.length : Int) 7)
  rw [hc0, hr0]
  simp only [Option.bind_some, works_eq]
  refine Ret.eq (RB.bind (R := fun t => match t with | .inl s => s.1 = true | .inr s => Inv s.1 s.2) (loopO_rb (fun s => 0 ≤ s.1 ∧ s.1 ≤ 40 ∧ Inv s.2.1 s.2.2) (fun s => (40 - s.1).toNat) ?_ ⟨by simp, by simp, i0⟩) ?_)
  · rintro ⟨k, c, r⟩ ⟨h0, h1, hI⟩
    refine RB.cond (fun hc => ?_) (fun _ => RB.ret hI)
    simp only [Bool.and_eq_true, decide_eq_true_eq] at hc
    obtain ⟨x, hx, _⟩ := idx_lt h0 hc.1
    simp only [hx, Option.bind_some]
    unfold registrarlaw26_long
    simp only [Option.bind_some]
    refine RB.cond (fun _ => RB.ret rfl) (fun _ => ?_)
    obtain ⟨c', L', e1, e2⟩ := hI.done x k
    rw [e1]
    simp only [Option.bind_some]
    rw [w64_id (by omega) (by omega)]
    exact RB.ret ⟨⟨by simp only; omega, by simp only; omega, e2⟩, by simp only; omega⟩
  rintro (⟨b, c, r⟩ | ⟨c, r⟩) h
  · simp only at h
    subst h
    exact RB.ret rfl
  have hI : Inv c r := h
  have hm1 := hI.m1
  have hm6 := hI.m6
  unfold registrarlaw26_long
  simp only [Option.bind_some, made_eq]
  refine RB.bind (R := fun t => t.1 = true ∨ Near ⟨a.Who, a.Name, a.Table, 77⟩ 0 t.2 r) (RB.cond (fun _ => RB.ret (.inl rfl)) (fun _ => ?_)) ?_
  · rcases hI.put (⟨a.Who, a.Name, a.Table, 77⟩ : R_) with ⟨e, _, h1, _, rfl⟩ | ⟨c', L', _, h1, _, h3, h4⟩
    · simp only at h1
      rw [h1]
      exact RB.ret (.inl rfl)
    · simp only at h1
      rw [h1]
      refine RB.ret (.inr ⟨[], (wo (key ⟨a.Who, a.Name, a.Table, 77⟩) r.L).take (r.Most.toNat - 1), ?_, by simp⟩)
      have e : L' = [] ++ (⟨a.Who, a.Name, a.Table, 77⟩ : R_) :: (wo (key ⟨a.Who, a.Name, a.Table, 77⟩) r.L).take (r.Most.toNat - 1) := by
        rw [h4, show r.Most.toNat = (r.Most.toNat - 1) + 1 by omega]
        rfl
      rw [← e]
      exact h3
  rintro ⟨b, c1⟩ hb
  refine RB.cond (fun _ => RB.ret rfl) (fun hb0 => ?_)
  simp only at hb hb0
  subst hb0
  have hN := hb.resolve_left (by simp)
  refine RB.bind (R := fun t => match t with | .inl s => s.1 = true | .inr s => ∃ n, Near ⟨a.Who, a.Name, a.Table, 77⟩ n s r) (loopO_rb (fun (s : Int × Int × lru_Cache) => 0 ≤ s.1 ∧ s.1 ≤ 6 ∧ 0 ≤ s.2.1 ∧ s.2.1 ≤ (m.length : Int) ∧ Near ⟨a.Who, a.Name, a.Table, 77⟩ s.1 s.2.2 r) (fun s => ((m.length : Int) - s.2.1).toNat) ?_ ⟨by simp, by simp, by simp, by simp, hN⟩) ?_
  · rintro ⟨n, k, c2⟩ ⟨h0, h1, h2, h3, hN⟩
    refine RB.cond (fun hc => ?_) (fun _ => RB.ret ⟨n, hN⟩)
    simp only at h0 h1 h2 h3 hN
    have hw1 : w64 (n + 1) = n + 1 := w64_id (by omega) (by omega)
    simp only [Bool.and_eq_true, decide_eq_true_eq, hw1] at hc
    have hw2 : w64 (k + 1) = k + 1 := w64_id (by omega) (by omega)
    obtain ⟨x, hx, _⟩ := idx_lt h2 hc.1.1
    simp only [hx, Option.bind_some, hw1, hw2]
    refine RB.bind (R := fun t => match t with | .inl s => s.1 = true | .inr s => 0 ≤ s.1 ∧ s.1 ≤ 6 ∧ Near ⟨a.Who, a.Name, a.Table, 77⟩ s.1 s.2 r) ?_ ?_
    · refine RB.cond (fun _ => RB.ret rfl) (fun _ => ?_)
      refine RB.bind (R := fun j => j = false → x.Do ≤ 1 ∧ 0 ≤ x.Do) ?_ fun j hj => ?_
      · refine RB.cond (fun _ => RB.ret (by simp)) (fun hd => RB.ret (fun hd2 => ?_))
        simp at hd hd2
        omega
      refine RB.bind (R := fun j' => j' = false → key ⟨a.Who, a.Name, a.Table, 77⟩ ≠ ⟨x.Who, x.Name⟩) ?_ fun j' hj' => ?_
      · refine RB.cond (fun _ => RB.ret (by simp)) (fun _ => ?_)
        refine RB.bind (R := fun j' => j' = false → key ⟨a.Who, a.Name, a.Table, 77⟩ ≠ ⟨x.Who, x.Name⟩) ?_ fun j' h => RB.ret h
        refine RB.cond (fun _ => RB.ret (fun hs e => ?_)) (fun hs => RB.ret (fun _ e => ?_))
        · have : a.Name = x.Name := congrArg lru_Entry.Name e
          rw [this, sEq_refl] at hs
          cases hs
        · have : a.Who = x.Who := congrArg lru_Entry.Who e
          rw [this] at hs
          simp at hs
      refine RB.cond (fun _ => RB.ret ⟨h0, h1, hN⟩) (fun hjf => ?_)
      have hk := hj' hjf
      refine RB.bind (R := fun c3 => Near ⟨a.Who, a.Name, a.Table, 77⟩ (n + 1) c3 r) ?_ fun c3 h3 => RB.ret ⟨by simp only; omega, by simp only; omega, h3⟩
      refine RB.cond (fun _ => ?_) (fun _ => ?_)
      · obtain ⟨e, c', h1, h2⟩ := hN.put (y := ⟨x.Who, x.Name, x.Table, k⟩) (by omega) hk
        simp only at h1
        rw [h1]
        exact RB.ret h2
      · obtain ⟨p, b, c', h1, h2⟩ := hN.get hk
        rw [h1]
        exact RB.ret h2
    · rintro (⟨b, c3⟩ | ⟨n', c3⟩) h
      · simp only at h
        subst h
        exact RB.ret rfl
      · simp only at h
        exact RB.ret ⟨⟨h.1, h.2.1, by simp only; omega, by simp only; omega, h.2.2⟩, by simp only; omega⟩
  rintro (⟨b, c3⟩ | c3) h
  · simp only at h
    subst h
    exact RB.ret rfl
  · simp only at h
    obtain ⟨n, hN⟩ := h
    obtain ⟨A, B, hI, _⟩ := hN.ex
    obtain ⟨p, b, c', y, L', h1, h2, h3, h4, h5⟩ := hI.get a.Who a.Name
    simp only
    rw [h1]
    simp only [Option.bind_some]
    cases b with
    | false =>
      obtain ⟨_, _, h6⟩ := h5 rfl
      exact absurd (List.mem_map.2 ⟨(⟨a.Who, a.Name, a.Table, 77⟩ : R_), List.mem_append_right _ (List.mem_cons_self ..), rfl⟩ : (⟨a.Who, a.Name⟩ : lru_Entry) ∈ List.map key (A ++ (⟨a.Who, a.Name, a.Table, 77⟩ : R_) :: B)) h6
    | true =>
      obtain ⟨rfl, hk, hy, _⟩ := h4 rfl
      have : y = ⟨a.Who, a.Name, a.Table, 77⟩ := key_inj hI.ring.kn hy (by simp) hk
      subst this
      have hs := h3.small
      have hle := h3.len
      simp only at hs hle
      simp only [cond_true, mark_md, Option.bind_some, beq_self_eq_true]
      rw [all_ok h3.ring (by simp; omega)]
      simp only [Option.bind_some, List.length_map]
      rw [show decide ((L'.length : Int) ≤ r.Most) = true by simpa using hle]
      exact RB.ret rfl
end Go.Proofs.Ytmclgkomnpdgjaa
