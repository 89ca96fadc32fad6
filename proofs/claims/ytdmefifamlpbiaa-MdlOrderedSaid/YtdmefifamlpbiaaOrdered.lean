/- Locks asked for in rising order: the plain law of MdlOrdered. Conditions: none. -/
import Derived.Test.YtdmefifamlpbiaaStrong
namespace Go.Proofs.Ytdmefifamlpbiaa
open Go.Gv
attribute [local irreducible] Pl
theorem find_at {A B : List One} {x : One} {w : Int} (hw : x.who = w) (hA : ∀ y ∈ A, y.who ≠ w) : mdl_find (A ++ x :: B) w = some (A.length : Int) := by
  rcases find_spec (A ++ x :: B) w with ⟨hn, _⟩ | ⟨A', x', B', h1, h2, h3, h4⟩
  · exact absurd hw (hn x (by simp))
  · rw [h4]
    have : A'.length = A.length := by
      rcases Nat.lt_trichotomy A'.length A.length with h9 | h9 | h9
      · have hx' : x' ∈ A := by
          have e2 : (A ++ x :: B)[A'.length]? = some x' := by rw [h1, List.getElem?_append_right (Nat.le_refl _), Nat.sub_self]; rfl
          rw [List.getElem?_append_left h9] at e2
          exact List.mem_of_getElem? e2
        exact absurd h2 (hA x' hx')
      · exact h9
      · have hx' : x ∈ A' := by
          have e2 : (A' ++ x' :: B')[A.length]? = some x := by rw [← h1, List.getElem?_append_right (Nat.le_refl _), Nat.sub_self]; rfl
          rw [List.getElem?_append_left h9] at e2
          exact List.mem_of_getElem? e2
        exact absurd hw (h3 x hx')
    rw [this]
/-- Who waits waits for more than it holds. -/
def Ord (l : mdl_Locks) : Prop := ∀ w k k', waitsAt l w k → holdsAt l w k' → sLt k' k = true
/-! ### Whom nobody goes beyond -/
theorem max_of {R : Int → Int → Prop} (hi : ∀ x, ¬ R x x) (ht : ∀ x y z, R x y → R y z → R x z) : ∀ (S : List Int), S ≠ [] → ∃ k ∈ S, ∀ x ∈ S, ¬ R k x
  | [], h => absurd rfl h
  | [a], _ => ⟨a, by simp, fun x hx => by rw [List.mem_singleton] at hx; subst hx; exact hi x⟩
  | a :: b :: S, _ => by
    obtain ⟨k, hk, hm⟩ := max_of hi ht (b :: S) (by simp)
    by_cases h : R k a
    · refine ⟨a, List.mem_cons_self .., fun x hx hax => ?_⟩
      rcases List.mem_cons.1 hx with rfl | hx
      · exact hi _ hax
      · exact hm x hx (ht _ _ _ h hax)
    · refine ⟨k, List.mem_cons_of_mem _ hk, fun x hx hkx => ?_⟩
      rcases List.mem_cons.1 hx with rfl | hx
      · exact h hkx
      · exact hm x hx hkx
noncomputable def wp (l : mdl_Locks) (w : Int) : ByteArray := ((mdl_Locks_Waits l w).map (·.1.Path)).getD ⟨#[]⟩
noncomputable def posOf (l : mdl_Locks) (w : Int) : Int := (mdl_find (Pl l (wp l w)).queue w).getD 0
def Rw (l : mdl_Locks) (k x : Int) : Prop := sLt (wp l k) (wp l x) = true ∨ (wp l k = wp l x ∧ posOf l x < posOf l k)
theorem Rw_i (l : mdl_Locks) (x : Int) : ¬ Rw l x x := by
  rintro (h | ⟨_, h⟩)
  · rw [sLt_irrefl] at h; cases h
  · omega
theorem Rw_t (l : mdl_Locks) (x y z : Int) : Rw l x y → Rw l y z → Rw l x z := by
  rintro (h | ⟨h, h'⟩) (g | ⟨g, g'⟩)
  · exact .inl (sLt_trans h g)
  · exact .inl (g ▸ h)
  · exact .inl (h ▸ g)
  · exact .inr ⟨h.trans g, by omega⟩
theorem Inv.wpos {n : Nat} {l : mdl_Locks} (h : Inv n l) {w : Int} {k : ByteArray} (hw : waitsAt l w k) : wp l w = k ∧ ∃ A x B, (Pl l k).queue = A ++ x :: B ∧ x.who = w ∧ (∀ y ∈ A, y.who ≠ w) ∧ posOf l w = (A.length : Int) := by
  obtain ⟨y, hy, hyw⟩ := hw
  rcases h.waits w with ⟨hno, _⟩ | ⟨k', A, x, B, hq, hxw, hA, e⟩
  · exact absurd hyw (hno k y hy)
  · have hk : k' = k := h.w1 k' k x y (by rw [hq]; simp) hy (hxw.trans hyw.symm)
    subst hk
    have e1 : wp l w = k' := by unfold wp; rw [e]; rfl
    refine ⟨e1, A, x, B, hq, hxw, hA, ?_⟩
    unfold posOf
    rw [e1, hq, find_at hxw hA]
    rfl
/-- Who is blocked by one who waits is beyond. -/
theorem Inv.beyond {n : Nat} {l : mdl_Locks} (h : Inv n l) (hN : n ≤ 400) (hO : Ord l) {k y : Int} {b : List Int} (hb : mdl_Locks_Blockers l k = some b) (hy : y ∈ b) {P : ByteArray} (hyw : waitsAt l y P) : Rw l k y := by
  rcases h.blockers hN k with ⟨_, e⟩ | ⟨Q, A, x, B, r, hq, hx, e, _, hr⟩
  · rw [hb] at e
    injection e with e
    subst e
    cases hy
  · rw [hb] at e
    injection e with e
    subst e
    obtain ⟨e1, A1, x1, B1, hq1, hx1, hA1, hp1⟩ := h.wpos (w := k) (k := Q) ⟨x, by rw [hq]; simp, hx⟩
    have hlen : A1.length = A.length := by
      have hA : ∀ y ∈ A, y.who ≠ k := by
        intro y hy e
        have hnd := (h.pl Q).nd
        rw [hq, List.map_append, List.nodup_append, List.map_append, List.map_cons, List.nodup_append] at hnd
        exact hnd.2.1.2.2 y.who (List.mem_map.2 ⟨y, hy, rfl⟩) x.who (List.mem_cons_self ..) (e.trans hx.symm)
      have f1 := find_at (B := B1) hx1 hA1
      have f2 := find_at (B := B) hx hA
      rw [← hq1] at f1
      rw [← hq, f1] at f2
      injection f2 with f2
      omega
    rcases (hr y).1 hy with h1 | ⟨z, hz, hzw, _⟩
    · obtain ⟨u, hu, huw⟩ := List.mem_map.1 h1
      obtain ⟨e2, A2, x2, B2, hq2, hx2, hA2, hp2⟩ := h.wpos (w := y) (k := Q) ⟨u, by rw [hq]; simp [hu], huw⟩
      refine .inr ⟨by rw [e1, e2], ?_⟩
      rw [hp1, hp2, hlen]
      have : A2.length < A.length := by
        refine Classical.byContradiction fun hn => ?_
        obtain ⟨i, hi, hiu⟩ := List.getElem_of_mem hu
        have g1 : (A ++ x :: B)[i]? = some u := by rw [List.getElem?_append_left hi, List.getElem?_eq_getElem hi, hiu]
        rw [← hq, hq2, List.getElem?_append_left (by omega)] at g1
        exact hA2 u (List.mem_of_getElem? g1) huw
      omega
    · refine .inl ?_
      obtain ⟨e2, _⟩ := h.wpos hyw
      rw [e1, e2]
      exact hO y P Q hyw ⟨z, hz, hzw⟩
/-! ### Cycle -/
theorem mset_new {ν : Type} {l : List (Int × ν)} {k : Int} {v : ν} (h : k ∉ l.map (·.1)) : mset iEq l k v = l ++ [(k, v)] := by
  induction l with
  | nil => rfl
  | cons p r ih =>
    obtain ⟨a, u⟩ := p
    simp only [List.map_cons, List.mem_cons, not_or] at h
    rw [mset_cons, ieq.ne h.1]
    simp only [cond_false, List.cons_append]
    rw [ih h.2]
theorem Inv.left {n : Nat} {l : mdl_Locks} (h : Inv n l) (hN : n ≤ 400) : ∃ L, mdl_left l = some L ∧ (L.map (·.1)).Nodup ∧ (∀ p ∈ L, p.2 ≠ []) ∧ ∀ k b, (k, b) ∈ L ↔ 1 ≤ k ∧ k ≤ 8 ∧ b ≠ [] ∧ mdl_Locks_Blockers l k = some b := by
  have hB : ∀ w, ∃ b, mdl_Locks_Blockers l w = some b := by
    intro w
    rcases h.blockers hN w with ⟨_, e⟩ | ⟨_, _, _, _, r, _, _, e, _⟩
    · exact ⟨_, e⟩
    · exact ⟨_, e⟩
  refine Ret.ex ?_
  unfold mdl_left
  refine (loopO_rb (fun (s : Int × KV) => 1 ≤ s.1 ∧ s.1 ≤ 9 ∧ (s.2.map (·.1)).Nodup ∧ (∀ p ∈ s.2, p.2 ≠ []) ∧ ∀ k b, (k, b) ∈ s.2 ↔ 1 ≤ k ∧ k < s.1 ∧ b ≠ [] ∧ mdl_Locks_Blockers l k = some b) (Q := fun (L : KV) => (L.map (·.1)).Nodup ∧ (∀ p ∈ L, p.2 ≠ []) ∧ ∀ k b, (k, b) ∈ L ↔ 1 ≤ k ∧ k ≤ 8 ∧ b ≠ [] ∧ mdl_Locks_Blockers l k = some b) (fun s => (9 - s.1).toNat) ?_ (s := ((1 : Int), ([] : KV))) ⟨by simp, by simp, by simp, by simp, fun k b => by simp; omega⟩)
  rintro ⟨w, L⟩ ⟨h1, h2, h3, h4, h5⟩
  simp only at h1 h2 h3 h4 h5
  refine RB.cond (fun hc => ?_) (fun hc => ?_)
  · simp only [decide_eq_true_eq] at hc
    obtain ⟨b, hb⟩ := hB w
    rw [hb]
    simp only [Option.bind_some]
    have hnk : w ∉ L.map (·.1) := by
      intro hm
      obtain ⟨⟨k', b'⟩, hm', rfl⟩ := List.mem_map.1 hm
      have := ((h5 k' b').1 hm').2.1
      simp only at this
      omega
    rw [w64_id (by omega) (by omega)]
    refine RB.cond (fun hl => ?_) (fun hl => ?_)
    · have hbn : b ≠ [] := by rintro rfl; simp at hl
      rw [mset_new hnk]
      refine RB.ret ⟨⟨by simp only; omega, by simp only; omega, ?_, ?_, ?_⟩, by simp only; omega⟩
      · simp only [List.map_append, List.map_cons, List.map_nil]
        rw [List.nodup_append]
        refine ⟨h3, by simp, fun a ha c hc e => ?_⟩
        rw [List.mem_singleton] at hc
        exact hnk (hc ▸ e ▸ ha)
      · intro p hp
        rw [List.mem_append, List.mem_singleton] at hp
        rcases hp with hp | rfl
        · exact h4 p hp
        · exact hbn
      · intro k b'
        simp only
        rw [List.mem_append, List.mem_singleton, h5]
        constructor
        · rintro (⟨g1, g2, g3, g4⟩ | g)
          · exact ⟨g1, by omega, g3, g4⟩
          · injection g with g1 g2
            subst g1 g2
            exact ⟨h1, by omega, hbn, hb⟩
        · rintro ⟨g1, g2, g3, g4⟩
          by_cases e : k = w
          · subst e
            rw [hb] at g4
            injection g4 with g4
            subst g4
            exact .inr rfl
          · exact .inl ⟨g1, by omega, g3, g4⟩
    · have hbn : b = [] := by
        cases b with
        | nil => rfl
        | cons y r => simp at hl
      refine RB.ret ⟨⟨by simp only; omega, by simp only; omega, h3, h4, fun k b' => ?_⟩, by simp only; omega⟩
      simp only
      rw [h5]
      constructor
      · rintro ⟨g1, g2, g3, g4⟩
        exact ⟨g1, by omega, g3, g4⟩
      · rintro ⟨g1, g2, g3, g4⟩
        by_cases e : k = w
        · subst e
          rw [hb] at g4
          injection g4 with g4
          exact absurd (g4 ▸ hbn) g3
        · exact ⟨g1, by omega, g3, g4⟩
  · simp only [decide_eq_false_iff_not] at hc
    refine RB.ret ⟨h3, h4, fun k b => ?_⟩
    rw [h5]
    constructor
    · rintro ⟨g1, g2, g3, g4⟩
      exact ⟨g1, by omega, g3, g4⟩
    · rintro ⟨g1, g2, g3, g4⟩
      exact ⟨g1, by omega, g3, g4⟩
theorem Inv.cyc {n : Nat} {l : mdl_Locks} (h : Inv n l) (hN : n ≤ 400) : ∃ L, mdl_Locks_Cycle l = some (cycB L) ∧ (∀ p ∈ L, p.2 ≠ []) ∧ ∀ k b, (k, b) ∈ L ↔ 1 ≤ k ∧ k ≤ 8 ∧ b ≠ [] ∧ mdl_Locks_Blockers l k = some b := by
  obtain ⟨L, e, h1, h2, h3⟩ := h.left hN
  refine ⟨L, ?_, h2, h3⟩
  unfold mdl_Locks_Cycle mdl_Locks_dead
  simp only [Option.bind_some]
  rw [e]
  simp only [Option.bind_some]
  rw [if_pos ⟨h1, h2⟩]
theorem Inv.waiter {n : Nat} {l : mdl_Locks} (h : Inv n l) (hN : n ≤ 400) {k : Int} {b : List Int} (hb : mdl_Locks_Blockers l k = some b) (hn : b ≠ []) : ∃ P, waitsAt l k P := by
  rcases h.blockers hN k with ⟨_, e⟩ | ⟨Q, A, x, B, r, hq, hx, e, _, hr⟩
  · rw [hb] at e
    injection e with e
    exact absurd e hn
  · exact ⟨Q, x, by rw [hq]; simp, hx⟩
theorem Inv.nocycle {n : Nat} {l : mdl_Locks} (h : Inv n l) (hN : n ≤ 400) (hO : Ord l) : mdl_Locks_Cycle l = some false := by
  obtain ⟨L, e, h2, h3⟩ := h.cyc hN
  rw [e]
  congr 1
  unfold cycB
  rw [decide_eq_false_iff_not]
  rintro ⟨S, hS, hst⟩
  obtain ⟨k, hk, hm⟩ := max_of (Rw_i l) (Rw_t l) S hS
  obtain ⟨b, hb, y, hy, hyS⟩ := hst k hk
  obtain ⟨_, _, _, hbl⟩ := (h3 k b).1 hb
  obtain ⟨b', hb', _⟩ := hst y hyS
  obtain ⟨_, _, hn', hbl'⟩ := (h3 y b').1 hb'
  obtain ⟨P, hP⟩ := h.waiter hN hbl' hn'
  exact hm y hyS (h.beyond hN hO hbl hy hP)
/-! ### Acts -/
theorem askQ_ord {l l' : mdl_Locks} {w : Int} {k : ByteArray} {m : Int} {b : Bool} {e : Int} (hO : Ord l) (h : AskQ l w k m b e l') (hh : ∀ k', holdsAt l w k' → sLt k' k = true) : Ord l' := by
  rcases h with ⟨_, _, _, rfl⟩ | ⟨_, _, _, _, rfl⟩ | ⟨_, _, _, _, _, rfl⟩ | ⟨hok, hnw, hnh, hb, he, hs, hk⟩
  · exact hO
  · exact hO
  · exact hO
  have hW : ∀ v j, waitsAt l' v j → waitsAt l v j ∨ (v = w ∧ j = k ∧ b = false) := by
    rintro v j ⟨x, hx, hxv⟩
    by_cases e : j = k
    · subst e
      rw [hk] at hx
      cases b with
      | true => exact .inl ⟨x, hx, hxv⟩
      | false =>
        simp only [cond_false] at hx
        rw [List.mem_append, List.mem_singleton] at hx
        rcases hx with hx | rfl
        · exact .inl ⟨x, hx, hxv⟩
        · exact .inr ⟨hxv.symm, rfl, rfl⟩
    · rw [hs j e] at hx
      exact .inl ⟨x, hx, hxv⟩
  have hH : ∀ v j, holdsAt l' v j → holdsAt l v j ∨ (v = w ∧ b = true) := by
    rintro v j ⟨x, hx, hxv⟩
    by_cases e : j = k
    · subst e
      rw [hk] at hx
      cases b with
      | false => exact .inl ⟨x, hx, hxv⟩
      | true =>
        simp only [cond_true] at hx
        rw [List.mem_append, List.mem_singleton] at hx
        rcases hx with hx | rfl
        · exact .inl ⟨x, hx, hxv⟩
        · exact .inr ⟨hxv.symm, rfl⟩
    · rw [hs j e] at hx
      exact .inl ⟨x, hx, hxv⟩
  intro v j j' h1 h2
  rcases hW v j h1 with h3 | ⟨rfl, rfl, h3⟩ <;> rcases hH v j' h2 with h4 | ⟨h5, h4⟩
  · exact hO v j j' h3 h4
  · subst h5
    exact absurd h3 (hnw j)
  · exact hh j' h4
  · rw [h3] at h4; cases h4
theorem Lv.sub {w : Int} {p p' : Place} (h : Lv w p p') : (∀ x ∈ p'.queue, x ∈ p.queue) ∧ (∀ x ∈ p'.held, x ∈ p.held ∨ x ∈ p.queue) ∧ ∀ x ∈ p'.held ++ p'.queue, x.who ≠ w := by
  obtain ⟨T, R, rfl, hq⟩ := h
  have hT : ∀ x ∈ T ++ R, x ∈ p.queue ∧ x.who ≠ w := by
    intro x hx
    rw [← hq] at hx
    obtain ⟨h1, h2⟩ := List.mem_filter.1 hx
    exact ⟨h1, by simpa using h2⟩
  have hH : ∀ x ∈ wo w p.held, x ∈ p.held ∧ x.who ≠ w := by
    intro x hx
    obtain ⟨h1, h2⟩ := List.mem_filter.1 hx
    exact ⟨h1, by simpa using h2⟩
  refine ⟨fun x hx => (hT x (List.mem_append_right _ hx)).1, fun x hx => ?_, fun x hx => ?_⟩
  · rcases List.mem_append.1 hx with h | h
    · exact .inl (hH x h).1
    · exact .inr (hT x (List.mem_append_left _ h)).1
  · rcases List.mem_append.1 hx with h | h
    · rcases List.mem_append.1 h with h | h
      · exact (hH x h).2
      · exact (hT x (List.mem_append_left _ h)).2
    · exact (hT x (List.mem_append_right _ h)).2
theorem leave_ord {n : Nat} {l l' : mdl_Locks} {w : Int} (hI : Inv n l) (hI' : Inv n l') (hO : Ord l) (h : ∀ j, Lv w (Pl l j) (Pl l' j)) : Ord l' := by
  rintro v j j' ⟨x, hx, hxv⟩ ⟨y, hy, hyv⟩
  have h1 := (h j).sub.1 x hx
  rcases (h j').sub.2.1 y hy with h2 | h2
  · exact hO v j j' ⟨x, h1, hxv⟩ ⟨y, h2, hyv⟩
  · have e : j = j' := hI.w1 j j' x y h1 h2 (hxv.trans hyv.symm)
    subst e
    have hnd := (hI'.pl j).nd
    rw [List.map_append, List.nodup_append] at hnd
    exact absurd (hyv.trans hxv.symm) (hnd.2.2 y.who (List.mem_map.2 ⟨y, hy, rfl⟩) x.who (List.mem_map.2 ⟨x, hx, rfl⟩))
theorem act0 (l : mdl_Locks) (a : registrarlaw21_Act) (h : a.Do = 0) : registrarlaw21_act l a = (mdl_Locks_Ask l a.Who ⟨a.Path, a.Mode⟩).bind fun r => some r.2.2 := by
  unfold registrarlaw21_act
  rw [h]
  cases mdl_Locks_Ask l a.Who ⟨a.Path, a.Mode⟩ <;> rfl
theorem act2 (l : mdl_Locks) (a : registrarlaw21_Act) (h : a.Do = 2) : registrarlaw21_act l a = (mdl_Locks_Leave l a.Who).bind fun r => some r.2 := by
  unfold registrarlaw21_act
  rw [h]
  cases mdl_Locks_Leave l a.Who <;> rfl
/-! ### Who is there -/
def active (l : mdl_Locks) (w : Int) : Prop := ∃ j, ∃ x ∈ (Pl l j).held ++ (Pl l j).queue, x.who = w
theorem Inv.act_range {n : Nat} {l : mdl_Locks} (h : Inv n l) {w : Int} (ha : active l w) : 1 ≤ w ∧ w ≤ 8 := by
  obtain ⟨j, x, hx, rfl⟩ := ha
  have := (h.pl j).wh x hx
  exact ⟨this.1, this.2.1⟩
theorem Inv.holds_ne {n : Nat} {l : mdl_Locks} (h : Inv n l) (hN : n ≤ 1000) (w : Int) : ∃ r, mdl_Locks_Holds l w = some r ∧ (r ≠ [] ↔ ∃ k, holdsAt l w k) := by
  obtain ⟨r, e, _, h1, h2⟩ := h.holds hN w
  refine ⟨r, e, ⟨fun hn => ?_, ?_⟩⟩
  · obtain ⟨x, hx⟩ := List.exists_mem_of_ne_nil _ hn
    obtain ⟨y, hy, e⟩ := List.mem_map.1 (h1 x hx).1
    exact ⟨x.Path, y, hy, e⟩
  · rintro ⟨k, y, hy, e'⟩ rfl
    obtain ⟨x, hx, _⟩ := h2 k (List.mem_map.2 ⟨y, hy, e'⟩)
    cases hx
def idle (l : mdl_Locks) (w : Int) : Prop := (∀ k, ¬ waitsAt l w k) ∧ ∃ k, holdsAt l w k
theorem Inv.count {n : Nat} {l : mdl_Locks} (h : Inv n l) (hN : n ≤ 1000) : Ret (loopO (fun (s : Int × Int × Int) => match s with | (s133, s134, s135) => (bif (decide (s135 ≤ 8)) then (mdl_Locks_Waits l s135).bind (fun ((r147, r148) : api_Need × Bool) => ((bif r148 then some ((w64 (s133 + 1)), s134) else (mdl_Locks_Holds l s135).bind (fun (r169 : List api_Need) => ((bif (decide ((r169.length : Int) > 0)) then some s135 else some s134)).bind (fun (j170 : Int) => some (s133, j170))))).bind (fun ((s159, s160) : Int × Int) => some (.inl (s159, s160, (w64 (s135 + 1)))))) else some (.inr (s133, s134)))) (0, 0, 1) : Option (Int × Int))
    (fun t => (t.1 > 0 ↔ ∃ w k, 1 ≤ w ∧ w ≤ 8 ∧ waitsAt l w k) ∧ ((t.2 = 0 ∧ ∀ w, 1 ≤ w → w ≤ 8 → ¬ idle l w) ∨ (1 ≤ t.2 ∧ t.2 ≤ 8 ∧ idle l t.2))) := by
  refine loopO_rb (fun (s : Int × Int × Int) => 1 ≤ s.2.2 ∧ s.2.2 ≤ 9 ∧ 0 ≤ s.1 ∧ s.1 < s.2.2 ∧ (s.1 > 0 ↔ ∃ w k, 1 ≤ w ∧ w < s.2.2 ∧ waitsAt l w k) ∧ ((s.2.1 = 0 ∧ ∀ w, 1 ≤ w → w < s.2.2 → ¬ idle l w) ∨ (1 ≤ s.2.1 ∧ s.2.1 < s.2.2 ∧ idle l s.2.1))) (fun s => (9 - s.2.2).toNat) ?_ ?_
  · rintro ⟨c, f, w⟩ ⟨h1, h2, h3, h4, h5, h6⟩
    simp only at h1 h2 h3 h4 h5 h6
    refine RB.cond (fun hc => ?_) (fun hc => ?_)
    · simp only [decide_eq_true_eq] at hc
      rw [w64_id (n := w + 1) (by omega) (by omega)]
      rcases h.waits w with ⟨hno, e⟩ | ⟨k, A, x, B, hq, hxw, _, e⟩
      · have hnw : ∀ k, ¬ waitsAt l w k := fun k ⟨x, hx, e⟩ => hno k x hx e
        rw [e]
        simp only [Option.bind_some, cond_false]
        obtain ⟨r, er, hr⟩ := h.holds_ne hN w
        rw [er]
        simp only [Option.bind_some]
        have hcw : c > 0 ↔ ∃ v k, 1 ≤ v ∧ v < w + 1 ∧ waitsAt l v k := by
          rw [h5]
          constructor
          · rintro ⟨v, k, g1, g2, g3⟩
            exact ⟨v, k, g1, by omega, g3⟩
          · rintro ⟨v, k, g1, g2, g3⟩
            by_cases e : v = w
            · subst e; exact absurd g3 (hnw k)
            · exact ⟨v, k, g1, by omega, g3⟩
        cases r with
        | nil =>
          refine RB.ret ⟨⟨by simp only; omega, by simp only; omega, by simp only; omega, by simp only; omega, by simp only; exact hcw, ?_⟩, by simp only; omega⟩
          rcases h6 with ⟨g1, g2⟩ | ⟨g1, g2, g3⟩
          · refine .inl ⟨g1, fun v g3 g4 g5 => ?_⟩
            simp only at g4
            by_cases e : v = w
            · subst e
              have := hr.2 g5.2
              exact this rfl
            · exact g2 v g3 (by omega) g5
          · exact .inr ⟨g1, by simp only; omega, g3⟩
        | cons y r =>
          have e1 : decide ((((y :: r).length : Nat) : Int) > 0) = true := by simp
          rw [e1]
          refine RB.ret ⟨⟨by simp only; omega, by simp only; omega, by simp only; omega, by simp only; omega, by simp only; exact hcw, .inr ⟨h1, by simp only; omega, hnw, hr.1 (by simp)⟩⟩, by simp only; omega⟩
      · have hw : waitsAt l w k := ⟨x, by rw [hq]; simp, hxw⟩
        rw [e]
        simp only [Option.bind_some, cond_true]
        rw [w64_id (by omega) (by omega)]
        refine RB.ret ⟨⟨by simp only; omega, by simp only; omega, by simp only; omega, by simp only; omega, ?_, ?_⟩, by simp only; omega⟩
        · simp only
          exact ⟨fun _ => ⟨w, k, h1, by omega, hw⟩, fun _ => by omega⟩
        · rcases h6 with ⟨g1, g2⟩ | ⟨g1, g2, g3⟩
          · refine .inl ⟨g1, fun v g3 g4 g5 => ?_⟩
            simp only at g4
            by_cases e : v = w
            · subst e; exact g5.1 k hw
            · exact g2 v g3 (by omega) g5
          · exact .inr ⟨g1, by simp only; omega, g3⟩
    · simp only [decide_eq_false_iff_not] at hc
      have e9 : w = 9 := by omega
      subst e9
      refine RB.ret ⟨?_, ?_⟩
      · simp only
        rw [h5]
        constructor
        · rintro ⟨v, k, g1, g2, g3⟩
          exact ⟨v, k, g1, by omega, g3⟩
        · rintro ⟨v, k, g1, g2, g3⟩
          exact ⟨v, k, g1, by omega, g3⟩
      · rcases h6 with ⟨g1, g2⟩ | ⟨g1, g2, g3⟩
        · exact .inl ⟨g1, fun v g3 g4 => g2 v g3 (by omega)⟩
        · exact .inr ⟨g1, by simp only; omega, g3⟩
  · refine ⟨by simp, by simp, by simp, by simp, ⟨by simp, ?_⟩, .inl ⟨rfl, fun w g1 g2 => ?_⟩⟩
    · rintro ⟨w, k, g1, g2, _⟩
      simp only at g2
      omega
    · simp only at g2
      omega
open Classical in
/-- If somebody waits, somebody who does not wait is there. -/
theorem Inv.idler {n : Nat} {l : mdl_Locks} (h : Inv n l) (hN : n ≤ 400) (hO : Ord l) {w : Int} {k : ByteArray} (hw : waitsAt l w k) : ∃ v, 1 ≤ v ∧ v ≤ 8 ∧ idle l v := by
  have hr : ∀ v, (∃ k, waitsAt l v k) → v ∈ [1, 2, 3, 4, 5, 6, 7, (8 : Int)] := by
    rintro v ⟨k, x, hx, rfl⟩
    have := (h.pl k).wh x (List.mem_append_right _ hx)
    simp
    omega
  obtain ⟨m, hm, hmax⟩ := max_of (Rw_i l) (Rw_t l) ([1, 2, 3, 4, 5, 6, 7, (8 : Int)].filter fun v => decide (∃ k, waitsAt l v k)) (by
    intro e
    have : w ∈ ([1, 2, 3, 4, 5, 6, 7, (8 : Int)].filter fun v => decide (∃ k, waitsAt l v k)) := List.mem_filter.2 ⟨hr w ⟨k, hw⟩, by simpa using ⟨k, hw⟩⟩
    rw [e] at this
    cases this)
  obtain ⟨_, hm2⟩ := List.mem_filter.1 hm
  obtain ⟨Q, hQ⟩ := of_decide_eq_true hm2
  obtain ⟨e1, A, x, B, hq, _, _, _⟩ := h.wpos hQ
  have hbl : ∃ z ∈ (Pl l Q).held, True := by
    cases A with
    | nil => obtain ⟨z, hz, _⟩ := (h.pl Q).bl x B hq; exact ⟨z, hz, trivial⟩
    | cons y A' => obtain ⟨z, hz, _⟩ := (h.pl Q).bl y (A' ++ x :: B) hq; exact ⟨z, hz, trivial⟩
  obtain ⟨z, hz, _⟩ := hbl
  have hzr := (h.pl Q).wh z (List.mem_append_left _ hz)
  refine ⟨z.who, hzr.1, hzr.2.1, fun P hP => ?_, Q, z, hz, rfl⟩
  refine hmax z.who (List.mem_filter.2 ⟨hr _ ⟨P, hP⟩, by simpa using ⟨P, hP⟩⟩) (.inl ?_)
  rw [e1, (h.wpos hP).1]
  exact hO z.who P Q hP ⟨z, hz, rfl⟩
theorem ordered_true (l : List registrarlaw21_Act) (hl : l.length ≤ maxLen ∧ ∀ x ∈ l, wf_registrarlaw21_Act x) : registrarlaw21_MdlOrdered l = some true := by
  unfold registrarlaw21_MdlOrdered
  rw [show mdl_New = some ⟨[]⟩ from rfl]
  simp only [Option.bind_some, works_eq]
  refine Ret.eq (RB.bind (R := fun t => match t with | .inl s => s.1 = true | .inr s => Inv 60 s ∧ Ord s) (loopO_rb (fun (s : Int × mdl_Locks) => 0 ≤ s.1 ∧ s.1 ≤ 60 ∧ Inv s.1.toNat s.2 ∧ Ord s.2) (fun s => (60 - s.1).toNat) ?_ ⟨by simp, by simp, inv_new _, ?_⟩) ?_)
  rotate_left
  · rintro w k k' ⟨x, hx, _⟩
    rw [pl_none (by simp)] at hx
    cases hx
  · rintro (⟨b, x⟩ | x) h
    · simp only at h
      subst h
      exact RB.ret rfl
    · simp only at h ⊢
      obtain ⟨hI, hO⟩ := h
      refine RB.bind (forN_ret (fun i (s : mdl_Locks) => Inv 60 s ∧ Ord s ∧ ∃ S : List Int, (S.length + i ≤ 8 ∨ S = []) ∧ ∀ w, active s w → w ∈ S) (Q := fun _ => False) ⟨hI, hO, [1, 2, 3, 4, 5, 6, 7, 8], by simp, fun w hw => by have := hI.act_range hw; simp; omega⟩ ?_) ?_
      · rintro i s hi ⟨hI, hO, S, hS, hact⟩
        refine RB.bind (hI.count (by omega)) ?_
        rintro ⟨c, f⟩ ⟨hc, hf⟩
        simp only at hc hf
        have hgo : (decide (c > 0) && (f == 0)) = false := by
          cases hb : (decide (c > 0) && (f == 0)) with
          | false => rfl
          | true =>
            simp only [Bool.and_eq_true, decide_eq_true_eq, beq_iff_eq] at hb
            obtain ⟨w, k, _, _, hw⟩ := hc.1 hb.1
            obtain ⟨v, g1, g2, g3⟩ := hI.idler (by omega) hO hw
            rcases hf with ⟨_, g⟩ | ⟨g, _⟩
            · exact absurd g3 (g v g1 g2)
            · omega
        rw [hgo]
        simp only [cond_false]
        obtain ⟨e, l', hr, hI', hQ⟩ := hI.leave2 (by omega) f
        rw [hr]
        rcases hf with ⟨rfl, hidle⟩ | ⟨g1, g2, g3⟩
        · rcases hQ with ⟨_, _, rfl⟩ | ⟨hbad, _⟩
          · refine RB.ret ⟨hI, hO, [], .inr rfl, fun w hw => ?_⟩
            obtain ⟨j, x, hx, rfl⟩ := hw
            exfalso
            have hx0 : ∀ k, (Pl l' k).queue = [] := by
              intro k
              cases hq : (Pl l' k).queue with
              | nil => rfl
              | cons y r =>
                obtain ⟨v, u1, u2, u3⟩ := hI.idler (by omega) hO (w := y.who) (k := k) ⟨y, by rw [hq]; simp, rfl⟩
                exact absurd u3 (hidle v u1 u2)
            rw [hx0 j, List.append_nil] at hx
            have hxr := (hI.pl j).wh x (List.mem_append_left _ hx)
            refine hidle x.who hxr.1 hxr.2.1 ⟨fun k ⟨y, hy, _⟩ => ?_, j, x, hx, rfl⟩
            rw [hx0 k] at hy
            cases hy
          · exact absurd hbad (by unfold okWho; omega)
        · rcases hQ with ⟨hbad, _⟩ | ⟨_, _, hLv⟩
          · exact absurd (show okWho f from ⟨g1, g2⟩) hbad
          · obtain ⟨hnw, k, y, hy, hyf⟩ := g3
            have hfS : f ∈ S := hact f ⟨k, y, List.mem_append_left _ hy, hyf⟩
            refine RB.ret ⟨hI', leave_ord hI hI' hO hLv, S.filter (fun v => !(v == f)), .inl ?_, fun w hw => ?_⟩
            · have hlt : (S.filter fun v => !(v == f)).length < S.length := by
                refine List.length_filter_lt_length_iff_exists.2 ⟨f, hfS, by simp⟩
              rcases hS with hS | hS
              · omega
              · rw [hS] at hfS; cases hfS
            · obtain ⟨j, x, hx, rfl⟩ := hw
              refine List.mem_filter.2 ⟨hact _ ?_, ?_⟩
              · rcases List.mem_append.1 hx with hx | hx
                · rcases (hLv j).sub.2.1 x hx with hx | hx
                  · exact ⟨j, x, List.mem_append_left _ hx, rfl⟩
                  · exact ⟨j, x, List.mem_append_right _ hx, rfl⟩
                · exact ⟨j, x, List.mem_append_right _ ((hLv j).sub.1 x hx), rfl⟩
              · have := (hLv j).sub.2.2 x hx
                simpa using this
      · rintro (s | t) h
        · obtain ⟨hI, hO, S, hS, hact⟩ := h
          have hS0 : S = [] := by
            rcases hS with hS | hS
            · omega
            · exact hS
          subst hS0
          have hat : s.at_ = [] := by
            cases ha : s.at_ with
            | nil => rfl
            | cons p r =>
              exfalso
              have hm : p.1 ∈ s.at_.map (·.1) := by rw [ha]; simp
              obtain ⟨x, hx⟩ := List.exists_mem_of_ne_nil _ (hI.ne _ hm)
              exact absurd (hact x.who ⟨p.1, x, List.mem_append_left _ hx, rfl⟩) (by simp)
          obtain ⟨ks, e, hp⟩ := hI.paths (by omega)
          have hks : ks = [] := by
            rw [hat] at hp
            exact List.Perm.eq_nil hp
          subst hks
          simp only
          rw [e]
          exact RB.ret rfl
        · exact h.elim
  · rintro ⟨k, x⟩ ⟨h0, h1, hI, hO⟩
    simp only at h0 h1 hI hO
    refine RB.cond (fun hc => ?_) (fun _ => RB.ret ⟨hI.mono (by omega), hO⟩)
    simp only [Bool.and_eq_true, decide_eq_true_eq] at hc
    obtain ⟨a, ha, _⟩ := idx_lt h0 hc.1
    simp only [ha, Option.bind_some, long_eq]
    have hw : w64 (k + 1) = k + 1 := w64_id (by omega) (by omega)
    refine RB.bind (R := fun t => match t with | .inl s => s.1 = true | .inr s => Inv (k.toNat + 1) s ∧ Ord s) ?_ ?_
    · refine RB.cond (fun _ => RB.ret rfl) (fun hlong => ?_)
      have hsz : a.Path.size ≤ 100 := by simp at hlong; omega
      obtain ⟨ks, ek, hp, hsrt⟩ := hI.paths2 (by omega)
      have hkl : ks.length ≤ k.toNat := by have h1 := hp.length_eq; have h2 := hI.len; simp at h1; omega
      rw [hI.holds2 (by omega) a.Who ek hkl]
      simp only [Option.bind_some]
      refine RB.bind (R := fun j => j = false → a.Do = 0 → ∀ k', holdsAt x a.Who k' → sLt k' a.Path = true) ?_ ?_
      · refine RB.cond (fun hd => ?_) (fun hd => RB.ret (fun _ h0 k' hk' => ?_))
        · simp only [Bool.and_eq_true, decide_eq_true_eq] at hd
          have hne : ks.filterMap (hf x a.Who) ≠ [] := by intro e; rw [e] at hd; simp at hd
          have hlen := List.length_filterMap_le (hf x a.Who) ks
          generalize hH : ks.filterMap (hf x a.Who) = H at *
          have hl0 : H.length ≠ 0 := fun e => hne (List.eq_nil_of_length_eq_zero e)
          rw [w64_id (by omega) (by omega)]
          have hlt : H.length - 1 < H.length := by omega
          rw [idx_at (j := H.length - 1) (by omega) (List.getElem?_eq_getElem hlt)]
          refine RB.ret (fun hj _ k' hk' => ?_)
          have hlast : sLt H[H.length - 1].Path a.Path = true := by simpa using hj
          have hkks : k' ∈ ks := by
            obtain ⟨y, hy, _⟩ := hk'
            exact hp.mem_iff.2 (key_of (x := y) (.inl hy))
          have hkH : (⟨k', modeOf (Pl x k') a.Who⟩ : api_Need) ∈ H := by
            rw [← hH, List.mem_filterMap]
            refine ⟨k', hkks, ?_⟩
            unfold hf
            rw [if_pos]
            obtain ⟨y, hy, e⟩ := hk'
            exact List.mem_map.2 ⟨y, hy, e⟩
          have hHs : H.Pairwise (fun u v => sLt u.Path v.Path = true) := by
            rw [← hH]
            refine List.Pairwise.filterMap _ ?_ hsrt
            intro u v huv b hb c hc
            unfold hf at hb hc
            split at hb
            · split at hc
              · injection hb with hb
                injection hc with hc
                subst hb hc
                exact huv
              · cases hc
            · cases hb
          obtain ⟨i, hi, hie⟩ := List.getElem_of_mem hkH
          by_cases e : i = H.length - 1
          · subst e
            rw [hie] at hlast
            exact hlast
          · have := List.pairwise_iff_getElem.1 hHs i (H.length - 1) hi hlt (by omega)
            rw [hie] at this
            exact sLt_trans this hlast
        · exfalso
          simp only [h0] at hd
          have hkks : k' ∈ ks := by
            obtain ⟨y, hy, _⟩ := hk'
            exact hp.mem_iff.2 (key_of (x := y) (.inl hy))
          have hkH : (⟨k', modeOf (Pl x k') a.Who⟩ : api_Need) ∈ ks.filterMap (hf x a.Who) := by
            rw [List.mem_filterMap]
            refine ⟨k', hkks, ?_⟩
            unfold hf
            rw [if_pos]
            obtain ⟨y, hy, e⟩ := hk'
            exact List.mem_map.2 ⟨y, hy, e⟩
          cases hH : ks.filterMap (hf x a.Who) with
          | nil => rw [hH] at hkH; cases hkH
          | cons u v => rw [hH] at hd; simp at hd
      rintro j hj
      refine RB.cond (fun _ => RB.ret ⟨hI.mono (by omega), hO⟩) (fun hjf => ?_)
      refine RB.bind (R := fun c => (c = a ∧ a.Do = 0) ∨ c.Do = 2) ?_ ?_
      · refine RB.cond (fun _ => RB.ret (.inr rfl)) (fun hd => RB.ret (.inl ⟨rfl, ?_⟩))
        simpa using hd
      rintro c hcc
      have hact : ∃ l', registrarlaw21_act x c = some l' ∧ Inv (k.toNat + 1) l' ∧ Ord l' := by
        rcases hcc with ⟨rfl, hd⟩ | hd
        · obtain ⟨b, e, l', hr, hI', hQ⟩ := hI.ask2 (by omega) c.Who c.Path c.Mode hsz
          exact ⟨l', by rw [act0 _ _ hd, hr]; rfl, hI', askQ_ord hO hQ (hj hjf hd)⟩
        · obtain ⟨e, l', hr, hI', hQ⟩ := hI.leave2 (by omega) c.Who
          refine ⟨l', by rw [act2 _ _ hd, hr]; rfl, hI'.mono (by omega), ?_⟩
          rcases hQ with ⟨_, _, rfl⟩ | ⟨_, _, hLv⟩
          · exact hO
          · exact leave_ord hI hI' hO hLv
      obtain ⟨l', hr, hI', hO'⟩ := hact
      rw [hr]
      simp only [Option.bind_some]
      rw [hI'.nocycle (by omega) hO']
      exact RB.ret ⟨hI', hO'⟩
    · rintro (⟨b, s⟩ | s) h
      · exact RB.ret h
      · simp only at h
        refine RB.ret ⟨⟨by simp only; omega, by simp only; omega, ?_, h.2⟩, by simp only; omega⟩
        simp only [hw]
        rw [show (k + 1).toNat = k.toNat + 1 by omega]
        exact h.1
end Go.Proofs.Ytdmefifamlpbiaa
