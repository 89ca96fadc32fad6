/- Locks asked for in rising order: the plain law of MdlOrdered. Conditions: none. -/
import Derived.Test.YtdmefifamlpbiaaStrong
namespace Go.Proofs.Ytdmefifamlpbiaa
open Go.Gv
attribute [local irreducible] Pl
theorem find_at {A B : List One} {x : One} {w : Int} (hw : x.who = w) (hA : ∀ y ∈ A, y.who ≠ w) : mdl_find (A ++ x :: B) w = some (A.length : Int) := by
  rcases find_spec (A ++ x :: B) w with ⟨hn, _⟩ | ⟨A', x', B', h1, h2, h3, h4⟩
  · exact absurd hw (hn x (by simp))
  · rw [h4]
    have : A'.length = A.length := by
      rcases Nat.lt_trichotomy A'.length A.length with h9 | h9 | h9
      · have hx' : x' ∈ A := by
          have e2 : (A ++ x :: B)[A'.length]? = some x' := by rw [h1, List.getElem?_append_right (Nat.le_refl _), Nat.sub_self]; rfl
          rw [List.getElem?_append_left h9] at e2
          exact List.mem_of_getElem? e2
        exact absurd h2 (hA x' hx')
      · exact h9
      · have hx' : x ∈ A' := by
          have e2 : (A' ++ x' :: B')[A.length]? = some x := by rw [← h1, List.getElem?_append_right (Nat.le_refl _), Nat.sub_self]; rfl
          rw [List.getElem?_append_left h9] at e2
          exact List.mem_of_getElem? e2
        exact absurd hw (h3 x hx')
    rw [this]
/-- Who waits waits for more than it holds. -/
def Ord (l : mdl_Locks) : Prop := ∀ w k k', waitsAt l w k → holdsAt l w k' → sLt k' k = true
/-! ### Whom nobody goes beyond -/
theorem max_of {R : Int → Int → Prop} (hi : ∀ x, ¬ R x x) (ht : ∀ x y z, R x y → R y z → R x z) : ∀ (S : List Int), S ≠ [] → ∃ k ∈ S, ∀ x ∈ S, ¬ R k x
  | [], h => absurd rfl h
  | [a], _ => ⟨a, by simp, fun x hx => by rw [List.mem_singleton] at hx; subst hx; exact hi x⟩
  | a :: b :: S, _ => by
    obtain ⟨k, hk, hm⟩ := max_of hi ht (b :: S) (by simp)
    by_cases h : R k a
    · refine ⟨a, List.mem_cons_self .., fun x hx hax => ?_⟩
      rcases List.mem_cons.1 hx with rfl | hx
      · exact hi _ hax
      · exact hm x hx (ht _ _ _ h hax)
    · refine ⟨k, List.mem_cons_of_mem _ hk, fun x hx hkx => ?_⟩
      rcases List.mem_cons.1 hx with rfl | hx
      · exact h hkx
      · exact hm x hx hkx
noncomputable def wp (l : mdl_Locks) (w : Int) : ByteArray := ((mdl_Locks_Waits l w).map (·.1.Path)).getD ⟨#[]⟩
noncomputable def posOf (l : mdl_Locks) (w : Int) : Int := (mdl_find (Pl l (wp l w)).queue w).getD 0
def Rw (l : mdl_Locks) (k x : Int) : Prop := sLt (wp l k) (wp l x) = true ∨ (wp l k = wp l x ∧ posOf l x < posOf l k)
theorem Rw_i (l : mdl_Locks) (x : Int) : ¬ Rw l x x := by
  rintro (h | ⟨_, h⟩)
  · rw [sLt_irrefl] at h; cases h
  · omega
theorem Rw_t (l : mdl_Locks) (x y z : Int) : Rw l x y → Rw l y z → Rw l x z := by
  rintro (h | ⟨h, h'⟩) (g | ⟨g, g'⟩)
  · exact .inl (sLt_trans h g)
  · exact .inl (g ▸ h)
  · exact .inl (h ▸ g)
  · exact .inr ⟨h.trans g, by omega⟩
theorem Inv.wpos {n : Nat} {l : mdl_Locks} (h : Inv n l) {w : Int} {k : ByteArray} (hw : waitsAt l w k) : wp l w = k ∧ ∃ A x B, (Pl l k).queue = A ++ x :: B ∧ x.who = w ∧ (∀ y ∈ A, y.who ≠ w) ∧ posOf l w = (A.length : Int) := by
  obtain ⟨y, hy, hyw⟩ := hw
  rcases h.waits w with ⟨hno, _⟩ | ⟨k', A, x, B, hq, hxw, hA, e⟩
  · exact absurd hyw (hno k y hy)
  · have hk : k' = k := h.w1 k' k x y (by rw [hq]; simp) hy (hxw.trans hyw.symm)
    subst hk
    have e1 : wp l w = k' := by unfold wp; rw [e]; rfl
    refine ⟨e1, A, x, B, hq, hxw, hA, ?_⟩
    unfold posOf
    rw [e1, hq, find_at hxw hA]
    rfl
/-- Who is blocked by one who waits is beyond. -/
theorem Inv.beyond {n : Nat} {l : mdl_Locks} (h : Inv n l) (hN : n ≤ 400) (hO : Ord l) {k y : Int} {b : List Int} (hb : mdl_Locks_Blockers l k = some b) (hy : y ∈ b) {P : ByteArray} (hyw : waitsAt l y P) : Rw l k y := by
  rcases h.blockers hN k with ⟨_, e⟩ | ⟨Q, A, x, B, r, hq, hx, e, _, hr⟩
  · rw [hb] at e
    injection e with e
    subst e
    cases hy
  · rw [hb] at e
    injection e with e
    subst e
    obtain ⟨e1, A1, x1, B1, hq1, hx1, hA1, hp1⟩ := h.wpos (w := k) (k := Q) ⟨x, by rw [hq]; simp, hx⟩
    have hlen : A1.length = A.length := by
      have hA : ∀ y ∈ A, y.who ≠ k := by
        intro y hy e
        have hnd := (h.pl Q).nd
        rw [hq, List.map_append, List.nodup_append, List.map_append, List.map_cons, List.nodup_append] at hnd
        exact hnd.2.1.2.2 y.who (List.mem_map.2 ⟨y, hy, rfl⟩) x.who (List.mem_cons_self ..) (e.trans hx.symm)
      have f1 := find_at (B := B1) hx1 hA1
      have f2 := find_at (B := B) hx hA
      rw [← hq1] at f1
      rw [← hq, f1] at f2
      injection f2 with f2
      omega
    rcases (hr y).1 hy with h1 | ⟨z, hz, hzw, _⟩
    · obtain ⟨u, hu, huw⟩ := List.mem_map.1 h1
      obtain ⟨e2, A2, x2, B2, hq2, hx2, hA2, hp2⟩ := h.wpos (w := y) (k := Q) ⟨u, by rw [hq]; simp [hu], huw⟩
      refine .inr ⟨by rw [e1, e2], ?_⟩
      rw [hp1, hp2, hlen]
      have : A2.length < A.length := by
        refine Classical.byContradiction fun hn => ?_
        obtain ⟨i, hi, hiu⟩ := List.getElem_of_mem hu
        have g1 : (A ++ x :: B)[i]? = some u := by rw [List.getElem?_append_left hi, List.getElem?_eq_getElem hi, hiu]
        rw [← hq, hq2, List.getElem?_append_left (by omega)] at g1
        exact hA2 u (List.mem_of_getElem? g1) huw
      omega
    · refine .inl ?_
      obtain ⟨e2, _⟩ := h.wpos hyw
      rw [e1, e2]
      exact hO y P Q hyw ⟨z, hz, hzw⟩
/-! ### Cycle -/
theorem mset_new {ν : Type} {l : List (Int × ν)} {k : Int} {v : ν} (h : k ∉ l.map (·.1)) : mset iEq l k v = l ++ [(k, v)] := by
  induction l with
  | nil => rfl
  | cons p r ih =>
    obtain ⟨a, u⟩ := p
    simp only [List.map_cons, List.mem_cons, not_or] at h
    rw [mset_cons, ieq.ne h.1]
    simp only [cond_false, List.cons_append]
    rw [ih h.2]
theorem Inv.left {n : Nat} {l : mdl_Locks} (h : Inv n l) (hN : n ≤ 400) : ∃ L, mdl_left l = some L ∧ (L.map (·.1)).Nodup ∧ (∀ p ∈ L, p.2 ≠ []) ∧ ∀ k b, (k, b) ∈ L ↔ 1 ≤ k ∧ k ≤ 8 ∧ b ≠ [] ∧ mdl_Locks_Blockers l k = some b := by
  have hB : ∀ w, ∃ b, mdl_Locks_Blockers l w = some b := by
    intro w
    rcases h.blockers hN w with ⟨_, e⟩ | ⟨_, _, _, _, r, _, _, e, _⟩
    · exact ⟨_, e⟩
    · exact ⟨_, e⟩
  refine Ret.ex ?_
  unfold mdl_left
  refine (loopO_rb (fun (s : Int × KV) => 1 ≤ s.1 ∧ s.1 ≤ 9 ∧ (s.2.map (·.1)).Nodup ∧ (∀ p ∈ s.2, p.2 ≠ []) ∧ ∀ k b, (k, b) ∈ s.2 ↔ 1 ≤ k ∧ k < s.1 ∧ b ≠ [] ∧ mdl_Locks_Blockers l k = some b) (Q := fun (L : KV) => (L.map (·.1)).Nodup ∧ (∀ p ∈ L, p.2 ≠ []) ∧ ∀ k b, (k, b) ∈ L ↔ 1 ≤ k ∧ k ≤ 8 ∧ b ≠ [] ∧ mdl_Locks_Blockers l k = some b) (fun s => (9 - s.1).toNat) ?_ (s := ((1 : Int), ([] : KV))) ⟨by simp, by simp, by simp, by simp, fun k b => by simp; omega⟩)
  rintro ⟨w, L⟩ ⟨h1, h2, h3, h4, h5⟩
  simp only at h1 h2 h3 h4 h5
  refine RB.cond (fun hc => ?_) (fun hc => ?_)
  · simp only [decide_eq_true_eq] at hc
    obtain ⟨b, hb⟩ := hB w
    rw [hb]
    simp only [Option.bind_some]
    have hnk : w ∉ L.map (·.1) := by
      intro hm
      obtain ⟨⟨k', b'⟩, hm', rfl⟩ := List.mem_map.1 hm
      have := ((h5 k' b').1 hm').2.1
      simp only at this
      omega
    rw [w64_id (by omega) (by omega)]
    refine RB.cond (fun hl => ?_) (fun hl => ?_)
    · have hbn : b ≠ [] := by rintro rfl; simp at hl
      rw [mset_new hnk]
      refine RB.ret ⟨⟨by simp only; omega, by simp only; omega, ?_, ?_, ?_⟩, by simp only; omega⟩
      · simp only [List.map_append, List.map_cons, List.map_nil]
        rw [List.nodup_append]
        refine ⟨h3, by simp, fun a ha c hc e => ?_⟩
        rw [List.mem_singleton] at hc
        exact hnk (hc ▸ e ▸ ha)
      · intro p hp
        rw [List.mem_append, List.mem_singleton] at hp
        rcases hp with hp | rfl
        · exact h4 p hp
        · exact hbn
      · intro k b'
        simp only
        rw [List.mem_append, List.mem_singleton, h5]
        constructor
        · rintro (⟨g1, g2, g3, g4⟩ | g)
          · exact ⟨g1, by omega, g3, g4⟩
          · injection g with g1 g2
            subst g1 g2
            exact ⟨h1, by omega, hbn, hb⟩
        · rintro ⟨g1, g2, g3, g4⟩
          by_cases e : k = w
          · subst e
            rw [hb] at g4
            injection g4 with g4
            subst g4
            exact .inr rfl
          · exact .inl ⟨g1, by omega, g3, g4⟩
    · have hbn : b = [] := by
        cases b with
        | nil => rfl
        | cons y r => simp at hl
      refine RB.ret ⟨⟨by simp only; omega, by simp only; omega, h3, h4, fun k b' => ?_⟩, by simp only; omega⟩
      simp only
      rw [h5]
      constructor
      · rintro ⟨g1, g2, g3, g4⟩
        exact ⟨g1, by omega, g3, g4⟩
      · rintro ⟨g1, g2, g3, g4⟩
        by_cases e : k = w
        · subst e
          rw [hb] at g4
          injection g4 with g4
          exact absurd (g4 ▸ hbn) g3
        · exact ⟨g1, by omega, g3, g4⟩
  · simp only [decide_eq_false_iff_not] at hc
    refine RB.ret ⟨h3, h4, fun k b => ?_⟩
    rw [h5]
    constructor
    · rintro ⟨g1, g2, g3, g4⟩
      exact ⟨g1, by omega, g3, g4⟩
    · rintro ⟨g1, g2, g3, g4⟩
      exact ⟨g1, by omega, g3, g4⟩
theorem Inv.cyc {n : Nat} {l : mdl_Locks} (h : Inv n l) (hN : n ≤ 400) : ∃ L, mdl_Locks_Cycle l = some (cycB L) ∧ (∀ p ∈ L, p.2 ≠ []) ∧ ∀ k b, (k, b) ∈ L ↔ 1 ≤ k ∧ k ≤ 8 ∧ b ≠ [] ∧ mdl_Locks_Blockers l k = some b := by
  obtain ⟨L, e, h1, h2, h3⟩ := h.left hN
  refine ⟨L, ?_, h2, h3⟩
  unfold mdl_Locks_Cycle mdl_Locks_dead
  simp only [Option.bind_some]
  rw [e]
  simp only [Option.bind_some]
  rw [if_pos ⟨h1, h2⟩]
theorem Inv.waiter {n : Nat} {l : mdl_Locks} (h : Inv n l) (hN : n ≤ 400) {k : Int} {b : List Int} (hb : mdl_Locks_Blockers l k = some b) (hn : b ≠ []) : ∃ P, waitsAt l k P := by
  rcases h.blockers hN k with ⟨_, e⟩ | ⟨Q, A, x, B, r, hq, hx, e, _, hr⟩
  · rw [hb] at e
    injection e with e
    exact absurd e hn
  · exact ⟨Q, x, by rw [hq]; simp, hx⟩
theorem Inv.nocycle {n : Nat} {l : mdl_Locks} (h : Inv n l) (hN : n ≤ 400) (hO : Ord l) : mdl_Locks_Cycle l = some false := by
  obtain ⟨L, e, h2, h3⟩ := h.cyc hN
  rw [e]
  congr 1
  unfold cycB
  rw [decide_eq_false_iff_not]
  rintro ⟨S, hS, hst⟩
  obtain ⟨k, hk, hm⟩ := max_of (Rw_i l) (Rw_t l) S hS
  obtain ⟨b, hb, y, hy, hyS⟩ := hst k hk
  obtain ⟨_, _, _, hbl⟩ := (h3 k b).1 hb
  obtain ⟨b', hb', _⟩ := hst y hyS
  obtain ⟨_, _, hn', hbl'⟩ := (h3 y b').1 hb'
  obtain ⟨P, hP⟩ := h.waiter hN hbl' hn'
  exact hm y hyS (h.beyond hN hO hbl hy hP)
/-! ### Acts -/
theorem askQ_ord {l l' : mdl_Locks} {w : Int} {k : ByteArray} {m : Int} {b : Bool} {e : Int} (hO : Ord l) (h : AskQ l w k m b e l') (hh : ∀ k', holdsAt l w k' → sLt k' k = true) : Ord l' := by
  rcases h with ⟨_, _, _, rfl⟩ | ⟨_, _, _, _, rfl⟩ | ⟨_, _, _, _, _, rfl⟩ | ⟨hok, hnw, hnh, hb, he, hs, hk⟩
  · exact hO
  · exact hO
  · exact hO
  have hW : ∀ v j, waitsAt l' v j → waitsAt l v j ∨ (v = w ∧ j = k ∧ b = false) := by
    rintro v j ⟨x, hx, hxv⟩
    by_cases e : j = k
    · subst e
      rw [hk] at hx
      cases b with
      | true => exact .inl ⟨x, hx, hxv⟩
      | false =>
        simp only [cond_false] at hx
        rw [List.mem_append, List.mem_singleton] at hx
        rcases hx with hx | rfl
        · exact .inl ⟨x, hx, hxv⟩
        · exact .inr ⟨hxv.symm, rfl, rfl⟩
    · rw [hs j e] at hx
      exact .inl ⟨x, hx, hxv⟩
  have hH : ∀ v j, holdsAt l' v j → holdsAt l v j ∨ (v = w ∧ b = true) := by
    rintro v j ⟨x, hx, hxv⟩
    by_cases e : j = k
    · subst e
      rw [hk] at hx
      cases b with
      | false => exact .inl ⟨x, hx, hxv⟩
      | true =>
        simp only [cond_true] at hx
        rw [List.mem_append, List.mem_singleton] at hx
        rcases hx with hx | rfl
        · exact .inl ⟨x, hx, hxv⟩
        · exact .inr ⟨hxv.symm, rfl⟩
    · rw [hs j e] at hx
      exact .inl ⟨x, hx, hxv⟩
  intro v j j' h1 h2
  rcases hW v j h1 with h3 | ⟨rfl, rfl, h3⟩ <;> rcases hH v j' h2 with h4 | ⟨h5, h4⟩
  · exact hO v j j' h3 h4
  · subst h5
    exact absurd h3 (hnw j)
  · exact hh j' h4
  · rw [h3] at h4; cases h4
theorem Lv.sub {w : Int} {p p' : Place} (h : Lv w p p') : (∀ x ∈ p'.queue, x ∈ p.queue) ∧ (∀ x ∈ p'.held, x ∈ p.held ∨ x ∈ p.queue) ∧ ∀ x ∈ p'.held ++ p'.queue, x.who ≠ w := by
  obtain ⟨T, R, rfl, hq⟩ := h
  have hT : ∀ x ∈ T ++ R, x ∈ p.queue ∧ x.who ≠ w := by
    intro x hx
    rw [← hq] at hx
    obtain ⟨h1, h2⟩ := List.mem_filter.1 hx
    exact ⟨h1, by simpa using h2⟩
  have hH : ∀ x ∈ wo w p.held, x ∈ p.held ∧ x.who ≠ w := by
    intro x hx
    obtain ⟨h1, h2⟩ := List.mem_filter.1 hx
    exact ⟨h1, by simpa using h2⟩
  refine ⟨fun x hx => (hT x (List.mem_append_right _ hx)).1, fun x hx => ?_, fun x hx => ?_⟩
  · rcases List.mem_append.1 hx with h | h
    · exact .inl (hH x h).1
    · exact .inr (hT x (List.mem_append_left _ h)).1
  · rcases List.mem_append.1 hx with h | h
    · rcases List.mem_append.1 h with h | h
      · exact (hH x h).2
      · exact (hT x (List.mem_append_left _ h)).2
    · exact (hT x (List.mem_append_right _ h)).2
theorem leave_ord {n : Nat} {l l' : mdl_Locks} {w : Int} (hI : Inv n l) (hI' : Inv n l') (hO : Ord l) (h : ∀ j, Lv w (Pl l j) (Pl l' j)) : Ord l' := by
  rintro v j j' ⟨x, hx, hxv⟩ ⟨y, hy, hyv⟩
  have h1 := (h j).sub.1 x hx
  rcases (h j').sub.2.1 y hy with h2 | h2
  · exact hO v j j' ⟨x, h1, hxv⟩ ⟨y, h2, hyv⟩
  · have e : j = j' := hI.w1 j j' x y h1 h2 (hxv.trans hyv.symm)
    subst e
    have hnd := (hI'.pl j).nd
    rw [List.map_append, List.nodup_append] at hnd
    exact absurd (hyv.trans hxv.symm) (hnd.2.2 y.who (List.mem_map.2 ⟨y, hy, rfl⟩) x.who (List.mem_map.2 ⟨x, hx, rfl⟩))
/-! ### Who is there -/
def active (l : mdl_Locks) (w : Int) : Prop := ∃ j, ∃ x ∈ (Pl l j).held ++ (Pl l j).queue, x.who = w
theorem Inv.act_range {n : Nat} {l : mdl_Locks} (h : Inv n l) {w : Int} (ha : active l w) : 1 ≤ w ∧ w ≤ 8 := by
  obtain ⟨j, x, hx, rfl⟩ := ha
  have := (h.pl j).wh x hx
  exact ⟨this.1, this.2.1⟩
theorem Inv.holds_ne {n : Nat} {l : mdl_Locks} (h : Inv n l) (hN : n ≤ 1000) (w : Int) : ∃ r, mdl_Locks_Holds l w = some r ∧ (r ≠ [] ↔ ∃ k, holdsAt l w k) := by
  obtain ⟨r, e, _, h1, h2⟩ := h.holds hN w
  refine ⟨r, e, ⟨fun hn => ?_, ?_⟩⟩
  · obtain ⟨x, hx⟩ := List.exists_mem_of_ne_nil _ hn
    obtain ⟨y, hy, e⟩ := List.mem_map.1 (h1 x hx).1
    exact ⟨x.Path, y, hy, e⟩
  · rintro ⟨k, y, hy, e'⟩ rfl
    obtain ⟨x, hx, _⟩ := h2 k (List.mem_map.2 ⟨y, hy, e'⟩)
    cases hx
def idle (l : mdl_Locks) (w : Int) : Prop := (∀ k, ¬ waitsAt l w k) ∧ ∃ k, holdsAt l w k
open Classical in
/-- If somebody waits, somebody who does not wait is there. -/
theorem Inv.idler {n : Nat} {l : mdl_Locks} (h : Inv n l) (hN : n ≤ 400) (hO : Ord l) {w : Int} {k : ByteArray} (hw : waitsAt l w k) : ∃ v, 1 ≤ v ∧ v ≤ 8 ∧ idle l v := by
  have hr : ∀ v, (∃ k, waitsAt l v k) → v ∈ [1, 2, 3, 4, 5, 6, 7, (8 : Int)] := by
    rintro v ⟨k, x, hx, rfl⟩
    have := (h.pl k).wh x (List.mem_append_right _ hx)
    simp
    omega
  obtain ⟨m, hm, hmax⟩ := max_of (Rw_i l) (Rw_t l) ([1, 2, 3, 4, 5, 6, 7, (8 : Int)].filter fun v => decide (∃ k, waitsAt l v k)) (by
    intro e
    have : w ∈ ([1, 2, 3, 4, 5, 6, 7, (8 : Int)].filter fun v => decide (∃ k, waitsAt l v k)) := List.mem_filter.2 ⟨hr w ⟨k, hw⟩, by simpa using ⟨k, hw⟩⟩
    rw [e] at this
    cases this)
  obtain ⟨_, hm2⟩ := List.mem_filter.1 hm
  obtain ⟨Q, hQ⟩ := of_decide_eq_true hm2
  obtain ⟨e1, A, x, B, hq, _, _, _⟩ := h.wpos hQ
  have hbl : ∃ z ∈ (Pl l Q).held, True := by
    cases A with
    | nil => obtain ⟨z, hz, _⟩ := (h.pl Q).bl x B hq; exact ⟨z, hz, trivial⟩
    | cons y A' => obtain ⟨z, hz, _⟩ := (h.pl Q).bl y (A' ++ x :: B) hq; exact ⟨z, hz, trivial⟩
  obtain ⟨z, hz, _⟩ := hbl
  have hzr := (h.pl Q).wh z (List.mem_append_left _ hz)
  refine ⟨z.who, hzr.1, hzr.2.1, fun P hP => ?_, Q, z, hz, rfl⟩
  refine hmax z.who (List.mem_filter.2 ⟨hr _ ⟨P, hP⟩, by simpa using ⟨P, hP⟩⟩) (.inl ?_)
  rw [e1, (h.wpos hP).1]
  exact hO z.who P Q hP ⟨z, hz, rfl⟩
end Go.Proofs.Ytdmefifamlpbiaa
