/- The plain law of MdlPlays. Conditions: none. -/
import Derived.Test.YtdmefifamlpbiaaLike
namespace Go.Proofs.Ytdmefifamlpbiaa
open Go.Gv
attribute [local irreducible] Pl
theorem mk9 : mk 1 9 = some 9 := rfl
/-- What a list of nine says. -/
def inS (s : List Bool) (v : Int) : Prop := idx s v = some true
theorem inS_get {s : List Bool} {v : Int} (h0 : 0 ≤ v) : inS s v ↔ s[v.toNat]? = some true := by
  unfold inS idx
  rw [if_pos h0]
theorem inS_set {s : List Bool} {v u : Int} (hl : s.length = 9) (hv : 0 ≤ v) (hu : 0 ≤ u) (hu9 : u < 9) : inS (s.set u.toNat true) v ↔ v = u ∨ inS s v := by
  rw [inS_get hv, inS_get hv, List.getElem?_set]
  by_cases e : u.toNat = v.toNat
  · rw [if_pos e, if_pos (by omega)]
    simp
    left
    omega
  · rw [if_neg e]
    constructor
    · exact .inr
    · rintro (h | h)
      · subst h; exact absurd rfl e
      · exact h
theorem inS_idx {s : List Bool} {v : Int} (hl : s.length = 9) (h0 : 0 ≤ v) (h9 : v < 9) : ∃ b, idx s v = some b ∧ (b = true ↔ inS s v) := by
  obtain ⟨b, hb, _⟩ := idx_lt (xs := s) h0 (by omega)
  refine ⟨b, hb, ?_⟩
  unfold inS
  rw [hb]
  simp
theorem inS_none (v : Int) : ¬ inS (List.replicate 9 false) v := by
  unfold inS idx
  split
  · simp only [List.getElem?_replicate]
    split <;> simp
  · simp
theorem set_all {bs : List Int} {s0 : List Bool} (hl : s0.length = 9) (hb : ∀ b ∈ bs, 1 ≤ b ∧ b ≤ 8) : ∃ s', forE (fun (i59 : Nat) => fun (s58 : List Bool) => (idx bs (i59 : Int)).bind (fun (x66 : Int) => (idx s58 x66).bind (fun (x67 : Bool) => some (s58.set (x66).toNat true)))) bs.length 0 s0 = some s' ∧ s'.length = 9 ∧ ∀ v, 0 ≤ v → (inS s' v ↔ inS s0 v ∨ v ∈ bs) := by
  refine Ret.ex ((forE_ret (fun i (s : List Bool) => s.length = 9 ∧ ∀ v, 0 ≤ v → (inS s v ↔ inS s0 v ∨ v ∈ bs.take i)) ⟨hl, fun v _ => by simp⟩ ?_).mono (fun s hs => by rw [List.take_length] at hs; exact hs))
  rintro i s hi ⟨h1, h2⟩
  have hx : bs[i]? = some bs[i] := List.getElem?_eq_getElem hi
  have hr := hb _ (List.getElem_mem hi)
  obtain ⟨b, hb1, _⟩ := inS_idx h1 (v := bs[i]) (by omega) (by omega)
  simp only [idx_nat, hx, Option.bind_some, hb1]
  refine RB.ret ⟨by simp only [List.length_set]; exact h1, fun v hv => ?_⟩
  rw [inS_set h1 hv (by omega) (by omega), h2 v hv, take_snoc hx, List.mem_append, List.mem_singleton]
  constructor
  · rintro (h | h | h)
    · exact .inr (.inr h)
    · exact .inl h
    · exact .inr (.inl h)
  · rintro (h | h | h)
    · exact .inr (.inl h)
    · exact .inr (.inr h)
    · exact .inl h
/-! ### Blockers -/
theorem Rel.blockers {n N : Nat} {l : mdl_Locks} {r : RK} (hI : Inv N l) (h : Rel n l r) (hN : N ≤ 400) (hn : n ≤ 900) (w : Int) : registrarref21_Locks_Blockers r w = mdl_Locks_Blockers l w := by
  have hl := h.len
  rcases hI.blockers hN w with ⟨hno, e⟩ | ⟨k, A, x, B, bs, hq, hw, e, hlt, hmem⟩
  · rw [e]
    unfold registrarref21_Locks_Blockers
    rw [h.waits hI]
    rcases hI.waits w with ⟨_, e0⟩ | ⟨k', A, x, B, hq, hw, _, _⟩
    · rw [e0]; rfl
    · exact absurd ⟨x, by rw [hq]; simp, hw⟩ (hno k')
  · rw [e]
    have hA : ∀ y ∈ A, y.who ≠ w := by
      intro y hy e
      have hnd := (hI.pl k).nd
      rw [hq, List.map_append, List.nodup_append, List.map_append, List.map_cons, List.nodup_append] at hnd
      exact hnd.2.1.2.2 y.who (List.mem_map.2 ⟨y, hy, rfl⟩) x.who (List.mem_cons_self ..) (e.trans hw.symm)
    have hH : ∀ y ∈ (Pl l k).held, y.who ≠ w := by
      intro y hy e
      have hnd := (hI.pl k).nd
      rw [List.map_append, List.nodup_append] at hnd
      exact hnd.2.2 y.who (List.mem_map.2 ⟨y, hy, rfl⟩) x.who (List.mem_map.2 ⟨x, by rw [hq]; simp, rfl⟩) (e.trans hw.symm)
    have e0 : mdl_Locks_Waits l w = some (⟨k, x.mode⟩, true) := by
      rcases hI.waits w with ⟨hno, _⟩ | ⟨k', A', x', B', hq', hw', _, e0⟩
      · exact absurd hw (hno k x (by rw [hq]; simp))
      · have hk : k' = k := hI.w1 k' k x' x (by rw [hq']; simp) (by rw [hq]; simp) (hw'.trans hw.symm)
        subst hk
        have hnd := (hI.pl k').nd
        rw [List.map_append, List.nodup_append] at hnd
        have : x' = x := who_inj hnd.2.1 (by rw [hq']; simp) (by rw [hq]; simp) (hw'.trans hw.symm)
        rw [e0, this]
    have hrange : ∀ e ∈ r.L, 1 ≤ e.Who ∧ e.Who ≤ 8 := by
      intro e he
      rcases h.mem.1 he with ⟨y, hy, e1⟩ | ⟨y, hy, e1⟩
      · have := (hI.pl e.Path).wh y (List.mem_append_left _ hy)
        rw [e1]
        exact ⟨this.1, this.2.1⟩
      · have := (hI.pl e.Path).wh y (List.mem_append_right _ hy)
        rw [e1]
        exact ⟨this.1, this.2.1⟩
    refine Ret.eq ?_
    unfold registrarref21_Locks_Blockers
    rw [h.waits hI, e0]
    simp only [Option.bind_some, Bool.not_true, cond_false, mk9, refgoes_eq]
    -- those ahead, and those who hold
    refine RB.bind (R := fun s => s.2.length = 9 ∧ ∀ v, 0 ≤ v → (inS s.2 v ↔ v ∈ bs)) ?_ ?_
    · refine (forE_ret (fun i (s : Bool × List Bool) => s.1 = (atP (r.L.take i) k).any (fun e => e.Who == w) ∧ s.2.length = 9 ∧ ∀ v, 0 ≤ v → (inS s.2 v ↔ ∃ D1 e D2, atP (r.L.take i) k = D1 ++ e :: D2 ∧ e.Who = v ∧ ((e.Held = true ∧ G e.Mode x.mode = false) ∨ (e.Held = false ∧ ∀ u ∈ D1 ++ [e], u.Who ≠ w)))) ⟨by simp [atP], by simp, fun v hv => ?_⟩ ?_).mono ?_
      · constructor
        · intro hx; exact absurd hx (inS_none v)
        · rintro ⟨D1, e, D2, h1, _⟩
          simp [atP] at h1
      · rintro i ⟨bh, s⟩ hi ⟨h1, h2, h3⟩
        have hx : r.L[i]? = some r.L[i] := List.getElem?_eq_getElem hi
        have hr := hrange _ (List.getElem_mem hi)
        simp only at h1 h2 h3
        simp only [idx_nat, hx, Option.bind_some]
        rw [take_snoc hx, atP_app]
        refine RB.bind (R := fun s' : Bool × List Bool => s'.1 = (atP (r.L.take i) k ++ atP [r.L[i]] k).any (fun e => e.Who == w) ∧ s'.2.length = 9 ∧ ∀ v, 0 ≤ v → (inS s'.2 v ↔ ∃ D1 e D2, atP (r.L.take i) k ++ atP [r.L[i]] k = D1 ++ e :: D2 ∧ e.Who = v ∧ ((e.Held = true ∧ G e.Mode x.mode = false) ∨ (e.Held = false ∧ ∀ u ∈ D1 ++ [e], u.Who ≠ w)))) ?_ (fun _ h => RB.ret h)
        by_cases hp : r.L[i].Path = k
        · rw [atP_yes hp, hp, sEq_self]
          simp only [Bool.not_true, cond_false]
          have hdec : ∀ v, (∃ D1 e D2, atP (r.L.take i) k ++ [r.L[i]] = D1 ++ e :: D2 ∧ e.Who = v ∧ ((e.Held = true ∧ G e.Mode x.mode = false) ∨ (e.Held = false ∧ ∀ u ∈ D1 ++ [e], u.Who ≠ w))) ↔
              (∃ D1 e D2, atP (r.L.take i) k = D1 ++ e :: D2 ∧ e.Who = v ∧ ((e.Held = true ∧ G e.Mode x.mode = false) ∨ (e.Held = false ∧ ∀ u ∈ D1 ++ [e], u.Who ≠ w))) ∨ (r.L[i].Who = v ∧ ((r.L[i].Held = true ∧ G r.L[i].Mode x.mode = false) ∨ (r.L[i].Held = false ∧ bh = false ∧ r.L[i].Who ≠ w))) := by
            intro v
            have hbh : bh = false ↔ ∀ u ∈ atP (r.L.take i) k, u.Who ≠ w := by
              rw [h1, List.any_eq_false]
              simp
            constructor
            · rintro ⟨D1, e, D2, g1, g2, g3⟩
              rcases List.eq_nil_or_concat D2 with rfl | ⟨D3, d, rfl⟩
              · obtain ⟨q1, q2⟩ := List.append_inj' g1 (by simp)
                injection q2 with q2 _
                subst q2
                refine .inr ⟨g2, ?_⟩
                rcases g3 with g3 | ⟨g3, g4⟩
                · exact .inl g3
                · refine .inr ⟨g3, hbh.2 fun u hu => g4 u (List.mem_append_left _ (by rw [← q1]; exact hu)), g4 _ (by simp)⟩
              · have q : atP (r.L.take i) k ++ [r.L[i]] = (D1 ++ e :: D3) ++ [d] := by rw [g1]; simp
                obtain ⟨q1, _⟩ := List.append_inj' q (by simp)
                exact .inl ⟨D1, e, D3, q1, g2, g3⟩
            · rintro (⟨D1, e, D2, g1, g2, g3⟩ | ⟨g2, g3⟩)
              · exact ⟨D1, e, D2 ++ [r.L[i]], by rw [g1]; simp, g2, g3⟩
              · refine ⟨atP (r.L.take i) k, r.L[i], [], rfl, g2, ?_⟩
                rcases g3 with g3 | ⟨g3, g4, g5⟩
                · exact .inl g3
                · refine .inr ⟨g3, fun u hu => ?_⟩
                  rw [List.mem_append, List.mem_singleton] at hu
                  rcases hu with hu | rfl
                  · exact hbh.1 g4 u hu
                  · exact g5
          have hany : ((atP (r.L.take i) k ++ [r.L[i]]).any fun e => e.Who == w) = (bh || r.L[i].Who == w) := by rw [List.any_append, ← h1]; simp
          refine RB.bind (R := fun b => b = (r.L[i].Held && !G r.L[i].Mode x.mode)) ?_ ?_
          · cases r.L[i].Held <;> exact RB.ret (by simp)
          rintro b rfl
          obtain ⟨b0, hb0, _⟩ := inS_idx h2 (v := r.L[i].Who) (by omega) (by omega)
          cases hc : (r.L[i].Held && !G r.L[i].Mode x.mode) with
          | true =>
            simp only [Bool.and_eq_true, Bool.not_eq_true'] at hc
            simp only [cond_true]
            rw [hb0]
            simp only [Option.bind_some]
            rw [hc.1]
            simp only [Bool.not_true, Bool.false_and, cond_false, Option.bind_some]
            refine RB.ret ⟨hany.symm, by simp only [List.length_set]; exact h2, fun v hv => ?_⟩
            simp only
            rw [inS_set h2 hv (by omega) (by omega), hdec, h3 v hv]
            constructor
            · rintro (g | g)
              · exact .inr ⟨g.symm, .inl hc⟩
              · exact .inl g
            · rintro (g | g)
              · exact .inr g
              · exact .inl g.1.symm
          | false =>
            simp only [cond_false, Option.bind_some]
            cases hd : (!r.L[i].Held && !(bh || r.L[i].Who == w)) with
            | true =>
              simp only [Bool.and_eq_true, Bool.not_eq_true', Bool.or_eq_false_iff, beq_eq_false_iff_ne] at hd
              simp only [cond_true]
              rw [hb0]
              refine RB.ret ⟨hany.symm, by simp only [List.length_set]; exact h2, fun v hv => ?_⟩
              simp only
              rw [inS_set h2 hv (by omega) (by omega), hdec, h3 v hv]
              constructor
              · rintro (g | g)
                · exact .inr ⟨g.symm, .inr ⟨hd.1, hd.2.1, hd.2.2⟩⟩
                · exact .inl g
              · rintro (g | g)
                · exact .inr g
                · exact .inl g.1.symm
            | false =>
              simp only [cond_false]
              refine RB.ret ⟨hany.symm, h2, fun v hv => ?_⟩
              simp only
              rw [hdec, h3 v hv]
              constructor
              · exact .inl
              · rintro (g | ⟨_, g | ⟨g1, g2, g3⟩⟩)
                · exact g
                · rw [g.1, g.2] at hc
                  simp at hc
                · rw [g1, g2] at hd
                  simp at hd
                  exact absurd hd g3
        · rw [atP_no hp, sEq_no hp, List.append_nil]
          simp only [Bool.not_false, cond_true]
          exact RB.ret ⟨h1, h2, h3⟩
      · rintro s ⟨_, h2, h3⟩
        refine ⟨h2, fun v hv => ?_⟩
        rw [h3 v hv, List.take_length, h.eq, hmem]
        have hform : form k (Pl l k) = ((Pl l k).held.map (mk1 k true) ++ A.map (mk1 k false)) ++ mk1 k false x :: B.map (mk1 k false) := by
          unfold form
          rw [hq]
          simp
        rw [hform]
        constructor
        · rintro ⟨D1, e, D2, g1, g2, g3 | ⟨g3, g4⟩⟩
          · right
            have he : e ∈ form k (Pl l k) := by rw [hform, g1]; simp
            rcases form_mem.1 he with ⟨z, hz, rfl⟩ | ⟨z, hz, rfl⟩
            · exact ⟨z, hz, g2, g3.2⟩
            · have := g3.1
              cases this
          · left
            have hxn : mk1 k false x ∉ D1 ++ [e] := fun hm => g4 _ hm hw
            rcases List.append_eq_append_iff.1 g1 with ⟨C, q1, q2⟩ | ⟨C, q1, q2⟩
            · cases C with
              | nil =>
                simp only [List.nil_append] at q2
                injection q2 with q2 _
                exact absurd (by rw [← q2]; simp) hxn
              | cons c C =>
                simp only [List.cons_append] at q2
                injection q2 with q2 _
                exact absurd (by rw [q1, q2]; simp) hxn
            · cases C with
              | nil =>
                simp only [List.nil_append] at q2
                injection q2 with q2 _
                exact absurd (by rw [q2]; simp) hxn
              | cons c C =>
                simp only [List.cons_append] at q2
                injection q2 with q2 _
                have he : e ∈ (Pl l k).held.map (mk1 k true) ++ A.map (mk1 k false) := by rw [q1, q2]; simp
                rcases List.mem_append.1 he with he | he
                · obtain ⟨z, _, rfl⟩ := List.mem_map.1 he
                  cases g3
                · obtain ⟨z, hz, rfl⟩ := List.mem_map.1 he
                  exact List.mem_map.2 ⟨z, hz, g2⟩
        · rintro (g | ⟨z, hz, g1, g2⟩)
          · obtain ⟨z, hz, g1⟩ := List.mem_map.1 g
            obtain ⟨A1, A2, rfl⟩ := List.append_of_mem hz
            refine ⟨(Pl l k).held.map (mk1 k true) ++ A1.map (mk1 k false), mk1 k false z, A2.map (mk1 k false) ++ mk1 k false x :: B.map (mk1 k false), by simp, g1, .inr ⟨rfl, fun u hu => ?_⟩⟩
            rw [List.mem_append, List.mem_append, List.mem_singleton] at hu
            rcases hu with (hu | hu) | rfl
            · obtain ⟨y, hy, rfl⟩ := List.mem_map.1 hu
              exact hH y hy
            · obtain ⟨y, hy, rfl⟩ := List.mem_map.1 hu
              exact hA y (by simp [hy])
            · exact hA z hz
          · obtain ⟨H1, H2, hH2⟩ := List.append_of_mem hz
            exact ⟨H1.map (mk1 k true), mk1 k true z, H2.map (mk1 k true) ++ A.map (mk1 k false) ++ mk1 k false x :: B.map (mk1 k false), by rw [hH2]; simp, g1, .inl ⟨rfl, g2⟩⟩
    · rintro ⟨bh, s⟩ ⟨h2, h3⟩
      simp only at h2 h3
      refine RB.bind (R := fun t => t = bs) ((loopO_rb (fun (s' : List Int × Int) => 1 ≤ s'.2 ∧ s'.2 ≤ 9 ∧ s'.1.length ≤ s'.2.toNat ∧ s'.1.Pairwise (· < ·) ∧ ∀ v, v ∈ s'.1 ↔ 1 ≤ v ∧ v < s'.2 ∧ inS s v) (Q := fun (t : List Int) => t.Pairwise (· < ·) ∧ ∀ v, v ∈ t ↔ 1 ≤ v ∧ v < 9 ∧ inS s v) (fun s' => (9 - s'.2).toNat) ?_ (s := (([] : List Int), (1 : Int))) ⟨by simp, by simp, by simp, by simp, fun v => by simp; omega⟩).mono ?_) (fun _ ht => RB.ret ht)
      · rintro ⟨out, v⟩ ⟨g1, g2, g3, g4, g5⟩
        simp only at g1 g2 g3 g4 g5
        refine RB.cond (fun hc => ?_) (fun hc => ?_)
        · simp only [decide_eq_true_eq] at hc
          obtain ⟨b, hb, hbi⟩ := inS_idx h2 (v := v) (by omega) (by omega)
          rw [hb]
          simp only [Option.bind_some]
          rw [w64_id (by omega) (by omega)]
          cases b with
          | true =>
            simp only [cond_true]
            rw [app_le (by simp; omega)]
            refine RB.ret ⟨⟨by simp only; omega, by simp only; omega, by simp; omega, ?_, fun u => ?_⟩, by simp only; omega⟩
            · simp only
              rw [List.pairwise_append]
              refine ⟨g4, by simp, fun a ha c hc' => ?_⟩
              rw [List.mem_singleton] at hc'
              have := ((g5 a).1 ha).2.1
              omega
            · simp only [List.mem_append, List.mem_singleton]
              rw [g5]
              constructor
              · rintro (⟨q1, q2, q3⟩ | rfl)
                · exact ⟨q1, by omega, q3⟩
                · exact ⟨g1, by omega, hbi.1 rfl⟩
              · rintro ⟨q1, q2, q3⟩
                by_cases e : u = v
                · exact .inr e
                · exact .inl ⟨q1, by omega, q3⟩
          | false =>
            refine RB.ret ⟨⟨by simp only; omega, by simp only; omega, by simp only; omega, g4, fun u => ?_⟩, by simp only; omega⟩
            simp only
            rw [g5]
            constructor
            · rintro ⟨q1, q2, q3⟩
              exact ⟨q1, by omega, q3⟩
            · rintro ⟨q1, q2, q3⟩
              by_cases e : u = v
              · subst e
                have := hbi.2 q3
                cases this
              · exact ⟨q1, by omega, q3⟩
        · simp only [decide_eq_false_iff_not] at hc
          refine RB.ret ⟨g4, fun u => ?_⟩
          rw [g5]
          constructor
          · rintro ⟨q1, q2, q3⟩
            exact ⟨q1, by omega, q3⟩
          · rintro ⟨q1, q2, q3⟩
            exact ⟨q1, by omega, q3⟩
      · rintro t ⟨g1, g2⟩
        refine int_eq t bs g1 hlt fun v => ?_
        rw [g2]
        constructor
        · rintro ⟨q1, _, q3⟩
          exact (h3 v (by omega)).1 q3
        · intro hv
          have hr : 1 ≤ v ∧ v ≤ 8 := by
            rcases (hmem v).1 hv with hm | ⟨z, hz, rfl, _⟩
            · obtain ⟨y, hy, rfl⟩ := List.mem_map.1 hm
              have := (hI.pl k).wh y (List.mem_append_right _ (by rw [hq]; simp [hy]))
              exact ⟨this.1, this.2.1⟩
            · have := (hI.pl k).wh z (List.mem_append_left _ hz)
              exact ⟨this.1, this.2.1⟩
          exact ⟨hr.1, by omega, (h3 v (by omega)).2 hv⟩
end Go.Proofs.Ytdmefifamlpbiaa
