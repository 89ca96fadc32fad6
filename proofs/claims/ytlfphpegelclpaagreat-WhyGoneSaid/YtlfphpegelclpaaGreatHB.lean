/- Plain laws: what the plain functions answer. Conditions: none. -/
import Derived.Test.YtlfphpegelclpaaGreatHA
set_option maxRecDepth 100000
namespace Go.Proofs.YtlfphpegelclpaaGreat
open Go.Gv
theorem filter_le {α : Type} {p q : α → Bool} (h : ∀ x, p x = true → q x = true) (l : List α) : (l.filter p).Sublist (l.filter q) := by
  have e : l.filter p = (l.filter q).filter p := by
    rw [List.filter_filter]
    exact (List.filter_congr fun x _ => by
      cases hp : p x with
      | false => rfl
      | true => rw [h x hp]; rfl).symm
  rw [e]
  exact List.filter_sublist
theorem rnds_up (c : qC) (k : Nat) : (rnds c k).Sublist (rnds c (k + 1)) := by
  rw [rnds_pk, rnds_pk]
  exact filter_le (pk_mono c k) _
theorem soon (c : qC) : ∀ k : Nat, k ≤ (rnds c k).length ∨ ∃ j, j < k ∧ rnds c (j + 1) = rnds c j
  | 0 => .inl (Nat.zero_le _)
  | k + 1 => by
    rcases soon c k with h | ⟨j, h1, h2⟩
    · by_cases he : (rnds c (k + 1)).length ≤ (rnds c k).length
      · exact .inr ⟨k, by omega, ((rnds_up c k).eq_of_length_le he).symm⟩
      · exact .inl om
    · exact .inr ⟨j, by omega, h2⟩
theorem he_all (c : qC) (m : Nat) : rnds c (c.Grants.length + 1 + m) = heR c := by
  rcases soon c (c.Grants.length + 1) with h | ⟨j, h1, h2⟩
  · have := rnds_len c (c.Grants.length + 1)
    omega
  · have e : ∀ q, c.Grants.length + 1 + q = j + (c.Grants.length + 1 + q - j) := fun q => by omega
    unfold heR
    rw [e m, stable h2, show c.Grants.length + 1 = j + (c.Grants.length + 1 - j) by omega, stable h2]
theorem he_fix (c : qC) : heR c = c.Grants.filter (okB c (heR c)) := (he_all c 1).symm
theorem he_mem {c : qC} {g : qG} : g ∈ heR c ↔ g ∈ c.Grants ∧ okB c (heR c) g = true := by
  have e := he_fix c
  constructor
  · intro h
    rw [e] at h
    exact List.mem_filter.1 h
  · intro h
    rw [e]
    exact List.mem_filter.2 h
theorem ow_tI {c : qC} {r t : By8} (h : owB c r t = true) : 0 ≤ tI c t := by
  by_cases h0 : 0 ≤ tI c t
  · exact h0
  · unfold owB r19_Owns at h
    rw [tat_val] at h
    simp only [obs, show decide (tI c t ≥ 0) = false by simpa using h0, cond_false, Option.getD_some] at h
    cases h
theorem fit_iff {c : qC} {p : Int} {t : By8} {g : qG} {o : Bool} : fitB c p t g o = true ↔ 0 ≤ rI c.Roles g.To ∧ g.Priv = p ∧ g.Table = t ∧ (g.Option = true ∨ o = false) := by
  unfold fitB
  simp only [Bool.and_eq_true, Bool.or_eq_true, Bool.not_eq_true', decide_eq_true_eq, beq_iff_eq, sEq_iff, and_assoc]
theorem ha_iff {c : qC} {l : List qG} {r : By8} {p : Int} {t : By8} {o : Bool} : haB c l r p t o = true ↔ ∃ g ∈ l, g.Priv = p ∧ g.Table = t ∧ (g.Option = true ∨ o = false) ∧ isB c.Roles r g.To = true := by
  unfold haB
  rw [List.any_eq_true]
  simp only [Bool.and_eq_true, Bool.or_eq_true, Bool.not_eq_true', beq_iff_eq, sEq_iff, and_assoc]
theorem ok_iff {c : qC} {l : List qG} {g : qG} : okB c l g = true ↔ 0 ≤ tI c g.Table ∧ 0 ≤ rI c.Roles g.To ∧ (owB c g.By g.Table = true ∨ haB c l g.By g.Priv g.Table true = true) := by
  unfold okB
  simp only [Bool.and_eq_true, Bool.or_eq_true, decide_eq_true_eq, and_assoc]
theorem rs_tI {c : qC} {p : Int} {t : By8} : ∀ (k : Nat) (r : By8) (o : Bool), Rs c p t k r o → 0 ≤ tI c t
  | 0, _, _, h => ow_tI h
  | k + 1, _, _, ⟨g, _, _, _, h⟩ => rs_tI k g.By true h
theorem rs_he {c : qC} {p : Int} {t : By8} : ∀ (k : Nat) (g : qG), g ∈ c.Grants → fitB c p t g false = true → Rs c p t k g.By true → g ∈ heR c
  | 0, g, hg, hf, h => by
    obtain ⟨f1, f2, f3, _⟩ := fit_iff.1 hf
    refine he_mem.2 ⟨hg, ok_iff.2 ⟨by rw [f3]; exact rs_tI 0 _ true h, f1, .inl ?_⟩⟩
    rw [f3]
    exact h
  | k + 1, g, hg, hf, h => by
    obtain ⟨f1, f2, f3, _⟩ := fit_iff.1 hf
    have ht := rs_tI (k + 1) _ true h
    obtain ⟨g', h1, h2, h3, h4⟩ := h
    obtain ⟨e1, e2, e3, e4⟩ := fit_iff.1 h2
    have hm := rs_he k g' h1 (fit_weak h2) h4
    refine he_mem.2 ⟨hg, ok_iff.2 ⟨by rw [f3]; exact ht, f1, .inr (ha_iff.2 ⟨g', hm, by rw [f2]; exact e2, by rw [f3]; exact e3, ?_, h3⟩)⟩⟩
    rcases e4 with e4 | e4
    · exact .inl e4
    · cases e4
theorem has32 (l : List qG) (g : qG) : ∃ b, law32_has l g = some b ∧ (b = true ↔ g ∈ l) := by
  unfold law32_has
  have heq : ∀ x : qG, (sEq x.To g.To && (sEq x.By g.By && (sEq x.Table g.Table && ((x.Priv == g.Priv) && (x.Option == g.Option))))) = true ↔ x = g := by
    intro x
    simp only [Bool.and_eq_true, sEq_iff, beq_iff_eq]
    constructor
    · rintro ⟨a, b, c, d, e⟩
      cases x; cases g
      simp_all
    · rintro rfl
      simp
  rw [forN_list (v := true) (fun x => !(sEq x.To g.To && (sEq x.By g.By && (sEq x.Table g.Table && ((x.Priv == g.Priv) && (x.Option == g.Option)))))) (fun j x hx => by
    rw [idx_nat, hx]
    simp only [obs]
    cases (sEq x.To g.To && (sEq x.By g.By && (sEq x.Table g.Table && ((x.Priv == g.Priv) && (x.Option == g.Option))))) <;> rfl)]
  cases hc : (l.all fun x => !(sEq x.To g.To && (sEq x.By g.By && (sEq x.Table g.Table && ((x.Priv == g.Priv) && (x.Option == g.Option)))))) with
  | true =>
    refine ⟨_, rfl, ⟨(fun h => by cases h), fun hm => ?_⟩⟩
    have := List.all_eq_true.1 hc g hm
    rw [(heq g).2 rfl] at this
    cases this
  | false =>
    refine ⟨_, rfl, ⟨fun _ => ?_, fun _ => rfl⟩⟩
    obtain ⟨x, hx, hx2⟩ := List.all_eq_false.1 hc
    have : (sEq x.To g.To && (sEq x.By g.By && (sEq x.Table g.Table && ((x.Priv == g.Priv) && (x.Option == g.Option))))) = true := by simpa using hx2
    rw [(heq x).1 this] at hx
    exact hx
theorem RB.any {α : Type} {m : Option α} : RB False m (fun r => m = some r) := ⟨fun h => h.elim, fun _ h => h⟩
theorem RB.no {α : Type} {m : Option α} : RB False m TT := ⟨fun h => h.elim, fun _ _ => trivial⟩
theorem rb_and {α : Type} {b : Prop} {m : Option α} {Q Q' : α → Prop} (h : RB b m Q) (h' : RB False m Q') : RB b m (fun r => Q r ∧ Q' r) := ⟨h.is, fun r e => ⟨h.so r e, h'.so r e⟩⟩
theorem ya8 {α β : Type} {k : Nat} {xs ys : List β} {f : List β → Option α} {Q : α → Prop} (h : RB False (f (xs ++ ys)) Q) : RB False ((app k xs ys).bind f) Q := yd RB.any fun l hl => by rw [(app_some hl).2]; exact h
theorem RB.idP {α β : Type} {xs : List β} {i : Int} {f : β → Option α} {Q : α → Prop} (h : ∀ x, x ∈ xs → RB False (f x) Q) : RB False ((idx xs i).bind f) Q := yd RB.any fun x hx => h x (List.mem_of_getElem? (idx_some hx).2.2)
def HasT (c : qC) (n : By8) : Prop := ∃ t ∈ c.Tables, t.Name = n
theorem has_tI {c : qC} {n : By8} : 0 ≤ tI c n ↔ HasT c n := by
  unfold tI
  cases e : c.Tables.findIdx? (fun x => sEq x.Name n) with
  | none =>
    rw [List.findIdx?_eq_none_iff] at e
    exact ⟨fun h => by simp at h, fun ⟨t, ht, hn⟩ => by have := e t ht; rw [sEq_iff.2 hn] at this; cases this⟩
  | some k =>
    obtain ⟨hk, h2, _⟩ := List.findIdx?_eq_some_iff_getElem.1 e
    exact ⟨fun _ => ⟨_, List.getElem_mem hk, sEq_iff.1 h2⟩, fun _ => by simp⟩
theorem tI_nm {c : qC} {n : By8} {x : qT} (h : 0 ≤ tI c n) (hx : c.Tables[(tI c n).toNat]? = some x) : x.Name = n := by
  obtain ⟨k, t, hk, ht, _, he⟩ := tI_get h
  obtain ⟨hk', h2, _⟩ := List.findIdx?_eq_some_iff_getElem.1 he
  rw [hk, Int.toNat_natCast, gE hk'] at hx
  injection hx with hx
  subst hx
  exact sEq_iff.1 h2
abbrev kk (g : qG) : By8 × By8 × By8 × Int := (g.To, g.By, g.Table, g.Priv)
def UQ (l : List qG) : Prop := l.Pairwise fun g h => kk g ≠ kk h
def GU (c : qC) : Prop := (∀ g ∈ c.Grants, HasT c g.Table) ∧ UQ c.Grants
theorem UQ.map {l m : List qG} (h : UQ l) (e : m.map kk = l.map kk) : UQ m := by
  have h2 : (l.map kk).Pairwise (· ≠ ·) := List.pairwise_map.2 h
  rw [← e] at h2
  exact List.pairwise_map.1 h2
theorem without_p {c : qC} {nm : By8} : RB False (r17_without c nm) (fun r => r = { c with Tables := c.Tables.filter fun t => !sEq t.Name nm }) := by
  unfold r17_without
  refine yd (forE_ret (fun j s => s = (c.Tables.take j).filter fun t => !sEq t.Name nm) (by simp) ?_) fun s hs => yc (by rw [hs, List.take_length])
  rintro j s hj rfl
  refine yaf hj fun x hx _ => ?_
  rw [take_next hx, List.filter_append]
  refine yd (R := fun r => r = (c.Tables.take j).filter (fun t => !sEq t.Name nm) ++ [x].filter fun t => !sEq t.Name nm) (yi (fun hc => ?_) fun hc => yc (by simp [hc])) fun _ h => yc h
  rw [idx_nat, hx]
  exact ya0 (ya8 (yc (by simp [hc])))
theorem with_p {c : qC} {t : qT} : RB False (r17_with c t) (fun r => r.Grants = c.Grants ∧ t ∈ r.Tables ∧ ∀ x ∈ c.Tables, x ∈ r.Tables) := by
  unfold r17_with
  refine yd RB.no fun s _ => yd RB.any fun l1 h1 => ya8 (ya8 (yd RB.any fun l2 h2 => ya8 (yc ?_)))
  obtain ⟨a0, a1, a2, rfl⟩ := sub_some h1
  obtain ⟨b0, b1, b2, rfl⟩ := sub_some h2
  refine ⟨rfl, by simp, fun x hx => ?_⟩
  have e : c.Tables = c.Tables.take s.toNat ++ c.Tables.drop s.toNat := (List.take_append_drop ..).symm
  rw [e] at hx
  rcases List.mem_append.1 hx with hx | hx
  · simp [hx]
  · simp [hx]
theorem copy_p {t : qT} : RB False (r17_Copy t) (fun r => r = t) := by
  unfold r17_Copy
  exact ya8 (ya8 (ya8 (yc (by simp))))
theorem pointed_p {t : qT} {p q : By8} : RB False (r17_pointed t p q) (fun r => r.1.Name = t.Name) := by
  unfold r17_pointed
  refine yd copy_p ?_
  rintro _ rfl
  refine yd RB.no ?_
  rintro ⟨_, _⟩ _
  exact yc rfl
theorem renamed_p {c : qC} {t : qT} {q : By8} : RB False (r17_renamed c t q) (fun r => r.2.Name = q ∧ (∀ x ∈ c.Tables, x.Name ≠ t.Name → HasT r.1 x.Name) ∧ r.1.Grants = c.Grants.map fun g => bif sEq g.Table t.Name then { g with Table := q } else g) := by
  unfold r17_renamed
  refine yd RB.no ?_
  rintro ⟨u, _⟩ _
  refine yd (forE_ret (fun j (s : List qT) => ∀ x ∈ c.Tables.take j, x.Name ≠ t.Name → ∃ y ∈ s, y.Name = x.Name) (by simp) ?_) fun ts hts => yd (forE_ret (fun j (s : List qG) => s = (c.Grants.take j).map fun g => bif sEq g.Table t.Name then { g with Table := q } else g) (by simp) ?_) fun gs hgs => yc ⟨rfl, ?_, ?_⟩
  · intro j s hj g
    refine yd (R := fun (r : qT × Bool) => ∀ x, c.Tables[j]? = some x → r.1.Name = x.Name) (yaf hj fun x hx _ => yd pointed_p ?_) ?_
    · rintro ⟨_, _⟩ h
      exact yc fun y hy => by rw [hx] at hy; injection hy with hy; rw [← hy]; exact h
    rintro ⟨u, f⟩ hu
    refine yd (R := fun (u : qT) => ∀ x, c.Tables[j]? = some x → u.Name = x.Name) (yi (fun _ => yc hu) (fun _ => yc hu)) fun v hv => yaf hj fun x hx _ => yd (R := fun (s : List qT) => ∀ x ∈ c.Tables.take (j + 1), x.Name ≠ t.Name → ∃ y ∈ s, y.Name = x.Name) (yi (fun hc => ya8 (yc ?_)) fun hc => yc ?_) fun s h => yc h
    · rw [take_next hx]
      intro y hy hn
      rcases List.mem_append.1 hy with hy | hy
      · obtain ⟨z, hz, e⟩ := g y hy hn
        exact ⟨z, List.mem_append_left _ hz, e⟩
      · simp only [List.mem_cons, List.not_mem_nil, or_false] at hy
        subst hy
        exact ⟨v, by simp, hv _ hx⟩
    · rw [take_next hx]
      intro y hy hn
      rcases List.mem_append.1 hy with hy | hy
      · exact g y hy hn
      · simp only [List.mem_cons, List.not_mem_nil, or_false] at hy
        subst hy
        simp only [Bool.not_eq_false'] at hc
        exact absurd (sEq_iff.1 hc) hn
  · rintro j s hj rfl
    refine yaf hj fun x hx _ => yd (R := fun y => y = bif sEq x.Table t.Name then { x with Table := q } else x) (yi (fun hc => yc (by rw [hc]; rfl)) fun hc => yc (by rw [hc]; rfl)) ?_
    rintro _ rfl
    rw [take_next hx, List.map_append]
    exact ya8 (yc rfl)
  · intro x hx hn
    exact hts x (by rw [List.take_length]; exact hx) hn
  · show gs = _
    have hgs : gs = _ := hgs
    rw [hgs, List.take_length]
theorem dropped_p {c : qC} {t : qT} {nm : By8} : RB False (r17_dropped c t nm) (fun r => r.1.Name = t.Name) := by
  unfold r17_dropped
  refine yd (forN_q (Q := fun r => r.2.Name = t.Name) fun j s hj => yaf hj fun x _ _ => yi rt fun _ => ya8 (yd RB.no fun _ _ => yd RB.no fun _ _ => yi (fun _ => yc rfl) fun _ => yd copy_p ?_)) ?_
  · rintro _ rfl
    exact yd RB.no fun _ _ => ya8 (yd RB.no fun _ _ => ya8 (yc rfl))
  · rintro (_ | ⟨_, _⟩) g
    · exact yc rfl
    · exact yc g
def LN {α : Type} (n : By8) (q : (Int × qT) ⊕ α) : Prop := match q with | .inl (_, t) => t.Name = n | .inr _ => True
theorem turned_p {c : qC} {t : qT} {s : qS} : RB False (r17_turned c t s) (fun r => r.1.Name = t.Name) := by
  unfold r17_turned
  refine yd copy_p fun u hu => yd RB.no ?_
  subst hu
  rintro ⟨_, names⟩ _
  refine yd (R := LN u.Name) ?_ ?_
  rotate_left
  · rintro (⟨_, _⟩ | ⟨_, _, _, _⟩) g
    · exact yc g
    · exact yc rfl
  refine yi (fun _ => yi (fun _ => yc rfl) fun _ => RB.idP fun _ _ => yd RB.no fun _ _ => yi (fun _ => yc rfl) fun _ => RB.idP fun _ _ => ya8 (yc trivial)) fun _ => ?_
  refine yd (R := LN u.Name) ?_ ?_
  rotate_left
  · rintro (⟨_, _⟩ | ⟨_, _, _, _⟩) g
    · exact yc g
    · exact yc trivial
  refine yi (fun _ => yd RB.no fun _ _ => yi (fun _ => yc rfl) fun _ => yd RB.no fun _ _ => yd RB.no fun _ _ => yi (fun _ => yc rfl) fun _ => yd RB.no fun _ _ => ya8 (yd RB.no fun _ _ => ya8 (yc trivial))) fun _ => ?_
  refine yd (R := LN u.Name) ?_ ?_
  rotate_left
  · rintro (⟨_, _⟩ | ⟨_, _, _⟩) g
    · exact yc g
    · exact yc trivial
  refine yi (fun _ => yi (fun _ => yc rfl) fun _ => RB.idP fun _ _ => yd RB.no fun _ _ => yi (fun _ => yc rfl) fun _ => yi (fun _ => yc rfl) fun _ => RB.idP fun _ _ => ya8 (yc trivial)) fun _ => ?_
  refine yd (R := LN u.Name) ?_ ?_
  rotate_left
  · rintro (⟨_, _⟩ | ⟨_, _⟩) g
    · exact yc g
    · exact yc trivial
  refine yi (fun _ => yd RB.no fun _ _ => yi (fun _ => yc rfl) fun _ => yi (fun _ => yc rfl) fun _ => ya8 (yc trivial)) fun _ => yi (fun _ => yd dropped_p ?_) fun _ => yi (fun _ => yd (forN_q (Q := fun r => r.2.Name = u.Name) ?_) ?_) fun _ => yc trivial
  · rintro ⟨_, _⟩ g
    exact yc g
  · rintro j ⟨_, _⟩ hj
    exact yaf hj fun x _ _ => yi (fun _ => yd RB.no fun _ _ => ya8 (yd RB.no fun _ _ => ya8 (yc rfl))) fun _ => yc trivial
  · rintro (⟨_, _⟩ | ⟨_, _⟩) g
    · exact yc rfl
    · exact yc g
theorem tmake_p {c : qC} {s : qS} {by_ : By8} {most : Int} (hu : GU c) : RB False (r17_Make c s by_ most) (fun r => r.2 = 0 → GU r.1) := by
  have no : ∀ {k : Int} {C : Prop}, k ≠ 0 → (k = 0 → C) := fun hk he => absurd he hk
  obtain ⟨hu1, hu2⟩ := hu
  unfold r17_Make
  refine yi (fun _ => yc (no (by decide))) fun _ => ybb (tat_val c _) (yi (fun _ => yc (no (by decide))) fun _ => yi (fun _ => yc (no (by decide))) fun _ => yi (fun _ => yc (no (by decide))) fun hc4 => yd without_p fun w hw => ?_)
  subst hw
  have hne : (s.Kind == 1) = false → 0 ≤ tI c s.Table := by
    intro hk
    rw [show (s.Kind != 1) = true by simp [bne, hk]] at hc4
    simpa using hc4
  have rest : ∀ {u : qT}, u.Name = s.Table → s.Kind ≠ 2 → ∀ g ∈ c.Grants, (∃ t ∈ c.Tables.filter (fun t => !sEq t.Name s.Table), t.Name = g.Table) ∨ (s.Kind ≠ 2 ∧ u.Name = g.Table) := by
    intro u hn k2 g hg
    obtain ⟨t, ht, e⟩ := hu1 g hg
    by_cases h : t.Name = s.Table
    · exact .inr ⟨k2, by rw [hn, ← h, e]⟩
    · exact .inl ⟨t, List.mem_filter.2 ⟨ht, by simpa using fun h' => h (sEq_iff.1 h')⟩, e⟩
  refine yd (R := fun (q : (Int × qC × Int × (List qT) × (List qJ) × (List qG) × qT) ⊕ (Int × qC × qT)) => match q with | .inl (_, _, v, ts, rs, gs, u) => UQ gs ∧ ∀ g ∈ gs, (∃ t ∈ ts, t.Name = g.Table) ∨ (s.Kind ≠ 2 ∧ u.Name = g.Table) | .inr (k, _, _) => k ≠ 0) ?_ ?_
  · refine yi (fun k1 => yc ⟨hu2, rest rfl (by simp only [beq_iff_eq] at k1; omega)⟩) fun k1 => ?_
    have a0 := hne k1
    refine yd (R := fun (q : (Int × qC × qT) ⊕ (Int × qC × Int × (List qT) × (List qJ) × (List qG) × qT)) => match q with | .inr (_, _, v, ts, rs, gs, u) => UQ gs ∧ ∀ g ∈ gs, (∃ t ∈ ts, t.Name = g.Table) ∨ (s.Kind ≠ 2 ∧ u.Name = g.Table) | .inl (k, _, _) => k ≠ 0) ?_ ?_
    rotate_left
    · rintro (⟨_, _, _⟩ | ⟨_, _, _, _, _, _, _⟩) g <;> exact yc g
    refine yi (fun _ => yd RB.no fun _ _ => yi (fun _ => yc (show (34 : Int) ≠ 0 by decide)) fun _ => yd (forE_ret (fun j (l : List qG) => l = (c.Grants.take j).filter fun g => !sEq g.Table s.Table) (by simp) ?_) fun gs hg => yc ?_) fun k2 => ?_
    · rintro j l hj rfl
      refine yaf hj fun x hx _ => ?_
      rw [take_next hx, List.filter_append]
      refine yd (R := fun r => r = (c.Grants.take j).filter (fun g => !sEq g.Table s.Table) ++ [x].filter fun g => !sEq g.Table s.Table) (yi (fun hc => ?_) fun hc => yc (by simp [hc])) fun _ h => yc h
      rw [idx_nat, hx]
      exact ya0 (ya8 (yc (by simp [hc])))
    · have hg : gs = (c.Grants.take c.Grants.length).filter fun g => !sEq g.Table s.Table := hg
      rw [List.take_length] at hg
      subst hg
      refine ⟨hu2.sublist List.filter_sublist, fun g hg => ?_⟩
      obtain ⟨h1, h2⟩ := List.mem_filter.1 hg
      obtain ⟨t, ht, e⟩ := hu1 g h1
      exact .inl ⟨t, List.mem_filter.2 ⟨ht, by rw [e]; exact h2⟩, e⟩
    refine yd (R := fun (q : (Int × qC × qT) ⊕ (Int × qC × Int × (List qT) × (List qJ) × (List qG) × qT)) => match q with | .inr (_, _, v, ts, rs, gs, u) => UQ gs ∧ ∀ g ∈ gs, (∃ t ∈ ts, t.Name = g.Table) ∨ (s.Kind ≠ 2 ∧ u.Name = g.Table) | .inl (k, _, _) => k ≠ 0) ?_ ?_
    rotate_left
    · rintro (⟨_, _, _⟩ | ⟨_, _, _, _, _, _, _⟩) g <;> exact yc g
    have k2' : s.Kind ≠ 2 := by simpa using k2
    refine yi (fun _ => ybb (tat_val c _) (yi (fun _ => yc (show (19 : Int) ≠ 0 by decide)) fun hq => yd RB.any fun x hx => yd renamed_p ?_)) fun _ => yd RB.any fun x hx => yd turned_p ?_
    · have hn := tI_nm a0 (idx_some hx).2.2
      have hq : ¬ HasT c s.Name := fun h => by have := has_tI.2 h; simp at hq; omega
      rintro ⟨d, u⟩ ⟨d1, d2, d3⟩
      simp only at d1 d2 d3
      refine yc ?_
      show UQ d.Grants ∧ ∀ g ∈ d.Grants, (∃ t ∈ d.Tables, t.Name = g.Table) ∨ (s.Kind ≠ 2 ∧ u.Name = g.Table)
      rw [d3]
      have hnt : ∀ g ∈ c.Grants, g.Table ≠ s.Name := fun g hg e => hq (e ▸ hu1 g hg)
      have p1 : UQ (c.Grants.map fun g => bif sEq g.Table x.Name then { g with Table := s.Name } else g) := by
        refine List.pairwise_map.2 (List.Pairwise.imp_of_mem ?_ hu2)
        intro a b ha hb hab e
        refine hab ?_
        have h1 := hnt a ha
        have h2 := hnt b hb
        cases ea : sEq a.Table x.Name <;> cases eb : sEq b.Table x.Name <;> simp only [ea, eb, cond_true, cond_false, kk, Prod.mk.injEq] at e ⊢
        · exact e
        · exact absurd e.2.2.1 h1
        · exact absurd e.2.2.1.symm h2
        · exact ⟨e.1, e.2.1, by rw [sEq_iff.1 ea, sEq_iff.1 eb], e.2.2.2⟩
      refine ⟨p1, fun g hg => ?_⟩
      obtain ⟨g', hg', rfl⟩ := List.mem_map.1 hg
      obtain ⟨t, ht, e⟩ := hu1 g' hg'
      cases eg : sEq g'.Table x.Name
      · simp only [cond_false]
        refine .inl ?_
        obtain ⟨y, hy, e2⟩ := d2 t ht (fun h => by rw [← e, h, sEq_iff.2 rfl] at eg; cases eg)
        exact ⟨y, hy, e2.trans e⟩
      · exact .inr ⟨k2', d1⟩
    · have hn := tI_nm a0 (idx_some hx).2.2
      rintro ⟨u, e⟩ g
      exact yc ⟨hu2, rest (g.trans hn) k2'⟩
  · rintro (⟨k, z, v, ts, rs, gs, u⟩ | ⟨k, z, u⟩) g
    · obtain ⟨g1, g2⟩ := g
      refine yd RB.no fun e _ => yd RB.no fun e' _ => yi (fun hc => yc (no (by simpa using hc))) fun hc => yd (R := fun (q : Int × (List qT) × (List qJ) × (List qG) × qT) => UQ q.2.2.2.1 ∧ ∀ g ∈ q.2.2.2.1, ∃ t ∈ q.2.1, t.Name = g.Table) (yi (fun hk => yd with_p fun r hr => yc ?_) fun hk => yc ⟨g1, fun g hg => ?_⟩) ?_
      · obtain ⟨r1, r2, r3⟩ := hr
        refine ⟨by simp only [r1]; exact g1, fun g hg => ?_⟩
        simp only [r1] at hg
        rcases g2 g hg with ⟨t, ht, e⟩ | ⟨_, e⟩
        · exact ⟨t, r3 t ht, e⟩
        · exact ⟨_, r2, e⟩
      · rcases g2 g hg with h | ⟨h, _⟩
        · exact h
        · simp at hk; exact absurd hk h
      · rintro ⟨q1, q2, q3, q4, q5⟩ ⟨e1, e2⟩
        exact yc fun _ => ⟨e2, e1⟩
    · exact yc (no g)
def kB (s : qS) (by_ : By8) (g : qG) : Bool := sEq g.To s.Role && sEq g.By by_ && sEq g.Table s.Table && (g.Priv == s.Priv)
theorem kB_iff {s : qS} {by_ : By8} {g : qG} : kB s by_ g = true ↔ kk g = (s.Role, by_, s.Table, s.Priv) := by
  unfold kB
  simp only [Bool.and_eq_true, sEq_iff, beq_iff_eq, kk, Prod.mk.injEq, and_assoc]
def pI (c : qC) (s : qS) (by_ : By8) : Int := match c.Grants.findIdx? (kB s by_) with | some j => (j : Int) | none => -1
theorem rplace_val (c : qC) (s : qS) (by_ : By8) : r19_place c s by_ = some (pI c s by_) := by
  unfold r19_place pI
  rw [forN_find (kB s by_) (fun j => (j : Int)) (fun j x hx => by rw [idx_nat, hx]; simp only [obs]; show (bif kB s by_ x then _ else _) = _; cases kB s by_ x <;> rfl)]
  cases c.Grants.findIdx? (kB s by_) <;> rfl
theorem pI_cases (c : qC) (s : qS) (by_ : By8) : (pI c s by_ = -1 ∧ ∀ g ∈ c.Grants, kk g ≠ (s.Role, by_, s.Table, s.Priv)) ∨ ∃ (k : Nat) (g : qG), pI c s by_ = (k : Int) ∧ c.Grants[k]? = some g ∧ kk g = (s.Role, by_, s.Table, s.Priv) := by
  unfold pI
  cases e : c.Grants.findIdx? (kB s by_) with
  | none =>
    rw [List.findIdx?_eq_none_iff] at e
    exact .inl ⟨rfl, fun g hg h => by have := e g hg; rw [kB_iff.2 h] at this; cases this⟩
  | some k =>
    obtain ⟨hk, h2, _⟩ := List.findIdx?_eq_some_iff_getElem.1 e
    exact .inr ⟨k, _, rfl, gE hk, kB_iff.1 h2⟩
theorem he_has {c : qC} {g : qG} (h : g ∈ heR c) : HasT c g.Table := by
  have h2 := (List.mem_filter.1 (show g ∈ c.Grants.filter _ from h)).2
  unfold okB at h2
  simp only [Bool.and_eq_true, decide_eq_true_eq] at h2
  exact has_tI.1 h2.1.1
theorem he_sub (c : qC) : (heR c).Sublist c.Grants := List.filter_sublist
theorem given_p {c : qC} {s : qS} {by_ : By8} (hu : UQ c.Grants) : RB False (r19_given c s by_) (fun r => r.2 = 0 → UQ r.1) := by
  have no : ∀ {k : Int} {C : Prop}, k ≠ 0 → (k = 0 → C) := fun hk he => absurd he hk
  unfold r19_given
  refine yd RB.no fun _ _ => yd RB.no fun _ _ => yi (fun _ => yc (no (by decide))) fun _ => yd RB.no fun _ _ => yi (fun _ => yc (no (by decide))) fun _ => ybb (rplace_val _ _ _) (ya8 ?_)
  rw [List.nil_append]
  rcases pI_cases c s by_ with ⟨e, h⟩ | ⟨k, g, e, hk, hg⟩ <;> rw [e]
  · refine yi (fun h => by simp at h) fun _ => yi (fun _ => yc (no (by decide))) fun _ => ya8 (yc fun _ => List.pairwise_append.2 ⟨hu, by simp, fun a ha b hb => ?_⟩)
    simp only [List.mem_cons, List.not_mem_nil, or_false] at hb
    subst hb
    exact h a ha
  · refine yi (fun _ => RB.idP fun _ _ => yi (fun _ => yc (no (by decide))) fun _ => yd RB.any fun x hx => yc fun _ => UQ.map hu ?_) fun h => by simp at h
    rw [idx_nat, hk] at hx
    injection hx with hx
    subst hx
    show (c.Grants.set ((k : Int)).toNat _).map kk = _
    rw [Int.toNat_natCast, List.map_set]
    exact set_same (by rw [List.getElem?_map, hk]; rfl)
theorem gmake_p {n : Nat} {c : qC} {s : qS} (h : CI n c) (hn : n ≤ 99) (hm : s.Name.size ≤ 100) (hu : GU c) (by_ : By8) (most : Int) : RB False (r19_Make c s by_ most) (fun r => r.2 = 0 → GU r.1) := by
  have no : ∀ {k : Int} {C : Prop}, k ≠ 0 → (k = 0 → C) := fun hk he => absurd he hk
  have hg := h.1.grants
  unfold r19_Make
  refine yi (fun _ => yc (no (by decide))) fun _ => yd RB.no fun _ _ => yi (fun _ => yc (no (by decide))) fun _ => yd RB.no fun _ _ => yd (R := fun (q : (Int × qC × (List qJ) × (List qG)) ⊕ (Int × qC)) => match q with | .inl (k, _, rs, gs) => k = 0 → RO (n + 1) rs ∧ gs.length ≤ n + 1 ∧ UQ gs | .inr (k, _) => k ≠ 0) ?_ ?_
  · refine yi (fun _ => yc (no (by decide))) fun _ => yd (R := fun (q : (Int × qC × (List qJ) × (List qG)) ⊕ (Int × qC)) => match q with | .inl (k, _, rs, gs) => k = 0 → RO (n + 1) rs ∧ gs.length ≤ n + 1 ∧ UQ gs | .inr (k, _) => k ≠ 0) ?_ ?_
    rotate_left
    · rintro (⟨_, _, _, _⟩ | ⟨_, _⟩) g <;> exact yc g
    refine yi (fun _ => yd (rroles_rb h om hm) ?_) fun _ => yd (R := fun (q : (Int × qC × (List qG)) ⊕ (Int × qC)) => match q with | .inl (k, _, gs) => k = 0 → gs.length ≤ n + 1 ∧ UQ gs | .inr (k, _) => k ≠ 0) (yi (fun _ => yd (rb_and (rgiven_rb h om _ _) (given_p hu.2)) ?_) fun _ => ybb (rplace_val _ _ _) (yi (fun _ => yc (show (4 : Int) ≠ 0 by decide)) fun hc => yd RB.any fun l1 e1 => ya8 (yd RB.any fun l2 e2 => ya8 (yc fun _ => ?_)))) ?_
    · rintro ⟨_, _⟩ g
      exact yc fun he => ⟨g he, by omega, hu.2⟩
    · rintro ⟨_, _⟩ g
      exact yc fun he => ⟨g.1 he, g.2 he⟩
    · rcases pI_cases c s by_ with ⟨e, _⟩ | ⟨k, g, e, hk, _⟩ <;> rw [e] at hc e1 e2
      · simp at hc
      · have hkl : k < c.Grants.length := (List.getElem?_eq_some_iff.1 hk).1
        obtain ⟨_, _, _, rfl⟩ := sub_some e1
        rw [w64_id om om] at e2
        obtain ⟨_, _, _, rfl⟩ := sub_some e2
        have ex : [] ++ List.drop (0 : Int).toNat (c.Grants.take ((k : Int)).toNat) ++ List.drop (((k : Int) + 1)).toNat (c.Grants.take ((c.Grants.length : Int)).toNat) = c.Grants.eraseIdx k := by
          rw [List.eraseIdx_eq_take_drop_succ, show (((k : Int) + 1)).toNat = k + 1 by omega]
          simp
        rw [ex]
        exact ⟨by have := List.length_eraseIdx_le c.Grants k; omega, hu.2.sublist (List.eraseIdx_sublist ..)⟩
    · rintro (⟨_, _, _⟩ | ⟨_, _⟩) g
      · exact yc fun he => ⟨h.2.up om, g he⟩
      · exact yc g
  · rintro (⟨k, z, rs, gs⟩ | ⟨k, z⟩) g
    · refine yd (R := fun (e : Int) => e = 0 → k = 0) (yi (fun _ => yc fun h => by cases h) fun _ => yc fun h => h) fun e he => yi (fun hc => yc (no (by simpa using hc))) fun hc => ?_
      obtain ⟨g1, g2, g3⟩ := g (he (by simpa using hc))
      refine ybb (rheld_val (c := { c with Version := (w64 (c.Version + 1)), Roles := rs, Grants := gs }) (g1.sm om) (by show gs.length ≤ 1000; omega)) (yc fun _ => ⟨fun x hx => he_has (c := { c with Version := (w64 (c.Version + 1)), Roles := rs, Grants := gs }) hx, ?_⟩)
      exact List.Pairwise.sublist (he_sub _) g3
    · exact yc (no g)
def CG (n : Nat) (c : qC) : Prop := CI n c ∧ GU c
theorem CG.up {n m : Nat} {c : qC} (h : CG n c) (hm : n ≤ m) : CG m c := ⟨h.1.up hm, h.2⟩
theorem next_gu {b : Prop} {n : Nat} {c : qC} {a : law19_Act} (h : CG n c) (ha : SF a.S ∧ a.By.size ≤ 100) (h12 : 12 ≤ n) (hn : n ≤ 99) : RB b (law19_Next c a) (fun r => CG (n + 1) r.1) := by
  refine rb_and (next_rb h.1 ha h12 hn) ?_
  unfold law19_Next
  refine yd (gmake_p h.1 hn ha.1.name h.2 _ _) ?_
  rintro ⟨d, e⟩ g
  refine yd (R := fun (q : Int × qC) => q.1 = 0 → GU q.2) (yi (fun _ => yd (tmake_p h.2) ?_) fun _ => yc g) ?_
  · rintro ⟨d', e'⟩ g'
    exact yc g'
  · rintro ⟨k, d'⟩ g'
    exact yi (fun _ => yc h.2) fun hc => yc (g' (by simpa using hc))
theorem first_gu {b : Prop} : RB b law19_first (CG 16) := by
  refine rb_and first_rb ?_
  unfold law19_first r17_New
  refine ya0 (yd (forE_ret (fun j c => CG (12 + j) c) ⟨⟨⟨Nat.zero_le _, (fun t ht => by cases ht), Nat.zero_le _⟩, ⟨by show 1 ≤ 8; omega, fun x hx => ?_⟩⟩, (fun g hg => by cases hg), List.Pairwise.nil⟩ ?_) ?_)
  · simp only [List.mem_cons, List.not_mem_nil, or_false] at hx
    subst hx
    exact ⟨Nat.zero_le _, by show (4 : Nat) ≤ 100; omega⟩
  · rintro j c hj hc
    refine yd (R := fun (q : qC × Int) => q.2 = 0 → CG (12 + (j + 1)) q.1) (yaf (xs := [(⟨#[97, 110, 110]⟩ : By8), ⟨#[98, 111, 98]⟩, ⟨#[99, 121]⟩]) hj fun x _ hx => ?_) ?_
    · have hs : x.size ≤ 100 := by
        simp only [List.mem_cons, List.not_mem_nil, or_false] at hx
        rcases hx with rfl | rfl | rfl <;> decide
      refine yd (rb_and (gmake_rb hc.1 om (SF.role x hs).name _ _) (gmake_p hc.1 om (SF.role x hs).name hc.2 _ _)) ?_
      rintro ⟨d, e⟩ g
      exact yc fun he => ⟨g.1 he, g.2 he⟩
    · rintro ⟨d, e⟩ g
      exact yd (R := CG (12 + (j + 1))) (yi (fun he => yc (g (by simpa using he))) (fun _ => yc (hc.up om))) fun _ h => yc h
  · intro c hc
    refine yd (tmake_p hc.2) ?_
    rintro ⟨d, e⟩ g
    exact yd (R := GU) (yi (fun he => yc (g (by simpa using he))) (fun _ => yc hc.2)) fun _ h => yc h
theorem grown_gu {b : Prop} {l : List law19_Act} (h : AF l) : RB b (law19_Grown l) (CG 60) := by
  have hl := h.1
  unfold law19_Grown
  refine yd first_gu fun c hc => yd (forE_ret (fun j c => CG (16 + j) c) hc ?_) fun d hd => yc ?_
  · intro j c hj hc
    refine yaf hj fun a _ ha => yd (next_gu hc (h.2 a ha) om om) ?_
    rintro ⟨d, e⟩ g
    exact yc g
  · have hd : CG (16 + l.length) d := hd
    exact hd.up om
theorem gplace_val (c : qC) (s : qS) (by_ : By8) : grants_place c s by_ = some (pI c s by_) := by
  unfold grants_place slices_IndexFunc_qG pI
  rw [forN_find (kB s by_) (fun j => (j : Int)) (fun j x hx => by rw [idx_nat, hx]; unfold grants_place_1; simp only [obs]; show (bif kB s by_ x then _ else _) = _; cases kB s by_ x <;> rfl)]
  cases c.Grants.findIdx? (kB s by_) <;> rfl
section
variable {c d : qC} (ht : d.Tables = c.Tables) (hr : d.Roles = c.Roles)
include ht hr
theorem ow_same (r t : By8) : owB d r t = owB c r t := by
  unfold owB r19_Owns r17_At
  rw [ht, hr]
end
theorem UQ.other {l : List qG} (h : UQ l) {k : Nat} {g x : qG} (hk : l[k]? = some g) (hx : x ∈ l.eraseIdx k) : kk x ≠ kk g := by
  obtain ⟨hl, rfl⟩ := List.getElem?_eq_some_iff.1 hk
  have e : l = l.take k ++ l[k] :: l.drop (k + 1) := by rw [← List.drop_eq_getElem_cons hl, List.take_append_drop]
  rw [List.eraseIdx_eq_take_drop_succ] at hx
  unfold UQ at h
  rw [e] at h
  obtain ⟨_, h2, h3⟩ := List.pairwise_append.1 h
  rcases List.mem_append.1 hx with hx | hx
  · exact h3 x hx _ (List.mem_cons_self ..)
  · exact fun e => (List.pairwise_cons.1 h2).1 x hx e.symm
def VB (c : qC) : Prop := 0 ≤ c.Version ∧ c.Version ≤ 1000
theorem vb_next {c : qC} (h : VB c) (hl : c.Version < 1000) : 0 ≤ w64 (c.Version + 1) ∧ w64 (c.Version + 1) ≤ 1000 := by
  obtain ⟨a, b⟩ := h
  rw [w64_id om om]
  omega
theorem tmake_v {c : qC} (h : VB c) (s : qS) (by_ : By8) : RB False (r17_Make c s by_ 1000) (fun r => r.2 = 0 → VB r.1) := by
  have no : ∀ {k : Int} {C : Prop}, k ≠ 0 → (k = 0 → C) := fun hk he => absurd he hk
  unfold r17_Make
  refine yi (fun _ => yc (no (by decide))) fun _ => ybb (tat_val c _) (yi (fun _ => yc (no (by decide))) fun _ => yi (fun _ => yc (no (by decide))) fun _ => yi (fun _ => yc (no (by decide))) fun _ => yd RB.no fun w _ => ?_)
  refine yd (R := fun (q : (Int × qC × Int × (List qT) × (List qJ) × (List qG) × qT) ⊕ (Int × qC × qT)) => match q with | .inl _ => True | .inr (k, _, _) => k ≠ 0) ?_ ?_
  · refine yi rt fun _ => yd (R := fun (q : (Int × qC × qT) ⊕ (Int × qC × Int × (List qT) × (List qJ) × (List qG) × qT)) => match q with | .inl (k, _, _) => k ≠ 0 | .inr _ => True) ?_ ?_
    · refine yi (fun _ => yd RB.no fun _ _ => yi (fun _ => yc (show (34 : Int) ≠ 0 by decide)) fun _ => yd RB.no fun _ _ => yc trivial) fun _ => yd (R := fun (q : (Int × qC × qT) ⊕ (Int × qC × Int × (List qT) × (List qJ) × (List qG) × qT)) => match q with | .inl (k, _, _) => k ≠ 0 | .inr _ => True) ?_ ?_
      · refine yi (fun _ => yd RB.no fun _ _ => yi (fun _ => yc (show (19 : Int) ≠ 0 by decide)) fun _ => yd RB.no fun _ _ => yd RB.no ?_) fun _ => yd RB.no fun _ _ => yd RB.no ?_ <;> (rintro ⟨_, _⟩ _; exact yc trivial)
      · rintro (⟨_, _, _⟩ | ⟨_, _, _, _, _, _, _⟩) g <;> exact yc g
    · rintro (⟨_, _, _⟩ | ⟨_, _, _, _, _, _, _⟩) g <;> exact yc g
  · rintro (⟨k, z, v, ts, rs, gs, u⟩ | ⟨k, z, u⟩) g
    · refine yd RB.no fun e _ => yd (R := fun e' => e' = 0 → c.Version < 1000) (yi (fun _ => yc fun h => by cases h) fun hc => yc fun he => ?_) fun e' he' => yi (fun hc => yc (no (by simpa using hc))) fun hc => yd RB.no ?_
      · have he : e = 0 := he
        rw [he] at hc
        simpa using hc
      · rintro ⟨_, _, _, _, _⟩ _
        exact yc fun _ => vb_next h (he' (by simpa using hc))
    · exact yc (no g)
theorem gmake_v {c : qC} (h : VB c) (s : qS) (by_ : By8) : RB False (r19_Make c s by_ 1000) (fun r => r.2 = 0 → VB r.1) := by
  have no : ∀ {k : Int} {C : Prop}, k ≠ 0 → (k = 0 → C) := fun hk he => absurd he hk
  unfold r19_Make
  refine yi (fun _ => yc (no (by decide))) fun _ => yd RB.no fun _ _ => yi (fun _ => yc (no (by decide))) fun _ => yd RB.no fun _ _ => ?_
  refine yd (R := fun (q : (Int × qC × (List qJ) × (List qG)) ⊕ (Int × qC)) => match q with | .inl _ => True | .inr (k, _) => k ≠ 0) ?_ ?_
  · refine yi rt fun _ => yd (R := fun (q : (Int × qC × (List qJ) × (List qG)) ⊕ (Int × qC)) => match q with | .inl _ => True | .inr (k, _) => k ≠ 0) ?_ ?_
    · refine yi (fun _ => yd RB.no ?_) fun _ => yd (R := fun (q : (Int × qC × (List qG)) ⊕ (Int × qC)) => match q with | .inl _ => True | .inr (k, _) => k ≠ 0) (yi (fun _ => yd RB.no ?_) fun _ => yd RB.no fun _ _ => yi (fun _ => yc (show (4 : Int) ≠ 0 by decide)) fun _ => yd RB.no fun _ _ => yd RB.no fun _ _ => yd RB.no fun _ _ => yd RB.no fun _ _ => yc trivial) ?_
      · rintro ⟨_, _⟩ _; exact yc trivial
      · rintro ⟨_, _⟩ _; exact yc trivial
      · rintro (⟨_, _, _⟩ | ⟨_, _⟩) g <;> exact yc g
    · rintro (⟨_, _, _, _⟩ | ⟨_, _⟩) g <;> exact yc g
  · rintro (⟨k, z, rs, gs⟩ | ⟨k, z⟩) g
    · refine yd (R := fun e' => e' = 0 → c.Version < 1000) (yi (fun _ => yc fun h => by cases h) fun hc => yc fun he => ?_) fun e' he' => yi (fun hc => yc (no (by simpa using hc))) fun hc => yd RB.no fun _ _ => yc fun _ => vb_next h (he' (by simpa using hc))
      have he : k = 0 := he
      rw [he] at hc
      simpa using hc
    · exact yc (no g)
theorem next_v {c : qC} (h : VB c) (a : law19_Act) : RB False (law19_Next c a) (fun r => VB r.1) := by
  unfold law19_Next
  refine yd (gmake_v h _ _) ?_
  rintro ⟨d, e⟩ hd
  refine yd (R := fun (q : Int × qC) => q.1 = 0 → VB q.2) (yi (fun _ => yd (tmake_v h _ _) ?_) fun _ => yc hd) ?_
  · rintro ⟨d', e'⟩ hd'
    exact yc hd'
  · rintro ⟨e', d'⟩ hq
    exact yi (fun _ => yc h) fun hc => yc (hq (by simpa using hc))
theorem grown_v (l : List law19_Act) : RB False (law19_Grown l) VB := by
  unfold law19_Grown
  have hf : RB False law19_first VB := by
    unfold law19_first r17_New
    refine ya0 (yd (forE_ret (fun _ c => VB c) ⟨by decide, by decide⟩ fun j c _ hc => yd (R := fun (q : qC × Int) => q.2 = 0 → VB q.1) (yd RB.no fun _ _ => yd (gmake_v hc _ _) ?_) ?_) fun c hc => yd (tmake_v hc _ _) ?_)
    · rintro ⟨d, e⟩ h
      exact yc h
    · rintro ⟨d, e⟩ h
      exact yd (R := VB) (yi (fun he => yc (h (by simpa using he))) fun _ => yc hc) fun _ h => yc h
    · rintro ⟨d, e⟩ h
      exact yd (R := VB) (yi (fun he => yc (h (by simpa using he))) fun _ => yc hc) fun _ h => yc h
  refine yd hf fun c hc => yd (forE_ret (fun _ c => VB c) hc fun j c _ hc => yd RB.no fun a _ => yd (next_v hc a) ?_) fun c hc => yc hc
  rintro ⟨d, e⟩ h
  exact yc h
theorem take2 {b : Prop} {c : qC} (h : c.Grants.length ≤ 1000) (s : qS) (by_ : By8) (hg : ∃ g ∈ c.Grants, kk g = (s.Role, by_, s.Table, s.Priv)) : RB b (grants_take c s by_) (fun r => r.2 = 0 ∧ ∃ (k : Nat) (g : qG), c.Grants[k]? = some g ∧ kk g = (s.Role, by_, s.Table, s.Priv) ∧ r.1 = c.Grants.eraseIdx k) := by
  unfold grants_take slices_Clone_qG slices_Delete_qG
  refine ybb (gplace_val _ _ _) ?_
  rcases pI_cases c s by_ with ⟨_, hno⟩ | ⟨k, g, e, hk, hg⟩
  · obtain ⟨g, h1, h2⟩ := hg
    exact absurd h2 (hno g h1)
  · rw [e]
    have hkl : k < c.Grants.length := (List.getElem?_eq_some_iff.1 hk).1
    refine yi (fun h => by simp at h; omega) fun _ => yd (R := fun l => l = c.Grants) (yaw (by simp; omega) (yc (by simp))) ?_
    rintro _ rfl
    rw [w64_id om om]
    refine yd (R := fun l => l = c.Grants.eraseIdx k) (ybo (r := c.Grants.take ((k : Int)).toNat ++ c.Grants.drop (((k : Int) + 1)).toNat) ?_ ?_) fun l hl => yc ⟨rfl, k, g, hk, hg, hl⟩
    · unfold delO
      rw [if_pos ⟨by omega, by omega, by omega⟩]
    · rw [List.eraseIdx_eq_take_drop_succ, show (((k : Int) + 1)).toNat = k + 1 by omega, Int.toNat_natCast]
theorem revoke2 {b : Prop} {n : Nat} {c : qC} (h : CI n c) (hn : n ≤ 99) (s : qS) (by_ : By8) {most : Int} (hv : c.Version < most) (hg : ∃ g ∈ c.Grants, kk g = (s.Role, by_, s.Table, s.Priv)) : RB b (grants_Make c { s with Kind := 15 } by_ most) (fun r => (r.2 ≠ 0 ∧ rI c.Roles by_ < 0) ∨
    (r.2 = 0 ∧ ∃ (v : Int) (k : Nat) (g : qG), c.Grants[k]? = some g ∧ kk g = (s.Role, by_, s.Table, s.Priv) ∧ r.1 = { c with Version := v, Grants := heR { c with Version := v, Grants := c.Grants.eraseIdx k } })) := by
  have hs := h.2.sm om
  obtain ⟨r, hr⟩ := mfind_eq hs by_
  unfold grants_Make
  refine yi (fun h => by simp at h) fun _ => ybb hr (yi (fun hq => yc (.inl ⟨by decide, by simp at hq; omega⟩)) fun _ => yd (R := fun (t : (Int × qC × qC) ⊕ (Int × qC × qC)) => match t with | .inl (e, z, d) => (e = 0 ∧ ∃ (k : Nat) (g : qG), c.Grants[k]? = some g ∧ kk g = (s.Role, by_, s.Table, s.Priv) ∧ d = { c with Grants := c.Grants.eraseIdx k }) | .inr _ => False) ?_ ?_)
  · refine ybb (x := .inr (.inr ())) rfl ?_
    refine yd (take2 (by have := h.1.grants; omega) _ _ hg) ?_
    rintro ⟨l, e⟩ ⟨g0, k, y, h1, h2, h3⟩
    exact yc ⟨g0, k, y, h1, h2, by simp only at h3; rw [h3]⟩
  · rintro (⟨e, z, d⟩ | _) g
    rotate_left
    · exact g.elim
    obtain ⟨rfl, k, y, h1, h2, rfl⟩ := g
    refine yd (R := fun e' => e' = 0) (yi (fun hq => ?_) fun _ => yc rfl) fun e' he' => yi (fun hc => by rw [he'] at hc; cases hc) fun hc => ?_
    · simp only [beq_self_eq_true, Bool.true_and, decide_eq_true_eq] at hq
      omega
    · have hcb : CB n ({ c with Version := w64 (c.Version + 1), Grants := c.Grants.eraseIdx k } : qC) := ⟨h.1.tabs, h.1.ok, Nat.le_trans (List.length_eraseIdx_le ..) h.1.grants⟩
      refine ybb (x := { c with Version := w64 (c.Version + 1), Grants := heR { c with Version := w64 (c.Version + 1), Grants := c.Grants.eraseIdx k } }) ?_ (yc (.inr ⟨rfl, _, k, y, h1, h2, rfl⟩))
      unfold grants_Trim
      rw [gheld_val hcb om hs]
      rfl
theorem find_sub {α : Type} {q q' : α → Bool} {g : α} {l' l : List α} (hs : l'.Sublist l) (hn : l.Pairwise (· ≠ ·)) (hf : l.find? q = some g) (hg : g ∈ l') (hq : ∀ y ∈ l', q' y = true → q y = true) (hgq : q' g = true) : l'.find? q' = some g := by
  induction hs with
  | slnil => cases hg
  | @cons l1 l2 a hs ih =>
    obtain ⟨hn1, hn2⟩ := List.pairwise_cons.1 hn
    rw [List.find?_cons] at hf
    cases hqa : q a with
    | true =>
      rw [hqa] at hf
      obtain rfl := Option.some.inj hf
      exact absurd rfl (hn1 a (hs.subset hg))
    | false =>
      rw [hqa] at hf
      exact ih hn2 hf hg hq
  | @cons_cons l1 l2 a hs ih =>
    obtain ⟨hn1, hn2⟩ := List.pairwise_cons.1 hn
    rw [List.find?_cons] at hf ⊢
    cases hqa' : q' a with
    | true =>
      rw [hq a (by simp) hqa'] at hf
      exact hf
    | false =>
      have hne : g ≠ a := fun e => by rw [e, hqa'] at hgq; cases hgq
      have hg' : g ∈ l1 := (List.mem_cons.1 hg).resolve_left hne
      cases hqa : q a with
      | true =>
        rw [hqa] at hf
        exact absurd (Option.some.inj hf).symm hne
      | false =>
        rw [hqa] at hf
        exact ih hn2 hf hg' fun y hy => hq y (by simp [hy])
theorem fit_same {c d : qC} (hr : d.Roles = c.Roles) (p : Int) (t : By8) (g : qG) (o : Bool) : fitB d p t g o = fitB c p t g o := by
  unfold fitB
  rw [hr]
section
variable {c d : qC} (ht : d.Tables = c.Tables) (hr : d.Roles = c.Roles)
include ht hr
theorem rs_sub (hg : ∀ g ∈ d.Grants, g ∈ c.Grants) (p : Int) (t : By8) : ∀ (k : Nat) (r : By8) (o : Bool), Rs d p t k r o → Rs c p t k r o
  | 0, r, o, h => by
    show owB c r t = true
    rw [← ow_same ht hr]
    exact h
  | k + 1, r, o, ⟨g, h1, h2, h3, h4⟩ => ⟨g, hg g h1, by rw [← fit_same hr]; exact h2, by rw [← hr]; exact h3, rs_sub hg p t k g.By true h4⟩
theorem rs_held (hg : d.Grants = heR c) (p : Int) (t : By8) : ∀ (k : Nat) (r : By8) (o : Bool), Rs c p t k r o → Rs d p t k r o
  | 0, r, o, h => by
    show owB d r t = true
    rw [ow_same ht hr]
    exact h
  | k + 1, r, o, ⟨g, h1, h2, h3, h4⟩ => ⟨g, by rw [hg]; exact rs_he k g h1 (fit_weak h2) h4, by rw [fit_same hr]; exact h2, by rw [hr]; exact h3, rs_held hg p t k g.By true h4⟩
end
theorem why_stays {c c' d : qC} {i : Nat} {g0 : qG} (hu : UQ c.Grants) (hi : c.Grants[i]? = some g0) (h1 : c'.Tables = c.Tables) (h2 : c'.Roles = c.Roles) (h3 : c'.Grants = c.Grants.eraseIdx i) (k1 : d.Tables = c'.Tables) (k2 : d.Roles = c'.Roles) (k3 : d.Grants = heR c') (p : Int) (t : By8) :
    ∀ (k : Nat) (r : By8) (o : Bool), MinR c p t k r o → g0 ∉ whyL c p t k r o → Rs c' p t k r o ∧ whyL d p t k r o = whyL c p t k r o
  | 0, r, o, h, _ => ⟨by show owB c' r t = true; rw [ow_same h1 h2]; exact h.1, rfl⟩
  | k + 1, r, o, h, hn => by
    obtain ⟨g, e, hg, hq⟩ := h.choose
    have ew : whyL c p t (k + 1) r o = g :: whyL c p t k g.By true := by rw [whyL, e]
    rw [ew] at hn ⊢
    have hne : g ≠ g0 := fun he => hn (by simp [he])
    have hn2 : g0 ∉ whyL c p t k g.By true := fun he => hn (by simp [he])
    obtain ⟨a, b⟩ := why_stays hu hi h1 h2 h3 k1 k2 k3 p t k g.By true (h.next hg hq) hn2
    obtain ⟨q1, q2, _⟩ := chQ_iff.1 hq
    have hgc' : g ∈ c'.Grants := by
      rw [h3, List.mem_eraseIdx_iff_getElem?]
      obtain ⟨j, hj⟩ := List.getElem?_of_mem hg
      exact ⟨j, fun e => by rw [e, hi] at hj; exact hne (Option.some.inj hj).symm, hj⟩
    have f' : fitB c' p t g o = true := by rw [fit_same h2]; exact q1
    have hgd : g ∈ d.Grants := by rw [k3]; exact rs_he k g hgc' (fit_weak f') a
    have hsub : d.Grants.Sublist c.Grants := by
      rw [k3]
      refine (he_sub c').trans ?_
      rw [h3]
      exact List.eraseIdx_sublist ..
    have hdc : ∀ y ∈ d.Grants, y ∈ c.Grants := fun y hy => hsub.subset hy
    have k1c : d.Tables = c.Tables := k1.trans h1
    have k2c : d.Roles = c.Roles := k2.trans h2
    have hch : chooseG d p t k r o = some g := by
      unfold chooseG
      refine find_sub hsub (hu.imp fun h e => h (by rw [e])) e hgd (fun y hy hqy => ?_) ?_
      · obtain ⟨y1, y2, j, hj, y3⟩ := chQ_iff.1 hqy
        exact chQ_iff.2 ⟨by rw [← fit_same k2c]; exact y1, by rw [← k2c]; exact y2, j, hj, rs_sub k1c k2c hdc p t j _ _ y3⟩
      · exact chQ_iff.2 ⟨by rw [fit_same k2c]; exact q1, by rw [k2c]; exact q2, k, Nat.le_refl _, rs_held k1 k2 k3 p t k _ _ a⟩
    refine ⟨⟨g, hgc', f', by rw [h2]; exact q2, a⟩, ?_⟩
    rw [whyL, hch]
    simp only
    rw [b]
theorem whyL_mem {c : qC} {p : Int} {t : By8} : ∀ (k : Nat) (r : By8) (o : Bool), MinR c p t k r o → ∀ g ∈ whyL c p t k r o, g ∈ c.Grants
  | 0, r, o, _, g, hg => by cases hg
  | k + 1, r, o, h, g, hg => by
    obtain ⟨g', e, hg', hq⟩ := h.choose
    rw [whyL, e] at hg
    rcases List.mem_cons.1 hg with rfl | hg
    · exact hg'
    · exact whyL_mem k g'.By true (h.next hg' hq) g hg
theorem wgone_ok {A B : Prop} (p0 : List law19_Act) (p1 : law32_Asked) (p2 : Int) (_ : A) (_ : B) (hp : IntKind.u8.min ≤ p2 ∧ p2 ≤ IntKind.u8.max) : law32_WhyGone p0 p1 p2 = some true := by
  have hp0 : 0 ≤ p2 := hp.1
  have hp1 : p2 ≤ 255 := hp.2
  unfold law32_WhyGone
  refine Ret.eq (yd (afew_rb p0) fun q0 h0 => yd (R := fun (q : Bool) => q = false → q0 = true) (yi (fun _ => yc fun h => by cases h) fun hc => yd (few32_tt _) fun r _ => yc fun _ => by simpa using hc) fun q1 h1 => yi (fun _ => ?_) fun hc => ?_)
  · rw [works32]
    exact ya0 (yc rfl)
  refine yd (rb_and (grown_gu (h0 (h1 hc))) (grown_v p0)) ?_
  rintro c ⟨⟨hci, hgu⟩, hvb⟩
  have hg := hci.1.grants
  have hs := hci.2.sm (show 60 ≤ 100 by omega)
  obtain ⟨x, b, e1, e3⟩ := why_one hci.1 om hs p1.Role p1.Priv p1.Table
  rw [e1]
  refine ya0 (yi (fun _ => ?_) fun hlen => ?_)
  · rw [works32]
    exact ya0 (yc rfl)
  have hl0 : (c.Grants.length : Int) ≠ 0 := by simpa using hlen
  obtain ⟨i, hi0, hi1⟩ : ∃ i : Nat, tmodO (w64 p2) (c.Grants.length : Int) = some (i : Int) ∧ i < c.Grants.length := by
    rw [w64_id om om]
    unfold tmodO
    rw [if_neg hl0]
    have a1 := Int.tmod_nonneg (c.Grants.length : Int) hp0
    have a2 := Int.tmod_lt_of_pos p2 (show (0 : Int) < (c.Grants.length : Int) by omega)
    exact ⟨(Int.tmod p2 (c.Grants.length : Int)).toNat, by congr 1; omega, by omega⟩
  rw [hi0]
  refine ya0 (yaf hi1 fun g0 hgi hgm => yd (revoke2 hci om { z_qS with Table := g0.Table, Role := g0.To, Priv := g0.Priv } g0.By (show c.Version < 2000 by have := hvb.2; omega) ⟨g0, hgm, rfl⟩) ?_)
  rintro ⟨d, e⟩ hrev
  simp only at hrev
  rcases hrev with ⟨he, hneg⟩ | ⟨he, v, k', g', hk', hkk, hd⟩
  · have hne : (e != 0) = true := by simpa using he
    show RB True (bif (e != 0) then _ else _) _
    rw [hne]
    simp only [cond_true]
    rw [rat_val, obs, show decide (rI c.Roles g0.By < 0) = true by simpa using hneg, cond_true, works32]
    exact yc rfl
  · have hne : (e != 0) = false := by rw [he]; rfl
    show RB True (bif (e != 0) then _ else _) _
    rw [hne]
    simp only [cond_false]
    have hik : k' = i := by
      by_cases h : k' = i
      · exact h
      · exact absurd hkk (hgu.2.other hgi (by rw [List.mem_eraseIdx_iff_getElem?]; exact ⟨k', h, hk'⟩))
    subst hik
    obtain ⟨c', hc'⟩ : ∃ c' : qC, c' = { c with Version := v, Grants := c.Grants.eraseIdx k' } := ⟨_, rfl⟩
    rw [← hc'] at hd
    have h1 : c'.Tables = c.Tables := by rw [hc']
    have h2 : c'.Roles = c.Roles := by rw [hc']
    have h3 : c'.Grants = c.Grants.eraseIdx k' := by rw [hc']
    have k1 : d.Tables = c'.Tables := by rw [hd, h1]
    have k2 : d.Roles = c'.Roles := by rw [hd, h2]
    have k3 : d.Grants = heR c' := by rw [hd]
    have hsub : d.Grants.Sublist c.Grants := by
      rw [k3]
      refine (he_sub c').trans ?_
      rw [h3]
      exact List.eraseIdx_sublist ..
    have hdc : ∀ y ∈ d.Grants, y ∈ c.Grants := fun y hy => hsub.subset hy
    have hnot : g0 ∉ d.Grants := by
      rw [k3]
      intro hm
      have := (he_sub c').subset hm
      rw [h3] at this
      exact hgu.2.other hgi this rfl
    have hcd : CB 60 d := ⟨by rw [k1, h1]; exact hci.1.tabs, by rw [k1, h1]; exact hci.1.ok, Nat.le_trans hsub.length_le hg⟩
    have hsd : Sm d.Roles := by rw [k2, h2]; exact hs
    have toC : ∀ k, Rs d p1.Priv p1.Table k p1.Role false → Rs c p1.Priv p1.Table k p1.Role false := fun k hk => rs_sub (k1.trans h1) (k2.trans h2) hdc _ _ _ _ _ hk
    obtain ⟨y, b', f1, f3⟩ := why_one hcd om hsd p1.Role p1.Priv p1.Table
    rw [f1]
    simp only [obs]
    obtain ⟨u, hu, hui⟩ := has32 x g0
    obtain ⟨u', hu', hui'⟩ := has32 y g0
    have stays : b = true → u = false → ∃ k, MinR c p1.Priv p1.Table k p1.Role false ∧ Rs d p1.Priv p1.Table k p1.Role false ∧ whyL d p1.Priv p1.Table k p1.Role false = x := by
      intro hb huf
      rcases e3 with ⟨hbf, _⟩ | ⟨k, _, hm, hx⟩
      · rw [hbf] at hb; cases hb
      · have hn : g0 ∉ whyL c p1.Priv p1.Table k p1.Role false := fun h => by
          rw [← hx] at h
          rw [hui.2 h] at huf
          cases huf
        obtain ⟨a1, a2⟩ := why_stays hgu.2 hgi h1 h2 h3 k1 k2 k3 p1.Priv p1.Table k p1.Role false hm hn
        exact ⟨k, hm, rs_held k1 k2 k3 _ _ _ _ _ a1, by rw [a2, hx]⟩
    rcases f3 with ⟨hb', hno⟩ | ⟨kd, hb', hmd, hy⟩
    · rw [hb']
      simp only [cond_false, obs]
      have hj : (b && !u) = false := by
        cases hbb : b with
        | false => rfl
        | true =>
          cases huu : u with
          | true => rfl
          | false =>
            obtain ⟨k, _, hk, _⟩ := stays hbb huu
            exact absurd hk (hno k)
      have key : (bif b then (law32_has x g0).bind (fun r171 => some (!r171)) else some false) = some (b && !u) := by
        rw [hu]
        cases b <;> rfl
      rw [key, hj]
      simp only [obs, cond_false, works32]
      exact yc rfl
    · rw [hb']
      have hck := toC kd hmd.1
      have hcase : ∃ k, b = true ∧ MinR c p1.Priv p1.Table k p1.Role false ∧ x = whyL c p1.Priv p1.Table k p1.Role false := by
        rcases e3 with ⟨_, hno⟩ | h
        · exact absurd hck (hno kd)
        · exact h
      obtain ⟨k, hb, hm, hx⟩ := hcase
      have hle : k ≤ kd := by
        by_cases h : kd < k
        · exact absurd hck (hm.2 kd h)
        · omega
      have lx : x.length = k := by rw [hx, whyL_len _ _ _ hm]
      have ly : y.length = kd := by rw [hy, whyL_len _ _ _ hmd]
      have hu'f : u' = false := by
        cases huu : u' with
        | false => rfl
        | true =>
          have := hui'.1 huu
          rw [hy] at this
          exact absurd (whyL_mem _ _ _ hmd g0 this) hnot
      rw [hb, lx, ly, hu', hu'f, hu]
      have hlt : decide ((kd : Int) < (k : Int)) = false := by simp; omega
      simp only [Bool.not_true, Bool.false_or, hlt, cond_true, cond_false, obs]
      cases huu : u with
      | true =>
        simp only [Bool.not_true, cond_false, works32, obs]
        exact yc rfl
      | false =>
        obtain ⟨k2', hm2, hrd, hwd⟩ := stays hb huu
        have hk2 : k2' = kd := by
          have a1 := hm2.uniq hm
          by_cases h : k2' < kd
          · exact absurd hrd (hmd.2 k2' h)
          · omega
        subst hk2
        have hxy : y = x := by rw [hy, hwd]
        simp only [Bool.not_false, cond_true, hxy, gsame_self, obs, works32]
        exact yc rfl
end Go.Proofs.YtlfphpegelclpaaGreat
