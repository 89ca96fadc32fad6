/- Plain laws: what the plain functions answer. Conditions: none. -/
import Derived.Test.YtlfphpegelclpaaGreatHA
set_option maxRecDepth 100000
namespace Go.Proofs.YtlfphpegelclpaaGreat
open Go.Gv
theorem filter_le {α : Type} {p q : α → Bool} (h : ∀ x, p x = true → q x = true) (l : List α) : (l.filter p).Sublist (l.filter q) := by
  have e : l.filter p = (l.filter q).filter p := by
    rw [List.filter_filter]
    exact (List.filter_congr fun x _ => by
      cases hp : p x with
      | false => rfl
      | true => rw [h x hp]; rfl).symm
  rw [e]
  exact List.filter_sublist
theorem rnds_up (c : qC) (k : Nat) : (rnds c k).Sublist (rnds c (k + 1)) := by
  rw [rnds_pk, rnds_pk]
  exact filter_le (pk_mono c k) _
theorem soon (c : qC) : ∀ k : Nat, k ≤ (rnds c k).length ∨ ∃ j, j < k ∧ rnds c (j + 1) = rnds c j
  | 0 => .inl (Nat.zero_le _)
  | k + 1 => by
    rcases soon c k with h | ⟨j, h1, h2⟩
    · by_cases he : (rnds c (k + 1)).length ≤ (rnds c k).length
      · exact .inr ⟨k, by omega, ((rnds_up c k).eq_of_length_le he).symm⟩
      · exact .inl om
    · exact .inr ⟨j, by omega, h2⟩
theorem he_all (c : qC) (m : Nat) : rnds c (c.Grants.length + 1 + m) = heR c := by
  rcases soon c (c.Grants.length + 1) with h | ⟨j, h1, h2⟩
  · have := rnds_len c (c.Grants.length + 1)
    omega
  · have e : ∀ q, c.Grants.length + 1 + q = j + (c.Grants.length + 1 + q - j) := fun q => by omega
    unfold heR
    rw [e m, stable h2, show c.Grants.length + 1 = j + (c.Grants.length + 1 - j) by omega, stable h2]
theorem he_fix (c : qC) : heR c = c.Grants.filter (okB c (heR c)) := (he_all c 1).symm
theorem he_mem {c : qC} {g : qG} : g ∈ heR c ↔ g ∈ c.Grants ∧ okB c (heR c) g = true := by
  have e := he_fix c
  constructor
  · intro h
    rw [e] at h
    exact List.mem_filter.1 h
  · intro h
    rw [e]
    exact List.mem_filter.2 h
theorem ow_tI {c : qC} {r t : By8} (h : owB c r t = true) : 0 ≤ tI c t := by
  by_cases h0 : 0 ≤ tI c t
  · exact h0
  · unfold owB r19_Owns at h
    rw [tat_val] at h
    simp only [obs, show decide (tI c t ≥ 0) = false by simpa using h0, cond_false, Option.getD_some] at h
    cases h
theorem fit_iff {c : qC} {p : Int} {t : By8} {g : qG} {o : Bool} : fitB c p t g o = true ↔ 0 ≤ rI c.Roles g.To ∧ g.Priv = p ∧ g.Table = t ∧ (g.Option = true ∨ o = false) := by
  unfold fitB
  simp only [Bool.and_eq_true, Bool.or_eq_true, Bool.not_eq_true', decide_eq_true_eq, beq_iff_eq, sEq_iff, and_assoc]
theorem ha_iff {c : qC} {l : List qG} {r : By8} {p : Int} {t : By8} {o : Bool} : haB c l r p t o = true ↔ ∃ g ∈ l, g.Priv = p ∧ g.Table = t ∧ (g.Option = true ∨ o = false) ∧ isB c.Roles r g.To = true := by
  unfold haB
  rw [List.any_eq_true]
  simp only [Bool.and_eq_true, Bool.or_eq_true, Bool.not_eq_true', beq_iff_eq, sEq_iff, and_assoc]
theorem ok_iff {c : qC} {l : List qG} {g : qG} : okB c l g = true ↔ 0 ≤ tI c g.Table ∧ 0 ≤ rI c.Roles g.To ∧ (owB c g.By g.Table = true ∨ haB c l g.By g.Priv g.Table true = true) := by
  unfold okB
  simp only [Bool.and_eq_true, Bool.or_eq_true, decide_eq_true_eq, and_assoc]
theorem rs_tI {c : qC} {p : Int} {t : By8} : ∀ (k : Nat) (r : By8) (o : Bool), Rs c p t k r o → 0 ≤ tI c t
  | 0, _, _, h => ow_tI h
  | k + 1, _, _, ⟨g, _, _, _, h⟩ => rs_tI k g.By true h
theorem rs_he {c : qC} {p : Int} {t : By8} : ∀ (k : Nat) (g : qG), g ∈ c.Grants → fitB c p t g false = true → Rs c p t k g.By true → g ∈ heR c
  | 0, g, hg, hf, h => by
    obtain ⟨f1, f2, f3, _⟩ := fit_iff.1 hf
    refine he_mem.2 ⟨hg, ok_iff.2 ⟨by rw [f3]; exact rs_tI 0 _ true h, f1, .inl ?_⟩⟩
    rw [f3]
    exact h
  | k + 1, g, hg, hf, h => by
    obtain ⟨f1, f2, f3, _⟩ := fit_iff.1 hf
    have ht := rs_tI (k + 1) _ true h
    obtain ⟨g', h1, h2, h3, h4⟩ := h
    obtain ⟨e1, e2, e3, e4⟩ := fit_iff.1 h2
    have hm := rs_he k g' h1 (fit_weak h2) h4
    refine he_mem.2 ⟨hg, ok_iff.2 ⟨by rw [f3]; exact ht, f1, .inr (ha_iff.2 ⟨g', hm, by rw [f2]; exact e2, by rw [f3]; exact e3, ?_, h3⟩)⟩⟩
    rcases e4 with e4 | e4
    · exact .inl e4
    · cases e4
theorem he_rs {c : qC} {p : Int} {t : By8} : ∀ (n : Nat) (g : qG), g ∈ rnds c n → g.Priv = p → g.Table = t → g ∈ c.Grants ∧ 0 ≤ rI c.Roles g.To ∧ ∃ k, Rs c p t k g.By true
  | 0, g, h, _, _ => by cases h
  | n + 1, g, h, hp, ht => by
    obtain ⟨hg, hk⟩ := List.mem_filter.1 (show g ∈ c.Grants.filter (okB c (rnds c n)) from h)
    obtain ⟨_, h2, h3⟩ := ok_iff.1 hk
    refine ⟨hg, h2, ?_⟩
    rw [hp, ht] at h3
    rcases h3 with h3 | h3
    · exact ⟨0, h3⟩
    · obtain ⟨g', hm, e1, e2, e3, e4⟩ := ha_iff.1 h3
      obtain ⟨hg', hr', k, hk⟩ := he_rs n g' hm e1 e2
      exact ⟨k + 1, g', hg', fit_iff.2 ⟨hr', e1, e2, e3⟩, e4, hk⟩
theorem rs_may {c : qC} {p : Int} {t r : By8} : (∃ k, Rs c p t k r false) ↔ (owB c r t || haB c (heR c) r p t false) = true := by
  rw [Bool.or_eq_true]
  constructor
  · rintro ⟨k, h⟩
    cases k with
    | zero => exact .inl h
    | succ k =>
      obtain ⟨g, h1, h2, h3, h4⟩ := h
      obtain ⟨_, e2, e3, _⟩ := fit_iff.1 h2
      exact .inr (ha_iff.2 ⟨g, rs_he k g h1 h2 h4, e2, e3, .inr rfl, h3⟩)
  · rintro (h | h)
    · exact ⟨0, h⟩
    · obtain ⟨g, hm, e1, e2, _, e4⟩ := ha_iff.1 h
      obtain ⟨hg, hr, k, hk⟩ := he_rs _ g hm e1 e2
      exact ⟨k + 1, g, hg, fit_iff.2 ⟨hr, e1, e2, .inr rfl⟩, e4, hk⟩
theorem why_chk {c : qC} {p : Int} {t : By8} : ∀ (k : Nat) (r : By8) (o : Bool), MinR c p t k r o → chkB c p t r o (whyL c p t k r o) = true ∧ ∀ g ∈ whyL c p t k r o, g ∈ heR c
  | 0, r, o, h => ⟨h.1, fun g hg => by cases hg⟩
  | k + 1, r, o, h => by
    obtain ⟨g, e, hg, hq⟩ := h.choose
    obtain ⟨a, b⟩ := why_chk k g.By true (h.next hg hq)
    obtain ⟨q1, q2, j, _, q3⟩ := chQ_iff.1 hq
    rw [whyL, e]
    refine ⟨by simp only [chkB, q1, q2, a, Bool.and_self], fun g' hg' => ?_⟩
    rcases List.mem_cons.1 hg' with rfl | hg'
    · exact rs_he j g' hg (fit_weak q1) q3
    · exact b g' hg'
theorem chk_rs {c : qC} {p : Int} {t : By8} : ∀ (l : List qG) (r : By8) (o : Bool), (∀ g ∈ l, g ∈ c.Grants) → chkB c p t r o l = true → Rs c p t l.length r o
  | [], r, o, _, h => h
  | g :: l, r, o, hm, h => by
    simp only [chkB, Bool.and_eq_true] at h
    exact ⟨g, hm g (by simp), h.1.1, h.1.2, chk_rs l g.By true (fun x hx => hm x (by simp [hx])) h.2⟩
theorem has32 (l : List qG) (g : qG) : ∃ b, law32_has l g = some b ∧ (b = true ↔ g ∈ l) := by
  unfold law32_has
  have heq : ∀ x : qG, (sEq x.To g.To && (sEq x.By g.By && (sEq x.Table g.Table && ((x.Priv == g.Priv) && (x.Option == g.Option))))) = true ↔ x = g := by
    intro x
    simp only [Bool.and_eq_true, sEq_iff, beq_iff_eq]
    constructor
    · rintro ⟨a, b, c, d, e⟩
      cases x; cases g
      simp_all
    · rintro rfl
      simp
  rw [forN_list (v := true) (fun x => !(sEq x.To g.To && (sEq x.By g.By && (sEq x.Table g.Table && ((x.Priv == g.Priv) && (x.Option == g.Option)))))) (fun j x hx => by
    rw [idx_nat, hx]
    simp only [obs]
    cases (sEq x.To g.To && (sEq x.By g.By && (sEq x.Table g.Table && ((x.Priv == g.Priv) && (x.Option == g.Option))))) <;> rfl)]
  cases hc : (l.all fun x => !(sEq x.To g.To && (sEq x.By g.By && (sEq x.Table g.Table && ((x.Priv == g.Priv) && (x.Option == g.Option)))))) with
  | true =>
    refine ⟨_, rfl, ⟨(fun h => by cases h), fun hm => ?_⟩⟩
    have := List.all_eq_true.1 hc g hm
    rw [(heq g).2 rfl] at this
    cases this
  | false =>
    refine ⟨_, rfl, ⟨fun _ => ?_, fun _ => rfl⟩⟩
    obtain ⟨x, hx, hx2⟩ := List.all_eq_false.1 hc
    have : (sEq x.To g.To && (sEq x.By g.By && (sEq x.Table g.Table && ((x.Priv == g.Priv) && (x.Option == g.Option))))) = true := by simpa using hx2
    rw [(heq x).1 this] at hx
    exact hx
theorem holds_ok {A B C : Prop} (p0 : List law19_Act) (p1 : List qG) (p2 : law32_Asked) (_ : A) (_ : B) (_ : C) : law32_WhyHolds p0 p1 p2 = some true := by
  unfold law32_WhyHolds
  refine Ret.eq (yh (afew_rb p0) fun q0 h0 => yh (R := fun (q : Bool) => q = false → q0 = true ∧ p1.length ≤ 45) (yj (fun _ => yd fun h => by cases h) fun hc => yh (gfew_rb p1) fun r hr => yd fun hq => ⟨by simpa using hc, hr (by simpa using hq)⟩) fun q1 h1 => yh (R := fun (q : Bool) => q = false → q1 = false) (yj (fun _ => yd fun h => by cases h) fun hc => yh (few32_tt _) fun r _ => yd fun _ => hc) fun q2 h2 => yj (fun _ => ?_) fun hc => ?_)
  · rw [works32]
    exact ya2 (yd rfl)
  obtain ⟨g0, l1⟩ := h1 (h2 hc)
  refine yh (grown_rb (h0 g0)) fun c hc => ?_
  have hg := hc.1.grants
  have hs := hc.2.sm (show 60 ≤ 100 by omega)
  have hmay : grants_May c p2.Role p2.Priv p2.Table = some (owB c p2.Role p2.Table || haB c (heR c) p2.Role p2.Priv p2.Table false) := by
    unfold grants_May
    simp only [gowns_val hc.1 (show 60 ≤ 1000 by omega) hs, gheld_val hc.1 (show 60 ≤ 1000 by omega) hs, ghas_val hs, obs]
    cases owB c p2.Role p2.Table <;> rfl
  rw [hmay, gheld_val hc.1 om hs, ← rcheck_same hc.1 om hs, check_val hc.1 om hs]
  obtain ⟨x, b, e1, b1, b2, b3, b4⟩ : ∃ x b, why_Why c p2.Role p2.Priv p2.Table = some (x, b) ∧ b = (owB c p2.Role p2.Table || haB c (heR c) p2.Role p2.Priv p2.Table false) ∧ (b = true → chkB c p2.Priv p2.Table p2.Role false x = true) ∧ (∀ g ∈ x, g ∈ heR c) ∧ ∀ k, Rs c p2.Priv p2.Table k p2.Role false → b = true ∧ x.length ≤ k := by
    by_cases h : ∃ k, Rs c p2.Priv p2.Table k p2.Role false
    · obtain ⟨k, hk⟩ := least_rs h
      obtain ⟨a1, a2⟩ := why_chk k _ _ hk
      refine ⟨_, _, why_some hc.1 om hs _ _ hk, (rs_may.1 h).symm, fun _ => a1, a2, fun j hj => ⟨rfl, ?_⟩⟩
      rw [whyL_len _ _ _ hk]
      by_cases hlt : j < k
      · exact absurd hj (hk.2 j hlt)
      · omega
    · have h' : ∀ k, ¬ Rs c p2.Priv p2.Table k p2.Role false := fun k hk => h ⟨k, hk⟩
      refine ⟨_, _, why_none hc.1 om hs _ _ h', ?_, (fun e => by cases e), (fun g hg => by cases hg), fun k hk => absurd hk (h' k)⟩
      cases e : (owB c p2.Role p2.Table || haB c (heR c) p2.Role p2.Priv p2.Table false) with
      | false => rfl
      | true => exact absurd (rs_may.2 e) h
  rw [e1, ← b1]
  simp only [obs, beq_self_eq_true, Bool.not_true, cond_false]
  rw [check_val hc.1 om hs]
  simp only [obs]
  have hj : (!(b == chkB c p2.Priv p2.Table p2.Role false x) && b) = false := by
    cases b with
    | false => simp
    | true => rw [b2 rfl]; rfl
  rw [hj]
  simp only [cond_false]
  refine yh (forN_ret (fun _ _ => True) (Q := fun _ => False) trivial fun j _ hj _ => yah hj fun g _ hgm => ?_) ?_
  · obtain ⟨v, hv, hvi⟩ := has32 (heR c) g
    rw [hv, hvi.2 (b3 g hgm)]
    exact yd trivial
  rintro (_ | _) hq
  rotate_left
  · exact hq.elim
  refine yh (forN_ret (fun j _ => ∀ g ∈ p1.take j, g ∈ c.Grants) (Q := fun r => r = true) (by simp) fun j _ hj ih => ?_) ?_
  · refine yh (R := fun (q : Bool) => q = false → ∀ g, p1[j]? = some g → g ∈ c.Grants) (yj (fun _ => yd fun h => by cases h) fun _ => yah hj fun g hgj _ => ?_) fun q hq => yj (fun _ => ?_) fun hqf => yd ?_
    · obtain ⟨v, hv, hvi⟩ := has32 c.Grants g
      rw [hv]
      refine ya2 (yd fun h g' hg' => ?_)
      rw [hgj] at hg'
      obtain rfl := Option.some.inj hg'
      exact hvi.1 (by simpa using h)
    · rw [works32]
      exact ya2 (yd rfl)
    · exact take_all (gE hj) ih (hq hqf _ (gE hj))
  · rintro (_ | r) hq
    · rw [List.take_length] at hq
      have hfin : (!chkB c p2.Priv p2.Table p2.Role false p1 || (b && decide ((x.length : Int) ≤ (p1.length : Int)))) = true := by
        cases hck : chkB c p2.Priv p2.Table p2.Role false p1 with
        | false => rfl
        | true =>
          obtain ⟨h1, h2⟩ := b4 _ (chk_rs p1 _ _ hq hck)
          rw [h1]
          simp only [Bool.not_true, Bool.false_or, Bool.true_and, decide_eq_true_eq]
          omega
      rw [hfin, works32]
      exact yd rfl
    · exact yd hq
end Go.Proofs.YtlfphpegelclpaaGreat
