/- What comes of right roles is right, and in right roles nobody is round. Conditions: none. -/
import Derived.Test.YthndadengamanaaKeep
namespace Go.Proofs.Ythndadengamanaa
open Go.Gv
theorem done_ok {l : List Role} (h : Ok l) (a : registrarlaw18_Act) (h1 : a.Name.size ≤ 100) (h2 : a.Role.size ≤ 100) : ∃ r e, registrarlaw18_done l a = some (r, e) ∧ (e = 0 → Ok r ∧ (has l rootB → has r rootB)) := by
  unfold registrarlaw18_done
  cases h0 : a.Do == 0 with
  | true =>
    simp only [cond_true]
    rcases create_ok h (n := a.Name) (by omega) with ⟨_, e⟩ | ⟨_, _, e⟩ | ⟨_, _, _, e⟩ | ⟨g1, g2, g3, A, B, rfl, g4, g5, e⟩ <;> rw [e]
    · exact ⟨_, _, rfl, fun h => by cases h⟩
    · exact ⟨_, _, rfl, fun h => by cases h⟩
    · exact ⟨_, _, rfl, fun h => by cases h⟩
    · exact ⟨_, _, rfl, fun _ => ⟨create_keep h g3 (by omega) g1 g4 g5, fun ⟨x, hx, e⟩ => ⟨x, by rcases List.mem_append.1 hx with hx | hx <;> simp [hx], e⟩⟩⟩
  | false =>
    simp only [cond_false]
    cases h0 : a.Do == 1 with
    | true =>
      simp only [cond_true]
      rcases drop_ok h a.Name with ⟨_, e⟩ | ⟨_, _, e⟩ | ⟨_, hnr, e⟩ <;> rw [e]
      · exact ⟨_, _, rfl, fun h => by cases h⟩
      · exact ⟨_, _, rfl, fun h => by cases h⟩
      · exact ⟨_, _, rfl, fun _ => ⟨(drop_keep h a.Name).1, fun ⟨x, hx, e⟩ => ⟨lessIn a.Name x, List.mem_map.2 ⟨x, List.mem_filter.2 ⟨hx, by rw [e, keq.ne (Ne.symm hnr)]; rfl⟩, rfl⟩, e⟩⟩⟩
    | false =>
      simp only [cond_false]
      cases h0 : a.Do == 2 with
      | true =>
        simp only [cond_true]
        rcases grant_ok h a.Name a.Role with ⟨_, e⟩ | ⟨k, x, g1, g2, g3, ⟨_, e⟩ | ⟨_, _, e⟩ | ⟨_, g4, A, B, g5, g6, g7, e⟩⟩ <;> rw [e]
        · exact ⟨_, _, rfl, fun h => by cases h⟩
        · exact ⟨_, _, rfl, fun h => by cases h⟩
        · exact ⟨_, _, rfl, fun h => by cases h⟩
        · exact ⟨_, _, rfl, fun _ => ⟨grant_keep h g1 g3 (by rw [g2]; exact g4) g5 g6 g7, fun hr => (set_has (x' := { x with In := A ++ a.Name :: B }) g1 rfl rootB).2 hr⟩⟩
      | false =>
        simp only [cond_false]
        rcases revoke_ok h a.Name a.Role with ⟨_, e⟩ | ⟨k, x, g1, _, _, e⟩ <;> rw [e]
        · exact ⟨_, _, rfl, fun h => by cases h⟩
        · exact ⟨_, _, rfl, fun _ => ⟨revoke_keep h g1 a.Name, fun hr => (set_has (x' := lessIn a.Name x) g1 rfl rootB).2 hr⟩⟩
theorem long_eq (a : registrarlaw18_Act) : ∃ b, registrarlaw18_long a = some b ∧ (b = false → a.Name.size ≤ 100 ∧ a.Role.size ≤ 100) := by
  refine ⟨_, rfl, fun h => ?_⟩
  simp at h
  omega
theorem root_ok : Ok [{ z_api_Role with Name := (⟨#[114, 111, 111, 116]⟩ : ByteArray) }] := by
  have hn : lex_IsName rootB = some true := by
    have h : (loopO (fun (s4 : Int) => ((bif ((decide ((w64 (0 + s4)) < (rootB.size : Int))) && (decide (s4 < 12))) then (sAt rootB (w64 (0 + s4))).bind (fun (y15 : Int) => ((fun (u0 : Int) => lex_one_1 u0) y15).bind (fun (r21 : Bool) => some r21)) else some false)).bind (fun (j11 : Bool) => (bif j11 then some (.inl (w64 (s4 + 1))) else some (.inr s4) : Option (Int ⊕ Int)))) 0) = some 4 := by
      rw [loopO_next (s' := 1) (by kernel_rfl), loopO_next (s' := 2) (by kernel_rfl), loopO_next (s' := 3) (by kernel_rfl), loopO_next (s' := 4) (by kernel_rfl), loopO_stop (t := 4) (by kernel_rfl)]
    have h2 : lex_while rootB 0 12 (fun (u0 : Int) => lex_one_1 u0) = some 4 := by
      unfold lex_while
      rw [h]
      rfl
    have h3 : lex_one rootB = some (1, 4) := by
      unfold lex_one
      rw [h2]
      kernel_rfl
    unfold lex_IsName lex_Right
    simp only
    rw [h3]
    clear h h2 h3
    have e1 : sEq rootB (⟨#[]⟩ : ByteArray) = false := by kernel_rfl
    rw [e1]
    rfl
  have hm : ∀ x ∈ [({ z_api_Role with Name := (⟨#[114, 111, 111, 116]⟩ : ByteArray) } : Role)], x.Name = rootB ∧ x.In = [] := fun x hx => by
    rw [List.mem_singleton] at hx
    subst hx
    exact ⟨rfl, rfl⟩
  refine ⟨⟨by simp, List.pairwise_singleton .., fun x hx => ?_, fun x hx => ?_, fun x hx s hs => ?_, fun x hx s hs => ?_⟩, fun x hx => ?_⟩ <;> obtain ⟨e1, e2⟩ := hm x hx
  · rw [e1]; exact hn
  · rw [e2]; exact List.Pairwise.nil
  · rw [e2] at hs; cases hs
  · rw [e2] at hs; cases hs
  · rw [e1]; decide
/-- Whether a role is one that is there. -/
theorem is_in {l : List Role} (h : Ok l) {x y : Role} (hx : x ∈ l) : ∃ b, member_Is l x.Name y.Name = some b ∧ (b = true ↔ Rch l x.Name y.Name) := by
  obtain ⟨b, hb, hb2⟩ := is_eq h.sm x.Name y.Name
  exact ⟨b, hb, hb2.trans ⟨fun h => h.2, fun hr => ⟨⟨x, hx, rfl⟩, hr⟩⟩⟩
theorem holds_ok {A : Prop} (p0 : List registrarlaw18_Act) (_ : A) : registrarlaw18_MemberHolds p0 = some true := by
  refine Ret.eq ?_
  unfold registrarlaw18_MemberHolds
  refine RB.bind (R := fun t => (t = .inl true) ∨ ∃ l, t = .inr l ∧ Ok l ∧ has l rootB) (loopO_rb (fun (q : List Role × Int) => ∃ i : Nat, q.2 = (i : Int) ∧ i ≤ 40 ∧ Ok q.1 ∧ has q.1 rootB) (fun q => 40 - q.2.toNat) ?_ ⟨0, rfl, by omega, root_ok, ⟨_, .head _, rfl⟩⟩) ?_
  · rintro ⟨l, q⟩ ⟨i, hi, hi2, hl, hn⟩
    simp only at hi hl hn
    subst hi
    refine RB.cond (fun hc => ?_) (fun hc => RB.ret (.inr ⟨l, rfl, hl, hn⟩))
    have hc2 : i < p0.length ∧ i < 40 := by simp at hc; omega
    have hx : p0[i]? = some p0[i] := List.getElem?_eq_getElem hc2.1
    obtain ⟨b, hb, hb2⟩ := long_eq p0[i]
    simp only [idx_nat, hx, Option.bind_some, hb]
    refine RB.cond (fun _ => ?_) (fun e => ?_)
    · rw [works_eq]
      exact RB.ret (.inl rfl)
    · obtain ⟨g1, g2⟩ := hb2 e
      obtain ⟨r, e, hd, hd2⟩ := done_ok hl p0[i] g1 g2
      rw [hd]
      simp only [Option.bind_some]
      refine RB.bind (R := fun l' => Ok l' ∧ has l' rootB) (RB.cond (fun he => RB.ret ?_) (fun _ => RB.ret ⟨hl, hn⟩)) ?_
      · obtain ⟨k1, k2⟩ := hd2 (eq_of_beq he)
        exact ⟨k1, k2 hn⟩
      · rintro l' ⟨h1, h2⟩
        rw [h1.check]
        refine RB.ret ⟨⟨i + 1, by simp only; rw [w64_id (by omega) (by omega)]; rfl, by omega, h1, h2⟩, by simp only; rw [w64_id (by omega) (by omega)]; omega⟩
  · rintro t (rfl | ⟨l, rfl, hl, hn⟩)
    · exact RB.ret rfl
    · have hlen : 0 < l.length := by
        obtain ⟨x, hx, _⟩ := hn
        exact List.length_pos_of_mem hx
      refine RB.bind (R := fun t => ∃ u, t = .inl u) (RB.mono (forN_ret (fun _ _ => True) (Q := fun _ => False) trivial ?_) (fun t ht => by cases t with | inl u => exact ⟨u, rfl⟩ | inr v => exact ht.elim)) ?_
      · rintro k _ hk _
        have hx : l[k]? = some l[k] := List.getElem?_eq_getElem hk
        have hxl : l[k] ∈ l := List.getElem_mem hk
        simp only [idx_nat, hx, Option.bind_some]
        obtain ⟨b, hb, hb2⟩ := is_in hl hxl (y := l[k])
        rw [hb, hb2.2 .self]
        simp only [Option.bind_some, Bool.not_true, cond_false]
        refine RB.bind (R := fun t => ∃ u, t = .inl u) (RB.mono (forN_ret (fun _ _ => True) (Q := fun _ => False) trivial ?_) (fun t ht => by cases t with | inl u => exact ⟨u, rfl⟩ | inr v => exact ht.elim)) (fun t ⟨u, hu⟩ => by subst hu; exact RB.ret trivial)
        rintro j _ hj _
        have hy : l[j]? = some l[j] := List.getElem?_eq_getElem hj
        have hyl : l[j] ∈ l := List.getElem_mem hj
        simp only [hy, Option.bind_some]
        obtain ⟨c, hc, hc2⟩ := is_in hl hxl (y := l[j])
        obtain ⟨d, hd, hd2⟩ := is_in hl hyl (y := l[k])
        rw [hc, hd]
        have hno : (((j : Int) != (k : Int)) && c && d) = false := by
          cases hjk : ((j : Int) != (k : Int)) with
          | false => rfl
          | true =>
            have hjk : j ≠ k := by simp at hjk; omega
            cases c with
            | false => rfl
            | true =>
              cases d with
              | false => rfl
              | true =>
                exfalso
                refine hl.1.anti (fun e => ?_) (hc2.1 rfl) (hd2.1 rfl)
                have := hl.1.asc.nodup
                rcases Nat.lt_or_ge k j with hlt | hge
                · exact List.pairwise_iff_getElem.1 this k j (by simpa using hk) (by simpa using hj) hlt (by simpa using e)
                · exact List.pairwise_iff_getElem.1 this j k (by simpa using hj) (by simpa using hk) (by omega) (by simpa using e.symm)
        refine RB.bind (R := fun b => b = (((j : Int) != (k : Int)) && c)) ?_ ?_
        · cases ((j : Int) != (k : Int)) <;> exact RB.ret rfl
        rintro _ rfl
        refine RB.bind (R := fun b => b = false) ?_ ?_
        · rw [← hno]
          cases (((j : Int) != (k : Int)) && c) <;> exact RB.ret rfl
        rintro _ rfl
        simp only [cond_false]
        refine RB.bind (R := fun t => ∃ u, t = .inl u) (RB.mono (forN_ret (fun _ _ => True) (Q := fun _ => False) trivial ?_) (fun t ht => by cases t with | inl u => exact ⟨u, rfl⟩ | inr v => exact ht.elim)) (fun t ⟨u, hu⟩ => by subst hu; exact RB.ret trivial)
        rintro m _ hm _
        have hz : l[m]? = some l[m] := List.getElem?_eq_getElem hm
        have hzl : l[m] ∈ l := List.getElem_mem hm
        simp only [hz, Option.bind_some]
        obtain ⟨f, hf, hf2⟩ := is_in hl hyl (y := l[m])
        obtain ⟨g, hg, hg2⟩ := is_in hl hxl (y := l[m])
        rw [hf, hg]
        cases c with
        | false => exact RB.ret trivial
        | true =>
          cases f with
          | false => exact RB.ret trivial
          | true =>
            rw [hg2.2 ((hc2.1 rfl).trans (hf2.1 rfl))]
            exact RB.ret trivial
      · rintro t ⟨u, rfl⟩
        rw [show decide ((l.length : Int) > 0) = true by simp; omega, works_eq]
        exact RB.ret rfl
end Go.Proofs.Ythndadengamanaa
