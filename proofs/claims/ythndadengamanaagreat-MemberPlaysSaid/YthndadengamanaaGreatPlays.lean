/- Whatever is done to roles: they become what the document says. Conditions: none. -/
import Derived.Test.YthndadengamanaaGreatDone
namespace Go.Proofs.YthndadengamanaaGreat
open Go.Gv

theorem bad_acts {l : List Role} (h : Sm l) (hR : ¬ Right l) (a : registrarlaw18_Act) : registrarlaw18_done l a = some ([], 2) ∧ registrarlaw18_said l a = some ([], 2) := by
  obtain ⟨e, h1, h2, h3, h4⟩ := check_same h
  have he : e = 2 := by rcases h3 with h | h; exact absurd (h4.1 h) hR; exact h
  subst he
  have e2 : ((2 : Int) != 0) = true := by decide
  unfold registrarlaw18_done registrarlaw18_said member_Create member_Drop member_Grant member_Revoke registrarref18_Create registrarref18_Drop registrarref18_Grant registrarref18_Revoke
  rw [h1, h2]
  simp only [Option.bind_some, e2, cond_true]
  constructor <;> cases a.Do == 0 <;> cases a.Do == 1 <;> cases a.Do == 2 <;> rfl
theorem acts_same {l : List Role} (h : Ok l) (a : registrarlaw18_Act) (hz : a.Name.size ≤ 100) : registrarlaw18_done l a = registrarlaw18_said l a := by
  unfold registrarlaw18_done registrarlaw18_said
  rw [create_same h (n := a.Name) (by omega), drop_same h, grant_same h, revoke_same h]
theorem sm_of_ok_or {l : List Role} (h : Sm l) : Ok l ∨ ¬ Right l := by
  by_cases hR : Right l
  · exact .inl ⟨hR, h.2.2⟩
  · exact .inr hR
/-- What an act comes to, by the program and by the document. -/
theorem act_eq {l : List Role} (h : Sm l) (a : registrarlaw18_Act) (h1 : a.Name.size ≤ 100) (h2 : a.Role.size ≤ 100) : ∃ r e, registrarlaw18_done l a = some (r, e) ∧ registrarlaw18_said l a = some (r, e) ∧ (e = 0 → Sm r) ∧ registrarref18_Same r r = some true := by
  rcases sm_of_ok_or h with h | h'
  · obtain ⟨r, e, hd, hok⟩ := done_ok h a h1 h2
    by_cases he : e = 0
    · have hr := (hok he).1
      refine ⟨r, e, hd, by rw [← acts_same h a h1]; exact hd, fun _ => hr.sm, rsame_refl r (by have := hr.1.few; omega) (fun x hx => by have := hr.1.in8 x hx; omega)⟩
    · refine ⟨r, e, hd, by rw [← acts_same h a h1]; exact hd, fun h => absurd h he, ?_⟩
      have : r = [] := by
        unfold registrarlaw18_done at hd
        cases h0 : a.Do == 0 with
        | true =>
          rw [h0] at hd
          simp only [cond_true] at hd
          rcases create_ok h (n := a.Name) (by omega) with ⟨_, f⟩ | ⟨_, _, f⟩ | ⟨_, _, _, f⟩ | ⟨_, _, _, A, B, _, _, _, f⟩ <;> rw [f] at hd <;> injection hd with hd <;> injection hd with hd1 hd2
          · exact hd1.symm
          · exact hd1.symm
          · exact hd1.symm
          · exact absurd hd2.symm he
        | false =>
          rw [h0] at hd
          simp only [cond_false] at hd
          cases h0 : a.Do == 1 with
          | true =>
            rw [h0] at hd
            simp only [cond_true] at hd
            rcases drop_ok h a.Name with ⟨_, f⟩ | ⟨_, _, f⟩ | ⟨_, _, f⟩ <;> rw [f] at hd <;> injection hd with hd <;> injection hd with hd1 hd2
            · exact hd1.symm
            · exact hd1.symm
            · exact absurd hd2.symm he
          | false =>
            rw [h0] at hd
            simp only [cond_false] at hd
            cases h0 : a.Do == 2 with
            | true =>
              rw [h0] at hd
              simp only [cond_true] at hd
              rcases grant_ok h a.Name a.Role with ⟨_, f⟩ | ⟨k, x, _, _, _, ⟨_, f⟩ | ⟨_, _, f⟩ | ⟨_, _, A, B, _, _, _, f⟩⟩ <;> rw [f] at hd <;> injection hd with hd <;> injection hd with hd1 hd2
              · exact hd1.symm
              · exact hd1.symm
              · exact hd1.symm
              · exact absurd hd2.symm he
            | false =>
              rw [h0] at hd
              simp only [cond_false] at hd
              rcases revoke_ok h a.Name a.Role with ⟨_, f⟩ | ⟨k, x, _, _, _, f⟩ <;> rw [f] at hd <;> injection hd with hd <;> injection hd with hd1 hd2
              · exact hd1.symm
              · exact absurd hd2.symm he
      subst this
      exact rsame_refl [] (by simp) (by simp)
  · obtain ⟨e1, e2⟩ := bad_acts h h' a
    exact ⟨[], 2, e1, e2, fun h => (by cases h), rsame_refl [] (by simp) (by simp)⟩
theorem plays_ok {A B : Prop} (p0 : List Role) (p1 : List registrarlaw18_Act) (_ : A) (_ : B) : registrarlaw18_MemberPlays p0 p1 = some true := by
  refine Ret.eq ?_
  unfold registrarlaw18_MemberPlays
  refine RB.bind (few_spec p0) ?_
  intro b hb
  rw [works_eq]
  refine RB.cond (fun _ => RB.ret rfl) (fun e => ?_)
  have hb2 : b = true := by cases b <;> simp_all
  have hf := hb hb2
  have hs : Sm p0 := ⟨by omega, fun x hx => by have := hf.2.1 x hx; omega, fun x hx => by have := hf.2.2.1 x hx; omega⟩
  refine RB.bind (R := fun r => r = p0) (RB.mono (forE_ret (fun i r => r = p0.take i) (by simp) ?_) (fun r hr => by rw [hr, List.take_length])) ?_
  · rintro i r hi rfl
    have hx : p0[i]? = some p0[i] := List.getElem?_eq_getElem hi
    have := hf.2.1 _ (List.getElem_mem hi)
    simp only [idx_nat, hx, Option.bind_some]
    rw [app_le (by simp; omega)]
    simp only [Option.bind_some, List.nil_append]
    rw [app_le (by simp; omega)]
    refine RB.ret ?_
    rw [take_snoc hx]
  rintro was hwas
  subst hwas
  have hss := rsame_refl was (by omega) (fun x hx => by have := hf.2.1 x hx; omega)
  refine RB.bind (R := fun t => (t = .inl true) ∨ ∃ l, t = .inr l ∧ Sm l) (loopO_rb (fun (q : List Role × Int) => ∃ i : Nat, q.2 = (i : Int) ∧ i ≤ 40 ∧ Sm q.1) (fun q => 40 - q.2.toNat) ?_ ⟨0, rfl, by omega, hs⟩) ?_
  · rintro ⟨l, q⟩ ⟨i, hi, hi2, hl⟩
    simp only at hi hl
    subst hi
    refine RB.cond (fun hc => ?_) (fun hc => RB.ret (.inr ⟨l, rfl, hl⟩))
    have hc2 : i < p1.length ∧ i < 40 := by simp at hc; omega
    have hx : p1[i]? = some p1[i] := List.getElem?_eq_getElem hc2.1
    obtain ⟨b, hb, hb2⟩ := long_eq p1[i]
    simp only [idx_nat, hx, Option.bind_some, hb]
    refine RB.cond (fun _ => RB.ret (.inl rfl)) (fun e => ?_)
    obtain ⟨g1, g2⟩ := hb2 e
    obtain ⟨r, e, hd, hsd, hd2, hsame⟩ := act_eq hl p1[i] g1 g2
    obtain ⟨c, hc1, hc2', _⟩ := check_same hl
    rw [hd]
    simp only [Option.bind_some]
    rw [hsd]
    simp only [Option.bind_some, hsame, Bool.not_true, bne_self_eq_false, Bool.or_self, cond_false, hc1, hc2']
    refine RB.bind (R := fun l' => Sm l') (RB.cond (fun he => RB.ret (hd2 (eq_of_beq he))) (fun _ => RB.ret hl)) ?_
    intro l' h1
    exact RB.ret ⟨⟨i + 1, by simp only; rw [w64_id (by omega) (by omega)]; rfl, by omega, h1⟩, by simp only; rw [w64_id (by omega) (by omega)]; omega⟩
  · rintro t (rfl | ⟨l, rfl, hl⟩)
    · exact RB.ret rfl
    · obtain ⟨c, hc1, hc2, _⟩ := check_same hl
      simp only [hc1, hc2, Option.bind_some, beq_self_eq_true, cond_true]
      rw [hss]
      exact RB.ret rfl
end Go.Proofs.YthndadengamanaaGreat
