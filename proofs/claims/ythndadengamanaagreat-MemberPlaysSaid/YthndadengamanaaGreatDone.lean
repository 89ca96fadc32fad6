/- An act on right roles. Conditions: none. -/
import Derived.Test.YthndadengamanaaGreatRActs
namespace Go.Proofs.YthndadengamanaaGreat
open Go.Gv
theorem done_ok {l : List Role} (h : Ok l) (a : registrarlaw18_Act) (h1 : a.Name.size ≤ 100) (h2 : a.Role.size ≤ 100) : ∃ r e, registrarlaw18_done l a = some (r, e) ∧ (e = 0 → Ok r ∧ (has l rootB → has r rootB)) := by
  unfold registrarlaw18_done
  cases h0 : a.Do == 0 with
  | true =>
    simp only [cond_true]
    rcases create_ok h (n := a.Name) (by omega) with ⟨_, e⟩ | ⟨_, _, e⟩ | ⟨_, _, _, e⟩ | ⟨g1, g2, g3, A, B, rfl, g4, g5, e⟩ <;> rw [e]
    · exact ⟨_, _, rfl, fun h => by cases h⟩
    · exact ⟨_, _, rfl, fun h => by cases h⟩
    · exact ⟨_, _, rfl, fun h => by cases h⟩
    · exact ⟨_, _, rfl, fun _ => ⟨create_keep h g3 (by omega) g1 g4 g5, fun ⟨x, hx, e⟩ => ⟨x, by rcases List.mem_append.1 hx with hx | hx <;> simp [hx], e⟩⟩⟩
  | false =>
    simp only [cond_false]
    cases h0 : a.Do == 1 with
    | true =>
      simp only [cond_true]
      rcases drop_ok h a.Name with ⟨_, e⟩ | ⟨_, _, e⟩ | ⟨_, hnr, e⟩ <;> rw [e]
      · exact ⟨_, _, rfl, fun h => by cases h⟩
      · exact ⟨_, _, rfl, fun h => by cases h⟩
      · exact ⟨_, _, rfl, fun _ => ⟨(drop_keep h a.Name).1, fun ⟨x, hx, e⟩ => ⟨lessIn a.Name x, List.mem_map.2 ⟨x, List.mem_filter.2 ⟨hx, by rw [e, keq.ne (Ne.symm hnr)]; rfl⟩, rfl⟩, e⟩⟩⟩
    | false =>
      simp only [cond_false]
      cases h0 : a.Do == 2 with
      | true =>
        simp only [cond_true]
        rcases grant_ok h a.Name a.Role with ⟨_, e⟩ | ⟨k, x, g1, g2, g3, ⟨_, e⟩ | ⟨_, _, e⟩ | ⟨_, g4, A, B, g5, g6, g7, e⟩⟩ <;> rw [e]
        · exact ⟨_, _, rfl, fun h => by cases h⟩
        · exact ⟨_, _, rfl, fun h => by cases h⟩
        · exact ⟨_, _, rfl, fun h => by cases h⟩
        · exact ⟨_, _, rfl, fun _ => ⟨grant_keep h g1 g3 (by rw [g2]; exact g4) g5 g6 g7, fun hr => (set_has (x' := { x with In := A ++ a.Name :: B }) g1 rfl rootB).2 hr⟩⟩
      | false =>
        simp only [cond_false]
        rcases revoke_ok h a.Name a.Role with ⟨_, e⟩ | ⟨k, x, g1, _, _, e⟩ <;> rw [e]
        · exact ⟨_, _, rfl, fun h => by cases h⟩
        · exact ⟨_, _, rfl, fun _ => ⟨revoke_keep h g1 a.Name, fun hr => (set_has (x' := lessIn a.Name x) g1 rfl rootB).2 hr⟩⟩
theorem long_eq (a : registrarlaw18_Act) : ∃ b, registrarlaw18_long a = some b ∧ (b = false → a.Name.size ≤ 100 ∧ a.Role.size ≤ 100) := by
  refine ⟨_, rfl, fun h => ?_⟩
  simp at h
  omega
theorem root_ok : Ok [{ z_api_Role with Name := (⟨#[114, 111, 111, 116]⟩ : ByteArray) }] := by
  have hn : lex_IsName rootB = some true := by
    have h : (loopO (fun (s4 : Int) => ((bif ((decide ((w64 (0 + s4)) < (rootB.size : Int))) && (decide (s4 < 12))) then (sAt rootB (w64 (0 + s4))).bind (fun (y15 : Int) => ((fun (u0 : Int) => lex_one_1 u0) y15).bind (fun (r21 : Bool) => some r21)) else some false)).bind (fun (j11 : Bool) => (bif j11 then some (.inl (w64 (s4 + 1))) else some (.inr s4) : Option (Int ⊕ Int)))) 0) = some 4 := by
      rw [loopO_next (s' := 1) (by kernel_rfl), loopO_next (s' := 2) (by kernel_rfl), loopO_next (s' := 3) (by kernel_rfl), loopO_next (s' := 4) (by kernel_rfl), loopO_stop (t := 4) (by kernel_rfl)]
    have h2 : lex_while rootB 0 12 (fun (u0 : Int) => lex_one_1 u0) = some 4 := by
      unfold lex_while
      rw [h]
      rfl
    have h3 : lex_one rootB = some (1, 4) := by
      unfold lex_one
      rw [h2]
      kernel_rfl
    unfold lex_IsName lex_Right
    simp only
    rw [h3]
    clear h h2 h3
    have e1 : sEq rootB (⟨#[]⟩ : ByteArray) = false := by kernel_rfl
    rw [e1]
    rfl
  have hm : ∀ x ∈ [({ z_api_Role with Name := (⟨#[114, 111, 111, 116]⟩ : ByteArray) } : Role)], x.Name = rootB ∧ x.In = [] := fun x hx => by
    rw [List.mem_singleton] at hx
    subst hx
    exact ⟨rfl, rfl⟩
  refine ⟨⟨by simp, List.pairwise_singleton .., fun x hx => ?_, fun x hx => ?_, fun x hx s hs => ?_, fun x hx s hs => ?_⟩, fun x hx => ?_⟩ <;> obtain ⟨e1, e2⟩ := hm x hx
  · rw [e1]; exact hn
  · rw [e2]; exact List.Pairwise.nil
  · rw [e2] at hs; cases hs
  · rw [e2] at hs; cases hs
  · rw [e1]; decide
end Go.Proofs.YthndadengamanaaGreat
