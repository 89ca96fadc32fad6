/- Membership goes on, and not round. Conditions: none. -/
import Derived.Test.YthndadengamanaaGreatRight
namespace Go.Proofs.YthndadengamanaaGreat
open Go.Gv
theorem Rch.sub {l : List Role} {n : ByteArray} {S : List ByteArray} (hS : ∀ a ∈ S, ∀ b ∈ ins l a, b ∈ S) (hn : n ∈ S) {k : ByteArray} (h : Rch l n k) : k ∈ S := by
  induction h with
  | self => exact hn
  | step _ hb _ ih => exact hS _ ih _ hb
theorem glued_eq (c : Int) : ∃ b, lex_glued c = some b := by
  unfold lex_glued lex_small lex_capital lex_digit
  simp only [Option.bind_some]
  cases (decide (c ≥ 97) && decide (c ≤ 122)) <;> simp only [cond_true, cond_false, Option.bind_some]
  · cases (decide (c ≥ 65) && decide (c ≤ 90)) <;> exact ⟨_, rfl⟩
  · exact ⟨_, rfl⟩
def wA : ByteArray := ⟨#[97]⟩
def wB : ByteArray := ⟨#[98]⟩
def wC : ByteArray := ⟨#[99]⟩
def wL : List Role := [⟨wA, [wB]⟩, ⟨wB, [wC]⟩, { z_api_Role with Name := wC }]
theorem one_name (s : ByteArray) (hs : s = wA ∨ s = wB ∨ s = wC) : lex_IsName s = some true := by
  have h : (loopO (fun (s4 : Int) => ((bif ((decide ((w64 (0 + s4)) < (s.size : Int))) && (decide (s4 < 12))) then (sAt s (w64 (0 + s4))).bind (fun (y15 : Int) => ((fun (u0 : Int) => lex_one_1 u0) y15).bind (fun (r21 : Bool) => some r21)) else some false)).bind (fun (j11 : Bool) => (bif j11 then some (.inl (w64 (s4 + 1))) else some (.inr s4) : Option (Int ⊕ Int)))) 0) = some 1 := by
    rcases hs with rfl | rfl | rfl
    · rw [loopO_next (s' := 1) (by kernel_rfl), loopO_stop (t := 1) (by kernel_rfl)]
    · rw [loopO_next (s' := 1) (by kernel_rfl), loopO_stop (t := 1) (by kernel_rfl)]
    · rw [loopO_next (s' := 1) (by kernel_rfl), loopO_stop (t := 1) (by kernel_rfl)]
  have h2 : lex_while s 0 12 (fun (u0 : Int) => lex_one_1 u0) = some 1 := by
    unfold lex_while
    rw [h]
    rfl
  have h3 : lex_one s = some (1, 1) := by
    unfold lex_one
    rw [h2]
    rcases hs with rfl | rfl | rfl <;> kernel_rfl
  unfold lex_IsName lex_Right
  simp only
  rw [h3]
  clear h h2 h3
  have e1 : sEq s (⟨#[]⟩ : ByteArray) = false := by rcases hs with rfl | rfl | rfl <;> kernel_rfl
  have e2 : s.size = 1 := by rcases hs with rfl | rfl | rfl <;> rfl
  rw [e1, e2]
  rfl
theorem wL_in1 : ins wL wA = [wB] := by kernel_rfl
theorem wL_in2 : ins wL wB = [wC] := by kernel_rfl
theorem wL_in3 : ins wL wC = [] := by kernel_rfl
theorem wL_ins : ins wL wA = [wB] ∧ ins wL wB = [wC] ∧ ins wL wC = [] := ⟨wL_in1, wL_in2, wL_in3⟩
theorem wL_cl {S : List ByteArray} (h : S = [wA, wB, wC] ∨ S = [wB, wC] ∨ S = [wC]) : ∀ a ∈ S, ∀ b ∈ ins wL a, b ∈ S := by
  obtain ⟨h1, h2, h3⟩ := wL_ins
  rcases h with rfl | rfl | rfl <;> intro a ha b hb <;> simp only [List.mem_cons, List.not_mem_nil, or_false] at ha ⊢
  · rcases ha with rfl | rfl | rfl
    · rw [h1] at hb; simp at hb; simp [hb]
    · rw [h2] at hb; simp at hb; simp [hb]
    · rw [h3] at hb; simp at hb
  · rcases ha with rfl | rfl
    · rw [h2] at hb; simp at hb; simp [hb]
    · rw [h3] at hb; simp at hb
  · subst ha
    rw [h3] at hb; simp at hb
theorem wAB : wA ≠ wB := by unfold wA wB; decide
theorem wAC : wA ≠ wC := by unfold wA wC; decide
theorem wBC : wB ≠ wC := by unfold wB wC; decide
theorem wL_has : has wL wA ∧ has wL wB ∧ has wL wC := ⟨⟨_, .head _, rfl⟩, ⟨_, .tail _ (.head _), rfl⟩, ⟨_, .tail _ (.tail _ (.head _)), rfl⟩⟩
theorem wL_sm : Sm wL := by
  refine ⟨by decide, fun x hx => ?_, fun x hx => ?_⟩ <;> simp only [wL, List.mem_cons, List.not_mem_nil, or_false] at hx <;> rcases hx with rfl | rfl | rfl <;> decide
theorem wAC_r : Rch wL wA wC := by
  obtain ⟨h1, h2, h3⟩ := wL_ins
  obtain ⟨g1, g2, g3⟩ := wL_has
  exact .step (.step .self (by rw [h1]; simp) g2) (by rw [h2]; simp) g3
theorem wAB_r : Rch wL wA wB := by
  obtain ⟨h1, h2, h3⟩ := wL_ins
  obtain ⟨g1, g2, g3⟩ := wL_has
  exact .step .self (by rw [h1]; simp) g2
theorem wL_asc : Asc [wA, wB, wC] := by
  have h1 : sLt wA wB = true := by kernel_rfl
  have h2 : sLt wB wC = true := by kernel_rfl
  have h3 := sLt_trans h1 h2
  simp [Asc, h1, h2, h3]
theorem wL_right : Right wL := by
  obtain ⟨h1, h2, h3⟩ := wL_ins
  obtain ⟨g1, g2, g3⟩ := wL_has
  refine ⟨by decide, wL_asc, fun x hx => ?_, fun x hx => ?_, fun x hx s hs => ?_, fun x hx s hs hr => ?_⟩ <;> simp only [wL, List.mem_cons, List.not_mem_nil, or_false] at hx
  · rcases hx with rfl | rfl | rfl
    · exact one_name _ (.inl rfl)
    · exact one_name _ (.inr (.inl rfl))
    · exact one_name _ (.inr (.inr rfl))
  · rcases hx with rfl | rfl | rfl
    · exact List.pairwise_singleton ..
    · exact List.pairwise_singleton ..
    · exact List.Pairwise.nil
  · rcases hx with rfl | rfl | rfl <;> simp [z_api_Role] at hs
    · rw [hs]; exact g2
    · rw [hs]; exact g3
  · rcases hx with rfl | rfl | rfl <;> simp [z_api_Role] at hs
    · subst hs
      have := hr.sub (wL_cl (.inr (.inl rfl))) (by simp)
      simp [wAB, wAC] at this
    · subst hs
      have := hr.sub (wL_cl (.inr (.inr rfl))) (by simp)
      simp [wBC] at this
theorem wL_check : member_Check wL = some 0 := by
  obtain ⟨e, he, _, h2⟩ := check_of wL_sm (fun x hx => ⟨true, wL_right.nm x hx⟩)
  rw [he, h2.2 wL_right]
theorem wL_all : member_All wL wA = some [wA, wB, wC] := by
  obtain ⟨r, hr, hg⟩ := all_eq (n := wA) wL_sm.1 wL_sm.2.1 wL_sm.2.2
  rw [hr]
  congr 1
  refine hg.uniq ⟨fun _ => ⟨wL_asc, fun k => ⟨fun hk => ?_, fun hk => hk.sub (wL_cl (.inl rfl)) (by simp)⟩⟩, fun h => absurd wL_has.1 h⟩
  simp only [List.mem_cons, List.not_mem_nil, or_false] at hk
  rcases hk with rfl | rfl | rfl
  · exact .self
  · exact wAB_r
  · exact wAC_r
theorem wL_ac : member_Is wL wA wC = some true := by
  obtain ⟨b, hb, hb'⟩ := is_eq wL_sm wA wC
  rw [hb, hb'.2 ⟨wL_has.1, wAC_r⟩]
theorem wL_ca : member_Is wL wC wA = some false := by
  obtain ⟨b, hb, hb'⟩ := is_eq wL_sm wC wA
  rw [hb]
  cases b with
  | false => rfl
  | true =>
    have := (hb'.1 rfl).2.sub (wL_cl (.inr (.inr rfl))) (by simp)
    simp [wAC] at this
theorem wL_at : member_at wL wC = some 2 ∧ member_at wL wA = some 0 := ⟨by kernel_rfl, by kernel_rfl⟩
theorem wL_grant : member_Grant wL wA wC = some ([], 35) := by
  unfold member_Grant
  rw [wL_check]
  simp only [Option.bind_some]
  rw [wL_at.1, wL_at.2]
  have h : slices_Contains_string (z_api_Role.In) wA = some false := by kernel_rfl
  have hi : idx wL 2 = some { z_api_Role with Name := wC } := rfl
  simp only [Option.bind_some, hi, h, wL_ac]
  rfl
theorem works_eq : registrarlaw18_works = some true := by
  have h : registrarlaw18_works = (member_Grant wL wA wC).bind (fun ((r42, r43) : (List api_Role) × Int) => (member_Check wL).bind (fun (r49 : Int) => ((bif ((r49 == 0) && (r43 == 35)) then (member_All wL wA).bind (fun (r61 : List ByteArray) => some ((r61.length : Int) == 3)) else some false)).bind (fun (j52 : Bool) => ((bif j52 then (member_Is wL wA wC).bind (fun (r73 : Bool) => some r73) else some false)).bind (fun (j64 : Bool) => ((bif j64 then (member_Is wL wC wA).bind (fun (r85 : Bool) => some (!r85)) else some false)).bind (fun (j76 : Bool) => some j76))))) := rfl
  rw [h, wL_grant, wL_check, wL_all, wL_ac, wL_ca]
  rfl
end Go.Proofs.YthndadengamanaaGreat
