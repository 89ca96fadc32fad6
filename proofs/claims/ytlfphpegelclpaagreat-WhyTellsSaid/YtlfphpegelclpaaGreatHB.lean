/- Plain laws: what the plain functions answer. Conditions: none. -/
import Derived.Test.YtlfphpegelclpaaGreatHA
set_option maxRecDepth 100000
namespace Go.Proofs.YtlfphpegelclpaaGreat
open Go.Gv
theorem wIs {a b : By8} {v : Bool} (h : r18_Is_c 60 wR a b = some v) : isB wR a b = v := by
  unfold isB
  rw [r18_Is_le 60 _ _ _ _ h]
  rfl
theorem wOw {a : By8} {v : Bool} (h : r19_Owns_c 60 wC a nT = some v) : owB wC a nT = v := by
  unfold owB
  rw [r19_Owns_le 60 _ _ _ _ h]
  rfl
theorem w1 : isB wR nCy nBob = false := wIs kr
theorem w2 : isB wR nCy nCy = true := wIs kr
theorem w3 : isB wR nBob nBob = true := wIs kr
theorem w4 : isB wR nBob nCy = false := wIs kr
theorem w5 : owB wC nCy nT = false := wOw kr
theorem w6 : owB wC nBob nT = false := wOw kr
theorem w7 : owB wC nAnn nT = true := wOw kr
theorem wF1 (o : Bool) : fitB wC 1 nT wG1 o = true := by cases o <;> kernel_rfl
theorem wF2 (o : Bool) : fitB wC 1 nT wG2 o = true := by cases o <;> kernel_rfl
theorem wMem {g : qG} (h : g ∈ wC.Grants) : g = wG1 ∨ g = wG2 := by
  simpa [wC] using h
theorem wMin : MinR wC 1 nT 2 nCy false := by
  refine ⟨⟨wG2, by simp [wC], wF2 _, w2, wG1, by simp [wC], wF1 _, w3, w7⟩, fun j hj h => ?_⟩
  rcases (by omega : j = 0 ∨ j = 1) with rfl | rfl
  · have : owB wC nCy nT = true := h
    rw [w5] at this
    cases this
  · obtain ⟨g, hg, _, h2, h3⟩ := h
    rcases wMem hg with rfl | rfl
    · have : isB wR nCy nBob = true := h2
      rw [w1] at this
      cases this
    · have : owB wC nBob nT = true := h3
      rw [w6] at this
      cases this
theorem wWhyL : whyL wC 1 nT 2 nCy false = [wG2, wG1] := by
  obtain ⟨g, e, hg, hq⟩ := wMin.choose
  have hm := wMin.next hg hq
  have hg2 : g = wG2 := by
    rcases wMem hg with rfl | rfl
    · have : isB wR nCy nBob = true := (chQ_iff.1 hq).2.1
      rw [w1] at this
      cases this
    · rfl
  subst hg2
  obtain ⟨g', e', hg', hq'⟩ := hm.choose
  have hg1 : g' = wG1 := by
    rcases wMem hg' with rfl | rfl
    · rfl
    · have : isB wR nBob nCy = true := (chQ_iff.1 hq').2.1
      rw [w4] at this
      cases this
  subst hg1
  rw [whyL, e]
  show wG2 :: whyL wC 1 nT 1 wG2.By true = _
  rw [whyL, e']
  rfl
theorem wPath : ∃ l, why_Path [⟨⟨#[97]⟩, [⟨#[98]⟩]⟩, ⟨⟨#[98]⟩, []⟩] ⟨#[97]⟩ ⟨#[98]⟩ = some l ∧ l.length = 2 := by
  have hs : Sm [(⟨⟨#[97]⟩, [⟨#[98]⟩]⟩ : Role), ⟨⟨#[98]⟩, []⟩] := by
    refine ⟨by simp, ?_, ?_⟩ <;> intro x hx <;> simp only [List.mem_cons, List.not_mem_nil, or_false] at hx <;> rcases hx with rfl | rfl <;> simp only [List.length_cons, List.length_nil] <;> first | omega | decide
  obtain ⟨D, hD, h⟩ := (far_rb hs ⟨#[98]⟩).ex
  refine ⟨_, path_val hs hD h _, ?_⟩
  have hof : has [(⟨⟨#[97]⟩, [⟨#[98]⟩]⟩ : Role), ⟨⟨#[98]⟩, []⟩] ⟨#[98]⟩ := ⟨⟨⟨#[98]⟩, []⟩, by simp, rfl⟩
  have hin : ins [(⟨⟨#[97]⟩, [⟨#[98]⟩]⟩ : Role), ⟨⟨#[98]⟩, []⟩] ⟨#[97]⟩ = [⟨#[98]⟩] := by kernel_rfl
  have hw : Wk [(⟨⟨#[97]⟩, [⟨#[98]⟩]⟩ : Role), ⟨⟨#[98]⟩, []⟩] 1 ⟨#[97]⟩ ⟨#[98]⟩ := ⟨⟨#[98]⟩, by rw [hin]; simp, rfl⟩
  obtain ⟨d, hd, hle⟩ := h.all 1 _ hof hw
  obtain ⟨h0, _, _, hw2, _⟩ := h.val hd
  have : d = 1 := by
    by_cases e : d = 0
    · subst e
      have : (⟨#[97]⟩ : By8) = ⟨#[98]⟩ := hw2
      revert this
      decide
    · omega
  subst this
  rw [hd]
  simp only [wayL_len]
  rfl
theorem works32 : law32_works = some true := by
  obtain ⟨l, hl, hlen⟩ := wPath
  have hwhy : why_Why wC nCy 1 nT = some ([wG2, wG1], true) := by rw [← wWhyL]; exact why_some wCI.1 om wSm 1 nT wMin
  have hchk : why_Check wC nCy 1 nT [wG2, wG1] = some true := by
    rw [check_val wCI.1 om wSm]
    simp only [chkB]
    rw [wF2, wF1, show wG2.By = nBob from rfl, show wG1.By = nAnn from rfl, w7, show wG2.To = nCy from rfl, show wG1.To = nBob from rfl, show wC.Roles = wR from rfl, w2, w3]
    rfl
  unfold law32_works
  have e1 : law32_works_1 (⟨#[97, 110, 110]⟩ : By8) (⟨#[98, 111, 98]⟩ : By8) = some (wA nAnn nBob) := rfl
  have e2 : law32_works_1 (⟨#[98, 111, 98]⟩ : By8) (⟨#[99, 121]⟩ : By8) = some (wA nBob nCy) := rfl
  rw [e1, obs, e2, obs, wGrown, obs, show why_Why wC (⟨#[99, 121]⟩ : By8) 1 (⟨#[116]⟩ : By8) = some ([wG2, wG1], true) from hwhy, obs]
  show (why_Path [⟨⟨#[97]⟩, [⟨#[98]⟩]⟩, ⟨⟨#[98]⟩, []⟩] ⟨#[97]⟩ ⟨#[98]⟩).bind _ = _
  rw [hl, obs, hlen]
  have e3 : idx [wG2, wG1] 0 = some wG2 := rfl
  have e4 : idx [wG2, wG1] 1 = some wG1 := rfl
  have s1 : sEq wG2.By (⟨#[98, 111, 98]⟩ : By8) = true := (keq _ _).2 rfl
  have s2 : sEq wG1.By (⟨#[97, 110, 110]⟩ : By8) = true := (keq _ _).2 rfl
  have hchk' : why_Check wC (⟨#[99, 121]⟩ : By8) 1 (⟨#[116]⟩ : By8) [wG2, wG1] = some true := hchk
  rw [e3, e4]
  simp only [obs, s1, s2, hchk', List.length_cons, List.length_nil]
  rfl
theorem few32_tt {b : Prop} (l : List By8) : RB b (law32_few l) TT := by
  unfold law32_few
  refine yg (R := TT) (forN_tt fun j _ hj => yg (R := TT) (yj rt fun _ => yah hj fun _ _ _ => yd trivial) fun _ _ => yj rt fun _ => yd trivial) ?_
  rintro (_ | _) _ <;> exact yd trivial
theorem sEq_self (a : By8) : sEq a a = true := sEq_iff.2 rfl
theorem gsame_self (l : List qG) : r19_Same l l = some true := by
  unfold r19_Same
  have h0 : ((l.length : Int) != (l.length : Int)) = false := by simp
  rw [h0]
  simp only [cond_false]
  rw [forN_list (v := false) (fun _ => true) (fun j x hx => by
    simp only [idx_nat, hx, obs, sEq_self, beq_self_eq_true, Bool.and_self, Bool.not_true, cond_false]
    rfl)]
  have : (l.all fun _ => true) = true := by simp
  rw [this]
  rfl
theorem why_both {n : Nat} {c : qC} (hcb : CB n c) (hn : n ≤ 1000) (hr : Sm c.Roles) (r : By8) (p : Int) (t : By8) : ∃ l b, why_Why c r p t = some (l, b) ∧ r32_Why c r p t = some (l, b) ∧ ((b = false ∧ ∀ k, ¬ Rs c p t k r false) ∨ ∃ k, b = true ∧ MinR c p t k r false ∧ l = whyL c p t k r false) := by
  have hg : c.Grants.length ≤ 1000 := by have := hcb.grants; omega
  by_cases h : ∃ k, Rs c p t k r false
  · obtain ⟨k, hk⟩ := least_rs h
    obtain ⟨D, _, hD⟩ := (dists_rb hcb hn hr p t).ex
    exact ⟨_, _, why_some hcb hn hr p t hk, rwhy_some hg hr p t hk (hD.min_le hk), .inr ⟨k, rfl, hk, rfl⟩⟩
  · have h : ∀ k, ¬ Rs c p t k r false := fun k hk => h ⟨k, hk⟩
    exact ⟨_, _, why_none hcb hn hr p t h, rwhy_none hg hr p t h, .inl ⟨rfl, h⟩⟩
theorem tells_ok {A B C : Prop} (p0 : List law19_Act) (p1 : List qG) (p2 : law32_Asked) (_ : A) (_ : B) (_ : C) : law32_WhyTells p0 p1 p2 = some true := by
  unfold law32_WhyTells
  refine Ret.eq (yg (afew_rb p0) fun q0 h0 => yg (R := fun (q : Bool) => q = false → q0 = true ∧ p1.length ≤ 45) (yj (fun _ => yd fun h => by cases h) fun hc => yg (gfew_rb p1) fun r hr => yd fun hq => ⟨by simpa using hc, hr (by simpa using hq)⟩) fun q1 h1 => yg (R := fun (q : Bool) => q = false → q1 = false) (yj (fun _ => yd fun h => by cases h) fun hc => yg (few32_tt _) fun r _ => yd fun _ => hc) fun q2 h2 => yj (fun _ => ?_) fun hc => ?_)
  · rw [works32]
    exact ya1 (yd rfl)
  obtain ⟨g0, l1⟩ := h1 (h2 hc)
  refine yg (grown_rb (h0 g0)) fun c hc => ?_
  have hg := hc.1.grants
  have hs := hc.2.sm (show 60 ≤ 100 by omega)
  rw [← rcheck_same hc.1 om hs, check_val hc.1 om hs]
  simp only [obs, beq_self_eq_true, Bool.not_true, cond_false]
  refine yau (by simp; omega) (yau (by simp; omega) ?_)
  have hd : CB 200 { c with Grants := ([] ++ c.Grants) ++ p1 } := ⟨by have := hc.1.tabs; simp only; omega, (hc.1.up (show 60 ≤ 200 by omega)).ok, by simp; omega⟩
  obtain ⟨x, b, e1, e2, _⟩ := why_both hd om hs p2.Role p2.Priv p2.Table
  rw [e1, e2]
  simp only [obs]
  rw [gsame_self]
  simp only [obs, beq_self_eq_true, Bool.and_self, cond_true]
  rw [works32]
  exact yd rfl
end Go.Proofs.YtlfphpegelclpaaGreat
