/- Plain laws: what the plain functions answer. Conditions: none. -/
import Derived.Test.YtpgmbifboopfmaaGreatHA
set_option maxRecDepth 100000
namespace Go.Proofs.YtpgmbifboopfmaaGreat
open Go.Gv
theorem grown0 : Ret (law19_Grown []) (fun c => CT 16 c ∧ VB c) := rb_and grown_nil (grown_v [])
theorem plays_ok {P : Prop} (p0 : List law22_Act) (_ : P) : law22_ChainPlays p0 = some true := by
  unfold law22_ChainPlays
  refine Ret.eq (yd (few22_rb p0) fun q0 h0 => yi (fun _ => ?_) fun hc => ?_)
  · rw [works22]
    exact yaj (yc rfl)
  obtain ⟨f1, f2⟩ := h0 (by simpa using hc)
  refine yd grown0 ?_
  rintro c ⟨g1, g2⟩
  rw [show chain_New c = some ⟨[(c.Version, ⟨c, 0⟩)], c.Version, [], []⟩ from rfl, rnew_val]
  refine yaj (yaj (yd (R := fun (t : (chain_Chain × r22_Chain) ⊕ ((Bool × chain_Chain × r22_Chain))) => ∃ s, t = .inl s) ((forN_ret (fun k (s : chain_Chain × r22_Chain) => ∃ A N D, Inv A N D s.1 ∧ s.2 = ⟨A, N, D⟩ ∧ A.length ≤ k + 1 ∧ ∀ x, A[A.length - 1]? = some x → CT (16 + k) x) (Q := fun _ => False) ⟨_, _, _, inv_new (g1.1.up om) g2, rfl, by simp, fun x hx => by simp at hx; rw [← hx]; exact g1⟩ ?_).mono ?_) ?_))
  · rintro k ⟨h, r⟩ hk ⟨A, N, D, hi, e, hA, hc⟩
    have e : r = ⟨A, N, D⟩ := e
    subst e
    refine yah hk fun a ha ham => yd (done_rb hi hA om hc (f2 a ham)) ?_
    rintro ⟨b, h', r'⟩ ⟨rfl, A', N', D', hi', e, hA', hc', _, _⟩
    have e : r' = ⟨A', N', D'⟩ := e
    subst e
    obtain ⟨x, x1, x2⟩ := inv_now hi'
    simp only [Bool.not_true, cond_false]
    rw [inv_live hi', rlive_val hi'.n9 hi'.n0 hi'.pos hi'.len, x2, rnow_val hi'.pos (by have := hi'.len; omega) x1]
    simp only [obs, nums_self, csame, Bool.not_true, cond_false]
    refine yd (R := fun (t : Unit ⊕ Bool) => t = .inl ()) ((forN_ret (fun _ _ => True) (Q := fun _ => False) trivial ?_).mono ?_) ?_
    · rintro j _ hj _
      rcases inv_at hi' (j : Int) with ⟨hp, e⟩ | ⟨i, y, hp, hy, e⟩
      · rcases rat22_val hi' (j : Int) with ⟨_, e'⟩ | ⟨i', y', hp', _⟩
        · rw [e, e']
          refine yaj (yaj ?_)
          dsimp only
          rw [csame]
          exact yc trivial
        · rw [hp] at hp'; cases hp'
      · rcases rat22_val hi' (j : Int) with ⟨hp', _⟩ | ⟨i', y', hp', hy', e'⟩
        · rw [hp] at hp'; cases hp'
        · have : i = i' := by rw [hp] at hp'; exact Option.some.inj hp'
          subst this
          have : y = y' := by rw [hy] at hy'; exact Option.some.inj hy'
          subst this
          rw [e, e']
          refine yaj (yaj ?_)
          dsimp only
          rw [csame]
          exact yc trivial
    · rintro (⟨⟩ | q) g
      · rfl
      · exact g.elim
    · rintro _ rfl
      exact yc ⟨A', N', D', hi', rfl, hA', hc'⟩
  · rintro (s | t) g
    · exact ⟨s, rfl⟩
    · exact g.elim
  · rintro _ ⟨⟨h, r⟩, rfl⟩
    rw [works22]
    exact yaj (yc rfl)
end Go.Proofs.YtpgmbifboopfmaaGreat
