/- What a role is all of: one answer. Conditions: none. -/
import Derived.Test.YthndadengamanaaGreatReached
namespace Go.Proofs.YthndadengamanaaGreat
open Go.Gv
theorem strict_eq {α : Type} {lt : α → α → Prop} (hi : ∀ x, ¬ lt x x) (ha : ∀ x y, lt x y → ¬ lt y x) : ∀ (a b : List α), a.Pairwise lt → b.Pairwise lt → (∀ n, n ∈ a ↔ n ∈ b) → a = b
  | [], [], _, _, _ => rfl
  | [], y :: b, _, _, h => by have := (h y).2 (by simp); cases this
  | x :: a, [], _, _, h => by have := (h x).1 (by simp); cases this
  | x :: a, y :: b, h1, h2, h => by
    have h1' := List.pairwise_cons.1 h1
    have h2' := List.pairwise_cons.1 h2
    have e : x = y := by
      rcases List.mem_cons.1 ((h x).1 (by simp)) with e | g1
      · exact e
      · rcases List.mem_cons.1 ((h y).2 (by simp)) with e | g2
        · exact e.symm
        · exact absurd (h1'.1 y g2) (ha _ _ (h2'.1 x g1))
    subst e
    rw [strict_eq hi ha a b h1'.2 h2'.2 (fun n => ?_)]
    constructor
    · intro hn
      rcases List.mem_cons.1 ((h n).1 (by simp [hn])) with rfl | g1
      · exact absurd (h1'.1 n hn) (hi n)
      · exact g1
    · intro hn
      rcases List.mem_cons.1 ((h n).2 (by simp [hn])) with rfl | g1
      · exact absurd (h2'.1 n hn) (hi n)
      · exact g1
theorem key_eq {α : Type} (K : α → ByteArray) (a b : List α) (h1 : a.Pairwise (fun u v => sLt (K u) (K v) = true)) (h2 : b.Pairwise (fun u v => sLt (K u) (K v) = true)) (h : ∀ n, n ∈ a ↔ n ∈ b) : a = b :=
  strict_eq (lt := fun u v => sLt (K u) (K v) = true) (fun x h => by rw [sLt_irrefl] at h; cases h) (fun x y h g => by rw [sLt_asymm h] at g; cases g) a b h1 h2 h
theorem Good.uniq {l : List Role} {n : ByteArray} {a b : List ByteArray} (h1 : Good l n a) (h2 : Good l n b) : a = b := by
  by_cases hn : has l n
  · exact key_eq (fun k => k) a b (h1.1 hn).1 (h2.1 hn).1 fun k => ((h1.1 hn).2 k).trans ((h2.1 hn).2 k).symm
  · rw [h1.2 hn, h2.2 hn]
theorem Mono_.loop {σ τ : Type} {step : σ → M (σ ⊕ τ)} (h : ∀ s, Mono_ (step s)) (s : σ) : Mono_ (loopM step s) := by
  rintro Q Q' hq ⟨k, hk⟩
  refine ⟨k, ?_⟩
  induction k generalizing s with
  | zero => exact hk
  | succ k ih =>
    refine h s _ _ ?_ hk
    rintro (s' | t) hx
    · exact ih s' hx
    · exact hq t hx
theorem all_mono (l : List Role) (n : ByteArray) : Mono_ (member_AllM l n) := by
  unfold member_AllM
  refine Mono_.bind (Mono_.opt _) fun i => Mono_.cond (Mono_.ret _) (Mono_.bind (Mono_.loop (fun s => ?_) _) fun t => Mono_.bind (Mono_.opt _) fun _ => Mono_.ret _)
  obtain ⟨g, all⟩ := s
  exact Mono_.cond (Mono_.bind (Mono_.range _ _ _) (fun t => by cases t with | inl s => exact @Mono_.bind _ _ (optM _) (fun _ => retM _) (Mono_.opt _) (fun _ => Mono_.ret _) | inr u => exact Mono_.no)) (Mono_.ret _)
theorem all_meets (l : List Role) (n : ByteArray) : Meets (member_AllM l n) := by
  unfold member_AllM
  refine Meets.bind (Meets.opt _) fun i => Meets.cond (Meets.ret _) (Meets.bind (Meets.loop (fun s => ?_) _) fun t => Meets.bind (Meets.opt _) fun _ => Meets.ret _)
  obtain ⟨g, all⟩ := s
  exact Meets.cond (Meets.bind (Meets.range _ _ _) (fun t => by cases t with | inl s => exact @Meets.bind _ _ (optM _) (fun _ => retM _) (Meets.opt _) (fun _ => Meets.ret _) | inr u => exact Meets.no)) (Meets.ret _)
theorem all_eq {l : List Role} {n : ByteArray} (hl : l.length ≤ 100) (hi : ∀ x ∈ l, x.In.length ≤ 100) (hz : ∀ x ∈ l, x.Name.size ≤ 1000) : ∃ r, member_All l n = some r ∧ Good l n r := by
  have h := all_good (n := n) hl hi hz
  obtain ⟨r, hr, _⟩ := all_meets l n _ _ h h
  exact ⟨r, ofM_eq (all_mono l n _ _ (fun x hx => hx.uniq hr) h) (all_meets l n), hr⟩
end Go.Proofs.YthndadengamanaaGreat
