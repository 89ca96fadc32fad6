/- What a role is all of is what is reached: all of it. Conditions: none. -/
import Derived.Test.YthndadengamanaaGreatMore
namespace Go.Proofs.YthndadengamanaaGreat
open Go.Gv
theorem sortS_perm (xs : List ByteArray) : (sortS xs).Perm xs := by
  unfold sortS
  refine ((List.mergeSort_perm _ _).map ub).trans ?_
  rw [List.map_map]
  have : xs.map (ub ∘ bs) = xs := by
    have : ub ∘ bs = id := funext ub_bs
    rw [this, List.map_id]
  rw [this]
theorem bl_lt : ∀ (x y : List UInt8), Op.bytesLess x y = decide (x < y)
  | _, [] => by simp [Op.bytesLess]
  | [], y :: ys => by simp [Op.bytesLess]
  | x :: xs, y :: ys => by
    simp only [Op.bytesLess, bl_lt xs ys]
    rw [Bool.eq_iff_iff]
    simp only [List.cons_lt_cons_iff, decide_eq_true_eq, Bool.or_eq_true, Bool.and_eq_true, beq_iff_eq]
theorem sorted (xs : List ByteArray) : (sortS xs).Pairwise (fun a b => sLt b a = false) := by
  unfold sortS
  rw [List.pairwise_map]
  refine (List.pairwise_mergeSort ?_ ?_ _).imp ?_
  · intro a b c h1 h2
    simp only [decide_eq_true_eq] at h1 h2 ⊢
    exact List.le_trans h1 h2
  · intro a b
    simp only [Bool.or_eq_true, decide_eq_true_eq]
    exact List.le_total a b
  · intro a b h
    have h := of_decide_eq_true h
    rw [sLt_data]
    show Op.bytesLess (bs (ub b)) (bs (ub a)) = false
    rw [bs_ub, bs_ub]
    cases hb : Op.bytesLess b a with
    | false => rfl
    | true =>
      exfalso
      have : b < a := by
        have e := bl_lt b a
        rw [hb] at e
        simpa using e.symm
      exact (List.not_lt.2 h) this
theorem lt_of (a b : ByteArray) (h1 : sLt b a = false) (h2 : a ≠ b) : sLt a b = true := by
  rcases sLt_total a b with h | h | h
  · exact h
  · exact absurd h h2
  · rw [h] at h1; cases h1
theorem condM_of {α : Type} {b : Bool} {x y : M α} {Q : α → Prop} (h1 : b = true → x Q) (h2 : b = false → y Q) : (cond b x y) Q := by cases b; exact h2 rfl; exact h1 rfl
def Good (l : List Role) (n : ByteArray) (r : List ByteArray) : Prop := (has l n → r.Pairwise (fun a b => sLt a b = true) ∧ ∀ k, k ∈ r ↔ Rch l n k) ∧ (¬ has l n → r = [])
theorem all_good {l : List Role} {n : ByteArray} (hl : l.length ≤ 100) (hi : ∀ x ∈ l, x.In.length ≤ 100) (hz : ∀ x ∈ l, x.Name.size ≤ 1000) : member_AllM l n (Good l n) := by
  unfold member_AllM
  obtain ⟨i, e, hi2⟩ := at_has l n
  refine ⟨i, e, ?_⟩
  refine condM_of (fun hd => ?_) (fun hd => ?_)
  · have hn : ¬ has l n := fun hh => by have := hi2.2 hh; simp at hd; omega
    exact ⟨fun hh => absurd hh hn, fun _ => rfl⟩
  · have hn : has l n := hi2.1 (by simp at hd; omega)
    refine loopM_inv (fun s A B hAB h => ?_) (fun (s : Bool × List (ByteArray × Bool)) => Up l n s.1 s.2) (fun s => 2 * (l.length + 1 - s.2.length) + (if s.1 then 1 else 0)) ?_ ?_
    · obtain ⟨g, all⟩ := s
      exact (Mono_.cond (Mono_.bind (Mono_.range _ _ _) (fun t => by cases t with | inl s => exact @Mono_.bind _ _ (optM _) (fun _ => retM _) (Mono_.opt _) (fun _ => Mono_.ret _) | inr u => exact Mono_.no)) (Mono_.ret _)) A B hAB h
    · rintro ⟨g, all⟩ h
      simp only at h
      have hlen := h.len
      cases g with
      | true =>
        refine more_all h hl hi _ (fun more h1 h2 => ⟨_, put_all more all, ?_⟩)
        obtain ⟨g1, g2, g3⟩ := fold_spec (more := more) h.nd h.tr
        have hup : Up l n (decide ((more.length : Int) > 0)) (more.foldl (fun s x => mset sEq s x true) all) := by
          refine ⟨g1, (g3 n).2 (.inr h.self), fun k hk => ?_, g2, fun hg a ha b hb hh => ?_⟩
          · rcases (g3 k).1 hk with hk | hk
            · obtain ⟨_, a, ha, hb, hh⟩ := h1 k hk
              exact ⟨.step (h.so a ha).1 hb hh, hh⟩
            · exact h.so k hk
          · have hm : more = [] := by
              cases more with
              | nil => rfl
              | cons x r => simp at hg
            subst hm
            rcases h2 a ha b hb hh with q | q
            · exact q
            · cases q
        refine ⟨hup, ?_⟩
        have hlen2 := hup.len
        simp only [if_true]
        cases more with
        | nil => simp
        | cons x r =>
          have hx := (h1 x (by simp)).1
          have hnd : (x :: all.map (·.1)).Nodup := List.nodup_cons.2 ⟨hx, h.nd⟩
          have := List.Nodup.length_le_of_subset hnd (l₂ := ((x :: r).foldl (fun s x => mset sEq s x true) all).map (·.1)) (fun k hk => by
            rcases List.mem_cons.1 hk with rfl | hk
            · exact (g3 _).2 (.inl (by simp))
            · exact (g3 _).2 (.inr hk))
          simp only [List.length_cons, List.length_map] at this
          split <;> omega
      | false =>
        have hk : keysO all = some (sortS (all.map (·.1))) := by
          unfold keysO
          rw [if_pos ⟨h.nd, by omega, fun k hk => by obtain ⟨x, hx, rfl⟩ := (h.so k hk).2; have := hz x hx; simp only [maxLen]; omega⟩]
        refine ⟨_, hk, fun _ => ⟨?_, fun k => ?_⟩, fun hh => absurd hn hh⟩
        · have hp := sortS_perm (all.map (·.1))
          have hnd : (sortS (all.map (·.1))).Nodup := hp.nodup_iff.2 h.nd
          exact (List.Pairwise.and (sorted _) hnd).imp fun {a b} hab => lt_of a b hab.1 hab.2
        · rw [(sortS_perm _).mem_iff]
          constructor
          · exact fun hk => (h.so k hk).1
          · intro hr
            induction hr with
            | self => exact h.self
            | step _ hb hh ih => exact h.cl rfl _ ih _ hb hh
    · simp only
      refine ⟨by simp [mset_nil], by simp [mset_nil], fun k hk => ?_, tr_set (all := []) (fun k => by simp [mget_nil]) n, fun hg => by cases hg⟩
      simp [mset_nil] at hk
      subst hk
      exact ⟨.self, hn⟩
end Go.Proofs.YthndadengamanaaGreat
