/- The stable sort: what it comes to. Conditions: none. -/
import Derived.Test.YtfabocipcjnfnaaO
namespace Go.Proofs.Ytfabocipcjnfnaa
open Go.Gv
section
variable {α : Type}
theorem get_at {A B : List α} {y : α} {i : Nat} (h : i = A.length) : (A ++ y :: B)[i]? = some y := by
  subst h
  simp
theorem set_at {A B : List α} {y z : α} {i : Nat} (h : i = A.length) : (A ++ y :: B).set i z = A ++ z :: B := by
  subst h
  rw [List.set_append_right _ _ (Nat.le_refl _), Nat.sub_self, List.set_cons_zero]
end
abbrev N := api_Need
theorem idx_mid {A B : List N} {y : N} {i : Int} (h : i = (A.length : Int)) : idx (A ++ y :: B) i = some y := idx_at h (get_at rfl)
theorem set_mid {A B : List N} {y z : N} {i : Int} (h : i = (A.length : Int)) : (A ++ y :: B).set i.toNat z = A ++ z :: B := set_at (by omega)
def room : Int := 1000000000000
theorem w64_r {n : Int} (h1 : -room * 4 ≤ n) (h2 : n ≤ room * 4) : w64 n = n := by
  unfold room at *
  exact w64_id (by omega) (by omega)

theorem swapRange_eq (P X M Y S : List N) (p : N → N → Option Int) (hXY : X.length = Y.length) (a b n : Int) (ha : a = (P.length : Int)) (hb : b = ((P ++ X ++ M).length : Int)) (hn : n = (X.length : Int))
    (hlen : ((P ++ X ++ M ++ Y ++ S).length : Int) ≤ room) : slices_swapRangeCmpFunc_registrar_api_Need (P ++ X ++ M ++ Y ++ S) a b n p = some (P ++ Y ++ M ++ X ++ S) := by
  unfold slices_swapRangeCmpFunc_registrar_api_Need
  refine Ret.eq (RB.bind (loopO_rb (Q := fun (r : List N) => r = P ++ Y ++ M ++ X ++ S) (I := fun (s : Int × List N) => ∃ X1 X2 Y1 Y2, X = X1 ++ X2 ∧ Y = Y1 ++ Y2 ∧ X1.length = Y1.length ∧ s.1 = (X1.length : Int) ∧ s.2 = P ++ Y1 ++ X2 ++ M ++ X1 ++ Y2 ++ S) (μ := fun s => X.length - s.1.toNat) ?_ ?_) ?_)
  · rintro ⟨s, d⟩ ⟨X1, X2, Y1, Y2, rfl, rfl, h1, h2, h3⟩
    simp only at h2 h3
    subst h2 h3
    simp only [List.length_append] at hXY hlen hb hn
    subst ha hb hn
    refine RB.cond (fun hc => ?_) (fun hc => ?_)
    · simp only [decide_eq_true_eq] at hc
      cases X2 with
      | nil => simp at hc
      | cons x X2 =>
        cases Y2 with
        | nil => simp at hXY; omega
        | cons y Y2 =>
          simp only [List.length_cons] at hXY hlen hc ⊢
          have e1 : w64 ((P.length : Int) + X1.length) = ((P ++ Y1).length : Int) := by rw [w64_r] <;> simp only [List.length_append, room] at * <;> omega
          have e2 : w64 (((P.length + (X1.length + (X2.length + 1)) + M.length : Nat) : Int) + X1.length) = ((P ++ Y1 ++ x :: X2 ++ M ++ X1).length : Int) := by
            rw [w64_r] <;> simp only [List.length_append, List.length_cons, room] at * <;> omega
          rw [e1, e2]
          have d1 : P ++ Y1 ++ x :: X2 ++ M ++ X1 ++ y :: Y2 ++ S = (P ++ Y1) ++ x :: (X2 ++ M ++ X1 ++ y :: Y2 ++ S) := by simp
          have d2 : P ++ Y1 ++ x :: X2 ++ M ++ X1 ++ y :: Y2 ++ S = (P ++ Y1 ++ x :: X2 ++ M ++ X1) ++ y :: (Y2 ++ S) := by simp
          have d3 : (P ++ Y1) ++ y :: (X2 ++ M ++ X1 ++ y :: Y2 ++ S) = (P ++ Y1 ++ y :: X2 ++ M ++ X1) ++ y :: (Y2 ++ S) := by simp
          refine RB.bindE (x := y) (by rw [d2]; exact idx_mid rfl) (RB.bindE (x := x) (by rw [d1]; exact idx_mid rfl) (RB.bindE (x := x) (by rw [d1]; exact idx_mid rfl) ?_))
          have s1 : (P ++ Y1 ++ x :: X2 ++ M ++ X1 ++ y :: Y2 ++ S).set (((P ++ Y1).length : Int)).toNat y = (P ++ Y1 ++ y :: X2 ++ M ++ X1) ++ y :: (Y2 ++ S) := by
            rw [d1, set_mid rfl, d3]
          show RB True (Option.bind (idx ((P ++ Y1 ++ x :: X2 ++ M ++ X1 ++ y :: Y2 ++ S).set (((P ++ Y1).length : Int)).toNat y) _) _) _
          rw [s1]
          refine RB.bindE (x := y) (idx_mid (by simp)) (RB.ret ⟨⟨X1 ++ [x], X2, Y1 ++ [y], Y2, by simp, by simp, by simp [h1], ?_, ?_⟩, ?_⟩)
          · simp only [List.length_append, List.length_cons, List.length_nil]
            rw [w64_r] <;> simp only [room] at * <;> omega
          · show ((P ++ Y1 ++ y :: X2 ++ M ++ X1) ++ y :: (Y2 ++ S)).set _ x = _
            rw [set_mid (by simp)]
            simp
          · simp only [List.length_append, List.length_cons]
            rw [w64_r] <;> simp only [room] at * <;> omega
    · simp only [decide_eq_false_iff_not] at hc
      have : X2 = [] := List.eq_nil_of_length_eq_zero (by omega)
      subst this
      have : Y2 = [] := List.eq_nil_of_length_eq_zero (by simp at hXY; omega)
      subst this
      exact RB.ret (by simp)
  · exact ⟨[], X, [], Y, rfl, rfl, rfl, rfl, by simp⟩
  · rintro r rfl
    exact RB.ret rfl

theorem rotate_eq (P A B S : List N) (p : N → N → Option Int) (a m b : Int) (ha : a = (P.length : Int)) (hm : m = ((P ++ A).length : Int)) (hb : b = ((P ++ A ++ B).length : Int)) (hA : A ≠ []) (hB : B ≠ [])
    (hlen : ((P ++ A ++ B ++ S).length : Int) ≤ room) : slices_rotateCmpFunc_registrar_api_Need (P ++ A ++ B ++ S) a m b p = some (P ++ B ++ A ++ S) := by
  unfold slices_rotateCmpFunc_registrar_api_Need
  have hlp : 0 < A.length := List.length_pos_iff.2 hA
  have hlb : 0 < B.length := List.length_pos_iff.2 hB
  refine Ret.eq (RB.bind (loopO_rb (Q := fun (r : Int × List N) => ∃ P' X Y S', 0 < X.length ∧ X.length = Y.length ∧ (m : Int) = ((P' ++ X).length : Int) ∧ r.1 = (X.length : Int) ∧ r.2 = P' ++ X ++ Y ++ S' ∧ P' ++ Y ++ X ++ S' = P ++ B ++ A ++ S)
    (I := fun (s : Int × Int × List N) => ∃ P' X Y S', 0 < X.length ∧ 0 < Y.length ∧ (m : Int) = ((P' ++ X).length : Int) ∧ s.1 = (X.length : Int) ∧ s.2.1 = (Y.length : Int) ∧ s.2.2 = P' ++ X ++ Y ++ S' ∧ P' ++ Y ++ X ++ S' = P ++ B ++ A ++ S) (μ := fun s => s.1.toNat + s.2.1.toNat) ?_ ?_) ?_)
  · rintro ⟨i, j, d⟩ ⟨P', X, Y, S', hx, hy, h1, h2, h3, h4, h5⟩
    simp only at h2 h3 h4
    subst h2 h3 h4
    have hL : P'.length + Y.length + X.length + S'.length = P.length + B.length + A.length + S.length := by have := congrArg List.length h5; simp at this; omega
    simp only [List.length_append] at hlen h1
    refine RB.cond (fun hc => ?_) (fun hc => ?_)
    · have hne : X.length ≠ Y.length := by
        intro e
        rw [e] at hc
        simp at hc
      refine RB.bind (R := fun (r : Int × Int × List N) => ∃ P'' X' Y' S'', 0 < X'.length ∧ 0 < Y'.length ∧ (m : Int) = ((P'' ++ X').length : Int) ∧ r.1 = (X'.length : Int) ∧ r.2.1 = (Y'.length : Int) ∧ r.2.2 = P'' ++ X' ++ Y' ++ S'' ∧ P'' ++ Y' ++ X' ++ S'' = P ++ B ++ A ++ S ∧ X'.length + Y'.length < X.length + Y.length) ?_ ?_
      · refine RB.cond (fun hc2 => ?_) (fun hc2 => ?_)
        · simp only [decide_eq_true_eq] at hc2
          have hs := List.take_append_drop Y.length X
          have l1 : (X.take Y.length).length = Y.length := by rw [List.length_take]; omega
          have l2 : (X.drop Y.length).length = X.length - Y.length := List.length_drop
          generalize X.take Y.length = X1 at *
          generalize X.drop Y.length = X2 at *
          subst hs
          simp only [List.length_append] at *
          refine RB.bindE (x := P' ++ Y ++ X2 ++ X1 ++ S') ?_ (RB.ret ⟨P' ++ Y, X2, X1, S', by omega, by omega, ?_, ?_, ?_, rfl, ?_, ?_⟩)
          · rw [show P' ++ (X1 ++ X2) ++ Y ++ S' = P' ++ X1 ++ X2 ++ Y ++ S' by simp]
            refine swapRange_eq P' X1 X2 Y S' p (by omega) _ _ _ ?_ ?_ ?_ ?_
            · rw [w64_r] <;> simp only [room] at * <;> omega
            · simp only [List.length_append]; omega
            · omega
            · simp only [List.length_append]; omega
          · simp only [List.length_append]; omega
          · show w64 _ = _
            rw [w64_r] <;> simp only [room] at * <;> omega
          · show (Y.length : Int) = _
            omega
          · rw [← h5]; simp
          · omega
        · simp only [decide_eq_false_iff_not] at hc2
          have hs := List.take_append_drop (Y.length - X.length) Y
          have l1 : (Y.take (Y.length - X.length)).length = Y.length - X.length := by rw [List.length_take]; omega
          have l2 : (Y.drop (Y.length - X.length)).length = X.length := by rw [List.length_drop]; omega
          generalize Y.take (Y.length - X.length) = Y1 at *
          generalize Y.drop (Y.length - X.length) = Y2 at *
          subst hs
          simp only [List.length_append] at *
          refine RB.bindE (x := P' ++ Y2 ++ Y1 ++ X ++ S') ?_ (RB.ret ⟨P', Y2, Y1, X ++ S', by omega, by omega, ?_, ?_, ?_, ?_, ?_, ?_⟩)
          · rw [show P' ++ X ++ (Y1 ++ Y2) ++ S' = P' ++ X ++ Y1 ++ Y2 ++ S' by simp]
            have e1 : w64 (m + ((Y1.length + Y2.length : Nat) : Int)) = m + ((Y1.length + Y2.length : Nat) : Int) := by rw [w64_r] <;> simp only [room] at * <;> omega
            refine swapRange_eq P' X Y1 Y2 S' p (by omega) _ _ _ ?_ ?_ ?_ ?_
            · rw [w64_r] <;> simp only [room] at * <;> omega
            · rw [e1, w64_r] <;> simp only [List.length_append, room] at * <;> omega
            · rfl
            · simp only [List.length_append]; omega
          · first | (simp only [List.length_append]; omega) | omega
          · show (X.length : Int) = _
            omega
          · show w64 _ = _
            rw [w64_r] <;> simp only [room] at * <;> omega
          · show P' ++ Y2 ++ Y1 ++ X ++ S' = P' ++ Y2 ++ Y1 ++ (X ++ S')
            simp only [List.append_assoc]
          · rw [← h5]; simp only [List.append_assoc]
          · omega
      · rintro ⟨i', j', d'⟩ ⟨P'', X', Y', S'', k1, k2, k3, k4, k5, k6, k7, k8⟩
        refine RB.ret ⟨⟨P'', X', Y', S'', k1, k2, k3, k4, k5, k6, k7⟩, ?_⟩
        simp only at k4 k5 ⊢
        omega
    · have : X.length = Y.length := by
        have := (bne_eq_false_iff_eq).1 hc
        omega
      exact RB.ret ⟨P', X, Y, S', hx, this, by simpa using h1, rfl, rfl, h5⟩
  · refine ⟨P, A, B, S, hlp, hlb, hm, ?_, ?_, rfl, rfl⟩
    · show w64 _ = _
      subst ha hm
      rw [w64_r] <;> simp only [List.length_append, room] at * <;> omega
    · show w64 _ = _
      subst hm hb
      rw [w64_r] <;> simp only [List.length_append, room] at * <;> omega
  · rintro ⟨i, d⟩ ⟨P', X, Y, S', h0, h1, h2, h3, h4, h5⟩
    simp only at h3 h4
    subst h3 h4
    have hL : P'.length + Y.length + X.length + S'.length = P.length + B.length + A.length + S.length := by have := congrArg List.length h5; simp at this; omega
    refine RB.bindE (x := P ++ B ++ A ++ S) ?_ (RB.ret rfl)
    rw [← h5]
    simp only [List.length_append] at *
    have := swapRange_eq P' X [] Y S' p h1 (w64 (m - X.length)) m X.length ?_ ?_ rfl ?_
    · simpa using this
    · rw [w64_r] <;> simp only [room] at * <;> omega
    · simp; omega
    · simp only [List.length_append, List.length_nil]; omega

/-! ### Order -/
structure Ord (lt : N → N → Bool) : Prop where
  asymm : ∀ {x y}, lt x y = true → lt y x = false
  trans : ∀ {x y z}, lt y x = false → lt z y = false → lt z x = false
abbrev Srt (lt : N → N → Bool) (l : List N) : Prop := l.Pairwise (fun x y => lt y x = false)
abbrev Less (p : N → N → Option Int) (lt : N → N → Bool) : Prop := ∀ x y, ∃ v, p x y = some v ∧ decide (v < 0) = lt x y
theorem Srt.put {lt : N → N → Bool} (o : Ord lt) {L R : List N} {x : N} (h : Srt lt (L ++ R)) (h1 : ∀ y ∈ L.getLast?, lt x y = false) (h2 : ∀ y ∈ R, lt x y = true) : Srt lt (L ++ x :: R) := by
  rw [Srt, List.pairwise_append] at h ⊢
  obtain ⟨hL, hR, hLR⟩ := h
  refine ⟨hL, List.pairwise_cons.2 ⟨fun y hy => o.asymm (h2 y hy), hR⟩, fun a ha y hy => ?_⟩
  rcases List.mem_cons.1 hy with rfl | hy
  · rcases List.eq_nil_or_concat L with rfl | ⟨L', z, rfl⟩
    · cases ha
    · have hz := h1 z (by simp)
      rw [List.concat_eq_append, List.mem_append, List.mem_singleton] at ha
      rcases ha with ha | rfl
      · rw [List.concat_eq_append, List.pairwise_append] at hL
        exact o.trans (hL.2.2 a ha z (by simp)) hz
      · exact hz
  · exact hLR a ha y hy

theorem insertion_ret {p : N → N → Option Int} {lt : N → N → Bool} (o : Ord lt) (hp : Less p lt) (P A S : List N) (a b : Int) (ha : a = (P.length : Int)) (hb : b = ((P ++ A).length : Int)) (hlen : ((P ++ A ++ S).length : Int) ≤ room) :
    Ret (slices_insertionSortCmpFunc_registrar_api_Need (P ++ A ++ S) a b p) (fun r => ∃ C, r = P ++ C ++ S ∧ C.Perm A ∧ Srt lt C) := by
  subst ha
  unfold slices_insertionSortCmpFunc_registrar_api_Need
  simp only [List.length_append] at hb hlen
  cases A with
  | nil =>
    refine RB.bindE (x := P ++ [] ++ S) (loopO_stop ?_) (RB.ret ⟨[], rfl, List.Perm.refl _, List.Pairwise.nil⟩)
    simp only
    rw [show decide (w64 ((P.length : Int) + 1) < b) = false from ?_]
    · rfl
    · rw [w64_r] <;> simp [room] at * <;> omega
  | cons x0 A0 =>
    simp only [List.length_cons] at hb hlen
    refine RB.bind (loopO_rb (Q := fun (r : List N) => ∃ C, r = P ++ C ++ S ∧ C.Perm (x0 :: A0) ∧ Srt lt C) (I := fun (s : Int × List N) => ∃ C R, s.1 = ((P ++ C).length : Int) ∧ s.2 = P ++ C ++ R ++ S ∧ (C ++ R).Perm (x0 :: A0) ∧ Srt lt C)
      (μ := fun s => (b - s.1).toNat) ?_ ?_) ?_
    · rintro ⟨i, d⟩ ⟨C, R, h1, h2, h3, h4⟩
      simp only at h1 h2
      subst h1 h2
      have hl := h3.length_eq
      simp only [List.length_append, List.length_cons] at hl hb hlen
      refine RB.cond (fun hc => ?_) (fun hc => ?_)
      · simp only [decide_eq_true_eq, List.length_append] at hc
        cases R with
        | nil => simp at hl; omega
        | cons x R =>
          simp only [List.length_cons] at hl
          refine RB.bind (loopO_rb (Q := fun (r : List N) => ∃ C', r = P ++ C' ++ R ++ S ∧ C'.Perm (C ++ [x]) ∧ Srt lt C') (I := fun (s : Int × List N) => ∃ L T, s.1 = ((P ++ L).length : Int) ∧ s.2 = P ++ L ++ x :: (T ++ R ++ S) ∧ L ++ T = C ∧ ∀ y ∈ T, lt x y = true)
            (μ := fun s => s.1.toNat) ?_ ?_) ?_
          · rintro ⟨j, d⟩ ⟨L, T, k1, k2, rfl, k4⟩
            simp only at k1 k2
            subst k1 k2
            simp only [List.length_append] at *
            have hstop : (∀ y ∈ L.getLast?, lt x y = false) → ∃ C', P ++ L ++ x :: (T ++ R ++ S) = P ++ C' ++ R ++ S ∧ C'.Perm (L ++ T ++ [x]) ∧ Srt lt C' := by
              intro hy
              refine ⟨L ++ x :: T, by simp, ?_, h4.put o hy k4⟩
              rw [List.append_assoc]
              exact List.perm_append_left_iff L |>.2 (List.perm_append_singleton x T).symm
            by_cases hL : L = []
            · subst hL
              refine RB.bindE (x := false) ?_ (RB.cond (fun h => by cases h) (fun _ => RB.ret (hstop (by simp))))
              rw [show decide (((P.length + ([] : List N).length : Nat) : Int) > (P.length : Int)) = false by simp]
              rfl
            · rcases List.eq_nil_or_concat L with rfl | ⟨L', y, rfl⟩
              · exact absurd rfl hL
              rw [List.concat_eq_append] at *
              have ej : w64 (((P.length + (L' ++ [y]).length : Nat) : Int) - 1) = ((P ++ L').length : Int) := by
                simp only [List.length_append, List.length_cons, List.length_nil] at *
                rw [w64_r] <;> simp only [room] at * <;> omega
              have d1 : P ++ (L' ++ [y]) ++ x :: (T ++ R ++ S) = (P ++ L') ++ y :: x :: (T ++ R ++ S) := by simp
              have d2 : P ++ (L' ++ [y]) ++ x :: (T ++ R ++ S) = (P ++ L' ++ [y]) ++ x :: (T ++ R ++ S) := by simp
              have i1 : idx (P ++ (L' ++ [y]) ++ x :: (T ++ R ++ S)) (((P.length + (L' ++ [y]).length : Nat) : Int)) = some x := idx_mid (by simp)
              have i2 : idx (P ++ (L' ++ [y]) ++ x :: (T ++ R ++ S)) ((P ++ L').length : Int) = some y := by rw [d1]; exact idx_mid rfl
              obtain ⟨v, hv1, hv2⟩ := hp x y
              rw [show decide (((P.length + (L' ++ [y]).length : Nat) : Int) > (P.length : Int)) = true by simp; omega]
              rw [ej]
              refine RB.bindE (x := lt x y) (by simp only [cond_true, i1, i2, Option.bind_some, hv1, hv2]) (RB.cond (fun hl => ?_) (fun hl => ?_))
              · refine RB.bindE i2 (RB.bindE i1 (RB.bindE i1 ?_))
                have s1 : (P ++ (L' ++ [y]) ++ x :: (T ++ R ++ S)).set (((P.length + (L' ++ [y]).length : Nat) : Int)).toNat y = (P ++ L') ++ y :: y :: (T ++ R ++ S) := by
                  rw [set_mid (by simp)]; simp
                show RB True (Option.bind (idx ((P ++ (L' ++ [y]) ++ x :: (T ++ R ++ S)).set (((P.length + (L' ++ [y]).length : Nat) : Int)).toNat y) _) _) _
                rw [s1]
                refine RB.bindE (x := y) (idx_mid rfl) (RB.ret ⟨⟨L', y :: T, by simp, ?_, by simp, ?_⟩, ?_⟩)
                · show ((P ++ L') ++ y :: y :: (T ++ R ++ S)).set _ x = _
                  rw [set_mid rfl]
                  simp
                · intro z hz
                  rcases List.mem_cons.1 hz with rfl | hz
                  · exact hl
                  · exact k4 z hz
                · simp only [List.length_append, List.length_cons, List.length_nil]; omega
              · exact RB.ret (hstop (by simpa using hl))
          · exact ⟨C, [], rfl, by simp, by simp, by simp⟩
          · rintro d ⟨C', rfl, k1, k2⟩
            have hl' := k1.length_eq
            simp only [List.length_append, List.length_cons, List.length_nil] at hl'
            refine RB.ret ⟨⟨C', R, ?_, rfl, ?_, k2⟩, ?_⟩
            · show w64 _ = _
              simp only [List.length_append] at *
              rw [w64_r] <;> simp only [room] at * <;> omega
            · refine List.Perm.trans ?_ h3
              rw [show C ++ x :: R = (C ++ [x]) ++ R by simp]
              exact List.Perm.append_right R k1
            · show (b - w64 _).toNat < _
              simp only [List.length_append] at *
              rw [w64_r] <;> simp only [room] at * <;> omega
      · simp only [decide_eq_false_iff_not, List.length_append] at hc
        have : R = [] := List.eq_nil_of_length_eq_zero (by omega)
        subst this
        exact RB.ret ⟨C, by simp, by simpa using h3, h4⟩
    · refine ⟨[x0], A0, ?_, by simp, by simp, by simp [Srt]⟩
      show w64 _ = _
      simp only [List.length_append, List.length_cons, List.length_nil]
      rw [w64_r] <;> simp only [room] at * <;> omega
    · rintro r ⟨C, rfl, h1, h2⟩
      exact RB.ret ⟨C, rfl, h1, h2⟩

/-! ### Two sorted parts made one -/
theorem half {x : Int} (h0 : 0 ≤ x) (h1 : x ≤ room * 4) : w64 (Int.fdiv (IntKind.wrap .u64 (w64 x)) (2 ^ 1)) = x / 2 := by
  have e : IntKind.wrap .u64 (w64 x) = x := by
    rw [w64_r (by unfold room at *; omega) h1]
    simp only [IntKind.wrap, IntKind.signed, IntKind.bits, room] at *
    simp
    omega
  rw [e]
  have e2 : Int.fdiv x (2 ^ 1) = x / 2 := by
    show Int.fdiv x 2 = x / 2
    rw [Int.fdiv_eq_ediv_of_nonneg _ (by decide)]
  rw [e2, w64_r] <;> unfold room at * <;> omega

theorem one_left {p : N → N → Option Int} {lt : N → N → Bool} (o : Ord lt) {P B1 B2 S : List N} {x : N} (a i : Int) (ha : a = (P.length : Int)) (hi : i = ((P ++ [x] ++ B1).length : Int)) (hlen : ((P ++ [x] ++ B1 ++ B2 ++ S).length : Int) ≤ room) :
    (loopO (fun (s : Int × (List api_Need)) => match s with | (s33, s34) => (bif (decide (s33 < (w64 (i - 1)))) then (idx s34 (w64 (s33 + 1))).bind (fun (x41 : api_Need) => (idx s34 s33).bind (fun (x42 : api_Need) => (idx s34 s33).bind (fun (x43 : api_Need) => (idx (s34.set (s33).toNat (⟨x41.Path, x41.Mode⟩ : api_Need)) (w64 (s33 + 1))).bind (fun (x48 : api_Need) => some (.inl ((w64 (s33 + 1)), ((s34.set (s33).toNat (⟨x41.Path, x41.Mode⟩ : api_Need)).set ((w64 (s33 + 1))).toNat (⟨x42.Path, x42.Mode⟩ : api_Need)))))))) else some (.inr s34))) (a, P ++ [x] ++ B1 ++ B2 ++ S)) = some (P ++ B1 ++ x :: B2 ++ S) := by
  subst ha hi
  simp only [List.length_append, List.length_cons, List.length_nil] at hlen
  refine Ret.eq (loopO_rb (Q := fun (r : List N) => r = P ++ B1 ++ x :: B2 ++ S) (I := fun (s : Int × List N) => ∃ M1 M2, B1 = M1 ++ M2 ∧ s.1 = ((P ++ M1).length : Int) ∧ s.2 = (P ++ M1) ++ x :: (M2 ++ B2 ++ S)) (μ := fun s => (P.length + B1.length) - s.1.toNat) ?_ ?_)
  · rintro ⟨k, d⟩ ⟨M1, M2, rfl, h1, h2⟩
    simp only at h1 h2
    subst h1 h2
    simp only [List.length_append] at hlen
    have e0 : w64 (((P ++ [x] ++ (M1 ++ M2)).length : Int) - 1) = ((P.length + (M1.length + M2.length) : Nat) : Int) := by
      simp only [List.length_append, List.length_cons, List.length_nil]
      rw [w64_r] <;> simp only [room] at * <;> omega
    rw [e0]
    refine RB.cond (fun hc => ?_) (fun hc => ?_)
    · simp only [decide_eq_true_eq, List.length_append] at hc
      cases M2 with
      | nil => simp at hc
      | cons y M2 =>
        simp only [List.length_cons] at hlen hc
        have e1 : w64 (((P ++ M1).length : Int) + 1) = ((P ++ M1 ++ [x]).length : Int) := by
          simp only [List.length_append, List.length_cons, List.length_nil]
          rw [w64_r] <;> simp only [room] at * <;> omega
        rw [e1]
        have d1 : (P ++ M1) ++ x :: (y :: M2 ++ B2 ++ S) = (P ++ M1 ++ [x]) ++ y :: (M2 ++ B2 ++ S) := by simp
        refine RB.bindE (x := y) (by rw [d1]; exact idx_mid rfl) (RB.bindE (x := x) (idx_mid rfl) (RB.bindE (x := x) (idx_mid rfl) ?_))
        have s1 : ((P ++ M1) ++ x :: (y :: M2 ++ B2 ++ S)).set ((P ++ M1).length : Int).toNat y = (P ++ M1 ++ [y]) ++ y :: (M2 ++ B2 ++ S) := by
          rw [set_mid rfl]; simp
        show RB True (Option.bind (idx (((P ++ M1) ++ x :: (y :: M2 ++ B2 ++ S)).set ((P ++ M1).length : Int).toNat y) _) _) _
        rw [s1]
        refine RB.bindE (x := y) (idx_mid (by simp)) (RB.ret ⟨⟨M1 ++ [y], M2, by simp, ?_, ?_⟩, ?_⟩)
        · simp
        · show ((P ++ M1 ++ [y]) ++ y :: (M2 ++ B2 ++ S)).set _ x = _
          rw [set_mid (by simp)]
          simp
        · simp only [List.length_append, List.length_cons, List.length_nil]; omega
    · simp only [decide_eq_false_iff_not, List.length_append] at hc
      have : M2 = [] := List.eq_nil_of_length_eq_zero (by omega)
      subst this
      exact RB.ret (by simp)
  · exact ⟨[], B1, rfl, by simp, by simp⟩

theorem one_right {p : N → N → Option Int} {lt : N → N → Bool} (o : Ord lt) {P A1 A2 S : List N} {y : N} (m i : Int) (hm : m = ((P ++ A1 ++ A2).length : Int)) (hi : i = ((P ++ A1).length : Int)) (hlen : ((P ++ A1 ++ A2 ++ [y] ++ S).length : Int) ≤ room) :
    (loopO (fun (s : Int × (List api_Need)) => match s with | (s112, s113) => (bif (decide (s112 > i)) then (idx s113 (w64 (s112 - 1))).bind (fun (x120 : api_Need) => (idx s113 s112).bind (fun (x121 : api_Need) => (idx s113 s112).bind (fun (x122 : api_Need) => (idx (s113.set (s112).toNat (⟨x120.Path, x120.Mode⟩ : api_Need)) (w64 (s112 - 1))).bind (fun (x127 : api_Need) => some (.inl ((w64 (s112 - 1)), ((s113.set (s112).toNat (⟨x120.Path, x120.Mode⟩ : api_Need)).set ((w64 (s112 - 1))).toNat (⟨x121.Path, x121.Mode⟩ : api_Need)))))))) else some (.inr s113))) (m, P ++ A1 ++ A2 ++ [y] ++ S)) = some (P ++ A1 ++ y :: A2 ++ S) := by
  subst hm hi
  simp only [List.length_append, List.length_cons, List.length_nil] at hlen
  refine Ret.eq (loopO_rb (Q := fun (r : List N) => r = P ++ A1 ++ y :: A2 ++ S) (I := fun (s : Int × List N) => ∃ M1 M2, A2 = M1 ++ M2 ∧ s.1 = ((P ++ A1 ++ M1).length : Int) ∧ s.2 = (P ++ A1 ++ M1) ++ y :: (M2 ++ S)) (μ := fun s => s.1.toNat) ?_ ?_)
  · rintro ⟨k, d⟩ ⟨M1, M2, rfl, h1, h2⟩
    simp only at h1 h2
    subst h1 h2
    simp only [List.length_append] at hlen
    rcases List.eq_nil_or_concat M1 with rfl | ⟨L, z, rfl⟩
    · refine RB.cond (fun hc => ?_) (fun hc => RB.ret (by simp))
      simp at hc
    · rw [List.concat_eq_append] at *
      simp only [List.length_append, List.length_cons, List.length_nil] at hlen
      refine RB.cond (fun hc => ?_) (fun hc => ?_)
      · have e1 : w64 (((P ++ A1 ++ (L ++ [z])).length : Int) - 1) = ((P ++ A1 ++ L).length : Int) := by
          simp only [List.length_append, List.length_cons, List.length_nil]
          rw [w64_r] <;> simp only [room] at * <;> omega
        rw [e1]
        have d1 : (P ++ A1 ++ (L ++ [z])) ++ y :: (M2 ++ S) = (P ++ A1 ++ L) ++ z :: y :: (M2 ++ S) := by simp
        refine RB.bindE (x := z) (by rw [d1]; exact idx_mid rfl) (RB.bindE (x := y) (idx_mid rfl) (RB.bindE (x := y) (idx_mid rfl) ?_))
        have s1 : ((P ++ A1 ++ (L ++ [z])) ++ y :: (M2 ++ S)).set ((P ++ A1 ++ (L ++ [z])).length : Int).toNat z = (P ++ A1 ++ L) ++ z :: z :: (M2 ++ S) := by
          rw [set_mid rfl]; simp
        show RB True (Option.bind (idx (((P ++ A1 ++ (L ++ [z])) ++ y :: (M2 ++ S)).set ((P ++ A1 ++ (L ++ [z])).length : Int).toNat z) _) _) _
        rw [s1]
        refine RB.bindE (x := z) (idx_mid rfl) (RB.ret ⟨⟨L, z :: M2, by simp, rfl, ?_⟩, ?_⟩)
        · show ((P ++ A1 ++ L) ++ z :: z :: (M2 ++ S)).set _ y = _
          rw [set_mid rfl]
          simp
        · simp only [List.length_append, List.length_cons, List.length_nil]; omega
      · simp at hc
        omega
  · exact ⟨A2, [], by simp, rfl, by simp⟩

theorem Less.val {β : Type} {p : N → N → Option Int} {lt : N → N → Bool} (hp : Less p lt) {x y : N} {f : Int → Option β} {Q : β → Prop} {b : Prop} (h : ∀ v, decide (v < 0) = lt x y → RB b (f v) Q) : RB b ((p x y).bind f) Q := by
  obtain ⟨v, h1, h2⟩ := hp x y
  exact RB.bindE h1 (h v h2)
theorem take_mid {P B1 Bm B2 S : List N} {k : Nat} (h1 : (P ++ B1).length ≤ k) (h2 : k < (P ++ B1 ++ Bm).length) : ∃ C y D, Bm = C ++ y :: D ∧ k = (P ++ B1 ++ C).length := by
  simp only [List.length_append] at h1 h2
  have hlt : k - (P.length + B1.length) < Bm.length := by omega
  refine ⟨Bm.take (k - (P.length + B1.length)), Bm[k - (P.length + B1.length)], Bm.drop (k - (P.length + B1.length) + 1), ?_, ?_⟩
  · rw [List.getElem_cons_drop, List.take_append_drop]
  · simp only [List.length_append, List.length_take]; omega
theorem srt_all {lt : N → N → Bool} (o : Ord lt) {C D : List N} {y : N} (h : Srt lt (C ++ y :: D)) : (∀ z ∈ C, lt y z = false) ∧ (∀ z ∈ D, lt z y = false) := by
  rw [Srt, List.pairwise_append, List.pairwise_cons] at h
  exact ⟨fun z hz => h.2.2 z hz y (by simp), h.2.1.1⟩

theorem find_left {p : N → N → Option Int} {lt : N → N → Bool} (o : Ord lt) (hp : Less p lt) {P B S : List N} {x : N} (hB : Srt lt B) (a m e : Int) (ha : a = (P.length : Int)) (hm : m = ((P ++ [x]).length : Int)) (he : e = ((P ++ [x] ++ B).length : Int)) (hlen : ((P ++ [x] ++ B ++ S).length : Int) ≤ room) :
    Ret (loopO (fun (s : Int × Int) => match s with | (s4, s5) => (bif (decide (s4 < s5)) then (idx (P ++ [x] ++ B ++ S) (w64 (Int.fdiv (IntKind.wrap .u64 (w64 (s4 + s5))) (2 ^ 1)))).bind (fun (x12 : api_Need) => (idx (P ++ [x] ++ B ++ S) a).bind (fun (x13 : api_Need) => (p x12 x13).bind (fun (r19 : Int) => ((bif (decide (r19 < 0)) then some ((w64 ((w64 (Int.fdiv (IntKind.wrap .u64 (w64 (s4 + s5))) (2 ^ 1))) + 1)), s5) else some (s4, (w64 (Int.fdiv (IntKind.wrap .u64 (w64 (s4 + s5))) (2 ^ 1)))))).bind (fun ((s24, s25) : Int × Int) => some (.inl (s24, s25)))))) else some (.inr s4))) (m, e))
      (fun (i : Int) => ∃ B1 B2, B = B1 ++ B2 ∧ i = ((P ++ [x] ++ B1).length : Int) ∧ (∀ z ∈ B1, lt z x = true) ∧ (∀ z ∈ B2, lt z x = false)) := by
  subst ha hm he
  simp only [List.length_append, List.length_cons, List.length_nil] at hlen
  refine loopO_rb (I := fun (s : Int × Int) => ∃ B1 Bm B2, B = B1 ++ Bm ++ B2 ∧ s.1 = ((P ++ [x] ++ B1).length : Int) ∧ s.2 = ((P ++ [x] ++ B1 ++ Bm).length : Int) ∧ (∀ z ∈ B1, lt z x = true) ∧ (∀ z ∈ B2, lt z x = false)) (μ := fun s => (s.2 - s.1).toNat) ?_ ⟨[], B, [], by simp, by simp, by simp, by simp, by simp⟩
  rintro ⟨i, j⟩ ⟨B1, Bm, B2, rfl, h1, h2, h3, h4⟩
  simp only at h1 h2
  subst h1 h2
  simp only [List.length_append] at hlen
  refine RB.cond (fun hc => ?_) (fun hc => ?_)
  · simp only [decide_eq_true_eq, List.length_append] at hc
    have eh := half (x := (((P ++ [x] ++ B1).length : Int) + ((P ++ [x] ++ B1 ++ Bm).length : Int))) (by omega) (by simp only [List.length_append, List.length_cons, List.length_nil, room] at *; omega)
    rw [eh]
    have hh : ((((P ++ [x] ++ B1).length : Int) + ((P ++ [x] ++ B1 ++ Bm).length : Int)) / 2) = ((((P ++ [x] ++ B1).length + (P ++ [x] ++ B1 ++ Bm).length) / 2 : Nat) : Int) := by omega
    rw [hh]
    obtain ⟨C, y, D, rfl, hk⟩ := take_mid (P := P ++ [x]) (B1 := B1) (Bm := Bm) (B2 := B2) (S := S) (k := (((P ++ [x] ++ B1).length + (P ++ [x] ++ B1 ++ Bm).length) / 2)) (by simp only [List.length_append]; omega) (by simp only [List.length_append] at *; omega)
    rw [hk]
    have hs : Srt lt (C ++ y :: D) := by
      rw [Srt, List.pairwise_append, List.pairwise_append] at hB
      exact hB.1.2.1
    have hs2 := srt_all o (C := B1 ++ C) (y := y) (D := D ++ B2) (by simpa using hB)
    have d1 : P ++ [x] ++ (B1 ++ (C ++ y :: D) ++ B2) ++ S = (P ++ [x] ++ B1 ++ C) ++ y :: (D ++ B2 ++ S) := by simp
    have d2 : P ++ [x] ++ (B1 ++ (C ++ y :: D) ++ B2) ++ S = P ++ x :: (B1 ++ (C ++ y :: D) ++ B2 ++ S) := by simp
    refine RB.bindE (x := y) (by rw [d1]; exact idx_mid rfl) (RB.bindE (x := x) (by rw [d2]; exact idx_mid rfl) (hp.val fun v hv => ?_))
    rw [hv]
    simp only [List.length_append, List.length_cons, List.length_nil] at *
    cases hl : lt y x with
    | true =>
      refine RB.ret ⟨⟨B1 ++ C ++ [y], D, B2, by simp, ?_, ?_, ?_, h4⟩, ?_⟩
      · show w64 _ = _
        simp only [List.length_append, List.length_cons, List.length_nil]
        rw [w64_r] <;> simp only [room] at * <;> omega
      · simp only [List.length_append, List.length_cons, List.length_nil]; omega
      · intro z hz
        simp only [List.mem_append, List.mem_singleton] at hz
        rcases hz with (hz | hz) | rfl
        · exact h3 z hz
        · cases hq : lt z x with
          | true => rfl
          | false =>
            have := o.trans hq (hs2.1 z (by simp [hz]))
            rw [hl] at this; cases this
        · exact hl
      · show (_ - w64 _).toNat < _
        rw [w64_r] <;> simp only [room] at * <;> omega
    | false =>
      refine RB.ret ⟨⟨B1, C, y :: D ++ B2, by simp, ?_, ?_, h3, ?_⟩, ?_⟩
      · simp only [List.length_append, List.length_cons, List.length_nil]
      · simp only [List.length_append, List.length_cons, List.length_nil]
      · intro z hz
        simp only [List.cons_append, List.mem_cons, List.mem_append] at hz
        rcases hz with rfl | hz | hz
        · exact hl
        · exact o.trans hl (hs2.2 z (by simp [hz]))
        · exact h4 z hz
      · simp only
        omega
  · simp only [decide_eq_false_iff_not, List.length_append] at hc
    have : Bm = [] := List.eq_nil_of_length_eq_zero (by omega)
    subst this
    exact RB.ret ⟨B1, B2, by simp, rfl, h3, h4⟩

theorem find_right {p : N → N → Option Int} {lt : N → N → Bool} (o : Ord lt) (hp : Less p lt) {P A S : List N} {y : N} (hA : Srt lt A) (a m : Int) (ha : a = (P.length : Int)) (hm : m = ((P ++ A).length : Int)) (hlen : ((P ++ A ++ [y] ++ S).length : Int) ≤ room) :
    Ret (loopO (fun (s : Int × Int) => match s with | (s83, s84) => (bif (decide (s83 < s84)) then (idx (P ++ A ++ [y] ++ S) m).bind (fun (x91 : api_Need) => (idx (P ++ A ++ [y] ++ S) (w64 (Int.fdiv (IntKind.wrap .u64 (w64 (s83 + s84))) (2 ^ 1)))).bind (fun (x92 : api_Need) => (p x91 x92).bind (fun (r98 : Int) => ((bif (!(decide (r98 < 0))) then some ((w64 ((w64 (Int.fdiv (IntKind.wrap .u64 (w64 (s83 + s84))) (2 ^ 1))) + 1)), s84) else some (s83, (w64 (Int.fdiv (IntKind.wrap .u64 (w64 (s83 + s84))) (2 ^ 1)))))).bind (fun ((s103, s104) : Int × Int) => some (.inl (s103, s104)))))) else some (.inr s83))) (a, m))
      (fun (i : Int) => ∃ A1 A2, A = A1 ++ A2 ∧ i = ((P ++ A1).length : Int) ∧ (∀ z ∈ A1, lt y z = false) ∧ (∀ z ∈ A2, lt y z = true)) := by
  subst ha hm
  simp only [List.length_append, List.length_cons, List.length_nil] at hlen
  refine loopO_rb (I := fun (s : Int × Int) => ∃ B1 Bm B2, A = B1 ++ Bm ++ B2 ∧ s.1 = ((P ++ B1).length : Int) ∧ s.2 = ((P ++ B1 ++ Bm).length : Int) ∧ (∀ z ∈ B1, lt y z = false) ∧ (∀ z ∈ B2, lt y z = true)) (μ := fun s => (s.2 - s.1).toNat) ?_ ⟨[], A, [], by simp, by simp, by simp, by simp, by simp⟩
  rintro ⟨i, j⟩ ⟨B1, Bm, B2, rfl, h1, h2, h3, h4⟩
  simp only at h1 h2
  subst h1 h2
  simp only [List.length_append] at hlen
  refine RB.cond (fun hc => ?_) (fun hc => ?_)
  · simp only [decide_eq_true_eq, List.length_append] at hc
    have eh := half (x := (((P ++ B1).length : Int) + ((P ++ B1 ++ Bm).length : Int))) (by omega) (by simp only [List.length_append, List.length_cons, List.length_nil, room] at *; omega)
    rw [eh]
    have hh : ((((P ++ B1).length : Int) + ((P ++ B1 ++ Bm).length : Int)) / 2) = ((((P ++ B1).length + (P ++ B1 ++ Bm).length) / 2 : Nat) : Int) := by omega
    rw [hh]
    obtain ⟨C, x, D, rfl, hk⟩ := take_mid (P := P) (B1 := B1) (Bm := Bm) (B2 := B2) (S := S) (k := (((P ++ B1).length + (P ++ B1 ++ Bm).length) / 2)) (by simp only [List.length_append]; omega) (by simp only [List.length_append] at *; omega)
    rw [hk]
    have hs2 := srt_all o (C := B1 ++ C) (y := x) (D := D ++ B2) (by simpa using hA)
    have d1 : P ++ (B1 ++ (C ++ x :: D) ++ B2) ++ [y] ++ S = (P ++ B1 ++ C) ++ x :: (D ++ B2 ++ [y] ++ S) := by simp
    have d2 : P ++ (B1 ++ (C ++ x :: D) ++ B2) ++ [y] ++ S = (P ++ (B1 ++ (C ++ x :: D) ++ B2)) ++ y :: S := by simp
    refine RB.bindE (x := y) (by rw [d2]; exact idx_mid rfl) (RB.bindE (x := x) (by rw [d1]; exact idx_mid rfl) (hp.val fun v hv => ?_))
    rw [hv]
    simp only [List.length_append, List.length_cons, List.length_nil] at *
    cases hl : lt y x with
    | false =>
      refine RB.ret ⟨⟨B1 ++ C ++ [x], D, B2, by simp, ?_, ?_, ?_, h4⟩, ?_⟩
      · show w64 _ = _
        simp only [List.length_append, List.length_cons, List.length_nil]
        rw [w64_r] <;> simp only [room] at * <;> omega
      · simp only [List.length_append, List.length_cons, List.length_nil]; omega
      · intro z hz
        simp only [List.mem_append, List.mem_singleton] at hz
        rcases hz with (hz | hz) | rfl
        · exact h3 z hz
        · exact o.trans (hs2.1 z (by simp [hz])) hl
        · exact hl
      · show (_ - w64 _).toNat < _
        rw [w64_r] <;> simp only [room] at * <;> omega
    | true =>
      refine RB.ret ⟨⟨B1, C, x :: D ++ B2, by simp, ?_, ?_, h3, ?_⟩, ?_⟩
      · simp only [List.length_append, List.length_cons, List.length_nil]
      · simp only [List.length_append, List.length_cons, List.length_nil]
      · intro z hz
        simp only [List.cons_append, List.mem_cons, List.mem_append] at hz
        rcases hz with rfl | hz | hz
        · exact hl
        · cases hq : lt y z with
          | true => rfl
          | false =>
            have := o.trans (hs2.2 z (by simp [hz])) hq
            rw [hl] at this; cases this
        · exact h4 z hz
      · simp only
        omega
  · simp only [decide_eq_false_iff_not, List.length_append] at hc
    have : Bm = [] := List.eq_nil_of_length_eq_zero (by omega)
    subst this
    exact RB.ret ⟨B1, B2, by simp, rfl, h3, h4⟩

theorem perm_mem {C A : List N} (h : C.Perm A) {q : N → Prop} (hq : ∀ x ∈ A, q x) : ∀ x ∈ C, q x := fun x hx => hq x (h.subset hx)
theorem split_at {A : List N} {u : Nat} (h : u ≤ A.length) : ∃ A1 A2, A = A1 ++ A2 ∧ A1.length = u := ⟨A.take u, A.drop u, (List.take_append_drop _ _).symm, by rw [List.length_take]; omega⟩
theorem last_of {A : List N} (h : A ≠ []) : ∃ L z, A = L ++ [z] := by
  rcases List.eq_nil_or_concat A with rfl | ⟨L, z, rfl⟩
  · exact absurd rfl h
  · exact ⟨L, z, List.concat_eq_append⟩

/-- The search for where two sorted parts are cut. -/
theorem find_cut {p : N → N → Option Int} {lt : N → N → Bool} (o : Ord lt) (hp : Less p lt) {P A B S : List N} (hA : Srt lt A) (hB : Srt lt B) (a m e mid : Nat) (ha : a = P.length) (hm : m = (P ++ A).length) (he : e = (P ++ A ++ B).length) (hmid : mid = (a + e) / 2)
    (hlen : ((P ++ A ++ B ++ S).length : Int) ≤ room) (hA0 : A ≠ []) (hB0 : B ≠ []) (s0 r0 : Int) (h0 : (s0, r0) = if mid < m then (((mid + m : Nat) : Int) - e, (mid : Int)) else ((a : Int), (m : Int))) (pp : Int) (hpp : pp = ((mid + m : Nat) : Int) - 1) :
    Ret (loopO (fun (s : Int × Int) => match s with | (s170, s171) => (bif (decide (s170 < s171)) then (idx (P ++ A ++ B ++ S) (w64 (pp - (w64 (Int.fdiv (IntKind.wrap .u64 (w64 (s170 + s171))) (2 ^ 1)))))).bind (fun (x178 : api_Need) => (idx (P ++ A ++ B ++ S) (w64 (Int.fdiv (IntKind.wrap .u64 (w64 (s170 + s171))) (2 ^ 1)))).bind (fun (x179 : api_Need) => (p x178 x179).bind (fun (r185 : Int) => ((bif (!(decide (r185 < 0))) then some ((w64 ((w64 (Int.fdiv (IntKind.wrap .u64 (w64 (s170 + s171))) (2 ^ 1))) + 1)), s171) else some (s170, (w64 (Int.fdiv (IntKind.wrap .u64 (w64 (s170 + s171))) (2 ^ 1)))))).bind (fun ((s190, s191) : Int × Int) => some (.inl (s190, s191)))))) else some (.inr s170))) (s0, r0))
      (fun (i : Int) => ∃ A1 A2 B1 B2, A = A1 ++ A2 ∧ B = B1 ++ B2 ∧ i = ((P ++ A1).length : Int) ∧ (P ++ A1).length + (P ++ A ++ B1).length = mid + m ∧ (∀ x ∈ A1 ++ B1, ∀ y ∈ A2 ++ B2, lt y x = false)) := by
  have hlA : 0 < A.length := List.length_pos_iff.2 hA0
  have hlB : 0 < B.length := List.length_pos_iff.2 hB0
  simp only [List.length_append] at hm he hlen
  refine (loopO_rb (Q := fun (i : Int) => ∃ u : Nat, i = (u : Int) ∧ a ≤ u ∧ u ≤ m ∧ u ≤ mid ∧ mid + m ≤ e + u ∧
      (u = a ∨ mid + m = e + u ∨ ∃ x y, (P ++ A ++ B ++ S)[u - 1]? = some x ∧ (P ++ A ++ B ++ S)[mid + m - u]? = some y ∧ lt y x = false) ∧
      (u = m ∨ u = mid ∨ ∃ x y, (P ++ A ++ B ++ S)[u]? = some x ∧ (P ++ A ++ B ++ S)[mid + m - 1 - u]? = some y ∧ lt y x = true))
    (I := fun (s : Int × Int) => ∃ u v : Nat, s.1 = (u : Int) ∧ s.2 = (v : Int) ∧ a ≤ u ∧ u ≤ v ∧ v ≤ m ∧ v ≤ mid ∧ mid + m ≤ e + u ∧
      (u = a ∨ mid + m = e + u ∨ ∃ x y, (P ++ A ++ B ++ S)[u - 1]? = some x ∧ (P ++ A ++ B ++ S)[mid + m - u]? = some y ∧ lt y x = false) ∧
      (v = m ∨ v = mid ∨ ∃ x y, (P ++ A ++ B ++ S)[v]? = some x ∧ (P ++ A ++ B ++ S)[mid + m - 1 - v]? = some y ∧ lt y x = true))
    (μ := fun s => (s.2 - s.1).toNat) ?_ ?_).mono ?_
  · rintro ⟨i, j⟩ ⟨u, v, h1, h2, h3, h4, h5, h6, h7, h8, h9⟩
    simp only at h1 h2
    subst h1 h2
    refine RB.cond (fun hc => ?_) (fun hc => ?_)
    · simp only [decide_eq_true_eq] at hc
      rw [half (x := ((u : Int) + v)) (by omega) (by simp only [room] at *; omega), show ((u : Int) + v) / 2 = (((u + v) / 2 : Nat) : Int) by omega]
      rw [show w64 (pp - (((u + v) / 2 : Nat) : Int)) = ((mid + m - 1 - (u + v) / 2 : Nat) : Int) from (by
        subst hpp
        rw [w64_r] <;> simp only [room] at * <;> omega)]
      have l1 : mid + m - 1 - (u + v) / 2 < (P ++ A ++ B ++ S).length := by simp only [List.length_append]; omega
      have l2 : (u + v) / 2 < (P ++ A ++ B ++ S).length := by simp only [List.length_append]; omega
      refine RB.bindE (idx_mem l1) (RB.bindE (idx_mem l2) (hp.val fun w hw => ?_))
      rw [hw]
      have g1 := List.getElem?_eq_getElem l1
      have g2 := List.getElem?_eq_getElem l2
      generalize (P ++ A ++ B ++ S)[mid + m - 1 - (u + v) / 2] = y at *
      generalize (P ++ A ++ B ++ S)[(u + v) / 2] = x at *
      cases hl : lt y x with
      | false =>
        refine RB.ret ⟨⟨(u + v) / 2 + 1, v, ?_, rfl, by omega, by omega, h5, h6, by omega, .inr (.inr ⟨x, y, by simpa using g2, ?_, hl⟩), h9⟩, ?_⟩
        · show w64 _ = _
          rw [w64_r] <;> simp only [room] at * <;> omega
        · rw [show mid + m - ((u + v) / 2 + 1) = mid + m - 1 - (u + v) / 2 by omega]
          exact g1
        · show ((v : Int) - w64 _).toNat < _
          rw [w64_r] <;> simp only [room] at * <;> omega
      | true =>
        refine RB.ret ⟨⟨u, (u + v) / 2, rfl, rfl, h3, by omega, by omega, by omega, h7, h8, .inr (.inr ⟨x, y, g2, g1, hl⟩)⟩, ?_⟩
        simp only
        omega
    · simp only [decide_eq_false_iff_not] at hc
      have : u = v := by omega
      subst this
      exact RB.ret ⟨u, rfl, h3, h5, h6, h7, h8, h9⟩
  · by_cases hc : mid < m
    · rw [if_pos hc] at h0
      simp only [Prod.mk.injEq] at h0
      refine ⟨mid + m - e, mid, ?_, ?_, ?_, ?_, ?_, ?_, ?_, ?_, ?_⟩
      · show s0 = _
        omega
      · exact h0.2
      all_goals omega
    · rw [if_neg hc] at h0
      simp only [Prod.mk.injEq] at h0
      refine ⟨a, m, h0.1, h0.2, ?_, ?_, ?_, ?_, ?_, ?_, ?_⟩
      all_goals omega
  · rintro i ⟨u, rfl, k1, k2, k3, k4, k5, k6⟩
    obtain ⟨A1, A2, rfl, e1⟩ := split_at (A := A) (u := u - a) (by omega)
    obtain ⟨B1, B2, rfl, e2⟩ := split_at (A := B) (u := mid + m - u - m) (by omega)
    simp only [List.length_append] at *
    refine ⟨A1, A2, B1, B2, rfl, rfl, by omega, by omega, ?_⟩
    have sA := hA
    have sB := hB
    rw [Srt, List.pairwise_append] at sA sB
    -- the first part's left, and the second's right
    have c1 : ∀ x ∈ A1, ∀ y ∈ B2, lt y x = false := by
      intro x hx y hy
      have n1 : A1 ≠ [] := List.ne_nil_of_mem hx
      cases B2 with
      | nil => cases hy
      | cons y0 B2 =>
        obtain ⟨L, z, rfl⟩ := last_of n1
        simp only [List.length_append, List.length_cons, List.length_nil] at *
        have k5' : ∃ x y, (P ++ (L ++ [z] ++ A2) ++ (B1 ++ y0 :: B2) ++ S)[u - 1]? = some x ∧ (P ++ (L ++ [z] ++ A2) ++ (B1 ++ y0 :: B2) ++ S)[mid + m - u]? = some y ∧ lt y x = false := by
          rcases k5 with h | h | h
          · omega
          · omega
          · exact h
        obtain ⟨x', y', q1, q2, q3⟩ := k5'
        have d1 : P ++ (L ++ [z] ++ A2) ++ (B1 ++ y0 :: B2) ++ S = (P ++ L) ++ z :: (A2 ++ (B1 ++ y0 :: B2) ++ S) := by simp
        have d2 : P ++ (L ++ [z] ++ A2) ++ (B1 ++ y0 :: B2) ++ S = (P ++ (L ++ [z] ++ A2) ++ B1) ++ y0 :: (B2 ++ S) := by simp
        rw [d1, get_at (by simp only [List.length_append]; omega)] at q1
        rw [d2, get_at (by simp only [List.length_append, List.length_cons, List.length_nil]; omega)] at q2
        injection q1 with q1
        injection q2 with q2
        subst q1 q2
        have hx' : lt z x = false := by
          rcases List.mem_append.1 hx with h | h
          · have := sA.1
            rw [List.pairwise_append] at this
            exact this.2.2 x h z (by simp)
          · rw [List.mem_singleton] at h
            subst h
            cases hq : lt x x with
            | false => rfl
            | true => have := o.asymm hq; rw [hq] at this; exact this
        have hy' : lt y y0 = false := by
          rcases List.mem_cons.1 hy with rfl | h
          · cases hq : lt y y with
            | false => rfl
            | true => have := o.asymm hq; rw [hq] at this; exact this
          · exact (List.pairwise_cons.1 sB.2.1).1 y h
        exact o.trans hx' (o.trans q3 hy')
    have c2 : ∀ x ∈ B1, ∀ y ∈ A2, lt y x = false := by
      intro x hx y hy
      have n1 : B1 ≠ [] := List.ne_nil_of_mem hx
      cases A2 with
      | nil => cases hy
      | cons y0 A2 =>
        obtain ⟨L, z, rfl⟩ := last_of n1
        simp only [List.length_append, List.length_cons, List.length_nil] at *
        have k6' : ∃ x y, (P ++ (A1 ++ y0 :: A2) ++ (L ++ [z] ++ B2) ++ S)[u]? = some x ∧ (P ++ (A1 ++ y0 :: A2) ++ (L ++ [z] ++ B2) ++ S)[mid + m - 1 - u]? = some y ∧ lt y x = true := by
          rcases k6 with h | h | h
          · omega
          · omega
          · exact h
        obtain ⟨x', y', q1, q2, q3⟩ := k6'
        have d1 : P ++ (A1 ++ y0 :: A2) ++ (L ++ [z] ++ B2) ++ S = (P ++ A1) ++ y0 :: (A2 ++ (L ++ [z] ++ B2) ++ S) := by simp
        have d2 : P ++ (A1 ++ y0 :: A2) ++ (L ++ [z] ++ B2) ++ S = (P ++ (A1 ++ y0 :: A2) ++ L) ++ z :: (B2 ++ S) := by simp
        rw [d1, get_at (by simp only [List.length_append]; omega)] at q1
        rw [d2, get_at (by simp only [List.length_append, List.length_cons, List.length_nil]; omega)] at q2
        injection q1 with q1
        injection q2 with q2
        subst q1 q2
        have hx' : lt z x = false := by
          rcases List.mem_append.1 hx with h | h
          · have := sB.1
            rw [List.pairwise_append] at this
            exact this.2.2 x h z (by simp)
          · rw [List.mem_singleton] at h
            subst h
            cases hq : lt x x with
            | false => rfl
            | true => have := o.asymm hq; rw [hq] at this; exact this
        have hy' : lt y y0 = false := by
          rcases List.mem_cons.1 hy with rfl | h
          · cases hq : lt y y with
            | false => rfl
            | true => have := o.asymm hq; rw [hq] at this; exact this
          · exact (List.pairwise_cons.1 sA.2.1).1 y h
        exact o.trans hx' (o.trans (o.asymm q3) hy')
    intro x hx y hy
    rcases List.mem_append.1 hx with hx | hx <;> rcases List.mem_append.1 hy with hy | hy
    · exact sA.2.2 x hx y hy
    · exact c1 x hx y hy
    · exact c2 x hx y hy
    · exact sB.2.2 x hx y hy

theorem symMerge_rb {p : N → N → Option Int} {lt : N → N → Bool} (o : Ord lt) (hp : Less p lt) : ∀ (n : Nat) (P A B S : List N) (a m b : Int), a = (P.length : Int) → m = ((P ++ A).length : Int) → b = ((P ++ A ++ B).length : Int) →
    ((P ++ A ++ B ++ S).length : Int) ≤ room → A ≠ [] → B ≠ [] → Srt lt A → Srt lt B →
    RB (A.length + B.length ≤ n) (slices_symMergeCmpFunc_registrar_api_Need_fu n (P ++ A ++ B ++ S) a m b p) (fun r => ∃ C, r = P ++ C ++ S ∧ C.Perm (A ++ B) ∧ Srt lt C)
  | 0, P, A, B, S, a, m, b, ha, hm, hb, hlen, hA0, hB0, hA, hB => by
    have := List.length_pos_iff.2 hA0
    exact RB.none (by omega)
  | n + 1, P, A, B, S, a, m, b, ha, hm, hb, hlen, hA0, hB0, hA, hB => by
    have hlA : 0 < A.length := List.length_pos_iff.2 hA0
    have hlB : 0 < B.length := List.length_pos_iff.2 hB0
    have hlen' := hlen
    simp only [List.length_append] at hlen
    unfold slices_symMergeCmpFunc_registrar_api_Need_fu
    have e1 : w64 (m - a) = (A.length : Int) := by
      subst ha hm
      simp only [List.length_append]
      rw [w64_r] <;> simp only [room] at * <;> omega
    have e2 : w64 (b - m) = (B.length : Int) := by
      subst hb hm
      simp only [List.length_append]
      rw [w64_r] <;> simp only [room] at * <;> omega
    rw [e1, e2]
    refine RB.cond (fun hc => ?_) (fun hc => RB.cond (fun hc2 => ?_) (fun hc2 => ?_))
    · have hA1 : A.length = 1 := by simp at hc; omega
      obtain ⟨x, rfl⟩ : ∃ x, A = [x] := List.length_eq_one_iff.1 hA1
      refine RB.bind ((find_left o hp hB a m b ha hm hb hlen').weak (fun _ => trivial)) ?_
      rintro i ⟨B1, B2, rfl, hi, q1, q2⟩
      have hfin := one_left (p := p) o (P := P) (B1 := B1) (B2 := B2) (S := S) (x := x) a i ha hi (by simpa using hlen')
      rw [show P ++ [x] ++ (B1 ++ B2) ++ S = P ++ [x] ++ B1 ++ B2 ++ S by simp]
      refine RB.bindE hfin (RB.ret ⟨B1 ++ x :: B2, by simp, ?_, ?_⟩)
      · exact List.perm_middle
      · rw [Srt, List.pairwise_append] at hB ⊢
        refine ⟨hB.1, List.pairwise_cons.2 ⟨fun z hz => q2 z hz, hB.2.1⟩, fun z hz y hy => ?_⟩
        rcases List.mem_cons.1 hy with rfl | hy
        · exact o.asymm (q1 z hz)
        · exact hB.2.2 z hz y hy
    · have hB1 : B.length = 1 := by simp at hc2; omega
      obtain ⟨y, rfl⟩ : ∃ x, B = [x] := List.length_eq_one_iff.1 hB1
      refine RB.bind ((find_right o hp hA a m ha hm hlen').weak (fun _ => trivial)) ?_
      rintro i ⟨A1, A2, rfl, hi, q1, q2⟩
      have hfin := one_right (p := p) o (P := P) (A1 := A1) (A2 := A2) (S := S) (y := y) m i (by simpa using hm) hi (by simpa using hlen')
      rw [show P ++ (A1 ++ A2) ++ [y] ++ S = P ++ A1 ++ A2 ++ [y] ++ S by simp]
      refine RB.bindE hfin (RB.ret ⟨A1 ++ y :: A2, by simp, ?_, ?_⟩)
      · refine List.perm_middle.trans ?_
        exact (List.perm_append_singleton y (A1 ++ A2)).symm
      · refine hA.put o (fun z hz => q1 z (List.mem_of_mem_getLast? hz)) q2
    · have hA2 : A.length ≠ 1 := by intro e; rw [e] at hc; simp at hc
      have hB2 : B.length ≠ 1 := by intro e; rw [e] at hc2; simp at hc2
      have em : w64 (Int.fdiv (IntKind.wrap .u64 (w64 (a + b))) (2 ^ 1)) = (((P.length + (P ++ A ++ B).length) / 2 : Nat) : Int) := by
        rw [half (by omega) (by subst ha hb; simp only [List.length_append, room] at *; omega)]
        subst ha hb
        omega
      rw [em]
      generalize hmid : (P.length + (P ++ A ++ B).length) / 2 = mid
      have hmid' := hmid
      simp only [List.length_append] at hmid' hm hb
      have en : w64 ((mid : Int) + m) = ((mid + (P.length + A.length) : Nat) : Int) := by
        rw [w64_r] <;> simp only [room] at * <;> omega
      rw [en]
      have es : w64 (((mid + (P.length + A.length) : Nat) : Int) - b) = ((mid + (P.length + A.length) : Nat) : Int) - b := by
        rw [w64_r] <;> simp only [room] at * <;> omega
      have ep : w64 (((mid + (P.length + A.length) : Nat) : Int) - 1) = ((mid + (P.length + A.length) : Nat) : Int) - 1 := by
        rw [w64_r] <;> simp only [room] at * <;> omega
      rw [es, ep]
      refine RB.bindE (x := if (mid < P.length + A.length) then (((mid + (P.length + A.length) : Nat) : Int) - b, (mid : Int)) else (a, m)) ?_ ?_
      · by_cases hc3 : mid < P.length + A.length
        · rw [if_pos hc3, show decide (m > (mid : Int)) = true from decide_eq_true (by omega)]
          rfl
        · rw [if_neg hc3, show decide (m > (mid : Int)) = false from decide_eq_false (by omega)]
          rfl
      generalize h0 : (if (mid < P.length + A.length) then (((mid + (P.length + A.length) : Nat) : Int) - b, (mid : Int)) else (a, m)) = q0
      obtain ⟨s0, r0⟩ := q0
      have hcut := find_cut o hp (S := S) hA hB P.length (P.length + A.length) (P.length + A.length + B.length) mid rfl (by simp) (by simp only [List.length_append]) hmid'.symm hlen' hA0 hB0 s0 r0 (by
        rw [← h0]
        subst ha hm hb
        rfl) _ rfl
      refine RB.bind (hcut.weak (fun _ => trivial)) ?_
      rintro i ⟨A1, A2, B1, B2, rfl, rfl, rfl, hcount, hcross⟩
      simp only [List.length_append] at hcount hm hb hlen hmid' hlA hlB hA2 hB2
      have eend : w64 (((mid + (P.length + (A1 ++ A2).length) : Nat) : Int) - ((P ++ A1).length : Int)) = ((P.length + (A1.length + A2.length) + B1.length : Nat) : Int) := by
        simp only [List.length_append]
        rw [w64_r] <;> simp only [room] at * <;> omega
      rw [eend]
      have sA := hA
      have sB := hB
      rw [Srt, List.pairwise_append] at sA sB
      refine RB.bindE (x := P ++ A1 ++ B1 ++ A2 ++ B2 ++ S) ?_ ?_
      · by_cases h1 : A2 = []
        · subst h1
          rw [show decide (((P ++ A1).length : Int) < m) = false from decide_eq_false (by simp only [List.length_append, List.length_nil] at *; omega)]
          simp
        · by_cases h2 : B1 = []
          · subst h2
            rw [show decide (m < ((P.length + (A1.length + A2.length) + ([] : List N).length : Nat) : Int)) = false from decide_eq_false (by simp only [List.length_nil] at *; omega)]
            rw [Bool.and_false]
            simp
          · have p1 := List.length_pos_iff.2 h1
            have p2 := List.length_pos_iff.2 h2
            rw [show decide (((P ++ A1).length : Int) < m) = true from decide_eq_true (by simp only [List.length_append] at *; omega), show decide (m < ((P.length + (A1.length + A2.length) + B1.length : Nat) : Int)) = true from decide_eq_true (by omega)]
            have hr := rotate_eq (P ++ A1) A2 B1 (B2 ++ S) p ((P ++ A1).length : Int) m ((P.length + (A1.length + A2.length) + B1.length : Nat) : Int) rfl (by simp only [List.length_append] at *; omega) (by simp only [List.length_append] at *; omega) h1 h2 (by simp only [List.length_append] at *; omega)
            rw [show P ++ (A1 ++ A2) ++ (B1 ++ B2) ++ S = P ++ A1 ++ A2 ++ B1 ++ (B2 ++ S) by simp]
            show Option.bind _ _ = _
            rw [hr]
            simp
      refine RB.bind (R := fun r => ∃ C1, r = P ++ C1 ++ (A2 ++ B2 ++ S) ∧ C1.Perm (A1 ++ B1) ∧ Srt lt C1) ?_ ?_
      · refine RB.cond (fun hc4 => ?_) (fun hc4 => ?_)
        · simp only [Bool.and_eq_true, decide_eq_true_eq, List.length_append] at hc4
          have hn1 : A1 ≠ [] := by rintro rfl; simp at hc4; omega
          have hn2 : B1 ≠ [] := by rintro rfl; simp at hc4; simp only [List.length_nil] at *; omega
          have := symMerge_rb o hp n P A1 B1 (A2 ++ B2 ++ S) a ((P ++ A1).length : Int) (mid : Int) ha rfl (by simp only [List.length_append] at *; omega) (by simp only [List.length_append] at *; omega) hn1 hn2 sA.1 sB.1
          rw [show P ++ A1 ++ B1 ++ A2 ++ B2 ++ S = P ++ A1 ++ B1 ++ (A2 ++ B2 ++ S) by simp]
          refine RB.bind (this.weak (fun h => ?_)) (fun r hr => RB.ret hr)
          simp only [List.length_append] at h
          omega
        · refine RB.ret ⟨A1 ++ B1, by simp, List.Perm.refl _, ?_⟩
          simp only [Bool.and_eq_false_iff, decide_eq_false_iff_not, List.length_append] at hc4
          by_cases hn1 : A1 = []
          · subst hn1; simpa using sB.1
          · have := List.length_pos_iff.2 hn1
            have : B1 = [] := List.eq_nil_of_length_eq_zero (by omega)
            subst this
            simpa using sA.1
      · rintro r ⟨C1, rfl, hperm1, hs1⟩
        have hl1 := hperm1.length_eq
        simp only [List.length_append] at hl1
        refine RB.bind (R := fun r => ∃ C2, r = P ++ C1 ++ C2 ++ S ∧ C2.Perm (A2 ++ B2) ∧ Srt lt C2) ?_ ?_
        · refine RB.cond (fun hc4 => ?_) (fun hc4 => ?_)
          · simp only [Bool.and_eq_true, decide_eq_true_eq] at hc4
            have hn1 : A2 ≠ [] := by rintro rfl; simp only [List.length_nil] at *; omega
            have hn2 : B2 ≠ [] := by rintro rfl; simp only [List.length_nil] at *; omega
            have := symMerge_rb o hp n (P ++ C1) A2 B2 S (mid : Int) ((P.length + (A1.length + A2.length) + B1.length : Nat) : Int) b (by simp only [List.length_append] at *; omega) (by simp only [List.length_append] at *; omega) (by simp only [List.length_append] at *; omega) (by simp only [List.length_append] at *; omega) hn1 hn2 sA.2.1 sB.2.1
            rw [show P ++ C1 ++ (A2 ++ B2 ++ S) = P ++ C1 ++ A2 ++ B2 ++ S by simp]
            refine RB.bind (this.weak (fun h => ?_)) (fun r hr => RB.ret hr)
            simp only [List.length_append] at h
            omega
          · refine RB.ret ⟨A2 ++ B2, by simp, List.Perm.refl _, ?_⟩
            simp only [Bool.and_eq_false_iff, decide_eq_false_iff_not] at hc4
            by_cases hn1 : A2 = []
            · subst hn1; simpa using sB.2.1
            · have := List.length_pos_iff.2 hn1
              have : B2 = [] := List.eq_nil_of_length_eq_zero (by omega)
              subst this
              simpa using sA.2.1
        · rintro r ⟨C2, rfl, hperm2, hs2⟩
          refine RB.ret ⟨C1 ++ C2, by simp, ?_, ?_⟩
          · refine (List.Perm.append hperm1 hperm2).trans ?_
            rw [List.append_assoc, List.append_assoc]
            refine List.Perm.append_left A1 ?_
            rw [← List.append_assoc, ← List.append_assoc]
            exact List.Perm.append_right B2 List.perm_append_comm
          · rw [Srt, List.pairwise_append]
            exact ⟨hs1, hs2, fun x hx y hy => hcross x (hperm1.subset hx) y (hperm2.subset hy)⟩

theorem symMerge_ret {p : N → N → Option Int} {lt : N → N → Bool} (o : Ord lt) (hp : Less p lt) (P A B S : List N) (a m b : Int) (ha : a = (P.length : Int)) (hm : m = ((P ++ A).length : Int)) (hb : b = ((P ++ A ++ B).length : Int))
    (hlen : ((P ++ A ++ B ++ S).length : Int) ≤ room) (hA0 : A ≠ []) (hB0 : B ≠ []) (hA : Srt lt A) (hB : Srt lt B) :
    Ret (slices_symMergeCmpFunc_registrar_api_Need (P ++ A ++ B ++ S) a m b p) (fun r => ∃ C, r = P ++ C ++ S ∧ C.Perm (A ++ B) ∧ Srt lt C) :=
  RB.fuel (N := A.length + B.length) (fun n => symMerge_rb o hp n P A B S a m b ha hm hb hlen hA0 hB0 hA hB)

/-! ### Blocks -/
abbrev Full (lt : N → N → Bool) (k : Nat) (ls : List (List N)) : Prop := ∀ x ∈ ls, Srt lt x ∧ x.length = k
theorem full_len {lt : N → N → Bool} {k : Nat} : ∀ {ls : List (List N)}, Full lt k ls → ls.flatten.length = ls.length * k
  | [], _ => by simp
  | x :: r, h => by
    have := full_len (lt := lt) (k := k) (ls := r) (fun y hy => h y (by simp [hy]))
    simp only [List.flatten_cons, List.length_append, List.length_cons, this, (h x (by simp)).2, Nat.add_mul]
    omega
def Blk (lt : N → N → Bool) (k : Nat) (d : List N) : Prop := ∃ ls last, d = ls.flatten ++ last ∧ Full lt k ls ∧ Srt lt last ∧ last.length ≤ k

theorem pass_ret {p : N → N → Option Int} {lt : N → N → Bool} (o : Ord lt) (hp : Less p lt) (k : Nat) (hk : 0 < k) (d : List N) (n : Int) (hn : n = (d.length : Int)) (hkn : (k : Int) ≤ room) (hlen : (d.length : Int) ≤ room) (hd : Blk lt k d) :
    Ret ((loopO (fun (s : Int × Int × (List api_Need)) => match s with | (s38, s39, s40) => (bif (decide (s39 ≤ n)) then (slices_symMergeCmpFunc_registrar_api_Need s40 s38 (w64 (s38 + (k : Int))) s39 p).bind (fun (r50 : List api_Need) => some (.inl (s39, (w64 (s39 + (w64 (2 * (k : Int))))), r50))) else some (.inr (s38, s40)))) (0, (w64 (2 * (k : Int))), d)).bind (fun ((s52, s53) : Int × (List api_Need)) => ((bif (decide ((w64 (s52 + (k : Int))) < n)) then (slices_symMergeCmpFunc_registrar_api_Need s53 s52 (w64 (s52 + (k : Int))) n p).bind (fun (r63 : List api_Need) => some r63) else some s53))))
      (fun r => Blk lt (2 * k) r ∧ r.Perm d) := by
  subst hn
  have e2 : w64 (2 * (k : Int)) = ((2 * k : Nat) : Int) := by rw [w64_r] <;> simp only [room] at * <;> omega
  rw [e2]
  obtain ⟨ls0, last0, hd0, hf0, hs0, hl0⟩ := hd
  refine RB.bind (loopO_rb (Q := fun (r : Int × List N) => ∃ (qs : List (List N)) (A B : List N), Full lt (2 * k) qs ∧ r.1 = (qs.flatten.length : Int) ∧ r.2 = qs.flatten ++ A ++ B ∧ Srt lt A ∧ Srt lt B ∧ (A = [] ∨ A.length = k) ∧ B.length ≤ k ∧ (A = [] ∨ B.length < k) ∧ r.2.Perm d)
    (I := fun (s : Int × Int × List N) => ∃ (qs ls : List (List N)) (last : List N), Full lt (2 * k) qs ∧ Full lt k ls ∧ Srt lt last ∧ last.length ≤ k ∧ s.1 = (qs.flatten.length : Int) ∧ s.2.1 = s.1 + ((2 * k : Nat) : Int) ∧ s.2.2 = qs.flatten ++ ls.flatten ++ last ∧ s.2.2.Perm d)
    (μ := fun s => (2 * (d.length + 2 * k) : Nat) - s.1.toNat) ?_ ⟨[], ls0, last0, (by intro x hx; cases hx), hf0, hs0, hl0, rfl, by simp, by simpa using hd0, List.Perm.refl _⟩) ?_
  · rintro ⟨a, b, e⟩ ⟨qs, ls, last, h1, h2, h3, h4, h5, h6, h7, h8⟩
    simp only at h5 h6 h7 h8
    have hl := h8.length_eq
    subst h5 h6
    rw [h7] at hl h8 ⊢
    simp only [List.length_append] at hl
    refine RB.cond (fun hc => ?_) (fun hc => ?_)
    · simp only [decide_eq_true_eq] at hc
      have step : ∀ (A B S : List N) (ls' : List (List N)) (last' : List N), ls.flatten ++ last = A ++ B ++ S → Srt lt A → Srt lt B → A.length = k → B.length = k → S = ls'.flatten ++ last' → Full lt k ls' → Srt lt last' → last'.length ≤ k →
          RB True ((slices_symMergeCmpFunc_registrar_api_Need (qs.flatten ++ ls.flatten ++ last) (qs.flatten.length : Int) (w64 ((qs.flatten.length : Int) + (k : Int))) ((qs.flatten.length : Int) + ((2 * k : Nat) : Int)) p).bind (fun (r50 : List api_Need) => some (Sum.inl (((qs.flatten.length : Int) + ((2 * k : Nat) : Int)), (w64 (((qs.flatten.length : Int) + ((2 * k : Nat) : Int)) + ((2 * k : Nat) : Int))), r50) : (Int × Int × List N) ⊕ (Int × List N))))
            (fun r => ∃ s', r = .inl s' ∧ ((∃ (qs ls : List (List N)) (last : List N), Full lt (2 * k) qs ∧ Full lt k ls ∧ Srt lt last ∧ last.length ≤ k ∧ s'.1 = (qs.flatten.length : Int) ∧ s'.2.1 = s'.1 + ((2 * k : Nat) : Int) ∧ s'.2.2 = qs.flatten ++ ls.flatten ++ last ∧ s'.2.2.Perm d) ∧ (2 * (d.length + 2 * k) : Nat) - s'.1.toNat < (2 * (d.length + 2 * k) : Nat) - ((qs.flatten.length : Int)).toNat)) := by
        intro A B S ls' last' heq hA hB lA lB hS hf' hs' hl'
        have hq := congrArg List.length heq
        simp only [List.length_append] at hq
        rw [show qs.flatten ++ ls.flatten ++ last = qs.flatten ++ A ++ B ++ S by rw [List.append_assoc, heq]; simp]
        have e3 : w64 ((qs.flatten.length : Int) + (k : Int)) = ((qs.flatten ++ A).length : Int) := by
          simp only [List.length_append, lA]
          rw [w64_r] <;> simp only [room] at * <;> omega
        rw [e3]
        refine RB.bind (symMerge_ret o hp qs.flatten A B S _ _ _ rfl rfl (by simp only [List.length_append, lA, lB]; omega) (by simp only [List.length_append] at *; omega) (by rintro rfl; simp at lA; omega) (by rintro rfl; simp at lB; omega) hA hB) ?_
        rintro r ⟨C, rfl, hC1, hC2⟩
        have hlC := hC1.length_eq
        simp only [List.length_append, lA, lB] at hlC
        refine RB.ret ⟨_, rfl, ⟨qs ++ [C], ls', last', ?_, hf', hs', hl', ?_, ?_, ?_, ?_⟩, ?_⟩
        · intro x hx
          rcases List.mem_append.1 hx with h | h
          · exact h1 x h
          · rw [List.mem_singleton] at h
            subst h
            exact ⟨hC2, by omega⟩
        · simp only [List.flatten_append, List.flatten_cons, List.flatten_nil, List.append_nil, List.length_append]
          omega
        · show w64 _ = _
          rw [w64_r] <;> simp only [room] at * <;> omega
        · subst hS
          simp
        · refine List.Perm.trans ?_ h8
          show (qs.flatten ++ C ++ S).Perm _
          rw [List.append_assoc, List.append_assoc qs.flatten ls.flatten last, heq]
          refine List.Perm.append_left _ ?_
          exact List.Perm.append_right S hC1
        · show _ - (((qs.flatten.length : Int) + ((2 * k : Nat) : Int))).toNat < _
          omega
      cases ls with
      | nil => simp only [List.flatten_nil, List.length_nil] at hl; omega
      | cons A ls =>
        have hA := h2 A (by simp)
        cases ls with
        | nil =>
          simp only [List.flatten_cons, List.flatten_nil, List.append_nil] at hl
          have hlast : last.length = k := by rw [hA.2] at hl; omega
          refine (step A last [] [] [] (by simp) hA.1 h3 hA.2 hlast (by simp) (by intro x hx; cases hx) List.Pairwise.nil (by simp)).mono ?_
          rintro r ⟨s', rfl, h⟩
          exact h
        | cons B ls =>
          have hB := h2 B (by simp)
          refine (step A B (ls.flatten ++ last) ls last (by simp) hA.1 hB.1 hA.2 hB.2 rfl (fun x hx => h2 x (by simp [hx])) h3 h4).mono ?_
          rintro r ⟨s', rfl, h⟩
          exact h
    · simp only [decide_eq_false_iff_not] at hc
      refine RB.ret ?_
      cases ls with
      | nil => exact ⟨qs, [], last, h1, rfl, by simp, List.Pairwise.nil, h3, .inl rfl, h4, .inl rfl, h8⟩
      | cons A ls =>
        have hA := h2 A (by simp)
        cases ls with
        | nil =>
          simp only [List.flatten_cons, List.flatten_nil, List.append_nil] at hl
          rw [hA.2] at hl
          exact ⟨qs, A, last, h1, rfl, by simp, hA.1, h3, .inr hA.2, h4, .inr (by omega), h8⟩
        | cons B ls =>
          have hB := h2 B (by simp)
          simp only [List.flatten_cons, List.length_append] at hl
          rw [hA.2, hB.2] at hl
          omega
  · rintro ⟨a, e⟩ ⟨qs, A, B, h1, h2, h3, h4, h5, h6, h7, h8, h9⟩
    simp only at h2 h3 h9
    have hl := h9.length_eq
    subst h2 h3
    simp only [List.length_append] at hl
    have e3 : w64 ((qs.flatten.length : Int) + (k : Int)) = ((qs.flatten.length + k : Nat) : Int) := by
      rw [w64_r] <;> simp only [room] at * <;> omega
    refine RB.cond (fun hc => ?_) (fun hc => ?_)
    · rw [e3] at hc ⊢
      simp only [decide_eq_true_eq] at hc
      have hA : A ≠ [] := by rintro rfl; simp only [List.length_nil] at hl; omega
      have hAk := h6.resolve_left hA
      have hB : B ≠ [] := by rintro rfl; simp only [List.length_nil] at hl; omega
      have := symMerge_ret o hp qs.flatten A B [] (qs.flatten.length : Int) ((qs.flatten.length + k : Nat) : Int) (d.length : Int) rfl (by simp only [List.length_append, hAk]) (by simp only [List.length_append]; omega) (by simp only [List.length_append, List.length_nil]; omega) hA hB h4 h5
      simp only [List.append_nil] at this
      refine RB.bind this ?_
      rintro r ⟨C, rfl, hC1, hC2⟩
      have hlC := hC1.length_eq
      simp only [List.length_append] at hlC
      refine RB.ret ⟨⟨qs, C, rfl, h1, hC2, by omega⟩, ?_⟩
      refine List.Perm.trans ?_ h9
      rw [List.append_assoc]
      exact List.Perm.append_left _ hC1
    · rw [e3] at hc
      simp only [decide_eq_false_iff_not] at hc
      refine RB.ret ⟨⟨qs, A ++ B, by simp, h1, ?_, ?_⟩, h9⟩
      · rcases h6 with rfl | h6
        · simpa using h5
        · have : B = [] := List.eq_nil_of_length_eq_zero (by omega)
          subst this
          simpa using h4
      · rcases h6 with rfl | h6
        · simp; omega
        · simp only [List.length_append]; omega

theorem stable_ret {p : N → N → Option Int} {lt : N → N → Bool} (o : Ord lt) (hp : Less p lt) (l : List N) (hlen : (l.length : Int) ≤ room) : Ret (slices_SortStableFunc_api_Need l p) (fun r => r.Perm l ∧ Srt lt r) := by
  unfold slices_SortStableFunc_api_Need slices_stableCmpFunc_registrar_api_Need
  refine RB.bind (R := fun r => r.Perm l ∧ Srt lt r) ?_ (fun r hr => RB.ret hr)
  refine RB.bind (loopO_rb (Q := fun (r : Int × List N) => ∃ (qs : List (List N)) (R : List N), Full lt 20 qs ∧ r.1 = (qs.flatten.length : Int) ∧ r.2 = qs.flatten ++ R ∧ R.length < 20 ∧ r.2.Perm l)
    (I := fun (s : Int × Int × List N) => ∃ (qs : List (List N)) (R : List N), Full lt 20 qs ∧ s.1 = (qs.flatten.length : Int) ∧ s.2.1 = s.1 + 20 ∧ s.2.2 = qs.flatten ++ R ∧ s.2.2.Perm l)
    (μ := fun s => (l.length + 100) - s.1.toNat) ?_ ⟨[], l, (by intro x hx; cases hx), rfl, rfl, rfl, List.Perm.refl _⟩) ?_
  · rintro ⟨a, b, e⟩ ⟨qs, R, h1, h2, h3, h4, h5⟩
    simp only at h2 h3 h4 h5
    subst h2 h3 h4
    have hl := h5.length_eq
    simp only [List.length_append] at hl
    refine RB.cond (fun hc => ?_) (fun hc => ?_)
    · simp only [decide_eq_true_eq] at hc
      obtain ⟨A, S, rfl, hA⟩ := split_at (A := R) (u := 20) (by omega)
      simp only [List.length_append, hA] at hl
      have := insertion_ret o hp qs.flatten A S (qs.flatten.length : Int) ((qs.flatten.length : Int) + 20) rfl (by simp only [List.length_append, hA]; omega) (by simp only [List.length_append, hA]; omega)
      rw [List.append_assoc] at this
      refine RB.bind this ?_
      rintro r ⟨C, rfl, hC1, hC2⟩
      have hlC := hC1.length_eq
      refine RB.ret ⟨⟨qs ++ [C], S, ?_, ?_, ?_, ?_, ?_⟩, ?_⟩
      · intro x hx
        rcases List.mem_append.1 hx with h | h
        · exact h1 x h
        · rw [List.mem_singleton] at h
          subst h
          exact ⟨hC2, by omega⟩
      · simp only [List.flatten_append, List.flatten_cons, List.flatten_nil, List.append_nil, List.length_append]
        omega
      · show w64 _ = _
        rw [w64_r] <;> simp only [room] at * <;> omega
      · simp
      · refine List.Perm.trans ?_ h5
        show (qs.flatten ++ C ++ S).Perm _
        rw [List.append_assoc]
        exact List.Perm.append_left _ (List.Perm.append_right S hC1)
      · show _ - ((qs.flatten.length : Int) + 20).toNat < _
        omega
    · simp only [decide_eq_false_iff_not] at hc
      exact RB.ret ⟨qs, R, h1, rfl, rfl, by omega, h5⟩
  · rintro ⟨a, e⟩ ⟨qs, R, h1, h2, h3, h4, h5⟩
    simp only at h2 h3 h5
    subst h2 h3
    have hl := h5.length_eq
    simp only [List.length_append] at hl
    have := insertion_ret o hp qs.flatten R [] (qs.flatten.length : Int) (l.length : Int) rfl (by simp only [List.length_append]; omega) (by simp only [List.length_append, List.length_nil]; omega)
    simp only [List.append_nil] at this
    refine RB.bind this ?_
    rintro r ⟨C, rfl, hC1, hC2⟩
    have hlC := hC1.length_eq
    have hperm : (qs.flatten ++ C).Perm l := (List.Perm.append_left _ hC1).trans h5
    have hblk : Blk lt 20 (qs.flatten ++ C) := ⟨qs, C, rfl, h1, hC2, by omega⟩
    refine RB.bind (R := fun r => r.Perm l ∧ Srt lt r) ?_ (fun r hr => RB.ret hr)
    refine loopO_rb (Q := fun r => r.Perm l ∧ Srt lt r) (I := fun (s : Int × List N) => ∃ k : Nat, 0 < k ∧ s.1 = (k : Int) ∧ (k : Int) ≤ 2 * l.length + 40 ∧ Blk lt k s.2 ∧ s.2.Perm l) (μ := fun s => (2 * l.length + 100) - s.1.toNat) (s := ((20 : Int), qs.flatten ++ C)) ?_ ⟨20, by omega, rfl, by omega, hblk, hperm⟩
    rintro ⟨bs, d⟩ ⟨k, k1, k2, k3, k4, k5⟩
    simp only at k2 k4 k5
    subst k2
    have hld := k5.length_eq
    refine RB.cond (fun hc => ?_) (fun hc => ?_)
    · simp only [decide_eq_true_eq] at hc
      have := pass_ret o hp k k1 d (l.length : Int) (by omega) (by simp only [room] at *; omega) (by omega) k4
      have e3 : w64 ((k : Int) * 2) = ((2 * k : Nat) : Int) := by rw [w64_r] <;> simp only [room] at * <;> omega
      have hfin : ∀ j : List N, Blk lt (2 * k) j ∧ j.Perm d → RB True (some (Sum.inl (w64 ((k : Int) * 2), j)) : Option ((Int × List N) ⊕ List N)) (fun r => ∃ s', r = .inl s' ∧ (∃ k : Nat, 0 < k ∧ s'.1 = (k : Int) ∧ (k : Int) ≤ 2 * l.length + 40 ∧ Blk lt k s'.2 ∧ s'.2.Perm l) ∧ (2 * l.length + 100) - s'.1.toNat < (2 * l.length + 100) - (k : Int).toNat) := by
        rintro j ⟨hj1, hj2⟩
        refine RB.ret ⟨_, rfl, ⟨2 * k, by omega, e3, by omega, hj1, hj2.trans k5⟩, ?_⟩
        simp only [e3]
        omega
      have h2 := RB.bind this hfin
      rw [Option.bind_assoc] at h2
      refine RB.mono (Q := fun r => ∃ s', r = .inl s' ∧ (∃ k : Nat, 0 < k ∧ s'.1 = (k : Int) ∧ (k : Int) ≤ 2 * l.length + 40 ∧ Blk lt k s'.2 ∧ s'.2.Perm l) ∧ (2 * l.length + 100) - s'.1.toNat < (2 * l.length + 100) - (k : Int).toNat) h2 ?_
      rintro r ⟨s', rfl, h⟩
      exact h
    · simp only [decide_eq_false_iff_not] at hc
      refine RB.ret ⟨k5, ?_⟩
      obtain ⟨ls, last, rfl, q2, q3, q4⟩ := k4
      simp only [List.length_append] at hld
      cases ls with
      | nil => simpa using q3
      | cons x ls =>
        have hx := q2 x (by simp)
        simp only [List.flatten_cons, List.length_append] at hld
        rw [hx.2] at hld
        have hz : ls.flatten = [] := List.eq_nil_of_length_eq_zero (by omega)
        have hz2 : last = [] := List.eq_nil_of_length_eq_zero (by omega)
        rw [List.flatten_cons, hz, hz2]
        simpa using hx.1
end Go.Proofs.Ytfabocipcjnfnaa
