/- A role that is granted is one of all that the member is; revoked, all is as it was. Conditions: none. -/
import Derived.Test.YthndadengamanaaHolds
namespace Go.Proofs.Ythndadengamanaa
open Go.Gv
theorem filter_back {A B : List ByteArray} {n : ByteArray} (h1 : ∀ y ∈ A, sLt y n = true) (h2 : ∀ y ∈ B, sLt n y = true) : (A ++ n :: B).filter (fun s => !sEq s n) = A ++ B := by
  rw [List.filter_append, List.filter_cons, keq.refl]
  simp only [Bool.not_true, Bool.false_eq_true, if_false]
  rw [List.filter_eq_self.2 fun y hy => by rw [keq.ne (sLt_ne (h1 y hy))]; rfl, List.filter_eq_self.2 fun y hy => by rw [keq.ne (sLt_ne (h2 y hy)).symm]; rfl]
theorem Rch.end_ {l : List Role} {a b : ByteArray} (h : Rch l a b) : b = a ∨ has l b := by
  cases h with
  | self => exact .inl rfl
  | step _ _ hh => exact .inr hh
theorem apart_ok {A B C : Prop} (p0 : List registrarlaw18_Act) (p1 p2 : ByteArray) (_ : A) (_ : B) (_ : C) : registrarlaw18_MemberApart p0 p1 p2 = some true := by
  refine Ret.eq ?_
  unfold registrarlaw18_MemberApart
  refine RB.bind (R := fun t => (t = .inl true) ∨ ∃ l, t = .inr l ∧ Ok l) (loopO_rb (fun (q : List Role × Int) => ∃ i : Nat, q.2 = (i : Int) ∧ i ≤ 40 ∧ Ok q.1) (fun q => 40 - q.2.toNat) ?_ ⟨0, rfl, by omega, root_ok⟩) ?_
  · rintro ⟨l, q⟩ ⟨i, hi, hi2, hl⟩
    simp only at hi hl
    subst hi
    refine RB.cond (fun hc => ?_) (fun hc => RB.ret (.inr ⟨l, rfl, hl⟩))
    have hc2 : i < p0.length ∧ i < 40 := by simp at hc; omega
    have hx : p0[i]? = some p0[i] := List.getElem?_eq_getElem hc2.1
    obtain ⟨b, hb, hb2⟩ := long_eq p0[i]
    simp only [idx_nat, hx, Option.bind_some, hb]
    refine RB.cond (fun _ => ?_) (fun e => ?_)
    · rw [works_eq]
      exact RB.ret (.inl rfl)
    · obtain ⟨g1, g2⟩ := hb2 e
      obtain ⟨r, e, hd, hd2⟩ := done_ok hl p0[i] g1 g2
      rw [hd]
      simp only [Option.bind_some]
      refine RB.bind (R := fun l' => Ok l') (RB.cond (fun he => RB.ret (hd2 (eq_of_beq he)).1) (fun _ => RB.ret hl)) ?_
      intro l' h1
      exact RB.ret ⟨⟨i + 1, by simp only; rw [w64_id (by omega) (by omega)]; rfl, by omega, h1⟩, by simp only; rw [w64_id (by omega) (by omega)]; omega⟩
  · rintro t (rfl | ⟨l, rfl, hl⟩)
    · exact RB.ret rfl
    · refine RB.cond (fun _ => ?_) (fun hlong => ?_)
      · rw [works_eq]
        exact RB.ret rfl
      have hz1 : p1.size ≤ 100 := by simp at hlong; omega
      obtain ⟨x, e, hg, hge⟩ : ∃ x e, member_Grant l p1 p2 = some (x, e) ∧ (e = 0 → Ok x ∧ member_Is x p2 p1 = some true ∧ member_Revoke x p1 p2 = some (l, 0)) := by
        rcases grant_ok hl p1 p2 with ⟨_, e⟩ | ⟨k, x, g1, g2, g3, ⟨_, e⟩ | ⟨_, _, e⟩ | ⟨hni, g4, A, B, g5, g6, g7, e⟩⟩
        · exact ⟨_, _, e, fun h => by cases h⟩
        · exact ⟨_, _, e, fun h => by cases h⟩
        · exact ⟨_, _, e, fun h => by cases h⟩
        · refine ⟨_, _, e, fun _ => ?_⟩
          have hok := grant_keep hl g1 g3 (by rw [g2]; exact g4) g5 g6 g7
          have hlt := (List.getElem?_eq_some_iff.1 g1).1
          have hk : (l.set k { x with In := A ++ p1 :: B })[k]? = some { x with In := A ++ p1 :: B } := by
            rw [List.getElem?_set, if_pos rfl, if_pos hlt]
          have hm := List.mem_of_getElem? hk
          refine ⟨hok, ?_, ?_⟩
          · obtain ⟨b, hb, hb2⟩ := is_eq hok.sm p2 p1
            rw [hb]
            have hin : p1 ∈ ins (l.set k { x with In := A ++ p1 :: B }) p2 := by
              have := hok.1.ofIn hm
              rw [← g2]
              simp only at this
              rw [this]
              simp
            rw [hb2.2 ⟨⟨_, hm, g2⟩, .one hin ((set_has (x' := { x with In := A ++ p1 :: B }) g1 rfl p1).2 g3)⟩]
          · rcases revoke_ok hok p1 p2 with ⟨hno, _⟩ | ⟨k', y, f1, f2, f3, f4⟩
            · exact absurd (by simp) (hno _ hm g2)
            · have hy : y = { x with In := A ++ p1 :: B } := hok.1.uniq (List.mem_of_getElem? f1) hm (f2.trans g2.symm)
              have hkk : k' = k := by
                have hnd := hok.1.asc.nodup
                have a1 : ((l.set k { x with In := A ++ p1 :: B }).map (·.Name))[k']? = some p2 := by rw [List.getElem?_map, f1, ← f2]; rfl
                have a2 : ((l.set k { x with In := A ++ p1 :: B }).map (·.Name))[k]? = some p2 := by rw [List.getElem?_map, hk, ← g2]; rfl
                obtain ⟨b1, c1⟩ := List.getElem?_eq_some_iff.1 a1
                obtain ⟨b2, c2⟩ := List.getElem?_eq_some_iff.1 a2
                rcases Nat.lt_trichotomy k' k with h | h | h
                · exact absurd (c1.trans c2.symm) (List.pairwise_iff_getElem.1 hnd k' k b1 b2 h)
                · exact h
                · exact absurd (c2.trans c1.symm) (List.pairwise_iff_getElem.1 hnd k k' b2 b1 h)
              subst hkk
              rw [f4, List.set_set, hy]
              have : lessIn p1 { x with In := A ++ p1 :: B } = x := by
                unfold lessIn
                simp only [filter_back g6 g7]
                rw [← g5]
              rw [this]
              congr 2
              apply List.ext_getElem?
              intro j
              rw [List.getElem?_set]
              split
              · rename_i hj
                subst hj
                rw [g1]
              · rfl
      refine RB.bindE hg ?_
      simp only
      refine RB.bind (R := fun (t : Bool ⊕ Unit) => t = .inr ()) (RB.cond (fun he => ?_) (fun _ => RB.ret rfl)) ?_
      · obtain ⟨k1, k2, k3⟩ := hge (eq_of_beq he)
        rw [k3]
        simp only [Option.bind_some]
        rw [k2]
        have hs := rsame_refl l (by have := hl.1.few; omega) (fun x hx => by have := hl.1.in8 x hx; omega)
        simp only [Option.bind_some, bne_self_eq_false, cond_false, Bool.not_true, hs]
        exact RB.ret rfl
      rintro _ rfl
      simp only
      obtain ⟨z, g, hd, hdz⟩ : ∃ z g, member_Drop l p1 = some (z, g) ∧ (g = 0 → Ok z ∧ ¬ has z p1) := by
        rcases drop_ok hl p1 with ⟨_, e⟩ | ⟨_, _, e⟩ | ⟨_, _, e⟩
        · exact ⟨_, _, e, fun h => by cases h⟩
        · exact ⟨_, _, e, fun h => by cases h⟩
        · exact ⟨_, _, e, fun _ => drop_keep hl p1⟩
      rw [hd]
      simp only [Option.bind_some]
      refine RB.bind (R := fun (t : Bool ⊕ Unit) => t = .inr ()) (loopO_rb (fun (q : Int) => ∃ i : Nat, q = (i : Int) ∧ (i ≤ z.length)) (fun q => z.length - q.toNat) ?_ ⟨0, rfl, by omega⟩) ?_
      · rintro q ⟨i, rfl, hi⟩
        refine RB.cond (fun hc => ?_) (fun _ => RB.ret rfl)
        have hc2 : i < z.length ∧ g = 0 := by simp at hc; omega
        obtain ⟨hz, hnz⟩ := hdz hc2.2
        have hx : z[i]? = some z[i] := List.getElem?_eq_getElem hc2.1
        have hxl : z[i] ∈ z := List.getElem_mem hc2.1
        obtain ⟨r, hr, hgd⟩ := all_eq (n := z[i].Name) hz.sm.1 hz.sm.2.1 hz.sm.2.2
        obtain ⟨b, hb, hb2⟩ := has_eq r p1
        simp only [idx_nat, hx, Option.bind_some, hr, hb]
        have hbf : b = false := by
          cases b with
          | false => rfl
          | true =>
            exfalso
            have hrr := ((hgd.1 ⟨_, hxl, rfl⟩).2 p1).1 (hb2.1 rfl)
            rcases hrr.end_ with e | e
            · exact hnz ⟨_, hxl, e.symm⟩
            · exact hnz e
        rw [hbf]
        have := hz.1.few
        exact RB.ret ⟨⟨i + 1, by rw [w64_id (by omega) (by omega)]; rfl, hc2.1⟩, by rw [w64_id (by omega) (by omega)]; omega⟩
      · rintro _ rfl
        simp only
        rw [works_eq]
        exact RB.ret rfl
end Go.Proofs.Ythndadengamanaa
