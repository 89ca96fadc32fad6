/- What is done to roles, by the document. Conditions: none. -/
import Derived.Test.YthndadengamanaaGreatRCheck
namespace Go.Proofs.YthndadengamanaaGreat
open Go.Gv
theorem Ok.rcheck {l : List Role} (h : Ok l) : registrarref18_Check l = some 0 := by
  obtain ⟨e, _, he, _, h2⟩ := check_same h.sm
  rw [he, h2.2 h.1]
theorem without_eq {s : List ByteArray} (n : ByteArray) (hl : s.length ≤ 1000) : registrarref18_without s n = some (s.filter fun x => !sEq x n) := by
  have h : Ret (registrarref18_without s n) (fun r => r = s.filter fun x => !sEq x n) := by
    unfold registrarref18_without
    refine RB.bind (forE_ret (fun i r => r = (s.take i).filter fun x => !sEq x n) (by simp) ?_) (fun r hr => RB.ret (by rw [hr, List.take_length]))
    rintro i r hi rfl
    have hx : s[i]? = some s[i] := List.getElem?_eq_getElem hi
    have hle : ((s.take i).filter fun x => !sEq x n).length ≤ i := Nat.le_trans (List.length_filter_le ..) (by simp; omega)
    simp only [idx_nat, hx, Option.bind_some]
    rw [take_snoc hx, List.filter_append]
    cases hc : sEq s[i] n with
    | true =>
      refine RB.ret ?_
      simp [hc]
    | false =>
      simp only [Bool.not_false, cond_true]
      rw [app_le (by simp at hle ⊢; omega)]
      refine RB.ret ?_
      simp [hc]
  exact h.eq
theorem create_same {l : List Role} (h : Ok l) {n : ByteArray} (hz : n.size ≤ 1000) : member_Create l n = registrarref18_Create l n := by
  have hl := h.1.few
  obtain ⟨b, hb, hb2⟩ := rname_spec (s := n) (by omega)
  obtain ⟨b', hb', hb2'⟩ := name_spec (s := n) (by omega)
  have hbb : b' = b := bool_iff hb2' hb2
  subst hbb
  have e0 : ((0 : Int) != 0) = false := by decide
  rcases create_ok h hz with ⟨g1, e⟩ | ⟨g1, g2, e⟩ | ⟨g1, g2, g3, e⟩ | ⟨g1, g2, g3, A, B, rfl, g4, g5, e⟩ <;> rw [e] <;> rw [hb'] at g1 <;> injection g1 with g1 <;> subst g1 <;> unfold registrarref18_Create <;> rw [h.rcheck] <;> simp only [Option.bind_some, e0, cond_false, hb, Bool.not_true, Bool.not_false, cond_true]
  · obtain ⟨k, _, hk⟩ := Fst.of_has g2
    rw [hk]
    simp
  · rw [rat_none g2, g3]
    rfl
  · rw [rat_none g2]
    simp only [Option.bind_some]
    rw [show decide ((-1 : Int) ≥ 0) = false by decide, show (((A ++ B).length : Int) == 8) = false by simp at g3 ⊢; omega]
    simp only [cond_false]
    have hlp : (loopO (fun (s22 : Int) => ((bif (decide (s22 < ((A ++ B).length : Int))) then (idx (A ++ B) s22).bind (fun (x31 : api_Role) => some (sLt x31.Name n)) else some false)).bind (fun (j27 : Bool) => (bif j27 then some (.inl (w64 (s22 + 1))) else some (.inr s22) : Option (Int ⊕ Int)))) 0) = some (A.length : Int) := by
      refine Ret.eq (loopO_rb (fun (q : Int) => ∃ i : Nat, q = (i : Int) ∧ i ≤ A.length) (fun q => A.length - q.toNat) ?_ ⟨0, rfl, by omega⟩)
      rintro q ⟨i, rfl, hi⟩
      by_cases hlt : i < A.length
      · have hx : (A ++ B)[i]? = some A[i] := by rw [List.getElem?_append_left hlt]; exact List.getElem?_eq_getElem hlt
        rw [show decide ((i : Int) < ((A ++ B).length : Int)) = true by simp; omega]
        simp only [cond_true, idx_nat, hx, Option.bind_some]
        rw [g4 _ (List.getElem_mem hlt)]
        refine RB.ret ⟨⟨i + 1, by rw [w64_id (by omega) (by simp at hl; omega)]; rfl, hlt⟩, by rw [w64_id (by omega) (by simp at hl; omega)]; omega⟩
      · have hia : i = A.length := by omega
        subst hia
        refine RB.bind (R := fun b => b = false) (RB.cond (fun hc => ?_) (fun _ => RB.ret rfl)) (fun b hb => by subst hb; exact RB.ret rfl)
        have hB : 0 < B.length := by simp at hc; omega
        have hx : (A ++ B)[A.length]? = some B[0] := by rw [List.getElem?_append_right (Nat.le_refl _), Nat.sub_self]; exact List.getElem?_eq_getElem hB
        simp only [idx_nat, hx, Option.bind_some]
        rw [sLt_asymm (g5 _ (List.getElem_mem hB))]
        exact RB.ret rfl
    rw [hlp]
    simp only [Option.bind_some]
    rw [sub_at (lo := 0) (i := 0) (j := A.length) rfl rfl (by omega) (by simp), sub_at (i := A.length) (j := (A ++ B).length) rfl rfl (by simp) (Nat.le_refl _)]
    simp only [Option.bind_some, List.drop_zero, List.take_length, List.take_left, List.drop_left]
    simp only [List.length_append] at g3
    rw [app_le (by simp; omega)]
    simp only [Option.bind_some, List.nil_append]
    rw [app_le (by simp; omega)]
    simp only [Option.bind_some]
    rw [app_le (by simp; omega)]
    simp [newR]
theorem drop_same {l : List Role} (h : Ok l) (n : ByteArray) : member_Drop l n = registrarref18_Drop l n := by
  have hl := h.1.few
  have e0 : ((0 : Int) != 0) = false := by decide
  rcases drop_ok h n with ⟨g1, e⟩ | ⟨g1, g2, e⟩ | ⟨g1, g2, e⟩ <;> rw [e] <;> unfold registrarref18_Drop <;> rw [h.rcheck] <;> simp only [Option.bind_some, e0, cond_false]
  · rw [rat_none g1]
    rfl
  · obtain ⟨k, _, hk⟩ := Fst.of_has g1
    rw [hk]
    simp only [Option.bind_some]
    rw [show decide ((k : Int) < 0) = false by simp, show sEq n (⟨#[114, 111, 111, 116]⟩ : ByteArray) = true from (keq _ _).2 g2]
    rfl
  · obtain ⟨k, _, hk⟩ := Fst.of_has g1
    rw [hk]
    simp only [Option.bind_some]
    rw [show decide ((k : Int) < 0) = false by simp, show sEq n (⟨#[114, 111, 111, 116]⟩ : ByteArray) = false from keq.ne g2]
    simp only [cond_false]
    refine (Ret.eq (RB.bind (forE_ret (fun i r => r = ((l.take i).filter fun y => !sEq y.Name n).map (lessIn n)) (by simp) ?_) (fun r hr => RB.ret (by rw [hr, List.take_length])))).symm
    rintro i r hi rfl
    have hx : l[i]? = some l[i] := List.getElem?_eq_getElem hi
    have hm : l[i] ∈ l := List.getElem_mem hi
    have hle : ((l.take i).filter fun y => !sEq y.Name n).length ≤ i := Nat.le_trans (List.length_filter_le ..) (by simp; omega)
    simp only [idx_nat, hx, Option.bind_some]
    rw [take_snoc hx, List.filter_append, List.map_append]
    cases hc : sEq l[i].Name n with
    | true =>
      refine RB.ret ?_
      simp [hc]
    | false =>
      simp only [Bool.not_false, cond_true]
      rw [without_eq n (by have := h.1.in8 _ hm; omega)]
      simp only [Option.bind_some]
      rw [app_le (by simp at hle ⊢; omega)]
      refine RB.ret ?_
      simp [hc, lessIn]
theorem turned_eq {l : List Role} {k : Nat} {x : Role} (hl : l.length ≤ 1000) (hk : l[k]? = some x) (s : List ByteArray) : registrarref18_turned l (k : Int) s = some (l.set k { x with In := s }) := by
  unfold registrarref18_turned
  rw [app_le (by simp; omega)]
  simp only [Option.bind_some, List.nil_append, idx_nat, hk]
  rfl
theorem asc_same {a b : List ByteArray} (h1 : Asc a) (h2 : Asc b) (h : ∀ n, n ∈ a ↔ n ∈ b) : a = b := key_eq (fun k => k) a b h1 h2 h
theorem rat_at {l : List Role} (h : Ok l) {k : Nat} {x : Role} (hk : l[k]? = some x) : registrarref18_At l x.Name = some (k : Int) := by
  have hx := List.mem_of_getElem? hk
  obtain ⟨j, hj, e⟩ := Fst.of_has (l := l) (n := x.Name) ⟨x, hx, rfl⟩
  obtain ⟨y, hy, hyn, hym, _⟩ := hj.get
  have hyx := h.1.uniq hym hx hyn
  subst hyx
  rw [e]
  have hnd := h.1.asc.nodup
  have a1 : (l.map (·.Name))[j]? = some y.Name := by rw [List.getElem?_map, hy]; rfl
  have a2 : (l.map (·.Name))[k]? = some y.Name := by rw [List.getElem?_map, hk]; rfl
  obtain ⟨b1, c1⟩ := List.getElem?_eq_some_iff.1 a1
  obtain ⟨b2, c2⟩ := List.getElem?_eq_some_iff.1 a2
  rcases Nat.lt_trichotomy j k with h | h | h
  · exact absurd (c1.trans c2.symm) (List.pairwise_iff_getElem.1 hnd j k b1 b2 h)
  · rw [h]
  · exact absurd (c2.trans c1.symm) (List.pairwise_iff_getElem.1 hnd k j b2 b1 h)
theorem grant_same {l : List Role} (h : Ok l) (n t : ByteArray) : member_Grant l n t = registrarref18_Grant l n t := by
  have hl := h.1.few
  have e0 : ((0 : Int) != 0) = false := by decide
  rcases grant_ok h n t with ⟨g, e⟩ | ⟨k, x, g1, g2, g3, hc⟩
  · rw [e]
    unfold registrarref18_Grant
    rw [h.rcheck]
    simp only [Option.bind_some, e0, cond_false]
    by_cases ht : has l t
    · have hn : ¬ has l n := by rcases g with g | g; exact absurd ht g; exact g
      obtain ⟨k, _, hk⟩ := Fst.of_has ht
      rw [hk, rat_none hn]
      simp
    · rw [rat_none ht]
      rfl
  · have hx := List.mem_of_getElem? g1
    have hk := rat_at h g1
    rw [g2] at hk
    obtain ⟨j, _, hj⟩ := Fst.of_has g3
    obtain ⟨b, hb, hb2⟩ := has_eq x.In n
    obtain ⟨c, hc1, hc2⟩ := is_eq h.sm n t
    rw [is_same h.sm] at hc1
    have hr : registrarref18_Grant l n t = (bif b then some ([], 19) else bif c then some ([], 35) else (registrarref18_into x.In n).bind fun r44 => (registrarref18_turned l (k : Int) r44).bind fun r50 => some (r50, 0)) := by
      unfold registrarref18_Grant
      rw [h.rcheck]
      simp only [Option.bind_some, e0, cond_false, hk, hj]
      rw [show decide ((k : Int) < 0) = false by simp]
      simp only [cond_false, Option.bind_some]
      rw [show decide ((j : Int) < 0) = false by simp]
      simp only [cond_false, idx_nat, g1, Option.bind_some, hb, hc1]
    rw [hr]
    rcases hc with ⟨f1, e⟩ | ⟨f1, f2, e⟩ | ⟨f1, f2, A, B, f3, f4, f5, e⟩ <;> rw [e]
    · rw [hb2.2 f1]; rfl
    · have : b = false := by cases b with | false => rfl | true => exact absurd (hb2.1 rfl) f1
      rw [this, hc2.2 ⟨g3, f2⟩]; rfl
    · have : b = false := by cases b with | false => rfl | true => exact absurd (hb2.1 rfl) f1
      have hcf : c = false := by cases c with | false => rfl | true => exact absurd (hc2.1 rfl).2 f2
      rw [this, hcf]
      simp only [cond_false]
      obtain ⟨A', B', q1, q2, q3, q4⟩ := into_spec (h.1.ain x hx) f1 (by have := h.1.in8 x hx; omega)
      rw [q4]
      simp only [Option.bind_some]
      rw [turned_eq (by omega) g1]
      have ha := h.1.ain x hx
      have : A ++ n :: B = A' ++ n :: B' := asc_same ((f3 ▸ ha : Asc (A ++ B)).ins f4 f5) ((q1 ▸ ha : Asc (A' ++ B')).ins q2 q3) (fun m => by
        have h1 : m ∈ A ++ n :: B ↔ m = n ∨ m ∈ A ++ B := by simp only [List.mem_append, List.mem_cons]; exact ⟨fun h => by rcases h with h | h | h <;> simp [h], fun h => by rcases h with h | h | h <;> simp [h]⟩
        have h2 : m ∈ A' ++ n :: B' ↔ m = n ∨ m ∈ A' ++ B' := by simp only [List.mem_append, List.mem_cons]; exact ⟨fun h => by rcases h with h | h | h <;> simp [h], fun h => by rcases h with h | h | h <;> simp [h]⟩
        rw [h1, h2, ← f3, ← q1])
      rw [this]
      rfl
theorem revoke_same {l : List Role} (h : Ok l) (n t : ByteArray) : member_Revoke l n t = registrarref18_Revoke l n t := by
  have hl := h.1.few
  have e0 : ((0 : Int) != 0) = false := by decide
  rcases revoke_ok h n t with ⟨g, e⟩ | ⟨k, x, g1, g2, g3, e⟩
  · rw [e]
    unfold registrarref18_Revoke
    rw [h.rcheck]
    simp only [Option.bind_some, e0, cond_false]
    by_cases ht : has l t
    · obtain ⟨k, hF, hk⟩ := Fst.of_has ht
      obtain ⟨x, hx, hxn, hxm, _⟩ := hF.get
      obtain ⟨b, hb, hb2⟩ := has_eq x.In n
      have : b = false := by cases b with | false => rfl | true => exact absurd (hb2.1 rfl) (g x hxm hxn)
      rw [hk]
      simp only [Option.bind_some]
      rw [show decide ((k : Int) < 0) = false by simp]
      simp only [cond_false, idx_nat, hx, Option.bind_some, hb, this]
      rfl
    · rw [rat_none ht]
      rfl
  · have hx := List.mem_of_getElem? g1
    have hk := rat_at h g1
    rw [g2] at hk
    obtain ⟨b, hb, hb2⟩ := has_eq x.In n
    rw [e]
    unfold registrarref18_Revoke
    rw [h.rcheck]
    simp only [Option.bind_some, e0, cond_false, hk]
    rw [show decide ((k : Int) < 0) = false by simp]
    simp only [cond_false, idx_nat, g1, Option.bind_some, hb]
    rw [hb2.2 g3]
    simp only [Bool.not_true, cond_false]
    rw [without_eq n (by have := h.1.in8 x hx; omega)]
    simp only [Option.bind_some]
    rw [turned_eq (by omega) g1]
    rfl
end Go.Proofs.YthndadengamanaaGreat
