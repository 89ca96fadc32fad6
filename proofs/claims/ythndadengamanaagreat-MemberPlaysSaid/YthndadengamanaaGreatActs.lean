/- What is done to right roles. Conditions: none. -/
import Derived.Test.YthndadengamanaaGreatNames
namespace Go.Proofs.YthndadengamanaaGreat
open Go.Gv
theorem Asc.nodup {s : List ByteArray} (h : Asc s) : s.Nodup := h.imp fun {a b} hab e => sLt_ne hab e
theorem Right.in8 {l : List Role} (h : Right l) : ∀ x ∈ l, x.In.length ≤ 8 := fun x hx => by
  have := List.Nodup.length_le_of_subset (l₂ := l.map (·.Name)) (h.ain x hx).nodup (fun s hs => has_names.2 (h.mem x hx s hs))
  simp only [List.length_map] at this
  have := h.few
  omega
def Ok (l : List Role) : Prop := Right l ∧ ∀ x ∈ l, x.Name.size ≤ 1000
theorem Ok.sm {l : List Role} (h : Ok l) : Sm l := ⟨by have := h.1.few; omega, fun x hx => by have := h.1.in8 x hx; omega, h.2⟩
theorem Ok.check {l : List Role} (h : Ok l) : member_Check l = some 0 := by
  obtain ⟨e, he, _, h2⟩ := check_of h.sm (fun x hx => ⟨true, h.1.nm x hx⟩)
  rw [he, h2.2 h.1]
theorem Ok.fits {l : List Role} (h : Ok l) : fits l := ⟨by have := h.1.few; omega, fun x hx => by have := h.1.in8 x hx; omega⟩
/-- No two have one name. -/
theorem Right.one {l : List Role} (h : Right l) {A B : List Role} {x : Role} (e : l = A ++ x :: B) : (∀ y ∈ A, y.Name ≠ x.Name) ∧ ∀ y ∈ B, y.Name ≠ x.Name := by
  have ha := h.asc
  rw [e, List.map_append, List.map_cons] at ha
  have h1 := List.pairwise_append.1 ha
  have h2 := List.pairwise_cons.1 h1.2.1
  refine ⟨fun y hy => sLt_ne (h1.2.2 _ (List.mem_map.2 ⟨y, hy, rfl⟩) _ (by simp)), fun y hy => (sLt_ne (h2.1 _ (List.mem_map.2 ⟨y, hy, rfl⟩))).symm⟩
theorem Right.uniq {l : List Role} (h : Right l) {x y : Role} (hx : x ∈ l) (hy : y ∈ l) (e : x.Name = y.Name) : x = y := by
  obtain ⟨A, B, rfl⟩ := List.append_of_mem hx
  rcases List.mem_append.1 hy with hy | hy
  · exact absurd e.symm ((h.one rfl).1 y hy)
  · rcases List.mem_cons.1 hy with rfl | hy
    · rfl
    · exact absurd e.symm ((h.one rfl).2 y hy)
theorem Right.ofIn {l : List Role} (h : Right l) {x : Role} (hx : x ∈ l) : ins l x.Name = x.In := by
  unfold ins
  cases hf : l.find? (fun y => sEq y.Name x.Name) with
  | none =>
    have := List.find?_eq_none.1 hf x hx
    rw [keq.refl] at this
    exact absurd rfl this
  | some y =>
    have h1 := List.mem_of_find?_eq_some hf
    have h2 := (keq _ _).1 (by simpa using List.find?_some hf)
    rw [h.uniq h1 hx h2]
    rfl
theorem ins_mem {l : List Role} {a b : ByteArray} (hb : b ∈ ins l a) : ∃ x ∈ l, x.Name = a ∧ b ∈ x.In := by
  unfold ins at hb
  cases hf : l.find? (fun x => sEq x.Name a) with
  | none => rw [hf] at hb; cases hb
  | some y =>
    rw [hf] at hb
    exact ⟨y, List.mem_of_find?_eq_some hf, (keq _ _).1 (by simpa using List.find?_some hf), hb⟩
def newR (n : ByteArray) : Role := { z_api_Role with Name := n }
theorem create_ok {l : List Role} (h : Ok l) {n : ByteArray} (hz : n.size ≤ 1000) :
    (lex_IsName n = some false ∧ member_Create l n = some ([], 18)) ∨ (lex_IsName n = some true ∧ has l n ∧ member_Create l n = some ([], 19)) ∨ (lex_IsName n = some true ∧ ¬ has l n ∧ l.length = 8 ∧ member_Create l n = some ([], 5)) ∨
    (lex_IsName n = some true ∧ ¬ has l n ∧ l.length < 8 ∧ ∃ A B, l = A ++ B ∧ (∀ y ∈ A, sLt y.Name n = true) ∧ (∀ y ∈ B, sLt n y.Name = true) ∧ member_Create l n = some (A ++ newR n :: B, 0)) := by
  have hl := h.1.few
  unfold member_Create
  rw [h.check]
  obtain ⟨b, hb⟩ := name_ret (s := n) (by omega)
  rw [hb]
  cases b with
  | false => exact .inl ⟨rfl, rfl⟩
  | true =>
    right
    obtain ⟨i, hi, hi2⟩ := at_has l n
    rw [hi]
    simp only [Option.bind_some]
    rw [show ((0 : Int) != 0) = false by rfl]
    simp only [cond_false, Bool.not_true]
    by_cases hn : has l n
    · left
      rw [show decide (i ≥ 0) = true by simpa using hi2.2 hn]
      exact ⟨trivial, hn, rfl⟩
    · right
      rw [show decide (i ≥ 0) = false by have := mt hi2.1 hn; simp; omega]
      simp only [cond_false]
      by_cases h8 : l.length = 8
      · left
        refine ⟨trivial, hn, h8, ?_⟩
        rw [h8]
        rfl
      · right
        rw [show ((l.length : Int) == 8) = false by simp; omega]
        simp only [cond_false]
        obtain ⟨k, f, hk, hkl, h1, h2⟩ := search_in (s := l.map (·.Name)) (x := n) h.1.asc (by simp; omega) (fun hm => hn (has_names.1 hm))
        simp only [List.length_map] at hkl
        refine ⟨trivial, hn, by omega, l.take k, l.drop k, (List.take_append_drop k l).symm, fun y hy => h1 _ (by rw [← List.map_take]; exact List.mem_map.2 ⟨y, hy, rfl⟩), fun y hy => h2 _ (by rw [← List.map_drop]; exact List.mem_map.2 ⟨y, hy, rfl⟩), ?_⟩
        unfold createT
        rw [if_pos h.fits, names_eq (by omega)]
        simp only [Option.bind_some]
        rw [hk]
        simp only [Option.bind_some]
        rw [insO_eq hkl (by simp; omega)]
        simp [newR]
def lessIn (n : ByteArray) (x : Role) : Role := { x with In := x.In.filter fun s => !sEq s n }
theorem dropAll_eq {xs : List Role} {n : ByteArray} (hl : xs.length ≤ 1000) (hi : ∀ x ∈ xs, x.In.length ≤ 1000) : dropAll xs n = some (xs.map (lessIn n)) := by
  have h : Ret (dropAll xs n) (fun r => r = xs.map (lessIn n)) := by
    unfold dropAll
    refine RB.mono (forE_ret (fun i s => s = (xs.take i).map (lessIn n) ++ xs.drop i) (by simp) ?_) (fun r h => by simpa using h)
    rintro i s hi2 rfl
    have hx : xs[i]? = some xs[i] := List.getElem?_eq_getElem hi2
    have hlen : ((xs.take i).map (lessIn n)).length = i := by simp; omega
    have hg : ((xs.take i).map (lessIn n) ++ xs.drop i)[i]? = some xs[i] := by
      rw [List.getElem?_append_right (by omega), hlen, Nat.sub_self, List.getElem?_drop]
      exact hx
    simp only [idx_nat, hg, Option.bind_some]
    rw [delete_eq (f := fun u0 => member_Drop_1 u0 n) (q := fun s => sEq s n) (fun s => rfl) (hi _ (List.getElem_mem hi2))]
    refine RB.ret ?_
    rw [take_snoc hx, List.map_append, List.append_assoc, List.set_append, if_neg (by omega), hlen, Nat.sub_self, List.drop_eq_getElem_cons hi2]
    rfl
  exact h.eq
def rootB : ByteArray := ⟨#[114, 111, 111, 116]⟩
theorem filter_one {l : List Role} (h : Right l) {A B : List Role} {x : Role} (e : l = A ++ x :: B) : l.filter (fun y => !sEq y.Name x.Name) = A ++ B := by
  obtain ⟨h1, h2⟩ := h.one e
  rw [e, List.filter_append, List.filter_cons, keq.refl]
  simp only [Bool.not_true, Bool.false_eq_true, if_false]
  rw [List.filter_eq_self.2 fun y hy => by rw [keq.ne (h1 y hy)]; rfl, List.filter_eq_self.2 fun y hy => by rw [keq.ne (h2 y hy)]; rfl]
theorem drop_ok {l : List Role} (h : Ok l) (n : ByteArray) :
    (¬ has l n ∧ member_Drop l n = some ([], 4)) ∨ (has l n ∧ n = rootB ∧ member_Drop l n = some ([], 34)) ∨ (has l n ∧ n ≠ rootB ∧ member_Drop l n = some ((l.filter fun y => !sEq y.Name n).map (lessIn n), 0)) := by
  have hl := h.1.few
  unfold member_Drop
  rw [h.check]
  simp only [Option.bind_some]
  rw [show ((0 : Int) != 0) = false by rfl]
  simp only [cond_false]
  rcases at_spec l n with ⟨hn, e⟩ | ⟨A, x, B, h1, h2, h3, h4⟩
  · left
    rw [e]
    exact ⟨fun ⟨x, hx, hxn⟩ => hn x hx hxn, rfl⟩
  · right
    have hn : has l n := ⟨x, by rw [h1]; simp, h2⟩
    rw [h4]
    simp only [Option.bind_some]
    rw [show decide ((A.length : Int) < 0) = false by simp]
    simp only [cond_false]
    by_cases hr : n = rootB
    · left
      refine ⟨hn, hr, ?_⟩
      rw [show sEq n (⟨#[114, 111, 111, 116]⟩ : ByteArray) = true from (keq _ _).2 hr]
      rfl
    · right
      refine ⟨hn, hr, ?_⟩
      rw [show sEq n (⟨#[114, 111, 111, 116]⟩ : ByteArray) = false from keq.ne hr]
      simp only [cond_false]
      unfold dropT
      rw [if_pos ⟨h.fits, by omega, by rw [h1]; simp; omega⟩]
      have e1 : l.take (A.length : Int).toNat ++ l.drop ((A.length : Int) + 1).toNat = A ++ B := by
        rw [show ((A.length : Int) + 1).toNat = A.length + 1 by omega, Int.toNat_natCast, h1, List.take_left, List.drop_append, List.drop_of_length_le (by omega)]
        simp
      have e2 := filter_one h.1 h1
      rw [h2] at e2
      rw [e1, ← e2, dropAll_eq]
      · rfl
      · exact Nat.le_trans (List.length_filter_le ..) (by omega)
      · intro x hx
        have := h.1.in8 x (List.mem_filter.1 hx).1
        omega
theorem grant_ok {l : List Role} (h : Ok l) (n t : ByteArray) :
    ((¬ has l t ∨ ¬ has l n) ∧ member_Grant l n t = some ([], 4)) ∨ ∃ (k : Nat) (x : Role), l[k]? = some x ∧ x.Name = t ∧ has l n ∧
    ((n ∈ x.In ∧ member_Grant l n t = some ([], 19)) ∨ (n ∉ x.In ∧ Rch l n t ∧ member_Grant l n t = some ([], 35)) ∨ (n ∉ x.In ∧ ¬ Rch l n t ∧ ∃ A B, x.In = A ++ B ∧ (∀ y ∈ A, sLt y n = true) ∧ (∀ y ∈ B, sLt n y = true) ∧ member_Grant l n t = some (l.set k { x with In := A ++ n :: B }, 0))) := by
  have hl := h.1.few
  unfold member_Grant
  rw [h.check]
  simp only [Option.bind_some]
  rw [show ((0 : Int) != 0) = false by rfl]
  simp only [cond_false]
  rcases at_spec l t with ⟨hn, e⟩ | ⟨A, x, B, h1, h2, h3, h4⟩
  · left
    rw [e]
    exact ⟨.inl fun ⟨x, hx, hxn⟩ => hn x hx hxn, rfl⟩
  · rw [h4]
    obtain ⟨i, hi, hi2⟩ := at_has l n
    rw [hi]
    simp only [Option.bind_some]
    rw [show decide ((A.length : Int) < 0) = false by simp]
    simp only [cond_false, Option.bind_some]
    by_cases hn : has l n
    · right
      rw [show decide (i < 0) = false by have := hi2.2 hn; simp; omega]
      have hx : l[A.length]? = some x := by rw [h1]; simp
      have hxl : x ∈ l := by rw [h1]; simp
      refine ⟨A.length, x, hx, h2, hn, ?_⟩
      simp only [cond_false, idx_nat, hx, Option.bind_some]
      obtain ⟨b, hb, hb2⟩ := contains_eq x.In n
      rw [hb]
      cases b with
      | true => exact .inl ⟨hb2.1 rfl, rfl⟩
      | false =>
        right
        have hni : n ∉ x.In := fun hm => by have := hb2.2 hm; cases this
        obtain ⟨c, hc, hc2⟩ := is_eq h.sm n t
        simp only [Option.bind_some, cond_false]
        rw [hc]
        cases c with
        | true => exact .inl ⟨hni, (hc2.1 rfl).2, rfl⟩
        | false =>
          right
          have h8 := h.1.in8 x hxl
          obtain ⟨k, f, hk, hkl, g1, g2⟩ := search_in (x := n) (h.1.ain x hxl) (by omega) hni
          have hnr : ¬ Rch l n t := fun hr => by have := hc2.2 ⟨hn, hr⟩; cases this
          refine ⟨hni, hnr, x.In.take k, x.In.drop k, (List.take_append_drop k x.In).symm, g1, g2, ?_⟩
          simp only [Option.bind_some, cond_false]
          unfold grantT
          rw [if_pos h.fits]
          simp only [idx_nat, hx, Option.bind_some]
          rw [hk]
          simp only [Option.bind_some]
          rw [insO_eq hkl (by simp; omega)]
          simp
    · left
      rw [show decide (i < 0) = true by have := mt hi2.1 hn; simp; omega]
      exact ⟨.inr hn, rfl⟩
theorem revoke_ok {l : List Role} (h : Ok l) (n t : ByteArray) :
    ((∀ x ∈ l, x.Name = t → n ∉ x.In) ∧ member_Revoke l n t = some ([], 4)) ∨ ∃ (k : Nat) (x : Role), l[k]? = some x ∧ x.Name = t ∧ n ∈ x.In ∧ member_Revoke l n t = some (l.set k (lessIn n x), 0) := by
  have hl := h.1.few
  unfold member_Revoke
  rw [h.check]
  simp only [Option.bind_some]
  rw [show ((0 : Int) != 0) = false by rfl]
  simp only [cond_false]
  rcases at_spec l t with ⟨hn, e⟩ | ⟨A, x, B, h1, h2, h3, h4⟩
  · left
    rw [e]
    exact ⟨fun x hx hxn => absurd hxn (hn x hx), rfl⟩
  · rw [h4]
    have hx : l[A.length]? = some x := by rw [h1]; simp
    have hxl : x ∈ l := by rw [h1]; simp
    obtain ⟨b, hb, hb2⟩ := contains_eq x.In n
    simp only [Option.bind_some]
    rw [show decide ((A.length : Int) < 0) = false by simp]
    simp only [cond_false, idx_nat, hx, Option.bind_some]
    rw [hb]
    cases b with
    | false =>
      left
      refine ⟨fun y hy hyn hm => ?_, rfl⟩
      rw [h.1.uniq hy hxl (hyn.trans h2.symm)] at hm
      have := hb2.2 hm
      cases this
    | true =>
      right
      refine ⟨A.length, x, hx, h2, hb2.1 rfl, ?_⟩
      simp only [Option.bind_some, Bool.not_true, cond_false]
      unfold revokeT
      rw [if_pos h.fits]
      simp only [idx_nat, hx, Option.bind_some]
      rw [delete_eq (f := fun u0 => member_Revoke_1 u0 n) (q := fun s => sEq s n) (fun s => rfl) (by have := h.1.in8 x hxl; omega)]
      rfl
end Go.Proofs.YthndadengamanaaGreat
