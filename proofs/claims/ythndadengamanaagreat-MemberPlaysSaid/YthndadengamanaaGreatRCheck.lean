/- Whether roles are right, by the document. Conditions: none. -/
import Derived.Test.YthndadengamanaaGreatNm2
namespace Go.Proofs.YthndadengamanaaGreat
open Go.Gv
theorem rat_neg (l : List Role) (n : ByteArray) : ∃ r, registrarref18_At l n = some r ∧ (r < 0 ↔ ¬ has l n) := by
  by_cases h : has l n
  · obtain ⟨k, _, e⟩ := Fst.of_has h
    exact ⟨_, e, by simp [h]⟩
  · exact ⟨_, rat_none h, by simp [h]⟩
theorem Asc.adj {s : List ByteArray} (h : Asc s) {i : Nat} (h1 : 1 ≤ i) {x y : ByteArray} (hx : s[i - 1]? = some x) (hy : s[i]? = some y) : sLt x y = true := by
  obtain ⟨a1, rfl⟩ := List.getElem?_eq_some_iff.1 hx
  obtain ⟨b1, rfl⟩ := List.getElem?_eq_some_iff.1 hy
  exact List.pairwise_iff_getElem.1 h (i - 1) i a1 b1 (by omega)
theorem rcheck_eq {l : List Role} (h : Sm l) : ∃ e, registrarref18_Check l = some e ∧ (e = 0 ∨ e = 2) ∧ (e = 0 ↔ Right l) := by
  refine Ret.ex ?_
  have no2 : ∀ {p : Prop}, ¬ p → ((2 : Int) = 0 ∨ (2 : Int) = 2) ∧ ((2 : Int) = 0 ↔ p) := fun hp => ⟨.inr rfl, fun h => (by cases h), fun h => absurd h hp⟩
  unfold registrarref18_Check
  refine RB.cond (fun e => RB.ret (no2 fun hR => by have := hR.few; simp at e; omega)) (fun e => ?_)
  have h8 : l.length ≤ 8 := by simp at e; omega
  refine RB.bind (forN_ret (fun i _ => Asc ((l.map (·.Name)).take i) ∧ ∀ x ∈ l.take i, lex_IsName x.Name = some true ∧ Asc x.In ∧ ∀ s ∈ x.In, has l s) (Q := fun (v : Int) => v = 2 ∧ ¬ Right l) ⟨List.Pairwise.nil, by simp⟩ ?_) ?_
  · rintro i _ hi ⟨g1, g2⟩
    have hx : l[i]? = some l[i] := List.getElem?_eq_getElem hi
    have hm : l[i] ∈ l := List.getElem_mem hi
    have hns : (l.map (·.Name))[i]? = some l[i].Name := by rw [List.getElem?_map, hx]; rfl
    obtain ⟨b, hb, hb2⟩ := rname_spec (s := l[i].Name) (by have := h.2.2 _ hm; omega)
    obtain ⟨b', hb', hb2'⟩ := name_spec (s := l[i].Name) (by have := h.2.2 _ hm; omega)
    have hbb : b' = b := bool_iff hb2' hb2
    subst hbb
    simp only [idx_nat, hx, Option.bind_some, hb]
    refine RB.bind (R := fun j => (j = true → ¬ Right l) ∧ (j = false → b' = true ∧ Asc ((l.map (·.Name)).take (i + 1)))) ?_ ?_
    · cases b' with
      | false => exact RB.ret ⟨fun _ hR => (by have := hR.nm _ hm; rw [hb'] at this; cases this), fun h => by cases h⟩
      | true =>
        simp only [Bool.not_true, cond_false]
        refine RB.bind (R := fun j => (j = true → ¬ Right l) ∧ (j = false → Asc ((l.map (·.Name)).take (i + 1)))) (RB.cond (fun hc => ?_) (fun hc => RB.ret ⟨fun h => (by cases h), fun _ => ?_⟩)) (fun j hj => RB.ret ⟨hj.1, fun e => ⟨trivial, hj.2 e⟩⟩)
        · have h1 : 1 ≤ i := by simp at hc; omega
          have hy : l[i - 1]? = some l[i - 1] := List.getElem?_eq_getElem (by omega)
          have hnp : (l.map (·.Name))[i - 1]? = some l[i - 1].Name := by rw [List.getElem?_map, hy]; rfl
          rw [w64_id (n := (i : Int) - 1) (by omega) (by omega), show (i : Int) - 1 = ((i - 1 : Nat) : Int) by omega]
          simp only [idx_nat, hy, hx, Option.bind_some]
          refine RB.ret ⟨fun e hR => ?_, fun e => ?_⟩
          · rw [hR.asc.adj h1 hnp hns] at e; cases e
          · refine asc_next h1 hns g1 fun y hy' => ?_
            rw [hnp] at hy'; injection hy' with hy'
            subst hy'
            simpa using e
        · have : i = 0 := by simp at hc; omega
          subst this
          rw [take_snoc hns]
          exact List.pairwise_singleton ..
    intro j hj
    refine RB.cond (fun e => RB.ret ⟨rfl, hj.1 e⟩) (fun e => ?_)
    obtain ⟨e1, e2⟩ := hj.2 e
    subst e1
    have hxl := h.2.1 _ hm
    refine RB.bind (R := fun t => (t = .inl 2 ∧ ¬ Right l) ∨ (t = .inr () ∧ Asc l[i].In ∧ ∀ s ∈ l[i].In, has l s)) (loopO_rb (fun (q : Int) => ∃ k : Nat, q = (k : Int) ∧ k ≤ l[i].In.length ∧ Asc (l[i].In.take k) ∧ ∀ s ∈ l[i].In.take k, has l s) (fun q => l[i].In.length - q.toNat) ?_ ⟨0, rfl, by omega, List.Pairwise.nil, by simp⟩) ?_
    · rintro q ⟨k, rfl, f1, f2, f3⟩
      refine RB.cond (fun hc => ?_) (fun hc => RB.ret (.inr ⟨rfl, ?_⟩))
      · have hk : k < l[i].In.length := by simp at hc; omega
        have hz : l[i].In[k]? = some l[i].In[k] := List.getElem?_eq_getElem hk
        simp only [idx_nat, hz, Option.bind_some]
        obtain ⟨r, hr, hr2⟩ := rat_neg l l[i].In[k]
        rw [hr]
        simp only [Option.bind_some]
        refine RB.bind (R := fun j => (j = true → ¬ Right l) ∧ (j = false → has l l[i].In[k] ∧ Asc (l[i].In.take (k + 1)))) (RB.cond (fun e => RB.ret ⟨fun _ hR => hr2.1 (by simpa using e) (hR.mem _ hm _ (List.getElem_mem hk)), fun h => by cases h⟩) (fun e => ?_)) ?_
        · have hh : has l l[i].In[k] := Classical.byContradiction fun hn => by have := hr2.2 hn; simp at e; omega
          refine RB.bind (R := fun j => (j = true → ¬ Right l) ∧ (j = false → Asc (l[i].In.take (k + 1)))) (RB.cond (fun hc => ?_) (fun hc => RB.ret ⟨fun h => (by cases h), fun _ => ?_⟩)) (fun j hj => RB.ret ⟨hj.1, fun e => ⟨hh, hj.2 e⟩⟩)
          · have h1 : 1 ≤ k := by simp at hc; omega
            have hy : l[i].In[k - 1]? = some l[i].In[k - 1] := List.getElem?_eq_getElem (by omega)
            rw [w64_id (n := (k : Int) - 1) (by omega) (by omega), show (k : Int) - 1 = ((k - 1 : Nat) : Int) by omega]
            simp only [idx_nat, hy, hz, Option.bind_some]
            refine RB.ret ⟨fun e hR => ?_, fun e => ?_⟩
            · rw [(hR.ain _ hm).adj h1 hy hz] at e; cases e
            · refine asc_next h1 hz f2 fun y hy' => ?_
              rw [hy] at hy'; injection hy' with hy'
              subst hy'
              simpa using e
          · have : k = 0 := by simp at hc; omega
            subst this
            rw [take_snoc hz]
            exact List.pairwise_singleton ..
        · intro j hj
          refine RB.cond (fun e => RB.ret (.inl ⟨rfl, hj.1 e⟩)) (fun e => ?_)
          obtain ⟨k1, k2⟩ := hj.2 e
          refine RB.ret ⟨⟨k + 1, by rw [w64_id (by omega) (by omega)]; rfl, hk, k2, fun s hs => ?_⟩, by rw [w64_id (by omega) (by omega)]; omega⟩
          rw [take_snoc hz, List.mem_append, List.mem_singleton] at hs
          rcases hs with hs | rfl
          · exact f3 s hs
          · exact k1
      · rw [List.take_of_length_le (by simp at hc; omega)] at f2 f3
        exact ⟨f2, f3⟩
    · rintro t (⟨rfl, hn⟩ | ⟨rfl, f1, f2⟩)
      · exact RB.ret ⟨rfl, hn⟩
      · refine RB.ret ⟨e2, fun x hx' => ?_⟩
        rw [take_snoc hx, List.mem_append, List.mem_singleton] at hx'
        rcases hx' with hx' | rfl
        · exact g2 x hx'
        · exact ⟨hb', f1, f2⟩
  · rintro t ht
    cases t with
    | inr v => exact RB.ret ⟨.inr ht.1, fun e => (by have := ht.1; omega), fun hR => absurd hR ht.2⟩
    | inl u =>
      obtain ⟨ha, hb⟩ := ht
      rw [List.take_of_length_le (by simp)] at ha
      rw [List.take_length] at hb
      refine RB.bind (forN_ret (fun i _ => ∀ x ∈ l.take i, ∀ s ∈ x.In, ¬ Rch l s x.Name) (Q := fun (v : Int) => v = 2 ∧ ¬ Right l) (by simp) ?_) ?_
      · rintro i _ hi g
        have hx : l[i]? = some l[i] := List.getElem?_eq_getElem hi
        have hm : l[i] ∈ l := List.getElem_mem hi
        have hxl := h.2.1 _ hm
        refine RB.bind (R := fun t => (t = .inl 2 ∧ ¬ Right l) ∨ (t = .inr () ∧ ∀ s ∈ l[i].In, ¬ Rch l s l[i].Name)) (loopO_rb (fun (q : Int) => ∃ k : Nat, q = (k : Int) ∧ k ≤ l[i].In.length ∧ ∀ s ∈ l[i].In.take k, ¬ Rch l s l[i].Name) (fun q => l[i].In.length - q.toNat) ?_ ⟨0, rfl, by omega, by simp⟩) ?_
        · rintro q ⟨k, rfl, f1, f2⟩
          simp only [idx_nat, hx, Option.bind_some]
          refine RB.cond (fun hc => ?_) (fun hc => RB.ret (.inr ⟨rfl, ?_⟩))
          · have hk : k < l[i].In.length := by simp at hc; omega
            have hz : l[i].In[k]? = some l[i].In[k] := List.getElem?_eq_getElem hk
            obtain ⟨b, hb1, hb2⟩ := is_eq h l[i].In[k] l[i].Name
            rw [is_same h] at hb1
            simp only [hz, Option.bind_some, hb1]
            have hh := (hb _ hm).2.2 _ (List.getElem_mem hk)
            refine RB.cond (fun e => RB.ret (.inl ⟨rfl, fun hR => hR.no _ hm _ (List.getElem_mem hk) (hb2.1 e).2⟩)) (fun e => RB.ret ⟨⟨k + 1, by rw [w64_id (by omega) (by omega)]; rfl, hk, fun s hs hr => ?_⟩, by rw [w64_id (by omega) (by omega)]; omega⟩)
            rw [take_snoc hz, List.mem_append, List.mem_singleton] at hs
            rcases hs with hs | rfl
            · exact f2 s hs hr
            · rw [hb2.2 ⟨hh, hr⟩] at e; cases e
          · rw [List.take_of_length_le (by simp at hc; omega)] at f2
            exact f2
        · rintro t (⟨rfl, hn⟩ | ⟨rfl, f1⟩)
          · exact RB.ret ⟨rfl, hn⟩
          · refine RB.ret fun x hx' => ?_
            rw [take_snoc hx, List.mem_append, List.mem_singleton] at hx'
            rcases hx' with hx' | rfl
            · exact g x hx'
            · exact f1
      · rintro t ht
        cases t with
        | inr v => exact RB.ret ⟨.inr ht.1, fun e => (by have := ht.1; omega), fun hR => absurd hR ht.2⟩
        | inl u =>
          rw [List.take_length] at ht
          exact RB.ret ⟨.inl rfl, fun _ => ⟨h8, ha, fun x hx => (hb x hx).1, fun x hx => (hb x hx).2.1, fun x hx => (hb x hx).2.2, ht⟩, fun _ => rfl⟩
/-- The program's check is the document's. -/
theorem check_same {l : List Role} (h : Sm l) : ∃ e, member_Check l = some e ∧ registrarref18_Check l = some e ∧ (e = 0 ∨ e = 2) ∧ (e = 0 ↔ Right l) := by
  obtain ⟨a, ha, ha1, ha2⟩ := check_of h (fun x hx => by obtain ⟨b, hb, _⟩ := name_spec (s := x.Name) (by have := h.2.2 x hx; omega); exact ⟨b, hb⟩)
  obtain ⟨b, hb, hb1, hb2⟩ := rcheck_eq h
  have : a = b := by
    by_cases hR : Right l
    · rw [ha2.2 hR, hb2.2 hR]
    · rcases ha1 with e | e
      · exact absurd (ha2.1 e) hR
      · rcases hb1 with f | f
        · exact absurd (hb2.1 f) hR
        · rw [e, f]
  subst this
  exact ⟨a, ha, hb, ha1, ha2⟩
end Go.Proofs.YthndadengamanaaGreat
