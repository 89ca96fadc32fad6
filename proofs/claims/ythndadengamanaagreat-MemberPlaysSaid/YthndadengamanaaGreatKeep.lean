/- What comes of right roles is right. Conditions: none. -/
import Derived.Test.YthndadengamanaaGreatActs
namespace Go.Proofs.YthndadengamanaaGreat
open Go.Gv
theorem Rch.less {l r : List Role} (h : ∀ a b, b ∈ ins r a → has r b → b ∈ ins l a ∧ has l b) {s t : ByteArray} (hr : Rch r s t) : Rch l s t := by
  induction hr with
  | self => exact .self
  | step _ hb hh ih =>
    obtain ⟨h1, h2⟩ := h _ _ hb hh
    exact .step ih h1 h2
theorem Rch.trans {l : List Role} {a b c : ByteArray} (h1 : Rch l a b) (h2 : Rch l b c) : Rch l a c := by
  induction h2 with
  | self => exact h1
  | step _ hb hh ih => exact .step ih hb hh
theorem Rch.one {l : List Role} {a b : ByteArray} (h1 : b ∈ ins l a) (h2 : has l b) : Rch l a b := .step .self h1 h2
/-- The first step of a way. -/
theorem Rch.first {l : List Role} {a b : ByteArray} (h : Rch l a b) (hn : a ≠ b) : ∃ c, c ∈ ins l a ∧ has l c ∧ Rch l c b := by
  induction h with
  | self => exact absurd rfl hn
  | @step c d hr hb hh ih =>
    by_cases e : a = c
    · subst e
      exact ⟨d, hb, hh, .self⟩
    · obtain ⟨x, h1, h2, h3⟩ := ih e
      exact ⟨x, h1, h2, .step h3 hb hh⟩
theorem Right.nocycle {l : List Role} (h : Right l) {a c : ByteArray} (h1 : c ∈ ins l a) (h2 : Rch l c a) : False := by
  obtain ⟨x, hx, rfl, hc⟩ := ins_mem h1
  exact h.no x hx c hc h2
theorem Right.anti {l : List Role} (h : Right l) {a b : ByteArray} (hn : a ≠ b) (h1 : Rch l a b) (h2 : Rch l b a) : False := by
  obtain ⟨c, hc, _, hr⟩ := h1.first hn
  exact h.nocycle hc (hr.trans h2)
/-! ### Create -/
theorem create_keep {A B : List Role} {n : ByteArray} (h : Ok (A ++ B)) (hl : (A ++ B).length < 8) (hz : n.size ≤ 1000) (hi : lex_IsName n = some true) (h1 : ∀ y ∈ A, sLt y.Name n = true) (h2 : ∀ y ∈ B, sLt n y.Name = true) : Ok (A ++ newR n :: B) := by
  have hmem : ∀ x, x ∈ A ++ newR n :: B ↔ x = newR n ∨ x ∈ A ++ B := fun x => by
    simp only [List.mem_append, List.mem_cons]
    constructor
    · rintro (h | h | h) <;> simp [h]
    · rintro (h | h | h) <;> simp [h]
  have hno : ∀ y ∈ A ++ B, y.Name ≠ n := fun y hy => by
    rcases List.mem_append.1 hy with hy | hy
    · exact sLt_ne (h1 y hy)
    · exact (sLt_ne (h2 y hy)).symm
  have hhas : ∀ s, has (A ++ B) s → has (A ++ newR n :: B) s := fun s ⟨x, hx, e⟩ => ⟨x, (hmem x).2 (.inr hx), e⟩
  have hasc : Asc ((A ++ newR n :: B).map (·.Name)) := by
    rw [List.map_append, List.map_cons]
    have := h.1.asc
    rw [List.map_append] at this
    exact this.ins (x := n) (fun y hy => by obtain ⟨z, hz, rfl⟩ := List.mem_map.1 hy; exact h1 z hz) (fun y hy => by obtain ⟨z, hz, rfl⟩ := List.mem_map.1 hy; exact h2 z hz)
  have hins : ∀ a b, b ∈ ins (A ++ newR n :: B) a → b ∈ ins (A ++ B) a ∧ has (A ++ B) b := fun a b hb => by
    obtain ⟨x, hx, rfl, hbx⟩ := ins_mem hb
    rcases (hmem x).1 hx with rfl | hx
    · cases hbx
    · exact ⟨by rw [h.1.ofIn hx]; exact hbx, h.1.mem x hx b hbx⟩
  refine ⟨⟨by simp at hl ⊢; omega, hasc, fun x hx => ?_, fun x hx => ?_, fun x hx s hs => ?_, fun x hx s hs hr => ?_⟩, fun x hx => ?_⟩
  · rcases (hmem x).1 hx with rfl | hx
    · exact hi
    · exact h.1.nm x hx
  · rcases (hmem x).1 hx with rfl | hx
    · exact List.Pairwise.nil
    · exact h.1.ain x hx
  · rcases (hmem x).1 hx with rfl | hx
    · cases hs
    · exact hhas s (h.1.mem x hx s hs)
  · rcases (hmem x).1 hx with rfl | hx
    · cases hs
    · exact h.1.no x hx s hs (hr.less fun a b hb _ => hins a b hb)
  · rcases (hmem x).1 hx with rfl | hx
    · exact hz
    · exact h.2 x hx
/-! ### Less -/
/-- Some roles, each with some of its list, in which nobody is missed. -/
theorem less_keep {l r : List Role} (h : Ok l) (hasc : Asc (r.map (·.Name))) (hlen : r.length ≤ l.length) (hx : ∀ x ∈ r, ∃ y ∈ l, y.Name = x.Name ∧ x.In.Sublist y.In) (hm : ∀ x ∈ r, ∀ s ∈ x.In, has r s) : Ok r := by
  have hr : ∀ a b, b ∈ ins r a → has r b → b ∈ ins l a ∧ has l b := fun a b hb _ => by
    obtain ⟨x, hxr, rfl, hbx⟩ := ins_mem hb
    obtain ⟨y, hy, e, hs⟩ := hx x hxr
    exact ⟨by rw [← e, h.1.ofIn hy]; exact hs.subset hbx, h.1.mem y hy b (hs.subset hbx)⟩
  refine ⟨⟨Nat.le_trans hlen h.1.few, hasc, fun x hxr => ?_, fun x hxr => ?_, hm, fun x hxr s hs hrr => ?_⟩, fun x hxr => ?_⟩ <;> obtain ⟨y, hy, e, hsub⟩ := hx x hxr
  · rw [← e]; exact h.1.nm y hy
  · exact (h.1.ain y hy).sublist hsub
  · refine h.1.no y hy s (hsub.subset hs) ?_
    rw [e]
    exact hrr.less hr
  · rw [← e]; exact h.2 y hy
theorem drop_keep {l : List Role} (h : Ok l) (n : ByteArray) : Ok ((l.filter fun y => !sEq y.Name n).map (lessIn n)) ∧ ¬ has ((l.filter fun y => !sEq y.Name n).map (lessIn n)) n := by
  have hmem : ∀ x, x ∈ (l.filter fun y => !sEq y.Name n).map (lessIn n) ↔ ∃ y ∈ l, y.Name ≠ n ∧ lessIn n y = x := fun x => by
    rw [List.mem_map]
    constructor
    · rintro ⟨y, hy, e⟩
      obtain ⟨h1, h2⟩ := List.mem_filter.1 hy
      refine ⟨y, h1, fun e2 => ?_, e⟩
      rw [e2, keq.refl] at h2
      cases h2
    · rintro ⟨y, h1, h2, e⟩
      exact ⟨y, List.mem_filter.2 ⟨h1, by rw [keq.ne h2]; rfl⟩, e⟩
  refine ⟨less_keep h ?_ ?_ ?_ ?_, ?_⟩
  · have : ((l.filter fun y => !sEq y.Name n).map (lessIn n)).map (·.Name) = (l.filter fun y => !sEq y.Name n).map (·.Name) := by rw [List.map_map]; rfl
    rw [this]
    exact h.1.asc.sublist (List.Sublist.map _ List.filter_sublist)
  · rw [List.length_map]
    exact List.length_filter_le ..
  · intro x hx
    obtain ⟨y, h1, h2, rfl⟩ := (hmem x).1 hx
    exact ⟨y, h1, rfl, List.filter_sublist⟩
  · intro x hx s hs
    obtain ⟨y, h1, h2, rfl⟩ := (hmem x).1 hx
    obtain ⟨g1, g2⟩ := List.mem_filter.1 hs
    obtain ⟨z, hz, e⟩ := h.1.mem y h1 s g1
    refine ⟨lessIn n z, (hmem _).2 ⟨z, hz, fun e2 => ?_, rfl⟩, e⟩
    rw [← e, e2, keq.refl] at g2
    cases g2
  · rintro ⟨x, hx, e⟩
    obtain ⟨y, h1, h2, rfl⟩ := (hmem x).1 hx
    exact h2 e
theorem set_names {l : List Role} {k : Nat} {x x' : Role} (hk : l[k]? = some x) (e : x'.Name = x.Name) : (l.set k x').map (·.Name) = l.map (·.Name) := by
  rw [List.map_set, e]
  apply List.ext_getElem?
  intro j
  rw [List.getElem?_set]
  split
  · rename_i hj
    subst hj
    rw [List.getElem?_map, hk]
    split
    · rfl
    · rename_i hl
      have := (List.getElem?_eq_some_iff.1 hk).1
      simp at hl
      omega
  · rfl
theorem set_mem {l : List Role} {k : Nat} {x x' y : Role} (hR : Right l) (hk : l[k]? = some x) : y ∈ l.set k x' → y = x' ∨ (y ∈ l ∧ y.Name ≠ x.Name) := by
  intro hy
  obtain ⟨j, hj⟩ := List.mem_iff_getElem?.1 hy
  rw [List.getElem?_set] at hj
  split at hj
  · split at hj
    · injection hj with hj; exact .inl hj.symm
    · cases hj
  · rename_i hkj
    refine .inr ⟨List.mem_of_getElem? hj, fun e => ?_⟩
    have hn := hR.asc.nodup
    have h1 : (l.map (·.Name))[j]? = some y.Name := by rw [List.getElem?_map, hj]; rfl
    have h2 : (l.map (·.Name))[k]? = some y.Name := by rw [List.getElem?_map, hk, e]; rfl
    obtain ⟨a1, a2⟩ := List.getElem?_eq_some_iff.1 h1
    obtain ⟨b1, b2⟩ := List.getElem?_eq_some_iff.1 h2
    rcases Nat.lt_or_ge k j with hlt | hge
    · exact List.pairwise_iff_getElem.1 hn k j b1 a1 hlt (b2.trans a2.symm)
    · exact List.pairwise_iff_getElem.1 hn j k a1 b1 (by omega) (a2.trans b2.symm)
theorem set_has {l : List Role} {k : Nat} {x x' : Role} (hk : l[k]? = some x) (e : x'.Name = x.Name) (s : ByteArray) : has (l.set k x') s ↔ has l s := by
  rw [← has_names, set_names hk e, has_names]
theorem revoke_keep {l : List Role} (h : Ok l) {k : Nat} {x : Role} (hk : l[k]? = some x) (n : ByteArray) : Ok (l.set k (lessIn n x)) := by
  have hx := List.mem_of_getElem? hk
  refine less_keep h ?_ (by simp) ?_ ?_
  · rw [set_names (x' := lessIn n x) hk rfl]; exact h.1.asc
  · intro y hy
    rcases set_mem h.1 hk hy with rfl | ⟨hy, _⟩
    · exact ⟨x, hx, rfl, List.filter_sublist⟩
    · exact ⟨y, hy, rfl, List.Sublist.refl _⟩
  · intro y hy s hs
    rw [set_has (x' := lessIn n x) hk rfl]
    rcases set_mem h.1 hk hy with rfl | ⟨hy, _⟩
    · exact h.1.mem x hx s (List.mem_filter.1 hs).1
    · exact h.1.mem y hy s hs
theorem grant_keep {l : List Role} (h : Ok l) {k : Nat} {x : Role} (hk : l[k]? = some x) {n : ByteArray} (hn : has l n) (hr : ¬ Rch l n x.Name) {A B : List ByteArray} (e : x.In = A ++ B) (h1 : ∀ y ∈ A, sLt y n = true) (h2 : ∀ y ∈ B, sLt n y = true) : Ok (l.set k { x with In := A ++ n :: B }) := by
  have hx := List.mem_of_getElem? hk
  have hmI : ∀ s, s ∈ A ++ n :: B ↔ s = n ∨ s ∈ x.In := fun s => by
    rw [e]
    simp only [List.mem_append, List.mem_cons]
    constructor
    · rintro (h | h | h) <;> simp [h]
    · rintro (h | h | h) <;> simp [h]
  have hin : ∀ a b, b ∈ ins (l.set k { x with In := A ++ n :: B }) a → b ∈ ins l a ∨ (a = x.Name ∧ b = n) := fun a b hb => by
    obtain ⟨y, hy, rfl, hby⟩ := ins_mem hb
    rcases set_mem h.1 hk hy with rfl | ⟨hy, _⟩
    · rcases (hmI b).1 hby with rfl | hbx
      · exact .inr ⟨rfl, rfl⟩
      · left
        show b ∈ ins l x.Name
        rw [h.1.ofIn hx]; exact hbx
    · left
      rw [h.1.ofIn hy]; exact hby
  have key : ∀ s t, Rch (l.set k { x with In := A ++ n :: B }) s t → Rch l s t ∨ (Rch l s x.Name ∧ Rch l n t) := by
    intro s t hst
    induction hst with
    | self => exact .inl .self
    | step _ hb hh ih =>
      rw [set_has (x' := { x with In := A ++ n :: B }) hk rfl] at hh
      rcases hin _ _ hb with hb | ⟨rfl, rfl⟩
      · rcases ih with ih | ⟨i1, i2⟩
        · exact .inl (.step ih hb hh)
        · exact .inr ⟨i1, .step i2 hb hh⟩
      · rcases ih with ih | ⟨i1, i2⟩
        · exact .inr ⟨ih, .self⟩
        · exact .inr ⟨i1, .self⟩
  refine ⟨⟨by rw [List.length_set]; exact h.1.few, by rw [set_names (x' := { x with In := A ++ n :: B }) hk rfl]; exact h.1.asc, fun y hy => ?_, fun y hy => ?_, fun y hy s hs => ?_, fun y hy s hs hrr => ?_⟩, fun y hy => ?_⟩
  · rcases set_mem h.1 hk hy with rfl | ⟨hy, _⟩
    · exact h.1.nm x hx
    · exact h.1.nm y hy
  · rcases set_mem h.1 hk hy with rfl | ⟨hy, _⟩
    · have := h.1.ain x hx
      rw [e] at this
      exact this.ins h1 h2
    · exact h.1.ain y hy
  · rw [set_has (x' := { x with In := A ++ n :: B }) hk rfl]
    rcases set_mem h.1 hk hy with rfl | ⟨hy, _⟩
    · rcases (hmI s).1 hs with rfl | hs
      · exact hn
      · exact h.1.mem x hx s hs
    · exact h.1.mem y hy s hs
  · have old : ∀ z ∈ l, s ∈ z.In → Rch (l.set k { x with In := A ++ n :: B }) s z.Name → False := fun z hz hsz hrz => by
      rcases key _ _ hrz with g | ⟨g1, g2⟩
      · exact h.1.no z hz s hsz g
      · exact hr ((g2.trans (.one (by rw [h.1.ofIn hz]; exact hsz) (h.1.mem z hz s hsz))).trans g1)
    rcases set_mem h.1 hk hy with rfl | ⟨hy, _⟩
    · rcases (hmI s).1 hs with rfl | hs
      · rcases key _ _ hrr with g | ⟨g1, g2⟩
        · exact hr g
        · exact hr g1
      · exact old x hx hs hrr
    · exact old y hy hs hrr
  · rcases set_mem h.1 hk hy with rfl | ⟨hy, _⟩
    · exact h.2 x hx
    · exact h.2 y hy
end Go.Proofs.YthndadengamanaaGreat
