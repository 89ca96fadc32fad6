/- What a role is all of is what is reached: the loops. Conditions: none. -/
import Derived.Test.YthndadengamanaaGreatAll
namespace Go.Proofs.YthndadengamanaaGreat
open Go.Gv
theorem ex_inl {α τ : Type} {m : Option (α ⊕ τ)} {G : α → Prop} (h : Ret m (fun y => ∃ s', y = .inl s' ∧ G s')) : ∃ s', m = some (.inl s') ∧ G s' := by
  obtain ⟨y, e, s', rfl, hg⟩ := h.ex
  exact ⟨s', e, hg⟩
theorem more_all {l : List Role} {n : ByteArray} {g : Bool} {all : List (ByteArray × Bool)} (h : Up l n g all) (hl : l.length ≤ 100) (hi : ∀ x ∈ l, x.In.length ≤ 100) (Q : (List ByteArray) ⊕ Unit → Prop)
    (hq : ∀ more : List ByteArray, (∀ b ∈ more, b ∉ all.map (·.1) ∧ ∃ a ∈ all.map (·.1), b ∈ ins l a ∧ has l b) → (∀ a ∈ all.map (·.1), ∀ b ∈ ins l a, has l b → b ∈ all.map (·.1) ∨ b ∈ more) → Q (.inl more)) :
    rangeM (τ := Unit) (fun (k71 : ByteArray) (x72 : Bool) => fun (s33 : List ByteArray) => (member_Find l k71).bind (fun ((r91, r92) : api_Role × Bool) => (forE (fun (i103 : Nat) => fun (s102 : List ByteArray) => (idx r91.In (i103 : Int)).bind (fun (x114 : ByteArray) => (some ((mget sEq all x114).getD false)).bind (fun (x115 : Bool) => ((bif (!x115) then (member_at l x114).bind (fun (r125 : Int) => some (decide (r125 ≥ 0))) else some false)).bind (fun (j116 : Bool) => ((bif j116 then (app 16 s102 ([x114] : List ByteArray)).bind (fun (x140 : List ByteArray) => some x140) else some s102)).bind (fun (j128 : List ByteArray) => some j128))))) r91.In.length 0 s33).bind (fun (s102 : (List ByteArray)) => some (.inl s102)))) all ([] : List ByteArray) Q := by
  have hins : ∀ a, (ins l a).length ≤ 100 := by
    intro a
    unfold ins
    cases hf : l.find? (fun x => sEq x.Name a) with
    | none => simp
    | some x => simpa using hi x (List.mem_of_find?_eq_some hf)
  have hal := h.len
  refine rangeM_inv (fun vis s => s.length ≤ vis.length * 100 ∧ (∀ b ∈ s, b ∉ all.map (·.1) ∧ ∃ a ∈ all.map (·.1), b ∈ ins l a ∧ has l b) ∧ ∀ a ∈ vis.map (·.1), ∀ b ∈ ins l a, has l b → b ∈ all.map (·.1) ∨ b ∈ s) ⟨by simp, by simp, by simp⟩ ?_ ?_
  · rintro vis k x rem s hp ⟨h1, h2, h3⟩
    have hk : k ∈ all.map (·.1) := List.mem_map.2 ⟨(k, x), hp.mem_iff.1 (by simp), rfl⟩
    have hvl : vis.length ≤ 100 := by have := hp.length_eq; simp at this; omega
    obtain ⟨r, b, e, hr, _, _⟩ := find_eq l k (fun x hx => by have := hi x hx; omega)
    rw [e]
    simp only [Option.bind_some]
    have hrl : r.In.length ≤ 100 := by rw [hr]; exact hins k
    refine ex_inl (RB.bind (R := fun (s' : List ByteArray) => s'.length ≤ s.length + r.In.length ∧ (∀ b ∈ s', b ∉ all.map (·.1) ∧ ∃ a ∈ all.map (·.1), b ∈ ins l a ∧ has l b) ∧ (∀ b ∈ s, b ∈ s') ∧ ∀ b ∈ r.In.take r.In.length, has l b → b ∈ all.map (·.1) ∨ b ∈ s') (forE_ret (fun i (s' : List ByteArray) => s'.length ≤ s.length + i ∧ (∀ b ∈ s', b ∉ all.map (·.1) ∧ ∃ a ∈ all.map (·.1), b ∈ ins l a ∧ has l b) ∧ (∀ b ∈ s, b ∈ s') ∧ ∀ b ∈ r.In.take i, has l b → b ∈ all.map (·.1) ∨ b ∈ s') ⟨by simp, h2, fun b hb => hb, by simp⟩ ?_) ?_)
    · rintro i s' hi2 ⟨g1, g2, g3, g4⟩
      have hx : r.In[i]? = some r.In[i] := List.getElem?_eq_getElem hi2
      simp only [idx_nat, hx, Option.bind_some]
      obtain ⟨p, hp1, hp2⟩ := at_has l r.In[i]
      refine RB.bind (R := fun j => j = true ↔ r.In[i] ∉ all.map (·.1) ∧ has l r.In[i]) ?_ ?_
      · cases hm : (mget sEq all r.In[i]).getD false with
        | true =>
          refine RB.ret ?_
          simp only [Bool.false_eq_true, false_iff]
          exact fun hh => hh.1 ((h.tr _).1 hm)
        | false =>
          simp only [Bool.not_false, cond_true]
          rw [hp1]
          refine RB.ret ?_
          rw [decide_eq_true_eq, ge_iff_le, hp2]
          constructor
          · intro hh
            refine ⟨fun hin => ?_, hh⟩
            rw [(h.tr _).2 hin] at hm
            cases hm
          · exact fun hh => hh.2
      rintro j hj
      cases j with
      | true =>
        simp only [cond_true]
        rw [app_le (by simp; omega)]
        have hj' := hj.1 rfl
        refine RB.ret ⟨by simp; omega, fun b hb => ?_, fun b hb => List.mem_append_left _ (g3 b hb), fun b hb hh => ?_⟩
        · rw [List.mem_append, List.mem_singleton] at hb
          rcases hb with hb | rfl
          · exact g2 b hb
          · exact ⟨hj'.1, k, hk, by rw [← hr]; exact List.getElem_mem hi2, hj'.2⟩
        · rw [take_snoc hx, List.mem_append, List.mem_singleton] at hb
          rcases hb with hb | rfl
          · rcases g4 b hb hh with q | q
            · exact .inl q
            · exact .inr (List.mem_append_left _ q)
          · exact .inr (by simp)
      | false =>
        refine RB.ret ⟨by omega, g2, g3, fun b hb hh => ?_⟩
        rw [take_snoc hx, List.mem_append, List.mem_singleton] at hb
        rcases hb with hb | rfl
        · exact g4 b hb hh
        · refine .inl (Classical.byContradiction fun hn => ?_)
          have := hj.2 ⟨hn, hh⟩
          cases this
    · rintro s' ⟨g1, g2, g3, g4⟩
      rw [List.take_length] at g4
      refine RB.ret ⟨s', rfl, by simp; omega, g2, fun a ha b hb hh => ?_⟩
      rw [List.map_append, List.mem_append] at ha
      rcases ha with ha | ha
      · rcases h3 a ha b hb hh with q | q
        · exact .inl q
        · exact .inr (g3 b q)
      · simp at ha
        subst ha
        exact g4 b (by rw [hr]; exact hb) hh
  · rintro vis s hp ⟨_, h2, h3⟩
    exact hq s h2 fun a ha => h3 a (by rw [(hp.map (·.1)).mem_iff]; exact ha)
end Go.Proofs.YthndadengamanaaGreat
