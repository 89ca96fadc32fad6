/- What a role is all of is what is reached. Conditions: none. -/
import Derived.Test.YthndadengamanaaGreatReach
namespace Go.Proofs.YthndadengamanaaGreat
open Go.Gv
structure Up (l : List Role) (n : ByteArray) (g : Bool) (all : List (ByteArray × Bool)) : Prop where
  nd : (all.map (·.1)).Nodup
  self : n ∈ all.map (·.1)
  so : ∀ k ∈ all.map (·.1), Rch l n k ∧ has l k
  tr : ∀ k, (mget sEq all k).getD false = true ↔ k ∈ all.map (·.1)
  cl : g = false → ∀ a ∈ all.map (·.1), ∀ b ∈ ins l a, has l b → b ∈ all.map (·.1)
theorem Up.len {l : List Role} {n : ByteArray} {g : Bool} {all : List (ByteArray × Bool)} (h : Up l n g all) : all.length ≤ l.length := by
  have := List.Nodup.length_le_of_subset (l₂ := l.map (·.Name)) h.nd (fun k hk => by
    obtain ⟨x, hx, e⟩ := (h.so k hk).2
    exact List.mem_map.2 ⟨x, hx, e⟩)
  simpa using this
theorem tr_set {all : List (ByteArray × Bool)} (h : ∀ k, (mget sEq all k).getD false = true ↔ k ∈ all.map (·.1)) (b : ByteArray) : ∀ k, (mget sEq (mset sEq all b true) k).getD false = true ↔ k ∈ (mset sEq all b true).map (·.1) := by
  intro k
  rw [mget_mset keq, mset_mem keq]
  by_cases e : k = b
  · subst e
    rw [keq.refl]
    simp
  · rw [keq.ne e]
    simp only [cond_false]
    rw [h]
    constructor
    · exact .inr
    · rintro (h1 | h1)
      · exact absurd h1 e
      · exact h1
/-- One is put after the other. -/
theorem put_all (more : List ByteArray) (all : List (ByteArray × Bool)) : forE (fun (i53 : Nat) => fun (s52 : List (ByteArray × Bool)) => (idx more (i53 : Int)).bind (fun (x61 : ByteArray) => some (mset sEq s52 x61 true))) more.length 0 all = some (more.foldl (fun s x => mset sEq s x true) all) :=
  forE_list (fun s x => mset sEq s x true) fun j x s hx => by rw [idx_nat, hx]; rfl
theorem fold_spec {more : List ByteArray} : ∀ {all : List (ByteArray × Bool)}, (all.map (·.1)).Nodup → (∀ k, (mget sEq all k).getD false = true ↔ k ∈ all.map (·.1)) →
    ((more.foldl (fun s x => mset sEq s x true) all).map (·.1)).Nodup ∧ (∀ k, (mget sEq (more.foldl (fun s x => mset sEq s x true) all) k).getD false = true ↔ k ∈ (more.foldl (fun s x => mset sEq s x true) all).map (·.1)) ∧
    ∀ k, k ∈ (more.foldl (fun s x => mset sEq s x true) all).map (·.1) ↔ k ∈ more ∨ k ∈ all.map (·.1) := by
  induction more with
  | nil => intro all h1 h2; exact ⟨h1, h2, fun k => by simp⟩
  | cons b more ih =>
    intro all h1 h2
    obtain ⟨g1, g2, g3⟩ := ih (all := mset sEq all b true) (mset_nodup keq h1 b true) (tr_set h2 b)
    refine ⟨g1, g2, fun k => ?_⟩
    rw [List.foldl_cons, g3, mset_mem keq, List.mem_cons]
    constructor
    · rintro (h | h | h)
      · exact .inl (.inr h)
      · exact .inl (.inl h)
      · exact .inr h
    · rintro ((h | h) | h)
      · exact .inr (.inl h)
      · exact .inl h
      · exact .inr (.inr h)
end Go.Proofs.YthndadengamanaaGreat
