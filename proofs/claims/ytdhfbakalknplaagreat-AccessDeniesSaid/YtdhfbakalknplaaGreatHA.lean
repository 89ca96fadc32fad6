/- Plain laws: what the plain functions answer. Conditions: none. -/
import Derived.Test.YtdhfbakalknplaaGreatF5
set_option maxRecDepth 100000
namespace Go.Proofs.YtdhfbakalknplaaGreat
open Go.Gv
def wf_qL (x : qL) : Prop := (fun s => s.size ≤ maxLen) x.Name ∧ (fun n => IntKind.min .i64 ≤ n ∧ n ≤ IntKind.max .i64) x.Type_ ∧ (fun _ => True) x.NotNull
theorem opens_qL : Opens P 54 R_qL wf_qL := by
  intro H enc w fuel cs x h
  obtain ⟨x0, h0, w0⟩ := opens_field kr h 0 (ft := 9) (off := 0) (sz := 1) kr (opens_str kr)
  have e0 := h0
  obtain ⟨x1, h1, w1⟩ := opens_field kr h 1 (ft := 3) (off := 1) (sz := 1) kr (opens_int kr)
  have e1 := h1
  obtain ⟨x2, h2, w2⟩ := opens_field kr h 2 (ft := 4) (off := 2) (sz := 1) kr (opens_bool kr)
  have e2 := h2
  exact ⟨⟨x0, x1, x2⟩, (cut e0 (cut e1 (cut e2 (opens_len kr h (n := 3) kr)))), ⟨w0, w1, w2⟩⟩
def wf_qV (x : qV) : Prop := (fun n => IntKind.min .i64 ≤ n ∧ n ≤ IntKind.max .i64) x.Kind ∧ (fun n => IntKind.min .i64 ≤ n ∧ n ≤ IntKind.max .i64) x.N ∧ (fun s => s.size ≤ maxLen) x.S
theorem opens_qV : Opens P 28 R_qV wf_qV := by
  intro H enc w fuel cs x h
  obtain ⟨x0, h0, w0⟩ := opens_field kr h 0 (ft := 3) (off := 0) (sz := 1) kr (opens_int kr)
  have e0 := h0
  obtain ⟨x1, h1, w1⟩ := opens_field kr h 1 (ft := 3) (off := 1) (sz := 1) kr (opens_int kr)
  have e1 := h1
  obtain ⟨x2, h2, w2⟩ := opens_field kr h 2 (ft := 9) (off := 2) (sz := 1) kr (opens_str kr)
  have e2 := h2
  exact ⟨⟨x0, x1, x2⟩, (cut e0 (cut e1 (cut e2 (opens_len kr h (n := 3) kr)))), ⟨w0, w1, w2⟩⟩
def wf_qE (_ : qE) : Prop := True
theorem opensF_qE : ∀ N : Nat, OpensF P 31 Q_qE wf_qE N
 | 0 => OpensF.zero
 | N + 1 => by
  have ih := opensF_qE N
  intro H enc w fuel cs x hN h
  obtain ⟨x0, h0, w0⟩ := opensF_field kr hN h 0 (ft := 3) (off := 0) (sz := 1) kr (Opens.atF (opens_int kr) N)
  have e0 := h0
  obtain ⟨x1, h1, w1⟩ := opensF_field kr hN h 1 (ft := 3) (off := 1) (sz := 1) kr (Opens.atF (opens_int kr) N)
  have e1 := h1
  obtain ⟨x2, h2, w2⟩ := opensF_field kr hN h 2 (ft := 28) (off := 2) (sz := 3) kr (Opens.atF opens_qV N)
  have e2 := h2
  obtain ⟨x3, h3, w3⟩ := opensF_field kr hN h 3 (ft := 9) (off := 5) (sz := 1) kr (Opens.atF (opens_str kr) N)
  have e3 := h3
  obtain ⟨x4, h4, w4⟩ := opensF_field kr hN h 4 (ft := 29) (off := 6) (sz := 1) kr (opensF_slice (e := 31) kr kr kr ih)
  obtain ⟨a4, c4, e4, f4⟩ := h4
  exact ⟨⟨x0, x1, x2, x3, x4⟩, Q_qE_iff.2 ⟨⟨⟨a4, c4⟩⟩, (cut e0 (cut e1 (cut e2 (cut e3 (cut e4 (opens_len kr h (n := 7) kr)))))), ⟨f4⟩⟩, trivial⟩
theorem opensQ_qE : Opens P 31 Q_qE wf_qE := OpensF.all opensF_qE
theorem opens_qE : Opens P 31 R_qE wf_qE := fun H enc w fuel cs x h => let ⟨a, h1, h2⟩ := opensQ_qE H enc w fuel cs x h; ⟨a, Q_qE_iff.1 h1, h2⟩
def wf_qK (x : qK) : Prop := (fun s => s.size ≤ maxLen) x.Name ∧ (fun n => IntKind.min .i64 ≤ n ∧ n ≤ IntKind.max .i64) x.Kind ∧ (fun xs => xs.length ≤ maxLen ∧ ∀ x ∈ xs, (fun s => s.size ≤ maxLen) x) x.Cols ∧ wf_qE x.Check ∧ (fun s => s.size ≤ maxLen) x.Table ∧ (fun xs => xs.length ≤ maxLen ∧ ∀ x ∈ xs, (fun s => s.size ≤ maxLen) x) x.Refs
theorem opens_qK : Opens P 59 R_qK wf_qK := by
  intro H enc w fuel cs x h
  obtain ⟨x0, h0, w0⟩ := opens_field kr h 0 (ft := 9) (off := 0) (sz := 1) kr (opens_str kr)
  have e0 := h0
  obtain ⟨x1, h1, w1⟩ := opens_field kr h 1 (ft := 3) (off := 1) (sz := 1) kr (opens_int kr)
  have e1 := h1
  obtain ⟨x2, h2, w2⟩ := opens_field kr h 2 (ft := 25) (off := 2) (sz := 1) kr (opens_slice (e := 9) kr kr kr (opens_str kr))
  obtain ⟨a2, c2, e2, f2⟩ := h2
  obtain ⟨x3, h3, w3⟩ := opens_field kr h 3 (ft := 31) (off := 3) (sz := 7) kr opens_qE
  obtain ⟨v3, e3, f3⟩ := h3
  obtain ⟨x4, h4, w4⟩ := opens_field kr h 4 (ft := 9) (off := 10) (sz := 1) kr (opens_str kr)
  have e4 := h4
  obtain ⟨x5, h5, w5⟩ := opens_field kr h 5 (ft := 25) (off := 11) (sz := 1) kr (opens_slice (e := 9) kr kr kr (opens_str kr))
  obtain ⟨a5, c5, e5, f5⟩ := h5
  exact ⟨⟨x0, x1, x2, x3, x4, x5⟩, ⟨⟨⟨a2, c2⟩, v3, ⟨a5, c5⟩⟩, (cut e0 (cut e1 (cut e2 (cut e3 (cut e4 (cut e5 (opens_len kr h (n := 12) kr))))))), ⟨f2, f3, f5⟩⟩, ⟨w0, w1, w2, w3, w4, w5⟩⟩
def wf_qSet (x : qSet) : Prop := (fun s => s.size ≤ maxLen) x.Name ∧ wf_qE x.E
theorem opens_qSet : Opens P 61 R_qSet wf_qSet := by
  intro H enc w fuel cs x h
  obtain ⟨x0, h0, w0⟩ := opens_field kr h 0 (ft := 9) (off := 0) (sz := 1) kr (opens_str kr)
  have e0 := h0
  obtain ⟨x1, h1, w1⟩ := opens_field kr h 1 (ft := 31) (off := 1) (sz := 7) kr opens_qE
  obtain ⟨v1, e1, f1⟩ := h1
  exact ⟨⟨x0, x1⟩, ⟨⟨v1⟩, (cut e0 (cut e1 (opens_len kr h (n := 8) kr))), ⟨f1⟩⟩, ⟨w0, w1⟩⟩
def wf_qO (x : qO) : Prop := wf_qE x.E ∧ (fun _ => True) x.Desc
theorem opens_qO : Opens P 63 R_qO wf_qO := by
  intro H enc w fuel cs x h
  obtain ⟨x0, h0, w0⟩ := opens_field kr h 0 (ft := 31) (off := 0) (sz := 7) kr opens_qE
  obtain ⟨v0, e0, f0⟩ := h0
  obtain ⟨x1, h1, w1⟩ := opens_field kr h 1 (ft := 4) (off := 7) (sz := 1) kr (opens_bool kr)
  have e1 := h1
  exact ⟨⟨x0, x1⟩, ⟨⟨v0⟩, (cut e0 (cut e1 (opens_len kr h (n := 8) kr))), ⟨f0⟩⟩, ⟨w0, w1⟩⟩
def wf_qS (_ : qS) : Prop := True
theorem opensF_qS : ∀ N : Nat, OpensF P 36 Q_qS wf_qS N
 | 0 => OpensF.zero
 | N + 1 => by
  have ih := opensF_qS N
  intro H enc w fuel cs x hN h
  obtain ⟨x0, h0, w0⟩ := opensF_field kr hN h 0 (ft := 3) (off := 0) (sz := 1) kr (Opens.atF (opens_int kr) N)
  have e0 := h0
  obtain ⟨x1, h1, w1⟩ := opensF_field kr hN h 1 (ft := 9) (off := 1) (sz := 1) kr (Opens.atF (opens_str kr) N)
  have e1 := h1
  obtain ⟨x2, h2, w2⟩ := opensF_field kr hN h 2 (ft := 9) (off := 2) (sz := 1) kr (Opens.atF (opens_str kr) N)
  have e2 := h2
  obtain ⟨x3, h3, w3⟩ := opensF_field kr hN h 3 (ft := 9) (off := 3) (sz := 1) kr (Opens.atF (opens_str kr) N)
  have e3 := h3
  obtain ⟨x4, h4, w4⟩ := opensF_field kr hN h 4 (ft := 23) (off := 4) (sz := 1) kr (Opens.atF (opens_slice (e := 54) kr kr kr opens_qL) N)
  obtain ⟨a4, c4, e4, f4⟩ := h4
  obtain ⟨x5, h5, w5⟩ := opensF_field kr hN h 5 (ft := 24) (off := 5) (sz := 1) kr (Opens.atF (opens_slice (e := 59) kr kr kr opens_qK) N)
  obtain ⟨a5, c5, e5, f5⟩ := h5
  obtain ⟨x6, h6, w6⟩ := opensF_field kr hN h 6 (ft := 25) (off := 6) (sz := 1) kr (Opens.atF (opens_slice (e := 9) kr kr kr (opens_str kr)) N)
  obtain ⟨a6, c6, e6, f6⟩ := h6
  obtain ⟨x7, h7, w7⟩ := opensF_field kr hN h 7 (ft := 26) (off := 7) (sz := 1) kr (Opens.atF (opens_slice (e := 29) kr kr kr (opens_slice (e := 31) kr kr kr opensQ_qE)) N)
  obtain ⟨a7, c7, e7, f7⟩ := h7
  obtain ⟨x8, h8, w8⟩ := opensF_field kr hN h 8 (ft := 31) (off := 8) (sz := 7) kr (Opens.atF opens_qE N)
  obtain ⟨v8, e8, f8⟩ := h8
  obtain ⟨x9, h9, w9⟩ := opensF_field kr hN h 9 (ft := 32) (off := 15) (sz := 1) kr (Opens.atF (opens_slice (e := 61) kr kr kr opens_qSet) N)
  obtain ⟨a9, c9, e9, f9⟩ := h9
  obtain ⟨x10, h10, w10⟩ := opensF_field kr hN h 10 (ft := 33) (off := 16) (sz := 1) kr (Opens.atF (opens_slice (e := 63) kr kr kr opens_qO) N)
  obtain ⟨a10, c10, e10, f10⟩ := h10
  obtain ⟨x11, h11, w11⟩ := opensF_field kr hN h 11 (ft := 3) (off := 17) (sz := 1) kr (Opens.atF (opens_int kr) N)
  have e11 := h11
  obtain ⟨x12, h12, w12⟩ := opensF_field kr hN h 12 (ft := 3) (off := 18) (sz := 1) kr (Opens.atF (opens_int kr) N)
  have e12 := h12
  obtain ⟨x13, h13, w13⟩ := opensF_field kr hN h 13 (ft := 4) (off := 19) (sz := 1) kr (Opens.atF (opens_bool kr) N)
  have e13 := h13
  obtain ⟨x14, h14, w14⟩ := opensF_field kr hN h 14 (ft := 34) (off := 20) (sz := 1) kr (opensF_slice (e := 36) kr kr kr ih)
  obtain ⟨a14, c14, e14, f14⟩ := h14
  exact ⟨⟨x0, x1, x2, x3, x4, x5, x6, x7, x8, x9, x10, x11, x12, x13, x14⟩, Q_qS_iff.2 ⟨⟨⟨a4, c4⟩, ⟨a5, c5⟩, ⟨a6, c6⟩, ⟨a7, c7⟩, v8, ⟨a9, c9⟩, ⟨a10, c10⟩, ⟨a14, c14⟩⟩, (cut e0 (cut e1 (cut e2 (cut e3 (cut e4 (cut e5 (cut e6 (cut e7 (cut e8 (cut e9 (cut e10 (cut e11 (cut e12 (cut e13 (cut e14 (opens_len kr h (n := 21) kr)))))))))))))))), ⟨f4, f5, f6, f7, f8, f9, f10, f14⟩⟩, trivial⟩
theorem opensQ_qS : Opens P 36 Q_qS wf_qS := OpensF.all opensF_qS
theorem opens_qS : Opens P 36 R_qS wf_qS := fun H enc w fuel cs x h => let ⟨a, h1, h2⟩ := opensQ_qS H enc w fuel cs x h; ⟨a, Q_qS_iff.1 h1, h2⟩
def wf_law19_Act (x : law19_Act) : Prop := wf_qS x.S ∧ (fun s => s.size ≤ maxLen) x.By
theorem opens_law19_Act : Opens P 56 R_law19_Act wf_law19_Act := by
  intro H enc w fuel cs x h
  obtain ⟨x0, h0, w0⟩ := opens_field kr h 0 (ft := 36) (off := 0) (sz := 21) kr opens_qS
  obtain ⟨v0, e0, f0⟩ := h0
  obtain ⟨x1, h1, w1⟩ := opens_field kr h 1 (ft := 9) (off := 21) (sz := 1) kr (opens_str kr)
  have e1 := h1
  exact ⟨⟨x0, x1⟩, ⟨⟨v0⟩, (cut e0 (cut e1 (opens_len kr h (n := 22) kr))), ⟨f0⟩⟩, ⟨w0, w1⟩⟩
abbrev Role := qJ
theorem keq : KEq sEq := fun a b => by
  rw [sEq_data]
  constructor
  · intro h
    have h := eq_of_beq h
    cases a; cases b
    simp only at h
    congr
    exact Array.toList_inj.1 h
  · rintro rfl
    simp
theorem at_eq (l : List Role) (n : By8) : member_at l n = some (match l.findIdx? (fun x => sEq x.Name n) with | some j => (j : Int) | none => -1) := by
  unfold member_at slices_IndexFunc_qJ
  rw [forN_find (fun x : Role => sEq x.Name n) (fun j => (j : Int))]
  · cases l.findIdx? (fun x => sEq x.Name n) <;> rfl
  · intro j x hx
    simp only [idx_nat, hx, obs]
    unfold member_at_1
    simp only [obs]
    cases sEq x.Name n <;> rfl
theorem at_spec (l : List Role) (n : By8) : ((∀ y ∈ l, y.Name ≠ n) ∧ member_at l n = some (-1)) ∨ ∃ A x B, l = A ++ x :: B ∧ x.Name = n ∧ (∀ y ∈ A, y.Name ≠ n) ∧ member_at l n = some (A.length : Int) := by
  rw [at_eq]
  rcases find_cases (fun x : Role => sEq x.Name n) l with ⟨h, e⟩ | ⟨A, x, B, h1, h2, h3, h4⟩
  · left
    refine ⟨fun y hy e1 => ?_, by rw [e]⟩
    have := h y hy
    rw [(keq _ _).2 e1] at this
    cases this
  · right
    refine ⟨A, x, B, h1, (keq _ _).1 h2, fun y hy e1 => ?_, by rw [h4]⟩
    have := h3 y hy
    rw [(keq _ _).2 e1] at this
    cases this
def ins (l : List Role) (n : By8) : List By8 := ((l.find? fun x => sEq x.Name n).map (·.In)).getD []
def has (l : List Role) (n : By8) : Prop := ∃ x ∈ l, x.Name = n
theorem at_has (l : List Role) (n : By8) : ∃ i, member_at l n = some i ∧ (0 ≤ i ↔ has l n) := by
  rcases at_spec l n with ⟨h, e⟩ | ⟨A, x, B, h1, h2, h3, h4⟩
  · exact ⟨_, e, ⟨fun hi => by omega, fun ⟨x, hx, hn⟩ => absurd hn (h x hx)⟩⟩
  · exact ⟨_, h4, ⟨fun _ => ⟨x, by rw [h1]; simp, h2⟩, fun _ => by omega⟩⟩
theorem find_eq (l : List Role) (n : By8) (hs : ∀ x ∈ l, x.In.length ≤ 1000) : ∃ r b, member_Find l n = some (r, b) ∧ r.In = ins l n ∧ (b = true ↔ has l n) ∧ (b = true → r.Name = n) := by
  unfold member_Find
  rcases at_spec l n with ⟨h, e⟩ | ⟨A, x, B, h1, h2, h3, h4⟩
  · rw [e]
    refine ⟨z_qJ, false, rfl, ?_, ?_, by simp⟩
    · unfold ins
      rw [List.find?_eq_none.2]
      · rfl
      · intro y hy hn
        exact h y hy ((keq _ _).1 hn)
    · constructor
      · intro hb; cases hb
      · rintro ⟨x, hx, hn⟩; exact absurd hn (h x hx)
  · rw [h4]
    simp only [obs]
    rw [show decide ((A.length : Int) < 0) = false by simp]
    have hx : idx l (A.length : Int) = some x := by
      rw [h1, idx_nat, List.getElem?_append_right (Nat.le_refl _), Nat.sub_self]
      rfl
    simp only [cond_false]
    rw [hx]
    simp only [obs]
    have hxl : x ∈ l := by rw [h1]; simp
    have hc : slices_Clone_string x.In = some x.In := by
      unfold slices_Clone_string
      have := hs x hxl
      rw [app_le (by simp; omega)]
      rfl
    rw [hc]
    refine ⟨{ x with In := x.In }, true, rfl, ?_, ⟨fun _ => ⟨x, hxl, h2⟩, fun _ => rfl⟩, fun _ => h2⟩
    unfold ins
    rw [h1, List.find?_append, List.find?_eq_none.2]
    · simp [(keq _ _).2 h2]
    · intro y hy hn
      exact h3 y hy ((keq _ _).1 hn)
inductive Rch (l : List Role) (n : By8) : By8 → Prop
  | self : Rch l n n
  | step {a b : By8} : Rch l n a → b ∈ ins l a → has l b → Rch l n b
structure Up (l : List Role) (n : By8) (g : Bool) (all : List (By8 × Bool)) : Prop where
  nd : (all.map (·.1)).Nodup
  self : n ∈ all.map (·.1)
  so : ∀ k ∈ all.map (·.1), Rch l n k ∧ has l k
  tr : ∀ k, (mget sEq all k).getD false = true ↔ k ∈ all.map (·.1)
  cl : g = false → ∀ a ∈ all.map (·.1), ∀ b ∈ ins l a, has l b → b ∈ all.map (·.1)
theorem Up.len {l : List Role} {n : By8} {g : Bool} {all : List (By8 × Bool)} (h : Up l n g all) : all.length ≤ l.length := by
  have := List.Nodup.length_le_of_subset (l₂ := l.map (·.Name)) h.nd (fun k hk => by
    obtain ⟨x, hx, e⟩ := (h.so k hk).2
    exact List.mem_map.2 ⟨x, hx, e⟩)
  simpa using this
theorem tr_set {all : List (By8 × Bool)} (h : ∀ k, (mget sEq all k).getD false = true ↔ k ∈ all.map (·.1)) (b : By8) : ∀ k, (mget sEq (mset sEq all b true) k).getD false = true ↔ k ∈ (mset sEq all b true).map (·.1) := by
  intro k
  rw [mget_mset keq, mset_mem keq]
  by_cases e : k = b
  · subst e
    rw [keq.refl]
    simp
  · rw [keq.ne e]
    simp only [cond_false]
    rw [h]
    constructor
    · exact .inr
    · rintro (h1 | h1)
      · exact absurd h1 e
      · exact h1
theorem put_all (more : List By8) (all : List (By8 × Bool)) : forE (fun (i53 : Nat) (s52 : List (By8 × Bool)) => (idx more (i53 : Int)).bind (fun (x61 : By8) => some (mset sEq s52 x61 true))) more.length 0 all = some (more.foldl (fun s x => mset sEq s x true) all) :=
  forE_list (fun s x => mset sEq s x true) fun j x s hx => by rw [idx_nat, hx]; rfl
theorem fold_spec {more : List By8} : ∀ {all : List (By8 × Bool)}, (all.map (·.1)).Nodup → (∀ k, (mget sEq all k).getD false = true ↔ k ∈ all.map (·.1)) →
    ((more.foldl (fun s x => mset sEq s x true) all).map (·.1)).Nodup ∧ (∀ k, (mget sEq (more.foldl (fun s x => mset sEq s x true) all) k).getD false = true ↔ k ∈ (more.foldl (fun s x => mset sEq s x true) all).map (·.1)) ∧
    ∀ k, k ∈ (more.foldl (fun s x => mset sEq s x true) all).map (·.1) ↔ k ∈ more ∨ k ∈ all.map (·.1) := by
  induction more with
  | nil => intro all h1 h2; exact ⟨h1, h2, fun k => by simp⟩
  | cons b more ih =>
    intro all h1 h2
    obtain ⟨g1, g2, g3⟩ := ih (all := mset sEq all b true) (mset_nodup keq h1 b true) (tr_set h2 b)
    refine ⟨g1, g2, fun k => ?_⟩
    rw [List.foldl_cons, g3, mset_mem keq, List.mem_cons]
    constructor
    · rintro (h | h | h)
      · exact .inl (.inr h)
      · exact .inl (.inl h)
      · exact .inr h
    · rintro ((h | h) | h)
      · exact .inr (.inl h)
      · exact .inl h
      · exact .inr (.inr h)
theorem ex_inl {α τ : Type} {m : Option (α ⊕ τ)} {G : α → Prop} (h : Ret m (fun y => ∃ s', y = .inl s' ∧ G s')) : ∃ s', m = some (.inl s') ∧ G s' := by
  obtain ⟨y, e, s', rfl, hg⟩ := h.ex
  exact ⟨s', e, hg⟩
theorem more_all {l : List Role} {n : By8} {g : Bool} {all : List (By8 × Bool)} (h : Up l n g all) (hl : l.length ≤ 100) (hi : ∀ x ∈ l, x.In.length ≤ 100) (Q : (List By8) ⊕ Unit → Prop)
    (hq : ∀ more : List By8, (∀ b ∈ more, b ∉ all.map (·.1) ∧ ∃ a ∈ all.map (·.1), b ∈ ins l a ∧ has l b) → (∀ a ∈ all.map (·.1), ∀ b ∈ ins l a, has l b → b ∈ all.map (·.1) ∨ b ∈ more) → Q (.inl more)) :
    rangeM (τ := Unit) (fun (k71 : By8) (x72 : Bool) (s33 : List By8) => (member_Find l k71).bind (fun ((r91, r92) : qJ × Bool) => (forE (fun (i103 : Nat) (s102 : List By8) => (idx r91.In (i103 : Int)).bind (fun (x114 : By8) => (some ((mget sEq all x114).getD false)).bind (fun (x115 : Bool) => ((bif (!x115) then (member_at l x114).bind (fun (r125 : Int) => some (decide (r125 ≥ 0))) else some false)).bind (fun (j116 : Bool) => ((bif j116 then (app 16 s102 ([x114] : List By8)).bind (fun (x140 : List By8) => some x140) else some s102)).bind (fun (j128 : List By8) => some j128))))) r91.In.length 0 s33).bind (fun (s102 : (List By8)) => some (.inl s102)))) all ([] : List By8) Q := by
  have hins : ∀ a, (ins l a).length ≤ 100 := by
    intro a
    unfold ins
    cases hf : l.find? (fun x => sEq x.Name a) with
    | none => simp
    | some x => simpa using hi x (List.mem_of_find?_eq_some hf)
  have hal := h.len
  refine rangeM_inv (fun vis s => s.length ≤ vis.length * 100 ∧ (∀ b ∈ s, b ∉ all.map (·.1) ∧ ∃ a ∈ all.map (·.1), b ∈ ins l a ∧ has l b) ∧ ∀ a ∈ vis.map (·.1), ∀ b ∈ ins l a, has l b → b ∈ all.map (·.1) ∨ b ∈ s) ⟨by simp, by simp, by simp⟩ ?_ ?_
  · rintro vis k x rem s hp ⟨h1, h2, h3⟩
    have hk : k ∈ all.map (·.1) := List.mem_map.2 ⟨(k, x), hp.mem_iff.1 (by simp), rfl⟩
    have hvl : vis.length ≤ 100 := by have := hp.length_eq; simp at this; omega
    obtain ⟨r, b, e, hr, _, _⟩ := find_eq l k (fun x hx => by have := hi x hx; omega)
    rw [e]
    simp only [obs]
    have hrl : r.In.length ≤ 100 := by rw [hr]; exact hins k
    refine ex_inl (yg (R := fun (s' : List By8) => s'.length ≤ s.length + r.In.length ∧ (∀ b ∈ s', b ∉ all.map (·.1) ∧ ∃ a ∈ all.map (·.1), b ∈ ins l a ∧ has l b) ∧ (∀ b ∈ s, b ∈ s') ∧ ∀ b ∈ r.In.take r.In.length, has l b → b ∈ all.map (·.1) ∨ b ∈ s') (forE_ret (fun i (s' : List By8) => s'.length ≤ s.length + i ∧ (∀ b ∈ s', b ∉ all.map (·.1) ∧ ∃ a ∈ all.map (·.1), b ∈ ins l a ∧ has l b) ∧ (∀ b ∈ s, b ∈ s') ∧ ∀ b ∈ r.In.take i, has l b → b ∈ all.map (·.1) ∨ b ∈ s') ⟨by simp, h2, fun b hb => hb, by simp⟩ ?_) ?_)
    · rintro i s' hi2 ⟨g1, g2, g3, g4⟩
      have hx : r.In[i]? = some r.In[i] := gE hi2
      simp only [idx_nat, hx, obs]
      obtain ⟨p, hp1, hp2⟩ := at_has l r.In[i]
      refine yg (R := fun j => j = true ↔ r.In[i] ∉ all.map (·.1) ∧ has l r.In[i]) ?_ ?_
      · cases hm : (mget sEq all r.In[i]).getD false with
        | true =>
          refine yd ?_
          simp only [Bool.false_eq_true, false_iff]
          exact fun hh => hh.1 ((h.tr _).1 hm)
        | false =>
          simp only [Bool.not_false, cond_true]
          rw [hp1]
          refine yd ?_
          rw [decide_eq_true_eq, ge_iff_le, hp2]
          constructor
          · intro hh
            refine ⟨fun hin => ?_, hh⟩
            rw [(h.tr _).2 hin] at hm
            cases hm
          · exact fun hh => hh.2
      rintro j hj
      cases j with
      | true =>
        simp only [cond_true]
        rw [app_le (by simp; omega)]
        have hj' := hj.1 rfl
        refine yd ⟨by simp; omega, fun b hb => ?_, fun b hb => List.mem_append_left _ (g3 b hb), fun b hb hh => ?_⟩
        · rw [List.mem_append, List.mem_singleton] at hb
          rcases hb with hb | rfl
          · exact g2 b hb
          · exact ⟨hj'.1, k, hk, by rw [← hr]; exact List.getElem_mem hi2, hj'.2⟩
        · rw [take_snoc hx, List.mem_append, List.mem_singleton] at hb
          rcases hb with hb | rfl
          · rcases g4 b hb hh with q | q
            · exact .inl q
            · exact .inr (List.mem_append_left _ q)
          · exact .inr (by simp)
      | false =>
        refine yd ⟨by omega, g2, g3, fun b hb hh => ?_⟩
        rw [take_snoc hx, List.mem_append, List.mem_singleton] at hb
        rcases hb with hb | rfl
        · exact g4 b hb hh
        · refine .inl (Classical.byContradiction fun hn => ?_)
          have := hj.2 ⟨hn, hh⟩
          cases this
    · rintro s' ⟨g1, g2, g3, g4⟩
      rw [List.take_length] at g4
      refine yd ⟨s', rfl, by simp; omega, g2, fun a ha b hb hh => ?_⟩
      rw [List.map_append, List.mem_append] at ha
      rcases ha with ha | ha
      · rcases h3 a ha b hb hh with q | q
        · exact .inl q
        · exact .inr (g3 b q)
      · simp at ha
        subst ha
        exact g4 b (by rw [hr]; exact hb) hh
  · rintro vis s hp ⟨_, h2, h3⟩
    exact hq s h2 fun a ha => h3 a (by rw [(hp.map (·.1)).mem_iff]; exact ha)
theorem sortS_perm (xs : List By8) : (sortS xs).Perm xs := by
  unfold sortS
  refine ((List.mergeSort_perm _ _).map ub).trans ?_
  rw [List.map_map]
  have : xs.map (ub ∘ bs) = xs := by
    have : ub ∘ bs = id := funext ub_bs
    rw [this, List.map_id]
  rw [this]
theorem bl_lt : ∀ (x y : List UInt8), Op.bytesLess x y = decide (x < y)
  | _, [] => by simp [Op.bytesLess]
  | [], y :: ys => by simp [Op.bytesLess]
  | x :: xs, y :: ys => by
    simp only [Op.bytesLess, bl_lt xs ys]
    rw [Bool.eq_iff_iff]
    simp only [List.cons_lt_cons_iff, decide_eq_true_eq, Bool.or_eq_true, Bool.and_eq_true, beq_iff_eq]
theorem sorted (xs : List By8) : (sortS xs).Pairwise (fun a b => sLt b a = false) := by
  unfold sortS
  rw [List.pairwise_map]
  refine (List.pairwise_mergeSort ?_ ?_ _).imp ?_
  · intro a b c h1 h2
    simp only [decide_eq_true_eq] at h1 h2 ⊢
    exact List.le_trans h1 h2
  · intro a b
    simp only [Bool.or_eq_true, decide_eq_true_eq]
    exact List.le_total a b
  · intro a b h
    have h := of_decide_eq_true h
    rw [sLt_data]
    show Op.bytesLess (bs (ub b)) (bs (ub a)) = false
    rw [bs_ub, bs_ub]
    cases hb : Op.bytesLess b a with
    | false => rfl
    | true =>
      exfalso
      have : b < a := by
        have e := bl_lt b a
        rw [hb] at e
        simpa using e.symm
      exact (List.not_lt.2 h) this
theorem lt_of (a b : By8) (h1 : sLt b a = false) (h2 : a ≠ b) : sLt a b = true := by
  rcases sLt_total a b with h | h | h
  · exact h
  · exact absurd h h2
  · rw [h] at h1; cases h1
theorem condM_of {α : Type} {b : Bool} {x y : M α} {Q : α → Prop} (h1 : b = true → x Q) (h2 : b = false → y Q) : (cond b x y) Q := by cases b; exact h2 rfl; exact h1 rfl
def Good (l : List Role) (n : By8) (r : List By8) : Prop := (has l n → r.Pairwise (fun a b => sLt a b = true) ∧ ∀ k, k ∈ r ↔ Rch l n k) ∧ (¬ has l n → r = [])
theorem all_good {l : List Role} {n : By8} (hl : l.length ≤ 100) (hi : ∀ x ∈ l, x.In.length ≤ 100) (hz : ∀ x ∈ l, x.Name.size ≤ 1000) : member_AllM l n (Good l n) := by
  unfold member_AllM
  obtain ⟨i, e, hi2⟩ := at_has l n
  refine ⟨i, e, ?_⟩
  refine condM_of (fun hd => ?_) (fun hd => ?_)
  · have hn : ¬ has l n := fun hh => by have := hi2.2 hh; simp at hd; omega
    exact ⟨fun hh => absurd hh hn, fun _ => rfl⟩
  · have hn : has l n := hi2.1 (by simp at hd; omega)
    refine loopM_inv (fun s A B hAB h => ?_) (fun (s : Bool × List (By8 × Bool)) => Up l n s.1 s.2) (fun s => 2 * (l.length + 1 - s.2.length) + (if s.1 then 1 else 0)) ?_ ?_
    · obtain ⟨g, all⟩ := s
      exact (Mono_.cond (Mono_.bind (Mono_.range _ _ _) (fun t => by cases t with | inl s => exact @Mono_.bind _ _ (optM _) (fun _ => retM _) (Mono_.opt _) (fun _ => Mono_.ret _) | inr u => exact Mono_.no)) (Mono_.ret _)) A B hAB h
    · rintro ⟨g, all⟩ h
      simp only at h
      have hlen := h.len
      cases g with
      | true =>
        refine more_all h hl hi _ (fun more h1 h2 => ⟨_, put_all more all, ?_⟩)
        obtain ⟨g1, g2, g3⟩ := fold_spec (more := more) h.nd h.tr
        have hup : Up l n (decide ((more.length : Int) > 0)) (more.foldl (fun s x => mset sEq s x true) all) := by
          refine ⟨g1, (g3 n).2 (.inr h.self), fun k hk => ?_, g2, fun hg a ha b hb hh => ?_⟩
          · rcases (g3 k).1 hk with hk | hk
            · obtain ⟨_, a, ha, hb, hh⟩ := h1 k hk
              exact ⟨.step (h.so a ha).1 hb hh, hh⟩
            · exact h.so k hk
          · have hm : more = [] := by
              cases more with
              | nil => rfl
              | cons x r => simp at hg
            subst hm
            rcases h2 a ha b hb hh with q | q
            · exact q
            · cases q
        refine ⟨hup, ?_⟩
        have hlen2 := hup.len
        simp only [if_true]
        cases more with
        | nil => simp
        | cons x r =>
          have hx := (h1 x (by simp)).1
          have hnd : (x :: all.map (·.1)).Nodup := List.nodup_cons.2 ⟨hx, h.nd⟩
          have := List.Nodup.length_le_of_subset hnd (l₂ := ((x :: r).foldl (fun s x => mset sEq s x true) all).map (·.1)) (fun k hk => by
            rcases List.mem_cons.1 hk with rfl | hk
            · exact (g3 _).2 (.inl (by simp))
            · exact (g3 _).2 (.inr hk))
          simp only [List.length_cons, List.length_map] at this
          split <;> omega
      | false =>
        have hk : keysO all = some (sortS (all.map (·.1))) := by
          unfold keysO
          rw [if_pos ⟨h.nd, by omega, fun k hk => by obtain ⟨x, hx, rfl⟩ := (h.so k hk).2; have := hz x hx; simp only [maxLen]; omega⟩]
        refine ⟨_, hk, fun _ => ⟨?_, fun k => ?_⟩, fun hh => absurd hn hh⟩
        · have hp := sortS_perm (all.map (·.1))
          have hnd : (sortS (all.map (·.1))).Nodup := hp.nodup_iff.2 h.nd
          exact (List.Pairwise.and (sorted _) hnd).imp fun {a b} hab => lt_of a b hab.1 hab.2
        · rw [(sortS_perm _).mem_iff]
          constructor
          · exact fun hk => (h.so k hk).1
          · intro hr
            induction hr with
            | self => exact h.self
            | step _ hb hh ih => exact h.cl rfl _ ih _ hb hh
    · simp only
      refine ⟨by simp [mset_nil], by simp [mset_nil], fun k hk => ?_, tr_set (all := []) (fun k => by simp [mget_nil]) n, fun hg => by cases hg⟩
      simp [mset_nil] at hk
      subst hk
      exact ⟨.self, hn⟩
theorem strict_eq {α : Type} {lt : α → α → Prop} (hi : ∀ x, ¬ lt x x) (ha : ∀ x y, lt x y → ¬ lt y x) : ∀ (a b : List α), a.Pairwise lt → b.Pairwise lt → (∀ n, n ∈ a ↔ n ∈ b) → a = b
  | [], [], _, _, _ => rfl
  | [], y :: b, _, _, h => by have := (h y).2 (by simp); cases this
  | x :: a, [], _, _, h => by have := (h x).1 (by simp); cases this
  | x :: a, y :: b, h1, h2, h => by
    have h1' := List.pairwise_cons.1 h1
    have h2' := List.pairwise_cons.1 h2
    have e : x = y := by
      rcases List.mem_cons.1 ((h x).1 (by simp)) with e | g1
      · exact e
      · rcases List.mem_cons.1 ((h y).2 (by simp)) with e | g2
        · exact e.symm
        · exact absurd (h1'.1 y g2) (ha _ _ (h2'.1 x g1))
    subst e
    rw [strict_eq hi ha a b h1'.2 h2'.2 (fun n => ?_)]
    constructor
    · intro hn
      rcases List.mem_cons.1 ((h n).1 (by simp [hn])) with rfl | g1
      · exact absurd (h1'.1 n hn) (hi n)
      · exact g1
    · intro hn
      rcases List.mem_cons.1 ((h n).2 (by simp [hn])) with rfl | g1
      · exact absurd (h2'.1 n hn) (hi n)
      · exact g1
theorem key_eq {α : Type} (K : α → By8) (a b : List α) (h1 : a.Pairwise (fun u v => sLt (K u) (K v) = true)) (h2 : b.Pairwise (fun u v => sLt (K u) (K v) = true)) (h : ∀ n, n ∈ a ↔ n ∈ b) : a = b :=
  strict_eq (lt := fun u v => sLt (K u) (K v) = true) (fun x h => by rw [sLt_irrefl] at h; cases h) (fun x y h g => by rw [sLt_asymm h] at g; cases g) a b h1 h2 h
theorem Good.uniq {l : List Role} {n : By8} {a b : List By8} (h1 : Good l n a) (h2 : Good l n b) : a = b := by
  by_cases hn : has l n
  · exact key_eq (fun k => k) a b (h1.1 hn).1 (h2.1 hn).1 fun k => ((h1.1 hn).2 k).trans ((h2.1 hn).2 k).symm
  · rw [h1.2 hn, h2.2 hn]
theorem Mono_.loop {σ τ : Type} {step : σ → M (σ ⊕ τ)} (h : ∀ s, Mono_ (step s)) (s : σ) : Mono_ (loopM step s) := by
  rintro Q Q' hq ⟨k, hk⟩
  refine ⟨k, ?_⟩
  induction k generalizing s with
  | zero => exact hk
  | succ k ih =>
    refine h s _ _ ?_ hk
    rintro (s' | t) hx
    · exact ih s' hx
    · exact hq t hx
theorem all_mono (l : List Role) (n : By8) : Mono_ (member_AllM l n) := by
  unfold member_AllM
  refine Mono_.bind (Mono_.opt _) fun i => Mono_.cond (Mono_.ret _) (Mono_.bind (Mono_.loop (fun s => ?_) _) fun t => Mono_.bind (Mono_.opt _) fun _ => Mono_.ret _)
  obtain ⟨g, all⟩ := s
  exact Mono_.cond (Mono_.bind (Mono_.range _ _ _) (fun t => by cases t with | inl s => exact @Mono_.bind _ _ (optM _) (fun _ => retM _) (Mono_.opt _) (fun _ => Mono_.ret _) | inr u => exact Mono_.no)) (Mono_.ret _)
theorem all_meets (l : List Role) (n : By8) : Meets (member_AllM l n) := by
  unfold member_AllM
  refine Meets.bind (Meets.opt _) fun i => Meets.cond (Meets.ret _) (Meets.bind (Meets.loop (fun s => ?_) _) fun t => Meets.bind (Meets.opt _) fun _ => Meets.ret _)
  obtain ⟨g, all⟩ := s
  exact Meets.cond (Meets.bind (Meets.range _ _ _) (fun t => by cases t with | inl s => exact @Meets.bind _ _ (optM _) (fun _ => retM _) (Meets.opt _) (fun _ => Meets.ret _) | inr u => exact Meets.no)) (Meets.ret _)
theorem all_eq {l : List Role} {n : By8} (hl : l.length ≤ 100) (hi : ∀ x ∈ l, x.In.length ≤ 100) (hz : ∀ x ∈ l, x.Name.size ≤ 1000) : ∃ r, member_All l n = some r ∧ Good l n r := by
  have h := all_good (n := n) hl hi hz
  obtain ⟨r, hr, _⟩ := all_meets l n _ _ h h
  exact ⟨r, ofM_eq (all_mono l n _ _ (fun x hx => hx.uniq hr) h) (all_meets l n), hr⟩
abbrev Asc (s : List By8) : Prop := s.Pairwise (fun a b => sLt a b = true)
theorem Asc.drop_lt {s : List By8} (hs : Asc s) {i : Nat} {x y : By8} (h : ∀ z, s[i]? = some z → sLt x z = true) (hy : y ∈ s.drop i) : sLt x y = true := by
  obtain ⟨j, hj⟩ := List.mem_iff_getElem?.1 hy
  rw [List.getElem?_drop] at hj
  have hlt : i < s.length := by have := (List.getElem?_eq_some_iff.1 hj).1; omega
  have hi := h _ (gE hlt)
  cases j with
  | zero => rw [Nat.add_zero] at hj; exact h y hj
  | succ j =>
    obtain ⟨hj1, rfl⟩ := List.getElem?_eq_some_iff.1 hj
    exact sLt_trans hi (List.pairwise_iff_getElem.1 hs i (i + (j + 1)) hlt hj1 om)
theorem Asc.ins {A B : List By8} {x : By8} (hs : Asc (A ++ B)) (h1 : ∀ y ∈ A, sLt y x = true) (h2 : ∀ y ∈ B, sLt x y = true) : Asc (A ++ x :: B) := by
  have h := List.pairwise_append.1 hs
  refine List.pairwise_append.2 ⟨h.1, List.pairwise_cons.2 ⟨h2, h.2.1⟩, fun a ha b hb => ?_⟩
  rcases List.mem_cons.1 hb with rfl | hb
  · exact h1 a ha
  · exact h.2.2 a ha b hb
theorem any_find {xs : List By8} {n : By8} {p : By8 → Bool} (hp : ∀ x, p x = true ↔ x = n) : (xs.findIdx? p).isSome = true ↔ n ∈ xs := by
  rcases find_cases p xs with ⟨h, e⟩ | ⟨A, x, B, h1, h2, h3, h4⟩
  · rw [e]
    refine Iff.intro (fun h => Bool.noConfusion h) (fun hn => ?_)
    have := h n hn
    rw [(hp n).2 rfl] at this
    cases this
  · rw [h4]
    exact ⟨fun _ => by rw [h1, ← (hp x).1 h2]; simp, fun _ => rfl⟩
theorem has_eq (xs : List By8) (n : By8) : ∃ b, r14_Has xs n = some b ∧ (b = true ↔ n ∈ xs) := by
  unfold r14_Has
  rw [forN_find (fun x => sEq x n) (fun _ => true) (fun j x hx => by simp only [idx_nat, hx, obs]; cases sEq x n <;> rfl)]
  have := any_find (xs := xs) (n := n) (p := fun x => sEq x n) (fun x => keq x n)
  cases h : xs.findIdx? (fun x => sEq x n) with
  | none => rw [h] at this; exact ⟨false, rfl, by rw [← this]; simp⟩
  | some j => rw [h] at this; exact ⟨true, rfl, by rw [← this]; simp⟩
theorem contains_eq (xs : List By8) (n : By8) : ∃ b, slices_Contains_string xs n = some b ∧ (b = true ↔ n ∈ xs) := by
  unfold slices_Contains_string slices_Index_string
  rw [forN_find (fun x => sEq n x) (fun j => (j : Int)) (fun j x hx => by simp only [idx_nat, hx, obs]; cases sEq n x <;> rfl)]
  have := any_find (xs := xs) (n := n) (p := fun x => sEq n x) (fun x => (keq n x).trans eq_comm)
  cases h : xs.findIdx? (fun x => sEq n x) with
  | none => rw [h] at this; exact ⟨false, rfl, by rw [← this]; simp⟩
  | some j => rw [h] at this; exact ⟨true, by simp, by rw [← this]; simp⟩
theorem bool_iff {a b : Bool} {p : Prop} (ha : a = true ↔ p) (hb : b = true ↔ p) : a = b := by cases a <;> cases b <;> simp_all
def Sm (l : List Role) : Prop := l.length ≤ 100 ∧ (∀ x ∈ l, x.In.length ≤ 100) ∧ ∀ x ∈ l, x.Name.size ≤ 1000
theorem rat_spec (l : List Role) (n : By8) : ((∀ y ∈ l, y.Name ≠ n) ∧ r18_At l n = some (-1)) ∨ ∃ A x B, l = A ++ x :: B ∧ x.Name = n ∧ (∀ y ∈ A, y.Name ≠ n) ∧ r18_At l n = some (A.length : Int) := by
  have e : r18_At l n = some (match l.findIdx? (fun x => sEq x.Name n) with | some j => (j : Int) | none => -1) := by
    unfold r18_At
    rw [forN_find (fun x : Role => sEq x.Name n) (fun j => (j : Int))]
    · cases l.findIdx? (fun x => sEq x.Name n) <;> rfl
    · intro j x hx
      simp only [idx_nat, hx, obs]
      cases sEq x.Name n <;> rfl
  rw [e]
  rcases find_cases (fun x : Role => sEq x.Name n) l with ⟨h, e⟩ | ⟨A, x, B, h1, h2, h3, h4⟩
  · left
    refine ⟨fun y hy e1 => ?_, by rw [e]⟩
    have := h y hy
    rw [(keq _ _).2 e1] at this
    cases this
  · right
    refine ⟨A, x, B, h1, (keq _ _).1 h2, fun y hy e1 => ?_, by rw [h4]⟩
    have := h3 y hy
    rw [(keq _ _).2 e1] at this
    cases this
def Fst (l : List Role) (k : Nat) (n : By8) : Prop := ∃ A x B, l = A ++ x :: B ∧ x.Name = n ∧ (∀ y ∈ A, y.Name ≠ n) ∧ k = A.length
theorem Fst.get {l : List Role} {k : Nat} {n : By8} (h : Fst l k n) : ∃ x, l[k]? = some x ∧ x.Name = n ∧ x ∈ l ∧ ins l n = x.In := by
  obtain ⟨A, x, B, rfl, h2, h3, rfl⟩ := h
  refine ⟨x, by simp, h2, by simp, ?_⟩
  unfold ins
  rw [List.find?_append, List.find?_eq_none.2]
  · simp [(keq _ _).2 h2]
  · intro y hy hn
    exact h3 y hy ((keq _ _).1 hn)
theorem Fst.lt {l : List Role} {k : Nat} {n : By8} (h : Fst l k n) : k < l.length := by
  obtain ⟨A, x, B, rfl, h2, h3, rfl⟩ := h
  simp
theorem Fst.hs {l : List Role} {k : Nat} {n : By8} (h : Fst l k n) : has l n := by
  obtain ⟨x, _, h2, h3, _⟩ := h.get
  exact ⟨x, h3, h2⟩
theorem Fst.uniq {l : List Role} {j k : Nat} {n : By8} (h1 : Fst l j n) (h2 : Fst l k n) : j = k := by
  obtain ⟨A, x, B, e1, g1, g2, rfl⟩ := h1
  obtain ⟨A', x', B', e2, g1', g2', rfl⟩ := h2
  have e : A ++ x :: B = A' ++ x' :: B' := by rw [← e1, e2]
  rcases List.append_eq_append_iff.1 e with ⟨c, hc1, hc2⟩ | ⟨c, hc1, hc2⟩
  · cases c with
    | nil => simp [hc1]
    | cons z c =>
      simp only [List.cons_append, List.cons.injEq] at hc2
      exact absurd g1 (by rw [hc2.1]; exact g2' z (by rw [hc1]; simp))
  · cases c with
    | nil => simp [hc1]
    | cons z c =>
      simp only [List.cons_append, List.cons.injEq] at hc2
      exact absurd g1' (by rw [hc2.1]; exact g2 z (by rw [hc1]; simp))
theorem Fst.of_has {l : List Role} {n : By8} (h : has l n) : ∃ k, Fst l k n ∧ r18_At l n = some (k : Int) := by
  rcases rat_spec l n with ⟨h1, _⟩ | ⟨A, x, B, h1, h2, h3, h4⟩
  · obtain ⟨x, hx, hn⟩ := h
    exact absurd hn (h1 x hx)
  · exact ⟨A.length, ⟨A, x, B, h1, h2, h3, rfl⟩, h4⟩
theorem rat_none {l : List Role} {n : By8} (h : ¬ has l n) : r18_At l n = some (-1) := by
  rcases rat_spec l n with ⟨_, e⟩ | ⟨A, x, B, h1, h2, _⟩
  · exact e
  · exact absurd ⟨x, by rw [h1]; simp, h2⟩ h
theorem at_same (l : List Role) (n : By8) : member_at l n = r18_At l n := by
  rcases at_spec l n with ⟨h, e⟩ | ⟨A, x, B, h1, h2, h3, h4⟩
  · rw [e, rat_none]
    rintro ⟨x, hx, hn⟩
    exact h x hx hn
  · obtain ⟨k, hk, e⟩ := Fst.of_has (l := l) (n := n) ⟨x, by rw [h1]; simp, h2⟩
    rw [h4, e, hk.uniq ⟨A, x, B, h1, h2, h3, rfl⟩]
structure Sd (l : List Role) (n : By8) (is : List Bool) : Prop where
  len : is.length = l.length
  so : ∀ k : Nat, is[k]? = some true → ∃ a, Fst l k a ∧ Rch l n a ∧ has l n
  self : ∀ k, Fst l k n → is[k]? = some true
def Mon (a b : List Bool) : Prop := ∀ k : Nat, a[k]? = some true → b[k]? = some true
def Cl (l : List Role) (is : List Bool) : Prop := ∀ (k : Nat) (a b : By8) (j : Nat), is[k]? = some true → Fst l k a → b ∈ ins l a → Fst l j b → is[j]? = some true
theorem cnt : ∀ (a b : List Bool), a.length = b.length → Mon a b → a = b ∨ a.count true < b.count true
  | [], [], _, _ => .inl rfl
  | [], _ :: _, h, _ => by cases h
  | _ :: _, [], h, _ => by cases h
  | x :: a, y :: b, h, hm => by
    have ih := cnt a b (by simpa using h) (fun k hk => by simpa using hm (k + 1) (by simpa using hk))
    have h0 := hm 0
    simp only [List.getElem?_cons_zero, Option.some.injEq] at h0
    cases x <;> cases y <;> simp_all <;> rcases ih with rfl | ih <;> omega
theorem mon_set {is : List Bool} {j : Nat} : Mon is (is.set j true) := by
  intro k hk
  rw [List.getElem?_set]
  split
  · rename_i e
    subst e
    have := (List.getElem?_eq_some_iff.1 hk).1
    simp [this]
  · exact hk
theorem Sd.set {l : List Role} {n : By8} {is : List Bool} (h : Sd l n is) {j : Nat} {b : By8} (hj : Fst l j b) (hb : Rch l n b) (hn : has l n) : Sd l n (is.set j true) := by
  refine ⟨by simpa using h.len, fun k hk => ?_, fun k hk => mon_set k (h.self k hk)⟩
  rw [List.getElem?_set] at hk
  split at hk
  · rename_i e
    subst e
    exact ⟨b, hj, hb, hn⟩
  · exact h.so k hk
theorem set_at {l : List Role} {n : By8} {is : List Bool} (h : Sd l n is) {j : Nat} {b : By8} (hj : Fst l j b) : (is.set j true)[j]? = some true := by
  have := hj.lt
  rw [← h.len] at this
  simp [this]
theorem flag_idx {l : List Role} {n : By8} {is : List Bool} (h : Sd l n is) {k : Nat} (hk : k < l.length) : ∃ b, is[k]? = some b := by
  rw [← h.len] at hk
  exact ⟨_, gE hk⟩
theorem ins_has {l : List Role} {a b : By8} (hb : b ∈ ins l a) : has l a := by
  cases hf : l.find? (fun x => sEq x.Name a) with
  | none => unfold ins at hb; rw [hf] at hb; cases hb
  | some y => exact ⟨y, List.mem_of_find?_eq_some hf, (keq _ _).1 (by simpa using List.find?_some hf)⟩
theorem closed_all {l : List Role} {n : By8} {is : List Bool} (hs : Sd l n is) (hc : Cl l is) : ∀ a, Rch l n a → has l a → ∃ j, Fst l j a ∧ is[j]? = some true := by
  intro a ha
  induction ha with
  | self => intro hh; obtain ⟨j, hj, _⟩ := Fst.of_has hh; exact ⟨j, hj, hs.self j hj⟩
  | @step a b hr hb hh ih =>
    intro _
    obtain ⟨k', hk', hf⟩ := ih (ins_has hb)
    obtain ⟨j, hj, _⟩ := Fst.of_has hh
    exact ⟨j, hj, hc k' a b j hf hk' hb hj⟩
theorem reach_spec {l : List Role} {n : By8} (hl : l.length ≤ 100) (hi : ∀ x ∈ l, x.In.length ≤ 100) : Ret (r18_Reach l n) (fun is => Sd l n is ∧ Cl l is) := by
  unfold r18_Reach
  refine yaq (x := l.length) (by unfold mk; rw [if_pos ⟨by omega, by omega⟩]; rfl) ?_
  refine yg (R := fun (r : Int) => (r = -1 ∧ ¬ has l n) ∨ ∃ k : Nat, r = k ∧ Fst l k n) ?_ ?_
  · by_cases hn : has l n
    · obtain ⟨k, hk, e⟩ := Fst.of_has hn
      exact ybw e (.inr ⟨k, rfl, hk⟩)
    · exact ybw (rat_none hn) (.inl ⟨rfl, hn⟩)
  intro r hr
  refine yg (R := fun is => Sd l n is ∧ (has l n → 1 ≤ is.count true)) ?_ ?_
  · rcases hr with ⟨rfl, hn⟩ | ⟨k, rfl, hk⟩
    · refine yd ⟨⟨by simp, fun k hk => ?_, fun k hk => absurd hk.hs hn⟩, fun h => absurd h hn⟩
      rw [List.getElem?_replicate] at hk
      split at hk <;> cases hk
    · rw [show decide ((k : Int) ≥ 0) = true by simp]
      simp only [cond_true]
      have hlt := hk.lt
      rw [idx_nat, List.getElem?_replicate, if_pos hlt]
      simp only [obs, Int.toNat_natCast]
      have hat : ((List.replicate l.length false).set k true)[k]? = some true := by simp [hlt]
      refine yd ⟨⟨by simp, fun j hj => ?_, fun j hj => ?_⟩, fun _ => ?_⟩
      · rw [List.getElem?_set] at hj
        split at hj
        · rename_i e
          subst e
          exact ⟨n, hk, .self, hk.hs⟩
        · rw [List.getElem?_replicate] at hj
          split at hj <;> cases hj
      · rw [hj.uniq hk]; exact hat
      · exact List.count_pos_iff.2 (List.mem_of_getElem? hat)
  rintro is0 ⟨hs0, hc0⟩
  refine yg (R := fun is => Sd l n is ∧ Cl l is) (RB.mono (forE_ret (fun t is => Sd l n is ∧ (Cl l is ∨ (has l n → t + 1 ≤ is.count true))) ⟨hs0, .inr hc0⟩ ?_) ?_) (fun is h => yd h)
  · rintro t is ht ⟨hs, hc⟩
    refine yg (R := fun is' => Sd l n is' ∧ Mon is is' ∧ ∀ k, k < l.length → is[k]? = some true → ∀ a, Fst l k a → ∀ b ∈ ins l a, ∀ j, Fst l j b → is'[j]? = some true) (forE_ret (fun K is' => Sd l n is' ∧ Mon is is' ∧ ∀ k, k < K → is[k]? = some true → ∀ a, Fst l k a → ∀ b ∈ ins l a, ∀ j, Fst l j b → is'[j]? = some true) ⟨hs, fun k hk => hk, fun k hk => absurd hk om⟩ ?_) ?_
    · rintro K s hK ⟨g1, g2, g3⟩
      obtain ⟨x, hx⟩ : ∃ x, l[K]? = some x := ⟨_, gE hK⟩
      have hxl : x.In.length ≤ 100 := hi x (List.mem_of_getElem? hx)
      refine yg (R := fun s' => Sd l n s' ∧ Mon s s' ∧ (s[K]? = some true → ∀ b ∈ x.In, ∀ j, Fst l j b → s'[j]? = some true)) (loopO_rb (fun (u : Int × List Bool) => ∃ J : Nat, u.1 = J ∧ J ≤ x.In.length ∧ Sd l n u.2 ∧ Mon s u.2 ∧ ∀ b ∈ x.In.take J, ∀ j, Fst l j b → u.2[j]? = some true) (fun u => x.In.length - u.1.toNat) ?_ ⟨0, rfl, by omega, g1, fun k hk => hk, by simp⟩) ?_
      · rintro ⟨q, s'⟩ ⟨J, hJ, hJ2, f1, f2, f3⟩
        simp only at hJ f1 f2 f3
        subst hJ
        obtain ⟨bk, hbk⟩ := flag_idx f1 hK
        simp only [idx_nat, hbk, hx, obs]
        cases bk with
        | false =>
          simp only [cond_false, obs]
          refine yd ⟨f1, f2, fun hh => ?_⟩
          have := f2 K hh
          rw [hbk] at this
          cases this
        | true =>
          simp only [cond_true, obs]
          by_cases hlt : J < x.In.length
          · rw [show decide ((J : Int) < (x.In.length : Int)) = true by simp [hlt]]
            have hb : x.In[J]? = some x.In[J] := gE hlt
            simp only [cond_true, idx_nat, hb, obs]
            obtain ⟨a, ha1, ha2, ha3⟩ := f1.so K hbk
            obtain ⟨x', hx', hn', _, hin⟩ := ha1.get
            rw [hx] at hx'
            injection hx' with hx'
            subst hx'
            by_cases hh : has l x.In[J]
            · obtain ⟨k2, hk2, e2⟩ := Fst.of_has hh
              rw [e2]
              obtain ⟨b2, hb2⟩ := flag_idx f1 hk2.lt
              simp only [obs, idx_nat, hb2]
              rw [show decide ((k2 : Int) ≥ 0) = true by simp]
              simp only [cond_true, obs, Int.toNat_natCast]
              refine yd ⟨⟨J + 1, ?_, hlt, f1.set hk2 (.step ha2 (by rw [hin]; exact List.getElem_mem hlt) hh) ha3, fun k hk => mon_set k (f2 k hk), ?_⟩, ?_⟩
              · simp only; rw [w64_id om om]; rfl
              · intro b hb3 j hj
                rw [take_snoc hb, List.mem_append, List.mem_singleton] at hb3
                rcases hb3 with hb3 | rfl
                · exact mon_set j (f3 b hb3 j hj)
                · rw [hj.uniq hk2]; exact set_at f1 hk2
              · simp only; rw [w64_id om om]; omega
            · rw [rat_none hh]
              simp only [obs]
              rw [show decide ((-1 : Int) ≥ 0) = false by decide]
              simp only [cond_false, obs]
              refine yd ⟨⟨J + 1, ?_, hlt, f1, f2, ?_⟩, ?_⟩
              · simp only; rw [w64_id om om]; rfl
              · intro b hb3 j hj
                rw [take_snoc hb, List.mem_append, List.mem_singleton] at hb3
                rcases hb3 with hb3 | rfl
                · exact f3 b hb3 j hj
                · exact absurd hj.hs hh
              · simp only; rw [w64_id om om]; omega
          · rw [show decide ((J : Int) < (x.In.length : Int)) = false by simp; omega]
            simp only [cond_false]
            refine yd ⟨f1, f2, fun _ b hb => f3 b ?_⟩
            rw [List.take_of_length_le om]
            exact hb
      · rintro s' ⟨f1, f2, f3⟩
        refine yd ⟨f1, fun k hk => f2 k (g2 k hk), fun k hk hf a ha b hb j hj => ?_⟩
        by_cases e : k = K
        · subst e
          obtain ⟨x', hx', hn', _, hin⟩ := ha.get
          rw [hx] at hx'
          injection hx' with hx'
          subst hx'
          exact f3 (g2 _ hf) b (by rw [← hin]; exact hb) j hj
        · exact f2 j (g3 k om hf a ha b hb j hj)
    · rintro is' ⟨g1, g2, g3⟩
      refine yd ⟨g1, ?_⟩
      rcases cnt is is' (by rw [hs.len, g1.len]) g2 with rfl | hlt
      · left
        intro k a b j hk ha hb hj
        exact g3 k (by have := (List.getElem?_eq_some_iff.1 hk).1; rw [hs.len] at this; exact this) hk a ha b hb j hj
      · rcases hc with hc | hc
        · exfalso
          have : Mon is' is := by
            intro k hk
            obtain ⟨a, ha1, ha2, ha3⟩ := g1.so k hk
            obtain ⟨j, hj, hf⟩ := closed_all hs hc a ha2 ha1.hs
            rw [ha1.uniq hj]
            exact hf
          rcases cnt is' is (by rw [hs.len, g1.len]) this with e | e
          · rw [e] at hlt; omega
          · omega
        · exact .inr fun hn => by have := hc hn; omega
  · rintro is ⟨hs, hc⟩
    refine ⟨hs, ?_⟩
    rcases hc with hc | hc
    · exact hc
    · by_cases hn : has l n
      · have h1 := hc hn
        have h2 := List.count_le_length (a := true) (l := is)
        rw [hs.len] at h2
        omega
      · intro k a b j hk
        obtain ⟨_, _, _, hh⟩ := hs.so k hk
        exact absurd hh hn
theorem into_spec {s : List By8} {x : By8} (hs : Asc s) (hx : x ∉ s) (hl : s.length ≤ 1000) : ∃ A B, s = A ++ B ∧ (∀ y ∈ A, sLt y x = true) ∧ (∀ y ∈ B, sLt x y = true) ∧ r18_into s x = some (A ++ x :: B) := by
  have h : Ret (r18_into s x) (fun r => ∃ A B, s = A ++ B ∧ (∀ y ∈ A, sLt y x = true) ∧ (∀ y ∈ B, sLt x y = true) ∧ r = A ++ x :: B) := by
    unfold r18_into
    refine yg (R := fun (q : Int) => ∃ i : Nat, q = i ∧ i ≤ s.length ∧ (∀ y ∈ s.take i, sLt y x = true) ∧ ∀ z, s[i]? = some z → sLt x z = true) (loopO_rb (fun (q : Int) => ∃ i : Nat, q = i ∧ i ≤ s.length ∧ ∀ y ∈ s.take i, sLt y x = true) (fun q => s.length - q.toNat) ?_ ⟨0, rfl, by omega, by simp⟩) ?_
    · rintro q ⟨i, rfl, hi, h1⟩
      by_cases hlt : i < s.length
      · rw [show decide ((i : Int) < (s.length : Int)) = true by simp [hlt]]
        have hz : s[i]? = some s[i] := gE hlt
        simp only [cond_true, idx_nat, hz, obs]
        cases hc : sLt s[i] x with
        | true =>
          refine yd ⟨⟨i + 1, by rw [w64_id om om]; rfl, hlt, fun y hy => ?_⟩, by rw [w64_id om om]; omega⟩
          rw [take_snoc hz, List.mem_append, List.mem_singleton] at hy
          rcases hy with hy | rfl
          · exact h1 y hy
          · exact hc
        | false =>
          refine yd ⟨i, rfl, hi, h1, fun z hz' => ?_⟩
          rw [hz] at hz'
          injection hz' with hz'
          subst hz'
          rcases sLt_total s[i] x with h | h | h
          · rw [hc] at h; cases h
          · exact absurd (h ▸ List.getElem_mem hlt) hx
          · exact h
      · rw [show decide ((i : Int) < (s.length : Int)) = false by simp; omega]
        simp only [cond_false, obs]
        refine yd ⟨i, rfl, hi, h1, fun z hz => ?_⟩
        have := (List.getElem?_eq_some_iff.1 hz).1
        omega
    · rintro q ⟨i, rfl, hi, h1, h2⟩
      rw [sub_at (lo := 0) (i := 0) (j := i) rfl rfl om hi, sub_at (i := i) (j := s.length) rfl rfl hi om]
      simp only [obs, List.drop_zero, List.take_length]
      rw [app_le (by simp; omega)]
      simp only [obs, List.nil_append]
      rw [app_le (by simp; omega)]
      simp only [obs]
      rw [app_le (by simp; omega)]
      exact yd ⟨s.take i, s.drop i, (List.take_append_drop i s).symm, h1, fun y hy => hs.drop_lt h2 hy, by simp⟩
  obtain ⟨r, hr, A, B, h1, h2, h3, rfl⟩ := h.ex
  exact ⟨A, B, h1, h2, h3, hr⟩
theorem rall_eq {l : List Role} {n : By8} (hl : l.length ≤ 100) (hi : ∀ x ∈ l, x.In.length ≤ 100) : ∃ r, r18_All l n = some r ∧ Good l n r := by
  refine Ret.ex ?_
  unfold r18_All
  refine yg (reach_spec hl hi) ?_
  rintro is ⟨hs, hc⟩
  refine yg (R := fun r => Asc r ∧ ∀ m, m ∈ r ↔ ∃ k, k < l.length ∧ is[k]? = some true ∧ ∃ x, l[k]? = some x ∧ x.Name = m) (forE_ret (fun K r => Asc r ∧ r.length ≤ K ∧ ∀ m, m ∈ r ↔ ∃ k, k < K ∧ is[k]? = some true ∧ ∃ x, l[k]? = some x ∧ x.Name = m) ⟨List.Pairwise.nil, Nat.le_refl _, fun m => by simp⟩ ?_ |>.mono fun r h => ⟨h.1, h.2.2⟩) ?_
  · rintro K r hK ⟨g1, g2, g3⟩
    obtain ⟨b, hb⟩ := flag_idx hs hK
    have hx : l[K]? = some l[K] := gE hK
    simp only [idx_nat, hb, hx, obs]
    cases b with
    | false =>
      refine yd ⟨g1, by omega, fun m => (g3 m).trans ⟨fun ⟨k, h1, h2⟩ => ⟨k, by omega, h2⟩, fun ⟨k, h1, h2, h3⟩ => ⟨k, ?_, h2, h3⟩⟩⟩
      have : k ≠ K := by rintro rfl; rw [hb] at h2; cases h2
      omega
    | true =>
      obtain ⟨a, ha, _, _⟩ := hs.so K hb
      have hn : l[K].Name ∉ r := by
        intro hm
        obtain ⟨k, h1, h2, x, h3, h4⟩ := (g3 _).1 hm
        obtain ⟨a', ha', _, _⟩ := hs.so k h2
        obtain ⟨y, hy1, hy2, _⟩ := ha.get
        obtain ⟨y', hy1', hy2', _⟩ := ha'.get
        rw [hx] at hy1; injection hy1 with hy1
        rw [h3] at hy1'; injection hy1' with hy1'
        subst hy1 hy1'
        rw [h4, hy2] at hy2'
        subst hy2'
        have := ha.uniq ha'
        omega
      obtain ⟨A, B, e, e1, e2, e3⟩ := into_spec g1 hn om
      simp only [cond_true]
      rw [e3]
      refine yd ⟨(e ▸ g1 : Asc (A ++ B)).ins e1 e2, by rw [e] at g2; simp at g2 ⊢; omega, fun m => ?_⟩
      have : m ∈ A ++ l[K].Name :: B ↔ m = l[K].Name ∨ m ∈ r := by rw [e]; simp only [List.mem_append, List.mem_cons]; exact ⟨fun h => by rcases h with h | h | h <;> simp [h], fun h => by rcases h with h | h | h <;> simp [h]⟩
      rw [this, g3]
      constructor
      · rintro (rfl | ⟨k, h1, h2⟩)
        · exact ⟨K, by omega, hb, _, hx, rfl⟩
        · exact ⟨k, by omega, h2⟩
      · rintro ⟨k, h1, h2, x, h3, h4⟩
        by_cases e : k = K
        · subst e
          rw [hx] at h3; injection h3 with h3
          exact .inl (by rw [h3]; exact h4.symm)
        · exact .inr ⟨k, by omega, h2, x, h3, h4⟩
  · rintro r ⟨h1, h2⟩
    refine yd ⟨fun hn => ⟨h1, fun m => ?_⟩, fun hn => ?_⟩
    · rw [h2]
      constructor
      · rintro ⟨k, g1, g2, x, g3, g4⟩
        obtain ⟨a, ha, hr, _⟩ := hs.so k g2
        obtain ⟨y, hy1, hy2, _⟩ := ha.get
        rw [g3] at hy1; injection hy1 with hy1
        subst hy1
        rw [← g4, hy2]
        exact hr
      · intro hr
        have hm : has l m := by cases hr with | self => exact hn | step _ _ h => exact h
        obtain ⟨j, hj, hf⟩ := closed_all hs hc m hr hm
        obtain ⟨y, hy1, hy2, _⟩ := hj.get
        exact ⟨j, hj.lt, hf, y, hy1, hy2⟩
    · cases r with
      | nil => rfl
      | cons m r =>
        obtain ⟨k, g1, g2, _⟩ := (h2 m).1 (by simp)
        obtain ⟨_, _, _, hh⟩ := hs.so k g2
        exact absurd hh hn
theorem contains_has (xs : List By8) (n : By8) : slices_Contains_string xs n = r14_Has xs n := by
  obtain ⟨a, ha, ha'⟩ := contains_eq xs n
  obtain ⟨b, hb, hb'⟩ := has_eq xs n
  rw [ha, hb, bool_iff ha' hb']
theorem all_same {l : List Role} (h : Sm l) (n : By8) : member_All l n = r18_All l n := by
  obtain ⟨a, ha, ga⟩ := all_eq (n := n) h.1 h.2.1 h.2.2
  obtain ⟨b, hb, gb⟩ := rall_eq (n := n) h.1 h.2.1
  rw [ha, hb, ga.uniq gb]
theorem is_same {l : List Role} (h : Sm l) (n o : By8) : member_Is l n o = r18_Is l n o := by
  unfold member_Is r18_Is
  rw [all_same h]
  simp only [contains_has]
theorem sAt_some {s : By8} {i : Int} (h0 : 0 ≤ i) (h1 : i < (s.size : Int)) : ∃ c, sAt s i = some c := by
  unfold sAt
  simp [h0, h1]
def Sml (c : Int) : Prop := 97 ≤ c ∧ c ≤ 122
def Wrd (c : Int) : Prop := (97 ≤ c ∧ c ≤ 122) ∨ (48 ≤ c ∧ c ≤ 57) ∨ c = 95
def Nmd (s : By8) : Prop := s.size ≤ 12 ∧ (∃ c, sAt s 0 = some c ∧ Sml c) ∧ ∀ (i : Nat) (c : Int), sAt s (i : Int) = some c → Wrd c
theorem sAt_lt {s : By8} {i : Nat} {c : Int} (h : sAt s (i : Int) = some c) : i < s.size := by
  unfold sAt at h
  rw [if_pos om, Int.toNat_natCast] at h
  cases hx : s[i]? with
  | none => rw [hx] at h; cases h
  | some b => exact (getElem?_eq_some_iff.1 hx).1
theorem size_pos {s : By8} (h : sEq s eB = false) : 0 < s.size := by
  rcases Nat.eq_zero_or_pos s.size with h0 | h0
  · exfalso
    have : s = eB := by
      cases s with
      | mk d => congr 1; exact Array.eq_empty_of_size_eq_zero h0
    rw [this, keq.refl] at h
    cases h
  · exact h0
theorem Nmd.pos {s : By8} (h : Nmd s) : 0 < s.size := by
  obtain ⟨_, ⟨c, hc, _⟩, _⟩ := h
  exact sAt_lt (i := 0) hc
theorem rall_spec {s t : By8} {f : Nat} (hs : s.size ≤ 100000) (ht : t.size ≤ 1000) : Ret (r09_all s (f : Int) t) (fun b => b = true ↔ ∀ (i : Nat) c, f ≤ i → sAt s (i : Int) = some c → ∃ j : Nat, sAt t (j : Int) = some c) := by
  unfold r09_all
  refine yg (R := fun r => (r = .inl false ∧ ∃ (i : Nat) (c : Int), f ≤ i ∧ sAt s (i : Int) = some c ∧ ∀ j : Nat, sAt t (j : Int) ≠ some c) ∨ (r = .inr () ∧ ∀ (i : Nat) c, f ≤ i → sAt s (i : Int) = some c → ∃ j : Nat, sAt t (j : Int) = some c)) (loopO_rb (fun (q : Int) => ∃ k : Nat, q = (k : Int) ∧ f ≤ k ∧ (k ≤ s.size ∨ k = f) ∧ ∀ (i : Nat) c, f ≤ i → i < k → sAt s (i : Int) = some c → ∃ j : Nat, sAt t (j : Int) = some c) (fun q => s.size + f + 1 - q.toNat) ?_ ⟨f, rfl, Nat.le_refl _, .inr rfl, by omega⟩) ?_
  · rintro q ⟨k, rfl, h1, h2, h3⟩
    refine yk (fun hc => ?_) (fun hc => yd (.inr ⟨rfl, fun i c hi hic => h3 i c hi (by have := sAt_lt hic; simp at hc; omega) hic⟩))
    have hk : k < s.size := by simp at hc; omega
    obtain ⟨c, hc⟩ := sAt_some (s := s) (i := (k : Int)) om om
    refine yg (R := fun b => b = true ↔ ∃ j : Nat, sAt t (j : Int) = some c) (loopO_rb (fun (q : Bool × Int) => ∃ j : Nat, q.2 = (j : Int) ∧ j ≤ t.size ∧ (q.1 = true ↔ ∃ m : Nat, m < j ∧ sAt t (m : Int) = some c)) (fun q => t.size - q.2.toNat) ?_ ⟨0, rfl, by omega, by simp⟩) ?_
    · rintro ⟨b, q⟩ ⟨j, g1, g2, g3⟩
      simp only at g1 g3
      subst g1
      refine yk (fun hj => ?_) (fun hj => yd ?_)
      · have hj : j < t.size := by simp at hj; omega
        obtain ⟨d, hd⟩ := sAt_some (s := t) (i := (j : Int)) om om
        simp only [hd, hc, obs]
        refine yg (R := fun b' => b' = true ↔ b = true ∨ d = c) (yk (fun e => yd (by simp [e])) (fun e => yd (by simp [e]))) ?_
        intro b' hb'
        refine yd ⟨⟨j + 1, by simp only; rw [w64_id om om]; rfl, hj, ?_⟩, by simp only; rw [w64_id om om]; omega⟩
        simp only
        rw [hb', g3]
        constructor
        · rintro (⟨m, h, e⟩ | rfl)
          · exact ⟨m, by omega, e⟩
          · exact ⟨j, by omega, hd⟩
        · rintro ⟨m, h, e⟩
          by_cases hm : m = j
          · subst hm; rw [hd] at e; injection e with e; exact .inr e
          · exact .inl ⟨m, by omega, e⟩
      · have : j = t.size := by simp at hj; omega
        subst this
        refine g3.trans ?_
        constructor
        · rintro ⟨m, _, e⟩; exact ⟨m, e⟩
        · rintro ⟨m, e⟩; exact ⟨m, sAt_lt e, e⟩
    · intro b hb
      refine yk (fun e => yd (.inl ⟨rfl, k, c, h1, hc, fun j hj => ?_⟩)) (fun e => yd ⟨⟨k + 1, by rw [w64_id om om]; rfl, by omega, .inl hk, fun i d hi hik hd => ?_⟩, by rw [w64_id om om]; omega⟩)
      · rw [hb.2 ⟨j, hj⟩] at e; cases e
      · by_cases hm : i = k
        · subst hm; rw [hc] at hd; injection hd with hd; subst hd; exact hb.1 (by simpa using e)
        · exact h3 i d hi om hd
  · rintro r (⟨rfl, i, c, h1, h2, h3⟩ | ⟨rfl, h⟩)
    · exact yd ⟨fun h => (by cases h), fun h => by obtain ⟨j, hj⟩ := h i c h1 h2; exact absurd hj (h3 j)⟩
    · exact yd ⟨fun _ => h, fun _ => rfl⟩
def nums (t : By8) : List Int := t.data.toList.map fun b => (b.toNat : Int)
theorem sAt_nums (t : By8) (c : Int) : (∃ j : Nat, sAt t (j : Int) = some c) ↔ c ∈ nums t := by
  have key : ∀ j : Nat, sAt t (j : Int) = (nums t)[j]? := fun j => by
    unfold sAt nums
    rw [if_pos om, Int.toNat_natCast, List.getElem?_map, Array.getElem?_toList]
    rfl
  rw [List.mem_iff_getElem?]
  constructor <;> rintro ⟨j, hj⟩ <;> exact ⟨j, by rw [← hj, key]⟩
theorem first_at {s : By8} (h0 : 0 < s.size) (i : Nat) (c : Int) : sAt (s.extract 0 1) (i : Int) = some c ↔ i = 0 ∧ sAt s 0 = some c := by
  have hs : (s.extract 0 1).size = 1 := by rw [ByteArray.size_extract]; omega
  constructor
  · intro h
    have hi := sAt_lt h
    have hi0 : i = 0 := by omega
    subst hi0
    refine ⟨rfl, ?_⟩
    unfold sAt at h ⊢
    rw [if_pos om] at h ⊢
    rw [← h]
    congr 1
    rw [Int.toNat_natCast]
    show s[0]? = _
    rw [getElem?_pos s 0 h0, getElem?_pos (s.extract 0 1) 0 om, ByteArray.getElem_extract]
  · rintro ⟨rfl, h⟩
    unfold sAt at h ⊢
    rw [if_pos om] at h ⊢
    rw [← h]
    congr 1
    rw [Int.toNat_natCast]
    show _ = s[0]?
    rw [getElem?_pos s 0 h0, getElem?_pos (s.extract 0 1) 0 om, ByteArray.getElem_extract]
theorem plain_ret {s : By8} (hs : s.size ≤ 100000) : ∃ b, r03_Plain s = some b := by
  refine Ret.ex (Q := fun _ => True) ?_ |>.imp fun r h => h.1
  unfold r03_Plain
  refine yg (loopO_rb (Q := fun _ => True) (fun (q : Int) => 0 ≤ q ∧ q ≤ (s.size : Int)) (fun q => ((s.size : Int) - q).toNat) ?_ ⟨by omega, by omega⟩) (fun t _ => by cases t <;> exact yd trivial)
  rintro q ⟨h1, h2⟩
  refine yk (fun hc => ?_) rt
  have hq : q < (s.size : Int) := by simpa using hc
  obtain ⟨c, hc⟩ := sAt_some h1 hq
  rw [hc]
  simp only [obs]
  refine yg (R := fun _ => True) (yk rt rt) (fun b _ => yk rt (fun _ => yd ⟨⟨?_, ?_⟩, ?_⟩)) <;> rw [w64_id om om] <;> omega
theorem rquoted_ret {s : By8} (hs : s.size ≤ 100000) (h0 : 0 < s.size) : ∃ b, r09_quoted s = some b := by
  refine Ret.ex (Q := fun _ => True) ?_ |>.imp fun r h => h.1
  unfold r09_quoted
  have hw : w64 ((s.size : Int) - 1) = ((s.size - 1 : Nat) : Int) := by rw [w64_id om om]; omega
  rw [hw]
  obtain ⟨c0, hc0⟩ := sAt_some (s := s) (i := 0) om om
  obtain ⟨c1, hc1⟩ := sAt_some (s := s) (i := ((s.size - 1 : Nat) : Int)) om om
  obtain ⟨p, hp⟩ := plain_ret hs
  rw [hc0, hc1, hp]
  simp only [obs]
  refine yg (R := fun _ => True) (yk rt rt) (fun _ _ => yg (R := fun _ => True) (yk rt rt) (fun _ _ => yg (R := fun _ => True) (yk rt rt) (fun _ _ => yk rt (fun _ => ?_))))
  refine yg (loopO_rb (Q := fun _ => True) (fun (q : Int × Int) => 1 ≤ q.2 ∧ (q.2 ≤ (s.size : Int) ∨ q.2 = 1)) (fun q => ((s.size : Int) + 1 - q.2).toNat) ?_ ⟨by simp, .inr rfl⟩) (fun t _ => by cases t <;> exact yd trivial)
  rintro ⟨n, q⟩ ⟨h1, h2⟩
  simp only at h1 h2
  refine yk (fun hc => ?_) rt
  have hq : q < (s.size : Int) := by simp at hc; omega
  obtain ⟨c, hc⟩ := sAt_some (s := s) om hq
  rw [hc]
  simp only [obs]
  refine yg (R := fun _ => True) (yk (fun _ => yk rt rt) rt) (fun t _ => ?_)
  cases t with
  | inl v => exact yd trivial
  | inr v =>
    refine yd ⟨⟨?_, .inl ?_⟩, ?_⟩ <;> simp only <;> rw [w64_id om om] <;> omega
theorem rsign_ret (s : By8) : ∃ b, r09_sign s = some b := by
  refine Ret.ex (Q := fun _ => True) ?_ |>.imp fun r h => h.1
  unfold r09_sign
  refine yg (R := fun _ => True) ?_ (fun b _ => yk rt rt)
  repeat first
    | exact yd trivial
    | refine yk rt (fun _ => yg (R := fun _ => True) ?_ (fun _ _ => yd trivial))
    | refine yk rt rt
theorem rname_spec {s : By8} (hs : s.size ≤ 100000) : ∃ b, r09_IsName s = some b ∧ (b = true ↔ Nmd s) := by
  refine Ret.ex ?_
  unfold r09_IsName
  refine yg (R := fun k => k = 1 ↔ Nmd s) ?_ (fun k hk => yd (by rw [beq_iff_eq]; exact hk))
  unfold r09_Kind
  refine yk (fun e => yd ⟨fun h => (by cases h), fun h => ?_⟩) (fun e => ?_)
  · have := h.pos
    rw [(keq _ _).1 e] at this
    cases this
  have h0 := size_pos e
  have hex : ssub s 0 1 = some (s.extract 0 1) := by
    unfold ssub
    rw [if_pos ⟨by omega, by omega, by omega⟩]
    rfl
  have hes : (s.extract 0 1).size ≤ 100000 := by rw [ByteArray.size_extract]; omega
  refine yg (R := fun b => b = true ↔ s.size ≤ 12 ∧ ∃ c, sAt s 0 = some c ∧ Sml c) (yk (fun hc => ?_) (fun hc => yd ⟨fun h => (by cases h), fun h => by simp at hc; omega⟩)) (fun b hb => ?_)
  · rw [hex]
    simp only [obs]
    refine yg (rall_spec (f := 0) hes (by decide)) (fun b hb => yd (hb.trans ?_))
    have h12 : s.size ≤ 12 := by simp at hc; omega
    obtain ⟨c, hc⟩ := sAt_some (s := s) (i := 0) om om
    have hm : (∃ j : Nat, sAt (⟨#[97, 98, 99, 100, 101, 102, 103, 104, 105, 106, 107, 108, 109, 110, 111, 112, 113, 114, 115, 116, 117, 118, 119, 120, 121, 122]⟩ : By8) (j : Int) = some c) ↔ Sml c := by
      rw [sAt_nums]
      simp only [nums, List.map_cons, List.map_nil, List.mem_cons, List.not_mem_nil, or_false, Sml]
      simp
      omega
    constructor
    · intro h
      exact ⟨h12, c, hc, hm.1 (h 0 c om ((first_at h0 0 c).2 ⟨rfl, hc⟩))⟩
    · rintro ⟨_, d, hd, hds⟩ i x _ hx
      obtain ⟨_, hx⟩ := (first_at h0 i x).1 hx
      rw [hc] at hx hd
      injection hx with hx; injection hd with hd
      subst hx hd
      exact hm.2 hds
  refine yg (R := fun b => b = true ↔ Nmd s) (yk (fun e => ?_) (fun e => yd ⟨fun h => (by cases h), fun h => ?_⟩)) (fun b hb => yk (fun e => yd ⟨fun _ => hb.1 e, fun _ => rfl⟩) (fun e => ?_))
  · obtain ⟨h12, c, hc, hcs⟩ := hb.1 e
    refine yg (rall_spec (f := 1) hs (by decide)) (fun b hb => yd (hb.trans ?_))
    have hm : ∀ x, (∃ j : Nat, sAt (⟨#[97, 98, 99, 100, 101, 102, 103, 104, 105, 106, 107, 108, 109, 110, 111, 112, 113, 114, 115, 116, 117, 118, 119, 120, 121, 122, 48, 49, 50, 51, 52, 53, 54, 55, 56, 57, 95]⟩ : By8) (j : Int) = some x) ↔ Wrd x := fun x => by
      rw [sAt_nums]
      simp only [nums, List.map_cons, List.map_nil, List.mem_cons, List.not_mem_nil, or_false, Wrd]
      simp
      omega
    constructor
    · intro h
      refine ⟨h12, ⟨c, hc, hcs⟩, fun i x hx => ?_⟩
      by_cases hi : i = 0
      · subst hi
        rw [show ((0 : Nat) : Int) = 0 from rfl, hc] at hx
        injection hx with hx
        subst hx
        exact .inl hcs
      · exact (hm x).1 (h i x om hx)
    · intro h i x _ hx
      exact (hm x).2 (h.2.2 i x hx)
  · have := hb.2 ⟨h.1, h.2.1⟩
    rw [e] at this
    cases this
  have hno : ¬ Nmd s := fun h => by rw [hb.2 h] at e; cases e
  refine RB.mono (Q := fun k => k ≠ 1) ?_ (fun k hk => ⟨fun h => absurd h hk, fun h => absurd h hno⟩)
  rw [hex]
  simp only [obs]
  have ra : ∀ (x t : By8) (f : Nat), x.size ≤ 100000 → t.size ≤ 1000 → ∃ b, r09_all x (f : Int) t = some b := fun x t f h1 h2 => by
    obtain ⟨b, hb, _⟩ := (rall_spec (s := x) (t := t) (f := f) h1 h2).ex
    exact ⟨b, hb⟩
  obtain ⟨b1, hb1⟩ := ra (s.extract 0 1) (⟨#[65, 66, 67, 68, 69, 70, 71, 72, 73, 74, 75, 76, 77, 78, 79, 80, 81, 82, 83, 84, 85, 86, 87, 88, 89, 90]⟩ : By8) 0 hes (by decide)
  obtain ⟨b2, hb2⟩ := ra s (⟨#[65, 66, 67, 68, 69, 70, 71, 72, 73, 74, 75, 76, 77, 78, 79, 80, 81, 82, 83, 84, 85, 86, 87, 88, 89, 90, 95]⟩ : By8) 1 hs (by decide)
  obtain ⟨b3, hb3⟩ := ra s (⟨#[48, 49, 50, 51, 52, 53, 54, 55, 56, 57]⟩ : By8) 0 hs (by decide)
  obtain ⟨b4, hb4⟩ := rquoted_ret hs h0
  obtain ⟨b5, hb5⟩ := rsign_ret s
  obtain ⟨c0, hc0⟩ := sAt_some (s := s) (i := 0) om om
  refine yg (R := fun _ => True) (yk (fun _ => yaq hb1 (yd trivial)) rt) (fun _ _ => ?_)
  refine yg (R := fun _ => True) (yk (fun _ => yaq hb2 (yd trivial)) rt) (fun _ _ => yk (fun _ => yd (by decide)) (fun _ => ?_))
  refine yg (R := fun _ => True) (yk (fun _ => yaq hb3 (yd trivial)) rt) (fun _ _ => ?_)
  refine yg (R := fun _ => True) (yk (fun _ => yg (R := fun _ => True) (yk rt (fun _ => by rw [hc0]; exact yd trivial)) (fun _ _ => yd trivial)) rt) (fun _ _ => yk (fun _ => yd (by decide)) (fun _ => ?_))
  rw [hb4]
  simp only [obs]
  refine yk (fun _ => yd (by decide)) (fun _ => ?_)
  refine yg (R := fun b => b = true → s.size = 2) (yk (fun hc => by rw [hc0]; exact yd (fun _ => by simp at hc; omega)) (fun _ => yd (fun h => by cases h))) (fun b hb => ?_)
  have at1 : s.size = 2 → ∃ c, sAt s 1 = some c := fun h => sAt_some om om
  refine yg (R := fun b => b = true → s.size = 2) (yk (fun e => by obtain ⟨c, hc⟩ := at1 (hb e); rw [hc]; exact yd (fun _ => hb e)) (fun _ => yd (fun h => by cases h))) (fun b hb => ?_)
  refine yg (R := fun _ => True) (yk (fun e => by obtain ⟨c, hc⟩ := at1 (hb e); rw [hc]; exact yd trivial) rt) (fun _ _ => yk (fun _ => yd (by decide)) (fun _ => ?_))
  rw [hb5]
  simp only [obs]
  exact yk (fun _ => yd (by decide)) (fun _ => yd (by decide))
mutual
def esz (e : qE) : Nat := match e with | ⟨_, _, _, _, ks⟩ => 1 + eszL ks
def eszL (l : List qE) : Nat := match l with | [] => 0 | x :: xs => esz x + eszL xs
end
mutual
def eok (e : qE) : Prop := match e with | ⟨_, _, v, n, ks⟩ => n.size ≤ 100 ∧ v.S.size ≤ 100 ∧ eokL ks
def eokL (l : List qE) : Prop := match l with | [] => True | x :: xs => eok x ∧ eokL xs
end
theorem esz_eq (e : qE) : esz e = 1 + eszL e.Kids := by cases e; rw [esz]
theorem esz_mem {l : List qE} {x : qE} (h : x ∈ l) : esz x ≤ eszL l := by
  induction h with
  | head => rw [eszL]; omega
  | tail _ _ ih => rw [eszL]; omega
theorem eok_eq {e : qE} : eok e ↔ e.Name.size ≤ 100 ∧ e.V.S.size ≤ 100 ∧ eokL e.Kids := by cases e; rw [eok]
theorem eokL_iff {l : List qE} : eokL l ↔ ∀ x ∈ l, eok x := by
  induction l with
  | nil => rw [eokL]; simp
  | cons x r ih => rw [eokL, ih]; simp
theorem kid_sz {e x : qE} (h : x ∈ e.Kids) : esz x < esz e := by
  have := esz_mem h
  rw [esz_eq e]
  omega
theorem esz_pos (e : qE) : 0 < esz e := by rw [esz_eq]; omega
theorem eszL_len : ∀ l : List qE, l.length ≤ eszL l
  | [] => Nat.zero_le _
  | x :: xs => by
    have := eszL_len xs
    have := esz_pos x
    rw [eszL]
    simp only [List.length_cons]
    omega
theorem height_fu {b : Prop} : ∀ (n : Nat) (e : qE), (b → esz e ≤ n) → RB b (r10_Height_fu n e) TT
  | 0, e, h => ybi fun hb => by have := h hb; have := esz_pos e; omega
  | n + 1, e, h => by
    unfold r10_Height_fu
    refine yg (R := TT) (forE_tt fun j s hj => yak hj fun x _ hx => yg (height_fu n x fun hb => by have := h hb; have := kid_sz hx; omega) fun r _ => ?_) fun s _ => yd trivial
    refine yg (R := TT) ?_ fun s _ => yd trivial
    exact yk rt rt
theorem height_tt {b : Prop} (e : qE) : RB b (r10_Height e) TT := fuel_tt (esz e) fun n => height_fu n e fun h => h
theorem eszL_app : ∀ a c : List qE, eszL (a ++ c) = eszL a + eszL c
  | [], c => by simp [eszL]
  | x :: xs, c => by rw [List.cons_append, eszL, eszL, eszL_app xs c]; omega
theorem take_next {α : Type} {xs : List α} {j : Nat} {x : α} (h : xs[j]? = some x) : xs.take (j + 1) = xs.take j ++ [x] := by
  rw [List.take_add_one, h]
  rfl
theorem eszL_next {xs : List qE} {j : Nat} {x : qE} (h : xs[j]? = some x) : eszL (xs.take (j + 1)) = eszL (xs.take j) + esz x := by
  rw [take_next h, eszL_app, eszL, eszL, Nat.add_zero]
theorem count_fu {b : Prop} : ∀ (n : Nat) (e : qE) (k : Int), (b → esz e ≤ n) → k ≤ 1000 → RB b (r10_count_fu n e k) (fun r => r.2 = true → 0 ≤ r.1 ∧ r.1 + (esz e : Int) ≤ k ∧ eok e)
  | 0, e, k, h, _ => ybi fun hb => by have := h hb; have := esz_pos e; omega
  | n + 1, e, k, h, hk => by
    unfold r10_count_fu
    refine ya9 (ya9 (yk (fun _ => yd fun h => by cases h) fun hc => ?_))
    simp only [Bool.or_eq_false_iff, decide_eq_false_iff_not] at hc
    obtain ⟨⟨⟨h1, h2⟩, h3⟩, h4⟩ := hc
    have e0 : w64 (k - 1) = k - 1 := w64_id om om
    rw [e0]
    refine yg (forN_ret (fun j s => 0 ≤ s ∧ s + (eszL (e.Kids.take j) : Int) ≤ k - 1 ∧ ∀ x ∈ e.Kids.take j, eok x) (Q := fun r => r.2 = false) ⟨by omega, by simp [eszL], by simp⟩ ?_) ?_
    · rintro j s hj ⟨g1, g2, g3⟩
      refine yak hj fun x hx hm => ?_
      have hs : s ≤ 1000 := by omega
      refine yg (count_fu n x s (fun hb => by have := h hb; have := kid_sz hm; omega) hs) ?_
      rintro ⟨u, c⟩ hr
      refine yk (fun hc => yd rfl) fun hc => yd ?_
      simp only [Bool.not_eq_false'] at hc
      obtain ⟨q1, q2, q3⟩ := hr hc
      refine ⟨q1, ?_, ?_⟩
      · rw [eszL_next hx]
        simp only at q2
        omega
      · rw [take_next hx]
        intro y hy
        rcases List.mem_append.1 hy with hy | hy
        · exact g3 y hy
        · simp at hy; subst hy; exact q3
    · rintro t ht
      cases t with
      | inl s =>
        obtain ⟨g1, g2, g3⟩ := ht
        rw [List.take_length] at g2 g3
        refine yd fun _ => ⟨g1, ?_, eok_eq.2 ⟨by omega, by omega, eokL_iff.2 g3⟩⟩
        rw [esz_eq]
        simp only
        omega
      | inr r =>
        obtain ⟨r1, r2⟩ := r
        simp only at ht
        subst ht
        exact yd fun h => by cases h
def Es (e : qE) : Prop := esz e ≤ 60 ∧ eok e
theorem efew_rb {b : Prop} (e : qE) : RB b (r10_Few e 60) (fun r => r = true → Es e) := by
  unfold r10_Few r10_count
  refine yg (fuel_tt (esz e) fun n => count_fu n e 60 (fun h => h) om) ?_
  rintro ⟨u, c⟩ hr
  refine yd fun h => ?_
  obtain ⟨q1, q2, q3⟩ := hr h
  simp only at q2
  exact ⟨by omega, q3⟩
theorem samelist_tt {b : Prop} {f : qE → qE → Option Bool} {p q : List qE} (h : ∀ x ∈ p, ∀ y, RB b (f x y) TT) : RB b (r10_SameList f p q) TT := by
  unfold r10_SameList
  refine yk rt fun hc => ?_
  have hl : p.length = q.length := by simp at hc; omega
  refine yg (R := TT) (forN_tt fun j s hj => yak hj fun x _ hx => yak om fun y _ _ => yg (h x hx y) fun r _ => yk rt rt) ?_
  rintro (_ | _) _ <;> exact yd trivial
theorem esame_fu {b : Prop} : ∀ (n : Nat) (e d : qE), (b → esz e ≤ n) → RB b (r10_Same_fu n e d) TT
  | 0, e, d, h => ybi fun hb => by have := h hb; have := esz_pos e; omega
  | n + 1, e, d, h => by
    unfold r10_Same_fu
    refine ya9 (yk rt fun _ => yg (samelist_tt fun x hx y => esame_fu n x y fun hb => by have := h hb; have := kid_sz hx; omega) fun r _ => yd trivial)
theorem none_tt {b : Prop} (e : qE) : RB b (r12_None e) TT := by
  unfold r12_None r10_Same
  exact yg (fuel_tt (esz e) fun n => esame_fu n e z_qE fun h => h) fun r _ => yd trivial
theorem parts_fu {b : Prop} : ∀ (n : Nat) (e : qE), esz e ≤ 1000 → (b → esz e ≤ n) → RB b (r10_Parts_fu n e) (fun l => l.length ≤ esz e ∧ ∀ x ∈ l, eok e → eok x)
  | 0, e, _, h => ybi fun hb => by have := h hb; have := esz_pos e; omega
  | n + 1, e, hz, h => by
    unfold r10_Parts_fu
    refine yg (forE_ret (fun j (s : List qE) => s.length ≤ 1 + eszL (e.Kids.take j) ∧ ∀ x ∈ s, eok e → eok x) ⟨by simp [eszL], by simp⟩ ?_) ?_
    · rintro j s hj ⟨g1, g2⟩
      refine yak hj fun x hx hm => ?_
      have hx1 := kid_sz hm
      refine yg (parts_fu n x om fun hb => by have := h hb; omega) ?_
      rintro r ⟨r1, r2⟩
      have hle : eszL (e.Kids.take (j + 1)) ≤ eszL e.Kids := by
        have := eszL_app (e.Kids.take (j + 1)) (e.Kids.drop (j + 1))
        rw [List.take_append_drop] at this
        omega
      have h1 := esz_eq e
      rw [eszL_next hx] at hle
      refine ya3 om (yd ⟨by rw [eszL_next hx, List.length_append]; omega, fun y hy ho => ?_⟩)
      rcases List.mem_append.1 hy with hy | hy
      · exact g2 y hy ho
      · exact r2 y hy (eokL_iff.1 (eok_eq.1 ho).2.2 x hm)
    · rintro s ⟨g1, g2⟩
      rw [List.take_length] at g1
      exact yd ⟨by rw [esz_eq]; omega, g2⟩
theorem parts_rb {b : Prop} {e : qE} (hz : esz e ≤ 1000) : RB b (r10_Parts e) (fun l => l.length ≤ esz e ∧ ∀ x ∈ l, eok e → eok x) := by
  unfold r10_Parts
  exact fuel_tt (esz e) fun n => parts_fu n e hz fun h => h
theorem params_tt {b : Prop} {e : qE} (hz : esz e ≤ 1000) : RB b (r10_Params e) TT := by
  unfold r10_Params
  refine yg (parts_rb hz) fun l _ => yg (R := TT) (forE_tt fun j s hj => yak hj fun x _ _ => yg (R := TT) ?_ fun c _ => yg (R := TT) ?_ fun _ _ => yd trivial) fun _ _ => yd trivial
  · exact yk (fun _ => yak hj fun _ _ _ => yd trivial) rt
  · exact yk (fun _ => yak hj fun _ _ _ => yd trivial) rt
theorem enames_rb {b : Prop} {e : qE} (hz : esz e ≤ 1000) : RB b (r10_Names e) (fun l => l.length ≤ 1000) := by
  unfold r10_Names
  refine yg (parts_rb hz) ?_
  rintro l ⟨hl, _⟩
  refine yg (forE_ret (fun j (s : List By8) => s.length ≤ j) (by simp) ?_) fun s hs => yd om
  rintro j s hj hs
  refine yak hj fun x _ _ => yg (R := TT) (forE_tt fun i c hi => yg (R := TT) (yk rt fun _ => yak hi fun _ _ _ => yak hj fun _ _ _ => yd trivial) fun _ _ => yd trivial) fun c _ => ?_
  refine yg (R := fun (s' : List By8) => s'.length ≤ j + 1) ?_ fun s' h => yd h
  refine yk (fun _ => yak hj fun _ _ _ => ya3 (by simp only [List.length_cons, List.length_nil]; omega) (yd (by simp; omega))) fun _ => yd om
theorem rname_tt {b : Prop} {s : By8} (hs : s.size ≤ 100) : RB b (r09_IsName s) TT := by
  obtain ⟨r, hr, _⟩ := rname_spec (s := s) om
  exact ybw hr trivial
theorem vright_tt {b : Prop} {v : qV} (hs : v.S.size ≤ 100) : RB b (r03_Right v) TT := by
  unfold r03_Right
  refine yk rt fun _ => yk rt fun _ => yk (fun _ => ya9 (yd trivial)) fun _ => yk (fun _ => ?_) fun _ => yd trivial
  refine yg (R := TT) (yk (fun _ => ?_) fun _ => yd trivial) fun _ _ => yd trivial
  obtain ⟨r, hr⟩ := plain_ret (s := v.S) om
  rw [hr]
  exact yd trivial
mutual
def ert (e : qE) : Prop := match e with | ⟨k, o, _, _, ks⟩ => (k = 6 → 2 ≤ ks.length) ∧ (k = 3 → 1 ≤ o ∧ o ≤ 6) ∧ (k = 8 → 0 ≤ o ∧ o ≤ 5) ∧ ertL ks
def ertL (l : List qE) : Prop := match l with | [] => True | x :: xs => ert x ∧ ertL xs
end
theorem ert_eq {e : qE} : ert e ↔ (e.Kind = 6 → 2 ≤ e.Kids.length) ∧ (e.Kind = 3 → 1 ≤ e.Op ∧ e.Op ≤ 6) ∧ (e.Kind = 8 → 0 ≤ e.Op ∧ e.Op ≤ 5) ∧ ertL e.Kids := by cases e; rw [ert]
theorem ertL_iff {l : List qE} : ertL l ↔ ∀ x ∈ l, ert x := by
  induction l with
  | nil => rw [ertL]; simp
  | cons x r ih => rw [ertL, ih]; simp
theorem right_fu {b : Prop} : ∀ (n : Nat) (e : qE) (s : Bool), eok e → (b → esz e ≤ n) → RB b (r10_Right_fu n e s) (fun r => r = true → ert e)
  | 0, e, s, _, h => ybi fun hb => by have := h hb; have := esz_pos e; omega
  | n + 1, e, s, ho, h => by
    obtain ⟨o1, o2, o3⟩ := eok_eq.1 ho
    have o3 := eokL_iff.1 o3
    unfold r10_Right_fu
    refine yg (forN_ret (fun j _ => ∀ x ∈ e.Kids.take j, ert x) (Q := fun r => r = false) (by simp) ?_) ?_
    · rintro j _ hj g
      refine yak hj fun x hx hm => yg (right_fu n x s (o3 x hm) fun hb => by have := h hb; have := kid_sz hm; omega) fun r hr => yk (fun _ => yd rfl) fun hc => yd ?_
      simp only [Bool.not_eq_false'] at hc
      rw [take_next hx]
      intro y hy
      rcases List.mem_append.1 hy with hy | hy
      · exact g y hy
      · simp at hy; subst hy; exact hr hc
    · rintro t ht
      cases t with
      | inr r => exact yd fun h => by subst h; cases ht
      | inl u =>
        rw [List.take_length] at ht
        have hk := ertL_iff.2 ht
        have fin : ∀ {c : Bool}, (c = true → (e.Kind = 6 → 2 ≤ e.Kids.length) ∧ (e.Kind = 3 → 1 ≤ e.Op ∧ e.Op ≤ 6) ∧ (e.Kind = 8 → 0 ≤ e.Op ∧ e.Op ≤ 5)) → c = true → ert e := fun hq hc => ert_eq.2 ⟨(hq hc).1, (hq hc).2.1, (hq hc).2.2, hk⟩
        refine ya9 (ya9 (yk (fun _ => yd fun h => by cases h) fun _ => ya9 (yk (fun _ => yd fun h => by cases h) fun _ => yk (fun k => ?_) fun k1 => yk (fun k => ?_) fun k2 => yk (fun k => ya9 (yd (fin fun hq => ?_))) fun k3 => yk (fun k => ya9 (yd (fin fun hq => ?_))) fun k4 => yk (fun k => ya9 (yd (fin fun hq => ?_))) fun k5 => yk (fun k => ya9 (yd (fin fun hq => ?_))) fun k6 => yk (fun k => ya9 (ya9 (yd (fin fun hq => ?_)))) fun k7 => yk (fun k => ya9 (yd (fin fun hq => ?_))) fun k8 => yd fun h => by cases h)))
        · refine yg (R := TT) (yk (fun _ => yg (vright_tt o2) fun _ _ => yd trivial) fun _ => yd trivial) fun c _ => yd (fin fun hq => ?_)
          simp only [beq_iff_eq] at k
          exact ⟨fun h => by omega, fun h => by omega, fun h => by omega⟩
        · refine yg (R := TT) (yk (fun _ => yg (rname_tt o1) fun _ _ => yd trivial) fun _ => yd trivial) fun c _ => yd (fin fun hq => ?_)
          simp only [beq_iff_eq] at k
          exact ⟨fun h => by omega, fun h => by omega, fun h => by omega⟩
        all_goals
          simp only [beq_iff_eq, Bool.and_eq_true, decide_eq_true_eq] at k hq
          exact ⟨fun h => by omega, fun h => by omega, fun h => by omega⟩
theorem echeck_rb {b : Prop} {e : qE} (s : Bool) (ho : eok e) : RB b (r10_Check e s) (fun r => r = 0 → ert e) := by
  unfold r10_Check r10_Right
  refine yg (height_tt e) fun k _ => yk (fun _ => yd fun h => by cases h) fun _ => yg (fuel_tt (esz e) fun n => right_fu n e s ho fun h => h) fun r hr => yk (fun _ => yd fun h => by cases h) fun hc => yd fun _ => hr (by simpa using hc)
theorem col_rb {b : Prop} (t : qT) (n : By8) : RB b (r14_Col t n) (fun r => r = -1 ∧ (∀ x ∈ t.Cols, x.Name ≠ n) ∨ 0 ≤ r ∧ r < (t.Cols.length : Int)) := by
  unfold r14_Col
  refine yg (forN_ret (fun j _ => ∀ x ∈ t.Cols.take j, x.Name ≠ n) (Q := fun r => 0 ≤ r ∧ r < (t.Cols.length : Int)) (by simp) ?_) ?_
  · rintro j _ hj g
    refine yak hj fun x hx _ => yk (fun _ => yd ⟨by omega, by omega⟩) fun hc => yd ?_
    rw [take_next hx]
    intro y hy
    rcases List.mem_append.1 hy with hy | hy
    · exact g y hy
    · simp at hy
      subst hy
      intro he
      rw [sEq_iff.2 he] at hc
      cases hc
  · rintro t ht
    cases t with
    | inl u => rw [List.take_length] at ht; exact yd (.inl ⟨rfl, ht⟩)
    | inr r => exact yd (.inr ht)
theorem place_fu {b : Prop} (t : qT) : ∀ (n : Nat) (e : qE), esz e ≤ 1000 → (b → esz e ≤ n) → RB b (r15_Place_fu n t e) (fun r => esz r ≤ esz e ∧ (eok e → eok r))
  | 0, e, _, h => ybi fun hb => by have := h hb; have := esz_pos e; omega
  | n + 1, e, hz, h => by
    unfold r15_Place_fu
    refine yk (fun _ => yg (col_rb t e.Name) fun r _ => yd ⟨?_, fun _ => ?_⟩) fun _ => ?_
    · have := esz_pos e
      rw [esz_eq]
      show 1 + eszL [] ≤ esz e
      rw [eszL]
      omega
    · refine eok_eq.2 ⟨by show (0 : Nat) ≤ 100; omega, by show (0 : Nat) ≤ 100; omega, ?_⟩
      show eokL []
      rw [eokL]
      trivial
    · refine yg (forE_ret (fun j (s : List qE) => s.length ≤ j ∧ eszL s ≤ eszL (e.Kids.take j) ∧ (eok e → eokL s)) ⟨by simp, by simp [eszL], by simp [eokL]⟩ ?_) ?_
      · rintro j s hj ⟨g0, g1, g2⟩
        refine yak hj fun x hx hm => ?_
        have hx1 := kid_sz hm
        have hkl := eszL_len e.Kids
        have h1 := esz_eq e
        refine yg (place_fu t n x om fun hb => by have := h hb; omega) ?_
        rintro r ⟨r1, r2⟩
        refine ya3 (by simp only [List.length_cons, List.length_nil]; omega) (yd ⟨by simp; omega, by rw [eszL_next hx, eszL_app, eszL, eszL]; omega, fun ho => eokL_iff.2 fun y hy => ?_⟩)
        rcases List.mem_append.1 hy with hy | hy
        · exact eokL_iff.1 (g2 ho) y hy
        · simp at hy; subst hy; exact r2 (eokL_iff.1 (eok_eq.1 ho).2.2 x hm)
      · rintro s ⟨_, g1, g2⟩
        rw [List.take_length] at g1
        exact yd ⟨by rw [esz_eq, esz_eq]; simp only; omega, fun ho => eok_eq.2 ⟨(eok_eq.1 ho).1, (eok_eq.1 ho).2.1, g2 ho⟩⟩
theorem resolve_rb {b : Prop} (t : qT) {e : qE} (hz : esz e ≤ 1000) (ho : eok e) : RB b (r15_Resolve t e) (fun r => r.2 = 0 → esz r.1 ≤ 1000 ∧ eok r.1) := by
  unfold r15_Resolve r15_Place
  refine yg (echeck_rb false ho) fun r _ => yk (fun hc => yd fun h => by simp only at h; subst h; cases hc) fun _ => yg (enames_rb hz) fun l _ => ?_
  refine yg (forN_ret (fun _ _ => True) (Q := fun r => r.1 = 4) trivial fun j s hj _ => yak hj fun x _ _ => yg (col_rb t x) fun _ _ => yk (fun _ => yd rfl) rt) ?_
  rintro (s | ⟨s1, s2⟩) hs
  · exact yg (fuel_tt (esz e) fun n => place_fu t n e hz fun h => h) fun r hr => yd fun _ => ⟨Nat.le_trans hr.1 hz, hr.2 ho⟩
  · simp only at hs
    subst hs
    exact yd fun h => by cases h
theorem first_tt {b : Prop} (l : List Int) : RB b (r15_first l) TT := by
  unfold r15_first
  refine yg (R := TT) (forN_tt fun j s hj => yak hj fun _ _ _ => yk (fun _ => yak hj fun _ _ _ => yd trivial) rt) ?_
  rintro (_ | _) _ <;> exact yd trivial
theorem all_tt {b : Prop} (l : List Int) (k : Int) : RB b (r15_all l k) TT := by
  unfold r15_all
  refine yg (R := TT) (forN_tt fun j s hj => yak hj fun _ _ _ => yg (R := TT) (yk (fun _ => yak hj fun _ _ _ => yd trivial) rt) fun _ _ => yk rt rt) ?_
  rintro (_ | _) _ <;> exact yd trivial
theorem made_tt {b : Prop} {e : qE} {l : List Int} (h : e.Kind = 6 → 0 < l.length) : RB b (r15_made e l) TT := by
  unfold r15_made
  have h6 : ∀ {α : Type} {f : Int → Option α} {Q : α → Prop}, (e.Kind == 6) = true → (∀ x, RB b (f x) Q) → RB b ((idx l 0).bind f) Q := fun hk hf => yak (i := 0) (h (by simpa using hk)) fun x _ _ => hf x
  refine yk rt fun _ => ya9 (yg (R := TT) ?_ ?_)
  · refine yk rt fun _ => yg (R := TT) (yk (fun _ => yg (first_tt l) fun _ _ => yd trivial) fun _ => yg (R := TT) (yk rt fun _ => yg (R := TT) (yk (fun k => h6 k fun _ => yd trivial) rt) fun c _ => yk rt fun _ => yg (R := TT) (yk (fun k => h6 k fun _ => yd trivial) fun _ => ya9 (yg (R := TT) (yk rt fun _ => ya9 (yg (R := TT) (yk (fun _ => yg (first_tt l) fun _ _ => yg (first_tt l) fun _ _ => yd trivial) rt) ?_)) ?_)) ?_) ?_) ?_
    all_goals first | (rintro (⟨_, _⟩ | _) _ <;> exact yd trivial; done) | (rintro ⟨_, _⟩ _; exact yd trivial)
  · rintro (⟨k, m⟩ | _) _
    · exact yg (all_tt l k) fun _ _ => yk rt rt
    · exact yd trivial
theorem find_fu {b : Prop} (cols : List Int) : ∀ (n : Nat) (e : qE), esz e ≤ 1000 → ert e → (b → esz e ≤ n) → RB b (r15_find_fu n e cols []) TT
  | 0, e, _, _, h => ybi fun hb => by have := h hb; have := esz_pos e; omega
  | n + 1, e, hz, he, h => by
    obtain ⟨e6, e3, e8, ek⟩ := ert_eq.1 he
    have hkl := eszL_len e.Kids
    have h1 := esz_eq e
    unfold r15_find_fu
    refine yk rt fun _ => yk rt fun _ => yg (R := fun (p : List Int × Int) => e.Kind = 3 ∨ e.Kind = 8 → 0 ≤ p.2) ?_ ?_
    · refine yk (fun k => yd fun _ => ?_) (fun k => yd fun hk => ?_)
      · have := e3 (by simpa using k)
        show 0 ≤ w64 (e.Op - 1)
        rw [w64_id om om]
        omega
      · rcases hk with hk | hk
        · rw [hk] at k; cases k
        · exact (e8 hk).1
    · rintro ⟨p, q⟩ hq
      refine yk (fun hk => ?_) fun _ => ?_
      · have h0 : 0 ≤ q := hq (by simpa using hk)
        refine yk rt fun hc => ?_
        have hl : q < (p.length : Int) := by simpa using hc
        exact ybh h0 hl fun _ _ _ => yg (R := TT) (yk rt fun _ => ybh h0 hl fun _ _ _ => yd trivial) fun _ _ => yk rt fun _ => ybh h0 hl fun _ _ _ => yd trivial
      · refine yg (forN_ret (fun j (s : List Int) => s.length = j) (Q := fun _ => True) rfl ?_) ?_
        · rintro j s hj hs
          refine yak hj fun x hx hm => yg (find_fu cols n x (by have := kid_sz hm; omega) (ertL_iff.1 ek x hm) fun hb => by have := h hb; have := kid_sz hm; omega) ?_
          rintro ⟨r1, r2⟩ _
          exact yk rt fun _ => ya3 (by simp only [List.length_cons, List.length_nil]; omega) (yd (by simp [hs]))
        · rintro (s | ⟨_, _⟩) hs
          · refine yg (made_tt fun k => ?_) fun _ _ => yk rt rt
            have := e6 k
            simp only at hs
            omega
          · exact yd trivial
theorem bool_tt {b : Prop} {e : qE} (cols : List Int) (hz : esz e ≤ 1000) (ho : eok e) : RB b (r15_Bool e cols []) TT := by
  unfold r15_Bool r15_Type r15_find
  refine yg (R := TT) (yg (echeck_rb true ho) fun r hr => yk rt fun hc => yg (fuel_tt (esz e) fun n => find_fu cols n e hz (hr (by simpa using hc)) fun h => h) ?_) ?_
  · rintro ⟨_, _⟩ _; exact yd trivial
  · rintro ⟨_, _⟩ _; exact yk rt fun _ => yk rt rt
structure TB (n : Nat) (t : qT) : Prop where
  cols : t.Cols.length ≤ n
  cons : t.Cons.length ≤ n
  idx : t.Idx.length ≤ n
  nm : t.Name.size ≤ 100
  ow : t.Owner.size ≤ 100
  cn : ∀ x ∈ t.Cols, x.Name.size ≤ 100
  xs : ∀ x ∈ t.Cons, x.Name.size ≤ 100 ∧ x.Table.size ≤ 100 ∧ x.Cols.length ≤ n ∧ x.Refs.length ≤ n ∧ Es x.Check
  is : ∀ x ∈ t.Idx, x.Name.size ≤ 100 ∧ x.Cols.length ≤ n
theorem TB.up {n m : Nat} {t : qT} (h : TB n t) (hm : n ≤ m) : TB m t :=
  ⟨by have := h.cols; omega, by have := h.cons; omega, by have := h.idx; omega, h.nm, h.ow, h.cn, fun x hx => by obtain ⟨a, b, c, d, e⟩ := h.xs x hx; exact ⟨a, b, by omega, by omega, e⟩, fun x hx => by obtain ⟨a, b⟩ := h.is x hx; exact ⟨a, by omega⟩⟩
theorem has_rb {b : Prop} (xs : List By8) (n : By8) : RB b (r14_Has xs n) (fun r => r = true ↔ n ∈ xs) := RB.ex (has_eq xs n)
theorem grow {α β : Type} {b : Prop} {k : Nat} (g : α → β) {xs : List α} {s0 : List β} (hk : (s0.length + xs.length) * k ≤ 140737488355328) {step : Nat → List β → Option (List β)} (h : ∀ j s x, xs[j]? = some x → step j s = (app k s [g x]).bind fun y => some y) :
    RB b (forE step xs.length 0 s0) (fun r => r = s0 ++ xs.map g) := by
  refine (forE_ret (fun j s => s = s0 ++ (xs.take j).map g) (by simp) ?_).mono fun r hr => by rw [hr, List.take_length]
  rintro j s hj rfl
  rw [h j _ _ (gE hj)]
  refine ya3 ?_ (yd ?_)
  · refine Nat.le_trans (Nat.mul_le_mul_right k ?_) hk
    simp
    omega
  · rw [take_next (gE hj), List.map_append, List.map_cons, List.map_nil, List.append_assoc]
theorem tnames_rb {b : Prop} {n : Nat} {t : qT} (h : TB n t) (hn : n ≤ 1000) : RB b (r14_Names t) (fun r => r.1 = t.Cols.map (·.Name) ∧ r.2 = t.Cons.map (·.Name) ++ t.Idx.map (·.Name)) := by
  have h1 := h.cols
  have h2 := h.cons
  have h3 := h.idx
  unfold r14_Names
  refine yg (grow (k := 16) (fun (x : qL) => x.Name) (by simp; omega) fun j s x hx => by rw [idx_nat, hx]; rfl) ?_
  rintro _ rfl
  refine yg (grow (k := 16) (fun (x : qK) => x.Name) (by simp; omega) fun j s x hx => by rw [idx_nat, hx]; rfl) ?_
  rintro _ rfl
  refine yg (grow (k := 16) (fun (x : qI) => x.Name) (by simp; omega) fun j s x hx => by rw [idx_nat, hx]; rfl) ?_
  rintro _ rfl
  exact yd ⟨by simp, by simp⟩
theorem tlists_rb {b : Prop} {n : Nat} {t : qT} (h : TB n t) (hn : n ≤ 1000) : RB b (r14_lists t) (fun r => r = t.Cons.map (·.Cols) ++ t.Idx.map (·.Cols)) := by
  have h2 := h.cons
  have h3 := h.idx
  unfold r14_lists
  refine yg (grow (k := 24) (fun (x : qK) => x.Cols) (by simp; omega) fun j s x hx => by rw [idx_nat, hx]; rfl) ?_
  rintro _ rfl
  refine yg (grow (k := 24) (fun (x : qI) => x.Cols) (by simp; omega) fun j s x hx => by rw [idx_nat, hx]; rfl) ?_
  rintro _ rfl
  exact yd (by simp)
theorem lists_len {n : Nat} {t : qT} (h : TB n t) {l : List By8} (hl : l ∈ t.Cons.map (·.Cols) ++ t.Idx.map (·.Cols)) : l.length ≤ n := by
  rcases List.mem_append.1 hl with hl | hl
  · obtain ⟨x, hx, rfl⟩ := List.mem_map.1 hl
    exact (h.xs x hx).2.2.1
  · obtain ⟨x, hx, rfl⟩ := List.mem_map.1 hl
    exact (h.is x hx).2
theorem used_rb {b : Prop} {n : Nat} {t : qT} (h : TB n t) (hn : n ≤ 1000) : RB b (r14_Used t) (fun r => ∀ x ∈ t.Cons, ∀ s ∈ x.Cols, s ∈ r) := by
  have h2 := h.cons
  have h3 := h.idx
  unfold r14_Used
  refine yg (tlists_rb h hn) ?_
  rintro r rfl
  have hlen : (t.Cons.map (·.Cols) ++ t.Idx.map (·.Cols)).length ≤ 2000 := by simp; omega
  generalize hL : t.Cons.map (·.Cols) ++ t.Idx.map (·.Cols) = L at hlen ⊢
  refine yg (forE_ret (fun j (s : List By8) => s.length ≤ j * 1000 ∧ ∀ l ∈ L.take j, ∀ x ∈ l, x ∈ s) ⟨by simp, by simp⟩ ?_) ?_
  · rintro j s hj ⟨g1, g2⟩
    refine yak hj fun l hl hm => ?_
    have hll : l.length ≤ n := lists_len h (by rw [hL]; exact hm)
    refine ya3 om (yd ⟨by simp; omega, ?_⟩)
    rw [take_next hl]
    intro l' hl' x hx
    rcases List.mem_append.1 hl' with hl' | hl'
    · exact List.mem_append_left _ (g2 l' hl' x hx)
    · simp at hl'; subst hl'; exact List.mem_append_right _ hx
  · rintro s ⟨g1, g2⟩
    rw [List.take_length] at g2
    refine yg (forE_ret (fun j (u : List By8) => u.length ≤ (2000 + j) * 1000 ∧ ∀ x ∈ s, x ∈ u) ⟨by omega, fun x hx => hx⟩ ?_) ?_
    · rintro j u hj ⟨k1, k2⟩
      refine yak hj fun x _ hm => yg (R := fun (v : List By8) => v.length ≤ (2000 + (j + 1)) * 1000 ∧ ∀ x ∈ s, x ∈ v) ?_ fun v hv => yd hv
      refine yk (fun _ => yak hj fun y _ hm' => ?_) fun _ => yd ⟨by omega, k2⟩
      have hz : esz y.Check ≤ 1000 := Nat.le_trans (h.xs y hm').2.2.2.2.1 om
      refine yg (enames_rb hz) fun v hv => ?_
      have hv : v.length ≤ 1000 := hv
      refine ya3 ?_ (yd ⟨by rw [List.length_append]; omega, fun z hz => List.mem_append_left _ (k2 z hz)⟩)
      have : u.length + v.length ≤ 4000000 := by omega
      omega
    · rintro u ⟨_, k2⟩
      refine yd fun x hx z hz => k2 z (g2 x.Cols ?_ z hz)
      rw [← hL]
      exact List.mem_append_left _ (List.mem_map_of_mem hx)
theorem twice_tt {b : Prop} (l : List By8) : RB b (r14_twice l) TT := by
  unfold r14_twice
  refine yg (R := TT) (forN_tt fun j s hj => ?_) ?_
  · rw [sub_at (xs := l) (lo := 0) (hi := (j : Int)) (i := 0) (j := j) rfl rfl om om]
    exact yak hj fun _ _ _ => yg (has_rb _ _) fun _ _ => yk rt rt
  · rintro (_ | _) _ <;> exact yd trivial
theorem forN_q {σ τ : Type} {b : Prop} {step : Nat → σ → Option (σ ⊕ τ)} {n : Nat} {s : σ} {Q : τ → Prop} (hs : ∀ j s, j < n → RB b (step j s) (fun r => match r with | .inl _ => True | .inr t => Q t)) :
    RB b (forN step n 0 s) (fun r => match r with | .inl _ => True | .inr t => Q t) := forN_ret (fun _ _ => True) trivial fun j s hj _ => hs j s hj
def NE (t : qT) : Prop := ∀ x ∈ t.Cons, x.Kind = 1 → x.Cols ≠ []
theorem wrong_rb {b : Prop} {n : Nat} {t : qT} (h : TB n t) (hn : n ≤ 1000) : RB b (r14_wrong t) (fun r => r = 0 → NE t) := by
  have h1 := h.cols
  have h2 := h.cons
  have h3 := h.idx
  have no : ∀ {k : Int} {C : Prop}, k ≠ 0 → (k = 0 → C) := fun hk he => absurd he hk
  unfold r14_wrong
  refine yg (tnames_rb h hn) ?_
  rintro ⟨r1, r2⟩ ⟨e1, e2⟩
  simp only at e1 e2
  subst e1 e2
  refine ya3 (by simp; omega) (ya3 (by simp; omega) ?_)
  have hsz : ∀ s ∈ [t.Name, t.Owner] ++ t.Cols.map (·.Name) ++ (t.Cons.map (·.Name) ++ t.Idx.map (·.Name)), s.size ≤ 100 := by
    intro s hs
    simp only [List.mem_append, List.mem_cons, List.not_mem_nil, or_false, List.mem_map] at hs
    rcases hs with ((rfl | rfl) | ⟨x, hx, rfl⟩) | ⟨x, hx, rfl⟩ | ⟨x, hx, rfl⟩
    · exact h.nm
    · exact h.ow
    · exact h.cn x hx
    · exact (h.xs x hx).1
    · exact (h.is x hx).1
  generalize [t.Name, t.Owner] ++ t.Cols.map (·.Name) ++ (t.Cons.map (·.Name) ++ t.Idx.map (·.Name)) = A at hsz ⊢
  refine yg (forN_q (Q := fun r => r ≠ 0) fun j s hj => yak hj fun x _ hx => yg (rname_tt (hsz x hx)) fun _ _ => yk (fun _ => yd (by decide)) rt) ?_
  rintro (_ | _) g
  rotate_left
  · exact yd (no g)
  refine yk (fun _ => yd (no (by decide))) fun _ => yg (forN_q (Q := fun r => r ≠ 0) fun j s hj => yak hj fun x _ hx => yg (R := TT) (yk rt fun _ => yak hj fun _ _ _ => yd trivial) fun _ _ => yk (fun _ => yd (by decide)) rt) ?_
  rintro (_ | _) g
  rotate_left
  · exact yd (no g)
  refine yg (forN_q (Q := fun r => r ≠ 0) fun j s hj => yak hj fun x _ hx => yg (R := TT) (yk rt fun _ => yak hj fun _ _ _ => yd trivial) fun _ _ => yk (fun _ => yd (by decide)) rt) ?_
  rintro (_ | _) g
  rotate_left
  · exact yd (no g)
  refine ya9 (ya9 (yk (fun _ => yd (no (by decide))) fun _ => yg (tlists_rb h hn) fun l hl => ?_))
  have hl : l = t.Cons.map (·.Cols) ++ t.Idx.map (·.Cols) := hl
  have hll : t.Cons.length ≤ l.length := by rw [hl]; simp
  refine yg (forN_ret (fun j _ => ∀ i x, i < j → t.Cons[i]? = some x → x.Kind = 1 → x.Cols ≠ []) (Q := fun r => r ≠ 0) (fun i x hi => by omega) ?_) ?_
  · intro j s hj g
    have hlt : ∀ {α : Type} {f : qK → Option α} {Q : α → Prop}, decide ((j : Int) < (t.Cons.length : Int)) = true → (∀ x, t.Cons[j]? = some x → RB b (f x) Q) → RB b ((Gv.idx t.Cons (j : Int)).bind f) Q := fun hc hf => yak (by simpa using hc) fun x hx _ => hf x hx
    refine yg (R := fun (q : Bool) => q = true → ∀ x, t.Cons[j]? = some x → x.Kind = 2) (yk (fun hc => hlt hc fun x hx => yd fun hq y hy => by rw [hx] at hy; injection hy with hy; subst hy; simpa using hq) (fun _ => yd fun h => by cases h)) fun q hq => ?_
    refine yg (R := fun (q' : Bool) => q' = false → q = false → ∀ x, t.Cons[j]? = some x → x.Cols ≠ []) (yk (fun hc => yak hj fun u hu _ => yg (R := fun (q' : Bool) => q' = false → u ≠ []) (yk (fun _ => yd fun h => by cases h) fun hc => yak hj fun _ _ _ => yd fun _ hu => by subst hu; simp at hc) fun q' hq' => yd fun hf _ x hx => ?_) (fun hc => yd fun _ hq => by subst hq; cases hc)) fun q' hq' => ?_
    · have : l[j]? = some x.Cols := by
        rw [hl, List.getElem?_append_left (by simpa using (List.getElem?_eq_some_iff.1 hx).1), List.getElem?_map, hx]
        rfl
      rw [hu] at this
      injection this with this
      rw [← this]
      exact hq' hf
    · refine yk (fun _ => yd (show (3 : Int) ≠ 0 by decide)) fun hc => ?_
      have goal : ∀ i x, i < j + 1 → t.Cons[i]? = some x → x.Kind = 1 → x.Cols ≠ [] := by
        intro i x hi hx hk
        by_cases hij : i < j
        · exact g i x hij hx hk
        · have : i = j := by omega
          subst this
          cases q with
          | false => exact hq' hc rfl x hx
          | true => rw [hq rfl x hx] at hk; cases hk
      refine yg (R := fun (q : Bool) => q = true → j < t.Cons.length) (yk (fun hc => hlt hc fun _ _ => yd fun _ => by simpa using hc) (fun _ => yd fun h => by cases h)) fun q hq => yg (R := TT) (yk (fun hc => yak (hq hc) fun _ _ _ => yg (R := TT) (yk rt fun _ => yak (hq hc) fun _ _ _ => yd trivial) fun _ _ => yd trivial) rt) fun _ _ => yk (fun _ => yd (show (3 : Int) ≠ 0 by decide)) (fun _ => yd goal)
  rintro (_ | _) g2
  rotate_left
  · exact yd (no g2)
  have ne : NE t := fun x hx => by
    obtain ⟨i, hi, rfl⟩ := List.mem_iff_getElem.1 hx
    exact g2 i _ om (gE hi)
  refine RB.mono (Q := TT) ?_ (fun _ _ _ => ne)
  refine yg (twice_tt _) fun _ _ => yg (R := TT) (yk rt fun _ => yg (twice_tt _) fun _ _ => yd trivial) fun _ _ => yk rt fun _ => yg (R := TT) (forN_tt fun j s hj => ?_) ?_
  · have hlt : ∀ {α : Type} {f : qK → Option α} {Q : α → Prop}, decide ((j : Int) < (t.Cons.length : Int)) = true → (∀ x, RB b (f x) Q) → RB b ((Gv.idx t.Cons (j : Int)).bind f) Q := fun hc hf => yak (by simpa using hc) fun x _ _ => hf x
    exact yak hj fun _ _ _ => yg (twice_tt _) fun _ _ => yg (R := TT) (yk rt fun _ => yg (R := TT) (yk (fun hc => hlt hc fun _ => yg (twice_tt _) fun _ _ => yd trivial) rt) fun _ _ => yd trivial) fun _ _ => yk rt rt
  · rintro (_ | _) _ <;> exact yd trivial
structure TR (t : qT) : Prop where
  ne : NE t
  cs : ∀ x ∈ t.Cons, ∀ s ∈ x.Cols, ∃ c ∈ t.Cols, c.Name = s
  rf : ∀ x ∈ t.Cons, x.Kind = 3 → x.Refs.length = x.Cols.length
theorem tcheck_rb {b : Prop} {n : Nat} {t : qT} (h : TB n t) (hn : n ≤ 1000) : RB b (r14_Check t) (fun r => r = 0 → TR t) := by
  unfold r14_Check
  have no : ∀ {k : Int} {C : Prop}, k ≠ 0 → (k = 0 → C) := fun hk he => absurd he hk
  refine yg (wrong_rb h hn) fun r hr => yk (fun hc => yd (no (by simpa using hc))) fun hc => ?_
  have hne : NE t := hr (by simpa using hc)
  refine yg (tnames_rb h hn) ?_
  rintro ⟨r1, r2⟩ ⟨e1, e2⟩
  simp only at e1 e2
  subst e1 e2
  refine yg (used_rb h hn) fun u hu => yg (forN_ret (fun j _ => ∀ s ∈ u.take j, ∃ c ∈ t.Cols, c.Name = s) (Q := fun r => r ≠ 0) (by simp) ?_) ?_
  · intro j s hj g
    refine yak hj fun x hx _ => yg (has_rb _ _) fun q hq => yk (fun _ => yd (show (4 : Int) ≠ 0 by decide)) fun hc => yd ?_
    show ∀ s ∈ u.take (j + 1), _
    rw [take_next hx]
    intro y hy
    rcases List.mem_append.1 hy with hy | hy
    · exact g y hy
    · simp only [List.mem_cons, List.not_mem_nil, or_false] at hy
      subst hy
      have := hq.1 (by simpa using hc)
      simpa using this
  rintro (_ | _) g1
  rotate_left
  · exact yd (no g1)
  rw [List.take_length] at g1
  refine yg (forN_q (Q := fun r => r ≠ 0) fun j s hj => ?_) ?_
  · refine yg (R := fun (r : Bool ⊕ Int) => match r with | .inl _ => True | .inr k => k = 17) (yak hj fun x _ _ => yk rt fun _ => yak hj fun y _ hy => yg (echeck_rb false (h.xs y hy).2.2.2.2.2) fun _ _ => yk (fun _ => yd rfl) fun _ => yg (R := TT) (yk rt fun _ => yak hj fun z _ hz => yg (params_tt (Nat.le_trans (h.xs z hz).2.2.2.2.1 om)) fun _ _ => yd trivial) fun _ _ => yd trivial) ?_
    rintro (_ | k) hk
    · exact yd trivial
    · simp only at hk
      subst hk
      exact yd (show (17 : Int) ≠ 0 by decide)
  rintro (_ | _) g2
  rotate_left
  · exact yd (no g2)
  refine yk (fun _ => yd (no (by decide))) fun _ => yg (forN_ret (fun j _ => ∀ x ∈ t.Cons.take j, x.Kind = 3 → x.Refs.length = x.Cols.length) (Q := fun r => r ≠ 0) (by simp) ?_) ?_
  · intro j s hj g
    refine yak hj fun x hx hm => yg (R := TT) (yk (fun _ => yg (none_tt _) fun _ _ => yd trivial) rt) fun _ _ => ya9 (yk (fun _ => yd (show (2 : Int) ≠ 0 by decide)) fun _ => ?_)
    refine yg (R := fun (q : Bool) => q = false → x.Kind = 3 → x.Refs.length = x.Cols.length) (yk (fun _ => yg (rname_tt (h.xs x hm).2.1) fun q _ => ya9 (yd fun hq _ => ?_)) (fun hc => yd fun _ hk => by rw [hk] at hc; cases hc)) fun q hq => ya9 (yk (fun _ => yd (show (2 : Int) ≠ 0 by decide)) fun hc => yd ?_)
    · simp only [Bool.or_eq_false_iff, bne_eq_false_iff_eq] at hq
      omega
    · simp only [Bool.or_eq_false_iff] at hc
      show ∀ x ∈ t.Cons.take (j + 1), _
      rw [take_next hx]
      intro y hy
      rcases List.mem_append.1 hy with hy | hy
      · exact g y hy
      · simp only [List.mem_cons, List.not_mem_nil, or_false] at hy
        subst hy
        exact hq hc.1
  rintro (_ | _) g3
  rotate_left
  · exact yd (no g3)
  rw [List.take_length] at g3
  exact yd fun _ => ⟨hne, fun x hx s hs => g1 s (hu x hx s hs), g3⟩
theorem places_rb {b : Prop} (t : qT) {l : List By8} (hl : l.length ≤ 1000) : RB b (r14_Places t l) (fun r => (∀ k ∈ r.1, 0 ≤ k ∧ k < (t.Cols.length : Int)) ∧ (r.2 = 0 ∧ r.1.length = l.length ∨ r.2 ≠ 0 ∧ r.1 = [] ∧ ∃ s ∈ l, ∀ c ∈ t.Cols, c.Name ≠ s)) := by
  unfold r14_Places
  refine yg (forN_ret (fun j (s : List Int) => s.length = j ∧ ∀ k ∈ s, 0 ≤ k ∧ k < (t.Cols.length : Int)) (Q := fun r => r.1 = [] ∧ r.2 ≠ 0 ∧ ∃ s ∈ l, ∀ c ∈ t.Cols, c.Name ≠ s) ⟨rfl, by simp⟩ ?_) ?_
  · rintro j s hj ⟨g1, g2⟩
    refine yak hj fun x hx hm => yg (col_rb t x) fun r hr => yk (fun hc => yd ⟨rfl, show (4 : Int) ≠ 0 by decide, x, hm, ?_⟩) fun hc => ya3 (by simp only [List.length_cons, List.length_nil]; omega) (yd ⟨by simp [g1], ?_⟩)
    · rcases hr with ⟨_, hr⟩ | ⟨hr, _⟩
      · exact hr
      · simp at hc; omega
    · intro k hk
      rcases List.mem_append.1 hk with hk | hk
      · exact g2 k hk
      · simp at hk
        subst hk
        rcases hr with ⟨hr, _⟩ | hr
        · subst hr; simp at hc
        · exact hr
  · rintro (s | ⟨s1, s2⟩) g
    · exact yd ⟨g.2, .inl ⟨rfl, g.1⟩⟩
    · obtain ⟨e1, e2, e3⟩ := g
      simp only at e1 e2
      subst e1
      exact yd ⟨by simp, .inr ⟨e2, rfl, e3⟩⟩
theorem alike_tt {b : Prop} (p q : List By8) : RB b (r17_alike p q) TT := by
  unfold r17_alike
  refine yk rt fun hc => ?_
  have hl : p.length = q.length := by simp at hc; omega
  refine yg (R := TT) (forN_tt fun j s hj => yg (R := TT) (forE_tt ?_) ?_) ?_
  · rintro i ⟨s1, s2⟩ hi
    exact yak hi fun _ _ _ => yak hj fun _ _ _ => yg (R := TT) (yk rt rt) fun _ _ => yak om fun _ _ _ => yak hj fun _ _ _ => yg (R := TT) (yk rt rt) fun _ _ => yd trivial
  · rintro ⟨_, _⟩ _
    exact yk rt rt
  · rintro (_ | _) _ <;> exact yd trivial
theorem keys_tt {b : Prop} (t : qT) (l : List By8) : RB b (r17_keys t l) TT := by
  unfold r17_keys
  exact yg (R := TT) (forE_tt fun j s hj => yak hj fun _ _ _ => yg (R := TT) (yk (fun _ => yak hj fun _ _ _ => yg (alike_tt _ _) fun _ _ => yd trivial) rt) fun _ _ => yg (R := TT) (yk rt rt) fun _ _ => yd trivial) fun _ _ => yd trivial
theorem tat_rb {b : Prop} (c : qC) (n : By8) : RB b (r17_At c n) (fun r => r = -1 ∨ 0 ≤ r ∧ r < (c.Tables.length : Int)) := by
  unfold r17_At
  refine yg (forN_q (Q := fun r => 0 ≤ r ∧ r < (c.Tables.length : Int)) fun j s hj => yak hj fun _ _ _ => yk (fun _ => yd ⟨by omega, by omega⟩) rt) ?_
  rintro (_ | _) g
  · exact yd (.inl rfl)
  · exact yd (.inr g)
theorem foreign_tt {b : Prop} {c : qC} {t : qT} {x : qK} (ht : TR t) (hx : x ∈ t.Cons) (hk : x.Kind = 3) (h1 : x.Cols.length ≤ 1000) (h2 : x.Refs.length ≤ 1000) : RB b (r17_foreign c t x) TT := by
  unfold r17_foreign
  refine yg (R := TT) (yk (fun _ => yg (tat_rb c _) fun r hr => yk rt fun hc => ?_) rt) ?_
  · simp only [decide_eq_false_iff_not] at hc
    exact ybh om (by rcases hr with hr | hr <;> omega) fun _ _ _ => yd trivial
  rintro (⟨_, _⟩ | p) _
  · exact yd trivial
  refine yg (places_rb p h2) ?_
  rintro ⟨l1, k1⟩ ⟨p1, p2⟩
  refine yg (places_rb t h1) ?_
  rintro ⟨l2, k2⟩ ⟨q1, q2⟩
  simp only at p1 p2 q1 q2
  refine yk rt fun hc => ?_
  have e1 : l1.length = x.Refs.length := by
    rcases p2 with ⟨_, h⟩ | ⟨h, _⟩
    · exact h
    · simp at hc; exact absurd hc h
  have e2 : l2.length = x.Cols.length := by
    rcases q2 with ⟨_, h⟩ | ⟨_, _, s, hs, h⟩
    · exact h
    · obtain ⟨d, hd, he⟩ := ht.cs x hx s hs
      exact absurd he (h d hd)
  have e3 := ht.rf x hx hk
  refine yg (R := TT) (forN_tt fun j s hj => yak om fun u _ hu => ybh (q1 u hu).1 (q1 u hu).2 fun _ _ _ => yak hj fun v _ hv => ybh (p1 v hv).1 (p1 v hv).2 fun _ _ _ => yk rt rt) ?_
  rintro (_ | _) _
  · exact yg (keys_tt _ _) fun _ _ => yk rt rt
  · exact yd trivial
theorem sound_rb {b : Prop} {n : Nat} (c : qC) {t : qT} (h : TB n t) (hn : n ≤ 1000) : RB b (r17_Sound c t) (fun r => r = 0 → TR t) := by
  have no : ∀ {k : Int} {C : Prop}, k ≠ 0 → (k = 0 → C) := fun hk he => absurd he hk
  unfold r17_Sound
  refine yg (tcheck_rb h hn) fun r hr => yk (fun hc => yd (no (by simpa using hc))) fun hc => ?_
  have ht : TR t := hr (by simpa using hc)
  refine RB.mono (Q := TT) ?_ (fun _ _ _ => ht)
  refine yg (R := TT) (forN_tt fun j s hj => yak hj fun x _ hx => ?_) ?_
  · obtain ⟨_, _, x1, x2, x3⟩ := h.xs x hx
    refine yg (R := TT) (yk (fun _ => yg (resolve_rb t (Nat.le_trans x3.1 om) x3.2) ?_) rt) fun _ _ => yg (R := TT) (yk (fun hk => yg (foreign_tt ht hx (by simpa using hk) om om) fun _ _ => yd trivial) rt) fun _ _ => yk rt rt
    rintro ⟨e, f⟩ hf
    refine yg (R := TT) (yk (fun hc => ?_) rt) fun _ _ => yd trivial
    obtain ⟨f1, f2⟩ := hf (by simpa using hc)
    have hcl := h.cols
    refine yg (R := TT) ?_ fun l _ => yg (bool_tt l f1 f2) fun _ _ => yd trivial
    unfold r15_Cols
    exact yg (grow (k := 8) (fun (x : qL) => x.Type_) (by simp; omega) fun j s x hx => by rw [idx_nat, hx]; rfl).tt fun _ _ => yd trivial
  · rintro (_ | _) _ <;> exact yd trivial
def CO (n : Nat) (x : qK) : Prop := x.Name.size ≤ 100 ∧ x.Table.size ≤ 100 ∧ x.Cols.length ≤ n ∧ x.Refs.length ≤ n ∧ Es x.Check
def TN (n : Nat) (t : qT) : Prop := TB n t ∧ NE t
structure CB (n : Nat) (c : qC) : Prop where
  tabs : c.Tables.length ≤ n
  ok : ∀ t ∈ c.Tables, TN n t
  grants : c.Grants.length ≤ n
theorem CB.up {n m : Nat} {c : qC} (h : CB n c) (hm : n ≤ m) : CB m c := ⟨by have := h.tabs; omega, fun t ht => ⟨(h.ok t ht).1.up hm, (h.ok t ht).2⟩, by have := h.grants; omega⟩
structure SF (s : qS) : Prop where
  cols : s.Cols.length ≤ 12
  cons : s.Cons.length ≤ 12
  names : s.Names.length ≤ 12
  table : s.Table.size ≤ 100
  name : s.Name.size ≤ 100
  cn : ∀ x ∈ s.Cols, x.Name.size ≤ 100
  xs : ∀ x ∈ s.Cons, CO 12 x
theorem copy_rb {b : Prop} {n : Nat} {t : qT} (h : TB n t) (hn : n ≤ 1000) : RB b (r17_Copy t) (fun r => r = t) := by
  have h1 := h.cols
  have h2 := h.cons
  have h3 := h.idx
  unfold r17_Copy
  exact ya3 (by simp; omega) (ya3 (by simp; omega) (ya3 (by simp; omega) (yd rfl)))
theorem pointed_rb {b : Prop} {n : Nat} {t : qT} (h : TN n t) (hn : n ≤ 1000) (p q : By8) (hq : q.size ≤ 100) : RB b (r17_pointed t p q) (fun r => TN n r.1 ∧ r.1.Name = t.Name) := by
  have h2 := h.1.cons
  unfold r17_pointed
  refine yg (copy_rb h.1 hn) ?_
  rintro _ rfl
  refine yg (loopO_rb (fun (s : Bool × Int × List qK) => ∃ i : Nat, s.2.1 = (i : Int) ∧ i ≤ s.2.2.length ∧ s.2.2.length ≤ n ∧ ∀ x ∈ s.2.2, CO n x ∧ (x.Kind = 1 → x.Cols ≠ [])) (fun s => s.2.2.length - s.2.1.toNat) (Q := fun s => s.2.length ≤ n ∧ ∀ x ∈ s.2, CO n x ∧ (x.Kind = 1 → x.Cols ≠ [])) ?_ ⟨0, rfl, by omega, h2, fun x hx => ⟨h.1.xs x hx, h.2 x hx⟩⟩) ?_
  · rintro ⟨c, _, l⟩ ⟨i, rfl, hi, hl, g⟩
    simp only at hi hl g
    refine yk (fun hc => ?_) fun _ => yd ⟨hl, g⟩
    have hlt : i < l.length := by simpa using hc
    have ew : w64 ((i : Int) + 1) = ((i + 1 : Nat) : Int) := by rw [w64_id om om]; rfl
    refine yak hlt fun x hx hm => yg (R := TT) (yk (fun _ => yak hlt fun _ _ _ => yd trivial) rt) fun _ _ => yg (R := fun (r : Bool × List qK) => r.2.length = l.length ∧ ∀ x ∈ r.2, CO n x ∧ (x.Kind = 1 → x.Cols ≠ [])) (yk (fun _ => yak hlt fun y _ hy => yd ⟨by simp, fun z hz => ?_⟩) (fun _ => yd ⟨rfl, g⟩)) ?_
    · rcases List.mem_or_eq_of_mem_set hz with hz | rfl
      · exact g z hz
      · obtain ⟨⟨c1, _, c3, c4, c5⟩, c6⟩ := g y hy
        exact ⟨⟨c1, hq, c3, c4, c5⟩, c6⟩
    · rintro ⟨c', l'⟩ ⟨e1, e2⟩
      simp only at e1 e2
      refine yd ⟨⟨i + 1, ew, by simp only; omega, by simp only; omega, e2⟩, ?_⟩
      simp only [ew]
      omega
  · rintro ⟨c, l⟩ ⟨g1, g2⟩
    simp only at g1 g2
    exact yd ⟨⟨⟨h.1.cols, g1, h.1.idx, h.1.nm, h.1.ow, h.1.cn, fun x hx => (g2 x hx).1, h.1.is⟩, fun x hx => (g2 x hx).2⟩, rfl⟩
theorem TN.ver {n : Nat} {t : qT} (h : TN n t) (v : Int) : TN n { t with Version := v } := ⟨⟨h.1.cols, h.1.cons, h.1.idx, h.1.nm, h.1.ow, h.1.cn, h.1.xs, h.1.is⟩, h.2⟩
theorem TB.ver {n : Nat} {t : qT} (h : TB n t) (v : Int) : TB n { t with Version := v } := ⟨h.cols, h.cons, h.idx, h.nm, h.ow, h.cn, h.xs, h.is⟩
theorem renamed_rb {b : Prop} {n : Nat} {c : qC} {t : qT} (h : CB n c) (ht : TN n t) (hn : n ≤ 1000) {q : By8} (hq : q.size ≤ 100) : RB b (r17_renamed c t q) (fun r => CB n r.1 ∧ r.1.Roles = c.Roles ∧ TB n r.2) := by
  have h1 := h.tabs
  have h2 := h.grants
  unfold r17_renamed
  refine yg (pointed_rb ht hn _ _ hq) ?_
  rintro ⟨u, f⟩ ⟨hu, _⟩
  refine yg (forE_ret (fun j (s : List qT) => s.length ≤ j ∧ ∀ t ∈ s, TN n t) ⟨by simp, by simp⟩ ?_) ?_
  · rintro j s hj ⟨g1, g2⟩
    refine yg (R := fun (r : qT × Bool) => TN n r.1) (yak hj fun x _ hx => yg (pointed_rb (h.ok x hx) hn _ _ hq) ?_) ?_
    · rintro ⟨_, _⟩ g
      exact yd g.1
    rintro ⟨x, f⟩ hx
    refine yg (R := fun (x : qT) => TN n x) (yk (fun _ => yd (hx.ver _)) (fun _ => yd hx)) fun y hy => yak hj fun z _ _ => yg (R := fun (s : List qT) => s.length ≤ j + 1 ∧ ∀ t ∈ s, TN n t) (yk (fun _ => ya3 (by simp only [List.length_cons, List.length_nil]; omega) (yd ⟨by simp; omega, fun w hw => ?_⟩)) (fun _ => yd ⟨by omega, g2⟩)) fun s hs => yd hs
    rcases List.mem_append.1 hw with hw | hw
    · exact g2 w hw
    · simp only [List.mem_cons, List.not_mem_nil, or_false] at hw
      subst hw
      exact hy
  · rintro s ⟨g1, g2⟩
    refine yg (forE_ret (fun j (s : List qG) => s.length ≤ j) (by simp) ?_) ?_
    · rintro j s hj g
      exact yak hj fun x _ _ => yg (R := TT) (yk rt rt) fun _ _ => ya3 (by simp only [List.length_cons, List.length_nil]; omega) (yd (by simp; omega))
    · intro gs hg
      have hg : gs.length ≤ c.Grants.length := hg
      refine yd ⟨⟨by simp only; omega, g2, by simp only; omega⟩, rfl, ?_⟩
      exact ⟨hu.1.cols, hu.1.cons, hu.1.idx, hq, hu.1.ow, hu.1.cn, hu.1.xs, hu.1.is⟩
theorem refers1_tt {b : Prop} {n : Nat} {c : qC} (h : CB n c) (hn : n ≤ 1000) (p1 p2 p3 : By8) (p4 : List By8) : RB b (r17_refers_nnsl c p1 p2 p3 p4) TT := by
  unfold r17_refers_nnsl
  refine yg (R := TT) (forN_tt fun j s hj => yak hj fun x _ hx => yg (R := TT) (loopO_rb (fun (i : Int) => ∃ k : Nat, i = (k : Int) ∧ k ≤ x.Cons.length) (fun i => x.Cons.length - i.toNat) (Q := TT) ?_ ⟨0, rfl, by omega⟩) ?_) ?_
  · rintro _ ⟨k, rfl, hk⟩
    have hxl := (h.ok x hx).1.cons
    refine ya9 (yk (fun hc => ?_) fun _ => yd trivial)
    have hlt : k < x.Cons.length := by simp at hc; omega
    have ew : w64 ((k : Int) + 1) = ((k + 1 : Nat) : Int) := by rw [w64_id om om]; rfl
    refine yg (R := TT) (yak hlt fun y _ _ => yk rt fun _ => yg (alike_tt _ _) fun _ _ => yk rt rt) ?_
    rintro (u | s) _
    · exact yd ⟨⟨k + 1, ew, by omega⟩, by rw [ew]; omega⟩
    · exact yd trivial
  · rintro (_ | _) _ <;> exact yd trivial
  · rintro (_ | _) _ <;> exact yd trivial
theorem refers0_tt {b : Prop} {n : Nat} {c : qC} (h : CB n c) (hn : n ≤ 1000) (p1 p2 p3 : By8) : RB b (r17_refers_nilsl c p1 p2 p3) TT := by
  unfold r17_refers_nilsl
  refine yg (R := TT) (forN_tt fun j s hj => yak hj fun x _ hx => yg (R := TT) (loopO_rb (fun (i : Int) => ∃ k : Nat, i = (k : Int) ∧ k ≤ x.Cons.length) (fun i => x.Cons.length - i.toNat) (Q := TT) ?_ ⟨0, rfl, by omega⟩) ?_) ?_
  · rintro _ ⟨k, rfl, hk⟩
    have hxl := (h.ok x hx).1.cons
    refine ya9 (yk (fun hc => ?_) fun _ => yd trivial)
    have hlt : k < x.Cons.length := by simp at hc; omega
    have ew : w64 ((k : Int) + 1) = ((k + 1 : Nat) : Int) := by rw [w64_id om om]; rfl
    refine yg (R := TT) (yak hlt fun y _ _ => yk rt fun _ => yg (R := TT) (yk rt fun _ => yg (has_rb _ _) fun _ _ => yd trivial) fun _ _ => yg (R := TT) (yk rt rt) fun _ _ => yk rt rt) ?_
    rintro (u | s) _
    · exact yd ⟨⟨k + 1, ew, by omega⟩, by rw [ew]; omega⟩
    · exact yd trivial
  · rintro (_ | _) _ <;> exact yd trivial
  · rintro (_ | _) _ <;> exact yd trivial
theorem ybj {α β : Type} {b : Prop} {xs : List α} {lo hi : Int} {Q : β → Prop} {f : List α → Option β} (h0 : 0 ≤ lo) (h1 : lo ≤ hi) (h2 : hi ≤ (xs.length : Int)) (hf : ∀ l, (∀ x ∈ l, x ∈ xs) → (l.length : Int) = hi - lo → RB b (f l) Q) : RB b ((sub xs lo hi).bind f) Q := by
  rw [sub_at (i := lo.toNat) (j := hi.toNat) om om om om]
  exact hf _ (fun x hx => List.mem_of_mem_take (List.mem_of_mem_drop hx)) (by simp; omega)
theorem dropped_rb {b : Prop} {n : Nat} {c : qC} {t : qT} (h : CB n c) (ht : TN n t) (hn : n ≤ 1000) (nm : By8) : RB b (r17_dropped c t nm) (fun r => TB (n + 1) r.1) := by
  have h2 := ht.1.cons
  unfold r17_dropped
  refine yg (forN_q (Q := fun r => TB (n + 1) r.2) fun j s hj => yak hj fun x _ hx => yk rt fun _ => ?_) ?_
  · have hxc := (ht.1.xs x hx).2.2.1
    refine ya3 (by simp; omega) ?_
    rw [List.nil_append]
    refine yg (R := fun (q : Bool) => q = true → x.Kind = 1) (yk (fun hk => yg (keys_tt _ _) fun _ _ => yd fun _ => by simpa using hk) (fun _ => yd fun h => by cases h)) fun q hq => yg (R := TT) (yk (fun hc => ?_) rt) fun _ _ => yk (fun _ => yd (show TB (n + 1) t from ht.1.up om)) fun _ => yg (copy_rb ht.1 hn) ?_
    · have hne := ht.2 x hx (hq hc)
      have : must (!(x.Cols).isEmpty) = some () := by cases hxc : x.Cols with
        | nil => exact absurd hxc hne
        | cons a r => rfl
      rw [this]
      exact ya9 (yg (refers1_tt h hn _ _ _ _) fun _ _ => yd trivial)
    · intro r hr
      have hr : r = t := hr
      rw [hr]
      have ew : w64 ((j : Int) + 1) = ((j + 1 : Nat) : Int) := by rw [w64_id om om]; rfl
      rw [ew]
      refine ybj om om om fun l1 m1 k1 => ya3 (by simp; omega) (ybj om om om fun l2 m2 k2 => ya3 (by simp; omega) (yd ?_))
      refine ⟨by have := ht.1.cols; simp only; omega, by simp; omega, by have := ht.1.idx; simp only; omega, ht.1.nm, ht.1.ow, ht.1.cn, fun y hy => (ht.1.up (show n ≤ n + 1 by omega)).xs y ?_, (ht.1.up (show n ≤ n + 1 by omega)).is⟩
      simp only [List.nil_append, List.mem_append] at hy
      rcases hy with hy | hy
      · exact m1 y hy
      · exact m2 y hy
  · rintro (s | ⟨s1, s2⟩) g
    · exact yd (ht.1.up om)
    · exact yd g
theorem turned_rb {b : Prop} {n : Nat} {c : qC} {t : qT} {s : qS} (h : CB n c) (ht : TN n t) (hs : SF s) (h12 : 12 ≤ n) (hn : n ≤ 1000) : RB b (r17_turned c t s) (fun r => TB (n + 1) r.1) := by
  have t1 := ht.1.cols
  have t2 := ht.1.cons
  have t3 := ht.1.idx
  have up := ht.1.up (show n ≤ n + 1 by omega)
  unfold r17_turned
  refine yg (copy_rb ht.1 hn) fun r hr => ?_
  have hr : r = t := hr
  rw [hr]
  refine yg (tnames_rb ht.1 hn) ?_
  rintro ⟨r1, r2⟩ _
  refine yg (R := fun (q : (Int × qT) ⊕ (qT × (List qL) × (List qK) × (List qI))) => match q with | .inl (_, u) => TB (n + 1) u | .inr (_, a, d, e) => TB (n + 1) { t with Cols := a, Cons := d, Idx := e }) ?_ ?_
  rotate_left
  · rintro (⟨_, u⟩ | ⟨_, a, d, e⟩) g
    · exact yd g
    · exact yd g
  refine yk (fun _ => yk (fun _ => yd up) fun hc => ?_) fun _ => ?_
  · have hl : s.Cols.length = 1 := by simp at hc; omega
    refine yak (i := 0) om fun x _ hx => yg (col_rb _ _) fun _ _ => yk (fun _ => yd up) fun _ => yak (i := 0) om fun y _ hy => ya3 (by simp only [List.length_cons, List.length_nil]; omega) (yd ?_)
    refine ⟨by simp only [List.length_append, List.length_cons, List.length_nil]; omega, up.cons, up.idx, up.nm, up.ow, fun z hz => ?_, up.xs, up.is⟩
    rcases List.mem_append.1 hz with hz | hz
    · exact up.cn z hz
    · simp only [List.mem_cons, List.not_mem_nil, or_false] at hz
      subst hz
      exact hs.cn _ hy
  refine yg (R := fun (q : (Int × qT) ⊕ (qT × (List qL) × (List qK) × (List qI))) => match q with | .inl (_, u) => TB (n + 1) u | .inr (_, a, d, e) => TB (n + 1) { t with Cols := a, Cons := d, Idx := e }) ?_ ?_
  rotate_left
  · rintro (⟨_, u⟩ | ⟨_, a, d, e⟩) g <;> exact yd g
  refine yk (fun _ => yg (col_rb _ _) fun at_ ha => yk (fun _ => yd up) fun hc => yg (R := TT) (yk rt fun _ => yg (used_rb ht.1 hn) fun _ _ => yg (has_rb _ _) fun _ _ => yd trivial) fun _ _ => yg (R := TT) (yk rt fun _ => yg (R := TT) (yk (fun _ => yg (refers0_tt h hn _ _ _) fun _ _ => yd trivial) rt) fun _ _ => yd trivial) fun _ _ => yk (fun _ => yd up) fun _ => ?_) fun _ => ?_
  · have h0 : 0 ≤ at_ ∧ at_ < (t.Cols.length : Int) := by
      rcases ha with ⟨ha, _⟩ | ha
      · subst ha; simp at hc
      · exact ha
    have ew : w64 (at_ + 1) = at_ + 1 := w64_id om om
    rw [ew]
    refine ybj om om om fun l1 m1 k1 => ya3 (by simp; omega) (ybj om om om fun l2 m2 k2 => ya3 (by simp; omega) (yd ?_))
    refine ⟨by simp; omega, up.cons, up.idx, up.nm, up.ow, fun z hz => ?_, up.xs, up.is⟩
    simp only [List.nil_append, List.mem_append] at hz
    rcases hz with hz | hz
    · exact up.cn z (m1 z hz)
    · exact up.cn z (m2 z hz)
  refine yg (R := fun (q : (Int × qT) ⊕ (qT × (List qK) × (List qI))) => match q with | .inl (_, u) => TB (n + 1) u | .inr (_, d, e) => TB (n + 1) { t with Cons := d, Idx := e }) ?_ ?_
  rotate_left
  · rintro (⟨_, u⟩ | ⟨_, d, e⟩) g <;> exact yd g
  refine yk (fun _ => yk (fun _ => yd up) fun hc => ?_) fun _ => ?_
  · have hl : s.Cons.length = 1 := by simp at hc; omega
    refine yak (i := 0) om fun x _ hx => yg (has_rb _ _) fun _ _ => yk (fun _ => yd up) fun _ => yk (fun _ => yd up) fun _ => yak (i := 0) om fun y _ hy => ya3 (by simp only [List.length_cons, List.length_nil]; omega) (yd ?_)
    refine ⟨up.cols, by simp only [List.length_append, List.length_cons, List.length_nil]; omega, up.idx, up.nm, up.ow, up.cn, fun z hz => ?_, up.is⟩
    rcases List.mem_append.1 hz with hz | hz
    · exact up.xs z hz
    · simp only [List.mem_cons, List.not_mem_nil, or_false] at hz
      subst hz
      obtain ⟨c1, c2, c3, c4, c5⟩ := hs.xs _ hy
      exact ⟨c1, c2, by omega, by omega, c5⟩
  refine yg (R := fun (q : (Int × qT) ⊕ (qT × (List qI))) => match q with | .inl (_, u) => TB (n + 1) u | .inr (_, e) => TB (n + 1) { t with Idx := e }) ?_ ?_
  rotate_left
  · rintro (⟨_, u⟩ | ⟨_, e⟩) g <;> exact yd g
  refine yk (fun _ => yg (has_rb _ _) fun _ _ => yk (fun _ => yd up) fun _ => yk (fun _ => yd up) fun _ => ya3 (by simp only [List.length_cons, List.length_nil]; omega) (yd ?_)) fun _ => yk (fun _ => yg (dropped_rb h ht hn _) ?_) fun _ => yk (fun _ => ?_) fun _ => yd up
  · refine ⟨up.cols, up.cons, by simp only [List.length_append, List.length_cons, List.length_nil]; omega, up.nm, up.ow, up.cn, up.xs, fun z hz => ?_⟩
    rcases List.mem_append.1 hz with hz | hz
    · exact up.is z hz
    · simp only [List.mem_cons, List.not_mem_nil, or_false] at hz
      subst hz
      exact ⟨hs.name, by have := hs.names; simp only; omega⟩
  · rintro ⟨_, _⟩ g
    exact yd g
  · refine yg (forN_q (Q := fun q => TB (n + 1) q.2) ?_) ?_
    · rintro j ⟨_, _⟩ hj
      have ew : w64 ((j : Int) + 1) = ((j + 1 : Nat) : Int) := by rw [w64_id om om]; rfl
      refine yak hj fun x _ hx => yk (fun _ => ?_) rt
      rw [ew]
      refine ybj om om om fun l1 m1 k1 => ya3 (by simp; omega) (ybj om om om fun l2 m2 k2 => ya3 (by simp; omega) (yd ?_))
      refine ⟨up.cols, up.cons, by simp; omega, up.nm, up.ow, up.cn, up.xs, fun z hz => ?_⟩
      simp only [List.nil_append, List.mem_append] at hz
      rcases hz with hz | hz
      · exact up.is z (m1 z hz)
      · exact up.is z (m2 z hz)
    · rintro (⟨_, _⟩ | ⟨_, _⟩) g
      · exact yd up
      · exact yd g
theorem without_rb {b : Prop} {n : Nat} {c : qC} (h : CB n c) (hn : n ≤ 1000) (nm : By8) : RB b (r17_without c nm) (fun r => CB n r ∧ r.Roles = c.Roles ∧ r.Grants = c.Grants) := by
  have h1 := h.tabs
  unfold r17_without
  refine yg (forE_ret (fun j (s : List qT) => s.length ≤ j ∧ ∀ t ∈ s, TN n t) ⟨by simp, by simp⟩ ?_) ?_
  · rintro j s hj ⟨g1, g2⟩
    refine yak hj fun x _ _ => yg (R := fun (s : List qT) => s.length ≤ j + 1 ∧ ∀ t ∈ s, TN n t) (yk (fun _ => yak hj fun y _ hy => ya3 (by simp only [List.length_cons, List.length_nil]; omega) (yd ⟨by simp; omega, fun w hw => ?_⟩)) (fun _ => yd ⟨by omega, g2⟩)) fun s hs => yd hs
    rcases List.mem_append.1 hw with hw | hw
    · exact g2 w hw
    · simp only [List.mem_cons, List.not_mem_nil, or_false] at hw
      subst hw
      exact h.ok _ hy
  · rintro s ⟨g1, g2⟩
    exact yd ⟨⟨by simp only; omega, g2, h.grants⟩, rfl, rfl⟩
theorem with_rb {b : Prop} {n : Nat} {c : qC} {t : qT} (h : CB n c) (ht : TN (n + 1) t) (hn : n ≤ 1000) : RB b (r17_with c t) (fun r => CB (n + 1) r ∧ r.Roles = c.Roles) := by
  have h1 := h.tabs
  unfold r17_with
  refine yg (loopO_rb (fun (i : Int) => ∃ k : Nat, i = (k : Int) ∧ k ≤ c.Tables.length) (fun i => c.Tables.length - i.toNat) (Q := fun i => 0 ≤ i ∧ i ≤ (c.Tables.length : Int)) ?_ ⟨0, rfl, by omega⟩) ?_
  · rintro _ ⟨k, rfl, hk⟩
    have ew : w64 ((k : Int) + 1) = ((k + 1 : Nat) : Int) := by rw [w64_id om om]; rfl
    refine yg (R := fun (q : Bool) => q = true → k < c.Tables.length) (yk (fun hc => yak (by simpa using hc) fun _ _ _ => yd fun _ => by simpa using hc) (fun _ => yd fun h => by cases h)) fun q hq => yk (fun hc => yd ⟨⟨k + 1, ew, hq hc⟩, by have := hq hc; rw [ew]; omega⟩) fun _ => yd ⟨by omega, by omega⟩
  · rintro i ⟨i0, i1⟩
    refine ybj om om om fun l1 m1 k1 => ya3 (by simp; omega) (ya3 (by simp; omega) (ybj om om om fun l2 m2 k2 => ya3 (by simp; omega) (yd ⟨⟨by simp; omega, fun z hz => ?_, by have := h.grants; simp only; omega⟩, rfl⟩)))
    have hu := h.up (show n ≤ n + 1 by omega)
    simp only [List.nil_append, List.mem_append, List.mem_cons, List.not_mem_nil, or_false] at hz
    rcases hz with (hz | hz) | hz
    · exact hu.ok z (m1 z hz)
    · subst hz; exact ht
    · exact hu.ok z (m2 z hz)
theorem TR.ver {t : qT} (h : TR t) (v : Int) : NE { t with Version := v } := h.ne
theorem tmake_rb {b : Prop} {n : Nat} {c : qC} {s : qS} {by_ : By8} {most : Int} (h : CB n c) (hs : SF s) (hb : by_.size ≤ 100) (h12 : 12 ≤ n) (hn : n ≤ 1000 - 1) : RB b (r17_Make c s by_ most) (fun r => r.2 = 0 → CB (n + 1) r.1 ∧ r.1.Roles = c.Roles) := by
  have h1 := h.tabs
  have h2 := h.grants
  have no : ∀ {k : Int} {C : Prop}, k ≠ 0 → (k = 0 → C) := fun hk he => absurd he hk
  unfold r17_Make
  refine yk (fun _ => yd (no (by decide))) fun _ => yg (tat_rb c _) fun at_ hat => yk (fun _ => yd (no (by decide))) fun _ => yk (fun _ => yd (no (by decide))) fun _ => yk (fun _ => yd (no (by decide))) fun hc4 => yg (without_rb h om _) fun w hw => ?_
  obtain ⟨hw1, hw2, hw3⟩ := hw
  have hne : (s.Kind == 1) = false → 0 ≤ at_ ∧ at_ < (c.Tables.length : Int) := by
    intro hk
    rw [show (s.Kind != 1) = true by simp [bne, hk]] at hc4
    simp only [Bool.true_and, decide_eq_false_iff_not] at hc4
    rcases hat with hat | hat
    · omega
    · exact hat
  refine yg (R := fun (q : (Int × qC × Int × (List qT) × (List qJ) × (List qG) × qT) ⊕ (Int × qC × qT)) => match q with | .inl (_, _, v, ts, rs, gs, u) => CB n ⟨v, ts, rs, gs⟩ ∧ rs = c.Roles ∧ TB (n + 1) u | .inr (k, _, _) => k ≠ 0) ?_ ?_
  · have hz : TB (n + 1) z_qT := ⟨Nat.zero_le _, Nat.zero_le _, Nat.zero_le _, Nat.zero_le _, Nat.zero_le _, (fun x hx => by cases hx), (fun x hx => by cases hx), (fun x hx => by cases hx)⟩
    refine yk (fun _ => yd ⟨hw1, hw2, ?_⟩) fun k1 => ?_
    · exact ⟨by have := hs.cols; simp only; omega, by have := hs.cons; simp only; omega, Nat.zero_le _, hs.table, hb, hs.cn, fun x hx => by obtain ⟨c1, c2, c3, c4, c5⟩ := hs.xs x hx; exact ⟨c1, c2, by omega, by omega, c5⟩, fun x hx => by cases hx⟩
    obtain ⟨a0, a1⟩ := hne k1
    refine yg (R := fun (q : (Int × qC × qT) ⊕ (Int × qC × Int × (List qT) × (List qJ) × (List qG) × qT)) => match q with | .inr (_, _, v, ts, rs, gs, u) => CB n ⟨v, ts, rs, gs⟩ ∧ rs = c.Roles ∧ TB (n + 1) u | .inl (k, _, _) => k ≠ 0) ?_ ?_
    rotate_left
    · rintro (⟨_, _, _⟩ | ⟨_, _, _, _, _, _, _⟩) g <;> exact yd g
    refine yk (fun _ => yg (refers0_tt h om _ _ _) fun _ _ => yk (fun _ => yd (show (34 : Int) ≠ 0 by decide)) fun _ => yg (forE_ret (fun j (s : List qG) => s.length ≤ j) (by simp) ?_) fun gs hg => yd ⟨⟨hw1.tabs, hw1.ok, by have hg : gs.length ≤ c.Grants.length := hg; simp only; omega⟩, hw2, hz⟩) fun _ => ?_
    · intro j s hj g
      exact yak hj fun x _ _ => yg (R := fun (s : List qG) => s.length ≤ j + 1) (yk (fun _ => yak hj fun _ _ _ => ya3 (by simp only [List.length_cons, List.length_nil]; omega) (yd (by simp; omega))) (fun _ => yd om)) fun s hs => yd hs
    refine yg (R := fun (q : (Int × qC × qT) ⊕ (Int × qC × Int × (List qT) × (List qJ) × (List qG) × qT)) => match q with | .inr (_, _, v, ts, rs, gs, u) => CB n ⟨v, ts, rs, gs⟩ ∧ rs = c.Roles ∧ TB (n + 1) u | .inl (k, _, _) => k ≠ 0) ?_ ?_
    rotate_left
    · rintro (⟨_, _, _⟩ | ⟨_, _, _, _, _, _, _⟩) g <;> exact yd g
    refine yk (fun _ => yg (tat_rb c _) fun _ _ => yk (fun _ => yd (show (19 : Int) ≠ 0 by decide)) fun _ => ybh a0 a1 fun x _ hx => yg (renamed_rb h (h.ok x hx) om hs.name) ?_) fun _ => ybh a0 a1 fun x _ hx => yg (turned_rb h (h.ok x hx) hs h12 om) ?_
    · rintro ⟨d, u⟩ ⟨d1, d2, d3⟩
      exact yd ⟨d1, d2, d3.up om⟩
    · rintro ⟨u, e⟩ g
      exact yd ⟨hw1, hw2, g⟩
  · rintro (⟨k, z, v, ts, rs, gs, u⟩ | ⟨k, z, u⟩) g
    · obtain ⟨g1, g2, g3⟩ := g
      refine yg (R := fun (e : Int) => e = 0 → s.Kind ≠ 2 → NE u) (yk (fun _ => yg (sound_rb _ g3 om) fun r hr => yd fun he _ => (hr he).ne) fun hc => yd fun he hk => ?_) fun e he => yg (R := fun (e' : Int) => e' = 0 → e = 0) (yk (fun _ => yd fun h => by cases h) fun _ => yd fun h => h) fun e' he' => yk (fun hc => yd (no (by simpa using hc))) fun hc => ?_
      · subst he
        simp [hk] at hc
      have hz : e' = 0 := by simpa using hc
      refine yg (R := fun (q : Int × (List qT) × (List qJ) × (List qG) × qT) => CB (n + 1) ⟨q.1, q.2.1, q.2.2.1, q.2.2.2.1⟩ ∧ q.2.2.1 = c.Roles) (yk (fun hk => yg (with_rb g1 ⟨g3.ver _, ?_⟩ om) fun r hr => yd ⟨⟨hr.1.tabs, hr.1.ok, hr.1.grants⟩, hr.2.trans g2⟩) fun _ => yd ⟨g1.up om, g2⟩) ?_
      · exact he (he' hz) (by simpa using hk)
      · rintro ⟨q1, q2, q3, q4, q5⟩ ⟨e1, e2⟩
        exact yd fun _ => ⟨⟨e1.tabs, e1.ok, e1.grants⟩, e2⟩
    · exact yd (no g)
noncomputable def isB (l : List Role) (n o : By8) : Bool := (r18_Is l n o).getD false
theorem is_val {l : List Role} (h : Sm l) (n o : By8) : r18_Is l n o = some (isB l n o) := by
  obtain ⟨r, hr, _⟩ := rall_eq (n := n) h.1 h.2.1
  obtain ⟨b, hb, _⟩ := has_eq r o
  have : r18_Is l n o = some b := by unfold r18_Is; rw [hr]; simp only [obs, hb]
  unfold isB
  rw [this]
  rfl
noncomputable def rI (l : List Role) (n : By8) : Int := (r18_At l n).getD 0
theorem rat_val (l : List Role) (n : By8) : r18_At l n = some (rI l n) := by
  unfold rI
  rcases rat_spec l n with ⟨_, h⟩ | ⟨_, _, _, _, _, _, h⟩ <;> rw [h] <;> rfl
theorem rI_lt (l : List Role) (n : By8) : rI l n < (l.length : Int) := by
  unfold rI
  rcases rat_spec l n with ⟨_, h⟩ | ⟨A, x, B, rfl, _, _, h⟩ <;> rw [h]
  · simp only [Option.getD_some]; omega
  · simp only [Option.getD_some, List.length_append, List.length_cons]; omega
def tI (c : qC) (n : By8) : Int := match c.Tables.findIdx? (fun x => sEq x.Name n) with | some j => (j : Int) | none => -1
theorem tat_val (c : qC) (n : By8) : r17_At c n = some (tI c n) := by
  unfold r17_At tI
  rw [forN_find (fun (x : qT) => sEq x.Name n) (fun j => (j : Int)) (fun j x hx => by rw [idx_nat, hx]; simp only [obs]; cases sEq x.Name n <;> rfl)]
  cases c.Tables.findIdx? (fun x => sEq x.Name n) <;> rfl
theorem tI_get {c : qC} {n : By8} (h : 0 ≤ tI c n) : ∃ (k : Nat) (t : qT), tI c n = (k : Int) ∧ c.Tables[k]? = some t ∧ t ∈ c.Tables ∧ c.Tables.findIdx? (fun x => sEq x.Name n) = some k := by
  unfold tI at h ⊢
  cases e : c.Tables.findIdx? (fun x => sEq x.Name n) with
  | none => rw [e] at h; simp at h
  | some k =>
    obtain ⟨hk, _, _⟩ := List.findIdx?_eq_some_iff_getElem.1 e
    exact ⟨k, c.Tables[k], rfl, gE hk, List.getElem_mem hk, rfl⟩
noncomputable def owB (c : qC) (r t : By8) : Bool := (r19_Owns c r t).getD false
theorem owns_val {c : qC} (h : Sm c.Roles) (r t : By8) : r19_Owns c r t = some (owB c r t) := by
  have : ∃ b, r19_Owns c r t = some b := by
    unfold r19_Owns
    rw [tat_val]
    simp only [obs]
    by_cases h0 : 0 ≤ tI c t
    · obtain ⟨k, x, hk, hx, _⟩ := tI_get h0
      rw [show decide (tI c t ≥ 0) = true by simpa using h0, hk, idx_nat, hx]
      simp only [obs, cond_true, is_val h]
      exact ⟨_, rfl⟩
    · rw [show decide (tI c t ≥ 0) = false by simpa using h0]
      exact ⟨_, rfl⟩
  obtain ⟨b, hb⟩ := this
  unfold owB
  rw [hb]
  rfl
noncomputable def haB (c : qC) (l : List qG) (r : By8) (p : Int) (t : By8) (o : Bool) : Bool := l.any fun g => g.Priv == p && sEq g.Table t && (g.Option || !o) && isB c.Roles r g.To
theorem rhas_val {c : qC} (h : Sm c.Roles) (l : List qG) (r : By8) (p : Int) (t : By8) (o : Bool) : r19_has c l r p t o = some (haB c l r p t o) := by
  unfold r19_has haB
  rw [forN_list (v := true) (fun (g : qG) => !(g.Priv == p && sEq g.Table t && (g.Option || !o) && isB c.Roles r g.To)) (fun j x hx => ?_)]
  · rw [List.all_eq_not_any_not]
    simp only [Bool.not_not]
    cases l.any fun g => g.Priv == p && sEq g.Table t && (g.Option || !o) && isB c.Roles r g.To <;> rfl
  · simp only [idx_nat, hx, obs]
    cases (x.Priv == p) <;> cases sEq x.Table t <;> cases x.Option <;> cases o <;> simp [is_val h] <;> cases isB c.Roles r x.To <;> rfl
noncomputable def okB (c : qC) (l : List qG) (g : qG) : Bool := decide (0 ≤ tI c g.Table) && decide (0 ≤ rI c.Roles g.To) && (owB c g.By g.Table || haB c l g.By g.Priv g.Table true)
noncomputable def rnd (c : qC) (l : List qG) : List qG := c.Grants.filter (okB c l)
noncomputable def rnds (c : qC) : Nat → List qG
  | 0 => []
  | k + 1 => rnd c (rnds c k)
theorem rnds_len (c : qC) (k : Nat) : (rnds c k).length ≤ c.Grants.length := by
  cases k with
  | zero => exact Nat.zero_le _
  | succ k => exact List.length_filter_le ..
noncomputable def heR (c : qC) : List qG := rnds c (c.Grants.length + 1)
theorem rheld_val {c : qC} (h : Sm c.Roles) (hg : c.Grants.length ≤ 1000) : r19_Held c = some (heR c) := by
  unfold r19_Held
  have step : ∀ (s8 : List qG), forE (fun (i18 : Nat) (s17 : List qG) => ((idx c.Grants (i18 : Int)).bind (fun (x32 : qG) => (r17_At c x32.Table).bind (fun (r44 : Int) => ((bif (decide (r44 < 0)) then some true else (r18_At c.Roles x32.To).bind (fun (r56 : Int) => some (decide (r56 < 0))))).bind (fun (j45 : Bool) => (bif j45 then some s17 else (r19_Owns c x32.By x32.Table).bind (fun (r69 : Bool) => ((bif r69 then some true else (r19_has c s8 x32.By x32.Priv x32.Table true).bind (fun (r79 : Bool) => some r79))).bind (fun (j70 : Bool) => ((bif j70 then (app 64 s17 ([x32] : List qG)).bind (fun (x94 : List qG) => some x94) else some s17)).bind (fun (j82 : List qG) => some j82)))))))).bind (fun (j28 : List qG) => some j28)) c.Grants.length 0 ([] : List qG) = some (rnd c s8) := by
    intro s8
    refine Ret.eq ((forE_ret (fun j s => s = (c.Grants.take j).filter (okB c s8)) (by simp) ?_).mono fun r hr => by rw [hr, List.take_length]; rfl)
    rintro j s hj rfl
    have hx : c.Grants[j]? = some c.Grants[j] := gE hj
    have hle : ((c.Grants.take j).filter (okB c s8)).length ≤ j := Nat.le_trans (List.length_filter_le ..) (by simp; omega)
    generalize c.Grants[j] = x at hx
    rw [take_next hx, List.filter_append]
    simp only [idx_nat, hx, obs, tat_val, rat_val, owns_val h, rhas_val h]
    have e : (c.Grants.take j).filter (okB c s8) ++ [x].filter (okB c s8) = bif okB c s8 x then (c.Grants.take j).filter (okB c s8) ++ [x] else (c.Grants.take j).filter (okB c s8) := by
      cases hc : okB c s8 x <;> simp [hc]
    rw [e]
    generalize (c.Grants.take j).filter (okB c s8) = s at hle ⊢
    unfold okB
    by_cases h1 : tI c x.Table < 0
    · rw [show decide (tI c x.Table < 0) = true by simpa using h1, show decide (0 ≤ tI c x.Table) = false by simp; omega]
      exact yd rfl
    · rw [show decide (tI c x.Table < 0) = false by simpa using h1, show decide (0 ≤ tI c x.Table) = true by simp; omega]
      simp only [cond_false, obs, Bool.true_and]
      by_cases h2 : rI c.Roles x.To < 0
      · rw [show decide (rI c.Roles x.To < 0) = true by simpa using h2, show decide (0 ≤ rI c.Roles x.To) = false by simp; omega]
        exact yd rfl
      · rw [show decide (rI c.Roles x.To < 0) = false by simpa using h2, show decide (0 ≤ rI c.Roles x.To) = true by simp; omega]
        simp only [cond_false, Bool.true_and]
        rw [app_le (by simp only [List.length_cons, List.length_nil]; omega)]
        cases owB c x.By x.Table <;> cases haB c s8 x.By x.Priv x.Table true <;> exact yd rfl
  refine Ret.eq (yg (loopO_rb (fun (s : List qG × Int) => ∃ k : Nat, s.2 = (k : Int) ∧ k ≤ c.Grants.length + 1 ∧ s.1 = rnds c k) (fun s => c.Grants.length + 1 - s.2.toNat) (Q := fun s => s = heR c) ?_ ⟨0, rfl, by omega, rfl⟩) fun r hr => yd hr)
  rintro ⟨_, _⟩ ⟨k, rfl, hk, rfl⟩
  refine yk (fun hc => ?_) fun hc => yd ?_
  · have hle : k ≤ c.Grants.length := by simpa using hc
    have ew : w64 ((k : Int) + 1) = ((k + 1 : Nat) : Int) := by rw [w64_id om om]; rfl
    simp only
    rw [step, ew]
    exact yd ⟨⟨k + 1, rfl, by omega, rfl⟩, by simp only; omega⟩
  · have : k = c.Grants.length + 1 := by simp at hc; omega
    subst this
    rfl
def RO (n : Nat) (l : List Role) : Prop := l.length ≤ 8 ∧ ∀ x ∈ l, x.In.length ≤ n ∧ x.Name.size ≤ 100
theorem RO.sm {n : Nat} {l : List Role} (h : RO n l) (hn : n ≤ 100) : Sm l := ⟨by have := h.1; omega, fun x hx => by have := (h.2 x hx).1; omega, fun x hx => by have := (h.2 x hx).2; omega⟩
theorem RO.up {n m : Nat} {l : List Role} (h : RO n l) (hm : n ≤ m) : RO m l := ⟨h.1, fun x hx => ⟨Nat.le_trans (h.2 x hx).1 hm, (h.2 x hx).2⟩⟩
theorem is_tt {b : Prop} {l : List Role} (h : Sm l) (n o : By8) : RB b (r18_Is l n o) TT := ybw (is_val h n o) trivial
theorem rat_rb {b : Prop} (l : List Role) (n : By8) : RB b (r18_At l n) (fun r => r < (l.length : Int)) := ybw (rat_val l n) (rI_lt l n)
theorem rcheck_tt {b : Prop} {n : Nat} {l : List Role} (h : RO n l) (hn : n ≤ 100) : RB b (r18_Check l) TT := by
  have hl := h.1
  have hsm := h.sm hn
  unfold r18_Check
  refine yk rt fun _ => yg (R := TT) (forN_tt fun j s hj => yak hj fun x _ hx => yg (rname_tt (h.2 x hx).2) fun _ _ => yg (R := TT) (yk rt fun _ => yg (R := TT) (yk (fun hc => ?_) rt) fun _ _ => yd trivial) fun _ _ => yk rt fun _ => yg (R := TT) (loopO_rb (fun (i : Int) => ∃ k : Nat, i = (k : Int) ∧ k ≤ l[j].In.length) (fun i => l[j].In.length - i.toNat) (Q := TT) ?_ ⟨0, rfl, by omega⟩) ?_) ?_
  · have h0 : 0 < (j : Int) := by simpa using hc
    have ew : w64 ((j : Int) - 1) = (j : Int) - 1 := w64_id om om
    rw [ew]
    exact ybh om om fun _ _ _ => yak hj fun _ _ _ => yd trivial
  · rintro _ ⟨k, rfl, hk⟩
    have hmem := h.2 l[j] (List.getElem_mem hj)
    have ej : ∀ {α : Type} {f : qJ → Option α} {Q : α → Prop}, RB b (f l[j]) Q → RB b ((idx l (j : Int)).bind f) Q := fun hf => by rw [idx_mem hj]; exact hf
    refine ej (yk (fun hc => ej ?_) rt)
    have hlt : k < l[j].In.length := by simpa using hc
    refine yak hlt fun y _ _ => yg (rat_rb _ _) fun _ _ => yg (R := TT) (yk rt fun _ => yg (R := TT) (yk (fun hc => ej ?_) rt) fun _ _ => yd trivial) fun _ _ => yk rt fun _ => yd ⟨⟨k + 1, by rw [w64_id om om]; rfl, by omega⟩, by rw [w64_id om om]; omega⟩
    have h0 : 0 < (k : Int) := by simpa using hc
    rw [w64_id om om]
    exact ybh om om fun _ _ _ => ej (yak hlt fun _ _ _ => yd trivial)
  · rintro (_ | _) _ <;> exact yd trivial
  · rintro (_ | _) _
    rotate_left
    · exact yd trivial
    refine yg (R := TT) (forN_tt fun j s hj => yg (R := TT) (loopO_rb (fun (i : Int) => ∃ k : Nat, i = (k : Int) ∧ k ≤ l[j].In.length) (fun i => l[j].In.length - i.toNat) (Q := TT) ?_ ⟨0, rfl, by omega⟩) ?_) ?_
    · rintro _ ⟨k, rfl, hk⟩
      have hmem := h.2 l[j] (List.getElem_mem hj)
      have ej : ∀ {α : Type} {f : qJ → Option α} {Q : α → Prop}, RB b (f l[j]) Q → RB b ((idx l (j : Int)).bind f) Q := fun hf => by rw [idx_mem hj]; exact hf
      refine ej (yk (fun hc => ej ?_) rt)
      have hlt : k < l[j].In.length := by simpa using hc
      exact yak hlt fun y _ _ => ej (yg (is_tt hsm _ _) fun _ _ => yk rt fun _ => yd ⟨⟨k + 1, by rw [w64_id om om]; rfl, by omega⟩, by rw [w64_id om om]; omega⟩)
    · rintro (_ | _) _ <;> exact yd trivial
    · rintro (_ | _) _ <;> exact yd trivial
theorem while_rb {α : Type} {b : Prop} {xs : List α} {p : α → Bool} (hx : xs.length ≤ 1000) : RB b (loopO (fun (s22 : Int) => ((bif (decide (s22 < (xs.length : Int))) then (idx xs s22).bind (fun (x31 : α) => some (p x31)) else some false)).bind (fun (j27 : Bool) => (bif j27 then some (.inl (w64 (s22 + 1))) else some (.inr s22) : Option (Int ⊕ Int)))) 0) (fun i => 0 ≤ i ∧ i ≤ (xs.length : Int)) := by
  refine loopO_rb (fun (i : Int) => ∃ k : Nat, i = (k : Int) ∧ k ≤ xs.length) (fun i => xs.length - i.toNat) ?_ ⟨0, rfl, by omega⟩
  rintro _ ⟨k, rfl, hk⟩
  have ew : w64 ((k : Int) + 1) = ((k + 1 : Nat) : Int) := by rw [w64_id om om]; rfl
  exact yg (R := fun (q : Bool) => q = true → k < xs.length) (yk (fun hc => yak (by simpa using hc) fun _ _ _ => yd fun _ => by simpa using hc) (fun _ => yd fun h => by cases h)) fun q hq => yk (fun hc => yd ⟨⟨k + 1, ew, hq hc⟩, by have := hq hc; rw [ew]; omega⟩) fun _ => yd ⟨by omega, by omega⟩
theorem rcreate_rb {b : Prop} {n : Nat} {l : List Role} {nm : By8} (h : RO n l) (hn : n ≤ 100) (hm : nm.size ≤ 100) : RB b (r18_Create l nm) (fun r => r.2 = 0 → RO (n + 1) r.1) := by
  have no : ∀ {k : Int} {C : Prop}, k ≠ 0 → (k = 0 → C) := fun hk he => absurd he hk
  have hl := h.1
  unfold r18_Create
  refine yg (rcheck_tt h hn) fun _ _ => yk (fun hc => yd (no (by simpa using hc))) fun _ => yg (rname_tt hm) fun _ _ => yk (fun _ => yd (no (by decide))) fun _ => yg (rat_rb _ _) fun _ _ => yk (fun _ => yd (no (by decide))) fun _ => yk (fun _ => yd (no (by decide))) fun h8 => yg (while_rb (p := fun (x : qJ) => sLt x.Name nm) om) ?_
  have h8 : l.length ≠ 8 := by simp at h8; omega
  rintro i ⟨i0, i1⟩
  refine ybj om om om fun l1 m1 k1 => ya3 (by simp; omega) (ya3 (by simp; omega) (ybj om om om fun l2 m2 k2 => ya3 (by simp; omega) (yd fun _ => ⟨by simp; omega, fun x hx => ?_⟩)))
  simp only [List.nil_append, List.mem_append, List.mem_cons, List.not_mem_nil, or_false] at hx
  rcases hx with (hx | hx) | hx
  · exact (h.up (show n ≤ n + 1 by omega)).2 x (m1 x hx)
  · subst hx; exact ⟨Nat.zero_le _, hm⟩
  · exact (h.up (show n ≤ n + 1 by omega)).2 x (m2 x hx)
theorem without_tt {b : Prop} {l : List By8} (hl : l.length ≤ 1000) (n : By8) : RB b (r18_without l n) (fun r => r.length ≤ l.length) := by
  unfold r18_without
  refine yg (forE_ret (fun j (s : List By8) => s.length ≤ j) (by simp) fun j s hj g => yak hj fun x _ _ => yg (R := fun (s : List By8) => s.length ≤ j + 1) (yk (fun _ => yak hj fun _ _ _ => ya3 (by simp only [List.length_cons, List.length_nil]; omega) (yd (by simp; omega))) (fun _ => yd om)) fun s hs => yd hs) fun s hs => yd hs
theorem rturned_rb {b : Prop} {n : Nat} {l : List Role} {k : Int} {s : List By8} (h : RO n l) (h0 : 0 ≤ k) (h1 : k < (l.length : Int)) (hs : s.length ≤ n + 1) : RB b (r18_turned l k s) (RO (n + 1)) := by
  have hl := h.1
  unfold r18_turned
  refine ya3 (by simp; omega) (ybh h0 (by simpa using h1) fun x _ hx => yd ⟨by simpa using hl, fun y hy => ?_⟩)
  rw [List.nil_append] at hx hy
  rcases List.mem_or_eq_of_mem_set hy with hy | rfl
  · exact (h.up (show n ≤ n + 1 by omega)).2 y hy
  · exact ⟨hs, (h.2 x hx).2⟩
theorem rinto_rb {b : Prop} {l : List By8} (hl : l.length ≤ 1000) (n : By8) : RB b (r18_into l n) (fun r => r.length ≤ l.length + 1) := by
  unfold r18_into
  refine yg (while_rb (p := fun (x : By8) => sLt x n) hl) ?_
  rintro i ⟨i0, i1⟩
  exact ybj om om om fun l1 m1 k1 => ya3 (by simp; omega) (ya3 (by simp; omega) (ybj om om om fun l2 m2 k2 => ya3 (by simp; omega) (yd (by simp; omega))))
theorem rgrant_rb {b : Prop} {n : Nat} {l : List Role} (h : RO n l) (hn : n ≤ 100) (nm to : By8) : RB b (r18_Grant l nm to) (fun r => r.2 = 0 → RO (n + 1) r.1) := by
  have no : ∀ {k : Int} {C : Prop}, k ≠ 0 → (k = 0 → C) := fun hk he => absurd he hk
  unfold r18_Grant
  refine yg (rcheck_tt h hn) fun _ _ => yk (fun hc => yd (no (by simpa using hc))) fun _ => yg (rat_rb _ _) fun k hk => yg (R := fun (q : Bool) => q = false → 0 ≤ k) (yk (fun _ => yd fun h => by cases h) fun hc => yg (rat_rb _ _) fun _ _ => yd fun _ => by simpa using hc) fun q hq => yk (fun _ => yd (no (by decide))) fun hc => ?_
  have h0 := hq hc
  refine ybh h0 hk fun x _ _ => yg (has_rb _ _) fun _ _ => yk (fun _ => yd (no (by decide))) fun _ => yg (is_tt (h.sm hn) _ _) fun _ _ => yk (fun _ => yd (no (by decide))) fun _ => ybh h0 hk fun y _ hy => ?_
  have hin := (h.2 y hy).1
  exact yg (rinto_rb om _) fun r hr => yg (rturned_rb h h0 hk (by have hr : r.length ≤ y.In.length + 1 := hr; omega)) fun r hr => yd fun _ => hr
theorem rrevoke_rb {b : Prop} {n : Nat} {l : List Role} (h : RO n l) (hn : n ≤ 100) (nm to : By8) : RB b (r18_Revoke l nm to) (fun r => r.2 = 0 → RO (n + 1) r.1) := by
  have no : ∀ {k : Int} {C : Prop}, k ≠ 0 → (k = 0 → C) := fun hk he => absurd he hk
  unfold r18_Revoke
  refine yg (rcheck_tt h hn) fun _ _ => yk (fun hc => yd (no (by simpa using hc))) fun _ => yg (rat_rb _ _) fun k hk => yg (R := fun (q : Bool) => q = false → 0 ≤ k) (yk (fun _ => yd fun h => by cases h) fun hc => ybh (by simpa using hc) hk fun _ _ _ => yg (has_rb _ _) fun _ _ => yd fun _ => by simpa using hc) fun q hq => yk (fun _ => yd (no (by decide))) fun hc => ybh (hq hc) hk fun y _ hy => ?_
  have hin := (h.2 y hy).1
  exact yg (without_tt om _) fun r hr => yg (rturned_rb h (hq hc) hk (by have hr : r.length ≤ y.In.length := hr; omega)) fun r hr => yd fun _ => hr
theorem rdrop_rb {b : Prop} {n : Nat} {l : List Role} (h : RO n l) (hn : n ≤ 100) (nm : By8) : RB b (r18_Drop l nm) (fun r => r.2 = 0 → RO (n + 1) r.1) := by
  have no : ∀ {k : Int} {C : Prop}, k ≠ 0 → (k = 0 → C) := fun hk he => absurd he hk
  have hl := h.1
  unfold r18_Drop
  refine yg (rcheck_tt h hn) fun _ _ => yk (fun hc => yd (no (by simpa using hc))) fun _ => yg (rat_rb _ _) fun k hk => yk (fun _ => yd (no (by decide))) fun _ => yk (fun _ => yd (no (by decide))) fun _ => yg (forE_ret (fun j (s : List qJ) => s.length ≤ j ∧ ∀ x ∈ s, x.In.length ≤ n + 1 ∧ x.Name.size ≤ 100) ⟨by simp, by simp⟩ ?_) ?_
  · rintro j s hj ⟨g1, g2⟩
    refine yak hj fun x _ _ => yg (R := fun (s : List qJ) => s.length ≤ j + 1 ∧ ∀ x ∈ s, x.In.length ≤ n + 1 ∧ x.Name.size ≤ 100) (yk (fun _ => yak hj fun y _ hy => yak hj fun z _ hz => yg (without_tt (by have := (h.2 z hz).1; omega) _) fun r hr => ya3 (by simp only [List.length_cons, List.length_nil]; omega) (yd ⟨by simp; omega, fun w hw => ?_⟩)) (fun _ => yd ⟨by omega, g2⟩)) fun s hs => yd hs
    rcases List.mem_append.1 hw with hw | hw
    · exact g2 w hw
    · simp only [List.mem_cons, List.not_mem_nil, or_false] at hw
      subst hw
      have hr : r.length ≤ z.In.length := hr
      exact ⟨by have := (h.2 z hz).1; simp only; omega, (h.2 y hy).2⟩
  · rintro s ⟨g1, g2⟩
    exact yd fun _ => ⟨by simp only; omega, g2⟩
def CI (n : Nat) (c : qC) : Prop := CB n c ∧ RO n c.Roles
theorem CI.up {n m : Nat} {c : qC} (h : CI n c) (hm : n ≤ m) : CI m c := ⟨h.1.up hm, h.2.up hm⟩
theorem heR_len (c : qC) : (heR c).length ≤ c.Grants.length := rnds_len _ _
theorem rcan_val {c : qC} (h : Sm c.Roles) (hg : c.Grants.length ≤ 1000) (r : By8) (p : Int) (t : By8) : r19_Can c r p t = some (owB c r t || haB c (heR c) r p t true) := by
  unfold r19_Can
  simp only [owns_val h, rheld_val h hg, rhas_val h, obs]
  cases owB c r t <;> rfl
theorem rmay_val {c : qC} (h : Sm c.Roles) (hg : c.Grants.length ≤ 1000) (r : By8) (p : Int) (t : By8) : r19_May c r p t = some (owB c r t || haB c (heR c) r p t false) := by
  unfold r19_May
  simp only [owns_val h, rheld_val h hg, rhas_val h, obs]
  cases owB c r t <;> rfl
theorem rplace_rb {b : Prop} (c : qC) (s : qS) (by_ : By8) : RB b (r19_place c s by_) (fun r => r = -1 ∨ 0 ≤ r ∧ r < (c.Grants.length : Int)) := by
  unfold r19_place
  refine yg (forN_q (Q := fun r => 0 ≤ r ∧ r < (c.Grants.length : Int)) fun j s hj => yak hj fun _ _ _ => ya9 (yk (fun _ => yd ⟨by omega, by omega⟩) rt)) ?_
  rintro (_ | _) g
  · exact yd (.inl rfl)
  · exact yd (.inr g)
theorem rgiven_rb {b : Prop} {n : Nat} {c : qC} (h : CI n c) (hn : n ≤ 100) (s : qS) (by_ : By8) : RB b (r19_given c s by_) (fun r => r.2 = 0 → r.1.length ≤ n + 1) := by
  have no : ∀ {k : Int} {C : Prop}, k ≠ 0 → (k = 0 → C) := fun hk he => absurd he hk
  have hg := h.1.grants
  unfold r19_given
  refine yg (tat_rb _ _) fun _ _ => yg (R := TT) (yk rt fun _ => yg (rat_rb _ _) fun _ _ => yd trivial) fun _ _ => yk (fun _ => yd (no (by decide))) fun _ => yg (R := TT) (ybw (rcan_val (h.2.sm hn) om _ _ _) trivial) fun _ _ => yk (fun _ => yd (no (by decide))) fun _ => yg (rplace_rb _ _ _) fun k hk => ya3 (by simp; omega) ?_
  rw [List.nil_append]
  refine yk (fun hc => ?_) fun _ => yk (fun _ => yd (no (by decide))) fun _ => ya3 (by simp only [List.length_cons, List.length_nil]; omega) (yd fun _ => by simp; omega)
  have h0 : 0 ≤ k := by simpa using hc
  have h1 : k < (c.Grants.length : Int) := by omega
  exact ybh h0 h1 fun _ _ _ => yk (fun _ => yd (no (by decide))) fun _ => ybh h0 h1 fun _ _ _ => yd fun _ => by simp; omega
theorem rroles_rb {b : Prop} {n : Nat} {c : qC} {s : qS} (h : CI n c) (hn : n ≤ 100) (hm : s.Name.size ≤ 100) : RB b (r19_roles c s) (fun r => r.2 = 0 → RO (n + 1) r.1) := by
  unfold r19_roles
  refine yk (fun _ => yg (rcreate_rb h.2 hn hm) ?_) fun _ => yk (fun _ => yg (rgrant_rb h.2 hn _ _) ?_) fun _ => yk (fun _ => yg (rrevoke_rb h.2 hn _ _) ?_) fun _ => yg (forN_q (Q := fun r => r.2 = (34 : Int)) fun j s hj => yak hj fun _ _ _ => yk (fun _ => yd rfl) rt) ?_
  · rintro ⟨_, _⟩ g; exact yd g
  · rintro ⟨_, _⟩ g; exact yd g
  · rintro ⟨_, _⟩ g; exact yd g
  · rintro (_ | ⟨_, k⟩) g
    · refine yg (rdrop_rb h.2 hn _) ?_
      rintro ⟨_, _⟩ g; exact yd g
    · simp only at g
      subst g
      exact yd fun h => by cases h
theorem gmake_rb {b : Prop} {n : Nat} {c : qC} {s : qS} (h : CI n c) (hn : n ≤ 99) (hm : s.Name.size ≤ 100) (by_ : By8) (most : Int) : RB b (r19_Make c s by_ most) (fun r => r.2 = 0 → CI (n + 1) r.1) := by
  have no : ∀ {k : Int} {C : Prop}, k ≠ 0 → (k = 0 → C) := fun hk he => absurd he hk
  have hg := h.1.grants
  unfold r19_Make
  refine yk (fun _ => yd (no (by decide))) fun _ => yg (rat_rb _ _) fun _ _ => yk (fun _ => yd (no (by decide))) fun _ => yg (R := TT) (yk (fun _ => yg (is_tt (h.2.sm om) _ _) fun _ _ => yd trivial) rt) fun _ _ => yg (R := fun (q : (Int × qC × (List qJ) × (List qG)) ⊕ (Int × qC)) => match q with | .inl (k, _, rs, gs) => k = 0 → RO (n + 1) rs ∧ gs.length ≤ n + 1 | .inr (k, _) => k ≠ 0) ?_ ?_
  · refine yk (fun _ => yd (no (by decide))) fun _ => yg (R := fun (q : (Int × qC × (List qJ) × (List qG)) ⊕ (Int × qC)) => match q with | .inl (k, _, rs, gs) => k = 0 → RO (n + 1) rs ∧ gs.length ≤ n + 1 | .inr (k, _) => k ≠ 0) ?_ ?_
    rotate_left
    · rintro (⟨_, _, _, _⟩ | ⟨_, _⟩) g <;> exact yd g
    refine yk (fun _ => yg (rroles_rb h om hm) ?_) fun _ => yg (R := fun (q : (Int × qC × (List qG)) ⊕ (Int × qC)) => match q with | .inl (k, _, gs) => k = 0 → gs.length ≤ n + 1 | .inr (k, _) => k ≠ 0) (yk (fun _ => yg (rgiven_rb h om _ _) ?_) fun _ => yg (rplace_rb _ _ _) fun k hk => yk (fun _ => yd (show (4 : Int) ≠ 0 by decide)) fun hc => ?_) ?_
    · rintro ⟨_, _⟩ g
      exact yd fun he => ⟨g he, by omega⟩
    · rintro ⟨_, _⟩ g
      exact yd g
    · have h0 : 0 ≤ k ∧ k < (c.Grants.length : Int) := by
        rcases hk with hk | hk
        · subst hk; simp at hc
        · exact hk
      have ew : w64 (k + 1) = k + 1 := w64_id om om
      rw [ew]
      exact ybj om om om fun l1 m1 k1 => ya3 (by simp; omega) (ybj om om om fun l2 m2 k2 => ya3 (by simp; omega) (yd fun _ => by simp; omega))
    · rintro (⟨_, _, _⟩ | ⟨_, _⟩) g
      · exact yd fun he => ⟨h.2.up om, g he⟩
      · exact yd g
  · rintro (⟨k, z, rs, gs⟩ | ⟨k, z⟩) g
    · refine yg (R := fun (e : Int) => e = 0 → k = 0) (yk (fun _ => yd fun h => by cases h) fun _ => yd fun h => h) fun e he => yk (fun hc => yd (no (by simpa using hc))) fun hc => ?_
      obtain ⟨g1, g2⟩ := g (he (by simpa using hc))
      have hh : (heR ({ c with Version := (w64 (c.Version + 1)), Roles := rs, Grants := gs } : qC)).length ≤ gs.length := heR_len _
      refine yg (R := fun l => l = heR _) (ybw (rheld_val (g1.sm om) (by show gs.length ≤ 1000; omega)) rfl) fun l hl => yd fun _ => ⟨⟨Nat.le_succ_of_le h.1.tabs, (h.1.up (show n ≤ n + 1 by omega)).ok, ?_⟩, g1⟩
      have hl : l = heR _ := hl
      rw [hl]
      exact Nat.le_trans hh om
    · exact yd (no g)
theorem SF.of {s : qS} (h1 : s.Cols.length ≤ 12) (h2 : s.Cons.length ≤ 12) (h3 : s.Names.length ≤ 12) (h4 : ∀ x ∈ s.Cons, x.Cols.length ≤ 12 ∧ x.Refs.length ≤ 12 ∧ Es x.Check) {l : List By8} (hl : ∀ x ∈ l, x.size ≤ 100)
    (g1 : s.Table ∈ l ∧ s.Name ∈ l) (g2 : ∀ x ∈ s.Cols, x.Name ∈ l) (g3 : ∀ x ∈ s.Cons, x.Name ∈ l ∧ x.Table ∈ l) : SF s :=
  ⟨h1, h2, h3, hl _ g1.1, hl _ g1.2, fun x hx => hl _ (g2 x hx), fun x hx => ⟨hl _ (g3 x hx).1, hl _ (g3 x hx).2, (h4 x hx).1, (h4 x hx).2.1, (h4 x hx).2.2⟩⟩
theorem sfew_fu {b : Prop} : ∀ (n : Nat) (s : qS), (b → s.Kids = [] ∧ 1 ≤ n ∨ 2 ≤ n) → RB b (r12_Few_fu n s) (fun r => r = true → SF s)
  | 0, s, h => ybi fun hb => by have := h hb; omega
  | n + 1, s, h => by
    unfold r12_Few_fu
    refine ya9 (ya9 (ya9 (yg (R := fun (q : Bool) => q = false → s.Cols.length ≤ 12 ∧ s.Cons.length ≤ 12 ∧ s.Names.length ≤ 12 ∧ s.Rows.length ≤ 12 ∧ s.Sets.length ≤ 12 ∧ s.Kids.length ≤ 1) (yk (fun _ => yd fun h => by cases h) fun hc => yg (efew_rb _) fun _ _ => yd fun _ => ?_) fun q hq => yk (fun _ => yd fun h => by cases h) fun hc => ?_)))
    · simp only [Bool.or_eq_false_iff, decide_eq_false_iff_not] at hc
      omega
    obtain ⟨h1, h2, h3, h5, h6, h7⟩ := hq hc
    refine ya3 (by simp only [List.length_cons, List.length_nil]; omega) ?_
    refine yg (grow (k := 16) (fun (x : qL) => x.Name) (by simp; omega) fun j s x hx => by rw [idx_nat, hx]; rfl) fun l0 hl0 => ?_
    have hl0 : l0 = [s.Table, s.Name, s.Role] ++ s.Names ++ s.Cols.map (·.Name) := hl0
    have hn0 : l0.length ≤ 27 := by rw [hl0]; simp; omega
    refine yg (forN_ret (fun j (l : List By8) => l.length ≤ 27 + j * 26 ∧ (∀ x ∈ l0, x ∈ l) ∧ ∀ x ∈ s.Cons.take j, (x.Cols.length ≤ 12 ∧ x.Refs.length ≤ 12 ∧ Es x.Check) ∧ x.Name ∈ l ∧ x.Table ∈ l) (Q := fun r => r = false) ⟨by omega, fun x hx => hx, by simp⟩ ?_) ?_
    · rintro j l hj ⟨g1, g2, g3⟩
      refine yak hj fun x hx _ => ya9 (yg (R := fun (q : Bool) => q = false → x.Cols.length ≤ 12 ∧ x.Refs.length ≤ 12 ∧ Es x.Check) (yk (fun _ => yd fun h => by cases h) fun hc => yg (efew_rb _) fun r hr => yd fun hq => ?_) fun q hq => yk (fun _ => yd rfl) fun hc => ?_)
      · simp only [Bool.or_eq_false_iff, decide_eq_false_iff_not] at hc
        exact ⟨by omega, by omega, hr (by simpa using hq)⟩
      have hx3 := hq hc
      refine ya3 (by simp only [List.length_cons, List.length_nil]; omega) (ya3 (by simp; omega) (ya3 (by simp; omega) (yd ⟨by simp; omega, fun y hy => by simp [g2 y hy], ?_⟩)))
      rw [take_next hx]
      intro y hy
      rcases List.mem_append.1 hy with hy | hy
      · exact ⟨(g3 y hy).1, by simp [(g3 y hy).2.1], by simp [(g3 y hy).2.2]⟩
      · simp only [List.mem_cons, List.not_mem_nil, or_false] at hy
        subst hy
        exact ⟨hx3, by simp, by simp⟩
    rintro (l1 | _) g
    rotate_left
    · exact yd fun h => by subst h; cases g
    obtain ⟨g1, g2, g3⟩ := g
    rw [List.take_length] at g3
    refine yg (forN_q (Q := fun q => q = false) fun j _ hj => yak hj fun x _ _ => yk (fun _ => yd rfl) fun hc => ?_) ?_
    · have hr : ∀ {α : Type} {f : List qE → Option α} {Q : α → Prop}, RB b (f s.Rows[j]) Q → RB b ((idx s.Rows (j : Int)).bind f) Q := fun hf => by rw [idx_mem hj]; exact hf
      rename_i hx1 _
      have hxj : x = s.Rows[j] := by rw [gE hj] at hx1; injection hx1 with hx1; exact hx1.symm
      have hlen : s.Rows[j].length ≤ 12 := by rw [← hxj]; simp only [decide_eq_false_iff_not] at hc; omega
      refine yg (loopO_rb (fun (i : Int) => ∃ k : Nat, i = (k : Int) ∧ k ≤ s.Rows[j].length) (fun i => s.Rows[j].length - i.toNat) (Q := fun r => match r with | .inl q => q = false | .inr _ => True) ?_ ⟨0, rfl, by omega⟩) ?_
      · rintro _ ⟨k, rfl, hk⟩
        refine hr (yk (fun hc => hr ?_) rt)
        have hlt : k < s.Rows[j].length := by simpa using hc
        have ew : w64 ((k : Int) + 1) = ((k + 1 : Nat) : Int) := by rw [w64_id om om]; rfl
        exact yak hlt fun _ _ _ => yg (efew_rb _) fun _ _ => yk (fun _ => yd rfl) fun _ => yd ⟨⟨k + 1, ew, by omega⟩, by rw [ew]; omega⟩
      · rintro (_ | _) g
        · exact yd g
        · exact yd trivial
    rintro (_ | _) g
    rotate_left
    · exact yd fun h => by subst h; cases g
    refine yg (forN_ret (fun j (l : List By8) => l.length ≤ 400 + j ∧ ∀ x ∈ l1, x ∈ l) (Q := fun r => r = false) ⟨by omega, fun x hx => hx⟩ ?_) ?_
    · rintro j l hj ⟨k1, k2⟩
      exact yak hj fun _ _ _ => ya3 (by simp only [List.length_cons, List.length_nil]; omega) (yak hj fun _ _ _ => yg (efew_rb _) fun _ _ => yk (fun _ => yd rfl) fun _ => yd ⟨by simp; omega, fun x hx => List.mem_append_left _ (k2 x hx)⟩)
    rintro (l2 | _) g
    rotate_left
    · exact yd fun h => by subst h; cases g
    obtain ⟨_, k2⟩ := g
    refine yg (forN_q (Q := fun q => q = false) fun j _ hj => yak hj fun _ _ _ => yg (efew_rb _) fun _ _ => yk (fun _ => yd rfl) rt) ?_
    rintro (_ | _) g
    rotate_left
    · exact yd fun h => by subst h; cases g
    refine yg (forN_ret (fun j _ => ∀ x ∈ l2.take j, x.size ≤ 100) (Q := fun r => r = false) (by simp) ?_) ?_
    · intro j _ hj g
      refine yak hj fun x hx _ => yk (fun _ => yd rfl) fun hc => yd ?_
      show ∀ x ∈ l2.take (j + 1), _
      rw [take_next hx]
      intro y hy
      rcases List.mem_append.1 hy with hy | hy
      · exact g y hy
      · simp only [List.mem_cons, List.not_mem_nil, or_false] at hy
        subst hy
        simp only [decide_eq_false_iff_not] at hc
        omega
    rintro (_ | _) g
    rotate_left
    · exact yd fun h => by subst h; cases g
    rw [List.take_length] at g
    have sf : SF s := by
      refine SF.of h1 h2 h3 (fun x hx => (g3 x hx).1) g ⟨k2 _ (g2 _ (by rw [hl0]; simp)), k2 _ (g2 _ (by rw [hl0]; simp))⟩ (fun x hx => k2 _ (g2 _ ?_)) (fun x hx => ⟨k2 _ (g3 x hx).2.1, k2 _ (g3 x hx).2.2⟩)
      rw [hl0]
      exact List.mem_append_right _ (List.mem_map_of_mem hx)
    refine RB.mono (Q := TT) ?_ (fun _ _ _ => sf)
    refine yg (R := TT) (yk rt fun hc => ?_) fun _ _ => yd trivial
    have hk : 0 < s.Kids.length := by
      cases hs : s.Kids with
      | nil => rw [hs] at hc; cases hc
      | cons => simp
    have h0 : ∀ {α : Type} {f : qS → Option α} {Q : α → Prop}, RB b (f s.Kids[0]) Q → RB b ((idx s.Kids 0).bind f) Q := fun hf => by rw [show (0 : Int) = ((0 : Nat) : Int) from rfl, idx_mem hk]; exact hf
    refine h0 (yg (R := TT) (yk (fun hc2 => h0 (yg (sfew_fu n s.Kids[0] fun hb => ?_).tt fun _ _ => yd trivial)) rt) fun _ _ => yd trivial)
    have e0 : s.Kids[0].Kids = [] := by
      have : s.Kids[0].Kids.length = 0 := by simp at hc2; simp [hc2]
      exact List.eq_nil_of_length_eq_zero this
    rcases h hb with ⟨h, _⟩ | h
    · rw [h] at hk; simp at hk
    · exact .inl ⟨e0, by omega⟩
theorem sfew_rb {b : Prop} (s : qS) : RB b (r12_Few s) (fun r => r = true → SF s) := by
  unfold r12_Few
  exact fuel_tt 2 fun n => sfew_fu n s fun h => .inr h
def AF (l : List law19_Act) : Prop := l.length ≤ 40 ∧ ∀ a ∈ l, SF a.S ∧ a.By.size ≤ 100
theorem afew_rb {b : Prop} (l : List law19_Act) : RB b (law19_Few l) (fun r => r = true → AF l) := by
  unfold law19_Few
  refine yg (forN_ret (fun j _ => j ≤ 40 ∧ ∀ a ∈ l.take j, SF a.S ∧ a.By.size ≤ 100) (Q := fun r => r = false) (by simp) ?_) ?_
  · rintro j _ hj ⟨g0, g⟩
    refine yg (R := fun (q : Bool) => q = false → j < 40 ∧ ∀ x, l[j]? = some x → SF x.S) (yk (fun _ => yd fun h => by cases h) fun hc => yak hj fun x hx _ => yg (sfew_rb _) fun r hr => yd fun hq => ⟨?_, fun y hy => ?_⟩) fun q hq => yg (R := fun (q' : Bool) => q' = false → q = false ∧ ∀ x, l[j]? = some x → x.By.size ≤ 100) (yk (fun _ => yd fun h => by cases h) fun hc => yak hj fun x hx _ => yd fun hq => ⟨hc, fun y hy => ?_⟩) fun q' hq' => yk (fun _ => yd rfl) fun hc => yd ?_
    · simp only [decide_eq_false_iff_not] at hc
      omega
    · rw [hx] at hy
      injection hy with hy
      subst hy
      exact hr (by simpa using hq)
    · rw [hx] at hy
      injection hy with hy
      subst hy
      simp only [decide_eq_false_iff_not] at hq
      omega
    · obtain ⟨e1, e2⟩ := hq' hc
      obtain ⟨e3, e4⟩ := hq e1
      have hx : l[j]? = some l[j] := gE hj
      refine ⟨by omega, ?_⟩
      rw [take_next hx]
      intro y hy
      rcases List.mem_append.1 hy with hy | hy
      · exact g y hy
      · simp only [List.mem_cons, List.not_mem_nil, or_false] at hy
        subst hy
        exact ⟨e4 _ hx, e2 _ hx⟩
  · rintro (_ | _) g
    · rw [List.take_length] at g
      exact yd fun _ => g
    · exact yd fun h => by subst h; cases g
theorem next_rb {b : Prop} {n : Nat} {c : qC} {a : law19_Act} (h : CI n c) (ha : SF a.S ∧ a.By.size ≤ 100) (h12 : 12 ≤ n) (hn : n ≤ 99) : RB b (law19_Next c a) (fun r => CI (n + 1) r.1) := by
  unfold law19_Next
  refine yg (gmake_rb h hn ha.1.name _ _) ?_
  rintro ⟨d, e⟩ g
  refine yg (R := fun (q : Int × qC) => q.1 = 0 → CI (n + 1) q.2) (yk (fun _ => yg (tmake_rb h.1 ha.1 ha.2 h12 om) ?_) fun _ => yd g) ?_
  · rintro ⟨d', e'⟩ g'
    exact yd fun he => ⟨(g' he).1, by rw [(g' he).2]; exact h.2.up om⟩
  · rintro ⟨k, d'⟩ g'
    exact yk (fun _ => yd (h.up om)) fun hc => yd (g' (by simpa using hc))
theorem set_same {α : Type} {xs : List α} {i : Nat} {x : α} (h : xs[i]? = some x) : xs.set i x = xs := by
  refine List.ext_getElem? fun j => ?_
  rw [List.getElem?_set]
  by_cases e : i = j
  · subst e
    have := (List.getElem?_eq_some_iff.1 h).1
    rw [if_pos rfl, if_pos this, h]
  · rw [if_neg e]
theorem clone_str {l : List By8} (h : l.length ≤ 1000) : slices_Clone_string l = some l := by
  unfold slices_Clone_string
  rw [app_le (by simp; omega)]
  rfl
theorem eclone_fu {b : Prop} : ∀ (n : Nat) (e : qE), esz e ≤ 1000 → (b → esz e ≤ n) → RB b (expr_Clone_fu n e) (fun r => r = e)
  | 0, e, _, h => ybi fun hb => by have := h hb; have := esz_pos e; omega
  | n + 1, e, hz, h => by
    have hkl := eszL_len e.Kids
    have h1 := esz_eq e
    unfold expr_Clone_fu
    refine yg (forE_ret (fun j (s : List qE) => s = e.Kids.take j) (by simp) ?_) fun s hs => ?_
    · rintro j s hj rfl
      refine yak hj fun x hx hm => yg (eclone_fu n x (by have := kid_sz hm; omega) fun hb => by have := h hb; have := kid_sz hm; omega) fun r hr => ?_
      have hr : r = x := hr
      subst hr
      exact ya3 (by simp only [List.length_cons, List.length_nil, List.length_take]; omega) (yd (take_next hx).symm)
    · have hs : s = e.Kids.take e.Kids.length := hs
      rw [List.take_length] at hs
      subst hs
      exact yd (by cases e; rfl)
theorem eclone_eq {e : qE} (hz : esz e ≤ 1000) : expr_Clone e = some e := by
  unfold expr_Clone
  exact Ret.eq (fuel_tt (esz e) fun n => eclone_fu n e hz fun h => h)
theorem tclone_eq {n : Nat} {t : qT} (h : TB n t) (hn : n ≤ 1000) : table_Clone t = some t := by
  have h1 := h.cols
  have h2 := h.cons
  have h3 := h.idx
  unfold table_Clone slices_Clone_qL slices_Clone_qK slices_Clone_qI
  rw [app_le (by simp; omega), app_le (by simp; omega), app_le (by simp; omega)]
  simp only [obs, List.nil_append]
  have c1 : ∀ j s, j < t.Cons.length → s = t.Cons → (idx s (j : Int)).bind (fun (x45 : qK) => (slices_Clone_string x45.Cols).bind (fun (r59 : List By8) => (slices_Clone_string x45.Refs).bind (fun (r65 : List By8) => (expr_Clone x45.Check).bind (fun (r71 : qE) => (idx s (j : Int)).bind (fun (x72 : qK) => (idx (s.set ((j : Int)).toNat ({ x72 with Cols := r59 })) (j : Int)).bind (fun (x85 : qK) => (idx ((s.set ((j : Int)).toNat ({ x72 with Cols := r59 })).set ((j : Int)).toNat ({ x85 with Refs := r65 })) (j : Int)).bind (fun (x97 : qK) => some (((s.set ((j : Int)).toNat ({ x72 with Cols := r59 })).set ((j : Int)).toNat ({ x85 with Refs := r65 })).set ((j : Int)).toNat ({ x97 with Check := r71 }))))))))) = some t.Cons := by
    rintro j s hj rfl
    have hx : t.Cons[j]? = some t.Cons[j] := gE hj
    obtain ⟨_, _, x1, x2, x3⟩ := h.xs _ (List.getElem_mem hj)
    generalize t.Cons[j] = x at hx x1 x2 x3
    have e1 : t.Cons.set ((j : Int)).toNat x = t.Cons := set_same (by simpa using hx)
    simp only [idx_nat, hx, obs, clone_str (show x.Cols.length ≤ 1000 by omega), clone_str (show x.Refs.length ≤ 1000 by omega), eclone_eq (Nat.le_trans x3.1 om : esz x.Check ≤ 1000), e1]
  have c2 : ∀ j s, j < t.Idx.length → s = t.Idx → (idx s (j : Int)).bind (fun (x134 : qI) => (slices_Clone_string x134.Cols).bind (fun (r148 : List By8) => (idx s (j : Int)).bind (fun (x149 : qI) => some (s.set ((j : Int)).toNat ({ x149 with Cols := r148 }))))) = some t.Idx := by
    rintro j s hj rfl
    have hx : t.Idx[j]? = some t.Idx[j] := gE hj
    obtain ⟨_, x1⟩ := h.is _ (List.getElem_mem hj)
    generalize t.Idx[j] = x at hx x1
    have e1 : t.Idx.set ((j : Int)).toNat x = t.Idx := set_same (by simpa using hx)
    simp only [idx_nat, hx, obs, clone_str (show x.Cols.length ≤ 1000 by omega), e1]
  refine Ret.eq (yg (forE_ret (fun _ s => s = t.Cons) rfl fun j s hj hs => ybw (c1 j s hj hs) rfl) fun s hs => yg (forE_ret (fun _ s => s = t.Idx) rfl fun j s hj hs => ybw (c2 j s hj hs) rfl) fun u hu => ?_)
  have hs : s = t.Cons := hs
  have hu : u = t.Idx := hu
  rw [hs, hu]
  exact yd rfl
theorem cfind_eq {n : Nat} {c : qC} (h : CB n c) (hn : n ≤ 1000) (nm : By8) : (tI c nm < 0 ∧ catalog_Find c nm = some (z_qT, false)) ∨ ∃ t, 0 ≤ tI c nm ∧ idx c.Tables (tI c nm) = some t ∧ catalog_Find c nm = some (t, true) := by
  have hf : slices_IndexFunc_qT c.Tables (fun (u0 : qT) => catalog_Find_1 u0 nm) = some (tI c nm) := by
    unfold slices_IndexFunc_qT tI
    rw [forN_find (fun (x : qT) => sEq x.Name nm) (fun j => (j : Int)) (fun j x hx => by rw [idx_nat, hx]; unfold catalog_Find_1; simp only [obs]; cases sEq x.Name nm <;> rfl)]
    cases c.Tables.findIdx? (fun x => sEq x.Name nm) <;> rfl
  unfold catalog_Find
  rw [hf]
  simp only [obs]
  by_cases h0 : 0 ≤ tI c nm
  · right
    obtain ⟨k, t, hk, ht, hm, _⟩ := tI_get h0
    refine ⟨t, h0, by rw [hk, idx_nat]; exact ht, ?_⟩
    rw [show decide (tI c nm ≥ 0) = true by simpa using h0, hk, idx_nat, ht]
    simp only [obs, cond_true, tclone_eq (h.ok t hm).1 hn]
  · left
    rw [show decide (tI c nm ≥ 0) = false by simpa using h0]
    exact ⟨by omega, rfl⟩
theorem gowns_val {n : Nat} {c : qC} (h : CB n c) (hn : n ≤ 1000) (hr : Sm c.Roles) (r t : By8) : grants_Owns c r t = some (owB c r t) := by
  rw [← owns_val hr]
  unfold grants_Owns r19_Owns
  rw [tat_val]
  rcases cfind_eq h hn t with ⟨h0, e⟩ | ⟨x, h0, hx, e⟩
  · rw [e]
    simp only [obs]
    rw [show decide (tI c t ≥ 0) = false by simp; omega]
    rfl
  · rw [e]
    simp only [obs]
    rw [show decide (tI c t ≥ 0) = true by simpa using h0]
    simp only [obs, cond_true, hx, is_same hr]
theorem mfind_eq {l : List Role} (h : Sm l) (n : By8) : ∃ r, member_Find l n = some (r, decide (0 ≤ rI l n)) := by
  unfold member_Find
  rw [at_same, rat_val]
  simp only [obs]
  by_cases h0 : rI l n < 0
  · rw [show decide (rI l n < 0) = true by simpa using h0, show decide (0 ≤ rI l n) = false by simp; omega]
    exact ⟨_, rfl⟩
  · obtain ⟨x, hx, hx'⟩ := idx_lt (xs := l) (i := rI l n) om (rI_lt l n)
    have hm := List.mem_of_getElem? hx'
    rw [show decide (rI l n < 0) = false by simpa using h0, show decide (0 ≤ rI l n) = true by simp; omega, hx]
    simp only [obs, cond_false, clone_str (show x.In.length ≤ 1000 by have := h.2.1 x hm; omega)]
    exact ⟨_, rfl⟩
theorem ghas_val {c : qC} (h : Sm c.Roles) (l : List qG) (r : By8) (p : Int) (t : By8) (o : Bool) : grants_has c l r p t o = some (haB c l r p t o) := by
  have h1 : ∀ g, grants_has_1 g p t o c r = some (g.Priv == p && sEq g.Table t && (g.Option || !o) && isB c.Roles r g.To) := by
    intro g
    unfold grants_has_1
    rw [is_same h, is_val h]
    cases (g.Priv == p && sEq g.Table t && (g.Option || !o)) <;> rfl
  unfold grants_has slices_ContainsFunc_qG slices_IndexFunc_qG haB
  rw [forN_find (fun (g : qG) => g.Priv == p && sEq g.Table t && (g.Option || !o) && isB c.Roles r g.To) (fun j => (j : Int)) (fun j x hx => by rw [idx_nat, hx]; simp only [obs, h1]; cases (x.Priv == p && sEq x.Table t && (x.Option || !o) && isB c.Roles r x.To) <;> rfl)]
  cases e : l.findIdx? (fun (g : qG) => g.Priv == p && sEq g.Table t && (g.Option || !o) && isB c.Roles r g.To) with
  | none =>
    rw [List.findIdx?_eq_none_iff] at e
    have : (l.any fun g => g.Priv == p && sEq g.Table t && (g.Option || !o) && isB c.Roles r g.To) = false := List.any_eq_false.2 fun x hx => by rw [e x hx]; simp
    rw [this]
    rfl
  | some k =>
    obtain ⟨hk, h2, _⟩ := List.findIdx?_eq_some_iff_getElem.1 e
    have : (l.any fun g => g.Priv == p && sEq g.Table t && (g.Option || !o) && isB c.Roles r g.To) = true := List.any_eq_true.2 ⟨_, List.getElem_mem hk, h2⟩
    rw [this]
    simp
noncomputable def pk (c : qC) : Nat → qG → Bool
  | 0, _ => false
  | k + 1, g => okB c (rnds c k) g
theorem rnds_pk (c : qC) (k : Nat) : rnds c k = c.Grants.filter (pk c k) := by
  cases k with
  | zero => simp [rnds, pk]
  | succ k => rfl
theorem haB_mono {c : qC} {l m : List qG} (h : ∀ g ∈ l, g ∈ m) {r : By8} {p : Int} {t : By8} {o : Bool} (hh : haB c l r p t o = true) : haB c m r p t o = true := by
  obtain ⟨g, hg, e⟩ := List.any_eq_true.1 hh
  exact List.any_eq_true.2 ⟨g, h g hg, e⟩
theorem okB_mono {c : qC} {l m : List qG} (h : ∀ g ∈ l, g ∈ m) {g : qG} (hh : okB c l g = true) : okB c m g = true := by
  unfold okB at hh ⊢
  simp only [Bool.and_eq_true, Bool.or_eq_true] at hh ⊢
  exact ⟨hh.1, hh.2.imp id (haB_mono h)⟩
theorem pk_mono (c : qC) : ∀ (k : Nat) (g : qG), pk c k g = true → pk c (k + 1) g = true
  | 0, g, h => by cases h
  | k + 1, g, h => by
    refine okB_mono (fun x hx => ?_) h
    rw [rnds_pk] at hx ⊢
    rw [List.mem_filter] at hx ⊢
    exact ⟨hx.1, pk_mono c k x hx.2⟩
theorem stable {c : qC} {k : Nat} (h : rnds c (k + 1) = rnds c k) : ∀ m, rnds c (k + m) = rnds c k
  | 0 => rfl
  | m + 1 => by
    show rnd c (rnds c (k + m)) = _
    rw [stable h m]
    exact h
theorem list_val {c : qC} (hg : c.Grants.length ≤ 1000) (p : qG → Bool) : grants_Held_1 c (c.Grants.map p) = some (c.Grants.filter p) := by
  unfold grants_Held_1
  refine Ret.eq (yg (forE_ret (fun j s => s = (c.Grants.take j).filter p) (by simp) ?_) fun s hs => yd (by have hs : s = (c.Grants.take c.Grants.length).filter p := hs; rw [hs, List.take_length]))
  rintro j s hj rfl
  have hx : c.Grants[j]? = some c.Grants[j] := gE hj
  have hle : ((c.Grants.take j).filter p).length ≤ j := Nat.le_trans (List.length_filter_le ..) (by simp; omega)
  generalize c.Grants[j] = x at hx
  simp only [idx_nat, List.getElem?_map, hx, Option.map_some, obs]
  rw [take_next hx, List.filter_append, app_le (by simp only [List.length_cons, List.length_nil]; omega)]
  cases hp : p x
  · exact yd (by simp [hp])
  · exact yd (by simp [hp])
theorem grow_flags {c : qC} {p q : qG → Bool} (h : ∀ g, p g = true → q g = true) : c.Grants.map q = c.Grants.map p ∨ (c.Grants.map p).count true < (c.Grants.map q).count true := by
  rcases cnt (c.Grants.map p) (c.Grants.map q) (by simp) (fun k hk => by
    rw [List.getElem?_map] at hk ⊢
    cases hx : c.Grants[k]? with
    | none => rw [hx] at hk; cases hk
    | some g => rw [hx] at hk; simp only [Option.map_some, Option.some.injEq] at hk ⊢; exact h g hk) with h | h
  · exact .inl h.symm
  · exact .inr h
theorem round_val {n : Nat} {c : qC} (h : CB n c) (hn : n ≤ 1000) (hr : Sm c.Roles) {p q : qG → Bool} (now : List qG) (hq : ∀ g, q g = okB c now g) (hpq : ∀ g, p g = true → q g = true) :
    forE (fun (i50 : Nat) (s : Bool × (List Bool)) => match s with | (s48, s49) => (idx c.Grants (i50 : Int)).bind (fun (x59 : qG) => (catalog_Find c x59.Table).bind (fun ((r71, r72) : qT × Bool) => (member_Find c.Roles x59.To).bind (fun ((r84, r85) : qJ × Bool) => (idx s49 (i50 : Int)).bind (fun (x92 : Bool) => ((bif (((!x92) && r72) && r85) then (grants_Owns c x59.By x59.Table).bind (fun (r106 : Bool) => ((bif r106 then some true else (grants_has c now x59.By x59.Priv x59.Table true).bind (fun (r119 : Bool) => some r119))).bind (fun (j107 : Bool) => some j107)) else some false)).bind (fun (j97 : Bool) => ((bif j97 then (idx s49 (i50 : Int)).bind (fun (x134 : Bool) => some (true, (s49.set ((i50 : Int)).toNat true))) else some (s48, s49))).bind (fun ((s141, s142) : Bool × (List Bool)) => some (s141, s142)))))))) c.Grants.length 0 (false, c.Grants.map p) =
      some (decide (c.Grants.map q ≠ c.Grants.map p), c.Grants.map q) := by
  refine Ret.eq ((forE_ret (fun j (s : Bool × List Bool) => s.2 = (c.Grants.take j).map q ++ (c.Grants.drop j).map p ∧ s.1 = decide ((c.Grants.take j).map q ≠ (c.Grants.take j).map p)) ⟨by simp, by simp⟩ ?_).mono ?_)
  · rintro j ⟨g, fl⟩ hj ⟨e1, e2⟩
    simp only at e1 e2
    have hx : c.Grants[j]? = some c.Grants[j] := gE hj
    have hd : c.Grants.drop j = c.Grants[j] :: c.Grants.drop (j + 1) := List.drop_eq_getElem_cons hj
    generalize c.Grants[j] = x at hx hd
    have hlen : ((c.Grants.take j).map q).length = j := by simp; omega
    have hfl : fl[j]? = some (p x) := by
      rw [e1, List.getElem?_append_right om, hlen, Nat.sub_self, hd]
      rfl
    have hset : ∀ v, fl.set j v = (c.Grants.take j).map q ++ v :: (c.Grants.drop (j + 1)).map p := by
      intro v
      rw [e1, List.set_append_right _ _ om, hlen, Nat.sub_self, hd]
      rfl
    have hfin : ∀ v, v = q x → (c.Grants.take j).map q ++ v :: (c.Grants.drop (j + 1)).map p = (c.Grants.take (j + 1)).map q ++ (c.Grants.drop (j + 1)).map p := by
      rintro v rfl
      rw [take_next hx]
      simp
    have hg : decide ((c.Grants.take (j + 1)).map q ≠ (c.Grants.take (j + 1)).map p) = (g || decide (q x ≠ p x)) := by
      rw [take_next hx, List.map_append, List.map_append, e2]
      by_cases h1 : (c.Grants.take j).map q = (c.Grants.take j).map p
      · rw [h1]; simp
      · have : ¬ ((c.Grants.take j).map q ++ [x].map q = (c.Grants.take j).map p ++ [x].map p) := fun he => h1 (List.append_inj_left he (by simp))
        simp [h1, this]
    obtain ⟨mr, hmf⟩ := mfind_eq hr x.To
    have hcf : ∃ t, catalog_Find c x.Table = some (t, decide (0 ≤ tI c x.Table)) := by
      rcases cfind_eq h hn x.Table with ⟨h0, e⟩ | ⟨t, h0, _, e⟩
      · exact ⟨_, by rw [e, show decide (0 ≤ tI c x.Table) = false by simp; omega]⟩
      · exact ⟨_, by rw [e, show decide (0 ≤ tI c x.Table) = true by simpa using h0]⟩
    obtain ⟨t, hcf⟩ := hcf
    have hqx := hq x
    unfold okB at hqx
    have hpx := hpq x
    simp only [idx_nat, hx, obs, hcf, hmf, hfl, gowns_val h hn hr, ghas_val hr]
    have cond : ((bif (((!p x) && decide (0 ≤ tI c x.Table)) && decide (0 ≤ rI c.Roles x.To)) then ((bif owB c x.By x.Table then some true else some (haB c now x.By x.Priv x.Table true))).bind (fun (j107 : Bool) => some j107) else some false)) = some (!p x && q x) := by
      rw [hqx]
      cases p x <;> cases decide (0 ≤ tI c x.Table) <;> cases decide (0 ≤ rI c.Roles x.To) <;> cases owB c x.By x.Table <;> cases haB c now x.By x.Priv x.Table true <;> rfl
    rw [cond]
    simp only [obs]
    cases hp : p x with
    | true =>
      have hqt := hpx hp
      simp only [Bool.not_true, Bool.false_and, cond_false, obs]
      refine yd ⟨?_, ?_⟩
      · simp only
        rw [← hfin (p x) (by rw [hp, hqt]), ← hset, set_same hfl]
      · simp only
        rw [hg, hp, hqt]
        simp
    | false =>
      cases hq' : q x with
      | false =>
        simp only [Bool.not_false, Bool.and_false, cond_false, obs]
        refine yd ⟨?_, ?_⟩
        · simp only
          rw [← hfin (p x) (by rw [hp, hq']), ← hset, set_same hfl]
        · simp only
          rw [hg, hp, hq']
          simp
      | true =>
        simp only [Bool.not_false, Bool.and_true, cond_true, obs]
        refine yd ⟨?_, ?_⟩
        · simp only [Int.toNat_natCast]
          rw [hset, hfin true hq'.symm]
        · simp only
          rw [hg, hp, hq']
          simp
  · rintro ⟨g, fl⟩ ⟨e1, e2⟩
    simp only [List.take_length, List.drop_length, List.map_nil, List.append_nil] at e1 e2
    rw [e1, e2]
theorem gheld_val {n : Nat} {c : qC} (h : CB n c) (hn : n ≤ 1000) (hr : Sm c.Roles) : grants_Held c = some (heR c) := by
  have hg := h.grants
  unfold grants_Held
  have hmk : mk 1 (c.Grants.length : Int) = some c.Grants.length := by
    unfold mk
    rw [if_pos om]
    rfl
  rw [hmk]
  simp only [obs]
  have h0 : List.replicate c.Grants.length false = c.Grants.map (pk c 0) := by
    symm
    exact List.eq_replicate_iff.2 ⟨by simp, fun b hb => by obtain ⟨g, _, rfl⟩ := List.mem_map.1 hb; rfl⟩
  rw [h0]
  refine Ret.eq (yg (loopO_rb (fun (s : Bool × List Bool) => ∃ k : Nat, s.2 = c.Grants.map (pk c k) ∧ k ≤ s.2.count true ∧ (s.1 = false → c.Grants.map (pk c (k + 1)) = c.Grants.map (pk c k))) (fun s => 2 * (c.Grants.length - s.2.count true) + s.1.toNat) (Q := fun fl => ∃ k : Nat, k ≤ c.Grants.length ∧ fl = c.Grants.map (pk c k) ∧ c.Grants.map (pk c (k + 1)) = c.Grants.map (pk c k)) ?_ ⟨0, rfl, Nat.zero_le _, fun h => by cases h⟩) ?_)
  · rintro ⟨g, fl⟩ ⟨k, e1, e2, e3⟩
    simp only at e1 e2 e3
    subst e1
    cases g with
    | false =>
      refine yd ⟨k, ?_, rfl, e3 rfl⟩
      have := List.count_le_length (a := true) (l := c.Grants.map (pk c k))
      simp only [List.length_map] at this
      omega
    | true =>
      simp only [cond_true]
      rw [list_val om]
      simp only [obs]
      rw [round_val h hn hr (q := pk c (k + 1)) (c.Grants.filter (pk c k)) (fun g => by rw [← rnds_pk]; rfl) (pk_mono c k)]
      have hc1 := List.count_le_length (a := true) (l := c.Grants.map (pk c (k + 1)))
      simp only [List.length_map] at hc1
      rcases grow_flags (c := c) (pk_mono c k) with he | he
      · rw [show decide (c.Grants.map (pk c (k + 1)) ≠ c.Grants.map (pk c k)) = false by simp [he]]
        refine yd ⟨⟨k, he, by rw [he]; exact e2, fun _ => he⟩, ?_⟩
        simp only [he, Bool.toNat_true, Bool.toNat_false]
        omega
      · have hne : c.Grants.map (pk c (k + 1)) ≠ c.Grants.map (pk c k) := fun e => by rw [e] at he; omega
        rw [show decide (c.Grants.map (pk c (k + 1)) ≠ c.Grants.map (pk c k)) = true by simpa using hne]
        refine yd ⟨⟨k + 1, rfl, by simp only; omega, fun h => by cases h⟩, ?_⟩
        simp only [Bool.toNat_true]
        omega
  · rintro fl ⟨k, hk, rfl, he⟩
    rw [list_val om]
    refine yd ?_
    have hst : rnds c (k + 1) = rnds c k := by
      rw [rnds_pk, rnds_pk]
      refine List.filter_congr fun g hg' => ?_
      obtain ⟨i, hi, rfl⟩ := List.mem_iff_getElem.1 hg'
      have := congrArg (fun l => l[i]?) he
      simpa [hi] using this
    have := stable hst (c.Grants.length + 1 - k)
    rw [show k + (c.Grants.length + 1 - k) = c.Grants.length + 1 by omega] at this
    show c.Grants.filter (pk c k) = rnds c (c.Grants.length + 1)
    rw [this, rnds_pk]
theorem gmay_val {n : Nat} {c : qC} (h : CB n c) (hn : n ≤ 1000) (hr : Sm c.Roles) (r : By8) (p : Int) (t : By8) : grants_May c r p t = r19_May c r p t := by
  have hg := h.grants
  rw [rmay_val hr om]
  unfold grants_May
  simp only [gowns_val h hn hr, gheld_val h hn hr, ghas_val hr, obs]
  cases owB c r t <;> rfl
theorem SF.role (n : By8) (h : n.size ≤ 100) : SF { z_qS with Kind := 10, Name := n } := ⟨Nat.zero_le _, Nat.zero_le _, Nat.zero_le _, Nat.zero_le _, h, (fun x hx => by cases hx), (fun x hx => by cases hx)⟩
theorem first_rb {b : Prop} : RB b law19_first (CI 16) := by
  unfold law19_first r17_New
  refine ya9 (yg (forE_ret (fun j c => CI (12 + j) c) ⟨⟨Nat.zero_le _, (fun t ht => by cases ht), Nat.zero_le _⟩, ⟨by show 1 ≤ 8; omega, fun x hx => ?_⟩⟩ ?_) ?_)
  · simp only [List.mem_cons, List.not_mem_nil, or_false] at hx
    subst hx
    exact ⟨Nat.zero_le _, by show (4 : Nat) ≤ 100; omega⟩
  · rintro j c hj hc
    refine yg (R := fun (q : qC × Int) => q.2 = 0 → CI (12 + (j + 1)) q.1) (yak (xs := [(⟨#[97, 110, 110]⟩ : By8), ⟨#[98, 111, 98]⟩, ⟨#[99, 121]⟩]) hj fun x _ hx => ?_) ?_
    · have hs : x.size ≤ 100 := by
        simp only [List.mem_cons, List.not_mem_nil, or_false] at hx
        rcases hx with rfl | rfl | rfl <;> decide
      refine yg (gmake_rb hc om (SF.role x hs).name _ _) ?_
      rintro ⟨d, e⟩ g
      exact yd g
    · rintro ⟨d, e⟩ g
      exact yg (R := CI (12 + (j + 1))) (yk (fun he => yd (g (by simpa using he))) (fun _ => yd (hc.up om))) fun _ h => yd h
  · intro c hc
    have hc : CI 15 c := hc
    refine yg (tmake_rb (n := 15) hc.1 ⟨by show 1 ≤ 12; omega, Nat.zero_le _, Nat.zero_le _, by show 1 ≤ 100; omega, Nat.zero_le _, fun x hx => ?_, (fun x hx => by cases hx)⟩ (by show 3 ≤ 100; omega) om om) ?_
    · simp only [List.mem_cons, List.not_mem_nil, or_false] at hx
      subst hx
      show 1 ≤ 100
      omega
    · rintro ⟨d, e⟩ g
      exact yg (R := CI 16) (yk (fun he => yd ⟨(g (by simpa using he)).1, by rw [(g (by simpa using he)).2]; exact hc.2.up om⟩) (fun _ => yd (hc.up om))) fun _ h => yd h
theorem grown_rb {b : Prop} {l : List law19_Act} (h : AF l) : RB b (law19_Grown l) (CI 60) := by
  have hl := h.1
  unfold law19_Grown
  refine yg first_rb fun c hc => yg (forE_ret (fun j c => CI (16 + j) c) hc ?_) fun d hd => yd ?_
  · intro j c hj hc
    refine yak hj fun a _ ha => yg (next_rb hc (h.2 a ha) om om) ?_
    rintro ⟨d, e⟩ g
    exact yd g
  · have hd : CI (16 + l.length) d := hd
    exact hd.up om
section
variable {α : Type}
theorem get_at {A B : List α} {y : α} {i : Nat} (h : i = A.length) : (A ++ y :: B)[i]? = some y := by
  subst h
  simp
theorem sta_at {A B : List α} {y z : α} {i : Nat} (h : i = A.length) : (A ++ y :: B).set i z = A ++ z :: B := by
  subst h
  rw [List.set_append_right _ _ (Nat.le_refl _), Nat.sub_self, List.set_cons_zero]
end
abbrev N := qN
theorem idx_mid {A B : List N} {y : N} {i : Int} (h : i = (A.length : Int)) : idx (A ++ y :: B) i = some y := idx_at h (get_at rfl)
theorem set_mid {A B : List N} {y z : N} {i : Int} (h : i = (A.length : Int)) : (A ++ y :: B).set i.toNat z = A ++ z :: B := sta_at om
def room : Int := 1000000000000
theorem w64_r {n : Int} (h1 : -room * 4 ≤ n) (h2 : n ≤ room * 4) : w64 n = n := by
  unfold room at *
  exact w64_id om om
theorem swapRange_eq (P X M Y S : List N) (p : N → N → Option Int) (hXY : X.length = Y.length) (a b n : Int) (ha : a = (P.length : Int)) (hb : b = ((P ++ X ++ M).length : Int)) (hn : n = (X.length : Int))
    (hlen : ((P ++ X ++ M ++ Y ++ S).length : Int) ≤ room) : slices_swapRangeCmpFunc_registrar_qN (P ++ X ++ M ++ Y ++ S) a b n p = some (P ++ Y ++ M ++ X ++ S) := by
  unfold slices_swapRangeCmpFunc_registrar_qN
  refine Ret.eq (yg (loopO_rb (Q := fun (r : List N) => r = P ++ Y ++ M ++ X ++ S) (I := fun (s : Int × List N) => ∃ X1 X2 Y1 Y2, X = X1 ++ X2 ∧ Y = Y1 ++ Y2 ∧ X1.length = Y1.length ∧ s.1 = (X1.length : Int) ∧ s.2 = P ++ Y1 ++ X2 ++ M ++ X1 ++ Y2 ++ S) (μ := fun s => X.length - s.1.toNat) ?_ ?_) ?_)
  · rintro ⟨s, d⟩ ⟨X1, X2, Y1, Y2, rfl, rfl, h1, h2, h3⟩
    simp only at h2 h3
    subst h2 h3
    simp only [List.length_append] at hXY hlen hb hn
    subst ha hb hn
    refine yk (fun hc => ?_) (fun hc => ?_)
    · simp only [decide_eq_true_eq] at hc
      cases X2 with
      | nil => simp at hc
      | cons x X2 =>
        cases Y2 with
        | nil => simp at hXY; omega
        | cons y Y2 =>
          simp only [List.length_cons] at hXY hlen hc ⊢
          have e1 : w64 ((P.length : Int) + X1.length) = ((P ++ Y1).length : Int) := by rw [w64_r] <;> simp only [List.length_append, room] at * <;> omega
          have e2 : w64 (((P.length + (X1.length + (X2.length + 1)) + M.length : Nat) : Int) + X1.length) = ((P ++ Y1 ++ x :: X2 ++ M ++ X1).length : Int) := by
            rw [w64_r] <;> simp only [List.length_append, List.length_cons, room] at * <;> omega
          rw [e1, e2]
          have d1 : P ++ Y1 ++ x :: X2 ++ M ++ X1 ++ y :: Y2 ++ S = (P ++ Y1) ++ x :: (X2 ++ M ++ X1 ++ y :: Y2 ++ S) := by simp
          have d2 : P ++ Y1 ++ x :: X2 ++ M ++ X1 ++ y :: Y2 ++ S = (P ++ Y1 ++ x :: X2 ++ M ++ X1) ++ y :: (Y2 ++ S) := by simp
          have d3 : (P ++ Y1) ++ y :: (X2 ++ M ++ X1 ++ y :: Y2 ++ S) = (P ++ Y1 ++ y :: X2 ++ M ++ X1) ++ y :: (Y2 ++ S) := by simp
          refine yaq (x := y) (by rw [d2]; exact idx_mid rfl) (yaq (x := x) (by rw [d1]; exact idx_mid rfl) (yaq (x := x) (by rw [d1]; exact idx_mid rfl) ?_))
          have s1 : (P ++ Y1 ++ x :: X2 ++ M ++ X1 ++ y :: Y2 ++ S).set (((P ++ Y1).length : Int)).toNat y = (P ++ Y1 ++ y :: X2 ++ M ++ X1) ++ y :: (Y2 ++ S) := by
            rw [d1, set_mid rfl, d3]
          show RB True (Option.bind (idx ((P ++ Y1 ++ x :: X2 ++ M ++ X1 ++ y :: Y2 ++ S).set (((P ++ Y1).length : Int)).toNat y) _) _) _
          rw [s1]
          refine yaq (x := y) (idx_mid (by simp)) (yd ⟨⟨X1 ++ [x], X2, Y1 ++ [y], Y2, by simp, by simp, by simp [h1], ?_, ?_⟩, ?_⟩)
          · simp only [List.length_append, List.length_cons, List.length_nil]
            rw [w64_r] <;> simp only [room] at * <;> omega
          · show ((P ++ Y1 ++ y :: X2 ++ M ++ X1) ++ y :: (Y2 ++ S)).set _ x = _
            rw [set_mid (by simp)]
            simp
          · simp only [List.length_append, List.length_cons]
            rw [w64_r] <;> simp only [room] at * <;> omega
    · simp only [decide_eq_false_iff_not] at hc
      have : X2 = [] := List.eq_nil_of_length_eq_zero om
      subst this
      have : Y2 = [] := List.eq_nil_of_length_eq_zero (by simp at hXY; omega)
      subst this
      exact yd (by simp)
  · exact ⟨[], X, [], Y, rfl, rfl, rfl, rfl, by simp⟩
  · rintro r rfl
    exact yd rfl
theorem rotate_eq (P A B S : List N) (p : N → N → Option Int) (a m b : Int) (ha : a = (P.length : Int)) (hm : m = ((P ++ A).length : Int)) (hb : b = ((P ++ A ++ B).length : Int)) (hA : A ≠ []) (hB : B ≠ [])
    (hlen : ((P ++ A ++ B ++ S).length : Int) ≤ room) : slices_rotateCmpFunc_registrar_qN (P ++ A ++ B ++ S) a m b p = some (P ++ B ++ A ++ S) := by
  unfold slices_rotateCmpFunc_registrar_qN
  have hlp : 0 < A.length := List.length_pos_iff.2 hA
  have hlb : 0 < B.length := List.length_pos_iff.2 hB
  refine Ret.eq (yg (loopO_rb (Q := fun (r : Int × List N) => ∃ P' X Y S', 0 < X.length ∧ X.length = Y.length ∧ (m : Int) = ((P' ++ X).length : Int) ∧ r.1 = (X.length : Int) ∧ r.2 = P' ++ X ++ Y ++ S' ∧ P' ++ Y ++ X ++ S' = P ++ B ++ A ++ S)
    (I := fun (s : Int × Int × List N) => ∃ P' X Y S', 0 < X.length ∧ 0 < Y.length ∧ (m : Int) = ((P' ++ X).length : Int) ∧ s.1 = (X.length : Int) ∧ s.2.1 = (Y.length : Int) ∧ s.2.2 = P' ++ X ++ Y ++ S' ∧ P' ++ Y ++ X ++ S' = P ++ B ++ A ++ S) (μ := fun s => s.1.toNat + s.2.1.toNat) ?_ ?_) ?_)
  · rintro ⟨i, j, d⟩ ⟨P', X, Y, S', hx, hy, h1, h2, h3, h4, h5⟩
    simp only at h2 h3 h4
    subst h2 h3 h4
    have hL : P'.length + Y.length + X.length + S'.length = P.length + B.length + A.length + S.length := by have := congrArg List.length h5; simp at this; omega
    simp only [List.length_append] at hlen h1
    refine yk (fun hc => ?_) (fun hc => ?_)
    · have hne : X.length ≠ Y.length := by
        intro e
        rw [e] at hc
        simp at hc
      refine yg (R := fun (r : Int × Int × List N) => ∃ P'' X' Y' S'', 0 < X'.length ∧ 0 < Y'.length ∧ (m : Int) = ((P'' ++ X').length : Int) ∧ r.1 = (X'.length : Int) ∧ r.2.1 = (Y'.length : Int) ∧ r.2.2 = P'' ++ X' ++ Y' ++ S'' ∧ P'' ++ Y' ++ X' ++ S'' = P ++ B ++ A ++ S ∧ X'.length + Y'.length < X.length + Y.length) ?_ ?_
      · refine yk (fun hc2 => ?_) (fun hc2 => ?_)
        · simp only [decide_eq_true_eq] at hc2
          have hs := List.take_append_drop Y.length X
          have l1 : (X.take Y.length).length = Y.length := by rw [List.length_take]; omega
          have l2 : (X.drop Y.length).length = X.length - Y.length := List.length_drop
          generalize X.take Y.length = X1 at *
          generalize X.drop Y.length = X2 at *
          subst hs
          simp only [List.length_append] at *
          refine yaq (x := P' ++ Y ++ X2 ++ X1 ++ S') ?_ (yd ⟨P' ++ Y, X2, X1, S', by omega, by omega, ?_, ?_, ?_, rfl, ?_, ?_⟩)
          · rw [show P' ++ (X1 ++ X2) ++ Y ++ S' = P' ++ X1 ++ X2 ++ Y ++ S' by simp]
            refine swapRange_eq P' X1 X2 Y S' p om _ _ _ ?_ ?_ ?_ ?_
            · rw [w64_r] <;> simp only [room] at * <;> omega
            · simp only [List.length_append]; omega
            · omega
            · simp only [List.length_append]; omega
          · simp only [List.length_append]; omega
          · show w64 _ = _
            rw [w64_r] <;> simp only [room] at * <;> omega
          · show (Y.length : Int) = _
            omega
          · rw [← h5]; simp
          · omega
        · simp only [decide_eq_false_iff_not] at hc2
          have hs := List.take_append_drop (Y.length - X.length) Y
          have l1 : (Y.take (Y.length - X.length)).length = Y.length - X.length := by rw [List.length_take]; omega
          have l2 : (Y.drop (Y.length - X.length)).length = X.length := by rw [List.length_drop]; omega
          generalize Y.take (Y.length - X.length) = Y1 at *
          generalize Y.drop (Y.length - X.length) = Y2 at *
          subst hs
          simp only [List.length_append] at *
          refine yaq (x := P' ++ Y2 ++ Y1 ++ X ++ S') ?_ (yd ⟨P', Y2, Y1, X ++ S', by omega, by omega, ?_, ?_, ?_, ?_, ?_, ?_⟩)
          · rw [show P' ++ X ++ (Y1 ++ Y2) ++ S' = P' ++ X ++ Y1 ++ Y2 ++ S' by simp]
            have e1 : w64 (m + ((Y1.length + Y2.length : Nat) : Int)) = m + ((Y1.length + Y2.length : Nat) : Int) := by rw [w64_r] <;> simp only [room] at * <;> omega
            refine swapRange_eq P' X Y1 Y2 S' p om _ _ _ ?_ ?_ ?_ ?_
            · rw [w64_r] <;> simp only [room] at * <;> omega
            · rw [e1, w64_r] <;> simp only [List.length_append, room] at * <;> omega
            · rfl
            · simp only [List.length_append]; omega
          · first | (simp only [List.length_append]; omega) | omega
          · show (X.length : Int) = _
            omega
          · show w64 _ = _
            rw [w64_r] <;> simp only [room] at * <;> omega
          · show P' ++ Y2 ++ Y1 ++ X ++ S' = P' ++ Y2 ++ Y1 ++ (X ++ S')
            simp only [List.append_assoc]
          · rw [← h5]; simp only [List.append_assoc]
          · omega
      · rintro ⟨i', j', d'⟩ ⟨P'', X', Y', S'', k1, k2, k3, k4, k5, k6, k7, k8⟩
        refine yd ⟨⟨P'', X', Y', S'', k1, k2, k3, k4, k5, k6, k7⟩, ?_⟩
        simp only at k4 k5 ⊢
        omega
    · have : X.length = Y.length := by
        have := (bne_eq_false_iff_eq).1 hc
        omega
      exact yd ⟨P', X, Y, S', hx, this, by simpa using h1, rfl, rfl, h5⟩
  · refine ⟨P, A, B, S, hlp, hlb, hm, ?_, ?_, rfl, rfl⟩
    · show w64 _ = _
      subst ha hm
      rw [w64_r] <;> simp only [List.length_append, room] at * <;> omega
    · show w64 _ = _
      subst hm hb
      rw [w64_r] <;> simp only [List.length_append, room] at * <;> omega
  · rintro ⟨i, d⟩ ⟨P', X, Y, S', h0, h1, h2, h3, h4, h5⟩
    simp only at h3 h4
    subst h3 h4
    have hL : P'.length + Y.length + X.length + S'.length = P.length + B.length + A.length + S.length := by have := congrArg List.length h5; simp at this; omega
    refine yaq (x := P ++ B ++ A ++ S) ?_ (yd rfl)
    rw [← h5]
    simp only [List.length_append] at *
    have := swapRange_eq P' X [] Y S' p h1 (w64 (m - X.length)) m X.length ?_ ?_ rfl ?_
    · simpa using this
    · rw [w64_r] <;> simp only [room] at * <;> omega
    · simp; omega
    · simp only [List.length_append, List.length_nil]; omega
structure Ord (lt : N → N → Bool) : Prop where
  asymm : ∀ {x y}, lt x y = true → lt y x = false
  trans : ∀ {x y z}, lt y x = false → lt z y = false → lt z x = false
abbrev Srt (lt : N → N → Bool) (l : List N) : Prop := l.Pairwise (fun x y => lt y x = false)
abbrev Less (p : N → N → Option Int) (lt : N → N → Bool) : Prop := ∀ x y, ∃ v, p x y = some v ∧ decide (v < 0) = lt x y
theorem Srt.put {lt : N → N → Bool} (o : Ord lt) {L R : List N} {x : N} (h : Srt lt (L ++ R)) (h1 : ∀ y ∈ L.getLast?, lt x y = false) (h2 : ∀ y ∈ R, lt x y = true) : Srt lt (L ++ x :: R) := by
  rw [Srt, List.pairwise_append] at h ⊢
  obtain ⟨hL, hR, hLR⟩ := h
  refine ⟨hL, List.pairwise_cons.2 ⟨fun y hy => o.asymm (h2 y hy), hR⟩, fun a ha y hy => ?_⟩
  rcases List.mem_cons.1 hy with rfl | hy
  · rcases List.eq_nil_or_concat L with rfl | ⟨L', z, rfl⟩
    · cases ha
    · have hz := h1 z (by simp)
      rw [List.concat_eq_append, List.mem_append, List.mem_singleton] at ha
      rcases ha with ha | rfl
      · rw [List.concat_eq_append, List.pairwise_append] at hL
        exact o.trans (hL.2.2 a ha z (by simp)) hz
      · exact hz
  · exact hLR a ha y hy
theorem insertion_ret {p : N → N → Option Int} {lt : N → N → Bool} (o : Ord lt) (hp : Less p lt) (P A S : List N) (a b : Int) (ha : a = (P.length : Int)) (hb : b = ((P ++ A).length : Int)) (hlen : ((P ++ A ++ S).length : Int) ≤ room) :
    Ret (slices_insertionSortCmpFunc_registrar_qN (P ++ A ++ S) a b p) (fun r => ∃ C, r = P ++ C ++ S ∧ C.Perm A ∧ Srt lt C) := by
  subst ha
  unfold slices_insertionSortCmpFunc_registrar_qN
  simp only [List.length_append] at hb hlen
  cases A with
  | nil =>
    refine yaq (x := P ++ [] ++ S) (loopO_stop ?_) (yd ⟨[], rfl, List.Perm.refl _, List.Pairwise.nil⟩)
    simp only
    rw [show decide (w64 ((P.length : Int) + 1) < b) = false from ?_]
    · rfl
    · rw [w64_r] <;> simp [room] at * <;> omega
  | cons x0 A0 =>
    simp only [List.length_cons] at hb hlen
    refine yg (loopO_rb (Q := fun (r : List N) => ∃ C, r = P ++ C ++ S ∧ C.Perm (x0 :: A0) ∧ Srt lt C) (I := fun (s : Int × List N) => ∃ C R, s.1 = ((P ++ C).length : Int) ∧ s.2 = P ++ C ++ R ++ S ∧ (C ++ R).Perm (x0 :: A0) ∧ Srt lt C)
      (μ := fun s => (b - s.1).toNat) ?_ ?_) ?_
    · rintro ⟨i, d⟩ ⟨C, R, h1, h2, h3, h4⟩
      simp only at h1 h2
      subst h1 h2
      have hl := h3.length_eq
      simp only [List.length_append, List.length_cons] at hl hb hlen
      refine yk (fun hc => ?_) (fun hc => ?_)
      · simp only [decide_eq_true_eq, List.length_append] at hc
        cases R with
        | nil => simp at hl; omega
        | cons x R =>
          simp only [List.length_cons] at hl
          refine yg (loopO_rb (Q := fun (r : List N) => ∃ C', r = P ++ C' ++ R ++ S ∧ C'.Perm (C ++ [x]) ∧ Srt lt C') (I := fun (s : Int × List N) => ∃ L T, s.1 = ((P ++ L).length : Int) ∧ s.2 = P ++ L ++ x :: (T ++ R ++ S) ∧ L ++ T = C ∧ ∀ y ∈ T, lt x y = true)
            (μ := fun s => s.1.toNat) ?_ ?_) ?_
          · rintro ⟨j, d⟩ ⟨L, T, k1, k2, rfl, k4⟩
            simp only at k1 k2
            subst k1 k2
            simp only [List.length_append] at *
            have hstop : (∀ y ∈ L.getLast?, lt x y = false) → ∃ C', P ++ L ++ x :: (T ++ R ++ S) = P ++ C' ++ R ++ S ∧ C'.Perm (L ++ T ++ [x]) ∧ Srt lt C' := by
              intro hy
              refine ⟨L ++ x :: T, by simp, ?_, h4.put o hy k4⟩
              rw [List.append_assoc]
              exact List.perm_append_left_iff L |>.2 (List.perm_append_singleton x T).symm
            by_cases hL : L = []
            · subst hL
              refine yaq (x := false) ?_ (yk (fun h => by cases h) (fun _ => yd (hstop (by simp))))
              rw [show decide (((P.length + ([] : List N).length : Nat) : Int) > (P.length : Int)) = false by simp]
              rfl
            · rcases List.eq_nil_or_concat L with rfl | ⟨L', y, rfl⟩
              · exact absurd rfl hL
              rw [List.concat_eq_append] at *
              have ej : w64 (((P.length + (L' ++ [y]).length : Nat) : Int) - 1) = ((P ++ L').length : Int) := by
                simp only [List.length_append, List.length_cons, List.length_nil] at *
                rw [w64_r] <;> simp only [room] at * <;> omega
              have d1 : P ++ (L' ++ [y]) ++ x :: (T ++ R ++ S) = (P ++ L') ++ y :: x :: (T ++ R ++ S) := by simp
              have d2 : P ++ (L' ++ [y]) ++ x :: (T ++ R ++ S) = (P ++ L' ++ [y]) ++ x :: (T ++ R ++ S) := by simp
              have i1 : idx (P ++ (L' ++ [y]) ++ x :: (T ++ R ++ S)) (((P.length + (L' ++ [y]).length : Nat) : Int)) = some x := idx_mid (by simp)
              have i2 : idx (P ++ (L' ++ [y]) ++ x :: (T ++ R ++ S)) ((P ++ L').length : Int) = some y := by rw [d1]; exact idx_mid rfl
              obtain ⟨v, hv1, hv2⟩ := hp x y
              rw [show decide (((P.length + (L' ++ [y]).length : Nat) : Int) > (P.length : Int)) = true by simp; omega]
              rw [ej]
              refine yaq (x := lt x y) (by simp only [cond_true, i1, i2, obs, hv1, hv2]) (yk (fun hl => ?_) (fun hl => ?_))
              · refine yaq i2 (yaq i1 (yaq i1 ?_))
                have s1 : (P ++ (L' ++ [y]) ++ x :: (T ++ R ++ S)).set (((P.length + (L' ++ [y]).length : Nat) : Int)).toNat y = (P ++ L') ++ y :: y :: (T ++ R ++ S) := by
                  rw [set_mid (by simp)]; simp
                show RB True (Option.bind (idx ((P ++ (L' ++ [y]) ++ x :: (T ++ R ++ S)).set (((P.length + (L' ++ [y]).length : Nat) : Int)).toNat y) _) _) _
                rw [s1]
                refine yaq (x := y) (idx_mid rfl) (yd ⟨⟨L', y :: T, by simp, ?_, by simp, ?_⟩, ?_⟩)
                · show ((P ++ L') ++ y :: y :: (T ++ R ++ S)).set _ x = _
                  rw [set_mid rfl]
                  simp
                · intro z hz
                  rcases List.mem_cons.1 hz with rfl | hz
                  · exact hl
                  · exact k4 z hz
                · simp only [List.length_append, List.length_cons, List.length_nil]; omega
              · exact yd (hstop (by simpa using hl))
          · exact ⟨C, [], rfl, by simp, by simp, by simp⟩
          · rintro d ⟨C', rfl, k1, k2⟩
            have hl' := k1.length_eq
            simp only [List.length_append, List.length_cons, List.length_nil] at hl'
            refine yd ⟨⟨C', R, ?_, rfl, ?_, k2⟩, ?_⟩
            · show w64 _ = _
              simp only [List.length_append] at *
              rw [w64_r] <;> simp only [room] at * <;> omega
            · refine List.Perm.trans ?_ h3
              rw [show C ++ x :: R = (C ++ [x]) ++ R by simp]
              exact List.Perm.append_right R k1
            · show (b - w64 _).toNat < _
              simp only [List.length_append] at *
              rw [w64_r] <;> simp only [room] at * <;> omega
      · simp only [decide_eq_false_iff_not, List.length_append] at hc
        have : R = [] := List.eq_nil_of_length_eq_zero om
        subst this
        exact yd ⟨C, by simp, by simpa using h3, h4⟩
    · refine ⟨[x0], A0, ?_, by simp, by simp, by simp [Srt]⟩
      show w64 _ = _
      simp only [List.length_append, List.length_cons, List.length_nil]
      rw [w64_r] <;> simp only [room] at * <;> omega
    · rintro r ⟨C, rfl, h1, h2⟩
      exact yd ⟨C, rfl, h1, h2⟩
theorem half {x : Int} (h0 : 0 ≤ x) (h1 : x ≤ room * 4) : w64 (Int.fdiv (IntKind.wrap .u64 (w64 x)) (2 ^ 1)) = x / 2 := by
  have e : IntKind.wrap .u64 (w64 x) = x := by
    rw [w64_r (by unfold room at *; omega) h1]
    simp only [IntKind.wrap, IntKind.signed, IntKind.bits, room] at *
    simp
    omega
  rw [e]
  have e2 : Int.fdiv x (2 ^ 1) = x / 2 := by
    show Int.fdiv x 2 = x / 2
    rw [Int.fdiv_eq_ediv_of_nonneg _ (by decide)]
  rw [e2, w64_r] <;> unfold room at * <;> omega
theorem one_left {p : N → N → Option Int} {lt : N → N → Bool} (o : Ord lt) {P B1 B2 S : List N} {x : N} (a i : Int) (ha : a = (P.length : Int)) (hi : i = ((P ++ [x] ++ B1).length : Int)) (hlen : ((P ++ [x] ++ B1 ++ B2 ++ S).length : Int) ≤ room) :
    (loopO (fun (s : Int × (List qN)) => match s with | (s33, s34) => (bif (decide (s33 < (w64 (i - 1)))) then (idx s34 (w64 (s33 + 1))).bind (fun (x41 : qN) => (idx s34 s33).bind (fun (x42 : qN) => (idx s34 s33).bind (fun (x43 : qN) => (idx (s34.set (s33).toNat (⟨x41.Path, x41.Mode⟩ : qN)) (w64 (s33 + 1))).bind (fun (x48 : qN) => some (.inl ((w64 (s33 + 1)), ((s34.set (s33).toNat (⟨x41.Path, x41.Mode⟩ : qN)).set ((w64 (s33 + 1))).toNat (⟨x42.Path, x42.Mode⟩ : qN)))))))) else some (.inr s34))) (a, P ++ [x] ++ B1 ++ B2 ++ S)) = some (P ++ B1 ++ x :: B2 ++ S) := by
  subst ha hi
  simp only [List.length_append, List.length_cons, List.length_nil] at hlen
  refine Ret.eq (loopO_rb (Q := fun (r : List N) => r = P ++ B1 ++ x :: B2 ++ S) (I := fun (s : Int × List N) => ∃ M1 M2, B1 = M1 ++ M2 ∧ s.1 = ((P ++ M1).length : Int) ∧ s.2 = (P ++ M1) ++ x :: (M2 ++ B2 ++ S)) (μ := fun s => (P.length + B1.length) - s.1.toNat) ?_ ?_)
  · rintro ⟨k, d⟩ ⟨M1, M2, rfl, h1, h2⟩
    simp only at h1 h2
    subst h1 h2
    simp only [List.length_append] at hlen
    have e0 : w64 (((P ++ [x] ++ (M1 ++ M2)).length : Int) - 1) = ((P.length + (M1.length + M2.length) : Nat) : Int) := by
      simp only [List.length_append, List.length_cons, List.length_nil]
      rw [w64_r] <;> simp only [room] at * <;> omega
    rw [e0]
    refine yk (fun hc => ?_) (fun hc => ?_)
    · simp only [decide_eq_true_eq, List.length_append] at hc
      cases M2 with
      | nil => simp at hc
      | cons y M2 =>
        simp only [List.length_cons] at hlen hc
        have e1 : w64 (((P ++ M1).length : Int) + 1) = ((P ++ M1 ++ [x]).length : Int) := by
          simp only [List.length_append, List.length_cons, List.length_nil]
          rw [w64_r] <;> simp only [room] at * <;> omega
        rw [e1]
        have d1 : (P ++ M1) ++ x :: (y :: M2 ++ B2 ++ S) = (P ++ M1 ++ [x]) ++ y :: (M2 ++ B2 ++ S) := by simp
        refine yaq (x := y) (by rw [d1]; exact idx_mid rfl) (yaq (x := x) (idx_mid rfl) (yaq (x := x) (idx_mid rfl) ?_))
        have s1 : ((P ++ M1) ++ x :: (y :: M2 ++ B2 ++ S)).set ((P ++ M1).length : Int).toNat y = (P ++ M1 ++ [y]) ++ y :: (M2 ++ B2 ++ S) := by
          rw [set_mid rfl]; simp
        show RB True (Option.bind (idx (((P ++ M1) ++ x :: (y :: M2 ++ B2 ++ S)).set ((P ++ M1).length : Int).toNat y) _) _) _
        rw [s1]
        refine yaq (x := y) (idx_mid (by simp)) (yd ⟨⟨M1 ++ [y], M2, by simp, ?_, ?_⟩, ?_⟩)
        · simp
        · show ((P ++ M1 ++ [y]) ++ y :: (M2 ++ B2 ++ S)).set _ x = _
          rw [set_mid (by simp)]
          simp
        · simp only [List.length_append, List.length_cons, List.length_nil]; omega
    · simp only [decide_eq_false_iff_not, List.length_append] at hc
      have : M2 = [] := List.eq_nil_of_length_eq_zero om
      subst this
      exact yd (by simp)
  · exact ⟨[], B1, rfl, by simp, by simp⟩
theorem one_right {p : N → N → Option Int} {lt : N → N → Bool} (o : Ord lt) {P A1 A2 S : List N} {y : N} (m i : Int) (hm : m = ((P ++ A1 ++ A2).length : Int)) (hi : i = ((P ++ A1).length : Int)) (hlen : ((P ++ A1 ++ A2 ++ [y] ++ S).length : Int) ≤ room) :
    (loopO (fun (s : Int × (List qN)) => match s with | (s112, s113) => (bif (decide (s112 > i)) then (idx s113 (w64 (s112 - 1))).bind (fun (x120 : qN) => (idx s113 s112).bind (fun (x121 : qN) => (idx s113 s112).bind (fun (x122 : qN) => (idx (s113.set (s112).toNat (⟨x120.Path, x120.Mode⟩ : qN)) (w64 (s112 - 1))).bind (fun (x127 : qN) => some (.inl ((w64 (s112 - 1)), ((s113.set (s112).toNat (⟨x120.Path, x120.Mode⟩ : qN)).set ((w64 (s112 - 1))).toNat (⟨x121.Path, x121.Mode⟩ : qN)))))))) else some (.inr s113))) (m, P ++ A1 ++ A2 ++ [y] ++ S)) = some (P ++ A1 ++ y :: A2 ++ S) := by
  subst hm hi
  simp only [List.length_append, List.length_cons, List.length_nil] at hlen
  refine Ret.eq (loopO_rb (Q := fun (r : List N) => r = P ++ A1 ++ y :: A2 ++ S) (I := fun (s : Int × List N) => ∃ M1 M2, A2 = M1 ++ M2 ∧ s.1 = ((P ++ A1 ++ M1).length : Int) ∧ s.2 = (P ++ A1 ++ M1) ++ y :: (M2 ++ S)) (μ := fun s => s.1.toNat) ?_ ?_)
  · rintro ⟨k, d⟩ ⟨M1, M2, rfl, h1, h2⟩
    simp only at h1 h2
    subst h1 h2
    simp only [List.length_append] at hlen
    rcases List.eq_nil_or_concat M1 with rfl | ⟨L, z, rfl⟩
    · refine yk (fun hc => ?_) (fun hc => yd (by simp))
      simp at hc
    · rw [List.concat_eq_append] at *
      simp only [List.length_append, List.length_cons, List.length_nil] at hlen
      refine yk (fun hc => ?_) (fun hc => ?_)
      · have e1 : w64 (((P ++ A1 ++ (L ++ [z])).length : Int) - 1) = ((P ++ A1 ++ L).length : Int) := by
          simp only [List.length_append, List.length_cons, List.length_nil]
          rw [w64_r] <;> simp only [room] at * <;> omega
        rw [e1]
        have d1 : (P ++ A1 ++ (L ++ [z])) ++ y :: (M2 ++ S) = (P ++ A1 ++ L) ++ z :: y :: (M2 ++ S) := by simp
        refine yaq (x := z) (by rw [d1]; exact idx_mid rfl) (yaq (x := y) (idx_mid rfl) (yaq (x := y) (idx_mid rfl) ?_))
        have s1 : ((P ++ A1 ++ (L ++ [z])) ++ y :: (M2 ++ S)).set ((P ++ A1 ++ (L ++ [z])).length : Int).toNat z = (P ++ A1 ++ L) ++ z :: z :: (M2 ++ S) := by
          rw [set_mid rfl]; simp
        show RB True (Option.bind (idx (((P ++ A1 ++ (L ++ [z])) ++ y :: (M2 ++ S)).set ((P ++ A1 ++ (L ++ [z])).length : Int).toNat z) _) _) _
        rw [s1]
        refine yaq (x := z) (idx_mid rfl) (yd ⟨⟨L, z :: M2, by simp, rfl, ?_⟩, ?_⟩)
        · show ((P ++ A1 ++ L) ++ z :: z :: (M2 ++ S)).set _ y = _
          rw [set_mid rfl]
          simp
        · simp only [List.length_append, List.length_cons, List.length_nil]; omega
      · simp at hc
        omega
  · exact ⟨A2, [], by simp, rfl, by simp⟩
theorem Less.val {β : Type} {p : N → N → Option Int} {lt : N → N → Bool} (hp : Less p lt) {x y : N} {f : Int → Option β} {Q : β → Prop} {b : Prop} (h : ∀ v, decide (v < 0) = lt x y → RB b (f v) Q) : RB b ((p x y).bind f) Q := by
  obtain ⟨v, h1, h2⟩ := hp x y
  exact yaq h1 (h v h2)
theorem take_mid {P B1 Bm B2 S : List N} {k : Nat} (h1 : (P ++ B1).length ≤ k) (h2 : k < (P ++ B1 ++ Bm).length) : ∃ C y D, Bm = C ++ y :: D ∧ k = (P ++ B1 ++ C).length := by
  simp only [List.length_append] at h1 h2
  have hlt : k - (P.length + B1.length) < Bm.length := by omega
  refine ⟨Bm.take (k - (P.length + B1.length)), Bm[k - (P.length + B1.length)], Bm.drop (k - (P.length + B1.length) + 1), ?_, ?_⟩
  · rw [List.getElem_cons_drop, List.take_append_drop]
  · simp only [List.length_append, List.length_take]; omega
theorem srt_all {lt : N → N → Bool} (o : Ord lt) {C D : List N} {y : N} (h : Srt lt (C ++ y :: D)) : (∀ z ∈ C, lt y z = false) ∧ (∀ z ∈ D, lt z y = false) := by
  rw [Srt, List.pairwise_append, List.pairwise_cons] at h
  exact ⟨fun z hz => h.2.2 z hz y (by simp), h.2.1.1⟩
theorem find_left {p : N → N → Option Int} {lt : N → N → Bool} (o : Ord lt) (hp : Less p lt) {P B S : List N} {x : N} (hB : Srt lt B) (a m e : Int) (ha : a = (P.length : Int)) (hm : m = ((P ++ [x]).length : Int)) (he : e = ((P ++ [x] ++ B).length : Int)) (hlen : ((P ++ [x] ++ B ++ S).length : Int) ≤ room) :
    Ret (loopO (fun (s : Int × Int) => match s with | (s4, s5) => (bif (decide (s4 < s5)) then (idx (P ++ [x] ++ B ++ S) (w64 (Int.fdiv (IntKind.wrap .u64 (w64 (s4 + s5))) (2 ^ 1)))).bind (fun (x12 : qN) => (idx (P ++ [x] ++ B ++ S) a).bind (fun (x13 : qN) => (p x12 x13).bind (fun (r19 : Int) => ((bif (decide (r19 < 0)) then some ((w64 ((w64 (Int.fdiv (IntKind.wrap .u64 (w64 (s4 + s5))) (2 ^ 1))) + 1)), s5) else some (s4, (w64 (Int.fdiv (IntKind.wrap .u64 (w64 (s4 + s5))) (2 ^ 1)))))).bind (fun ((s24, s25) : Int × Int) => some (.inl (s24, s25)))))) else some (.inr s4))) (m, e))
      (fun (i : Int) => ∃ B1 B2, B = B1 ++ B2 ∧ i = ((P ++ [x] ++ B1).length : Int) ∧ (∀ z ∈ B1, lt z x = true) ∧ (∀ z ∈ B2, lt z x = false)) := by
  subst ha hm he
  simp only [List.length_append, List.length_cons, List.length_nil] at hlen
  refine loopO_rb (I := fun (s : Int × Int) => ∃ B1 Bm B2, B = B1 ++ Bm ++ B2 ∧ s.1 = ((P ++ [x] ++ B1).length : Int) ∧ s.2 = ((P ++ [x] ++ B1 ++ Bm).length : Int) ∧ (∀ z ∈ B1, lt z x = true) ∧ (∀ z ∈ B2, lt z x = false)) (μ := fun s => (s.2 - s.1).toNat) ?_ ⟨[], B, [], by simp, by simp, by simp, by simp, by simp⟩
  rintro ⟨i, j⟩ ⟨B1, Bm, B2, rfl, h1, h2, h3, h4⟩
  simp only at h1 h2
  subst h1 h2
  simp only [List.length_append] at hlen
  refine yk (fun hc => ?_) (fun hc => ?_)
  · simp only [decide_eq_true_eq, List.length_append] at hc
    have eh := half (x := (((P ++ [x] ++ B1).length : Int) + ((P ++ [x] ++ B1 ++ Bm).length : Int))) om (by simp only [List.length_append, List.length_cons, List.length_nil, room] at *; omega)
    rw [eh]
    have hh : ((((P ++ [x] ++ B1).length : Int) + ((P ++ [x] ++ B1 ++ Bm).length : Int)) / 2) = ((((P ++ [x] ++ B1).length + (P ++ [x] ++ B1 ++ Bm).length) / 2 : Nat) : Int) := by omega
    rw [hh]
    obtain ⟨C, y, D, rfl, hk⟩ := take_mid (P := P ++ [x]) (B1 := B1) (Bm := Bm) (B2 := B2) (S := S) (k := (((P ++ [x] ++ B1).length + (P ++ [x] ++ B1 ++ Bm).length) / 2)) (by simp only [List.length_append]; omega) (by simp only [List.length_append] at *; omega)
    rw [hk]
    have hs : Srt lt (C ++ y :: D) := by
      rw [Srt, List.pairwise_append, List.pairwise_append] at hB
      exact hB.1.2.1
    have hs2 := srt_all o (C := B1 ++ C) (y := y) (D := D ++ B2) (by simpa using hB)
    have d1 : P ++ [x] ++ (B1 ++ (C ++ y :: D) ++ B2) ++ S = (P ++ [x] ++ B1 ++ C) ++ y :: (D ++ B2 ++ S) := by simp
    have d2 : P ++ [x] ++ (B1 ++ (C ++ y :: D) ++ B2) ++ S = P ++ x :: (B1 ++ (C ++ y :: D) ++ B2 ++ S) := by simp
    refine yaq (x := y) (by rw [d1]; exact idx_mid rfl) (yaq (x := x) (by rw [d2]; exact idx_mid rfl) (hp.val fun v hv => ?_))
    rw [hv]
    simp only [List.length_append, List.length_cons, List.length_nil] at *
    cases hl : lt y x with
    | true =>
      refine yd ⟨⟨B1 ++ C ++ [y], D, B2, by simp, ?_, ?_, ?_, h4⟩, ?_⟩
      · show w64 _ = _
        simp only [List.length_append, List.length_cons, List.length_nil]
        rw [w64_r] <;> simp only [room] at * <;> omega
      · simp only [List.length_append, List.length_cons, List.length_nil]; omega
      · intro z hz
        simp only [List.mem_append, List.mem_singleton] at hz
        rcases hz with (hz | hz) | rfl
        · exact h3 z hz
        · cases hq : lt z x with
          | true => rfl
          | false =>
            have := o.trans hq (hs2.1 z (by simp [hz]))
            rw [hl] at this; cases this
        · exact hl
      · show (_ - w64 _).toNat < _
        rw [w64_r] <;> simp only [room] at * <;> omega
    | false =>
      refine yd ⟨⟨B1, C, y :: D ++ B2, by simp, ?_, ?_, h3, ?_⟩, ?_⟩
      · simp only [List.length_append, List.length_cons, List.length_nil]
      · simp only [List.length_append, List.length_cons, List.length_nil]
      · intro z hz
        simp only [List.cons_append, List.mem_cons, List.mem_append] at hz
        rcases hz with rfl | hz | hz
        · exact hl
        · exact o.trans hl (hs2.2 z (by simp [hz]))
        · exact h4 z hz
      · simp only
        omega
  · simp only [decide_eq_false_iff_not, List.length_append] at hc
    have : Bm = [] := List.eq_nil_of_length_eq_zero om
    subst this
    exact yd ⟨B1, B2, by simp, rfl, h3, h4⟩
theorem find_right {p : N → N → Option Int} {lt : N → N → Bool} (o : Ord lt) (hp : Less p lt) {P A S : List N} {y : N} (hA : Srt lt A) (a m : Int) (ha : a = (P.length : Int)) (hm : m = ((P ++ A).length : Int)) (hlen : ((P ++ A ++ [y] ++ S).length : Int) ≤ room) :
    Ret (loopO (fun (s : Int × Int) => match s with | (s83, s84) => (bif (decide (s83 < s84)) then (idx (P ++ A ++ [y] ++ S) m).bind (fun (x91 : qN) => (idx (P ++ A ++ [y] ++ S) (w64 (Int.fdiv (IntKind.wrap .u64 (w64 (s83 + s84))) (2 ^ 1)))).bind (fun (x92 : qN) => (p x91 x92).bind (fun (r98 : Int) => ((bif (!(decide (r98 < 0))) then some ((w64 ((w64 (Int.fdiv (IntKind.wrap .u64 (w64 (s83 + s84))) (2 ^ 1))) + 1)), s84) else some (s83, (w64 (Int.fdiv (IntKind.wrap .u64 (w64 (s83 + s84))) (2 ^ 1)))))).bind (fun ((s103, s104) : Int × Int) => some (.inl (s103, s104)))))) else some (.inr s83))) (a, m))
      (fun (i : Int) => ∃ A1 A2, A = A1 ++ A2 ∧ i = ((P ++ A1).length : Int) ∧ (∀ z ∈ A1, lt y z = false) ∧ (∀ z ∈ A2, lt y z = true)) := by
  subst ha hm
  simp only [List.length_append, List.length_cons, List.length_nil] at hlen
  refine loopO_rb (I := fun (s : Int × Int) => ∃ B1 Bm B2, A = B1 ++ Bm ++ B2 ∧ s.1 = ((P ++ B1).length : Int) ∧ s.2 = ((P ++ B1 ++ Bm).length : Int) ∧ (∀ z ∈ B1, lt y z = false) ∧ (∀ z ∈ B2, lt y z = true)) (μ := fun s => (s.2 - s.1).toNat) ?_ ⟨[], A, [], by simp, by simp, by simp, by simp, by simp⟩
  rintro ⟨i, j⟩ ⟨B1, Bm, B2, rfl, h1, h2, h3, h4⟩
  simp only at h1 h2
  subst h1 h2
  simp only [List.length_append] at hlen
  refine yk (fun hc => ?_) (fun hc => ?_)
  · simp only [decide_eq_true_eq, List.length_append] at hc
    have eh := half (x := (((P ++ B1).length : Int) + ((P ++ B1 ++ Bm).length : Int))) om (by simp only [List.length_append, List.length_cons, List.length_nil, room] at *; omega)
    rw [eh]
    have hh : ((((P ++ B1).length : Int) + ((P ++ B1 ++ Bm).length : Int)) / 2) = ((((P ++ B1).length + (P ++ B1 ++ Bm).length) / 2 : Nat) : Int) := by omega
    rw [hh]
    obtain ⟨C, x, D, rfl, hk⟩ := take_mid (P := P) (B1 := B1) (Bm := Bm) (B2 := B2) (S := S) (k := (((P ++ B1).length + (P ++ B1 ++ Bm).length) / 2)) (by simp only [List.length_append]; omega) (by simp only [List.length_append] at *; omega)
    rw [hk]
    have hs2 := srt_all o (C := B1 ++ C) (y := x) (D := D ++ B2) (by simpa using hA)
    have d1 : P ++ (B1 ++ (C ++ x :: D) ++ B2) ++ [y] ++ S = (P ++ B1 ++ C) ++ x :: (D ++ B2 ++ [y] ++ S) := by simp
    have d2 : P ++ (B1 ++ (C ++ x :: D) ++ B2) ++ [y] ++ S = (P ++ (B1 ++ (C ++ x :: D) ++ B2)) ++ y :: S := by simp
    refine yaq (x := y) (by rw [d2]; exact idx_mid rfl) (yaq (x := x) (by rw [d1]; exact idx_mid rfl) (hp.val fun v hv => ?_))
    rw [hv]
    simp only [List.length_append, List.length_cons, List.length_nil] at *
    cases hl : lt y x with
    | false =>
      refine yd ⟨⟨B1 ++ C ++ [x], D, B2, by simp, ?_, ?_, ?_, h4⟩, ?_⟩
      · show w64 _ = _
        simp only [List.length_append, List.length_cons, List.length_nil]
        rw [w64_r] <;> simp only [room] at * <;> omega
      · simp only [List.length_append, List.length_cons, List.length_nil]; omega
      · intro z hz
        simp only [List.mem_append, List.mem_singleton] at hz
        rcases hz with (hz | hz) | rfl
        · exact h3 z hz
        · exact o.trans (hs2.1 z (by simp [hz])) hl
        · exact hl
      · show (_ - w64 _).toNat < _
        rw [w64_r] <;> simp only [room] at * <;> omega
    | true =>
      refine yd ⟨⟨B1, C, x :: D ++ B2, by simp, ?_, ?_, h3, ?_⟩, ?_⟩
      · simp only [List.length_append, List.length_cons, List.length_nil]
      · simp only [List.length_append, List.length_cons, List.length_nil]
      · intro z hz
        simp only [List.cons_append, List.mem_cons, List.mem_append] at hz
        rcases hz with rfl | hz | hz
        · exact hl
        · cases hq : lt y z with
          | true => rfl
          | false =>
            have := o.trans (hs2.2 z (by simp [hz])) hq
            rw [hl] at this; cases this
        · exact h4 z hz
      · simp only
        omega
  · simp only [decide_eq_false_iff_not, List.length_append] at hc
    have : Bm = [] := List.eq_nil_of_length_eq_zero om
    subst this
    exact yd ⟨B1, B2, by simp, rfl, h3, h4⟩
theorem split_at {A : List N} {u : Nat} (h : u ≤ A.length) : ∃ A1 A2, A = A1 ++ A2 ∧ A1.length = u := ⟨A.take u, A.drop u, (List.take_append_drop _ _).symm, by rw [List.length_take]; omega⟩
theorem last_of {A : List N} (h : A ≠ []) : ∃ L z, A = L ++ [z] := by
  rcases List.eq_nil_or_concat A with rfl | ⟨L, z, rfl⟩
  · exact absurd rfl h
  · exact ⟨L, z, List.concat_eq_append⟩
theorem find_cut {p : N → N → Option Int} {lt : N → N → Bool} (o : Ord lt) (hp : Less p lt) {P A B S : List N} (hA : Srt lt A) (hB : Srt lt B) (a m e mid : Nat) (ha : a = P.length) (hm : m = (P ++ A).length) (he : e = (P ++ A ++ B).length) (hmid : mid = (a + e) / 2)
    (hlen : ((P ++ A ++ B ++ S).length : Int) ≤ room) (hA0 : A ≠ []) (hB0 : B ≠ []) (s0 r0 : Int) (h0 : (s0, r0) = if mid < m then (((mid + m : Nat) : Int) - e, (mid : Int)) else ((a : Int), (m : Int))) (pp : Int) (hpp : pp = ((mid + m : Nat) : Int) - 1) :
    Ret (loopO (fun (s : Int × Int) => match s with | (s170, s171) => (bif (decide (s170 < s171)) then (idx (P ++ A ++ B ++ S) (w64 (pp - (w64 (Int.fdiv (IntKind.wrap .u64 (w64 (s170 + s171))) (2 ^ 1)))))).bind (fun (x178 : qN) => (idx (P ++ A ++ B ++ S) (w64 (Int.fdiv (IntKind.wrap .u64 (w64 (s170 + s171))) (2 ^ 1)))).bind (fun (x179 : qN) => (p x178 x179).bind (fun (r185 : Int) => ((bif (!(decide (r185 < 0))) then some ((w64 ((w64 (Int.fdiv (IntKind.wrap .u64 (w64 (s170 + s171))) (2 ^ 1))) + 1)), s171) else some (s170, (w64 (Int.fdiv (IntKind.wrap .u64 (w64 (s170 + s171))) (2 ^ 1)))))).bind (fun ((s190, s191) : Int × Int) => some (.inl (s190, s191)))))) else some (.inr s170))) (s0, r0))
      (fun (i : Int) => ∃ A1 A2 B1 B2, A = A1 ++ A2 ∧ B = B1 ++ B2 ∧ i = ((P ++ A1).length : Int) ∧ (P ++ A1).length + (P ++ A ++ B1).length = mid + m ∧ (∀ x ∈ A1 ++ B1, ∀ y ∈ A2 ++ B2, lt y x = false)) := by
  have hlA : 0 < A.length := List.length_pos_iff.2 hA0
  have hlB : 0 < B.length := List.length_pos_iff.2 hB0
  simp only [List.length_append] at hm he hlen
  refine (loopO_rb (Q := fun (i : Int) => ∃ u : Nat, i = (u : Int) ∧ a ≤ u ∧ u ≤ m ∧ u ≤ mid ∧ mid + m ≤ e + u ∧
      (u = a ∨ mid + m = e + u ∨ ∃ x y, (P ++ A ++ B ++ S)[u - 1]? = some x ∧ (P ++ A ++ B ++ S)[mid + m - u]? = some y ∧ lt y x = false) ∧
      (u = m ∨ u = mid ∨ ∃ x y, (P ++ A ++ B ++ S)[u]? = some x ∧ (P ++ A ++ B ++ S)[mid + m - 1 - u]? = some y ∧ lt y x = true))
    (I := fun (s : Int × Int) => ∃ u v : Nat, s.1 = (u : Int) ∧ s.2 = (v : Int) ∧ a ≤ u ∧ u ≤ v ∧ v ≤ m ∧ v ≤ mid ∧ mid + m ≤ e + u ∧
      (u = a ∨ mid + m = e + u ∨ ∃ x y, (P ++ A ++ B ++ S)[u - 1]? = some x ∧ (P ++ A ++ B ++ S)[mid + m - u]? = some y ∧ lt y x = false) ∧
      (v = m ∨ v = mid ∨ ∃ x y, (P ++ A ++ B ++ S)[v]? = some x ∧ (P ++ A ++ B ++ S)[mid + m - 1 - v]? = some y ∧ lt y x = true))
    (μ := fun s => (s.2 - s.1).toNat) ?_ ?_).mono ?_
  · rintro ⟨i, j⟩ ⟨u, v, h1, h2, h3, h4, h5, h6, h7, h8, h9⟩
    simp only at h1 h2
    subst h1 h2
    refine yk (fun hc => ?_) (fun hc => ?_)
    · simp only [decide_eq_true_eq] at hc
      rw [half (x := ((u : Int) + v)) om (by simp only [room] at *; omega), show ((u : Int) + v) / 2 = (((u + v) / 2 : Nat) : Int) by omega]
      rw [show w64 (pp - (((u + v) / 2 : Nat) : Int)) = ((mid + m - 1 - (u + v) / 2 : Nat) : Int) from (by
        subst hpp
        rw [w64_r] <;> simp only [room] at * <;> omega)]
      have l1 : mid + m - 1 - (u + v) / 2 < (P ++ A ++ B ++ S).length := by simp only [List.length_append]; omega
      have l2 : (u + v) / 2 < (P ++ A ++ B ++ S).length := by simp only [List.length_append]; omega
      refine yaq (idx_mem l1) (yaq (idx_mem l2) (hp.val fun w hw => ?_))
      rw [hw]
      have g1 := gE l1
      have g2 := gE l2
      generalize (P ++ A ++ B ++ S)[mid + m - 1 - (u + v) / 2] = y at *
      generalize (P ++ A ++ B ++ S)[(u + v) / 2] = x at *
      cases hl : lt y x with
      | false =>
        refine yd ⟨⟨(u + v) / 2 + 1, v, ?_, rfl, by omega, by omega, h5, h6, by omega, .inr (.inr ⟨x, y, by simpa using g2, ?_, hl⟩), h9⟩, ?_⟩
        · show w64 _ = _
          rw [w64_r] <;> simp only [room] at * <;> omega
        · rw [show mid + m - ((u + v) / 2 + 1) = mid + m - 1 - (u + v) / 2 by omega]
          exact g1
        · show ((v : Int) - w64 _).toNat < _
          rw [w64_r] <;> simp only [room] at * <;> omega
      | true =>
        refine yd ⟨⟨u, (u + v) / 2, rfl, rfl, h3, by omega, by omega, by omega, h7, h8, .inr (.inr ⟨x, y, g2, g1, hl⟩)⟩, ?_⟩
        simp only
        omega
    · simp only [decide_eq_false_iff_not] at hc
      have : u = v := by omega
      subst this
      exact yd ⟨u, rfl, h3, h5, h6, h7, h8, h9⟩
  · by_cases hc : mid < m
    · rw [if_pos hc] at h0
      simp only [Prod.mk.injEq] at h0
      refine ⟨mid + m - e, mid, ?_, ?_, ?_, ?_, ?_, ?_, ?_, ?_, ?_⟩
      · show s0 = _
        omega
      · exact h0.2
      all_goals omega
    · rw [if_neg hc] at h0
      simp only [Prod.mk.injEq] at h0
      refine ⟨a, m, h0.1, h0.2, ?_, ?_, ?_, ?_, ?_, ?_, ?_⟩
      all_goals omega
  · rintro i ⟨u, rfl, k1, k2, k3, k4, k5, k6⟩
    obtain ⟨A1, A2, rfl, e1⟩ := split_at (A := A) (u := u - a) om
    obtain ⟨B1, B2, rfl, e2⟩ := split_at (A := B) (u := mid + m - u - m) om
    simp only [List.length_append] at *
    refine ⟨A1, A2, B1, B2, rfl, rfl, by omega, by omega, ?_⟩
    have sA := hA
    have sB := hB
    rw [Srt, List.pairwise_append] at sA sB
    -- the first part's left, and the second's right
    have c1 : ∀ x ∈ A1, ∀ y ∈ B2, lt y x = false := by
      intro x hx y hy
      have n1 : A1 ≠ [] := List.ne_nil_of_mem hx
      cases B2 with
      | nil => cases hy
      | cons y0 B2 =>
        obtain ⟨L, z, rfl⟩ := last_of n1
        simp only [List.length_append, List.length_cons, List.length_nil] at *
        have k5' : ∃ x y, (P ++ (L ++ [z] ++ A2) ++ (B1 ++ y0 :: B2) ++ S)[u - 1]? = some x ∧ (P ++ (L ++ [z] ++ A2) ++ (B1 ++ y0 :: B2) ++ S)[mid + m - u]? = some y ∧ lt y x = false := by
          rcases k5 with h | h | h
          · omega
          · omega
          · exact h
        obtain ⟨x', y', q1, q2, q3⟩ := k5'
        have d1 : P ++ (L ++ [z] ++ A2) ++ (B1 ++ y0 :: B2) ++ S = (P ++ L) ++ z :: (A2 ++ (B1 ++ y0 :: B2) ++ S) := by simp
        have d2 : P ++ (L ++ [z] ++ A2) ++ (B1 ++ y0 :: B2) ++ S = (P ++ (L ++ [z] ++ A2) ++ B1) ++ y0 :: (B2 ++ S) := by simp
        rw [d1, get_at (by simp only [List.length_append]; omega)] at q1
        rw [d2, get_at (by simp only [List.length_append, List.length_cons, List.length_nil]; omega)] at q2
        injection q1 with q1
        injection q2 with q2
        subst q1 q2
        have hx' : lt z x = false := by
          rcases List.mem_append.1 hx with h | h
          · have := sA.1
            rw [List.pairwise_append] at this
            exact this.2.2 x h z (by simp)
          · rw [List.mem_singleton] at h
            subst h
            cases hq : lt x x with
            | false => rfl
            | true => have := o.asymm hq; rw [hq] at this; exact this
        have hy' : lt y y0 = false := by
          rcases List.mem_cons.1 hy with rfl | h
          · cases hq : lt y y with
            | false => rfl
            | true => have := o.asymm hq; rw [hq] at this; exact this
          · exact (List.pairwise_cons.1 sB.2.1).1 y h
        exact o.trans hx' (o.trans q3 hy')
    have c2 : ∀ x ∈ B1, ∀ y ∈ A2, lt y x = false := by
      intro x hx y hy
      have n1 : B1 ≠ [] := List.ne_nil_of_mem hx
      cases A2 with
      | nil => cases hy
      | cons y0 A2 =>
        obtain ⟨L, z, rfl⟩ := last_of n1
        simp only [List.length_append, List.length_cons, List.length_nil] at *
        have k6' : ∃ x y, (P ++ (A1 ++ y0 :: A2) ++ (L ++ [z] ++ B2) ++ S)[u]? = some x ∧ (P ++ (A1 ++ y0 :: A2) ++ (L ++ [z] ++ B2) ++ S)[mid + m - 1 - u]? = some y ∧ lt y x = true := by
          rcases k6 with h | h | h
          · omega
          · omega
          · exact h
        obtain ⟨x', y', q1, q2, q3⟩ := k6'
        have d1 : P ++ (A1 ++ y0 :: A2) ++ (L ++ [z] ++ B2) ++ S = (P ++ A1) ++ y0 :: (A2 ++ (L ++ [z] ++ B2) ++ S) := by simp
        have d2 : P ++ (A1 ++ y0 :: A2) ++ (L ++ [z] ++ B2) ++ S = (P ++ (A1 ++ y0 :: A2) ++ L) ++ z :: (B2 ++ S) := by simp
        rw [d1, get_at (by simp only [List.length_append]; omega)] at q1
        rw [d2, get_at (by simp only [List.length_append, List.length_cons, List.length_nil]; omega)] at q2
        injection q1 with q1
        injection q2 with q2
        subst q1 q2
        have hx' : lt z x = false := by
          rcases List.mem_append.1 hx with h | h
          · have := sB.1
            rw [List.pairwise_append] at this
            exact this.2.2 x h z (by simp)
          · rw [List.mem_singleton] at h
            subst h
            cases hq : lt x x with
            | false => rfl
            | true => have := o.asymm hq; rw [hq] at this; exact this
        have hy' : lt y y0 = false := by
          rcases List.mem_cons.1 hy with rfl | h
          · cases hq : lt y y with
            | false => rfl
            | true => have := o.asymm hq; rw [hq] at this; exact this
          · exact (List.pairwise_cons.1 sA.2.1).1 y h
        exact o.trans hx' (o.trans (o.asymm q3) hy')
    intro x hx y hy
    rcases List.mem_append.1 hx with hx | hx <;> rcases List.mem_append.1 hy with hy | hy
    · exact sA.2.2 x hx y hy
    · exact c1 x hx y hy
    · exact c2 x hx y hy
    · exact sB.2.2 x hx y hy
theorem symMerge_rb {p : N → N → Option Int} {lt : N → N → Bool} (o : Ord lt) (hp : Less p lt) : ∀ (n : Nat) (P A B S : List N) (a m b : Int), a = (P.length : Int) → m = ((P ++ A).length : Int) → b = ((P ++ A ++ B).length : Int) →
    ((P ++ A ++ B ++ S).length : Int) ≤ room → A ≠ [] → B ≠ [] → Srt lt A → Srt lt B →
    RB (A.length + B.length ≤ n) (slices_symMergeCmpFunc_registrar_qN_fu n (P ++ A ++ B ++ S) a m b p) (fun r => ∃ C, r = P ++ C ++ S ∧ C.Perm (A ++ B) ∧ Srt lt C)
  | 0, P, A, B, S, a, m, b, ha, hm, hb, hlen, hA0, hB0, hA, hB => by
    have := List.length_pos_iff.2 hA0
    exact ybi om
  | n + 1, P, A, B, S, a, m, b, ha, hm, hb, hlen, hA0, hB0, hA, hB => by
    have hlA : 0 < A.length := List.length_pos_iff.2 hA0
    have hlB : 0 < B.length := List.length_pos_iff.2 hB0
    have hlen' := hlen
    simp only [List.length_append] at hlen
    unfold slices_symMergeCmpFunc_registrar_qN_fu
    have e1 : w64 (m - a) = (A.length : Int) := by
      subst ha hm
      simp only [List.length_append]
      rw [w64_r] <;> simp only [room] at * <;> omega
    have e2 : w64 (b - m) = (B.length : Int) := by
      subst hb hm
      simp only [List.length_append]
      rw [w64_r] <;> simp only [room] at * <;> omega
    rw [e1, e2]
    refine yk (fun hc => ?_) (fun hc => yk (fun hc2 => ?_) (fun hc2 => ?_))
    · have hA1 : A.length = 1 := by simp at hc; omega
      obtain ⟨x, rfl⟩ : ∃ x, A = [x] := List.length_eq_one_iff.1 hA1
      refine yg ((find_left o hp hB a m b ha hm hb hlen').weak (fun _ => trivial)) ?_
      rintro i ⟨B1, B2, rfl, hi, q1, q2⟩
      have hfin := one_left (p := p) o (P := P) (B1 := B1) (B2 := B2) (S := S) (x := x) a i ha hi (by simpa using hlen')
      rw [show P ++ [x] ++ (B1 ++ B2) ++ S = P ++ [x] ++ B1 ++ B2 ++ S by simp]
      refine yaq hfin (yd ⟨B1 ++ x :: B2, by simp, ?_, ?_⟩)
      · exact List.perm_middle
      · rw [Srt, List.pairwise_append] at hB ⊢
        refine ⟨hB.1, List.pairwise_cons.2 ⟨fun z hz => q2 z hz, hB.2.1⟩, fun z hz y hy => ?_⟩
        rcases List.mem_cons.1 hy with rfl | hy
        · exact o.asymm (q1 z hz)
        · exact hB.2.2 z hz y hy
    · have hB1 : B.length = 1 := by simp at hc2; omega
      obtain ⟨y, rfl⟩ : ∃ x, B = [x] := List.length_eq_one_iff.1 hB1
      refine yg ((find_right o hp hA a m ha hm hlen').weak (fun _ => trivial)) ?_
      rintro i ⟨A1, A2, rfl, hi, q1, q2⟩
      have hfin := one_right (p := p) o (P := P) (A1 := A1) (A2 := A2) (S := S) (y := y) m i (by simpa using hm) hi (by simpa using hlen')
      rw [show P ++ (A1 ++ A2) ++ [y] ++ S = P ++ A1 ++ A2 ++ [y] ++ S by simp]
      refine yaq hfin (yd ⟨A1 ++ y :: A2, by simp, ?_, ?_⟩)
      · refine List.perm_middle.trans ?_
        exact (List.perm_append_singleton y (A1 ++ A2)).symm
      · refine hA.put o (fun z hz => q1 z (List.mem_of_mem_getLast? hz)) q2
    · have hA2 : A.length ≠ 1 := by intro e; rw [e] at hc; simp at hc
      have hB2 : B.length ≠ 1 := by intro e; rw [e] at hc2; simp at hc2
      have em : w64 (Int.fdiv (IntKind.wrap .u64 (w64 (a + b))) (2 ^ 1)) = (((P.length + (P ++ A ++ B).length) / 2 : Nat) : Int) := by
        rw [half om (by subst ha hb; simp only [List.length_append, room] at *; omega)]
        subst ha hb
        omega
      rw [em]
      generalize hmid : (P.length + (P ++ A ++ B).length) / 2 = mid
      have hmid' := hmid
      simp only [List.length_append] at hmid' hm hb
      have en : w64 ((mid : Int) + m) = ((mid + (P.length + A.length) : Nat) : Int) := by
        rw [w64_r] <;> simp only [room] at * <;> omega
      rw [en]
      have es : w64 (((mid + (P.length + A.length) : Nat) : Int) - b) = ((mid + (P.length + A.length) : Nat) : Int) - b := by
        rw [w64_r] <;> simp only [room] at * <;> omega
      have ep : w64 (((mid + (P.length + A.length) : Nat) : Int) - 1) = ((mid + (P.length + A.length) : Nat) : Int) - 1 := by
        rw [w64_r] <;> simp only [room] at * <;> omega
      rw [es, ep]
      refine yaq (x := if (mid < P.length + A.length) then (((mid + (P.length + A.length) : Nat) : Int) - b, (mid : Int)) else (a, m)) ?_ ?_
      · by_cases hc3 : mid < P.length + A.length
        · rw [if_pos hc3, show decide (m > (mid : Int)) = true from decide_eq_true om]
          rfl
        · rw [if_neg hc3, show decide (m > (mid : Int)) = false from decide_eq_false om]
          rfl
      generalize h0 : (if (mid < P.length + A.length) then (((mid + (P.length + A.length) : Nat) : Int) - b, (mid : Int)) else (a, m)) = q0
      obtain ⟨s0, r0⟩ := q0
      have hcut := find_cut o hp (S := S) hA hB P.length (P.length + A.length) (P.length + A.length + B.length) mid rfl (by simp) (by simp only [List.length_append]) hmid'.symm hlen' hA0 hB0 s0 r0 (by
        rw [← h0]
        subst ha hm hb
        rfl) _ rfl
      refine yg (hcut.weak (fun _ => trivial)) ?_
      rintro i ⟨A1, A2, B1, B2, rfl, rfl, rfl, hcount, hcross⟩
      simp only [List.length_append] at hcount hm hb hlen hmid' hlA hlB hA2 hB2
      have eend : w64 (((mid + (P.length + (A1 ++ A2).length) : Nat) : Int) - ((P ++ A1).length : Int)) = ((P.length + (A1.length + A2.length) + B1.length : Nat) : Int) := by
        simp only [List.length_append]
        rw [w64_r] <;> simp only [room] at * <;> omega
      rw [eend]
      have sA := hA
      have sB := hB
      rw [Srt, List.pairwise_append] at sA sB
      refine yaq (x := P ++ A1 ++ B1 ++ A2 ++ B2 ++ S) ?_ ?_
      · by_cases h1 : A2 = []
        · subst h1
          rw [show decide (((P ++ A1).length : Int) < m) = false from decide_eq_false (by simp only [List.length_append, List.length_nil] at *; omega)]
          simp
        · by_cases h2 : B1 = []
          · subst h2
            rw [show decide (m < ((P.length + (A1.length + A2.length) + ([] : List N).length : Nat) : Int)) = false from decide_eq_false (by simp only [List.length_nil] at *; omega)]
            rw [Bool.and_false]
            simp
          · have p1 := List.length_pos_iff.2 h1
            have p2 := List.length_pos_iff.2 h2
            rw [show decide (((P ++ A1).length : Int) < m) = true from decide_eq_true (by simp only [List.length_append] at *; omega), show decide (m < ((P.length + (A1.length + A2.length) + B1.length : Nat) : Int)) = true from decide_eq_true om]
            have hr := rotate_eq (P ++ A1) A2 B1 (B2 ++ S) p ((P ++ A1).length : Int) m ((P.length + (A1.length + A2.length) + B1.length : Nat) : Int) rfl (by simp only [List.length_append] at *; omega) (by simp only [List.length_append] at *; omega) h1 h2 (by simp only [List.length_append] at *; omega)
            rw [show P ++ (A1 ++ A2) ++ (B1 ++ B2) ++ S = P ++ A1 ++ A2 ++ B1 ++ (B2 ++ S) by simp]
            show Option.bind _ _ = _
            rw [hr]
            simp
      refine yg (R := fun r => ∃ C1, r = P ++ C1 ++ (A2 ++ B2 ++ S) ∧ C1.Perm (A1 ++ B1) ∧ Srt lt C1) ?_ ?_
      · refine yk (fun hc4 => ?_) (fun hc4 => ?_)
        · simp only [Bool.and_eq_true, decide_eq_true_eq, List.length_append] at hc4
          have hn1 : A1 ≠ [] := by rintro rfl; simp at hc4; omega
          have hn2 : B1 ≠ [] := by rintro rfl; simp at hc4; simp only [List.length_nil] at *; omega
          have := symMerge_rb o hp n P A1 B1 (A2 ++ B2 ++ S) a ((P ++ A1).length : Int) (mid : Int) ha rfl (by simp only [List.length_append] at *; omega) (by simp only [List.length_append] at *; omega) hn1 hn2 sA.1 sB.1
          rw [show P ++ A1 ++ B1 ++ A2 ++ B2 ++ S = P ++ A1 ++ B1 ++ (A2 ++ B2 ++ S) by simp]
          refine yg (this.weak (fun h => ?_)) (fun r hr => yd hr)
          simp only [List.length_append] at h
          omega
        · refine yd ⟨A1 ++ B1, by simp, List.Perm.refl _, ?_⟩
          simp only [Bool.and_eq_false_iff, decide_eq_false_iff_not, List.length_append] at hc4
          by_cases hn1 : A1 = []
          · subst hn1; simpa using sB.1
          · have := List.length_pos_iff.2 hn1
            have : B1 = [] := List.eq_nil_of_length_eq_zero om
            subst this
            simpa using sA.1
      · rintro r ⟨C1, rfl, hperm1, hs1⟩
        have hl1 := hperm1.length_eq
        simp only [List.length_append] at hl1
        refine yg (R := fun r => ∃ C2, r = P ++ C1 ++ C2 ++ S ∧ C2.Perm (A2 ++ B2) ∧ Srt lt C2) ?_ ?_
        · refine yk (fun hc4 => ?_) (fun hc4 => ?_)
          · simp only [Bool.and_eq_true, decide_eq_true_eq] at hc4
            have hn1 : A2 ≠ [] := by rintro rfl; simp only [List.length_nil] at *; omega
            have hn2 : B2 ≠ [] := by rintro rfl; simp only [List.length_nil] at *; omega
            have := symMerge_rb o hp n (P ++ C1) A2 B2 S (mid : Int) ((P.length + (A1.length + A2.length) + B1.length : Nat) : Int) b (by simp only [List.length_append] at *; omega) (by simp only [List.length_append] at *; omega) (by simp only [List.length_append] at *; omega) (by simp only [List.length_append] at *; omega) hn1 hn2 sA.2.1 sB.2.1
            rw [show P ++ C1 ++ (A2 ++ B2 ++ S) = P ++ C1 ++ A2 ++ B2 ++ S by simp]
            refine yg (this.weak (fun h => ?_)) (fun r hr => yd hr)
            simp only [List.length_append] at h
            omega
          · refine yd ⟨A2 ++ B2, by simp, List.Perm.refl _, ?_⟩
            simp only [Bool.and_eq_false_iff, decide_eq_false_iff_not] at hc4
            by_cases hn1 : A2 = []
            · subst hn1; simpa using sB.2.1
            · have := List.length_pos_iff.2 hn1
              have : B2 = [] := List.eq_nil_of_length_eq_zero om
              subst this
              simpa using sA.2.1
        · rintro r ⟨C2, rfl, hperm2, hs2⟩
          refine yd ⟨C1 ++ C2, by simp, ?_, ?_⟩
          · refine (List.Perm.append hperm1 hperm2).trans ?_
            rw [List.append_assoc, List.append_assoc]
            refine List.Perm.append_left A1 ?_
            rw [← List.append_assoc, ← List.append_assoc]
            exact List.Perm.append_right B2 List.perm_append_comm
          · rw [Srt, List.pairwise_append]
            exact ⟨hs1, hs2, fun x hx y hy => hcross x (hperm1.subset hx) y (hperm2.subset hy)⟩
theorem symMerge_ret {p : N → N → Option Int} {lt : N → N → Bool} (o : Ord lt) (hp : Less p lt) (P A B S : List N) (a m b : Int) (ha : a = (P.length : Int)) (hm : m = ((P ++ A).length : Int)) (hb : b = ((P ++ A ++ B).length : Int))
    (hlen : ((P ++ A ++ B ++ S).length : Int) ≤ room) (hA0 : A ≠ []) (hB0 : B ≠ []) (hA : Srt lt A) (hB : Srt lt B) :
    Ret (slices_symMergeCmpFunc_registrar_qN (P ++ A ++ B ++ S) a m b p) (fun r => ∃ C, r = P ++ C ++ S ∧ C.Perm (A ++ B) ∧ Srt lt C) :=
  RB.fuel (N := A.length + B.length) (fun n => symMerge_rb o hp n P A B S a m b ha hm hb hlen hA0 hB0 hA hB)
abbrev Full (lt : N → N → Bool) (k : Nat) (ls : List (List N)) : Prop := ∀ x ∈ ls, Srt lt x ∧ x.length = k
def Blk (lt : N → N → Bool) (k : Nat) (d : List N) : Prop := ∃ ls last, d = ls.flatten ++ last ∧ Full lt k ls ∧ Srt lt last ∧ last.length ≤ k
theorem pass_ret {p : N → N → Option Int} {lt : N → N → Bool} (o : Ord lt) (hp : Less p lt) (k : Nat) (hk : 0 < k) (d : List N) (n : Int) (hn : n = (d.length : Int)) (hkn : (k : Int) ≤ room) (hlen : (d.length : Int) ≤ room) (hd : Blk lt k d) :
    Ret ((loopO (fun (s : Int × Int × (List qN)) => match s with | (s38, s39, s40) => (bif (decide (s39 ≤ n)) then (slices_symMergeCmpFunc_registrar_qN s40 s38 (w64 (s38 + (k : Int))) s39 p).bind (fun (r50 : List qN) => some (.inl (s39, (w64 (s39 + (w64 (2 * (k : Int))))), r50))) else some (.inr (s38, s40)))) (0, (w64 (2 * (k : Int))), d)).bind (fun ((s52, s53) : Int × (List qN)) => ((bif (decide ((w64 (s52 + (k : Int))) < n)) then (slices_symMergeCmpFunc_registrar_qN s53 s52 (w64 (s52 + (k : Int))) n p).bind (fun (r63 : List qN) => some r63) else some s53))))
      (fun r => Blk lt (2 * k) r ∧ r.Perm d) := by
  subst hn
  have e2 : w64 (2 * (k : Int)) = ((2 * k : Nat) : Int) := by rw [w64_r] <;> simp only [room] at * <;> omega
  rw [e2]
  obtain ⟨ls0, last0, hd0, hf0, hs0, hl0⟩ := hd
  refine yg (loopO_rb (Q := fun (r : Int × List N) => ∃ (qs : List (List N)) (A B : List N), Full lt (2 * k) qs ∧ r.1 = (qs.flatten.length : Int) ∧ r.2 = qs.flatten ++ A ++ B ∧ Srt lt A ∧ Srt lt B ∧ (A = [] ∨ A.length = k) ∧ B.length ≤ k ∧ (A = [] ∨ B.length < k) ∧ r.2.Perm d)
    (I := fun (s : Int × Int × List N) => ∃ (qs ls : List (List N)) (last : List N), Full lt (2 * k) qs ∧ Full lt k ls ∧ Srt lt last ∧ last.length ≤ k ∧ s.1 = (qs.flatten.length : Int) ∧ s.2.1 = s.1 + ((2 * k : Nat) : Int) ∧ s.2.2 = qs.flatten ++ ls.flatten ++ last ∧ s.2.2.Perm d)
    (μ := fun s => (2 * (d.length + 2 * k) : Nat) - s.1.toNat) ?_ ⟨[], ls0, last0, (by intro x hx; cases hx), hf0, hs0, hl0, rfl, by simp, by simpa using hd0, List.Perm.refl _⟩) ?_
  · rintro ⟨a, b, e⟩ ⟨qs, ls, last, h1, h2, h3, h4, h5, h6, h7, h8⟩
    simp only at h5 h6 h7 h8
    have hl := h8.length_eq
    subst h5 h6
    rw [h7] at hl h8 ⊢
    simp only [List.length_append] at hl
    refine yk (fun hc => ?_) (fun hc => ?_)
    · simp only [decide_eq_true_eq] at hc
      have step : ∀ (A B S : List N) (ls' : List (List N)) (last' : List N), ls.flatten ++ last = A ++ B ++ S → Srt lt A → Srt lt B → A.length = k → B.length = k → S = ls'.flatten ++ last' → Full lt k ls' → Srt lt last' → last'.length ≤ k →
          RB True ((slices_symMergeCmpFunc_registrar_qN (qs.flatten ++ ls.flatten ++ last) (qs.flatten.length : Int) (w64 ((qs.flatten.length : Int) + (k : Int))) ((qs.flatten.length : Int) + ((2 * k : Nat) : Int)) p).bind (fun (r50 : List qN) => some (Sum.inl (((qs.flatten.length : Int) + ((2 * k : Nat) : Int)), (w64 (((qs.flatten.length : Int) + ((2 * k : Nat) : Int)) + ((2 * k : Nat) : Int))), r50) : (Int × Int × List N) ⊕ (Int × List N))))
            (fun r => ∃ s', r = .inl s' ∧ ((∃ (qs ls : List (List N)) (last : List N), Full lt (2 * k) qs ∧ Full lt k ls ∧ Srt lt last ∧ last.length ≤ k ∧ s'.1 = (qs.flatten.length : Int) ∧ s'.2.1 = s'.1 + ((2 * k : Nat) : Int) ∧ s'.2.2 = qs.flatten ++ ls.flatten ++ last ∧ s'.2.2.Perm d) ∧ (2 * (d.length + 2 * k) : Nat) - s'.1.toNat < (2 * (d.length + 2 * k) : Nat) - ((qs.flatten.length : Int)).toNat)) := by
        intro A B S ls' last' heq hA hB lA lB hS hf' hs' hl'
        have hq := congrArg List.length heq
        simp only [List.length_append] at hq
        rw [show qs.flatten ++ ls.flatten ++ last = qs.flatten ++ A ++ B ++ S by rw [List.append_assoc, heq]; simp]
        have e3 : w64 ((qs.flatten.length : Int) + (k : Int)) = ((qs.flatten ++ A).length : Int) := by
          simp only [List.length_append, lA]
          rw [w64_r] <;> simp only [room] at * <;> omega
        rw [e3]
        refine yg (symMerge_ret o hp qs.flatten A B S _ _ _ rfl rfl (by simp only [List.length_append, lA, lB]; omega) (by simp only [List.length_append] at *; omega) (by rintro rfl; simp at lA; omega) (by rintro rfl; simp at lB; omega) hA hB) ?_
        rintro r ⟨C, rfl, hC1, hC2⟩
        have hlC := hC1.length_eq
        simp only [List.length_append, lA, lB] at hlC
        refine yd ⟨_, rfl, ⟨qs ++ [C], ls', last', ?_, hf', hs', hl', ?_, ?_, ?_, ?_⟩, ?_⟩
        · intro x hx
          rcases List.mem_append.1 hx with h | h
          · exact h1 x h
          · rw [List.mem_singleton] at h
            subst h
            exact ⟨hC2, by omega⟩
        · simp only [List.flatten_append, List.flatten_cons, List.flatten_nil, List.append_nil, List.length_append]
          omega
        · show w64 _ = _
          rw [w64_r] <;> simp only [room] at * <;> omega
        · subst hS
          simp
        · refine List.Perm.trans ?_ h8
          show (qs.flatten ++ C ++ S).Perm _
          rw [List.append_assoc, List.append_assoc qs.flatten ls.flatten last, heq]
          refine List.Perm.append_left _ ?_
          exact List.Perm.append_right S hC1
        · show _ - (((qs.flatten.length : Int) + ((2 * k : Nat) : Int))).toNat < _
          omega
      cases ls with
      | nil => simp only [List.flatten_nil, List.length_nil] at hl; omega
      | cons A ls =>
        have hA := h2 A (by simp)
        cases ls with
        | nil =>
          simp only [List.flatten_cons, List.flatten_nil, List.append_nil] at hl
          have hlast : last.length = k := by rw [hA.2] at hl; omega
          refine (step A last [] [] [] (by simp) hA.1 h3 hA.2 hlast (by simp) (by intro x hx; cases hx) List.Pairwise.nil (by simp)).mono ?_
          rintro r ⟨s', rfl, h⟩
          exact h
        | cons B ls =>
          have hB := h2 B (by simp)
          refine (step A B (ls.flatten ++ last) ls last (by simp) hA.1 hB.1 hA.2 hB.2 rfl (fun x hx => h2 x (by simp [hx])) h3 h4).mono ?_
          rintro r ⟨s', rfl, h⟩
          exact h
    · simp only [decide_eq_false_iff_not] at hc
      refine yd ?_
      cases ls with
      | nil => exact ⟨qs, [], last, h1, rfl, by simp, List.Pairwise.nil, h3, .inl rfl, h4, .inl rfl, h8⟩
      | cons A ls =>
        have hA := h2 A (by simp)
        cases ls with
        | nil =>
          simp only [List.flatten_cons, List.flatten_nil, List.append_nil] at hl
          rw [hA.2] at hl
          exact ⟨qs, A, last, h1, rfl, by simp, hA.1, h3, .inr hA.2, h4, .inr om, h8⟩
        | cons B ls =>
          have hB := h2 B (by simp)
          simp only [List.flatten_cons, List.length_append] at hl
          rw [hA.2, hB.2] at hl
          omega
  · rintro ⟨a, e⟩ ⟨qs, A, B, h1, h2, h3, h4, h5, h6, h7, h8, h9⟩
    simp only at h2 h3 h9
    have hl := h9.length_eq
    subst h2 h3
    simp only [List.length_append] at hl
    have e3 : w64 ((qs.flatten.length : Int) + (k : Int)) = ((qs.flatten.length + k : Nat) : Int) := by
      rw [w64_r] <;> simp only [room] at * <;> omega
    refine yk (fun hc => ?_) (fun hc => ?_)
    · rw [e3] at hc ⊢
      simp only [decide_eq_true_eq] at hc
      have hA : A ≠ [] := by rintro rfl; simp only [List.length_nil] at hl; omega
      have hAk := h6.resolve_left hA
      have hB : B ≠ [] := by rintro rfl; simp only [List.length_nil] at hl; omega
      have := symMerge_ret o hp qs.flatten A B [] (qs.flatten.length : Int) ((qs.flatten.length + k : Nat) : Int) (d.length : Int) rfl (by simp only [List.length_append, hAk]) (by simp only [List.length_append]; omega) (by simp only [List.length_append, List.length_nil]; omega) hA hB h4 h5
      simp only [List.append_nil] at this
      refine yg this ?_
      rintro r ⟨C, rfl, hC1, hC2⟩
      have hlC := hC1.length_eq
      simp only [List.length_append] at hlC
      refine yd ⟨⟨qs, C, rfl, h1, hC2, by omega⟩, ?_⟩
      refine List.Perm.trans ?_ h9
      rw [List.append_assoc]
      exact List.Perm.append_left _ hC1
    · rw [e3] at hc
      simp only [decide_eq_false_iff_not] at hc
      refine yd ⟨⟨qs, A ++ B, by simp, h1, ?_, ?_⟩, h9⟩
      · rcases h6 with rfl | h6
        · simpa using h5
        · have : B = [] := List.eq_nil_of_length_eq_zero om
          subst this
          simpa using h4
      · rcases h6 with rfl | h6
        · simp; omega
        · simp only [List.length_append]; omega
theorem stable_ret {p : N → N → Option Int} {lt : N → N → Bool} (o : Ord lt) (hp : Less p lt) (l : List N) (hlen : (l.length : Int) ≤ room) : Ret (slices_SortStableFunc_qN l p) (fun r => r.Perm l ∧ Srt lt r) := by
  unfold slices_SortStableFunc_qN slices_stableCmpFunc_registrar_qN
  refine yg (R := fun r => r.Perm l ∧ Srt lt r) ?_ (fun r hr => yd hr)
  refine yg (loopO_rb (Q := fun (r : Int × List N) => ∃ (qs : List (List N)) (R : List N), Full lt 20 qs ∧ r.1 = (qs.flatten.length : Int) ∧ r.2 = qs.flatten ++ R ∧ R.length < 20 ∧ r.2.Perm l)
    (I := fun (s : Int × Int × List N) => ∃ (qs : List (List N)) (R : List N), Full lt 20 qs ∧ s.1 = (qs.flatten.length : Int) ∧ s.2.1 = s.1 + 20 ∧ s.2.2 = qs.flatten ++ R ∧ s.2.2.Perm l)
    (μ := fun s => (l.length + 100) - s.1.toNat) ?_ ⟨[], l, (by intro x hx; cases hx), rfl, rfl, rfl, List.Perm.refl _⟩) ?_
  · rintro ⟨a, b, e⟩ ⟨qs, R, h1, h2, h3, h4, h5⟩
    simp only at h2 h3 h4 h5
    subst h2 h3 h4
    have hl := h5.length_eq
    simp only [List.length_append] at hl
    refine yk (fun hc => ?_) (fun hc => ?_)
    · simp only [decide_eq_true_eq] at hc
      obtain ⟨A, S, rfl, hA⟩ := split_at (A := R) (u := 20) om
      simp only [List.length_append, hA] at hl
      have := insertion_ret o hp qs.flatten A S (qs.flatten.length : Int) ((qs.flatten.length : Int) + 20) rfl (by simp only [List.length_append, hA]; omega) (by simp only [List.length_append, hA]; omega)
      rw [List.append_assoc] at this
      refine yg this ?_
      rintro r ⟨C, rfl, hC1, hC2⟩
      have hlC := hC1.length_eq
      refine yd ⟨⟨qs ++ [C], S, ?_, ?_, ?_, ?_, ?_⟩, ?_⟩
      · intro x hx
        rcases List.mem_append.1 hx with h | h
        · exact h1 x h
        · rw [List.mem_singleton] at h
          subst h
          exact ⟨hC2, by omega⟩
      · simp only [List.flatten_append, List.flatten_cons, List.flatten_nil, List.append_nil, List.length_append]
        omega
      · show w64 _ = _
        rw [w64_r] <;> simp only [room] at * <;> omega
      · simp
      · refine List.Perm.trans ?_ h5
        show (qs.flatten ++ C ++ S).Perm _
        rw [List.append_assoc]
        exact List.Perm.append_left _ (List.Perm.append_right S hC1)
      · show _ - ((qs.flatten.length : Int) + 20).toNat < _
        omega
    · simp only [decide_eq_false_iff_not] at hc
      exact yd ⟨qs, R, h1, rfl, rfl, by omega, h5⟩
  · rintro ⟨a, e⟩ ⟨qs, R, h1, h2, h3, h4, h5⟩
    simp only at h2 h3 h5
    subst h2 h3
    have hl := h5.length_eq
    simp only [List.length_append] at hl
    have := insertion_ret o hp qs.flatten R [] (qs.flatten.length : Int) (l.length : Int) rfl (by simp only [List.length_append]; omega) (by simp only [List.length_append, List.length_nil]; omega)
    simp only [List.append_nil] at this
    refine yg this ?_
    rintro r ⟨C, rfl, hC1, hC2⟩
    have hlC := hC1.length_eq
    have hperm : (qs.flatten ++ C).Perm l := (List.Perm.append_left _ hC1).trans h5
    have hblk : Blk lt 20 (qs.flatten ++ C) := ⟨qs, C, rfl, h1, hC2, by omega⟩
    refine yg (R := fun r => r.Perm l ∧ Srt lt r) ?_ (fun r hr => yd hr)
    refine loopO_rb (Q := fun r => r.Perm l ∧ Srt lt r) (I := fun (s : Int × List N) => ∃ k : Nat, 0 < k ∧ s.1 = (k : Int) ∧ (k : Int) ≤ 2 * l.length + 40 ∧ Blk lt k s.2 ∧ s.2.Perm l) (μ := fun s => (2 * l.length + 100) - s.1.toNat) (s := ((20 : Int), qs.flatten ++ C)) ?_ ⟨20, by omega, rfl, by omega, hblk, hperm⟩
    rintro ⟨bs, d⟩ ⟨k, k1, k2, k3, k4, k5⟩
    simp only at k2 k4 k5
    subst k2
    have hld := k5.length_eq
    refine yk (fun hc => ?_) (fun hc => ?_)
    · simp only [decide_eq_true_eq] at hc
      have := pass_ret o hp k k1 d (l.length : Int) om (by simp only [room] at *; omega) om k4
      have e3 : w64 ((k : Int) * 2) = ((2 * k : Nat) : Int) := by rw [w64_r] <;> simp only [room] at * <;> omega
      have hfin : ∀ j : List N, Blk lt (2 * k) j ∧ j.Perm d → RB True (some (Sum.inl (w64 ((k : Int) * 2), j)) : Option ((Int × List N) ⊕ List N)) (fun r => ∃ s', r = .inl s' ∧ (∃ k : Nat, 0 < k ∧ s'.1 = (k : Int) ∧ (k : Int) ≤ 2 * l.length + 40 ∧ Blk lt k s'.2 ∧ s'.2.Perm l) ∧ (2 * l.length + 100) - s'.1.toNat < (2 * l.length + 100) - (k : Int).toNat) := by
        rintro j ⟨hj1, hj2⟩
        refine yd ⟨_, rfl, ⟨2 * k, by omega, e3, by omega, hj1, hj2.trans k5⟩, ?_⟩
        simp only [e3]
        omega
      have h2 := yg this hfin
      rw [Option.bind_assoc] at h2
      refine RB.mono (Q := fun r => ∃ s', r = .inl s' ∧ (∃ k : Nat, 0 < k ∧ s'.1 = (k : Int) ∧ (k : Int) ≤ 2 * l.length + 40 ∧ Blk lt k s'.2 ∧ s'.2.Perm l) ∧ (2 * l.length + 100) - s'.1.toNat < (2 * l.length + 100) - (k : Int).toNat) h2 ?_
      rintro r ⟨s', rfl, h⟩
      exact h
    · simp only [decide_eq_false_iff_not] at hc
      refine yd ⟨k5, ?_⟩
      obtain ⟨ls, last, rfl, q2, q3, q4⟩ := k4
      simp only [List.length_append] at hld
      cases ls with
      | nil => simpa using q3
      | cons x ls =>
        have hx := q2 x (by simp)
        simp only [List.flatten_cons, List.length_append] at hld
        rw [hx.2] at hld
        have hz : ls.flatten = [] := List.eq_nil_of_length_eq_zero om
        have hz2 : last = [] := List.eq_nil_of_length_eq_zero om
        rw [List.flatten_cons, hz, hz2]
        simpa using hx.1
def md (m : Int) : Int := if m < 1 ∨ 4 < m then 4 else m
def bo (a b : Int) : Int := if a = b then a else if a = 1 then b else if b = 1 then a else 4
theorem md_ok (m : Int) : 1 ≤ md m ∧ md m ≤ 4 := by unfold md; split <;> omega
theorem md_id {m : Int} (h1 : 1 ≤ m) (h2 : m ≤ 4) : md m = m := by unfold md; split <;> omega
theorem bo_ok {a b : Int} (ha : 1 ≤ a ∧ a ≤ 4) (hb : 1 ≤ b ∧ b ≤ 4) : 1 ≤ bo a b ∧ bo a b ≤ 4 := by unfold bo; split <;> (try split) <;> (try split) <;> omega
theorem bo_assoc (a b c : Int) : bo (bo a b) c = bo a (bo b c) := by
  unfold bo
  by_cases h1 : a = b <;> by_cases h2 : b = c <;> by_cases h3 : a = 1 <;> by_cases h4 : b = 1 <;> by_cases h5 : c = 1 <;> by_cases h6 : a = c <;> by_cases h7 : b = 4 <;> by_cases h8 : a = 4 <;> by_cases h9 : c = 4 <;> simp_all <;> omega
theorem bo_comm (a b : Int) : bo a b = bo b a := by
  unfold bo
  by_cases h1 : a = b <;> by_cases h3 : a = 1 <;> by_cases h4 : b = 1 <;> simp_all <;> omega
theorem mode_eq (m : Int) : access_mode m = some (md m) := by
  unfold access_mode md
  by_cases h1 : m < 1 <;> by_cases h2 : 4 < m <;> simp [h1, h2]
theorem both_eq (a b : Int) : access_both a b = some (bo a b) := by
  unfold access_both bo
  simp only [Bool.cond_eq_ite, beq_iff_eq]
  split <;> (try split) <;> (try split) <;> rfl
def add (p : By8) (acc : Option Int) (n : N) : Option Int := if n.Path = p then some (match acc with | none => md n.Mode | some v => bo v (md n.Mode)) else acc
def val (l : List N) (p : By8) : Option Int := l.foldl (add p) none
theorem add_comm (p : By8) (acc : Option Int) (x y : N) : add p (add p acc x) y = add p (add p acc y) x := by
  unfold add
  by_cases hx : x.Path = p <;> by_cases hy : y.Path = p <;> simp only [hx, hy, if_true, if_false]
  cases acc with
  | none => simp only; rw [bo_comm]
  | some v => simp only; rw [bo_assoc, bo_assoc, bo_comm (md x.Mode)]
theorem val_perm {l m : List N} (h : l.Perm m) (p : By8) : val l p = val m p := by
  unfold val
  exact h.foldl_eq' (fun x _ y _ z => add_comm p z x y) none
theorem val_snoc (l : List N) (n : N) (p : By8) : val (l ++ [n]) p = add p (val l p) n := by
  unfold val
  rw [List.foldl_append]
  rfl
theorem fold_ok (p : By8) : ∀ (l : List N) (acc : Option Int), (∀ v, acc = some v → 1 ≤ v ∧ v ≤ 4) → ∀ v, l.foldl (add p) acc = some v → 1 ≤ v ∧ v ≤ 4
  | [], acc, h, v, hv => h v hv
  | n :: r, acc, h, v, hv => by
    refine fold_ok p r (add p acc n) (fun u hu => ?_) v hv
    unfold add at hu
    split at hu
    · injection hu with hu
      subst hu
      cases acc with
      | none => exact md_ok _
      | some w => exact bo_ok (h w rfl) (md_ok _)
    · exact h u hu
theorem val_ok {l : List N} {p : By8} {v : Int} (h : val l p = some v) : 1 ≤ v ∧ v ≤ 4 := fold_ok p l none (fun v h => by cases h) v h
theorem val_none {l : List N} {p : By8} (h : ∀ n ∈ l, n.Path ≠ p) : val l p = none := by
  unfold val
  have : ∀ (l : List N) (acc : Option Int), (∀ n ∈ l, n.Path ≠ p) → l.foldl (add p) acc = acc := by
    intro l
    induction l with
    | nil => intro acc _; rfl
    | cons n r ih =>
      intro acc h
      rw [List.foldl_cons, show add p acc n = acc by simp [add, h n (by simp)]]
      exact ih acc (fun m hm => h m (by simp [hm]))
  exact this l none h
structure Can (l out : List N) : Prop where
  srt : out.Pairwise (fun x y => sLt x.Path y.Path = true)
  mem : ∀ n, n ∈ out ↔ val l n.Path = some n.Mode
theorem strictN_eq : ∀ (a b : List N), a.Pairwise (fun x y => sLt x.Path y.Path = true) → b.Pairwise (fun x y => sLt x.Path y.Path = true) → (∀ n, n ∈ a ↔ n ∈ b) → a = b
  | [], [], _, _, _ => rfl
  | [], y :: b, _, _, h => by have := (h y).2 (by simp); cases this
  | x :: a, [], _, _, h => by have := (h x).1 (by simp); cases this
  | x :: a, y :: b, ha, hb, h => by
    have ha' := List.pairwise_cons.1 ha
    have hb' := List.pairwise_cons.1 hb
    have e : x = y := by
      rcases List.mem_cons.1 ((h x).1 (by simp)) with e | h1
      · exact e
      · rcases List.mem_cons.1 ((h y).2 (by simp)) with e | h2
        · exact e.symm
        · have q1 := hb'.1 x h1
          have q2 := ha'.1 y h2
          have := sLt_asymm q1
          rw [q2] at this
          cases this
    subst e
    rw [strictN_eq a b ha'.2 hb'.2 (fun n => ?_)]
    constructor
    · intro hn
      rcases List.mem_cons.1 ((h n).1 (by simp [hn])) with rfl | h1
      · have := ha'.1 n hn
        rw [sLt_irrefl] at this
        cases this
      · exact h1
    · intro hn
      rcases List.mem_cons.1 ((h n).2 (by simp [hn])) with rfl | h1
      · have := hb'.1 n hn
        rw [sLt_irrefl] at this
        cases this
      · exact h1
theorem Can.eq {l a b : List N} (ha : Can l a) (hb : Can l b) : a = b := strictN_eq a b ha.srt hb.srt (fun n => (ha.mem n).trans (hb.mem n).symm)
theorem Can.perm {l m a : List N} (h : Can l a) (hp : l.Perm m) : Can m a := ⟨h.srt, fun n => by rw [h.mem, val_perm hp]⟩
theorem Can.put {l A B : List N} {x : N} (h : Can l (A ++ B)) (h1 : ∀ n ∈ A, sLt n.Path x.Path = true) (h2 : ∀ n ∈ B, sLt x.Path n.Path = true) : Can (l ++ [x]) (A ++ (⟨x.Path, md x.Mode⟩ : N) :: B) := by
  have hs := h.srt
  rw [List.pairwise_append] at hs
  have hno : val l x.Path = none := by
    cases hv : val l x.Path with
    | none => rfl
    | some v =>
      have := (h.mem ⟨x.Path, v⟩).2 hv
      rcases List.mem_append.1 this with q | q
      · have := h1 _ q
        simp only at this
        rw [sLt_irrefl] at this
        cases this
      · have := h2 _ q
        simp only at this
        rw [sLt_irrefl] at this
        cases this
  refine ⟨?_, fun n => ?_⟩
  · rw [List.pairwise_append]
    refine ⟨hs.1, List.pairwise_cons.2 ⟨fun y hy => h2 y hy, hs.2.1⟩, fun a ha y hy => ?_⟩
    rcases List.mem_cons.1 hy with rfl | hy
    · exact h1 a ha
    · exact hs.2.2 a ha y hy
  · rw [val_snoc]
    unfold add
    by_cases hp : x.Path = n.Path
    · rw [if_pos hp, ← hp, hno]
      simp only [Option.some.injEq]
      constructor
      · intro hm
        simp only [List.mem_append, List.mem_cons] at hm
        rcases hm with hm | rfl | hm
        · have := h1 n hm
          rw [hp, sLt_irrefl] at this
          cases this
        · rfl
        · have := h2 n hm
          rw [hp, sLt_irrefl] at this
          cases this
      · intro hm
        have : n = ⟨x.Path, md x.Mode⟩ := by cases n; simp_all
        rw [this]
        simp
    · rw [if_neg hp, ← h.mem]
      simp only [List.mem_append, List.mem_cons]
      constructor
      · rintro (hm | rfl | hm)
        · exact .inl hm
        · exact absurd rfl hp
        · exact .inr hm
      · rintro (hm | hm)
        · exact .inl hm
        · exact .inr (.inr hm)
theorem Can.upd {l A B : List N} {x h0 : N} (h : Can l (A ++ h0 :: B)) (hp0 : h0.Path = x.Path) : Can (l ++ [x]) (A ++ (⟨h0.Path, bo h0.Mode (md x.Mode)⟩ : N) :: B) := by
  have hs := h.srt
  rw [List.pairwise_append, List.pairwise_cons] at hs
  have hv : val l x.Path = some h0.Mode := by rw [← hp0]; exact (h.mem h0).1 (by simp)
  refine ⟨?_, fun n => ?_⟩
  · rw [List.pairwise_append, List.pairwise_cons]
    refine ⟨hs.1, ⟨fun y hy => hs.2.1.1 y hy, hs.2.1.2⟩, fun a ha y hy => ?_⟩
    rcases List.mem_cons.1 hy with rfl | hy
    · exact hs.2.2 a ha h0 (by simp)
    · exact hs.2.2 a ha y (by simp [hy])
  · rw [val_snoc]
    unfold add
    by_cases hp : x.Path = n.Path
    · rw [if_pos hp, ← hp, hv]
      simp only [Option.some.injEq]
      constructor
      · intro hm
        simp only [List.mem_append, List.mem_cons] at hm
        rcases hm with hm | rfl | hm
        · have := hs.2.2 n hm h0 (by simp)
          rw [hp0, hp, sLt_irrefl] at this
          cases this
        · rfl
        · have := hs.2.1.1 n hm
          rw [hp0, hp, sLt_irrefl] at this
          cases this
      · intro hm
        have : n = ⟨h0.Path, bo h0.Mode (md x.Mode)⟩ := by cases n; simp_all
        rw [this]
        simp
    · rw [if_neg hp, ← h.mem]
      simp only [List.mem_append, List.mem_cons]
      constructor
      · rintro (hm | rfl | hm)
        · exact .inl hm
        · exact absurd hp0.symm hp
        · exact .inr (.inr hm)
      · rintro (hm | rfl | hm)
        · exact .inl hm
        · exact absurd hp0.symm hp
        · exact .inr (.inr hm)
theorem Can.nil : Can [] [] := ⟨List.Pairwise.nil, fun n => by simp [val]⟩
theorem Can.self {l a : List N} (h : Can l a) : Can a a := by
  refine ⟨h.srt, fun n => ?_⟩
  constructor
  · intro hn
    obtain ⟨A, B, rfl⟩ := List.append_of_mem hn
    have hv := val_ok ((h.mem n).1 hn)
    have hs := h.srt
    rw [List.pairwise_append, List.pairwise_cons] at hs
    have : (A ++ n :: B).Perm ((A ++ B) ++ [n]) := List.perm_middle.trans (List.perm_append_singleton n (A ++ B)).symm
    rw [val_perm this, val_snoc, val_none (l := A ++ B) (p := n.Path)]
    · simp [add, md_id hv.1 hv.2]
    · intro m hm e
      rcases List.mem_append.1 hm with q | q
      · have := hs.2.2 m q n (by simp)
        rw [e, sLt_irrefl] at this
        cases this
      · have := hs.2.1.1 m q
        rw [e, sLt_irrefl] at this
        cases this
  · intro hn
    have hex : ∃ m ∈ a, m.Path = n.Path := by
      by_cases hq : ∃ m ∈ a, m.Path = n.Path
      · exact hq
      · rw [val_none (fun m hm e => hq ⟨m, hm, e⟩)] at hn
        cases hn
    obtain ⟨m, hm, e⟩ := hex
    have hv := val_ok ((h.mem m).1 hm)
    obtain ⟨A, B, rfl⟩ := List.append_of_mem hm
    have hs := h.srt
    rw [List.pairwise_append, List.pairwise_cons] at hs
    have : (A ++ m :: B).Perm ((A ++ B) ++ [m]) := List.perm_middle.trans (List.perm_append_singleton m (A ++ B)).symm
    rw [val_perm this, val_snoc, val_none (l := A ++ B) (p := n.Path)] at hn
    · simp [add, e, md_id hv.1 hv.2] at hn
      have : n = m := by cases n; cases m; simp_all
      rw [this]
      simp
    · intro k hk e2
      rcases List.mem_append.1 hk with q | q
      · have := hs.2.2 k q m (by simp)
        rw [e2, e, sLt_irrefl] at this
        cases this
      · have := hs.2.1.1 k q
        rw [e2, e, sLt_irrefl] at this
        cases this
def cov (have_ need : List N) : Bool := need.all fun n => have_.any fun h => sEq h.Path n.Path && (bo (md h.Mode) (md n.Mode) == md h.Mode)
theorem indexFunc_eq (l : List N) (p : N → Option Bool) (q : N → Bool) (hq : ∀ n, p n = some (q n)) : slices_IndexFunc_qN l p = some (match l.findIdx? q with | some j => (j : Int) | none => -1) := by
  unfold slices_IndexFunc_qN
  rw [forN_find q (fun j => (j : Int)) (fun j x hx => ?_)]
  · cases l.findIdx? q <;> rfl
  · rw [idx_at rfl hx]
    simp only [obs, hq]
    cases q x <;> rfl
theorem containsN_eq (l : List N) (p : N → Option Bool) (q : N → Bool) (hq : ∀ n, p n = some (q n)) : slices_ContainsFunc_qN l p = some (l.any q) := by
  unfold slices_ContainsFunc_qN
  rw [indexFunc_eq l p q hq]
  simp only [obs]
  cases h : l.findIdx? q with
  | none =>
    rw [List.findIdx?_eq_none_iff] at h
    have : l.any q = false := by
      rw [List.any_eq_false]
      intro x hx
      rw [h x hx]
      simp
    rw [this]
    rfl
  | some j =>
    have := List.findIdx?_eq_some_iff_getElem.1 h
    obtain ⟨h1, h2, _⟩ := this
    have e : l.any q = true := List.any_eq_true.2 ⟨l[j], List.getElem_mem h1, h2⟩
    rw [e]
    simp
theorem covers_eq (a b : List N) : access_Covers a b = some (cov a b) := by
  unfold access_Covers
  have h2 : ∀ (n h : N), access_Covers_1_1 h n = some (sEq h.Path n.Path && (bo (md h.Mode) (md n.Mode) == md h.Mode)) := by
    intro n h
    unfold access_Covers_1_1
    cases hs : sEq h.Path n.Path with
    | true => simp [mode_eq, both_eq]
    | false => rfl
  have h1 : ∀ n : N, access_Covers_1 n a = some (!(a.any fun h => sEq h.Path n.Path && (bo (md h.Mode) (md n.Mode) == md h.Mode))) := by
    intro n
    unfold access_Covers_1
    rw [containsN_eq a _ _ (fun h => h2 n h)]
    rfl
  rw [containsN_eq b _ _ h1]
  simp only [obs, cov, Option.some.injEq]
  rw [List.not_any_eq_all_not]
  simp
theorem pathLess : Less (fun (u0 : N) (u1 : N) => access_Merge_1 u0 u1) (fun x y => sLt x.Path y.Path) := by
  intro x y
  refine ⟨cmpS x.Path y.Path, rfl, cmpS_lt _ _⟩
theorem pathOrd : Ord (fun x y => sLt x.Path y.Path) := by
  refine ⟨fun h => sLt_asymm h, fun {x y z} h1 h2 => ?_⟩
  rcases sLt_total z.Path x.Path with h | h | h
  · rcases sLt_total y.Path z.Path with k | k | k
    · have := sLt_trans k h
      rw [h1] at this; cases this
    · rw [k, h] at h1; cases h1
    · rw [h2] at k; cases k
  · rw [h]
    exact sLt_irrefl _
  · exact sLt_asymm h
theorem merge_ret (l : List N) (hl : l.length ≤ 100000) : Ret (access_Merge l) (Can l) := by
  unfold access_Merge slices_Clone_qN
  refine yaq (x := l) (by rw [app_le (by simp; omega)]; rfl) ?_
  refine yg (stable_ret pathOrd pathLess l (by unfold room; omega)) ?_
  rintro r ⟨hp, hs⟩
  have hlr := hp.length_eq
  refine yg (forE_ret (I := fun j (s : List N) => Can (r.take j) s ∧ s.length ≤ j ∧ ∀ n ∈ s, ∃ m ∈ r.take j, m.Path = n.Path) ⟨by simpa using Can.nil, by simp, by simp⟩ ?_) ?_
  · rintro j s hj ⟨h1, h2, h3⟩
    refine yaq (idx_mem hj) ?_
    have hx := gE hj
    have ht : r.take (j + 1) = r.take j ++ [r[j]] := (List.take_append_getElem hj).symm
    have hle : ∀ n ∈ s, sLt r[j].Path n.Path = false := by
      intro n hn
      obtain ⟨m, hm, e⟩ := h3 n hn
      rw [← e]
      have hr : r = r.take j ++ r[j] :: r.drop (j + 1) := by rw [List.getElem_cons_drop, List.take_append_drop]
      have hs' : Srt (fun x y => sLt x.Path y.Path) (r.take j ++ r[j] :: r.drop (j + 1)) := by rw [← hr]; exact hs
      rw [Srt, List.pairwise_append] at hs'
      exact hs'.2.2 m hm r[j] List.mem_cons_self
    generalize r[j] = x at *
    rw [ht]
    rw [mode_eq]
    simp only [obs]
    have hfin : ∀ s' : List N, Can (r.take j ++ [x]) s' → s'.length ≤ j + 1 → Can (r.take j ++ [x]) s' ∧ s'.length ≤ j + 1 ∧ ∀ n ∈ s', ∃ m ∈ r.take j ++ [x], m.Path = n.Path := by
      intro s' hc hle'
      refine ⟨hc, hle', fun n hn => ?_⟩
      have hv := (hc.mem n).1 hn
      by_cases hq : ∃ m ∈ r.take j ++ [x], m.Path = n.Path
      · exact hq
      · rw [val_none (fun m hm e => hq ⟨m, hm, e⟩)] at hv
        cases hv
    rcases List.eq_nil_or_concat s with rfl | ⟨L, z, rfl⟩
    · have e0 : decide (w64 (((([] : List N).length : Nat) : Int) - 1) ≥ 0) = false := by
        rw [w64_id] <;> simp
      rw [e0]
      simp only [cond_false, obs]
      have := hfin [(⟨x.Path, md x.Mode⟩ : N)] (by simpa using h1.put (A := []) (B := []) (x := x) (by simp) (by simp)) (by simp)
      refine yaq (x := [(⟨x.Path, md x.Mode⟩ : N)]) (by rw [app_le (by simp)]; rfl) (yd this)
    · rw [List.concat_eq_append] at *
      have el : w64 ((((L ++ [z]).length : Nat) : Int) - 1) = (L.length : Int) := by
        simp only [List.length_append, List.length_cons, List.length_nil] at *
        rw [w64_id] <;> omega
      rw [el]
      rw [show decide ((L.length : Int) ≥ 0) = true from decide_eq_true om]
      have ei : idx (L ++ [z]) (L.length : Int) = some z := idx_mid rfl
      rw [ei]
      simp only [cond_true, obs]
      cases hq : sEq z.Path x.Path with
      | true =>
        simp only [cond_true]
        rw [both_eq]
        simp only [obs]
        have := hfin (L ++ (⟨z.Path, bo z.Mode (md x.Mode)⟩ : N) :: []) (h1.upd (sEq_iff.1 hq)) (by simp only [List.length_append, List.length_cons, List.length_nil] at *; omega)
        refine yd ?_
        rw [show (L ++ [z]).set ((L.length : Int)).toNat (⟨z.Path, bo z.Mode (md x.Mode)⟩ : N) = L ++ (⟨z.Path, bo z.Mode (md x.Mode)⟩ : N) :: [] from set_mid rfl]
        exact this
      | false =>
        simp only [cond_false]
        have hne := sEq_false.1 hq
        have hz : sLt z.Path x.Path = true := by
          rcases sLt_total z.Path x.Path with h | h | h
          · exact h
          · exact absurd h hne
          · rw [hle z (by simp)] at h; cases h
        have hall : ∀ n ∈ L ++ [z], sLt n.Path x.Path = true := by
          intro n hn
          rcases List.mem_append.1 hn with h | h
          · have := h1.srt
            rw [List.pairwise_append] at this
            exact sLt_trans (this.2.2 n h z (by simp)) hz
          · rw [List.mem_singleton] at h
            subst h
            exact hz
        have h1' : Can (r.take j) ((L ++ [z]) ++ []) := by simpa using h1
        have := hfin ((L ++ [z]) ++ (⟨x.Path, md x.Mode⟩ : N) :: []) (h1'.put hall (by simp)) (by simp only [List.length_append, List.length_cons, List.length_nil] at *; omega)
        refine yaq (x := (L ++ [z]) ++ [(⟨x.Path, md x.Mode⟩ : N)]) ?_ (yd this)
        rw [app_le (by simp only [List.length_append, List.length_cons, List.length_nil] at *; omega)]
        rfl
  · rintro s ⟨h1, _, _⟩
    refine yd ?_
    rw [List.take_length] at h1
    exact h1.perm hp
theorem works_eq : law20_works = some true := by
  unfold law20_works
  have hc : Can ([(⟨(⟨#[116]⟩ : By8), 3⟩ : qN), (⟨eB, 2⟩ : qN), (⟨(⟨#[116]⟩ : By8), 2⟩ : qN)] : List qN) [(⟨eB, 2⟩ : qN), (⟨(⟨#[116]⟩ : By8), 4⟩ : qN)] := by
    have lt1 : sLt eB (⟨#[116]⟩ : By8) = true := by
      unfold sLt
      rw [ByteArray.toList_eq, ByteArray.toList_eq]
      rfl
    have h1 : Can ([] ++ [(⟨(⟨#[116]⟩ : By8), 3⟩ : qN)]) ([] ++ [(⟨(⟨#[116]⟩ : By8), 3⟩ : qN)]) := Can.put (l := []) (A := []) (B := []) (x := ⟨⟨#[116]⟩, 3⟩) Can.nil (by simp) (by simp)
    have h2 := Can.put (A := []) (x := (⟨eB, 2⟩ : qN)) h1 (by simp) (by simp [lt1])
    have h3 := Can.upd (A := [(⟨eB, 2⟩ : qN)]) (B := []) (x := (⟨(⟨#[116]⟩ : By8), 2⟩ : qN)) (h0 := (⟨(⟨#[116]⟩ : By8), 3⟩ : qN)) h2 rfl
    exact h3
  obtain ⟨r, hr, hcr⟩ := (merge_ret [(⟨(⟨#[116]⟩ : By8), 3⟩ : qN), (⟨eB, 2⟩ : qN), (⟨(⟨#[116]⟩ : By8), 2⟩ : qN)] (by simp)).ex
  have e := hcr.eq hc
  subst e
  rw [hr]
  simp only [obs]
  rw [covers_eq]
  have hcov : cov [(⟨eB, 2⟩ : qN), (⟨(⟨#[116]⟩ : By8), 4⟩ : qN)] [(⟨eB, 1⟩ : qN)] = true := by
    simp [cov, sEq_refl, md, bo]
  rw [hcov]
  show Option.bind (bif ((2 : Int) == 2) then (some (sEq (⟨#[116]⟩ : By8) (⟨#[116]⟩ : By8) && ((4 : Int) == 4))) else some false) _ = _
  rw [sEq_refl]
  rfl
end Go.Proofs.YtdhfbakalknplaaGreat
