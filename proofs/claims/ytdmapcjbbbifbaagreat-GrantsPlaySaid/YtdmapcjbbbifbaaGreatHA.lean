/- Plain laws: what the plain functions answer. Conditions: none. -/
import Derived.Test.YtdmapcjbbbifbaaGreatF5
set_option maxRecDepth 100000
namespace Go.Proofs.YtdmapcjbbbifbaaGreat
open Go.Gv
def wf_qL (x : qL) : Prop := (fun s => s.size ≤ maxLen) x.Name ∧ (fun n => IntKind.min .i64 ≤ n ∧ n ≤ IntKind.max .i64) x.Type_ ∧ (fun _ => True) x.NotNull
theorem opens_qL : Opens P 73 R_qL wf_qL := by
  intro H enc w fuel cs x h
  obtain ⟨x0, h0, w0⟩ := opens_field kr h 0 (ft := 9) (off := 0) (sz := 1) kr (opens_str kr)
  have e0 := h0
  obtain ⟨x1, h1, w1⟩ := opens_field kr h 1 (ft := 3) (off := 1) (sz := 1) kr (opens_int kr)
  have e1 := h1
  obtain ⟨x2, h2, w2⟩ := opens_field kr h 2 (ft := 4) (off := 2) (sz := 1) kr (opens_bool kr)
  have e2 := h2
  exact ⟨⟨x0, x1, x2⟩, (cut e0 (cut e1 (cut e2 (opens_len kr h (n := 3) kr)))), ⟨w0, w1, w2⟩⟩
def wf_qV (x : qV) : Prop := (fun n => IntKind.min .i64 ≤ n ∧ n ≤ IntKind.max .i64) x.Kind ∧ (fun n => IntKind.min .i64 ≤ n ∧ n ≤ IntKind.max .i64) x.N ∧ (fun s => s.size ≤ maxLen) x.S
theorem opens_qV : Opens P 36 R_qV wf_qV := by
  intro H enc w fuel cs x h
  obtain ⟨x0, h0, w0⟩ := opens_field kr h 0 (ft := 3) (off := 0) (sz := 1) kr (opens_int kr)
  have e0 := h0
  obtain ⟨x1, h1, w1⟩ := opens_field kr h 1 (ft := 3) (off := 1) (sz := 1) kr (opens_int kr)
  have e1 := h1
  obtain ⟨x2, h2, w2⟩ := opens_field kr h 2 (ft := 9) (off := 2) (sz := 1) kr (opens_str kr)
  have e2 := h2
  exact ⟨⟨x0, x1, x2⟩, (cut e0 (cut e1 (cut e2 (opens_len kr h (n := 3) kr)))), ⟨w0, w1, w2⟩⟩
def wf_qE (_ : qE) : Prop := True
theorem opensF_qE : ∀ N : Nat, OpensF P 39 Q_qE wf_qE N
 | 0 => OpensF.zero
 | N + 1 => by
  have ih := opensF_qE N
  intro H enc w fuel cs x hN h
  obtain ⟨x0, h0, w0⟩ := opensF_field kr hN h 0 (ft := 3) (off := 0) (sz := 1) kr (Opens.atF (opens_int kr) N)
  have e0 := h0
  obtain ⟨x1, h1, w1⟩ := opensF_field kr hN h 1 (ft := 3) (off := 1) (sz := 1) kr (Opens.atF (opens_int kr) N)
  have e1 := h1
  obtain ⟨x2, h2, w2⟩ := opensF_field kr hN h 2 (ft := 36) (off := 2) (sz := 3) kr (Opens.atF opens_qV N)
  have e2 := h2
  obtain ⟨x3, h3, w3⟩ := opensF_field kr hN h 3 (ft := 9) (off := 5) (sz := 1) kr (Opens.atF (opens_str kr) N)
  have e3 := h3
  obtain ⟨x4, h4, w4⟩ := opensF_field kr hN h 4 (ft := 37) (off := 6) (sz := 1) kr (opensF_slice (e := 39) kr kr kr ih)
  obtain ⟨a4, c4, e4, f4⟩ := h4
  exact ⟨⟨x0, x1, x2, x3, x4⟩, Q_qE_iff.2 ⟨⟨⟨a4, c4⟩⟩, (cut e0 (cut e1 (cut e2 (cut e3 (cut e4 (opens_len kr h (n := 7) kr)))))), ⟨f4⟩⟩, trivial⟩
theorem opensQ_qE : Opens P 39 Q_qE wf_qE := OpensF.all opensF_qE
theorem opens_qE : Opens P 39 R_qE wf_qE := fun H enc w fuel cs x h => let ⟨a, h1, h2⟩ := opensQ_qE H enc w fuel cs x h; ⟨a, Q_qE_iff.1 h1, h2⟩
def wf_qK (x : qK) : Prop := (fun s => s.size ≤ maxLen) x.Name ∧ (fun n => IntKind.min .i64 ≤ n ∧ n ≤ IntKind.max .i64) x.Kind ∧ (fun xs => xs.length ≤ maxLen ∧ ∀ x ∈ xs, (fun s => s.size ≤ maxLen) x) x.Cols ∧ wf_qE x.Check ∧ (fun s => s.size ≤ maxLen) x.Table ∧ (fun xs => xs.length ≤ maxLen ∧ ∀ x ∈ xs, (fun s => s.size ≤ maxLen) x) x.Refs
theorem opens_qK : Opens P 100 R_qK wf_qK := by
  intro H enc w fuel cs x h
  obtain ⟨x0, h0, w0⟩ := opens_field kr h 0 (ft := 9) (off := 0) (sz := 1) kr (opens_str kr)
  have e0 := h0
  obtain ⟨x1, h1, w1⟩ := opens_field kr h 1 (ft := 3) (off := 1) (sz := 1) kr (opens_int kr)
  have e1 := h1
  obtain ⟨x2, h2, w2⟩ := opens_field kr h 2 (ft := 33) (off := 2) (sz := 1) kr (opens_slice (e := 9) kr kr kr (opens_str kr))
  obtain ⟨a2, c2, e2, f2⟩ := h2
  obtain ⟨x3, h3, w3⟩ := opens_field kr h 3 (ft := 39) (off := 3) (sz := 7) kr opens_qE
  obtain ⟨v3, e3, f3⟩ := h3
  obtain ⟨x4, h4, w4⟩ := opens_field kr h 4 (ft := 9) (off := 10) (sz := 1) kr (opens_str kr)
  have e4 := h4
  obtain ⟨x5, h5, w5⟩ := opens_field kr h 5 (ft := 33) (off := 11) (sz := 1) kr (opens_slice (e := 9) kr kr kr (opens_str kr))
  obtain ⟨a5, c5, e5, f5⟩ := h5
  exact ⟨⟨x0, x1, x2, x3, x4, x5⟩, ⟨⟨⟨a2, c2⟩, v3, ⟨a5, c5⟩⟩, (cut e0 (cut e1 (cut e2 (cut e3 (cut e4 (cut e5 (opens_len kr h (n := 12) kr))))))), ⟨f2, f3, f5⟩⟩, ⟨w0, w1, w2, w3, w4, w5⟩⟩
def wf_qSet (x : qSet) : Prop := (fun s => s.size ≤ maxLen) x.Name ∧ wf_qE x.E
theorem opens_qSet : Opens P 102 R_qSet wf_qSet := by
  intro H enc w fuel cs x h
  obtain ⟨x0, h0, w0⟩ := opens_field kr h 0 (ft := 9) (off := 0) (sz := 1) kr (opens_str kr)
  have e0 := h0
  obtain ⟨x1, h1, w1⟩ := opens_field kr h 1 (ft := 39) (off := 1) (sz := 7) kr opens_qE
  obtain ⟨v1, e1, f1⟩ := h1
  exact ⟨⟨x0, x1⟩, ⟨⟨v1⟩, (cut e0 (cut e1 (opens_len kr h (n := 8) kr))), ⟨f1⟩⟩, ⟨w0, w1⟩⟩
def wf_qO (x : qO) : Prop := wf_qE x.E ∧ (fun _ => True) x.Desc
theorem opens_qO : Opens P 104 R_qO wf_qO := by
  intro H enc w fuel cs x h
  obtain ⟨x0, h0, w0⟩ := opens_field kr h 0 (ft := 39) (off := 0) (sz := 7) kr opens_qE
  obtain ⟨v0, e0, f0⟩ := h0
  obtain ⟨x1, h1, w1⟩ := opens_field kr h 1 (ft := 4) (off := 7) (sz := 1) kr (opens_bool kr)
  have e1 := h1
  exact ⟨⟨x0, x1⟩, ⟨⟨v0⟩, (cut e0 (cut e1 (opens_len kr h (n := 8) kr))), ⟨f0⟩⟩, ⟨w0, w1⟩⟩
def wf_qS (_ : qS) : Prop := True
theorem opensF_qS : ∀ N : Nat, OpensF P 44 Q_qS wf_qS N
 | 0 => OpensF.zero
 | N + 1 => by
  have ih := opensF_qS N
  intro H enc w fuel cs x hN h
  obtain ⟨x0, h0, w0⟩ := opensF_field kr hN h 0 (ft := 3) (off := 0) (sz := 1) kr (Opens.atF (opens_int kr) N)
  have e0 := h0
  obtain ⟨x1, h1, w1⟩ := opensF_field kr hN h 1 (ft := 9) (off := 1) (sz := 1) kr (Opens.atF (opens_str kr) N)
  have e1 := h1
  obtain ⟨x2, h2, w2⟩ := opensF_field kr hN h 2 (ft := 9) (off := 2) (sz := 1) kr (Opens.atF (opens_str kr) N)
  have e2 := h2
  obtain ⟨x3, h3, w3⟩ := opensF_field kr hN h 3 (ft := 9) (off := 3) (sz := 1) kr (Opens.atF (opens_str kr) N)
  have e3 := h3
  obtain ⟨x4, h4, w4⟩ := opensF_field kr hN h 4 (ft := 31) (off := 4) (sz := 1) kr (Opens.atF (opens_slice (e := 73) kr kr kr opens_qL) N)
  obtain ⟨a4, c4, e4, f4⟩ := h4
  obtain ⟨x5, h5, w5⟩ := opensF_field kr hN h 5 (ft := 32) (off := 5) (sz := 1) kr (Opens.atF (opens_slice (e := 100) kr kr kr opens_qK) N)
  obtain ⟨a5, c5, e5, f5⟩ := h5
  obtain ⟨x6, h6, w6⟩ := opensF_field kr hN h 6 (ft := 33) (off := 6) (sz := 1) kr (Opens.atF (opens_slice (e := 9) kr kr kr (opens_str kr)) N)
  obtain ⟨a6, c6, e6, f6⟩ := h6
  obtain ⟨x7, h7, w7⟩ := opensF_field kr hN h 7 (ft := 34) (off := 7) (sz := 1) kr (Opens.atF (opens_slice (e := 37) kr kr kr (opens_slice (e := 39) kr kr kr opensQ_qE)) N)
  obtain ⟨a7, c7, e7, f7⟩ := h7
  obtain ⟨x8, h8, w8⟩ := opensF_field kr hN h 8 (ft := 39) (off := 8) (sz := 7) kr (Opens.atF opens_qE N)
  obtain ⟨v8, e8, f8⟩ := h8
  obtain ⟨x9, h9, w9⟩ := opensF_field kr hN h 9 (ft := 40) (off := 15) (sz := 1) kr (Opens.atF (opens_slice (e := 102) kr kr kr opens_qSet) N)
  obtain ⟨a9, c9, e9, f9⟩ := h9
  obtain ⟨x10, h10, w10⟩ := opensF_field kr hN h 10 (ft := 41) (off := 16) (sz := 1) kr (Opens.atF (opens_slice (e := 104) kr kr kr opens_qO) N)
  obtain ⟨a10, c10, e10, f10⟩ := h10
  obtain ⟨x11, h11, w11⟩ := opensF_field kr hN h 11 (ft := 3) (off := 17) (sz := 1) kr (Opens.atF (opens_int kr) N)
  have e11 := h11
  obtain ⟨x12, h12, w12⟩ := opensF_field kr hN h 12 (ft := 3) (off := 18) (sz := 1) kr (Opens.atF (opens_int kr) N)
  have e12 := h12
  obtain ⟨x13, h13, w13⟩ := opensF_field kr hN h 13 (ft := 4) (off := 19) (sz := 1) kr (Opens.atF (opens_bool kr) N)
  have e13 := h13
  obtain ⟨x14, h14, w14⟩ := opensF_field kr hN h 14 (ft := 42) (off := 20) (sz := 1) kr (opensF_slice (e := 44) kr kr kr ih)
  obtain ⟨a14, c14, e14, f14⟩ := h14
  exact ⟨⟨x0, x1, x2, x3, x4, x5, x6, x7, x8, x9, x10, x11, x12, x13, x14⟩, Q_qS_iff.2 ⟨⟨⟨a4, c4⟩, ⟨a5, c5⟩, ⟨a6, c6⟩, ⟨a7, c7⟩, v8, ⟨a9, c9⟩, ⟨a10, c10⟩, ⟨a14, c14⟩⟩, (cut e0 (cut e1 (cut e2 (cut e3 (cut e4 (cut e5 (cut e6 (cut e7 (cut e8 (cut e9 (cut e10 (cut e11 (cut e12 (cut e13 (cut e14 (opens_len kr h (n := 21) kr)))))))))))))))), ⟨f4, f5, f6, f7, f8, f9, f10, f14⟩⟩, trivial⟩
theorem opensQ_qS : Opens P 44 Q_qS wf_qS := OpensF.all opensF_qS
theorem opens_qS : Opens P 44 R_qS wf_qS := fun H enc w fuel cs x h => let ⟨a, h1, h2⟩ := opensQ_qS H enc w fuel cs x h; ⟨a, Q_qS_iff.1 h1, h2⟩
def wf_law19_Act (x : law19_Act) : Prop := wf_qS x.S ∧ (fun s => s.size ≤ maxLen) x.By
theorem opens_law19_Act : Opens P 46 R_law19_Act wf_law19_Act := by
  intro H enc w fuel cs x h
  obtain ⟨x0, h0, w0⟩ := opens_field kr h 0 (ft := 44) (off := 0) (sz := 21) kr opens_qS
  obtain ⟨v0, e0, f0⟩ := h0
  obtain ⟨x1, h1, w1⟩ := opens_field kr h 1 (ft := 9) (off := 21) (sz := 1) kr (opens_str kr)
  have e1 := h1
  exact ⟨⟨x0, x1⟩, ⟨⟨v0⟩, (cut e0 (cut e1 (opens_len kr h (n := 22) kr))), ⟨f0⟩⟩, ⟨w0, w1⟩⟩
abbrev Role := qJ
theorem keq : KEq sEq := fun a b => by
  rw [sEq_data]
  constructor
  · intro h
    have h := eq_of_beq h
    cases a; cases b
    simp only at h
    congr
    exact Array.toList_inj.1 h
  · rintro rfl
    simp
theorem at_eq (l : List Role) (n : By8) : member_at l n = some (match l.findIdx? (fun x => sEq x.Name n) with | some j => (j : Int) | none => -1) := by
  unfold member_at slices_IndexFunc_qJ
  rw [forN_find (fun x : Role => sEq x.Name n) (fun j => (j : Int))]
  · cases l.findIdx? (fun x => sEq x.Name n) <;> rfl
  · intro j x hx
    simp only [idx_nat, hx, obs]
    unfold member_at_1
    simp only [obs]
    cases sEq x.Name n <;> rfl
theorem at_spec (l : List Role) (n : By8) : ((∀ y ∈ l, y.Name ≠ n) ∧ member_at l n = some (-1)) ∨ ∃ A x B, l = A ++ x :: B ∧ x.Name = n ∧ (∀ y ∈ A, y.Name ≠ n) ∧ member_at l n = some (A.length : Int) := by
  rw [at_eq]
  rcases find_cases (fun x : Role => sEq x.Name n) l with ⟨h, e⟩ | ⟨A, x, B, h1, h2, h3, h4⟩
  · left
    refine ⟨fun y hy e1 => ?_, by rw [e]⟩
    have := h y hy
    rw [(keq _ _).2 e1] at this
    cases this
  · right
    refine ⟨A, x, B, h1, (keq _ _).1 h2, fun y hy e1 => ?_, by rw [h4]⟩
    have := h3 y hy
    rw [(keq _ _).2 e1] at this
    cases this
def ins (l : List Role) (n : By8) : List By8 := ((l.find? fun x => sEq x.Name n).map (·.In)).getD []
def has (l : List Role) (n : By8) : Prop := ∃ x ∈ l, x.Name = n
theorem at_has (l : List Role) (n : By8) : ∃ i, member_at l n = some i ∧ (0 ≤ i ↔ has l n) := by
  rcases at_spec l n with ⟨h, e⟩ | ⟨A, x, B, h1, h2, h3, h4⟩
  · exact ⟨_, e, ⟨fun hi => by omega, fun ⟨x, hx, hn⟩ => absurd hn (h x hx)⟩⟩
  · exact ⟨_, h4, ⟨fun _ => ⟨x, by rw [h1]; simp, h2⟩, fun _ => by omega⟩⟩
theorem find_eq (l : List Role) (n : By8) (hs : ∀ x ∈ l, x.In.length ≤ 1000) : ∃ r b, member_Find l n = some (r, b) ∧ r.In = ins l n ∧ (b = true ↔ has l n) ∧ (b = true → r.Name = n) := by
  unfold member_Find
  rcases at_spec l n with ⟨h, e⟩ | ⟨A, x, B, h1, h2, h3, h4⟩
  · rw [e]
    refine ⟨z_qJ, false, rfl, ?_, ?_, by simp⟩
    · unfold ins
      rw [List.find?_eq_none.2]
      · rfl
      · intro y hy hn
        exact h y hy ((keq _ _).1 hn)
    · constructor
      · intro hb; cases hb
      · rintro ⟨x, hx, hn⟩; exact absurd hn (h x hx)
  · rw [h4]
    simp only [obs]
    rw [show decide ((A.length : Int) < 0) = false by simp]
    have hx : idx l (A.length : Int) = some x := by
      rw [h1, idx_nat, List.getElem?_append_right (Nat.le_refl _), Nat.sub_self]
      rfl
    simp only [cond_false]
    rw [hx]
    simp only [obs]
    have hxl : x ∈ l := by rw [h1]; simp
    have hc : slices_Clone_string x.In = some x.In := by
      unfold slices_Clone_string
      have := hs x hxl
      rw [app_le (by simp; omega)]
      rfl
    rw [hc]
    refine ⟨{ x with In := x.In }, true, rfl, ?_, ⟨fun _ => ⟨x, hxl, h2⟩, fun _ => rfl⟩, fun _ => h2⟩
    unfold ins
    rw [h1, List.find?_append, List.find?_eq_none.2]
    · simp [(keq _ _).2 h2]
    · intro y hy hn
      exact h3 y hy ((keq _ _).1 hn)
inductive Rch (l : List Role) (n : By8) : By8 → Prop
  | self : Rch l n n
  | step {a b : By8} : Rch l n a → b ∈ ins l a → has l b → Rch l n b
structure Up (l : List Role) (n : By8) (g : Bool) (all : List (By8 × Bool)) : Prop where
  nd : (all.map (·.1)).Nodup
  self : n ∈ all.map (·.1)
  so : ∀ k ∈ all.map (·.1), Rch l n k ∧ has l k
  tr : ∀ k, (mget sEq all k).getD false = true ↔ k ∈ all.map (·.1)
  cl : g = false → ∀ a ∈ all.map (·.1), ∀ b ∈ ins l a, has l b → b ∈ all.map (·.1)
theorem Up.len {l : List Role} {n : By8} {g : Bool} {all : List (By8 × Bool)} (h : Up l n g all) : all.length ≤ l.length := by
  have := List.Nodup.length_le_of_subset (l₂ := l.map (·.Name)) h.nd (fun k hk => by
    obtain ⟨x, hx, e⟩ := (h.so k hk).2
    exact List.mem_map.2 ⟨x, hx, e⟩)
  simpa using this
theorem tr_set {all : List (By8 × Bool)} (h : ∀ k, (mget sEq all k).getD false = true ↔ k ∈ all.map (·.1)) (b : By8) : ∀ k, (mget sEq (mset sEq all b true) k).getD false = true ↔ k ∈ (mset sEq all b true).map (·.1) := by
  intro k
  rw [mget_mset keq, mset_mem keq]
  by_cases e : k = b
  · subst e
    rw [keq.refl]
    simp
  · rw [keq.ne e]
    simp only [cond_false]
    rw [h]
    constructor
    · exact .inr
    · rintro (h1 | h1)
      · exact absurd h1 e
      · exact h1
theorem put_all (more : List By8) (all : List (By8 × Bool)) : forE (fun (i53 : Nat) (s52 : List (By8 × Bool)) => (idx more (i53 : Int)).bind (fun (x61 : By8) => some (mset sEq s52 x61 true))) more.length 0 all = some (more.foldl (fun s x => mset sEq s x true) all) :=
  forE_list (fun s x => mset sEq s x true) fun j x s hx => by rw [idx_nat, hx]; rfl
theorem fold_spec {more : List By8} : ∀ {all : List (By8 × Bool)}, (all.map (·.1)).Nodup → (∀ k, (mget sEq all k).getD false = true ↔ k ∈ all.map (·.1)) →
    ((more.foldl (fun s x => mset sEq s x true) all).map (·.1)).Nodup ∧ (∀ k, (mget sEq (more.foldl (fun s x => mset sEq s x true) all) k).getD false = true ↔ k ∈ (more.foldl (fun s x => mset sEq s x true) all).map (·.1)) ∧
    ∀ k, k ∈ (more.foldl (fun s x => mset sEq s x true) all).map (·.1) ↔ k ∈ more ∨ k ∈ all.map (·.1) := by
  induction more with
  | nil => intro all h1 h2; exact ⟨h1, h2, fun k => by simp⟩
  | cons b more ih =>
    intro all h1 h2
    obtain ⟨g1, g2, g3⟩ := ih (all := mset sEq all b true) (mset_nodup keq h1 b true) (tr_set h2 b)
    refine ⟨g1, g2, fun k => ?_⟩
    rw [List.foldl_cons, g3, mset_mem keq, List.mem_cons]
    constructor
    · rintro (h | h | h)
      · exact .inl (.inr h)
      · exact .inl (.inl h)
      · exact .inr h
    · rintro ((h | h) | h)
      · exact .inr (.inl h)
      · exact .inl h
      · exact .inr (.inr h)
theorem ex_inl {α τ : Type} {m : Option (α ⊕ τ)} {G : α → Prop} (h : Ret m (fun y => ∃ s', y = .inl s' ∧ G s')) : ∃ s', m = some (.inl s') ∧ G s' := by
  obtain ⟨y, e, s', rfl, hg⟩ := h.ex
  exact ⟨s', e, hg⟩
theorem more_all {l : List Role} {n : By8} {g : Bool} {all : List (By8 × Bool)} (h : Up l n g all) (hl : l.length ≤ 100) (hi : ∀ x ∈ l, x.In.length ≤ 100) (Q : (List By8) ⊕ Unit → Prop)
    (hq : ∀ more : List By8, (∀ b ∈ more, b ∉ all.map (·.1) ∧ ∃ a ∈ all.map (·.1), b ∈ ins l a ∧ has l b) → (∀ a ∈ all.map (·.1), ∀ b ∈ ins l a, has l b → b ∈ all.map (·.1) ∨ b ∈ more) → Q (.inl more)) :
    rangeM (τ := Unit) (fun (k71 : By8) (x72 : Bool) (s33 : List By8) => (member_Find l k71).bind (fun ((r91, r92) : qJ × Bool) => (forE (fun (i103 : Nat) (s102 : List By8) => (idx r91.In (i103 : Int)).bind (fun (x114 : By8) => (some ((mget sEq all x114).getD false)).bind (fun (x115 : Bool) => ((bif (!x115) then (member_at l x114).bind (fun (r125 : Int) => some (decide (r125 ≥ 0))) else some false)).bind (fun (j116 : Bool) => ((bif j116 then (app 16 s102 ([x114] : List By8)).bind (fun (x140 : List By8) => some x140) else some s102)).bind (fun (j128 : List By8) => some j128))))) r91.In.length 0 s33).bind (fun (s102 : (List By8)) => some (.inl s102)))) all ([] : List By8) Q := by
  have hins : ∀ a, (ins l a).length ≤ 100 := by
    intro a
    unfold ins
    cases hf : l.find? (fun x => sEq x.Name a) with
    | none => simp
    | some x => simpa using hi x (List.mem_of_find?_eq_some hf)
  have hal := h.len
  refine rangeM_inv (fun vis s => s.length ≤ vis.length * 100 ∧ (∀ b ∈ s, b ∉ all.map (·.1) ∧ ∃ a ∈ all.map (·.1), b ∈ ins l a ∧ has l b) ∧ ∀ a ∈ vis.map (·.1), ∀ b ∈ ins l a, has l b → b ∈ all.map (·.1) ∨ b ∈ s) ⟨by simp, by simp, by simp⟩ ?_ ?_
  · rintro vis k x rem s hp ⟨h1, h2, h3⟩
    have hk : k ∈ all.map (·.1) := List.mem_map.2 ⟨(k, x), hp.mem_iff.1 (by simp), rfl⟩
    have hvl : vis.length ≤ 100 := by have := hp.length_eq; simp at this; omega
    obtain ⟨r, b, e, hr, _, _⟩ := find_eq l k (fun x hx => by have := hi x hx; omega)
    rw [e]
    simp only [obs]
    have hrl : r.In.length ≤ 100 := by rw [hr]; exact hins k
    refine ex_inl (yh (R := fun (s' : List By8) => s'.length ≤ s.length + r.In.length ∧ (∀ b ∈ s', b ∉ all.map (·.1) ∧ ∃ a ∈ all.map (·.1), b ∈ ins l a ∧ has l b) ∧ (∀ b ∈ s, b ∈ s') ∧ ∀ b ∈ r.In.take r.In.length, has l b → b ∈ all.map (·.1) ∨ b ∈ s') (forE_ret (fun i (s' : List By8) => s'.length ≤ s.length + i ∧ (∀ b ∈ s', b ∉ all.map (·.1) ∧ ∃ a ∈ all.map (·.1), b ∈ ins l a ∧ has l b) ∧ (∀ b ∈ s, b ∈ s') ∧ ∀ b ∈ r.In.take i, has l b → b ∈ all.map (·.1) ∨ b ∈ s') ⟨by simp, h2, fun b hb => hb, by simp⟩ ?_) ?_)
    · rintro i s' hi2 ⟨g1, g2, g3, g4⟩
      have hx : r.In[i]? = some r.In[i] := gE hi2
      simp only [idx_nat, hx, obs]
      obtain ⟨p, hp1, hp2⟩ := at_has l r.In[i]
      refine yh (R := fun j => j = true ↔ r.In[i] ∉ all.map (·.1) ∧ has l r.In[i]) ?_ ?_
      · cases hm : (mget sEq all r.In[i]).getD false with
        | true =>
          refine yd ?_
          simp only [Bool.false_eq_true, false_iff]
          exact fun hh => hh.1 ((h.tr _).1 hm)
        | false =>
          simp only [Bool.not_false, cond_true]
          rw [hp1]
          refine yd ?_
          rw [decide_eq_true_eq, ge_iff_le, hp2]
          constructor
          · intro hh
            refine ⟨fun hin => ?_, hh⟩
            rw [(h.tr _).2 hin] at hm
            cases hm
          · exact fun hh => hh.2
      rintro j hj
      cases j with
      | true =>
        simp only [cond_true]
        rw [app_le (by simp; omega)]
        have hj' := hj.1 rfl
        refine yd ⟨by simp; omega, fun b hb => ?_, fun b hb => List.mem_append_left _ (g3 b hb), fun b hb hh => ?_⟩
        · rw [List.mem_append, List.mem_singleton] at hb
          rcases hb with hb | rfl
          · exact g2 b hb
          · exact ⟨hj'.1, k, hk, by rw [← hr]; exact List.getElem_mem hi2, hj'.2⟩
        · rw [take_snoc hx, List.mem_append, List.mem_singleton] at hb
          rcases hb with hb | rfl
          · rcases g4 b hb hh with q | q
            · exact .inl q
            · exact .inr (List.mem_append_left _ q)
          · exact .inr (by simp)
      | false =>
        refine yd ⟨by omega, g2, g3, fun b hb hh => ?_⟩
        rw [take_snoc hx, List.mem_append, List.mem_singleton] at hb
        rcases hb with hb | rfl
        · exact g4 b hb hh
        · refine .inl (Classical.byContradiction fun hn => ?_)
          have := hj.2 ⟨hn, hh⟩
          cases this
    · rintro s' ⟨g1, g2, g3, g4⟩
      rw [List.take_length] at g4
      refine yd ⟨s', rfl, by simp; omega, g2, fun a ha b hb hh => ?_⟩
      rw [List.map_append, List.mem_append] at ha
      rcases ha with ha | ha
      · rcases h3 a ha b hb hh with q | q
        · exact .inl q
        · exact .inr (g3 b q)
      · simp at ha
        subst ha
        exact g4 b (by rw [hr]; exact hb) hh
  · rintro vis s hp ⟨_, h2, h3⟩
    exact hq s h2 fun a ha => h3 a (by rw [(hp.map (·.1)).mem_iff]; exact ha)
theorem sortS_perm (xs : List By8) : (sortS xs).Perm xs := by
  unfold sortS
  refine ((List.mergeSort_perm _ _).map ub).trans ?_
  rw [List.map_map]
  have : xs.map (ub ∘ bs) = xs := by
    have : ub ∘ bs = id := funext ub_bs
    rw [this, List.map_id]
  rw [this]
theorem bl_lt : ∀ (x y : List UInt8), Op.bytesLess x y = decide (x < y)
  | _, [] => by simp [Op.bytesLess]
  | [], y :: ys => by simp [Op.bytesLess]
  | x :: xs, y :: ys => by
    simp only [Op.bytesLess, bl_lt xs ys]
    rw [Bool.eq_iff_iff]
    simp only [List.cons_lt_cons_iff, decide_eq_true_eq, Bool.or_eq_true, Bool.and_eq_true, beq_iff_eq]
theorem sorted (xs : List By8) : (sortS xs).Pairwise (fun a b => sLt b a = false) := by
  unfold sortS
  rw [List.pairwise_map]
  refine (List.pairwise_mergeSort ?_ ?_ _).imp ?_
  · intro a b c h1 h2
    simp only [decide_eq_true_eq] at h1 h2 ⊢
    exact List.le_trans h1 h2
  · intro a b
    simp only [Bool.or_eq_true, decide_eq_true_eq]
    exact List.le_total a b
  · intro a b h
    have h := of_decide_eq_true h
    rw [sLt_data]
    show Op.bytesLess (bs (ub b)) (bs (ub a)) = false
    rw [bs_ub, bs_ub]
    cases hb : Op.bytesLess b a with
    | false => rfl
    | true =>
      exfalso
      have : b < a := by
        have e := bl_lt b a
        rw [hb] at e
        simpa using e.symm
      exact (List.not_lt.2 h) this
theorem lt_of (a b : By8) (h1 : sLt b a = false) (h2 : a ≠ b) : sLt a b = true := by
  rcases sLt_total a b with h | h | h
  · exact h
  · exact absurd h h2
  · rw [h] at h1; cases h1
theorem condM_of {α : Type} {b : Bool} {x y : M α} {Q : α → Prop} (h1 : b = true → x Q) (h2 : b = false → y Q) : (cond b x y) Q := by cases b; exact h2 rfl; exact h1 rfl
def Good (l : List Role) (n : By8) (r : List By8) : Prop := (has l n → r.Pairwise (fun a b => sLt a b = true) ∧ ∀ k, k ∈ r ↔ Rch l n k) ∧ (¬ has l n → r = [])
theorem all_good {l : List Role} {n : By8} (hl : l.length ≤ 100) (hi : ∀ x ∈ l, x.In.length ≤ 100) (hz : ∀ x ∈ l, x.Name.size ≤ 1000) : member_AllM l n (Good l n) := by
  unfold member_AllM
  obtain ⟨i, e, hi2⟩ := at_has l n
  refine ⟨i, e, ?_⟩
  refine condM_of (fun hd => ?_) (fun hd => ?_)
  · have hn : ¬ has l n := fun hh => by have := hi2.2 hh; simp at hd; omega
    exact ⟨fun hh => absurd hh hn, fun _ => rfl⟩
  · have hn : has l n := hi2.1 (by simp at hd; omega)
    refine loopM_inv (fun s A B hAB h => ?_) (fun (s : Bool × List (By8 × Bool)) => Up l n s.1 s.2) (fun s => 2 * (l.length + 1 - s.2.length) + (if s.1 then 1 else 0)) ?_ ?_
    · obtain ⟨g, all⟩ := s
      exact (Mono_.cond (Mono_.bind (Mono_.range _ _ _) (fun t => by cases t with | inl s => exact @Mono_.bind _ _ (optM _) (fun _ => retM _) (Mono_.opt _) (fun _ => Mono_.ret _) | inr u => exact Mono_.no)) (Mono_.ret _)) A B hAB h
    · rintro ⟨g, all⟩ h
      simp only at h
      have hlen := h.len
      cases g with
      | true =>
        refine more_all h hl hi _ (fun more h1 h2 => ⟨_, put_all more all, ?_⟩)
        obtain ⟨g1, g2, g3⟩ := fold_spec (more := more) h.nd h.tr
        have hup : Up l n (decide ((more.length : Int) > 0)) (more.foldl (fun s x => mset sEq s x true) all) := by
          refine ⟨g1, (g3 n).2 (.inr h.self), fun k hk => ?_, g2, fun hg a ha b hb hh => ?_⟩
          · rcases (g3 k).1 hk with hk | hk
            · obtain ⟨_, a, ha, hb, hh⟩ := h1 k hk
              exact ⟨.step (h.so a ha).1 hb hh, hh⟩
            · exact h.so k hk
          · have hm : more = [] := by
              cases more with
              | nil => rfl
              | cons x r => simp at hg
            subst hm
            rcases h2 a ha b hb hh with q | q
            · exact q
            · cases q
        refine ⟨hup, ?_⟩
        have hlen2 := hup.len
        simp only [if_true]
        cases more with
        | nil => simp
        | cons x r =>
          have hx := (h1 x (by simp)).1
          have hnd : (x :: all.map (·.1)).Nodup := List.nodup_cons.2 ⟨hx, h.nd⟩
          have := List.Nodup.length_le_of_subset hnd (l₂ := ((x :: r).foldl (fun s x => mset sEq s x true) all).map (·.1)) (fun k hk => by
            rcases List.mem_cons.1 hk with rfl | hk
            · exact (g3 _).2 (.inl (by simp))
            · exact (g3 _).2 (.inr hk))
          simp only [List.length_cons, List.length_map] at this
          split <;> omega
      | false =>
        have hk : keysO all = some (sortS (all.map (·.1))) := by
          unfold keysO
          rw [if_pos ⟨h.nd, by omega, fun k hk => by obtain ⟨x, hx, rfl⟩ := (h.so k hk).2; have := hz x hx; simp only [maxLen]; omega⟩]
        refine ⟨_, hk, fun _ => ⟨?_, fun k => ?_⟩, fun hh => absurd hn hh⟩
        · have hp := sortS_perm (all.map (·.1))
          have hnd : (sortS (all.map (·.1))).Nodup := hp.nodup_iff.2 h.nd
          exact (List.Pairwise.and (sorted _) hnd).imp fun {a b} hab => lt_of a b hab.1 hab.2
        · rw [(sortS_perm _).mem_iff]
          constructor
          · exact fun hk => (h.so k hk).1
          · intro hr
            induction hr with
            | self => exact h.self
            | step _ hb hh ih => exact h.cl rfl _ ih _ hb hh
    · simp only
      refine ⟨by simp [mset_nil], by simp [mset_nil], fun k hk => ?_, tr_set (all := []) (fun k => by simp [mget_nil]) n, fun hg => by cases hg⟩
      simp [mset_nil] at hk
      subst hk
      exact ⟨.self, hn⟩
theorem strict_eq {α : Type} {lt : α → α → Prop} (hi : ∀ x, ¬ lt x x) (ha : ∀ x y, lt x y → ¬ lt y x) : ∀ (a b : List α), a.Pairwise lt → b.Pairwise lt → (∀ n, n ∈ a ↔ n ∈ b) → a = b
  | [], [], _, _, _ => rfl
  | [], y :: b, _, _, h => by have := (h y).2 (by simp); cases this
  | x :: a, [], _, _, h => by have := (h x).1 (by simp); cases this
  | x :: a, y :: b, h1, h2, h => by
    have h1' := List.pairwise_cons.1 h1
    have h2' := List.pairwise_cons.1 h2
    have e : x = y := by
      rcases List.mem_cons.1 ((h x).1 (by simp)) with e | g1
      · exact e
      · rcases List.mem_cons.1 ((h y).2 (by simp)) with e | g2
        · exact e.symm
        · exact absurd (h1'.1 y g2) (ha _ _ (h2'.1 x g1))
    subst e
    rw [strict_eq hi ha a b h1'.2 h2'.2 (fun n => ?_)]
    constructor
    · intro hn
      rcases List.mem_cons.1 ((h n).1 (by simp [hn])) with rfl | g1
      · exact absurd (h1'.1 n hn) (hi n)
      · exact g1
    · intro hn
      rcases List.mem_cons.1 ((h n).2 (by simp [hn])) with rfl | g1
      · exact absurd (h2'.1 n hn) (hi n)
      · exact g1
theorem key_eq {α : Type} (K : α → By8) (a b : List α) (h1 : a.Pairwise (fun u v => sLt (K u) (K v) = true)) (h2 : b.Pairwise (fun u v => sLt (K u) (K v) = true)) (h : ∀ n, n ∈ a ↔ n ∈ b) : a = b :=
  strict_eq (lt := fun u v => sLt (K u) (K v) = true) (fun x h => by rw [sLt_irrefl] at h; cases h) (fun x y h g => by rw [sLt_asymm h] at g; cases g) a b h1 h2 h
theorem Good.uniq {l : List Role} {n : By8} {a b : List By8} (h1 : Good l n a) (h2 : Good l n b) : a = b := by
  by_cases hn : has l n
  · exact key_eq (fun k => k) a b (h1.1 hn).1 (h2.1 hn).1 fun k => ((h1.1 hn).2 k).trans ((h2.1 hn).2 k).symm
  · rw [h1.2 hn, h2.2 hn]
theorem Mono_.loop {σ τ : Type} {step : σ → M (σ ⊕ τ)} (h : ∀ s, Mono_ (step s)) (s : σ) : Mono_ (loopM step s) := by
  rintro Q Q' hq ⟨k, hk⟩
  refine ⟨k, ?_⟩
  induction k generalizing s with
  | zero => exact hk
  | succ k ih =>
    refine h s _ _ ?_ hk
    rintro (s' | t) hx
    · exact ih s' hx
    · exact hq t hx
theorem all_mono (l : List Role) (n : By8) : Mono_ (member_AllM l n) := by
  unfold member_AllM
  refine Mono_.bind (Mono_.opt _) fun i => Mono_.cond (Mono_.ret _) (Mono_.bind (Mono_.loop (fun s => ?_) _) fun t => Mono_.bind (Mono_.opt _) fun _ => Mono_.ret _)
  obtain ⟨g, all⟩ := s
  exact Mono_.cond (Mono_.bind (Mono_.range _ _ _) (fun t => by cases t with | inl s => exact @Mono_.bind _ _ (optM _) (fun _ => retM _) (Mono_.opt _) (fun _ => Mono_.ret _) | inr u => exact Mono_.no)) (Mono_.ret _)
theorem all_meets (l : List Role) (n : By8) : Meets (member_AllM l n) := by
  unfold member_AllM
  refine Meets.bind (Meets.opt _) fun i => Meets.cond (Meets.ret _) (Meets.bind (Meets.loop (fun s => ?_) _) fun t => Meets.bind (Meets.opt _) fun _ => Meets.ret _)
  obtain ⟨g, all⟩ := s
  exact Meets.cond (Meets.bind (Meets.range _ _ _) (fun t => by cases t with | inl s => exact @Meets.bind _ _ (optM _) (fun _ => retM _) (Meets.opt _) (fun _ => Meets.ret _) | inr u => exact Meets.no)) (Meets.ret _)
theorem all_eq {l : List Role} {n : By8} (hl : l.length ≤ 100) (hi : ∀ x ∈ l, x.In.length ≤ 100) (hz : ∀ x ∈ l, x.Name.size ≤ 1000) : ∃ r, member_All l n = some r ∧ Good l n r := by
  have h := all_good (n := n) hl hi hz
  obtain ⟨r, hr, _⟩ := all_meets l n _ _ h h
  exact ⟨r, ofM_eq (all_mono l n _ _ (fun x hx => hx.uniq hr) h) (all_meets l n), hr⟩
abbrev Asc (s : List By8) : Prop := s.Pairwise (fun a b => sLt a b = true)
theorem Asc.drop_lt {s : List By8} (hs : Asc s) {i : Nat} {x y : By8} (h : ∀ z, s[i]? = some z → sLt x z = true) (hy : y ∈ s.drop i) : sLt x y = true := by
  obtain ⟨j, hj⟩ := List.mem_iff_getElem?.1 hy
  rw [List.getElem?_drop] at hj
  have hlt : i < s.length := by have := (List.getElem?_eq_some_iff.1 hj).1; omega
  have hi := h _ (gE hlt)
  cases j with
  | zero => rw [Nat.add_zero] at hj; exact h y hj
  | succ j =>
    obtain ⟨hj1, rfl⟩ := List.getElem?_eq_some_iff.1 hj
    exact sLt_trans hi (List.pairwise_iff_getElem.1 hs i (i + (j + 1)) hlt hj1 om)
theorem Asc.ins {A B : List By8} {x : By8} (hs : Asc (A ++ B)) (h1 : ∀ y ∈ A, sLt y x = true) (h2 : ∀ y ∈ B, sLt x y = true) : Asc (A ++ x :: B) := by
  have h := List.pairwise_append.1 hs
  refine List.pairwise_append.2 ⟨h.1, List.pairwise_cons.2 ⟨h2, h.2.1⟩, fun a ha b hb => ?_⟩
  rcases List.mem_cons.1 hb with rfl | hb
  · exact h1 a ha
  · exact h.2.2 a ha b hb
theorem any_find {xs : List By8} {n : By8} {p : By8 → Bool} (hp : ∀ x, p x = true ↔ x = n) : (xs.findIdx? p).isSome = true ↔ n ∈ xs := by
  rcases find_cases p xs with ⟨h, e⟩ | ⟨A, x, B, h1, h2, h3, h4⟩
  · rw [e]
    refine Iff.intro (fun h => Bool.noConfusion h) (fun hn => ?_)
    have := h n hn
    rw [(hp n).2 rfl] at this
    cases this
  · rw [h4]
    exact ⟨fun _ => by rw [h1, ← (hp x).1 h2]; simp, fun _ => rfl⟩
theorem has_eq (xs : List By8) (n : By8) : ∃ b, r14_Has xs n = some b ∧ (b = true ↔ n ∈ xs) := by
  unfold r14_Has
  rw [forN_find (fun x => sEq x n) (fun _ => true) (fun j x hx => by simp only [idx_nat, hx, obs]; cases sEq x n <;> rfl)]
  have := any_find (xs := xs) (n := n) (p := fun x => sEq x n) (fun x => keq x n)
  cases h : xs.findIdx? (fun x => sEq x n) with
  | none => rw [h] at this; exact ⟨false, rfl, by rw [← this]; simp⟩
  | some j => rw [h] at this; exact ⟨true, rfl, by rw [← this]; simp⟩
theorem contains_eq (xs : List By8) (n : By8) : ∃ b, slices_Contains_string xs n = some b ∧ (b = true ↔ n ∈ xs) := by
  unfold slices_Contains_string slices_Index_string
  rw [forN_find (fun x => sEq n x) (fun j => (j : Int)) (fun j x hx => by simp only [idx_nat, hx, obs]; cases sEq n x <;> rfl)]
  have := any_find (xs := xs) (n := n) (p := fun x => sEq n x) (fun x => (keq n x).trans eq_comm)
  cases h : xs.findIdx? (fun x => sEq n x) with
  | none => rw [h] at this; exact ⟨false, rfl, by rw [← this]; simp⟩
  | some j => rw [h] at this; exact ⟨true, by simp, by rw [← this]; simp⟩
theorem bool_iff {a b : Bool} {p : Prop} (ha : a = true ↔ p) (hb : b = true ↔ p) : a = b := by cases a <;> cases b <;> simp_all
def Sm (l : List Role) : Prop := l.length ≤ 100 ∧ (∀ x ∈ l, x.In.length ≤ 100) ∧ ∀ x ∈ l, x.Name.size ≤ 1000
theorem is_eq {l : List Role} (h : Sm l) (n o : By8) : ∃ b, member_Is l n o = some b ∧ (b = true ↔ has l n ∧ Rch l n o) := by
  obtain ⟨a, ha, ga⟩ := all_eq (n := n) h.1 h.2.1 h.2.2
  obtain ⟨b, hb, gb⟩ := contains_eq a o
  refine ⟨b, by unfold member_Is; rw [ha]; simp only [obs]; rw [hb]; rfl, gb.trans ?_⟩
  by_cases hn : has l n
  · rw [(ga.1 hn).2]; simp [hn]
  · rw [ga.2 hn]; simp [hn]
theorem cf_str {xs : List By8} {p1 : By8 → Option Bool} {P : By8 → Prop} (h : ∀ s ∈ xs, ∃ b, p1 s = some b ∧ (b = true ↔ P s)) : ∃ b, slices_ContainsFunc_string xs p1 = some b ∧ (b = true ↔ ∃ s ∈ xs, P s) := by
  refine Ret.ex ?_
  unfold slices_ContainsFunc_string slices_IndexFunc_string
  refine yh (R := fun (r : Int) => (r = -1 ∧ ∀ s ∈ xs, ¬ P s) ∨ (0 ≤ r ∧ ∃ s ∈ xs, P s)) (yh (forN_ret (fun i _ => ∀ s ∈ xs.take i, ¬ P s) (Q := fun (r : Int) => 0 ≤ r ∧ ∃ s ∈ xs, P s) (by simp) ?_) ?_) ?_
  · rintro i _ hi g
    have hx : xs[i]? = some xs[i] := gE hi
    obtain ⟨b, hb, hb2⟩ := h xs[i] (List.getElem_mem hi)
    simp only [idx_nat, hx, obs, hb]
    refine yk (fun e => yd ⟨by omega, _, List.getElem_mem hi, hb2.1 e⟩) (fun e => yd fun s hs => ?_)
    rw [take_snoc hx, List.mem_append, List.mem_singleton] at hs
    rcases hs with hs | rfl
    · exact g s hs
    · exact fun hp => by rw [hb2.2 hp] at e; cases e
  · rintro t ht
    cases t with
    | inl u => rw [List.take_length] at ht; exact yd (.inl ⟨rfl, ht⟩)
    | inr v => exact yd (.inr ht)
  · rintro r (⟨rfl, hr⟩ | ⟨hr, hs⟩)
    · exact yd (by simp; exact hr)
    · exact yd (by simp [hr]; exact hs)
theorem cf_role {xs : List Role} {p1 : Role → Option Bool} {P : Role → Prop} (h : ∀ s ∈ xs, ∃ b, p1 s = some b ∧ (b = true ↔ P s)) : ∃ b, slices_ContainsFunc_qJ xs p1 = some b ∧ (b = true ↔ ∃ s ∈ xs, P s) := by
  refine Ret.ex ?_
  unfold slices_ContainsFunc_qJ slices_IndexFunc_qJ
  refine yh (R := fun (r : Int) => (r = -1 ∧ ∀ s ∈ xs, ¬ P s) ∨ (0 ≤ r ∧ ∃ s ∈ xs, P s)) (yh (forN_ret (fun i _ => ∀ s ∈ xs.take i, ¬ P s) (Q := fun (r : Int) => 0 ≤ r ∧ ∃ s ∈ xs, P s) (by simp) ?_) ?_) ?_
  · rintro i _ hi g
    have hx : xs[i]? = some xs[i] := gE hi
    obtain ⟨b, hb, hb2⟩ := h xs[i] (List.getElem_mem hi)
    simp only [idx_nat, hx, obs, hb]
    refine yk (fun e => yd ⟨by omega, _, List.getElem_mem hi, hb2.1 e⟩) (fun e => yd fun s hs => ?_)
    rw [take_snoc hx, List.mem_append, List.mem_singleton] at hs
    rcases hs with hs | rfl
    · exact g s hs
    · exact fun hp => by rw [hb2.2 hp] at e; cases e
  · rintro t ht
    cases t with
    | inl u => rw [List.take_length] at ht; exact yd (.inl ⟨rfl, ht⟩)
    | inr v => exact yd (.inr ht)
  · rintro r (⟨rfl, hr⟩ | ⟨hr, hs⟩)
    · exact yd (by simp; exact hr)
    · exact yd (by simp [hr]; exact hs)
theorem names_eq {l : List Role} (hl : l.length ≤ 1000) : member_names l = some (l.map (·.Name)) := by
  have h : Ret (member_names l) (fun r => r = l.map (·.Name)) := by
    unfold member_names
    refine yh (forE_ret (fun i s => s = (l.take i).map (·.Name)) (by simp) ?_) ?_
    · rintro i s hi rfl
      have hx : l[i]? = some l[i] := gE hi
      simp only [idx_nat, hx, obs]
      rw [app_le (by simp; omega)]
      exact yd (by rw [take_snoc hx, List.map_append]; rfl)
    · rintro s hs
      rw [List.take_length] at hs
      exact yd hs
  exact h.eq
theorem asc_next {s : List By8} {i : Nat} {x : By8} (h1 : 1 ≤ i) (hx : s[i]? = some x) (hs : Asc (s.take i)) (hlt : ∀ y, s[i - 1]? = some y → sLt y x = true) : Asc (s.take (i + 1)) := by
  rw [take_snoc hx]
  refine List.pairwise_append.2 ⟨hs, List.pairwise_singleton .., fun a ha b hb => ?_⟩
  rw [List.mem_singleton] at hb
  subst hb
  have hi := (List.getElem?_eq_some_iff.1 hx).1
  have h0 : s[i - 1]? = some s[i - 1] := gE om
  obtain ⟨j, hj⟩ := List.mem_iff_getElem?.1 ha
  rw [List.getElem?_take] at hj
  split at hj
  · rename_i hji
    by_cases e : j = i - 1
    · subst e
      exact hlt a hj
    · have := hlt _ h0
      refine sLt_trans ?_ this
      have h2 := List.pairwise_iff_getElem.1 hs j (i - 1) (by simp; omega) (by simp; omega) om
      have hj3 := (List.getElem?_eq_some_iff.1 hj).2
      simp only [List.getElem_take] at h2
      rw [hj3] at h2
      exact h2
  · cases hj
theorem rising_eq {s : List By8} (hl : s.length ≤ 1000) : ∃ b, member_rising s = some b ∧ (b = true ↔ Asc s) := by
  refine Ret.ex ?_
  unfold member_rising
  refine yh (R := fun t => (t = .inl false ∧ ¬ Asc s) ∨ (t = .inr () ∧ Asc s)) (loopO_rb (fun (q : Int) => ∃ i : Nat, q = i ∧ 1 ≤ i ∧ (i ≤ s.length ∨ i = 1) ∧ Asc (s.take i)) (fun q => s.length + 1 - q.toNat) ?_ ⟨1, rfl, Nat.le_refl _, .inr rfl, ?_⟩) ?_
  · rintro q ⟨i, rfl, h1, h2, h3⟩
    by_cases hlt : i < s.length
    · rw [show decide ((i : Int) < (s.length : Int)) = true by simp [hlt]]
      have hx : s[i]? = some s[i] := gE hlt
      have hy : s[i - 1]? = some s[i - 1] := gE om
      rw [w64_id (n := (i : Int) - 1) om om, show (i : Int) - 1 = ((i - 1 : Nat) : Int) by omega]
      simp only [cond_true, idx_nat, hx, hy, obs]
      refine yk (fun e => yd (.inl ⟨rfl, fun ha => ?_⟩)) (fun e => yd ⟨⟨i + 1, by rw [w64_id om om]; rfl, by omega, .inl hlt, ?_⟩, ?_⟩)
      · have := List.pairwise_iff_getElem.1 ha (i - 1) i om hlt om
        rw [this] at e; cases e
      · refine asc_next h1 hx h3 fun y hy' => ?_
        rw [hy] at hy'; injection hy' with hy'
        subst hy'
        simpa using e
      · rw [w64_id om om]; omega
    · rw [show decide ((i : Int) < (s.length : Int)) = false by simp; omega]
      rw [List.take_of_length_le om] at h3
      exact yd (.inr ⟨rfl, h3⟩)
  · cases s with
    | nil => exact List.Pairwise.nil
    | cons x r => exact List.pairwise_singleton ..
  · rintro t (⟨rfl, h⟩ | ⟨rfl, h⟩)
    · exact yd (by simp [h])
    · exact yd (by simp [h])
structure Right (l : List Role) : Prop where
  few : l.length ≤ 8
  asc : Asc (l.map (·.Name))
  nm : ∀ x ∈ l, lex_IsName x.Name = some true
  ain : ∀ x ∈ l, Asc x.In
  mem : ∀ x ∈ l, ∀ s ∈ x.In, has l s
  no : ∀ x ∈ l, ∀ s ∈ x.In, ¬ Rch l s x.Name
theorem has_names {l : List Role} {s : By8} : s ∈ l.map (·.Name) ↔ has l s := by
  rw [List.mem_map]
  rfl
theorem check_of {l : List Role} (h : Sm l) (hn : ∀ x ∈ l, ∃ b, lex_IsName x.Name = some b) : ∃ e, member_Check l = some e ∧ (e = 0 ∨ e = 2) ∧ (e = 0 ↔ Right l) := by
  refine Ret.ex ?_
  unfold member_Check
  refine ybn (names_eq (by have := h.1; omega)) ?_
  obtain ⟨br, hr, hr2⟩ := rising_eq (s := l.map (·.Name)) (by simp; have := h.1; omega)
  rw [hr]
  refine yh (R := fun b => b = false ↔ l.length ≤ 8 ∧ Asc (l.map (·.Name))) (yk (fun e => yd ?_) (fun e => yd ?_)) ?_
  · simp at e
    constructor
    · intro h; cases h
    · intro h; omega
  · simp at e
    rw [← hr2]
    cases br <;> simp; omega
  intro b hb
  refine yk (fun e => yd ⟨.inr rfl, Iff.intro (fun h => by cases h) (fun hR => ?_)⟩) (fun e => ?_)
  · rw [hb.2 ⟨hR.few, hR.asc⟩] at e; cases e
  obtain ⟨h8, ha⟩ := hb.1 e
  refine yh (forN_ret (fun i _ => ∀ x ∈ l.take i, lex_IsName x.Name = some true ∧ Asc x.In ∧ ∀ s ∈ x.In, has l s) (Q := fun (v : Int) => v = 2 ∧ ¬ Right l) (by simp) ?_) ?_
  · rintro i _ hi g
    have hx : l[i]? = some l[i] := gE hi
    have hm : l[i] ∈ l := List.getElem_mem hi
    obtain ⟨b1, hb1⟩ := hn _ hm
    obtain ⟨b2, hb2, hb2'⟩ := rising_eq (s := l[i].In) (by have := h.2.1 _ hm; omega)
    obtain ⟨b3, hb3, hb3'⟩ := cf_str (xs := l[i].In) (p1 := fun u0 => member_Check_1 u0 (l.map (·.Name))) (P := fun s => ¬ has l s) (fun s _ => by
      obtain ⟨b, hb, hb'⟩ := contains_eq (l.map (·.Name)) s
      refine ⟨!b, by unfold member_Check_1; rw [hb]; rfl, ?_⟩
      rw [← has_names, ← hb']
      cases b <;> simp)
    simp only [idx_nat, hx, obs, hb1, hb2, hb3]
    cases b1 with
    | false => exact yd ⟨rfl, fun hR => by have := hR.nm _ hm; rw [hb1] at this; cases this⟩
    | true =>
      cases b2 with
      | false =>
        refine yd ⟨rfl, fun hR => ?_⟩
        have := hb2'.2 (hR.ain _ hm)
        cases this
      | true =>
        cases b3 with
        | true =>
          refine yd ⟨rfl, fun hR => ?_⟩
          obtain ⟨s, hs, hns⟩ := hb3'.1 rfl
          exact hns (hR.mem _ hm s hs)
        | false =>
          refine yd fun x hx' => ?_
          rw [take_snoc hx, List.mem_append, List.mem_singleton] at hx'
          rcases hx' with hx' | rfl
          · exact g x hx'
          · refine ⟨hb1, hb2'.1 rfl, fun s hs => Classical.byContradiction fun hns => ?_⟩
            have := hb3'.2 ⟨s, hs, hns⟩
            cases this
  · rintro t ht
    cases t with
    | inr v => exact yd ⟨.inr ht.1, fun e => (by have := ht.1; omega), fun hR => absurd hR ht.2⟩
    | inl u =>
      rw [List.take_length] at ht
      obtain ⟨b, hb, hb'⟩ := cf_role (xs := l) (p1 := fun u0 => member_Check_2 u0 l) (P := fun x => ∃ s ∈ x.In, has l s ∧ Rch l s x.Name) (fun x _ => by
        obtain ⟨b, hb, hb'⟩ := cf_str (xs := x.In) (p1 := fun u0 => member_round_1 u0 l x) (P := fun s => has l s ∧ Rch l s x.Name) (fun s _ => by
          obtain ⟨b, hb, hb'⟩ := is_eq h s x.Name
          exact ⟨b, by unfold member_round_1; rw [hb]; rfl, hb'⟩)
        exact ⟨b, by unfold member_Check_2 member_round; rw [hb]; rfl, hb'⟩)
      simp only [hb, obs]
      refine yk (fun e => yd ⟨.inr rfl, Iff.intro (fun h => by cases h) (fun hR => ?_)⟩) (fun e => yd ⟨.inl rfl, Iff.intro (fun _ => ?_) (fun _ => rfl)⟩)
      · obtain ⟨x, hx, s, hs, _, hr⟩ := hb'.1 e
        exact absurd hr (hR.no x hx s hs)
      · refine ⟨h8, ha, fun x hx => (ht x hx).1, fun x hx => (ht x hx).2.1, fun x hx => (ht x hx).2.2, fun x hx s hs hr => ?_⟩
        rw [hb'.2 ⟨x, hx, s, hs, (ht x hx).2.2 s hs, hr⟩] at e
        cases e
theorem Rch.sub {l : List Role} {n : By8} {S : List By8} (hS : ∀ a ∈ S, ∀ b ∈ ins l a, b ∈ S) (hn : n ∈ S) {k : By8} (h : Rch l n k) : k ∈ S := by
  induction h with
  | self => exact hn
  | step _ hb _ ih => exact hS _ ih _ hb
theorem glued_eq (c : Int) : ∃ b, lex_glued c = some b := by
  unfold lex_glued lex_small lex_capital lex_digit
  simp only [obs]
  cases (decide (c ≥ 97) && decide (c ≤ 122)) <;> simp only [cond_true, cond_false, obs]
  · cases (decide (c ≥ 65) && decide (c ≤ 90)) <;> exact ⟨_, rfl⟩
  · exact ⟨_, rfl⟩
theorem index_eq (xs : List By8) (f : By8 → Option Bool) (q : By8 → Bool) (hf : ∀ x, f x = some (q x)) : slices_IndexFunc_string xs f = some (match xs.findIdx? q with | some j => (j : Int) | none => -1) := by
  unfold slices_IndexFunc_string
  rw [forN_find q (fun j => (j : Int))]
  · cases xs.findIdx? q <;> rfl
  · intro j x hx
    simp only [idx_nat, hx, obs, hf]
    cases q x <;> rfl
theorem delete_eq {xs : List By8} {f : By8 → Option Bool} {q : By8 → Bool} (hf : ∀ x, f x = some (q x)) (hl : xs.length ≤ 1000) : slices_DeleteFunc_string xs f = some (xs.filter fun x => !q x) := by
  unfold slices_DeleteFunc_string
  rw [index_eq xs f q hf]
  simp only [obs]
  rcases find_cases q xs with ⟨h, e⟩ | ⟨A, x, B, h1, h2, h3, h4⟩
  · rw [e]
    simp only [beq_self_eq_true, cond_true]
    rw [List.filter_eq_self.2 fun y hy => by rw [h y hy]; rfl]
  · rw [h4]
    have e1 : ((A.length : Int) == -1) = false := by
      cases hb : ((A.length : Int) == -1) with
      | false => rfl
      | true => have := eq_of_beq hb; omega
    simp only [e1, cond_false]
    have hA : A.filter (fun x => !q x) = A := List.filter_eq_self.2 fun y hy => by rw [h3 y hy]; rfl
    have hlen : xs.length = A.length + (B.length + 1) := by rw [h1]; simp
    refine Ret.eq (yh (R := fun t => ∃ D : List By8, t.2 = xs.filter (fun x => !q x) ++ D ∧ t.2.length = xs.length ∧ t.1 = ((xs.filter fun x => !q x).length : Int))
      (loopO_rb (fun (s : Int × Int × List By8) => ∃ (i : Nat) (D : List By8), A.length < i ∧ i ≤ xs.length ∧ s.2.1 = (i : Int) ∧ s.1 = (((xs.take i).filter fun x => !q x).length : Int) ∧ s.2.2 = (xs.take i).filter (fun x => !q x) ++ D ++ xs.drop i ∧ s.2.2.length = xs.length ∧ D ≠ []) (fun s => ((xs.length : Int) - s.2.1).toNat) ?_ ?_) ?_)
    · rintro ⟨a, b, ys⟩ ⟨i, D, h5, h6, hb, ha, hy, hyl, hD⟩
      simp only at hb ha hy hyl
      subst hb ha
      refine yk (fun hc => ?_) (fun hc => ?_)
      · have hi : i < xs.length := by simp only [decide_eq_true_eq] at hc; omega
        have hx : xs[i]? = some xs[i] := gE hi
        have hfl : (List.filter (fun x => !q x) (xs.take i)).length + D.length = i := by
          have := congrArg List.length hy
          simp only [List.length_append, List.length_drop] at this
          omega
        have hyi : ys[i]? = some xs[i] := by
          rw [hy, List.getElem?_append_right (by simp; omega)]
          simp only [List.length_append, hfl, Nat.sub_self]
          rw [List.getElem?_drop]
          simp
        have hxd : xs.drop i = xs[i] :: xs.drop (i + 1) := List.drop_eq_getElem_cons hi
        have hw : w64 ((i : Int) + 1) = ((i + 1 : Nat) : Int) := by rw [w64_id om om]; rfl
        simp only [idx_nat, hyi, obs, hf, hw]
        obtain ⟨d, D', rfl⟩ := List.exists_cons_of_ne_nil hD
        cases hq : q xs[i] with
        | true =>
          simp only [Bool.not_true, cond_false, obs]
          refine yd ⟨⟨i + 1, (d :: D') ++ [xs[i]], by omega, by omega, rfl, ?_, ?_, hyl, by simp⟩, by simp only; omega⟩
          · rw [take_snoc hx, List.filter_append]
            simp [hq]
          · simp only
            rw [hy, hxd, take_snoc hx, List.filter_append]
            simp [hq]
        | false =>
          have hj : ys[((xs.take i).filter fun x => !q x).length]? = some d := by
            rw [hy, List.append_assoc, List.getElem?_append_right (Nat.le_refl _), Nat.sub_self]
            rfl
          have hw2 : w64 (((List.filter (fun x => !q x) (xs.take i)).length : Int) + 1) = (((List.filter (fun x => !q x) (xs.take (i + 1))).length : Nat) : Int) := by
            rw [w64_id (by simp at hfl; omega) (by simp at hfl; omega), take_snoc hx, List.filter_append]
            simp [hq]
          simp only [Bool.not_false, cond_true, idx_nat, hj, obs, hw2]
          refine yd ⟨⟨i + 1, D' ++ [xs[i]], by omega, by omega, rfl, rfl, ?_, ?_, by simp⟩, by simp only; omega⟩
          · simp only
            rw [hy, hxd, take_snoc hx, List.filter_append]
            simp [hq]
          · simp only [List.length_set]
            exact hyl
      · have hi : i = xs.length := by simp only [decide_eq_false_iff_not] at hc; omega
        subst hi
        refine yd ⟨D, ?_, hyl, ?_⟩
        · simpa using hy
        · simp
    · refine ⟨A.length + 1, [x], by omega, by omega, ?_, ?_, ?_, rfl, by simp⟩
      · simp only
        rw [w64_id om om]
        rfl
      · simp only
        rw [h1, List.take_append, List.take_of_length_le (show A.length ≤ A.length + 1 by omega)]
        simp [hA, h2]
      · simp only
        rw [h1, List.take_append, List.drop_append, List.take_of_length_le (show A.length ≤ A.length + 1 by omega), List.drop_of_length_le (show A.length ≤ A.length + 1 by omega)]
        simp [hA, h2]
    · rintro ⟨a, ys⟩ ⟨D, hy, hyl, ha⟩
      simp only at hy hyl ha
      subst ha
      have hle : (xs.filter fun x => !q x).length ≤ ys.length := by rw [hy]; simp
      refine ybn (sub_at (i := (xs.filter fun x => !q x).length) (j := ys.length) rfl rfl hle (Nat.le_refl _)) ?_
      refine ybn (sub_at (i := 0) (j := (xs.filter fun x => !q x).length) rfl rfl om ?_) (yd ?_)
      · simp
        omega
      · simp only [List.drop_zero, Int.toNat_natCast]
        rw [hy, List.take_append_of_le_length (by simp), List.take_append_of_le_length (by simp)]
        simp
theorem less_eq (a b : By8) : cmp_Less_string a b = some (sLt a b) := by
  unfold cmp_Less_string cmp_isNaN_string
  rw [keq.refl]
  rfl
theorem nan_eq (a : By8) : slices_isNaN_string a = some false := by
  unfold slices_isNaN_string
  rw [keq.refl]
  rfl
theorem half (a b : Nat) (h : a + b < 4611686018427387904) : w64 (Int.fdiv (IntKind.wrap .u64 (w64 ((a : Int) + (b : Int)))) (2 ^ 1)) = (((a + b) / 2 : Nat) : Int) := by
  rw [w64_id (n := (a : Int) + (b : Int)) om om]
  have h1 : IntKind.wrap .u64 ((a : Int) + (b : Int)) = ((a + b : Nat) : Int) := by
    simp only [IntKind.wrap, IntKind.signed, IntKind.bits]
    simp
    omega
  rw [h1]
  have h2 : Int.fdiv ((a + b : Nat) : Int) (2 ^ 1) = (((a + b) / 2 : Nat) : Int) := by
    rw [Int.fdiv_eq_ediv_of_nonneg _ (by decide)]
    simp
  rw [h2, w64_id om om]
theorem search_spec {s : List By8} {x : By8} (hs : Asc s) (hl : s.length ≤ 1000) : ∃ (k : Nat) (b : Bool), slices_BinarySearch_string s x = some ((k : Int), b) ∧ k ≤ s.length ∧ (∀ y ∈ s.take k, sLt y x = true) ∧ ∀ y ∈ s.drop k, sLt y x = false := by
  have h : Ret (slices_BinarySearch_string s x) (fun r => ∃ k : Nat, r.1 = (k : Int) ∧ k ≤ s.length ∧ (∀ y ∈ s.take k, sLt y x = true) ∧ ∀ y ∈ s.drop k, sLt y x = false) := by
    unfold slices_BinarySearch_string
    refine yh (R := fun (r : Int) => ∃ k : Nat, r = (k : Int) ∧ k ≤ s.length ∧ (∀ y ∈ s.take k, sLt y x = true) ∧ ∀ y ∈ s.drop k, sLt y x = false) (loopO_rb (fun (q : Int × Int) => ∃ i j : Nat, q.1 = (i : Int) ∧ q.2 = (j : Int) ∧ i ≤ j ∧ j ≤ s.length ∧ (∀ y ∈ s.take i, sLt y x = true) ∧ ∀ y ∈ s.drop j, sLt y x = false) (fun q => (q.2 - q.1).toNat) ?_ ⟨0, s.length, rfl, rfl, by omega, Nat.le_refl _, by simp, by simp⟩) ?_
    · rintro ⟨a, b⟩ ⟨i, j, h1, h2, h3, h4, h5, h6⟩
      simp only at h1 h2
      subst h1 h2
      refine yk (fun hc => ?_) (fun hc => yd ⟨i, rfl, by omega, h5, ?_⟩)
      · have hij : i < j := by simp at hc; omega
        rw [half i j om]
        have hm : (i + j) / 2 < s.length := by omega
        have hx : s[(i + j) / 2]? = some s[(i + j) / 2] := gE hm
        simp only [idx_nat, hx, obs, less_eq]
        cases hlt : sLt s[(i + j) / 2] x with
        | true =>
          simp only [cond_true, obs]
          refine yd ⟨⟨(i + j) / 2 + 1, j, by simp only; rw [w64_id om om]; rfl, rfl, by omega, h4, fun y hy => ?_, h6⟩, by simp only; rw [w64_id om om]; omega⟩
          obtain ⟨n, hn⟩ := List.mem_iff_getElem?.1 hy
          rw [List.getElem?_take] at hn
          split at hn
          · rename_i hnm
            by_cases e : n = (i + j) / 2
            · subst e; rw [hx] at hn; injection hn with hn; rw [← hn]; exact hlt
            · obtain ⟨hn1, rfl⟩ := List.getElem?_eq_some_iff.1 hn
              exact sLt_trans (List.pairwise_iff_getElem.1 hs n ((i + j) / 2) hn1 hm om) hlt
          · cases hn
        | false =>
          simp only [cond_false, obs]
          refine yd ⟨⟨i, (i + j) / 2, rfl, rfl, by omega, by omega, h5, fun y hy => ?_⟩, by simp only; omega⟩
          obtain ⟨n, hn⟩ := List.mem_iff_getElem?.1 hy
          rw [List.getElem?_drop] at hn
          obtain ⟨hn1, rfl⟩ := List.getElem?_eq_some_iff.1 hn
          cases hb : sLt s[(i + j) / 2 + n] x with
          | false => rfl
          | true =>
            cases n with
            | zero => simp only [Nat.add_zero] at hb; rw [hlt] at hb; cases hb
            | succ n =>
              have := sLt_trans (List.pairwise_iff_getElem.1 hs ((i + j) / 2) ((i + j) / 2 + (n + 1)) hm hn1 om) hb
              rw [hlt] at this; cases this
      · have : i = j := by simp at hc; omega
        rw [this]; exact h6
    · rintro r ⟨k, rfl, h1, h2, h3⟩
      refine yh (R := fun _ => True) (yk (fun hc => ?_) rt) (fun b _ => yd ⟨k, rfl, h1, h2, h3⟩)
      have hk : k < s.length := by simp at hc; omega
      have hx : s[k]? = some s[k] := gE hk
      simp only [idx_nat, hx, obs, nan_eq]
      cases sEq s[k] x <;> exact yd trivial
  obtain ⟨⟨r, b⟩, hr, k, h1, h2⟩ := h.ex
  simp only at h1
  subst h1
  exact ⟨k, b, hr, h2⟩
theorem search_in {s : List By8} {x : By8} (hs : Asc s) (hl : s.length ≤ 1000) (hx : x ∉ s) : ∃ (k : Nat) (b : Bool), slices_BinarySearch_string s x = some ((k : Int), b) ∧ k ≤ s.length ∧ (∀ y ∈ s.take k, sLt y x = true) ∧ ∀ y ∈ s.drop k, sLt x y = true := by
  obtain ⟨k, b, h1, h2, h3, h4⟩ := search_spec (x := x) hs hl
  refine ⟨k, b, h1, h2, h3, fun y hy => ?_⟩
  rcases sLt_total y x with h | h | h
  · rw [h4 y hy] at h; cases h
  · exact absurd (h ▸ List.mem_of_mem_drop hy) hx
  · exact h
theorem sAt_some {s : By8} {i : Int} (h0 : 0 ≤ i) (h1 : i < (s.size : Int)) : ∃ c, sAt s i = some c := by
  unfold sAt
  simp [h0, h1]
theorem one1_eq (c : Int) : ∃ b, lex_one_1 c = some b := by
  unfold lex_one_1 lex_small lex_digit
  simp only [obs]
  cases (decide (c ≥ 97) && decide (c ≤ 122)) <;> exact ⟨_, rfl⟩
theorem one2_eq (c : Int) : ∃ b, lex_one_2 c = some b := ⟨_, rfl⟩
theorem while_ret {s : By8} {m : Int} {p : Int → Option Bool} (hp : ∀ c, ∃ b, p c = some b) (hs : s.size ≤ 100000) : Ret (lex_while s 0 m p) (fun r => 0 ≤ r ∧ r ≤ (s.size : Int)) := by
  unfold lex_while
  refine yh (loopO_rb (fun (q : Int) => 0 ≤ q ∧ q ≤ (s.size : Int)) (fun q => ((s.size : Int) - q).toNat) ?_ ⟨by omega, by omega⟩) (fun r h => yd h)
  rintro q ⟨h1, h2⟩
  rw [w64_id (n := 0 + q) om om, Int.zero_add]
  refine yh (R := fun b => b = true → q < (s.size : Int)) (yk (fun hc => ?_) (fun _ => yd (fun h => by cases h))) (fun b hb => yk (fun e => yd ⟨?_, ?_⟩) (fun _ => yd ⟨h1, h2⟩))
  · have hq : q < (s.size : Int) := by simp at hc; omega
    obtain ⟨c, hc⟩ := sAt_some h1 hq
    obtain ⟨b, hb⟩ := hp c
    rw [hc]
    simp only [obs, hb]
    exact yd fun _ => hq
  · have := hb e
    rw [w64_id om om]; omega
  · have := hb e
    rw [w64_id om om]; omega
theorem alone_ret {s : By8} {i : Int} (h0 : 0 ≤ i) : ∃ r, lex_alone s i = some r := by
  refine Ret.ex (Q := fun _ => True) ?_ |>.imp fun r h => h.1
  unfold lex_alone
  refine yh (R := fun _ => True) (yk (fun hc => ?_) rt) (fun b _ => yk rt rt)
  obtain ⟨c, hc⟩ := sAt_some h0 (s := s) (by simpa using hc)
  obtain ⟨b, hb⟩ := glued_eq c
  rw [hc]
  simp only [obs, hb]
  exact yd trivial
theorem quoted_ret {s : By8} (hs : s.size ≤ 100000) : ∃ r, lex_quoted s = some r := by
  refine Ret.ex (Q := fun _ => True) ?_ |>.imp fun r h => h.1
  unfold lex_quoted
  refine yh (loopO_rb (Q := fun _ => True) (fun (q : Int) => 0 ≤ q ∧ (q ≤ (s.size : Int) ∨ q = 1)) (fun q => ((s.size : Int) + 2 - q).toNat) ?_ ⟨by omega, .inr rfl⟩) (fun t _ => by cases t <;> exact yd trivial)
  rintro q ⟨h1, h2⟩
  refine yk (fun hc => ?_) rt
  have hq : q < (s.size : Int) := by simpa using hc
  obtain ⟨c, hc⟩ := sAt_some h1 hq
  rw [hc]
  simp only [obs]
  refine yh (R := fun _ => True) (yk rt rt) (fun b _ => yk rt (fun _ => ?_))
  have hw : w64 (q + 1) = q + 1 := w64_id om om
  rw [hw]
  refine yh (R := fun t => ∀ k, t = .inl k → k = q ∨ (k = q + 1 ∧ q + 1 < (s.size : Int))) (yk (fun _ => yd fun k h => by injection h with h; exact .inl h.symm) (fun _ => ?_)) ?_
  · refine yh (R := fun b => b = true → q + 1 < (s.size : Int)) (yk (fun hc => ?_) (fun _ => yd (fun h => by cases h))) (fun b hb => yk (fun e => yd fun k h => by injection h with h; exact .inr ⟨h.symm, hb e⟩) (fun _ => yd fun k h => by cases h))
    have hq2 : q + 1 < (s.size : Int) := by simpa using hc
    obtain ⟨c, hc⟩ := sAt_some om hq2
    rw [hc]
    exact yd fun _ => hq2
  · rintro t ht
    cases t with
    | inl k =>
      rcases ht k rfl with rfl | ⟨rfl, h⟩
      · refine yd ⟨⟨by rw [hw]; omega, .inl (by rw [hw]; omega)⟩, by rw [hw]; omega⟩
      · have hw2 : w64 (q + 1 + 1) = q + 1 + 1 := w64_id om om
        refine yd ⟨⟨by rw [hw2]; omega, .inl (by rw [hw2]; omega)⟩, by rw [hw2]; omega⟩
    | inr v => exact yd trivial
theorem prefix_ret (s p : By8) : ∃ b, strings_HasPrefix s p = some b := by
  refine Ret.ex (Q := fun _ => True) ?_ |>.imp fun r h => h.1
  unfold strings_HasPrefix internal_stringslite_HasPrefix
  refine yh (R := fun _ => True) (yh (R := fun _ => True) (yk (fun hc => ?_) rt) (fun _ _ => yd trivial)) (fun _ _ => yd trivial)
  have : (p.size : Int) ≤ (s.size : Int) := by simpa using hc
  unfold ssub
  rw [if_pos ⟨by omega, by omega, this⟩]
  exact yd trivial
theorem sign_ret (s : By8) : ∃ r, lex_sign s = some r := by
  refine Ret.ex (Q := fun _ => True) ?_ |>.imp fun r h => h.1
  unfold lex_sign
  refine yh (R := fun _ => True) (yh (R := fun _ => True) (RB.mono (forN_ret (fun _ _ => True) (Q := fun _ => True) trivial ?_) (fun _ _ => trivial)) ?_) (fun _ _ => yd trivial)
  · rintro j x hj _
    obtain ⟨y, hy, _⟩ := idx_lt (xs := ([(⟨#[60, 62]⟩ : By8), (⟨#[60, 61]⟩ : By8), (⟨#[62, 61]⟩ : By8), (⟨#[124, 124]⟩ : By8)] : List By8)) (i := (j : Int)) om (by simp; omega)
    rw [hy]
    obtain ⟨b, hb⟩ := prefix_ret s y
    simp only [obs, hb]
    cases b <;> exact yd trivial
  · rintro t _
    cases t with
    | inr v => exact yd trivial
    | inl u =>
      refine yh (R := fun _ => True) (RB.mono (forN_ret (fun _ _ => True) (Q := fun _ => True) trivial ?_) (fun _ _ => trivial)) (fun t _ => by cases t <;> exact yd trivial)
      rintro j x hj _
      obtain ⟨y, hy, _⟩ := idx_lt (xs := ([(⟨#[40]⟩ : By8), (⟨#[41]⟩ : By8), (⟨#[44]⟩ : By8), (⟨#[61]⟩ : By8), (⟨#[60]⟩ : By8), (⟨#[62]⟩ : By8), (⟨#[43]⟩ : By8), (⟨#[45]⟩ : By8), (⟨#[42]⟩ : By8), (⟨#[47]⟩ : By8), (⟨#[37]⟩ : By8)] : List By8)) (i := (j : Int)) om (by simp; omega)
      rw [hy]
      obtain ⟨b, hb⟩ := prefix_ret s y
      simp only [obs, hb]
      cases b <;> exact yd trivial
theorem one_ret {s : By8} (hs : s.size ≤ 100000) (h0 : 0 < s.size) : ∃ r, lex_one s = some r := by
  refine Ret.ex (Q := fun _ => True) ?_ |>.imp fun r h => h.1
  unfold lex_one
  obtain ⟨c, hc⟩ := sAt_some (s := s) (i := 0) om om
  rw [hc]
  simp only [obs]
  have al : ∀ (k i : Int), 0 ≤ i → Ret ((lex_alone s i).bind fun r => some (k, r)) (fun _ => True) := fun k i h => by
    obtain ⟨r, hr⟩ := alone_ret (s := s) h
    rw [hr]; exact yd trivial
  refine yh (R := fun _ => True) (ybv rfl trivial) (fun b _ => yk (fun _ => yh (while_ret one1_eq hs) (fun r h => al 1 r h.1)) (fun _ => ?_))
  refine yh (R := fun _ => True) (ybv rfl trivial) (fun b _ => yk (fun _ => yh (while_ret one2_eq hs) (fun r h => al 2 r h.1)) (fun _ => ?_))
  refine yk (fun _ => al 3 1 om) (fun _ => ?_)
  refine yh (R := fun _ => True) (ybv rfl trivial) (fun b _ => yk (fun _ => yh (while_ret (fun c => ⟨_, rfl⟩) hs) (fun r h => al 3 r h.1)) (fun _ => ?_))
  refine yk (fun _ => ?_) (fun _ => yk (fun _ => ?_) (fun _ => ?_))
  · obtain ⟨r, hr⟩ := quoted_ret hs
    rw [hr]; exact yd trivial
  · refine yh (R := fun b => b = false → 2 ≤ s.size) (yk (fun _ => yd (fun h => by cases h)) (fun hc => ?_)) (fun b hb => ?_)
    · have h2 : 2 ≤ s.size := by simp at hc; omega
      obtain ⟨c, hc⟩ := sAt_some (s := s) (i := 1) om om
      rw [hc]
      exact yd fun _ => h2
    · refine yh (R := fun _ => True) (yk rt (fun e => ?_)) (fun _ _ => yk rt (fun _ => al 5 2 om))
      have := hb e
      obtain ⟨c, hc⟩ := sAt_some (s := s) (i := 1) om om
      rw [hc]
      exact yd trivial
  · obtain ⟨r, hr⟩ := sign_ret s
    rw [hr]; exact yd trivial
theorem name_ret {s : By8} (hs : s.size ≤ 100000) : ∃ b, lex_IsName s = some b := by
  refine Ret.ex (Q := fun _ => True) ?_ |>.imp fun r h => h.1
  unfold lex_IsName lex_Right
  simp only
  refine yh (R := fun _ => True) (yk rt (fun _ => yk rt (fun e => ?_))) (fun _ _ => yd trivial)
  have h0 : 0 < s.size := by
    rcases Nat.eq_zero_or_pos s.size with h | h
    · exfalso
      have : s = eB := by
        cases s with
        | mk d => congr 1; exact Array.eq_empty_of_size_eq_zero h
      rw [this, keq.refl] at e
      cases e
    · exact h
  obtain ⟨r, hr⟩ := one_ret hs h0
  rw [hr]
  exact yd trivial
theorem Asc.nodup {s : List By8} (h : Asc s) : s.Nodup := h.imp fun {a b} hab e => sLt_ne hab e
theorem Right.in8 {l : List Role} (h : Right l) : ∀ x ∈ l, x.In.length ≤ 8 := fun x hx => by
  have := List.Nodup.length_le_of_subset (l₂ := l.map (·.Name)) (h.ain x hx).nodup (fun s hs => has_names.2 (h.mem x hx s hs))
  simp only [List.length_map] at this
  have := h.few
  omega
def Ok (l : List Role) : Prop := Right l ∧ ∀ x ∈ l, x.Name.size ≤ 1000
theorem Ok.sm {l : List Role} (h : Ok l) : Sm l := ⟨by have := h.1.few; omega, fun x hx => by have := h.1.in8 x hx; omega, h.2⟩
theorem Ok.check {l : List Role} (h : Ok l) : member_Check l = some 0 := by
  obtain ⟨e, he, _, h2⟩ := check_of h.sm (fun x hx => ⟨true, h.1.nm x hx⟩)
  rw [he, h2.2 h.1]
theorem Ok.fits {l : List Role} (h : Ok l) : fits l := ⟨by have := h.1.few; omega, fun x hx => by have := h.1.in8 x hx; omega⟩
theorem Right.one {l : List Role} (h : Right l) {A B : List Role} {x : Role} (e : l = A ++ x :: B) : (∀ y ∈ A, y.Name ≠ x.Name) ∧ ∀ y ∈ B, y.Name ≠ x.Name := by
  have ha := h.asc
  rw [e, List.map_append, List.map_cons] at ha
  have h1 := List.pairwise_append.1 ha
  have h2 := List.pairwise_cons.1 h1.2.1
  refine ⟨fun y hy => sLt_ne (h1.2.2 _ (List.mem_map.2 ⟨y, hy, rfl⟩) _ (by simp)), fun y hy => (sLt_ne (h2.1 _ (List.mem_map.2 ⟨y, hy, rfl⟩))).symm⟩
theorem Right.uniq {l : List Role} (h : Right l) {x y : Role} (hx : x ∈ l) (hy : y ∈ l) (e : x.Name = y.Name) : x = y := by
  obtain ⟨A, B, rfl⟩ := List.append_of_mem hx
  rcases List.mem_append.1 hy with hy | hy
  · exact absurd e.symm ((h.one rfl).1 y hy)
  · rcases List.mem_cons.1 hy with rfl | hy
    · rfl
    · exact absurd e.symm ((h.one rfl).2 y hy)
theorem Right.ofIn {l : List Role} (h : Right l) {x : Role} (hx : x ∈ l) : ins l x.Name = x.In := by
  unfold ins
  cases hf : l.find? (fun y => sEq y.Name x.Name) with
  | none =>
    have := List.find?_eq_none.1 hf x hx
    rw [keq.refl] at this
    exact absurd rfl this
  | some y =>
    have h1 := List.mem_of_find?_eq_some hf
    have h2 := (keq _ _).1 (by simpa using List.find?_some hf)
    rw [h.uniq h1 hx h2]
    rfl
theorem ins_mem {l : List Role} {a b : By8} (hb : b ∈ ins l a) : ∃ x ∈ l, x.Name = a ∧ b ∈ x.In := by
  unfold ins at hb
  cases hf : l.find? (fun x => sEq x.Name a) with
  | none => rw [hf] at hb; cases hb
  | some y =>
    rw [hf] at hb
    exact ⟨y, List.mem_of_find?_eq_some hf, (keq _ _).1 (by simpa using List.find?_some hf), hb⟩
def newR (n : By8) : Role := { z_qJ with Name := n }
theorem create_ok {l : List Role} (h : Ok l) {n : By8} (hz : n.size ≤ 1000) :
    (lex_IsName n = some false ∧ member_Create l n = some ([], 18)) ∨ (lex_IsName n = some true ∧ has l n ∧ member_Create l n = some ([], 19)) ∨ (lex_IsName n = some true ∧ ¬ has l n ∧ l.length = 8 ∧ member_Create l n = some ([], 5)) ∨
    (lex_IsName n = some true ∧ ¬ has l n ∧ l.length < 8 ∧ ∃ A B, l = A ++ B ∧ (∀ y ∈ A, sLt y.Name n = true) ∧ (∀ y ∈ B, sLt n y.Name = true) ∧ member_Create l n = some (A ++ newR n :: B, 0)) := by
  have hl := h.1.few
  unfold member_Create
  rw [h.check]
  obtain ⟨b, hb⟩ := name_ret (s := n) om
  rw [hb]
  cases b with
  | false => exact .inl ⟨rfl, rfl⟩
  | true =>
    right
    obtain ⟨i, hi, hi2⟩ := at_has l n
    rw [hi]
    simp only [obs]
    rw [show ((0 : Int) != 0) = false by rfl]
    simp only [cond_false, Bool.not_true]
    by_cases hn : has l n
    · left
      rw [show decide (i ≥ 0) = true by simpa using hi2.2 hn]
      exact ⟨trivial, hn, rfl⟩
    · right
      rw [show decide (i ≥ 0) = false by have := mt hi2.1 hn; simp; omega]
      simp only [cond_false]
      by_cases h8 : l.length = 8
      · left
        refine ⟨trivial, hn, h8, ?_⟩
        rw [h8]
        rfl
      · right
        rw [show ((l.length : Int) == 8) = false by simp; omega]
        simp only [cond_false]
        obtain ⟨k, f, hk, hkl, h1, h2⟩ := search_in (s := l.map (·.Name)) (x := n) h.1.asc (by simp; omega) (fun hm => hn (has_names.1 hm))
        simp only [List.length_map] at hkl
        refine ⟨trivial, hn, by omega, l.take k, l.drop k, (List.take_append_drop k l).symm, fun y hy => h1 _ (by rw [← List.map_take]; exact List.mem_map.2 ⟨y, hy, rfl⟩), fun y hy => h2 _ (by rw [← List.map_drop]; exact List.mem_map.2 ⟨y, hy, rfl⟩), ?_⟩
        unfold createT
        rw [if_pos h.fits, names_eq om]
        simp only [obs]
        rw [hk]
        simp only [obs]
        rw [insO_eq hkl (by simp; omega)]
        simp [newR]
def lessIn (n : By8) (x : Role) : Role := { x with In := x.In.filter fun s => !sEq s n }
theorem dropAll_eq {xs : List Role} {n : By8} (hl : xs.length ≤ 1000) (hi : ∀ x ∈ xs, x.In.length ≤ 1000) : dropAll xs n = some (xs.map (lessIn n)) := by
  have h : Ret (dropAll xs n) (fun r => r = xs.map (lessIn n)) := by
    unfold dropAll
    refine RB.mono (forE_ret (fun i s => s = (xs.take i).map (lessIn n) ++ xs.drop i) (by simp) ?_) (fun r h => by simpa using h)
    rintro i s hi2 rfl
    have hx : xs[i]? = some xs[i] := gE hi2
    have hlen : ((xs.take i).map (lessIn n)).length = i := by simp; omega
    have hg : ((xs.take i).map (lessIn n) ++ xs.drop i)[i]? = some xs[i] := by
      rw [List.getElem?_append_right om, hlen, Nat.sub_self, List.getElem?_drop]
      exact hx
    simp only [idx_nat, hg, obs]
    rw [delete_eq (f := fun u0 => member_Drop_1 u0 n) (q := fun s => sEq s n) (fun s => rfl) (hi _ (List.getElem_mem hi2))]
    refine yd ?_
    rw [take_snoc hx, List.map_append, List.append_assoc, List.set_append, if_neg om, hlen, Nat.sub_self, List.drop_eq_getElem_cons hi2]
    rfl
  exact h.eq
def rootB : By8 := ⟨#[114, 111, 111, 116]⟩
theorem filter_one {l : List Role} (h : Right l) {A B : List Role} {x : Role} (e : l = A ++ x :: B) : l.filter (fun y => !sEq y.Name x.Name) = A ++ B := by
  obtain ⟨h1, h2⟩ := h.one e
  rw [e, List.filter_append, List.filter_cons, keq.refl]
  simp only [Bool.not_true, Bool.false_eq_true, if_false]
  rw [List.filter_eq_self.2 fun y hy => by rw [keq.ne (h1 y hy)]; rfl, List.filter_eq_self.2 fun y hy => by rw [keq.ne (h2 y hy)]; rfl]
theorem drop_ok {l : List Role} (h : Ok l) (n : By8) :
    (¬ has l n ∧ member_Drop l n = some ([], 4)) ∨ (has l n ∧ n = rootB ∧ member_Drop l n = some ([], 34)) ∨ (has l n ∧ n ≠ rootB ∧ member_Drop l n = some ((l.filter fun y => !sEq y.Name n).map (lessIn n), 0)) := by
  have hl := h.1.few
  unfold member_Drop
  rw [h.check]
  simp only [obs]
  rw [show ((0 : Int) != 0) = false by rfl]
  simp only [cond_false]
  rcases at_spec l n with ⟨hn, e⟩ | ⟨A, x, B, h1, h2, h3, h4⟩
  · left
    rw [e]
    exact ⟨fun ⟨x, hx, hxn⟩ => hn x hx hxn, rfl⟩
  · right
    have hn : has l n := ⟨x, by rw [h1]; simp, h2⟩
    rw [h4]
    simp only [obs]
    rw [show decide ((A.length : Int) < 0) = false by simp]
    simp only [cond_false]
    by_cases hr : n = rootB
    · left
      refine ⟨hn, hr, ?_⟩
      rw [show sEq n (⟨#[114, 111, 111, 116]⟩ : By8) = true from (keq _ _).2 hr]
      rfl
    · right
      refine ⟨hn, hr, ?_⟩
      rw [show sEq n (⟨#[114, 111, 111, 116]⟩ : By8) = false from keq.ne hr]
      simp only [cond_false]
      unfold dropT
      rw [if_pos ⟨h.fits, by omega, by rw [h1]; simp; omega⟩]
      have e1 : l.take (A.length : Int).toNat ++ l.drop ((A.length : Int) + 1).toNat = A ++ B := by
        rw [show ((A.length : Int) + 1).toNat = A.length + 1 by omega, Int.toNat_natCast, h1, List.take_left, List.drop_append, List.drop_of_length_le om]
        simp
      have e2 := filter_one h.1 h1
      rw [h2] at e2
      rw [e1, ← e2, dropAll_eq]
      · rfl
      · exact Nat.le_trans (List.length_filter_le ..) om
      · intro x hx
        have := h.1.in8 x (List.mem_filter.1 hx).1
        omega
theorem grant_ok {l : List Role} (h : Ok l) (n t : By8) :
    ((¬ has l t ∨ ¬ has l n) ∧ member_Grant l n t = some ([], 4)) ∨ ∃ (k : Nat) (x : Role), l[k]? = some x ∧ x.Name = t ∧ has l n ∧
    ((n ∈ x.In ∧ member_Grant l n t = some ([], 19)) ∨ (n ∉ x.In ∧ Rch l n t ∧ member_Grant l n t = some ([], 35)) ∨ (n ∉ x.In ∧ ¬ Rch l n t ∧ ∃ A B, x.In = A ++ B ∧ (∀ y ∈ A, sLt y n = true) ∧ (∀ y ∈ B, sLt n y = true) ∧ member_Grant l n t = some (l.set k { x with In := A ++ n :: B }, 0))) := by
  have hl := h.1.few
  unfold member_Grant
  rw [h.check]
  simp only [obs]
  rw [show ((0 : Int) != 0) = false by rfl]
  simp only [cond_false]
  rcases at_spec l t with ⟨hn, e⟩ | ⟨A, x, B, h1, h2, h3, h4⟩
  · left
    rw [e]
    exact ⟨.inl fun ⟨x, hx, hxn⟩ => hn x hx hxn, rfl⟩
  · rw [h4]
    obtain ⟨i, hi, hi2⟩ := at_has l n
    rw [hi]
    simp only [obs]
    rw [show decide ((A.length : Int) < 0) = false by simp]
    simp only [cond_false, obs]
    by_cases hn : has l n
    · right
      rw [show decide (i < 0) = false by have := hi2.2 hn; simp; omega]
      have hx : l[A.length]? = some x := by rw [h1]; simp
      have hxl : x ∈ l := by rw [h1]; simp
      refine ⟨A.length, x, hx, h2, hn, ?_⟩
      simp only [cond_false, idx_nat, hx, obs]
      obtain ⟨b, hb, hb2⟩ := contains_eq x.In n
      rw [hb]
      cases b with
      | true => exact .inl ⟨hb2.1 rfl, rfl⟩
      | false =>
        right
        have hni : n ∉ x.In := fun hm => by have := hb2.2 hm; cases this
        obtain ⟨c, hc, hc2⟩ := is_eq h.sm n t
        simp only [obs, cond_false]
        rw [hc]
        cases c with
        | true => exact .inl ⟨hni, (hc2.1 rfl).2, rfl⟩
        | false =>
          right
          have h8 := h.1.in8 x hxl
          obtain ⟨k, f, hk, hkl, g1, g2⟩ := search_in (x := n) (h.1.ain x hxl) om hni
          have hnr : ¬ Rch l n t := fun hr => by have := hc2.2 ⟨hn, hr⟩; cases this
          refine ⟨hni, hnr, x.In.take k, x.In.drop k, (List.take_append_drop k x.In).symm, g1, g2, ?_⟩
          simp only [obs, cond_false]
          unfold grantT
          rw [if_pos h.fits]
          simp only [idx_nat, hx, obs]
          rw [hk]
          simp only [obs]
          rw [insO_eq hkl (by simp; omega)]
          simp
    · left
      rw [show decide (i < 0) = true by have := mt hi2.1 hn; simp; omega]
      exact ⟨.inr hn, rfl⟩
theorem revoke_ok {l : List Role} (h : Ok l) (n t : By8) :
    ((∀ x ∈ l, x.Name = t → n ∉ x.In) ∧ member_Revoke l n t = some ([], 4)) ∨ ∃ (k : Nat) (x : Role), l[k]? = some x ∧ x.Name = t ∧ n ∈ x.In ∧ member_Revoke l n t = some (l.set k (lessIn n x), 0) := by
  have hl := h.1.few
  unfold member_Revoke
  rw [h.check]
  simp only [obs]
  rw [show ((0 : Int) != 0) = false by rfl]
  simp only [cond_false]
  rcases at_spec l t with ⟨hn, e⟩ | ⟨A, x, B, h1, h2, h3, h4⟩
  · left
    rw [e]
    exact ⟨fun x hx hxn => absurd hxn (hn x hx), rfl⟩
  · rw [h4]
    have hx : l[A.length]? = some x := by rw [h1]; simp
    have hxl : x ∈ l := by rw [h1]; simp
    obtain ⟨b, hb, hb2⟩ := contains_eq x.In n
    simp only [obs]
    rw [show decide ((A.length : Int) < 0) = false by simp]
    simp only [cond_false, idx_nat, hx, obs]
    rw [hb]
    cases b with
    | false =>
      left
      refine ⟨fun y hy hyn hm => ?_, rfl⟩
      rw [h.1.uniq hy hxl (hyn.trans h2.symm)] at hm
      have := hb2.2 hm
      cases this
    | true =>
      right
      refine ⟨A.length, x, hx, h2, hb2.1 rfl, ?_⟩
      simp only [obs, Bool.not_true, cond_false]
      unfold revokeT
      rw [if_pos h.fits]
      simp only [idx_nat, hx, obs]
      rw [delete_eq (f := fun u0 => member_Revoke_1 u0 n) (q := fun s => sEq s n) (fun s => rfl) (by have := h.1.in8 x hxl; omega)]
      rfl
theorem Rch.less {l r : List Role} (h : ∀ a b, b ∈ ins r a → has r b → b ∈ ins l a ∧ has l b) {s t : By8} (hr : Rch r s t) : Rch l s t := by
  induction hr with
  | self => exact .self
  | step _ hb hh ih =>
    obtain ⟨h1, h2⟩ := h _ _ hb hh
    exact .step ih h1 h2
theorem Rch.trans {l : List Role} {a b c : By8} (h1 : Rch l a b) (h2 : Rch l b c) : Rch l a c := by
  induction h2 with
  | self => exact h1
  | step _ hb hh ih => exact .step ih hb hh
theorem Rch.one {l : List Role} {a b : By8} (h1 : b ∈ ins l a) (h2 : has l b) : Rch l a b := .step .self h1 h2
theorem Rch.first {l : List Role} {a b : By8} (h : Rch l a b) (hn : a ≠ b) : ∃ c, c ∈ ins l a ∧ has l c ∧ Rch l c b := by
  induction h with
  | self => exact absurd rfl hn
  | @step c d hr hb hh ih =>
    by_cases e : a = c
    · subst e
      exact ⟨d, hb, hh, .self⟩
    · obtain ⟨x, h1, h2, h3⟩ := ih e
      exact ⟨x, h1, h2, .step h3 hb hh⟩
theorem create_keep {A B : List Role} {n : By8} (h : Ok (A ++ B)) (hl : (A ++ B).length < 8) (hz : n.size ≤ 1000) (hi : lex_IsName n = some true) (h1 : ∀ y ∈ A, sLt y.Name n = true) (h2 : ∀ y ∈ B, sLt n y.Name = true) : Ok (A ++ newR n :: B) := by
  have hmem : ∀ x, x ∈ A ++ newR n :: B ↔ x = newR n ∨ x ∈ A ++ B := fun x => by
    simp only [List.mem_append, List.mem_cons]
    constructor
    · rintro (h | h | h) <;> simp [h]
    · rintro (h | h | h) <;> simp [h]
  have hno : ∀ y ∈ A ++ B, y.Name ≠ n := fun y hy => by
    rcases List.mem_append.1 hy with hy | hy
    · exact sLt_ne (h1 y hy)
    · exact (sLt_ne (h2 y hy)).symm
  have hhas : ∀ s, has (A ++ B) s → has (A ++ newR n :: B) s := fun s ⟨x, hx, e⟩ => ⟨x, (hmem x).2 (.inr hx), e⟩
  have hasc : Asc ((A ++ newR n :: B).map (·.Name)) := by
    rw [List.map_append, List.map_cons]
    have := h.1.asc
    rw [List.map_append] at this
    exact this.ins (x := n) (fun y hy => by obtain ⟨z, hz, rfl⟩ := List.mem_map.1 hy; exact h1 z hz) (fun y hy => by obtain ⟨z, hz, rfl⟩ := List.mem_map.1 hy; exact h2 z hz)
  have hins : ∀ a b, b ∈ ins (A ++ newR n :: B) a → b ∈ ins (A ++ B) a ∧ has (A ++ B) b := fun a b hb => by
    obtain ⟨x, hx, rfl, hbx⟩ := ins_mem hb
    rcases (hmem x).1 hx with rfl | hx
    · cases hbx
    · exact ⟨by rw [h.1.ofIn hx]; exact hbx, h.1.mem x hx b hbx⟩
  refine ⟨⟨by simp at hl ⊢; omega, hasc, fun x hx => ?_, fun x hx => ?_, fun x hx s hs => ?_, fun x hx s hs hr => ?_⟩, fun x hx => ?_⟩
  · rcases (hmem x).1 hx with rfl | hx
    · exact hi
    · exact h.1.nm x hx
  · rcases (hmem x).1 hx with rfl | hx
    · exact List.Pairwise.nil
    · exact h.1.ain x hx
  · rcases (hmem x).1 hx with rfl | hx
    · cases hs
    · exact hhas s (h.1.mem x hx s hs)
  · rcases (hmem x).1 hx with rfl | hx
    · cases hs
    · exact h.1.no x hx s hs (hr.less fun a b hb _ => hins a b hb)
  · rcases (hmem x).1 hx with rfl | hx
    · exact hz
    · exact h.2 x hx
theorem less_keep {l r : List Role} (h : Ok l) (hasc : Asc (r.map (·.Name))) (hlen : r.length ≤ l.length) (hx : ∀ x ∈ r, ∃ y ∈ l, y.Name = x.Name ∧ x.In.Sublist y.In) (hm : ∀ x ∈ r, ∀ s ∈ x.In, has r s) : Ok r := by
  have hr : ∀ a b, b ∈ ins r a → has r b → b ∈ ins l a ∧ has l b := fun a b hb _ => by
    obtain ⟨x, hxr, rfl, hbx⟩ := ins_mem hb
    obtain ⟨y, hy, e, hs⟩ := hx x hxr
    exact ⟨by rw [← e, h.1.ofIn hy]; exact hs.subset hbx, h.1.mem y hy b (hs.subset hbx)⟩
  refine ⟨⟨Nat.le_trans hlen h.1.few, hasc, fun x hxr => ?_, fun x hxr => ?_, hm, fun x hxr s hs hrr => ?_⟩, fun x hxr => ?_⟩ <;> obtain ⟨y, hy, e, hsub⟩ := hx x hxr
  · rw [← e]; exact h.1.nm y hy
  · exact (h.1.ain y hy).sublist hsub
  · refine h.1.no y hy s (hsub.subset hs) ?_
    rw [e]
    exact hrr.less hr
  · rw [← e]; exact h.2 y hy
theorem drop_keep {l : List Role} (h : Ok l) (n : By8) : Ok ((l.filter fun y => !sEq y.Name n).map (lessIn n)) ∧ ¬ has ((l.filter fun y => !sEq y.Name n).map (lessIn n)) n := by
  have hmem : ∀ x, x ∈ (l.filter fun y => !sEq y.Name n).map (lessIn n) ↔ ∃ y ∈ l, y.Name ≠ n ∧ lessIn n y = x := fun x => by
    rw [List.mem_map]
    constructor
    · rintro ⟨y, hy, e⟩
      obtain ⟨h1, h2⟩ := List.mem_filter.1 hy
      refine ⟨y, h1, fun e2 => ?_, e⟩
      rw [e2, keq.refl] at h2
      cases h2
    · rintro ⟨y, h1, h2, e⟩
      exact ⟨y, List.mem_filter.2 ⟨h1, by rw [keq.ne h2]; rfl⟩, e⟩
  refine ⟨less_keep h ?_ ?_ ?_ ?_, ?_⟩
  · have : ((l.filter fun y => !sEq y.Name n).map (lessIn n)).map (·.Name) = (l.filter fun y => !sEq y.Name n).map (·.Name) := by rw [List.map_map]; rfl
    rw [this]
    exact h.1.asc.sublist (List.Sublist.map _ List.filter_sublist)
  · rw [List.length_map]
    exact List.length_filter_le ..
  · intro x hx
    obtain ⟨y, h1, h2, rfl⟩ := (hmem x).1 hx
    exact ⟨y, h1, rfl, List.filter_sublist⟩
  · intro x hx s hs
    obtain ⟨y, h1, h2, rfl⟩ := (hmem x).1 hx
    obtain ⟨g1, g2⟩ := List.mem_filter.1 hs
    obtain ⟨z, hz, e⟩ := h.1.mem y h1 s g1
    refine ⟨lessIn n z, (hmem _).2 ⟨z, hz, fun e2 => ?_, rfl⟩, e⟩
    rw [← e, e2, keq.refl] at g2
    cases g2
  · rintro ⟨x, hx, e⟩
    obtain ⟨y, h1, h2, rfl⟩ := (hmem x).1 hx
    exact h2 e
theorem set_names {l : List Role} {k : Nat} {x x' : Role} (hk : l[k]? = some x) (e : x'.Name = x.Name) : (l.set k x').map (·.Name) = l.map (·.Name) := by
  rw [List.map_set, e]
  apply List.ext_getElem?
  intro j
  rw [List.getElem?_set]
  split
  · rename_i hj
    subst hj
    rw [List.getElem?_map, hk]
    split
    · rfl
    · rename_i hl
      have := (List.getElem?_eq_some_iff.1 hk).1
      simp at hl
      omega
  · rfl
theorem set_mem {l : List Role} {k : Nat} {x x' y : Role} (hR : Right l) (hk : l[k]? = some x) : y ∈ l.set k x' → y = x' ∨ (y ∈ l ∧ y.Name ≠ x.Name) := by
  intro hy
  obtain ⟨j, hj⟩ := List.mem_iff_getElem?.1 hy
  rw [List.getElem?_set] at hj
  split at hj
  · split at hj
    · injection hj with hj; exact .inl hj.symm
    · cases hj
  · rename_i hkj
    refine .inr ⟨List.mem_of_getElem? hj, fun e => ?_⟩
    have hn := hR.asc.nodup
    have h1 : (l.map (·.Name))[j]? = some y.Name := by rw [List.getElem?_map, hj]; rfl
    have h2 : (l.map (·.Name))[k]? = some y.Name := by rw [List.getElem?_map, hk, e]; rfl
    obtain ⟨a1, a2⟩ := List.getElem?_eq_some_iff.1 h1
    obtain ⟨b1, b2⟩ := List.getElem?_eq_some_iff.1 h2
    rcases Nat.lt_or_ge k j with hlt | hge
    · exact List.pairwise_iff_getElem.1 hn k j b1 a1 hlt (b2.trans a2.symm)
    · exact List.pairwise_iff_getElem.1 hn j k a1 b1 om (a2.trans b2.symm)
theorem set_has {l : List Role} {k : Nat} {x x' : Role} (hk : l[k]? = some x) (e : x'.Name = x.Name) (s : By8) : has (l.set k x') s ↔ has l s := by
  rw [← has_names, set_names hk e, has_names]
theorem revoke_keep {l : List Role} (h : Ok l) {k : Nat} {x : Role} (hk : l[k]? = some x) (n : By8) : Ok (l.set k (lessIn n x)) := by
  have hx := List.mem_of_getElem? hk
  refine less_keep h ?_ (by simp) ?_ ?_
  · rw [set_names (x' := lessIn n x) hk rfl]; exact h.1.asc
  · intro y hy
    rcases set_mem h.1 hk hy with rfl | ⟨hy, _⟩
    · exact ⟨x, hx, rfl, List.filter_sublist⟩
    · exact ⟨y, hy, rfl, List.Sublist.refl _⟩
  · intro y hy s hs
    rw [set_has (x' := lessIn n x) hk rfl]
    rcases set_mem h.1 hk hy with rfl | ⟨hy, _⟩
    · exact h.1.mem x hx s (List.mem_filter.1 hs).1
    · exact h.1.mem y hy s hs
theorem grant_keep {l : List Role} (h : Ok l) {k : Nat} {x : Role} (hk : l[k]? = some x) {n : By8} (hn : has l n) (hr : ¬ Rch l n x.Name) {A B : List By8} (e : x.In = A ++ B) (h1 : ∀ y ∈ A, sLt y n = true) (h2 : ∀ y ∈ B, sLt n y = true) : Ok (l.set k { x with In := A ++ n :: B }) := by
  have hx := List.mem_of_getElem? hk
  have hmI : ∀ s, s ∈ A ++ n :: B ↔ s = n ∨ s ∈ x.In := fun s => by
    rw [e]
    simp only [List.mem_append, List.mem_cons]
    constructor
    · rintro (h | h | h) <;> simp [h]
    · rintro (h | h | h) <;> simp [h]
  have hin : ∀ a b, b ∈ ins (l.set k { x with In := A ++ n :: B }) a → b ∈ ins l a ∨ (a = x.Name ∧ b = n) := fun a b hb => by
    obtain ⟨y, hy, rfl, hby⟩ := ins_mem hb
    rcases set_mem h.1 hk hy with rfl | ⟨hy, _⟩
    · rcases (hmI b).1 hby with rfl | hbx
      · exact .inr ⟨rfl, rfl⟩
      · left
        show b ∈ ins l x.Name
        rw [h.1.ofIn hx]; exact hbx
    · left
      rw [h.1.ofIn hy]; exact hby
  have key : ∀ s t, Rch (l.set k { x with In := A ++ n :: B }) s t → Rch l s t ∨ (Rch l s x.Name ∧ Rch l n t) := by
    intro s t hst
    induction hst with
    | self => exact .inl .self
    | step _ hb hh ih =>
      rw [set_has (x' := { x with In := A ++ n :: B }) hk rfl] at hh
      rcases hin _ _ hb with hb | ⟨rfl, rfl⟩
      · rcases ih with ih | ⟨i1, i2⟩
        · exact .inl (.step ih hb hh)
        · exact .inr ⟨i1, .step i2 hb hh⟩
      · rcases ih with ih | ⟨i1, i2⟩
        · exact .inr ⟨ih, .self⟩
        · exact .inr ⟨i1, .self⟩
  refine ⟨⟨by rw [List.length_set]; exact h.1.few, by rw [set_names (x' := { x with In := A ++ n :: B }) hk rfl]; exact h.1.asc, fun y hy => ?_, fun y hy => ?_, fun y hy s hs => ?_, fun y hy s hs hrr => ?_⟩, fun y hy => ?_⟩
  · rcases set_mem h.1 hk hy with rfl | ⟨hy, _⟩
    · exact h.1.nm x hx
    · exact h.1.nm y hy
  · rcases set_mem h.1 hk hy with rfl | ⟨hy, _⟩
    · have := h.1.ain x hx
      rw [e] at this
      exact this.ins h1 h2
    · exact h.1.ain y hy
  · rw [set_has (x' := { x with In := A ++ n :: B }) hk rfl]
    rcases set_mem h.1 hk hy with rfl | ⟨hy, _⟩
    · rcases (hmI s).1 hs with rfl | hs
      · exact hn
      · exact h.1.mem x hx s hs
    · exact h.1.mem y hy s hs
  · have old : ∀ z ∈ l, s ∈ z.In → Rch (l.set k { x with In := A ++ n :: B }) s z.Name → False := fun z hz hsz hrz => by
      rcases key _ _ hrz with g | ⟨g1, g2⟩
      · exact h.1.no z hz s hsz g
      · exact hr ((g2.trans (.one (by rw [h.1.ofIn hz]; exact hsz) (h.1.mem z hz s hsz))).trans g1)
    rcases set_mem h.1 hk hy with rfl | ⟨hy, _⟩
    · rcases (hmI s).1 hs with rfl | hs
      · rcases key _ _ hrr with g | ⟨g1, g2⟩
        · exact hr g
        · exact hr g1
      · exact old x hx hs hrr
    · exact old y hy hs hrr
  · rcases set_mem h.1 hk hy with rfl | ⟨hy, _⟩
    · exact h.2 x hx
    · exact h.2 y hy
theorem rat_spec (l : List Role) (n : By8) : ((∀ y ∈ l, y.Name ≠ n) ∧ r18_At l n = some (-1)) ∨ ∃ A x B, l = A ++ x :: B ∧ x.Name = n ∧ (∀ y ∈ A, y.Name ≠ n) ∧ r18_At l n = some (A.length : Int) := by
  have e : r18_At l n = some (match l.findIdx? (fun x => sEq x.Name n) with | some j => (j : Int) | none => -1) := by
    unfold r18_At
    rw [forN_find (fun x : Role => sEq x.Name n) (fun j => (j : Int))]
    · cases l.findIdx? (fun x => sEq x.Name n) <;> rfl
    · intro j x hx
      simp only [idx_nat, hx, obs]
      cases sEq x.Name n <;> rfl
  rw [e]
  rcases find_cases (fun x : Role => sEq x.Name n) l with ⟨h, e⟩ | ⟨A, x, B, h1, h2, h3, h4⟩
  · left
    refine ⟨fun y hy e1 => ?_, by rw [e]⟩
    have := h y hy
    rw [(keq _ _).2 e1] at this
    cases this
  · right
    refine ⟨A, x, B, h1, (keq _ _).1 h2, fun y hy e1 => ?_, by rw [h4]⟩
    have := h3 y hy
    rw [(keq _ _).2 e1] at this
    cases this
def Fst (l : List Role) (k : Nat) (n : By8) : Prop := ∃ A x B, l = A ++ x :: B ∧ x.Name = n ∧ (∀ y ∈ A, y.Name ≠ n) ∧ k = A.length
theorem Fst.get {l : List Role} {k : Nat} {n : By8} (h : Fst l k n) : ∃ x, l[k]? = some x ∧ x.Name = n ∧ x ∈ l ∧ ins l n = x.In := by
  obtain ⟨A, x, B, rfl, h2, h3, rfl⟩ := h
  refine ⟨x, by simp, h2, by simp, ?_⟩
  unfold ins
  rw [List.find?_append, List.find?_eq_none.2]
  · simp [(keq _ _).2 h2]
  · intro y hy hn
    exact h3 y hy ((keq _ _).1 hn)
theorem Fst.lt {l : List Role} {k : Nat} {n : By8} (h : Fst l k n) : k < l.length := by
  obtain ⟨A, x, B, rfl, h2, h3, rfl⟩ := h
  simp
theorem Fst.hs {l : List Role} {k : Nat} {n : By8} (h : Fst l k n) : has l n := by
  obtain ⟨x, _, h2, h3, _⟩ := h.get
  exact ⟨x, h3, h2⟩
theorem Fst.uniq {l : List Role} {j k : Nat} {n : By8} (h1 : Fst l j n) (h2 : Fst l k n) : j = k := by
  obtain ⟨A, x, B, e1, g1, g2, rfl⟩ := h1
  obtain ⟨A', x', B', e2, g1', g2', rfl⟩ := h2
  have e : A ++ x :: B = A' ++ x' :: B' := by rw [← e1, e2]
  rcases List.append_eq_append_iff.1 e with ⟨c, hc1, hc2⟩ | ⟨c, hc1, hc2⟩
  · cases c with
    | nil => simp [hc1]
    | cons z c =>
      simp only [List.cons_append, List.cons.injEq] at hc2
      exact absurd g1 (by rw [hc2.1]; exact g2' z (by rw [hc1]; simp))
  · cases c with
    | nil => simp [hc1]
    | cons z c =>
      simp only [List.cons_append, List.cons.injEq] at hc2
      exact absurd g1' (by rw [hc2.1]; exact g2 z (by rw [hc1]; simp))
theorem Fst.of_has {l : List Role} {n : By8} (h : has l n) : ∃ k, Fst l k n ∧ r18_At l n = some (k : Int) := by
  rcases rat_spec l n with ⟨h1, _⟩ | ⟨A, x, B, h1, h2, h3, h4⟩
  · obtain ⟨x, hx, hn⟩ := h
    exact absurd hn (h1 x hx)
  · exact ⟨A.length, ⟨A, x, B, h1, h2, h3, rfl⟩, h4⟩
theorem rat_none {l : List Role} {n : By8} (h : ¬ has l n) : r18_At l n = some (-1) := by
  rcases rat_spec l n with ⟨_, e⟩ | ⟨A, x, B, h1, h2, _⟩
  · exact e
  · exact absurd ⟨x, by rw [h1]; simp, h2⟩ h
theorem at_same (l : List Role) (n : By8) : member_at l n = r18_At l n := by
  rcases at_spec l n with ⟨h, e⟩ | ⟨A, x, B, h1, h2, h3, h4⟩
  · rw [e, rat_none]
    rintro ⟨x, hx, hn⟩
    exact h x hx hn
  · obtain ⟨k, hk, e⟩ := Fst.of_has (l := l) (n := n) ⟨x, by rw [h1]; simp, h2⟩
    rw [h4, e, hk.uniq ⟨A, x, B, h1, h2, h3, rfl⟩]
structure Sd (l : List Role) (n : By8) (is : List Bool) : Prop where
  len : is.length = l.length
  so : ∀ k : Nat, is[k]? = some true → ∃ a, Fst l k a ∧ Rch l n a ∧ has l n
  self : ∀ k, Fst l k n → is[k]? = some true
def Mon (a b : List Bool) : Prop := ∀ k : Nat, a[k]? = some true → b[k]? = some true
def Cl (l : List Role) (is : List Bool) : Prop := ∀ (k : Nat) (a b : By8) (j : Nat), is[k]? = some true → Fst l k a → b ∈ ins l a → Fst l j b → is[j]? = some true
theorem cnt : ∀ (a b : List Bool), a.length = b.length → Mon a b → a = b ∨ a.count true < b.count true
  | [], [], _, _ => .inl rfl
  | [], _ :: _, h, _ => by cases h
  | _ :: _, [], h, _ => by cases h
  | x :: a, y :: b, h, hm => by
    have ih := cnt a b (by simpa using h) (fun k hk => by simpa using hm (k + 1) (by simpa using hk))
    have h0 := hm 0
    simp only [List.getElem?_cons_zero, Option.some.injEq] at h0
    cases x <;> cases y <;> simp_all <;> rcases ih with rfl | ih <;> omega
theorem mon_set {is : List Bool} {j : Nat} : Mon is (is.set j true) := by
  intro k hk
  rw [List.getElem?_set]
  split
  · rename_i e
    subst e
    have := (List.getElem?_eq_some_iff.1 hk).1
    simp [this]
  · exact hk
theorem Sd.set {l : List Role} {n : By8} {is : List Bool} (h : Sd l n is) {j : Nat} {b : By8} (hj : Fst l j b) (hb : Rch l n b) (hn : has l n) : Sd l n (is.set j true) := by
  refine ⟨by simpa using h.len, fun k hk => ?_, fun k hk => mon_set k (h.self k hk)⟩
  rw [List.getElem?_set] at hk
  split at hk
  · rename_i e
    subst e
    exact ⟨b, hj, hb, hn⟩
  · exact h.so k hk
theorem set_at {l : List Role} {n : By8} {is : List Bool} (h : Sd l n is) {j : Nat} {b : By8} (hj : Fst l j b) : (is.set j true)[j]? = some true := by
  have := hj.lt
  rw [← h.len] at this
  simp [this]
theorem flag_idx {l : List Role} {n : By8} {is : List Bool} (h : Sd l n is) {k : Nat} (hk : k < l.length) : ∃ b, is[k]? = some b := by
  rw [← h.len] at hk
  exact ⟨_, gE hk⟩
theorem ins_has {l : List Role} {a b : By8} (hb : b ∈ ins l a) : has l a := by
  cases hf : l.find? (fun x => sEq x.Name a) with
  | none => unfold ins at hb; rw [hf] at hb; cases hb
  | some y => exact ⟨y, List.mem_of_find?_eq_some hf, (keq _ _).1 (by simpa using List.find?_some hf)⟩
theorem closed_all {l : List Role} {n : By8} {is : List Bool} (hs : Sd l n is) (hc : Cl l is) : ∀ a, Rch l n a → has l a → ∃ j, Fst l j a ∧ is[j]? = some true := by
  intro a ha
  induction ha with
  | self => intro hh; obtain ⟨j, hj, _⟩ := Fst.of_has hh; exact ⟨j, hj, hs.self j hj⟩
  | @step a b hr hb hh ih =>
    intro _
    obtain ⟨k', hk', hf⟩ := ih (ins_has hb)
    obtain ⟨j, hj, _⟩ := Fst.of_has hh
    exact ⟨j, hj, hc k' a b j hf hk' hb hj⟩
theorem reach_spec {l : List Role} {n : By8} (hl : l.length ≤ 100) (hi : ∀ x ∈ l, x.In.length ≤ 100) : Ret (r18_Reach l n) (fun is => Sd l n is ∧ Cl l is) := by
  unfold r18_Reach
  refine ybn (x := l.length) (by unfold mk; rw [if_pos ⟨by omega, by omega⟩]; rfl) ?_
  refine yh (R := fun (r : Int) => (r = -1 ∧ ¬ has l n) ∨ ∃ k : Nat, r = k ∧ Fst l k n) ?_ ?_
  · by_cases hn : has l n
    · obtain ⟨k, hk, e⟩ := Fst.of_has hn
      exact ybv e (.inr ⟨k, rfl, hk⟩)
    · exact ybv (rat_none hn) (.inl ⟨rfl, hn⟩)
  intro r hr
  refine yh (R := fun is => Sd l n is ∧ (has l n → 1 ≤ is.count true)) ?_ ?_
  · rcases hr with ⟨rfl, hn⟩ | ⟨k, rfl, hk⟩
    · refine yd ⟨⟨by simp, fun k hk => ?_, fun k hk => absurd hk.hs hn⟩, fun h => absurd h hn⟩
      rw [List.getElem?_replicate] at hk
      split at hk <;> cases hk
    · rw [show decide ((k : Int) ≥ 0) = true by simp]
      simp only [cond_true]
      have hlt := hk.lt
      rw [idx_nat, List.getElem?_replicate, if_pos hlt]
      simp only [obs, Int.toNat_natCast]
      have hat : ((List.replicate l.length false).set k true)[k]? = some true := by simp [hlt]
      refine yd ⟨⟨by simp, fun j hj => ?_, fun j hj => ?_⟩, fun _ => ?_⟩
      · rw [List.getElem?_set] at hj
        split at hj
        · rename_i e
          subst e
          exact ⟨n, hk, .self, hk.hs⟩
        · rw [List.getElem?_replicate] at hj
          split at hj <;> cases hj
      · rw [hj.uniq hk]; exact hat
      · exact List.count_pos_iff.2 (List.mem_of_getElem? hat)
  rintro is0 ⟨hs0, hc0⟩
  refine yh (R := fun is => Sd l n is ∧ Cl l is) (RB.mono (forE_ret (fun t is => Sd l n is ∧ (Cl l is ∨ (has l n → t + 1 ≤ is.count true))) ⟨hs0, .inr hc0⟩ ?_) ?_) (fun is h => yd h)
  · rintro t is ht ⟨hs, hc⟩
    refine yh (R := fun is' => Sd l n is' ∧ Mon is is' ∧ ∀ k, k < l.length → is[k]? = some true → ∀ a, Fst l k a → ∀ b ∈ ins l a, ∀ j, Fst l j b → is'[j]? = some true) (forE_ret (fun K is' => Sd l n is' ∧ Mon is is' ∧ ∀ k, k < K → is[k]? = some true → ∀ a, Fst l k a → ∀ b ∈ ins l a, ∀ j, Fst l j b → is'[j]? = some true) ⟨hs, fun k hk => hk, fun k hk => absurd hk om⟩ ?_) ?_
    · rintro K s hK ⟨g1, g2, g3⟩
      obtain ⟨x, hx⟩ : ∃ x, l[K]? = some x := ⟨_, gE hK⟩
      have hxl : x.In.length ≤ 100 := hi x (List.mem_of_getElem? hx)
      refine yh (R := fun s' => Sd l n s' ∧ Mon s s' ∧ (s[K]? = some true → ∀ b ∈ x.In, ∀ j, Fst l j b → s'[j]? = some true)) (loopO_rb (fun (u : Int × List Bool) => ∃ J : Nat, u.1 = J ∧ J ≤ x.In.length ∧ Sd l n u.2 ∧ Mon s u.2 ∧ ∀ b ∈ x.In.take J, ∀ j, Fst l j b → u.2[j]? = some true) (fun u => x.In.length - u.1.toNat) ?_ ⟨0, rfl, by omega, g1, fun k hk => hk, by simp⟩) ?_
      · rintro ⟨q, s'⟩ ⟨J, hJ, hJ2, f1, f2, f3⟩
        simp only at hJ f1 f2 f3
        subst hJ
        obtain ⟨bk, hbk⟩ := flag_idx f1 hK
        simp only [idx_nat, hbk, hx, obs]
        cases bk with
        | false =>
          simp only [cond_false, obs]
          refine yd ⟨f1, f2, fun hh => ?_⟩
          have := f2 K hh
          rw [hbk] at this
          cases this
        | true =>
          simp only [cond_true, obs]
          by_cases hlt : J < x.In.length
          · rw [show decide ((J : Int) < (x.In.length : Int)) = true by simp [hlt]]
            have hb : x.In[J]? = some x.In[J] := gE hlt
            simp only [cond_true, idx_nat, hb, obs]
            obtain ⟨a, ha1, ha2, ha3⟩ := f1.so K hbk
            obtain ⟨x', hx', hn', _, hin⟩ := ha1.get
            rw [hx] at hx'
            injection hx' with hx'
            subst hx'
            by_cases hh : has l x.In[J]
            · obtain ⟨k2, hk2, e2⟩ := Fst.of_has hh
              rw [e2]
              obtain ⟨b2, hb2⟩ := flag_idx f1 hk2.lt
              simp only [obs, idx_nat, hb2]
              rw [show decide ((k2 : Int) ≥ 0) = true by simp]
              simp only [cond_true, obs, Int.toNat_natCast]
              refine yd ⟨⟨J + 1, ?_, hlt, f1.set hk2 (.step ha2 (by rw [hin]; exact List.getElem_mem hlt) hh) ha3, fun k hk => mon_set k (f2 k hk), ?_⟩, ?_⟩
              · simp only; rw [w64_id om om]; rfl
              · intro b hb3 j hj
                rw [take_snoc hb, List.mem_append, List.mem_singleton] at hb3
                rcases hb3 with hb3 | rfl
                · exact mon_set j (f3 b hb3 j hj)
                · rw [hj.uniq hk2]; exact set_at f1 hk2
              · simp only; rw [w64_id om om]; omega
            · rw [rat_none hh]
              simp only [obs]
              rw [show decide ((-1 : Int) ≥ 0) = false by decide]
              simp only [cond_false, obs]
              refine yd ⟨⟨J + 1, ?_, hlt, f1, f2, ?_⟩, ?_⟩
              · simp only; rw [w64_id om om]; rfl
              · intro b hb3 j hj
                rw [take_snoc hb, List.mem_append, List.mem_singleton] at hb3
                rcases hb3 with hb3 | rfl
                · exact f3 b hb3 j hj
                · exact absurd hj.hs hh
              · simp only; rw [w64_id om om]; omega
          · rw [show decide ((J : Int) < (x.In.length : Int)) = false by simp; omega]
            simp only [cond_false]
            refine yd ⟨f1, f2, fun _ b hb => f3 b ?_⟩
            rw [List.take_of_length_le om]
            exact hb
      · rintro s' ⟨f1, f2, f3⟩
        refine yd ⟨f1, fun k hk => f2 k (g2 k hk), fun k hk hf a ha b hb j hj => ?_⟩
        by_cases e : k = K
        · subst e
          obtain ⟨x', hx', hn', _, hin⟩ := ha.get
          rw [hx] at hx'
          injection hx' with hx'
          subst hx'
          exact f3 (g2 _ hf) b (by rw [← hin]; exact hb) j hj
        · exact f2 j (g3 k om hf a ha b hb j hj)
    · rintro is' ⟨g1, g2, g3⟩
      refine yd ⟨g1, ?_⟩
      rcases cnt is is' (by rw [hs.len, g1.len]) g2 with rfl | hlt
      · left
        intro k a b j hk ha hb hj
        exact g3 k (by have := (List.getElem?_eq_some_iff.1 hk).1; rw [hs.len] at this; exact this) hk a ha b hb j hj
      · rcases hc with hc | hc
        · exfalso
          have : Mon is' is := by
            intro k hk
            obtain ⟨a, ha1, ha2, ha3⟩ := g1.so k hk
            obtain ⟨j, hj, hf⟩ := closed_all hs hc a ha2 ha1.hs
            rw [ha1.uniq hj]
            exact hf
          rcases cnt is' is (by rw [hs.len, g1.len]) this with e | e
          · rw [e] at hlt; omega
          · omega
        · exact .inr fun hn => by have := hc hn; omega
  · rintro is ⟨hs, hc⟩
    refine ⟨hs, ?_⟩
    rcases hc with hc | hc
    · exact hc
    · by_cases hn : has l n
      · have h1 := hc hn
        have h2 := List.count_le_length (a := true) (l := is)
        rw [hs.len] at h2
        omega
      · intro k a b j hk
        obtain ⟨_, _, _, hh⟩ := hs.so k hk
        exact absurd hh hn
theorem into_spec {s : List By8} {x : By8} (hs : Asc s) (hx : x ∉ s) (hl : s.length ≤ 1000) : ∃ A B, s = A ++ B ∧ (∀ y ∈ A, sLt y x = true) ∧ (∀ y ∈ B, sLt x y = true) ∧ r18_into s x = some (A ++ x :: B) := by
  have h : Ret (r18_into s x) (fun r => ∃ A B, s = A ++ B ∧ (∀ y ∈ A, sLt y x = true) ∧ (∀ y ∈ B, sLt x y = true) ∧ r = A ++ x :: B) := by
    unfold r18_into
    refine yh (R := fun (q : Int) => ∃ i : Nat, q = i ∧ i ≤ s.length ∧ (∀ y ∈ s.take i, sLt y x = true) ∧ ∀ z, s[i]? = some z → sLt x z = true) (loopO_rb (fun (q : Int) => ∃ i : Nat, q = i ∧ i ≤ s.length ∧ ∀ y ∈ s.take i, sLt y x = true) (fun q => s.length - q.toNat) ?_ ⟨0, rfl, by omega, by simp⟩) ?_
    · rintro q ⟨i, rfl, hi, h1⟩
      by_cases hlt : i < s.length
      · rw [show decide ((i : Int) < (s.length : Int)) = true by simp [hlt]]
        have hz : s[i]? = some s[i] := gE hlt
        simp only [cond_true, idx_nat, hz, obs]
        cases hc : sLt s[i] x with
        | true =>
          refine yd ⟨⟨i + 1, by rw [w64_id om om]; rfl, hlt, fun y hy => ?_⟩, by rw [w64_id om om]; omega⟩
          rw [take_snoc hz, List.mem_append, List.mem_singleton] at hy
          rcases hy with hy | rfl
          · exact h1 y hy
          · exact hc
        | false =>
          refine yd ⟨i, rfl, hi, h1, fun z hz' => ?_⟩
          rw [hz] at hz'
          injection hz' with hz'
          subst hz'
          rcases sLt_total s[i] x with h | h | h
          · rw [hc] at h; cases h
          · exact absurd (h ▸ List.getElem_mem hlt) hx
          · exact h
      · rw [show decide ((i : Int) < (s.length : Int)) = false by simp; omega]
        simp only [cond_false, obs]
        refine yd ⟨i, rfl, hi, h1, fun z hz => ?_⟩
        have := (List.getElem?_eq_some_iff.1 hz).1
        omega
    · rintro q ⟨i, rfl, hi, h1, h2⟩
      rw [sub_at (lo := 0) (i := 0) (j := i) rfl rfl om hi, sub_at (i := i) (j := s.length) rfl rfl hi om]
      simp only [obs, List.drop_zero, List.take_length]
      rw [app_le (by simp; omega)]
      simp only [obs, List.nil_append]
      rw [app_le (by simp; omega)]
      simp only [obs]
      rw [app_le (by simp; omega)]
      exact yd ⟨s.take i, s.drop i, (List.take_append_drop i s).symm, h1, fun y hy => hs.drop_lt h2 hy, by simp⟩
  obtain ⟨r, hr, A, B, h1, h2, h3, rfl⟩ := h.ex
  exact ⟨A, B, h1, h2, h3, hr⟩
theorem rall_eq {l : List Role} {n : By8} (hl : l.length ≤ 100) (hi : ∀ x ∈ l, x.In.length ≤ 100) : ∃ r, r18_All l n = some r ∧ Good l n r := by
  refine Ret.ex ?_
  unfold r18_All
  refine yh (reach_spec hl hi) ?_
  rintro is ⟨hs, hc⟩
  refine yh (R := fun r => Asc r ∧ ∀ m, m ∈ r ↔ ∃ k, k < l.length ∧ is[k]? = some true ∧ ∃ x, l[k]? = some x ∧ x.Name = m) (forE_ret (fun K r => Asc r ∧ r.length ≤ K ∧ ∀ m, m ∈ r ↔ ∃ k, k < K ∧ is[k]? = some true ∧ ∃ x, l[k]? = some x ∧ x.Name = m) ⟨List.Pairwise.nil, Nat.le_refl _, fun m => by simp⟩ ?_ |>.mono fun r h => ⟨h.1, h.2.2⟩) ?_
  · rintro K r hK ⟨g1, g2, g3⟩
    obtain ⟨b, hb⟩ := flag_idx hs hK
    have hx : l[K]? = some l[K] := gE hK
    simp only [idx_nat, hb, hx, obs]
    cases b with
    | false =>
      refine yd ⟨g1, by omega, fun m => (g3 m).trans ⟨fun ⟨k, h1, h2⟩ => ⟨k, by omega, h2⟩, fun ⟨k, h1, h2, h3⟩ => ⟨k, ?_, h2, h3⟩⟩⟩
      have : k ≠ K := by rintro rfl; rw [hb] at h2; cases h2
      omega
    | true =>
      obtain ⟨a, ha, _, _⟩ := hs.so K hb
      have hn : l[K].Name ∉ r := by
        intro hm
        obtain ⟨k, h1, h2, x, h3, h4⟩ := (g3 _).1 hm
        obtain ⟨a', ha', _, _⟩ := hs.so k h2
        obtain ⟨y, hy1, hy2, _⟩ := ha.get
        obtain ⟨y', hy1', hy2', _⟩ := ha'.get
        rw [hx] at hy1; injection hy1 with hy1
        rw [h3] at hy1'; injection hy1' with hy1'
        subst hy1 hy1'
        rw [h4, hy2] at hy2'
        subst hy2'
        have := ha.uniq ha'
        omega
      obtain ⟨A, B, e, e1, e2, e3⟩ := into_spec g1 hn om
      simp only [cond_true]
      rw [e3]
      refine yd ⟨(e ▸ g1 : Asc (A ++ B)).ins e1 e2, by rw [e] at g2; simp at g2 ⊢; omega, fun m => ?_⟩
      have : m ∈ A ++ l[K].Name :: B ↔ m = l[K].Name ∨ m ∈ r := by rw [e]; simp only [List.mem_append, List.mem_cons]; exact ⟨fun h => by rcases h with h | h | h <;> simp [h], fun h => by rcases h with h | h | h <;> simp [h]⟩
      rw [this, g3]
      constructor
      · rintro (rfl | ⟨k, h1, h2⟩)
        · exact ⟨K, by omega, hb, _, hx, rfl⟩
        · exact ⟨k, by omega, h2⟩
      · rintro ⟨k, h1, h2, x, h3, h4⟩
        by_cases e : k = K
        · subst e
          rw [hx] at h3; injection h3 with h3
          exact .inl (by rw [h3]; exact h4.symm)
        · exact .inr ⟨k, by omega, h2, x, h3, h4⟩
  · rintro r ⟨h1, h2⟩
    refine yd ⟨fun hn => ⟨h1, fun m => ?_⟩, fun hn => ?_⟩
    · rw [h2]
      constructor
      · rintro ⟨k, g1, g2, x, g3, g4⟩
        obtain ⟨a, ha, hr, _⟩ := hs.so k g2
        obtain ⟨y, hy1, hy2, _⟩ := ha.get
        rw [g3] at hy1; injection hy1 with hy1
        subst hy1
        rw [← g4, hy2]
        exact hr
      · intro hr
        have hm : has l m := by cases hr with | self => exact hn | step _ _ h => exact h
        obtain ⟨j, hj, hf⟩ := closed_all hs hc m hr hm
        obtain ⟨y, hy1, hy2, _⟩ := hj.get
        exact ⟨j, hj.lt, hf, y, hy1, hy2⟩
    · cases r with
      | nil => rfl
      | cons m r =>
        obtain ⟨k, g1, g2, _⟩ := (h2 m).1 (by simp)
        obtain ⟨_, _, _, hh⟩ := hs.so k g2
        exact absurd hh hn
theorem contains_has (xs : List By8) (n : By8) : slices_Contains_string xs n = r14_Has xs n := by
  obtain ⟨a, ha, ha'⟩ := contains_eq xs n
  obtain ⟨b, hb, hb'⟩ := has_eq xs n
  rw [ha, hb, bool_iff ha' hb']
theorem all_same {l : List Role} (h : Sm l) (n : By8) : member_All l n = r18_All l n := by
  obtain ⟨a, ha, ga⟩ := all_eq (n := n) h.1 h.2.1 h.2.2
  obtain ⟨b, hb, gb⟩ := rall_eq (n := n) h.1 h.2.1
  rw [ha, hb, ga.uniq gb]
theorem is_same {l : List Role} (h : Sm l) (n o : By8) : member_Is l n o = r18_Is l n o := by
  unfold member_Is r18_Is
  rw [all_same h]
  simp only [contains_has]
def Sml (c : Int) : Prop := 97 ≤ c ∧ c ≤ 122
def Wrd (c : Int) : Prop := (97 ≤ c ∧ c ≤ 122) ∨ (48 ≤ c ∧ c ≤ 57) ∨ c = 95
def Nmd (s : By8) : Prop := s.size ≤ 12 ∧ (∃ c, sAt s 0 = some c ∧ Sml c) ∧ ∀ (i : Nat) (c : Int), sAt s (i : Int) = some c → Wrd c
theorem sAt_lt {s : By8} {i : Nat} {c : Int} (h : sAt s (i : Int) = some c) : i < s.size := by
  unfold sAt at h
  rw [if_pos om, Int.toNat_natCast] at h
  cases hx : s[i]? with
  | none => rw [hx] at h; cases h
  | some b => exact (getElem?_eq_some_iff.1 hx).1
theorem small_iff (c : Int) : lex_small c = some (decide (c ≥ 97) && decide (c ≤ 122)) ∧ ((decide (c ≥ 97) && decide (c ≤ 122)) = true ↔ Sml c) := ⟨rfl, by unfold Sml; simp⟩
theorem one1_iff (c : Int) : ∃ b, lex_one_1 c = some b ∧ (b = true ↔ Wrd c) := by
  refine Ret.ex ?_
  unfold lex_one_1 lex_small lex_digit
  simp only [obs]
  refine yh (R := fun b => b = true ↔ Sml c ∨ (48 ≤ c ∧ c ≤ 57)) (yk (fun h => yd ?_) (fun h => yd ?_)) (fun b hb => yd ?_)
  · simp only [Bool.and_eq_true, decide_eq_true_eq] at h
    exact ⟨fun _ => .inl ⟨h.1, h.2⟩, fun _ => rfl⟩
  · have hn : ¬ Sml c := fun hs => by unfold Sml at hs; simp at h; omega
    simp only [Bool.and_eq_true, decide_eq_true_eq]
    constructor
    · rintro ⟨h1, h2⟩; exact .inr ⟨h1, h2⟩
    · rintro (h1 | h1)
      · exact absurd h1 hn
      · exact h1
  · rw [Bool.or_eq_true, hb, beq_iff_eq]
    unfold Wrd Sml
    constructor
    · rintro ((h | h) | h)
      · exact .inl h
      · exact .inr (.inl h)
      · exact .inr (.inr h)
    · rintro (h | h | h)
      · exact .inl (.inl h)
      · exact .inl (.inr h)
      · exact .inr h
theorem while_spec {s : By8} (hs : s.size ≤ 100000) : Ret (lex_while s 0 12 (fun u => lex_one_1 u)) (fun r => ∃ k : Nat, r = (k : Int) ∧ k ≤ s.size ∧ k ≤ 12 ∧ (∀ (i : Nat) c, i < k → sAt s (i : Int) = some c → Wrd c) ∧ (k < s.size → k < 12 → ∀ c, sAt s (k : Int) = some c → ¬ Wrd c)) := by
  unfold lex_while
  refine yh (loopO_rb (fun (q : Int) => ∃ k : Nat, q = (k : Int) ∧ k ≤ s.size ∧ k ≤ 12 ∧ ∀ (i : Nat) c, i < k → sAt s (i : Int) = some c → Wrd c) (fun q => s.size - q.toNat) ?_ ⟨0, rfl, by omega, by omega, by omega⟩) (fun r h => yd h)
  rintro q ⟨k, rfl, h1, h2, h3⟩
  rw [w64_id (n := 0 + (k : Int)) om om, Int.zero_add]
  by_cases hc : k < s.size ∧ k < 12
  · rw [show (decide ((k : Int) < (s.size : Int)) && decide ((k : Int) < 12)) = true by simp; omega]
    obtain ⟨c, hc2⟩ := sAt_some (s := s) (i := (k : Int)) om om
    obtain ⟨b, hb, hb2⟩ := one1_iff c
    simp only [cond_true, hc2, obs, hb]
    cases b with
    | true =>
      refine yd ⟨⟨k + 1, by rw [w64_id om om]; rfl, by omega, by omega, fun i d hi hd => ?_⟩, by rw [w64_id om om]; omega⟩
      by_cases e : i = k
      · subst e; rw [hc2] at hd; injection hd with hd; rw [← hd]; exact hb2.1 rfl
      · exact h3 i d om hd
    | false =>
      refine yd ⟨k, rfl, h1, h2, h3, fun _ _ d hd hw => ?_⟩
      rw [hc2] at hd; injection hd with hd
      subst hd
      have := hb2.2 hw
      cases this
  · rw [show (decide ((k : Int) < (s.size : Int)) && decide ((k : Int) < 12)) = false by simp; omega]
    exact yd ⟨k, rfl, h1, h2, h3, fun a b => absurd ⟨a, b⟩ hc⟩
theorem alone_spec {s : By8} {k : Nat} (hk : 0 < k) : Ret (lex_alone s (k : Int)) (fun r => r = (s.size : Int) ∧ 0 < s.size ↔ k = s.size) := by
  unfold lex_alone
  refine yh (R := fun b => b = true → k < s.size) (yk (fun hc => ?_) (fun _ => yd (fun h => by cases h))) (fun b hb => yk (fun e => yd ?_) (fun e => yd ?_))
  · have hlt : k < s.size := by simp at hc; omega
    obtain ⟨c, hc⟩ := sAt_some (s := s) (i := (k : Int)) om om
    obtain ⟨b, hb⟩ := glued_eq c
    rw [hc]
    simp only [obs, hb]
    exact yd fun _ => hlt
  · have := hb e
    omega
  · omega
theorem other_spec {s : By8} {c : Int} (hs : s.size ≤ 100000) (h0 : 0 < s.size) (hc : sAt s 0 = some c) (hn : ¬ Sml c) : Ret (lex_one s) (fun r => r.1 ≠ 1) := by
  unfold lex_one
  rw [hc]
  simp only [obs]
  have al : ∀ (k i : Int), 0 ≤ i → k ≠ 1 → Ret ((lex_alone s i).bind fun r => some (k, r)) (fun r => r.1 ≠ 1) := fun k i h hk => by
    obtain ⟨r, hr⟩ := alone_ret (s := s) h
    rw [hr]; exact yd hk
  obtain ⟨e1, e2⟩ := small_iff c
  rw [e1]
  simp only [obs]
  refine yk (fun h => absurd (e2.1 h) hn) (fun _ => ?_)
  refine yh (R := fun _ => True) (ybv rfl trivial) (fun b _ => yk (fun _ => yh (while_ret one2_eq hs) (fun r h => al 2 r h.1 (by decide))) (fun _ => ?_))
  refine yk (fun _ => al 3 1 om (by decide)) (fun _ => ?_)
  refine yh (R := fun _ => True) (ybv rfl trivial) (fun b _ => yk (fun _ => yh (while_ret (fun c => ⟨_, rfl⟩) hs) (fun r h => al 3 r h.1 (by decide))) (fun _ => ?_))
  refine yk (fun _ => ?_) (fun _ => yk (fun _ => ?_) (fun _ => ?_))
  · obtain ⟨r, hr⟩ := quoted_ret hs
    rw [hr]; exact yd (by simp)
  · refine yh (R := fun b => b = false → 2 ≤ s.size) (yk (fun _ => yd (fun h => by cases h)) (fun hc => ?_)) (fun b hb => ?_)
    · have h2 : 2 ≤ s.size := by simp at hc; omega
      obtain ⟨c, hc⟩ := sAt_some (s := s) (i := 1) om om
      rw [hc]
      exact yd fun _ => h2
    · refine yh (R := fun _ => True) (yk rt (fun e => ?_)) (fun _ _ => yk (fun _ => yd (by decide)) (fun _ => al 5 2 om (by decide)))
      have := hb e
      obtain ⟨c, hc⟩ := sAt_some (s := s) (i := 1) om om
      rw [hc]
      exact yd trivial
  · obtain ⟨r, hr⟩ := sign_ret s
    rw [hr]; exact yd (by simp)
theorem size_pos {s : By8} (h : sEq s eB = false) : 0 < s.size := by
  rcases Nat.eq_zero_or_pos s.size with h0 | h0
  · exfalso
    have : s = eB := by
      cases s with
      | mk d => congr 1; exact Array.eq_empty_of_size_eq_zero h0
    rw [this, keq.refl] at h
    cases h
  · exact h0
theorem Nmd.pos {s : By8} (h : Nmd s) : 0 < s.size := by
  obtain ⟨_, ⟨c, hc, _⟩, _⟩ := h
  exact sAt_lt (i := 0) hc
theorem name_spec {s : By8} (hs : s.size ≤ 100000) : ∃ b, lex_IsName s = some b ∧ (b = true ↔ Nmd s) := by
  refine Ret.ex ?_
  unfold lex_IsName lex_Right
  simp only
  refine yh (R := fun b => b = true ↔ Nmd s) (yk (fun h => by cases h) (fun _ => yk (fun e => yd ?_) (fun e => ?_))) (fun b hb => yd hb)
  · constructor
    · intro h; cases h
    · intro h
      have := h.pos
      rw [(keq _ _).1 e] at this
      cases this
  · have h0 := size_pos e
    obtain ⟨c, hc⟩ := sAt_some (s := s) (i := 0) om om
    by_cases hsm : Sml c
    · have : Ret (lex_one s) (fun r => r.1 = 1 ∧ (r.2 = (s.size : Int) ↔ Nmd s)) := by
        unfold lex_one
        rw [hc]
        simp only [obs]
        obtain ⟨e1, e2⟩ := small_iff c
        rw [e1]
        simp only [obs]
        refine yk (fun _ => ?_) (fun h => by rw [e2.2 hsm] at h; cases h)
        refine yh (while_spec hs) ?_
        rintro r ⟨k, rfl, h1, h2, h3, h4⟩
        have hk : 0 < k := by
          rcases Nat.eq_zero_or_pos k with hk | hk
          · subst hk
            exact absurd (.inl hsm) (h4 h0 om c hc)
          · exact hk
        refine yh (alone_spec hk) (fun r hr => yd ⟨rfl, ?_⟩)
        have : r = (s.size : Int) ↔ k = s.size := ⟨fun h => hr.1 ⟨h, h0⟩, fun h => (hr.2 h).1⟩
        rw [this]
        constructor
        · rintro rfl
          exact ⟨h2, ⟨c, hc, hsm⟩, fun i d hd => h3 i d (sAt_lt hd) hd⟩
        · rintro ⟨g1, _, g3⟩
          rcases Nat.lt_or_ge k s.size with hlt | hge
          · obtain ⟨d, hd⟩ := sAt_some (s := s) (i := (k : Int)) om om
            exact absurd (g3 k d hd) (h4 hlt om d hd)
          · omega
      refine yh this ?_
      rintro ⟨k, r⟩ ⟨g1, g2⟩
      simp only at g1 g2
      subst g1
      refine yd ?_
      rw [← g2]
      simp
    · refine yh (other_spec hs h0 hc hsm) ?_
      rintro ⟨k, r⟩ g1
      simp only at g1
      refine yd ⟨fun h => ?_, fun h => ?_⟩
      · simp only [Bool.and_eq_true, beq_iff_eq] at h
        exact absurd h.2 g1
      · obtain ⟨_, ⟨d, hd, hds⟩, _⟩ := h
        rw [hc] at hd; injection hd with hd
        subst hd
        exact absurd hds hsm
theorem rall_spec {s t : By8} {f : Nat} (hs : s.size ≤ 100000) (ht : t.size ≤ 1000) : Ret (r09_all s (f : Int) t) (fun b => b = true ↔ ∀ (i : Nat) c, f ≤ i → sAt s (i : Int) = some c → ∃ j : Nat, sAt t (j : Int) = some c) := by
  unfold r09_all
  refine yh (R := fun r => (r = .inl false ∧ ∃ (i : Nat) (c : Int), f ≤ i ∧ sAt s (i : Int) = some c ∧ ∀ j : Nat, sAt t (j : Int) ≠ some c) ∨ (r = .inr () ∧ ∀ (i : Nat) c, f ≤ i → sAt s (i : Int) = some c → ∃ j : Nat, sAt t (j : Int) = some c)) (loopO_rb (fun (q : Int) => ∃ k : Nat, q = (k : Int) ∧ f ≤ k ∧ (k ≤ s.size ∨ k = f) ∧ ∀ (i : Nat) c, f ≤ i → i < k → sAt s (i : Int) = some c → ∃ j : Nat, sAt t (j : Int) = some c) (fun q => s.size + f + 1 - q.toNat) ?_ ⟨f, rfl, Nat.le_refl _, .inr rfl, by omega⟩) ?_
  · rintro q ⟨k, rfl, h1, h2, h3⟩
    refine yk (fun hc => ?_) (fun hc => yd (.inr ⟨rfl, fun i c hi hic => h3 i c hi (by have := sAt_lt hic; simp at hc; omega) hic⟩))
    have hk : k < s.size := by simp at hc; omega
    obtain ⟨c, hc⟩ := sAt_some (s := s) (i := (k : Int)) om om
    refine yh (R := fun b => b = true ↔ ∃ j : Nat, sAt t (j : Int) = some c) (loopO_rb (fun (q : Bool × Int) => ∃ j : Nat, q.2 = (j : Int) ∧ j ≤ t.size ∧ (q.1 = true ↔ ∃ m : Nat, m < j ∧ sAt t (m : Int) = some c)) (fun q => t.size - q.2.toNat) ?_ ⟨0, rfl, by omega, by simp⟩) ?_
    · rintro ⟨b, q⟩ ⟨j, g1, g2, g3⟩
      simp only at g1 g3
      subst g1
      refine yk (fun hj => ?_) (fun hj => yd ?_)
      · have hj : j < t.size := by simp at hj; omega
        obtain ⟨d, hd⟩ := sAt_some (s := t) (i := (j : Int)) om om
        simp only [hd, hc, obs]
        refine yh (R := fun b' => b' = true ↔ b = true ∨ d = c) (yk (fun e => yd (by simp [e])) (fun e => yd (by simp [e]))) ?_
        intro b' hb'
        refine yd ⟨⟨j + 1, by simp only; rw [w64_id om om]; rfl, hj, ?_⟩, by simp only; rw [w64_id om om]; omega⟩
        simp only
        rw [hb', g3]
        constructor
        · rintro (⟨m, h, e⟩ | rfl)
          · exact ⟨m, by omega, e⟩
          · exact ⟨j, by omega, hd⟩
        · rintro ⟨m, h, e⟩
          by_cases hm : m = j
          · subst hm; rw [hd] at e; injection e with e; exact .inr e
          · exact .inl ⟨m, by omega, e⟩
      · have : j = t.size := by simp at hj; omega
        subst this
        refine g3.trans ?_
        constructor
        · rintro ⟨m, _, e⟩; exact ⟨m, e⟩
        · rintro ⟨m, e⟩; exact ⟨m, sAt_lt e, e⟩
    · intro b hb
      refine yk (fun e => yd (.inl ⟨rfl, k, c, h1, hc, fun j hj => ?_⟩)) (fun e => yd ⟨⟨k + 1, by rw [w64_id om om]; rfl, by omega, .inl hk, fun i d hi hik hd => ?_⟩, by rw [w64_id om om]; omega⟩)
      · rw [hb.2 ⟨j, hj⟩] at e; cases e
      · by_cases hm : i = k
        · subst hm; rw [hc] at hd; injection hd with hd; subst hd; exact hb.1 (by simpa using e)
        · exact h3 i d hi om hd
  · rintro r (⟨rfl, i, c, h1, h2, h3⟩ | ⟨rfl, h⟩)
    · exact yd ⟨fun h => (by cases h), fun h => by obtain ⟨j, hj⟩ := h i c h1 h2; exact absurd hj (h3 j)⟩
    · exact yd ⟨fun _ => h, fun _ => rfl⟩
def nums (t : By8) : List Int := t.data.toList.map fun b => (b.toNat : Int)
theorem sAt_nums (t : By8) (c : Int) : (∃ j : Nat, sAt t (j : Int) = some c) ↔ c ∈ nums t := by
  have key : ∀ j : Nat, sAt t (j : Int) = (nums t)[j]? := fun j => by
    unfold sAt nums
    rw [if_pos om, Int.toNat_natCast, List.getElem?_map, Array.getElem?_toList]
    rfl
  rw [List.mem_iff_getElem?]
  constructor <;> rintro ⟨j, hj⟩ <;> exact ⟨j, by rw [← hj, key]⟩
theorem first_at {s : By8} (h0 : 0 < s.size) (i : Nat) (c : Int) : sAt (s.extract 0 1) (i : Int) = some c ↔ i = 0 ∧ sAt s 0 = some c := by
  have hs : (s.extract 0 1).size = 1 := by rw [ByteArray.size_extract]; omega
  constructor
  · intro h
    have hi := sAt_lt h
    have hi0 : i = 0 := by omega
    subst hi0
    refine ⟨rfl, ?_⟩
    unfold sAt at h ⊢
    rw [if_pos om] at h ⊢
    rw [← h]
    congr 1
    rw [Int.toNat_natCast]
    show s[0]? = _
    rw [getElem?_pos s 0 h0, getElem?_pos (s.extract 0 1) 0 om, ByteArray.getElem_extract]
  · rintro ⟨rfl, h⟩
    unfold sAt at h ⊢
    rw [if_pos om] at h ⊢
    rw [← h]
    congr 1
    rw [Int.toNat_natCast]
    show _ = s[0]?
    rw [getElem?_pos s 0 h0, getElem?_pos (s.extract 0 1) 0 om, ByteArray.getElem_extract]
theorem plain_ret {s : By8} (hs : s.size ≤ 100000) : ∃ b, r03_Plain s = some b := by
  refine Ret.ex (Q := fun _ => True) ?_ |>.imp fun r h => h.1
  unfold r03_Plain
  refine yh (loopO_rb (Q := fun _ => True) (fun (q : Int) => 0 ≤ q ∧ q ≤ (s.size : Int)) (fun q => ((s.size : Int) - q).toNat) ?_ ⟨by omega, by omega⟩) (fun t _ => by cases t <;> exact yd trivial)
  rintro q ⟨h1, h2⟩
  refine yk (fun hc => ?_) rt
  have hq : q < (s.size : Int) := by simpa using hc
  obtain ⟨c, hc⟩ := sAt_some h1 hq
  rw [hc]
  simp only [obs]
  refine yh (R := fun _ => True) (yk rt rt) (fun b _ => yk rt (fun _ => yd ⟨⟨?_, ?_⟩, ?_⟩)) <;> rw [w64_id om om] <;> omega
theorem rquoted_ret {s : By8} (hs : s.size ≤ 100000) (h0 : 0 < s.size) : ∃ b, r09_quoted s = some b := by
  refine Ret.ex (Q := fun _ => True) ?_ |>.imp fun r h => h.1
  unfold r09_quoted
  have hw : w64 ((s.size : Int) - 1) = ((s.size - 1 : Nat) : Int) := by rw [w64_id om om]; omega
  rw [hw]
  obtain ⟨c0, hc0⟩ := sAt_some (s := s) (i := 0) om om
  obtain ⟨c1, hc1⟩ := sAt_some (s := s) (i := ((s.size - 1 : Nat) : Int)) om om
  obtain ⟨p, hp⟩ := plain_ret hs
  rw [hc0, hc1, hp]
  simp only [obs]
  refine yh (R := fun _ => True) (yk rt rt) (fun _ _ => yh (R := fun _ => True) (yk rt rt) (fun _ _ => yh (R := fun _ => True) (yk rt rt) (fun _ _ => yk rt (fun _ => ?_))))
  refine yh (loopO_rb (Q := fun _ => True) (fun (q : Int × Int) => 1 ≤ q.2 ∧ (q.2 ≤ (s.size : Int) ∨ q.2 = 1)) (fun q => ((s.size : Int) + 1 - q.2).toNat) ?_ ⟨by simp, .inr rfl⟩) (fun t _ => by cases t <;> exact yd trivial)
  rintro ⟨n, q⟩ ⟨h1, h2⟩
  simp only at h1 h2
  refine yk (fun hc => ?_) rt
  have hq : q < (s.size : Int) := by simp at hc; omega
  obtain ⟨c, hc⟩ := sAt_some (s := s) om hq
  rw [hc]
  simp only [obs]
  refine yh (R := fun _ => True) (yk (fun _ => yk rt rt) rt) (fun t _ => ?_)
  cases t with
  | inl v => exact yd trivial
  | inr v =>
    refine yd ⟨⟨?_, .inl ?_⟩, ?_⟩ <;> simp only <;> rw [w64_id om om] <;> omega
theorem rsign_ret (s : By8) : ∃ b, r09_sign s = some b := by
  refine Ret.ex (Q := fun _ => True) ?_ |>.imp fun r h => h.1
  unfold r09_sign
  refine yh (R := fun _ => True) ?_ (fun b _ => yk rt rt)
  repeat first
    | exact yd trivial
    | refine yk rt (fun _ => yh (R := fun _ => True) ?_ (fun _ _ => yd trivial))
    | refine yk rt rt
theorem rname_spec {s : By8} (hs : s.size ≤ 100000) : ∃ b, r09_IsName s = some b ∧ (b = true ↔ Nmd s) := by
  refine Ret.ex ?_
  unfold r09_IsName
  refine yh (R := fun k => k = 1 ↔ Nmd s) ?_ (fun k hk => yd (by rw [beq_iff_eq]; exact hk))
  unfold r09_Kind
  refine yk (fun e => yd ⟨fun h => (by cases h), fun h => ?_⟩) (fun e => ?_)
  · have := h.pos
    rw [(keq _ _).1 e] at this
    cases this
  have h0 := size_pos e
  have hex : ssub s 0 1 = some (s.extract 0 1) := by
    unfold ssub
    rw [if_pos ⟨by omega, by omega, by omega⟩]
    rfl
  have hes : (s.extract 0 1).size ≤ 100000 := by rw [ByteArray.size_extract]; omega
  refine yh (R := fun b => b = true ↔ s.size ≤ 12 ∧ ∃ c, sAt s 0 = some c ∧ Sml c) (yk (fun hc => ?_) (fun hc => yd ⟨fun h => (by cases h), fun h => by simp at hc; omega⟩)) (fun b hb => ?_)
  · rw [hex]
    simp only [obs]
    refine yh (rall_spec (f := 0) hes (by decide)) (fun b hb => yd (hb.trans ?_))
    have h12 : s.size ≤ 12 := by simp at hc; omega
    obtain ⟨c, hc⟩ := sAt_some (s := s) (i := 0) om om
    have hm : (∃ j : Nat, sAt (⟨#[97, 98, 99, 100, 101, 102, 103, 104, 105, 106, 107, 108, 109, 110, 111, 112, 113, 114, 115, 116, 117, 118, 119, 120, 121, 122]⟩ : By8) (j : Int) = some c) ↔ Sml c := by
      rw [sAt_nums]
      simp only [nums, List.map_cons, List.map_nil, List.mem_cons, List.not_mem_nil, or_false, Sml]
      simp
      omega
    constructor
    · intro h
      exact ⟨h12, c, hc, hm.1 (h 0 c om ((first_at h0 0 c).2 ⟨rfl, hc⟩))⟩
    · rintro ⟨_, d, hd, hds⟩ i x _ hx
      obtain ⟨_, hx⟩ := (first_at h0 i x).1 hx
      rw [hc] at hx hd
      injection hx with hx; injection hd with hd
      subst hx hd
      exact hm.2 hds
  refine yh (R := fun b => b = true ↔ Nmd s) (yk (fun e => ?_) (fun e => yd ⟨fun h => (by cases h), fun h => ?_⟩)) (fun b hb => yk (fun e => yd ⟨fun _ => hb.1 e, fun _ => rfl⟩) (fun e => ?_))
  · obtain ⟨h12, c, hc, hcs⟩ := hb.1 e
    refine yh (rall_spec (f := 1) hs (by decide)) (fun b hb => yd (hb.trans ?_))
    have hm : ∀ x, (∃ j : Nat, sAt (⟨#[97, 98, 99, 100, 101, 102, 103, 104, 105, 106, 107, 108, 109, 110, 111, 112, 113, 114, 115, 116, 117, 118, 119, 120, 121, 122, 48, 49, 50, 51, 52, 53, 54, 55, 56, 57, 95]⟩ : By8) (j : Int) = some x) ↔ Wrd x := fun x => by
      rw [sAt_nums]
      simp only [nums, List.map_cons, List.map_nil, List.mem_cons, List.not_mem_nil, or_false, Wrd]
      simp
      omega
    constructor
    · intro h
      refine ⟨h12, ⟨c, hc, hcs⟩, fun i x hx => ?_⟩
      by_cases hi : i = 0
      · subst hi
        rw [show ((0 : Nat) : Int) = 0 from rfl, hc] at hx
        injection hx with hx
        subst hx
        exact .inl hcs
      · exact (hm x).1 (h i x om hx)
    · intro h i x _ hx
      exact (hm x).2 (h.2.2 i x hx)
  · have := hb.2 ⟨h.1, h.2.1⟩
    rw [e] at this
    cases this
  have hno : ¬ Nmd s := fun h => by rw [hb.2 h] at e; cases e
  refine RB.mono (Q := fun k => k ≠ 1) ?_ (fun k hk => ⟨fun h => absurd h hk, fun h => absurd h hno⟩)
  rw [hex]
  simp only [obs]
  have ra : ∀ (x t : By8) (f : Nat), x.size ≤ 100000 → t.size ≤ 1000 → ∃ b, r09_all x (f : Int) t = some b := fun x t f h1 h2 => by
    obtain ⟨b, hb, _⟩ := (rall_spec (s := x) (t := t) (f := f) h1 h2).ex
    exact ⟨b, hb⟩
  obtain ⟨b1, hb1⟩ := ra (s.extract 0 1) (⟨#[65, 66, 67, 68, 69, 70, 71, 72, 73, 74, 75, 76, 77, 78, 79, 80, 81, 82, 83, 84, 85, 86, 87, 88, 89, 90]⟩ : By8) 0 hes (by decide)
  obtain ⟨b2, hb2⟩ := ra s (⟨#[65, 66, 67, 68, 69, 70, 71, 72, 73, 74, 75, 76, 77, 78, 79, 80, 81, 82, 83, 84, 85, 86, 87, 88, 89, 90, 95]⟩ : By8) 1 hs (by decide)
  obtain ⟨b3, hb3⟩ := ra s (⟨#[48, 49, 50, 51, 52, 53, 54, 55, 56, 57]⟩ : By8) 0 hs (by decide)
  obtain ⟨b4, hb4⟩ := rquoted_ret hs h0
  obtain ⟨b5, hb5⟩ := rsign_ret s
  obtain ⟨c0, hc0⟩ := sAt_some (s := s) (i := 0) om om
  refine yh (R := fun _ => True) (yk (fun _ => ybn hb1 (yd trivial)) rt) (fun _ _ => ?_)
  refine yh (R := fun _ => True) (yk (fun _ => ybn hb2 (yd trivial)) rt) (fun _ _ => yk (fun _ => yd (by decide)) (fun _ => ?_))
  refine yh (R := fun _ => True) (yk (fun _ => ybn hb3 (yd trivial)) rt) (fun _ _ => ?_)
  refine yh (R := fun _ => True) (yk (fun _ => yh (R := fun _ => True) (yk rt (fun _ => by rw [hc0]; exact yd trivial)) (fun _ _ => yd trivial)) rt) (fun _ _ => yk (fun _ => yd (by decide)) (fun _ => ?_))
  rw [hb4]
  simp only [obs]
  refine yk (fun _ => yd (by decide)) (fun _ => ?_)
  refine yh (R := fun b => b = true → s.size = 2) (yk (fun hc => by rw [hc0]; exact yd (fun _ => by simp at hc; omega)) (fun _ => yd (fun h => by cases h))) (fun b hb => ?_)
  have at1 : s.size = 2 → ∃ c, sAt s 1 = some c := fun h => sAt_some om om
  refine yh (R := fun b => b = true → s.size = 2) (yk (fun e => by obtain ⟨c, hc⟩ := at1 (hb e); rw [hc]; exact yd (fun _ => hb e)) (fun _ => yd (fun h => by cases h))) (fun b hb => ?_)
  refine yh (R := fun _ => True) (yk (fun e => by obtain ⟨c, hc⟩ := at1 (hb e); rw [hc]; exact yd trivial) rt) (fun _ _ => yk (fun _ => yd (by decide)) (fun _ => ?_))
  rw [hb5]
  simp only [obs]
  exact yk (fun _ => yd (by decide)) (fun _ => yd (by decide))
theorem rat_neg (l : List Role) (n : By8) : ∃ r, r18_At l n = some r ∧ (r < 0 ↔ ¬ has l n) := by
  by_cases h : has l n
  · obtain ⟨k, _, e⟩ := Fst.of_has h
    exact ⟨_, e, by simp [h]⟩
  · exact ⟨_, rat_none h, by simp [h]⟩
theorem Asc.adj {s : List By8} (h : Asc s) {i : Nat} (h1 : 1 ≤ i) {x y : By8} (hx : s[i - 1]? = some x) (hy : s[i]? = some y) : sLt x y = true := by
  obtain ⟨a1, rfl⟩ := List.getElem?_eq_some_iff.1 hx
  obtain ⟨b1, rfl⟩ := List.getElem?_eq_some_iff.1 hy
  exact List.pairwise_iff_getElem.1 h (i - 1) i a1 b1 om
theorem rcheck_eq {l : List Role} (h : Sm l) : ∃ e, r18_Check l = some e ∧ (e = 0 ∨ e = 2) ∧ (e = 0 ↔ Right l) := by
  refine Ret.ex ?_
  have no2 : ∀ {p : Prop}, ¬ p → ((2 : Int) = 0 ∨ (2 : Int) = 2) ∧ ((2 : Int) = 0 ↔ p) := fun hp => ⟨.inr rfl, fun h => (by cases h), fun h => absurd h hp⟩
  unfold r18_Check
  refine yk (fun e => yd (no2 fun hR => by have := hR.few; simp at e; omega)) (fun e => ?_)
  have h8 : l.length ≤ 8 := by simp at e; omega
  refine yh (forN_ret (fun i _ => Asc ((l.map (·.Name)).take i) ∧ ∀ x ∈ l.take i, lex_IsName x.Name = some true ∧ Asc x.In ∧ ∀ s ∈ x.In, has l s) (Q := fun (v : Int) => v = 2 ∧ ¬ Right l) ⟨List.Pairwise.nil, by simp⟩ ?_) ?_
  · rintro i _ hi ⟨g1, g2⟩
    have hx : l[i]? = some l[i] := gE hi
    have hm : l[i] ∈ l := List.getElem_mem hi
    have hns : (l.map (·.Name))[i]? = some l[i].Name := by rw [List.getElem?_map, hx]; rfl
    obtain ⟨b, hb, hb2⟩ := rname_spec (s := l[i].Name) (by have := h.2.2 _ hm; omega)
    obtain ⟨b', hb', hb2'⟩ := name_spec (s := l[i].Name) (by have := h.2.2 _ hm; omega)
    have hbb : b' = b := bool_iff hb2' hb2
    subst hbb
    simp only [idx_nat, hx, obs, hb]
    refine yh (R := fun j => (j = true → ¬ Right l) ∧ (j = false → b' = true ∧ Asc ((l.map (·.Name)).take (i + 1)))) ?_ ?_
    · cases b' with
      | false => exact yd ⟨fun _ hR => (by have := hR.nm _ hm; rw [hb'] at this; cases this), fun h => by cases h⟩
      | true =>
        simp only [Bool.not_true, cond_false]
        refine yh (R := fun j => (j = true → ¬ Right l) ∧ (j = false → Asc ((l.map (·.Name)).take (i + 1)))) (yk (fun hc => ?_) (fun hc => yd ⟨fun h => (by cases h), fun _ => ?_⟩)) (fun j hj => yd ⟨hj.1, fun e => ⟨trivial, hj.2 e⟩⟩)
        · have h1 : 1 ≤ i := by simp at hc; omega
          have hy : l[i - 1]? = some l[i - 1] := gE om
          have hnp : (l.map (·.Name))[i - 1]? = some l[i - 1].Name := by rw [List.getElem?_map, hy]; rfl
          rw [w64_id (n := (i : Int) - 1) om om, show (i : Int) - 1 = ((i - 1 : Nat) : Int) by omega]
          simp only [idx_nat, hy, hx, obs]
          refine yd ⟨fun e hR => ?_, fun e => ?_⟩
          · rw [hR.asc.adj h1 hnp hns] at e; cases e
          · refine asc_next h1 hns g1 fun y hy' => ?_
            rw [hnp] at hy'; injection hy' with hy'
            subst hy'
            simpa using e
        · have : i = 0 := by simp at hc; omega
          subst this
          rw [take_snoc hns]
          exact List.pairwise_singleton ..
    intro j hj
    refine yk (fun e => yd ⟨rfl, hj.1 e⟩) (fun e => ?_)
    obtain ⟨e1, e2⟩ := hj.2 e
    subst e1
    have hxl := h.2.1 _ hm
    refine yh (R := fun t => (t = .inl 2 ∧ ¬ Right l) ∨ (t = .inr () ∧ Asc l[i].In ∧ ∀ s ∈ l[i].In, has l s)) (loopO_rb (fun (q : Int) => ∃ k : Nat, q = (k : Int) ∧ k ≤ l[i].In.length ∧ Asc (l[i].In.take k) ∧ ∀ s ∈ l[i].In.take k, has l s) (fun q => l[i].In.length - q.toNat) ?_ ⟨0, rfl, by omega, List.Pairwise.nil, by simp⟩) ?_
    · rintro q ⟨k, rfl, f1, f2, f3⟩
      refine yk (fun hc => ?_) (fun hc => yd (.inr ⟨rfl, ?_⟩))
      · have hk : k < l[i].In.length := by simp at hc; omega
        have hz : l[i].In[k]? = some l[i].In[k] := gE hk
        simp only [idx_nat, hz, obs]
        obtain ⟨r, hr, hr2⟩ := rat_neg l l[i].In[k]
        rw [hr]
        simp only [obs]
        refine yh (R := fun j => (j = true → ¬ Right l) ∧ (j = false → has l l[i].In[k] ∧ Asc (l[i].In.take (k + 1)))) (yk (fun e => yd ⟨fun _ hR => hr2.1 (by simpa using e) (hR.mem _ hm _ (List.getElem_mem hk)), fun h => by cases h⟩) (fun e => ?_)) ?_
        · have hh : has l l[i].In[k] := Classical.byContradiction fun hn => by have := hr2.2 hn; simp at e; omega
          refine yh (R := fun j => (j = true → ¬ Right l) ∧ (j = false → Asc (l[i].In.take (k + 1)))) (yk (fun hc => ?_) (fun hc => yd ⟨fun h => (by cases h), fun _ => ?_⟩)) (fun j hj => yd ⟨hj.1, fun e => ⟨hh, hj.2 e⟩⟩)
          · have h1 : 1 ≤ k := by simp at hc; omega
            have hy : l[i].In[k - 1]? = some l[i].In[k - 1] := gE om
            rw [w64_id (n := (k : Int) - 1) om om, show (k : Int) - 1 = ((k - 1 : Nat) : Int) by omega]
            simp only [idx_nat, hy, hz, obs]
            refine yd ⟨fun e hR => ?_, fun e => ?_⟩
            · rw [(hR.ain _ hm).adj h1 hy hz] at e; cases e
            · refine asc_next h1 hz f2 fun y hy' => ?_
              rw [hy] at hy'; injection hy' with hy'
              subst hy'
              simpa using e
          · have : k = 0 := by simp at hc; omega
            subst this
            rw [take_snoc hz]
            exact List.pairwise_singleton ..
        · intro j hj
          refine yk (fun e => yd (.inl ⟨rfl, hj.1 e⟩)) (fun e => ?_)
          obtain ⟨k1, k2⟩ := hj.2 e
          refine yd ⟨⟨k + 1, by rw [w64_id om om]; rfl, hk, k2, fun s hs => ?_⟩, by rw [w64_id om om]; omega⟩
          rw [take_snoc hz, List.mem_append, List.mem_singleton] at hs
          rcases hs with hs | rfl
          · exact f3 s hs
          · exact k1
      · rw [List.take_of_length_le (by simp at hc; omega)] at f2 f3
        exact ⟨f2, f3⟩
    · rintro t (⟨rfl, hn⟩ | ⟨rfl, f1, f2⟩)
      · exact yd ⟨rfl, hn⟩
      · refine yd ⟨e2, fun x hx' => ?_⟩
        rw [take_snoc hx, List.mem_append, List.mem_singleton] at hx'
        rcases hx' with hx' | rfl
        · exact g2 x hx'
        · exact ⟨hb', f1, f2⟩
  · rintro t ht
    cases t with
    | inr v => exact yd ⟨.inr ht.1, fun e => (by have := ht.1; omega), fun hR => absurd hR ht.2⟩
    | inl u =>
      obtain ⟨ha, hb⟩ := ht
      rw [List.take_of_length_le (by simp)] at ha
      rw [List.take_length] at hb
      refine yh (forN_ret (fun i _ => ∀ x ∈ l.take i, ∀ s ∈ x.In, ¬ Rch l s x.Name) (Q := fun (v : Int) => v = 2 ∧ ¬ Right l) (by simp) ?_) ?_
      · rintro i _ hi g
        have hx : l[i]? = some l[i] := gE hi
        have hm : l[i] ∈ l := List.getElem_mem hi
        have hxl := h.2.1 _ hm
        refine yh (R := fun t => (t = .inl 2 ∧ ¬ Right l) ∨ (t = .inr () ∧ ∀ s ∈ l[i].In, ¬ Rch l s l[i].Name)) (loopO_rb (fun (q : Int) => ∃ k : Nat, q = (k : Int) ∧ k ≤ l[i].In.length ∧ ∀ s ∈ l[i].In.take k, ¬ Rch l s l[i].Name) (fun q => l[i].In.length - q.toNat) ?_ ⟨0, rfl, by omega, by simp⟩) ?_
        · rintro q ⟨k, rfl, f1, f2⟩
          simp only [idx_nat, hx, obs]
          refine yk (fun hc => ?_) (fun hc => yd (.inr ⟨rfl, ?_⟩))
          · have hk : k < l[i].In.length := by simp at hc; omega
            have hz : l[i].In[k]? = some l[i].In[k] := gE hk
            obtain ⟨b, hb1, hb2⟩ := is_eq h l[i].In[k] l[i].Name
            rw [is_same h] at hb1
            simp only [hz, obs, hb1]
            have hh := (hb _ hm).2.2 _ (List.getElem_mem hk)
            refine yk (fun e => yd (.inl ⟨rfl, fun hR => hR.no _ hm _ (List.getElem_mem hk) (hb2.1 e).2⟩)) (fun e => yd ⟨⟨k + 1, by rw [w64_id om om]; rfl, hk, fun s hs hr => ?_⟩, by rw [w64_id om om]; omega⟩)
            rw [take_snoc hz, List.mem_append, List.mem_singleton] at hs
            rcases hs with hs | rfl
            · exact f2 s hs hr
            · rw [hb2.2 ⟨hh, hr⟩] at e; cases e
          · rw [List.take_of_length_le (by simp at hc; omega)] at f2
            exact f2
        · rintro t (⟨rfl, hn⟩ | ⟨rfl, f1⟩)
          · exact yd ⟨rfl, hn⟩
          · refine yd fun x hx' => ?_
            rw [take_snoc hx, List.mem_append, List.mem_singleton] at hx'
            rcases hx' with hx' | rfl
            · exact g x hx'
            · exact f1
      · rintro t ht
        cases t with
        | inr v => exact yd ⟨.inr ht.1, fun e => (by have := ht.1; omega), fun hR => absurd hR ht.2⟩
        | inl u =>
          rw [List.take_length] at ht
          exact yd ⟨.inl rfl, fun _ => ⟨h8, ha, fun x hx => (hb x hx).1, fun x hx => (hb x hx).2.1, fun x hx => (hb x hx).2.2, ht⟩, fun _ => rfl⟩
theorem check_same {l : List Role} (h : Sm l) : ∃ e, member_Check l = some e ∧ r18_Check l = some e ∧ (e = 0 ∨ e = 2) ∧ (e = 0 ↔ Right l) := by
  obtain ⟨a, ha, ha1, ha2⟩ := check_of h (fun x hx => by obtain ⟨b, hb, _⟩ := name_spec (s := x.Name) (by have := h.2.2 x hx; omega); exact ⟨b, hb⟩)
  obtain ⟨b, hb, hb1, hb2⟩ := rcheck_eq h
  have : a = b := by
    by_cases hR : Right l
    · rw [ha2.2 hR, hb2.2 hR]
    · rcases ha1 with e | e
      · exact absurd (ha2.1 e) hR
      · rcases hb1 with f | f
        · exact absurd (hb2.1 f) hR
        · rw [e, f]
  subst this
  exact ⟨a, ha, hb, ha1, ha2⟩
theorem Ok.rcheck {l : List Role} (h : Ok l) : r18_Check l = some 0 := by
  obtain ⟨e, _, he, _, h2⟩ := check_same h.sm
  rw [he, h2.2 h.1]
theorem without_eq {s : List By8} (n : By8) (hl : s.length ≤ 1000) : r18_without s n = some (s.filter fun x => !sEq x n) := by
  have h : Ret (r18_without s n) (fun r => r = s.filter fun x => !sEq x n) := by
    unfold r18_without
    refine yh (forE_ret (fun i r => r = (s.take i).filter fun x => !sEq x n) (by simp) ?_) (fun r hr => yd (by rw [hr, List.take_length]))
    rintro i r hi rfl
    have hx : s[i]? = some s[i] := gE hi
    have hle : ((s.take i).filter fun x => !sEq x n).length ≤ i := Nat.le_trans (List.length_filter_le ..) (by simp; omega)
    simp only [idx_nat, hx, obs]
    rw [take_snoc hx, List.filter_append]
    cases hc : sEq s[i] n with
    | true =>
      refine yd ?_
      simp [hc]
    | false =>
      simp only [Bool.not_false, cond_true]
      rw [app_le (by simp at hle ⊢; omega)]
      refine yd ?_
      simp [hc]
  exact h.eq
theorem create_same {l : List Role} (h : Ok l) {n : By8} (hz : n.size ≤ 1000) : member_Create l n = r18_Create l n := by
  have hl := h.1.few
  obtain ⟨b, hb, hb2⟩ := rname_spec (s := n) om
  obtain ⟨b', hb', hb2'⟩ := name_spec (s := n) om
  have hbb : b' = b := bool_iff hb2' hb2
  subst hbb
  have e0 : ((0 : Int) != 0) = false := by decide
  rcases create_ok h hz with ⟨g1, e⟩ | ⟨g1, g2, e⟩ | ⟨g1, g2, g3, e⟩ | ⟨g1, g2, g3, A, B, rfl, g4, g5, e⟩ <;> rw [e] <;> rw [hb'] at g1 <;> injection g1 with g1 <;> subst g1 <;> unfold r18_Create <;> rw [h.rcheck] <;> simp only [obs, e0, cond_false, hb, Bool.not_true, Bool.not_false, cond_true]
  · obtain ⟨k, _, hk⟩ := Fst.of_has g2
    rw [hk]
    simp
  · rw [rat_none g2, g3]
    rfl
  · rw [rat_none g2]
    simp only [obs]
    rw [show decide ((-1 : Int) ≥ 0) = false by decide, show (((A ++ B).length : Int) == 8) = false by simp at g3 ⊢; omega]
    simp only [cond_false]
    have hlp : (loopO (fun (s22 : Int) => ((bif (decide (s22 < ((A ++ B).length : Int))) then (idx (A ++ B) s22).bind (fun (x31 : qJ) => some (sLt x31.Name n)) else some false)).bind (fun (j27 : Bool) => (bif j27 then some (.inl (w64 (s22 + 1))) else some (.inr s22) : Option (Int ⊕ Int)))) 0) = some (A.length : Int) := by
      refine Ret.eq (loopO_rb (fun (q : Int) => ∃ i : Nat, q = (i : Int) ∧ i ≤ A.length) (fun q => A.length - q.toNat) ?_ ⟨0, rfl, by omega⟩)
      rintro q ⟨i, rfl, hi⟩
      by_cases hlt : i < A.length
      · have hx : (A ++ B)[i]? = some A[i] := by rw [List.getElem?_append_left hlt]; exact gE hlt
        rw [show decide ((i : Int) < ((A ++ B).length : Int)) = true by simp; omega]
        simp only [cond_true, idx_nat, hx, obs]
        rw [g4 _ (List.getElem_mem hlt)]
        refine yd ⟨⟨i + 1, by rw [w64_id om (by simp at hl; omega)]; rfl, hlt⟩, by rw [w64_id om (by simp at hl; omega)]; omega⟩
      · have hia : i = A.length := by omega
        subst hia
        refine yh (R := fun b => b = false) (yk (fun hc => ?_) (fun _ => yd rfl)) (fun b hb => by subst hb; exact yd rfl)
        have hB : 0 < B.length := by simp at hc; omega
        have hx : (A ++ B)[A.length]? = some B[0] := by rw [List.getElem?_append_right (Nat.le_refl _), Nat.sub_self]; exact gE hB
        simp only [idx_nat, hx, obs]
        rw [sLt_asymm (g5 _ (List.getElem_mem hB))]
        exact yd rfl
    rw [hlp]
    simp only [obs]
    rw [sub_at (lo := 0) (i := 0) (j := A.length) rfl rfl om (by simp), sub_at (i := A.length) (j := (A ++ B).length) rfl rfl (by simp) (Nat.le_refl _)]
    simp only [obs, List.drop_zero, List.take_length, List.take_left, List.drop_left]
    simp only [List.length_append] at g3
    rw [app_le (by simp; omega)]
    simp only [obs, List.nil_append]
    rw [app_le (by simp; omega)]
    simp only [obs]
    rw [app_le (by simp; omega)]
    simp [newR]
theorem drop_same {l : List Role} (h : Ok l) (n : By8) : member_Drop l n = r18_Drop l n := by
  have hl := h.1.few
  have e0 : ((0 : Int) != 0) = false := by decide
  rcases drop_ok h n with ⟨g1, e⟩ | ⟨g1, g2, e⟩ | ⟨g1, g2, e⟩ <;> rw [e] <;> unfold r18_Drop <;> rw [h.rcheck] <;> simp only [obs, e0, cond_false]
  · rw [rat_none g1]
    rfl
  · obtain ⟨k, _, hk⟩ := Fst.of_has g1
    rw [hk]
    simp only [obs]
    rw [show decide ((k : Int) < 0) = false by simp, show sEq n (⟨#[114, 111, 111, 116]⟩ : By8) = true from (keq _ _).2 g2]
    rfl
  · obtain ⟨k, _, hk⟩ := Fst.of_has g1
    rw [hk]
    simp only [obs]
    rw [show decide ((k : Int) < 0) = false by simp, show sEq n (⟨#[114, 111, 111, 116]⟩ : By8) = false from keq.ne g2]
    simp only [cond_false]
    refine (Ret.eq (yh (forE_ret (fun i r => r = ((l.take i).filter fun y => !sEq y.Name n).map (lessIn n)) (by simp) ?_) (fun r hr => yd (by rw [hr, List.take_length])))).symm
    rintro i r hi rfl
    have hx : l[i]? = some l[i] := gE hi
    have hm : l[i] ∈ l := List.getElem_mem hi
    have hle : ((l.take i).filter fun y => !sEq y.Name n).length ≤ i := Nat.le_trans (List.length_filter_le ..) (by simp; omega)
    simp only [idx_nat, hx, obs]
    rw [take_snoc hx, List.filter_append, List.map_append]
    cases hc : sEq l[i].Name n with
    | true =>
      refine yd ?_
      simp [hc]
    | false =>
      simp only [Bool.not_false, cond_true]
      rw [without_eq n (by have := h.1.in8 _ hm; omega)]
      simp only [obs]
      rw [app_le (by simp at hle ⊢; omega)]
      refine yd ?_
      simp [hc, lessIn]
theorem turned_eq {l : List Role} {k : Nat} {x : Role} (hl : l.length ≤ 1000) (hk : l[k]? = some x) (s : List By8) : r18_turned l (k : Int) s = some (l.set k { x with In := s }) := by
  unfold r18_turned
  rw [app_le (by simp; omega)]
  simp only [obs, List.nil_append, idx_nat, hk]
  rfl
theorem asc_same {a b : List By8} (h1 : Asc a) (h2 : Asc b) (h : ∀ n, n ∈ a ↔ n ∈ b) : a = b := key_eq (fun k => k) a b h1 h2 h
theorem rat_at {l : List Role} (h : Ok l) {k : Nat} {x : Role} (hk : l[k]? = some x) : r18_At l x.Name = some (k : Int) := by
  have hx := List.mem_of_getElem? hk
  obtain ⟨j, hj, e⟩ := Fst.of_has (l := l) (n := x.Name) ⟨x, hx, rfl⟩
  obtain ⟨y, hy, hyn, hym, _⟩ := hj.get
  have hyx := h.1.uniq hym hx hyn
  subst hyx
  rw [e]
  have hnd := h.1.asc.nodup
  have a1 : (l.map (·.Name))[j]? = some y.Name := by rw [List.getElem?_map, hy]; rfl
  have a2 : (l.map (·.Name))[k]? = some y.Name := by rw [List.getElem?_map, hk]; rfl
  obtain ⟨b1, c1⟩ := List.getElem?_eq_some_iff.1 a1
  obtain ⟨b2, c2⟩ := List.getElem?_eq_some_iff.1 a2
  rcases Nat.lt_trichotomy j k with h | h | h
  · exact absurd (c1.trans c2.symm) (List.pairwise_iff_getElem.1 hnd j k b1 b2 h)
  · rw [h]
  · exact absurd (c2.trans c1.symm) (List.pairwise_iff_getElem.1 hnd k j b2 b1 h)
theorem grant_same {l : List Role} (h : Ok l) (n t : By8) : member_Grant l n t = r18_Grant l n t := by
  have hl := h.1.few
  have e0 : ((0 : Int) != 0) = false := by decide
  rcases grant_ok h n t with ⟨g, e⟩ | ⟨k, x, g1, g2, g3, hc⟩
  · rw [e]
    unfold r18_Grant
    rw [h.rcheck]
    simp only [obs, e0, cond_false]
    by_cases ht : has l t
    · have hn : ¬ has l n := by rcases g with g | g; exact absurd ht g; exact g
      obtain ⟨k, _, hk⟩ := Fst.of_has ht
      rw [hk, rat_none hn]
      simp
    · rw [rat_none ht]
      rfl
  · have hx := List.mem_of_getElem? g1
    have hk := rat_at h g1
    rw [g2] at hk
    obtain ⟨j, _, hj⟩ := Fst.of_has g3
    obtain ⟨b, hb, hb2⟩ := has_eq x.In n
    obtain ⟨c, hc1, hc2⟩ := is_eq h.sm n t
    rw [is_same h.sm] at hc1
    have hr : r18_Grant l n t = (bif b then some ([], 19) else bif c then some ([], 35) else (r18_into x.In n).bind fun r44 => (r18_turned l (k : Int) r44).bind fun r50 => some (r50, 0)) := by
      unfold r18_Grant
      rw [h.rcheck]
      simp only [obs, e0, cond_false, hk, hj]
      rw [show decide ((k : Int) < 0) = false by simp]
      simp only [cond_false, obs]
      rw [show decide ((j : Int) < 0) = false by simp]
      simp only [cond_false, idx_nat, g1, obs, hb, hc1]
    rw [hr]
    rcases hc with ⟨f1, e⟩ | ⟨f1, f2, e⟩ | ⟨f1, f2, A, B, f3, f4, f5, e⟩ <;> rw [e]
    · rw [hb2.2 f1]; rfl
    · have : b = false := by cases b with | false => rfl | true => exact absurd (hb2.1 rfl) f1
      rw [this, hc2.2 ⟨g3, f2⟩]; rfl
    · have : b = false := by cases b with | false => rfl | true => exact absurd (hb2.1 rfl) f1
      have hcf : c = false := by cases c with | false => rfl | true => exact absurd (hc2.1 rfl).2 f2
      rw [this, hcf]
      simp only [cond_false]
      obtain ⟨A', B', q1, q2, q3, q4⟩ := into_spec (h.1.ain x hx) f1 (by have := h.1.in8 x hx; omega)
      rw [q4]
      simp only [obs]
      rw [turned_eq om g1]
      have ha := h.1.ain x hx
      have : A ++ n :: B = A' ++ n :: B' := asc_same ((f3 ▸ ha : Asc (A ++ B)).ins f4 f5) ((q1 ▸ ha : Asc (A' ++ B')).ins q2 q3) (fun m => by
        have h1 : m ∈ A ++ n :: B ↔ m = n ∨ m ∈ A ++ B := by simp only [List.mem_append, List.mem_cons]; exact ⟨fun h => by rcases h with h | h | h <;> simp [h], fun h => by rcases h with h | h | h <;> simp [h]⟩
        have h2 : m ∈ A' ++ n :: B' ↔ m = n ∨ m ∈ A' ++ B' := by simp only [List.mem_append, List.mem_cons]; exact ⟨fun h => by rcases h with h | h | h <;> simp [h], fun h => by rcases h with h | h | h <;> simp [h]⟩
        rw [h1, h2, ← f3, ← q1])
      rw [this]
      rfl
theorem revoke_same {l : List Role} (h : Ok l) (n t : By8) : member_Revoke l n t = r18_Revoke l n t := by
  have hl := h.1.few
  have e0 : ((0 : Int) != 0) = false := by decide
  rcases revoke_ok h n t with ⟨g, e⟩ | ⟨k, x, g1, g2, g3, e⟩
  · rw [e]
    unfold r18_Revoke
    rw [h.rcheck]
    simp only [obs, e0, cond_false]
    by_cases ht : has l t
    · obtain ⟨k, hF, hk⟩ := Fst.of_has ht
      obtain ⟨x, hx, hxn, hxm, _⟩ := hF.get
      obtain ⟨b, hb, hb2⟩ := has_eq x.In n
      have : b = false := by cases b with | false => rfl | true => exact absurd (hb2.1 rfl) (g x hxm hxn)
      rw [hk]
      simp only [obs]
      rw [show decide ((k : Int) < 0) = false by simp]
      simp only [cond_false, idx_nat, hx, obs, hb, this]
      rfl
    · rw [rat_none ht]
      rfl
  · have hx := List.mem_of_getElem? g1
    have hk := rat_at h g1
    rw [g2] at hk
    obtain ⟨b, hb, hb2⟩ := has_eq x.In n
    rw [e]
    unfold r18_Revoke
    rw [h.rcheck]
    simp only [obs, e0, cond_false, hk]
    rw [show decide ((k : Int) < 0) = false by simp]
    simp only [cond_false, idx_nat, g1, obs, hb]
    rw [hb2.2 g3]
    simp only [Bool.not_true, cond_false]
    rw [without_eq n (by have := h.1.in8 x hx; omega)]
    simp only [obs]
    rw [turned_eq om g1]
    rfl
theorem root_ok : Ok [{ z_qJ with Name := (⟨#[114, 111, 111, 116]⟩ : By8) }] := by
  have hn : lex_IsName rootB = some true := by
    have h : (loopO (fun (s4 : Int) => ((bif ((decide ((w64 (0 + s4)) < (rootB.size : Int))) && (decide (s4 < 12))) then (sAt rootB (w64 (0 + s4))).bind (fun (y15 : Int) => ((fun (u0 : Int) => lex_one_1 u0) y15).bind (fun (r21 : Bool) => some r21)) else some false)).bind (fun (j11 : Bool) => (bif j11 then some (.inl (w64 (s4 + 1))) else some (.inr s4) : Option (Int ⊕ Int)))) 0) = some 4 := by
      rw [loopO_next (s' := 1) kr, loopO_next (s' := 2) kr, loopO_next (s' := 3) kr, loopO_next (s' := 4) kr, loopO_stop (t := 4) kr]
    have h2 : lex_while rootB 0 12 (fun (u0 : Int) => lex_one_1 u0) = some 4 := by
      unfold lex_while
      rw [h]
      rfl
    have h3 : lex_one rootB = some (1, 4) := by
      unfold lex_one
      rw [h2]
      kernel_rfl
    unfold lex_IsName lex_Right
    simp only
    rw [h3]
    clear h h2 h3
    have e1 : sEq rootB eB = false := by kernel_rfl
    rw [e1]
    rfl
  have hm : ∀ x ∈ [({ z_qJ with Name := (⟨#[114, 111, 111, 116]⟩ : By8) } : Role)], x.Name = rootB ∧ x.In = [] := fun x hx => by
    rw [List.mem_singleton] at hx
    subst hx
    exact ⟨rfl, rfl⟩
  refine ⟨⟨by simp, List.pairwise_singleton .., fun x hx => ?_, fun x hx => ?_, fun x hx s hs => ?_, fun x hx s hs => ?_⟩, fun x hx => ?_⟩ <;> obtain ⟨e1, e2⟩ := hm x hx
  · rw [e1]; exact hn
  · rw [e2]; exact List.Pairwise.nil
  · rw [e2] at hs; cases hs
  · rw [e2] at hs; cases hs
  · rw [e1]; decide
mutual
def esz (e : qE) : Nat := match e with | ⟨_, _, _, _, ks⟩ => 1 + eszL ks
def eszL (l : List qE) : Nat := match l with | [] => 0 | x :: xs => esz x + eszL xs
end
mutual
def eok (e : qE) : Prop := match e with | ⟨_, _, v, n, ks⟩ => n.size ≤ 100 ∧ v.S.size ≤ 100 ∧ eokL ks
def eokL (l : List qE) : Prop := match l with | [] => True | x :: xs => eok x ∧ eokL xs
end
theorem esz_eq (e : qE) : esz e = 1 + eszL e.Kids := by cases e; rw [esz]
theorem esz_mem {l : List qE} {x : qE} (h : x ∈ l) : esz x ≤ eszL l := by
  induction h with
  | head => rw [eszL]; omega
  | tail _ _ ih => rw [eszL]; omega
theorem eok_eq {e : qE} : eok e ↔ e.Name.size ≤ 100 ∧ e.V.S.size ≤ 100 ∧ eokL e.Kids := by cases e; rw [eok]
theorem eokL_iff {l : List qE} : eokL l ↔ ∀ x ∈ l, eok x := by
  induction l with
  | nil => rw [eokL]; simp
  | cons x r ih => rw [eokL, ih]; simp
theorem kid_sz {e x : qE} (h : x ∈ e.Kids) : esz x < esz e := by
  have := esz_mem h
  rw [esz_eq e]
  omega
theorem esz_pos (e : qE) : 0 < esz e := by rw [esz_eq]; omega
theorem eszL_len : ∀ l : List qE, l.length ≤ eszL l
  | [] => Nat.zero_le _
  | x :: xs => by
    have := eszL_len xs
    have := esz_pos x
    rw [eszL]
    simp only [List.length_cons]
    omega
theorem height_fu {b : Prop} : ∀ (n : Nat) (e : qE), (b → esz e ≤ n) → RB b (r10_Height_fu n e) TT
  | 0, e, h => ybr fun hb => by have := h hb; have := esz_pos e; omega
  | n + 1, e, h => by
    unfold r10_Height_fu
    refine yh (R := TT) (forE_tt fun j s hj => yam hj fun x _ hx => yh (height_fu n x fun hb => by have := h hb; have := kid_sz hx; omega) fun r _ => ?_) fun s _ => yd trivial
    refine yh (R := TT) ?_ fun s _ => yd trivial
    exact yk rt rt
theorem height_tt {b : Prop} (e : qE) : RB b (r10_Height e) TT := fuel_tt (esz e) fun n => height_fu n e fun h => h
theorem eszL_app : ∀ a c : List qE, eszL (a ++ c) = eszL a + eszL c
  | [], c => by simp [eszL]
  | x :: xs, c => by rw [List.cons_append, eszL, eszL, eszL_app xs c]; omega
theorem take_next {α : Type} {xs : List α} {j : Nat} {x : α} (h : xs[j]? = some x) : xs.take (j + 1) = xs.take j ++ [x] := by
  rw [List.take_add_one, h]
  rfl
theorem eszL_next {xs : List qE} {j : Nat} {x : qE} (h : xs[j]? = some x) : eszL (xs.take (j + 1)) = eszL (xs.take j) + esz x := by
  rw [take_next h, eszL_app, eszL, eszL, Nat.add_zero]
theorem count_fu {b : Prop} : ∀ (n : Nat) (e : qE) (k : Int), (b → esz e ≤ n) → k ≤ 1000 → RB b (r10_count_fu n e k) (fun r => r.2 = true → 0 ≤ r.1 ∧ r.1 + (esz e : Int) ≤ k ∧ eok e)
  | 0, e, k, h, _ => ybr fun hb => by have := h hb; have := esz_pos e; omega
  | n + 1, e, k, h, hk => by
    unfold r10_count_fu
    refine ya1 (ya1 (yk (fun _ => yd fun h => by cases h) fun hc => ?_))
    simp only [Bool.or_eq_false_iff, decide_eq_false_iff_not] at hc
    obtain ⟨⟨⟨h1, h2⟩, h3⟩, h4⟩ := hc
    have e0 : w64 (k - 1) = k - 1 := w64_id om om
    rw [e0]
    refine yh (forN_ret (fun j s => 0 ≤ s ∧ s + (eszL (e.Kids.take j) : Int) ≤ k - 1 ∧ ∀ x ∈ e.Kids.take j, eok x) (Q := fun r => r.2 = false) ⟨by omega, by simp [eszL], by simp⟩ ?_) ?_
    · rintro j s hj ⟨g1, g2, g3⟩
      refine yam hj fun x hx hm => ?_
      have hs : s ≤ 1000 := by omega
      refine yh (count_fu n x s (fun hb => by have := h hb; have := kid_sz hm; omega) hs) ?_
      rintro ⟨u, c⟩ hr
      refine yk (fun hc => yd rfl) fun hc => yd ?_
      simp only [Bool.not_eq_false'] at hc
      obtain ⟨q1, q2, q3⟩ := hr hc
      refine ⟨q1, ?_, ?_⟩
      · rw [eszL_next hx]
        simp only at q2
        omega
      · rw [take_next hx]
        intro y hy
        rcases List.mem_append.1 hy with hy | hy
        · exact g3 y hy
        · simp at hy; subst hy; exact q3
    · rintro t ht
      cases t with
      | inl s =>
        obtain ⟨g1, g2, g3⟩ := ht
        rw [List.take_length] at g2 g3
        refine yd fun _ => ⟨g1, ?_, eok_eq.2 ⟨by omega, by omega, eokL_iff.2 g3⟩⟩
        rw [esz_eq]
        simp only
        omega
      | inr r =>
        obtain ⟨r1, r2⟩ := r
        simp only at ht
        subst ht
        exact yd fun h => by cases h
def Es (e : qE) : Prop := esz e ≤ 60 ∧ eok e
theorem efew_rb {b : Prop} (e : qE) : RB b (r10_Few e 60) (fun r => r = true → Es e) := by
  unfold r10_Few r10_count
  refine yh (fuel_tt (esz e) fun n => count_fu n e 60 (fun h => h) om) ?_
  rintro ⟨u, c⟩ hr
  refine yd fun h => ?_
  obtain ⟨q1, q2, q3⟩ := hr h
  simp only at q2
  exact ⟨by omega, q3⟩
theorem samelist_tt {b : Prop} {f : qE → qE → Option Bool} {p q : List qE} (h : ∀ x ∈ p, ∀ y, RB b (f x y) TT) : RB b (r10_SameList f p q) TT := by
  unfold r10_SameList
  refine yk rt fun hc => ?_
  have hl : p.length = q.length := by simp at hc; omega
  refine yh (R := TT) (forN_tt fun j s hj => yam hj fun x _ hx => yam om fun y _ _ => yh (h x hx y) fun r _ => yk rt rt) ?_
  rintro (_ | _) _ <;> exact yd trivial
theorem esame_fu {b : Prop} : ∀ (n : Nat) (e d : qE), (b → esz e ≤ n) → RB b (r10_Same_fu n e d) TT
  | 0, e, d, h => ybr fun hb => by have := h hb; have := esz_pos e; omega
  | n + 1, e, d, h => by
    unfold r10_Same_fu
    refine ya1 (yk rt fun _ => yh (samelist_tt fun x hx y => esame_fu n x y fun hb => by have := h hb; have := kid_sz hx; omega) fun r _ => yd trivial)
theorem none_tt {b : Prop} (e : qE) : RB b (r12_None e) TT := by
  unfold r12_None r10_Same
  exact yh (fuel_tt (esz e) fun n => esame_fu n e z_qE fun h => h) fun r _ => yd trivial
theorem parts_fu {b : Prop} : ∀ (n : Nat) (e : qE), esz e ≤ 1000 → (b → esz e ≤ n) → RB b (r10_Parts_fu n e) (fun l => l.length ≤ esz e ∧ ∀ x ∈ l, eok e → eok x)
  | 0, e, _, h => ybr fun hb => by have := h hb; have := esz_pos e; omega
  | n + 1, e, hz, h => by
    unfold r10_Parts_fu
    refine yh (forE_ret (fun j (s : List qE) => s.length ≤ 1 + eszL (e.Kids.take j) ∧ ∀ x ∈ s, eok e → eok x) ⟨by simp [eszL], by simp⟩ ?_) ?_
    · rintro j s hj ⟨g1, g2⟩
      refine yam hj fun x hx hm => ?_
      have hx1 := kid_sz hm
      refine yh (parts_fu n x om fun hb => by have := h hb; omega) ?_
      rintro r ⟨r1, r2⟩
      have hle : eszL (e.Kids.take (j + 1)) ≤ eszL e.Kids := by
        have := eszL_app (e.Kids.take (j + 1)) (e.Kids.drop (j + 1))
        rw [List.take_append_drop] at this
        omega
      have h1 := esz_eq e
      rw [eszL_next hx] at hle
      refine ya8 om (yd ⟨by rw [eszL_next hx, List.length_append]; omega, fun y hy ho => ?_⟩)
      rcases List.mem_append.1 hy with hy | hy
      · exact g2 y hy ho
      · exact r2 y hy (eokL_iff.1 (eok_eq.1 ho).2.2 x hm)
    · rintro s ⟨g1, g2⟩
      rw [List.take_length] at g1
      exact yd ⟨by rw [esz_eq]; omega, g2⟩
theorem parts_rb {b : Prop} {e : qE} (hz : esz e ≤ 1000) : RB b (r10_Parts e) (fun l => l.length ≤ esz e ∧ ∀ x ∈ l, eok e → eok x) := by
  unfold r10_Parts
  exact fuel_tt (esz e) fun n => parts_fu n e hz fun h => h
theorem params_tt {b : Prop} {e : qE} (hz : esz e ≤ 1000) : RB b (r10_Params e) TT := by
  unfold r10_Params
  refine yh (parts_rb hz) fun l _ => yh (R := TT) (forE_tt fun j s hj => yam hj fun x _ _ => yh (R := TT) ?_ fun c _ => yh (R := TT) ?_ fun _ _ => yd trivial) fun _ _ => yd trivial
  · exact yk (fun _ => yam hj fun _ _ _ => yd trivial) rt
  · exact yk (fun _ => yam hj fun _ _ _ => yd trivial) rt
theorem enames_rb {b : Prop} {e : qE} (hz : esz e ≤ 1000) : RB b (r10_Names e) (fun l => l.length ≤ 1000) := by
  unfold r10_Names
  refine yh (parts_rb hz) ?_
  rintro l ⟨hl, _⟩
  refine yh (forE_ret (fun j (s : List By8) => s.length ≤ j) (by simp) ?_) fun s hs => yd om
  rintro j s hj hs
  refine yam hj fun x _ _ => yh (R := TT) (forE_tt fun i c hi => yh (R := TT) (yk rt fun _ => yam hi fun _ _ _ => yam hj fun _ _ _ => yd trivial) fun _ _ => yd trivial) fun c _ => ?_
  refine yh (R := fun (s' : List By8) => s'.length ≤ j + 1) ?_ fun s' h => yd h
  refine yk (fun _ => yam hj fun _ _ _ => ya8 (by simp only [List.length_cons, List.length_nil]; omega) (yd (by simp; omega))) fun _ => yd om
theorem rname_tt {b : Prop} {s : By8} (hs : s.size ≤ 100) : RB b (r09_IsName s) TT := by
  obtain ⟨r, hr, _⟩ := rname_spec (s := s) om
  exact ybv hr trivial
theorem vright_tt {b : Prop} {v : qV} (hs : v.S.size ≤ 100) : RB b (r03_Right v) TT := by
  unfold r03_Right
  refine yk rt fun _ => yk rt fun _ => yk (fun _ => ya1 (yd trivial)) fun _ => yk (fun _ => ?_) fun _ => yd trivial
  refine yh (R := TT) (yk (fun _ => ?_) fun _ => yd trivial) fun _ _ => yd trivial
  obtain ⟨r, hr⟩ := plain_ret (s := v.S) om
  rw [hr]
  exact yd trivial
mutual
def ert (e : qE) : Prop := match e with | ⟨k, o, _, _, ks⟩ => (k = 6 → 2 ≤ ks.length) ∧ (k = 3 → 1 ≤ o ∧ o ≤ 6) ∧ (k = 8 → 0 ≤ o ∧ o ≤ 5) ∧ ertL ks
def ertL (l : List qE) : Prop := match l with | [] => True | x :: xs => ert x ∧ ertL xs
end
theorem ert_eq {e : qE} : ert e ↔ (e.Kind = 6 → 2 ≤ e.Kids.length) ∧ (e.Kind = 3 → 1 ≤ e.Op ∧ e.Op ≤ 6) ∧ (e.Kind = 8 → 0 ≤ e.Op ∧ e.Op ≤ 5) ∧ ertL e.Kids := by cases e; rw [ert]
theorem ertL_iff {l : List qE} : ertL l ↔ ∀ x ∈ l, ert x := by
  induction l with
  | nil => rw [ertL]; simp
  | cons x r ih => rw [ertL, ih]; simp
theorem right_fu {b : Prop} : ∀ (n : Nat) (e : qE) (s : Bool), eok e → (b → esz e ≤ n) → RB b (r10_Right_fu n e s) (fun r => r = true → ert e)
  | 0, e, s, _, h => ybr fun hb => by have := h hb; have := esz_pos e; omega
  | n + 1, e, s, ho, h => by
    obtain ⟨o1, o2, o3⟩ := eok_eq.1 ho
    have o3 := eokL_iff.1 o3
    unfold r10_Right_fu
    refine yh (forN_ret (fun j _ => ∀ x ∈ e.Kids.take j, ert x) (Q := fun r => r = false) (by simp) ?_) ?_
    · rintro j _ hj g
      refine yam hj fun x hx hm => yh (right_fu n x s (o3 x hm) fun hb => by have := h hb; have := kid_sz hm; omega) fun r hr => yk (fun _ => yd rfl) fun hc => yd ?_
      simp only [Bool.not_eq_false'] at hc
      rw [take_next hx]
      intro y hy
      rcases List.mem_append.1 hy with hy | hy
      · exact g y hy
      · simp at hy; subst hy; exact hr hc
    · rintro t ht
      cases t with
      | inr r => exact yd fun h => by subst h; cases ht
      | inl u =>
        rw [List.take_length] at ht
        have hk := ertL_iff.2 ht
        have fin : ∀ {c : Bool}, (c = true → (e.Kind = 6 → 2 ≤ e.Kids.length) ∧ (e.Kind = 3 → 1 ≤ e.Op ∧ e.Op ≤ 6) ∧ (e.Kind = 8 → 0 ≤ e.Op ∧ e.Op ≤ 5)) → c = true → ert e := fun hq hc => ert_eq.2 ⟨(hq hc).1, (hq hc).2.1, (hq hc).2.2, hk⟩
        refine ya1 (ya1 (yk (fun _ => yd fun h => by cases h) fun _ => ya1 (yk (fun _ => yd fun h => by cases h) fun _ => yk (fun k => ?_) fun k1 => yk (fun k => ?_) fun k2 => yk (fun k => ya1 (yd (fin fun hq => ?_))) fun k3 => yk (fun k => ya1 (yd (fin fun hq => ?_))) fun k4 => yk (fun k => ya1 (yd (fin fun hq => ?_))) fun k5 => yk (fun k => ya1 (yd (fin fun hq => ?_))) fun k6 => yk (fun k => ya1 (ya1 (yd (fin fun hq => ?_)))) fun k7 => yk (fun k => ya1 (yd (fin fun hq => ?_))) fun k8 => yd fun h => by cases h)))
        · refine yh (R := TT) (yk (fun _ => yh (vright_tt o2) fun _ _ => yd trivial) fun _ => yd trivial) fun c _ => yd (fin fun hq => ?_)
          simp only [beq_iff_eq] at k
          exact ⟨fun h => by omega, fun h => by omega, fun h => by omega⟩
        · refine yh (R := TT) (yk (fun _ => yh (rname_tt o1) fun _ _ => yd trivial) fun _ => yd trivial) fun c _ => yd (fin fun hq => ?_)
          simp only [beq_iff_eq] at k
          exact ⟨fun h => by omega, fun h => by omega, fun h => by omega⟩
        all_goals
          simp only [beq_iff_eq, Bool.and_eq_true, decide_eq_true_eq] at k hq
          exact ⟨fun h => by omega, fun h => by omega, fun h => by omega⟩
theorem echeck_rb {b : Prop} {e : qE} (s : Bool) (ho : eok e) : RB b (r10_Check e s) (fun r => r = 0 → ert e) := by
  unfold r10_Check r10_Right
  refine yh (height_tt e) fun k _ => yk (fun _ => yd fun h => by cases h) fun _ => yh (fuel_tt (esz e) fun n => right_fu n e s ho fun h => h) fun r hr => yk (fun _ => yd fun h => by cases h) fun hc => yd fun _ => hr (by simpa using hc)
theorem col_rb {b : Prop} (t : qT) (n : By8) : RB b (r14_Col t n) (fun r => r = -1 ∧ (∀ x ∈ t.Cols, x.Name ≠ n) ∨ 0 ≤ r ∧ r < (t.Cols.length : Int)) := by
  unfold r14_Col
  refine yh (forN_ret (fun j _ => ∀ x ∈ t.Cols.take j, x.Name ≠ n) (Q := fun r => 0 ≤ r ∧ r < (t.Cols.length : Int)) (by simp) ?_) ?_
  · rintro j _ hj g
    refine yam hj fun x hx _ => yk (fun _ => yd ⟨by omega, by omega⟩) fun hc => yd ?_
    rw [take_next hx]
    intro y hy
    rcases List.mem_append.1 hy with hy | hy
    · exact g y hy
    · simp at hy
      subst hy
      intro he
      rw [sEq_iff.2 he] at hc
      cases hc
  · rintro t ht
    cases t with
    | inl u => rw [List.take_length] at ht; exact yd (.inl ⟨rfl, ht⟩)
    | inr r => exact yd (.inr ht)
theorem place_fu {b : Prop} (t : qT) : ∀ (n : Nat) (e : qE), esz e ≤ 1000 → (b → esz e ≤ n) → RB b (r15_Place_fu n t e) (fun r => esz r ≤ esz e ∧ (eok e → eok r))
  | 0, e, _, h => ybr fun hb => by have := h hb; have := esz_pos e; omega
  | n + 1, e, hz, h => by
    unfold r15_Place_fu
    refine yk (fun _ => yh (col_rb t e.Name) fun r _ => yd ⟨?_, fun _ => ?_⟩) fun _ => ?_
    · have := esz_pos e
      rw [esz_eq]
      show 1 + eszL [] ≤ esz e
      rw [eszL]
      omega
    · refine eok_eq.2 ⟨by show (0 : Nat) ≤ 100; omega, by show (0 : Nat) ≤ 100; omega, ?_⟩
      show eokL []
      rw [eokL]
      trivial
    · refine yh (forE_ret (fun j (s : List qE) => s.length ≤ j ∧ eszL s ≤ eszL (e.Kids.take j) ∧ (eok e → eokL s)) ⟨by simp, by simp [eszL], by simp [eokL]⟩ ?_) ?_
      · rintro j s hj ⟨g0, g1, g2⟩
        refine yam hj fun x hx hm => ?_
        have hx1 := kid_sz hm
        have hkl := eszL_len e.Kids
        have h1 := esz_eq e
        refine yh (place_fu t n x om fun hb => by have := h hb; omega) ?_
        rintro r ⟨r1, r2⟩
        refine ya8 (by simp only [List.length_cons, List.length_nil]; omega) (yd ⟨by simp; omega, by rw [eszL_next hx, eszL_app, eszL, eszL]; omega, fun ho => eokL_iff.2 fun y hy => ?_⟩)
        rcases List.mem_append.1 hy with hy | hy
        · exact eokL_iff.1 (g2 ho) y hy
        · simp at hy; subst hy; exact r2 (eokL_iff.1 (eok_eq.1 ho).2.2 x hm)
      · rintro s ⟨_, g1, g2⟩
        rw [List.take_length] at g1
        exact yd ⟨by rw [esz_eq, esz_eq]; simp only; omega, fun ho => eok_eq.2 ⟨(eok_eq.1 ho).1, (eok_eq.1 ho).2.1, g2 ho⟩⟩
theorem resolve_rb {b : Prop} (t : qT) {e : qE} (hz : esz e ≤ 1000) (ho : eok e) : RB b (r15_Resolve t e) (fun r => r.2 = 0 → esz r.1 ≤ 1000 ∧ eok r.1) := by
  unfold r15_Resolve r15_Place
  refine yh (echeck_rb false ho) fun r _ => yk (fun hc => yd fun h => by simp only at h; subst h; cases hc) fun _ => yh (enames_rb hz) fun l _ => ?_
  refine yh (forN_ret (fun _ _ => True) (Q := fun r => r.1 = 4) trivial fun j s hj _ => yam hj fun x _ _ => yh (col_rb t x) fun _ _ => yk (fun _ => yd rfl) rt) ?_
  rintro (s | ⟨s1, s2⟩) hs
  · exact yh (fuel_tt (esz e) fun n => place_fu t n e hz fun h => h) fun r hr => yd fun _ => ⟨Nat.le_trans hr.1 hz, hr.2 ho⟩
  · simp only at hs
    subst hs
    exact yd fun h => by cases h
theorem first_tt {b : Prop} (l : List Int) : RB b (r15_first l) TT := by
  unfold r15_first
  refine yh (R := TT) (forN_tt fun j s hj => yam hj fun _ _ _ => yk (fun _ => yam hj fun _ _ _ => yd trivial) rt) ?_
  rintro (_ | _) _ <;> exact yd trivial
theorem all_tt {b : Prop} (l : List Int) (k : Int) : RB b (r15_all l k) TT := by
  unfold r15_all
  refine yh (R := TT) (forN_tt fun j s hj => yam hj fun _ _ _ => yh (R := TT) (yk (fun _ => yam hj fun _ _ _ => yd trivial) rt) fun _ _ => yk rt rt) ?_
  rintro (_ | _) _ <;> exact yd trivial
theorem made_tt {b : Prop} {e : qE} {l : List Int} (h : e.Kind = 6 → 0 < l.length) : RB b (r15_made e l) TT := by
  unfold r15_made
  have h6 : ∀ {α : Type} {f : Int → Option α} {Q : α → Prop}, (e.Kind == 6) = true → (∀ x, RB b (f x) Q) → RB b ((idx l 0).bind f) Q := fun hk hf => yam (i := 0) (h (by simpa using hk)) fun x _ _ => hf x
  refine yk rt fun _ => ya1 (yh (R := TT) ?_ ?_)
  · refine yk rt fun _ => yh (R := TT) (yk (fun _ => yh (first_tt l) fun _ _ => yd trivial) fun _ => yh (R := TT) (yk rt fun _ => yh (R := TT) (yk (fun k => h6 k fun _ => yd trivial) rt) fun c _ => yk rt fun _ => yh (R := TT) (yk (fun k => h6 k fun _ => yd trivial) fun _ => ya1 (yh (R := TT) (yk rt fun _ => ya1 (yh (R := TT) (yk (fun _ => yh (first_tt l) fun _ _ => yh (first_tt l) fun _ _ => yd trivial) rt) ?_)) ?_)) ?_) ?_) ?_
    all_goals first | (rintro (⟨_, _⟩ | _) _ <;> exact yd trivial; done) | (rintro ⟨_, _⟩ _; exact yd trivial)
  · rintro (⟨k, m⟩ | _) _
    · exact yh (all_tt l k) fun _ _ => yk rt rt
    · exact yd trivial
theorem find_fu {b : Prop} (cols : List Int) : ∀ (n : Nat) (e : qE), esz e ≤ 1000 → ert e → (b → esz e ≤ n) → RB b (r15_find_fu n e cols []) TT
  | 0, e, _, _, h => ybr fun hb => by have := h hb; have := esz_pos e; omega
  | n + 1, e, hz, he, h => by
    obtain ⟨e6, e3, e8, ek⟩ := ert_eq.1 he
    have hkl := eszL_len e.Kids
    have h1 := esz_eq e
    unfold r15_find_fu
    refine yk rt fun _ => yk rt fun _ => yh (R := fun (p : List Int × Int) => e.Kind = 3 ∨ e.Kind = 8 → 0 ≤ p.2) ?_ ?_
    · refine yk (fun k => yd fun _ => ?_) (fun k => yd fun hk => ?_)
      · have := e3 (by simpa using k)
        show 0 ≤ w64 (e.Op - 1)
        rw [w64_id om om]
        omega
      · rcases hk with hk | hk
        · rw [hk] at k; cases k
        · exact (e8 hk).1
    · rintro ⟨p, q⟩ hq
      refine yk (fun hk => ?_) fun _ => ?_
      · have h0 : 0 ≤ q := hq (by simpa using hk)
        refine yk rt fun hc => ?_
        have hl : q < (p.length : Int) := by simpa using hc
        exact ybl h0 hl fun _ _ _ => yh (R := TT) (yk rt fun _ => ybl h0 hl fun _ _ _ => yd trivial) fun _ _ => yk rt fun _ => ybl h0 hl fun _ _ _ => yd trivial
      · refine yh (forN_ret (fun j (s : List Int) => s.length = j) (Q := fun _ => True) rfl ?_) ?_
        · rintro j s hj hs
          refine yam hj fun x hx hm => yh (find_fu cols n x (by have := kid_sz hm; omega) (ertL_iff.1 ek x hm) fun hb => by have := h hb; have := kid_sz hm; omega) ?_
          rintro ⟨r1, r2⟩ _
          exact yk rt fun _ => ya8 (by simp only [List.length_cons, List.length_nil]; omega) (yd (by simp [hs]))
        · rintro (s | ⟨_, _⟩) hs
          · refine yh (made_tt fun k => ?_) fun _ _ => yk rt rt
            have := e6 k
            simp only at hs
            omega
          · exact yd trivial
theorem bool_tt {b : Prop} {e : qE} (cols : List Int) (hz : esz e ≤ 1000) (ho : eok e) : RB b (r15_Bool e cols []) TT := by
  unfold r15_Bool r15_Type r15_find
  refine yh (R := TT) (yh (echeck_rb true ho) fun r hr => yk rt fun hc => yh (fuel_tt (esz e) fun n => find_fu cols n e hz (hr (by simpa using hc)) fun h => h) ?_) ?_
  · rintro ⟨_, _⟩ _; exact yd trivial
  · rintro ⟨_, _⟩ _; exact yk rt fun _ => yk rt rt
structure TB (n : Nat) (t : qT) : Prop where
  cols : t.Cols.length ≤ n
  cons : t.Cons.length ≤ n
  idx : t.Idx.length ≤ n
  nm : t.Name.size ≤ 100
  ow : t.Owner.size ≤ 100
  cn : ∀ x ∈ t.Cols, x.Name.size ≤ 100
  xs : ∀ x ∈ t.Cons, x.Name.size ≤ 100 ∧ x.Table.size ≤ 100 ∧ x.Cols.length ≤ n ∧ x.Refs.length ≤ n ∧ Es x.Check
  is : ∀ x ∈ t.Idx, x.Name.size ≤ 100 ∧ x.Cols.length ≤ n
theorem TB.up {n m : Nat} {t : qT} (h : TB n t) (hm : n ≤ m) : TB m t :=
  ⟨by have := h.cols; omega, by have := h.cons; omega, by have := h.idx; omega, h.nm, h.ow, h.cn, fun x hx => by obtain ⟨a, b, c, d, e⟩ := h.xs x hx; exact ⟨a, b, by omega, by omega, e⟩, fun x hx => by obtain ⟨a, b⟩ := h.is x hx; exact ⟨a, by omega⟩⟩
theorem has_rb {b : Prop} (xs : List By8) (n : By8) : RB b (r14_Has xs n) (fun r => r = true ↔ n ∈ xs) := RB.ex (has_eq xs n)
theorem grow {α β : Type} {b : Prop} {k : Nat} (g : α → β) {xs : List α} {s0 : List β} (hk : (s0.length + xs.length) * k ≤ 140737488355328) {step : Nat → List β → Option (List β)} (h : ∀ j s x, xs[j]? = some x → step j s = (app k s [g x]).bind fun y => some y) :
    RB b (forE step xs.length 0 s0) (fun r => r = s0 ++ xs.map g) := by
  refine (forE_ret (fun j s => s = s0 ++ (xs.take j).map g) (by simp) ?_).mono fun r hr => by rw [hr, List.take_length]
  rintro j s hj rfl
  rw [h j _ _ (gE hj)]
  refine ya8 ?_ (yd ?_)
  · refine Nat.le_trans (Nat.mul_le_mul_right k ?_) hk
    simp
    omega
  · rw [take_next (gE hj), List.map_append, List.map_cons, List.map_nil, List.append_assoc]
theorem tnames_rb {b : Prop} {n : Nat} {t : qT} (h : TB n t) (hn : n ≤ 1000) : RB b (r14_Names t) (fun r => r.1 = t.Cols.map (·.Name) ∧ r.2 = t.Cons.map (·.Name) ++ t.Idx.map (·.Name)) := by
  have h1 := h.cols
  have h2 := h.cons
  have h3 := h.idx
  unfold r14_Names
  refine yh (grow (k := 16) (fun (x : qL) => x.Name) (by simp; omega) fun j s x hx => by rw [idx_nat, hx]; rfl) ?_
  rintro _ rfl
  refine yh (grow (k := 16) (fun (x : qK) => x.Name) (by simp; omega) fun j s x hx => by rw [idx_nat, hx]; rfl) ?_
  rintro _ rfl
  refine yh (grow (k := 16) (fun (x : qI) => x.Name) (by simp; omega) fun j s x hx => by rw [idx_nat, hx]; rfl) ?_
  rintro _ rfl
  exact yd ⟨by simp, by simp⟩
theorem tlists_rb {b : Prop} {n : Nat} {t : qT} (h : TB n t) (hn : n ≤ 1000) : RB b (r14_lists t) (fun r => r = t.Cons.map (·.Cols) ++ t.Idx.map (·.Cols)) := by
  have h2 := h.cons
  have h3 := h.idx
  unfold r14_lists
  refine yh (grow (k := 24) (fun (x : qK) => x.Cols) (by simp; omega) fun j s x hx => by rw [idx_nat, hx]; rfl) ?_
  rintro _ rfl
  refine yh (grow (k := 24) (fun (x : qI) => x.Cols) (by simp; omega) fun j s x hx => by rw [idx_nat, hx]; rfl) ?_
  rintro _ rfl
  exact yd (by simp)
theorem lists_len {n : Nat} {t : qT} (h : TB n t) {l : List By8} (hl : l ∈ t.Cons.map (·.Cols) ++ t.Idx.map (·.Cols)) : l.length ≤ n := by
  rcases List.mem_append.1 hl with hl | hl
  · obtain ⟨x, hx, rfl⟩ := List.mem_map.1 hl
    exact (h.xs x hx).2.2.1
  · obtain ⟨x, hx, rfl⟩ := List.mem_map.1 hl
    exact (h.is x hx).2
theorem used_rb {b : Prop} {n : Nat} {t : qT} (h : TB n t) (hn : n ≤ 1000) : RB b (r14_Used t) (fun r => ∀ x ∈ t.Cons, ∀ s ∈ x.Cols, s ∈ r) := by
  have h2 := h.cons
  have h3 := h.idx
  unfold r14_Used
  refine yh (tlists_rb h hn) ?_
  rintro r rfl
  have hlen : (t.Cons.map (·.Cols) ++ t.Idx.map (·.Cols)).length ≤ 2000 := by simp; omega
  generalize hL : t.Cons.map (·.Cols) ++ t.Idx.map (·.Cols) = L at hlen ⊢
  refine yh (forE_ret (fun j (s : List By8) => s.length ≤ j * 1000 ∧ ∀ l ∈ L.take j, ∀ x ∈ l, x ∈ s) ⟨by simp, by simp⟩ ?_) ?_
  · rintro j s hj ⟨g1, g2⟩
    refine yam hj fun l hl hm => ?_
    have hll : l.length ≤ n := lists_len h (by rw [hL]; exact hm)
    refine ya8 om (yd ⟨by simp; omega, ?_⟩)
    rw [take_next hl]
    intro l' hl' x hx
    rcases List.mem_append.1 hl' with hl' | hl'
    · exact List.mem_append_left _ (g2 l' hl' x hx)
    · simp at hl'; subst hl'; exact List.mem_append_right _ hx
  · rintro s ⟨g1, g2⟩
    rw [List.take_length] at g2
    refine yh (forE_ret (fun j (u : List By8) => u.length ≤ (2000 + j) * 1000 ∧ ∀ x ∈ s, x ∈ u) ⟨by omega, fun x hx => hx⟩ ?_) ?_
    · rintro j u hj ⟨k1, k2⟩
      refine yam hj fun x _ hm => yh (R := fun (v : List By8) => v.length ≤ (2000 + (j + 1)) * 1000 ∧ ∀ x ∈ s, x ∈ v) ?_ fun v hv => yd hv
      refine yk (fun _ => yam hj fun y _ hm' => ?_) fun _ => yd ⟨by omega, k2⟩
      have hz : esz y.Check ≤ 1000 := Nat.le_trans (h.xs y hm').2.2.2.2.1 om
      refine yh (enames_rb hz) fun v hv => ?_
      have hv : v.length ≤ 1000 := hv
      refine ya8 ?_ (yd ⟨by rw [List.length_append]; omega, fun z hz => List.mem_append_left _ (k2 z hz)⟩)
      have : u.length + v.length ≤ 4000000 := by omega
      omega
    · rintro u ⟨_, k2⟩
      refine yd fun x hx z hz => k2 z (g2 x.Cols ?_ z hz)
      rw [← hL]
      exact List.mem_append_left _ (List.mem_map_of_mem hx)
theorem twice_tt {b : Prop} (l : List By8) : RB b (r14_twice l) TT := by
  unfold r14_twice
  refine yh (R := TT) (forN_tt fun j s hj => ?_) ?_
  · rw [sub_at (xs := l) (lo := 0) (hi := (j : Int)) (i := 0) (j := j) rfl rfl om om]
    exact yam hj fun _ _ _ => yh (has_rb _ _) fun _ _ => yk rt rt
  · rintro (_ | _) _ <;> exact yd trivial
theorem forN_q {σ τ : Type} {b : Prop} {step : Nat → σ → Option (σ ⊕ τ)} {n : Nat} {s : σ} {Q : τ → Prop} (hs : ∀ j s, j < n → RB b (step j s) (fun r => match r with | .inl _ => True | .inr t => Q t)) :
    RB b (forN step n 0 s) (fun r => match r with | .inl _ => True | .inr t => Q t) := forN_ret (fun _ _ => True) trivial fun j s hj _ => hs j s hj
def NE (t : qT) : Prop := ∀ x ∈ t.Cons, x.Kind = 1 → x.Cols ≠ []
theorem wrong_rb {b : Prop} {n : Nat} {t : qT} (h : TB n t) (hn : n ≤ 1000) : RB b (r14_wrong t) (fun r => r = 0 → NE t) := by
  have h1 := h.cols
  have h2 := h.cons
  have h3 := h.idx
  have no : ∀ {k : Int} {C : Prop}, k ≠ 0 → (k = 0 → C) := fun hk he => absurd he hk
  unfold r14_wrong
  refine yh (tnames_rb h hn) ?_
  rintro ⟨r1, r2⟩ ⟨e1, e2⟩
  simp only at e1 e2
  subst e1 e2
  refine ya8 (by simp; omega) (ya8 (by simp; omega) ?_)
  have hsz : ∀ s ∈ [t.Name, t.Owner] ++ t.Cols.map (·.Name) ++ (t.Cons.map (·.Name) ++ t.Idx.map (·.Name)), s.size ≤ 100 := by
    intro s hs
    simp only [List.mem_append, List.mem_cons, List.not_mem_nil, or_false, List.mem_map] at hs
    rcases hs with ((rfl | rfl) | ⟨x, hx, rfl⟩) | ⟨x, hx, rfl⟩ | ⟨x, hx, rfl⟩
    · exact h.nm
    · exact h.ow
    · exact h.cn x hx
    · exact (h.xs x hx).1
    · exact (h.is x hx).1
  generalize [t.Name, t.Owner] ++ t.Cols.map (·.Name) ++ (t.Cons.map (·.Name) ++ t.Idx.map (·.Name)) = A at hsz ⊢
  refine yh (forN_q (Q := fun r => r ≠ 0) fun j s hj => yam hj fun x _ hx => yh (rname_tt (hsz x hx)) fun _ _ => yk (fun _ => yd (by decide)) rt) ?_
  rintro (_ | _) g
  rotate_left
  · exact yd (no g)
  refine yk (fun _ => yd (no (by decide))) fun _ => yh (forN_q (Q := fun r => r ≠ 0) fun j s hj => yam hj fun x _ hx => yh (R := TT) (yk rt fun _ => yam hj fun _ _ _ => yd trivial) fun _ _ => yk (fun _ => yd (by decide)) rt) ?_
  rintro (_ | _) g
  rotate_left
  · exact yd (no g)
  refine yh (forN_q (Q := fun r => r ≠ 0) fun j s hj => yam hj fun x _ hx => yh (R := TT) (yk rt fun _ => yam hj fun _ _ _ => yd trivial) fun _ _ => yk (fun _ => yd (by decide)) rt) ?_
  rintro (_ | _) g
  rotate_left
  · exact yd (no g)
  refine ya1 (ya1 (yk (fun _ => yd (no (by decide))) fun _ => yh (tlists_rb h hn) fun l hl => ?_))
  have hl : l = t.Cons.map (·.Cols) ++ t.Idx.map (·.Cols) := hl
  have hll : t.Cons.length ≤ l.length := by rw [hl]; simp
  refine yh (forN_ret (fun j _ => ∀ i x, i < j → t.Cons[i]? = some x → x.Kind = 1 → x.Cols ≠ []) (Q := fun r => r ≠ 0) (fun i x hi => by omega) ?_) ?_
  · intro j s hj g
    have hlt : ∀ {α : Type} {f : qK → Option α} {Q : α → Prop}, decide ((j : Int) < (t.Cons.length : Int)) = true → (∀ x, t.Cons[j]? = some x → RB b (f x) Q) → RB b ((Gv.idx t.Cons (j : Int)).bind f) Q := fun hc hf => yam (by simpa using hc) fun x hx _ => hf x hx
    refine yh (R := fun (q : Bool) => q = true → ∀ x, t.Cons[j]? = some x → x.Kind = 2) (yk (fun hc => hlt hc fun x hx => yd fun hq y hy => by rw [hx] at hy; injection hy with hy; subst hy; simpa using hq) (fun _ => yd fun h => by cases h)) fun q hq => ?_
    refine yh (R := fun (q' : Bool) => q' = false → q = false → ∀ x, t.Cons[j]? = some x → x.Cols ≠ []) (yk (fun hc => yam hj fun u hu _ => yh (R := fun (q' : Bool) => q' = false → u ≠ []) (yk (fun _ => yd fun h => by cases h) fun hc => yam hj fun _ _ _ => yd fun _ hu => by subst hu; simp at hc) fun q' hq' => yd fun hf _ x hx => ?_) (fun hc => yd fun _ hq => by subst hq; cases hc)) fun q' hq' => ?_
    · have : l[j]? = some x.Cols := by
        rw [hl, List.getElem?_append_left (by simpa using (List.getElem?_eq_some_iff.1 hx).1), List.getElem?_map, hx]
        rfl
      rw [hu] at this
      injection this with this
      rw [← this]
      exact hq' hf
    · refine yk (fun _ => yd (show (3 : Int) ≠ 0 by decide)) fun hc => ?_
      have goal : ∀ i x, i < j + 1 → t.Cons[i]? = some x → x.Kind = 1 → x.Cols ≠ [] := by
        intro i x hi hx hk
        by_cases hij : i < j
        · exact g i x hij hx hk
        · have : i = j := by omega
          subst this
          cases q with
          | false => exact hq' hc rfl x hx
          | true => rw [hq rfl x hx] at hk; cases hk
      refine yh (R := fun (q : Bool) => q = true → j < t.Cons.length) (yk (fun hc => hlt hc fun _ _ => yd fun _ => by simpa using hc) (fun _ => yd fun h => by cases h)) fun q hq => yh (R := TT) (yk (fun hc => yam (hq hc) fun _ _ _ => yh (R := TT) (yk rt fun _ => yam (hq hc) fun _ _ _ => yd trivial) fun _ _ => yd trivial) rt) fun _ _ => yk (fun _ => yd (show (3 : Int) ≠ 0 by decide)) (fun _ => yd goal)
  rintro (_ | _) g2
  rotate_left
  · exact yd (no g2)
  have ne : NE t := fun x hx => by
    obtain ⟨i, hi, rfl⟩ := List.mem_iff_getElem.1 hx
    exact g2 i _ om (gE hi)
  refine RB.mono (Q := TT) ?_ (fun _ _ _ => ne)
  refine yh (twice_tt _) fun _ _ => yh (R := TT) (yk rt fun _ => yh (twice_tt _) fun _ _ => yd trivial) fun _ _ => yk rt fun _ => yh (R := TT) (forN_tt fun j s hj => ?_) ?_
  · have hlt : ∀ {α : Type} {f : qK → Option α} {Q : α → Prop}, decide ((j : Int) < (t.Cons.length : Int)) = true → (∀ x, RB b (f x) Q) → RB b ((Gv.idx t.Cons (j : Int)).bind f) Q := fun hc hf => yam (by simpa using hc) fun x _ _ => hf x
    exact yam hj fun _ _ _ => yh (twice_tt _) fun _ _ => yh (R := TT) (yk rt fun _ => yh (R := TT) (yk (fun hc => hlt hc fun _ => yh (twice_tt _) fun _ _ => yd trivial) rt) fun _ _ => yd trivial) fun _ _ => yk rt rt
  · rintro (_ | _) _ <;> exact yd trivial
structure TR (t : qT) : Prop where
  ne : NE t
  cs : ∀ x ∈ t.Cons, ∀ s ∈ x.Cols, ∃ c ∈ t.Cols, c.Name = s
  rf : ∀ x ∈ t.Cons, x.Kind = 3 → x.Refs.length = x.Cols.length
theorem tcheck_rb {b : Prop} {n : Nat} {t : qT} (h : TB n t) (hn : n ≤ 1000) : RB b (r14_Check t) (fun r => r = 0 → TR t) := by
  unfold r14_Check
  have no : ∀ {k : Int} {C : Prop}, k ≠ 0 → (k = 0 → C) := fun hk he => absurd he hk
  refine yh (wrong_rb h hn) fun r hr => yk (fun hc => yd (no (by simpa using hc))) fun hc => ?_
  have hne : NE t := hr (by simpa using hc)
  refine yh (tnames_rb h hn) ?_
  rintro ⟨r1, r2⟩ ⟨e1, e2⟩
  simp only at e1 e2
  subst e1 e2
  refine yh (used_rb h hn) fun u hu => yh (forN_ret (fun j _ => ∀ s ∈ u.take j, ∃ c ∈ t.Cols, c.Name = s) (Q := fun r => r ≠ 0) (by simp) ?_) ?_
  · intro j s hj g
    refine yam hj fun x hx _ => yh (has_rb _ _) fun q hq => yk (fun _ => yd (show (4 : Int) ≠ 0 by decide)) fun hc => yd ?_
    show ∀ s ∈ u.take (j + 1), _
    rw [take_next hx]
    intro y hy
    rcases List.mem_append.1 hy with hy | hy
    · exact g y hy
    · simp only [List.mem_cons, List.not_mem_nil, or_false] at hy
      subst hy
      have := hq.1 (by simpa using hc)
      simpa using this
  rintro (_ | _) g1
  rotate_left
  · exact yd (no g1)
  rw [List.take_length] at g1
  refine yh (forN_q (Q := fun r => r ≠ 0) fun j s hj => ?_) ?_
  · refine yh (R := fun (r : Bool ⊕ Int) => match r with | .inl _ => True | .inr k => k = 17) (yam hj fun x _ _ => yk rt fun _ => yam hj fun y _ hy => yh (echeck_rb false (h.xs y hy).2.2.2.2.2) fun _ _ => yk (fun _ => yd rfl) fun _ => yh (R := TT) (yk rt fun _ => yam hj fun z _ hz => yh (params_tt (Nat.le_trans (h.xs z hz).2.2.2.2.1 om)) fun _ _ => yd trivial) fun _ _ => yd trivial) ?_
    rintro (_ | k) hk
    · exact yd trivial
    · simp only at hk
      subst hk
      exact yd (show (17 : Int) ≠ 0 by decide)
  rintro (_ | _) g2
  rotate_left
  · exact yd (no g2)
  refine yk (fun _ => yd (no (by decide))) fun _ => yh (forN_ret (fun j _ => ∀ x ∈ t.Cons.take j, x.Kind = 3 → x.Refs.length = x.Cols.length) (Q := fun r => r ≠ 0) (by simp) ?_) ?_
  · intro j s hj g
    refine yam hj fun x hx hm => yh (R := TT) (yk (fun _ => yh (none_tt _) fun _ _ => yd trivial) rt) fun _ _ => ya1 (yk (fun _ => yd (show (2 : Int) ≠ 0 by decide)) fun _ => ?_)
    refine yh (R := fun (q : Bool) => q = false → x.Kind = 3 → x.Refs.length = x.Cols.length) (yk (fun _ => yh (rname_tt (h.xs x hm).2.1) fun q _ => ya1 (yd fun hq _ => ?_)) (fun hc => yd fun _ hk => by rw [hk] at hc; cases hc)) fun q hq => ya1 (yk (fun _ => yd (show (2 : Int) ≠ 0 by decide)) fun hc => yd ?_)
    · simp only [Bool.or_eq_false_iff, bne_eq_false_iff_eq] at hq
      omega
    · simp only [Bool.or_eq_false_iff] at hc
      show ∀ x ∈ t.Cons.take (j + 1), _
      rw [take_next hx]
      intro y hy
      rcases List.mem_append.1 hy with hy | hy
      · exact g y hy
      · simp only [List.mem_cons, List.not_mem_nil, or_false] at hy
        subst hy
        exact hq hc.1
  rintro (_ | _) g3
  rotate_left
  · exact yd (no g3)
  rw [List.take_length] at g3
  exact yd fun _ => ⟨hne, fun x hx s hs => g1 s (hu x hx s hs), g3⟩
theorem places_rb {b : Prop} (t : qT) {l : List By8} (hl : l.length ≤ 1000) : RB b (r14_Places t l) (fun r => (∀ k ∈ r.1, 0 ≤ k ∧ k < (t.Cols.length : Int)) ∧ (r.2 = 0 ∧ r.1.length = l.length ∨ r.2 ≠ 0 ∧ r.1 = [] ∧ ∃ s ∈ l, ∀ c ∈ t.Cols, c.Name ≠ s)) := by
  unfold r14_Places
  refine yh (forN_ret (fun j (s : List Int) => s.length = j ∧ ∀ k ∈ s, 0 ≤ k ∧ k < (t.Cols.length : Int)) (Q := fun r => r.1 = [] ∧ r.2 ≠ 0 ∧ ∃ s ∈ l, ∀ c ∈ t.Cols, c.Name ≠ s) ⟨rfl, by simp⟩ ?_) ?_
  · rintro j s hj ⟨g1, g2⟩
    refine yam hj fun x hx hm => yh (col_rb t x) fun r hr => yk (fun hc => yd ⟨rfl, show (4 : Int) ≠ 0 by decide, x, hm, ?_⟩) fun hc => ya8 (by simp only [List.length_cons, List.length_nil]; omega) (yd ⟨by simp [g1], ?_⟩)
    · rcases hr with ⟨_, hr⟩ | ⟨hr, _⟩
      · exact hr
      · simp at hc; omega
    · intro k hk
      rcases List.mem_append.1 hk with hk | hk
      · exact g2 k hk
      · simp at hk
        subst hk
        rcases hr with ⟨hr, _⟩ | hr
        · subst hr; simp at hc
        · exact hr
  · rintro (s | ⟨s1, s2⟩) g
    · exact yd ⟨g.2, .inl ⟨rfl, g.1⟩⟩
    · obtain ⟨e1, e2, e3⟩ := g
      simp only at e1 e2
      subst e1
      exact yd ⟨by simp, .inr ⟨e2, rfl, e3⟩⟩
theorem alike_tt {b : Prop} (p q : List By8) : RB b (r17_alike p q) TT := by
  unfold r17_alike
  refine yk rt fun hc => ?_
  have hl : p.length = q.length := by simp at hc; omega
  refine yh (R := TT) (forN_tt fun j s hj => yh (R := TT) (forE_tt ?_) ?_) ?_
  · rintro i ⟨s1, s2⟩ hi
    exact yam hi fun _ _ _ => yam hj fun _ _ _ => yh (R := TT) (yk rt rt) fun _ _ => yam om fun _ _ _ => yam hj fun _ _ _ => yh (R := TT) (yk rt rt) fun _ _ => yd trivial
  · rintro ⟨_, _⟩ _
    exact yk rt rt
  · rintro (_ | _) _ <;> exact yd trivial
theorem keys_tt {b : Prop} (t : qT) (l : List By8) : RB b (r17_keys t l) TT := by
  unfold r17_keys
  exact yh (R := TT) (forE_tt fun j s hj => yam hj fun _ _ _ => yh (R := TT) (yk (fun _ => yam hj fun _ _ _ => yh (alike_tt _ _) fun _ _ => yd trivial) rt) fun _ _ => yh (R := TT) (yk rt rt) fun _ _ => yd trivial) fun _ _ => yd trivial
theorem tat_rb {b : Prop} (c : qC) (n : By8) : RB b (r17_At c n) (fun r => r = -1 ∨ 0 ≤ r ∧ r < (c.Tables.length : Int)) := by
  unfold r17_At
  refine yh (forN_q (Q := fun r => 0 ≤ r ∧ r < (c.Tables.length : Int)) fun j s hj => yam hj fun _ _ _ => yk (fun _ => yd ⟨by omega, by omega⟩) rt) ?_
  rintro (_ | _) g
  · exact yd (.inl rfl)
  · exact yd (.inr g)
theorem foreign_tt {b : Prop} {c : qC} {t : qT} {x : qK} (ht : TR t) (hx : x ∈ t.Cons) (hk : x.Kind = 3) (h1 : x.Cols.length ≤ 1000) (h2 : x.Refs.length ≤ 1000) : RB b (r17_foreign c t x) TT := by
  unfold r17_foreign
  refine yh (R := TT) (yk (fun _ => yh (tat_rb c _) fun r hr => yk rt fun hc => ?_) rt) ?_
  · simp only [decide_eq_false_iff_not] at hc
    exact ybl om (by rcases hr with hr | hr <;> omega) fun _ _ _ => yd trivial
  rintro (⟨_, _⟩ | p) _
  · exact yd trivial
  refine yh (places_rb p h2) ?_
  rintro ⟨l1, k1⟩ ⟨p1, p2⟩
  refine yh (places_rb t h1) ?_
  rintro ⟨l2, k2⟩ ⟨q1, q2⟩
  simp only at p1 p2 q1 q2
  refine yk rt fun hc => ?_
  have e1 : l1.length = x.Refs.length := by
    rcases p2 with ⟨_, h⟩ | ⟨h, _⟩
    · exact h
    · simp at hc; exact absurd hc h
  have e2 : l2.length = x.Cols.length := by
    rcases q2 with ⟨_, h⟩ | ⟨_, _, s, hs, h⟩
    · exact h
    · obtain ⟨d, hd, he⟩ := ht.cs x hx s hs
      exact absurd he (h d hd)
  have e3 := ht.rf x hx hk
  refine yh (R := TT) (forN_tt fun j s hj => yam om fun u _ hu => ybl (q1 u hu).1 (q1 u hu).2 fun _ _ _ => yam hj fun v _ hv => ybl (p1 v hv).1 (p1 v hv).2 fun _ _ _ => yk rt rt) ?_
  rintro (_ | _) _
  · exact yh (keys_tt _ _) fun _ _ => yk rt rt
  · exact yd trivial
theorem sound_rb {b : Prop} {n : Nat} (c : qC) {t : qT} (h : TB n t) (hn : n ≤ 1000) : RB b (r17_Sound c t) (fun r => r = 0 → TR t) := by
  have no : ∀ {k : Int} {C : Prop}, k ≠ 0 → (k = 0 → C) := fun hk he => absurd he hk
  unfold r17_Sound
  refine yh (tcheck_rb h hn) fun r hr => yk (fun hc => yd (no (by simpa using hc))) fun hc => ?_
  have ht : TR t := hr (by simpa using hc)
  refine RB.mono (Q := TT) ?_ (fun _ _ _ => ht)
  refine yh (R := TT) (forN_tt fun j s hj => yam hj fun x _ hx => ?_) ?_
  · obtain ⟨_, _, x1, x2, x3⟩ := h.xs x hx
    refine yh (R := TT) (yk (fun _ => yh (resolve_rb t (Nat.le_trans x3.1 om) x3.2) ?_) rt) fun _ _ => yh (R := TT) (yk (fun hk => yh (foreign_tt ht hx (by simpa using hk) om om) fun _ _ => yd trivial) rt) fun _ _ => yk rt rt
    rintro ⟨e, f⟩ hf
    refine yh (R := TT) (yk (fun hc => ?_) rt) fun _ _ => yd trivial
    obtain ⟨f1, f2⟩ := hf (by simpa using hc)
    have hcl := h.cols
    refine yh (R := TT) ?_ fun l _ => yh (bool_tt l f1 f2) fun _ _ => yd trivial
    unfold r15_Cols
    exact yh (grow (k := 8) (fun (x : qL) => x.Type_) (by simp; omega) fun j s x hx => by rw [idx_nat, hx]; rfl).tt fun _ _ => yd trivial
  · rintro (_ | _) _ <;> exact yd trivial
def CO (n : Nat) (x : qK) : Prop := x.Name.size ≤ 100 ∧ x.Table.size ≤ 100 ∧ x.Cols.length ≤ n ∧ x.Refs.length ≤ n ∧ Es x.Check
def TN (n : Nat) (t : qT) : Prop := TB n t ∧ NE t
structure CB (n : Nat) (c : qC) : Prop where
  tabs : c.Tables.length ≤ n
  ok : ∀ t ∈ c.Tables, TN n t
  grants : c.Grants.length ≤ n
theorem CB.up {n m : Nat} {c : qC} (h : CB n c) (hm : n ≤ m) : CB m c := ⟨by have := h.tabs; omega, fun t ht => ⟨(h.ok t ht).1.up hm, (h.ok t ht).2⟩, by have := h.grants; omega⟩
structure SF (s : qS) : Prop where
  cols : s.Cols.length ≤ 12
  cons : s.Cons.length ≤ 12
  names : s.Names.length ≤ 12
  table : s.Table.size ≤ 100
  name : s.Name.size ≤ 100
  cn : ∀ x ∈ s.Cols, x.Name.size ≤ 100
  xs : ∀ x ∈ s.Cons, CO 12 x
theorem copy_rb {b : Prop} {n : Nat} {t : qT} (h : TB n t) (hn : n ≤ 1000) : RB b (r17_Copy t) (fun r => r = t) := by
  have h1 := h.cols
  have h2 := h.cons
  have h3 := h.idx
  unfold r17_Copy
  exact ya8 (by simp; omega) (ya8 (by simp; omega) (ya8 (by simp; omega) (yd rfl)))
theorem pointed_rb {b : Prop} {n : Nat} {t : qT} (h : TN n t) (hn : n ≤ 1000) (p q : By8) (hq : q.size ≤ 100) : RB b (r17_pointed t p q) (fun r => TN n r.1 ∧ r.1.Name = t.Name) := by
  have h2 := h.1.cons
  unfold r17_pointed
  refine yh (copy_rb h.1 hn) ?_
  rintro _ rfl
  refine yh (loopO_rb (fun (s : Bool × Int × List qK) => ∃ i : Nat, s.2.1 = (i : Int) ∧ i ≤ s.2.2.length ∧ s.2.2.length ≤ n ∧ ∀ x ∈ s.2.2, CO n x ∧ (x.Kind = 1 → x.Cols ≠ [])) (fun s => s.2.2.length - s.2.1.toNat) (Q := fun s => s.2.length ≤ n ∧ ∀ x ∈ s.2, CO n x ∧ (x.Kind = 1 → x.Cols ≠ [])) ?_ ⟨0, rfl, by omega, h2, fun x hx => ⟨h.1.xs x hx, h.2 x hx⟩⟩) ?_
  · rintro ⟨c, _, l⟩ ⟨i, rfl, hi, hl, g⟩
    simp only at hi hl g
    refine yk (fun hc => ?_) fun _ => yd ⟨hl, g⟩
    have hlt : i < l.length := by simpa using hc
    have ew : w64 ((i : Int) + 1) = ((i + 1 : Nat) : Int) := by rw [w64_id om om]; rfl
    refine yam hlt fun x hx hm => yh (R := TT) (yk (fun _ => yam hlt fun _ _ _ => yd trivial) rt) fun _ _ => yh (R := fun (r : Bool × List qK) => r.2.length = l.length ∧ ∀ x ∈ r.2, CO n x ∧ (x.Kind = 1 → x.Cols ≠ [])) (yk (fun _ => yam hlt fun y _ hy => yd ⟨by simp, fun z hz => ?_⟩) (fun _ => yd ⟨rfl, g⟩)) ?_
    · rcases List.mem_or_eq_of_mem_set hz with hz | rfl
      · exact g z hz
      · obtain ⟨⟨c1, _, c3, c4, c5⟩, c6⟩ := g y hy
        exact ⟨⟨c1, hq, c3, c4, c5⟩, c6⟩
    · rintro ⟨c', l'⟩ ⟨e1, e2⟩
      simp only at e1 e2
      refine yd ⟨⟨i + 1, ew, by simp only; omega, by simp only; omega, e2⟩, ?_⟩
      simp only [ew]
      omega
  · rintro ⟨c, l⟩ ⟨g1, g2⟩
    simp only at g1 g2
    exact yd ⟨⟨⟨h.1.cols, g1, h.1.idx, h.1.nm, h.1.ow, h.1.cn, fun x hx => (g2 x hx).1, h.1.is⟩, fun x hx => (g2 x hx).2⟩, rfl⟩
theorem TN.ver {n : Nat} {t : qT} (h : TN n t) (v : Int) : TN n { t with Version := v } := ⟨⟨h.1.cols, h.1.cons, h.1.idx, h.1.nm, h.1.ow, h.1.cn, h.1.xs, h.1.is⟩, h.2⟩
theorem TB.ver {n : Nat} {t : qT} (h : TB n t) (v : Int) : TB n { t with Version := v } := ⟨h.cols, h.cons, h.idx, h.nm, h.ow, h.cn, h.xs, h.is⟩
theorem renamed_rb {b : Prop} {n : Nat} {c : qC} {t : qT} (h : CB n c) (ht : TN n t) (hn : n ≤ 1000) {q : By8} (hq : q.size ≤ 100) : RB b (r17_renamed c t q) (fun r => CB n r.1 ∧ r.1.Roles = c.Roles ∧ TB n r.2) := by
  have h1 := h.tabs
  have h2 := h.grants
  unfold r17_renamed
  refine yh (pointed_rb ht hn _ _ hq) ?_
  rintro ⟨u, f⟩ ⟨hu, _⟩
  refine yh (forE_ret (fun j (s : List qT) => s.length ≤ j ∧ ∀ t ∈ s, TN n t) ⟨by simp, by simp⟩ ?_) ?_
  · rintro j s hj ⟨g1, g2⟩
    refine yh (R := fun (r : qT × Bool) => TN n r.1) (yam hj fun x _ hx => yh (pointed_rb (h.ok x hx) hn _ _ hq) ?_) ?_
    · rintro ⟨_, _⟩ g
      exact yd g.1
    rintro ⟨x, f⟩ hx
    refine yh (R := fun (x : qT) => TN n x) (yk (fun _ => yd (hx.ver _)) (fun _ => yd hx)) fun y hy => yam hj fun z _ _ => yh (R := fun (s : List qT) => s.length ≤ j + 1 ∧ ∀ t ∈ s, TN n t) (yk (fun _ => ya8 (by simp only [List.length_cons, List.length_nil]; omega) (yd ⟨by simp; omega, fun w hw => ?_⟩)) (fun _ => yd ⟨by omega, g2⟩)) fun s hs => yd hs
    rcases List.mem_append.1 hw with hw | hw
    · exact g2 w hw
    · simp only [List.mem_cons, List.not_mem_nil, or_false] at hw
      subst hw
      exact hy
  · rintro s ⟨g1, g2⟩
    refine yh (forE_ret (fun j (s : List qG) => s.length ≤ j) (by simp) ?_) ?_
    · rintro j s hj g
      exact yam hj fun x _ _ => yh (R := TT) (yk rt rt) fun _ _ => ya8 (by simp only [List.length_cons, List.length_nil]; omega) (yd (by simp; omega))
    · intro gs hg
      have hg : gs.length ≤ c.Grants.length := hg
      refine yd ⟨⟨by simp only; omega, g2, by simp only; omega⟩, rfl, ?_⟩
      exact ⟨hu.1.cols, hu.1.cons, hu.1.idx, hq, hu.1.ow, hu.1.cn, hu.1.xs, hu.1.is⟩
theorem refers1_tt {b : Prop} {n : Nat} {c : qC} (h : CB n c) (hn : n ≤ 1000) (p1 p2 p3 : By8) (p4 : List By8) : RB b (r17_refers_nnsl c p1 p2 p3 p4) TT := by
  unfold r17_refers_nnsl
  refine yh (R := TT) (forN_tt fun j s hj => yam hj fun x _ hx => yh (R := TT) (loopO_rb (fun (i : Int) => ∃ k : Nat, i = (k : Int) ∧ k ≤ x.Cons.length) (fun i => x.Cons.length - i.toNat) (Q := TT) ?_ ⟨0, rfl, by omega⟩) ?_) ?_
  · rintro _ ⟨k, rfl, hk⟩
    have hxl := (h.ok x hx).1.cons
    refine ya1 (yk (fun hc => ?_) fun _ => yd trivial)
    have hlt : k < x.Cons.length := by simp at hc; omega
    have ew : w64 ((k : Int) + 1) = ((k + 1 : Nat) : Int) := by rw [w64_id om om]; rfl
    refine yh (R := TT) (yam hlt fun y _ _ => yk rt fun _ => yh (alike_tt _ _) fun _ _ => yk rt rt) ?_
    rintro (u | s) _
    · exact yd ⟨⟨k + 1, ew, by omega⟩, by rw [ew]; omega⟩
    · exact yd trivial
  · rintro (_ | _) _ <;> exact yd trivial
  · rintro (_ | _) _ <;> exact yd trivial
theorem refers0_tt {b : Prop} {n : Nat} {c : qC} (h : CB n c) (hn : n ≤ 1000) (p1 p2 p3 : By8) : RB b (r17_refers_nilsl c p1 p2 p3) TT := by
  unfold r17_refers_nilsl
  refine yh (R := TT) (forN_tt fun j s hj => yam hj fun x _ hx => yh (R := TT) (loopO_rb (fun (i : Int) => ∃ k : Nat, i = (k : Int) ∧ k ≤ x.Cons.length) (fun i => x.Cons.length - i.toNat) (Q := TT) ?_ ⟨0, rfl, by omega⟩) ?_) ?_
  · rintro _ ⟨k, rfl, hk⟩
    have hxl := (h.ok x hx).1.cons
    refine ya1 (yk (fun hc => ?_) fun _ => yd trivial)
    have hlt : k < x.Cons.length := by simp at hc; omega
    have ew : w64 ((k : Int) + 1) = ((k + 1 : Nat) : Int) := by rw [w64_id om om]; rfl
    refine yh (R := TT) (yam hlt fun y _ _ => yk rt fun _ => yh (R := TT) (yk rt fun _ => yh (has_rb _ _) fun _ _ => yd trivial) fun _ _ => yh (R := TT) (yk rt rt) fun _ _ => yk rt rt) ?_
    rintro (u | s) _
    · exact yd ⟨⟨k + 1, ew, by omega⟩, by rw [ew]; omega⟩
    · exact yd trivial
  · rintro (_ | _) _ <;> exact yd trivial
  · rintro (_ | _) _ <;> exact yd trivial
theorem ybp {α β : Type} {b : Prop} {xs : List α} {lo hi : Int} {Q : β → Prop} {f : List α → Option β} (h0 : 0 ≤ lo) (h1 : lo ≤ hi) (h2 : hi ≤ (xs.length : Int)) (hf : ∀ l, (∀ x ∈ l, x ∈ xs) → (l.length : Int) = hi - lo → RB b (f l) Q) : RB b ((sub xs lo hi).bind f) Q := by
  rw [sub_at (i := lo.toNat) (j := hi.toNat) om om om om]
  exact hf _ (fun x hx => List.mem_of_mem_take (List.mem_of_mem_drop hx)) (by simp; omega)
theorem dropped_rb {b : Prop} {n : Nat} {c : qC} {t : qT} (h : CB n c) (ht : TN n t) (hn : n ≤ 1000) (nm : By8) : RB b (r17_dropped c t nm) (fun r => TB (n + 1) r.1) := by
  have h2 := ht.1.cons
  unfold r17_dropped
  refine yh (forN_q (Q := fun r => TB (n + 1) r.2) fun j s hj => yam hj fun x _ hx => yk rt fun _ => ?_) ?_
  · have hxc := (ht.1.xs x hx).2.2.1
    refine ya8 (by simp; omega) ?_
    rw [List.nil_append]
    refine yh (R := fun (q : Bool) => q = true → x.Kind = 1) (yk (fun hk => yh (keys_tt _ _) fun _ _ => yd fun _ => by simpa using hk) (fun _ => yd fun h => by cases h)) fun q hq => yh (R := TT) (yk (fun hc => ?_) rt) fun _ _ => yk (fun _ => yd (show TB (n + 1) t from ht.1.up om)) fun _ => yh (copy_rb ht.1 hn) ?_
    · have hne := ht.2 x hx (hq hc)
      have : must (!(x.Cols).isEmpty) = some () := by cases hxc : x.Cols with
        | nil => exact absurd hxc hne
        | cons a r => rfl
      rw [this]
      exact ya1 (yh (refers1_tt h hn _ _ _ _) fun _ _ => yd trivial)
    · intro r hr
      have hr : r = t := hr
      rw [hr]
      have ew : w64 ((j : Int) + 1) = ((j + 1 : Nat) : Int) := by rw [w64_id om om]; rfl
      rw [ew]
      refine ybp om om om fun l1 m1 k1 => ya8 (by simp; omega) (ybp om om om fun l2 m2 k2 => ya8 (by simp; omega) (yd ?_))
      refine ⟨by have := ht.1.cols; simp only; omega, by simp; omega, by have := ht.1.idx; simp only; omega, ht.1.nm, ht.1.ow, ht.1.cn, fun y hy => (ht.1.up (show n ≤ n + 1 by omega)).xs y ?_, (ht.1.up (show n ≤ n + 1 by omega)).is⟩
      simp only [List.nil_append, List.mem_append] at hy
      rcases hy with hy | hy
      · exact m1 y hy
      · exact m2 y hy
  · rintro (s | ⟨s1, s2⟩) g
    · exact yd (ht.1.up om)
    · exact yd g
theorem turned_rb {b : Prop} {n : Nat} {c : qC} {t : qT} {s : qS} (h : CB n c) (ht : TN n t) (hs : SF s) (h12 : 12 ≤ n) (hn : n ≤ 1000) : RB b (r17_turned c t s) (fun r => TB (n + 1) r.1) := by
  have t1 := ht.1.cols
  have t2 := ht.1.cons
  have t3 := ht.1.idx
  have up := ht.1.up (show n ≤ n + 1 by omega)
  unfold r17_turned
  refine yh (copy_rb ht.1 hn) fun r hr => ?_
  have hr : r = t := hr
  rw [hr]
  refine yh (tnames_rb ht.1 hn) ?_
  rintro ⟨r1, r2⟩ _
  refine yh (R := fun (q : (Int × qT) ⊕ (qT × (List qL) × (List qK) × (List qI))) => match q with | .inl (_, u) => TB (n + 1) u | .inr (_, a, d, e) => TB (n + 1) { t with Cols := a, Cons := d, Idx := e }) ?_ ?_
  rotate_left
  · rintro (⟨_, u⟩ | ⟨_, a, d, e⟩) g
    · exact yd g
    · exact yd g
  refine yk (fun _ => yk (fun _ => yd up) fun hc => ?_) fun _ => ?_
  · have hl : s.Cols.length = 1 := by simp at hc; omega
    refine yam (i := 0) om fun x _ hx => yh (col_rb _ _) fun _ _ => yk (fun _ => yd up) fun _ => yam (i := 0) om fun y _ hy => ya8 (by simp only [List.length_cons, List.length_nil]; omega) (yd ?_)
    refine ⟨by simp only [List.length_append, List.length_cons, List.length_nil]; omega, up.cons, up.idx, up.nm, up.ow, fun z hz => ?_, up.xs, up.is⟩
    rcases List.mem_append.1 hz with hz | hz
    · exact up.cn z hz
    · simp only [List.mem_cons, List.not_mem_nil, or_false] at hz
      subst hz
      exact hs.cn _ hy
  refine yh (R := fun (q : (Int × qT) ⊕ (qT × (List qL) × (List qK) × (List qI))) => match q with | .inl (_, u) => TB (n + 1) u | .inr (_, a, d, e) => TB (n + 1) { t with Cols := a, Cons := d, Idx := e }) ?_ ?_
  rotate_left
  · rintro (⟨_, u⟩ | ⟨_, a, d, e⟩) g <;> exact yd g
  refine yk (fun _ => yh (col_rb _ _) fun at_ ha => yk (fun _ => yd up) fun hc => yh (R := TT) (yk rt fun _ => yh (used_rb ht.1 hn) fun _ _ => yh (has_rb _ _) fun _ _ => yd trivial) fun _ _ => yh (R := TT) (yk rt fun _ => yh (R := TT) (yk (fun _ => yh (refers0_tt h hn _ _ _) fun _ _ => yd trivial) rt) fun _ _ => yd trivial) fun _ _ => yk (fun _ => yd up) fun _ => ?_) fun _ => ?_
  · have h0 : 0 ≤ at_ ∧ at_ < (t.Cols.length : Int) := by
      rcases ha with ⟨ha, _⟩ | ha
      · subst ha; simp at hc
      · exact ha
    have ew : w64 (at_ + 1) = at_ + 1 := w64_id om om
    rw [ew]
    refine ybp om om om fun l1 m1 k1 => ya8 (by simp; omega) (ybp om om om fun l2 m2 k2 => ya8 (by simp; omega) (yd ?_))
    refine ⟨by simp; omega, up.cons, up.idx, up.nm, up.ow, fun z hz => ?_, up.xs, up.is⟩
    simp only [List.nil_append, List.mem_append] at hz
    rcases hz with hz | hz
    · exact up.cn z (m1 z hz)
    · exact up.cn z (m2 z hz)
  refine yh (R := fun (q : (Int × qT) ⊕ (qT × (List qK) × (List qI))) => match q with | .inl (_, u) => TB (n + 1) u | .inr (_, d, e) => TB (n + 1) { t with Cons := d, Idx := e }) ?_ ?_
  rotate_left
  · rintro (⟨_, u⟩ | ⟨_, d, e⟩) g <;> exact yd g
  refine yk (fun _ => yk (fun _ => yd up) fun hc => ?_) fun _ => ?_
  · have hl : s.Cons.length = 1 := by simp at hc; omega
    refine yam (i := 0) om fun x _ hx => yh (has_rb _ _) fun _ _ => yk (fun _ => yd up) fun _ => yk (fun _ => yd up) fun _ => yam (i := 0) om fun y _ hy => ya8 (by simp only [List.length_cons, List.length_nil]; omega) (yd ?_)
    refine ⟨up.cols, by simp only [List.length_append, List.length_cons, List.length_nil]; omega, up.idx, up.nm, up.ow, up.cn, fun z hz => ?_, up.is⟩
    rcases List.mem_append.1 hz with hz | hz
    · exact up.xs z hz
    · simp only [List.mem_cons, List.not_mem_nil, or_false] at hz
      subst hz
      obtain ⟨c1, c2, c3, c4, c5⟩ := hs.xs _ hy
      exact ⟨c1, c2, by omega, by omega, c5⟩
  refine yh (R := fun (q : (Int × qT) ⊕ (qT × (List qI))) => match q with | .inl (_, u) => TB (n + 1) u | .inr (_, e) => TB (n + 1) { t with Idx := e }) ?_ ?_
  rotate_left
  · rintro (⟨_, u⟩ | ⟨_, e⟩) g <;> exact yd g
  refine yk (fun _ => yh (has_rb _ _) fun _ _ => yk (fun _ => yd up) fun _ => yk (fun _ => yd up) fun _ => ya8 (by simp only [List.length_cons, List.length_nil]; omega) (yd ?_)) fun _ => yk (fun _ => yh (dropped_rb h ht hn _) ?_) fun _ => yk (fun _ => ?_) fun _ => yd up
  · refine ⟨up.cols, up.cons, by simp only [List.length_append, List.length_cons, List.length_nil]; omega, up.nm, up.ow, up.cn, up.xs, fun z hz => ?_⟩
    rcases List.mem_append.1 hz with hz | hz
    · exact up.is z hz
    · simp only [List.mem_cons, List.not_mem_nil, or_false] at hz
      subst hz
      exact ⟨hs.name, by have := hs.names; simp only; omega⟩
  · rintro ⟨_, _⟩ g
    exact yd g
  · refine yh (forN_q (Q := fun q => TB (n + 1) q.2) ?_) ?_
    · rintro j ⟨_, _⟩ hj
      have ew : w64 ((j : Int) + 1) = ((j + 1 : Nat) : Int) := by rw [w64_id om om]; rfl
      refine yam hj fun x _ hx => yk (fun _ => ?_) rt
      rw [ew]
      refine ybp om om om fun l1 m1 k1 => ya8 (by simp; omega) (ybp om om om fun l2 m2 k2 => ya8 (by simp; omega) (yd ?_))
      refine ⟨up.cols, up.cons, by simp; omega, up.nm, up.ow, up.cn, up.xs, fun z hz => ?_⟩
      simp only [List.nil_append, List.mem_append] at hz
      rcases hz with hz | hz
      · exact up.is z (m1 z hz)
      · exact up.is z (m2 z hz)
    · rintro (⟨_, _⟩ | ⟨_, _⟩) g
      · exact yd up
      · exact yd g
theorem without_rb {b : Prop} {n : Nat} {c : qC} (h : CB n c) (hn : n ≤ 1000) (nm : By8) : RB b (r17_without c nm) (fun r => CB n r ∧ r.Roles = c.Roles ∧ r.Grants = c.Grants) := by
  have h1 := h.tabs
  unfold r17_without
  refine yh (forE_ret (fun j (s : List qT) => s.length ≤ j ∧ ∀ t ∈ s, TN n t) ⟨by simp, by simp⟩ ?_) ?_
  · rintro j s hj ⟨g1, g2⟩
    refine yam hj fun x _ _ => yh (R := fun (s : List qT) => s.length ≤ j + 1 ∧ ∀ t ∈ s, TN n t) (yk (fun _ => yam hj fun y _ hy => ya8 (by simp only [List.length_cons, List.length_nil]; omega) (yd ⟨by simp; omega, fun w hw => ?_⟩)) (fun _ => yd ⟨by omega, g2⟩)) fun s hs => yd hs
    rcases List.mem_append.1 hw with hw | hw
    · exact g2 w hw
    · simp only [List.mem_cons, List.not_mem_nil, or_false] at hw
      subst hw
      exact h.ok _ hy
  · rintro s ⟨g1, g2⟩
    exact yd ⟨⟨by simp only; omega, g2, h.grants⟩, rfl, rfl⟩
theorem with_rb {b : Prop} {n : Nat} {c : qC} {t : qT} (h : CB n c) (ht : TN (n + 1) t) (hn : n ≤ 1000) : RB b (r17_with c t) (fun r => CB (n + 1) r ∧ r.Roles = c.Roles) := by
  have h1 := h.tabs
  unfold r17_with
  refine yh (loopO_rb (fun (i : Int) => ∃ k : Nat, i = (k : Int) ∧ k ≤ c.Tables.length) (fun i => c.Tables.length - i.toNat) (Q := fun i => 0 ≤ i ∧ i ≤ (c.Tables.length : Int)) ?_ ⟨0, rfl, by omega⟩) ?_
  · rintro _ ⟨k, rfl, hk⟩
    have ew : w64 ((k : Int) + 1) = ((k + 1 : Nat) : Int) := by rw [w64_id om om]; rfl
    refine yh (R := fun (q : Bool) => q = true → k < c.Tables.length) (yk (fun hc => yam (by simpa using hc) fun _ _ _ => yd fun _ => by simpa using hc) (fun _ => yd fun h => by cases h)) fun q hq => yk (fun hc => yd ⟨⟨k + 1, ew, hq hc⟩, by have := hq hc; rw [ew]; omega⟩) fun _ => yd ⟨by omega, by omega⟩
  · rintro i ⟨i0, i1⟩
    refine ybp om om om fun l1 m1 k1 => ya8 (by simp; omega) (ya8 (by simp; omega) (ybp om om om fun l2 m2 k2 => ya8 (by simp; omega) (yd ⟨⟨by simp; omega, fun z hz => ?_, by have := h.grants; simp only; omega⟩, rfl⟩)))
    have hu := h.up (show n ≤ n + 1 by omega)
    simp only [List.nil_append, List.mem_append, List.mem_cons, List.not_mem_nil, or_false] at hz
    rcases hz with (hz | hz) | hz
    · exact hu.ok z (m1 z hz)
    · subst hz; exact ht
    · exact hu.ok z (m2 z hz)
theorem TR.ver {t : qT} (h : TR t) (v : Int) : NE { t with Version := v } := h.ne
theorem tmake_rb {b : Prop} {n : Nat} {c : qC} {s : qS} {by_ : By8} {most : Int} (h : CB n c) (hs : SF s) (hb : by_.size ≤ 100) (h12 : 12 ≤ n) (hn : n ≤ 1000 - 1) : RB b (r17_Make c s by_ most) (fun r => r.2 = 0 → CB (n + 1) r.1 ∧ r.1.Roles = c.Roles) := by
  have h1 := h.tabs
  have h2 := h.grants
  have no : ∀ {k : Int} {C : Prop}, k ≠ 0 → (k = 0 → C) := fun hk he => absurd he hk
  unfold r17_Make
  refine yk (fun _ => yd (no (by decide))) fun _ => yh (tat_rb c _) fun at_ hat => yk (fun _ => yd (no (by decide))) fun _ => yk (fun _ => yd (no (by decide))) fun _ => yk (fun _ => yd (no (by decide))) fun hc4 => yh (without_rb h om _) fun w hw => ?_
  obtain ⟨hw1, hw2, hw3⟩ := hw
  have hne : (s.Kind == 1) = false → 0 ≤ at_ ∧ at_ < (c.Tables.length : Int) := by
    intro hk
    rw [show (s.Kind != 1) = true by simp [bne, hk]] at hc4
    simp only [Bool.true_and, decide_eq_false_iff_not] at hc4
    rcases hat with hat | hat
    · omega
    · exact hat
  refine yh (R := fun (q : (Int × qC × Int × (List qT) × (List qJ) × (List qG) × qT) ⊕ (Int × qC × qT)) => match q with | .inl (_, _, v, ts, rs, gs, u) => CB n ⟨v, ts, rs, gs⟩ ∧ rs = c.Roles ∧ TB (n + 1) u | .inr (k, _, _) => k ≠ 0) ?_ ?_
  · have hz : TB (n + 1) z_qT := ⟨Nat.zero_le _, Nat.zero_le _, Nat.zero_le _, Nat.zero_le _, Nat.zero_le _, (fun x hx => by cases hx), (fun x hx => by cases hx), (fun x hx => by cases hx)⟩
    refine yk (fun _ => yd ⟨hw1, hw2, ?_⟩) fun k1 => ?_
    · exact ⟨by have := hs.cols; simp only; omega, by have := hs.cons; simp only; omega, Nat.zero_le _, hs.table, hb, hs.cn, fun x hx => by obtain ⟨c1, c2, c3, c4, c5⟩ := hs.xs x hx; exact ⟨c1, c2, by omega, by omega, c5⟩, fun x hx => by cases hx⟩
    obtain ⟨a0, a1⟩ := hne k1
    refine yh (R := fun (q : (Int × qC × qT) ⊕ (Int × qC × Int × (List qT) × (List qJ) × (List qG) × qT)) => match q with | .inr (_, _, v, ts, rs, gs, u) => CB n ⟨v, ts, rs, gs⟩ ∧ rs = c.Roles ∧ TB (n + 1) u | .inl (k, _, _) => k ≠ 0) ?_ ?_
    rotate_left
    · rintro (⟨_, _, _⟩ | ⟨_, _, _, _, _, _, _⟩) g <;> exact yd g
    refine yk (fun _ => yh (refers0_tt h om _ _ _) fun _ _ => yk (fun _ => yd (show (34 : Int) ≠ 0 by decide)) fun _ => yh (forE_ret (fun j (s : List qG) => s.length ≤ j) (by simp) ?_) fun gs hg => yd ⟨⟨hw1.tabs, hw1.ok, by have hg : gs.length ≤ c.Grants.length := hg; simp only; omega⟩, hw2, hz⟩) fun _ => ?_
    · intro j s hj g
      exact yam hj fun x _ _ => yh (R := fun (s : List qG) => s.length ≤ j + 1) (yk (fun _ => yam hj fun _ _ _ => ya8 (by simp only [List.length_cons, List.length_nil]; omega) (yd (by simp; omega))) (fun _ => yd om)) fun s hs => yd hs
    refine yh (R := fun (q : (Int × qC × qT) ⊕ (Int × qC × Int × (List qT) × (List qJ) × (List qG) × qT)) => match q with | .inr (_, _, v, ts, rs, gs, u) => CB n ⟨v, ts, rs, gs⟩ ∧ rs = c.Roles ∧ TB (n + 1) u | .inl (k, _, _) => k ≠ 0) ?_ ?_
    rotate_left
    · rintro (⟨_, _, _⟩ | ⟨_, _, _, _, _, _, _⟩) g <;> exact yd g
    refine yk (fun _ => yh (tat_rb c _) fun _ _ => yk (fun _ => yd (show (19 : Int) ≠ 0 by decide)) fun _ => ybl a0 a1 fun x _ hx => yh (renamed_rb h (h.ok x hx) om hs.name) ?_) fun _ => ybl a0 a1 fun x _ hx => yh (turned_rb h (h.ok x hx) hs h12 om) ?_
    · rintro ⟨d, u⟩ ⟨d1, d2, d3⟩
      exact yd ⟨d1, d2, d3.up om⟩
    · rintro ⟨u, e⟩ g
      exact yd ⟨hw1, hw2, g⟩
  · rintro (⟨k, z, v, ts, rs, gs, u⟩ | ⟨k, z, u⟩) g
    · obtain ⟨g1, g2, g3⟩ := g
      refine yh (R := fun (e : Int) => e = 0 → s.Kind ≠ 2 → NE u) (yk (fun _ => yh (sound_rb _ g3 om) fun r hr => yd fun he _ => (hr he).ne) fun hc => yd fun he hk => ?_) fun e he => yh (R := fun (e' : Int) => e' = 0 → e = 0) (yk (fun _ => yd fun h => by cases h) fun _ => yd fun h => h) fun e' he' => yk (fun hc => yd (no (by simpa using hc))) fun hc => ?_
      · subst he
        simp [hk] at hc
      have hz : e' = 0 := by simpa using hc
      refine yh (R := fun (q : Int × (List qT) × (List qJ) × (List qG) × qT) => CB (n + 1) ⟨q.1, q.2.1, q.2.2.1, q.2.2.2.1⟩ ∧ q.2.2.1 = c.Roles) (yk (fun hk => yh (with_rb g1 ⟨g3.ver _, ?_⟩ om) fun r hr => yd ⟨⟨hr.1.tabs, hr.1.ok, hr.1.grants⟩, hr.2.trans g2⟩) fun _ => yd ⟨g1.up om, g2⟩) ?_
      · exact he (he' hz) (by simpa using hk)
      · rintro ⟨q1, q2, q3, q4, q5⟩ ⟨e1, e2⟩
        exact yd fun _ => ⟨⟨e1.tabs, e1.ok, e1.grants⟩, e2⟩
    · exact yd (no g)
noncomputable def isB (l : List Role) (n o : By8) : Bool := (r18_Is l n o).getD false
theorem is_val {l : List Role} (h : Sm l) (n o : By8) : r18_Is l n o = some (isB l n o) := by
  obtain ⟨r, hr, _⟩ := rall_eq (n := n) h.1 h.2.1
  obtain ⟨b, hb, _⟩ := has_eq r o
  have : r18_Is l n o = some b := by unfold r18_Is; rw [hr]; simp only [obs, hb]
  unfold isB
  rw [this]
  rfl
noncomputable def rI (l : List Role) (n : By8) : Int := (r18_At l n).getD 0
theorem rat_val (l : List Role) (n : By8) : r18_At l n = some (rI l n) := by
  unfold rI
  rcases rat_spec l n with ⟨_, h⟩ | ⟨_, _, _, _, _, _, h⟩ <;> rw [h] <;> rfl
theorem rI_lt (l : List Role) (n : By8) : rI l n < (l.length : Int) := by
  unfold rI
  rcases rat_spec l n with ⟨_, h⟩ | ⟨A, x, B, rfl, _, _, h⟩ <;> rw [h]
  · simp only [Option.getD_some]; omega
  · simp only [Option.getD_some, List.length_append, List.length_cons]; omega
def tI (c : qC) (n : By8) : Int := match c.Tables.findIdx? (fun x => sEq x.Name n) with | some j => (j : Int) | none => -1
theorem tat_val (c : qC) (n : By8) : r17_At c n = some (tI c n) := by
  unfold r17_At tI
  rw [forN_find (fun (x : qT) => sEq x.Name n) (fun j => (j : Int)) (fun j x hx => by rw [idx_nat, hx]; simp only [obs]; cases sEq x.Name n <;> rfl)]
  cases c.Tables.findIdx? (fun x => sEq x.Name n) <;> rfl
theorem tI_get {c : qC} {n : By8} (h : 0 ≤ tI c n) : ∃ (k : Nat) (t : qT), tI c n = (k : Int) ∧ c.Tables[k]? = some t ∧ t ∈ c.Tables ∧ c.Tables.findIdx? (fun x => sEq x.Name n) = some k := by
  unfold tI at h ⊢
  cases e : c.Tables.findIdx? (fun x => sEq x.Name n) with
  | none => rw [e] at h; simp at h
  | some k =>
    obtain ⟨hk, _, _⟩ := List.findIdx?_eq_some_iff_getElem.1 e
    exact ⟨k, c.Tables[k], rfl, gE hk, List.getElem_mem hk, rfl⟩
noncomputable def owB (c : qC) (r t : By8) : Bool := (r19_Owns c r t).getD false
theorem owns_val {c : qC} (h : Sm c.Roles) (r t : By8) : r19_Owns c r t = some (owB c r t) := by
  have : ∃ b, r19_Owns c r t = some b := by
    unfold r19_Owns
    rw [tat_val]
    simp only [obs]
    by_cases h0 : 0 ≤ tI c t
    · obtain ⟨k, x, hk, hx, _⟩ := tI_get h0
      rw [show decide (tI c t ≥ 0) = true by simpa using h0, hk, idx_nat, hx]
      simp only [obs, cond_true, is_val h]
      exact ⟨_, rfl⟩
    · rw [show decide (tI c t ≥ 0) = false by simpa using h0]
      exact ⟨_, rfl⟩
  obtain ⟨b, hb⟩ := this
  unfold owB
  rw [hb]
  rfl
noncomputable def haB (c : qC) (l : List qG) (r : By8) (p : Int) (t : By8) (o : Bool) : Bool := l.any fun g => g.Priv == p && sEq g.Table t && (g.Option || !o) && isB c.Roles r g.To
theorem rhas_val {c : qC} (h : Sm c.Roles) (l : List qG) (r : By8) (p : Int) (t : By8) (o : Bool) : r19_has c l r p t o = some (haB c l r p t o) := by
  unfold r19_has haB
  rw [forN_list (v := true) (fun (g : qG) => !(g.Priv == p && sEq g.Table t && (g.Option || !o) && isB c.Roles r g.To)) (fun j x hx => ?_)]
  · rw [List.all_eq_not_any_not]
    simp only [Bool.not_not]
    cases l.any fun g => g.Priv == p && sEq g.Table t && (g.Option || !o) && isB c.Roles r g.To <;> rfl
  · simp only [idx_nat, hx, obs]
    cases (x.Priv == p) <;> cases sEq x.Table t <;> cases x.Option <;> cases o <;> simp [is_val h] <;> cases isB c.Roles r x.To <;> rfl
noncomputable def okB (c : qC) (l : List qG) (g : qG) : Bool := decide (0 ≤ tI c g.Table) && decide (0 ≤ rI c.Roles g.To) && (owB c g.By g.Table || haB c l g.By g.Priv g.Table true)
noncomputable def rnd (c : qC) (l : List qG) : List qG := c.Grants.filter (okB c l)
noncomputable def rnds (c : qC) : Nat → List qG
  | 0 => []
  | k + 1 => rnd c (rnds c k)
theorem rnds_len (c : qC) (k : Nat) : (rnds c k).length ≤ c.Grants.length := by
  cases k with
  | zero => exact Nat.zero_le _
  | succ k => exact List.length_filter_le ..
noncomputable def heR (c : qC) : List qG := rnds c (c.Grants.length + 1)
theorem rheld_val {c : qC} (h : Sm c.Roles) (hg : c.Grants.length ≤ 1000) : r19_Held c = some (heR c) := by
  unfold r19_Held
  have step : ∀ (s8 : List qG), forE (fun (i18 : Nat) (s17 : List qG) => ((idx c.Grants (i18 : Int)).bind (fun (x32 : qG) => (r17_At c x32.Table).bind (fun (r44 : Int) => ((bif (decide (r44 < 0)) then some true else (r18_At c.Roles x32.To).bind (fun (r56 : Int) => some (decide (r56 < 0))))).bind (fun (j45 : Bool) => (bif j45 then some s17 else (r19_Owns c x32.By x32.Table).bind (fun (r69 : Bool) => ((bif r69 then some true else (r19_has c s8 x32.By x32.Priv x32.Table true).bind (fun (r79 : Bool) => some r79))).bind (fun (j70 : Bool) => ((bif j70 then (app 64 s17 ([x32] : List qG)).bind (fun (x94 : List qG) => some x94) else some s17)).bind (fun (j82 : List qG) => some j82)))))))).bind (fun (j28 : List qG) => some j28)) c.Grants.length 0 ([] : List qG) = some (rnd c s8) := by
    intro s8
    refine Ret.eq ((forE_ret (fun j s => s = (c.Grants.take j).filter (okB c s8)) (by simp) ?_).mono fun r hr => by rw [hr, List.take_length]; rfl)
    rintro j s hj rfl
    have hx : c.Grants[j]? = some c.Grants[j] := gE hj
    have hle : ((c.Grants.take j).filter (okB c s8)).length ≤ j := Nat.le_trans (List.length_filter_le ..) (by simp; omega)
    generalize c.Grants[j] = x at hx
    rw [take_next hx, List.filter_append]
    simp only [idx_nat, hx, obs, tat_val, rat_val, owns_val h, rhas_val h]
    have e : (c.Grants.take j).filter (okB c s8) ++ [x].filter (okB c s8) = bif okB c s8 x then (c.Grants.take j).filter (okB c s8) ++ [x] else (c.Grants.take j).filter (okB c s8) := by
      cases hc : okB c s8 x <;> simp [hc]
    rw [e]
    generalize (c.Grants.take j).filter (okB c s8) = s at hle ⊢
    unfold okB
    by_cases h1 : tI c x.Table < 0
    · rw [show decide (tI c x.Table < 0) = true by simpa using h1, show decide (0 ≤ tI c x.Table) = false by simp; omega]
      exact yd rfl
    · rw [show decide (tI c x.Table < 0) = false by simpa using h1, show decide (0 ≤ tI c x.Table) = true by simp; omega]
      simp only [cond_false, obs, Bool.true_and]
      by_cases h2 : rI c.Roles x.To < 0
      · rw [show decide (rI c.Roles x.To < 0) = true by simpa using h2, show decide (0 ≤ rI c.Roles x.To) = false by simp; omega]
        exact yd rfl
      · rw [show decide (rI c.Roles x.To < 0) = false by simpa using h2, show decide (0 ≤ rI c.Roles x.To) = true by simp; omega]
        simp only [cond_false, Bool.true_and]
        rw [app_le (by simp only [List.length_cons, List.length_nil]; omega)]
        cases owB c x.By x.Table <;> cases haB c s8 x.By x.Priv x.Table true <;> exact yd rfl
  refine Ret.eq (yh (loopO_rb (fun (s : List qG × Int) => ∃ k : Nat, s.2 = (k : Int) ∧ k ≤ c.Grants.length + 1 ∧ s.1 = rnds c k) (fun s => c.Grants.length + 1 - s.2.toNat) (Q := fun s => s = heR c) ?_ ⟨0, rfl, by omega, rfl⟩) fun r hr => yd hr)
  rintro ⟨_, _⟩ ⟨k, rfl, hk, rfl⟩
  refine yk (fun hc => ?_) fun hc => yd ?_
  · have hle : k ≤ c.Grants.length := by simpa using hc
    have ew : w64 ((k : Int) + 1) = ((k + 1 : Nat) : Int) := by rw [w64_id om om]; rfl
    simp only
    rw [step, ew]
    exact yd ⟨⟨k + 1, rfl, by omega, rfl⟩, by simp only; omega⟩
  · have : k = c.Grants.length + 1 := by simp at hc; omega
    subst this
    rfl
def RO (n : Nat) (l : List Role) : Prop := l.length ≤ 8 ∧ ∀ x ∈ l, x.In.length ≤ n ∧ x.Name.size ≤ 100
theorem RO.sm {n : Nat} {l : List Role} (h : RO n l) (hn : n ≤ 100) : Sm l := ⟨by have := h.1; omega, fun x hx => by have := (h.2 x hx).1; omega, fun x hx => by have := (h.2 x hx).2; omega⟩
theorem RO.up {n m : Nat} {l : List Role} (h : RO n l) (hm : n ≤ m) : RO m l := ⟨h.1, fun x hx => ⟨Nat.le_trans (h.2 x hx).1 hm, (h.2 x hx).2⟩⟩
theorem is_tt {b : Prop} {l : List Role} (h : Sm l) (n o : By8) : RB b (r18_Is l n o) TT := ybv (is_val h n o) trivial
theorem rat_rb {b : Prop} (l : List Role) (n : By8) : RB b (r18_At l n) (fun r => r < (l.length : Int)) := ybv (rat_val l n) (rI_lt l n)
theorem rcheck_tt {b : Prop} {n : Nat} {l : List Role} (h : RO n l) (hn : n ≤ 100) : RB b (r18_Check l) TT := by
  have hl := h.1
  have hsm := h.sm hn
  unfold r18_Check
  refine yk rt fun _ => yh (R := TT) (forN_tt fun j s hj => yam hj fun x _ hx => yh (rname_tt (h.2 x hx).2) fun _ _ => yh (R := TT) (yk rt fun _ => yh (R := TT) (yk (fun hc => ?_) rt) fun _ _ => yd trivial) fun _ _ => yk rt fun _ => yh (R := TT) (loopO_rb (fun (i : Int) => ∃ k : Nat, i = (k : Int) ∧ k ≤ l[j].In.length) (fun i => l[j].In.length - i.toNat) (Q := TT) ?_ ⟨0, rfl, by omega⟩) ?_) ?_
  · have h0 : 0 < (j : Int) := by simpa using hc
    have ew : w64 ((j : Int) - 1) = (j : Int) - 1 := w64_id om om
    rw [ew]
    exact ybl om om fun _ _ _ => yam hj fun _ _ _ => yd trivial
  · rintro _ ⟨k, rfl, hk⟩
    have hmem := h.2 l[j] (List.getElem_mem hj)
    have ej : ∀ {α : Type} {f : qJ → Option α} {Q : α → Prop}, RB b (f l[j]) Q → RB b ((idx l (j : Int)).bind f) Q := fun hf => by rw [idx_mem hj]; exact hf
    refine ej (yk (fun hc => ej ?_) rt)
    have hlt : k < l[j].In.length := by simpa using hc
    refine yam hlt fun y _ _ => yh (rat_rb _ _) fun _ _ => yh (R := TT) (yk rt fun _ => yh (R := TT) (yk (fun hc => ej ?_) rt) fun _ _ => yd trivial) fun _ _ => yk rt fun _ => yd ⟨⟨k + 1, by rw [w64_id om om]; rfl, by omega⟩, by rw [w64_id om om]; omega⟩
    have h0 : 0 < (k : Int) := by simpa using hc
    rw [w64_id om om]
    exact ybl om om fun _ _ _ => ej (yam hlt fun _ _ _ => yd trivial)
  · rintro (_ | _) _ <;> exact yd trivial
  · rintro (_ | _) _
    rotate_left
    · exact yd trivial
    refine yh (R := TT) (forN_tt fun j s hj => yh (R := TT) (loopO_rb (fun (i : Int) => ∃ k : Nat, i = (k : Int) ∧ k ≤ l[j].In.length) (fun i => l[j].In.length - i.toNat) (Q := TT) ?_ ⟨0, rfl, by omega⟩) ?_) ?_
    · rintro _ ⟨k, rfl, hk⟩
      have hmem := h.2 l[j] (List.getElem_mem hj)
      have ej : ∀ {α : Type} {f : qJ → Option α} {Q : α → Prop}, RB b (f l[j]) Q → RB b ((idx l (j : Int)).bind f) Q := fun hf => by rw [idx_mem hj]; exact hf
      refine ej (yk (fun hc => ej ?_) rt)
      have hlt : k < l[j].In.length := by simpa using hc
      exact yam hlt fun y _ _ => ej (yh (is_tt hsm _ _) fun _ _ => yk rt fun _ => yd ⟨⟨k + 1, by rw [w64_id om om]; rfl, by omega⟩, by rw [w64_id om om]; omega⟩)
    · rintro (_ | _) _ <;> exact yd trivial
    · rintro (_ | _) _ <;> exact yd trivial
theorem while_rb {α : Type} {b : Prop} {xs : List α} {p : α → Bool} (hx : xs.length ≤ 1000) : RB b (loopO (fun (s22 : Int) => ((bif (decide (s22 < (xs.length : Int))) then (idx xs s22).bind (fun (x31 : α) => some (p x31)) else some false)).bind (fun (j27 : Bool) => (bif j27 then some (.inl (w64 (s22 + 1))) else some (.inr s22) : Option (Int ⊕ Int)))) 0) (fun i => 0 ≤ i ∧ i ≤ (xs.length : Int)) := by
  refine loopO_rb (fun (i : Int) => ∃ k : Nat, i = (k : Int) ∧ k ≤ xs.length) (fun i => xs.length - i.toNat) ?_ ⟨0, rfl, by omega⟩
  rintro _ ⟨k, rfl, hk⟩
  have ew : w64 ((k : Int) + 1) = ((k + 1 : Nat) : Int) := by rw [w64_id om om]; rfl
  exact yh (R := fun (q : Bool) => q = true → k < xs.length) (yk (fun hc => yam (by simpa using hc) fun _ _ _ => yd fun _ => by simpa using hc) (fun _ => yd fun h => by cases h)) fun q hq => yk (fun hc => yd ⟨⟨k + 1, ew, hq hc⟩, by have := hq hc; rw [ew]; omega⟩) fun _ => yd ⟨by omega, by omega⟩
theorem rcreate_rb {b : Prop} {n : Nat} {l : List Role} {nm : By8} (h : RO n l) (hn : n ≤ 100) (hm : nm.size ≤ 100) : RB b (r18_Create l nm) (fun r => r.2 = 0 → RO (n + 1) r.1) := by
  have no : ∀ {k : Int} {C : Prop}, k ≠ 0 → (k = 0 → C) := fun hk he => absurd he hk
  have hl := h.1
  unfold r18_Create
  refine yh (rcheck_tt h hn) fun _ _ => yk (fun hc => yd (no (by simpa using hc))) fun _ => yh (rname_tt hm) fun _ _ => yk (fun _ => yd (no (by decide))) fun _ => yh (rat_rb _ _) fun _ _ => yk (fun _ => yd (no (by decide))) fun _ => yk (fun _ => yd (no (by decide))) fun h8 => yh (while_rb (p := fun (x : qJ) => sLt x.Name nm) om) ?_
  have h8 : l.length ≠ 8 := by simp at h8; omega
  rintro i ⟨i0, i1⟩
  refine ybp om om om fun l1 m1 k1 => ya8 (by simp; omega) (ya8 (by simp; omega) (ybp om om om fun l2 m2 k2 => ya8 (by simp; omega) (yd fun _ => ⟨by simp; omega, fun x hx => ?_⟩)))
  simp only [List.nil_append, List.mem_append, List.mem_cons, List.not_mem_nil, or_false] at hx
  rcases hx with (hx | hx) | hx
  · exact (h.up (show n ≤ n + 1 by omega)).2 x (m1 x hx)
  · subst hx; exact ⟨Nat.zero_le _, hm⟩
  · exact (h.up (show n ≤ n + 1 by omega)).2 x (m2 x hx)
theorem without_tt {b : Prop} {l : List By8} (hl : l.length ≤ 1000) (n : By8) : RB b (r18_without l n) (fun r => r.length ≤ l.length) := by
  unfold r18_without
  refine yh (forE_ret (fun j (s : List By8) => s.length ≤ j) (by simp) fun j s hj g => yam hj fun x _ _ => yh (R := fun (s : List By8) => s.length ≤ j + 1) (yk (fun _ => yam hj fun _ _ _ => ya8 (by simp only [List.length_cons, List.length_nil]; omega) (yd (by simp; omega))) (fun _ => yd om)) fun s hs => yd hs) fun s hs => yd hs
theorem rturned_rb {b : Prop} {n : Nat} {l : List Role} {k : Int} {s : List By8} (h : RO n l) (h0 : 0 ≤ k) (h1 : k < (l.length : Int)) (hs : s.length ≤ n + 1) : RB b (r18_turned l k s) (RO (n + 1)) := by
  have hl := h.1
  unfold r18_turned
  refine ya8 (by simp; omega) (ybl h0 (by simpa using h1) fun x _ hx => yd ⟨by simpa using hl, fun y hy => ?_⟩)
  rw [List.nil_append] at hx hy
  rcases List.mem_or_eq_of_mem_set hy with hy | rfl
  · exact (h.up (show n ≤ n + 1 by omega)).2 y hy
  · exact ⟨hs, (h.2 x hx).2⟩
theorem rinto_rb {b : Prop} {l : List By8} (hl : l.length ≤ 1000) (n : By8) : RB b (r18_into l n) (fun r => r.length ≤ l.length + 1) := by
  unfold r18_into
  refine yh (while_rb (p := fun (x : By8) => sLt x n) hl) ?_
  rintro i ⟨i0, i1⟩
  exact ybp om om om fun l1 m1 k1 => ya8 (by simp; omega) (ya8 (by simp; omega) (ybp om om om fun l2 m2 k2 => ya8 (by simp; omega) (yd (by simp; omega))))
theorem rgrant_rb {b : Prop} {n : Nat} {l : List Role} (h : RO n l) (hn : n ≤ 100) (nm to : By8) : RB b (r18_Grant l nm to) (fun r => r.2 = 0 → RO (n + 1) r.1) := by
  have no : ∀ {k : Int} {C : Prop}, k ≠ 0 → (k = 0 → C) := fun hk he => absurd he hk
  unfold r18_Grant
  refine yh (rcheck_tt h hn) fun _ _ => yk (fun hc => yd (no (by simpa using hc))) fun _ => yh (rat_rb _ _) fun k hk => yh (R := fun (q : Bool) => q = false → 0 ≤ k) (yk (fun _ => yd fun h => by cases h) fun hc => yh (rat_rb _ _) fun _ _ => yd fun _ => by simpa using hc) fun q hq => yk (fun _ => yd (no (by decide))) fun hc => ?_
  have h0 := hq hc
  refine ybl h0 hk fun x _ _ => yh (has_rb _ _) fun _ _ => yk (fun _ => yd (no (by decide))) fun _ => yh (is_tt (h.sm hn) _ _) fun _ _ => yk (fun _ => yd (no (by decide))) fun _ => ybl h0 hk fun y _ hy => ?_
  have hin := (h.2 y hy).1
  exact yh (rinto_rb om _) fun r hr => yh (rturned_rb h h0 hk (by have hr : r.length ≤ y.In.length + 1 := hr; omega)) fun r hr => yd fun _ => hr
theorem rrevoke_rb {b : Prop} {n : Nat} {l : List Role} (h : RO n l) (hn : n ≤ 100) (nm to : By8) : RB b (r18_Revoke l nm to) (fun r => r.2 = 0 → RO (n + 1) r.1) := by
  have no : ∀ {k : Int} {C : Prop}, k ≠ 0 → (k = 0 → C) := fun hk he => absurd he hk
  unfold r18_Revoke
  refine yh (rcheck_tt h hn) fun _ _ => yk (fun hc => yd (no (by simpa using hc))) fun _ => yh (rat_rb _ _) fun k hk => yh (R := fun (q : Bool) => q = false → 0 ≤ k) (yk (fun _ => yd fun h => by cases h) fun hc => ybl (by simpa using hc) hk fun _ _ _ => yh (has_rb _ _) fun _ _ => yd fun _ => by simpa using hc) fun q hq => yk (fun _ => yd (no (by decide))) fun hc => ybl (hq hc) hk fun y _ hy => ?_
  have hin := (h.2 y hy).1
  exact yh (without_tt om _) fun r hr => yh (rturned_rb h (hq hc) hk (by have hr : r.length ≤ y.In.length := hr; omega)) fun r hr => yd fun _ => hr
theorem rdrop_rb {b : Prop} {n : Nat} {l : List Role} (h : RO n l) (hn : n ≤ 100) (nm : By8) : RB b (r18_Drop l nm) (fun r => r.2 = 0 → RO (n + 1) r.1) := by
  have no : ∀ {k : Int} {C : Prop}, k ≠ 0 → (k = 0 → C) := fun hk he => absurd he hk
  have hl := h.1
  unfold r18_Drop
  refine yh (rcheck_tt h hn) fun _ _ => yk (fun hc => yd (no (by simpa using hc))) fun _ => yh (rat_rb _ _) fun k hk => yk (fun _ => yd (no (by decide))) fun _ => yk (fun _ => yd (no (by decide))) fun _ => yh (forE_ret (fun j (s : List qJ) => s.length ≤ j ∧ ∀ x ∈ s, x.In.length ≤ n + 1 ∧ x.Name.size ≤ 100) ⟨by simp, by simp⟩ ?_) ?_
  · rintro j s hj ⟨g1, g2⟩
    refine yam hj fun x _ _ => yh (R := fun (s : List qJ) => s.length ≤ j + 1 ∧ ∀ x ∈ s, x.In.length ≤ n + 1 ∧ x.Name.size ≤ 100) (yk (fun _ => yam hj fun y _ hy => yam hj fun z _ hz => yh (without_tt (by have := (h.2 z hz).1; omega) _) fun r hr => ya8 (by simp only [List.length_cons, List.length_nil]; omega) (yd ⟨by simp; omega, fun w hw => ?_⟩)) (fun _ => yd ⟨by omega, g2⟩)) fun s hs => yd hs
    rcases List.mem_append.1 hw with hw | hw
    · exact g2 w hw
    · simp only [List.mem_cons, List.not_mem_nil, or_false] at hw
      subst hw
      have hr : r.length ≤ z.In.length := hr
      exact ⟨by have := (h.2 z hz).1; simp only; omega, (h.2 y hy).2⟩
  · rintro s ⟨g1, g2⟩
    exact yd fun _ => ⟨by simp only; omega, g2⟩
def CI (n : Nat) (c : qC) : Prop := CB n c ∧ RO n c.Roles
theorem CI.up {n m : Nat} {c : qC} (h : CI n c) (hm : n ≤ m) : CI m c := ⟨h.1.up hm, h.2.up hm⟩
theorem heR_len (c : qC) : (heR c).length ≤ c.Grants.length := rnds_len _ _
theorem rcan_val {c : qC} (h : Sm c.Roles) (hg : c.Grants.length ≤ 1000) (r : By8) (p : Int) (t : By8) : r19_Can c r p t = some (owB c r t || haB c (heR c) r p t true) := by
  unfold r19_Can
  simp only [owns_val h, rheld_val h hg, rhas_val h, obs]
  cases owB c r t <;> rfl
theorem rmay_val {c : qC} (h : Sm c.Roles) (hg : c.Grants.length ≤ 1000) (r : By8) (p : Int) (t : By8) : r19_May c r p t = some (owB c r t || haB c (heR c) r p t false) := by
  unfold r19_May
  simp only [owns_val h, rheld_val h hg, rhas_val h, obs]
  cases owB c r t <;> rfl
theorem rplace_rb {b : Prop} (c : qC) (s : qS) (by_ : By8) : RB b (r19_place c s by_) (fun r => r = -1 ∨ 0 ≤ r ∧ r < (c.Grants.length : Int)) := by
  unfold r19_place
  refine yh (forN_q (Q := fun r => 0 ≤ r ∧ r < (c.Grants.length : Int)) fun j s hj => yam hj fun _ _ _ => ya1 (yk (fun _ => yd ⟨by omega, by omega⟩) rt)) ?_
  rintro (_ | _) g
  · exact yd (.inl rfl)
  · exact yd (.inr g)
theorem rgiven_rb {b : Prop} {n : Nat} {c : qC} (h : CI n c) (hn : n ≤ 100) (s : qS) (by_ : By8) : RB b (r19_given c s by_) (fun r => r.2 = 0 → r.1.length ≤ n + 1) := by
  have no : ∀ {k : Int} {C : Prop}, k ≠ 0 → (k = 0 → C) := fun hk he => absurd he hk
  have hg := h.1.grants
  unfold r19_given
  refine yh (tat_rb _ _) fun _ _ => yh (R := TT) (yk rt fun _ => yh (rat_rb _ _) fun _ _ => yd trivial) fun _ _ => yk (fun _ => yd (no (by decide))) fun _ => yh (R := TT) (ybv (rcan_val (h.2.sm hn) om _ _ _) trivial) fun _ _ => yk (fun _ => yd (no (by decide))) fun _ => yh (rplace_rb _ _ _) fun k hk => ya8 (by simp; omega) ?_
  rw [List.nil_append]
  refine yk (fun hc => ?_) fun _ => yk (fun _ => yd (no (by decide))) fun _ => ya8 (by simp only [List.length_cons, List.length_nil]; omega) (yd fun _ => by simp; omega)
  have h0 : 0 ≤ k := by simpa using hc
  have h1 : k < (c.Grants.length : Int) := by omega
  exact ybl h0 h1 fun _ _ _ => yk (fun _ => yd (no (by decide))) fun _ => ybl h0 h1 fun _ _ _ => yd fun _ => by simp; omega
theorem rroles_rb {b : Prop} {n : Nat} {c : qC} {s : qS} (h : CI n c) (hn : n ≤ 100) (hm : s.Name.size ≤ 100) : RB b (r19_roles c s) (fun r => r.2 = 0 → RO (n + 1) r.1) := by
  unfold r19_roles
  refine yk (fun _ => yh (rcreate_rb h.2 hn hm) ?_) fun _ => yk (fun _ => yh (rgrant_rb h.2 hn _ _) ?_) fun _ => yk (fun _ => yh (rrevoke_rb h.2 hn _ _) ?_) fun _ => yh (forN_q (Q := fun r => r.2 = (34 : Int)) fun j s hj => yam hj fun _ _ _ => yk (fun _ => yd rfl) rt) ?_
  · rintro ⟨_, _⟩ g; exact yd g
  · rintro ⟨_, _⟩ g; exact yd g
  · rintro ⟨_, _⟩ g; exact yd g
  · rintro (_ | ⟨_, k⟩) g
    · refine yh (rdrop_rb h.2 hn _) ?_
      rintro ⟨_, _⟩ g; exact yd g
    · simp only at g
      subst g
      exact yd fun h => by cases h
theorem gmake_rb {b : Prop} {n : Nat} {c : qC} {s : qS} (h : CI n c) (hn : n ≤ 99) (hm : s.Name.size ≤ 100) (by_ : By8) (most : Int) : RB b (r19_Make c s by_ most) (fun r => r.2 = 0 → CI (n + 1) r.1) := by
  have no : ∀ {k : Int} {C : Prop}, k ≠ 0 → (k = 0 → C) := fun hk he => absurd he hk
  have hg := h.1.grants
  unfold r19_Make
  refine yk (fun _ => yd (no (by decide))) fun _ => yh (rat_rb _ _) fun _ _ => yk (fun _ => yd (no (by decide))) fun _ => yh (R := TT) (yk (fun _ => yh (is_tt (h.2.sm om) _ _) fun _ _ => yd trivial) rt) fun _ _ => yh (R := fun (q : (Int × qC × (List qJ) × (List qG)) ⊕ (Int × qC)) => match q with | .inl (k, _, rs, gs) => k = 0 → RO (n + 1) rs ∧ gs.length ≤ n + 1 | .inr (k, _) => k ≠ 0) ?_ ?_
  · refine yk (fun _ => yd (no (by decide))) fun _ => yh (R := fun (q : (Int × qC × (List qJ) × (List qG)) ⊕ (Int × qC)) => match q with | .inl (k, _, rs, gs) => k = 0 → RO (n + 1) rs ∧ gs.length ≤ n + 1 | .inr (k, _) => k ≠ 0) ?_ ?_
    rotate_left
    · rintro (⟨_, _, _, _⟩ | ⟨_, _⟩) g <;> exact yd g
    refine yk (fun _ => yh (rroles_rb h om hm) ?_) fun _ => yh (R := fun (q : (Int × qC × (List qG)) ⊕ (Int × qC)) => match q with | .inl (k, _, gs) => k = 0 → gs.length ≤ n + 1 | .inr (k, _) => k ≠ 0) (yk (fun _ => yh (rgiven_rb h om _ _) ?_) fun _ => yh (rplace_rb _ _ _) fun k hk => yk (fun _ => yd (show (4 : Int) ≠ 0 by decide)) fun hc => ?_) ?_
    · rintro ⟨_, _⟩ g
      exact yd fun he => ⟨g he, by omega⟩
    · rintro ⟨_, _⟩ g
      exact yd g
    · have h0 : 0 ≤ k ∧ k < (c.Grants.length : Int) := by
        rcases hk with hk | hk
        · subst hk; simp at hc
        · exact hk
      have ew : w64 (k + 1) = k + 1 := w64_id om om
      rw [ew]
      exact ybp om om om fun l1 m1 k1 => ya8 (by simp; omega) (ybp om om om fun l2 m2 k2 => ya8 (by simp; omega) (yd fun _ => by simp; omega))
    · rintro (⟨_, _, _⟩ | ⟨_, _⟩) g
      · exact yd fun he => ⟨h.2.up om, g he⟩
      · exact yd g
  · rintro (⟨k, z, rs, gs⟩ | ⟨k, z⟩) g
    · refine yh (R := fun (e : Int) => e = 0 → k = 0) (yk (fun _ => yd fun h => by cases h) fun _ => yd fun h => h) fun e he => yk (fun hc => yd (no (by simpa using hc))) fun hc => ?_
      obtain ⟨g1, g2⟩ := g (he (by simpa using hc))
      have hh : (heR ({ c with Version := (w64 (c.Version + 1)), Roles := rs, Grants := gs } : qC)).length ≤ gs.length := heR_len _
      refine yh (R := fun l => l = heR _) (ybv (rheld_val (g1.sm om) (by show gs.length ≤ 1000; omega)) rfl) fun l hl => yd fun _ => ⟨⟨Nat.le_succ_of_le h.1.tabs, (h.1.up (show n ≤ n + 1 by omega)).ok, ?_⟩, g1⟩
      have hl : l = heR _ := hl
      rw [hl]
      exact Nat.le_trans hh om
    · exact yd (no g)
theorem SF.of {s : qS} (h1 : s.Cols.length ≤ 12) (h2 : s.Cons.length ≤ 12) (h3 : s.Names.length ≤ 12) (h4 : ∀ x ∈ s.Cons, x.Cols.length ≤ 12 ∧ x.Refs.length ≤ 12 ∧ Es x.Check) {l : List By8} (hl : ∀ x ∈ l, x.size ≤ 100)
    (g1 : s.Table ∈ l ∧ s.Name ∈ l) (g2 : ∀ x ∈ s.Cols, x.Name ∈ l) (g3 : ∀ x ∈ s.Cons, x.Name ∈ l ∧ x.Table ∈ l) : SF s :=
  ⟨h1, h2, h3, hl _ g1.1, hl _ g1.2, fun x hx => hl _ (g2 x hx), fun x hx => ⟨hl _ (g3 x hx).1, hl _ (g3 x hx).2, (h4 x hx).1, (h4 x hx).2.1, (h4 x hx).2.2⟩⟩
theorem sfew_fu {b : Prop} : ∀ (n : Nat) (s : qS), (b → s.Kids = [] ∧ 1 ≤ n ∨ 2 ≤ n) → RB b (r12_Few_fu n s) (fun r => r = true → SF s)
  | 0, s, h => ybr fun hb => by have := h hb; omega
  | n + 1, s, h => by
    unfold r12_Few_fu
    refine ya1 (ya1 (ya1 (yh (R := fun (q : Bool) => q = false → s.Cols.length ≤ 12 ∧ s.Cons.length ≤ 12 ∧ s.Names.length ≤ 12 ∧ s.Rows.length ≤ 12 ∧ s.Sets.length ≤ 12 ∧ s.Kids.length ≤ 1) (yk (fun _ => yd fun h => by cases h) fun hc => yh (efew_rb _) fun _ _ => yd fun _ => ?_) fun q hq => yk (fun _ => yd fun h => by cases h) fun hc => ?_)))
    · simp only [Bool.or_eq_false_iff, decide_eq_false_iff_not] at hc
      omega
    obtain ⟨h1, h2, h3, h5, h6, h7⟩ := hq hc
    refine ya8 (by simp only [List.length_cons, List.length_nil]; omega) ?_
    refine yh (grow (k := 16) (fun (x : qL) => x.Name) (by simp; omega) fun j s x hx => by rw [idx_nat, hx]; rfl) fun l0 hl0 => ?_
    have hl0 : l0 = [s.Table, s.Name, s.Role] ++ s.Names ++ s.Cols.map (·.Name) := hl0
    have hn0 : l0.length ≤ 27 := by rw [hl0]; simp; omega
    refine yh (forN_ret (fun j (l : List By8) => l.length ≤ 27 + j * 26 ∧ (∀ x ∈ l0, x ∈ l) ∧ ∀ x ∈ s.Cons.take j, (x.Cols.length ≤ 12 ∧ x.Refs.length ≤ 12 ∧ Es x.Check) ∧ x.Name ∈ l ∧ x.Table ∈ l) (Q := fun r => r = false) ⟨by omega, fun x hx => hx, by simp⟩ ?_) ?_
    · rintro j l hj ⟨g1, g2, g3⟩
      refine yam hj fun x hx _ => ya1 (yh (R := fun (q : Bool) => q = false → x.Cols.length ≤ 12 ∧ x.Refs.length ≤ 12 ∧ Es x.Check) (yk (fun _ => yd fun h => by cases h) fun hc => yh (efew_rb _) fun r hr => yd fun hq => ?_) fun q hq => yk (fun _ => yd rfl) fun hc => ?_)
      · simp only [Bool.or_eq_false_iff, decide_eq_false_iff_not] at hc
        exact ⟨by omega, by omega, hr (by simpa using hq)⟩
      have hx3 := hq hc
      refine ya8 (by simp only [List.length_cons, List.length_nil]; omega) (ya8 (by simp; omega) (ya8 (by simp; omega) (yd ⟨by simp; omega, fun y hy => by simp [g2 y hy], ?_⟩)))
      rw [take_next hx]
      intro y hy
      rcases List.mem_append.1 hy with hy | hy
      · exact ⟨(g3 y hy).1, by simp [(g3 y hy).2.1], by simp [(g3 y hy).2.2]⟩
      · simp only [List.mem_cons, List.not_mem_nil, or_false] at hy
        subst hy
        exact ⟨hx3, by simp, by simp⟩
    rintro (l1 | _) g
    rotate_left
    · exact yd fun h => by subst h; cases g
    obtain ⟨g1, g2, g3⟩ := g
    rw [List.take_length] at g3
    refine yh (forN_q (Q := fun q => q = false) fun j _ hj => yam hj fun x _ _ => yk (fun _ => yd rfl) fun hc => ?_) ?_
    · have hr : ∀ {α : Type} {f : List qE → Option α} {Q : α → Prop}, RB b (f s.Rows[j]) Q → RB b ((idx s.Rows (j : Int)).bind f) Q := fun hf => by rw [idx_mem hj]; exact hf
      rename_i hx1 _
      have hxj : x = s.Rows[j] := by rw [gE hj] at hx1; injection hx1 with hx1; exact hx1.symm
      have hlen : s.Rows[j].length ≤ 12 := by rw [← hxj]; simp only [decide_eq_false_iff_not] at hc; omega
      refine yh (loopO_rb (fun (i : Int) => ∃ k : Nat, i = (k : Int) ∧ k ≤ s.Rows[j].length) (fun i => s.Rows[j].length - i.toNat) (Q := fun r => match r with | .inl q => q = false | .inr _ => True) ?_ ⟨0, rfl, by omega⟩) ?_
      · rintro _ ⟨k, rfl, hk⟩
        refine hr (yk (fun hc => hr ?_) rt)
        have hlt : k < s.Rows[j].length := by simpa using hc
        have ew : w64 ((k : Int) + 1) = ((k + 1 : Nat) : Int) := by rw [w64_id om om]; rfl
        exact yam hlt fun _ _ _ => yh (efew_rb _) fun _ _ => yk (fun _ => yd rfl) fun _ => yd ⟨⟨k + 1, ew, by omega⟩, by rw [ew]; omega⟩
      · rintro (_ | _) g
        · exact yd g
        · exact yd trivial
    rintro (_ | _) g
    rotate_left
    · exact yd fun h => by subst h; cases g
    refine yh (forN_ret (fun j (l : List By8) => l.length ≤ 400 + j ∧ ∀ x ∈ l1, x ∈ l) (Q := fun r => r = false) ⟨by omega, fun x hx => hx⟩ ?_) ?_
    · rintro j l hj ⟨k1, k2⟩
      exact yam hj fun _ _ _ => ya8 (by simp only [List.length_cons, List.length_nil]; omega) (yam hj fun _ _ _ => yh (efew_rb _) fun _ _ => yk (fun _ => yd rfl) fun _ => yd ⟨by simp; omega, fun x hx => List.mem_append_left _ (k2 x hx)⟩)
    rintro (l2 | _) g
    rotate_left
    · exact yd fun h => by subst h; cases g
    obtain ⟨_, k2⟩ := g
    refine yh (forN_q (Q := fun q => q = false) fun j _ hj => yam hj fun _ _ _ => yh (efew_rb _) fun _ _ => yk (fun _ => yd rfl) rt) ?_
    rintro (_ | _) g
    rotate_left
    · exact yd fun h => by subst h; cases g
    refine yh (forN_ret (fun j _ => ∀ x ∈ l2.take j, x.size ≤ 100) (Q := fun r => r = false) (by simp) ?_) ?_
    · intro j _ hj g
      refine yam hj fun x hx _ => yk (fun _ => yd rfl) fun hc => yd ?_
      show ∀ x ∈ l2.take (j + 1), _
      rw [take_next hx]
      intro y hy
      rcases List.mem_append.1 hy with hy | hy
      · exact g y hy
      · simp only [List.mem_cons, List.not_mem_nil, or_false] at hy
        subst hy
        simp only [decide_eq_false_iff_not] at hc
        omega
    rintro (_ | _) g
    rotate_left
    · exact yd fun h => by subst h; cases g
    rw [List.take_length] at g
    have sf : SF s := by
      refine SF.of h1 h2 h3 (fun x hx => (g3 x hx).1) g ⟨k2 _ (g2 _ (by rw [hl0]; simp)), k2 _ (g2 _ (by rw [hl0]; simp))⟩ (fun x hx => k2 _ (g2 _ ?_)) (fun x hx => ⟨k2 _ (g3 x hx).2.1, k2 _ (g3 x hx).2.2⟩)
      rw [hl0]
      exact List.mem_append_right _ (List.mem_map_of_mem hx)
    refine RB.mono (Q := TT) ?_ (fun _ _ _ => sf)
    refine yh (R := TT) (yk rt fun hc => ?_) fun _ _ => yd trivial
    have hk : 0 < s.Kids.length := by
      cases hs : s.Kids with
      | nil => rw [hs] at hc; cases hc
      | cons => simp
    have h0 : ∀ {α : Type} {f : qS → Option α} {Q : α → Prop}, RB b (f s.Kids[0]) Q → RB b ((idx s.Kids 0).bind f) Q := fun hf => by rw [show (0 : Int) = ((0 : Nat) : Int) from rfl, idx_mem hk]; exact hf
    refine h0 (yh (R := TT) (yk (fun hc2 => h0 (yh (sfew_fu n s.Kids[0] fun hb => ?_).tt fun _ _ => yd trivial)) rt) fun _ _ => yd trivial)
    have e0 : s.Kids[0].Kids = [] := by
      have : s.Kids[0].Kids.length = 0 := by simp at hc2; simp [hc2]
      exact List.eq_nil_of_length_eq_zero this
    rcases h hb with ⟨h, _⟩ | h
    · rw [h] at hk; simp at hk
    · exact .inl ⟨e0, by omega⟩
theorem sfew_rb {b : Prop} (s : qS) : RB b (r12_Few s) (fun r => r = true → SF s) := by
  unfold r12_Few
  exact fuel_tt 2 fun n => sfew_fu n s fun h => .inr h
def AF (l : List law19_Act) : Prop := l.length ≤ 40 ∧ ∀ a ∈ l, SF a.S ∧ a.By.size ≤ 100
theorem afew_rb {b : Prop} (l : List law19_Act) : RB b (law19_Few l) (fun r => r = true → AF l) := by
  unfold law19_Few
  refine yh (forN_ret (fun j _ => j ≤ 40 ∧ ∀ a ∈ l.take j, SF a.S ∧ a.By.size ≤ 100) (Q := fun r => r = false) (by simp) ?_) ?_
  · rintro j _ hj ⟨g0, g⟩
    refine yh (R := fun (q : Bool) => q = false → j < 40 ∧ ∀ x, l[j]? = some x → SF x.S) (yk (fun _ => yd fun h => by cases h) fun hc => yam hj fun x hx _ => yh (sfew_rb _) fun r hr => yd fun hq => ⟨?_, fun y hy => ?_⟩) fun q hq => yh (R := fun (q' : Bool) => q' = false → q = false ∧ ∀ x, l[j]? = some x → x.By.size ≤ 100) (yk (fun _ => yd fun h => by cases h) fun hc => yam hj fun x hx _ => yd fun hq => ⟨hc, fun y hy => ?_⟩) fun q' hq' => yk (fun _ => yd rfl) fun hc => yd ?_
    · simp only [decide_eq_false_iff_not] at hc
      omega
    · rw [hx] at hy
      injection hy with hy
      subst hy
      exact hr (by simpa using hq)
    · rw [hx] at hy
      injection hy with hy
      subst hy
      simp only [decide_eq_false_iff_not] at hq
      omega
    · obtain ⟨e1, e2⟩ := hq' hc
      obtain ⟨e3, e4⟩ := hq e1
      have hx : l[j]? = some l[j] := gE hj
      refine ⟨by omega, ?_⟩
      rw [take_next hx]
      intro y hy
      rcases List.mem_append.1 hy with hy | hy
      · exact g y hy
      · simp only [List.mem_cons, List.not_mem_nil, or_false] at hy
        subst hy
        exact ⟨e4 _ hx, e2 _ hx⟩
  · rintro (_ | _) g
    · rw [List.take_length] at g
      exact yd fun _ => g
    · exact yd fun h => by subst h; cases g
theorem next_rb {b : Prop} {n : Nat} {c : qC} {a : law19_Act} (h : CI n c) (ha : SF a.S ∧ a.By.size ≤ 100) (h12 : 12 ≤ n) (hn : n ≤ 99) : RB b (law19_Next c a) (fun r => CI (n + 1) r.1) := by
  unfold law19_Next
  refine yh (gmake_rb h hn ha.1.name _ _) ?_
  rintro ⟨d, e⟩ g
  refine yh (R := fun (q : Int × qC) => q.1 = 0 → CI (n + 1) q.2) (yk (fun _ => yh (tmake_rb h.1 ha.1 ha.2 h12 om) ?_) fun _ => yd g) ?_
  · rintro ⟨d', e'⟩ g'
    exact yd fun he => ⟨(g' he).1, by rw [(g' he).2]; exact h.2.up om⟩
  · rintro ⟨k, d'⟩ g'
    exact yk (fun _ => yd (h.up om)) fun hc => yd (g' (by simpa using hc))
theorem set_same {α : Type} {xs : List α} {i : Nat} {x : α} (h : xs[i]? = some x) : xs.set i x = xs := by
  refine List.ext_getElem? fun j => ?_
  rw [List.getElem?_set]
  by_cases e : i = j
  · subst e
    have := (List.getElem?_eq_some_iff.1 h).1
    rw [if_pos rfl, if_pos this, h]
  · rw [if_neg e]
theorem clone_str {l : List By8} (h : l.length ≤ 1000) : slices_Clone_string l = some l := by
  unfold slices_Clone_string
  rw [app_le (by simp; omega)]
  rfl
theorem eclone_fu {b : Prop} : ∀ (n : Nat) (e : qE), esz e ≤ 1000 → (b → esz e ≤ n) → RB b (expr_Clone_fu n e) (fun r => r = e)
  | 0, e, _, h => ybr fun hb => by have := h hb; have := esz_pos e; omega
  | n + 1, e, hz, h => by
    have hkl := eszL_len e.Kids
    have h1 := esz_eq e
    unfold expr_Clone_fu
    refine yh (forE_ret (fun j (s : List qE) => s = e.Kids.take j) (by simp) ?_) fun s hs => ?_
    · rintro j s hj rfl
      refine yam hj fun x hx hm => yh (eclone_fu n x (by have := kid_sz hm; omega) fun hb => by have := h hb; have := kid_sz hm; omega) fun r hr => ?_
      have hr : r = x := hr
      subst hr
      exact ya8 (by simp only [List.length_cons, List.length_nil, List.length_take]; omega) (yd (take_next hx).symm)
    · have hs : s = e.Kids.take e.Kids.length := hs
      rw [List.take_length] at hs
      subst hs
      exact yd (by cases e; rfl)
theorem eclone_eq {e : qE} (hz : esz e ≤ 1000) : expr_Clone e = some e := by
  unfold expr_Clone
  exact Ret.eq (fuel_tt (esz e) fun n => eclone_fu n e hz fun h => h)
theorem tclone_eq {n : Nat} {t : qT} (h : TB n t) (hn : n ≤ 1000) : table_Clone t = some t := by
  have h1 := h.cols
  have h2 := h.cons
  have h3 := h.idx
  unfold table_Clone slices_Clone_qL slices_Clone_qK slices_Clone_qI
  rw [app_le (by simp; omega), app_le (by simp; omega), app_le (by simp; omega)]
  simp only [obs, List.nil_append]
  have c1 : ∀ j s, j < t.Cons.length → s = t.Cons → (idx s (j : Int)).bind (fun (x45 : qK) => (slices_Clone_string x45.Cols).bind (fun (r59 : List By8) => (slices_Clone_string x45.Refs).bind (fun (r65 : List By8) => (expr_Clone x45.Check).bind (fun (r71 : qE) => (idx s (j : Int)).bind (fun (x72 : qK) => (idx (s.set ((j : Int)).toNat ({ x72 with Cols := r59 })) (j : Int)).bind (fun (x85 : qK) => (idx ((s.set ((j : Int)).toNat ({ x72 with Cols := r59 })).set ((j : Int)).toNat ({ x85 with Refs := r65 })) (j : Int)).bind (fun (x97 : qK) => some (((s.set ((j : Int)).toNat ({ x72 with Cols := r59 })).set ((j : Int)).toNat ({ x85 with Refs := r65 })).set ((j : Int)).toNat ({ x97 with Check := r71 }))))))))) = some t.Cons := by
    rintro j s hj rfl
    have hx : t.Cons[j]? = some t.Cons[j] := gE hj
    obtain ⟨_, _, x1, x2, x3⟩ := h.xs _ (List.getElem_mem hj)
    generalize t.Cons[j] = x at hx x1 x2 x3
    have e1 : t.Cons.set ((j : Int)).toNat x = t.Cons := set_same (by simpa using hx)
    simp only [idx_nat, hx, obs, clone_str (show x.Cols.length ≤ 1000 by omega), clone_str (show x.Refs.length ≤ 1000 by omega), eclone_eq (Nat.le_trans x3.1 om : esz x.Check ≤ 1000), e1]
  have c2 : ∀ j s, j < t.Idx.length → s = t.Idx → (idx s (j : Int)).bind (fun (x134 : qI) => (slices_Clone_string x134.Cols).bind (fun (r148 : List By8) => (idx s (j : Int)).bind (fun (x149 : qI) => some (s.set ((j : Int)).toNat ({ x149 with Cols := r148 }))))) = some t.Idx := by
    rintro j s hj rfl
    have hx : t.Idx[j]? = some t.Idx[j] := gE hj
    obtain ⟨_, x1⟩ := h.is _ (List.getElem_mem hj)
    generalize t.Idx[j] = x at hx x1
    have e1 : t.Idx.set ((j : Int)).toNat x = t.Idx := set_same (by simpa using hx)
    simp only [idx_nat, hx, obs, clone_str (show x.Cols.length ≤ 1000 by omega), e1]
  refine Ret.eq (yh (forE_ret (fun _ s => s = t.Cons) rfl fun j s hj hs => ybv (c1 j s hj hs) rfl) fun s hs => yh (forE_ret (fun _ s => s = t.Idx) rfl fun j s hj hs => ybv (c2 j s hj hs) rfl) fun u hu => ?_)
  have hs : s = t.Cons := hs
  have hu : u = t.Idx := hu
  rw [hs, hu]
  exact yd rfl
theorem cfind_eq {n : Nat} {c : qC} (h : CB n c) (hn : n ≤ 1000) (nm : By8) : (tI c nm < 0 ∧ catalog_Find c nm = some (z_qT, false)) ∨ ∃ t, 0 ≤ tI c nm ∧ idx c.Tables (tI c nm) = some t ∧ catalog_Find c nm = some (t, true) := by
  have hf : slices_IndexFunc_qT c.Tables (fun (u0 : qT) => catalog_Find_1 u0 nm) = some (tI c nm) := by
    unfold slices_IndexFunc_qT tI
    rw [forN_find (fun (x : qT) => sEq x.Name nm) (fun j => (j : Int)) (fun j x hx => by rw [idx_nat, hx]; unfold catalog_Find_1; simp only [obs]; cases sEq x.Name nm <;> rfl)]
    cases c.Tables.findIdx? (fun x => sEq x.Name nm) <;> rfl
  unfold catalog_Find
  rw [hf]
  simp only [obs]
  by_cases h0 : 0 ≤ tI c nm
  · right
    obtain ⟨k, t, hk, ht, hm, _⟩ := tI_get h0
    refine ⟨t, h0, by rw [hk, idx_nat]; exact ht, ?_⟩
    rw [show decide (tI c nm ≥ 0) = true by simpa using h0, hk, idx_nat, ht]
    simp only [obs, cond_true, tclone_eq (h.ok t hm).1 hn]
  · left
    rw [show decide (tI c nm ≥ 0) = false by simpa using h0]
    exact ⟨by omega, rfl⟩
theorem gowns_val {n : Nat} {c : qC} (h : CB n c) (hn : n ≤ 1000) (hr : Sm c.Roles) (r t : By8) : grants_Owns c r t = some (owB c r t) := by
  rw [← owns_val hr]
  unfold grants_Owns r19_Owns
  rw [tat_val]
  rcases cfind_eq h hn t with ⟨h0, e⟩ | ⟨x, h0, hx, e⟩
  · rw [e]
    simp only [obs]
    rw [show decide (tI c t ≥ 0) = false by simp; omega]
    rfl
  · rw [e]
    simp only [obs]
    rw [show decide (tI c t ≥ 0) = true by simpa using h0]
    simp only [obs, cond_true, hx, is_same hr]
theorem mfind_eq {l : List Role} (h : Sm l) (n : By8) : ∃ r, member_Find l n = some (r, decide (0 ≤ rI l n)) := by
  unfold member_Find
  rw [at_same, rat_val]
  simp only [obs]
  by_cases h0 : rI l n < 0
  · rw [show decide (rI l n < 0) = true by simpa using h0, show decide (0 ≤ rI l n) = false by simp; omega]
    exact ⟨_, rfl⟩
  · obtain ⟨x, hx, hx'⟩ := idx_lt (xs := l) (i := rI l n) om (rI_lt l n)
    have hm := List.mem_of_getElem? hx'
    rw [show decide (rI l n < 0) = false by simpa using h0, show decide (0 ≤ rI l n) = true by simp; omega, hx]
    simp only [obs, cond_false, clone_str (show x.In.length ≤ 1000 by have := h.2.1 x hm; omega)]
    exact ⟨_, rfl⟩
theorem ghas_val {c : qC} (h : Sm c.Roles) (l : List qG) (r : By8) (p : Int) (t : By8) (o : Bool) : grants_has c l r p t o = some (haB c l r p t o) := by
  have h1 : ∀ g, grants_has_1 g p t o c r = some (g.Priv == p && sEq g.Table t && (g.Option || !o) && isB c.Roles r g.To) := by
    intro g
    unfold grants_has_1
    rw [is_same h, is_val h]
    cases (g.Priv == p && sEq g.Table t && (g.Option || !o)) <;> rfl
  unfold grants_has slices_ContainsFunc_qG slices_IndexFunc_qG haB
  rw [forN_find (fun (g : qG) => g.Priv == p && sEq g.Table t && (g.Option || !o) && isB c.Roles r g.To) (fun j => (j : Int)) (fun j x hx => by rw [idx_nat, hx]; simp only [obs, h1]; cases (x.Priv == p && sEq x.Table t && (x.Option || !o) && isB c.Roles r x.To) <;> rfl)]
  cases e : l.findIdx? (fun (g : qG) => g.Priv == p && sEq g.Table t && (g.Option || !o) && isB c.Roles r g.To) with
  | none =>
    rw [List.findIdx?_eq_none_iff] at e
    have : (l.any fun g => g.Priv == p && sEq g.Table t && (g.Option || !o) && isB c.Roles r g.To) = false := List.any_eq_false.2 fun x hx => by rw [e x hx]; simp
    rw [this]
    rfl
  | some k =>
    obtain ⟨hk, h2, _⟩ := List.findIdx?_eq_some_iff_getElem.1 e
    have : (l.any fun g => g.Priv == p && sEq g.Table t && (g.Option || !o) && isB c.Roles r g.To) = true := List.any_eq_true.2 ⟨_, List.getElem_mem hk, h2⟩
    rw [this]
    simp
noncomputable def pk (c : qC) : Nat → qG → Bool
  | 0, _ => false
  | k + 1, g => okB c (rnds c k) g
theorem rnds_pk (c : qC) (k : Nat) : rnds c k = c.Grants.filter (pk c k) := by
  cases k with
  | zero => simp [rnds, pk]
  | succ k => rfl
theorem haB_mono {c : qC} {l m : List qG} (h : ∀ g ∈ l, g ∈ m) {r : By8} {p : Int} {t : By8} {o : Bool} (hh : haB c l r p t o = true) : haB c m r p t o = true := by
  obtain ⟨g, hg, e⟩ := List.any_eq_true.1 hh
  exact List.any_eq_true.2 ⟨g, h g hg, e⟩
theorem okB_mono {c : qC} {l m : List qG} (h : ∀ g ∈ l, g ∈ m) {g : qG} (hh : okB c l g = true) : okB c m g = true := by
  unfold okB at hh ⊢
  simp only [Bool.and_eq_true, Bool.or_eq_true] at hh ⊢
  exact ⟨hh.1, hh.2.imp id (haB_mono h)⟩
theorem pk_mono (c : qC) : ∀ (k : Nat) (g : qG), pk c k g = true → pk c (k + 1) g = true
  | 0, g, h => by cases h
  | k + 1, g, h => by
    refine okB_mono (fun x hx => ?_) h
    rw [rnds_pk] at hx ⊢
    rw [List.mem_filter] at hx ⊢
    exact ⟨hx.1, pk_mono c k x hx.2⟩
theorem stable {c : qC} {k : Nat} (h : rnds c (k + 1) = rnds c k) : ∀ m, rnds c (k + m) = rnds c k
  | 0 => rfl
  | m + 1 => by
    show rnd c (rnds c (k + m)) = _
    rw [stable h m]
    exact h
theorem list_val {c : qC} (hg : c.Grants.length ≤ 1000) (p : qG → Bool) : grants_Held_1 c (c.Grants.map p) = some (c.Grants.filter p) := by
  unfold grants_Held_1
  refine Ret.eq (yh (forE_ret (fun j s => s = (c.Grants.take j).filter p) (by simp) ?_) fun s hs => yd (by have hs : s = (c.Grants.take c.Grants.length).filter p := hs; rw [hs, List.take_length]))
  rintro j s hj rfl
  have hx : c.Grants[j]? = some c.Grants[j] := gE hj
  have hle : ((c.Grants.take j).filter p).length ≤ j := Nat.le_trans (List.length_filter_le ..) (by simp; omega)
  generalize c.Grants[j] = x at hx
  simp only [idx_nat, List.getElem?_map, hx, Option.map_some, obs]
  rw [take_next hx, List.filter_append, app_le (by simp only [List.length_cons, List.length_nil]; omega)]
  cases hp : p x
  · exact yd (by simp [hp])
  · exact yd (by simp [hp])
theorem grow_flags {c : qC} {p q : qG → Bool} (h : ∀ g, p g = true → q g = true) : c.Grants.map q = c.Grants.map p ∨ (c.Grants.map p).count true < (c.Grants.map q).count true := by
  rcases cnt (c.Grants.map p) (c.Grants.map q) (by simp) (fun k hk => by
    rw [List.getElem?_map] at hk ⊢
    cases hx : c.Grants[k]? with
    | none => rw [hx] at hk; cases hk
    | some g => rw [hx] at hk; simp only [Option.map_some, Option.some.injEq] at hk ⊢; exact h g hk) with h | h
  · exact .inl h.symm
  · exact .inr h
theorem round_val {n : Nat} {c : qC} (h : CB n c) (hn : n ≤ 1000) (hr : Sm c.Roles) {p q : qG → Bool} (now : List qG) (hq : ∀ g, q g = okB c now g) (hpq : ∀ g, p g = true → q g = true) :
    forE (fun (i50 : Nat) (s : Bool × (List Bool)) => match s with | (s48, s49) => (idx c.Grants (i50 : Int)).bind (fun (x59 : qG) => (catalog_Find c x59.Table).bind (fun ((r71, r72) : qT × Bool) => (member_Find c.Roles x59.To).bind (fun ((r84, r85) : qJ × Bool) => (idx s49 (i50 : Int)).bind (fun (x92 : Bool) => ((bif (((!x92) && r72) && r85) then (grants_Owns c x59.By x59.Table).bind (fun (r106 : Bool) => ((bif r106 then some true else (grants_has c now x59.By x59.Priv x59.Table true).bind (fun (r119 : Bool) => some r119))).bind (fun (j107 : Bool) => some j107)) else some false)).bind (fun (j97 : Bool) => ((bif j97 then (idx s49 (i50 : Int)).bind (fun (x134 : Bool) => some (true, (s49.set ((i50 : Int)).toNat true))) else some (s48, s49))).bind (fun ((s141, s142) : Bool × (List Bool)) => some (s141, s142)))))))) c.Grants.length 0 (false, c.Grants.map p) =
      some (decide (c.Grants.map q ≠ c.Grants.map p), c.Grants.map q) := by
  refine Ret.eq ((forE_ret (fun j (s : Bool × List Bool) => s.2 = (c.Grants.take j).map q ++ (c.Grants.drop j).map p ∧ s.1 = decide ((c.Grants.take j).map q ≠ (c.Grants.take j).map p)) ⟨by simp, by simp⟩ ?_).mono ?_)
  · rintro j ⟨g, fl⟩ hj ⟨e1, e2⟩
    simp only at e1 e2
    have hx : c.Grants[j]? = some c.Grants[j] := gE hj
    have hd : c.Grants.drop j = c.Grants[j] :: c.Grants.drop (j + 1) := List.drop_eq_getElem_cons hj
    generalize c.Grants[j] = x at hx hd
    have hlen : ((c.Grants.take j).map q).length = j := by simp; omega
    have hfl : fl[j]? = some (p x) := by
      rw [e1, List.getElem?_append_right om, hlen, Nat.sub_self, hd]
      rfl
    have hset : ∀ v, fl.set j v = (c.Grants.take j).map q ++ v :: (c.Grants.drop (j + 1)).map p := by
      intro v
      rw [e1, List.set_append_right _ _ om, hlen, Nat.sub_self, hd]
      rfl
    have hfin : ∀ v, v = q x → (c.Grants.take j).map q ++ v :: (c.Grants.drop (j + 1)).map p = (c.Grants.take (j + 1)).map q ++ (c.Grants.drop (j + 1)).map p := by
      rintro v rfl
      rw [take_next hx]
      simp
    have hg : decide ((c.Grants.take (j + 1)).map q ≠ (c.Grants.take (j + 1)).map p) = (g || decide (q x ≠ p x)) := by
      rw [take_next hx, List.map_append, List.map_append, e2]
      by_cases h1 : (c.Grants.take j).map q = (c.Grants.take j).map p
      · rw [h1]; simp
      · have : ¬ ((c.Grants.take j).map q ++ [x].map q = (c.Grants.take j).map p ++ [x].map p) := fun he => h1 (List.append_inj_left he (by simp))
        simp [h1, this]
    obtain ⟨mr, hmf⟩ := mfind_eq hr x.To
    have hcf : ∃ t, catalog_Find c x.Table = some (t, decide (0 ≤ tI c x.Table)) := by
      rcases cfind_eq h hn x.Table with ⟨h0, e⟩ | ⟨t, h0, _, e⟩
      · exact ⟨_, by rw [e, show decide (0 ≤ tI c x.Table) = false by simp; omega]⟩
      · exact ⟨_, by rw [e, show decide (0 ≤ tI c x.Table) = true by simpa using h0]⟩
    obtain ⟨t, hcf⟩ := hcf
    have hqx := hq x
    unfold okB at hqx
    have hpx := hpq x
    simp only [idx_nat, hx, obs, hcf, hmf, hfl, gowns_val h hn hr, ghas_val hr]
    have cond : ((bif (((!p x) && decide (0 ≤ tI c x.Table)) && decide (0 ≤ rI c.Roles x.To)) then ((bif owB c x.By x.Table then some true else some (haB c now x.By x.Priv x.Table true))).bind (fun (j107 : Bool) => some j107) else some false)) = some (!p x && q x) := by
      rw [hqx]
      cases p x <;> cases decide (0 ≤ tI c x.Table) <;> cases decide (0 ≤ rI c.Roles x.To) <;> cases owB c x.By x.Table <;> cases haB c now x.By x.Priv x.Table true <;> rfl
    rw [cond]
    simp only [obs]
    cases hp : p x with
    | true =>
      have hqt := hpx hp
      simp only [Bool.not_true, Bool.false_and, cond_false, obs]
      refine yd ⟨?_, ?_⟩
      · simp only
        rw [← hfin (p x) (by rw [hp, hqt]), ← hset, set_same hfl]
      · simp only
        rw [hg, hp, hqt]
        simp
    | false =>
      cases hq' : q x with
      | false =>
        simp only [Bool.not_false, Bool.and_false, cond_false, obs]
        refine yd ⟨?_, ?_⟩
        · simp only
          rw [← hfin (p x) (by rw [hp, hq']), ← hset, set_same hfl]
        · simp only
          rw [hg, hp, hq']
          simp
      | true =>
        simp only [Bool.not_false, Bool.and_true, cond_true, obs]
        refine yd ⟨?_, ?_⟩
        · simp only [Int.toNat_natCast]
          rw [hset, hfin true hq'.symm]
        · simp only
          rw [hg, hp, hq']
          simp
  · rintro ⟨g, fl⟩ ⟨e1, e2⟩
    simp only [List.take_length, List.drop_length, List.map_nil, List.append_nil] at e1 e2
    rw [e1, e2]
theorem gheld_val {n : Nat} {c : qC} (h : CB n c) (hn : n ≤ 1000) (hr : Sm c.Roles) : grants_Held c = some (heR c) := by
  have hg := h.grants
  unfold grants_Held
  have hmk : mk 1 (c.Grants.length : Int) = some c.Grants.length := by
    unfold mk
    rw [if_pos om]
    rfl
  rw [hmk]
  simp only [obs]
  have h0 : List.replicate c.Grants.length false = c.Grants.map (pk c 0) := by
    symm
    exact List.eq_replicate_iff.2 ⟨by simp, fun b hb => by obtain ⟨g, _, rfl⟩ := List.mem_map.1 hb; rfl⟩
  rw [h0]
  refine Ret.eq (yh (loopO_rb (fun (s : Bool × List Bool) => ∃ k : Nat, s.2 = c.Grants.map (pk c k) ∧ k ≤ s.2.count true ∧ (s.1 = false → c.Grants.map (pk c (k + 1)) = c.Grants.map (pk c k))) (fun s => 2 * (c.Grants.length - s.2.count true) + s.1.toNat) (Q := fun fl => ∃ k : Nat, k ≤ c.Grants.length ∧ fl = c.Grants.map (pk c k) ∧ c.Grants.map (pk c (k + 1)) = c.Grants.map (pk c k)) ?_ ⟨0, rfl, Nat.zero_le _, fun h => by cases h⟩) ?_)
  · rintro ⟨g, fl⟩ ⟨k, e1, e2, e3⟩
    simp only at e1 e2 e3
    subst e1
    cases g with
    | false =>
      refine yd ⟨k, ?_, rfl, e3 rfl⟩
      have := List.count_le_length (a := true) (l := c.Grants.map (pk c k))
      simp only [List.length_map] at this
      omega
    | true =>
      simp only [cond_true]
      rw [list_val om]
      simp only [obs]
      rw [round_val h hn hr (q := pk c (k + 1)) (c.Grants.filter (pk c k)) (fun g => by rw [← rnds_pk]; rfl) (pk_mono c k)]
      have hc1 := List.count_le_length (a := true) (l := c.Grants.map (pk c (k + 1)))
      simp only [List.length_map] at hc1
      rcases grow_flags (c := c) (pk_mono c k) with he | he
      · rw [show decide (c.Grants.map (pk c (k + 1)) ≠ c.Grants.map (pk c k)) = false by simp [he]]
        refine yd ⟨⟨k, he, by rw [he]; exact e2, fun _ => he⟩, ?_⟩
        simp only [he, Bool.toNat_true, Bool.toNat_false]
        omega
      · have hne : c.Grants.map (pk c (k + 1)) ≠ c.Grants.map (pk c k) := fun e => by rw [e] at he; omega
        rw [show decide (c.Grants.map (pk c (k + 1)) ≠ c.Grants.map (pk c k)) = true by simpa using hne]
        refine yd ⟨⟨k + 1, rfl, by simp only; omega, fun h => by cases h⟩, ?_⟩
        simp only [Bool.toNat_true]
        omega
  · rintro fl ⟨k, hk, rfl, he⟩
    rw [list_val om]
    refine yd ?_
    have hst : rnds c (k + 1) = rnds c k := by
      rw [rnds_pk, rnds_pk]
      refine List.filter_congr fun g hg' => ?_
      obtain ⟨i, hi, rfl⟩ := List.mem_iff_getElem.1 hg'
      have := congrArg (fun l => l[i]?) he
      simpa [hi] using this
    have := stable hst (c.Grants.length + 1 - k)
    rw [show k + (c.Grants.length + 1 - k) = c.Grants.length + 1 by omega] at this
    show c.Grants.filter (pk c k) = rnds c (c.Grants.length + 1)
    rw [this, rnds_pk]
theorem gcan_val {n : Nat} {c : qC} (h : CB n c) (hn : n ≤ 1000) (hr : Sm c.Roles) (r : By8) (p : Int) (t : By8) : grants_Can c r p t = r19_Can c r p t := by
  have hg := h.grants
  rw [rcan_val hr om]
  unfold grants_Can
  simp only [gowns_val h hn hr, gheld_val h hn hr, ghas_val hr, obs]
  cases owB c r t <;> rfl
theorem gmay_val {n : Nat} {c : qC} (h : CB n c) (hn : n ≤ 1000) (hr : Sm c.Roles) (r : By8) (p : Int) (t : By8) : grants_May c r p t = r19_May c r p t := by
  have hg := h.grants
  rw [rmay_val hr om]
  unfold grants_May
  simp only [gowns_val h hn hr, gheld_val h hn hr, ghas_val hr, obs]
  cases owB c r t <;> rfl
theorem SF.role (n : By8) (h : n.size ≤ 100) : SF { z_qS with Kind := 10, Name := n } := ⟨Nat.zero_le _, Nat.zero_le _, Nat.zero_le _, Nat.zero_le _, h, (fun x hx => by cases hx), (fun x hx => by cases hx)⟩
theorem first_rb {b : Prop} : RB b law19_first (CI 16) := by
  unfold law19_first r17_New
  refine ya1 (yh (forE_ret (fun j c => CI (12 + j) c) ⟨⟨Nat.zero_le _, (fun t ht => by cases ht), Nat.zero_le _⟩, ⟨by show 1 ≤ 8; omega, fun x hx => ?_⟩⟩ ?_) ?_)
  · simp only [List.mem_cons, List.not_mem_nil, or_false] at hx
    subst hx
    exact ⟨Nat.zero_le _, by show (4 : Nat) ≤ 100; omega⟩
  · rintro j c hj hc
    refine yh (R := fun (q : qC × Int) => q.2 = 0 → CI (12 + (j + 1)) q.1) (yam (xs := [(⟨#[97, 110, 110]⟩ : By8), ⟨#[98, 111, 98]⟩, ⟨#[99, 121]⟩]) hj fun x _ hx => ?_) ?_
    · have hs : x.size ≤ 100 := by
        simp only [List.mem_cons, List.not_mem_nil, or_false] at hx
        rcases hx with rfl | rfl | rfl <;> decide
      refine yh (gmake_rb hc om (SF.role x hs).name _ _) ?_
      rintro ⟨d, e⟩ g
      exact yd g
    · rintro ⟨d, e⟩ g
      exact yh (R := CI (12 + (j + 1))) (yk (fun he => yd (g (by simpa using he))) (fun _ => yd (hc.up om))) fun _ h => yd h
  · intro c hc
    have hc : CI 15 c := hc
    refine yh (tmake_rb (n := 15) hc.1 ⟨by show 1 ≤ 12; omega, Nat.zero_le _, Nat.zero_le _, by show 1 ≤ 100; omega, Nat.zero_le _, fun x hx => ?_, (fun x hx => by cases hx)⟩ (by show 3 ≤ 100; omega) om om) ?_
    · simp only [List.mem_cons, List.not_mem_nil, or_false] at hx
      subst hx
      show 1 ≤ 100
      omega
    · rintro ⟨d, e⟩ g
      exact yh (R := CI 16) (yk (fun he => yd ⟨(g (by simpa using he)).1, by rw [(g (by simpa using he)).2]; exact hc.2.up om⟩) (fun _ => yd (hc.up om))) fun _ h => yd h
theorem grown_rb {b : Prop} {l : List law19_Act} (h : AF l) : RB b (law19_Grown l) (CI 60) := by
  have hl := h.1
  unfold law19_Grown
  refine yh first_rb fun c hc => yh (forE_ret (fun j c => CI (16 + j) c) hc ?_) fun d hd => yd ?_
  · intro j c hj hc
    refine yam hj fun a _ ha => yh (next_rb hc (h.2 a ha) om om) ?_
    rintro ⟨d, e⟩ g
    exact yd g
  · have hd : CI (16 + l.length) d := hd
    exact hd.up om
end Go.Proofs.YtdmapcjbbbifbaaGreat
