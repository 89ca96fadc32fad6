/- Plain laws: what the plain functions answer. Conditions: none. -/
import Derived.Test.YtlfphpegelclpaaGreatF4
set_option maxRecDepth 100000
namespace Go.Proofs.YtlfphpegelclpaaGreat
open Go.Gv
def wf_qL (x : qL) : Prop := (fun s => s.size ≤ maxLen) x.Name ∧ (fun n => IntKind.min .i64 ≤ n ∧ n ≤ IntKind.max .i64) x.Type_ ∧ (fun _ => True) x.NotNull
theorem opens_qL : Opens P 114 R_qL wf_qL := by
  intro H enc w fuel cs x h
  obtain ⟨x0, h0, w0⟩ := opens_field kr h 0 (ft := 9) (off := 0) (sz := 1) kr (opens_str kr)
  have e0 := h0
  obtain ⟨x1, h1, w1⟩ := opens_field kr h 1 (ft := 3) (off := 1) (sz := 1) kr (opens_int kr)
  have e1 := h1
  obtain ⟨x2, h2, w2⟩ := opens_field kr h 2 (ft := 4) (off := 2) (sz := 1) kr (opens_bool kr)
  have e2 := h2
  exact ⟨⟨x0, x1, x2⟩, (cut e0 (cut e1 (cut e2 (opens_len kr h (n := 3) kr)))), ⟨w0, w1, w2⟩⟩
def wf_qV (x : qV) : Prop := (fun n => IntKind.min .i64 ≤ n ∧ n ≤ IntKind.max .i64) x.Kind ∧ (fun n => IntKind.min .i64 ≤ n ∧ n ≤ IntKind.max .i64) x.N ∧ (fun s => s.size ≤ maxLen) x.S
theorem opens_qV : Opens P 58 R_qV wf_qV := by
  intro H enc w fuel cs x h
  obtain ⟨x0, h0, w0⟩ := opens_field kr h 0 (ft := 3) (off := 0) (sz := 1) kr (opens_int kr)
  have e0 := h0
  obtain ⟨x1, h1, w1⟩ := opens_field kr h 1 (ft := 3) (off := 1) (sz := 1) kr (opens_int kr)
  have e1 := h1
  obtain ⟨x2, h2, w2⟩ := opens_field kr h 2 (ft := 9) (off := 2) (sz := 1) kr (opens_str kr)
  have e2 := h2
  exact ⟨⟨x0, x1, x2⟩, (cut e0 (cut e1 (cut e2 (opens_len kr h (n := 3) kr)))), ⟨w0, w1, w2⟩⟩
def wf_qE (_ : qE) : Prop := True
theorem opensF_qE : ∀ N : Nat, OpensF P 61 Q_qE wf_qE N
 | 0 => OpensF.zero
 | N + 1 => by
  have ih := opensF_qE N
  intro H enc w fuel cs x hN h
  obtain ⟨x0, h0, w0⟩ := opensF_field kr hN h 0 (ft := 3) (off := 0) (sz := 1) kr (Opens.atF (opens_int kr) N)
  have e0 := h0
  obtain ⟨x1, h1, w1⟩ := opensF_field kr hN h 1 (ft := 3) (off := 1) (sz := 1) kr (Opens.atF (opens_int kr) N)
  have e1 := h1
  obtain ⟨x2, h2, w2⟩ := opensF_field kr hN h 2 (ft := 58) (off := 2) (sz := 3) kr (Opens.atF opens_qV N)
  have e2 := h2
  obtain ⟨x3, h3, w3⟩ := opensF_field kr hN h 3 (ft := 9) (off := 5) (sz := 1) kr (Opens.atF (opens_str kr) N)
  have e3 := h3
  obtain ⟨x4, h4, w4⟩ := opensF_field kr hN h 4 (ft := 59) (off := 6) (sz := 1) kr (opensF_slice (e := 61) kr kr kr ih)
  obtain ⟨a4, c4, e4, f4⟩ := h4
  exact ⟨⟨x0, x1, x2, x3, x4⟩, Q_qE_iff.2 ⟨⟨⟨a4, c4⟩⟩, (cut e0 (cut e1 (cut e2 (cut e3 (cut e4 (opens_len kr h (n := 7) kr)))))), ⟨f4⟩⟩, trivial⟩
theorem opensQ_qE : Opens P 61 Q_qE wf_qE := OpensF.all opensF_qE
theorem opens_qE : Opens P 61 R_qE wf_qE := fun H enc w fuel cs x h => let ⟨a, h1, h2⟩ := opensQ_qE H enc w fuel cs x h; ⟨a, Q_qE_iff.1 h1, h2⟩
def wf_qK (x : qK) : Prop := (fun s => s.size ≤ maxLen) x.Name ∧ (fun n => IntKind.min .i64 ≤ n ∧ n ≤ IntKind.max .i64) x.Kind ∧ (fun xs => xs.length ≤ maxLen ∧ ∀ x ∈ xs, (fun s => s.size ≤ maxLen) x) x.Cols ∧ wf_qE x.Check ∧ (fun s => s.size ≤ maxLen) x.Table ∧ (fun xs => xs.length ≤ maxLen ∧ ∀ x ∈ xs, (fun s => s.size ≤ maxLen) x) x.Refs
theorem opens_qK : Opens P 116 R_qK wf_qK := by
  intro H enc w fuel cs x h
  obtain ⟨x0, h0, w0⟩ := opens_field kr h 0 (ft := 9) (off := 0) (sz := 1) kr (opens_str kr)
  have e0 := h0
  obtain ⟨x1, h1, w1⟩ := opens_field kr h 1 (ft := 3) (off := 1) (sz := 1) kr (opens_int kr)
  have e1 := h1
  obtain ⟨x2, h2, w2⟩ := opens_field kr h 2 (ft := 41) (off := 2) (sz := 1) kr (opens_slice (e := 9) kr kr kr (opens_str kr))
  obtain ⟨a2, c2, e2, f2⟩ := h2
  obtain ⟨x3, h3, w3⟩ := opens_field kr h 3 (ft := 61) (off := 3) (sz := 7) kr opens_qE
  obtain ⟨v3, e3, f3⟩ := h3
  obtain ⟨x4, h4, w4⟩ := opens_field kr h 4 (ft := 9) (off := 10) (sz := 1) kr (opens_str kr)
  have e4 := h4
  obtain ⟨x5, h5, w5⟩ := opens_field kr h 5 (ft := 41) (off := 11) (sz := 1) kr (opens_slice (e := 9) kr kr kr (opens_str kr))
  obtain ⟨a5, c5, e5, f5⟩ := h5
  exact ⟨⟨x0, x1, x2, x3, x4, x5⟩, ⟨⟨⟨a2, c2⟩, v3, ⟨a5, c5⟩⟩, (cut e0 (cut e1 (cut e2 (cut e3 (cut e4 (cut e5 (opens_len kr h (n := 12) kr))))))), ⟨f2, f3, f5⟩⟩, ⟨w0, w1, w2, w3, w4, w5⟩⟩
def wf_qSet (x : qSet) : Prop := (fun s => s.size ≤ maxLen) x.Name ∧ wf_qE x.E
theorem opens_qSet : Opens P 118 R_qSet wf_qSet := by
  intro H enc w fuel cs x h
  obtain ⟨x0, h0, w0⟩ := opens_field kr h 0 (ft := 9) (off := 0) (sz := 1) kr (opens_str kr)
  have e0 := h0
  obtain ⟨x1, h1, w1⟩ := opens_field kr h 1 (ft := 61) (off := 1) (sz := 7) kr opens_qE
  obtain ⟨v1, e1, f1⟩ := h1
  exact ⟨⟨x0, x1⟩, ⟨⟨v1⟩, (cut e0 (cut e1 (opens_len kr h (n := 8) kr))), ⟨f1⟩⟩, ⟨w0, w1⟩⟩
def wf_qO (x : qO) : Prop := wf_qE x.E ∧ (fun _ => True) x.Desc
theorem opens_qO : Opens P 120 R_qO wf_qO := by
  intro H enc w fuel cs x h
  obtain ⟨x0, h0, w0⟩ := opens_field kr h 0 (ft := 61) (off := 0) (sz := 7) kr opens_qE
  obtain ⟨v0, e0, f0⟩ := h0
  obtain ⟨x1, h1, w1⟩ := opens_field kr h 1 (ft := 4) (off := 7) (sz := 1) kr (opens_bool kr)
  have e1 := h1
  exact ⟨⟨x0, x1⟩, ⟨⟨v0⟩, (cut e0 (cut e1 (opens_len kr h (n := 8) kr))), ⟨f0⟩⟩, ⟨w0, w1⟩⟩
def wf_qS (_ : qS) : Prop := True
theorem opensF_qS : ∀ N : Nat, OpensF P 66 Q_qS wf_qS N
 | 0 => OpensF.zero
 | N + 1 => by
  have ih := opensF_qS N
  intro H enc w fuel cs x hN h
  obtain ⟨x0, h0, w0⟩ := opensF_field kr hN h 0 (ft := 3) (off := 0) (sz := 1) kr (Opens.atF (opens_int kr) N)
  have e0 := h0
  obtain ⟨x1, h1, w1⟩ := opensF_field kr hN h 1 (ft := 9) (off := 1) (sz := 1) kr (Opens.atF (opens_str kr) N)
  have e1 := h1
  obtain ⟨x2, h2, w2⟩ := opensF_field kr hN h 2 (ft := 9) (off := 2) (sz := 1) kr (Opens.atF (opens_str kr) N)
  have e2 := h2
  obtain ⟨x3, h3, w3⟩ := opensF_field kr hN h 3 (ft := 9) (off := 3) (sz := 1) kr (Opens.atF (opens_str kr) N)
  have e3 := h3
  obtain ⟨x4, h4, w4⟩ := opensF_field kr hN h 4 (ft := 54) (off := 4) (sz := 1) kr (Opens.atF (opens_slice (e := 114) kr kr kr opens_qL) N)
  obtain ⟨a4, c4, e4, f4⟩ := h4
  obtain ⟨x5, h5, w5⟩ := opensF_field kr hN h 5 (ft := 55) (off := 5) (sz := 1) kr (Opens.atF (opens_slice (e := 116) kr kr kr opens_qK) N)
  obtain ⟨a5, c5, e5, f5⟩ := h5
  obtain ⟨x6, h6, w6⟩ := opensF_field kr hN h 6 (ft := 41) (off := 6) (sz := 1) kr (Opens.atF (opens_slice (e := 9) kr kr kr (opens_str kr)) N)
  obtain ⟨a6, c6, e6, f6⟩ := h6
  obtain ⟨x7, h7, w7⟩ := opensF_field kr hN h 7 (ft := 56) (off := 7) (sz := 1) kr (Opens.atF (opens_slice (e := 59) kr kr kr (opens_slice (e := 61) kr kr kr opensQ_qE)) N)
  obtain ⟨a7, c7, e7, f7⟩ := h7
  obtain ⟨x8, h8, w8⟩ := opensF_field kr hN h 8 (ft := 61) (off := 8) (sz := 7) kr (Opens.atF opens_qE N)
  obtain ⟨v8, e8, f8⟩ := h8
  obtain ⟨x9, h9, w9⟩ := opensF_field kr hN h 9 (ft := 62) (off := 15) (sz := 1) kr (Opens.atF (opens_slice (e := 118) kr kr kr opens_qSet) N)
  obtain ⟨a9, c9, e9, f9⟩ := h9
  obtain ⟨x10, h10, w10⟩ := opensF_field kr hN h 10 (ft := 63) (off := 16) (sz := 1) kr (Opens.atF (opens_slice (e := 120) kr kr kr opens_qO) N)
  obtain ⟨a10, c10, e10, f10⟩ := h10
  obtain ⟨x11, h11, w11⟩ := opensF_field kr hN h 11 (ft := 3) (off := 17) (sz := 1) kr (Opens.atF (opens_int kr) N)
  have e11 := h11
  obtain ⟨x12, h12, w12⟩ := opensF_field kr hN h 12 (ft := 3) (off := 18) (sz := 1) kr (Opens.atF (opens_int kr) N)
  have e12 := h12
  obtain ⟨x13, h13, w13⟩ := opensF_field kr hN h 13 (ft := 4) (off := 19) (sz := 1) kr (Opens.atF (opens_bool kr) N)
  have e13 := h13
  obtain ⟨x14, h14, w14⟩ := opensF_field kr hN h 14 (ft := 64) (off := 20) (sz := 1) kr (opensF_slice (e := 66) kr kr kr ih)
  obtain ⟨a14, c14, e14, f14⟩ := h14
  exact ⟨⟨x0, x1, x2, x3, x4, x5, x6, x7, x8, x9, x10, x11, x12, x13, x14⟩, Q_qS_iff.2 ⟨⟨⟨a4, c4⟩, ⟨a5, c5⟩, ⟨a6, c6⟩, ⟨a7, c7⟩, v8, ⟨a9, c9⟩, ⟨a10, c10⟩, ⟨a14, c14⟩⟩, (cut e0 (cut e1 (cut e2 (cut e3 (cut e4 (cut e5 (cut e6 (cut e7 (cut e8 (cut e9 (cut e10 (cut e11 (cut e12 (cut e13 (cut e14 (opens_len kr h (n := 21) kr)))))))))))))))), ⟨f4, f5, f6, f7, f8, f9, f10, f14⟩⟩, trivial⟩
theorem opensQ_qS : Opens P 66 Q_qS wf_qS := OpensF.all opensF_qS
theorem opens_qS : Opens P 66 R_qS wf_qS := fun H enc w fuel cs x h => let ⟨a, h1, h2⟩ := opensQ_qS H enc w fuel cs x h; ⟨a, Q_qS_iff.1 h1, h2⟩
def wf_law19_Act (x : law19_Act) : Prop := wf_qS x.S ∧ (fun s => s.size ≤ maxLen) x.By
theorem opens_law19_Act : Opens P 71 R_law19_Act wf_law19_Act := by
  intro H enc w fuel cs x h
  obtain ⟨x0, h0, w0⟩ := opens_field kr h 0 (ft := 66) (off := 0) (sz := 21) kr opens_qS
  obtain ⟨v0, e0, f0⟩ := h0
  obtain ⟨x1, h1, w1⟩ := opens_field kr h 1 (ft := 9) (off := 21) (sz := 1) kr (opens_str kr)
  have e1 := h1
  exact ⟨⟨x0, x1⟩, ⟨⟨v0⟩, (cut e0 (cut e1 (opens_len kr h (n := 22) kr))), ⟨f0⟩⟩, ⟨w0, w1⟩⟩
def wf_law32_Asked (x : law32_Asked) : Prop := (fun s => s.size ≤ maxLen) x.Role ∧ (fun s => s.size ≤ maxLen) x.Table ∧ (fun n => IntKind.min .i64 ≤ n ∧ n ≤ IntKind.max .i64) x.Priv
theorem opens_law32_Asked : Opens P 25 R_law32_Asked wf_law32_Asked := by
  intro H enc w fuel cs x h
  obtain ⟨x0, h0, w0⟩ := opens_field kr h 0 (ft := 9) (off := 0) (sz := 1) kr (opens_str kr)
  have e0 := h0
  obtain ⟨x1, h1, w1⟩ := opens_field kr h 1 (ft := 9) (off := 1) (sz := 1) kr (opens_str kr)
  have e1 := h1
  obtain ⟨x2, h2, w2⟩ := opens_field kr h 2 (ft := 3) (off := 2) (sz := 1) kr (opens_int kr)
  have e2 := h2
  exact ⟨⟨x0, x1, x2⟩, (cut e0 (cut e1 (cut e2 (opens_len kr h (n := 3) kr)))), ⟨w0, w1, w2⟩⟩
abbrev Role := qJ
theorem keq : KEq sEq := fun a b => by
  rw [sEq_data]
  constructor
  · intro h
    have h := eq_of_beq h
    cases a; cases b
    simp only at h
    congr
    exact Array.toList_inj.1 h
  · rintro rfl
    simp
theorem at_eq (l : List Role) (n : By8) : member_at l n = some (match l.findIdx? (fun x => sEq x.Name n) with | some j => (j : Int) | none => -1) := by
  unfold member_at slices_IndexFunc_qJ
  rw [forN_find (fun x : Role => sEq x.Name n) (fun j => (j : Int))]
  · cases l.findIdx? (fun x => sEq x.Name n) <;> rfl
  · intro j x hx
    simp only [idx_nat, hx, obs]
    unfold member_at_1
    simp only [obs]
    cases sEq x.Name n <;> rfl
theorem at_spec (l : List Role) (n : By8) : ((∀ y ∈ l, y.Name ≠ n) ∧ member_at l n = some (-1)) ∨ ∃ A x B, l = A ++ x :: B ∧ x.Name = n ∧ (∀ y ∈ A, y.Name ≠ n) ∧ member_at l n = some (A.length : Int) := by
  rw [at_eq]
  rcases find_cases (fun x : Role => sEq x.Name n) l with ⟨h, e⟩ | ⟨A, x, B, h1, h2, h3, h4⟩
  · left
    refine ⟨fun y hy e1 => ?_, by rw [e]⟩
    have := h y hy
    rw [(keq _ _).2 e1] at this
    cases this
  · right
    refine ⟨A, x, B, h1, (keq _ _).1 h2, fun y hy e1 => ?_, by rw [h4]⟩
    have := h3 y hy
    rw [(keq _ _).2 e1] at this
    cases this
def ins (l : List Role) (n : By8) : List By8 := ((l.find? fun x => sEq x.Name n).map (·.In)).getD []
def has (l : List Role) (n : By8) : Prop := ∃ x ∈ l, x.Name = n
theorem at_has (l : List Role) (n : By8) : ∃ i, member_at l n = some i ∧ (0 ≤ i ↔ has l n) := by
  rcases at_spec l n with ⟨h, e⟩ | ⟨A, x, B, h1, h2, h3, h4⟩
  · exact ⟨_, e, ⟨fun hi => by omega, fun ⟨x, hx, hn⟩ => absurd hn (h x hx)⟩⟩
  · exact ⟨_, h4, ⟨fun _ => ⟨x, by rw [h1]; simp, h2⟩, fun _ => by omega⟩⟩
theorem find_eq (l : List Role) (n : By8) (hs : ∀ x ∈ l, x.In.length ≤ 1000) : ∃ r b, member_Find l n = some (r, b) ∧ r.In = ins l n ∧ (b = true ↔ has l n) ∧ (b = true → r.Name = n) := by
  unfold member_Find
  rcases at_spec l n with ⟨h, e⟩ | ⟨A, x, B, h1, h2, h3, h4⟩
  · rw [e]
    refine ⟨z_qJ, false, rfl, ?_, ?_, by simp⟩
    · unfold ins
      rw [List.find?_eq_none.2]
      · rfl
      · intro y hy hn
        exact h y hy ((keq _ _).1 hn)
    · constructor
      · intro hb; cases hb
      · rintro ⟨x, hx, hn⟩; exact absurd hn (h x hx)
  · rw [h4]
    simp only [obs]
    rw [show decide ((A.length : Int) < 0) = false by simp]
    have hx : idx l (A.length : Int) = some x := by
      rw [h1, idx_nat, List.getElem?_append_right (Nat.le_refl _), Nat.sub_self]
      rfl
    simp only [cond_false]
    rw [hx]
    simp only [obs]
    have hxl : x ∈ l := by rw [h1]; simp
    have hc : slices_Clone_string x.In = some x.In := by
      unfold slices_Clone_string
      have := hs x hxl
      rw [app_le (by simp; omega)]
      rfl
    rw [hc]
    refine ⟨{ x with In := x.In }, true, rfl, ?_, ⟨fun _ => ⟨x, hxl, h2⟩, fun _ => rfl⟩, fun _ => h2⟩
    unfold ins
    rw [h1, List.find?_append, List.find?_eq_none.2]
    · simp [(keq _ _).2 h2]
    · intro y hy hn
      exact h3 y hy ((keq _ _).1 hn)
inductive Rch (l : List Role) (n : By8) : By8 → Prop
  | self : Rch l n n
  | step {a b : By8} : Rch l n a → b ∈ ins l a → has l b → Rch l n b
structure Up (l : List Role) (n : By8) (g : Bool) (all : List (By8 × Bool)) : Prop where
  nd : (all.map (·.1)).Nodup
  self : n ∈ all.map (·.1)
  so : ∀ k ∈ all.map (·.1), Rch l n k ∧ has l k
  tr : ∀ k, (mget sEq all k).getD false = true ↔ k ∈ all.map (·.1)
  cl : g = false → ∀ a ∈ all.map (·.1), ∀ b ∈ ins l a, has l b → b ∈ all.map (·.1)
theorem Up.len {l : List Role} {n : By8} {g : Bool} {all : List (By8 × Bool)} (h : Up l n g all) : all.length ≤ l.length := by
  have := List.Nodup.length_le_of_subset (l₂ := l.map (·.Name)) h.nd (fun k hk => by
    obtain ⟨x, hx, e⟩ := (h.so k hk).2
    exact List.mem_map.2 ⟨x, hx, e⟩)
  simpa using this
theorem tr_set {all : List (By8 × Bool)} (h : ∀ k, (mget sEq all k).getD false = true ↔ k ∈ all.map (·.1)) (b : By8) : ∀ k, (mget sEq (mset sEq all b true) k).getD false = true ↔ k ∈ (mset sEq all b true).map (·.1) := by
  intro k
  rw [mget_mset keq, mset_mem keq]
  by_cases e : k = b
  · subst e
    rw [keq.refl]
    simp
  · rw [keq.ne e]
    simp only [cond_false]
    rw [h]
    constructor
    · exact .inr
    · rintro (h1 | h1)
      · exact absurd h1 e
      · exact h1
theorem put_all (more : List By8) (all : List (By8 × Bool)) : forE (fun (i53 : Nat) (s52 : List (By8 × Bool)) => (idx more (i53 : Int)).bind (fun (x61 : By8) => some (mset sEq s52 x61 true))) more.length 0 all = some (more.foldl (fun s x => mset sEq s x true) all) :=
  forE_list (fun s x => mset sEq s x true) fun j x s hx => by rw [idx_nat, hx]; rfl
theorem fold_spec {more : List By8} : ∀ {all : List (By8 × Bool)}, (all.map (·.1)).Nodup → (∀ k, (mget sEq all k).getD false = true ↔ k ∈ all.map (·.1)) →
    ((more.foldl (fun s x => mset sEq s x true) all).map (·.1)).Nodup ∧ (∀ k, (mget sEq (more.foldl (fun s x => mset sEq s x true) all) k).getD false = true ↔ k ∈ (more.foldl (fun s x => mset sEq s x true) all).map (·.1)) ∧
    ∀ k, k ∈ (more.foldl (fun s x => mset sEq s x true) all).map (·.1) ↔ k ∈ more ∨ k ∈ all.map (·.1) := by
  induction more with
  | nil => intro all h1 h2; exact ⟨h1, h2, fun k => by simp⟩
  | cons b more ih =>
    intro all h1 h2
    obtain ⟨g1, g2, g3⟩ := ih (all := mset sEq all b true) (mset_nodup keq h1 b true) (tr_set h2 b)
    refine ⟨g1, g2, fun k => ?_⟩
    rw [List.foldl_cons, g3, mset_mem keq, List.mem_cons]
    constructor
    · rintro (h | h | h)
      · exact .inl (.inr h)
      · exact .inl (.inl h)
      · exact .inr h
    · rintro ((h | h) | h)
      · exact .inr (.inl h)
      · exact .inl h
      · exact .inr (.inr h)
theorem ex_inl {α τ : Type} {m : Option (α ⊕ τ)} {G : α → Prop} (h : Ret m (fun y => ∃ s', y = .inl s' ∧ G s')) : ∃ s', m = some (.inl s') ∧ G s' := by
  obtain ⟨y, e, s', rfl, hg⟩ := h.ex
  exact ⟨s', e, hg⟩
theorem more_all {l : List Role} {n : By8} {g : Bool} {all : List (By8 × Bool)} (h : Up l n g all) (hl : l.length ≤ 100) (hi : ∀ x ∈ l, x.In.length ≤ 100) (Q : (List By8) ⊕ Unit → Prop)
    (hq : ∀ more : List By8, (∀ b ∈ more, b ∉ all.map (·.1) ∧ ∃ a ∈ all.map (·.1), b ∈ ins l a ∧ has l b) → (∀ a ∈ all.map (·.1), ∀ b ∈ ins l a, has l b → b ∈ all.map (·.1) ∨ b ∈ more) → Q (.inl more)) :
    rangeM (τ := Unit) (fun (k71 : By8) (x72 : Bool) (s33 : List By8) => (member_Find l k71).bind (fun ((r91, r92) : qJ × Bool) => (forE (fun (i103 : Nat) (s102 : List By8) => (idx r91.In (i103 : Int)).bind (fun (x114 : By8) => (some ((mget sEq all x114).getD false)).bind (fun (x115 : Bool) => ((bif (!x115) then (member_at l x114).bind (fun (r125 : Int) => some (decide (r125 ≥ 0))) else some false)).bind (fun (j116 : Bool) => ((bif j116 then (app 16 s102 ([x114] : List By8)).bind (fun (x140 : List By8) => some x140) else some s102)).bind (fun (j128 : List By8) => some j128))))) r91.In.length 0 s33).bind (fun (s102 : (List By8)) => some (.inl s102)))) all ([] : List By8) Q := by
  have hins : ∀ a, (ins l a).length ≤ 100 := by
    intro a
    unfold ins
    cases hf : l.find? (fun x => sEq x.Name a) with
    | none => simp
    | some x => simpa using hi x (List.mem_of_find?_eq_some hf)
  have hal := h.len
  refine rangeM_inv (fun vis s => s.length ≤ vis.length * 100 ∧ (∀ b ∈ s, b ∉ all.map (·.1) ∧ ∃ a ∈ all.map (·.1), b ∈ ins l a ∧ has l b) ∧ ∀ a ∈ vis.map (·.1), ∀ b ∈ ins l a, has l b → b ∈ all.map (·.1) ∨ b ∈ s) ⟨by simp, by simp, by simp⟩ ?_ ?_
  · rintro vis k x rem s hp ⟨h1, h2, h3⟩
    have hk : k ∈ all.map (·.1) := List.mem_map.2 ⟨(k, x), hp.mem_iff.1 (by simp), rfl⟩
    have hvl : vis.length ≤ 100 := by have := hp.length_eq; simp at this; omega
    obtain ⟨r, b, e, hr, _, _⟩ := find_eq l k (fun x hx => by have := hi x hx; omega)
    rw [e]
    simp only [obs]
    have hrl : r.In.length ≤ 100 := by rw [hr]; exact hins k
    refine ex_inl (yd (R := fun (s' : List By8) => s'.length ≤ s.length + r.In.length ∧ (∀ b ∈ s', b ∉ all.map (·.1) ∧ ∃ a ∈ all.map (·.1), b ∈ ins l a ∧ has l b) ∧ (∀ b ∈ s, b ∈ s') ∧ ∀ b ∈ r.In.take r.In.length, has l b → b ∈ all.map (·.1) ∨ b ∈ s') (forE_ret (fun i (s' : List By8) => s'.length ≤ s.length + i ∧ (∀ b ∈ s', b ∉ all.map (·.1) ∧ ∃ a ∈ all.map (·.1), b ∈ ins l a ∧ has l b) ∧ (∀ b ∈ s, b ∈ s') ∧ ∀ b ∈ r.In.take i, has l b → b ∈ all.map (·.1) ∨ b ∈ s') ⟨by simp, h2, fun b hb => hb, by simp⟩ ?_) ?_)
    · rintro i s' hi2 ⟨g1, g2, g3, g4⟩
      have hx : r.In[i]? = some r.In[i] := gE hi2
      simp only [idx_nat, hx, obs]
      obtain ⟨p, hp1, hp2⟩ := at_has l r.In[i]
      refine yd (R := fun j => j = true ↔ r.In[i] ∉ all.map (·.1) ∧ has l r.In[i]) ?_ ?_
      · cases hm : (mget sEq all r.In[i]).getD false with
        | true =>
          refine yc ?_
          simp only [Bool.false_eq_true, false_iff]
          exact fun hh => hh.1 ((h.tr _).1 hm)
        | false =>
          simp only [Bool.not_false, cond_true]
          rw [hp1]
          refine yc ?_
          rw [decide_eq_true_eq, ge_iff_le, hp2]
          constructor
          · intro hh
            refine ⟨fun hin => ?_, hh⟩
            rw [(h.tr _).2 hin] at hm
            cases hm
          · exact fun hh => hh.2
      rintro j hj
      cases j with
      | true =>
        simp only [cond_true]
        rw [app_le (by simp; omega)]
        have hj' := hj.1 rfl
        refine yc ⟨by simp; omega, fun b hb => ?_, fun b hb => List.mem_append_left _ (g3 b hb), fun b hb hh => ?_⟩
        · rw [List.mem_append, List.mem_singleton] at hb
          rcases hb with hb | rfl
          · exact g2 b hb
          · exact ⟨hj'.1, k, hk, by rw [← hr]; exact List.getElem_mem hi2, hj'.2⟩
        · rw [take_snoc hx, List.mem_append, List.mem_singleton] at hb
          rcases hb with hb | rfl
          · rcases g4 b hb hh with q | q
            · exact .inl q
            · exact .inr (List.mem_append_left _ q)
          · exact .inr (by simp)
      | false =>
        refine yc ⟨by omega, g2, g3, fun b hb hh => ?_⟩
        rw [take_snoc hx, List.mem_append, List.mem_singleton] at hb
        rcases hb with hb | rfl
        · exact g4 b hb hh
        · refine .inl (Classical.byContradiction fun hn => ?_)
          have := hj.2 ⟨hn, hh⟩
          cases this
    · rintro s' ⟨g1, g2, g3, g4⟩
      rw [List.take_length] at g4
      refine yc ⟨s', rfl, by simp; omega, g2, fun a ha b hb hh => ?_⟩
      rw [List.map_append, List.mem_append] at ha
      rcases ha with ha | ha
      · rcases h3 a ha b hb hh with q | q
        · exact .inl q
        · exact .inr (g3 b q)
      · simp at ha
        subst ha
        exact g4 b (by rw [hr]; exact hb) hh
  · rintro vis s hp ⟨_, h2, h3⟩
    exact hq s h2 fun a ha => h3 a (by rw [(hp.map (·.1)).mem_iff]; exact ha)
theorem sortS_perm (xs : List By8) : (sortS xs).Perm xs := by
  unfold sortS
  refine ((List.mergeSort_perm _ _).map ub).trans ?_
  rw [List.map_map]
  have : xs.map (ub ∘ bs) = xs := by
    have : ub ∘ bs = id := funext ub_bs
    rw [this, List.map_id]
  rw [this]
theorem bl_lt : ∀ (x y : List UInt8), Op.bytesLess x y = decide (x < y)
  | _, [] => by simp [Op.bytesLess]
  | [], y :: ys => by simp [Op.bytesLess]
  | x :: xs, y :: ys => by
    simp only [Op.bytesLess, bl_lt xs ys]
    rw [Bool.eq_iff_iff]
    simp only [List.cons_lt_cons_iff, decide_eq_true_eq, Bool.or_eq_true, Bool.and_eq_true, beq_iff_eq]
theorem sorted (xs : List By8) : (sortS xs).Pairwise (fun a b => sLt b a = false) := by
  unfold sortS
  rw [List.pairwise_map]
  refine (List.pairwise_mergeSort ?_ ?_ _).imp ?_
  · intro a b c h1 h2
    simp only [decide_eq_true_eq] at h1 h2 ⊢
    exact List.le_trans h1 h2
  · intro a b
    simp only [Bool.or_eq_true, decide_eq_true_eq]
    exact List.le_total a b
  · intro a b h
    have h := of_decide_eq_true h
    rw [sLt_data]
    show Op.bytesLess (bs (ub b)) (bs (ub a)) = false
    rw [bs_ub, bs_ub]
    cases hb : Op.bytesLess b a with
    | false => rfl
    | true =>
      exfalso
      have : b < a := by
        have e := bl_lt b a
        rw [hb] at e
        simpa using e.symm
      exact (List.not_lt.2 h) this
theorem lt_of (a b : By8) (h1 : sLt b a = false) (h2 : a ≠ b) : sLt a b = true := by
  rcases sLt_total a b with h | h | h
  · exact h
  · exact absurd h h2
  · rw [h] at h1; cases h1
theorem condM_of {α : Type} {b : Bool} {x y : M α} {Q : α → Prop} (h1 : b = true → x Q) (h2 : b = false → y Q) : (cond b x y) Q := by cases b; exact h2 rfl; exact h1 rfl
def Good (l : List Role) (n : By8) (r : List By8) : Prop := (has l n → r.Pairwise (fun a b => sLt a b = true) ∧ ∀ k, k ∈ r ↔ Rch l n k) ∧ (¬ has l n → r = [])
theorem all_good {l : List Role} {n : By8} (hl : l.length ≤ 100) (hi : ∀ x ∈ l, x.In.length ≤ 100) (hz : ∀ x ∈ l, x.Name.size ≤ 1000) : member_AllM l n (Good l n) := by
  unfold member_AllM
  obtain ⟨i, e, hi2⟩ := at_has l n
  refine ⟨i, e, ?_⟩
  refine condM_of (fun hd => ?_) (fun hd => ?_)
  · have hn : ¬ has l n := fun hh => by have := hi2.2 hh; simp at hd; omega
    exact ⟨fun hh => absurd hh hn, fun _ => rfl⟩
  · have hn : has l n := hi2.1 (by simp at hd; omega)
    refine loopM_inv (fun s A B hAB h => ?_) (fun (s : Bool × List (By8 × Bool)) => Up l n s.1 s.2) (fun s => 2 * (l.length + 1 - s.2.length) + (if s.1 then 1 else 0)) ?_ ?_
    · obtain ⟨g, all⟩ := s
      exact (Mono_.cond (Mono_.bind (Mono_.range _ _ _) (fun t => by cases t with | inl s => exact @Mono_.bind _ _ (optM _) (fun _ => retM _) (Mono_.opt _) (fun _ => Mono_.ret _) | inr u => exact Mono_.no)) (Mono_.ret _)) A B hAB h
    · rintro ⟨g, all⟩ h
      simp only at h
      have hlen := h.len
      cases g with
      | true =>
        refine more_all h hl hi _ (fun more h1 h2 => ⟨_, put_all more all, ?_⟩)
        obtain ⟨g1, g2, g3⟩ := fold_spec (more := more) h.nd h.tr
        have hup : Up l n (decide ((more.length : Int) > 0)) (more.foldl (fun s x => mset sEq s x true) all) := by
          refine ⟨g1, (g3 n).2 (.inr h.self), fun k hk => ?_, g2, fun hg a ha b hb hh => ?_⟩
          · rcases (g3 k).1 hk with hk | hk
            · obtain ⟨_, a, ha, hb, hh⟩ := h1 k hk
              exact ⟨.step (h.so a ha).1 hb hh, hh⟩
            · exact h.so k hk
          · have hm : more = [] := by
              cases more with
              | nil => rfl
              | cons x r => simp at hg
            subst hm
            rcases h2 a ha b hb hh with q | q
            · exact q
            · cases q
        refine ⟨hup, ?_⟩
        have hlen2 := hup.len
        simp only [if_true]
        cases more with
        | nil => simp
        | cons x r =>
          have hx := (h1 x (by simp)).1
          have hnd : (x :: all.map (·.1)).Nodup := List.nodup_cons.2 ⟨hx, h.nd⟩
          have := List.Nodup.length_le_of_subset hnd (l₂ := ((x :: r).foldl (fun s x => mset sEq s x true) all).map (·.1)) (fun k hk => by
            rcases List.mem_cons.1 hk with rfl | hk
            · exact (g3 _).2 (.inl (by simp))
            · exact (g3 _).2 (.inr hk))
          simp only [List.length_cons, List.length_map] at this
          split <;> omega
      | false =>
        have hk : keysO all = some (sortS (all.map (·.1))) := by
          unfold keysO
          rw [if_pos ⟨h.nd, by omega, fun k hk => by obtain ⟨x, hx, rfl⟩ := (h.so k hk).2; have := hz x hx; simp only [maxLen]; omega⟩]
        refine ⟨_, hk, fun _ => ⟨?_, fun k => ?_⟩, fun hh => absurd hn hh⟩
        · have hp := sortS_perm (all.map (·.1))
          have hnd : (sortS (all.map (·.1))).Nodup := hp.nodup_iff.2 h.nd
          exact (List.Pairwise.and (sorted _) hnd).imp fun {a b} hab => lt_of a b hab.1 hab.2
        · rw [(sortS_perm _).mem_iff]
          constructor
          · exact fun hk => (h.so k hk).1
          · intro hr
            induction hr with
            | self => exact h.self
            | step _ hb hh ih => exact h.cl rfl _ ih _ hb hh
    · simp only
      refine ⟨by simp [mset_nil], by simp [mset_nil], fun k hk => ?_, tr_set (all := []) (fun k => by simp [mget_nil]) n, fun hg => by cases hg⟩
      simp [mset_nil] at hk
      subst hk
      exact ⟨.self, hn⟩
theorem strict_eq {α : Type} {lt : α → α → Prop} (hi : ∀ x, ¬ lt x x) (ha : ∀ x y, lt x y → ¬ lt y x) : ∀ (a b : List α), a.Pairwise lt → b.Pairwise lt → (∀ n, n ∈ a ↔ n ∈ b) → a = b
  | [], [], _, _, _ => rfl
  | [], y :: b, _, _, h => by have := (h y).2 (by simp); cases this
  | x :: a, [], _, _, h => by have := (h x).1 (by simp); cases this
  | x :: a, y :: b, h1, h2, h => by
    have h1' := List.pairwise_cons.1 h1
    have h2' := List.pairwise_cons.1 h2
    have e : x = y := by
      rcases List.mem_cons.1 ((h x).1 (by simp)) with e | g1
      · exact e
      · rcases List.mem_cons.1 ((h y).2 (by simp)) with e | g2
        · exact e.symm
        · exact absurd (h1'.1 y g2) (ha _ _ (h2'.1 x g1))
    subst e
    rw [strict_eq hi ha a b h1'.2 h2'.2 (fun n => ?_)]
    constructor
    · intro hn
      rcases List.mem_cons.1 ((h n).1 (by simp [hn])) with rfl | g1
      · exact absurd (h1'.1 n hn) (hi n)
      · exact g1
    · intro hn
      rcases List.mem_cons.1 ((h n).2 (by simp [hn])) with rfl | g1
      · exact absurd (h2'.1 n hn) (hi n)
      · exact g1
theorem key_eq {α : Type} (K : α → By8) (a b : List α) (h1 : a.Pairwise (fun u v => sLt (K u) (K v) = true)) (h2 : b.Pairwise (fun u v => sLt (K u) (K v) = true)) (h : ∀ n, n ∈ a ↔ n ∈ b) : a = b :=
  strict_eq (lt := fun u v => sLt (K u) (K v) = true) (fun x h => by rw [sLt_irrefl] at h; cases h) (fun x y h g => by rw [sLt_asymm h] at g; cases g) a b h1 h2 h
theorem Good.uniq {l : List Role} {n : By8} {a b : List By8} (h1 : Good l n a) (h2 : Good l n b) : a = b := by
  by_cases hn : has l n
  · exact key_eq (fun k => k) a b (h1.1 hn).1 (h2.1 hn).1 fun k => ((h1.1 hn).2 k).trans ((h2.1 hn).2 k).symm
  · rw [h1.2 hn, h2.2 hn]
theorem Mono_.loop {σ τ : Type} {step : σ → M (σ ⊕ τ)} (h : ∀ s, Mono_ (step s)) (s : σ) : Mono_ (loopM step s) := by
  rintro Q Q' hq ⟨k, hk⟩
  refine ⟨k, ?_⟩
  induction k generalizing s with
  | zero => exact hk
  | succ k ih =>
    refine h s _ _ ?_ hk
    rintro (s' | t) hx
    · exact ih s' hx
    · exact hq t hx
theorem all_mono (l : List Role) (n : By8) : Mono_ (member_AllM l n) := by
  unfold member_AllM
  refine Mono_.bind (Mono_.opt _) fun i => Mono_.cond (Mono_.ret _) (Mono_.bind (Mono_.loop (fun s => ?_) _) fun t => Mono_.bind (Mono_.opt _) fun _ => Mono_.ret _)
  obtain ⟨g, all⟩ := s
  exact Mono_.cond (Mono_.bind (Mono_.range _ _ _) (fun t => by cases t with | inl s => exact @Mono_.bind _ _ (optM _) (fun _ => retM _) (Mono_.opt _) (fun _ => Mono_.ret _) | inr u => exact Mono_.no)) (Mono_.ret _)
theorem all_meets (l : List Role) (n : By8) : Meets (member_AllM l n) := by
  unfold member_AllM
  refine Meets.bind (Meets.opt _) fun i => Meets.cond (Meets.ret _) (Meets.bind (Meets.loop (fun s => ?_) _) fun t => Meets.bind (Meets.opt _) fun _ => Meets.ret _)
  obtain ⟨g, all⟩ := s
  exact Meets.cond (Meets.bind (Meets.range _ _ _) (fun t => by cases t with | inl s => exact @Meets.bind _ _ (optM _) (fun _ => retM _) (Meets.opt _) (fun _ => Meets.ret _) | inr u => exact Meets.no)) (Meets.ret _)
theorem all_eq {l : List Role} {n : By8} (hl : l.length ≤ 100) (hi : ∀ x ∈ l, x.In.length ≤ 100) (hz : ∀ x ∈ l, x.Name.size ≤ 1000) : ∃ r, member_All l n = some r ∧ Good l n r := by
  have h := all_good (n := n) hl hi hz
  obtain ⟨r, hr, _⟩ := all_meets l n _ _ h h
  exact ⟨r, ofM_eq (all_mono l n _ _ (fun x hx => hx.uniq hr) h) (all_meets l n), hr⟩
abbrev Asc (s : List By8) : Prop := s.Pairwise (fun a b => sLt a b = true)
theorem Asc.drop_lt {s : List By8} (hs : Asc s) {i : Nat} {x y : By8} (h : ∀ z, s[i]? = some z → sLt x z = true) (hy : y ∈ s.drop i) : sLt x y = true := by
  obtain ⟨j, hj⟩ := List.mem_iff_getElem?.1 hy
  rw [List.getElem?_drop] at hj
  have hlt : i < s.length := by have := (List.getElem?_eq_some_iff.1 hj).1; omega
  have hi := h _ (gE hlt)
  cases j with
  | zero => rw [Nat.add_zero] at hj; exact h y hj
  | succ j =>
    obtain ⟨hj1, rfl⟩ := List.getElem?_eq_some_iff.1 hj
    exact sLt_trans hi (List.pairwise_iff_getElem.1 hs i (i + (j + 1)) hlt hj1 om)
theorem Asc.ins {A B : List By8} {x : By8} (hs : Asc (A ++ B)) (h1 : ∀ y ∈ A, sLt y x = true) (h2 : ∀ y ∈ B, sLt x y = true) : Asc (A ++ x :: B) := by
  have h := List.pairwise_append.1 hs
  refine List.pairwise_append.2 ⟨h.1, List.pairwise_cons.2 ⟨h2, h.2.1⟩, fun a ha b hb => ?_⟩
  rcases List.mem_cons.1 hb with rfl | hb
  · exact h1 a ha
  · exact h.2.2 a ha b hb
theorem any_find {xs : List By8} {n : By8} {p : By8 → Bool} (hp : ∀ x, p x = true ↔ x = n) : (xs.findIdx? p).isSome = true ↔ n ∈ xs := by
  rcases find_cases p xs with ⟨h, e⟩ | ⟨A, x, B, h1, h2, h3, h4⟩
  · rw [e]
    refine Iff.intro (fun h => Bool.noConfusion h) (fun hn => ?_)
    have := h n hn
    rw [(hp n).2 rfl] at this
    cases this
  · rw [h4]
    exact ⟨fun _ => by rw [h1, ← (hp x).1 h2]; simp, fun _ => rfl⟩
theorem has_eq (xs : List By8) (n : By8) : ∃ b, r14_Has xs n = some b ∧ (b = true ↔ n ∈ xs) := by
  unfold r14_Has
  rw [forN_find (fun x => sEq x n) (fun _ => true) (fun j x hx => by simp only [idx_nat, hx, obs]; cases sEq x n <;> rfl)]
  have := any_find (xs := xs) (n := n) (p := fun x => sEq x n) (fun x => keq x n)
  cases h : xs.findIdx? (fun x => sEq x n) with
  | none => rw [h] at this; exact ⟨false, rfl, by rw [← this]; simp⟩
  | some j => rw [h] at this; exact ⟨true, rfl, by rw [← this]; simp⟩
theorem contains_eq (xs : List By8) (n : By8) : ∃ b, slices_Contains_string xs n = some b ∧ (b = true ↔ n ∈ xs) := by
  unfold slices_Contains_string slices_Index_string
  rw [forN_find (fun x => sEq n x) (fun j => (j : Int)) (fun j x hx => by simp only [idx_nat, hx, obs]; cases sEq n x <;> rfl)]
  have := any_find (xs := xs) (n := n) (p := fun x => sEq n x) (fun x => (keq n x).trans eq_comm)
  cases h : xs.findIdx? (fun x => sEq n x) with
  | none => rw [h] at this; exact ⟨false, rfl, by rw [← this]; simp⟩
  | some j => rw [h] at this; exact ⟨true, by simp, by rw [← this]; simp⟩
theorem bool_iff {a b : Bool} {p : Prop} (ha : a = true ↔ p) (hb : b = true ↔ p) : a = b := by cases a <;> cases b <;> simp_all
def Sm (l : List Role) : Prop := l.length ≤ 100 ∧ (∀ x ∈ l, x.In.length ≤ 100) ∧ ∀ x ∈ l, x.Name.size ≤ 1000
theorem rat_spec (l : List Role) (n : By8) : ((∀ y ∈ l, y.Name ≠ n) ∧ r18_At l n = some (-1)) ∨ ∃ A x B, l = A ++ x :: B ∧ x.Name = n ∧ (∀ y ∈ A, y.Name ≠ n) ∧ r18_At l n = some (A.length : Int) := by
  have e : r18_At l n = some (match l.findIdx? (fun x => sEq x.Name n) with | some j => (j : Int) | none => -1) := by
    unfold r18_At
    rw [forN_find (fun x : Role => sEq x.Name n) (fun j => (j : Int))]
    · cases l.findIdx? (fun x => sEq x.Name n) <;> rfl
    · intro j x hx
      simp only [idx_nat, hx, obs]
      cases sEq x.Name n <;> rfl
  rw [e]
  rcases find_cases (fun x : Role => sEq x.Name n) l with ⟨h, e⟩ | ⟨A, x, B, h1, h2, h3, h4⟩
  · left
    refine ⟨fun y hy e1 => ?_, by rw [e]⟩
    have := h y hy
    rw [(keq _ _).2 e1] at this
    cases this
  · right
    refine ⟨A, x, B, h1, (keq _ _).1 h2, fun y hy e1 => ?_, by rw [h4]⟩
    have := h3 y hy
    rw [(keq _ _).2 e1] at this
    cases this
def Fst (l : List Role) (k : Nat) (n : By8) : Prop := ∃ A x B, l = A ++ x :: B ∧ x.Name = n ∧ (∀ y ∈ A, y.Name ≠ n) ∧ k = A.length
theorem Fst.get {l : List Role} {k : Nat} {n : By8} (h : Fst l k n) : ∃ x, l[k]? = some x ∧ x.Name = n ∧ x ∈ l ∧ ins l n = x.In := by
  obtain ⟨A, x, B, rfl, h2, h3, rfl⟩ := h
  refine ⟨x, by simp, h2, by simp, ?_⟩
  unfold ins
  rw [List.find?_append, List.find?_eq_none.2]
  · simp [(keq _ _).2 h2]
  · intro y hy hn
    exact h3 y hy ((keq _ _).1 hn)
theorem Fst.lt {l : List Role} {k : Nat} {n : By8} (h : Fst l k n) : k < l.length := by
  obtain ⟨A, x, B, rfl, h2, h3, rfl⟩ := h
  simp
theorem Fst.hs {l : List Role} {k : Nat} {n : By8} (h : Fst l k n) : has l n := by
  obtain ⟨x, _, h2, h3, _⟩ := h.get
  exact ⟨x, h3, h2⟩
theorem Fst.uniq {l : List Role} {j k : Nat} {n : By8} (h1 : Fst l j n) (h2 : Fst l k n) : j = k := by
  obtain ⟨A, x, B, e1, g1, g2, rfl⟩ := h1
  obtain ⟨A', x', B', e2, g1', g2', rfl⟩ := h2
  have e : A ++ x :: B = A' ++ x' :: B' := by rw [← e1, e2]
  rcases List.append_eq_append_iff.1 e with ⟨c, hc1, hc2⟩ | ⟨c, hc1, hc2⟩
  · cases c with
    | nil => simp [hc1]
    | cons z c =>
      simp only [List.cons_append, List.cons.injEq] at hc2
      exact absurd g1 (by rw [hc2.1]; exact g2' z (by rw [hc1]; simp))
  · cases c with
    | nil => simp [hc1]
    | cons z c =>
      simp only [List.cons_append, List.cons.injEq] at hc2
      exact absurd g1' (by rw [hc2.1]; exact g2 z (by rw [hc1]; simp))
theorem Fst.of_has {l : List Role} {n : By8} (h : has l n) : ∃ k, Fst l k n ∧ r18_At l n = some (k : Int) := by
  rcases rat_spec l n with ⟨h1, _⟩ | ⟨A, x, B, h1, h2, h3, h4⟩
  · obtain ⟨x, hx, hn⟩ := h
    exact absurd hn (h1 x hx)
  · exact ⟨A.length, ⟨A, x, B, h1, h2, h3, rfl⟩, h4⟩
theorem rat_none {l : List Role} {n : By8} (h : ¬ has l n) : r18_At l n = some (-1) := by
  rcases rat_spec l n with ⟨_, e⟩ | ⟨A, x, B, h1, h2, _⟩
  · exact e
  · exact absurd ⟨x, by rw [h1]; simp, h2⟩ h
theorem at_same (l : List Role) (n : By8) : member_at l n = r18_At l n := by
  rcases at_spec l n with ⟨h, e⟩ | ⟨A, x, B, h1, h2, h3, h4⟩
  · rw [e, rat_none]
    rintro ⟨x, hx, hn⟩
    exact h x hx hn
  · obtain ⟨k, hk, e⟩ := Fst.of_has (l := l) (n := n) ⟨x, by rw [h1]; simp, h2⟩
    rw [h4, e, hk.uniq ⟨A, x, B, h1, h2, h3, rfl⟩]
structure Sd (l : List Role) (n : By8) (is : List Bool) : Prop where
  len : is.length = l.length
  so : ∀ k : Nat, is[k]? = some true → ∃ a, Fst l k a ∧ Rch l n a ∧ has l n
  self : ∀ k, Fst l k n → is[k]? = some true
def Mon (a b : List Bool) : Prop := ∀ k : Nat, a[k]? = some true → b[k]? = some true
def Cl (l : List Role) (is : List Bool) : Prop := ∀ (k : Nat) (a b : By8) (j : Nat), is[k]? = some true → Fst l k a → b ∈ ins l a → Fst l j b → is[j]? = some true
theorem cnt : ∀ (a b : List Bool), a.length = b.length → Mon a b → a = b ∨ a.count true < b.count true
  | [], [], _, _ => .inl rfl
  | [], _ :: _, h, _ => by cases h
  | _ :: _, [], h, _ => by cases h
  | x :: a, y :: b, h, hm => by
    have ih := cnt a b (by simpa using h) (fun k hk => by simpa using hm (k + 1) (by simpa using hk))
    have h0 := hm 0
    simp only [List.getElem?_cons_zero, Option.some.injEq] at h0
    cases x <;> cases y <;> simp_all <;> rcases ih with rfl | ih <;> omega
theorem mon_set {is : List Bool} {j : Nat} : Mon is (is.set j true) := by
  intro k hk
  rw [List.getElem?_set]
  split
  · rename_i e
    subst e
    have := (List.getElem?_eq_some_iff.1 hk).1
    simp [this]
  · exact hk
theorem Sd.set {l : List Role} {n : By8} {is : List Bool} (h : Sd l n is) {j : Nat} {b : By8} (hj : Fst l j b) (hb : Rch l n b) (hn : has l n) : Sd l n (is.set j true) := by
  refine ⟨by simpa using h.len, fun k hk => ?_, fun k hk => mon_set k (h.self k hk)⟩
  rw [List.getElem?_set] at hk
  split at hk
  · rename_i e
    subst e
    exact ⟨b, hj, hb, hn⟩
  · exact h.so k hk
theorem set_at {l : List Role} {n : By8} {is : List Bool} (h : Sd l n is) {j : Nat} {b : By8} (hj : Fst l j b) : (is.set j true)[j]? = some true := by
  have := hj.lt
  rw [← h.len] at this
  simp [this]
theorem flag_idx {l : List Role} {n : By8} {is : List Bool} (h : Sd l n is) {k : Nat} (hk : k < l.length) : ∃ b, is[k]? = some b := by
  rw [← h.len] at hk
  exact ⟨_, gE hk⟩
theorem ins_has {l : List Role} {a b : By8} (hb : b ∈ ins l a) : has l a := by
  cases hf : l.find? (fun x => sEq x.Name a) with
  | none => unfold ins at hb; rw [hf] at hb; cases hb
  | some y => exact ⟨y, List.mem_of_find?_eq_some hf, (keq _ _).1 (by simpa using List.find?_some hf)⟩
theorem closed_all {l : List Role} {n : By8} {is : List Bool} (hs : Sd l n is) (hc : Cl l is) : ∀ a, Rch l n a → has l a → ∃ j, Fst l j a ∧ is[j]? = some true := by
  intro a ha
  induction ha with
  | self => intro hh; obtain ⟨j, hj, _⟩ := Fst.of_has hh; exact ⟨j, hj, hs.self j hj⟩
  | @step a b hr hb hh ih =>
    intro _
    obtain ⟨k', hk', hf⟩ := ih (ins_has hb)
    obtain ⟨j, hj, _⟩ := Fst.of_has hh
    exact ⟨j, hj, hc k' a b j hf hk' hb hj⟩
theorem reach_spec {l : List Role} {n : By8} (hl : l.length ≤ 100) (hi : ∀ x ∈ l, x.In.length ≤ 100) : Ret (r18_Reach l n) (fun is => Sd l n is ∧ Cl l is) := by
  unfold r18_Reach
  refine ybb (x := l.length) (by unfold mk; rw [if_pos ⟨by omega, by omega⟩]; rfl) ?_
  refine yd (R := fun (r : Int) => (r = -1 ∧ ¬ has l n) ∨ ∃ k : Nat, r = k ∧ Fst l k n) ?_ ?_
  · by_cases hn : has l n
    · obtain ⟨k, hk, e⟩ := Fst.of_has hn
      exact ybo e (.inr ⟨k, rfl, hk⟩)
    · exact ybo (rat_none hn) (.inl ⟨rfl, hn⟩)
  intro r hr
  refine yd (R := fun is => Sd l n is ∧ (has l n → 1 ≤ is.count true)) ?_ ?_
  · rcases hr with ⟨rfl, hn⟩ | ⟨k, rfl, hk⟩
    · refine yc ⟨⟨by simp, fun k hk => ?_, fun k hk => absurd hk.hs hn⟩, fun h => absurd h hn⟩
      rw [List.getElem?_replicate] at hk
      split at hk <;> cases hk
    · rw [show decide ((k : Int) ≥ 0) = true by simp]
      simp only [cond_true]
      have hlt := hk.lt
      rw [idx_nat, List.getElem?_replicate, if_pos hlt]
      simp only [obs, Int.toNat_natCast]
      have hat : ((List.replicate l.length false).set k true)[k]? = some true := by simp [hlt]
      refine yc ⟨⟨by simp, fun j hj => ?_, fun j hj => ?_⟩, fun _ => ?_⟩
      · rw [List.getElem?_set] at hj
        split at hj
        · rename_i e
          subst e
          exact ⟨n, hk, .self, hk.hs⟩
        · rw [List.getElem?_replicate] at hj
          split at hj <;> cases hj
      · rw [hj.uniq hk]; exact hat
      · exact List.count_pos_iff.2 (List.mem_of_getElem? hat)
  rintro is0 ⟨hs0, hc0⟩
  refine yd (R := fun is => Sd l n is ∧ Cl l is) (RB.mono (forE_ret (fun t is => Sd l n is ∧ (Cl l is ∨ (has l n → t + 1 ≤ is.count true))) ⟨hs0, .inr hc0⟩ ?_) ?_) (fun is h => yc h)
  · rintro t is ht ⟨hs, hc⟩
    refine yd (R := fun is' => Sd l n is' ∧ Mon is is' ∧ ∀ k, k < l.length → is[k]? = some true → ∀ a, Fst l k a → ∀ b ∈ ins l a, ∀ j, Fst l j b → is'[j]? = some true) (forE_ret (fun K is' => Sd l n is' ∧ Mon is is' ∧ ∀ k, k < K → is[k]? = some true → ∀ a, Fst l k a → ∀ b ∈ ins l a, ∀ j, Fst l j b → is'[j]? = some true) ⟨hs, fun k hk => hk, fun k hk => absurd hk om⟩ ?_) ?_
    · rintro K s hK ⟨g1, g2, g3⟩
      obtain ⟨x, hx⟩ : ∃ x, l[K]? = some x := ⟨_, gE hK⟩
      have hxl : x.In.length ≤ 100 := hi x (List.mem_of_getElem? hx)
      refine yd (R := fun s' => Sd l n s' ∧ Mon s s' ∧ (s[K]? = some true → ∀ b ∈ x.In, ∀ j, Fst l j b → s'[j]? = some true)) (loopO_rb (fun (u : Int × List Bool) => ∃ J : Nat, u.1 = J ∧ J ≤ x.In.length ∧ Sd l n u.2 ∧ Mon s u.2 ∧ ∀ b ∈ x.In.take J, ∀ j, Fst l j b → u.2[j]? = some true) (fun u => x.In.length - u.1.toNat) ?_ ⟨0, rfl, by omega, g1, fun k hk => hk, by simp⟩) ?_
      · rintro ⟨q, s'⟩ ⟨J, hJ, hJ2, f1, f2, f3⟩
        simp only at hJ f1 f2 f3
        subst hJ
        obtain ⟨bk, hbk⟩ := flag_idx f1 hK
        simp only [idx_nat, hbk, hx, obs]
        cases bk with
        | false =>
          simp only [cond_false, obs]
          refine yc ⟨f1, f2, fun hh => ?_⟩
          have := f2 K hh
          rw [hbk] at this
          cases this
        | true =>
          simp only [cond_true, obs]
          by_cases hlt : J < x.In.length
          · rw [show decide ((J : Int) < (x.In.length : Int)) = true by simp [hlt]]
            have hb : x.In[J]? = some x.In[J] := gE hlt
            simp only [cond_true, idx_nat, hb, obs]
            obtain ⟨a, ha1, ha2, ha3⟩ := f1.so K hbk
            obtain ⟨x', hx', hn', _, hin⟩ := ha1.get
            rw [hx] at hx'
            injection hx' with hx'
            subst hx'
            by_cases hh : has l x.In[J]
            · obtain ⟨k2, hk2, e2⟩ := Fst.of_has hh
              rw [e2]
              obtain ⟨b2, hb2⟩ := flag_idx f1 hk2.lt
              simp only [obs, idx_nat, hb2]
              rw [show decide ((k2 : Int) ≥ 0) = true by simp]
              simp only [cond_true, obs, Int.toNat_natCast]
              refine yc ⟨⟨J + 1, ?_, hlt, f1.set hk2 (.step ha2 (by rw [hin]; exact List.getElem_mem hlt) hh) ha3, fun k hk => mon_set k (f2 k hk), ?_⟩, ?_⟩
              · simp only; rw [w64_id om om]; rfl
              · intro b hb3 j hj
                rw [take_snoc hb, List.mem_append, List.mem_singleton] at hb3
                rcases hb3 with hb3 | rfl
                · exact mon_set j (f3 b hb3 j hj)
                · rw [hj.uniq hk2]; exact set_at f1 hk2
              · simp only; rw [w64_id om om]; omega
            · rw [rat_none hh]
              simp only [obs]
              rw [show decide ((-1 : Int) ≥ 0) = false by decide]
              simp only [cond_false, obs]
              refine yc ⟨⟨J + 1, ?_, hlt, f1, f2, ?_⟩, ?_⟩
              · simp only; rw [w64_id om om]; rfl
              · intro b hb3 j hj
                rw [take_snoc hb, List.mem_append, List.mem_singleton] at hb3
                rcases hb3 with hb3 | rfl
                · exact f3 b hb3 j hj
                · exact absurd hj.hs hh
              · simp only; rw [w64_id om om]; omega
          · rw [show decide ((J : Int) < (x.In.length : Int)) = false by simp; omega]
            simp only [cond_false]
            refine yc ⟨f1, f2, fun _ b hb => f3 b ?_⟩
            rw [List.take_of_length_le om]
            exact hb
      · rintro s' ⟨f1, f2, f3⟩
        refine yc ⟨f1, fun k hk => f2 k (g2 k hk), fun k hk hf a ha b hb j hj => ?_⟩
        by_cases e : k = K
        · subst e
          obtain ⟨x', hx', hn', _, hin⟩ := ha.get
          rw [hx] at hx'
          injection hx' with hx'
          subst hx'
          exact f3 (g2 _ hf) b (by rw [← hin]; exact hb) j hj
        · exact f2 j (g3 k om hf a ha b hb j hj)
    · rintro is' ⟨g1, g2, g3⟩
      refine yc ⟨g1, ?_⟩
      rcases cnt is is' (by rw [hs.len, g1.len]) g2 with rfl | hlt
      · left
        intro k a b j hk ha hb hj
        exact g3 k (by have := (List.getElem?_eq_some_iff.1 hk).1; rw [hs.len] at this; exact this) hk a ha b hb j hj
      · rcases hc with hc | hc
        · exfalso
          have : Mon is' is := by
            intro k hk
            obtain ⟨a, ha1, ha2, ha3⟩ := g1.so k hk
            obtain ⟨j, hj, hf⟩ := closed_all hs hc a ha2 ha1.hs
            rw [ha1.uniq hj]
            exact hf
          rcases cnt is' is (by rw [hs.len, g1.len]) this with e | e
          · rw [e] at hlt; omega
          · omega
        · exact .inr fun hn => by have := hc hn; omega
  · rintro is ⟨hs, hc⟩
    refine ⟨hs, ?_⟩
    rcases hc with hc | hc
    · exact hc
    · by_cases hn : has l n
      · have h1 := hc hn
        have h2 := List.count_le_length (a := true) (l := is)
        rw [hs.len] at h2
        omega
      · intro k a b j hk
        obtain ⟨_, _, _, hh⟩ := hs.so k hk
        exact absurd hh hn
theorem into_spec {s : List By8} {x : By8} (hs : Asc s) (hx : x ∉ s) (hl : s.length ≤ 1000) : ∃ A B, s = A ++ B ∧ (∀ y ∈ A, sLt y x = true) ∧ (∀ y ∈ B, sLt x y = true) ∧ r18_into s x = some (A ++ x :: B) := by
  have h : Ret (r18_into s x) (fun r => ∃ A B, s = A ++ B ∧ (∀ y ∈ A, sLt y x = true) ∧ (∀ y ∈ B, sLt x y = true) ∧ r = A ++ x :: B) := by
    unfold r18_into
    refine yd (R := fun (q : Int) => ∃ i : Nat, q = i ∧ i ≤ s.length ∧ (∀ y ∈ s.take i, sLt y x = true) ∧ ∀ z, s[i]? = some z → sLt x z = true) (loopO_rb (fun (q : Int) => ∃ i : Nat, q = i ∧ i ≤ s.length ∧ ∀ y ∈ s.take i, sLt y x = true) (fun q => s.length - q.toNat) ?_ ⟨0, rfl, by omega, by simp⟩) ?_
    · rintro q ⟨i, rfl, hi, h1⟩
      by_cases hlt : i < s.length
      · rw [show decide ((i : Int) < (s.length : Int)) = true by simp [hlt]]
        have hz : s[i]? = some s[i] := gE hlt
        simp only [cond_true, idx_nat, hz, obs]
        cases hc : sLt s[i] x with
        | true =>
          refine yc ⟨⟨i + 1, by rw [w64_id om om]; rfl, hlt, fun y hy => ?_⟩, by rw [w64_id om om]; omega⟩
          rw [take_snoc hz, List.mem_append, List.mem_singleton] at hy
          rcases hy with hy | rfl
          · exact h1 y hy
          · exact hc
        | false =>
          refine yc ⟨i, rfl, hi, h1, fun z hz' => ?_⟩
          rw [hz] at hz'
          injection hz' with hz'
          subst hz'
          rcases sLt_total s[i] x with h | h | h
          · rw [hc] at h; cases h
          · exact absurd (h ▸ List.getElem_mem hlt) hx
          · exact h
      · rw [show decide ((i : Int) < (s.length : Int)) = false by simp; omega]
        simp only [cond_false, obs]
        refine yc ⟨i, rfl, hi, h1, fun z hz => ?_⟩
        have := (List.getElem?_eq_some_iff.1 hz).1
        omega
    · rintro q ⟨i, rfl, hi, h1, h2⟩
      rw [sub_at (lo := 0) (i := 0) (j := i) rfl rfl om hi, sub_at (i := i) (j := s.length) rfl rfl hi om]
      simp only [obs, List.drop_zero, List.take_length]
      rw [app_le (by simp; omega)]
      simp only [obs, List.nil_append]
      rw [app_le (by simp; omega)]
      simp only [obs]
      rw [app_le (by simp; omega)]
      exact yc ⟨s.take i, s.drop i, (List.take_append_drop i s).symm, h1, fun y hy => hs.drop_lt h2 hy, by simp⟩
  obtain ⟨r, hr, A, B, h1, h2, h3, rfl⟩ := h.ex
  exact ⟨A, B, h1, h2, h3, hr⟩
theorem rall_eq {l : List Role} {n : By8} (hl : l.length ≤ 100) (hi : ∀ x ∈ l, x.In.length ≤ 100) : ∃ r, r18_All l n = some r ∧ Good l n r := by
  refine Ret.ex ?_
  unfold r18_All
  refine yd (reach_spec hl hi) ?_
  rintro is ⟨hs, hc⟩
  refine yd (R := fun r => Asc r ∧ ∀ m, m ∈ r ↔ ∃ k, k < l.length ∧ is[k]? = some true ∧ ∃ x, l[k]? = some x ∧ x.Name = m) (forE_ret (fun K r => Asc r ∧ r.length ≤ K ∧ ∀ m, m ∈ r ↔ ∃ k, k < K ∧ is[k]? = some true ∧ ∃ x, l[k]? = some x ∧ x.Name = m) ⟨List.Pairwise.nil, Nat.le_refl _, fun m => by simp⟩ ?_ |>.mono fun r h => ⟨h.1, h.2.2⟩) ?_
  · rintro K r hK ⟨g1, g2, g3⟩
    obtain ⟨b, hb⟩ := flag_idx hs hK
    have hx : l[K]? = some l[K] := gE hK
    simp only [idx_nat, hb, hx, obs]
    cases b with
    | false =>
      refine yc ⟨g1, by omega, fun m => (g3 m).trans ⟨fun ⟨k, h1, h2⟩ => ⟨k, by omega, h2⟩, fun ⟨k, h1, h2, h3⟩ => ⟨k, ?_, h2, h3⟩⟩⟩
      have : k ≠ K := by rintro rfl; rw [hb] at h2; cases h2
      omega
    | true =>
      obtain ⟨a, ha, _, _⟩ := hs.so K hb
      have hn : l[K].Name ∉ r := by
        intro hm
        obtain ⟨k, h1, h2, x, h3, h4⟩ := (g3 _).1 hm
        obtain ⟨a', ha', _, _⟩ := hs.so k h2
        obtain ⟨y, hy1, hy2, _⟩ := ha.get
        obtain ⟨y', hy1', hy2', _⟩ := ha'.get
        rw [hx] at hy1; injection hy1 with hy1
        rw [h3] at hy1'; injection hy1' with hy1'
        subst hy1 hy1'
        rw [h4, hy2] at hy2'
        subst hy2'
        have := ha.uniq ha'
        omega
      obtain ⟨A, B, e, e1, e2, e3⟩ := into_spec g1 hn om
      simp only [cond_true]
      rw [e3]
      refine yc ⟨(e ▸ g1 : Asc (A ++ B)).ins e1 e2, by rw [e] at g2; simp at g2 ⊢; omega, fun m => ?_⟩
      have : m ∈ A ++ l[K].Name :: B ↔ m = l[K].Name ∨ m ∈ r := by rw [e]; simp only [List.mem_append, List.mem_cons]; exact ⟨fun h => by rcases h with h | h | h <;> simp [h], fun h => by rcases h with h | h | h <;> simp [h]⟩
      rw [this, g3]
      constructor
      · rintro (rfl | ⟨k, h1, h2⟩)
        · exact ⟨K, by omega, hb, _, hx, rfl⟩
        · exact ⟨k, by omega, h2⟩
      · rintro ⟨k, h1, h2, x, h3, h4⟩
        by_cases e : k = K
        · subst e
          rw [hx] at h3; injection h3 with h3
          exact .inl (by rw [h3]; exact h4.symm)
        · exact .inr ⟨k, by omega, h2, x, h3, h4⟩
  · rintro r ⟨h1, h2⟩
    refine yc ⟨fun hn => ⟨h1, fun m => ?_⟩, fun hn => ?_⟩
    · rw [h2]
      constructor
      · rintro ⟨k, g1, g2, x, g3, g4⟩
        obtain ⟨a, ha, hr, _⟩ := hs.so k g2
        obtain ⟨y, hy1, hy2, _⟩ := ha.get
        rw [g3] at hy1; injection hy1 with hy1
        subst hy1
        rw [← g4, hy2]
        exact hr
      · intro hr
        have hm : has l m := by cases hr with | self => exact hn | step _ _ h => exact h
        obtain ⟨j, hj, hf⟩ := closed_all hs hc m hr hm
        obtain ⟨y, hy1, hy2, _⟩ := hj.get
        exact ⟨j, hj.lt, hf, y, hy1, hy2⟩
    · cases r with
      | nil => rfl
      | cons m r =>
        obtain ⟨k, g1, g2, _⟩ := (h2 m).1 (by simp)
        obtain ⟨_, _, _, hh⟩ := hs.so k g2
        exact absurd hh hn
theorem contains_has (xs : List By8) (n : By8) : slices_Contains_string xs n = r14_Has xs n := by
  obtain ⟨a, ha, ha'⟩ := contains_eq xs n
  obtain ⟨b, hb, hb'⟩ := has_eq xs n
  rw [ha, hb, bool_iff ha' hb']
theorem all_same {l : List Role} (h : Sm l) (n : By8) : member_All l n = r18_All l n := by
  obtain ⟨a, ha, ga⟩ := all_eq (n := n) h.1 h.2.1 h.2.2
  obtain ⟨b, hb, gb⟩ := rall_eq (n := n) h.1 h.2.1
  rw [ha, hb, ga.uniq gb]
theorem is_same {l : List Role} (h : Sm l) (n o : By8) : member_Is l n o = r18_Is l n o := by
  unfold member_Is r18_Is
  rw [all_same h]
  simp only [contains_has]
theorem sAt_some {s : By8} {i : Int} (h0 : 0 ≤ i) (h1 : i < (s.size : Int)) : ∃ c, sAt s i = some c := by
  unfold sAt
  simp [h0, h1]
def Sml (c : Int) : Prop := 97 ≤ c ∧ c ≤ 122
def Wrd (c : Int) : Prop := (97 ≤ c ∧ c ≤ 122) ∨ (48 ≤ c ∧ c ≤ 57) ∨ c = 95
def Nmd (s : By8) : Prop := s.size ≤ 12 ∧ (∃ c, sAt s 0 = some c ∧ Sml c) ∧ ∀ (i : Nat) (c : Int), sAt s (i : Int) = some c → Wrd c
theorem sAt_lt {s : By8} {i : Nat} {c : Int} (h : sAt s (i : Int) = some c) : i < s.size := by
  unfold sAt at h
  rw [if_pos om, Int.toNat_natCast] at h
  cases hx : s[i]? with
  | none => rw [hx] at h; cases h
  | some b => exact (getElem?_eq_some_iff.1 hx).1
theorem size_pos {s : By8} (h : sEq s eB = false) : 0 < s.size := by
  rcases Nat.eq_zero_or_pos s.size with h0 | h0
  · exfalso
    have : s = eB := by
      cases s with
      | mk d => congr 1; exact Array.eq_empty_of_size_eq_zero h0
    rw [this, keq.refl] at h
    cases h
  · exact h0
theorem Nmd.pos {s : By8} (h : Nmd s) : 0 < s.size := by
  obtain ⟨_, ⟨c, hc, _⟩, _⟩ := h
  exact sAt_lt (i := 0) hc
theorem rall_spec {s t : By8} {f : Nat} (hs : s.size ≤ 100000) (ht : t.size ≤ 1000) : Ret (r09_all s (f : Int) t) (fun b => b = true ↔ ∀ (i : Nat) c, f ≤ i → sAt s (i : Int) = some c → ∃ j : Nat, sAt t (j : Int) = some c) := by
  unfold r09_all
  refine yd (R := fun r => (r = .inl false ∧ ∃ (i : Nat) (c : Int), f ≤ i ∧ sAt s (i : Int) = some c ∧ ∀ j : Nat, sAt t (j : Int) ≠ some c) ∨ (r = .inr () ∧ ∀ (i : Nat) c, f ≤ i → sAt s (i : Int) = some c → ∃ j : Nat, sAt t (j : Int) = some c)) (loopO_rb (fun (q : Int) => ∃ k : Nat, q = (k : Int) ∧ f ≤ k ∧ (k ≤ s.size ∨ k = f) ∧ ∀ (i : Nat) c, f ≤ i → i < k → sAt s (i : Int) = some c → ∃ j : Nat, sAt t (j : Int) = some c) (fun q => s.size + f + 1 - q.toNat) ?_ ⟨f, rfl, Nat.le_refl _, .inr rfl, by omega⟩) ?_
  · rintro q ⟨k, rfl, h1, h2, h3⟩
    refine yi (fun hc => ?_) (fun hc => yc (.inr ⟨rfl, fun i c hi hic => h3 i c hi (by have := sAt_lt hic; simp at hc; omega) hic⟩))
    have hk : k < s.size := by simp at hc; omega
    obtain ⟨c, hc⟩ := sAt_some (s := s) (i := (k : Int)) om om
    refine yd (R := fun b => b = true ↔ ∃ j : Nat, sAt t (j : Int) = some c) (loopO_rb (fun (q : Bool × Int) => ∃ j : Nat, q.2 = (j : Int) ∧ j ≤ t.size ∧ (q.1 = true ↔ ∃ m : Nat, m < j ∧ sAt t (m : Int) = some c)) (fun q => t.size - q.2.toNat) ?_ ⟨0, rfl, by omega, by simp⟩) ?_
    · rintro ⟨b, q⟩ ⟨j, g1, g2, g3⟩
      simp only at g1 g3
      subst g1
      refine yi (fun hj => ?_) (fun hj => yc ?_)
      · have hj : j < t.size := by simp at hj; omega
        obtain ⟨d, hd⟩ := sAt_some (s := t) (i := (j : Int)) om om
        simp only [hd, hc, obs]
        refine yd (R := fun b' => b' = true ↔ b = true ∨ d = c) (yi (fun e => yc (by simp [e])) (fun e => yc (by simp [e]))) ?_
        intro b' hb'
        refine yc ⟨⟨j + 1, by simp only; rw [w64_id om om]; rfl, hj, ?_⟩, by simp only; rw [w64_id om om]; omega⟩
        simp only
        rw [hb', g3]
        constructor
        · rintro (⟨m, h, e⟩ | rfl)
          · exact ⟨m, by omega, e⟩
          · exact ⟨j, by omega, hd⟩
        · rintro ⟨m, h, e⟩
          by_cases hm : m = j
          · subst hm; rw [hd] at e; injection e with e; exact .inr e
          · exact .inl ⟨m, by omega, e⟩
      · have : j = t.size := by simp at hj; omega
        subst this
        refine g3.trans ?_
        constructor
        · rintro ⟨m, _, e⟩; exact ⟨m, e⟩
        · rintro ⟨m, e⟩; exact ⟨m, sAt_lt e, e⟩
    · intro b hb
      refine yi (fun e => yc (.inl ⟨rfl, k, c, h1, hc, fun j hj => ?_⟩)) (fun e => yc ⟨⟨k + 1, by rw [w64_id om om]; rfl, by omega, .inl hk, fun i d hi hik hd => ?_⟩, by rw [w64_id om om]; omega⟩)
      · rw [hb.2 ⟨j, hj⟩] at e; cases e
      · by_cases hm : i = k
        · subst hm; rw [hc] at hd; injection hd with hd; subst hd; exact hb.1 (by simpa using e)
        · exact h3 i d hi om hd
  · rintro r (⟨rfl, i, c, h1, h2, h3⟩ | ⟨rfl, h⟩)
    · exact yc ⟨fun h => (by cases h), fun h => by obtain ⟨j, hj⟩ := h i c h1 h2; exact absurd hj (h3 j)⟩
    · exact yc ⟨fun _ => h, fun _ => rfl⟩
def nums (t : By8) : List Int := t.data.toList.map fun b => (b.toNat : Int)
theorem sAt_nums (t : By8) (c : Int) : (∃ j : Nat, sAt t (j : Int) = some c) ↔ c ∈ nums t := by
  have key : ∀ j : Nat, sAt t (j : Int) = (nums t)[j]? := fun j => by
    unfold sAt nums
    rw [if_pos om, Int.toNat_natCast, List.getElem?_map, Array.getElem?_toList]
    rfl
  rw [List.mem_iff_getElem?]
  constructor <;> rintro ⟨j, hj⟩ <;> exact ⟨j, by rw [← hj, key]⟩
theorem first_at {s : By8} (h0 : 0 < s.size) (i : Nat) (c : Int) : sAt (s.extract 0 1) (i : Int) = some c ↔ i = 0 ∧ sAt s 0 = some c := by
  have hs : (s.extract 0 1).size = 1 := by rw [ByteArray.size_extract]; omega
  constructor
  · intro h
    have hi := sAt_lt h
    have hi0 : i = 0 := by omega
    subst hi0
    refine ⟨rfl, ?_⟩
    unfold sAt at h ⊢
    rw [if_pos om] at h ⊢
    rw [← h]
    congr 1
    rw [Int.toNat_natCast]
    show s[0]? = _
    rw [getElem?_pos s 0 h0, getElem?_pos (s.extract 0 1) 0 om, ByteArray.getElem_extract]
  · rintro ⟨rfl, h⟩
    unfold sAt at h ⊢
    rw [if_pos om] at h ⊢
    rw [← h]
    congr 1
    rw [Int.toNat_natCast]
    show _ = s[0]?
    rw [getElem?_pos s 0 h0, getElem?_pos (s.extract 0 1) 0 om, ByteArray.getElem_extract]
theorem plain_ret {s : By8} (hs : s.size ≤ 100000) : ∃ b, r03_Plain s = some b := by
  refine Ret.ex (Q := fun _ => True) ?_ |>.imp fun r h => h.1
  unfold r03_Plain
  refine yd (loopO_rb (Q := fun _ => True) (fun (q : Int) => 0 ≤ q ∧ q ≤ (s.size : Int)) (fun q => ((s.size : Int) - q).toNat) ?_ ⟨by omega, by omega⟩) (fun t _ => by cases t <;> exact yc trivial)
  rintro q ⟨h1, h2⟩
  refine yi (fun hc => ?_) rt
  have hq : q < (s.size : Int) := by simpa using hc
  obtain ⟨c, hc⟩ := sAt_some h1 hq
  rw [hc]
  simp only [obs]
  refine yd (R := fun _ => True) (yi rt rt) (fun b _ => yi rt (fun _ => yc ⟨⟨?_, ?_⟩, ?_⟩)) <;> rw [w64_id om om] <;> omega
theorem rquoted_ret {s : By8} (hs : s.size ≤ 100000) (h0 : 0 < s.size) : ∃ b, r09_quoted s = some b := by
  refine Ret.ex (Q := fun _ => True) ?_ |>.imp fun r h => h.1
  unfold r09_quoted
  have hw : w64 ((s.size : Int) - 1) = ((s.size - 1 : Nat) : Int) := by rw [w64_id om om]; omega
  rw [hw]
  obtain ⟨c0, hc0⟩ := sAt_some (s := s) (i := 0) om om
  obtain ⟨c1, hc1⟩ := sAt_some (s := s) (i := ((s.size - 1 : Nat) : Int)) om om
  obtain ⟨p, hp⟩ := plain_ret hs
  rw [hc0, hc1, hp]
  simp only [obs]
  refine yd (R := fun _ => True) (yi rt rt) (fun _ _ => yd (R := fun _ => True) (yi rt rt) (fun _ _ => yd (R := fun _ => True) (yi rt rt) (fun _ _ => yi rt (fun _ => ?_))))
  refine yd (loopO_rb (Q := fun _ => True) (fun (q : Int × Int) => 1 ≤ q.2 ∧ (q.2 ≤ (s.size : Int) ∨ q.2 = 1)) (fun q => ((s.size : Int) + 1 - q.2).toNat) ?_ ⟨by simp, .inr rfl⟩) (fun t _ => by cases t <;> exact yc trivial)
  rintro ⟨n, q⟩ ⟨h1, h2⟩
  simp only at h1 h2
  refine yi (fun hc => ?_) rt
  have hq : q < (s.size : Int) := by simp at hc; omega
  obtain ⟨c, hc⟩ := sAt_some (s := s) om hq
  rw [hc]
  simp only [obs]
  refine yd (R := fun _ => True) (yi (fun _ => yi rt rt) rt) (fun t _ => ?_)
  cases t with
  | inl v => exact yc trivial
  | inr v =>
    refine yc ⟨⟨?_, .inl ?_⟩, ?_⟩ <;> simp only <;> rw [w64_id om om] <;> omega
theorem rsign_ret (s : By8) : ∃ b, r09_sign s = some b := by
  refine Ret.ex (Q := fun _ => True) ?_ |>.imp fun r h => h.1
  unfold r09_sign
  refine yd (R := fun _ => True) ?_ (fun b _ => yi rt rt)
  repeat first
    | exact yc trivial
    | refine yi rt (fun _ => yd (R := fun _ => True) ?_ (fun _ _ => yc trivial))
    | refine yi rt rt
theorem rname_spec {s : By8} (hs : s.size ≤ 100000) : ∃ b, r09_IsName s = some b ∧ (b = true ↔ Nmd s) := by
  refine Ret.ex ?_
  unfold r09_IsName
  refine yd (R := fun k => k = 1 ↔ Nmd s) ?_ (fun k hk => yc (by rw [beq_iff_eq]; exact hk))
  unfold r09_Kind
  refine yi (fun e => yc ⟨fun h => (by cases h), fun h => ?_⟩) (fun e => ?_)
  · have := h.pos
    rw [(keq _ _).1 e] at this
    cases this
  have h0 := size_pos e
  have hex : ssub s 0 1 = some (s.extract 0 1) := by
    unfold ssub
    rw [if_pos ⟨by omega, by omega, by omega⟩]
    rfl
  have hes : (s.extract 0 1).size ≤ 100000 := by rw [ByteArray.size_extract]; omega
  refine yd (R := fun b => b = true ↔ s.size ≤ 12 ∧ ∃ c, sAt s 0 = some c ∧ Sml c) (yi (fun hc => ?_) (fun hc => yc ⟨fun h => (by cases h), fun h => by simp at hc; omega⟩)) (fun b hb => ?_)
  · rw [hex]
    simp only [obs]
    refine yd (rall_spec (f := 0) hes (by decide)) (fun b hb => yc (hb.trans ?_))
    have h12 : s.size ≤ 12 := by simp at hc; omega
    obtain ⟨c, hc⟩ := sAt_some (s := s) (i := 0) om om
    have hm : (∃ j : Nat, sAt (⟨#[97, 98, 99, 100, 101, 102, 103, 104, 105, 106, 107, 108, 109, 110, 111, 112, 113, 114, 115, 116, 117, 118, 119, 120, 121, 122]⟩ : By8) (j : Int) = some c) ↔ Sml c := by
      rw [sAt_nums]
      simp only [nums, List.map_cons, List.map_nil, List.mem_cons, List.not_mem_nil, or_false, Sml]
      simp
      omega
    constructor
    · intro h
      exact ⟨h12, c, hc, hm.1 (h 0 c om ((first_at h0 0 c).2 ⟨rfl, hc⟩))⟩
    · rintro ⟨_, d, hd, hds⟩ i x _ hx
      obtain ⟨_, hx⟩ := (first_at h0 i x).1 hx
      rw [hc] at hx hd
      injection hx with hx; injection hd with hd
      subst hx hd
      exact hm.2 hds
  refine yd (R := fun b => b = true ↔ Nmd s) (yi (fun e => ?_) (fun e => yc ⟨fun h => (by cases h), fun h => ?_⟩)) (fun b hb => yi (fun e => yc ⟨fun _ => hb.1 e, fun _ => rfl⟩) (fun e => ?_))
  · obtain ⟨h12, c, hc, hcs⟩ := hb.1 e
    refine yd (rall_spec (f := 1) hs (by decide)) (fun b hb => yc (hb.trans ?_))
    have hm : ∀ x, (∃ j : Nat, sAt (⟨#[97, 98, 99, 100, 101, 102, 103, 104, 105, 106, 107, 108, 109, 110, 111, 112, 113, 114, 115, 116, 117, 118, 119, 120, 121, 122, 48, 49, 50, 51, 52, 53, 54, 55, 56, 57, 95]⟩ : By8) (j : Int) = some x) ↔ Wrd x := fun x => by
      rw [sAt_nums]
      simp only [nums, List.map_cons, List.map_nil, List.mem_cons, List.not_mem_nil, or_false, Wrd]
      simp
      omega
    constructor
    · intro h
      refine ⟨h12, ⟨c, hc, hcs⟩, fun i x hx => ?_⟩
      by_cases hi : i = 0
      · subst hi
        rw [show ((0 : Nat) : Int) = 0 from rfl, hc] at hx
        injection hx with hx
        subst hx
        exact .inl hcs
      · exact (hm x).1 (h i x om hx)
    · intro h i x _ hx
      exact (hm x).2 (h.2.2 i x hx)
  · have := hb.2 ⟨h.1, h.2.1⟩
    rw [e] at this
    cases this
  have hno : ¬ Nmd s := fun h => by rw [hb.2 h] at e; cases e
  refine RB.mono (Q := fun k => k ≠ 1) ?_ (fun k hk => ⟨fun h => absurd h hk, fun h => absurd h hno⟩)
  rw [hex]
  simp only [obs]
  have ra : ∀ (x t : By8) (f : Nat), x.size ≤ 100000 → t.size ≤ 1000 → ∃ b, r09_all x (f : Int) t = some b := fun x t f h1 h2 => by
    obtain ⟨b, hb, _⟩ := (rall_spec (s := x) (t := t) (f := f) h1 h2).ex
    exact ⟨b, hb⟩
  obtain ⟨b1, hb1⟩ := ra (s.extract 0 1) (⟨#[65, 66, 67, 68, 69, 70, 71, 72, 73, 74, 75, 76, 77, 78, 79, 80, 81, 82, 83, 84, 85, 86, 87, 88, 89, 90]⟩ : By8) 0 hes (by decide)
  obtain ⟨b2, hb2⟩ := ra s (⟨#[65, 66, 67, 68, 69, 70, 71, 72, 73, 74, 75, 76, 77, 78, 79, 80, 81, 82, 83, 84, 85, 86, 87, 88, 89, 90, 95]⟩ : By8) 1 hs (by decide)
  obtain ⟨b3, hb3⟩ := ra s (⟨#[48, 49, 50, 51, 52, 53, 54, 55, 56, 57]⟩ : By8) 0 hs (by decide)
  obtain ⟨b4, hb4⟩ := rquoted_ret hs h0
  obtain ⟨b5, hb5⟩ := rsign_ret s
  obtain ⟨c0, hc0⟩ := sAt_some (s := s) (i := 0) om om
  refine yd (R := fun _ => True) (yi (fun _ => ybb hb1 (yc trivial)) rt) (fun _ _ => ?_)
  refine yd (R := fun _ => True) (yi (fun _ => ybb hb2 (yc trivial)) rt) (fun _ _ => yi (fun _ => yc (by decide)) (fun _ => ?_))
  refine yd (R := fun _ => True) (yi (fun _ => ybb hb3 (yc trivial)) rt) (fun _ _ => ?_)
  refine yd (R := fun _ => True) (yi (fun _ => yd (R := fun _ => True) (yi rt (fun _ => by rw [hc0]; exact yc trivial)) (fun _ _ => yc trivial)) rt) (fun _ _ => yi (fun _ => yc (by decide)) (fun _ => ?_))
  rw [hb4]
  simp only [obs]
  refine yi (fun _ => yc (by decide)) (fun _ => ?_)
  refine yd (R := fun b => b = true → s.size = 2) (yi (fun hc => by rw [hc0]; exact yc (fun _ => by simp at hc; omega)) (fun _ => yc (fun h => by cases h))) (fun b hb => ?_)
  have at1 : s.size = 2 → ∃ c, sAt s 1 = some c := fun h => sAt_some om om
  refine yd (R := fun b => b = true → s.size = 2) (yi (fun e => by obtain ⟨c, hc⟩ := at1 (hb e); rw [hc]; exact yc (fun _ => hb e)) (fun _ => yc (fun h => by cases h))) (fun b hb => ?_)
  refine yd (R := fun _ => True) (yi (fun e => by obtain ⟨c, hc⟩ := at1 (hb e); rw [hc]; exact yc trivial) rt) (fun _ _ => yi (fun _ => yc (by decide)) (fun _ => ?_))
  rw [hb5]
  simp only [obs]
  exact yi (fun _ => yc (by decide)) (fun _ => yc (by decide))
mutual
def esz (e : qE) : Nat := match e with | ⟨_, _, _, _, ks⟩ => 1 + eszL ks
def eszL (l : List qE) : Nat := match l with | [] => 0 | x :: xs => esz x + eszL xs
end
mutual
def eok (e : qE) : Prop := match e with | ⟨_, _, v, n, ks⟩ => n.size ≤ 100 ∧ v.S.size ≤ 100 ∧ eokL ks
def eokL (l : List qE) : Prop := match l with | [] => True | x :: xs => eok x ∧ eokL xs
end
theorem esz_eq (e : qE) : esz e = 1 + eszL e.Kids := by cases e; rw [esz]
theorem esz_mem {l : List qE} {x : qE} (h : x ∈ l) : esz x ≤ eszL l := by
  induction h with
  | head => rw [eszL]; omega
  | tail _ _ ih => rw [eszL]; omega
theorem eok_eq {e : qE} : eok e ↔ e.Name.size ≤ 100 ∧ e.V.S.size ≤ 100 ∧ eokL e.Kids := by cases e; rw [eok]
theorem eokL_iff {l : List qE} : eokL l ↔ ∀ x ∈ l, eok x := by
  induction l with
  | nil => rw [eokL]; simp
  | cons x r ih => rw [eokL, ih]; simp
theorem kid_sz {e x : qE} (h : x ∈ e.Kids) : esz x < esz e := by
  have := esz_mem h
  rw [esz_eq e]
  omega
theorem esz_pos (e : qE) : 0 < esz e := by rw [esz_eq]; omega
theorem eszL_len : ∀ l : List qE, l.length ≤ eszL l
  | [] => Nat.zero_le _
  | x :: xs => by
    have := eszL_len xs
    have := esz_pos x
    rw [eszL]
    simp only [List.length_cons]
    omega
theorem height_fu {b : Prop} : ∀ (n : Nat) (e : qE), (b → esz e ≤ n) → RB b (r10_Height_fu n e) TT
  | 0, e, h => ybh fun hb => by have := h hb; have := esz_pos e; omega
  | n + 1, e, h => by
    unfold r10_Height_fu
    refine yd (R := TT) (forE_tt fun j s hj => yaf hj fun x _ hx => yd (height_fu n x fun hb => by have := h hb; have := kid_sz hx; omega) fun r _ => ?_) fun s _ => yc trivial
    refine yd (R := TT) ?_ fun s _ => yc trivial
    exact yi rt rt
theorem height_tt {b : Prop} (e : qE) : RB b (r10_Height e) TT := fuel_tt (esz e) fun n => height_fu n e fun h => h
theorem eszL_app : ∀ a c : List qE, eszL (a ++ c) = eszL a + eszL c
  | [], c => by simp [eszL]
  | x :: xs, c => by rw [List.cons_append, eszL, eszL, eszL_app xs c]; omega
theorem take_next {α : Type} {xs : List α} {j : Nat} {x : α} (h : xs[j]? = some x) : xs.take (j + 1) = xs.take j ++ [x] := by
  rw [List.take_add_one, h]
  rfl
theorem eszL_next {xs : List qE} {j : Nat} {x : qE} (h : xs[j]? = some x) : eszL (xs.take (j + 1)) = eszL (xs.take j) + esz x := by
  rw [take_next h, eszL_app, eszL, eszL, Nat.add_zero]
theorem count_fu {b : Prop} : ∀ (n : Nat) (e : qE) (k : Int), (b → esz e ≤ n) → k ≤ 1000 → RB b (r10_count_fu n e k) (fun r => r.2 = true → 0 ≤ r.1 ∧ r.1 + (esz e : Int) ≤ k ∧ eok e)
  | 0, e, k, h, _ => ybh fun hb => by have := h hb; have := esz_pos e; omega
  | n + 1, e, k, h, hk => by
    unfold r10_count_fu
    refine ya0 (ya0 (yi (fun _ => yc fun h => by cases h) fun hc => ?_))
    simp only [Bool.or_eq_false_iff, decide_eq_false_iff_not] at hc
    obtain ⟨⟨⟨h1, h2⟩, h3⟩, h4⟩ := hc
    have e0 : w64 (k - 1) = k - 1 := w64_id om om
    rw [e0]
    refine yd (forN_ret (fun j s => 0 ≤ s ∧ s + (eszL (e.Kids.take j) : Int) ≤ k - 1 ∧ ∀ x ∈ e.Kids.take j, eok x) (Q := fun r => r.2 = false) ⟨by omega, by simp [eszL], by simp⟩ ?_) ?_
    · rintro j s hj ⟨g1, g2, g3⟩
      refine yaf hj fun x hx hm => ?_
      have hs : s ≤ 1000 := by omega
      refine yd (count_fu n x s (fun hb => by have := h hb; have := kid_sz hm; omega) hs) ?_
      rintro ⟨u, c⟩ hr
      refine yi (fun hc => yc rfl) fun hc => yc ?_
      simp only [Bool.not_eq_false'] at hc
      obtain ⟨q1, q2, q3⟩ := hr hc
      refine ⟨q1, ?_, ?_⟩
      · rw [eszL_next hx]
        simp only at q2
        omega
      · rw [take_next hx]
        intro y hy
        rcases List.mem_append.1 hy with hy | hy
        · exact g3 y hy
        · simp at hy; subst hy; exact q3
    · rintro t ht
      cases t with
      | inl s =>
        obtain ⟨g1, g2, g3⟩ := ht
        rw [List.take_length] at g2 g3
        refine yc fun _ => ⟨g1, ?_, eok_eq.2 ⟨by omega, by omega, eokL_iff.2 g3⟩⟩
        rw [esz_eq]
        simp only
        omega
      | inr r =>
        obtain ⟨r1, r2⟩ := r
        simp only at ht
        subst ht
        exact yc fun h => by cases h
def Es (e : qE) : Prop := esz e ≤ 60 ∧ eok e
theorem efew_rb {b : Prop} (e : qE) : RB b (r10_Few e 60) (fun r => r = true → Es e) := by
  unfold r10_Few r10_count
  refine yd (fuel_tt (esz e) fun n => count_fu n e 60 (fun h => h) om) ?_
  rintro ⟨u, c⟩ hr
  refine yc fun h => ?_
  obtain ⟨q1, q2, q3⟩ := hr h
  simp only at q2
  exact ⟨by omega, q3⟩
theorem samelist_tt {b : Prop} {f : qE → qE → Option Bool} {p q : List qE} (h : ∀ x ∈ p, ∀ y, RB b (f x y) TT) : RB b (r10_SameList f p q) TT := by
  unfold r10_SameList
  refine yi rt fun hc => ?_
  have hl : p.length = q.length := by simp at hc; omega
  refine yd (R := TT) (forN_tt fun j s hj => yaf hj fun x _ hx => yaf om fun y _ _ => yd (h x hx y) fun r _ => yi rt rt) ?_
  rintro (_ | _) _ <;> exact yc trivial
theorem esame_fu {b : Prop} : ∀ (n : Nat) (e d : qE), (b → esz e ≤ n) → RB b (r10_Same_fu n e d) TT
  | 0, e, d, h => ybh fun hb => by have := h hb; have := esz_pos e; omega
  | n + 1, e, d, h => by
    unfold r10_Same_fu
    refine ya0 (yi rt fun _ => yd (samelist_tt fun x hx y => esame_fu n x y fun hb => by have := h hb; have := kid_sz hx; omega) fun r _ => yc trivial)
theorem none_tt {b : Prop} (e : qE) : RB b (r12_None e) TT := by
  unfold r12_None r10_Same
  exact yd (fuel_tt (esz e) fun n => esame_fu n e z_qE fun h => h) fun r _ => yc trivial
theorem parts_fu {b : Prop} : ∀ (n : Nat) (e : qE), esz e ≤ 1000 → (b → esz e ≤ n) → RB b (r10_Parts_fu n e) (fun l => l.length ≤ esz e ∧ ∀ x ∈ l, eok e → eok x)
  | 0, e, _, h => ybh fun hb => by have := h hb; have := esz_pos e; omega
  | n + 1, e, hz, h => by
    unfold r10_Parts_fu
    refine yd (forE_ret (fun j (s : List qE) => s.length ≤ 1 + eszL (e.Kids.take j) ∧ ∀ x ∈ s, eok e → eok x) ⟨by simp [eszL], by simp⟩ ?_) ?_
    · rintro j s hj ⟨g1, g2⟩
      refine yaf hj fun x hx hm => ?_
      have hx1 := kid_sz hm
      refine yd (parts_fu n x om fun hb => by have := h hb; omega) ?_
      rintro r ⟨r1, r2⟩
      have hle : eszL (e.Kids.take (j + 1)) ≤ eszL e.Kids := by
        have := eszL_app (e.Kids.take (j + 1)) (e.Kids.drop (j + 1))
        rw [List.take_append_drop] at this
        omega
      have h1 := esz_eq e
      rw [eszL_next hx] at hle
      refine yaw om (yc ⟨by rw [eszL_next hx, List.length_append]; omega, fun y hy ho => ?_⟩)
      rcases List.mem_append.1 hy with hy | hy
      · exact g2 y hy ho
      · exact r2 y hy (eokL_iff.1 (eok_eq.1 ho).2.2 x hm)
    · rintro s ⟨g1, g2⟩
      rw [List.take_length] at g1
      exact yc ⟨by rw [esz_eq]; omega, g2⟩
theorem parts_rb {b : Prop} {e : qE} (hz : esz e ≤ 1000) : RB b (r10_Parts e) (fun l => l.length ≤ esz e ∧ ∀ x ∈ l, eok e → eok x) := by
  unfold r10_Parts
  exact fuel_tt (esz e) fun n => parts_fu n e hz fun h => h
theorem params_tt {b : Prop} {e : qE} (hz : esz e ≤ 1000) : RB b (r10_Params e) TT := by
  unfold r10_Params
  refine yd (parts_rb hz) fun l _ => yd (R := TT) (forE_tt fun j s hj => yaf hj fun x _ _ => yd (R := TT) ?_ fun c _ => yd (R := TT) ?_ fun _ _ => yc trivial) fun _ _ => yc trivial
  · exact yi (fun _ => yaf hj fun _ _ _ => yc trivial) rt
  · exact yi (fun _ => yaf hj fun _ _ _ => yc trivial) rt
theorem enames_rb {b : Prop} {e : qE} (hz : esz e ≤ 1000) : RB b (r10_Names e) (fun l => l.length ≤ 1000) := by
  unfold r10_Names
  refine yd (parts_rb hz) ?_
  rintro l ⟨hl, _⟩
  refine yd (forE_ret (fun j (s : List By8) => s.length ≤ j) (by simp) ?_) fun s hs => yc om
  rintro j s hj hs
  refine yaf hj fun x _ _ => yd (R := TT) (forE_tt fun i c hi => yd (R := TT) (yi rt fun _ => yaf hi fun _ _ _ => yaf hj fun _ _ _ => yc trivial) fun _ _ => yc trivial) fun c _ => ?_
  refine yd (R := fun (s' : List By8) => s'.length ≤ j + 1) ?_ fun s' h => yc h
  refine yi (fun _ => yaf hj fun _ _ _ => yaw (by simp only [List.length_cons, List.length_nil]; omega) (yc (by simp; omega))) fun _ => yc om
theorem rname_tt {b : Prop} {s : By8} (hs : s.size ≤ 100) : RB b (r09_IsName s) TT := by
  obtain ⟨r, hr, _⟩ := rname_spec (s := s) om
  exact ybo hr trivial
theorem vright_tt {b : Prop} {v : qV} (hs : v.S.size ≤ 100) : RB b (r03_Right v) TT := by
  unfold r03_Right
  refine yi rt fun _ => yi rt fun _ => yi (fun _ => ya0 (yc trivial)) fun _ => yi (fun _ => ?_) fun _ => yc trivial
  refine yd (R := TT) (yi (fun _ => ?_) fun _ => yc trivial) fun _ _ => yc trivial
  obtain ⟨r, hr⟩ := plain_ret (s := v.S) om
  rw [hr]
  exact yc trivial
mutual
def ert (e : qE) : Prop := match e with | ⟨k, o, _, _, ks⟩ => (k = 6 → 2 ≤ ks.length) ∧ (k = 3 → 1 ≤ o ∧ o ≤ 6) ∧ (k = 8 → 0 ≤ o ∧ o ≤ 5) ∧ ertL ks
def ertL (l : List qE) : Prop := match l with | [] => True | x :: xs => ert x ∧ ertL xs
end
theorem ert_eq {e : qE} : ert e ↔ (e.Kind = 6 → 2 ≤ e.Kids.length) ∧ (e.Kind = 3 → 1 ≤ e.Op ∧ e.Op ≤ 6) ∧ (e.Kind = 8 → 0 ≤ e.Op ∧ e.Op ≤ 5) ∧ ertL e.Kids := by cases e; rw [ert]
theorem ertL_iff {l : List qE} : ertL l ↔ ∀ x ∈ l, ert x := by
  induction l with
  | nil => rw [ertL]; simp
  | cons x r ih => rw [ertL, ih]; simp
theorem right_fu {b : Prop} : ∀ (n : Nat) (e : qE) (s : Bool), eok e → (b → esz e ≤ n) → RB b (r10_Right_fu n e s) (fun r => r = true → ert e)
  | 0, e, s, _, h => ybh fun hb => by have := h hb; have := esz_pos e; omega
  | n + 1, e, s, ho, h => by
    obtain ⟨o1, o2, o3⟩ := eok_eq.1 ho
    have o3 := eokL_iff.1 o3
    unfold r10_Right_fu
    refine yd (forN_ret (fun j _ => ∀ x ∈ e.Kids.take j, ert x) (Q := fun r => r = false) (by simp) ?_) ?_
    · rintro j _ hj g
      refine yaf hj fun x hx hm => yd (right_fu n x s (o3 x hm) fun hb => by have := h hb; have := kid_sz hm; omega) fun r hr => yi (fun _ => yc rfl) fun hc => yc ?_
      simp only [Bool.not_eq_false'] at hc
      rw [take_next hx]
      intro y hy
      rcases List.mem_append.1 hy with hy | hy
      · exact g y hy
      · simp at hy; subst hy; exact hr hc
    · rintro t ht
      cases t with
      | inr r => exact yc fun h => by subst h; cases ht
      | inl u =>
        rw [List.take_length] at ht
        have hk := ertL_iff.2 ht
        have fin : ∀ {c : Bool}, (c = true → (e.Kind = 6 → 2 ≤ e.Kids.length) ∧ (e.Kind = 3 → 1 ≤ e.Op ∧ e.Op ≤ 6) ∧ (e.Kind = 8 → 0 ≤ e.Op ∧ e.Op ≤ 5)) → c = true → ert e := fun hq hc => ert_eq.2 ⟨(hq hc).1, (hq hc).2.1, (hq hc).2.2, hk⟩
        refine ya0 (ya0 (yi (fun _ => yc fun h => by cases h) fun _ => ya0 (yi (fun _ => yc fun h => by cases h) fun _ => yi (fun k => ?_) fun k1 => yi (fun k => ?_) fun k2 => yi (fun k => ya0 (yc (fin fun hq => ?_))) fun k3 => yi (fun k => ya0 (yc (fin fun hq => ?_))) fun k4 => yi (fun k => ya0 (yc (fin fun hq => ?_))) fun k5 => yi (fun k => ya0 (yc (fin fun hq => ?_))) fun k6 => yi (fun k => ya0 (ya0 (yc (fin fun hq => ?_)))) fun k7 => yi (fun k => ya0 (yc (fin fun hq => ?_))) fun k8 => yc fun h => by cases h)))
        · refine yd (R := TT) (yi (fun _ => yd (vright_tt o2) fun _ _ => yc trivial) fun _ => yc trivial) fun c _ => yc (fin fun hq => ?_)
          simp only [beq_iff_eq] at k
          exact ⟨fun h => by omega, fun h => by omega, fun h => by omega⟩
        · refine yd (R := TT) (yi (fun _ => yd (rname_tt o1) fun _ _ => yc trivial) fun _ => yc trivial) fun c _ => yc (fin fun hq => ?_)
          simp only [beq_iff_eq] at k
          exact ⟨fun h => by omega, fun h => by omega, fun h => by omega⟩
        all_goals
          simp only [beq_iff_eq, Bool.and_eq_true, decide_eq_true_eq] at k hq
          exact ⟨fun h => by omega, fun h => by omega, fun h => by omega⟩
theorem echeck_rb {b : Prop} {e : qE} (s : Bool) (ho : eok e) : RB b (r10_Check e s) (fun r => r = 0 → ert e) := by
  unfold r10_Check r10_Right
  refine yd (height_tt e) fun k _ => yi (fun _ => yc fun h => by cases h) fun _ => yd (fuel_tt (esz e) fun n => right_fu n e s ho fun h => h) fun r hr => yi (fun _ => yc fun h => by cases h) fun hc => yc fun _ => hr (by simpa using hc)
theorem col_rb {b : Prop} (t : qT) (n : By8) : RB b (r14_Col t n) (fun r => r = -1 ∧ (∀ x ∈ t.Cols, x.Name ≠ n) ∨ 0 ≤ r ∧ r < (t.Cols.length : Int)) := by
  unfold r14_Col
  refine yd (forN_ret (fun j _ => ∀ x ∈ t.Cols.take j, x.Name ≠ n) (Q := fun r => 0 ≤ r ∧ r < (t.Cols.length : Int)) (by simp) ?_) ?_
  · rintro j _ hj g
    refine yaf hj fun x hx _ => yi (fun _ => yc ⟨by omega, by omega⟩) fun hc => yc ?_
    rw [take_next hx]
    intro y hy
    rcases List.mem_append.1 hy with hy | hy
    · exact g y hy
    · simp at hy
      subst hy
      intro he
      rw [sEq_iff.2 he] at hc
      cases hc
  · rintro t ht
    cases t with
    | inl u => rw [List.take_length] at ht; exact yc (.inl ⟨rfl, ht⟩)
    | inr r => exact yc (.inr ht)
theorem place_fu {b : Prop} (t : qT) : ∀ (n : Nat) (e : qE), esz e ≤ 1000 → (b → esz e ≤ n) → RB b (r15_Place_fu n t e) (fun r => esz r ≤ esz e ∧ (eok e → eok r))
  | 0, e, _, h => ybh fun hb => by have := h hb; have := esz_pos e; omega
  | n + 1, e, hz, h => by
    unfold r15_Place_fu
    refine yi (fun _ => yd (col_rb t e.Name) fun r _ => yc ⟨?_, fun _ => ?_⟩) fun _ => ?_
    · have := esz_pos e
      rw [esz_eq]
      show 1 + eszL [] ≤ esz e
      rw [eszL]
      omega
    · refine eok_eq.2 ⟨by show (0 : Nat) ≤ 100; omega, by show (0 : Nat) ≤ 100; omega, ?_⟩
      show eokL []
      rw [eokL]
      trivial
    · refine yd (forE_ret (fun j (s : List qE) => s.length ≤ j ∧ eszL s ≤ eszL (e.Kids.take j) ∧ (eok e → eokL s)) ⟨by simp, by simp [eszL], by simp [eokL]⟩ ?_) ?_
      · rintro j s hj ⟨g0, g1, g2⟩
        refine yaf hj fun x hx hm => ?_
        have hx1 := kid_sz hm
        have hkl := eszL_len e.Kids
        have h1 := esz_eq e
        refine yd (place_fu t n x om fun hb => by have := h hb; omega) ?_
        rintro r ⟨r1, r2⟩
        refine yaw (by simp only [List.length_cons, List.length_nil]; omega) (yc ⟨by simp; omega, by rw [eszL_next hx, eszL_app, eszL, eszL]; omega, fun ho => eokL_iff.2 fun y hy => ?_⟩)
        rcases List.mem_append.1 hy with hy | hy
        · exact eokL_iff.1 (g2 ho) y hy
        · simp at hy; subst hy; exact r2 (eokL_iff.1 (eok_eq.1 ho).2.2 x hm)
      · rintro s ⟨_, g1, g2⟩
        rw [List.take_length] at g1
        exact yc ⟨by rw [esz_eq, esz_eq]; simp only; omega, fun ho => eok_eq.2 ⟨(eok_eq.1 ho).1, (eok_eq.1 ho).2.1, g2 ho⟩⟩
theorem resolve_rb {b : Prop} (t : qT) {e : qE} (hz : esz e ≤ 1000) (ho : eok e) : RB b (r15_Resolve t e) (fun r => r.2 = 0 → esz r.1 ≤ 1000 ∧ eok r.1) := by
  unfold r15_Resolve r15_Place
  refine yd (echeck_rb false ho) fun r _ => yi (fun hc => yc fun h => by simp only at h; subst h; cases hc) fun _ => yd (enames_rb hz) fun l _ => ?_
  refine yd (forN_ret (fun _ _ => True) (Q := fun r => r.1 = 4) trivial fun j s hj _ => yaf hj fun x _ _ => yd (col_rb t x) fun _ _ => yi (fun _ => yc rfl) rt) ?_
  rintro (s | ⟨s1, s2⟩) hs
  · exact yd (fuel_tt (esz e) fun n => place_fu t n e hz fun h => h) fun r hr => yc fun _ => ⟨Nat.le_trans hr.1 hz, hr.2 ho⟩
  · simp only at hs
    subst hs
    exact yc fun h => by cases h
theorem first_tt {b : Prop} (l : List Int) : RB b (r15_first l) TT := by
  unfold r15_first
  refine yd (R := TT) (forN_tt fun j s hj => yaf hj fun _ _ _ => yi (fun _ => yaf hj fun _ _ _ => yc trivial) rt) ?_
  rintro (_ | _) _ <;> exact yc trivial
theorem all_tt {b : Prop} (l : List Int) (k : Int) : RB b (r15_all l k) TT := by
  unfold r15_all
  refine yd (R := TT) (forN_tt fun j s hj => yaf hj fun _ _ _ => yd (R := TT) (yi (fun _ => yaf hj fun _ _ _ => yc trivial) rt) fun _ _ => yi rt rt) ?_
  rintro (_ | _) _ <;> exact yc trivial
theorem made_tt {b : Prop} {e : qE} {l : List Int} (h : e.Kind = 6 → 0 < l.length) : RB b (r15_made e l) TT := by
  unfold r15_made
  have h6 : ∀ {α : Type} {f : Int → Option α} {Q : α → Prop}, (e.Kind == 6) = true → (∀ x, RB b (f x) Q) → RB b ((idx l 0).bind f) Q := fun hk hf => yaf (i := 0) (h (by simpa using hk)) fun x _ _ => hf x
  refine yi rt fun _ => ya0 (yd (R := TT) ?_ ?_)
  · refine yi rt fun _ => yd (R := TT) (yi (fun _ => yd (first_tt l) fun _ _ => yc trivial) fun _ => yd (R := TT) (yi rt fun _ => yd (R := TT) (yi (fun k => h6 k fun _ => yc trivial) rt) fun c _ => yi rt fun _ => yd (R := TT) (yi (fun k => h6 k fun _ => yc trivial) fun _ => ya0 (yd (R := TT) (yi rt fun _ => ya0 (yd (R := TT) (yi (fun _ => yd (first_tt l) fun _ _ => yd (first_tt l) fun _ _ => yc trivial) rt) ?_)) ?_)) ?_) ?_) ?_
    all_goals first | (rintro (⟨_, _⟩ | _) _ <;> exact yc trivial; done) | (rintro ⟨_, _⟩ _; exact yc trivial)
  · rintro (⟨k, m⟩ | _) _
    · exact yd (all_tt l k) fun _ _ => yi rt rt
    · exact yc trivial
theorem find_fu {b : Prop} (cols : List Int) : ∀ (n : Nat) (e : qE), esz e ≤ 1000 → ert e → (b → esz e ≤ n) → RB b (r15_find_fu n e cols []) TT
  | 0, e, _, _, h => ybh fun hb => by have := h hb; have := esz_pos e; omega
  | n + 1, e, hz, he, h => by
    obtain ⟨e6, e3, e8, ek⟩ := ert_eq.1 he
    have hkl := eszL_len e.Kids
    have h1 := esz_eq e
    unfold r15_find_fu
    refine yi rt fun _ => yi rt fun _ => yd (R := fun (p : List Int × Int) => e.Kind = 3 ∨ e.Kind = 8 → 0 ≤ p.2) ?_ ?_
    · refine yi (fun k => yc fun _ => ?_) (fun k => yc fun hk => ?_)
      · have := e3 (by simpa using k)
        show 0 ≤ w64 (e.Op - 1)
        rw [w64_id om om]
        omega
      · rcases hk with hk | hk
        · rw [hk] at k; cases k
        · exact (e8 hk).1
    · rintro ⟨p, q⟩ hq
      refine yi (fun hk => ?_) fun _ => ?_
      · have h0 : 0 ≤ q := hq (by simpa using hk)
        refine yi rt fun hc => ?_
        have hl : q < (p.length : Int) := by simpa using hc
        exact ybd h0 hl fun _ _ _ => yd (R := TT) (yi rt fun _ => ybd h0 hl fun _ _ _ => yc trivial) fun _ _ => yi rt fun _ => ybd h0 hl fun _ _ _ => yc trivial
      · refine yd (forN_ret (fun j (s : List Int) => s.length = j) (Q := fun _ => True) rfl ?_) ?_
        · rintro j s hj hs
          refine yaf hj fun x hx hm => yd (find_fu cols n x (by have := kid_sz hm; omega) (ertL_iff.1 ek x hm) fun hb => by have := h hb; have := kid_sz hm; omega) ?_
          rintro ⟨r1, r2⟩ _
          exact yi rt fun _ => yaw (by simp only [List.length_cons, List.length_nil]; omega) (yc (by simp [hs]))
        · rintro (s | ⟨_, _⟩) hs
          · refine yd (made_tt fun k => ?_) fun _ _ => yi rt rt
            have := e6 k
            simp only at hs
            omega
          · exact yc trivial
theorem bool_tt {b : Prop} {e : qE} (cols : List Int) (hz : esz e ≤ 1000) (ho : eok e) : RB b (r15_Bool e cols []) TT := by
  unfold r15_Bool r15_Type r15_find
  refine yd (R := TT) (yd (echeck_rb true ho) fun r hr => yi rt fun hc => yd (fuel_tt (esz e) fun n => find_fu cols n e hz (hr (by simpa using hc)) fun h => h) ?_) ?_
  · rintro ⟨_, _⟩ _; exact yc trivial
  · rintro ⟨_, _⟩ _; exact yi rt fun _ => yi rt rt
structure TB (n : Nat) (t : qT) : Prop where
  cols : t.Cols.length ≤ n
  cons : t.Cons.length ≤ n
  idx : t.Idx.length ≤ n
  nm : t.Name.size ≤ 100
  ow : t.Owner.size ≤ 100
  cn : ∀ x ∈ t.Cols, x.Name.size ≤ 100
  xs : ∀ x ∈ t.Cons, x.Name.size ≤ 100 ∧ x.Table.size ≤ 100 ∧ x.Cols.length ≤ n ∧ x.Refs.length ≤ n ∧ Es x.Check
  is : ∀ x ∈ t.Idx, x.Name.size ≤ 100 ∧ x.Cols.length ≤ n
theorem TB.up {n m : Nat} {t : qT} (h : TB n t) (hm : n ≤ m) : TB m t :=
  ⟨by have := h.cols; omega, by have := h.cons; omega, by have := h.idx; omega, h.nm, h.ow, h.cn, fun x hx => by obtain ⟨a, b, c, d, e⟩ := h.xs x hx; exact ⟨a, b, by omega, by omega, e⟩, fun x hx => by obtain ⟨a, b⟩ := h.is x hx; exact ⟨a, by omega⟩⟩
theorem has_rb {b : Prop} (xs : List By8) (n : By8) : RB b (r14_Has xs n) (fun r => r = true ↔ n ∈ xs) := RB.ex (has_eq xs n)
theorem grow {α β : Type} {b : Prop} {k : Nat} (g : α → β) {xs : List α} {s0 : List β} (hk : (s0.length + xs.length) * k ≤ 140737488355328) {step : Nat → List β → Option (List β)} (h : ∀ j s x, xs[j]? = some x → step j s = (app k s [g x]).bind fun y => some y) :
    RB b (forE step xs.length 0 s0) (fun r => r = s0 ++ xs.map g) := by
  refine (forE_ret (fun j s => s = s0 ++ (xs.take j).map g) (by simp) ?_).mono fun r hr => by rw [hr, List.take_length]
  rintro j s hj rfl
  rw [h j _ _ (gE hj)]
  refine yaw ?_ (yc ?_)
  · refine Nat.le_trans (Nat.mul_le_mul_right k ?_) hk
    simp
    omega
  · rw [take_next (gE hj), List.map_append, List.map_cons, List.map_nil, List.append_assoc]
theorem tnames_rb {b : Prop} {n : Nat} {t : qT} (h : TB n t) (hn : n ≤ 1000) : RB b (r14_Names t) (fun r => r.1 = t.Cols.map (·.Name) ∧ r.2 = t.Cons.map (·.Name) ++ t.Idx.map (·.Name)) := by
  have h1 := h.cols
  have h2 := h.cons
  have h3 := h.idx
  unfold r14_Names
  refine yd (grow (k := 16) (fun (x : qL) => x.Name) (by simp; omega) fun j s x hx => by rw [idx_nat, hx]; rfl) ?_
  rintro _ rfl
  refine yd (grow (k := 16) (fun (x : qK) => x.Name) (by simp; omega) fun j s x hx => by rw [idx_nat, hx]; rfl) ?_
  rintro _ rfl
  refine yd (grow (k := 16) (fun (x : qI) => x.Name) (by simp; omega) fun j s x hx => by rw [idx_nat, hx]; rfl) ?_
  rintro _ rfl
  exact yc ⟨by simp, by simp⟩
theorem tlists_rb {b : Prop} {n : Nat} {t : qT} (h : TB n t) (hn : n ≤ 1000) : RB b (r14_lists t) (fun r => r = t.Cons.map (·.Cols) ++ t.Idx.map (·.Cols)) := by
  have h2 := h.cons
  have h3 := h.idx
  unfold r14_lists
  refine yd (grow (k := 24) (fun (x : qK) => x.Cols) (by simp; omega) fun j s x hx => by rw [idx_nat, hx]; rfl) ?_
  rintro _ rfl
  refine yd (grow (k := 24) (fun (x : qI) => x.Cols) (by simp; omega) fun j s x hx => by rw [idx_nat, hx]; rfl) ?_
  rintro _ rfl
  exact yc (by simp)
theorem lists_len {n : Nat} {t : qT} (h : TB n t) {l : List By8} (hl : l ∈ t.Cons.map (·.Cols) ++ t.Idx.map (·.Cols)) : l.length ≤ n := by
  rcases List.mem_append.1 hl with hl | hl
  · obtain ⟨x, hx, rfl⟩ := List.mem_map.1 hl
    exact (h.xs x hx).2.2.1
  · obtain ⟨x, hx, rfl⟩ := List.mem_map.1 hl
    exact (h.is x hx).2
theorem used_rb {b : Prop} {n : Nat} {t : qT} (h : TB n t) (hn : n ≤ 1000) : RB b (r14_Used t) (fun r => ∀ x ∈ t.Cons, ∀ s ∈ x.Cols, s ∈ r) := by
  have h2 := h.cons
  have h3 := h.idx
  unfold r14_Used
  refine yd (tlists_rb h hn) ?_
  rintro r rfl
  have hlen : (t.Cons.map (·.Cols) ++ t.Idx.map (·.Cols)).length ≤ 2000 := by simp; omega
  generalize hL : t.Cons.map (·.Cols) ++ t.Idx.map (·.Cols) = L at hlen ⊢
  refine yd (forE_ret (fun j (s : List By8) => s.length ≤ j * 1000 ∧ ∀ l ∈ L.take j, ∀ x ∈ l, x ∈ s) ⟨by simp, by simp⟩ ?_) ?_
  · rintro j s hj ⟨g1, g2⟩
    refine yaf hj fun l hl hm => ?_
    have hll : l.length ≤ n := lists_len h (by rw [hL]; exact hm)
    refine yaw om (yc ⟨by simp; omega, ?_⟩)
    rw [take_next hl]
    intro l' hl' x hx
    rcases List.mem_append.1 hl' with hl' | hl'
    · exact List.mem_append_left _ (g2 l' hl' x hx)
    · simp at hl'; subst hl'; exact List.mem_append_right _ hx
  · rintro s ⟨g1, g2⟩
    rw [List.take_length] at g2
    refine yd (forE_ret (fun j (u : List By8) => u.length ≤ (2000 + j) * 1000 ∧ ∀ x ∈ s, x ∈ u) ⟨by omega, fun x hx => hx⟩ ?_) ?_
    · rintro j u hj ⟨k1, k2⟩
      refine yaf hj fun x _ hm => yd (R := fun (v : List By8) => v.length ≤ (2000 + (j + 1)) * 1000 ∧ ∀ x ∈ s, x ∈ v) ?_ fun v hv => yc hv
      refine yi (fun _ => yaf hj fun y _ hm' => ?_) fun _ => yc ⟨by omega, k2⟩
      have hz : esz y.Check ≤ 1000 := Nat.le_trans (h.xs y hm').2.2.2.2.1 om
      refine yd (enames_rb hz) fun v hv => ?_
      have hv : v.length ≤ 1000 := hv
      refine yaw ?_ (yc ⟨by rw [List.length_append]; omega, fun z hz => List.mem_append_left _ (k2 z hz)⟩)
      have : u.length + v.length ≤ 4000000 := by omega
      omega
    · rintro u ⟨_, k2⟩
      refine yc fun x hx z hz => k2 z (g2 x.Cols ?_ z hz)
      rw [← hL]
      exact List.mem_append_left _ (List.mem_map_of_mem hx)
theorem twice_tt {b : Prop} (l : List By8) : RB b (r14_twice l) TT := by
  unfold r14_twice
  refine yd (R := TT) (forN_tt fun j s hj => ?_) ?_
  · rw [sub_at (xs := l) (lo := 0) (hi := (j : Int)) (i := 0) (j := j) rfl rfl om om]
    exact yaf hj fun _ _ _ => yd (has_rb _ _) fun _ _ => yi rt rt
  · rintro (_ | _) _ <;> exact yc trivial
theorem forN_q {σ τ : Type} {b : Prop} {step : Nat → σ → Option (σ ⊕ τ)} {n : Nat} {s : σ} {Q : τ → Prop} (hs : ∀ j s, j < n → RB b (step j s) (fun r => match r with | .inl _ => True | .inr t => Q t)) :
    RB b (forN step n 0 s) (fun r => match r with | .inl _ => True | .inr t => Q t) := forN_ret (fun _ _ => True) trivial fun j s hj _ => hs j s hj
def NE (t : qT) : Prop := ∀ x ∈ t.Cons, x.Kind = 1 → x.Cols ≠ []
theorem wrong_rb {b : Prop} {n : Nat} {t : qT} (h : TB n t) (hn : n ≤ 1000) : RB b (r14_wrong t) (fun r => r = 0 → NE t) := by
  have h1 := h.cols
  have h2 := h.cons
  have h3 := h.idx
  have no : ∀ {k : Int} {C : Prop}, k ≠ 0 → (k = 0 → C) := fun hk he => absurd he hk
  unfold r14_wrong
  refine yd (tnames_rb h hn) ?_
  rintro ⟨r1, r2⟩ ⟨e1, e2⟩
  simp only at e1 e2
  subst e1 e2
  refine yaw (by simp; omega) (yaw (by simp; omega) ?_)
  have hsz : ∀ s ∈ [t.Name, t.Owner] ++ t.Cols.map (·.Name) ++ (t.Cons.map (·.Name) ++ t.Idx.map (·.Name)), s.size ≤ 100 := by
    intro s hs
    simp only [List.mem_append, List.mem_cons, List.not_mem_nil, or_false, List.mem_map] at hs
    rcases hs with ((rfl | rfl) | ⟨x, hx, rfl⟩) | ⟨x, hx, rfl⟩ | ⟨x, hx, rfl⟩
    · exact h.nm
    · exact h.ow
    · exact h.cn x hx
    · exact (h.xs x hx).1
    · exact (h.is x hx).1
  generalize [t.Name, t.Owner] ++ t.Cols.map (·.Name) ++ (t.Cons.map (·.Name) ++ t.Idx.map (·.Name)) = A at hsz ⊢
  refine yd (forN_q (Q := fun r => r ≠ 0) fun j s hj => yaf hj fun x _ hx => yd (rname_tt (hsz x hx)) fun _ _ => yi (fun _ => yc (by decide)) rt) ?_
  rintro (_ | _) g
  rotate_left
  · exact yc (no g)
  refine yi (fun _ => yc (no (by decide))) fun _ => yd (forN_q (Q := fun r => r ≠ 0) fun j s hj => yaf hj fun x _ hx => yd (R := TT) (yi rt fun _ => yaf hj fun _ _ _ => yc trivial) fun _ _ => yi (fun _ => yc (by decide)) rt) ?_
  rintro (_ | _) g
  rotate_left
  · exact yc (no g)
  refine yd (forN_q (Q := fun r => r ≠ 0) fun j s hj => yaf hj fun x _ hx => yd (R := TT) (yi rt fun _ => yaf hj fun _ _ _ => yc trivial) fun _ _ => yi (fun _ => yc (by decide)) rt) ?_
  rintro (_ | _) g
  rotate_left
  · exact yc (no g)
  refine ya0 (ya0 (yi (fun _ => yc (no (by decide))) fun _ => yd (tlists_rb h hn) fun l hl => ?_))
  have hl : l = t.Cons.map (·.Cols) ++ t.Idx.map (·.Cols) := hl
  have hll : t.Cons.length ≤ l.length := by rw [hl]; simp
  refine yd (forN_ret (fun j _ => ∀ i x, i < j → t.Cons[i]? = some x → x.Kind = 1 → x.Cols ≠ []) (Q := fun r => r ≠ 0) (fun i x hi => by omega) ?_) ?_
  · intro j s hj g
    have hlt : ∀ {α : Type} {f : qK → Option α} {Q : α → Prop}, decide ((j : Int) < (t.Cons.length : Int)) = true → (∀ x, t.Cons[j]? = some x → RB b (f x) Q) → RB b ((Gv.idx t.Cons (j : Int)).bind f) Q := fun hc hf => yaf (by simpa using hc) fun x hx _ => hf x hx
    refine yd (R := fun (q : Bool) => q = true → ∀ x, t.Cons[j]? = some x → x.Kind = 2) (yi (fun hc => hlt hc fun x hx => yc fun hq y hy => by rw [hx] at hy; injection hy with hy; subst hy; simpa using hq) (fun _ => yc fun h => by cases h)) fun q hq => ?_
    refine yd (R := fun (q' : Bool) => q' = false → q = false → ∀ x, t.Cons[j]? = some x → x.Cols ≠ []) (yi (fun hc => yaf hj fun u hu _ => yd (R := fun (q' : Bool) => q' = false → u ≠ []) (yi (fun _ => yc fun h => by cases h) fun hc => yaf hj fun _ _ _ => yc fun _ hu => by subst hu; simp at hc) fun q' hq' => yc fun hf _ x hx => ?_) (fun hc => yc fun _ hq => by subst hq; cases hc)) fun q' hq' => ?_
    · have : l[j]? = some x.Cols := by
        rw [hl, List.getElem?_append_left (by simpa using (List.getElem?_eq_some_iff.1 hx).1), List.getElem?_map, hx]
        rfl
      rw [hu] at this
      injection this with this
      rw [← this]
      exact hq' hf
    · refine yi (fun _ => yc (show (3 : Int) ≠ 0 by decide)) fun hc => ?_
      have goal : ∀ i x, i < j + 1 → t.Cons[i]? = some x → x.Kind = 1 → x.Cols ≠ [] := by
        intro i x hi hx hk
        by_cases hij : i < j
        · exact g i x hij hx hk
        · have : i = j := by omega
          subst this
          cases q with
          | false => exact hq' hc rfl x hx
          | true => rw [hq rfl x hx] at hk; cases hk
      refine yd (R := fun (q : Bool) => q = true → j < t.Cons.length) (yi (fun hc => hlt hc fun _ _ => yc fun _ => by simpa using hc) (fun _ => yc fun h => by cases h)) fun q hq => yd (R := TT) (yi (fun hc => yaf (hq hc) fun _ _ _ => yd (R := TT) (yi rt fun _ => yaf (hq hc) fun _ _ _ => yc trivial) fun _ _ => yc trivial) rt) fun _ _ => yi (fun _ => yc (show (3 : Int) ≠ 0 by decide)) (fun _ => yc goal)
  rintro (_ | _) g2
  rotate_left
  · exact yc (no g2)
  have ne : NE t := fun x hx => by
    obtain ⟨i, hi, rfl⟩ := List.mem_iff_getElem.1 hx
    exact g2 i _ om (gE hi)
  refine RB.mono (Q := TT) ?_ (fun _ _ _ => ne)
  refine yd (twice_tt _) fun _ _ => yd (R := TT) (yi rt fun _ => yd (twice_tt _) fun _ _ => yc trivial) fun _ _ => yi rt fun _ => yd (R := TT) (forN_tt fun j s hj => ?_) ?_
  · have hlt : ∀ {α : Type} {f : qK → Option α} {Q : α → Prop}, decide ((j : Int) < (t.Cons.length : Int)) = true → (∀ x, RB b (f x) Q) → RB b ((Gv.idx t.Cons (j : Int)).bind f) Q := fun hc hf => yaf (by simpa using hc) fun x _ _ => hf x
    exact yaf hj fun _ _ _ => yd (twice_tt _) fun _ _ => yd (R := TT) (yi rt fun _ => yd (R := TT) (yi (fun hc => hlt hc fun _ => yd (twice_tt _) fun _ _ => yc trivial) rt) fun _ _ => yc trivial) fun _ _ => yi rt rt
  · rintro (_ | _) _ <;> exact yc trivial
structure TR (t : qT) : Prop where
  ne : NE t
  cs : ∀ x ∈ t.Cons, ∀ s ∈ x.Cols, ∃ c ∈ t.Cols, c.Name = s
  rf : ∀ x ∈ t.Cons, x.Kind = 3 → x.Refs.length = x.Cols.length
theorem tcheck_rb {b : Prop} {n : Nat} {t : qT} (h : TB n t) (hn : n ≤ 1000) : RB b (r14_Check t) (fun r => r = 0 → TR t) := by
  unfold r14_Check
  have no : ∀ {k : Int} {C : Prop}, k ≠ 0 → (k = 0 → C) := fun hk he => absurd he hk
  refine yd (wrong_rb h hn) fun r hr => yi (fun hc => yc (no (by simpa using hc))) fun hc => ?_
  have hne : NE t := hr (by simpa using hc)
  refine yd (tnames_rb h hn) ?_
  rintro ⟨r1, r2⟩ ⟨e1, e2⟩
  simp only at e1 e2
  subst e1 e2
  refine yd (used_rb h hn) fun u hu => yd (forN_ret (fun j _ => ∀ s ∈ u.take j, ∃ c ∈ t.Cols, c.Name = s) (Q := fun r => r ≠ 0) (by simp) ?_) ?_
  · intro j s hj g
    refine yaf hj fun x hx _ => yd (has_rb _ _) fun q hq => yi (fun _ => yc (show (4 : Int) ≠ 0 by decide)) fun hc => yc ?_
    show ∀ s ∈ u.take (j + 1), _
    rw [take_next hx]
    intro y hy
    rcases List.mem_append.1 hy with hy | hy
    · exact g y hy
    · simp only [List.mem_cons, List.not_mem_nil, or_false] at hy
      subst hy
      have := hq.1 (by simpa using hc)
      simpa using this
  rintro (_ | _) g1
  rotate_left
  · exact yc (no g1)
  rw [List.take_length] at g1
  refine yd (forN_q (Q := fun r => r ≠ 0) fun j s hj => ?_) ?_
  · refine yd (R := fun (r : Bool ⊕ Int) => match r with | .inl _ => True | .inr k => k = 17) (yaf hj fun x _ _ => yi rt fun _ => yaf hj fun y _ hy => yd (echeck_rb false (h.xs y hy).2.2.2.2.2) fun _ _ => yi (fun _ => yc rfl) fun _ => yd (R := TT) (yi rt fun _ => yaf hj fun z _ hz => yd (params_tt (Nat.le_trans (h.xs z hz).2.2.2.2.1 om)) fun _ _ => yc trivial) fun _ _ => yc trivial) ?_
    rintro (_ | k) hk
    · exact yc trivial
    · simp only at hk
      subst hk
      exact yc (show (17 : Int) ≠ 0 by decide)
  rintro (_ | _) g2
  rotate_left
  · exact yc (no g2)
  refine yi (fun _ => yc (no (by decide))) fun _ => yd (forN_ret (fun j _ => ∀ x ∈ t.Cons.take j, x.Kind = 3 → x.Refs.length = x.Cols.length) (Q := fun r => r ≠ 0) (by simp) ?_) ?_
  · intro j s hj g
    refine yaf hj fun x hx hm => yd (R := TT) (yi (fun _ => yd (none_tt _) fun _ _ => yc trivial) rt) fun _ _ => ya0 (yi (fun _ => yc (show (2 : Int) ≠ 0 by decide)) fun _ => ?_)
    refine yd (R := fun (q : Bool) => q = false → x.Kind = 3 → x.Refs.length = x.Cols.length) (yi (fun _ => yd (rname_tt (h.xs x hm).2.1) fun q _ => ya0 (yc fun hq _ => ?_)) (fun hc => yc fun _ hk => by rw [hk] at hc; cases hc)) fun q hq => ya0 (yi (fun _ => yc (show (2 : Int) ≠ 0 by decide)) fun hc => yc ?_)
    · simp only [Bool.or_eq_false_iff, bne_eq_false_iff_eq] at hq
      omega
    · simp only [Bool.or_eq_false_iff] at hc
      show ∀ x ∈ t.Cons.take (j + 1), _
      rw [take_next hx]
      intro y hy
      rcases List.mem_append.1 hy with hy | hy
      · exact g y hy
      · simp only [List.mem_cons, List.not_mem_nil, or_false] at hy
        subst hy
        exact hq hc.1
  rintro (_ | _) g3
  rotate_left
  · exact yc (no g3)
  rw [List.take_length] at g3
  exact yc fun _ => ⟨hne, fun x hx s hs => g1 s (hu x hx s hs), g3⟩
theorem places_rb {b : Prop} (t : qT) {l : List By8} (hl : l.length ≤ 1000) : RB b (r14_Places t l) (fun r => (∀ k ∈ r.1, 0 ≤ k ∧ k < (t.Cols.length : Int)) ∧ (r.2 = 0 ∧ r.1.length = l.length ∨ r.2 ≠ 0 ∧ r.1 = [] ∧ ∃ s ∈ l, ∀ c ∈ t.Cols, c.Name ≠ s)) := by
  unfold r14_Places
  refine yd (forN_ret (fun j (s : List Int) => s.length = j ∧ ∀ k ∈ s, 0 ≤ k ∧ k < (t.Cols.length : Int)) (Q := fun r => r.1 = [] ∧ r.2 ≠ 0 ∧ ∃ s ∈ l, ∀ c ∈ t.Cols, c.Name ≠ s) ⟨rfl, by simp⟩ ?_) ?_
  · rintro j s hj ⟨g1, g2⟩
    refine yaf hj fun x hx hm => yd (col_rb t x) fun r hr => yi (fun hc => yc ⟨rfl, show (4 : Int) ≠ 0 by decide, x, hm, ?_⟩) fun hc => yaw (by simp only [List.length_cons, List.length_nil]; omega) (yc ⟨by simp [g1], ?_⟩)
    · rcases hr with ⟨_, hr⟩ | ⟨hr, _⟩
      · exact hr
      · simp at hc; omega
    · intro k hk
      rcases List.mem_append.1 hk with hk | hk
      · exact g2 k hk
      · simp at hk
        subst hk
        rcases hr with ⟨hr, _⟩ | hr
        · subst hr; simp at hc
        · exact hr
  · rintro (s | ⟨s1, s2⟩) g
    · exact yc ⟨g.2, .inl ⟨rfl, g.1⟩⟩
    · obtain ⟨e1, e2, e3⟩ := g
      simp only at e1 e2
      subst e1
      exact yc ⟨by simp, .inr ⟨e2, rfl, e3⟩⟩
theorem alike_tt {b : Prop} (p q : List By8) : RB b (r17_alike p q) TT := by
  unfold r17_alike
  refine yi rt fun hc => ?_
  have hl : p.length = q.length := by simp at hc; omega
  refine yd (R := TT) (forN_tt fun j s hj => yd (R := TT) (forE_tt ?_) ?_) ?_
  · rintro i ⟨s1, s2⟩ hi
    exact yaf hi fun _ _ _ => yaf hj fun _ _ _ => yd (R := TT) (yi rt rt) fun _ _ => yaf om fun _ _ _ => yaf hj fun _ _ _ => yd (R := TT) (yi rt rt) fun _ _ => yc trivial
  · rintro ⟨_, _⟩ _
    exact yi rt rt
  · rintro (_ | _) _ <;> exact yc trivial
theorem keys_tt {b : Prop} (t : qT) (l : List By8) : RB b (r17_keys t l) TT := by
  unfold r17_keys
  exact yd (R := TT) (forE_tt fun j s hj => yaf hj fun _ _ _ => yd (R := TT) (yi (fun _ => yaf hj fun _ _ _ => yd (alike_tt _ _) fun _ _ => yc trivial) rt) fun _ _ => yd (R := TT) (yi rt rt) fun _ _ => yc trivial) fun _ _ => yc trivial
theorem tat_rb {b : Prop} (c : qC) (n : By8) : RB b (r17_At c n) (fun r => r = -1 ∨ 0 ≤ r ∧ r < (c.Tables.length : Int)) := by
  unfold r17_At
  refine yd (forN_q (Q := fun r => 0 ≤ r ∧ r < (c.Tables.length : Int)) fun j s hj => yaf hj fun _ _ _ => yi (fun _ => yc ⟨by omega, by omega⟩) rt) ?_
  rintro (_ | _) g
  · exact yc (.inl rfl)
  · exact yc (.inr g)
theorem foreign_tt {b : Prop} {c : qC} {t : qT} {x : qK} (ht : TR t) (hx : x ∈ t.Cons) (hk : x.Kind = 3) (h1 : x.Cols.length ≤ 1000) (h2 : x.Refs.length ≤ 1000) : RB b (r17_foreign c t x) TT := by
  unfold r17_foreign
  refine yd (R := TT) (yi (fun _ => yd (tat_rb c _) fun r hr => yi rt fun hc => ?_) rt) ?_
  · simp only [decide_eq_false_iff_not] at hc
    exact ybd om (by rcases hr with hr | hr <;> omega) fun _ _ _ => yc trivial
  rintro (⟨_, _⟩ | p) _
  · exact yc trivial
  refine yd (places_rb p h2) ?_
  rintro ⟨l1, k1⟩ ⟨p1, p2⟩
  refine yd (places_rb t h1) ?_
  rintro ⟨l2, k2⟩ ⟨q1, q2⟩
  simp only at p1 p2 q1 q2
  refine yi rt fun hc => ?_
  have e1 : l1.length = x.Refs.length := by
    rcases p2 with ⟨_, h⟩ | ⟨h, _⟩
    · exact h
    · simp at hc; exact absurd hc h
  have e2 : l2.length = x.Cols.length := by
    rcases q2 with ⟨_, h⟩ | ⟨_, _, s, hs, h⟩
    · exact h
    · obtain ⟨d, hd, he⟩ := ht.cs x hx s hs
      exact absurd he (h d hd)
  have e3 := ht.rf x hx hk
  refine yd (R := TT) (forN_tt fun j s hj => yaf om fun u _ hu => ybd (q1 u hu).1 (q1 u hu).2 fun _ _ _ => yaf hj fun v _ hv => ybd (p1 v hv).1 (p1 v hv).2 fun _ _ _ => yi rt rt) ?_
  rintro (_ | _) _
  · exact yd (keys_tt _ _) fun _ _ => yi rt rt
  · exact yc trivial
theorem sound_rb {b : Prop} {n : Nat} (c : qC) {t : qT} (h : TB n t) (hn : n ≤ 1000) : RB b (r17_Sound c t) (fun r => r = 0 → TR t) := by
  have no : ∀ {k : Int} {C : Prop}, k ≠ 0 → (k = 0 → C) := fun hk he => absurd he hk
  unfold r17_Sound
  refine yd (tcheck_rb h hn) fun r hr => yi (fun hc => yc (no (by simpa using hc))) fun hc => ?_
  have ht : TR t := hr (by simpa using hc)
  refine RB.mono (Q := TT) ?_ (fun _ _ _ => ht)
  refine yd (R := TT) (forN_tt fun j s hj => yaf hj fun x _ hx => ?_) ?_
  · obtain ⟨_, _, x1, x2, x3⟩ := h.xs x hx
    refine yd (R := TT) (yi (fun _ => yd (resolve_rb t (Nat.le_trans x3.1 om) x3.2) ?_) rt) fun _ _ => yd (R := TT) (yi (fun hk => yd (foreign_tt ht hx (by simpa using hk) om om) fun _ _ => yc trivial) rt) fun _ _ => yi rt rt
    rintro ⟨e, f⟩ hf
    refine yd (R := TT) (yi (fun hc => ?_) rt) fun _ _ => yc trivial
    obtain ⟨f1, f2⟩ := hf (by simpa using hc)
    have hcl := h.cols
    refine yd (R := TT) ?_ fun l _ => yd (bool_tt l f1 f2) fun _ _ => yc trivial
    unfold r15_Cols
    exact yd (grow (k := 8) (fun (x : qL) => x.Type_) (by simp; omega) fun j s x hx => by rw [idx_nat, hx]; rfl).tt fun _ _ => yc trivial
  · rintro (_ | _) _ <;> exact yc trivial
def CO (n : Nat) (x : qK) : Prop := x.Name.size ≤ 100 ∧ x.Table.size ≤ 100 ∧ x.Cols.length ≤ n ∧ x.Refs.length ≤ n ∧ Es x.Check
def TN (n : Nat) (t : qT) : Prop := TB n t ∧ NE t
structure CB (n : Nat) (c : qC) : Prop where
  tabs : c.Tables.length ≤ n
  ok : ∀ t ∈ c.Tables, TN n t
  grants : c.Grants.length ≤ n
theorem CB.up {n m : Nat} {c : qC} (h : CB n c) (hm : n ≤ m) : CB m c := ⟨by have := h.tabs; omega, fun t ht => ⟨(h.ok t ht).1.up hm, (h.ok t ht).2⟩, by have := h.grants; omega⟩
structure SF (s : qS) : Prop where
  cols : s.Cols.length ≤ 12
  cons : s.Cons.length ≤ 12
  names : s.Names.length ≤ 12
  table : s.Table.size ≤ 100
  name : s.Name.size ≤ 100
  cn : ∀ x ∈ s.Cols, x.Name.size ≤ 100
  xs : ∀ x ∈ s.Cons, CO 12 x
theorem copy_rb {b : Prop} {n : Nat} {t : qT} (h : TB n t) (hn : n ≤ 1000) : RB b (r17_Copy t) (fun r => r = t) := by
  have h1 := h.cols
  have h2 := h.cons
  have h3 := h.idx
  unfold r17_Copy
  exact yaw (by simp; omega) (yaw (by simp; omega) (yaw (by simp; omega) (yc rfl)))
theorem pointed_rb {b : Prop} {n : Nat} {t : qT} (h : TN n t) (hn : n ≤ 1000) (p q : By8) (hq : q.size ≤ 100) : RB b (r17_pointed t p q) (fun r => TN n r.1 ∧ r.1.Name = t.Name) := by
  have h2 := h.1.cons
  unfold r17_pointed
  refine yd (copy_rb h.1 hn) ?_
  rintro _ rfl
  refine yd (loopO_rb (fun (s : Bool × Int × List qK) => ∃ i : Nat, s.2.1 = (i : Int) ∧ i ≤ s.2.2.length ∧ s.2.2.length ≤ n ∧ ∀ x ∈ s.2.2, CO n x ∧ (x.Kind = 1 → x.Cols ≠ [])) (fun s => s.2.2.length - s.2.1.toNat) (Q := fun s => s.2.length ≤ n ∧ ∀ x ∈ s.2, CO n x ∧ (x.Kind = 1 → x.Cols ≠ [])) ?_ ⟨0, rfl, by omega, h2, fun x hx => ⟨h.1.xs x hx, h.2 x hx⟩⟩) ?_
  · rintro ⟨c, _, l⟩ ⟨i, rfl, hi, hl, g⟩
    simp only at hi hl g
    refine yi (fun hc => ?_) fun _ => yc ⟨hl, g⟩
    have hlt : i < l.length := by simpa using hc
    have ew : w64 ((i : Int) + 1) = ((i + 1 : Nat) : Int) := by rw [w64_id om om]; rfl
    refine yaf hlt fun x hx hm => yd (R := TT) (yi (fun _ => yaf hlt fun _ _ _ => yc trivial) rt) fun _ _ => yd (R := fun (r : Bool × List qK) => r.2.length = l.length ∧ ∀ x ∈ r.2, CO n x ∧ (x.Kind = 1 → x.Cols ≠ [])) (yi (fun _ => yaf hlt fun y _ hy => yc ⟨by simp, fun z hz => ?_⟩) (fun _ => yc ⟨rfl, g⟩)) ?_
    · rcases List.mem_or_eq_of_mem_set hz with hz | rfl
      · exact g z hz
      · obtain ⟨⟨c1, _, c3, c4, c5⟩, c6⟩ := g y hy
        exact ⟨⟨c1, hq, c3, c4, c5⟩, c6⟩
    · rintro ⟨c', l'⟩ ⟨e1, e2⟩
      simp only at e1 e2
      refine yc ⟨⟨i + 1, ew, by simp only; omega, by simp only; omega, e2⟩, ?_⟩
      simp only [ew]
      omega
  · rintro ⟨c, l⟩ ⟨g1, g2⟩
    simp only at g1 g2
    exact yc ⟨⟨⟨h.1.cols, g1, h.1.idx, h.1.nm, h.1.ow, h.1.cn, fun x hx => (g2 x hx).1, h.1.is⟩, fun x hx => (g2 x hx).2⟩, rfl⟩
theorem TN.ver {n : Nat} {t : qT} (h : TN n t) (v : Int) : TN n { t with Version := v } := ⟨⟨h.1.cols, h.1.cons, h.1.idx, h.1.nm, h.1.ow, h.1.cn, h.1.xs, h.1.is⟩, h.2⟩
theorem TB.ver {n : Nat} {t : qT} (h : TB n t) (v : Int) : TB n { t with Version := v } := ⟨h.cols, h.cons, h.idx, h.nm, h.ow, h.cn, h.xs, h.is⟩
theorem renamed_rb {b : Prop} {n : Nat} {c : qC} {t : qT} (h : CB n c) (ht : TN n t) (hn : n ≤ 1000) {q : By8} (hq : q.size ≤ 100) : RB b (r17_renamed c t q) (fun r => CB n r.1 ∧ r.1.Roles = c.Roles ∧ TB n r.2) := by
  have h1 := h.tabs
  have h2 := h.grants
  unfold r17_renamed
  refine yd (pointed_rb ht hn _ _ hq) ?_
  rintro ⟨u, f⟩ ⟨hu, _⟩
  refine yd (forE_ret (fun j (s : List qT) => s.length ≤ j ∧ ∀ t ∈ s, TN n t) ⟨by simp, by simp⟩ ?_) ?_
  · rintro j s hj ⟨g1, g2⟩
    refine yd (R := fun (r : qT × Bool) => TN n r.1) (yaf hj fun x _ hx => yd (pointed_rb (h.ok x hx) hn _ _ hq) ?_) ?_
    · rintro ⟨_, _⟩ g
      exact yc g.1
    rintro ⟨x, f⟩ hx
    refine yd (R := fun (x : qT) => TN n x) (yi (fun _ => yc (hx.ver _)) (fun _ => yc hx)) fun y hy => yaf hj fun z _ _ => yd (R := fun (s : List qT) => s.length ≤ j + 1 ∧ ∀ t ∈ s, TN n t) (yi (fun _ => yaw (by simp only [List.length_cons, List.length_nil]; omega) (yc ⟨by simp; omega, fun w hw => ?_⟩)) (fun _ => yc ⟨by omega, g2⟩)) fun s hs => yc hs
    rcases List.mem_append.1 hw with hw | hw
    · exact g2 w hw
    · simp only [List.mem_cons, List.not_mem_nil, or_false] at hw
      subst hw
      exact hy
  · rintro s ⟨g1, g2⟩
    refine yd (forE_ret (fun j (s : List qG) => s.length ≤ j) (by simp) ?_) ?_
    · rintro j s hj g
      exact yaf hj fun x _ _ => yd (R := TT) (yi rt rt) fun _ _ => yaw (by simp only [List.length_cons, List.length_nil]; omega) (yc (by simp; omega))
    · intro gs hg
      have hg : gs.length ≤ c.Grants.length := hg
      refine yc ⟨⟨by simp only; omega, g2, by simp only; omega⟩, rfl, ?_⟩
      exact ⟨hu.1.cols, hu.1.cons, hu.1.idx, hq, hu.1.ow, hu.1.cn, hu.1.xs, hu.1.is⟩
theorem refers1_tt {b : Prop} {n : Nat} {c : qC} (h : CB n c) (hn : n ≤ 1000) (p1 p2 p3 : By8) (p4 : List By8) : RB b (r17_refers_nnsl c p1 p2 p3 p4) TT := by
  unfold r17_refers_nnsl
  refine yd (R := TT) (forN_tt fun j s hj => yaf hj fun x _ hx => yd (R := TT) (loopO_rb (fun (i : Int) => ∃ k : Nat, i = (k : Int) ∧ k ≤ x.Cons.length) (fun i => x.Cons.length - i.toNat) (Q := TT) ?_ ⟨0, rfl, by omega⟩) ?_) ?_
  · rintro _ ⟨k, rfl, hk⟩
    have hxl := (h.ok x hx).1.cons
    refine ya0 (yi (fun hc => ?_) fun _ => yc trivial)
    have hlt : k < x.Cons.length := by simp at hc; omega
    have ew : w64 ((k : Int) + 1) = ((k + 1 : Nat) : Int) := by rw [w64_id om om]; rfl
    refine yd (R := TT) (yaf hlt fun y _ _ => yi rt fun _ => yd (alike_tt _ _) fun _ _ => yi rt rt) ?_
    rintro (u | s) _
    · exact yc ⟨⟨k + 1, ew, by omega⟩, by rw [ew]; omega⟩
    · exact yc trivial
  · rintro (_ | _) _ <;> exact yc trivial
  · rintro (_ | _) _ <;> exact yc trivial
theorem refers0_tt {b : Prop} {n : Nat} {c : qC} (h : CB n c) (hn : n ≤ 1000) (p1 p2 p3 : By8) : RB b (r17_refers_nilsl c p1 p2 p3) TT := by
  unfold r17_refers_nilsl
  refine yd (R := TT) (forN_tt fun j s hj => yaf hj fun x _ hx => yd (R := TT) (loopO_rb (fun (i : Int) => ∃ k : Nat, i = (k : Int) ∧ k ≤ x.Cons.length) (fun i => x.Cons.length - i.toNat) (Q := TT) ?_ ⟨0, rfl, by omega⟩) ?_) ?_
  · rintro _ ⟨k, rfl, hk⟩
    have hxl := (h.ok x hx).1.cons
    refine ya0 (yi (fun hc => ?_) fun _ => yc trivial)
    have hlt : k < x.Cons.length := by simp at hc; omega
    have ew : w64 ((k : Int) + 1) = ((k + 1 : Nat) : Int) := by rw [w64_id om om]; rfl
    refine yd (R := TT) (yaf hlt fun y _ _ => yi rt fun _ => yd (R := TT) (yi rt fun _ => yd (has_rb _ _) fun _ _ => yc trivial) fun _ _ => yd (R := TT) (yi rt rt) fun _ _ => yi rt rt) ?_
    rintro (u | s) _
    · exact yc ⟨⟨k + 1, ew, by omega⟩, by rw [ew]; omega⟩
    · exact yc trivial
  · rintro (_ | _) _ <;> exact yc trivial
  · rintro (_ | _) _ <;> exact yc trivial
theorem ybe {α β : Type} {b : Prop} {xs : List α} {lo hi : Int} {Q : β → Prop} {f : List α → Option β} (h0 : 0 ≤ lo) (h1 : lo ≤ hi) (h2 : hi ≤ (xs.length : Int)) (hf : ∀ l, (∀ x ∈ l, x ∈ xs) → (l.length : Int) = hi - lo → RB b (f l) Q) : RB b ((sub xs lo hi).bind f) Q := by
  rw [sub_at (i := lo.toNat) (j := hi.toNat) om om om om]
  exact hf _ (fun x hx => List.mem_of_mem_take (List.mem_of_mem_drop hx)) (by simp; omega)
theorem dropped_rb {b : Prop} {n : Nat} {c : qC} {t : qT} (h : CB n c) (ht : TN n t) (hn : n ≤ 1000) (nm : By8) : RB b (r17_dropped c t nm) (fun r => TB (n + 1) r.1) := by
  have h2 := ht.1.cons
  unfold r17_dropped
  refine yd (forN_q (Q := fun r => TB (n + 1) r.2) fun j s hj => yaf hj fun x _ hx => yi rt fun _ => ?_) ?_
  · have hxc := (ht.1.xs x hx).2.2.1
    refine yaw (by simp; omega) ?_
    rw [List.nil_append]
    refine yd (R := fun (q : Bool) => q = true → x.Kind = 1) (yi (fun hk => yd (keys_tt _ _) fun _ _ => yc fun _ => by simpa using hk) (fun _ => yc fun h => by cases h)) fun q hq => yd (R := TT) (yi (fun hc => ?_) rt) fun _ _ => yi (fun _ => yc (show TB (n + 1) t from ht.1.up om)) fun _ => yd (copy_rb ht.1 hn) ?_
    · have hne := ht.2 x hx (hq hc)
      have : must (!(x.Cols).isEmpty) = some () := by cases hxc : x.Cols with
        | nil => exact absurd hxc hne
        | cons a r => rfl
      rw [this]
      exact ya0 (yd (refers1_tt h hn _ _ _ _) fun _ _ => yc trivial)
    · intro r hr
      have hr : r = t := hr
      rw [hr]
      have ew : w64 ((j : Int) + 1) = ((j + 1 : Nat) : Int) := by rw [w64_id om om]; rfl
      rw [ew]
      refine ybe om om om fun l1 m1 k1 => yaw (by simp; omega) (ybe om om om fun l2 m2 k2 => yaw (by simp; omega) (yc ?_))
      refine ⟨by have := ht.1.cols; simp only; omega, by simp; omega, by have := ht.1.idx; simp only; omega, ht.1.nm, ht.1.ow, ht.1.cn, fun y hy => (ht.1.up (show n ≤ n + 1 by omega)).xs y ?_, (ht.1.up (show n ≤ n + 1 by omega)).is⟩
      simp only [List.nil_append, List.mem_append] at hy
      rcases hy with hy | hy
      · exact m1 y hy
      · exact m2 y hy
  · rintro (s | ⟨s1, s2⟩) g
    · exact yc (ht.1.up om)
    · exact yc g
theorem turned_rb {b : Prop} {n : Nat} {c : qC} {t : qT} {s : qS} (h : CB n c) (ht : TN n t) (hs : SF s) (h12 : 12 ≤ n) (hn : n ≤ 1000) : RB b (r17_turned c t s) (fun r => TB (n + 1) r.1) := by
  have t1 := ht.1.cols
  have t2 := ht.1.cons
  have t3 := ht.1.idx
  have up := ht.1.up (show n ≤ n + 1 by omega)
  unfold r17_turned
  refine yd (copy_rb ht.1 hn) fun r hr => ?_
  have hr : r = t := hr
  rw [hr]
  refine yd (tnames_rb ht.1 hn) ?_
  rintro ⟨r1, r2⟩ _
  refine yd (R := fun (q : (Int × qT) ⊕ (qT × (List qL) × (List qK) × (List qI))) => match q with | .inl (_, u) => TB (n + 1) u | .inr (_, a, d, e) => TB (n + 1) { t with Cols := a, Cons := d, Idx := e }) ?_ ?_
  rotate_left
  · rintro (⟨_, u⟩ | ⟨_, a, d, e⟩) g
    · exact yc g
    · exact yc g
  refine yi (fun _ => yi (fun _ => yc up) fun hc => ?_) fun _ => ?_
  · have hl : s.Cols.length = 1 := by simp at hc; omega
    refine yaf (i := 0) om fun x _ hx => yd (col_rb _ _) fun _ _ => yi (fun _ => yc up) fun _ => yaf (i := 0) om fun y _ hy => yaw (by simp only [List.length_cons, List.length_nil]; omega) (yc ?_)
    refine ⟨by simp only [List.length_append, List.length_cons, List.length_nil]; omega, up.cons, up.idx, up.nm, up.ow, fun z hz => ?_, up.xs, up.is⟩
    rcases List.mem_append.1 hz with hz | hz
    · exact up.cn z hz
    · simp only [List.mem_cons, List.not_mem_nil, or_false] at hz
      subst hz
      exact hs.cn _ hy
  refine yd (R := fun (q : (Int × qT) ⊕ (qT × (List qL) × (List qK) × (List qI))) => match q with | .inl (_, u) => TB (n + 1) u | .inr (_, a, d, e) => TB (n + 1) { t with Cols := a, Cons := d, Idx := e }) ?_ ?_
  rotate_left
  · rintro (⟨_, u⟩ | ⟨_, a, d, e⟩) g <;> exact yc g
  refine yi (fun _ => yd (col_rb _ _) fun at_ ha => yi (fun _ => yc up) fun hc => yd (R := TT) (yi rt fun _ => yd (used_rb ht.1 hn) fun _ _ => yd (has_rb _ _) fun _ _ => yc trivial) fun _ _ => yd (R := TT) (yi rt fun _ => yd (R := TT) (yi (fun _ => yd (refers0_tt h hn _ _ _) fun _ _ => yc trivial) rt) fun _ _ => yc trivial) fun _ _ => yi (fun _ => yc up) fun _ => ?_) fun _ => ?_
  · have h0 : 0 ≤ at_ ∧ at_ < (t.Cols.length : Int) := by
      rcases ha with ⟨ha, _⟩ | ha
      · subst ha; simp at hc
      · exact ha
    have ew : w64 (at_ + 1) = at_ + 1 := w64_id om om
    rw [ew]
    refine ybe om om om fun l1 m1 k1 => yaw (by simp; omega) (ybe om om om fun l2 m2 k2 => yaw (by simp; omega) (yc ?_))
    refine ⟨by simp; omega, up.cons, up.idx, up.nm, up.ow, fun z hz => ?_, up.xs, up.is⟩
    simp only [List.nil_append, List.mem_append] at hz
    rcases hz with hz | hz
    · exact up.cn z (m1 z hz)
    · exact up.cn z (m2 z hz)
  refine yd (R := fun (q : (Int × qT) ⊕ (qT × (List qK) × (List qI))) => match q with | .inl (_, u) => TB (n + 1) u | .inr (_, d, e) => TB (n + 1) { t with Cons := d, Idx := e }) ?_ ?_
  rotate_left
  · rintro (⟨_, u⟩ | ⟨_, d, e⟩) g <;> exact yc g
  refine yi (fun _ => yi (fun _ => yc up) fun hc => ?_) fun _ => ?_
  · have hl : s.Cons.length = 1 := by simp at hc; omega
    refine yaf (i := 0) om fun x _ hx => yd (has_rb _ _) fun _ _ => yi (fun _ => yc up) fun _ => yi (fun _ => yc up) fun _ => yaf (i := 0) om fun y _ hy => yaw (by simp only [List.length_cons, List.length_nil]; omega) (yc ?_)
    refine ⟨up.cols, by simp only [List.length_append, List.length_cons, List.length_nil]; omega, up.idx, up.nm, up.ow, up.cn, fun z hz => ?_, up.is⟩
    rcases List.mem_append.1 hz with hz | hz
    · exact up.xs z hz
    · simp only [List.mem_cons, List.not_mem_nil, or_false] at hz
      subst hz
      obtain ⟨c1, c2, c3, c4, c5⟩ := hs.xs _ hy
      exact ⟨c1, c2, by omega, by omega, c5⟩
  refine yd (R := fun (q : (Int × qT) ⊕ (qT × (List qI))) => match q with | .inl (_, u) => TB (n + 1) u | .inr (_, e) => TB (n + 1) { t with Idx := e }) ?_ ?_
  rotate_left
  · rintro (⟨_, u⟩ | ⟨_, e⟩) g <;> exact yc g
  refine yi (fun _ => yd (has_rb _ _) fun _ _ => yi (fun _ => yc up) fun _ => yi (fun _ => yc up) fun _ => yaw (by simp only [List.length_cons, List.length_nil]; omega) (yc ?_)) fun _ => yi (fun _ => yd (dropped_rb h ht hn _) ?_) fun _ => yi (fun _ => ?_) fun _ => yc up
  · refine ⟨up.cols, up.cons, by simp only [List.length_append, List.length_cons, List.length_nil]; omega, up.nm, up.ow, up.cn, up.xs, fun z hz => ?_⟩
    rcases List.mem_append.1 hz with hz | hz
    · exact up.is z hz
    · simp only [List.mem_cons, List.not_mem_nil, or_false] at hz
      subst hz
      exact ⟨hs.name, by have := hs.names; simp only; omega⟩
  · rintro ⟨_, _⟩ g
    exact yc g
  · refine yd (forN_q (Q := fun q => TB (n + 1) q.2) ?_) ?_
    · rintro j ⟨_, _⟩ hj
      have ew : w64 ((j : Int) + 1) = ((j + 1 : Nat) : Int) := by rw [w64_id om om]; rfl
      refine yaf hj fun x _ hx => yi (fun _ => ?_) rt
      rw [ew]
      refine ybe om om om fun l1 m1 k1 => yaw (by simp; omega) (ybe om om om fun l2 m2 k2 => yaw (by simp; omega) (yc ?_))
      refine ⟨up.cols, up.cons, by simp; omega, up.nm, up.ow, up.cn, up.xs, fun z hz => ?_⟩
      simp only [List.nil_append, List.mem_append] at hz
      rcases hz with hz | hz
      · exact up.is z (m1 z hz)
      · exact up.is z (m2 z hz)
    · rintro (⟨_, _⟩ | ⟨_, _⟩) g
      · exact yc up
      · exact yc g
theorem without_rb {b : Prop} {n : Nat} {c : qC} (h : CB n c) (hn : n ≤ 1000) (nm : By8) : RB b (r17_without c nm) (fun r => CB n r ∧ r.Roles = c.Roles ∧ r.Grants = c.Grants) := by
  have h1 := h.tabs
  unfold r17_without
  refine yd (forE_ret (fun j (s : List qT) => s.length ≤ j ∧ ∀ t ∈ s, TN n t) ⟨by simp, by simp⟩ ?_) ?_
  · rintro j s hj ⟨g1, g2⟩
    refine yaf hj fun x _ _ => yd (R := fun (s : List qT) => s.length ≤ j + 1 ∧ ∀ t ∈ s, TN n t) (yi (fun _ => yaf hj fun y _ hy => yaw (by simp only [List.length_cons, List.length_nil]; omega) (yc ⟨by simp; omega, fun w hw => ?_⟩)) (fun _ => yc ⟨by omega, g2⟩)) fun s hs => yc hs
    rcases List.mem_append.1 hw with hw | hw
    · exact g2 w hw
    · simp only [List.mem_cons, List.not_mem_nil, or_false] at hw
      subst hw
      exact h.ok _ hy
  · rintro s ⟨g1, g2⟩
    exact yc ⟨⟨by simp only; omega, g2, h.grants⟩, rfl, rfl⟩
theorem with_rb {b : Prop} {n : Nat} {c : qC} {t : qT} (h : CB n c) (ht : TN (n + 1) t) (hn : n ≤ 1000) : RB b (r17_with c t) (fun r => CB (n + 1) r ∧ r.Roles = c.Roles) := by
  have h1 := h.tabs
  unfold r17_with
  refine yd (loopO_rb (fun (i : Int) => ∃ k : Nat, i = (k : Int) ∧ k ≤ c.Tables.length) (fun i => c.Tables.length - i.toNat) (Q := fun i => 0 ≤ i ∧ i ≤ (c.Tables.length : Int)) ?_ ⟨0, rfl, by omega⟩) ?_
  · rintro _ ⟨k, rfl, hk⟩
    have ew : w64 ((k : Int) + 1) = ((k + 1 : Nat) : Int) := by rw [w64_id om om]; rfl
    refine yd (R := fun (q : Bool) => q = true → k < c.Tables.length) (yi (fun hc => yaf (by simpa using hc) fun _ _ _ => yc fun _ => by simpa using hc) (fun _ => yc fun h => by cases h)) fun q hq => yi (fun hc => yc ⟨⟨k + 1, ew, hq hc⟩, by have := hq hc; rw [ew]; omega⟩) fun _ => yc ⟨by omega, by omega⟩
  · rintro i ⟨i0, i1⟩
    refine ybe om om om fun l1 m1 k1 => yaw (by simp; omega) (yaw (by simp; omega) (ybe om om om fun l2 m2 k2 => yaw (by simp; omega) (yc ⟨⟨by simp; omega, fun z hz => ?_, by have := h.grants; simp only; omega⟩, rfl⟩)))
    have hu := h.up (show n ≤ n + 1 by omega)
    simp only [List.nil_append, List.mem_append, List.mem_cons, List.not_mem_nil, or_false] at hz
    rcases hz with (hz | hz) | hz
    · exact hu.ok z (m1 z hz)
    · subst hz; exact ht
    · exact hu.ok z (m2 z hz)
theorem TR.ver {t : qT} (h : TR t) (v : Int) : NE { t with Version := v } := h.ne
theorem tmake_rb {b : Prop} {n : Nat} {c : qC} {s : qS} {by_ : By8} {most : Int} (h : CB n c) (hs : SF s) (hb : by_.size ≤ 100) (h12 : 12 ≤ n) (hn : n ≤ 1000 - 1) : RB b (r17_Make c s by_ most) (fun r => r.2 = 0 → CB (n + 1) r.1 ∧ r.1.Roles = c.Roles) := by
  have h1 := h.tabs
  have h2 := h.grants
  have no : ∀ {k : Int} {C : Prop}, k ≠ 0 → (k = 0 → C) := fun hk he => absurd he hk
  unfold r17_Make
  refine yi (fun _ => yc (no (by decide))) fun _ => yd (tat_rb c _) fun at_ hat => yi (fun _ => yc (no (by decide))) fun _ => yi (fun _ => yc (no (by decide))) fun _ => yi (fun _ => yc (no (by decide))) fun hc4 => yd (without_rb h om _) fun w hw => ?_
  obtain ⟨hw1, hw2, hw3⟩ := hw
  have hne : (s.Kind == 1) = false → 0 ≤ at_ ∧ at_ < (c.Tables.length : Int) := by
    intro hk
    rw [show (s.Kind != 1) = true by simp [bne, hk]] at hc4
    simp only [Bool.true_and, decide_eq_false_iff_not] at hc4
    rcases hat with hat | hat
    · omega
    · exact hat
  refine yd (R := fun (q : (Int × qC × Int × (List qT) × (List qJ) × (List qG) × qT) ⊕ (Int × qC × qT)) => match q with | .inl (_, _, v, ts, rs, gs, u) => CB n ⟨v, ts, rs, gs⟩ ∧ rs = c.Roles ∧ TB (n + 1) u | .inr (k, _, _) => k ≠ 0) ?_ ?_
  · have hz : TB (n + 1) z_qT := ⟨Nat.zero_le _, Nat.zero_le _, Nat.zero_le _, Nat.zero_le _, Nat.zero_le _, (fun x hx => by cases hx), (fun x hx => by cases hx), (fun x hx => by cases hx)⟩
    refine yi (fun _ => yc ⟨hw1, hw2, ?_⟩) fun k1 => ?_
    · exact ⟨by have := hs.cols; simp only; omega, by have := hs.cons; simp only; omega, Nat.zero_le _, hs.table, hb, hs.cn, fun x hx => by obtain ⟨c1, c2, c3, c4, c5⟩ := hs.xs x hx; exact ⟨c1, c2, by omega, by omega, c5⟩, fun x hx => by cases hx⟩
    obtain ⟨a0, a1⟩ := hne k1
    refine yd (R := fun (q : (Int × qC × qT) ⊕ (Int × qC × Int × (List qT) × (List qJ) × (List qG) × qT)) => match q with | .inr (_, _, v, ts, rs, gs, u) => CB n ⟨v, ts, rs, gs⟩ ∧ rs = c.Roles ∧ TB (n + 1) u | .inl (k, _, _) => k ≠ 0) ?_ ?_
    rotate_left
    · rintro (⟨_, _, _⟩ | ⟨_, _, _, _, _, _, _⟩) g <;> exact yc g
    refine yi (fun _ => yd (refers0_tt h om _ _ _) fun _ _ => yi (fun _ => yc (show (34 : Int) ≠ 0 by decide)) fun _ => yd (forE_ret (fun j (s : List qG) => s.length ≤ j) (by simp) ?_) fun gs hg => yc ⟨⟨hw1.tabs, hw1.ok, by have hg : gs.length ≤ c.Grants.length := hg; simp only; omega⟩, hw2, hz⟩) fun _ => ?_
    · intro j s hj g
      exact yaf hj fun x _ _ => yd (R := fun (s : List qG) => s.length ≤ j + 1) (yi (fun _ => yaf hj fun _ _ _ => yaw (by simp only [List.length_cons, List.length_nil]; omega) (yc (by simp; omega))) (fun _ => yc om)) fun s hs => yc hs
    refine yd (R := fun (q : (Int × qC × qT) ⊕ (Int × qC × Int × (List qT) × (List qJ) × (List qG) × qT)) => match q with | .inr (_, _, v, ts, rs, gs, u) => CB n ⟨v, ts, rs, gs⟩ ∧ rs = c.Roles ∧ TB (n + 1) u | .inl (k, _, _) => k ≠ 0) ?_ ?_
    rotate_left
    · rintro (⟨_, _, _⟩ | ⟨_, _, _, _, _, _, _⟩) g <;> exact yc g
    refine yi (fun _ => yd (tat_rb c _) fun _ _ => yi (fun _ => yc (show (19 : Int) ≠ 0 by decide)) fun _ => ybd a0 a1 fun x _ hx => yd (renamed_rb h (h.ok x hx) om hs.name) ?_) fun _ => ybd a0 a1 fun x _ hx => yd (turned_rb h (h.ok x hx) hs h12 om) ?_
    · rintro ⟨d, u⟩ ⟨d1, d2, d3⟩
      exact yc ⟨d1, d2, d3.up om⟩
    · rintro ⟨u, e⟩ g
      exact yc ⟨hw1, hw2, g⟩
  · rintro (⟨k, z, v, ts, rs, gs, u⟩ | ⟨k, z, u⟩) g
    · obtain ⟨g1, g2, g3⟩ := g
      refine yd (R := fun (e : Int) => e = 0 → s.Kind ≠ 2 → NE u) (yi (fun _ => yd (sound_rb _ g3 om) fun r hr => yc fun he _ => (hr he).ne) fun hc => yc fun he hk => ?_) fun e he => yd (R := fun (e' : Int) => e' = 0 → e = 0) (yi (fun _ => yc fun h => by cases h) fun _ => yc fun h => h) fun e' he' => yi (fun hc => yc (no (by simpa using hc))) fun hc => ?_
      · subst he
        simp [hk] at hc
      have hz : e' = 0 := by simpa using hc
      refine yd (R := fun (q : Int × (List qT) × (List qJ) × (List qG) × qT) => CB (n + 1) ⟨q.1, q.2.1, q.2.2.1, q.2.2.2.1⟩ ∧ q.2.2.1 = c.Roles) (yi (fun hk => yd (with_rb g1 ⟨g3.ver _, ?_⟩ om) fun r hr => yc ⟨⟨hr.1.tabs, hr.1.ok, hr.1.grants⟩, hr.2.trans g2⟩) fun _ => yc ⟨g1.up om, g2⟩) ?_
      · exact he (he' hz) (by simpa using hk)
      · rintro ⟨q1, q2, q3, q4, q5⟩ ⟨e1, e2⟩
        exact yc fun _ => ⟨⟨e1.tabs, e1.ok, e1.grants⟩, e2⟩
    · exact yc (no g)
noncomputable def isB (l : List Role) (n o : By8) : Bool := (r18_Is l n o).getD false
theorem is_val {l : List Role} (h : Sm l) (n o : By8) : r18_Is l n o = some (isB l n o) := by
  obtain ⟨r, hr, _⟩ := rall_eq (n := n) h.1 h.2.1
  obtain ⟨b, hb, _⟩ := has_eq r o
  have : r18_Is l n o = some b := by unfold r18_Is; rw [hr]; simp only [obs, hb]
  unfold isB
  rw [this]
  rfl
noncomputable def rI (l : List Role) (n : By8) : Int := (r18_At l n).getD 0
theorem rat_val (l : List Role) (n : By8) : r18_At l n = some (rI l n) := by
  unfold rI
  rcases rat_spec l n with ⟨_, h⟩ | ⟨_, _, _, _, _, _, h⟩ <;> rw [h] <;> rfl
theorem rI_lt (l : List Role) (n : By8) : rI l n < (l.length : Int) := by
  unfold rI
  rcases rat_spec l n with ⟨_, h⟩ | ⟨A, x, B, rfl, _, _, h⟩ <;> rw [h]
  · simp only [Option.getD_some]; omega
  · simp only [Option.getD_some, List.length_append, List.length_cons]; omega
def tI (c : qC) (n : By8) : Int := match c.Tables.findIdx? (fun x => sEq x.Name n) with | some j => (j : Int) | none => -1
theorem tat_val (c : qC) (n : By8) : r17_At c n = some (tI c n) := by
  unfold r17_At tI
  rw [forN_find (fun (x : qT) => sEq x.Name n) (fun j => (j : Int)) (fun j x hx => by rw [idx_nat, hx]; simp only [obs]; cases sEq x.Name n <;> rfl)]
  cases c.Tables.findIdx? (fun x => sEq x.Name n) <;> rfl
theorem tI_get {c : qC} {n : By8} (h : 0 ≤ tI c n) : ∃ (k : Nat) (t : qT), tI c n = (k : Int) ∧ c.Tables[k]? = some t ∧ t ∈ c.Tables ∧ c.Tables.findIdx? (fun x => sEq x.Name n) = some k := by
  unfold tI at h ⊢
  cases e : c.Tables.findIdx? (fun x => sEq x.Name n) with
  | none => rw [e] at h; simp at h
  | some k =>
    obtain ⟨hk, _, _⟩ := List.findIdx?_eq_some_iff_getElem.1 e
    exact ⟨k, c.Tables[k], rfl, gE hk, List.getElem_mem hk, rfl⟩
noncomputable def owB (c : qC) (r t : By8) : Bool := (r19_Owns c r t).getD false
theorem owns_val {c : qC} (h : Sm c.Roles) (r t : By8) : r19_Owns c r t = some (owB c r t) := by
  have : ∃ b, r19_Owns c r t = some b := by
    unfold r19_Owns
    rw [tat_val]
    simp only [obs]
    by_cases h0 : 0 ≤ tI c t
    · obtain ⟨k, x, hk, hx, _⟩ := tI_get h0
      rw [show decide (tI c t ≥ 0) = true by simpa using h0, hk, idx_nat, hx]
      simp only [obs, cond_true, is_val h]
      exact ⟨_, rfl⟩
    · rw [show decide (tI c t ≥ 0) = false by simpa using h0]
      exact ⟨_, rfl⟩
  obtain ⟨b, hb⟩ := this
  unfold owB
  rw [hb]
  rfl
noncomputable def haB (c : qC) (l : List qG) (r : By8) (p : Int) (t : By8) (o : Bool) : Bool := l.any fun g => g.Priv == p && sEq g.Table t && (g.Option || !o) && isB c.Roles r g.To
theorem rhas_val {c : qC} (h : Sm c.Roles) (l : List qG) (r : By8) (p : Int) (t : By8) (o : Bool) : r19_has c l r p t o = some (haB c l r p t o) := by
  unfold r19_has haB
  rw [forN_list (v := true) (fun (g : qG) => !(g.Priv == p && sEq g.Table t && (g.Option || !o) && isB c.Roles r g.To)) (fun j x hx => ?_)]
  · rw [List.all_eq_not_any_not]
    simp only [Bool.not_not]
    cases l.any fun g => g.Priv == p && sEq g.Table t && (g.Option || !o) && isB c.Roles r g.To <;> rfl
  · simp only [idx_nat, hx, obs]
    cases (x.Priv == p) <;> cases sEq x.Table t <;> cases x.Option <;> cases o <;> simp [is_val h] <;> cases isB c.Roles r x.To <;> rfl
noncomputable def okB (c : qC) (l : List qG) (g : qG) : Bool := decide (0 ≤ tI c g.Table) && decide (0 ≤ rI c.Roles g.To) && (owB c g.By g.Table || haB c l g.By g.Priv g.Table true)
noncomputable def rnd (c : qC) (l : List qG) : List qG := c.Grants.filter (okB c l)
noncomputable def rnds (c : qC) : Nat → List qG
  | 0 => []
  | k + 1 => rnd c (rnds c k)
theorem rnds_len (c : qC) (k : Nat) : (rnds c k).length ≤ c.Grants.length := by
  cases k with
  | zero => exact Nat.zero_le _
  | succ k => exact List.length_filter_le ..
noncomputable def heR (c : qC) : List qG := rnds c (c.Grants.length + 1)
theorem rheld_val {c : qC} (h : Sm c.Roles) (hg : c.Grants.length ≤ 1000) : r19_Held c = some (heR c) := by
  unfold r19_Held
  have step : ∀ (s8 : List qG), forE (fun (i18 : Nat) (s17 : List qG) => ((idx c.Grants (i18 : Int)).bind (fun (x32 : qG) => (r17_At c x32.Table).bind (fun (r44 : Int) => ((bif (decide (r44 < 0)) then some true else (r18_At c.Roles x32.To).bind (fun (r56 : Int) => some (decide (r56 < 0))))).bind (fun (j45 : Bool) => (bif j45 then some s17 else (r19_Owns c x32.By x32.Table).bind (fun (r69 : Bool) => ((bif r69 then some true else (r19_has c s8 x32.By x32.Priv x32.Table true).bind (fun (r79 : Bool) => some r79))).bind (fun (j70 : Bool) => ((bif j70 then (app 64 s17 ([x32] : List qG)).bind (fun (x94 : List qG) => some x94) else some s17)).bind (fun (j82 : List qG) => some j82)))))))).bind (fun (j28 : List qG) => some j28)) c.Grants.length 0 ([] : List qG) = some (rnd c s8) := by
    intro s8
    refine Ret.eq ((forE_ret (fun j s => s = (c.Grants.take j).filter (okB c s8)) (by simp) ?_).mono fun r hr => by rw [hr, List.take_length]; rfl)
    rintro j s hj rfl
    have hx : c.Grants[j]? = some c.Grants[j] := gE hj
    have hle : ((c.Grants.take j).filter (okB c s8)).length ≤ j := Nat.le_trans (List.length_filter_le ..) (by simp; omega)
    generalize c.Grants[j] = x at hx
    rw [take_next hx, List.filter_append]
    simp only [idx_nat, hx, obs, tat_val, rat_val, owns_val h, rhas_val h]
    have e : (c.Grants.take j).filter (okB c s8) ++ [x].filter (okB c s8) = bif okB c s8 x then (c.Grants.take j).filter (okB c s8) ++ [x] else (c.Grants.take j).filter (okB c s8) := by
      cases hc : okB c s8 x <;> simp [hc]
    rw [e]
    generalize (c.Grants.take j).filter (okB c s8) = s at hle ⊢
    unfold okB
    by_cases h1 : tI c x.Table < 0
    · rw [show decide (tI c x.Table < 0) = true by simpa using h1, show decide (0 ≤ tI c x.Table) = false by simp; omega]
      exact yc rfl
    · rw [show decide (tI c x.Table < 0) = false by simpa using h1, show decide (0 ≤ tI c x.Table) = true by simp; omega]
      simp only [cond_false, obs, Bool.true_and]
      by_cases h2 : rI c.Roles x.To < 0
      · rw [show decide (rI c.Roles x.To < 0) = true by simpa using h2, show decide (0 ≤ rI c.Roles x.To) = false by simp; omega]
        exact yc rfl
      · rw [show decide (rI c.Roles x.To < 0) = false by simpa using h2, show decide (0 ≤ rI c.Roles x.To) = true by simp; omega]
        simp only [cond_false, Bool.true_and]
        rw [app_le (by simp only [List.length_cons, List.length_nil]; omega)]
        cases owB c x.By x.Table <;> cases haB c s8 x.By x.Priv x.Table true <;> exact yc rfl
  refine Ret.eq (yd (loopO_rb (fun (s : List qG × Int) => ∃ k : Nat, s.2 = (k : Int) ∧ k ≤ c.Grants.length + 1 ∧ s.1 = rnds c k) (fun s => c.Grants.length + 1 - s.2.toNat) (Q := fun s => s = heR c) ?_ ⟨0, rfl, by omega, rfl⟩) fun r hr => yc hr)
  rintro ⟨_, _⟩ ⟨k, rfl, hk, rfl⟩
  refine yi (fun hc => ?_) fun hc => yc ?_
  · have hle : k ≤ c.Grants.length := by simpa using hc
    have ew : w64 ((k : Int) + 1) = ((k + 1 : Nat) : Int) := by rw [w64_id om om]; rfl
    simp only
    rw [step, ew]
    exact yc ⟨⟨k + 1, rfl, by omega, rfl⟩, by simp only; omega⟩
  · have : k = c.Grants.length + 1 := by simp at hc; omega
    subst this
    rfl
def RO (n : Nat) (l : List Role) : Prop := l.length ≤ 8 ∧ ∀ x ∈ l, x.In.length ≤ n ∧ x.Name.size ≤ 100
theorem RO.sm {n : Nat} {l : List Role} (h : RO n l) (hn : n ≤ 100) : Sm l := ⟨by have := h.1; omega, fun x hx => by have := (h.2 x hx).1; omega, fun x hx => by have := (h.2 x hx).2; omega⟩
theorem RO.up {n m : Nat} {l : List Role} (h : RO n l) (hm : n ≤ m) : RO m l := ⟨h.1, fun x hx => ⟨Nat.le_trans (h.2 x hx).1 hm, (h.2 x hx).2⟩⟩
theorem is_tt {b : Prop} {l : List Role} (h : Sm l) (n o : By8) : RB b (r18_Is l n o) TT := ybo (is_val h n o) trivial
theorem rat_rb {b : Prop} (l : List Role) (n : By8) : RB b (r18_At l n) (fun r => r < (l.length : Int)) := ybo (rat_val l n) (rI_lt l n)
theorem rcheck_tt {b : Prop} {n : Nat} {l : List Role} (h : RO n l) (hn : n ≤ 100) : RB b (r18_Check l) TT := by
  have hl := h.1
  have hsm := h.sm hn
  unfold r18_Check
  refine yi rt fun _ => yd (R := TT) (forN_tt fun j s hj => yaf hj fun x _ hx => yd (rname_tt (h.2 x hx).2) fun _ _ => yd (R := TT) (yi rt fun _ => yd (R := TT) (yi (fun hc => ?_) rt) fun _ _ => yc trivial) fun _ _ => yi rt fun _ => yd (R := TT) (loopO_rb (fun (i : Int) => ∃ k : Nat, i = (k : Int) ∧ k ≤ l[j].In.length) (fun i => l[j].In.length - i.toNat) (Q := TT) ?_ ⟨0, rfl, by omega⟩) ?_) ?_
  · have h0 : 0 < (j : Int) := by simpa using hc
    have ew : w64 ((j : Int) - 1) = (j : Int) - 1 := w64_id om om
    rw [ew]
    exact ybd om om fun _ _ _ => yaf hj fun _ _ _ => yc trivial
  · rintro _ ⟨k, rfl, hk⟩
    have hmem := h.2 l[j] (List.getElem_mem hj)
    have ej : ∀ {α : Type} {f : qJ → Option α} {Q : α → Prop}, RB b (f l[j]) Q → RB b ((idx l (j : Int)).bind f) Q := fun hf => by rw [idx_mem hj]; exact hf
    refine ej (yi (fun hc => ej ?_) rt)
    have hlt : k < l[j].In.length := by simpa using hc
    refine yaf hlt fun y _ _ => yd (rat_rb _ _) fun _ _ => yd (R := TT) (yi rt fun _ => yd (R := TT) (yi (fun hc => ej ?_) rt) fun _ _ => yc trivial) fun _ _ => yi rt fun _ => yc ⟨⟨k + 1, by rw [w64_id om om]; rfl, by omega⟩, by rw [w64_id om om]; omega⟩
    have h0 : 0 < (k : Int) := by simpa using hc
    rw [w64_id om om]
    exact ybd om om fun _ _ _ => ej (yaf hlt fun _ _ _ => yc trivial)
  · rintro (_ | _) _ <;> exact yc trivial
  · rintro (_ | _) _
    rotate_left
    · exact yc trivial
    refine yd (R := TT) (forN_tt fun j s hj => yd (R := TT) (loopO_rb (fun (i : Int) => ∃ k : Nat, i = (k : Int) ∧ k ≤ l[j].In.length) (fun i => l[j].In.length - i.toNat) (Q := TT) ?_ ⟨0, rfl, by omega⟩) ?_) ?_
    · rintro _ ⟨k, rfl, hk⟩
      have hmem := h.2 l[j] (List.getElem_mem hj)
      have ej : ∀ {α : Type} {f : qJ → Option α} {Q : α → Prop}, RB b (f l[j]) Q → RB b ((idx l (j : Int)).bind f) Q := fun hf => by rw [idx_mem hj]; exact hf
      refine ej (yi (fun hc => ej ?_) rt)
      have hlt : k < l[j].In.length := by simpa using hc
      exact yaf hlt fun y _ _ => ej (yd (is_tt hsm _ _) fun _ _ => yi rt fun _ => yc ⟨⟨k + 1, by rw [w64_id om om]; rfl, by omega⟩, by rw [w64_id om om]; omega⟩)
    · rintro (_ | _) _ <;> exact yc trivial
    · rintro (_ | _) _ <;> exact yc trivial
theorem while_rb {α : Type} {b : Prop} {xs : List α} {p : α → Bool} (hx : xs.length ≤ 1000) : RB b (loopO (fun (s22 : Int) => ((bif (decide (s22 < (xs.length : Int))) then (idx xs s22).bind (fun (x31 : α) => some (p x31)) else some false)).bind (fun (j27 : Bool) => (bif j27 then some (.inl (w64 (s22 + 1))) else some (.inr s22) : Option (Int ⊕ Int)))) 0) (fun i => 0 ≤ i ∧ i ≤ (xs.length : Int)) := by
  refine loopO_rb (fun (i : Int) => ∃ k : Nat, i = (k : Int) ∧ k ≤ xs.length) (fun i => xs.length - i.toNat) ?_ ⟨0, rfl, by omega⟩
  rintro _ ⟨k, rfl, hk⟩
  have ew : w64 ((k : Int) + 1) = ((k + 1 : Nat) : Int) := by rw [w64_id om om]; rfl
  exact yd (R := fun (q : Bool) => q = true → k < xs.length) (yi (fun hc => yaf (by simpa using hc) fun _ _ _ => yc fun _ => by simpa using hc) (fun _ => yc fun h => by cases h)) fun q hq => yi (fun hc => yc ⟨⟨k + 1, ew, hq hc⟩, by have := hq hc; rw [ew]; omega⟩) fun _ => yc ⟨by omega, by omega⟩
theorem rcreate_rb {b : Prop} {n : Nat} {l : List Role} {nm : By8} (h : RO n l) (hn : n ≤ 100) (hm : nm.size ≤ 100) : RB b (r18_Create l nm) (fun r => r.2 = 0 → RO (n + 1) r.1) := by
  have no : ∀ {k : Int} {C : Prop}, k ≠ 0 → (k = 0 → C) := fun hk he => absurd he hk
  have hl := h.1
  unfold r18_Create
  refine yd (rcheck_tt h hn) fun _ _ => yi (fun hc => yc (no (by simpa using hc))) fun _ => yd (rname_tt hm) fun _ _ => yi (fun _ => yc (no (by decide))) fun _ => yd (rat_rb _ _) fun _ _ => yi (fun _ => yc (no (by decide))) fun _ => yi (fun _ => yc (no (by decide))) fun h8 => yd (while_rb (p := fun (x : qJ) => sLt x.Name nm) om) ?_
  have h8 : l.length ≠ 8 := by simp at h8; omega
  rintro i ⟨i0, i1⟩
  refine ybe om om om fun l1 m1 k1 => yaw (by simp; omega) (yaw (by simp; omega) (ybe om om om fun l2 m2 k2 => yaw (by simp; omega) (yc fun _ => ⟨by simp; omega, fun x hx => ?_⟩)))
  simp only [List.nil_append, List.mem_append, List.mem_cons, List.not_mem_nil, or_false] at hx
  rcases hx with (hx | hx) | hx
  · exact (h.up (show n ≤ n + 1 by omega)).2 x (m1 x hx)
  · subst hx; exact ⟨Nat.zero_le _, hm⟩
  · exact (h.up (show n ≤ n + 1 by omega)).2 x (m2 x hx)
theorem without_tt {b : Prop} {l : List By8} (hl : l.length ≤ 1000) (n : By8) : RB b (r18_without l n) (fun r => r.length ≤ l.length) := by
  unfold r18_without
  refine yd (forE_ret (fun j (s : List By8) => s.length ≤ j) (by simp) fun j s hj g => yaf hj fun x _ _ => yd (R := fun (s : List By8) => s.length ≤ j + 1) (yi (fun _ => yaf hj fun _ _ _ => yaw (by simp only [List.length_cons, List.length_nil]; omega) (yc (by simp; omega))) (fun _ => yc om)) fun s hs => yc hs) fun s hs => yc hs
theorem rturned_rb {b : Prop} {n : Nat} {l : List Role} {k : Int} {s : List By8} (h : RO n l) (h0 : 0 ≤ k) (h1 : k < (l.length : Int)) (hs : s.length ≤ n + 1) : RB b (r18_turned l k s) (RO (n + 1)) := by
  have hl := h.1
  unfold r18_turned
  refine yaw (by simp; omega) (ybd h0 (by simpa using h1) fun x _ hx => yc ⟨by simpa using hl, fun y hy => ?_⟩)
  rw [List.nil_append] at hx hy
  rcases List.mem_or_eq_of_mem_set hy with hy | rfl
  · exact (h.up (show n ≤ n + 1 by omega)).2 y hy
  · exact ⟨hs, (h.2 x hx).2⟩
theorem rinto_rb {b : Prop} {l : List By8} (hl : l.length ≤ 1000) (n : By8) : RB b (r18_into l n) (fun r => r.length ≤ l.length + 1) := by
  unfold r18_into
  refine yd (while_rb (p := fun (x : By8) => sLt x n) hl) ?_
  rintro i ⟨i0, i1⟩
  exact ybe om om om fun l1 m1 k1 => yaw (by simp; omega) (yaw (by simp; omega) (ybe om om om fun l2 m2 k2 => yaw (by simp; omega) (yc (by simp; omega))))
theorem rgrant_rb {b : Prop} {n : Nat} {l : List Role} (h : RO n l) (hn : n ≤ 100) (nm to : By8) : RB b (r18_Grant l nm to) (fun r => r.2 = 0 → RO (n + 1) r.1) := by
  have no : ∀ {k : Int} {C : Prop}, k ≠ 0 → (k = 0 → C) := fun hk he => absurd he hk
  unfold r18_Grant
  refine yd (rcheck_tt h hn) fun _ _ => yi (fun hc => yc (no (by simpa using hc))) fun _ => yd (rat_rb _ _) fun k hk => yd (R := fun (q : Bool) => q = false → 0 ≤ k) (yi (fun _ => yc fun h => by cases h) fun hc => yd (rat_rb _ _) fun _ _ => yc fun _ => by simpa using hc) fun q hq => yi (fun _ => yc (no (by decide))) fun hc => ?_
  have h0 := hq hc
  refine ybd h0 hk fun x _ _ => yd (has_rb _ _) fun _ _ => yi (fun _ => yc (no (by decide))) fun _ => yd (is_tt (h.sm hn) _ _) fun _ _ => yi (fun _ => yc (no (by decide))) fun _ => ybd h0 hk fun y _ hy => ?_
  have hin := (h.2 y hy).1
  exact yd (rinto_rb om _) fun r hr => yd (rturned_rb h h0 hk (by have hr : r.length ≤ y.In.length + 1 := hr; omega)) fun r hr => yc fun _ => hr
theorem rrevoke_rb {b : Prop} {n : Nat} {l : List Role} (h : RO n l) (hn : n ≤ 100) (nm to : By8) : RB b (r18_Revoke l nm to) (fun r => r.2 = 0 → RO (n + 1) r.1) := by
  have no : ∀ {k : Int} {C : Prop}, k ≠ 0 → (k = 0 → C) := fun hk he => absurd he hk
  unfold r18_Revoke
  refine yd (rcheck_tt h hn) fun _ _ => yi (fun hc => yc (no (by simpa using hc))) fun _ => yd (rat_rb _ _) fun k hk => yd (R := fun (q : Bool) => q = false → 0 ≤ k) (yi (fun _ => yc fun h => by cases h) fun hc => ybd (by simpa using hc) hk fun _ _ _ => yd (has_rb _ _) fun _ _ => yc fun _ => by simpa using hc) fun q hq => yi (fun _ => yc (no (by decide))) fun hc => ybd (hq hc) hk fun y _ hy => ?_
  have hin := (h.2 y hy).1
  exact yd (without_tt om _) fun r hr => yd (rturned_rb h (hq hc) hk (by have hr : r.length ≤ y.In.length := hr; omega)) fun r hr => yc fun _ => hr
theorem rdrop_rb {b : Prop} {n : Nat} {l : List Role} (h : RO n l) (hn : n ≤ 100) (nm : By8) : RB b (r18_Drop l nm) (fun r => r.2 = 0 → RO (n + 1) r.1) := by
  have no : ∀ {k : Int} {C : Prop}, k ≠ 0 → (k = 0 → C) := fun hk he => absurd he hk
  have hl := h.1
  unfold r18_Drop
  refine yd (rcheck_tt h hn) fun _ _ => yi (fun hc => yc (no (by simpa using hc))) fun _ => yd (rat_rb _ _) fun k hk => yi (fun _ => yc (no (by decide))) fun _ => yi (fun _ => yc (no (by decide))) fun _ => yd (forE_ret (fun j (s : List qJ) => s.length ≤ j ∧ ∀ x ∈ s, x.In.length ≤ n + 1 ∧ x.Name.size ≤ 100) ⟨by simp, by simp⟩ ?_) ?_
  · rintro j s hj ⟨g1, g2⟩
    refine yaf hj fun x _ _ => yd (R := fun (s : List qJ) => s.length ≤ j + 1 ∧ ∀ x ∈ s, x.In.length ≤ n + 1 ∧ x.Name.size ≤ 100) (yi (fun _ => yaf hj fun y _ hy => yaf hj fun z _ hz => yd (without_tt (by have := (h.2 z hz).1; omega) _) fun r hr => yaw (by simp only [List.length_cons, List.length_nil]; omega) (yc ⟨by simp; omega, fun w hw => ?_⟩)) (fun _ => yc ⟨by omega, g2⟩)) fun s hs => yc hs
    rcases List.mem_append.1 hw with hw | hw
    · exact g2 w hw
    · simp only [List.mem_cons, List.not_mem_nil, or_false] at hw
      subst hw
      have hr : r.length ≤ z.In.length := hr
      exact ⟨by have := (h.2 z hz).1; simp only; omega, (h.2 y hy).2⟩
  · rintro s ⟨g1, g2⟩
    exact yc fun _ => ⟨by simp only; omega, g2⟩
def CI (n : Nat) (c : qC) : Prop := CB n c ∧ RO n c.Roles
theorem CI.up {n m : Nat} {c : qC} (h : CI n c) (hm : n ≤ m) : CI m c := ⟨h.1.up hm, h.2.up hm⟩
theorem heR_len (c : qC) : (heR c).length ≤ c.Grants.length := rnds_len _ _
theorem rcan_val {c : qC} (h : Sm c.Roles) (hg : c.Grants.length ≤ 1000) (r : By8) (p : Int) (t : By8) : r19_Can c r p t = some (owB c r t || haB c (heR c) r p t true) := by
  unfold r19_Can
  simp only [owns_val h, rheld_val h hg, rhas_val h, obs]
  cases owB c r t <;> rfl
theorem rplace_rb {b : Prop} (c : qC) (s : qS) (by_ : By8) : RB b (r19_place c s by_) (fun r => r = -1 ∨ 0 ≤ r ∧ r < (c.Grants.length : Int)) := by
  unfold r19_place
  refine yd (forN_q (Q := fun r => 0 ≤ r ∧ r < (c.Grants.length : Int)) fun j s hj => yaf hj fun _ _ _ => ya0 (yi (fun _ => yc ⟨by omega, by omega⟩) rt)) ?_
  rintro (_ | _) g
  · exact yc (.inl rfl)
  · exact yc (.inr g)
theorem rgiven_rb {b : Prop} {n : Nat} {c : qC} (h : CI n c) (hn : n ≤ 100) (s : qS) (by_ : By8) : RB b (r19_given c s by_) (fun r => r.2 = 0 → r.1.length ≤ n + 1) := by
  have no : ∀ {k : Int} {C : Prop}, k ≠ 0 → (k = 0 → C) := fun hk he => absurd he hk
  have hg := h.1.grants
  unfold r19_given
  refine yd (tat_rb _ _) fun _ _ => yd (R := TT) (yi rt fun _ => yd (rat_rb _ _) fun _ _ => yc trivial) fun _ _ => yi (fun _ => yc (no (by decide))) fun _ => yd (R := TT) (ybo (rcan_val (h.2.sm hn) om _ _ _) trivial) fun _ _ => yi (fun _ => yc (no (by decide))) fun _ => yd (rplace_rb _ _ _) fun k hk => yaw (by simp; omega) ?_
  rw [List.nil_append]
  refine yi (fun hc => ?_) fun _ => yi (fun _ => yc (no (by decide))) fun _ => yaw (by simp only [List.length_cons, List.length_nil]; omega) (yc fun _ => by simp; omega)
  have h0 : 0 ≤ k := by simpa using hc
  have h1 : k < (c.Grants.length : Int) := by omega
  exact ybd h0 h1 fun _ _ _ => yi (fun _ => yc (no (by decide))) fun _ => ybd h0 h1 fun _ _ _ => yc fun _ => by simp; omega
theorem rroles_rb {b : Prop} {n : Nat} {c : qC} {s : qS} (h : CI n c) (hn : n ≤ 100) (hm : s.Name.size ≤ 100) : RB b (r19_roles c s) (fun r => r.2 = 0 → RO (n + 1) r.1) := by
  unfold r19_roles
  refine yi (fun _ => yd (rcreate_rb h.2 hn hm) ?_) fun _ => yi (fun _ => yd (rgrant_rb h.2 hn _ _) ?_) fun _ => yi (fun _ => yd (rrevoke_rb h.2 hn _ _) ?_) fun _ => yd (forN_q (Q := fun r => r.2 = (34 : Int)) fun j s hj => yaf hj fun _ _ _ => yi (fun _ => yc rfl) rt) ?_
  · rintro ⟨_, _⟩ g; exact yc g
  · rintro ⟨_, _⟩ g; exact yc g
  · rintro ⟨_, _⟩ g; exact yc g
  · rintro (_ | ⟨_, k⟩) g
    · refine yd (rdrop_rb h.2 hn _) ?_
      rintro ⟨_, _⟩ g; exact yc g
    · simp only at g
      subst g
      exact yc fun h => by cases h
theorem gmake_rb {b : Prop} {n : Nat} {c : qC} {s : qS} (h : CI n c) (hn : n ≤ 99) (hm : s.Name.size ≤ 100) (by_ : By8) (most : Int) : RB b (r19_Make c s by_ most) (fun r => r.2 = 0 → CI (n + 1) r.1) := by
  have no : ∀ {k : Int} {C : Prop}, k ≠ 0 → (k = 0 → C) := fun hk he => absurd he hk
  have hg := h.1.grants
  unfold r19_Make
  refine yi (fun _ => yc (no (by decide))) fun _ => yd (rat_rb _ _) fun _ _ => yi (fun _ => yc (no (by decide))) fun _ => yd (R := TT) (yi (fun _ => yd (is_tt (h.2.sm om) _ _) fun _ _ => yc trivial) rt) fun _ _ => yd (R := fun (q : (Int × qC × (List qJ) × (List qG)) ⊕ (Int × qC)) => match q with | .inl (k, _, rs, gs) => k = 0 → RO (n + 1) rs ∧ gs.length ≤ n + 1 | .inr (k, _) => k ≠ 0) ?_ ?_
  · refine yi (fun _ => yc (no (by decide))) fun _ => yd (R := fun (q : (Int × qC × (List qJ) × (List qG)) ⊕ (Int × qC)) => match q with | .inl (k, _, rs, gs) => k = 0 → RO (n + 1) rs ∧ gs.length ≤ n + 1 | .inr (k, _) => k ≠ 0) ?_ ?_
    rotate_left
    · rintro (⟨_, _, _, _⟩ | ⟨_, _⟩) g <;> exact yc g
    refine yi (fun _ => yd (rroles_rb h om hm) ?_) fun _ => yd (R := fun (q : (Int × qC × (List qG)) ⊕ (Int × qC)) => match q with | .inl (k, _, gs) => k = 0 → gs.length ≤ n + 1 | .inr (k, _) => k ≠ 0) (yi (fun _ => yd (rgiven_rb h om _ _) ?_) fun _ => yd (rplace_rb _ _ _) fun k hk => yi (fun _ => yc (show (4 : Int) ≠ 0 by decide)) fun hc => ?_) ?_
    · rintro ⟨_, _⟩ g
      exact yc fun he => ⟨g he, by omega⟩
    · rintro ⟨_, _⟩ g
      exact yc g
    · have h0 : 0 ≤ k ∧ k < (c.Grants.length : Int) := by
        rcases hk with hk | hk
        · subst hk; simp at hc
        · exact hk
      have ew : w64 (k + 1) = k + 1 := w64_id om om
      rw [ew]
      exact ybe om om om fun l1 m1 k1 => yaw (by simp; omega) (ybe om om om fun l2 m2 k2 => yaw (by simp; omega) (yc fun _ => by simp; omega))
    · rintro (⟨_, _, _⟩ | ⟨_, _⟩) g
      · exact yc fun he => ⟨h.2.up om, g he⟩
      · exact yc g
  · rintro (⟨k, z, rs, gs⟩ | ⟨k, z⟩) g
    · refine yd (R := fun (e : Int) => e = 0 → k = 0) (yi (fun _ => yc fun h => by cases h) fun _ => yc fun h => h) fun e he => yi (fun hc => yc (no (by simpa using hc))) fun hc => ?_
      obtain ⟨g1, g2⟩ := g (he (by simpa using hc))
      have hh : (heR ({ c with Version := (w64 (c.Version + 1)), Roles := rs, Grants := gs } : qC)).length ≤ gs.length := heR_len _
      refine yd (R := fun l => l = heR _) (ybo (rheld_val (g1.sm om) (by show gs.length ≤ 1000; omega)) rfl) fun l hl => yc fun _ => ⟨⟨Nat.le_succ_of_le h.1.tabs, (h.1.up (show n ≤ n + 1 by omega)).ok, ?_⟩, g1⟩
      have hl : l = heR _ := hl
      rw [hl]
      exact Nat.le_trans hh om
    · exact yc (no g)
theorem SF.of {s : qS} (h1 : s.Cols.length ≤ 12) (h2 : s.Cons.length ≤ 12) (h3 : s.Names.length ≤ 12) (h4 : ∀ x ∈ s.Cons, x.Cols.length ≤ 12 ∧ x.Refs.length ≤ 12 ∧ Es x.Check) {l : List By8} (hl : ∀ x ∈ l, x.size ≤ 100)
    (g1 : s.Table ∈ l ∧ s.Name ∈ l) (g2 : ∀ x ∈ s.Cols, x.Name ∈ l) (g3 : ∀ x ∈ s.Cons, x.Name ∈ l ∧ x.Table ∈ l) : SF s :=
  ⟨h1, h2, h3, hl _ g1.1, hl _ g1.2, fun x hx => hl _ (g2 x hx), fun x hx => ⟨hl _ (g3 x hx).1, hl _ (g3 x hx).2, (h4 x hx).1, (h4 x hx).2.1, (h4 x hx).2.2⟩⟩
theorem sfew_fu {b : Prop} : ∀ (n : Nat) (s : qS), (b → s.Kids = [] ∧ 1 ≤ n ∨ 2 ≤ n) → RB b (r12_Few_fu n s) (fun r => r = true → SF s)
  | 0, s, h => ybh fun hb => by have := h hb; omega
  | n + 1, s, h => by
    unfold r12_Few_fu
    refine ya0 (ya0 (ya0 (yd (R := fun (q : Bool) => q = false → s.Cols.length ≤ 12 ∧ s.Cons.length ≤ 12 ∧ s.Names.length ≤ 12 ∧ s.Rows.length ≤ 12 ∧ s.Sets.length ≤ 12 ∧ s.Kids.length ≤ 1) (yi (fun _ => yc fun h => by cases h) fun hc => yd (efew_rb _) fun _ _ => yc fun _ => ?_) fun q hq => yi (fun _ => yc fun h => by cases h) fun hc => ?_)))
    · simp only [Bool.or_eq_false_iff, decide_eq_false_iff_not] at hc
      omega
    obtain ⟨h1, h2, h3, h5, h6, h7⟩ := hq hc
    refine yaw (by simp only [List.length_cons, List.length_nil]; omega) ?_
    refine yd (grow (k := 16) (fun (x : qL) => x.Name) (by simp; omega) fun j s x hx => by rw [idx_nat, hx]; rfl) fun l0 hl0 => ?_
    have hl0 : l0 = [s.Table, s.Name, s.Role] ++ s.Names ++ s.Cols.map (·.Name) := hl0
    have hn0 : l0.length ≤ 27 := by rw [hl0]; simp; omega
    refine yd (forN_ret (fun j (l : List By8) => l.length ≤ 27 + j * 26 ∧ (∀ x ∈ l0, x ∈ l) ∧ ∀ x ∈ s.Cons.take j, (x.Cols.length ≤ 12 ∧ x.Refs.length ≤ 12 ∧ Es x.Check) ∧ x.Name ∈ l ∧ x.Table ∈ l) (Q := fun r => r = false) ⟨by omega, fun x hx => hx, by simp⟩ ?_) ?_
    · rintro j l hj ⟨g1, g2, g3⟩
      refine yaf hj fun x hx _ => ya0 (yd (R := fun (q : Bool) => q = false → x.Cols.length ≤ 12 ∧ x.Refs.length ≤ 12 ∧ Es x.Check) (yi (fun _ => yc fun h => by cases h) fun hc => yd (efew_rb _) fun r hr => yc fun hq => ?_) fun q hq => yi (fun _ => yc rfl) fun hc => ?_)
      · simp only [Bool.or_eq_false_iff, decide_eq_false_iff_not] at hc
        exact ⟨by omega, by omega, hr (by simpa using hq)⟩
      have hx3 := hq hc
      refine yaw (by simp only [List.length_cons, List.length_nil]; omega) (yaw (by simp; omega) (yaw (by simp; omega) (yc ⟨by simp; omega, fun y hy => by simp [g2 y hy], ?_⟩)))
      rw [take_next hx]
      intro y hy
      rcases List.mem_append.1 hy with hy | hy
      · exact ⟨(g3 y hy).1, by simp [(g3 y hy).2.1], by simp [(g3 y hy).2.2]⟩
      · simp only [List.mem_cons, List.not_mem_nil, or_false] at hy
        subst hy
        exact ⟨hx3, by simp, by simp⟩
    rintro (l1 | _) g
    rotate_left
    · exact yc fun h => by subst h; cases g
    obtain ⟨g1, g2, g3⟩ := g
    rw [List.take_length] at g3
    refine yd (forN_q (Q := fun q => q = false) fun j _ hj => yaf hj fun x _ _ => yi (fun _ => yc rfl) fun hc => ?_) ?_
    · have hr : ∀ {α : Type} {f : List qE → Option α} {Q : α → Prop}, RB b (f s.Rows[j]) Q → RB b ((idx s.Rows (j : Int)).bind f) Q := fun hf => by rw [idx_mem hj]; exact hf
      rename_i hx1 _
      have hxj : x = s.Rows[j] := by rw [gE hj] at hx1; injection hx1 with hx1; exact hx1.symm
      have hlen : s.Rows[j].length ≤ 12 := by rw [← hxj]; simp only [decide_eq_false_iff_not] at hc; omega
      refine yd (loopO_rb (fun (i : Int) => ∃ k : Nat, i = (k : Int) ∧ k ≤ s.Rows[j].length) (fun i => s.Rows[j].length - i.toNat) (Q := fun r => match r with | .inl q => q = false | .inr _ => True) ?_ ⟨0, rfl, by omega⟩) ?_
      · rintro _ ⟨k, rfl, hk⟩
        refine hr (yi (fun hc => hr ?_) rt)
        have hlt : k < s.Rows[j].length := by simpa using hc
        have ew : w64 ((k : Int) + 1) = ((k + 1 : Nat) : Int) := by rw [w64_id om om]; rfl
        exact yaf hlt fun _ _ _ => yd (efew_rb _) fun _ _ => yi (fun _ => yc rfl) fun _ => yc ⟨⟨k + 1, ew, by omega⟩, by rw [ew]; omega⟩
      · rintro (_ | _) g
        · exact yc g
        · exact yc trivial
    rintro (_ | _) g
    rotate_left
    · exact yc fun h => by subst h; cases g
    refine yd (forN_ret (fun j (l : List By8) => l.length ≤ 400 + j ∧ ∀ x ∈ l1, x ∈ l) (Q := fun r => r = false) ⟨by omega, fun x hx => hx⟩ ?_) ?_
    · rintro j l hj ⟨k1, k2⟩
      exact yaf hj fun _ _ _ => yaw (by simp only [List.length_cons, List.length_nil]; omega) (yaf hj fun _ _ _ => yd (efew_rb _) fun _ _ => yi (fun _ => yc rfl) fun _ => yc ⟨by simp; omega, fun x hx => List.mem_append_left _ (k2 x hx)⟩)
    rintro (l2 | _) g
    rotate_left
    · exact yc fun h => by subst h; cases g
    obtain ⟨_, k2⟩ := g
    refine yd (forN_q (Q := fun q => q = false) fun j _ hj => yaf hj fun _ _ _ => yd (efew_rb _) fun _ _ => yi (fun _ => yc rfl) rt) ?_
    rintro (_ | _) g
    rotate_left
    · exact yc fun h => by subst h; cases g
    refine yd (forN_ret (fun j _ => ∀ x ∈ l2.take j, x.size ≤ 100) (Q := fun r => r = false) (by simp) ?_) ?_
    · intro j _ hj g
      refine yaf hj fun x hx _ => yi (fun _ => yc rfl) fun hc => yc ?_
      show ∀ x ∈ l2.take (j + 1), _
      rw [take_next hx]
      intro y hy
      rcases List.mem_append.1 hy with hy | hy
      · exact g y hy
      · simp only [List.mem_cons, List.not_mem_nil, or_false] at hy
        subst hy
        simp only [decide_eq_false_iff_not] at hc
        omega
    rintro (_ | _) g
    rotate_left
    · exact yc fun h => by subst h; cases g
    rw [List.take_length] at g
    have sf : SF s := by
      refine SF.of h1 h2 h3 (fun x hx => (g3 x hx).1) g ⟨k2 _ (g2 _ (by rw [hl0]; simp)), k2 _ (g2 _ (by rw [hl0]; simp))⟩ (fun x hx => k2 _ (g2 _ ?_)) (fun x hx => ⟨k2 _ (g3 x hx).2.1, k2 _ (g3 x hx).2.2⟩)
      rw [hl0]
      exact List.mem_append_right _ (List.mem_map_of_mem hx)
    refine RB.mono (Q := TT) ?_ (fun _ _ _ => sf)
    refine yd (R := TT) (yi rt fun hc => ?_) fun _ _ => yc trivial
    have hk : 0 < s.Kids.length := by
      cases hs : s.Kids with
      | nil => rw [hs] at hc; cases hc
      | cons => simp
    have h0 : ∀ {α : Type} {f : qS → Option α} {Q : α → Prop}, RB b (f s.Kids[0]) Q → RB b ((idx s.Kids 0).bind f) Q := fun hf => by rw [show (0 : Int) = ((0 : Nat) : Int) from rfl, idx_mem hk]; exact hf
    refine h0 (yd (R := TT) (yi (fun hc2 => h0 (yd (sfew_fu n s.Kids[0] fun hb => ?_).tt fun _ _ => yc trivial)) rt) fun _ _ => yc trivial)
    have e0 : s.Kids[0].Kids = [] := by
      have : s.Kids[0].Kids.length = 0 := by simp at hc2; simp [hc2]
      exact List.eq_nil_of_length_eq_zero this
    rcases h hb with ⟨h, _⟩ | h
    · rw [h] at hk; simp at hk
    · exact .inl ⟨e0, by omega⟩
theorem sfew_rb {b : Prop} (s : qS) : RB b (r12_Few s) (fun r => r = true → SF s) := by
  unfold r12_Few
  exact fuel_tt 2 fun n => sfew_fu n s fun h => .inr h
def AF (l : List law19_Act) : Prop := l.length ≤ 40 ∧ ∀ a ∈ l, SF a.S ∧ a.By.size ≤ 100
theorem afew_rb {b : Prop} (l : List law19_Act) : RB b (law19_Few l) (fun r => r = true → AF l) := by
  unfold law19_Few
  refine yd (forN_ret (fun j _ => j ≤ 40 ∧ ∀ a ∈ l.take j, SF a.S ∧ a.By.size ≤ 100) (Q := fun r => r = false) (by simp) ?_) ?_
  · rintro j _ hj ⟨g0, g⟩
    refine yd (R := fun (q : Bool) => q = false → j < 40 ∧ ∀ x, l[j]? = some x → SF x.S) (yi (fun _ => yc fun h => by cases h) fun hc => yaf hj fun x hx _ => yd (sfew_rb _) fun r hr => yc fun hq => ⟨?_, fun y hy => ?_⟩) fun q hq => yd (R := fun (q' : Bool) => q' = false → q = false ∧ ∀ x, l[j]? = some x → x.By.size ≤ 100) (yi (fun _ => yc fun h => by cases h) fun hc => yaf hj fun x hx _ => yc fun hq => ⟨hc, fun y hy => ?_⟩) fun q' hq' => yi (fun _ => yc rfl) fun hc => yc ?_
    · simp only [decide_eq_false_iff_not] at hc
      omega
    · rw [hx] at hy
      injection hy with hy
      subst hy
      exact hr (by simpa using hq)
    · rw [hx] at hy
      injection hy with hy
      subst hy
      simp only [decide_eq_false_iff_not] at hq
      omega
    · obtain ⟨e1, e2⟩ := hq' hc
      obtain ⟨e3, e4⟩ := hq e1
      have hx : l[j]? = some l[j] := gE hj
      refine ⟨by omega, ?_⟩
      rw [take_next hx]
      intro y hy
      rcases List.mem_append.1 hy with hy | hy
      · exact g y hy
      · simp only [List.mem_cons, List.not_mem_nil, or_false] at hy
        subst hy
        exact ⟨e4 _ hx, e2 _ hx⟩
  · rintro (_ | _) g
    · rw [List.take_length] at g
      exact yc fun _ => g
    · exact yc fun h => by subst h; cases g
theorem next_rb {b : Prop} {n : Nat} {c : qC} {a : law19_Act} (h : CI n c) (ha : SF a.S ∧ a.By.size ≤ 100) (h12 : 12 ≤ n) (hn : n ≤ 99) : RB b (law19_Next c a) (fun r => CI (n + 1) r.1) := by
  unfold law19_Next
  refine yd (gmake_rb h hn ha.1.name _ _) ?_
  rintro ⟨d, e⟩ g
  refine yd (R := fun (q : Int × qC) => q.1 = 0 → CI (n + 1) q.2) (yi (fun _ => yd (tmake_rb h.1 ha.1 ha.2 h12 om) ?_) fun _ => yc g) ?_
  · rintro ⟨d', e'⟩ g'
    exact yc fun he => ⟨(g' he).1, by rw [(g' he).2]; exact h.2.up om⟩
  · rintro ⟨k, d'⟩ g'
    exact yi (fun _ => yc (h.up om)) fun hc => yc (g' (by simpa using hc))
theorem set_same {α : Type} {xs : List α} {i : Nat} {x : α} (h : xs[i]? = some x) : xs.set i x = xs := by
  refine List.ext_getElem? fun j => ?_
  rw [List.getElem?_set]
  by_cases e : i = j
  · subst e
    have := (List.getElem?_eq_some_iff.1 h).1
    rw [if_pos rfl, if_pos this, h]
  · rw [if_neg e]
theorem clone_str {l : List By8} (h : l.length ≤ 1000) : slices_Clone_string l = some l := by
  unfold slices_Clone_string
  rw [app_le (by simp; omega)]
  rfl
theorem eclone_fu {b : Prop} : ∀ (n : Nat) (e : qE), esz e ≤ 1000 → (b → esz e ≤ n) → RB b (expr_Clone_fu n e) (fun r => r = e)
  | 0, e, _, h => ybh fun hb => by have := h hb; have := esz_pos e; omega
  | n + 1, e, hz, h => by
    have hkl := eszL_len e.Kids
    have h1 := esz_eq e
    unfold expr_Clone_fu
    refine yd (forE_ret (fun j (s : List qE) => s = e.Kids.take j) (by simp) ?_) fun s hs => ?_
    · rintro j s hj rfl
      refine yaf hj fun x hx hm => yd (eclone_fu n x (by have := kid_sz hm; omega) fun hb => by have := h hb; have := kid_sz hm; omega) fun r hr => ?_
      have hr : r = x := hr
      subst hr
      exact yaw (by simp only [List.length_cons, List.length_nil, List.length_take]; omega) (yc (take_next hx).symm)
    · have hs : s = e.Kids.take e.Kids.length := hs
      rw [List.take_length] at hs
      subst hs
      exact yc (by cases e; rfl)
theorem eclone_eq {e : qE} (hz : esz e ≤ 1000) : expr_Clone e = some e := by
  unfold expr_Clone
  exact Ret.eq (fuel_tt (esz e) fun n => eclone_fu n e hz fun h => h)
theorem tclone_eq {n : Nat} {t : qT} (h : TB n t) (hn : n ≤ 1000) : table_Clone t = some t := by
  have h1 := h.cols
  have h2 := h.cons
  have h3 := h.idx
  unfold table_Clone slices_Clone_qL slices_Clone_qK slices_Clone_qI
  rw [app_le (by simp; omega), app_le (by simp; omega), app_le (by simp; omega)]
  simp only [obs, List.nil_append]
  have c1 : ∀ j s, j < t.Cons.length → s = t.Cons → (idx s (j : Int)).bind (fun (x45 : qK) => (slices_Clone_string x45.Cols).bind (fun (r59 : List By8) => (slices_Clone_string x45.Refs).bind (fun (r65 : List By8) => (expr_Clone x45.Check).bind (fun (r71 : qE) => (idx s (j : Int)).bind (fun (x72 : qK) => (idx (s.set ((j : Int)).toNat ({ x72 with Cols := r59 })) (j : Int)).bind (fun (x85 : qK) => (idx ((s.set ((j : Int)).toNat ({ x72 with Cols := r59 })).set ((j : Int)).toNat ({ x85 with Refs := r65 })) (j : Int)).bind (fun (x97 : qK) => some (((s.set ((j : Int)).toNat ({ x72 with Cols := r59 })).set ((j : Int)).toNat ({ x85 with Refs := r65 })).set ((j : Int)).toNat ({ x97 with Check := r71 }))))))))) = some t.Cons := by
    rintro j s hj rfl
    have hx : t.Cons[j]? = some t.Cons[j] := gE hj
    obtain ⟨_, _, x1, x2, x3⟩ := h.xs _ (List.getElem_mem hj)
    generalize t.Cons[j] = x at hx x1 x2 x3
    have e1 : t.Cons.set ((j : Int)).toNat x = t.Cons := set_same (by simpa using hx)
    simp only [idx_nat, hx, obs, clone_str (show x.Cols.length ≤ 1000 by omega), clone_str (show x.Refs.length ≤ 1000 by omega), eclone_eq (Nat.le_trans x3.1 om : esz x.Check ≤ 1000), e1]
  have c2 : ∀ j s, j < t.Idx.length → s = t.Idx → (idx s (j : Int)).bind (fun (x134 : qI) => (slices_Clone_string x134.Cols).bind (fun (r148 : List By8) => (idx s (j : Int)).bind (fun (x149 : qI) => some (s.set ((j : Int)).toNat ({ x149 with Cols := r148 }))))) = some t.Idx := by
    rintro j s hj rfl
    have hx : t.Idx[j]? = some t.Idx[j] := gE hj
    obtain ⟨_, x1⟩ := h.is _ (List.getElem_mem hj)
    generalize t.Idx[j] = x at hx x1
    have e1 : t.Idx.set ((j : Int)).toNat x = t.Idx := set_same (by simpa using hx)
    simp only [idx_nat, hx, obs, clone_str (show x.Cols.length ≤ 1000 by omega), e1]
  refine Ret.eq (yd (forE_ret (fun _ s => s = t.Cons) rfl fun j s hj hs => ybo (c1 j s hj hs) rfl) fun s hs => yd (forE_ret (fun _ s => s = t.Idx) rfl fun j s hj hs => ybo (c2 j s hj hs) rfl) fun u hu => ?_)
  have hs : s = t.Cons := hs
  have hu : u = t.Idx := hu
  rw [hs, hu]
  exact yc rfl
theorem cfind_eq {n : Nat} {c : qC} (h : CB n c) (hn : n ≤ 1000) (nm : By8) : (tI c nm < 0 ∧ catalog_Find c nm = some (z_qT, false)) ∨ ∃ t, 0 ≤ tI c nm ∧ idx c.Tables (tI c nm) = some t ∧ catalog_Find c nm = some (t, true) := by
  have hf : slices_IndexFunc_qT c.Tables (fun (u0 : qT) => catalog_Find_1 u0 nm) = some (tI c nm) := by
    unfold slices_IndexFunc_qT tI
    rw [forN_find (fun (x : qT) => sEq x.Name nm) (fun j => (j : Int)) (fun j x hx => by rw [idx_nat, hx]; unfold catalog_Find_1; simp only [obs]; cases sEq x.Name nm <;> rfl)]
    cases c.Tables.findIdx? (fun x => sEq x.Name nm) <;> rfl
  unfold catalog_Find
  rw [hf]
  simp only [obs]
  by_cases h0 : 0 ≤ tI c nm
  · right
    obtain ⟨k, t, hk, ht, hm, _⟩ := tI_get h0
    refine ⟨t, h0, by rw [hk, idx_nat]; exact ht, ?_⟩
    rw [show decide (tI c nm ≥ 0) = true by simpa using h0, hk, idx_nat, ht]
    simp only [obs, cond_true, tclone_eq (h.ok t hm).1 hn]
  · left
    rw [show decide (tI c nm ≥ 0) = false by simpa using h0]
    exact ⟨by omega, rfl⟩
theorem gowns_val {n : Nat} {c : qC} (h : CB n c) (hn : n ≤ 1000) (hr : Sm c.Roles) (r t : By8) : grants_Owns c r t = some (owB c r t) := by
  rw [← owns_val hr]
  unfold grants_Owns r19_Owns
  rw [tat_val]
  rcases cfind_eq h hn t with ⟨h0, e⟩ | ⟨x, h0, hx, e⟩
  · rw [e]
    simp only [obs]
    rw [show decide (tI c t ≥ 0) = false by simp; omega]
    rfl
  · rw [e]
    simp only [obs]
    rw [show decide (tI c t ≥ 0) = true by simpa using h0]
    simp only [obs, cond_true, hx, is_same hr]
theorem mfind_eq {l : List Role} (h : Sm l) (n : By8) : ∃ r, member_Find l n = some (r, decide (0 ≤ rI l n)) := by
  unfold member_Find
  rw [at_same, rat_val]
  simp only [obs]
  by_cases h0 : rI l n < 0
  · rw [show decide (rI l n < 0) = true by simpa using h0, show decide (0 ≤ rI l n) = false by simp; omega]
    exact ⟨_, rfl⟩
  · obtain ⟨x, hx, hx'⟩ := idx_lt (xs := l) (i := rI l n) om (rI_lt l n)
    have hm := List.mem_of_getElem? hx'
    rw [show decide (rI l n < 0) = false by simpa using h0, show decide (0 ≤ rI l n) = true by simp; omega, hx]
    simp only [obs, cond_false, clone_str (show x.In.length ≤ 1000 by have := h.2.1 x hm; omega)]
    exact ⟨_, rfl⟩
theorem ghas_val {c : qC} (h : Sm c.Roles) (l : List qG) (r : By8) (p : Int) (t : By8) (o : Bool) : grants_has c l r p t o = some (haB c l r p t o) := by
  have h1 : ∀ g, grants_has_1 g p t o c r = some (g.Priv == p && sEq g.Table t && (g.Option || !o) && isB c.Roles r g.To) := by
    intro g
    unfold grants_has_1
    rw [is_same h, is_val h]
    cases (g.Priv == p && sEq g.Table t && (g.Option || !o)) <;> rfl
  unfold grants_has slices_ContainsFunc_qG slices_IndexFunc_qG haB
  rw [forN_find (fun (g : qG) => g.Priv == p && sEq g.Table t && (g.Option || !o) && isB c.Roles r g.To) (fun j => (j : Int)) (fun j x hx => by rw [idx_nat, hx]; simp only [obs, h1]; cases (x.Priv == p && sEq x.Table t && (x.Option || !o) && isB c.Roles r x.To) <;> rfl)]
  cases e : l.findIdx? (fun (g : qG) => g.Priv == p && sEq g.Table t && (g.Option || !o) && isB c.Roles r g.To) with
  | none =>
    rw [List.findIdx?_eq_none_iff] at e
    have : (l.any fun g => g.Priv == p && sEq g.Table t && (g.Option || !o) && isB c.Roles r g.To) = false := List.any_eq_false.2 fun x hx => by rw [e x hx]; simp
    rw [this]
    rfl
  | some k =>
    obtain ⟨hk, h2, _⟩ := List.findIdx?_eq_some_iff_getElem.1 e
    have : (l.any fun g => g.Priv == p && sEq g.Table t && (g.Option || !o) && isB c.Roles r g.To) = true := List.any_eq_true.2 ⟨_, List.getElem_mem hk, h2⟩
    rw [this]
    simp
noncomputable def pk (c : qC) : Nat → qG → Bool
  | 0, _ => false
  | k + 1, g => okB c (rnds c k) g
theorem rnds_pk (c : qC) (k : Nat) : rnds c k = c.Grants.filter (pk c k) := by
  cases k with
  | zero => simp [rnds, pk]
  | succ k => rfl
theorem haB_mono {c : qC} {l m : List qG} (h : ∀ g ∈ l, g ∈ m) {r : By8} {p : Int} {t : By8} {o : Bool} (hh : haB c l r p t o = true) : haB c m r p t o = true := by
  obtain ⟨g, hg, e⟩ := List.any_eq_true.1 hh
  exact List.any_eq_true.2 ⟨g, h g hg, e⟩
theorem okB_mono {c : qC} {l m : List qG} (h : ∀ g ∈ l, g ∈ m) {g : qG} (hh : okB c l g = true) : okB c m g = true := by
  unfold okB at hh ⊢
  simp only [Bool.and_eq_true, Bool.or_eq_true] at hh ⊢
  exact ⟨hh.1, hh.2.imp id (haB_mono h)⟩
theorem pk_mono (c : qC) : ∀ (k : Nat) (g : qG), pk c k g = true → pk c (k + 1) g = true
  | 0, g, h => by cases h
  | k + 1, g, h => by
    refine okB_mono (fun x hx => ?_) h
    rw [rnds_pk] at hx ⊢
    rw [List.mem_filter] at hx ⊢
    exact ⟨hx.1, pk_mono c k x hx.2⟩
theorem stable {c : qC} {k : Nat} (h : rnds c (k + 1) = rnds c k) : ∀ m, rnds c (k + m) = rnds c k
  | 0 => rfl
  | m + 1 => by
    show rnd c (rnds c (k + m)) = _
    rw [stable h m]
    exact h
theorem list_val {c : qC} (hg : c.Grants.length ≤ 1000) (p : qG → Bool) : grants_Held_1 c (c.Grants.map p) = some (c.Grants.filter p) := by
  unfold grants_Held_1
  refine Ret.eq (yd (forE_ret (fun j s => s = (c.Grants.take j).filter p) (by simp) ?_) fun s hs => yc (by have hs : s = (c.Grants.take c.Grants.length).filter p := hs; rw [hs, List.take_length]))
  rintro j s hj rfl
  have hx : c.Grants[j]? = some c.Grants[j] := gE hj
  have hle : ((c.Grants.take j).filter p).length ≤ j := Nat.le_trans (List.length_filter_le ..) (by simp; omega)
  generalize c.Grants[j] = x at hx
  simp only [idx_nat, List.getElem?_map, hx, Option.map_some, obs]
  rw [take_next hx, List.filter_append, app_le (by simp only [List.length_cons, List.length_nil]; omega)]
  cases hp : p x
  · exact yc (by simp [hp])
  · exact yc (by simp [hp])
theorem grow_flags {c : qC} {p q : qG → Bool} (h : ∀ g, p g = true → q g = true) : c.Grants.map q = c.Grants.map p ∨ (c.Grants.map p).count true < (c.Grants.map q).count true := by
  rcases cnt (c.Grants.map p) (c.Grants.map q) (by simp) (fun k hk => by
    rw [List.getElem?_map] at hk ⊢
    cases hx : c.Grants[k]? with
    | none => rw [hx] at hk; cases hk
    | some g => rw [hx] at hk; simp only [Option.map_some, Option.some.injEq] at hk ⊢; exact h g hk) with h | h
  · exact .inl h.symm
  · exact .inr h
theorem round_val {n : Nat} {c : qC} (h : CB n c) (hn : n ≤ 1000) (hr : Sm c.Roles) {p q : qG → Bool} (now : List qG) (hq : ∀ g, q g = okB c now g) (hpq : ∀ g, p g = true → q g = true) :
    forE (fun (i50 : Nat) (s : Bool × (List Bool)) => match s with | (s48, s49) => (idx c.Grants (i50 : Int)).bind (fun (x59 : qG) => (catalog_Find c x59.Table).bind (fun ((r71, r72) : qT × Bool) => (member_Find c.Roles x59.To).bind (fun ((r84, r85) : qJ × Bool) => (idx s49 (i50 : Int)).bind (fun (x92 : Bool) => ((bif (((!x92) && r72) && r85) then (grants_Owns c x59.By x59.Table).bind (fun (r106 : Bool) => ((bif r106 then some true else (grants_has c now x59.By x59.Priv x59.Table true).bind (fun (r119 : Bool) => some r119))).bind (fun (j107 : Bool) => some j107)) else some false)).bind (fun (j97 : Bool) => ((bif j97 then (idx s49 (i50 : Int)).bind (fun (x134 : Bool) => some (true, (s49.set ((i50 : Int)).toNat true))) else some (s48, s49))).bind (fun ((s141, s142) : Bool × (List Bool)) => some (s141, s142)))))))) c.Grants.length 0 (false, c.Grants.map p) =
      some (decide (c.Grants.map q ≠ c.Grants.map p), c.Grants.map q) := by
  refine Ret.eq ((forE_ret (fun j (s : Bool × List Bool) => s.2 = (c.Grants.take j).map q ++ (c.Grants.drop j).map p ∧ s.1 = decide ((c.Grants.take j).map q ≠ (c.Grants.take j).map p)) ⟨by simp, by simp⟩ ?_).mono ?_)
  · rintro j ⟨g, fl⟩ hj ⟨e1, e2⟩
    simp only at e1 e2
    have hx : c.Grants[j]? = some c.Grants[j] := gE hj
    have hd : c.Grants.drop j = c.Grants[j] :: c.Grants.drop (j + 1) := List.drop_eq_getElem_cons hj
    generalize c.Grants[j] = x at hx hd
    have hlen : ((c.Grants.take j).map q).length = j := by simp; omega
    have hfl : fl[j]? = some (p x) := by
      rw [e1, List.getElem?_append_right om, hlen, Nat.sub_self, hd]
      rfl
    have hset : ∀ v, fl.set j v = (c.Grants.take j).map q ++ v :: (c.Grants.drop (j + 1)).map p := by
      intro v
      rw [e1, List.set_append_right _ _ om, hlen, Nat.sub_self, hd]
      rfl
    have hfin : ∀ v, v = q x → (c.Grants.take j).map q ++ v :: (c.Grants.drop (j + 1)).map p = (c.Grants.take (j + 1)).map q ++ (c.Grants.drop (j + 1)).map p := by
      rintro v rfl
      rw [take_next hx]
      simp
    have hg : decide ((c.Grants.take (j + 1)).map q ≠ (c.Grants.take (j + 1)).map p) = (g || decide (q x ≠ p x)) := by
      rw [take_next hx, List.map_append, List.map_append, e2]
      by_cases h1 : (c.Grants.take j).map q = (c.Grants.take j).map p
      · rw [h1]; simp
      · have : ¬ ((c.Grants.take j).map q ++ [x].map q = (c.Grants.take j).map p ++ [x].map p) := fun he => h1 (List.append_inj_left he (by simp))
        simp [h1, this]
    obtain ⟨mr, hmf⟩ := mfind_eq hr x.To
    have hcf : ∃ t, catalog_Find c x.Table = some (t, decide (0 ≤ tI c x.Table)) := by
      rcases cfind_eq h hn x.Table with ⟨h0, e⟩ | ⟨t, h0, _, e⟩
      · exact ⟨_, by rw [e, show decide (0 ≤ tI c x.Table) = false by simp; omega]⟩
      · exact ⟨_, by rw [e, show decide (0 ≤ tI c x.Table) = true by simpa using h0]⟩
    obtain ⟨t, hcf⟩ := hcf
    have hqx := hq x
    unfold okB at hqx
    have hpx := hpq x
    simp only [idx_nat, hx, obs, hcf, hmf, hfl, gowns_val h hn hr, ghas_val hr]
    have cond : ((bif (((!p x) && decide (0 ≤ tI c x.Table)) && decide (0 ≤ rI c.Roles x.To)) then ((bif owB c x.By x.Table then some true else some (haB c now x.By x.Priv x.Table true))).bind (fun (j107 : Bool) => some j107) else some false)) = some (!p x && q x) := by
      rw [hqx]
      cases p x <;> cases decide (0 ≤ tI c x.Table) <;> cases decide (0 ≤ rI c.Roles x.To) <;> cases owB c x.By x.Table <;> cases haB c now x.By x.Priv x.Table true <;> rfl
    rw [cond]
    simp only [obs]
    cases hp : p x with
    | true =>
      have hqt := hpx hp
      simp only [Bool.not_true, Bool.false_and, cond_false, obs]
      refine yc ⟨?_, ?_⟩
      · simp only
        rw [← hfin (p x) (by rw [hp, hqt]), ← hset, set_same hfl]
      · simp only
        rw [hg, hp, hqt]
        simp
    | false =>
      cases hq' : q x with
      | false =>
        simp only [Bool.not_false, Bool.and_false, cond_false, obs]
        refine yc ⟨?_, ?_⟩
        · simp only
          rw [← hfin (p x) (by rw [hp, hq']), ← hset, set_same hfl]
        · simp only
          rw [hg, hp, hq']
          simp
      | true =>
        simp only [Bool.not_false, Bool.and_true, cond_true, obs]
        refine yc ⟨?_, ?_⟩
        · simp only [Int.toNat_natCast]
          rw [hset, hfin true hq'.symm]
        · simp only
          rw [hg, hp, hq']
          simp
  · rintro ⟨g, fl⟩ ⟨e1, e2⟩
    simp only [List.take_length, List.drop_length, List.map_nil, List.append_nil] at e1 e2
    rw [e1, e2]
theorem gheld_val {n : Nat} {c : qC} (h : CB n c) (hn : n ≤ 1000) (hr : Sm c.Roles) : grants_Held c = some (heR c) := by
  have hg := h.grants
  unfold grants_Held
  have hmk : mk 1 (c.Grants.length : Int) = some c.Grants.length := by
    unfold mk
    rw [if_pos om]
    rfl
  rw [hmk]
  simp only [obs]
  have h0 : List.replicate c.Grants.length false = c.Grants.map (pk c 0) := by
    symm
    exact List.eq_replicate_iff.2 ⟨by simp, fun b hb => by obtain ⟨g, _, rfl⟩ := List.mem_map.1 hb; rfl⟩
  rw [h0]
  refine Ret.eq (yd (loopO_rb (fun (s : Bool × List Bool) => ∃ k : Nat, s.2 = c.Grants.map (pk c k) ∧ k ≤ s.2.count true ∧ (s.1 = false → c.Grants.map (pk c (k + 1)) = c.Grants.map (pk c k))) (fun s => 2 * (c.Grants.length - s.2.count true) + s.1.toNat) (Q := fun fl => ∃ k : Nat, k ≤ c.Grants.length ∧ fl = c.Grants.map (pk c k) ∧ c.Grants.map (pk c (k + 1)) = c.Grants.map (pk c k)) ?_ ⟨0, rfl, Nat.zero_le _, fun h => by cases h⟩) ?_)
  · rintro ⟨g, fl⟩ ⟨k, e1, e2, e3⟩
    simp only at e1 e2 e3
    subst e1
    cases g with
    | false =>
      refine yc ⟨k, ?_, rfl, e3 rfl⟩
      have := List.count_le_length (a := true) (l := c.Grants.map (pk c k))
      simp only [List.length_map] at this
      omega
    | true =>
      simp only [cond_true]
      rw [list_val om]
      simp only [obs]
      rw [round_val h hn hr (q := pk c (k + 1)) (c.Grants.filter (pk c k)) (fun g => by rw [← rnds_pk]; rfl) (pk_mono c k)]
      have hc1 := List.count_le_length (a := true) (l := c.Grants.map (pk c (k + 1)))
      simp only [List.length_map] at hc1
      rcases grow_flags (c := c) (pk_mono c k) with he | he
      · rw [show decide (c.Grants.map (pk c (k + 1)) ≠ c.Grants.map (pk c k)) = false by simp [he]]
        refine yc ⟨⟨k, he, by rw [he]; exact e2, fun _ => he⟩, ?_⟩
        simp only [he, Bool.toNat_true, Bool.toNat_false]
        omega
      · have hne : c.Grants.map (pk c (k + 1)) ≠ c.Grants.map (pk c k) := fun e => by rw [e] at he; omega
        rw [show decide (c.Grants.map (pk c (k + 1)) ≠ c.Grants.map (pk c k)) = true by simpa using hne]
        refine yc ⟨⟨k + 1, rfl, by simp only; omega, fun h => by cases h⟩, ?_⟩
        simp only [Bool.toNat_true]
        omega
  · rintro fl ⟨k, hk, rfl, he⟩
    rw [list_val om]
    refine yc ?_
    have hst : rnds c (k + 1) = rnds c k := by
      rw [rnds_pk, rnds_pk]
      refine List.filter_congr fun g hg' => ?_
      obtain ⟨i, hi, rfl⟩ := List.mem_iff_getElem.1 hg'
      have := congrArg (fun l => l[i]?) he
      simpa [hi] using this
    have := stable hst (c.Grants.length + 1 - k)
    rw [show k + (c.Grants.length + 1 - k) = c.Grants.length + 1 by omega] at this
    show c.Grants.filter (pk c k) = rnds c (c.Grants.length + 1)
    rw [this, rnds_pk]
theorem SF.role (n : By8) (h : n.size ≤ 100) : SF { z_qS with Kind := 10, Name := n } := ⟨Nat.zero_le _, Nat.zero_le _, Nat.zero_le _, Nat.zero_le _, h, (fun x hx => by cases hx), (fun x hx => by cases hx)⟩
theorem first_rb {b : Prop} : RB b law19_first (CI 16) := by
  unfold law19_first r17_New
  refine ya0 (yd (forE_ret (fun j c => CI (12 + j) c) ⟨⟨Nat.zero_le _, (fun t ht => by cases ht), Nat.zero_le _⟩, ⟨by show 1 ≤ 8; omega, fun x hx => ?_⟩⟩ ?_) ?_)
  · simp only [List.mem_cons, List.not_mem_nil, or_false] at hx
    subst hx
    exact ⟨Nat.zero_le _, by show (4 : Nat) ≤ 100; omega⟩
  · rintro j c hj hc
    refine yd (R := fun (q : qC × Int) => q.2 = 0 → CI (12 + (j + 1)) q.1) (yaf (xs := [(⟨#[97, 110, 110]⟩ : By8), ⟨#[98, 111, 98]⟩, ⟨#[99, 121]⟩]) hj fun x _ hx => ?_) ?_
    · have hs : x.size ≤ 100 := by
        simp only [List.mem_cons, List.not_mem_nil, or_false] at hx
        rcases hx with rfl | rfl | rfl <;> decide
      refine yd (gmake_rb hc om (SF.role x hs).name _ _) ?_
      rintro ⟨d, e⟩ g
      exact yc g
    · rintro ⟨d, e⟩ g
      exact yd (R := CI (12 + (j + 1))) (yi (fun he => yc (g (by simpa using he))) (fun _ => yc (hc.up om))) fun _ h => yc h
  · intro c hc
    have hc : CI 15 c := hc
    refine yd (tmake_rb (n := 15) hc.1 ⟨by show 1 ≤ 12; omega, Nat.zero_le _, Nat.zero_le _, by show 1 ≤ 100; omega, Nat.zero_le _, fun x hx => ?_, (fun x hx => by cases hx)⟩ (by show 3 ≤ 100; omega) om om) ?_
    · simp only [List.mem_cons, List.not_mem_nil, or_false] at hx
      subst hx
      show 1 ≤ 100
      omega
    · rintro ⟨d, e⟩ g
      exact yd (R := CI 16) (yi (fun he => yc ⟨(g (by simpa using he)).1, by rw [(g (by simpa using he)).2]; exact hc.2.up om⟩) (fun _ => yc (hc.up om))) fun _ h => yc h
theorem grown_rb {b : Prop} {l : List law19_Act} (h : AF l) : RB b (law19_Grown l) (CI 60) := by
  have hl := h.1
  unfold law19_Grown
  refine yd first_rb fun c hc => yd (forE_ret (fun j c => CI (16 + j) c) hc ?_) fun d hd => yc ?_
  · intro j c hj hc
    refine yaf hj fun a _ ha => yd (next_rb hc (h.2 a ha) om om) ?_
    rintro ⟨d, e⟩ g
    exact yc g
  · have hd : CI (16 + l.length) d := hd
    exact hd.up om
theorem lb {α : Type} {a b : Option α} (h : Le a b := by repeat first | with_reducible exact Le.refl _ | apply_assumption | refine Le.bind ?_ (fun x => ?_) | refine Le.cond ?_ ?_ | refine Le.loopK (fun s => ?_) _ _ | refine Le.forE (fun i s => ?_) _ _ _ | refine Le.forN (fun i s => ?_) _ _ _ | exact Le.refl _ | cases x | cases s) : Le a b := h
def r18_Reach_c (kf : Nat) (p0 : List qJ) (p1 : By8) : Option (List Bool) := (mk 1 (p0.length : Int)).bind (fun n1 => (r18_At p0 p1).bind (fun (r13 : Int) => ((bif (decide (r13 ≥ 0)) then (idx (List.replicate n1 false) r13).bind (fun x18 => some ((List.replicate n1 false).set (r13).toNat true)) else some (List.replicate n1 false))).bind (fun (j14 : List Bool) => (forE (fun (i29 : Nat) (s28 : List Bool) => (forE (fun (i40 : Nat) (s39 : List Bool) => (loopK kf (fun (s : Int × (List Bool)) => match s with | (s50, s51) => (idx s51 (i40 : Int)).bind (fun x56 => ((bif x56 then (idx p0 (i40 : Int)).bind (fun x61 => some (decide (s50 < (x61.In.length : Int)))) else some false)).bind (fun (j57 : Bool) => (bif j57 then (idx p0 (i40 : Int)).bind (fun x64 => (idx x64.In s50).bind (fun x65 => (r18_At p0 x65).bind (fun (r71 : Int) => ((bif (decide (r71 ≥ 0)) then (idx s51 r71).bind (fun x76 => some (s51.set (r71).toNat true)) else some s51)).bind (fun (j72 : List Bool) => some (.inl ((w64 (s50 + 1)), j72)))))) else some (.inr s51))))) (0, s39)).bind (fun (s84 : List Bool) => some s84)) p0.length 0 s28).bind (fun s39 => some s39)) p0.length 0 j14).bind (fun s28 => some s28))))
theorem r18_Reach_le (kf : Nat) (p0 : List qJ) (p1 : By8)  : Le (r18_Reach_c kf p0 p1) (r18_Reach p0 p1) := by
  unfold r18_Reach_c r18_Reach
  exact lb
def r18_into_c (kf : Nat) (p0 : List By8) (p1 : By8) : Option (List By8) := (loopK kf (fun (s4 : Int) => ((bif (decide (s4 < (p0.length : Int))) then (idx p0 s4).bind (fun x13 => some (sLt x13 p1)) else some false)).bind (fun (j9 : Bool) => (bif j9 then some (.inl (w64 (s4 + 1))) else some (.inr s4)))) 0).bind (fun (s17 : Int) => (sub p0 0 s17).bind (fun x18 => (app 16 ([] : List By8) x18).bind (fun x21 => (app 16 x21 ([p1] : List By8)).bind (fun x36 => (sub p0 s17 (p0.length : Int)).bind (fun x45 => (app 16 x36 x45).bind (fun x46 => some x46))))))
theorem r18_into_le (kf : Nat) (p0 : List By8) (p1 : By8)  : Le (r18_into_c kf p0 p1) (r18_into p0 p1) := by
  unfold r18_into_c r18_into
  exact lb
def r18_All_c (kf : Nat) (p0 : List qJ) (p1 : By8) : Option (List By8) := (r18_Reach_c kf p0 p1).bind (fun r6 => (forE (fun (i11 : Nat) (s10 : List By8) => (idx r6 (i11 : Int)).bind (fun x18 => ((bif x18 then (idx p0 (i11 : Int)).bind (fun x23 => (r18_into_c kf s10 x23.Name).bind (fun r29 => some r29)) else some s10)).bind (fun (j19 : List By8) => some j19))) p0.length 0 ([] : List By8)).bind (fun s10 => some s10))
theorem r18_All_le (kf : Nat) (p0 : List qJ) (p1 : By8)  : Le (r18_All_c kf p0 p1) (r18_All p0 p1) := by
  unfold r18_All_c r18_All
  have := @r18_Reach_le kf
  have := @r18_into_le kf
  exact lb
def r18_Is_c (kf : Nat) (p0 : List qJ) (p1 : By8) (p2 : By8) : Option Bool := (r18_All_c kf p0 p1).bind (fun r6 => (r14_Has r6 p2).bind (fun (r12 : Bool) => some r12))
theorem r18_Is_le (kf : Nat) (p0 : List qJ) (p1 : By8) (p2 : By8)  : Le (r18_Is_c kf p0 p1 p2) (r18_Is p0 p1 p2) := by
  unfold r18_Is_c r18_Is
  have := @r18_All_le kf
  exact lb
def r09_all_c (kf : Nat) (p0 : By8) (p1 : Int) (p2 : By8) : Option Bool := (loopK kf (fun (s4 : Int) => (bif (decide (s4 < (p0.size : Int))) then (loopK kf (fun (s : Bool × Int) => match s with | (s12, s13) => (bif (decide (s13 < (p2.size : Int))) then ((bif s12 then some true else (sAt p2 s13).bind (fun y24 => (sAt p0 s4).bind (fun y25 => some (y24 == y25))))).bind (fun (j20 : Bool) => some (.inl (j20, (w64 (s13 + 1))))) else some (.inr s12))) (false, 0)).bind (fun (s29 : Bool) => (bif (!s29) then some (.inr (.inl false)) else some (.inl (w64 (s4 + 1))))) else some (.inr (.inr ())))) p1).bind (fun (t : Bool ⊕ Unit) => match t with | (.inl s31) => some s31 | (.inr ()) => some true)
theorem r09_all_le (kf : Nat) (p0 : By8) (p1 : Int) (p2 : By8)  : Le (r09_all_c kf p0 p1 p2) (r09_all p0 p1 p2) := by
  unfold r09_all_c r09_all
  exact lb
def r03_Plain_c (kf : Nat) (p0 : By8) : Option Bool := none
theorem r03_Plain_le (kf : Nat) (p0 : By8)  : Le (r03_Plain_c kf p0) (r03_Plain p0) := by
  exact Le.none _
def r09_quoted_c (kf : Nat) (p0 : By8) : Option Bool := ((bif (decide ((p0.size : Int) < 2)) then some true else (sAt p0 0).bind (fun y5 => some (y5 != 39)))).bind (fun (j1 : Bool) => ((bif j1 then some true else (sAt p0 (w64 ((p0.size : Int) - 1))).bind (fun y12 => some (y12 != 39)))).bind (fun (j8 : Bool) => ((bif j8 then some true else (r03_Plain_c kf p0).bind (fun r24 => some (!r24)))).bind (fun (j15 : Bool) => (bif j15 then some false else (loopK kf (fun (s : Int × Int) => match s with | (s30, s31) => (bif (decide (s31 < (w64 ((p0.size : Int) - 1)))) then ((sAt p0 s31).bind (fun y40 => (bif (y40 != 39) then (bif ((Int.tmod s30 2) == 1) then some (.inl false) else some (.inr s30)) else some (.inr (w64 (s30 + 1)))))).bind (fun (t : Bool ⊕ Int) => match t with | (.inl s42) => some (.inr (.inl s42)) | (.inr s45) => some (.inl (s45, (w64 (s31 + 1))))) else some (.inr (.inr s30)))) (0, 1)).bind (fun (t : Bool ⊕ Int) => match t with | (.inl s44) => some s44 | (.inr s49) => some ((Int.tmod s49 2) == 0))))))
theorem r09_quoted_le (kf : Nat) (p0 : By8)  : Le (r09_quoted_c kf p0) (r09_quoted p0) := by
  unfold r09_quoted_c r09_quoted
  have := @r03_Plain_le kf
  exact lb
def r09_Kind_c (kf : Nat) (p0 : By8) : Option Int := (bif (sEq p0 eB) then some 7 else ((bif (decide ((p0.size : Int) ≤ 12)) then (ssub p0 0 1).bind (fun x5 => (r09_all_c kf x5 0 (⟨#[97, 98, 99, 100, 101, 102, 103, 104, 105, 106, 107, 108, 109, 110, 111, 112, 113, 114, 115, 116, 117, 118, 119, 120, 121, 122]⟩ : By8)).bind (fun r11 => some r11)) else some false)).bind (fun (j1 : Bool) => ((bif j1 then (r09_all_c kf p0 1 (⟨#[97, 98, 99, 100, 101, 102, 103, 104, 105, 106, 107, 108, 109, 110, 111, 112, 113, 114, 115, 116, 117, 118, 119, 120, 121, 122, 48, 49, 50, 51, 52, 53, 54, 55, 56, 57, 95]⟩ : By8)).bind (fun r23 => some r23) else some false)).bind (fun (j14 : Bool) => (bif j14 then some 1 else ((bif (decide ((p0.size : Int) ≤ 16)) then (ssub p0 0 1).bind (fun x30 => (r09_all_c kf x30 0 (⟨#[65, 66, 67, 68, 69, 70, 71, 72, 73, 74, 75, 76, 77, 78, 79, 80, 81, 82, 83, 84, 85, 86, 87, 88, 89, 90]⟩ : By8)).bind (fun r36 => some r36)) else some false)).bind (fun (j26 : Bool) => ((bif j26 then (r09_all_c kf p0 1 (⟨#[65, 66, 67, 68, 69, 70, 71, 72, 73, 74, 75, 76, 77, 78, 79, 80, 81, 82, 83, 84, 85, 86, 87, 88, 89, 90, 95]⟩ : By8)).bind (fun r48 => some r48) else some false)).bind (fun (j39 : Bool) => (bif j39 then some 2 else ((bif (decide ((p0.size : Int) ≤ 19)) then (r09_all_c kf p0 0 (⟨#[48, 49, 50, 51, 52, 53, 54, 55, 56, 57]⟩ : By8)).bind (fun r60 => some r60) else some false)).bind (fun (j51 : Bool) => ((bif j51 then ((bif (sEq p0 (⟨#[48]⟩ : By8)) then some true else (sAt p0 0).bind (fun y71 => some (y71 != 48)))).bind (fun (j67 : Bool) => some j67) else some false)).bind (fun (j63 : Bool) => (bif j63 then some 3 else (r09_quoted_c kf p0).bind (fun r81 => (bif r81 then some 4 else ((bif ((p0.size : Int) == 2) then (sAt p0 0).bind (fun y86 => some (y86 == 36)) else some false)).bind (fun (j82 : Bool) => ((bif j82 then (sAt p0 1).bind (fun y93 => some (decide (y93 ≥ 49))) else some false)).bind (fun (j89 : Bool) => ((bif j89 then (sAt p0 1).bind (fun y100 => some (decide (y100 ≤ 54))) else some false)).bind (fun (j96 : Bool) => (bif j96 then some 5 else (r09_sign p0).bind (fun (r108 : Bool) => (bif r108 then some 6 else some 0))))))))))))))))))
theorem r09_Kind_le (kf : Nat) (p0 : By8)  : Le (r09_Kind_c kf p0) (r09_Kind p0) := by
  unfold r09_Kind_c r09_Kind
  have := @r09_all_le kf
  have := @r09_quoted_le kf
  exact lb
def r09_IsName_c (kf : Nat) (p0 : By8) : Option Bool := (r09_Kind_c kf p0).bind (fun r6 => some (r6 == 1))
theorem r09_IsName_le (kf : Nat) (p0 : By8)  : Le (r09_IsName_c kf p0) (r09_IsName p0) := by
  unfold r09_IsName_c r09_IsName
  have := @r09_Kind_le kf
  exact lb
def r18_Check_c (kf : Nat) (p0 : List qJ) : Option Int := (bif (decide ((p0.length : Int) > 8)) then some 2 else (forN (fun (i4 : Nat) (_s : Unit) => (idx p0 (i4 : Int)).bind (fun x13 => (r09_IsName_c kf x13.Name).bind (fun r19 => ((bif (!r19) then some true else ((bif (decide ((i4 : Int) > 0)) then (idx p0 (w64 ((i4 : Int) - 1))).bind (fun x28 => (idx p0 (i4 : Int)).bind (fun x29 => some (!sLt x28.Name x29.Name))) else some false)).bind (fun (j24 : Bool) => some j24))).bind (fun (j20 : Bool) => (bif j20 then some (.inr (2 : Int)) else (loopK kf (fun (s39 : Int) => (idx p0 (i4 : Int)).bind (fun x44 => (bif (decide (s39 < (x44.In.length : Int))) then (idx p0 (i4 : Int)).bind (fun x47 => (idx x47.In s39).bind (fun x48 => (r18_At p0 x48).bind (fun (r54 : Int) => ((bif (decide (r54 < 0)) then some true else ((bif (decide (s39 > 0)) then (idx p0 (i4 : Int)).bind (fun x63 => (idx x63.In (w64 (s39 - 1))).bind (fun x64 => (idx p0 (i4 : Int)).bind (fun x65 => (idx x65.In s39).bind (fun x66 => some (!sLt x64 x66))))) else some false)).bind (fun (j59 : Bool) => some j59))).bind (fun (j55 : Bool) => (bif j55 then some (.inr (.inl (2 : Int))) else some (.inl (w64 (s39 + 1)))))))) else some (.inr (.inr ()))))) 0).bind (fun (t : Int ⊕ Unit) => match t with | (.inl s72) => some (.inr s72) | (.inr ()) => some (.inl ()))))))) p0.length 0 ()).bind (fun (t : Unit ⊕ (Int)) => match t with | .inl _ => (forN (fun (i79 : Nat) (_s : Unit) => (loopK kf (fun (s89 : Int) => (idx p0 (i79 : Int)).bind (fun x94 => (bif (decide (s89 < (x94.In.length : Int))) then (idx p0 (i79 : Int)).bind (fun x97 => (idx x97.In s89).bind (fun x98 => (idx p0 (i79 : Int)).bind (fun x99 => (r18_Is_c kf p0 x98 x99.Name).bind (fun r105 => (bif r105 then some (.inr (.inl (2 : Int))) else some (.inl (w64 (s89 + 1)))))))) else some (.inr (.inr ()))))) 0).bind (fun (t : Int ⊕ Unit) => match t with | (.inl s107) => some (.inr s107) | (.inr ()) => some (.inl ()))) p0.length 0 ()).bind (fun (t : Unit ⊕ (Int)) => match t with | .inl _ => some 0 | .inr s109 => some s109) | .inr s35 => some s35))
theorem r18_Check_le (kf : Nat) (p0 : List qJ)  : Le (r18_Check_c kf p0) (r18_Check p0) := by
  unfold r18_Check_c r18_Check
  have := @r18_Is_le kf
  have := @r09_IsName_le kf
  exact lb
def r18_Create_c (kf : Nat) (p0 : List qJ) (p1 : By8) : Option ((List qJ) × Int) := (r18_Check_c kf p0).bind (fun r6 => (bif (r6 != 0) then some (([] : List qJ), r6) else (r09_IsName_c kf p1).bind (fun r12 => (bif (!r12) then some (([] : List qJ), 18) else (r18_At p0 p1).bind (fun (r18 : Int) => (bif (decide (r18 ≥ 0)) then some (([] : List qJ), 19) else (bif ((p0.length : Int) == 8) then some (([] : List qJ), 5) else (loopK kf (fun (s22 : Int) => ((bif (decide (s22 < (p0.length : Int))) then (idx p0 s22).bind (fun x31 => some (sLt x31.Name p1)) else some false)).bind (fun (j27 : Bool) => (bif j27 then some (.inl (w64 (s22 + 1))) else some (.inr s22)))) 0).bind (fun (s35 : Int) => (sub p0 0 s35).bind (fun x36 => (app 40 ([] : List qJ) x36).bind (fun x39 => (app 40 x39 ([{ z_qJ with Name := p1 }] : List qJ)).bind (fun x55 => (sub p0 s35 (p0.length : Int)).bind (fun x64 => (app 40 x55 x64).bind (fun x65 => some (x65, 0))))))))))))))
theorem r18_Create_le (kf : Nat) (p0 : List qJ) (p1 : By8)  : Le (r18_Create_c kf p0 p1) (r18_Create p0 p1) := by
  unfold r18_Create_c r18_Create
  have := @r09_IsName_le kf
  have := @r18_Check_le kf
  exact lb
def r18_Grant_c (kf : Nat) (p0 : List qJ) (p1 : By8) (p2 : By8) : Option ((List qJ) × Int) := none
theorem r18_Grant_le (kf : Nat) (p0 : List qJ) (p1 : By8) (p2 : By8)  : Le (r18_Grant_c kf p0 p1 p2) (r18_Grant p0 p1 p2) := by
  exact Le.none _
def r18_Revoke_c (kf : Nat) (p0 : List qJ) (p1 : By8) (p2 : By8) : Option ((List qJ) × Int) := none
theorem r18_Revoke_le (kf : Nat) (p0 : List qJ) (p1 : By8) (p2 : By8)  : Le (r18_Revoke_c kf p0 p1 p2) (r18_Revoke p0 p1 p2) := by
  exact Le.none _
def r18_Drop_c (kf : Nat) (p0 : List qJ) (p1 : By8) : Option ((List qJ) × Int) := none
theorem r18_Drop_le (kf : Nat) (p0 : List qJ) (p1 : By8)  : Le (r18_Drop_c kf p0 p1) (r18_Drop p0 p1) := by
  exact Le.none _
def r19_roles_c (kf : Nat) (p0 : qC) (p1 : qS) : Option ((List qJ) × Int) := (bif (p1.Kind == 10) then (r18_Create_c kf p0.Roles p1.Name).bind (fun (r14, r15) => some (r14, r15)) else (bif (p1.Kind == 12) then (r18_Grant_c kf p0.Roles p1.Name p1.Role).bind (fun (r23, r24) => some (r23, r24)) else (bif (p1.Kind == 13) then (r18_Revoke_c kf p0.Roles p1.Name p1.Role).bind (fun (r32, r33) => some (r32, r33)) else (forN (fun (i39 : Nat) (_s : Unit) => (idx p0.Tables (i39 : Int)).bind (fun x49 => (bif (sEq x49.Owner p1.Name) then some (.inr (([] : List qJ), (34 : Int))) else some (.inl ())))) p0.Tables.length 0 ()).bind (fun (t : Unit ⊕ (((List qJ) × Int))) => match t with | .inl _ => (r18_Drop_c kf p0.Roles p1.Name).bind (fun (r64, r65) => some (r64, r65)) | .inr (s51, s52) => some (s51, s52)))))
theorem r19_roles_le (kf : Nat) (p0 : qC) (p1 : qS)  : Le (r19_roles_c kf p0 p1) (r19_roles p0 p1) := by
  unfold r19_roles_c r19_roles
  have := @r18_Create_le kf
  have := @r18_Grant_le kf
  have := @r18_Revoke_le kf
  have := @r18_Drop_le kf
  exact lb
def r19_Owns_c (kf : Nat) (p0 : qC) (p1 : By8) (p2 : By8) : Option Bool := (r17_At p0 p2).bind (fun (r10 : Int) => ((bif (decide (r10 ≥ 0)) then (idx p0.Tables r10).bind (fun x17 => (r18_Is_c kf p0.Roles p1 x17.Owner).bind (fun r23 => some r23)) else some false)).bind (fun (j13 : Bool) => some j13))
theorem r19_Owns_le (kf : Nat) (p0 : qC) (p1 : By8) (p2 : By8)  : Le (r19_Owns_c kf p0 p1 p2) (r19_Owns p0 p1 p2) := by
  unfold r19_Owns_c r19_Owns
  have := @r18_Is_le kf
  exact lb
def r19_has_c (kf : Nat) (p0 : qC) (p1 : List qG) (p2 : By8) (p3 : Int) (p4 : By8) (p5 : Bool) : Option Bool := (forN (fun (i8 : Nat) (_s : Unit) => (idx p1 (i8 : Int)).bind (fun x17 => ((bif (x17.Priv == p3) then (idx p1 (i8 : Int)).bind (fun x22 => some (sEq x22.Table p4)) else some false)).bind (fun (j18 : Bool) => ((bif j18 then (idx p1 (i8 : Int)).bind (fun x29 => some (x29.Option || (!p5))) else some false)).bind (fun (j25 : Bool) => ((bif j25 then (idx p1 (i8 : Int)).bind (fun x38 => (r18_Is_c kf p0.Roles p2 x38.To).bind (fun r44 => some r44)) else some false)).bind (fun (j34 : Bool) => (bif j34 then some (.inr true) else some (.inl ()))))))) p1.length 0 ()).bind (fun (t : Unit ⊕ (Bool)) => match t with | .inl _ => some false | .inr s48 => some s48)
theorem r19_has_le (kf : Nat) (p0 : qC) (p1 : List qG) (p2 : By8) (p3 : Int) (p4 : By8) (p5 : Bool)  : Le (r19_has_c kf p0 p1 p2 p3 p4 p5) (r19_has p0 p1 p2 p3 p4 p5) := by
  unfold r19_has_c r19_has
  have := @r18_Is_le kf
  exact lb
def r19_Held_c (kf : Nat) (p0 : qC) : Option (List qG) := (loopK kf (fun (s : (List qG) × Int) => match s with | (s8, s9) => (bif (decide (s9 ≤ (p0.Grants.length : Int))) then (forE (fun (i18 : Nat) (s17 : List qG) => ((idx p0.Grants (i18 : Int)).bind (fun x32 => (r17_At p0 x32.Table).bind (fun (r44 : Int) => ((bif (decide (r44 < 0)) then some true else (r18_At p0.Roles x32.To).bind (fun (r56 : Int) => some (decide (r56 < 0))))).bind (fun (j45 : Bool) => (bif j45 then some s17 else (r19_Owns_c kf p0 x32.By x32.Table).bind (fun r69 => ((bif r69 then some true else (r19_has_c kf p0 s8 x32.By x32.Priv x32.Table true).bind (fun r79 => some r79))).bind (fun (j70 : Bool) => ((bif j70 then (app 64 s17 ([x32] : List qG)).bind (fun x94 => some x94) else some s17)).bind (fun (j82 : List qG) => some j82)))))))).bind (fun (j28 : List qG) => some j28)) p0.Grants.length 0 ([] : List qG)).bind (fun s17 => some (.inl (s17, (w64 (s9 + 1))))) else some (.inr s8))) (([] : List qG), 0)).bind (fun (s120 : List qG) => some s120)
theorem r19_Held_le (kf : Nat) (p0 : qC)  : Le (r19_Held_c kf p0) (r19_Held p0) := by
  unfold r19_Held_c r19_Held
  have := @r19_Owns_le kf
  have := @r19_has_le kf
  exact lb
def r19_Can_c (kf : Nat) (p0 : qC) (p1 : By8) (p2 : Int) (p3 : By8) : Option Bool := (r19_Owns_c kf p0 p1 p3).bind (fun r12 => ((bif r12 then some true else (r19_Held_c kf p0).bind (fun r22 => (r19_has_c kf p0 r22 p1 p2 p3 true).bind (fun r28 => some r28)))).bind (fun (j13 : Bool) => some j13))
theorem r19_Can_le (kf : Nat) (p0 : qC) (p1 : By8) (p2 : Int) (p3 : By8)  : Le (r19_Can_c kf p0 p1 p2 p3) (r19_Can p0 p1 p2 p3) := by
  unfold r19_Can_c r19_Can
  have := @r19_Owns_le kf
  have := @r19_has_le kf
  have := @r19_Held_le kf
  exact lb
def r19_given_c (kf : Nat) (p0 : qC) (p1 : qS) (p2 : By8) : Option ((List qG) × Int) := (r17_At p0 p1.Table).bind (fun (r14 : Int) => ((bif (decide (r14 < 0)) then some true else (r18_At p0.Roles p1.Role).bind (fun (r25 : Int) => some (decide (r25 < 0))))).bind (fun (j15 : Bool) => (bif j15 then some (([] : List qG), 4) else (r19_Can_c kf p0 p2 p1.Priv p1.Table).bind (fun r36 => (bif (!r36) then some (([] : List qG), 36) else (r19_place p0 p1 p2).bind (fun (r44 : Int) => (app 64 ([] : List qG) p0.Grants).bind (fun x47 => (bif (decide (r44 ≥ 0)) then (idx x47 r44).bind (fun x54 => (bif (x54.Option || (!p1.Option)) then some (([] : List qG), 19) else (idx x47 r44).bind (fun x60 => some ((x47.set (r44).toNat ({ x60 with Option := true })), 0)))) else (bif (decide ((x47.length : Int) ≥ 40)) then some (([] : List qG), 5) else (app 64 x47 ([(⟨p1.Role, p2, p1.Table, p1.Priv, p1.Option⟩ : qG)] : List qG)).bind (fun x82 => some (x82, 0)))))))))))
theorem r19_given_le (kf : Nat) (p0 : qC) (p1 : qS) (p2 : By8)  : Le (r19_given_c kf p0 p1 p2) (r19_given p0 p1 p2) := by
  unfold r19_given_c r19_given
  have := @r19_Can_le kf
  exact lb
def r19_Make_c (kf : Nat) (p0 : qC) (p1 : qS) (p2 : By8) (p3 : Int) : Option (qC × Int) := (bif ((decide (p1.Kind < 10)) || (decide (p1.Kind > 15))) then some (z_qC, 2) else (r18_At p0.Roles p2).bind (fun (r25 : Int) => (bif (decide (r25 < 0)) then some (z_qC, 4) else ((bif (decide (p1.Kind ≤ 13)) then (r18_Is_c kf p0.Roles p2 (⟨#[114, 111, 111, 116]⟩ : By8)).bind (fun r46 => some (!r46)) else some false)).bind (fun (j37 : Bool) => ((bif j37 then some (.inl ((36 : Int), z_qC, p0.Roles, p0.Grants)) else ((bif (decide (p1.Kind ≤ 13)) then (r19_roles_c kf p0 p1).bind (fun (r74, r75) => some (.inl (r75, z_qC, r74, p0.Grants))) else ((bif (p1.Kind == 14) then (r19_given_c kf p0 p1 p2).bind (fun (r96, r97) => some (.inl (r97, z_qC, r96))) else (r19_place p0 p1 p2).bind (fun (r113 : Int) => (bif (decide (r113 < 0)) then some (.inr (4, z_qC)) else (sub p0.Grants 0 r113).bind (fun x147 => (app 64 ([] : List qG) x147).bind (fun x150 => (sub p0.Grants (w64 (r113 + 1)) (p0.Grants.length : Int)).bind (fun x162 => (app 64 x150 x162).bind (fun x164 => some (.inl ((0 : Int), z_qC, x164)))))))))).bind (fun (t : (Int × qC × (List qG)) ⊕ (Int × qC)) => match t with | (.inl (s101, s102, s103)) => some (.inl (s101, s102, p0.Roles, s103)) | (.inr (s118, s119)) => some (.inr (s118, s119))))).bind (fun (t : (Int × qC × (List qJ) × (List qG)) ⊕ (Int × qC)) => match t with | (.inl (s79, s80, s81, s82)) => some (.inl (s79, s80, s81, s82)) | (.inr (s121, s122)) => some (.inr (s121, s122))))).bind (fun (t : (Int × qC × (List qJ) × (List qG)) ⊕ (Int × qC)) => match t with | (.inl (s59, s60, s61, s62)) => ((bif ((s59 == 0) && (decide (p0.Version ≥ p3))) then some 52 else some s59)).bind (fun (j191 : Int) => (bif (j191 != 0) then some (z_qC, j191) else (r19_Held_c kf ({ p0 with Version := (w64 (p0.Version + 1)), Roles := s61, Grants := s62 })).bind (fun r212 => some ({ p0 with Version := (w64 (p0.Version + 1)), Roles := s61, Grants := r212 }, 0)))) | (.inr (s124, s125)) => some (s125, s124))))))
theorem r19_Make_le (kf : Nat) (p0 : qC) (p1 : qS) (p2 : By8) (p3 : Int)  : Le (r19_Make_c kf p0 p1 p2 p3) (r19_Make p0 p1 p2 p3) := by
  unfold r19_Make_c r19_Make
  have := @r18_Is_le kf
  have := @r19_roles_le kf
  have := @r19_Held_le kf
  have := @r19_given_le kf
  exact lb
def r17_renamed_c (kf : Nat) (p0 : qC) (p1 : qT) (p2 : By8) : Option (qC × qT) := none
theorem r17_renamed_le (kf : Nat) (p0 : qC) (p1 : qT) (p2 : By8)  : Le (r17_renamed_c kf p0 p1 p2) (r17_renamed p0 p1 p2) := by
  exact Le.none _
def r10_Names_c (kf : Nat) (p0 : qE) : Option (List By8) := none
theorem r10_Names_le (kf : Nat) (p0 : qE)  : Le (r10_Names_c kf p0) (r10_Names p0) := by
  exact Le.none _
def r14_Used_c (kf : Nat) (p0 : qT) : Option (List By8) := (r14_lists p0).bind (fun (r10 : List (List By8)) => (forE (fun (i15 : Nat) (s14 : List By8) => (idx r10 (i15 : Int)).bind (fun x25 => (app 16 s14 x25).bind (fun x27 => some x27))) r10.length 0 ([] : List By8)).bind (fun s14 => (forE (fun (i41 : Nat) (s40 : List By8) => (idx p0.Cons (i41 : Int)).bind (fun x48 => ((bif (x48.Kind == 2) then (idx p0.Cons (i41 : Int)).bind (fun x53 => (r10_Names_c kf x53.Check).bind (fun r59 => (app 16 s40 r59).bind (fun x61 => some x61))) else some s40)).bind (fun (j49 : List By8) => some j49))) p0.Cons.length 0 s14).bind (fun s40 => some s40)))
theorem r14_Used_le (kf : Nat) (p0 : qT)  : Le (r14_Used_c kf p0) (r14_Used p0) := by
  unfold r14_Used_c r14_Used
  have := @r10_Names_le kf
  exact lb
def r17_refers_nilsl_c (kf : Nat) (p0 : qC) (p1 : By8) (p2 : By8) (p3 : By8) : Option Bool := none
theorem r17_refers_nilsl_le (kf : Nat) (p0 : qC) (p1 : By8) (p2 : By8) (p3 : By8)  : Le (r17_refers_nilsl_c kf p0 p1 p2 p3) (r17_refers_nilsl p0 p1 p2 p3) := by
  exact Le.none _
def r17_turned_c (kf : Nat) (p0 : qC) (p1 : qT) (p2 : qS) : Option (qT × Int) := none
theorem r17_turned_le (kf : Nat) (p0 : qC) (p1 : qT) (p2 : qS)  : Le (r17_turned_c kf p0 p1 p2) (r17_turned p0 p1 p2) := by
  exact Le.none _
def r14_wrong_c (kf : Nat) (p0 : qT) : Option Int := (r14_Names p0).bind (fun ((r10, r11) : (List By8) × (List By8)) => (app 16 ([p0.Name, p0.Owner] : List By8) r10).bind (fun x19 => (app 16 x19 r11).bind (fun x26 => (forN (fun (i40 : Nat) (_s : Unit) => (idx x26 (i40 : Int)).bind (fun x47 => (r09_IsName_c kf x47).bind (fun r53 => (bif (!r53) then some (.inr (18 : Int)) else some (.inl ()))))) x26.length 0 ()).bind (fun (t : Unit ⊕ (Int)) => match t with | .inl _ => (bif (decide (p0.Version < 0)) then some 2 else (forN (fun (i64 : Nat) (_s : Unit) => (idx p0.Cols (i64 : Int)).bind (fun x71 => ((bif (decide (x71.Type_ < 1)) then some true else (idx p0.Cols (i64 : Int)).bind (fun x76 => some (decide (x76.Type_ > 3))))).bind (fun (j72 : Bool) => (bif j72 then some (.inr (2 : Int)) else some (.inl ()))))) p0.Cols.length 0 ()).bind (fun (t : Unit ⊕ (Int)) => match t with | .inl _ => (forN (fun (i88 : Nat) (_s : Unit) => (idx p0.Cons (i88 : Int)).bind (fun x95 => ((bif (decide (x95.Kind < 1)) then some true else (idx p0.Cons (i88 : Int)).bind (fun x100 => some (decide (x100.Kind > 3))))).bind (fun (j96 : Bool) => (bif j96 then some (.inr (2 : Int)) else some (.inl ()))))) p0.Cons.length 0 ()).bind (fun (t : Unit ⊕ (Int)) => match t with | .inl _ => (some ((decide ((p0.Cols.length : Int) < 1)) || (decide ((p0.Cols.length : Int) > 6)))).bind (fun (q109 : Bool) => (some ((q109 || (decide ((p0.Cons.length : Int) > 6))) || (decide ((p0.Idx.length : Int) > 3)))).bind (fun (q114 : Bool) => (bif q114 then some 3 else (r14_lists p0).bind (fun (r123 : List (List By8)) => (forN (fun (i127 : Nat) (_s : Unit) => ((bif (decide ((i127 : Int) < (p0.Cons.length : Int))) then (idx p0.Cons (i127 : Int)).bind (fun x138 => some (x138.Kind == 2)) else some false)).bind (fun (j134 : Bool) => ((bif (!j134) then (idx r123 (i127 : Int)).bind (fun x145 => ((bif (decide ((x145.length : Int) < 1)) then some true else (idx r123 (i127 : Int)).bind (fun x150 => some (decide ((x150.length : Int) > 3))))).bind (fun (j146 : Bool) => some j146)) else some false)).bind (fun (j141 : Bool) => (bif j141 then some (.inr (3 : Int)) else ((bif (decide ((i127 : Int) < (p0.Cons.length : Int))) then (idx p0.Cons (i127 : Int)).bind (fun x163 => some (x163.Kind == 3)) else some false)).bind (fun (j159 : Bool) => ((bif j159 then (idx p0.Cons (i127 : Int)).bind (fun x170 => ((bif (decide ((x170.Refs.length : Int) < 1)) then some true else (idx p0.Cons (i127 : Int)).bind (fun x175 => some (decide ((x175.Refs.length : Int) > 3))))).bind (fun (j171 : Bool) => some j171)) else some false)).bind (fun (j166 : Bool) => (bif j166 then some (.inr (3 : Int)) else some (.inl ())))))))) r123.length 0 ()).bind (fun (t : Unit ⊕ (Int)) => match t with | .inl _ => (r14_twice r10).bind (fun (r188 : Bool) => ((bif r188 then some true else (r14_twice r11).bind (fun (r198 : Bool) => some r198))).bind (fun (j189 : Bool) => (bif j189 then some 19 else (forN (fun (i205 : Nat) (_s : Unit) => (idx r123 (i205 : Int)).bind (fun x212 => (r14_twice x212).bind (fun (r218 : Bool) => ((bif r218 then some true else ((bif (decide ((i205 : Int) < (p0.Cons.length : Int))) then (idx p0.Cons (i205 : Int)).bind (fun x227 => (r14_twice x227.Refs).bind (fun (r233 : Bool) => some r233)) else some false)).bind (fun (j223 : Bool) => some j223))).bind (fun (j219 : Bool) => (bif j219 then some (.inr (19 : Int)) else some (.inl ())))))) r123.length 0 ()).bind (fun (t : Unit ⊕ (Int)) => match t with | .inl _ => some 0 | .inr s239 => some s239)))) | .inr s156 => some s156))))) | .inr s104 => some s104) | .inr s80 => some s80)) | .inr s55 => some s55))))
theorem r14_wrong_le (kf : Nat) (p0 : qT)  : Le (r14_wrong_c kf p0) (r14_wrong p0) := by
  unfold r14_wrong_c r14_wrong
  have := @r09_IsName_le kf
  exact lb
def r10_Check_c (kf : Nat) (p0 : qE) (p1 : Bool) : Option Int := none
theorem r10_Check_le (kf : Nat) (p0 : qE) (p1 : Bool)  : Le (r10_Check_c kf p0 p1) (r10_Check p0 p1) := by
  exact Le.none _
def r10_Params_c (kf : Nat) (p0 : qE) : Option Int := none
theorem r10_Params_le (kf : Nat) (p0 : qE)  : Le (r10_Params_c kf p0) (r10_Params p0) := by
  exact Le.none _
def r12_None_c (kf : Nat) (p0 : qE) : Option Bool := none
theorem r12_None_le (kf : Nat) (p0 : qE)  : Le (r12_None_c kf p0) (r12_None p0) := by
  exact Le.none _
def r14_Check_c (kf : Nat) (p0 : qT) : Option Int := (r14_wrong_c kf p0).bind (fun r10 => (bif (r10 != 0) then some r10 else (r14_Names p0).bind (fun ((r17, r18) : (List By8) × (List By8)) => (r14_Used_c kf p0).bind (fun r24 => (forN (fun (i28 : Nat) (_s : Unit) => (idx r24 (i28 : Int)).bind (fun x35 => (r14_Has r17 x35).bind (fun (r41 : Bool) => (bif (!r41) then some (.inr (4 : Int)) else some (.inl ()))))) r24.length 0 ()).bind (fun (t : Unit ⊕ (Int)) => match t with | .inl _ => (forN (fun (i52 : Nat) (s51 : Bool) => ((idx p0.Cons (i52 : Int)).bind (fun x63 => (bif (x63.Kind != 2) then some (.inl s51) else (idx p0.Cons (i52 : Int)).bind (fun x65 => (r10_Check_c kf x65.Check false).bind (fun r71 => (bif (r71 == 17) then some (.inr 17) else ((bif (s51 || (r71 != 0)) then some true else (idx p0.Cons (i52 : Int)).bind (fun x85 => (r10_Params_c kf x85.Check).bind (fun r91 => some (decide (r91 > 0)))))).bind (fun (j81 : Bool) => some (.inl j81)))))))).bind (fun (t : Bool ⊕ Int) => match t with | (.inl s64) => some (.inl s64) | (.inr s73) => some (.inr s73))) p0.Cons.length 0 false).bind (fun (t : Bool ⊕ (Int)) => match t with | .inl s51 => (bif s51 then some 2 else (forN (fun (i102 : Nat) (_s : Unit) => (idx p0.Cons (i102 : Int)).bind (fun x109 => ((bif (x109.Kind != 2) then (r12_None_c kf x109.Check).bind (fun r125 => some (!r125)) else some false)).bind (fun (j116 : Bool) => (some (j116 || ((x109.Kind == 2) && (decide ((x109.Cols.length : Int) > 0))))).bind (fun (q132 : Bool) => (bif q132 then some (.inr (2 : Int)) else ((bif (x109.Kind == 3) then (r09_IsName_c kf x109.Table).bind (fun r151 => (some ((!r151) || ((x109.Refs.length : Int) != (x109.Cols.length : Int)))).bind (fun (q152 : Bool) => some q152)) else some false)).bind (fun (j142 : Bool) => (some (j142 || ((x109.Kind != 3) && ((!sEq x109.Table eB) || (decide ((x109.Refs.length : Int) > 0)))))).bind (fun (q163 : Bool) => (bif q163 then some (.inr (2 : Int)) else some (.inl ()))))))))) p0.Cons.length 0 ()).bind (fun (t : Unit ⊕ (Int)) => match t with | .inl _ => some 0 | .inr s138 => some s138)) | .inr s75 => some s75) | .inr s43 => some s43)))))
theorem r14_Check_le (kf : Nat) (p0 : qT)  : Le (r14_Check_c kf p0) (r14_Check p0) := by
  unfold r14_Check_c r14_Check
  have := @r09_IsName_le kf
  have := @r14_Used_le kf
  have := @r14_wrong_le kf
  have := @r10_Check_le kf
  have := @r10_Params_le kf
  have := @r12_None_le kf
  exact lb
def r15_Resolve_c (kf : Nat) (p0 : qT) (p1 : qE) : Option (qE × Int) := none
theorem r15_Resolve_le (kf : Nat) (p0 : qT) (p1 : qE)  : Le (r15_Resolve_c kf p0 p1) (r15_Resolve p0 p1) := by
  exact Le.none _
def r15_Bool_c (kf : Nat) (p0 : qE) (p1 : List Int) (p2 : List Int) : Option Int := none
theorem r15_Bool_le (kf : Nat) (p0 : qE) (p1 : List Int) (p2 : List Int)  : Le (r15_Bool_c kf p0 p1 p2) (r15_Bool p0 p1 p2) := by
  exact Le.none _
def r17_Sound_c (kf : Nat) (p0 : qC) (p1 : qT) : Option Int := (r14_Check_c kf p1).bind (fun r14 => (bif (r14 != 0) then some r14 else (forN (fun (i20 : Nat) (_s : Unit) => (idx p1.Cons (i20 : Int)).bind (fun x28 => ((bif (x28.Kind == 2) then (r15_Resolve_c kf p1 x28.Check).bind (fun (r44, r45) => ((bif (r45 == 0) then (r15_Cols p1).bind (fun (r63 : List Int) => (r15_Bool_c kf r44 r63 ([] : List Int)).bind (fun r69 => some r69)) else some r45)).bind (fun (j52 : Int) => some j52)) else some 0)).bind (fun (j35 : Int) => ((bif (x28.Kind == 3) then (r17_foreign p0 p1 x28).bind (fun (r91 : Int) => some r91) else some j35)).bind (fun (j82 : Int) => (bif (j82 != 0) then some (.inr j82) else some (.inl ())))))) p1.Cons.length 0 ()).bind (fun (t : Unit ⊕ (Int)) => match t with | .inl _ => some 0 | .inr s99 => some s99)))
theorem r17_Sound_le (kf : Nat) (p0 : qC) (p1 : qT)  : Le (r17_Sound_c kf p0 p1) (r17_Sound p0 p1) := by
  unfold r17_Sound_c r17_Sound
  have := @r14_Check_le kf
  have := @r15_Resolve_le kf
  have := @r15_Bool_le kf
  exact lb
def r17_with_c (kf : Nat) (p0 : qC) (p1 : qT) : Option qC := (loopK kf (fun (s24 : Int) => ((bif (decide (s24 < (p0.Tables.length : Int))) then (idx p0.Tables s24).bind (fun x38 => some (sLt x38.Name p1.Name)) else some false)).bind (fun (j34 : Bool) => (bif j34 then some (.inl (w64 (s24 + 1))) else some (.inr s24)))) 0).bind (fun (s42 : Int) => (sub p0.Tables 0 s42).bind (fun x45 => (app 112 ([] : List qT) x45).bind (fun x48 => (app 112 x48 ([p1] : List qT)).bind (fun x66 => (sub p0.Tables s42 (p0.Tables.length : Int)).bind (fun x80 => (app 112 x66 x80).bind (fun x82 => some { p0 with Tables := x82 }))))))
theorem r17_with_le (kf : Nat) (p0 : qC) (p1 : qT)  : Le (r17_with_c kf p0 p1) (r17_with p0 p1) := by
  unfold r17_with_c r17_with
  exact lb
def r17_Make_c (kf : Nat) (p0 : qC) (p1 : qS) (p2 : By8) (p3 : Int) : Option (qC × Int) := (bif ((decide (p1.Kind < 1)) || (decide (p1.Kind > 9))) then some (z_qC, 2) else (r17_At p0 p1.Table).bind (fun (r25 : Int) => (bif ((p1.Kind == 1) && (decide (r25 ≥ 0))) then some (z_qC, 19) else (bif ((p1.Kind == 1) && (decide ((p0.Tables.length : Int) ≥ 8))) then some (z_qC, 5) else (bif ((p1.Kind != 1) && (decide (r25 < 0))) then some (z_qC, 4) else (r17_without p0 p1.Table).bind (fun (r52 : qC) => ((bif (p1.Kind == 1) then some (.inl ((0 : Int), z_qC, r52.Version, r52.Tables, r52.Roles, r52.Grants, { z_qT with Name := p1.Table, Owner := p2, Cols := p1.Cols, Cons := p1.Cons })) else ((bif (p1.Kind == 2) then (r17_refers_nilsl_c kf p0 p1.Table p1.Table eB).bind (fun r90 => (bif r90 then some (.inl (34, z_qC, z_qT)) else (forE (fun (i124 : Nat) (s123 : List qG) => (idx p0.Grants (i124 : Int)).bind (fun x140 => ((bif (!sEq x140.Table p1.Table) then (idx p0.Grants (i124 : Int)).bind (fun x147 => (app 64 s123 ([x147] : List qG)).bind (fun x156 => some x156)) else some s123)).bind (fun (j141 : List qG) => some j141))) p0.Grants.length 0 ([] : List qG)).bind (fun s123 => some (.inr ((0 : Int), z_qC, r52.Version, r52.Tables, r52.Roles, s123, z_qT))))) else ((bif (p1.Kind == 5) then (r17_At p0 p1.Name).bind (fun (r199 : Int) => (bif (decide (r199 ≥ 0)) then some (.inl (19, z_qC, z_qT)) else (idx p0.Tables r25).bind (fun x219 => (r17_renamed_c kf p0 x219 p1.Name).bind (fun (r225, r226) => some (.inr ((0 : Int), z_qC, r225.Version, r225.Tables, r225.Roles, r225.Grants, r226)))))) else (idx p0.Tables r25).bind (fun x246 => (r17_turned_c kf p0 x246 p1).bind (fun (r252, r253) => some (.inr (r253, z_qC, r52.Version, r52.Tables, r52.Roles, r52.Grants, r252)))))).bind (fun (t : (Int × qC × qT) ⊕ (Int × qC × Int × (List qT) × (List qJ) × (List qG) × qT)) => match t with | (.inl (s204, s205, s206)) => some (.inl (s204, s205, s206)) | (.inr (s233, s234, s235, s236, s237, s238, s239)) => some (.inr (s233, s234, s235, s236, s237, s238, s239))))).bind (fun (t : (Int × qC × qT) ⊕ (Int × qC × Int × (List qT) × (List qJ) × (List qG) × qT)) => match t with | (.inl (s95, s96, s97)) => some (.inr (s95, s96, s97)) | (.inr (s178, s179, s180, s181, s182, s183, s184)) => some (.inl (s178, s179, s180, s181, s182, s183, s184))))).bind (fun (t : (Int × qC × Int × (List qT) × (List qJ) × (List qG) × qT) ⊕ (Int × qC × qT)) => match t with | (.inl (s69, s70, s71, s72, s73, s74, s75)) => ((bif ((s69 == 0) && (p1.Kind != 2)) then (r17_Sound_c kf (⟨s71, s72, s73, s74⟩ : qC) s75).bind (fun r278 => some r278) else some s69)).bind (fun (j268 : Int) => ((bif ((j268 == 0) && (decide (p0.Version ≥ p3))) then some 52 else some j268)).bind (fun (j283 : Int) => (bif (j283 != 0) then some (z_qC, j283) else ((bif (p1.Kind != 2) then (r17_with_c kf (⟨s71, s72, s73, s74⟩ : qC) ({ s75 with Version := (w64 (p0.Version + 1)) })).bind (fun r311 => some (r311.Version, r311.Tables, r311.Roles, r311.Grants, { s75 with Version := (w64 (p0.Version + 1)) })) else some (s71, s72, s73, s74, s75))).bind (fun ((s315, s316, s317, s318, s319) : Int × (List qT) × (List qJ) × (List qG) × qT) => some ((⟨(w64 (p0.Version + 1)), s316, s317, s318⟩ : qC), 0))))) | (.inr (s99, s100, s101)) => some (s100, s99))))))))
theorem r17_Make_le (kf : Nat) (p0 : qC) (p1 : qS) (p2 : By8) (p3 : Int)  : Le (r17_Make_c kf p0 p1 p2 p3) (r17_Make p0 p1 p2 p3) := by
  unfold r17_Make_c r17_Make
  have := @r17_renamed_le kf
  have := @r17_refers_nilsl_le kf
  have := @r17_turned_le kf
  have := @r17_Sound_le kf
  have := @r17_with_le kf
  exact lb
def law19_first_c (kf : Nat)  : Option qC := (r17_New).bind (fun (r10 : qC) => (forE (fun (i32 : Nat) (s31 : qC) => ((idx ([(⟨#[97, 110, 110]⟩ : By8), (⟨#[98, 111, 98]⟩ : By8), (⟨#[99, 121]⟩ : By8)] : List By8) (i32 : Int)).bind (fun x46 => (r19_Make_c kf s31 ({ z_qS with Kind := 10, Name := x46 }) (⟨#[114, 111, 111, 116]⟩ : By8) 1000).bind (fun (r57, r58) => some (r57, r58)))).bind (fun ((s61, s62) : qC × Int) => ((bif (s62 == 0) then some s61 else some s31)).bind (fun (j101 : qC) => some j101))) 3 0 r10).bind (fun s31 => (r17_Make_c kf s31 ({ z_qS with Kind := 1, Table := (⟨#[116]⟩ : By8), Cols := ([{ z_qL with Name := (⟨#[97]⟩ : By8), Type_ := 1 }] : List qL) }) (⟨#[97, 110, 110]⟩ : By8) 1000).bind (fun (r134, r135) => ((bif (r135 == 0) then some r134 else some s31)).bind (fun (j142 : qC) => some j142))))
theorem law19_first_le (kf : Nat)   : Le (law19_first_c kf ) (law19_first ) := by
  unfold law19_first_c law19_first
  have := @r19_Make_le kf
  have := @r17_Make_le kf
  exact lb
def law19_Next_c (kf : Nat) (p0 : qC) (p1 : law19_Act) : Option (qC × Int) := (r19_Make_c kf p0 p1.S p1.By 1000).bind (fun (r18, r19) => ((bif (decide (p1.S.Kind < 10)) then (r17_Make_c kf p0 p1.S p1.By 1000).bind (fun (r35, r36) => some (r36, r35)) else some (r19, r18))).bind (fun ((s39, s40) : Int × qC) => (bif (s39 != 0) then some (p0, s39) else some (s40, s39))))
theorem law19_Next_le (kf : Nat) (p0 : qC) (p1 : law19_Act)  : Le (law19_Next_c kf p0 p1) (law19_Next p0 p1) := by
  unfold law19_Next_c law19_Next
  have := @r19_Make_le kf
  have := @r17_Make_le kf
  exact lb
def law19_Grown_c (kf : Nat) (p0 : List law19_Act) : Option qC := (law19_first_c kf).bind (fun r10 => (forE (fun (i21 : Nat) (s20 : qC) => (idx p0 (i21 : Int)).bind (fun x31 => (law19_Next_c kf s20 x31).bind (fun (r37, r38) => some r37))) p0.length 0 r10).bind (fun s20 => some s20))
theorem law19_Grown_le (kf : Nat) (p0 : List law19_Act)  : Le (law19_Grown_c kf p0) (law19_Grown p0) := by
  unfold law19_Grown_c law19_Grown
  have := @law19_first_le kf
  have := @law19_Next_le kf
  exact lb
def nAnn : By8 := ⟨#[97, 110, 110]⟩
def nBob : By8 := ⟨#[98, 111, 98]⟩
def nCy : By8 := ⟨#[99, 121]⟩
def nRoot : By8 := ⟨#[114, 111, 111, 116]⟩
def nT : By8 := ⟨#[116]⟩
def wG1 : qG := ⟨nBob, nAnn, nT, 1, true⟩
def wG2 : qG := ⟨nCy, nBob, nT, 1, true⟩
def wR : List Role := [⟨nAnn, []⟩, ⟨nBob, []⟩, ⟨nCy, []⟩, ⟨nRoot, []⟩]
def wT : List qT := [⟨nT, nAnn, 4, [⟨⟨#[97]⟩, 1, false⟩], [], []⟩]
def wC : qC := ⟨6, wT, wR, [wG1, wG2]⟩
def wA (f t : By8) : law19_Act := ⟨{ z_qS with Kind := 14, Table := nT, Role := t, Priv := 1, Option := true }, f⟩
theorem wGrown : law19_Grown [wA nAnn nBob, wA nBob nCy] = some wC := law19_Grown_le 60 _ _ kr
theorem wAF : AF [wA nAnn nBob, wA nBob nCy] := by
  refine ⟨by show 2 ≤ 40; omega, fun a ha => ?_⟩
  simp only [List.mem_cons, List.not_mem_nil, or_false] at ha
  rcases ha with rfl | rfl
  · exact ⟨⟨Nat.zero_le _, Nat.zero_le _, Nat.zero_le _, by decide, Nat.zero_le _, (fun x hx => by cases hx), (fun x hx => by cases hx)⟩, by decide⟩
  · exact ⟨⟨Nat.zero_le _, Nat.zero_le _, Nat.zero_le _, by decide, Nat.zero_le _, (fun x hx => by cases hx), (fun x hx => by cases hx)⟩, by decide⟩
theorem wCI : CI 60 wC := (grown_rb (b := True) wAF).so _ wGrown
theorem wSm : Sm wR := wCI.2.sm om
section
variable {κ : Type} (eq : κ → κ → Bool)
def cost (m : List (κ × Int)) (x : κ) : Nat := match mget eq m x with | some d => d.toNat | none => 5000
def pot (K : List κ) (m : List (κ × Int)) : Nat := (K.map (cost eq m)).sum
structure Dm (K : List κ) (lo : Int) (S : Int → κ → Prop) (m : List (κ × Int)) : Prop where
  nd : (m.map (·.1)).Nodup
  sub : ∀ x ∈ m.map (·.1), x ∈ K
  val : ∀ x d, mget eq m x = some d → lo ≤ d ∧ d + 1 ≤ (m.length : Int) + lo ∧ S d x
theorem sum_lt {f g : κ → Nat} {x : κ} : ∀ {K : List κ}, (∀ y ∈ K, f y ≤ g y) → x ∈ K → f x < g x → (K.map f).sum < (K.map g).sum
  | [], _, h, _ => by cases h
  | y :: r, h, hx, hl => by
    have h0 := h y (by simp)
    have hr : (r.map f).sum ≤ (r.map g).sum := by
      have : ∀ (r : List κ), (∀ y ∈ r, f y ≤ g y) → (r.map f).sum ≤ (r.map g).sum := by
        intro r
        induction r with
        | nil => intro _; simp
        | cons z r ih => intro h; have := h z (by simp); have := ih fun y hy => h y (by simp [hy]); simp only [List.map_cons, List.sum_cons]; omega
      exact this r fun z hz => h z (by simp [hz])
    simp only [List.map_cons, List.sum_cons]
    rcases List.mem_cons.1 hx with rfl | hx
    · omega
    · have := sum_lt (fun z hz => h z (by simp [hz])) hx hl
      omega
variable {eq} {K : List κ} {lo : Int} {S : Int → κ → Prop} {m : List (κ × Int)}
theorem Dm.len (h : Dm eq K lo S m) : m.length ≤ K.length := by
  have := List.Nodup.length_le_of_subset (l₂ := K) h.nd (fun k hk => h.sub k hk)
  simpa using this
theorem Dm.relax (he : KEq eq) (h : Dm eq K lo S m) {x : κ} {v : Int} (hx : x ∈ K) (h1 : lo ≤ v) (h2 : v ≤ (m.length : Int) + lo) (hs : S v x) (hi : ∀ d, mget eq m x = some d → v < d) (hK : K.length ≤ 1000) (h0 : 0 ≤ lo) (hl : lo ≤ 1) :
    Dm eq K lo S (mset eq m x v) ∧ pot eq K (mset eq m x v) < pot eq K m := by
  have hlen := h.len
  have hgx : mget eq (mset eq m x v) x = some v := by rw [mget_mset he, he.refl]; rfl
  have hgy : ∀ y, y ≠ x → mget eq (mset eq m x v) y = mget eq m y := fun y hy => by rw [mget_mset he, he.ne hy]; rfl
  have hlm : (m.length : Int) ≤ ((mset eq m x v).length : Int) ∧ (mget eq m x = none → ((mset eq m x v).length : Int) = (m.length : Int) + 1) := by
    by_cases hm : x ∈ m.map (·.1)
    · have := nodup_len (mset_nodup he h.nd x v) h.nd (fun e => by rw [mset_mem he]; constructor; (rintro (rfl | h); exact hm; exact h); exact fun h => .inr h)
      rw [List.length_map] at this
      refine ⟨by omega, fun hn => ?_⟩
      obtain ⟨u, hu⟩ := mget_some he hm
      rw [hu] at hn
      cases hn
    · have := nodup_len (ks := x :: m.map (·.1)) (mset_nodup he h.nd x v) (List.nodup_cons.2 ⟨hm, h.nd⟩) (fun e => by rw [mset_mem he]; simp)
      rw [List.length_cons, List.length_map] at this
      exact ⟨by omega, fun _ => by omega⟩
  refine ⟨⟨mset_nodup he h.nd x v, fun y hy => ?_, fun y d hd => ?_⟩, ?_⟩
  · rcases (mset_mem he m x v y).1 hy with rfl | hy
    · exact hx
    · exact h.sub y hy
  · by_cases e : y = x
    · subst e
      rw [hgx] at hd
      obtain rfl := Option.some.inj hd
      refine ⟨h1, ?_, hs⟩
      cases hg : mget eq m y with
      | none => have := hlm.2 hg; omega
      | some d => have := hi d hg; have := (h.val y d hg).2.1; omega
    · rw [hgy y e] at hd
      obtain ⟨a, b, c⟩ := h.val y d hd
      exact ⟨a, by omega, c⟩
  · refine sum_lt (x := x) (fun y _ => ?_) hx ?_
    · by_cases e : y = x
      · subst e
        unfold cost
        rw [hgx]
        cases hg : mget eq m y with
        | none => simp only; omega
        | some d => have := hi d hg; simp only; omega
      · unfold cost
        rw [hgy y e]
        exact Nat.le_refl _
    · unfold cost
      rw [hgx]
      cases hg : mget eq m x with
      | none => simp only; omega
      | some d => have := hi d hg; simp only; omega
end
theorem take_all {α : Type} {P : α → Prop} {xs : List α} {j : Nat} {x : α} (h : xs[j]? = some x) (g : ∀ y ∈ xs.take j, P y) (hp : P x) : ∀ y ∈ xs.take (j + 1), P y := by
  rw [take_next h]
  intro y hy
  rcases List.mem_append.1 hy with hy | hy
  · exact g y hy
  · simp only [List.mem_cons, List.not_mem_nil, or_false] at hy
    subst hy
    exact hp
def Wk (l : List Role) : Nat → By8 → By8 → Prop
  | 0, a, b => a = b
  | t + 1, a, b => ∃ m, m ∈ ins l a ∧ Wk l t m b
theorem ins_some {l : List Role} {x y : By8} (h : y ∈ ins l x) : has l x := by
  unfold ins at h
  cases e : l.find? fun x_1 => sEq x_1.Name x with
  | none => rw [e] at h; cases h
  | some r => exact ⟨r, List.mem_of_find?_eq_some e, (keq _ _).1 (by simpa using List.find?_some e)⟩
def Dt (l : List Role) (of : By8) (d : Int) (x : By8) : Prop := has l of ∧ Wk l d.toNat x of
def FixA (m : List (By8 × Int)) (r y : By8) : Prop := ∀ d, mget sEq m y = some d → ∃ e, mget sEq m r = some e ∧ e ≤ d + 1
structure Far (l : List Role) (of : By8) (D : List (By8 × Int)) : Prop where
  dm : Dm sEq (l.map (·.Name)) 0 (Dt l of) D
  all : ∀ (k : Nat) (x : By8), has l of → Wk l k x of → ∃ d, mget sEq D x = some d ∧ d ≤ (k : Int)
theorem far_rb {l : List Role} (hs : Sm l) (of : By8) : Ret (why_far l of) (Far l of) := by
  have hi : ∀ x ∈ l, x.In.length ≤ 1000 := fun x hx => by have := hs.2.1 x hx; omega
  have hK : (l.map (·.Name)).length ≤ 1000 := by rw [List.length_map]; have := hs.1; omega
  unfold why_far
  obtain ⟨r0, b0, e0, _, hb, _⟩ := find_eq l of hi
  rw [e0]
  simp only [obs]
  refine yi (fun hc => yc ?_) fun hc => ?_
  · have hn : ¬ has l of := fun h => by rw [hb.2 h] at hc; cases hc
    exact ⟨⟨by simp, fun x hx => by simp at hx, fun x d hd => by simp [mget_nil] at hd⟩, fun k x h => absurd h hn⟩
  have hof : has l of := hb.1 (by simpa using hc)
  have start : Dm sEq (l.map (·.Name)) 0 (Dt l of) (mset sEq [] of 0) := by
    rw [mset_nil]
    refine ⟨by simp, fun x hx => ?_, fun x d hd => ?_⟩
    · obtain ⟨r, hr, hn⟩ := hof
      simp only [List.map_cons, List.map_nil, List.mem_cons, List.not_mem_nil, or_false] at hx
      subst hx
      exact List.mem_map.2 ⟨r, hr, hn⟩
    · rw [mget_cons, mget_nil] at hd
      cases hq : sEq x of with
      | false => rw [hq] at hd; cases hd
      | true =>
        rw [hq] at hd
        obtain rfl := (keq _ _).1 hq
        obtain rfl := Option.some.inj hd
        exact ⟨by omega, by simp, hof, rfl⟩
  refine yd (loopO_rb (fun (s : Bool × List (By8 × Int)) => Dm sEq (l.map (·.Name)) 0 (Dt l of) s.2 ∧ mget sEq s.2 of = some 0 ∧ (s.1 = false → ∀ r ∈ l, ∀ y ∈ ins l r.Name, FixA s.2 r.Name y)) (fun s => 2 * pot sEq (l.map (·.Name)) s.2 + bif s.1 then 1 else 0)
    (Q := fun D => Dm sEq (l.map (·.Name)) 0 (Dt l of) D ∧ mget sEq D of = some 0 ∧ ∀ r ∈ l, ∀ y ∈ ins l r.Name, FixA D r.Name y) ?_ ⟨start, by rw [mset_nil, mget_cons, keq.refl]; rfl, fun h => by cases h⟩) ?_
  · rintro ⟨g, m⟩ ⟨dm, z, fx⟩
    simp only at dm z fx
    refine yi (fun hg => ?_) fun hg => yc ⟨dm, z, fx hg⟩
    have hg : g = true := hg
    subst hg
    refine yd (forE_ret (fun j (s : Bool × List (By8 × Int)) => Dm sEq (l.map (·.Name)) 0 (Dt l of) s.2 ∧ mget sEq s.2 of = some 0 ∧ (s.1 = false → s.2 = m ∧ ∀ r ∈ l.take j, ∀ y ∈ ins l r.Name, FixA m r.Name y) ∧ (s.1 = true → pot sEq (l.map (·.Name)) s.2 < pot sEq (l.map (·.Name)) m)) ⟨dm, z, fun _ => ⟨rfl, by simp⟩, fun h => by cases h⟩ ?_) ?_
    · rintro j ⟨g1, m1⟩ hj ⟨dm1, z1, f1, t1⟩
      simp only at dm1 z1 f1 t1
      refine yaf hj fun r hr hrm => ?_
      obtain ⟨rr, b, e, ein, _, _⟩ := find_eq l r.Name hi
      rw [e]
      simp only [obs]
      refine yd (forE_ret (fun i (s : Bool × List (By8 × Int)) => Dm sEq (l.map (·.Name)) 0 (Dt l of) s.2 ∧ mget sEq s.2 of = some 0 ∧ (s.1 = false → g1 = false ∧ s.2 = m ∧ ∀ y ∈ rr.In.take i, FixA m r.Name y) ∧ (s.1 = true → pot sEq (l.map (·.Name)) s.2 < pot sEq (l.map (·.Name)) m)) ⟨dm1, z1, fun h => ⟨h, (f1 h).1, by simp⟩, t1⟩ ?_) ?_
      · rintro i ⟨g2, m2⟩ hi2 ⟨dm2, z2, f2, t2⟩
        simp only at dm2 z2 f2 t2
        refine yaf hi2 fun y hy hym => ya0 (ya0 (ya0 (yd (R := fun (s : Bool × List (By8 × Int)) => Dm sEq (l.map (·.Name)) 0 (Dt l of) s.2 ∧ mget sEq s.2 of = some 0 ∧ (s.1 = false → g1 = false ∧ s.2 = m ∧ ∀ y ∈ rr.In.take (i + 1), FixA m r.Name y) ∧ (s.1 = true → pot sEq (l.map (·.Name)) s.2 < pot sEq (l.map (·.Name)) m)) (yi (fun hq => yc ?_) fun hq => yc ?_) fun s h => yc h)))
        · simp only [Bool.and_eq_true, Bool.or_eq_true, Bool.not_eq_true', decide_eq_true_eq] at hq
          obtain ⟨hq1, hq2⟩ := hq
          rw [mhas_get, Option.isSome_iff_exists] at hq1
          obtain ⟨d, hd⟩ := hq1
          obtain ⟨d0, d1, ⟨_, dw⟩⟩ := dm2.val y d hd
          have hlen := dm2.len
          rw [hd] at hq2 ⊢
          simp only [Option.getD_some] at hq2 ⊢
          have ew : w64 (d + 1) = d + 1 := w64_id om om
          rw [ew] at hq2 ⊢
          have hlt : ∀ e, mget sEq m2 r.Name = some e → d + 1 < e := fun e he => by
            rcases hq2 with hq2 | hq2
            · rw [mhas_get, he] at hq2; cases hq2
            · rw [he] at hq2; exact hq2
          have hS : Dt l of (d + 1) r.Name := ⟨hof, by
            rw [show (d + 1).toNat = d.toNat + 1 by omega]
            exact ⟨y, by rw [← ein]; exact hym, dw⟩⟩
          obtain ⟨a1, a2⟩ := dm2.relax keq (List.mem_map.2 ⟨r, hrm, rfl⟩) om om hS hlt hK om om
          refine ⟨a1, ?_, (fun h => by cases h), fun _ => ?_⟩
          · show mget sEq (mset sEq m2 r.Name (d + 1)) of = some 0
            rw [mget_mset keq]
            cases hq : sEq of r.Name with
            | false => exact z2
            | true =>
              have := (keq _ _).1 hq
              rw [this] at z2
              have := hlt 0 z2
              omega
          · refine Nat.lt_of_lt_of_le a2 ?_
            cases g2 with
            | true => have := t2 rfl; omega
            | false => rw [(f2 rfl).2.1]; exact Nat.le_refl _
        · refine ⟨dm2, z2, fun h => ?_, t2⟩
          have h : g2 = false := h
          obtain ⟨h1, h2, h3⟩ := f2 h
          have h2 : m2 = m := h2
          subst h2
          refine ⟨h1, rfl, take_all hy h3 fun d hd => ?_⟩
          have hlen := dm2.len
          obtain ⟨d0, d1, _⟩ := dm2.val y d hd
          rw [hd, mhas_get, hd, mhas_get] at hq
          simp only [Option.isSome_some, Bool.true_and, Option.getD_some, Bool.or_eq_false_iff, Bool.not_eq_false', decide_eq_false_iff_not] at hq
          obtain ⟨q1, q2⟩ := hq
          obtain ⟨e, he⟩ := Option.isSome_iff_exists.1 q1
          rw [he, w64_id om om] at q2
          simp only [Option.getD_some] at q2
          exact ⟨e, he, by omega⟩
      · rintro ⟨g2, m2⟩ ⟨dm2, z2, f2, t2⟩
        simp only at dm2 z2 f2 t2
        refine yc ⟨dm2, z2, fun h => ?_, t2⟩
        obtain ⟨h1, h2, h3⟩ := f2 h
        rw [List.take_length, ein] at h3
        exact ⟨h2, take_all hr (f1 h1).2 h3⟩
    · rintro ⟨g1, m1⟩ ⟨dm1, z1, f1, t1⟩
      simp only at dm1 z1 f1 t1
      refine yc ⟨⟨dm1, z1, fun h => ?_⟩, ?_⟩
      · obtain ⟨h1, h2⟩ := f1 h
        rw [List.take_length] at h2
        simp only at h1 ⊢
        subst h1
        exact h2
      · simp only [cond_true]
        cases g1 with
        | true => have := t1 rfl; simp only [cond_true]; omega
        | false => have := (f1 rfl).1; subst this; simp only [cond_false]; omega
  · rintro D ⟨dm, z, fx⟩
    refine yc ⟨dm, fun k => ?_⟩
    induction k with
    | zero =>
      intro x _ hw
      cases hw
      exact ⟨0, z, by omega⟩
    | succ k ih =>
      rintro x h ⟨y, hy, hw⟩
      obtain ⟨d, hd, hle⟩ := ih y h hw
      obtain ⟨r, hr, hn⟩ := ins_some hy
      obtain ⟨e, he, hle2⟩ := fx r hr y (by rw [hn]; exact hy) d hd
      rw [hn] at he
      exact ⟨e, he, by omega⟩
theorem Far.val {l : List Role} {of : By8} {D : List (By8 × Int)} (h : Far l of D) {x : By8} {d : Int} (hd : mget sEq D x = some d) : 0 ≤ d ∧ d < (l.length : Int) ∧ has l of ∧ Wk l d.toNat x of ∧ ∀ k : Nat, Wk l k x of → d ≤ (k : Int) := by
  obtain ⟨a, b, c⟩ := h.dm.val x d hd
  have := h.dm.len
  rw [List.length_map] at this
  refine ⟨a, by omega, c.1, c.2, fun k hk => ?_⟩
  obtain ⟨e, he, hle⟩ := h.all k x c.1 hk
  rw [hd] at he
  obtain rfl := Option.some.inj he
  exact hle
def pickB (p : By8 → Bool) (xs : List By8) : By8 × Bool := xs.foldl (fun v x => bif p x && (!v.2 || sLt x v.1) then (x, true) else v) (eB, false)
theorem pick_spec {p : By8 → Bool} (xs : List By8) : (pickB p xs).2 = xs.any p ∧ ((pickB p xs).2 = true → (pickB p xs).1 ∈ xs ∧ p (pickB p xs).1 = true) := by
  have key : ∀ (ys : List By8) (v : By8 × Bool), ((ys.foldl (fun v x => bif p x && (!v.2 || sLt x v.1) then (x, true) else v) v).2 = (v.2 || ys.any p)) ∧ ((ys.foldl (fun v x => bif p x && (!v.2 || sLt x v.1) then (x, true) else v) v).1 = v.1 ∧ (ys.foldl (fun v x => bif p x && (!v.2 || sLt x v.1) then (x, true) else v) v).2 = v.2 ∨ (ys.foldl (fun v x => bif p x && (!v.2 || sLt x v.1) then (x, true) else v) v).1 ∈ ys ∧ p (ys.foldl (fun v x => bif p x && (!v.2 || sLt x v.1) then (x, true) else v) v).1 = true) := by
    intro ys
    induction ys with
    | nil => intro v; exact ⟨by simp, .inl ⟨rfl, rfl⟩⟩
    | cons y r ih =>
      intro v
      rw [List.foldl_cons]
      obtain ⟨a, b⟩ := ih (bif p y && (!v.2 || sLt y v.1) then (y, true) else v)
      cases hc : (p y && (!v.2 || sLt y v.1)) with
      | true =>
        rw [hc] at a b
        simp only [cond_true] at a b ⊢
        have hp : p y = true := by simp only [Bool.and_eq_true] at hc; exact hc.1
        refine ⟨by rw [a]; simp [hp], .inr ?_⟩
        rcases b with ⟨b1, _⟩ | ⟨b1, b2⟩
        · rw [b1]; exact ⟨by simp, hp⟩
        · exact ⟨by simp [b1], b2⟩
      | false =>
        rw [hc] at a b
        simp only [cond_false] at a b ⊢
        refine ⟨?_, ?_⟩
        · rw [a, List.any_cons]
          cases hp : p y with
          | false => simp
          | true =>
            rw [hp] at hc
            simp only [Bool.true_and, Bool.or_eq_false_iff, Bool.not_eq_false'] at hc
            rw [hc.1]
            simp
        · rcases b with b | ⟨b1, b2⟩
          · exact .inl b
          · exact .inr ⟨by simp [b1], b2⟩
  obtain ⟨a, b⟩ := key xs (eB, false)
  refine ⟨by rw [show (pickB p xs).2 = _ from a]; simp, fun h => ?_⟩
  rcases b with ⟨_, b⟩ | b
  · rw [show (pickB p xs).2 = _ from b] at h; cases h
  · exact b
def isD (D : List (By8 × Int)) (d : Int) (x : By8) : Bool := mget sEq D x == some d
def nextB (l : List Role) (D : List (By8 × Int)) (d : Nat) (x : By8) : By8 := (pickB (isD D (d : Int)) (ins l x)).1
def wayL (l : List Role) (D : List (By8 × Int)) : Nat → By8 → List By8
  | 0, x => [x]
  | d + 1, x => x :: wayL l D d (nextB l D d x)
theorem wayL_len (l : List Role) (D : List (By8 × Int)) : ∀ (d : Nat) (x : By8), (wayL l D d x).length = d + 1
  | 0, _ => rfl
  | d + 1, x => by simp [wayL, wayL_len l D d]
theorem Far.next {l : List Role} {of : By8} {D : List (By8 × Int)} (h : Far l of D) {x : By8} {d : Nat} (hd : mget sEq D x = some ((d + 1 : Nat) : Int)) : nextB l D d x ∈ ins l x ∧ mget sEq D (nextB l D d x) = some (d : Int) := by
  obtain ⟨_, _, hof, hw, hmin⟩ := h.val hd
  have hw : Wk l (d + 1) x of := hw
  obtain ⟨y, hy, hyw⟩ := hw
  obtain ⟨e, he, hle⟩ := h.all d y hof hyw
  have hge : (d : Int) ≤ e := by
    obtain ⟨e0, _, _, hew, _⟩ := h.val he
    have := hmin (e.toNat + 1) ⟨y, hy, hew⟩
    omega
  have hed : e = (d : Int) := by omega
  subst hed
  have hany : (ins l x).any (isD D (d : Int)) = true := List.any_eq_true.2 ⟨y, hy, by simp [isD, he]⟩
  have hs := pick_spec (p := isD D (d : Int)) (ins l x)
  rw [hany] at hs
  obtain ⟨m1, m2⟩ := hs.2 hs.1
  exact ⟨m1, eq_of_beq m2⟩
theorem path_val {l : List Role} (hs : Sm l) {of : By8} {D : List (By8 × Int)} (hD : why_far l of = some D) (h : Far l of D) (n : By8) : why_Path l n of = some (match mget sEq D n with | some d => wayL l D d.toNat n | none => []) := by
  have hi : ∀ x ∈ l, x.In.length ≤ 1000 := fun x hx => by have := hs.2.1 x hx; omega
  have hl := hs.1
  unfold why_Path
  rw [hD]
  simp only [obs]
  cases hn : mget sEq D n with
  | none => rw [mhas_get, hn]; rfl
  | some d0 =>
    rw [mhas_get, hn]
    simp only [Option.isSome_some, Bool.not_true, cond_false]
    obtain ⟨a0, b0, _⟩ := h.val hn
    refine Ret.eq (loopO_rb (fun (u : By8 × List By8) => ∃ e : Nat, mget sEq D u.1 = some (e : Int) ∧ u.2 ++ wayL l D e u.1 = wayL l D d0.toNat n) (fun u => ((mget sEq D u.1).getD 0).toNat) ?_ ⟨d0.toNat, by rw [hn]; congr 1; omega, rfl⟩)
    rintro ⟨x, s⟩ ⟨e, he, hw⟩
    simp only at he hw
    have hlen := congrArg List.length hw
    rw [List.length_append, wayL_len, wayL_len] at hlen
    unfold wayStep
    refine yaw (by simp only [List.length_cons, List.length_nil]; omega) ?_
    rw [he]
    simp only [Option.getD_some]
    refine yi (fun hc => ?_) fun hc => yc ?_
    · have hpos : (0 : Int) < (e : Int) := by simpa using hc
      obtain ⟨e', rfl⟩ : ∃ e', e = e' + 1 := ⟨e - 1, by omega⟩
      obtain ⟨nx1, nx2⟩ := h.next he
      have hnext : wayNext l D x = some (nextB l D e' x) := by
        unfold wayNext
        obtain ⟨r, b, e1, hr, _⟩ := find_eq l x hi
        rw [e1]
        simp only [obs]
        rw [forE_list (fun (v : By8 × Bool) y => bif isD D (e' : Int) y && (!v.2 || sLt y v.1) then (y, true) else v) (fun j y v hy => by
          rw [idx_nat, hy]
          simp only [obs]
          have : (mhas sEq D y && ((mget sEq D y).getD 0 == w64 ((mget sEq D x).getD 0 - 1))) = isD D (e' : Int) y := by
            rw [he]
            simp only [Option.getD_some]
            obtain ⟨_, b1, _⟩ := h.val he
            rw [show w64 (((e' + 1 : Nat) : Int) - 1) = (e' : Int) by rw [w64_id om om]; omega, mhas_get]
            unfold isD
            cases mget sEq D y <;> simp
          rw [this]
          cases (isD D (e' : Int) y && (!v.2 || sLt y v.1)) <;> rfl)]
        rw [hr]
        rfl
      rw [hnext]
      refine ya0 (yc ⟨⟨e', nx2, ?_⟩, ?_⟩)
      · rw [List.append_assoc]
        exact hw
      · simp only
        rw [nx2]
        simp only [Option.getD_some]
        omega
    · have hpos : ¬ (0 : Int) < (e : Int) := by simpa using hc
      have : e = 0 := by omega
      subst this
      exact hw
section
variable (c : qC) (p : Int) (t : By8)
noncomputable def fitB (g : qG) (o : Bool) : Bool := ((decide (0 ≤ rI c.Roles g.To) && (g.Priv == p)) && sEq g.Table t) && (g.Option || !o)
def Rs : Nat → By8 → Bool → Prop
  | 0, r, _ => owB c r t = true
  | k + 1, r, o => ∃ g, g ∈ c.Grants ∧ fitB c p t g o = true ∧ isB c.Roles r g.To = true ∧ Rs k g.By true
def Cd (D : List (Int × Int)) (r : By8) (o : Bool) (i : Nat) (d : Int) : Prop := ∃ g, c.Grants[i]? = some g ∧ fitB c p t g o = true ∧ isB c.Roles r g.To = true ∧ mget iEq D (i : Int) = some d
def Sg (d : Int) (i : Int) : Prop := ∃ (k : Nat) (g : qG), i = (k : Int) ∧ c.Grants[k]? = some g ∧ fitB c p t g false = true ∧ Rs c p t (d - 1).toNat g.By true
def Ks : List Int := (List.range c.Grants.length).map fun (i : Nat) => (i : Int)
def Fx (m : List (Int × Int)) (i : Nat) : Prop := ∀ g, c.Grants[i]? = some g → fitB c p t g false = true → (owB c g.By t = true → ∃ e, mget iEq m (i : Int) = some e ∧ e ≤ 1) ∧ (owB c g.By t = false → ∀ j d, Cd c p t m g.By true j d → ∃ e, mget iEq m (i : Int) = some e ∧ e ≤ d + 1)
structure Dst (D : List (Int × Int)) : Prop where
  dm : Dm iEq (Ks c) 1 (Sg c p t) D
  all : ∀ (k i : Nat) (g : qG), c.Grants[i]? = some g → fitB c p t g false = true → Rs c p t k g.By true → ∃ e, mget iEq D (i : Int) = some e ∧ e ≤ (k : Int) + 1
end
theorem iKeq : KEq iEq := fun _ _ => iEq_iff
theorem fit_weak {c : qC} {p : Int} {t : By8} {g : qG} {o : Bool} (h : fitB c p t g o = true) : fitB c p t g false = true := by
  unfold fitB at h ⊢
  simp only [Bool.and_eq_true] at h ⊢
  exact ⟨h.1, by simp⟩
section
variable {n : Nat} {c : qC} (hcb : CB n c) (hn : n ≤ 1000) (hr : Sm c.Roles) (p : Int) (t : By8)
include hr
theorem fits_val (g : qG) (o : Bool) : why_asked_fits ⟨c, p, t⟩ g o = some (fitB c p t g o) := by
  unfold why_asked_fits fitB
  obtain ⟨r, e⟩ := mfind_eq hr g.To
  rw [e]
  rfl
theorem mis_val (a b : By8) : member_Is c.Roles a b = some (isB c.Roles a b) := by rw [is_same hr, is_val hr]
theorem step_rb (D : List (Int × Int)) (r : By8) (o : Bool) : Ret (why_asked_step ⟨c, p, t⟩ D r o) (fun u => (u.1 = -1 ∧ ∀ i d, ¬ Cd c p t D r o i d) ∨ ∃ i : Nat, u.1 = (i : Int) ∧ Cd c p t D r o i u.2 ∧ ∀ j d, Cd c p t D r o j d → u.2 ≤ d ∧ (j < i → u.2 < d)) := by
  unfold why_asked_step
  refine yd (forE_ret (fun k (u : Int × Int) => (u.1 = -1 ∧ ∀ i d, i < k → ¬ Cd c p t D r o i d) ∨ ∃ i : Nat, i < k ∧ u.1 = (i : Int) ∧ Cd c p t D r o i u.2 ∧ ∀ j d, j < k → Cd c p t D r o j d → u.2 ≤ d ∧ (j < i → u.2 < d)) (.inl ⟨rfl, fun i d h => by omega⟩) ?_) ?_
  · rintro k ⟨a, b⟩ hk g
    simp only at g
    refine yaf hk fun x hx _ => ya0 ?_
    have hval : ((bif mhas iEq D (k : Int) then (why_asked_fits ⟨c, p, t⟩ x o).bind (fun r34 => some r34) else some false).bind (fun (j25 : Bool) => (bif j25 then (member_Is c.Roles r x.To).bind (fun r48 => some r48) else some false))) = some ((mget iEq D (k : Int)).isSome && (fitB c p t x o && isB c.Roles r x.To)) := by
      rw [fits_val hr, mis_val hr, mhas_get]
      cases (mget iEq D (k : Int)).isSome <;> cases fitB c p t x o <;> rfl
    have hcd : ∀ d, Cd c p t D r o k d ↔ ((mget iEq D (k : Int)).isSome && (fitB c p t x o && isB c.Roles r x.To)) = true ∧ (mget iEq D (k : Int)).getD 0 = d := by
      intro d
      unfold Cd
      rw [hx]
      constructor
      · rintro ⟨g, hg, h1, h2, h3⟩
        obtain rfl := Option.some.inj hg
        rw [h1, h2, h3]
        simp
      · rintro ⟨h1, h2⟩
        simp only [Bool.and_eq_true] at h1
        obtain ⟨h1, h3, h4⟩ := h1
        obtain ⟨e, he⟩ := Option.isSome_iff_exists.1 h1
        rw [he] at h2
        exact ⟨x, rfl, h3, h4, by rw [he]; simpa using h2⟩
    generalize ((mget iEq D (k : Int)).isSome && (fitB c p t x o && isB c.Roles r x.To)) = w at hval hcd
    obtain ⟨v, hv⟩ : ∃ v, (mget iEq D (k : Int)).getD 0 = v := ⟨_, rfl⟩
    rw [hv] at hcd ⊢
    have key : ∀ {β : Type} (f : Bool → Option β), ((bif mhas iEq D (k : Int) then (why_asked_fits ⟨c, p, t⟩ x o).bind (fun r34 => some r34) else some false).bind (fun (j25 : Bool) => (bif j25 then (member_Is c.Roles r x.To).bind (fun r48 => some r48) else some false).bind f)) = f w := by
      intro β f
      have : ∀ (m : Option Bool) (h : Bool → Option Bool), m.bind (fun j => (h j).bind f) = (m.bind h).bind f := fun m h => by cases m <;> rfl
      rw [this _ (fun j25 => (bif j25 then (member_Is c.Roles r x.To).bind (fun r48 => some r48) else some false)), hval]
      rfl
    rw [key]
    refine yd (R := fun (u : Int × Int) => (u.1 = -1 ∧ ∀ i d, i < k + 1 → ¬ Cd c p t D r o i d) ∨ ∃ i : Nat, i < k + 1 ∧ u.1 = (i : Int) ∧ Cd c p t D r o i u.2 ∧ ∀ j d, j < k + 1 → Cd c p t D r o j d → u.2 ≤ d ∧ (j < i → u.2 < d)) (yi (fun hq => yc ?_) fun hq => yc ?_) fun u h => yc h
    · simp only [Bool.and_eq_true, Bool.or_eq_true, decide_eq_true_eq] at hq
      obtain ⟨hw, hq⟩ := hq
      refine .inr ⟨k, by omega, rfl, (hcd v).2 ⟨hw, rfl⟩, fun j d hj hd => ?_⟩
      by_cases e : j = k
      · subst e
        have := ((hcd d).1 hd).2
        exact ⟨by simp only; omega, fun h => by omega⟩
      · rcases g with ⟨g1, g2⟩ | ⟨i, hi, g1, g2, g3⟩
        · exact absurd hd (g2 j d om)
        · have := (g3 j d om hd).1
          have hlt : v < b := by rcases hq with hq | hq <;> omega
          exact ⟨by simp only; omega, fun _ => by simp only; omega⟩
    · rcases g with ⟨g1, g2⟩ | ⟨i, hi, g1, g2, g3⟩
      · refine .inl ⟨g1, fun i d hi hd => ?_⟩
        by_cases e : i = k
        · subst e
          have hw := ((hcd d).1 hd).1
          rw [hw, g1] at hq
          simp at hq
        · exact g2 i d om hd
      · refine .inr ⟨i, by omega, g1, g2, fun j d hj hd => ?_⟩
        by_cases e : j = k
        · subst e
          obtain ⟨hw, hd2⟩ := (hcd d).1 hd
          rw [hw, g1] at hq
          simp only [Bool.true_and, Bool.or_eq_false_iff, decide_eq_false_iff_not] at hq
          exact ⟨by omega, fun h => by omega⟩
        · exact g3 j d om hd
  · rintro ⟨a, b⟩ g
    refine yc ?_
    have hlt : ∀ i d, Cd c p t D r o i d → i < c.Grants.length := fun i d ⟨g, hg, _⟩ => (List.getElem?_eq_some_iff.1 hg).1
    rcases g with ⟨g1, g2⟩ | ⟨i, hi, g1, g2, g3⟩
    · exact .inl ⟨g1, fun i d h => g2 i d (hlt i d h) h⟩
    · exact .inr ⟨i, g1, g2, fun j d h => g3 j d (hlt j d h) h⟩
include hcb hn
theorem owns_val' (r : By8) : why_asked_owns ⟨c, p, t⟩ r = some (owB c r t) := by
  unfold why_asked_owns
  rw [gowns_val hcb hn hr]
  rfl
end
section
variable {n : Nat} {c : qC} (hcb : CB n c) (hn : n ≤ 1000) (hr : Sm c.Roles) (p : Int) (t : By8)
include hcb hn hr
theorem dists_rb : Ret (why_asked_dists ⟨c, p, t⟩) (Dst c p t) := by
  have hg := hcb.grants
  have hK : (Ks c).length ≤ 1000 := by simp only [Ks, List.length_map, List.length_range]; omega
  unfold why_asked_dists
  refine yd (loopO_rb (fun (s : Bool × List (Int × Int)) => Dm iEq (Ks c) 1 (Sg c p t) s.2 ∧ (s.1 = false → ∀ i, Fx c p t s.2 i)) (fun s => 2 * pot iEq (Ks c) s.2 + bif s.1 then 1 else 0)
    (Q := fun D => Dm iEq (Ks c) 1 (Sg c p t) D ∧ ∀ i, Fx c p t D i) ?_ ⟨⟨by simp, fun x hx => by simp at hx, fun x d hd => by simp [mget_nil] at hd⟩, fun h => by cases h⟩) ?_
  · rintro ⟨g, m⟩ ⟨dm, fx⟩
    simp only at dm fx
    refine yi (fun hg => ?_) fun hg => yc ⟨dm, fx hg⟩
    have hg : g = true := hg
    subst hg
    refine yd (forE_ret (fun j (s : Bool × List (Int × Int)) => Dm iEq (Ks c) 1 (Sg c p t) s.2 ∧ (s.1 = false → s.2 = m ∧ ∀ i, i < j → Fx c p t m i) ∧ (s.1 = true → pot iEq (Ks c) s.2 < pot iEq (Ks c) m)) ⟨dm, fun _ => ⟨rfl, fun i hi => by omega⟩, fun h => by cases h⟩ ?_) ?_
    · rintro j ⟨g1, m1⟩ hj ⟨dm1, f1, t1⟩
      simp only at dm1 f1 t1
      have hlen := dm1.len
      -- it stays
      have stay : (∀ g, c.Grants[j]? = some g → Fx c p t m1 j) → Dm iEq (Ks c) 1 (Sg c p t) (g1, m1).2 ∧ ((g1, m1).1 = false → (g1, m1).2 = m ∧ ∀ i, i < j + 1 → Fx c p t m i) ∧ ((g1, m1).1 = true → pot iEq (Ks c) (g1, m1).2 < pot iEq (Ks c) m) := by
        intro hf
        refine ⟨dm1, fun h => ?_, t1⟩
        obtain ⟨h1, h2⟩ := f1 h
        refine ⟨h1, fun i hi => ?_⟩
        by_cases e : i = j
        · subst e
          rw [← h1]
          exact hf _ (gE hj)
        · exact h2 i om
      refine yd (R := fun (s : Bool × List (Int × Int)) => Dm iEq (Ks c) 1 (Sg c p t) s.2 ∧ (s.1 = false → s.2 = m ∧ ∀ i, i < j + 1 → Fx c p t m i) ∧ (s.1 = true → pot iEq (Ks c) s.2 < pot iEq (Ks c) m)) ?_ fun s h => yc h
      refine yaf hj fun x hx _ => ?_
      rw [fits_val hr]
      refine ya0 (yi (fun hq => yc (stay fun g hg g' hg' hf => ?_)) fun hq => ?_)
      · rw [hx] at hg'
        obtain rfl := Option.some.inj hg'
        rw [hf] at hq
        cases hq
      have hfit : fitB c p t x false = true := by simpa using hq
      rw [owns_val' hcb hn hr]
      refine ya0 (yd (R := fun (r : Unit ⊕ Int) => match r with | .inl _ => Fx c p t m1 j | .inr v => 0 ≤ v ∧ v ≤ (m1.length : Int) ∧ Rs c p t v.toNat x.By true ∧ ∀ e, mget iEq m1 (j : Int) = some e → e ≤ v + 1 → Fx c p t m1 j) ?_ ?_)
      · refine yi (fun ho => ?_) fun ho => yc ?_
        · have ho : owB c x.By t = false := by simpa using ho
          refine yd (step_rb hr p t m1 x.By true) ?_
          rintro ⟨a, b⟩ hab
          simp only at hab
          show RB True (bif decide (a < 0) then some (Sum.inl ()) else some (Sum.inr b)) _
          rcases hab with ⟨ha, hno⟩ | ⟨i, ha, hc, hmin⟩
          · rw [show decide (a < 0) = true by rw [ha]; rfl]
            refine yc fun g hg' hf => ?_
            rw [hx] at hg'
            obtain rfl := Option.some.inj hg'
            exact ⟨fun h => by (rw [ho] at h; cases h), fun _ i d hd => absurd hd (hno i d)⟩
          · rw [show decide (a < 0) = false by rw [ha]; simp]
            obtain ⟨gi, hgi, hc1, hc2, hc3⟩ := id hc
            obtain ⟨b1, b2, k', g', hk', hg', hf', hrs⟩ := dm1.val _ _ hc3
            have : k' = i := by omega
            subst this
            rw [hgi] at hg'
            obtain rfl := Option.some.inj hg'
            refine yc ⟨by omega, by omega, ?_, fun e he hle g hg'' hf => ?_⟩
            · rw [show b.toNat = (b - 1).toNat + 1 by omega]
              exact ⟨gi, List.mem_of_getElem? hgi, hc1, hc2, hrs⟩
            · rw [hx] at hg''
              obtain rfl := Option.some.inj hg''
              refine ⟨fun h => by (rw [ho] at h; cases h), fun _ i2 d hd => ⟨e, he, ?_⟩⟩
              have := (hmin i2 d hd).1
              omega
        · have ho : owB c x.By t = true := by simpa using ho
          refine ⟨by omega, by omega, ho, fun e he hle g hg'' hf => ?_⟩
          rw [hx] at hg''
          obtain rfl := Option.some.inj hg''
          exact ⟨fun _ => ⟨e, he, by omega⟩, fun h => by (rw [ho] at h; cases h)⟩
      · rintro (_ | v) h
        · exact yc (stay fun _ _ => h)
        · obtain ⟨h0, h1, h2, h3⟩ := h
          have ew : w64 (v + 1) = v + 1 := w64_id om om
          refine ya0 (ya0 (yd (R := fun (s : Bool × List (Int × Int)) => Dm iEq (Ks c) 1 (Sg c p t) s.2 ∧ (s.1 = false → s.2 = m ∧ ∀ i, i < j + 1 → Fx c p t m i) ∧ (s.1 = true → pot iEq (Ks c) s.2 < pot iEq (Ks c) m)) (yi (fun hq => yc ?_) fun hq => yc ?_) fun s h => yc h))
          · rw [ew] at hq ⊢
            have hlt : ∀ e, mget iEq m1 (j : Int) = some e → v + 1 < e := fun e he => by
              rw [mhas_get, he] at hq
              simpa using hq
            obtain ⟨a1, a2⟩ := dm1.relax iKeq (x := (j : Int)) (v := v + 1) (by simp only [Ks, List.mem_map, List.mem_range]; exact ⟨j, hj, rfl⟩) om om ⟨j, x, rfl, hx, hfit, by rw [show (v + 1 - 1).toNat = v.toNat by omega]; exact h2⟩ hlt hK om om
            refine ⟨a1, (fun h => by cases h), fun _ => Nat.lt_of_lt_of_le a2 ?_⟩
            cases g1 with
            | true => have := t1 rfl; omega
            | false => rw [(f1 rfl).1]; exact Nat.le_refl _
          · rw [ew, mhas_get] at hq
            cases he : mget iEq m1 (j : Int) with
            | none => rw [he] at hq; cases hq
            | some e =>
              rw [he] at hq
              refine stay fun _ _ => h3 e he ?_
              have : ¬ v + 1 < e := by simpa using hq
              omega
    · rintro ⟨g1, m1⟩ ⟨dm1, f1, t1⟩
      simp only at dm1 f1 t1
      refine yc ⟨⟨dm1, fun h => ?_⟩, ?_⟩
      · obtain ⟨h1, h2⟩ := f1 h
        simp only at h1 ⊢
        subst h1
        intro i g hg' hf
        exact h2 i (List.getElem?_eq_some_iff.1 hg').1 g hg' hf
      · simp only [cond_true]
        cases g1 with
        | true => have := t1 rfl; simp only [cond_true]; omega
        | false => have := (f1 rfl).1; subst this; simp only [cond_false]; omega
  · rintro D ⟨dm, fx⟩
    refine yc ⟨dm, fun k => ?_⟩
    induction k with
    | zero =>
      intro i g hg' hf ho
      obtain ⟨e, he, hle⟩ := (fx i g hg' hf).1 ho
      exact ⟨e, he, by omega⟩
    | succ k ih =>
      rintro i g hg' hf ⟨g', hm', hf', hi', hrs⟩
      obtain ⟨j, hj⟩ := List.getElem?_of_mem hm'
      obtain ⟨d, hd, hle⟩ := ih j g' hj (fit_weak hf') hrs
      cases ho : owB c g.By t with
      | true =>
        obtain ⟨e, he, hle2⟩ := (fx i g hg' hf).1 ho
        exact ⟨e, he, by omega⟩
      | false =>
        obtain ⟨e, he, hle2⟩ := (fx i g hg' hf).2 ho j d ⟨g', hj, hf', hi', hd⟩
        exact ⟨e, he, by omega⟩
end
theorem find_first {α : Type} {q : α → Bool} : ∀ {l : List α} {i : Nat} {x : α}, l[i]? = some x → q x = true → (∀ j y, j < i → l[j]? = some y → q y = false) → l.find? q = some x
  | [], i, x, h, _, _ => by simp at h
  | z :: r, 0, x, h, hx, _ => by
    obtain rfl := Option.some.inj (show some z = some x from h)
    simp [hx]
  | z :: r, i + 1, x, h, hx, hj => by
    rw [List.find?_cons, hj 0 z om rfl]
    exact find_first (show r[i]? = some x from h) hx fun j y hlt hy => hj (j + 1) y om hy
section
variable (c : qC) (p : Int) (t : By8)
def MinR (k : Nat) (r : By8) (o : Bool) : Prop := Rs c p t k r o ∧ ∀ j, j < k → ¬ Rs c p t j r o
open Classical in
noncomputable def chQ (k : Nat) (r : By8) (o : Bool) (g : qG) : Bool := fitB c p t g o && isB c.Roles r g.To && decide (∃ j, j ≤ k ∧ Rs c p t j g.By true)
noncomputable def chooseG (k : Nat) (r : By8) (o : Bool) : Option qG := c.Grants.find? (chQ c p t k r o)
noncomputable def whyL : Nat → By8 → Bool → List qG
  | 0, _, _ => []
  | k + 1, r, o => match chooseG c p t k r o with
    | some g => g :: whyL k g.By true
    | none => []
end
section
variable {c : qC} {p : Int} {t : By8}
theorem chQ_iff {k : Nat} {r : By8} {o : Bool} {g : qG} : chQ c p t k r o g = true ↔ fitB c p t g o = true ∧ isB c.Roles r g.To = true ∧ ∃ j, j ≤ k ∧ Rs c p t j g.By true := by
  unfold chQ
  simp only [Bool.and_eq_true, decide_eq_true_eq, and_assoc]
theorem least_rs {r : By8} {o : Bool} (h : ∃ k, Rs c p t k r o) : ∃ k, MinR c p t k r o := by
  obtain ⟨k, h1, h2⟩ := least_ex h
  exact ⟨k, h1, fun j hj hq => by have := h2 j hq; omega⟩
theorem MinR.next {k : Nat} {r : By8} {o : Bool} (h : MinR c p t (k + 1) r o) {g : qG} (hg : g ∈ c.Grants) (hq : chQ c p t k r o g = true) : MinR c p t k g.By true := by
  obtain ⟨h1, h2, j, hj, hrs⟩ := chQ_iff.1 hq
  have key : ∀ j, j < k → ¬ Rs c p t j g.By true := fun j hj hr => h.2 (j + 1) om ⟨g, hg, h1, h2, hr⟩
  by_cases e : j = k
  · subst e
    exact ⟨hrs, key⟩
  · exact absurd hrs (key j om)
theorem MinR.choose {k : Nat} {r : By8} {o : Bool} (h : MinR c p t (k + 1) r o) : ∃ g, chooseG c p t k r o = some g ∧ g ∈ c.Grants ∧ chQ c p t k r o g = true := by
  obtain ⟨g, hg, h1, h2, h3⟩ := h.1
  have hq : chQ c p t k r o g = true := chQ_iff.2 ⟨h1, h2, k, Nat.le_refl _, h3⟩
  cases e : chooseG c p t k r o with
  | none => exact absurd hq (by simpa using List.find?_eq_none.1 e g hg)
  | some g' => exact ⟨g', rfl, List.mem_of_find?_eq_some e, List.find?_some e⟩
theorem whyL_len : ∀ (k : Nat) (r : By8) (o : Bool), MinR c p t k r o → (whyL c p t k r o).length = k
  | 0, _, _, _ => rfl
  | k + 1, r, o, h => by
    obtain ⟨g, e, hg, hq⟩ := h.choose
    rw [whyL, e, List.length_cons, whyL_len k g.By true (h.next hg hq)]
theorem MinR.own {k : Nat} {r : By8} {o : Bool} (h : MinR c p t k r o) : owB c r t = true ↔ k = 0 := by
  constructor
  · intro ho
    by_cases e : k = 0
    · exact e
    · exact absurd (show Rs c p t 0 r o from ho) (h.2 0 om)
  · rintro rfl
    exact h.1
theorem Dst.near {D : List (Int × Int)} (hD : Dst c p t D) {k : Nat} {r : By8} {o : Bool} (h : MinR c p t (k + 1) r o) {i : Nat} {b : Int} (hc : Cd c p t D r o i b) (hmin : ∀ j d, Cd c p t D r o j d → b ≤ d ∧ (j < i → b < d)) :
    ∃ g, c.Grants[i]? = some g ∧ chooseG c p t k r o = some g ∧ g ∈ c.Grants ∧ chQ c p t k r o g = true ∧ b = (k : Int) + 1 ∧ b ≤ (c.Grants.length : Int) := by
  obtain ⟨g, hg, h1, h2, h3⟩ := hc
  obtain ⟨b0, b1, i', g', hi', hg', _, hrs⟩ := hD.dm.val _ _ h3
  have : i' = i := by omega
  subst this
  rw [hg] at hg'
  obtain rfl := Option.some.inj hg'
  have hgm := List.mem_of_getElem? hg
  have hlen := hD.dm.len
  simp only [Ks, List.length_map, List.length_range] at hlen
  have hge : (k : Int) + 1 ≤ b := by
    by_cases hlt : b < (k : Int) + 1
    · exact absurd ⟨g, hgm, h1, h2, hrs⟩ (h.2 ((b - 1).toNat + 1) om)
    · omega
  have cdOf : ∀ (j : Nat) (y : qG), c.Grants[j]? = some y → chQ c p t k r o y = true → ∃ d, Cd c p t D r o j d ∧ d ≤ (k : Int) + 1 := by
    intro j y hy hq
    obtain ⟨q1, q2, j', hj', q3⟩ := chQ_iff.1 hq
    obtain ⟨d, hd, hle⟩ := hD.all j' j y hy (fit_weak q1) q3
    exact ⟨d, ⟨y, hy, q1, q2, hd⟩, by omega⟩
  have hle : b ≤ (k : Int) + 1 := by
    obtain ⟨g2, e2, hm2, hq2⟩ := h.choose
    obtain ⟨j, hj⟩ := List.getElem?_of_mem hm2
    obtain ⟨d, hd, hdl⟩ := cdOf j g2 hj hq2
    have := (hmin j d hd).1
    omega
  have hb : b = (k : Int) + 1 := by omega
  have hq : chQ c p t k r o g = true := chQ_iff.2 ⟨h1, h2, (b - 1).toNat, by omega, hrs⟩
  refine ⟨g, hg, find_first hg hq fun j y hj hy => ?_, hgm, hq, hb, by omega⟩
  cases hqy : chQ c p t k r o y with
  | false => rfl
  | true =>
    obtain ⟨d, hd, hdl⟩ := cdOf j y hy hqy
    have := (hmin j d hd).2 hj
    omega
theorem Dst.min_le {D : List (Int × Int)} (hD : Dst c p t D) {k : Nat} {r : By8} {o : Bool} (h : MinR c p t k r o) : k ≤ c.Grants.length := by
  cases k with
  | zero => omega
  | succ k =>
    obtain ⟨g, hg, h1, h2, h3⟩ := h.1
    obtain ⟨j, hj⟩ := List.getElem?_of_mem hg
    obtain ⟨d, hd, hle⟩ := hD.all k j g hj (fit_weak h1) h3
    obtain ⟨b0, b1, i', g', hi', hg', _, hrs⟩ := hD.dm.val _ _ hd
    have : i' = j := by omega
    subst this
    rw [hj] at hg'
    obtain rfl := Option.some.inj hg'
    have hlen := hD.dm.len
    simp only [Ks, List.length_map, List.length_range] at hlen
    by_cases hlt : d < (k : Int) + 1
    · exact absurd ⟨g, hg, h1, h2, hrs⟩ (h.2 ((d - 1).toNat + 1) om)
    · omega
end
section
variable {n : Nat} {c : qC} (hcb : CB n c) (hn : n ≤ 1000) (hr : Sm c.Roles) (p : Int) (t : By8)
include hcb hn hr
theorem why_none {r : By8} (h : ∀ k, ¬ Rs c p t k r false) : why_Why c r p t = some ([], false) := by
  have ho : owB c r t = false := by
    cases e : owB c r t with
    | false => rfl
    | true => exact absurd e (h 0)
  unfold why_Why
  rw [owns_val' hcb hn hr, ho]
  simp only [obs, cond_false]
  refine Ret.eq (yd (dists_rb hcb hn hr p t) fun D hD => ?_)
  obtain ⟨⟨a, b⟩, hs, hu⟩ := (step_rb hr p t D r false).ex
  have ha : a = -1 := by
    rcases hu with ⟨ha, _⟩ | ⟨i, _, ⟨g, hg, h1, h2, h3⟩, _⟩
    · exact ha
    · obtain ⟨b0, b1, i', g', hi', hg', _, hrs⟩ := hD.dm.val _ _ h3
      have : i' = i := by omega
      subst this
      rw [hg] at hg'
      obtain rfl := Option.some.inj hg'
      exact absurd ⟨g, List.mem_of_getElem? hg, h1, h2, hrs⟩ (h ((b - 1).toNat + 1))
  rw [loopO_stop (t := .inl ([], false))]
  · exact yc rfl
  · simp only
    rw [owns_val' hcb hn hr, ho]
    simp only [obs, Bool.not_false, cond_true, hs, ha]
    rfl
theorem why_some {r : By8} {k0 : Nat} (h : MinR c p t k0 r false) : why_Why c r p t = some (whyL c p t k0 r false, true) := by
  unfold why_Why
  rw [owns_val' hcb hn hr]
  simp only [obs]
  cases ho : owB c r t with
  | true =>
    have := h.own.1 ho
    subst this
    rfl
  | false =>
    simp only [cond_false]
    have hg := hcb.grants
    refine Ret.eq (yd (dists_rb hcb hn hr p t) fun D hD => ?_)
    have hk0 := hD.min_le h
    refine yd (loopO_rb (fun (u : By8 × List qG × Bool) => ∃ k, MinR c p t k u.1 u.2.2 ∧ u.2.1 ++ whyL c p t k u.1 u.2.2 = whyL c p t k0 r false) (fun u => k0 - u.2.1.length) (Q := fun x => x = .inr (whyL c p t k0 r false)) ?_ ⟨k0, h, rfl⟩) ?_
    · rintro ⟨r1, out, o⟩ ⟨k, hm, hw⟩
      simp only at hm hw
      have hlen := congrArg List.length hw
      rw [List.length_append, whyL_len _ _ _ hm, whyL_len _ _ _ h] at hlen
      simp only
      rw [owns_val' hcb hn hr]
      refine ya0 (yi (fun hq => ?_) fun hq => yc ?_)
      · have hk : k ≠ 0 := fun e => by rw [hm.own.2 e] at hq; cases hq
        obtain ⟨k', rfl⟩ : ∃ k', k = k' + 1 := ⟨k - 1, by omega⟩
        refine yd (step_rb hr p t D r1 o) ?_
        rintro ⟨a, b⟩ hu
        show RB True (bif decide (a < 0) then _ else _) _
        rcases hu with ⟨_, hno⟩ | ⟨i, ha, hc, hmin⟩
        · obtain ⟨g, hgm, h1, h2, h3⟩ := hm.1
          obtain ⟨j, hj⟩ := List.getElem?_of_mem hgm
          obtain ⟨d, hd, _⟩ := hD.all k' j g hj (fit_weak h1) h3
          exact absurd ⟨g, hj, h1, h2, hd⟩ (hno j d)
        · have ha : a = (i : Int) := ha
          obtain ⟨g, hgi, hch, hgm, hcq, _, _⟩ := hD.near hm hc hmin
          rw [show decide (a < 0) = false by rw [ha]; simp, ha, idx_nat, hgi]
          simp only [cond_false, obs]
          refine yaw (by simp only [List.length_cons, List.length_nil]; omega) (yc ⟨⟨k', hm.next hgm hcq, ?_⟩, ?_⟩)
          · rw [whyL, hch] at hw
            rw [List.append_assoc]
            exact hw
          · simp only [List.length_append, List.length_cons, List.length_nil]
            omega
      · have hk : k = 0 := hm.own.1 (by simpa using hq)
        subst hk
        rw [whyL, List.append_nil] at hw
        show (Sum.inr out : (List qG × Bool) ⊕ List qG) = _
        rw [hw]
    · rintro _ rfl
      exact yc rfl
end
section
variable {c : qC} {p : Int} {t : By8}
end
section
variable {c : qC} (hg : c.Grants.length ≤ 1000) (hr : Sm c.Roles) (p : Int) (t : By8)
include hg hr
end
theorem MinR.uniq {c : qC} {p : Int} {t r : By8} {o : Bool} {a b : Nat} (h : MinR c p t a r o) (k : MinR c p t b r o) : a = b := by
  by_cases h1 : a < b
  · exact absurd h.1 (k.2 a h1)
  · by_cases h2 : b < a
    · exact absurd k.1 (h.2 b h2)
    · omega
section
variable {c : qC} (hg : c.Grants.length ≤ 1000) (hr : Sm c.Roles) (p : Int) (t : By8)
include hg hr
end
noncomputable def chkB (c : qC) (p : Int) (t : By8) : By8 → Bool → List qG → Bool
  | r, _, [] => owB c r t
  | r, o, g :: l => (fitB c p t g o && isB c.Roles r g.To) && chkB c p t g.By true l
section
variable {n : Nat} {c : qC} (hcb : CB n c) (hn : n ≤ 1000) (hr : Sm c.Roles) (p : Int) (t : By8)
include hcb hn hr
theorem check_val (r : By8) (l : List qG) : why_Check c r p t l = some (chkB c p t r false l) := by
  unfold why_Check
  have key : ∀ (ys : List qG) (i : Nat) (s : By8), (∀ j x, ys[j]? = some x → l[i + j]? = some x) → (forN (fun (i15 : Nat) (s14 : By8) => (idx l (i15 : Int)).bind (fun x23 => (why_asked_fits (⟨c, p, t⟩ : why_asked) x23 (decide ((i15 : Int) > 0))).bind (fun r36 => ((bif (!r36) then some true else (member_Is c.Roles s14 x23.To).bind (fun r48 => some (!r48)))).bind (fun (j37 : Bool) => (bif j37 then some (.inr false) else some (.inl x23.By)))))) ys.length i s).bind (fun (t' : By8 ⊕ (Bool)) => match t' with | .inl s14 => (why_asked_owns (⟨c, p, t⟩ : why_asked) s14).bind (fun r70 => some r70) | .inr s54 => some s54) = some (chkB c p t s (decide (0 < i)) ys) := by
    intro ys
    induction ys with
    | nil => intro i s _; simp only [List.length_nil, forN, obs, chkB, owns_val' hcb hn hr]
    | cons y r ih =>
      intro i s h
      have h0 := h 0 y rfl
      simp only [List.length_cons, forN, Nat.add_zero] at h0 ⊢
      rw [idx_nat, h0, obs, fits_val hr, obs, mis_val hr, obs, chkB]
      rw [show decide ((i : Int) > 0) = decide (0 < i) by simp]
      have h1 := ih (i + 1) y.By fun j x hx => by
        have := h (j + 1) x hx
        rwa [show i + (j + 1) = i + 1 + j by omega] at this
      rw [show decide (0 < i + 1) = true by simp] at h1
      cases fitB c p t y (decide (0 < i)) with
      | false => rfl
      | true =>
        cases isB c.Roles s y.To with
        | false => rfl
        | true =>
          exact h1
  have := key l 0 r fun j x hx => by rwa [Nat.zero_add]
  exact this
end
theorem wIs {a b : By8} {v : Bool} (h : r18_Is_c 60 wR a b = some v) : isB wR a b = v := by
  unfold isB
  rw [r18_Is_le 60 _ _ _ _ h]
  rfl
theorem wOw {a : By8} {v : Bool} (h : r19_Owns_c 60 wC a nT = some v) : owB wC a nT = v := by
  unfold owB
  rw [r19_Owns_le 60 _ _ _ _ h]
  rfl
theorem w1 : isB wR nCy nBob = false := wIs kr
theorem w2 : isB wR nCy nCy = true := wIs kr
theorem w3 : isB wR nBob nBob = true := wIs kr
theorem w4 : isB wR nBob nCy = false := wIs kr
theorem w5 : owB wC nCy nT = false := wOw kr
theorem w6 : owB wC nBob nT = false := wOw kr
theorem w7 : owB wC nAnn nT = true := wOw kr
theorem wF1 (o : Bool) : fitB wC 1 nT wG1 o = true := by cases o <;> kernel_rfl
theorem wF2 (o : Bool) : fitB wC 1 nT wG2 o = true := by cases o <;> kernel_rfl
theorem wMem {g : qG} (h : g ∈ wC.Grants) : g = wG1 ∨ g = wG2 := by
  simpa [wC] using h
theorem wMin : MinR wC 1 nT 2 nCy false := by
  refine ⟨⟨wG2, by simp [wC], wF2 _, w2, wG1, by simp [wC], wF1 _, w3, w7⟩, fun j hj h => ?_⟩
  rcases (by omega : j = 0 ∨ j = 1) with rfl | rfl
  · have : owB wC nCy nT = true := h
    rw [w5] at this
    cases this
  · obtain ⟨g, hg, _, h2, h3⟩ := h
    rcases wMem hg with rfl | rfl
    · have : isB wR nCy nBob = true := h2
      rw [w1] at this
      cases this
    · have : owB wC nBob nT = true := h3
      rw [w6] at this
      cases this
theorem wWhyL : whyL wC 1 nT 2 nCy false = [wG2, wG1] := by
  obtain ⟨g, e, hg, hq⟩ := wMin.choose
  have hm := wMin.next hg hq
  have hg2 : g = wG2 := by
    rcases wMem hg with rfl | rfl
    · have : isB wR nCy nBob = true := (chQ_iff.1 hq).2.1
      rw [w1] at this
      cases this
    · rfl
  subst hg2
  obtain ⟨g', e', hg', hq'⟩ := hm.choose
  have hg1 : g' = wG1 := by
    rcases wMem hg' with rfl | rfl
    · rfl
    · have : isB wR nBob nCy = true := (chQ_iff.1 hq').2.1
      rw [w4] at this
      cases this
  subst hg1
  rw [whyL, e]
  show wG2 :: whyL wC 1 nT 1 wG2.By true = _
  rw [whyL, e']
  rfl
theorem wPath : ∃ l, why_Path [⟨⟨#[97]⟩, [⟨#[98]⟩]⟩, ⟨⟨#[98]⟩, []⟩] ⟨#[97]⟩ ⟨#[98]⟩ = some l ∧ l.length = 2 := by
  have hs : Sm [(⟨⟨#[97]⟩, [⟨#[98]⟩]⟩ : Role), ⟨⟨#[98]⟩, []⟩] := by
    refine ⟨by simp, ?_, ?_⟩ <;> intro x hx <;> simp only [List.mem_cons, List.not_mem_nil, or_false] at hx <;> rcases hx with rfl | rfl <;> simp only [List.length_cons, List.length_nil] <;> first | omega | decide
  obtain ⟨D, hD, h⟩ := (far_rb hs ⟨#[98]⟩).ex
  refine ⟨_, path_val hs hD h _, ?_⟩
  have hof : has [(⟨⟨#[97]⟩, [⟨#[98]⟩]⟩ : Role), ⟨⟨#[98]⟩, []⟩] ⟨#[98]⟩ := ⟨⟨⟨#[98]⟩, []⟩, by simp, rfl⟩
  have hin : ins [(⟨⟨#[97]⟩, [⟨#[98]⟩]⟩ : Role), ⟨⟨#[98]⟩, []⟩] ⟨#[97]⟩ = [⟨#[98]⟩] := by kernel_rfl
  have hw : Wk [(⟨⟨#[97]⟩, [⟨#[98]⟩]⟩ : Role), ⟨⟨#[98]⟩, []⟩] 1 ⟨#[97]⟩ ⟨#[98]⟩ := ⟨⟨#[98]⟩, by rw [hin]; simp, rfl⟩
  obtain ⟨d, hd, hle⟩ := h.all 1 _ hof hw
  obtain ⟨h0, _, _, hw2, _⟩ := h.val hd
  have : d = 1 := by
    by_cases e : d = 0
    · subst e
      have : (⟨#[97]⟩ : By8) = ⟨#[98]⟩ := hw2
      revert this
      decide
    · omega
  subst this
  rw [hd]
  simp only [wayL_len]
  rfl
theorem works32 : law32_works = some true := by
  obtain ⟨l, hl, hlen⟩ := wPath
  have hwhy : why_Why wC nCy 1 nT = some ([wG2, wG1], true) := by rw [← wWhyL]; exact why_some wCI.1 om wSm 1 nT wMin
  have hchk : why_Check wC nCy 1 nT [wG2, wG1] = some true := by
    rw [check_val wCI.1 om wSm]
    simp only [chkB]
    rw [wF2, wF1, show wG2.By = nBob from rfl, show wG1.By = nAnn from rfl, w7, show wG2.To = nCy from rfl, show wG1.To = nBob from rfl, show wC.Roles = wR from rfl, w2, w3]
    rfl
  unfold law32_works
  have e1 : law32_works_1 (⟨#[97, 110, 110]⟩ : By8) (⟨#[98, 111, 98]⟩ : By8) = some (wA nAnn nBob) := rfl
  have e2 : law32_works_1 (⟨#[98, 111, 98]⟩ : By8) (⟨#[99, 121]⟩ : By8) = some (wA nBob nCy) := rfl
  rw [e1, obs, e2, obs, wGrown, obs, show why_Why wC (⟨#[99, 121]⟩ : By8) 1 (⟨#[116]⟩ : By8) = some ([wG2, wG1], true) from hwhy, obs]
  show (why_Path [⟨⟨#[97]⟩, [⟨#[98]⟩]⟩, ⟨⟨#[98]⟩, []⟩] ⟨#[97]⟩ ⟨#[98]⟩).bind _ = _
  rw [hl, obs, hlen]
  have e3 : idx [wG2, wG1] 0 = some wG2 := rfl
  have e4 : idx [wG2, wG1] 1 = some wG1 := rfl
  have s1 : sEq wG2.By (⟨#[98, 111, 98]⟩ : By8) = true := (keq _ _).2 rfl
  have s2 : sEq wG1.By (⟨#[97, 110, 110]⟩ : By8) = true := (keq _ _).2 rfl
  have hchk' : why_Check wC (⟨#[99, 121]⟩ : By8) 1 (⟨#[116]⟩ : By8) [wG2, wG1] = some true := hchk
  rw [e3, e4]
  simp only [obs, s1, s2, hchk', List.length_cons, List.length_nil]
  rfl
theorem few32_tt {b : Prop} (l : List By8) : RB b (law32_few l) TT := by
  unfold law32_few
  refine yd (R := TT) (forN_tt fun j _ hj => yd (R := TT) (yi rt fun _ => yaf hj fun _ _ _ => yc trivial) fun _ _ => yi rt fun _ => yc trivial) ?_
  rintro (_ | _) _ <;> exact yc trivial
theorem sEq_self (a : By8) : sEq a a = true := sEq_iff.2 rfl
theorem gsame_self (l : List qG) : r19_Same l l = some true := by
  unfold r19_Same
  have h0 : ((l.length : Int) != (l.length : Int)) = false := by simp
  rw [h0]
  simp only [cond_false]
  rw [forN_list (v := false) (fun _ => true) (fun j x hx => by
    simp only [idx_nat, hx, obs, sEq_self, beq_self_eq_true, Bool.and_self, Bool.not_true, cond_false]
    rfl)]
  have : (l.all fun _ => true) = true := by simp
  rw [this]
  rfl
theorem why_one {n : Nat} {c : qC} (hcb : CB n c) (hn : n ≤ 1000) (hr : Sm c.Roles) (r : By8) (p : Int) (t : By8) : ∃ l b, why_Why c r p t = some (l, b) ∧ ((b = false ∧ ∀ k, ¬ Rs c p t k r false) ∨ ∃ k, b = true ∧ MinR c p t k r false ∧ l = whyL c p t k r false) := by
  have hg : c.Grants.length ≤ 1000 := by have := hcb.grants; omega
  by_cases h : ∃ k, Rs c p t k r false
  · obtain ⟨k, hk⟩ := least_rs h
    obtain ⟨D, _, hD⟩ := (dists_rb hcb hn hr p t).ex
    exact ⟨_, _, why_some hcb hn hr p t hk, .inr ⟨k, rfl, hk, rfl⟩⟩
  · have h : ∀ k, ¬ Rs c p t k r false := fun k hk => h ⟨k, hk⟩
    exact ⟨_, _, why_none hcb hn hr p t h, .inl ⟨rfl, h⟩⟩
end Go.Proofs.YtlfphpegelclpaaGreat
