/- Plain laws: what the plain functions answer. Conditions: none. -/
import Derived.Test.YtpgmbifboopfmaaGreatF5
set_option maxRecDepth 100000
namespace Go.Proofs.YtpgmbifboopfmaaGreat
open Go.Gv
def wf_qL (x : qL) : Prop := (fun s => s.size ≤ maxLen) x.Name ∧ (fun n => IntKind.min .i64 ≤ n ∧ n ≤ IntKind.max .i64) x.Type_ ∧ (fun _ => True) x.NotNull
theorem opens_qL : Opens P 111 R_qL wf_qL := by
  intro H enc w fuel cs x h
  obtain ⟨x0, h0, w0⟩ := opens_field kr h 0 (ft := 9) (off := 0) (sz := 1) kr (opens_str kr)
  have e0 := h0
  obtain ⟨x1, h1, w1⟩ := opens_field kr h 1 (ft := 3) (off := 1) (sz := 1) kr (opens_int kr)
  have e1 := h1
  obtain ⟨x2, h2, w2⟩ := opens_field kr h 2 (ft := 4) (off := 2) (sz := 1) kr (opens_bool kr)
  have e2 := h2
  exact ⟨⟨x0, x1, x2⟩, (cut e0 (cut e1 (cut e2 (opens_len kr h (n := 3) kr)))), ⟨w0, w1, w2⟩⟩
def wf_qV (x : qV) : Prop := (fun n => IntKind.min .i64 ≤ n ∧ n ≤ IntKind.max .i64) x.Kind ∧ (fun n => IntKind.min .i64 ≤ n ∧ n ≤ IntKind.max .i64) x.N ∧ (fun s => s.size ≤ maxLen) x.S
theorem opens_qV : Opens P 38 R_qV wf_qV := by
  intro H enc w fuel cs x h
  obtain ⟨x0, h0, w0⟩ := opens_field kr h 0 (ft := 3) (off := 0) (sz := 1) kr (opens_int kr)
  have e0 := h0
  obtain ⟨x1, h1, w1⟩ := opens_field kr h 1 (ft := 3) (off := 1) (sz := 1) kr (opens_int kr)
  have e1 := h1
  obtain ⟨x2, h2, w2⟩ := opens_field kr h 2 (ft := 9) (off := 2) (sz := 1) kr (opens_str kr)
  have e2 := h2
  exact ⟨⟨x0, x1, x2⟩, (cut e0 (cut e1 (cut e2 (opens_len kr h (n := 3) kr)))), ⟨w0, w1, w2⟩⟩
def wf_qE (_ : qE) : Prop := True
theorem opensF_qE : ∀ N : Nat, OpensF P 41 Q_qE wf_qE N
 | 0 => OpensF.zero
 | N + 1 => by
  have ih := opensF_qE N
  intro H enc w fuel cs x hN h
  obtain ⟨x0, h0, w0⟩ := opensF_field kr hN h 0 (ft := 3) (off := 0) (sz := 1) kr (Opens.atF (opens_int kr) N)
  have e0 := h0
  obtain ⟨x1, h1, w1⟩ := opensF_field kr hN h 1 (ft := 3) (off := 1) (sz := 1) kr (Opens.atF (opens_int kr) N)
  have e1 := h1
  obtain ⟨x2, h2, w2⟩ := opensF_field kr hN h 2 (ft := 38) (off := 2) (sz := 3) kr (Opens.atF opens_qV N)
  have e2 := h2
  obtain ⟨x3, h3, w3⟩ := opensF_field kr hN h 3 (ft := 9) (off := 5) (sz := 1) kr (Opens.atF (opens_str kr) N)
  have e3 := h3
  obtain ⟨x4, h4, w4⟩ := opensF_field kr hN h 4 (ft := 39) (off := 6) (sz := 1) kr (opensF_slice (e := 41) kr kr kr ih)
  obtain ⟨a4, c4, e4, f4⟩ := h4
  exact ⟨⟨x0, x1, x2, x3, x4⟩, Q_qE_iff.2 ⟨⟨⟨a4, c4⟩⟩, (cut e0 (cut e1 (cut e2 (cut e3 (cut e4 (opens_len kr h (n := 7) kr)))))), ⟨f4⟩⟩, trivial⟩
theorem opensQ_qE : Opens P 41 Q_qE wf_qE := OpensF.all opensF_qE
theorem opens_qE : Opens P 41 R_qE wf_qE := fun H enc w fuel cs x h => let ⟨a, h1, h2⟩ := opensQ_qE H enc w fuel cs x h; ⟨a, Q_qE_iff.1 h1, h2⟩
def wf_qK (x : qK) : Prop := (fun s => s.size ≤ maxLen) x.Name ∧ (fun n => IntKind.min .i64 ≤ n ∧ n ≤ IntKind.max .i64) x.Kind ∧ (fun xs => xs.length ≤ maxLen ∧ ∀ x ∈ xs, (fun s => s.size ≤ maxLen) x) x.Cols ∧ wf_qE x.Check ∧ (fun s => s.size ≤ maxLen) x.Table ∧ (fun xs => xs.length ≤ maxLen ∧ ∀ x ∈ xs, (fun s => s.size ≤ maxLen) x) x.Refs
theorem opens_qK : Opens P 137 R_qK wf_qK := by
  intro H enc w fuel cs x h
  obtain ⟨x0, h0, w0⟩ := opens_field kr h 0 (ft := 9) (off := 0) (sz := 1) kr (opens_str kr)
  have e0 := h0
  obtain ⟨x1, h1, w1⟩ := opens_field kr h 1 (ft := 3) (off := 1) (sz := 1) kr (opens_int kr)
  have e1 := h1
  obtain ⟨x2, h2, w2⟩ := opens_field kr h 2 (ft := 35) (off := 2) (sz := 1) kr (opens_slice (e := 9) kr kr kr (opens_str kr))
  obtain ⟨a2, c2, e2, f2⟩ := h2
  obtain ⟨x3, h3, w3⟩ := opens_field kr h 3 (ft := 41) (off := 3) (sz := 7) kr opens_qE
  obtain ⟨v3, e3, f3⟩ := h3
  obtain ⟨x4, h4, w4⟩ := opens_field kr h 4 (ft := 9) (off := 10) (sz := 1) kr (opens_str kr)
  have e4 := h4
  obtain ⟨x5, h5, w5⟩ := opens_field kr h 5 (ft := 35) (off := 11) (sz := 1) kr (opens_slice (e := 9) kr kr kr (opens_str kr))
  obtain ⟨a5, c5, e5, f5⟩ := h5
  exact ⟨⟨x0, x1, x2, x3, x4, x5⟩, ⟨⟨⟨a2, c2⟩, v3, ⟨a5, c5⟩⟩, (cut e0 (cut e1 (cut e2 (cut e3 (cut e4 (cut e5 (opens_len kr h (n := 12) kr))))))), ⟨f2, f3, f5⟩⟩, ⟨w0, w1, w2, w3, w4, w5⟩⟩
def wf_qSet (x : qSet) : Prop := (fun s => s.size ≤ maxLen) x.Name ∧ wf_qE x.E
theorem opens_qSet : Opens P 144 R_qSet wf_qSet := by
  intro H enc w fuel cs x h
  obtain ⟨x0, h0, w0⟩ := opens_field kr h 0 (ft := 9) (off := 0) (sz := 1) kr (opens_str kr)
  have e0 := h0
  obtain ⟨x1, h1, w1⟩ := opens_field kr h 1 (ft := 41) (off := 1) (sz := 7) kr opens_qE
  obtain ⟨v1, e1, f1⟩ := h1
  exact ⟨⟨x0, x1⟩, ⟨⟨v1⟩, (cut e0 (cut e1 (opens_len kr h (n := 8) kr))), ⟨f1⟩⟩, ⟨w0, w1⟩⟩
def wf_qO (x : qO) : Prop := wf_qE x.E ∧ (fun _ => True) x.Desc
theorem opens_qO : Opens P 146 R_qO wf_qO := by
  intro H enc w fuel cs x h
  obtain ⟨x0, h0, w0⟩ := opens_field kr h 0 (ft := 41) (off := 0) (sz := 7) kr opens_qE
  obtain ⟨v0, e0, f0⟩ := h0
  obtain ⟨x1, h1, w1⟩ := opens_field kr h 1 (ft := 4) (off := 7) (sz := 1) kr (opens_bool kr)
  have e1 := h1
  exact ⟨⟨x0, x1⟩, ⟨⟨v0⟩, (cut e0 (cut e1 (opens_len kr h (n := 8) kr))), ⟨f0⟩⟩, ⟨w0, w1⟩⟩
def wf_qS (_ : qS) : Prop := True
theorem opensF_qS : ∀ N : Nat, OpensF P 46 Q_qS wf_qS N
 | 0 => OpensF.zero
 | N + 1 => by
  have ih := opensF_qS N
  intro H enc w fuel cs x hN h
  obtain ⟨x0, h0, w0⟩ := opensF_field kr hN h 0 (ft := 3) (off := 0) (sz := 1) kr (Opens.atF (opens_int kr) N)
  have e0 := h0
  obtain ⟨x1, h1, w1⟩ := opensF_field kr hN h 1 (ft := 9) (off := 1) (sz := 1) kr (Opens.atF (opens_str kr) N)
  have e1 := h1
  obtain ⟨x2, h2, w2⟩ := opensF_field kr hN h 2 (ft := 9) (off := 2) (sz := 1) kr (Opens.atF (opens_str kr) N)
  have e2 := h2
  obtain ⟨x3, h3, w3⟩ := opensF_field kr hN h 3 (ft := 9) (off := 3) (sz := 1) kr (Opens.atF (opens_str kr) N)
  have e3 := h3
  obtain ⟨x4, h4, w4⟩ := opensF_field kr hN h 4 (ft := 33) (off := 4) (sz := 1) kr (Opens.atF (opens_slice (e := 111) kr kr kr opens_qL) N)
  obtain ⟨a4, c4, e4, f4⟩ := h4
  obtain ⟨x5, h5, w5⟩ := opensF_field kr hN h 5 (ft := 34) (off := 5) (sz := 1) kr (Opens.atF (opens_slice (e := 137) kr kr kr opens_qK) N)
  obtain ⟨a5, c5, e5, f5⟩ := h5
  obtain ⟨x6, h6, w6⟩ := opensF_field kr hN h 6 (ft := 35) (off := 6) (sz := 1) kr (Opens.atF (opens_slice (e := 9) kr kr kr (opens_str kr)) N)
  obtain ⟨a6, c6, e6, f6⟩ := h6
  obtain ⟨x7, h7, w7⟩ := opensF_field kr hN h 7 (ft := 36) (off := 7) (sz := 1) kr (Opens.atF (opens_slice (e := 39) kr kr kr (opens_slice (e := 41) kr kr kr opensQ_qE)) N)
  obtain ⟨a7, c7, e7, f7⟩ := h7
  obtain ⟨x8, h8, w8⟩ := opensF_field kr hN h 8 (ft := 41) (off := 8) (sz := 7) kr (Opens.atF opens_qE N)
  obtain ⟨v8, e8, f8⟩ := h8
  obtain ⟨x9, h9, w9⟩ := opensF_field kr hN h 9 (ft := 42) (off := 15) (sz := 1) kr (Opens.atF (opens_slice (e := 144) kr kr kr opens_qSet) N)
  obtain ⟨a9, c9, e9, f9⟩ := h9
  obtain ⟨x10, h10, w10⟩ := opensF_field kr hN h 10 (ft := 43) (off := 16) (sz := 1) kr (Opens.atF (opens_slice (e := 146) kr kr kr opens_qO) N)
  obtain ⟨a10, c10, e10, f10⟩ := h10
  obtain ⟨x11, h11, w11⟩ := opensF_field kr hN h 11 (ft := 3) (off := 17) (sz := 1) kr (Opens.atF (opens_int kr) N)
  have e11 := h11
  obtain ⟨x12, h12, w12⟩ := opensF_field kr hN h 12 (ft := 3) (off := 18) (sz := 1) kr (Opens.atF (opens_int kr) N)
  have e12 := h12
  obtain ⟨x13, h13, w13⟩ := opensF_field kr hN h 13 (ft := 4) (off := 19) (sz := 1) kr (Opens.atF (opens_bool kr) N)
  have e13 := h13
  obtain ⟨x14, h14, w14⟩ := opensF_field kr hN h 14 (ft := 44) (off := 20) (sz := 1) kr (opensF_slice (e := 46) kr kr kr ih)
  obtain ⟨a14, c14, e14, f14⟩ := h14
  exact ⟨⟨x0, x1, x2, x3, x4, x5, x6, x7, x8, x9, x10, x11, x12, x13, x14⟩, Q_qS_iff.2 ⟨⟨⟨a4, c4⟩, ⟨a5, c5⟩, ⟨a6, c6⟩, ⟨a7, c7⟩, v8, ⟨a9, c9⟩, ⟨a10, c10⟩, ⟨a14, c14⟩⟩, (cut e0 (cut e1 (cut e2 (cut e3 (cut e4 (cut e5 (cut e6 (cut e7 (cut e8 (cut e9 (cut e10 (cut e11 (cut e12 (cut e13 (cut e14 (opens_len kr h (n := 21) kr)))))))))))))))), ⟨f4, f5, f6, f7, f8, f9, f10, f14⟩⟩, trivial⟩
theorem opensQ_qS : Opens P 46 Q_qS wf_qS := OpensF.all opensF_qS
theorem opens_qS : Opens P 46 R_qS wf_qS := fun H enc w fuel cs x h => let ⟨a, h1, h2⟩ := opensQ_qS H enc w fuel cs x h; ⟨a, Q_qS_iff.1 h1, h2⟩
def wf_law19_Act (x : law19_Act) : Prop := wf_qS x.S ∧ (fun s => s.size ≤ maxLen) x.By
theorem opens_law19_Act : Opens P 48 R_law19_Act wf_law19_Act := by
  intro H enc w fuel cs x h
  obtain ⟨x0, h0, w0⟩ := opens_field kr h 0 (ft := 46) (off := 0) (sz := 21) kr opens_qS
  obtain ⟨v0, e0, f0⟩ := h0
  obtain ⟨x1, h1, w1⟩ := opens_field kr h 1 (ft := 9) (off := 21) (sz := 1) kr (opens_str kr)
  have e1 := h1
  exact ⟨⟨x0, x1⟩, ⟨⟨v0⟩, (cut e0 (cut e1 (opens_len kr h (n := 22) kr))), ⟨f0⟩⟩, ⟨w0, w1⟩⟩
def wf_law22_Act (x : law22_Act) : Prop := (fun n => IntKind.min .i64 ≤ n ∧ n ≤ IntKind.max .i64) x.Do ∧ (fun n => IntKind.min .i64 ≤ n ∧ n ≤ IntKind.max .i64) x.Who ∧ wf_law19_Act x.A
theorem opens_law22_Act : Opens P 50 R_law22_Act wf_law22_Act := by
  intro H enc w fuel cs x h
  obtain ⟨x0, h0, w0⟩ := opens_field kr h 0 (ft := 3) (off := 0) (sz := 1) kr (opens_int kr)
  have e0 := h0
  obtain ⟨x1, h1, w1⟩ := opens_field kr h 1 (ft := 3) (off := 1) (sz := 1) kr (opens_int kr)
  have e1 := h1
  obtain ⟨x2, h2, w2⟩ := opens_field kr h 2 (ft := 48) (off := 2) (sz := 22) kr opens_law19_Act
  obtain ⟨v2, e2, f2⟩ := h2
  exact ⟨⟨x0, x1, x2⟩, ⟨⟨v2⟩, (cut e0 (cut e1 (cut e2 (opens_len kr h (n := 24) kr)))), ⟨f2⟩⟩, ⟨w0, w1, w2⟩⟩
abbrev Role := qJ
theorem keq : KEq sEq := fun a b => by
  rw [sEq_data]
  constructor
  · intro h
    have h := eq_of_beq h
    cases a; cases b
    simp only at h
    congr
    exact Array.toList_inj.1 h
  · rintro rfl
    simp
def ins (l : List Role) (n : By8) : List By8 := ((l.find? fun x => sEq x.Name n).map (·.In)).getD []
def has (l : List Role) (n : By8) : Prop := ∃ x ∈ l, x.Name = n
inductive Rch (l : List Role) (n : By8) : By8 → Prop
  | self : Rch l n n
  | step {a b : By8} : Rch l n a → b ∈ ins l a → has l b → Rch l n b
structure Up (l : List Role) (n : By8) (g : Bool) (all : List (By8 × Bool)) : Prop where
  nd : (all.map (·.1)).Nodup
  self : n ∈ all.map (·.1)
  so : ∀ k ∈ all.map (·.1), Rch l n k ∧ has l k
  tr : ∀ k, (mget sEq all k).getD false = true ↔ k ∈ all.map (·.1)
  cl : g = false → ∀ a ∈ all.map (·.1), ∀ b ∈ ins l a, has l b → b ∈ all.map (·.1)
theorem Up.len {l : List Role} {n : By8} {g : Bool} {all : List (By8 × Bool)} (h : Up l n g all) : all.length ≤ l.length := by
  have := List.Nodup.length_le_of_subset (l₂ := l.map (·.Name)) h.nd (fun k hk => by
    obtain ⟨x, hx, e⟩ := (h.so k hk).2
    exact List.mem_map.2 ⟨x, hx, e⟩)
  simpa using this
theorem sortS_perm (xs : List By8) : (sortS xs).Perm xs := by
  unfold sortS
  refine ((List.mergeSort_perm _ _).map ub).trans ?_
  rw [List.map_map]
  have : xs.map (ub ∘ bs) = xs := by
    have : ub ∘ bs = id := funext ub_bs
    rw [this, List.map_id]
  rw [this]
theorem bl_lt : ∀ (x y : List UInt8), Op.bytesLess x y = decide (x < y)
  | _, [] => by simp [Op.bytesLess]
  | [], y :: ys => by simp [Op.bytesLess]
  | x :: xs, y :: ys => by
    simp only [Op.bytesLess, bl_lt xs ys]
    rw [Bool.eq_iff_iff]
    simp only [List.cons_lt_cons_iff, decide_eq_true_eq, Bool.or_eq_true, Bool.and_eq_true, beq_iff_eq]
theorem sorted (xs : List By8) : (sortS xs).Pairwise (fun a b => sLt b a = false) := by
  unfold sortS
  rw [List.pairwise_map]
  refine (List.pairwise_mergeSort ?_ ?_ _).imp ?_
  · intro a b c h1 h2
    simp only [decide_eq_true_eq] at h1 h2 ⊢
    exact List.le_trans h1 h2
  · intro a b
    simp only [Bool.or_eq_true, decide_eq_true_eq]
    exact List.le_total a b
  · intro a b h
    have h := of_decide_eq_true h
    rw [sLt_data]
    show Op.bytesLess (bs (ub b)) (bs (ub a)) = false
    rw [bs_ub, bs_ub]
    cases hb : Op.bytesLess b a with
    | false => rfl
    | true =>
      exfalso
      have : b < a := by
        have e := bl_lt b a
        rw [hb] at e
        simpa using e.symm
      exact (List.not_lt.2 h) this
def Good (l : List Role) (n : By8) (r : List By8) : Prop := (has l n → r.Pairwise (fun a b => sLt a b = true) ∧ ∀ k, k ∈ r ↔ Rch l n k) ∧ (¬ has l n → r = [])
theorem strict_eq {α : Type} {lt : α → α → Prop} (hi : ∀ x, ¬ lt x x) (ha : ∀ x y, lt x y → ¬ lt y x) : ∀ (a b : List α), a.Pairwise lt → b.Pairwise lt → (∀ n, n ∈ a ↔ n ∈ b) → a = b
  | [], [], _, _, _ => rfl
  | [], y :: b, _, _, h => by have := (h y).2 (by simp); cases this
  | x :: a, [], _, _, h => by have := (h x).1 (by simp); cases this
  | x :: a, y :: b, h1, h2, h => by
    have h1' := List.pairwise_cons.1 h1
    have h2' := List.pairwise_cons.1 h2
    have e : x = y := by
      rcases List.mem_cons.1 ((h x).1 (by simp)) with e | g1
      · exact e
      · rcases List.mem_cons.1 ((h y).2 (by simp)) with e | g2
        · exact e.symm
        · exact absurd (h1'.1 y g2) (ha _ _ (h2'.1 x g1))
    subst e
    rw [strict_eq hi ha a b h1'.2 h2'.2 (fun n => ?_)]
    constructor
    · intro hn
      rcases List.mem_cons.1 ((h n).1 (by simp [hn])) with rfl | g1
      · exact absurd (h1'.1 n hn) (hi n)
      · exact g1
    · intro hn
      rcases List.mem_cons.1 ((h n).2 (by simp [hn])) with rfl | g1
      · exact absurd (h2'.1 n hn) (hi n)
      · exact g1
theorem key_eq {α : Type} (K : α → By8) (a b : List α) (h1 : a.Pairwise (fun u v => sLt (K u) (K v) = true)) (h2 : b.Pairwise (fun u v => sLt (K u) (K v) = true)) (h : ∀ n, n ∈ a ↔ n ∈ b) : a = b :=
  strict_eq (lt := fun u v => sLt (K u) (K v) = true) (fun x h => by rw [sLt_irrefl] at h; cases h) (fun x y h g => by rw [sLt_asymm h] at g; cases g) a b h1 h2 h
theorem Good.uniq {l : List Role} {n : By8} {a b : List By8} (h1 : Good l n a) (h2 : Good l n b) : a = b := by
  by_cases hn : has l n
  · exact key_eq (fun k => k) a b (h1.1 hn).1 (h2.1 hn).1 fun k => ((h1.1 hn).2 k).trans ((h2.1 hn).2 k).symm
  · rw [h1.2 hn, h2.2 hn]
abbrev Asc (s : List By8) : Prop := s.Pairwise (fun a b => sLt a b = true)
theorem Asc.drop_lt {s : List By8} (hs : Asc s) {i : Nat} {x y : By8} (h : ∀ z, s[i]? = some z → sLt x z = true) (hy : y ∈ s.drop i) : sLt x y = true := by
  obtain ⟨j, hj⟩ := List.mem_iff_getElem?.1 hy
  rw [List.getElem?_drop] at hj
  have hlt : i < s.length := by have := (List.getElem?_eq_some_iff.1 hj).1; omega
  have hi := h _ (gE hlt)
  cases j with
  | zero => rw [Nat.add_zero] at hj; exact h y hj
  | succ j =>
    obtain ⟨hj1, rfl⟩ := List.getElem?_eq_some_iff.1 hj
    exact sLt_trans hi (List.pairwise_iff_getElem.1 hs i (i + (j + 1)) hlt hj1 om)
theorem Asc.ins {A B : List By8} {x : By8} (hs : Asc (A ++ B)) (h1 : ∀ y ∈ A, sLt y x = true) (h2 : ∀ y ∈ B, sLt x y = true) : Asc (A ++ x :: B) := by
  have h := List.pairwise_append.1 hs
  refine List.pairwise_append.2 ⟨h.1, List.pairwise_cons.2 ⟨h2, h.2.1⟩, fun a ha b hb => ?_⟩
  rcases List.mem_cons.1 hb with rfl | hb
  · exact h1 a ha
  · exact h.2.2 a ha b hb
theorem any_find {xs : List By8} {n : By8} {p : By8 → Bool} (hp : ∀ x, p x = true ↔ x = n) : (xs.findIdx? p).isSome = true ↔ n ∈ xs := by
  rcases find_cases p xs with ⟨h, e⟩ | ⟨A, x, B, h1, h2, h3, h4⟩
  · rw [e]
    refine Iff.intro (fun h => Bool.noConfusion h) (fun hn => ?_)
    have := h n hn
    rw [(hp n).2 rfl] at this
    cases this
  · rw [h4]
    exact ⟨fun _ => by rw [h1, ← (hp x).1 h2]; simp, fun _ => rfl⟩
theorem has_eq (xs : List By8) (n : By8) : ∃ b, r14_Has xs n = some b ∧ (b = true ↔ n ∈ xs) := by
  unfold r14_Has
  rw [forN_find (fun x => sEq x n) (fun _ => true) (fun j x hx => by simp only [idx_nat, hx, obs]; cases sEq x n <;> rfl)]
  have := any_find (xs := xs) (n := n) (p := fun x => sEq x n) (fun x => keq x n)
  cases h : xs.findIdx? (fun x => sEq x n) with
  | none => rw [h] at this; exact ⟨false, rfl, by rw [← this]; simp⟩
  | some j => rw [h] at this; exact ⟨true, rfl, by rw [← this]; simp⟩
def Sm (l : List Role) : Prop := l.length ≤ 100 ∧ (∀ x ∈ l, x.In.length ≤ 100) ∧ ∀ x ∈ l, x.Name.size ≤ 1000
theorem rat_spec (l : List Role) (n : By8) : ((∀ y ∈ l, y.Name ≠ n) ∧ r18_At l n = some (-1)) ∨ ∃ A x B, l = A ++ x :: B ∧ x.Name = n ∧ (∀ y ∈ A, y.Name ≠ n) ∧ r18_At l n = some (A.length : Int) := by
  have e : r18_At l n = some (match l.findIdx? (fun x => sEq x.Name n) with | some j => (j : Int) | none => -1) := by
    unfold r18_At
    rw [forN_find (fun x : Role => sEq x.Name n) (fun j => (j : Int))]
    · cases l.findIdx? (fun x => sEq x.Name n) <;> rfl
    · intro j x hx
      simp only [idx_nat, hx, obs]
      cases sEq x.Name n <;> rfl
  rw [e]
  rcases find_cases (fun x : Role => sEq x.Name n) l with ⟨h, e⟩ | ⟨A, x, B, h1, h2, h3, h4⟩
  · left
    refine ⟨fun y hy e1 => ?_, by rw [e]⟩
    have := h y hy
    rw [(keq _ _).2 e1] at this
    cases this
  · right
    refine ⟨A, x, B, h1, (keq _ _).1 h2, fun y hy e1 => ?_, by rw [h4]⟩
    have := h3 y hy
    rw [(keq _ _).2 e1] at this
    cases this
def Fst (l : List Role) (k : Nat) (n : By8) : Prop := ∃ A x B, l = A ++ x :: B ∧ x.Name = n ∧ (∀ y ∈ A, y.Name ≠ n) ∧ k = A.length
theorem Fst.get {l : List Role} {k : Nat} {n : By8} (h : Fst l k n) : ∃ x, l[k]? = some x ∧ x.Name = n ∧ x ∈ l ∧ ins l n = x.In := by
  obtain ⟨A, x, B, rfl, h2, h3, rfl⟩ := h
  refine ⟨x, by simp, h2, by simp, ?_⟩
  unfold ins
  rw [List.find?_append, List.find?_eq_none.2]
  · simp [(keq _ _).2 h2]
  · intro y hy hn
    exact h3 y hy ((keq _ _).1 hn)
theorem Fst.lt {l : List Role} {k : Nat} {n : By8} (h : Fst l k n) : k < l.length := by
  obtain ⟨A, x, B, rfl, h2, h3, rfl⟩ := h
  simp
theorem Fst.hs {l : List Role} {k : Nat} {n : By8} (h : Fst l k n) : has l n := by
  obtain ⟨x, _, h2, h3, _⟩ := h.get
  exact ⟨x, h3, h2⟩
theorem Fst.uniq {l : List Role} {j k : Nat} {n : By8} (h1 : Fst l j n) (h2 : Fst l k n) : j = k := by
  obtain ⟨A, x, B, e1, g1, g2, rfl⟩ := h1
  obtain ⟨A', x', B', e2, g1', g2', rfl⟩ := h2
  have e : A ++ x :: B = A' ++ x' :: B' := by rw [← e1, e2]
  rcases List.append_eq_append_iff.1 e with ⟨c, hc1, hc2⟩ | ⟨c, hc1, hc2⟩
  · cases c with
    | nil => simp [hc1]
    | cons z c =>
      simp only [List.cons_append, List.cons.injEq] at hc2
      exact absurd g1 (by rw [hc2.1]; exact g2' z (by rw [hc1]; simp))
  · cases c with
    | nil => simp [hc1]
    | cons z c =>
      simp only [List.cons_append, List.cons.injEq] at hc2
      exact absurd g1' (by rw [hc2.1]; exact g2 z (by rw [hc1]; simp))
theorem Fst.of_has {l : List Role} {n : By8} (h : has l n) : ∃ k, Fst l k n ∧ r18_At l n = some (k : Int) := by
  rcases rat_spec l n with ⟨h1, _⟩ | ⟨A, x, B, h1, h2, h3, h4⟩
  · obtain ⟨x, hx, hn⟩ := h
    exact absurd hn (h1 x hx)
  · exact ⟨A.length, ⟨A, x, B, h1, h2, h3, rfl⟩, h4⟩
theorem rat_none {l : List Role} {n : By8} (h : ¬ has l n) : r18_At l n = some (-1) := by
  rcases rat_spec l n with ⟨_, e⟩ | ⟨A, x, B, h1, h2, _⟩
  · exact e
  · exact absurd ⟨x, by rw [h1]; simp, h2⟩ h
structure Sd (l : List Role) (n : By8) (is : List Bool) : Prop where
  len : is.length = l.length
  so : ∀ k : Nat, is[k]? = some true → ∃ a, Fst l k a ∧ Rch l n a ∧ has l n
  self : ∀ k, Fst l k n → is[k]? = some true
def Mon (a b : List Bool) : Prop := ∀ k : Nat, a[k]? = some true → b[k]? = some true
def Cl (l : List Role) (is : List Bool) : Prop := ∀ (k : Nat) (a b : By8) (j : Nat), is[k]? = some true → Fst l k a → b ∈ ins l a → Fst l j b → is[j]? = some true
theorem cnt : ∀ (a b : List Bool), a.length = b.length → Mon a b → a = b ∨ a.count true < b.count true
  | [], [], _, _ => .inl rfl
  | [], _ :: _, h, _ => by cases h
  | _ :: _, [], h, _ => by cases h
  | x :: a, y :: b, h, hm => by
    have ih := cnt a b (by simpa using h) (fun k hk => by simpa using hm (k + 1) (by simpa using hk))
    have h0 := hm 0
    simp only [List.getElem?_cons_zero, Option.some.injEq] at h0
    cases x <;> cases y <;> simp_all <;> rcases ih with rfl | ih <;> omega
theorem mon_set {is : List Bool} {j : Nat} : Mon is (is.set j true) := by
  intro k hk
  rw [List.getElem?_set]
  split
  · rename_i e
    subst e
    have := (List.getElem?_eq_some_iff.1 hk).1
    simp [this]
  · exact hk
theorem Sd.set {l : List Role} {n : By8} {is : List Bool} (h : Sd l n is) {j : Nat} {b : By8} (hj : Fst l j b) (hb : Rch l n b) (hn : has l n) : Sd l n (is.set j true) := by
  refine ⟨by simpa using h.len, fun k hk => ?_, fun k hk => mon_set k (h.self k hk)⟩
  rw [List.getElem?_set] at hk
  split at hk
  · rename_i e
    subst e
    exact ⟨b, hj, hb, hn⟩
  · exact h.so k hk
theorem set_at {l : List Role} {n : By8} {is : List Bool} (h : Sd l n is) {j : Nat} {b : By8} (hj : Fst l j b) : (is.set j true)[j]? = some true := by
  have := hj.lt
  rw [← h.len] at this
  simp [this]
theorem flag_idx {l : List Role} {n : By8} {is : List Bool} (h : Sd l n is) {k : Nat} (hk : k < l.length) : ∃ b, is[k]? = some b := by
  rw [← h.len] at hk
  exact ⟨_, gE hk⟩
theorem ins_has {l : List Role} {a b : By8} (hb : b ∈ ins l a) : has l a := by
  cases hf : l.find? (fun x => sEq x.Name a) with
  | none => unfold ins at hb; rw [hf] at hb; cases hb
  | some y => exact ⟨y, List.mem_of_find?_eq_some hf, (keq _ _).1 (by simpa using List.find?_some hf)⟩
theorem closed_all {l : List Role} {n : By8} {is : List Bool} (hs : Sd l n is) (hc : Cl l is) : ∀ a, Rch l n a → has l a → ∃ j, Fst l j a ∧ is[j]? = some true := by
  intro a ha
  induction ha with
  | self => intro hh; obtain ⟨j, hj, _⟩ := Fst.of_has hh; exact ⟨j, hj, hs.self j hj⟩
  | @step a b hr hb hh ih =>
    intro _
    obtain ⟨k', hk', hf⟩ := ih (ins_has hb)
    obtain ⟨j, hj, _⟩ := Fst.of_has hh
    exact ⟨j, hj, hc k' a b j hf hk' hb hj⟩
theorem reach_spec {l : List Role} {n : By8} (hl : l.length ≤ 100) (hi : ∀ x ∈ l, x.In.length ≤ 100) : Ret (r18_Reach l n) (fun is => Sd l n is ∧ Cl l is) := by
  unfold r18_Reach
  refine ybi (x := l.length) (by unfold mk; rw [if_pos ⟨by omega, by omega⟩]; rfl) ?_
  refine yd (R := fun (r : Int) => (r = -1 ∧ ¬ has l n) ∨ ∃ k : Nat, r = k ∧ Fst l k n) ?_ ?_
  · by_cases hn : has l n
    · obtain ⟨k, hk, e⟩ := Fst.of_has hn
      exact ybm e (.inr ⟨k, rfl, hk⟩)
    · exact ybm (rat_none hn) (.inl ⟨rfl, hn⟩)
  intro r hr
  refine yd (R := fun is => Sd l n is ∧ (has l n → 1 ≤ is.count true)) ?_ ?_
  · rcases hr with ⟨rfl, hn⟩ | ⟨k, rfl, hk⟩
    · refine yc ⟨⟨by simp, fun k hk => ?_, fun k hk => absurd hk.hs hn⟩, fun h => absurd h hn⟩
      rw [List.getElem?_replicate] at hk
      split at hk <;> cases hk
    · rw [show decide ((k : Int) ≥ 0) = true by simp]
      simp only [cond_true]
      have hlt := hk.lt
      rw [idx_nat, List.getElem?_replicate, if_pos hlt]
      simp only [obs, Int.toNat_natCast]
      have hat : ((List.replicate l.length false).set k true)[k]? = some true := by simp [hlt]
      refine yc ⟨⟨by simp, fun j hj => ?_, fun j hj => ?_⟩, fun _ => ?_⟩
      · rw [List.getElem?_set] at hj
        split at hj
        · rename_i e
          subst e
          exact ⟨n, hk, .self, hk.hs⟩
        · rw [List.getElem?_replicate] at hj
          split at hj <;> cases hj
      · rw [hj.uniq hk]; exact hat
      · exact List.count_pos_iff.2 (List.mem_of_getElem? hat)
  rintro is0 ⟨hs0, hc0⟩
  refine yd (R := fun is => Sd l n is ∧ Cl l is) (RB.mono (forE_ret (fun t is => Sd l n is ∧ (Cl l is ∨ (has l n → t + 1 ≤ is.count true))) ⟨hs0, .inr hc0⟩ ?_) ?_) (fun is h => yc h)
  · rintro t is ht ⟨hs, hc⟩
    refine yd (R := fun is' => Sd l n is' ∧ Mon is is' ∧ ∀ k, k < l.length → is[k]? = some true → ∀ a, Fst l k a → ∀ b ∈ ins l a, ∀ j, Fst l j b → is'[j]? = some true) (forE_ret (fun K is' => Sd l n is' ∧ Mon is is' ∧ ∀ k, k < K → is[k]? = some true → ∀ a, Fst l k a → ∀ b ∈ ins l a, ∀ j, Fst l j b → is'[j]? = some true) ⟨hs, fun k hk => hk, fun k hk => absurd hk om⟩ ?_) ?_
    · rintro K s hK ⟨g1, g2, g3⟩
      obtain ⟨x, hx⟩ : ∃ x, l[K]? = some x := ⟨_, gE hK⟩
      have hxl : x.In.length ≤ 100 := hi x (List.mem_of_getElem? hx)
      refine yd (R := fun s' => Sd l n s' ∧ Mon s s' ∧ (s[K]? = some true → ∀ b ∈ x.In, ∀ j, Fst l j b → s'[j]? = some true)) (loopO_rb (fun (u : Int × List Bool) => ∃ J : Nat, u.1 = J ∧ J ≤ x.In.length ∧ Sd l n u.2 ∧ Mon s u.2 ∧ ∀ b ∈ x.In.take J, ∀ j, Fst l j b → u.2[j]? = some true) (fun u => x.In.length - u.1.toNat) ?_ ⟨0, rfl, by omega, g1, fun k hk => hk, by simp⟩) ?_
      · rintro ⟨q, s'⟩ ⟨J, hJ, hJ2, f1, f2, f3⟩
        simp only at hJ f1 f2 f3
        subst hJ
        obtain ⟨bk, hbk⟩ := flag_idx f1 hK
        simp only [idx_nat, hbk, hx, obs]
        cases bk with
        | false =>
          simp only [cond_false, obs]
          refine yc ⟨f1, f2, fun hh => ?_⟩
          have := f2 K hh
          rw [hbk] at this
          cases this
        | true =>
          simp only [cond_true, obs]
          by_cases hlt : J < x.In.length
          · rw [show decide ((J : Int) < (x.In.length : Int)) = true by simp [hlt]]
            have hb : x.In[J]? = some x.In[J] := gE hlt
            simp only [cond_true, idx_nat, hb, obs]
            obtain ⟨a, ha1, ha2, ha3⟩ := f1.so K hbk
            obtain ⟨x', hx', hn', _, hin⟩ := ha1.get
            rw [hx] at hx'
            injection hx' with hx'
            subst hx'
            by_cases hh : has l x.In[J]
            · obtain ⟨k2, hk2, e2⟩ := Fst.of_has hh
              rw [e2]
              obtain ⟨b2, hb2⟩ := flag_idx f1 hk2.lt
              simp only [obs, idx_nat, hb2]
              rw [show decide ((k2 : Int) ≥ 0) = true by simp]
              simp only [cond_true, obs, Int.toNat_natCast]
              refine yc ⟨⟨J + 1, ?_, hlt, f1.set hk2 (.step ha2 (by rw [hin]; exact List.getElem_mem hlt) hh) ha3, fun k hk => mon_set k (f2 k hk), ?_⟩, ?_⟩
              · simp only; rw [w64_id om om]; rfl
              · intro b hb3 j hj
                rw [take_snoc hb, List.mem_append, List.mem_singleton] at hb3
                rcases hb3 with hb3 | rfl
                · exact mon_set j (f3 b hb3 j hj)
                · rw [hj.uniq hk2]; exact set_at f1 hk2
              · simp only; rw [w64_id om om]; omega
            · rw [rat_none hh]
              simp only [obs]
              rw [show decide ((-1 : Int) ≥ 0) = false by decide]
              simp only [cond_false, obs]
              refine yc ⟨⟨J + 1, ?_, hlt, f1, f2, ?_⟩, ?_⟩
              · simp only; rw [w64_id om om]; rfl
              · intro b hb3 j hj
                rw [take_snoc hb, List.mem_append, List.mem_singleton] at hb3
                rcases hb3 with hb3 | rfl
                · exact f3 b hb3 j hj
                · exact absurd hj.hs hh
              · simp only; rw [w64_id om om]; omega
          · rw [show decide ((J : Int) < (x.In.length : Int)) = false by simp; omega]
            simp only [cond_false]
            refine yc ⟨f1, f2, fun _ b hb => f3 b ?_⟩
            rw [List.take_of_length_le om]
            exact hb
      · rintro s' ⟨f1, f2, f3⟩
        refine yc ⟨f1, fun k hk => f2 k (g2 k hk), fun k hk hf a ha b hb j hj => ?_⟩
        by_cases e : k = K
        · subst e
          obtain ⟨x', hx', hn', _, hin⟩ := ha.get
          rw [hx] at hx'
          injection hx' with hx'
          subst hx'
          exact f3 (g2 _ hf) b (by rw [← hin]; exact hb) j hj
        · exact f2 j (g3 k om hf a ha b hb j hj)
    · rintro is' ⟨g1, g2, g3⟩
      refine yc ⟨g1, ?_⟩
      rcases cnt is is' (by rw [hs.len, g1.len]) g2 with rfl | hlt
      · left
        intro k a b j hk ha hb hj
        exact g3 k (by have := (List.getElem?_eq_some_iff.1 hk).1; rw [hs.len] at this; exact this) hk a ha b hb j hj
      · rcases hc with hc | hc
        · exfalso
          have : Mon is' is := by
            intro k hk
            obtain ⟨a, ha1, ha2, ha3⟩ := g1.so k hk
            obtain ⟨j, hj, hf⟩ := closed_all hs hc a ha2 ha1.hs
            rw [ha1.uniq hj]
            exact hf
          rcases cnt is' is (by rw [hs.len, g1.len]) this with e | e
          · rw [e] at hlt; omega
          · omega
        · exact .inr fun hn => by have := hc hn; omega
  · rintro is ⟨hs, hc⟩
    refine ⟨hs, ?_⟩
    rcases hc with hc | hc
    · exact hc
    · by_cases hn : has l n
      · have h1 := hc hn
        have h2 := List.count_le_length (a := true) (l := is)
        rw [hs.len] at h2
        omega
      · intro k a b j hk
        obtain ⟨_, _, _, hh⟩ := hs.so k hk
        exact absurd hh hn
theorem into_spec {s : List By8} {x : By8} (hs : Asc s) (hx : x ∉ s) (hl : s.length ≤ 1000) : ∃ A B, s = A ++ B ∧ (∀ y ∈ A, sLt y x = true) ∧ (∀ y ∈ B, sLt x y = true) ∧ r18_into s x = some (A ++ x :: B) := by
  have h : Ret (r18_into s x) (fun r => ∃ A B, s = A ++ B ∧ (∀ y ∈ A, sLt y x = true) ∧ (∀ y ∈ B, sLt x y = true) ∧ r = A ++ x :: B) := by
    unfold r18_into
    refine yd (R := fun (q : Int) => ∃ i : Nat, q = i ∧ i ≤ s.length ∧ (∀ y ∈ s.take i, sLt y x = true) ∧ ∀ z, s[i]? = some z → sLt x z = true) (loopO_rb (fun (q : Int) => ∃ i : Nat, q = i ∧ i ≤ s.length ∧ ∀ y ∈ s.take i, sLt y x = true) (fun q => s.length - q.toNat) ?_ ⟨0, rfl, by omega, by simp⟩) ?_
    · rintro q ⟨i, rfl, hi, h1⟩
      by_cases hlt : i < s.length
      · rw [show decide ((i : Int) < (s.length : Int)) = true by simp [hlt]]
        have hz : s[i]? = some s[i] := gE hlt
        simp only [cond_true, idx_nat, hz, obs]
        cases hc : sLt s[i] x with
        | true =>
          refine yc ⟨⟨i + 1, by rw [w64_id om om]; rfl, hlt, fun y hy => ?_⟩, by rw [w64_id om om]; omega⟩
          rw [take_snoc hz, List.mem_append, List.mem_singleton] at hy
          rcases hy with hy | rfl
          · exact h1 y hy
          · exact hc
        | false =>
          refine yc ⟨i, rfl, hi, h1, fun z hz' => ?_⟩
          rw [hz] at hz'
          injection hz' with hz'
          subst hz'
          rcases sLt_total s[i] x with h | h | h
          · rw [hc] at h; cases h
          · exact absurd (h ▸ List.getElem_mem hlt) hx
          · exact h
      · rw [show decide ((i : Int) < (s.length : Int)) = false by simp; omega]
        simp only [cond_false, obs]
        refine yc ⟨i, rfl, hi, h1, fun z hz => ?_⟩
        have := (List.getElem?_eq_some_iff.1 hz).1
        omega
    · rintro q ⟨i, rfl, hi, h1, h2⟩
      rw [sub_at (lo := 0) (i := 0) (j := i) rfl rfl om hi, sub_at (i := i) (j := s.length) rfl rfl hi om]
      simp only [obs, List.drop_zero, List.take_length]
      rw [app_le (by simp; omega)]
      simp only [obs, List.nil_append]
      rw [app_le (by simp; omega)]
      simp only [obs]
      rw [app_le (by simp; omega)]
      exact yc ⟨s.take i, s.drop i, (List.take_append_drop i s).symm, h1, fun y hy => hs.drop_lt h2 hy, by simp⟩
  obtain ⟨r, hr, A, B, h1, h2, h3, rfl⟩ := h.ex
  exact ⟨A, B, h1, h2, h3, hr⟩
theorem rall_eq {l : List Role} {n : By8} (hl : l.length ≤ 100) (hi : ∀ x ∈ l, x.In.length ≤ 100) : ∃ r, r18_All l n = some r ∧ Good l n r := by
  refine Ret.ex ?_
  unfold r18_All
  refine yd (reach_spec hl hi) ?_
  rintro is ⟨hs, hc⟩
  refine yd (R := fun r => Asc r ∧ ∀ m, m ∈ r ↔ ∃ k, k < l.length ∧ is[k]? = some true ∧ ∃ x, l[k]? = some x ∧ x.Name = m) (forE_ret (fun K r => Asc r ∧ r.length ≤ K ∧ ∀ m, m ∈ r ↔ ∃ k, k < K ∧ is[k]? = some true ∧ ∃ x, l[k]? = some x ∧ x.Name = m) ⟨List.Pairwise.nil, Nat.le_refl _, fun m => by simp⟩ ?_ |>.mono fun r h => ⟨h.1, h.2.2⟩) ?_
  · rintro K r hK ⟨g1, g2, g3⟩
    obtain ⟨b, hb⟩ := flag_idx hs hK
    have hx : l[K]? = some l[K] := gE hK
    simp only [idx_nat, hb, hx, obs]
    cases b with
    | false =>
      refine yc ⟨g1, by omega, fun m => (g3 m).trans ⟨fun ⟨k, h1, h2⟩ => ⟨k, by omega, h2⟩, fun ⟨k, h1, h2, h3⟩ => ⟨k, ?_, h2, h3⟩⟩⟩
      have : k ≠ K := by rintro rfl; rw [hb] at h2; cases h2
      omega
    | true =>
      obtain ⟨a, ha, _, _⟩ := hs.so K hb
      have hn : l[K].Name ∉ r := by
        intro hm
        obtain ⟨k, h1, h2, x, h3, h4⟩ := (g3 _).1 hm
        obtain ⟨a', ha', _, _⟩ := hs.so k h2
        obtain ⟨y, hy1, hy2, _⟩ := ha.get
        obtain ⟨y', hy1', hy2', _⟩ := ha'.get
        rw [hx] at hy1; injection hy1 with hy1
        rw [h3] at hy1'; injection hy1' with hy1'
        subst hy1 hy1'
        rw [h4, hy2] at hy2'
        subst hy2'
        have := ha.uniq ha'
        omega
      obtain ⟨A, B, e, e1, e2, e3⟩ := into_spec g1 hn om
      simp only [cond_true]
      rw [e3]
      refine yc ⟨(e ▸ g1 : Asc (A ++ B)).ins e1 e2, by rw [e] at g2; simp at g2 ⊢; omega, fun m => ?_⟩
      have : m ∈ A ++ l[K].Name :: B ↔ m = l[K].Name ∨ m ∈ r := by rw [e]; simp only [List.mem_append, List.mem_cons]; exact ⟨fun h => by rcases h with h | h | h <;> simp [h], fun h => by rcases h with h | h | h <;> simp [h]⟩
      rw [this, g3]
      constructor
      · rintro (rfl | ⟨k, h1, h2⟩)
        · exact ⟨K, by omega, hb, _, hx, rfl⟩
        · exact ⟨k, by omega, h2⟩
      · rintro ⟨k, h1, h2, x, h3, h4⟩
        by_cases e : k = K
        · subst e
          rw [hx] at h3; injection h3 with h3
          exact .inl (by rw [h3]; exact h4.symm)
        · exact .inr ⟨k, by omega, h2, x, h3, h4⟩
  · rintro r ⟨h1, h2⟩
    refine yc ⟨fun hn => ⟨h1, fun m => ?_⟩, fun hn => ?_⟩
    · rw [h2]
      constructor
      · rintro ⟨k, g1, g2, x, g3, g4⟩
        obtain ⟨a, ha, hr, _⟩ := hs.so k g2
        obtain ⟨y, hy1, hy2, _⟩ := ha.get
        rw [g3] at hy1; injection hy1 with hy1
        subst hy1
        rw [← g4, hy2]
        exact hr
      · intro hr
        have hm : has l m := by cases hr with | self => exact hn | step _ _ h => exact h
        obtain ⟨j, hj, hf⟩ := closed_all hs hc m hr hm
        obtain ⟨y, hy1, hy2, _⟩ := hj.get
        exact ⟨j, hj.lt, hf, y, hy1, hy2⟩
    · cases r with
      | nil => rfl
      | cons m r =>
        obtain ⟨k, g1, g2, _⟩ := (h2 m).1 (by simp)
        obtain ⟨_, _, _, hh⟩ := hs.so k g2
        exact absurd hh hn
theorem sAt_some {s : By8} {i : Int} (h0 : 0 ≤ i) (h1 : i < (s.size : Int)) : ∃ c, sAt s i = some c := by
  unfold sAt
  simp [h0, h1]
def Sml (c : Int) : Prop := 97 ≤ c ∧ c ≤ 122
def Wrd (c : Int) : Prop := (97 ≤ c ∧ c ≤ 122) ∨ (48 ≤ c ∧ c ≤ 57) ∨ c = 95
def Nmd (s : By8) : Prop := s.size ≤ 12 ∧ (∃ c, sAt s 0 = some c ∧ Sml c) ∧ ∀ (i : Nat) (c : Int), sAt s (i : Int) = some c → Wrd c
theorem sAt_lt {s : By8} {i : Nat} {c : Int} (h : sAt s (i : Int) = some c) : i < s.size := by
  unfold sAt at h
  rw [if_pos om, Int.toNat_natCast] at h
  cases hx : s[i]? with
  | none => rw [hx] at h; cases h
  | some b => exact (getElem?_eq_some_iff.1 hx).1
theorem size_pos {s : By8} (h : sEq s eB = false) : 0 < s.size := by
  rcases Nat.eq_zero_or_pos s.size with h0 | h0
  · exfalso
    have : s = eB := by
      cases s with
      | mk d => congr 1; exact Array.eq_empty_of_size_eq_zero h0
    rw [this, keq.refl] at h
    cases h
  · exact h0
theorem Nmd.pos {s : By8} (h : Nmd s) : 0 < s.size := by
  obtain ⟨_, ⟨c, hc, _⟩, _⟩ := h
  exact sAt_lt (i := 0) hc
theorem rall_spec {s t : By8} {f : Nat} (hs : s.size ≤ 100000) (ht : t.size ≤ 1000) : Ret (r09_all s (f : Int) t) (fun b => b = true ↔ ∀ (i : Nat) c, f ≤ i → sAt s (i : Int) = some c → ∃ j : Nat, sAt t (j : Int) = some c) := by
  unfold r09_all
  refine yd (R := fun r => (r = .inl false ∧ ∃ (i : Nat) (c : Int), f ≤ i ∧ sAt s (i : Int) = some c ∧ ∀ j : Nat, sAt t (j : Int) ≠ some c) ∨ (r = .inr () ∧ ∀ (i : Nat) c, f ≤ i → sAt s (i : Int) = some c → ∃ j : Nat, sAt t (j : Int) = some c)) (loopO_rb (fun (q : Int) => ∃ k : Nat, q = (k : Int) ∧ f ≤ k ∧ (k ≤ s.size ∨ k = f) ∧ ∀ (i : Nat) c, f ≤ i → i < k → sAt s (i : Int) = some c → ∃ j : Nat, sAt t (j : Int) = some c) (fun q => s.size + f + 1 - q.toNat) ?_ ⟨f, rfl, Nat.le_refl _, .inr rfl, by omega⟩) ?_
  · rintro q ⟨k, rfl, h1, h2, h3⟩
    refine yi (fun hc => ?_) (fun hc => yc (.inr ⟨rfl, fun i c hi hic => h3 i c hi (by have := sAt_lt hic; simp at hc; omega) hic⟩))
    have hk : k < s.size := by simp at hc; omega
    obtain ⟨c, hc⟩ := sAt_some (s := s) (i := (k : Int)) om om
    refine yd (R := fun b => b = true ↔ ∃ j : Nat, sAt t (j : Int) = some c) (loopO_rb (fun (q : Bool × Int) => ∃ j : Nat, q.2 = (j : Int) ∧ j ≤ t.size ∧ (q.1 = true ↔ ∃ m : Nat, m < j ∧ sAt t (m : Int) = some c)) (fun q => t.size - q.2.toNat) ?_ ⟨0, rfl, by omega, by simp⟩) ?_
    · rintro ⟨b, q⟩ ⟨j, g1, g2, g3⟩
      simp only at g1 g3
      subst g1
      refine yi (fun hj => ?_) (fun hj => yc ?_)
      · have hj : j < t.size := by simp at hj; omega
        obtain ⟨d, hd⟩ := sAt_some (s := t) (i := (j : Int)) om om
        simp only [hd, hc, obs]
        refine yd (R := fun b' => b' = true ↔ b = true ∨ d = c) (yi (fun e => yc (by simp [e])) (fun e => yc (by simp [e]))) ?_
        intro b' hb'
        refine yc ⟨⟨j + 1, by simp only; rw [w64_id om om]; rfl, hj, ?_⟩, by simp only; rw [w64_id om om]; omega⟩
        simp only
        rw [hb', g3]
        constructor
        · rintro (⟨m, h, e⟩ | rfl)
          · exact ⟨m, by omega, e⟩
          · exact ⟨j, by omega, hd⟩
        · rintro ⟨m, h, e⟩
          by_cases hm : m = j
          · subst hm; rw [hd] at e; injection e with e; exact .inr e
          · exact .inl ⟨m, by omega, e⟩
      · have : j = t.size := by simp at hj; omega
        subst this
        refine g3.trans ?_
        constructor
        · rintro ⟨m, _, e⟩; exact ⟨m, e⟩
        · rintro ⟨m, e⟩; exact ⟨m, sAt_lt e, e⟩
    · intro b hb
      refine yi (fun e => yc (.inl ⟨rfl, k, c, h1, hc, fun j hj => ?_⟩)) (fun e => yc ⟨⟨k + 1, by rw [w64_id om om]; rfl, by omega, .inl hk, fun i d hi hik hd => ?_⟩, by rw [w64_id om om]; omega⟩)
      · rw [hb.2 ⟨j, hj⟩] at e; cases e
      · by_cases hm : i = k
        · subst hm; rw [hc] at hd; injection hd with hd; subst hd; exact hb.1 (by simpa using e)
        · exact h3 i d hi om hd
  · rintro r (⟨rfl, i, c, h1, h2, h3⟩ | ⟨rfl, h⟩)
    · exact yc ⟨fun h => (by cases h), fun h => by obtain ⟨j, hj⟩ := h i c h1 h2; exact absurd hj (h3 j)⟩
    · exact yc ⟨fun _ => h, fun _ => rfl⟩
def nums (t : By8) : List Int := t.data.toList.map fun b => (b.toNat : Int)
theorem sAt_nums (t : By8) (c : Int) : (∃ j : Nat, sAt t (j : Int) = some c) ↔ c ∈ nums t := by
  have key : ∀ j : Nat, sAt t (j : Int) = (nums t)[j]? := fun j => by
    unfold sAt nums
    rw [if_pos om, Int.toNat_natCast, List.getElem?_map, Array.getElem?_toList]
    rfl
  rw [List.mem_iff_getElem?]
  constructor <;> rintro ⟨j, hj⟩ <;> exact ⟨j, by rw [← hj, key]⟩
theorem first_at {s : By8} (h0 : 0 < s.size) (i : Nat) (c : Int) : sAt (s.extract 0 1) (i : Int) = some c ↔ i = 0 ∧ sAt s 0 = some c := by
  have hs : (s.extract 0 1).size = 1 := by rw [ByteArray.size_extract]; omega
  constructor
  · intro h
    have hi := sAt_lt h
    have hi0 : i = 0 := by omega
    subst hi0
    refine ⟨rfl, ?_⟩
    unfold sAt at h ⊢
    rw [if_pos om] at h ⊢
    rw [← h]
    congr 1
    rw [Int.toNat_natCast]
    show s[0]? = _
    rw [getElem?_pos s 0 h0, getElem?_pos (s.extract 0 1) 0 om, ByteArray.getElem_extract]
  · rintro ⟨rfl, h⟩
    unfold sAt at h ⊢
    rw [if_pos om] at h ⊢
    rw [← h]
    congr 1
    rw [Int.toNat_natCast]
    show _ = s[0]?
    rw [getElem?_pos s 0 h0, getElem?_pos (s.extract 0 1) 0 om, ByteArray.getElem_extract]
theorem plain_ret {s : By8} (hs : s.size ≤ 100000) : ∃ b, r03_Plain s = some b := by
  refine Ret.ex (Q := fun _ => True) ?_ |>.imp fun r h => h.1
  unfold r03_Plain
  refine yd (loopO_rb (Q := fun _ => True) (fun (q : Int) => 0 ≤ q ∧ q ≤ (s.size : Int)) (fun q => ((s.size : Int) - q).toNat) ?_ ⟨by omega, by omega⟩) (fun t _ => by cases t <;> exact yc trivial)
  rintro q ⟨h1, h2⟩
  refine yi (fun hc => ?_) rt
  have hq : q < (s.size : Int) := by simpa using hc
  obtain ⟨c, hc⟩ := sAt_some h1 hq
  rw [hc]
  simp only [obs]
  refine yd (R := fun _ => True) (yi rt rt) (fun b _ => yi rt (fun _ => yc ⟨⟨?_, ?_⟩, ?_⟩)) <;> rw [w64_id om om] <;> omega
theorem rquoted_ret {s : By8} (hs : s.size ≤ 100000) (h0 : 0 < s.size) : ∃ b, r09_quoted s = some b := by
  refine Ret.ex (Q := fun _ => True) ?_ |>.imp fun r h => h.1
  unfold r09_quoted
  have hw : w64 ((s.size : Int) - 1) = ((s.size - 1 : Nat) : Int) := by rw [w64_id om om]; omega
  rw [hw]
  obtain ⟨c0, hc0⟩ := sAt_some (s := s) (i := 0) om om
  obtain ⟨c1, hc1⟩ := sAt_some (s := s) (i := ((s.size - 1 : Nat) : Int)) om om
  obtain ⟨p, hp⟩ := plain_ret hs
  rw [hc0, hc1, hp]
  simp only [obs]
  refine yd (R := fun _ => True) (yi rt rt) (fun _ _ => yd (R := fun _ => True) (yi rt rt) (fun _ _ => yd (R := fun _ => True) (yi rt rt) (fun _ _ => yi rt (fun _ => ?_))))
  refine yd (loopO_rb (Q := fun _ => True) (fun (q : Int × Int) => 1 ≤ q.2 ∧ (q.2 ≤ (s.size : Int) ∨ q.2 = 1)) (fun q => ((s.size : Int) + 1 - q.2).toNat) ?_ ⟨by simp, .inr rfl⟩) (fun t _ => by cases t <;> exact yc trivial)
  rintro ⟨n, q⟩ ⟨h1, h2⟩
  simp only at h1 h2
  refine yi (fun hc => ?_) rt
  have hq : q < (s.size : Int) := by simp at hc; omega
  obtain ⟨c, hc⟩ := sAt_some (s := s) om hq
  rw [hc]
  simp only [obs]
  refine yd (R := fun _ => True) (yi (fun _ => yi rt rt) rt) (fun t _ => ?_)
  cases t with
  | inl v => exact yc trivial
  | inr v =>
    refine yc ⟨⟨?_, .inl ?_⟩, ?_⟩ <;> simp only <;> rw [w64_id om om] <;> omega
theorem rsign_ret (s : By8) : ∃ b, r09_sign s = some b := by
  refine Ret.ex (Q := fun _ => True) ?_ |>.imp fun r h => h.1
  unfold r09_sign
  refine yd (R := fun _ => True) ?_ (fun b _ => yi rt rt)
  repeat first
    | exact yc trivial
    | refine yi rt (fun _ => yd (R := fun _ => True) ?_ (fun _ _ => yc trivial))
    | refine yi rt rt
theorem rname_spec {s : By8} (hs : s.size ≤ 100000) : ∃ b, r09_IsName s = some b ∧ (b = true ↔ Nmd s) := by
  refine Ret.ex ?_
  unfold r09_IsName
  refine yd (R := fun k => k = 1 ↔ Nmd s) ?_ (fun k hk => yc (by rw [beq_iff_eq]; exact hk))
  unfold r09_Kind
  refine yi (fun e => yc ⟨fun h => (by cases h), fun h => ?_⟩) (fun e => ?_)
  · have := h.pos
    rw [(keq _ _).1 e] at this
    cases this
  have h0 := size_pos e
  have hex : ssub s 0 1 = some (s.extract 0 1) := by
    unfold ssub
    rw [if_pos ⟨by omega, by omega, by omega⟩]
    rfl
  have hes : (s.extract 0 1).size ≤ 100000 := by rw [ByteArray.size_extract]; omega
  refine yd (R := fun b => b = true ↔ s.size ≤ 12 ∧ ∃ c, sAt s 0 = some c ∧ Sml c) (yi (fun hc => ?_) (fun hc => yc ⟨fun h => (by cases h), fun h => by simp at hc; omega⟩)) (fun b hb => ?_)
  · rw [hex]
    simp only [obs]
    refine yd (rall_spec (f := 0) hes (by decide)) (fun b hb => yc (hb.trans ?_))
    have h12 : s.size ≤ 12 := by simp at hc; omega
    obtain ⟨c, hc⟩ := sAt_some (s := s) (i := 0) om om
    have hm : (∃ j : Nat, sAt (⟨#[97, 98, 99, 100, 101, 102, 103, 104, 105, 106, 107, 108, 109, 110, 111, 112, 113, 114, 115, 116, 117, 118, 119, 120, 121, 122]⟩ : By8) (j : Int) = some c) ↔ Sml c := by
      rw [sAt_nums]
      simp only [nums, List.map_cons, List.map_nil, List.mem_cons, List.not_mem_nil, or_false, Sml]
      simp
      omega
    constructor
    · intro h
      exact ⟨h12, c, hc, hm.1 (h 0 c om ((first_at h0 0 c).2 ⟨rfl, hc⟩))⟩
    · rintro ⟨_, d, hd, hds⟩ i x _ hx
      obtain ⟨_, hx⟩ := (first_at h0 i x).1 hx
      rw [hc] at hx hd
      injection hx with hx; injection hd with hd
      subst hx hd
      exact hm.2 hds
  refine yd (R := fun b => b = true ↔ Nmd s) (yi (fun e => ?_) (fun e => yc ⟨fun h => (by cases h), fun h => ?_⟩)) (fun b hb => yi (fun e => yc ⟨fun _ => hb.1 e, fun _ => rfl⟩) (fun e => ?_))
  · obtain ⟨h12, c, hc, hcs⟩ := hb.1 e
    refine yd (rall_spec (f := 1) hs (by decide)) (fun b hb => yc (hb.trans ?_))
    have hm : ∀ x, (∃ j : Nat, sAt (⟨#[97, 98, 99, 100, 101, 102, 103, 104, 105, 106, 107, 108, 109, 110, 111, 112, 113, 114, 115, 116, 117, 118, 119, 120, 121, 122, 48, 49, 50, 51, 52, 53, 54, 55, 56, 57, 95]⟩ : By8) (j : Int) = some x) ↔ Wrd x := fun x => by
      rw [sAt_nums]
      simp only [nums, List.map_cons, List.map_nil, List.mem_cons, List.not_mem_nil, or_false, Wrd]
      simp
      omega
    constructor
    · intro h
      refine ⟨h12, ⟨c, hc, hcs⟩, fun i x hx => ?_⟩
      by_cases hi : i = 0
      · subst hi
        rw [show ((0 : Nat) : Int) = 0 from rfl, hc] at hx
        injection hx with hx
        subst hx
        exact .inl hcs
      · exact (hm x).1 (h i x om hx)
    · intro h i x _ hx
      exact (hm x).2 (h.2.2 i x hx)
  · have := hb.2 ⟨h.1, h.2.1⟩
    rw [e] at this
    cases this
  have hno : ¬ Nmd s := fun h => by rw [hb.2 h] at e; cases e
  refine RB.mono (Q := fun k => k ≠ 1) ?_ (fun k hk => ⟨fun h => absurd h hk, fun h => absurd h hno⟩)
  rw [hex]
  simp only [obs]
  have ra : ∀ (x t : By8) (f : Nat), x.size ≤ 100000 → t.size ≤ 1000 → ∃ b, r09_all x (f : Int) t = some b := fun x t f h1 h2 => by
    obtain ⟨b, hb, _⟩ := (rall_spec (s := x) (t := t) (f := f) h1 h2).ex
    exact ⟨b, hb⟩
  obtain ⟨b1, hb1⟩ := ra (s.extract 0 1) (⟨#[65, 66, 67, 68, 69, 70, 71, 72, 73, 74, 75, 76, 77, 78, 79, 80, 81, 82, 83, 84, 85, 86, 87, 88, 89, 90]⟩ : By8) 0 hes (by decide)
  obtain ⟨b2, hb2⟩ := ra s (⟨#[65, 66, 67, 68, 69, 70, 71, 72, 73, 74, 75, 76, 77, 78, 79, 80, 81, 82, 83, 84, 85, 86, 87, 88, 89, 90, 95]⟩ : By8) 1 hs (by decide)
  obtain ⟨b3, hb3⟩ := ra s (⟨#[48, 49, 50, 51, 52, 53, 54, 55, 56, 57]⟩ : By8) 0 hs (by decide)
  obtain ⟨b4, hb4⟩ := rquoted_ret hs h0
  obtain ⟨b5, hb5⟩ := rsign_ret s
  obtain ⟨c0, hc0⟩ := sAt_some (s := s) (i := 0) om om
  refine yd (R := fun _ => True) (yi (fun _ => ybi hb1 (yc trivial)) rt) (fun _ _ => ?_)
  refine yd (R := fun _ => True) (yi (fun _ => ybi hb2 (yc trivial)) rt) (fun _ _ => yi (fun _ => yc (by decide)) (fun _ => ?_))
  refine yd (R := fun _ => True) (yi (fun _ => ybi hb3 (yc trivial)) rt) (fun _ _ => ?_)
  refine yd (R := fun _ => True) (yi (fun _ => yd (R := fun _ => True) (yi rt (fun _ => by rw [hc0]; exact yc trivial)) (fun _ _ => yc trivial)) rt) (fun _ _ => yi (fun _ => yc (by decide)) (fun _ => ?_))
  rw [hb4]
  simp only [obs]
  refine yi (fun _ => yc (by decide)) (fun _ => ?_)
  refine yd (R := fun b => b = true → s.size = 2) (yi (fun hc => by rw [hc0]; exact yc (fun _ => by simp at hc; omega)) (fun _ => yc (fun h => by cases h))) (fun b hb => ?_)
  have at1 : s.size = 2 → ∃ c, sAt s 1 = some c := fun h => sAt_some om om
  refine yd (R := fun b => b = true → s.size = 2) (yi (fun e => by obtain ⟨c, hc⟩ := at1 (hb e); rw [hc]; exact yc (fun _ => hb e)) (fun _ => yc (fun h => by cases h))) (fun b hb => ?_)
  refine yd (R := fun _ => True) (yi (fun e => by obtain ⟨c, hc⟩ := at1 (hb e); rw [hc]; exact yc trivial) rt) (fun _ _ => yi (fun _ => yc (by decide)) (fun _ => ?_))
  rw [hb5]
  simp only [obs]
  exact yi (fun _ => yc (by decide)) (fun _ => yc (by decide))
mutual
def esz (e : qE) : Nat := match e with | ⟨_, _, _, _, ks⟩ => 1 + eszL ks
def eszL (l : List qE) : Nat := match l with | [] => 0 | x :: xs => esz x + eszL xs
end
mutual
def eok (e : qE) : Prop := match e with | ⟨_, _, v, n, ks⟩ => n.size ≤ 100 ∧ v.S.size ≤ 100 ∧ eokL ks
def eokL (l : List qE) : Prop := match l with | [] => True | x :: xs => eok x ∧ eokL xs
end
theorem esz_eq (e : qE) : esz e = 1 + eszL e.Kids := by cases e; rw [esz]
theorem esz_mem {l : List qE} {x : qE} (h : x ∈ l) : esz x ≤ eszL l := by
  induction h with
  | head => rw [eszL]; omega
  | tail _ _ ih => rw [eszL]; omega
theorem eok_eq {e : qE} : eok e ↔ e.Name.size ≤ 100 ∧ e.V.S.size ≤ 100 ∧ eokL e.Kids := by cases e; rw [eok]
theorem eokL_iff {l : List qE} : eokL l ↔ ∀ x ∈ l, eok x := by
  induction l with
  | nil => rw [eokL]; simp
  | cons x r ih => rw [eokL, ih]; simp
theorem kid_sz {e x : qE} (h : x ∈ e.Kids) : esz x < esz e := by
  have := esz_mem h
  rw [esz_eq e]
  omega
theorem esz_pos (e : qE) : 0 < esz e := by rw [esz_eq]; omega
theorem eszL_len : ∀ l : List qE, l.length ≤ eszL l
  | [] => Nat.zero_le _
  | x :: xs => by
    have := eszL_len xs
    have := esz_pos x
    rw [eszL]
    simp only [List.length_cons]
    omega
theorem height_fu {b : Prop} : ∀ (n : Nat) (e : qE), (b → esz e ≤ n) → RB b (r10_Height_fu n e) TT
  | 0, e, h => ybg fun hb => by have := h hb; have := esz_pos e; omega
  | n + 1, e, h => by
    unfold r10_Height_fu
    refine yd (R := TT) (forE_tt fun j s hj => yah hj fun x _ hx => yd (height_fu n x fun hb => by have := h hb; have := kid_sz hx; omega) fun r _ => ?_) fun s _ => yc trivial
    refine yd (R := TT) ?_ fun s _ => yc trivial
    exact yi rt rt
theorem height_tt {b : Prop} (e : qE) : RB b (r10_Height e) TT := fuel_tt (esz e) fun n => height_fu n e fun h => h
theorem eszL_app : ∀ a c : List qE, eszL (a ++ c) = eszL a + eszL c
  | [], c => by simp [eszL]
  | x :: xs, c => by rw [List.cons_append, eszL, eszL, eszL_app xs c]; omega
theorem take_next {α : Type} {xs : List α} {j : Nat} {x : α} (h : xs[j]? = some x) : xs.take (j + 1) = xs.take j ++ [x] := by
  rw [List.take_add_one, h]
  rfl
theorem eszL_next {xs : List qE} {j : Nat} {x : qE} (h : xs[j]? = some x) : eszL (xs.take (j + 1)) = eszL (xs.take j) + esz x := by
  rw [take_next h, eszL_app, eszL, eszL, Nat.add_zero]
theorem count_fu {b : Prop} : ∀ (n : Nat) (e : qE) (k : Int), (b → esz e ≤ n) → k ≤ 1000 → RB b (r10_count_fu n e k) (fun r => r.2 = true → 0 ≤ r.1 ∧ r.1 + (esz e : Int) ≤ k ∧ eok e)
  | 0, e, k, h, _ => ybg fun hb => by have := h hb; have := esz_pos e; omega
  | n + 1, e, k, h, hk => by
    unfold r10_count_fu
    refine yaj (yaj (yi (fun _ => yc fun h => by cases h) fun hc => ?_))
    simp only [Bool.or_eq_false_iff, decide_eq_false_iff_not] at hc
    obtain ⟨⟨⟨h1, h2⟩, h3⟩, h4⟩ := hc
    have e0 : w64 (k - 1) = k - 1 := w64_id om om
    rw [e0]
    refine yd (forN_ret (fun j s => 0 ≤ s ∧ s + (eszL (e.Kids.take j) : Int) ≤ k - 1 ∧ ∀ x ∈ e.Kids.take j, eok x) (Q := fun r => r.2 = false) ⟨by omega, by simp [eszL], by simp⟩ ?_) ?_
    · rintro j s hj ⟨g1, g2, g3⟩
      refine yah hj fun x hx hm => ?_
      have hs : s ≤ 1000 := by omega
      refine yd (count_fu n x s (fun hb => by have := h hb; have := kid_sz hm; omega) hs) ?_
      rintro ⟨u, c⟩ hr
      refine yi (fun hc => yc rfl) fun hc => yc ?_
      simp only [Bool.not_eq_false'] at hc
      obtain ⟨q1, q2, q3⟩ := hr hc
      refine ⟨q1, ?_, ?_⟩
      · rw [eszL_next hx]
        simp only at q2
        omega
      · rw [take_next hx]
        intro y hy
        rcases List.mem_append.1 hy with hy | hy
        · exact g3 y hy
        · simp at hy; subst hy; exact q3
    · rintro t ht
      cases t with
      | inl s =>
        obtain ⟨g1, g2, g3⟩ := ht
        rw [List.take_length] at g2 g3
        refine yc fun _ => ⟨g1, ?_, eok_eq.2 ⟨by omega, by omega, eokL_iff.2 g3⟩⟩
        rw [esz_eq]
        simp only
        omega
      | inr r =>
        obtain ⟨r1, r2⟩ := r
        simp only at ht
        subst ht
        exact yc fun h => by cases h
def Es (e : qE) : Prop := esz e ≤ 60 ∧ eok e
theorem efew_rb {b : Prop} (e : qE) : RB b (r10_Few e 60) (fun r => r = true → Es e) := by
  unfold r10_Few r10_count
  refine yd (fuel_tt (esz e) fun n => count_fu n e 60 (fun h => h) om) ?_
  rintro ⟨u, c⟩ hr
  refine yc fun h => ?_
  obtain ⟨q1, q2, q3⟩ := hr h
  simp only at q2
  exact ⟨by omega, q3⟩
theorem samelist_tt {b : Prop} {f : qE → qE → Option Bool} {p q : List qE} (h : ∀ x ∈ p, ∀ y, RB b (f x y) TT) : RB b (r10_SameList f p q) TT := by
  unfold r10_SameList
  refine yi rt fun hc => ?_
  have hl : p.length = q.length := by simp at hc; omega
  refine yd (R := TT) (forN_tt fun j s hj => yah hj fun x _ hx => yah om fun y _ _ => yd (h x hx y) fun r _ => yi rt rt) ?_
  rintro (_ | _) _ <;> exact yc trivial
theorem esame_fu {b : Prop} : ∀ (n : Nat) (e d : qE), (b → esz e ≤ n) → RB b (r10_Same_fu n e d) TT
  | 0, e, d, h => ybg fun hb => by have := h hb; have := esz_pos e; omega
  | n + 1, e, d, h => by
    unfold r10_Same_fu
    refine yaj (yi rt fun _ => yd (samelist_tt fun x hx y => esame_fu n x y fun hb => by have := h hb; have := kid_sz hx; omega) fun r _ => yc trivial)
theorem none_tt {b : Prop} (e : qE) : RB b (r12_None e) TT := by
  unfold r12_None r10_Same
  exact yd (fuel_tt (esz e) fun n => esame_fu n e z_qE fun h => h) fun r _ => yc trivial
theorem parts_fu {b : Prop} : ∀ (n : Nat) (e : qE), esz e ≤ 1000 → (b → esz e ≤ n) → RB b (r10_Parts_fu n e) (fun l => l.length ≤ esz e ∧ ∀ x ∈ l, eok e → eok x)
  | 0, e, _, h => ybg fun hb => by have := h hb; have := esz_pos e; omega
  | n + 1, e, hz, h => by
    unfold r10_Parts_fu
    refine yd (forE_ret (fun j (s : List qE) => s.length ≤ 1 + eszL (e.Kids.take j) ∧ ∀ x ∈ s, eok e → eok x) ⟨by simp [eszL], by simp⟩ ?_) ?_
    · rintro j s hj ⟨g1, g2⟩
      refine yah hj fun x hx hm => ?_
      have hx1 := kid_sz hm
      refine yd (parts_fu n x om fun hb => by have := h hb; omega) ?_
      rintro r ⟨r1, r2⟩
      have hle : eszL (e.Kids.take (j + 1)) ≤ eszL e.Kids := by
        have := eszL_app (e.Kids.take (j + 1)) (e.Kids.drop (j + 1))
        rw [List.take_append_drop] at this
        omega
      have h1 := esz_eq e
      rw [eszL_next hx] at hle
      refine yax om (yc ⟨by rw [eszL_next hx, List.length_append]; omega, fun y hy ho => ?_⟩)
      rcases List.mem_append.1 hy with hy | hy
      · exact g2 y hy ho
      · exact r2 y hy (eokL_iff.1 (eok_eq.1 ho).2.2 x hm)
    · rintro s ⟨g1, g2⟩
      rw [List.take_length] at g1
      exact yc ⟨by rw [esz_eq]; omega, g2⟩
theorem parts_rb {b : Prop} {e : qE} (hz : esz e ≤ 1000) : RB b (r10_Parts e) (fun l => l.length ≤ esz e ∧ ∀ x ∈ l, eok e → eok x) := by
  unfold r10_Parts
  exact fuel_tt (esz e) fun n => parts_fu n e hz fun h => h
theorem params_tt {b : Prop} {e : qE} (hz : esz e ≤ 1000) : RB b (r10_Params e) TT := by
  unfold r10_Params
  refine yd (parts_rb hz) fun l _ => yd (R := TT) (forE_tt fun j s hj => yah hj fun x _ _ => yd (R := TT) ?_ fun c _ => yd (R := TT) ?_ fun _ _ => yc trivial) fun _ _ => yc trivial
  · exact yi (fun _ => yah hj fun _ _ _ => yc trivial) rt
  · exact yi (fun _ => yah hj fun _ _ _ => yc trivial) rt
theorem enames_rb {b : Prop} {e : qE} (hz : esz e ≤ 1000) : RB b (r10_Names e) (fun l => l.length ≤ 1000) := by
  unfold r10_Names
  refine yd (parts_rb hz) ?_
  rintro l ⟨hl, _⟩
  refine yd (forE_ret (fun j (s : List By8) => s.length ≤ j) (by simp) ?_) fun s hs => yc om
  rintro j s hj hs
  refine yah hj fun x _ _ => yd (R := TT) (forE_tt fun i c hi => yd (R := TT) (yi rt fun _ => yah hi fun _ _ _ => yah hj fun _ _ _ => yc trivial) fun _ _ => yc trivial) fun c _ => ?_
  refine yd (R := fun (s' : List By8) => s'.length ≤ j + 1) ?_ fun s' h => yc h
  refine yi (fun _ => yah hj fun _ _ _ => yax (by simp only [List.length_cons, List.length_nil]; omega) (yc (by simp; omega))) fun _ => yc om
theorem rname_tt {b : Prop} {s : By8} (hs : s.size ≤ 100) : RB b (r09_IsName s) TT := by
  obtain ⟨r, hr, _⟩ := rname_spec (s := s) om
  exact ybm hr trivial
theorem vright_tt {b : Prop} {v : qV} (hs : v.S.size ≤ 100) : RB b (r03_Right v) TT := by
  unfold r03_Right
  refine yi rt fun _ => yi rt fun _ => yi (fun _ => yaj (yc trivial)) fun _ => yi (fun _ => ?_) fun _ => yc trivial
  refine yd (R := TT) (yi (fun _ => ?_) fun _ => yc trivial) fun _ _ => yc trivial
  obtain ⟨r, hr⟩ := plain_ret (s := v.S) om
  rw [hr]
  exact yc trivial
mutual
def ert (e : qE) : Prop := match e with | ⟨k, o, _, _, ks⟩ => (k = 6 → 2 ≤ ks.length) ∧ (k = 3 → 1 ≤ o ∧ o ≤ 6) ∧ (k = 8 → 0 ≤ o ∧ o ≤ 5) ∧ ertL ks
def ertL (l : List qE) : Prop := match l with | [] => True | x :: xs => ert x ∧ ertL xs
end
theorem ert_eq {e : qE} : ert e ↔ (e.Kind = 6 → 2 ≤ e.Kids.length) ∧ (e.Kind = 3 → 1 ≤ e.Op ∧ e.Op ≤ 6) ∧ (e.Kind = 8 → 0 ≤ e.Op ∧ e.Op ≤ 5) ∧ ertL e.Kids := by cases e; rw [ert]
theorem ertL_iff {l : List qE} : ertL l ↔ ∀ x ∈ l, ert x := by
  induction l with
  | nil => rw [ertL]; simp
  | cons x r ih => rw [ertL, ih]; simp
theorem right_fu {b : Prop} : ∀ (n : Nat) (e : qE) (s : Bool), eok e → (b → esz e ≤ n) → RB b (r10_Right_fu n e s) (fun r => r = true → ert e)
  | 0, e, s, _, h => ybg fun hb => by have := h hb; have := esz_pos e; omega
  | n + 1, e, s, ho, h => by
    obtain ⟨o1, o2, o3⟩ := eok_eq.1 ho
    have o3 := eokL_iff.1 o3
    unfold r10_Right_fu
    refine yd (forN_ret (fun j _ => ∀ x ∈ e.Kids.take j, ert x) (Q := fun r => r = false) (by simp) ?_) ?_
    · rintro j _ hj g
      refine yah hj fun x hx hm => yd (right_fu n x s (o3 x hm) fun hb => by have := h hb; have := kid_sz hm; omega) fun r hr => yi (fun _ => yc rfl) fun hc => yc ?_
      simp only [Bool.not_eq_false'] at hc
      rw [take_next hx]
      intro y hy
      rcases List.mem_append.1 hy with hy | hy
      · exact g y hy
      · simp at hy; subst hy; exact hr hc
    · rintro t ht
      cases t with
      | inr r => exact yc fun h => by subst h; cases ht
      | inl u =>
        rw [List.take_length] at ht
        have hk := ertL_iff.2 ht
        have fin : ∀ {c : Bool}, (c = true → (e.Kind = 6 → 2 ≤ e.Kids.length) ∧ (e.Kind = 3 → 1 ≤ e.Op ∧ e.Op ≤ 6) ∧ (e.Kind = 8 → 0 ≤ e.Op ∧ e.Op ≤ 5)) → c = true → ert e := fun hq hc => ert_eq.2 ⟨(hq hc).1, (hq hc).2.1, (hq hc).2.2, hk⟩
        refine yaj (yaj (yi (fun _ => yc fun h => by cases h) fun _ => yaj (yi (fun _ => yc fun h => by cases h) fun _ => yi (fun k => ?_) fun k1 => yi (fun k => ?_) fun k2 => yi (fun k => yaj (yc (fin fun hq => ?_))) fun k3 => yi (fun k => yaj (yc (fin fun hq => ?_))) fun k4 => yi (fun k => yaj (yc (fin fun hq => ?_))) fun k5 => yi (fun k => yaj (yc (fin fun hq => ?_))) fun k6 => yi (fun k => yaj (yaj (yc (fin fun hq => ?_)))) fun k7 => yi (fun k => yaj (yc (fin fun hq => ?_))) fun k8 => yc fun h => by cases h)))
        · refine yd (R := TT) (yi (fun _ => yd (vright_tt o2) fun _ _ => yc trivial) fun _ => yc trivial) fun c _ => yc (fin fun hq => ?_)
          simp only [beq_iff_eq] at k
          exact ⟨fun h => by omega, fun h => by omega, fun h => by omega⟩
        · refine yd (R := TT) (yi (fun _ => yd (rname_tt o1) fun _ _ => yc trivial) fun _ => yc trivial) fun c _ => yc (fin fun hq => ?_)
          simp only [beq_iff_eq] at k
          exact ⟨fun h => by omega, fun h => by omega, fun h => by omega⟩
        all_goals
          simp only [beq_iff_eq, Bool.and_eq_true, decide_eq_true_eq] at k hq
          exact ⟨fun h => by omega, fun h => by omega, fun h => by omega⟩
theorem echeck_rb {b : Prop} {e : qE} (s : Bool) (ho : eok e) : RB b (r10_Check e s) (fun r => r = 0 → ert e) := by
  unfold r10_Check r10_Right
  refine yd (height_tt e) fun k _ => yi (fun _ => yc fun h => by cases h) fun _ => yd (fuel_tt (esz e) fun n => right_fu n e s ho fun h => h) fun r hr => yi (fun _ => yc fun h => by cases h) fun hc => yc fun _ => hr (by simpa using hc)
theorem col_rb {b : Prop} (t : qT) (n : By8) : RB b (r14_Col t n) (fun r => r = -1 ∧ (∀ x ∈ t.Cols, x.Name ≠ n) ∨ 0 ≤ r ∧ r < (t.Cols.length : Int)) := by
  unfold r14_Col
  refine yd (forN_ret (fun j _ => ∀ x ∈ t.Cols.take j, x.Name ≠ n) (Q := fun r => 0 ≤ r ∧ r < (t.Cols.length : Int)) (by simp) ?_) ?_
  · rintro j _ hj g
    refine yah hj fun x hx _ => yi (fun _ => yc ⟨by omega, by omega⟩) fun hc => yc ?_
    rw [take_next hx]
    intro y hy
    rcases List.mem_append.1 hy with hy | hy
    · exact g y hy
    · simp at hy
      subst hy
      intro he
      rw [sEq_iff.2 he] at hc
      cases hc
  · rintro t ht
    cases t with
    | inl u => rw [List.take_length] at ht; exact yc (.inl ⟨rfl, ht⟩)
    | inr r => exact yc (.inr ht)
theorem place_fu {b : Prop} (t : qT) : ∀ (n : Nat) (e : qE), esz e ≤ 1000 → (b → esz e ≤ n) → RB b (r15_Place_fu n t e) (fun r => esz r ≤ esz e ∧ (eok e → eok r))
  | 0, e, _, h => ybg fun hb => by have := h hb; have := esz_pos e; omega
  | n + 1, e, hz, h => by
    unfold r15_Place_fu
    refine yi (fun _ => yd (col_rb t e.Name) fun r _ => yc ⟨?_, fun _ => ?_⟩) fun _ => ?_
    · have := esz_pos e
      rw [esz_eq]
      show 1 + eszL [] ≤ esz e
      rw [eszL]
      omega
    · refine eok_eq.2 ⟨by show (0 : Nat) ≤ 100; omega, by show (0 : Nat) ≤ 100; omega, ?_⟩
      show eokL []
      rw [eokL]
      trivial
    · refine yd (forE_ret (fun j (s : List qE) => s.length ≤ j ∧ eszL s ≤ eszL (e.Kids.take j) ∧ (eok e → eokL s)) ⟨by simp, by simp [eszL], by simp [eokL]⟩ ?_) ?_
      · rintro j s hj ⟨g0, g1, g2⟩
        refine yah hj fun x hx hm => ?_
        have hx1 := kid_sz hm
        have hkl := eszL_len e.Kids
        have h1 := esz_eq e
        refine yd (place_fu t n x om fun hb => by have := h hb; omega) ?_
        rintro r ⟨r1, r2⟩
        refine yax (by simp only [List.length_cons, List.length_nil]; omega) (yc ⟨by simp; omega, by rw [eszL_next hx, eszL_app, eszL, eszL]; omega, fun ho => eokL_iff.2 fun y hy => ?_⟩)
        rcases List.mem_append.1 hy with hy | hy
        · exact eokL_iff.1 (g2 ho) y hy
        · simp at hy; subst hy; exact r2 (eokL_iff.1 (eok_eq.1 ho).2.2 x hm)
      · rintro s ⟨_, g1, g2⟩
        rw [List.take_length] at g1
        exact yc ⟨by rw [esz_eq, esz_eq]; simp only; omega, fun ho => eok_eq.2 ⟨(eok_eq.1 ho).1, (eok_eq.1 ho).2.1, g2 ho⟩⟩
theorem resolve_rb {b : Prop} (t : qT) {e : qE} (hz : esz e ≤ 1000) (ho : eok e) : RB b (r15_Resolve t e) (fun r => r.2 = 0 → esz r.1 ≤ 1000 ∧ eok r.1) := by
  unfold r15_Resolve r15_Place
  refine yd (echeck_rb false ho) fun r _ => yi (fun hc => yc fun h => by simp only at h; subst h; cases hc) fun _ => yd (enames_rb hz) fun l _ => ?_
  refine yd (forN_ret (fun _ _ => True) (Q := fun r => r.1 = 4) trivial fun j s hj _ => yah hj fun x _ _ => yd (col_rb t x) fun _ _ => yi (fun _ => yc rfl) rt) ?_
  rintro (s | ⟨s1, s2⟩) hs
  · exact yd (fuel_tt (esz e) fun n => place_fu t n e hz fun h => h) fun r hr => yc fun _ => ⟨Nat.le_trans hr.1 hz, hr.2 ho⟩
  · simp only at hs
    subst hs
    exact yc fun h => by cases h
theorem first_tt {b : Prop} (l : List Int) : RB b (r15_first l) TT := by
  unfold r15_first
  refine yd (R := TT) (forN_tt fun j s hj => yah hj fun _ _ _ => yi (fun _ => yah hj fun _ _ _ => yc trivial) rt) ?_
  rintro (_ | _) _ <;> exact yc trivial
theorem all_tt {b : Prop} (l : List Int) (k : Int) : RB b (r15_all l k) TT := by
  unfold r15_all
  refine yd (R := TT) (forN_tt fun j s hj => yah hj fun _ _ _ => yd (R := TT) (yi (fun _ => yah hj fun _ _ _ => yc trivial) rt) fun _ _ => yi rt rt) ?_
  rintro (_ | _) _ <;> exact yc trivial
theorem made_tt {b : Prop} {e : qE} {l : List Int} (h : e.Kind = 6 → 0 < l.length) : RB b (r15_made e l) TT := by
  unfold r15_made
  have h6 : ∀ {α : Type} {f : Int → Option α} {Q : α → Prop}, (e.Kind == 6) = true → (∀ x, RB b (f x) Q) → RB b ((idx l 0).bind f) Q := fun hk hf => yah (i := 0) (h (by simpa using hk)) fun x _ _ => hf x
  refine yi rt fun _ => yaj (yd (R := TT) ?_ ?_)
  · refine yi rt fun _ => yd (R := TT) (yi (fun _ => yd (first_tt l) fun _ _ => yc trivial) fun _ => yd (R := TT) (yi rt fun _ => yd (R := TT) (yi (fun k => h6 k fun _ => yc trivial) rt) fun c _ => yi rt fun _ => yd (R := TT) (yi (fun k => h6 k fun _ => yc trivial) fun _ => yaj (yd (R := TT) (yi rt fun _ => yaj (yd (R := TT) (yi (fun _ => yd (first_tt l) fun _ _ => yd (first_tt l) fun _ _ => yc trivial) rt) ?_)) ?_)) ?_) ?_) ?_
    all_goals first | (rintro (⟨_, _⟩ | _) _ <;> exact yc trivial; done) | (rintro ⟨_, _⟩ _; exact yc trivial)
  · rintro (⟨k, m⟩ | _) _
    · exact yd (all_tt l k) fun _ _ => yi rt rt
    · exact yc trivial
theorem find_fu {b : Prop} (cols : List Int) : ∀ (n : Nat) (e : qE), esz e ≤ 1000 → ert e → (b → esz e ≤ n) → RB b (r15_find_fu n e cols []) TT
  | 0, e, _, _, h => ybg fun hb => by have := h hb; have := esz_pos e; omega
  | n + 1, e, hz, he, h => by
    obtain ⟨e6, e3, e8, ek⟩ := ert_eq.1 he
    have hkl := eszL_len e.Kids
    have h1 := esz_eq e
    unfold r15_find_fu
    refine yi rt fun _ => yi rt fun _ => yd (R := fun (p : List Int × Int) => e.Kind = 3 ∨ e.Kind = 8 → 0 ≤ p.2) ?_ ?_
    · refine yi (fun k => yc fun _ => ?_) (fun k => yc fun hk => ?_)
      · have := e3 (by simpa using k)
        show 0 ≤ w64 (e.Op - 1)
        rw [w64_id om om]
        omega
      · rcases hk with hk | hk
        · rw [hk] at k; cases k
        · exact (e8 hk).1
    · rintro ⟨p, q⟩ hq
      refine yi (fun hk => ?_) fun _ => ?_
      · have h0 : 0 ≤ q := hq (by simpa using hk)
        refine yi rt fun hc => ?_
        have hl : q < (p.length : Int) := by simpa using hc
        exact ybc h0 hl fun _ _ _ => yd (R := TT) (yi rt fun _ => ybc h0 hl fun _ _ _ => yc trivial) fun _ _ => yi rt fun _ => ybc h0 hl fun _ _ _ => yc trivial
      · refine yd (forN_ret (fun j (s : List Int) => s.length = j) (Q := fun _ => True) rfl ?_) ?_
        · rintro j s hj hs
          refine yah hj fun x hx hm => yd (find_fu cols n x (by have := kid_sz hm; omega) (ertL_iff.1 ek x hm) fun hb => by have := h hb; have := kid_sz hm; omega) ?_
          rintro ⟨r1, r2⟩ _
          exact yi rt fun _ => yax (by simp only [List.length_cons, List.length_nil]; omega) (yc (by simp [hs]))
        · rintro (s | ⟨_, _⟩) hs
          · refine yd (made_tt fun k => ?_) fun _ _ => yi rt rt
            have := e6 k
            simp only at hs
            omega
          · exact yc trivial
theorem bool_tt {b : Prop} {e : qE} (cols : List Int) (hz : esz e ≤ 1000) (ho : eok e) : RB b (r15_Bool e cols []) TT := by
  unfold r15_Bool r15_Type r15_find
  refine yd (R := TT) (yd (echeck_rb true ho) fun r hr => yi rt fun hc => yd (fuel_tt (esz e) fun n => find_fu cols n e hz (hr (by simpa using hc)) fun h => h) ?_) ?_
  · rintro ⟨_, _⟩ _; exact yc trivial
  · rintro ⟨_, _⟩ _; exact yi rt fun _ => yi rt rt
structure TB (n : Nat) (t : qT) : Prop where
  cols : t.Cols.length ≤ n
  cons : t.Cons.length ≤ n
  idx : t.Idx.length ≤ n
  nm : t.Name.size ≤ 100
  ow : t.Owner.size ≤ 100
  cn : ∀ x ∈ t.Cols, x.Name.size ≤ 100
  xs : ∀ x ∈ t.Cons, x.Name.size ≤ 100 ∧ x.Table.size ≤ 100 ∧ x.Cols.length ≤ n ∧ x.Refs.length ≤ n ∧ Es x.Check
  is : ∀ x ∈ t.Idx, x.Name.size ≤ 100 ∧ x.Cols.length ≤ n
theorem TB.up {n m : Nat} {t : qT} (h : TB n t) (hm : n ≤ m) : TB m t :=
  ⟨by have := h.cols; omega, by have := h.cons; omega, by have := h.idx; omega, h.nm, h.ow, h.cn, fun x hx => by obtain ⟨a, b, c, d, e⟩ := h.xs x hx; exact ⟨a, b, by omega, by omega, e⟩, fun x hx => by obtain ⟨a, b⟩ := h.is x hx; exact ⟨a, by omega⟩⟩
theorem has_rb {b : Prop} (xs : List By8) (n : By8) : RB b (r14_Has xs n) (fun r => r = true ↔ n ∈ xs) := RB.ex (has_eq xs n)
theorem grow {α β : Type} {b : Prop} {k : Nat} (g : α → β) {xs : List α} {s0 : List β} (hk : (s0.length + xs.length) * k ≤ 140737488355328) {step : Nat → List β → Option (List β)} (h : ∀ j s x, xs[j]? = some x → step j s = (app k s [g x]).bind fun y => some y) :
    RB b (forE step xs.length 0 s0) (fun r => r = s0 ++ xs.map g) := by
  refine (forE_ret (fun j s => s = s0 ++ (xs.take j).map g) (by simp) ?_).mono fun r hr => by rw [hr, List.take_length]
  rintro j s hj rfl
  rw [h j _ _ (gE hj)]
  refine yax ?_ (yc ?_)
  · refine Nat.le_trans (Nat.mul_le_mul_right k ?_) hk
    simp
    omega
  · rw [take_next (gE hj), List.map_append, List.map_cons, List.map_nil, List.append_assoc]
theorem tnames_rb {b : Prop} {n : Nat} {t : qT} (h : TB n t) (hn : n ≤ 1000) : RB b (r14_Names t) (fun r => r.1 = t.Cols.map (·.Name) ∧ r.2 = t.Cons.map (·.Name) ++ t.Idx.map (·.Name)) := by
  have h1 := h.cols
  have h2 := h.cons
  have h3 := h.idx
  unfold r14_Names
  refine yd (grow (k := 16) (fun (x : qL) => x.Name) (by simp; omega) fun j s x hx => by rw [idx_nat, hx]; rfl) ?_
  rintro _ rfl
  refine yd (grow (k := 16) (fun (x : qK) => x.Name) (by simp; omega) fun j s x hx => by rw [idx_nat, hx]; rfl) ?_
  rintro _ rfl
  refine yd (grow (k := 16) (fun (x : qI) => x.Name) (by simp; omega) fun j s x hx => by rw [idx_nat, hx]; rfl) ?_
  rintro _ rfl
  exact yc ⟨by simp, by simp⟩
theorem tlists_rb {b : Prop} {n : Nat} {t : qT} (h : TB n t) (hn : n ≤ 1000) : RB b (r14_lists t) (fun r => r = t.Cons.map (·.Cols) ++ t.Idx.map (·.Cols)) := by
  have h2 := h.cons
  have h3 := h.idx
  unfold r14_lists
  refine yd (grow (k := 24) (fun (x : qK) => x.Cols) (by simp; omega) fun j s x hx => by rw [idx_nat, hx]; rfl) ?_
  rintro _ rfl
  refine yd (grow (k := 24) (fun (x : qI) => x.Cols) (by simp; omega) fun j s x hx => by rw [idx_nat, hx]; rfl) ?_
  rintro _ rfl
  exact yc (by simp)
theorem lists_len {n : Nat} {t : qT} (h : TB n t) {l : List By8} (hl : l ∈ t.Cons.map (·.Cols) ++ t.Idx.map (·.Cols)) : l.length ≤ n := by
  rcases List.mem_append.1 hl with hl | hl
  · obtain ⟨x, hx, rfl⟩ := List.mem_map.1 hl
    exact (h.xs x hx).2.2.1
  · obtain ⟨x, hx, rfl⟩ := List.mem_map.1 hl
    exact (h.is x hx).2
theorem used_rb {b : Prop} {n : Nat} {t : qT} (h : TB n t) (hn : n ≤ 1000) : RB b (r14_Used t) (fun r => ∀ x ∈ t.Cons, ∀ s ∈ x.Cols, s ∈ r) := by
  have h2 := h.cons
  have h3 := h.idx
  unfold r14_Used
  refine yd (tlists_rb h hn) ?_
  rintro r rfl
  have hlen : (t.Cons.map (·.Cols) ++ t.Idx.map (·.Cols)).length ≤ 2000 := by simp; omega
  generalize hL : t.Cons.map (·.Cols) ++ t.Idx.map (·.Cols) = L at hlen ⊢
  refine yd (forE_ret (fun j (s : List By8) => s.length ≤ j * 1000 ∧ ∀ l ∈ L.take j, ∀ x ∈ l, x ∈ s) ⟨by simp, by simp⟩ ?_) ?_
  · rintro j s hj ⟨g1, g2⟩
    refine yah hj fun l hl hm => ?_
    have hll : l.length ≤ n := lists_len h (by rw [hL]; exact hm)
    refine yax om (yc ⟨by simp; omega, ?_⟩)
    rw [take_next hl]
    intro l' hl' x hx
    rcases List.mem_append.1 hl' with hl' | hl'
    · exact List.mem_append_left _ (g2 l' hl' x hx)
    · simp at hl'; subst hl'; exact List.mem_append_right _ hx
  · rintro s ⟨g1, g2⟩
    rw [List.take_length] at g2
    refine yd (forE_ret (fun j (u : List By8) => u.length ≤ (2000 + j) * 1000 ∧ ∀ x ∈ s, x ∈ u) ⟨by omega, fun x hx => hx⟩ ?_) ?_
    · rintro j u hj ⟨k1, k2⟩
      refine yah hj fun x _ hm => yd (R := fun (v : List By8) => v.length ≤ (2000 + (j + 1)) * 1000 ∧ ∀ x ∈ s, x ∈ v) ?_ fun v hv => yc hv
      refine yi (fun _ => yah hj fun y _ hm' => ?_) fun _ => yc ⟨by omega, k2⟩
      have hz : esz y.Check ≤ 1000 := Nat.le_trans (h.xs y hm').2.2.2.2.1 om
      refine yd (enames_rb hz) fun v hv => ?_
      have hv : v.length ≤ 1000 := hv
      refine yax ?_ (yc ⟨by rw [List.length_append]; omega, fun z hz => List.mem_append_left _ (k2 z hz)⟩)
      have : u.length + v.length ≤ 4000000 := by omega
      omega
    · rintro u ⟨_, k2⟩
      refine yc fun x hx z hz => k2 z (g2 x.Cols ?_ z hz)
      rw [← hL]
      exact List.mem_append_left _ (List.mem_map_of_mem hx)
theorem twice_tt {b : Prop} (l : List By8) : RB b (r14_twice l) TT := by
  unfold r14_twice
  refine yd (R := TT) (forN_tt fun j s hj => ?_) ?_
  · rw [sub_at (xs := l) (lo := 0) (hi := (j : Int)) (i := 0) (j := j) rfl rfl om om]
    exact yah hj fun _ _ _ => yd (has_rb _ _) fun _ _ => yi rt rt
  · rintro (_ | _) _ <;> exact yc trivial
theorem forN_q {σ τ : Type} {b : Prop} {step : Nat → σ → Option (σ ⊕ τ)} {n : Nat} {s : σ} {Q : τ → Prop} (hs : ∀ j s, j < n → RB b (step j s) (fun r => match r with | .inl _ => True | .inr t => Q t)) :
    RB b (forN step n 0 s) (fun r => match r with | .inl _ => True | .inr t => Q t) := forN_ret (fun _ _ => True) trivial fun j s hj _ => hs j s hj
def NE (t : qT) : Prop := ∀ x ∈ t.Cons, x.Kind = 1 → x.Cols ≠ []
theorem wrong_rb {b : Prop} {n : Nat} {t : qT} (h : TB n t) (hn : n ≤ 1000) : RB b (r14_wrong t) (fun r => r = 0 → NE t) := by
  have h1 := h.cols
  have h2 := h.cons
  have h3 := h.idx
  have no : ∀ {k : Int} {C : Prop}, k ≠ 0 → (k = 0 → C) := fun hk he => absurd he hk
  unfold r14_wrong
  refine yd (tnames_rb h hn) ?_
  rintro ⟨r1, r2⟩ ⟨e1, e2⟩
  simp only at e1 e2
  subst e1 e2
  refine yax (by simp; omega) (yax (by simp; omega) ?_)
  have hsz : ∀ s ∈ [t.Name, t.Owner] ++ t.Cols.map (·.Name) ++ (t.Cons.map (·.Name) ++ t.Idx.map (·.Name)), s.size ≤ 100 := by
    intro s hs
    simp only [List.mem_append, List.mem_cons, List.not_mem_nil, or_false, List.mem_map] at hs
    rcases hs with ((rfl | rfl) | ⟨x, hx, rfl⟩) | ⟨x, hx, rfl⟩ | ⟨x, hx, rfl⟩
    · exact h.nm
    · exact h.ow
    · exact h.cn x hx
    · exact (h.xs x hx).1
    · exact (h.is x hx).1
  generalize [t.Name, t.Owner] ++ t.Cols.map (·.Name) ++ (t.Cons.map (·.Name) ++ t.Idx.map (·.Name)) = A at hsz ⊢
  refine yd (forN_q (Q := fun r => r ≠ 0) fun j s hj => yah hj fun x _ hx => yd (rname_tt (hsz x hx)) fun _ _ => yi (fun _ => yc (by decide)) rt) ?_
  rintro (_ | _) g
  rotate_left
  · exact yc (no g)
  refine yi (fun _ => yc (no (by decide))) fun _ => yd (forN_q (Q := fun r => r ≠ 0) fun j s hj => yah hj fun x _ hx => yd (R := TT) (yi rt fun _ => yah hj fun _ _ _ => yc trivial) fun _ _ => yi (fun _ => yc (by decide)) rt) ?_
  rintro (_ | _) g
  rotate_left
  · exact yc (no g)
  refine yd (forN_q (Q := fun r => r ≠ 0) fun j s hj => yah hj fun x _ hx => yd (R := TT) (yi rt fun _ => yah hj fun _ _ _ => yc trivial) fun _ _ => yi (fun _ => yc (by decide)) rt) ?_
  rintro (_ | _) g
  rotate_left
  · exact yc (no g)
  refine yaj (yaj (yi (fun _ => yc (no (by decide))) fun _ => yd (tlists_rb h hn) fun l hl => ?_))
  have hl : l = t.Cons.map (·.Cols) ++ t.Idx.map (·.Cols) := hl
  have hll : t.Cons.length ≤ l.length := by rw [hl]; simp
  refine yd (forN_ret (fun j _ => ∀ i x, i < j → t.Cons[i]? = some x → x.Kind = 1 → x.Cols ≠ []) (Q := fun r => r ≠ 0) (fun i x hi => by omega) ?_) ?_
  · intro j s hj g
    have hlt : ∀ {α : Type} {f : qK → Option α} {Q : α → Prop}, decide ((j : Int) < (t.Cons.length : Int)) = true → (∀ x, t.Cons[j]? = some x → RB b (f x) Q) → RB b ((Gv.idx t.Cons (j : Int)).bind f) Q := fun hc hf => yah (by simpa using hc) fun x hx _ => hf x hx
    refine yd (R := fun (q : Bool) => q = true → ∀ x, t.Cons[j]? = some x → x.Kind = 2) (yi (fun hc => hlt hc fun x hx => yc fun hq y hy => by rw [hx] at hy; injection hy with hy; subst hy; simpa using hq) (fun _ => yc fun h => by cases h)) fun q hq => ?_
    refine yd (R := fun (q' : Bool) => q' = false → q = false → ∀ x, t.Cons[j]? = some x → x.Cols ≠ []) (yi (fun hc => yah hj fun u hu _ => yd (R := fun (q' : Bool) => q' = false → u ≠ []) (yi (fun _ => yc fun h => by cases h) fun hc => yah hj fun _ _ _ => yc fun _ hu => by subst hu; simp at hc) fun q' hq' => yc fun hf _ x hx => ?_) (fun hc => yc fun _ hq => by subst hq; cases hc)) fun q' hq' => ?_
    · have : l[j]? = some x.Cols := by
        rw [hl, List.getElem?_append_left (by simpa using (List.getElem?_eq_some_iff.1 hx).1), List.getElem?_map, hx]
        rfl
      rw [hu] at this
      injection this with this
      rw [← this]
      exact hq' hf
    · refine yi (fun _ => yc (show (3 : Int) ≠ 0 by decide)) fun hc => ?_
      have goal : ∀ i x, i < j + 1 → t.Cons[i]? = some x → x.Kind = 1 → x.Cols ≠ [] := by
        intro i x hi hx hk
        by_cases hij : i < j
        · exact g i x hij hx hk
        · have : i = j := by omega
          subst this
          cases q with
          | false => exact hq' hc rfl x hx
          | true => rw [hq rfl x hx] at hk; cases hk
      refine yd (R := fun (q : Bool) => q = true → j < t.Cons.length) (yi (fun hc => hlt hc fun _ _ => yc fun _ => by simpa using hc) (fun _ => yc fun h => by cases h)) fun q hq => yd (R := TT) (yi (fun hc => yah (hq hc) fun _ _ _ => yd (R := TT) (yi rt fun _ => yah (hq hc) fun _ _ _ => yc trivial) fun _ _ => yc trivial) rt) fun _ _ => yi (fun _ => yc (show (3 : Int) ≠ 0 by decide)) (fun _ => yc goal)
  rintro (_ | _) g2
  rotate_left
  · exact yc (no g2)
  have ne : NE t := fun x hx => by
    obtain ⟨i, hi, rfl⟩ := List.mem_iff_getElem.1 hx
    exact g2 i _ om (gE hi)
  refine RB.mono (Q := TT) ?_ (fun _ _ _ => ne)
  refine yd (twice_tt _) fun _ _ => yd (R := TT) (yi rt fun _ => yd (twice_tt _) fun _ _ => yc trivial) fun _ _ => yi rt fun _ => yd (R := TT) (forN_tt fun j s hj => ?_) ?_
  · have hlt : ∀ {α : Type} {f : qK → Option α} {Q : α → Prop}, decide ((j : Int) < (t.Cons.length : Int)) = true → (∀ x, RB b (f x) Q) → RB b ((Gv.idx t.Cons (j : Int)).bind f) Q := fun hc hf => yah (by simpa using hc) fun x _ _ => hf x
    exact yah hj fun _ _ _ => yd (twice_tt _) fun _ _ => yd (R := TT) (yi rt fun _ => yd (R := TT) (yi (fun hc => hlt hc fun _ => yd (twice_tt _) fun _ _ => yc trivial) rt) fun _ _ => yc trivial) fun _ _ => yi rt rt
  · rintro (_ | _) _ <;> exact yc trivial
structure TR (t : qT) : Prop where
  ne : NE t
  cs : ∀ x ∈ t.Cons, ∀ s ∈ x.Cols, ∃ c ∈ t.Cols, c.Name = s
  rf : ∀ x ∈ t.Cons, x.Kind = 3 → x.Refs.length = x.Cols.length
theorem tcheck_rb {b : Prop} {n : Nat} {t : qT} (h : TB n t) (hn : n ≤ 1000) : RB b (r14_Check t) (fun r => r = 0 → TR t) := by
  unfold r14_Check
  have no : ∀ {k : Int} {C : Prop}, k ≠ 0 → (k = 0 → C) := fun hk he => absurd he hk
  refine yd (wrong_rb h hn) fun r hr => yi (fun hc => yc (no (by simpa using hc))) fun hc => ?_
  have hne : NE t := hr (by simpa using hc)
  refine yd (tnames_rb h hn) ?_
  rintro ⟨r1, r2⟩ ⟨e1, e2⟩
  simp only at e1 e2
  subst e1 e2
  refine yd (used_rb h hn) fun u hu => yd (forN_ret (fun j _ => ∀ s ∈ u.take j, ∃ c ∈ t.Cols, c.Name = s) (Q := fun r => r ≠ 0) (by simp) ?_) ?_
  · intro j s hj g
    refine yah hj fun x hx _ => yd (has_rb _ _) fun q hq => yi (fun _ => yc (show (4 : Int) ≠ 0 by decide)) fun hc => yc ?_
    show ∀ s ∈ u.take (j + 1), _
    rw [take_next hx]
    intro y hy
    rcases List.mem_append.1 hy with hy | hy
    · exact g y hy
    · simp only [List.mem_cons, List.not_mem_nil, or_false] at hy
      subst hy
      have := hq.1 (by simpa using hc)
      simpa using this
  rintro (_ | _) g1
  rotate_left
  · exact yc (no g1)
  rw [List.take_length] at g1
  refine yd (forN_q (Q := fun r => r ≠ 0) fun j s hj => ?_) ?_
  · refine yd (R := fun (r : Bool ⊕ Int) => match r with | .inl _ => True | .inr k => k = 17) (yah hj fun x _ _ => yi rt fun _ => yah hj fun y _ hy => yd (echeck_rb false (h.xs y hy).2.2.2.2.2) fun _ _ => yi (fun _ => yc rfl) fun _ => yd (R := TT) (yi rt fun _ => yah hj fun z _ hz => yd (params_tt (Nat.le_trans (h.xs z hz).2.2.2.2.1 om)) fun _ _ => yc trivial) fun _ _ => yc trivial) ?_
    rintro (_ | k) hk
    · exact yc trivial
    · simp only at hk
      subst hk
      exact yc (show (17 : Int) ≠ 0 by decide)
  rintro (_ | _) g2
  rotate_left
  · exact yc (no g2)
  refine yi (fun _ => yc (no (by decide))) fun _ => yd (forN_ret (fun j _ => ∀ x ∈ t.Cons.take j, x.Kind = 3 → x.Refs.length = x.Cols.length) (Q := fun r => r ≠ 0) (by simp) ?_) ?_
  · intro j s hj g
    refine yah hj fun x hx hm => yd (R := TT) (yi (fun _ => yd (none_tt _) fun _ _ => yc trivial) rt) fun _ _ => yaj (yi (fun _ => yc (show (2 : Int) ≠ 0 by decide)) fun _ => ?_)
    refine yd (R := fun (q : Bool) => q = false → x.Kind = 3 → x.Refs.length = x.Cols.length) (yi (fun _ => yd (rname_tt (h.xs x hm).2.1) fun q _ => yaj (yc fun hq _ => ?_)) (fun hc => yc fun _ hk => by rw [hk] at hc; cases hc)) fun q hq => yaj (yi (fun _ => yc (show (2 : Int) ≠ 0 by decide)) fun hc => yc ?_)
    · simp only [Bool.or_eq_false_iff, bne_eq_false_iff_eq] at hq
      omega
    · simp only [Bool.or_eq_false_iff] at hc
      show ∀ x ∈ t.Cons.take (j + 1), _
      rw [take_next hx]
      intro y hy
      rcases List.mem_append.1 hy with hy | hy
      · exact g y hy
      · simp only [List.mem_cons, List.not_mem_nil, or_false] at hy
        subst hy
        exact hq hc.1
  rintro (_ | _) g3
  rotate_left
  · exact yc (no g3)
  rw [List.take_length] at g3
  exact yc fun _ => ⟨hne, fun x hx s hs => g1 s (hu x hx s hs), g3⟩
theorem places_rb {b : Prop} (t : qT) {l : List By8} (hl : l.length ≤ 1000) : RB b (r14_Places t l) (fun r => (∀ k ∈ r.1, 0 ≤ k ∧ k < (t.Cols.length : Int)) ∧ (r.2 = 0 ∧ r.1.length = l.length ∨ r.2 ≠ 0 ∧ r.1 = [] ∧ ∃ s ∈ l, ∀ c ∈ t.Cols, c.Name ≠ s)) := by
  unfold r14_Places
  refine yd (forN_ret (fun j (s : List Int) => s.length = j ∧ ∀ k ∈ s, 0 ≤ k ∧ k < (t.Cols.length : Int)) (Q := fun r => r.1 = [] ∧ r.2 ≠ 0 ∧ ∃ s ∈ l, ∀ c ∈ t.Cols, c.Name ≠ s) ⟨rfl, by simp⟩ ?_) ?_
  · rintro j s hj ⟨g1, g2⟩
    refine yah hj fun x hx hm => yd (col_rb t x) fun r hr => yi (fun hc => yc ⟨rfl, show (4 : Int) ≠ 0 by decide, x, hm, ?_⟩) fun hc => yax (by simp only [List.length_cons, List.length_nil]; omega) (yc ⟨by simp [g1], ?_⟩)
    · rcases hr with ⟨_, hr⟩ | ⟨hr, _⟩
      · exact hr
      · simp at hc; omega
    · intro k hk
      rcases List.mem_append.1 hk with hk | hk
      · exact g2 k hk
      · simp at hk
        subst hk
        rcases hr with ⟨hr, _⟩ | hr
        · subst hr; simp at hc
        · exact hr
  · rintro (s | ⟨s1, s2⟩) g
    · exact yc ⟨g.2, .inl ⟨rfl, g.1⟩⟩
    · obtain ⟨e1, e2, e3⟩ := g
      simp only at e1 e2
      subst e1
      exact yc ⟨by simp, .inr ⟨e2, rfl, e3⟩⟩
theorem alike_tt {b : Prop} (p q : List By8) : RB b (r17_alike p q) TT := by
  unfold r17_alike
  refine yi rt fun hc => ?_
  have hl : p.length = q.length := by simp at hc; omega
  refine yd (R := TT) (forN_tt fun j s hj => yd (R := TT) (forE_tt ?_) ?_) ?_
  · rintro i ⟨s1, s2⟩ hi
    exact yah hi fun _ _ _ => yah hj fun _ _ _ => yd (R := TT) (yi rt rt) fun _ _ => yah om fun _ _ _ => yah hj fun _ _ _ => yd (R := TT) (yi rt rt) fun _ _ => yc trivial
  · rintro ⟨_, _⟩ _
    exact yi rt rt
  · rintro (_ | _) _ <;> exact yc trivial
theorem keys_tt {b : Prop} (t : qT) (l : List By8) : RB b (r17_keys t l) TT := by
  unfold r17_keys
  exact yd (R := TT) (forE_tt fun j s hj => yah hj fun _ _ _ => yd (R := TT) (yi (fun _ => yah hj fun _ _ _ => yd (alike_tt _ _) fun _ _ => yc trivial) rt) fun _ _ => yd (R := TT) (yi rt rt) fun _ _ => yc trivial) fun _ _ => yc trivial
theorem tat_rb {b : Prop} (c : qC) (n : By8) : RB b (r17_At c n) (fun r => r = -1 ∨ 0 ≤ r ∧ r < (c.Tables.length : Int)) := by
  unfold r17_At
  refine yd (forN_q (Q := fun r => 0 ≤ r ∧ r < (c.Tables.length : Int)) fun j s hj => yah hj fun _ _ _ => yi (fun _ => yc ⟨by omega, by omega⟩) rt) ?_
  rintro (_ | _) g
  · exact yc (.inl rfl)
  · exact yc (.inr g)
theorem foreign_tt {b : Prop} {c : qC} {t : qT} {x : qK} (ht : TR t) (hx : x ∈ t.Cons) (hk : x.Kind = 3) (h1 : x.Cols.length ≤ 1000) (h2 : x.Refs.length ≤ 1000) : RB b (r17_foreign c t x) TT := by
  unfold r17_foreign
  refine yd (R := TT) (yi (fun _ => yd (tat_rb c _) fun r hr => yi rt fun hc => ?_) rt) ?_
  · simp only [decide_eq_false_iff_not] at hc
    exact ybc om (by rcases hr with hr | hr <;> omega) fun _ _ _ => yc trivial
  rintro (⟨_, _⟩ | p) _
  · exact yc trivial
  refine yd (places_rb p h2) ?_
  rintro ⟨l1, k1⟩ ⟨p1, p2⟩
  refine yd (places_rb t h1) ?_
  rintro ⟨l2, k2⟩ ⟨q1, q2⟩
  simp only at p1 p2 q1 q2
  refine yi rt fun hc => ?_
  have e1 : l1.length = x.Refs.length := by
    rcases p2 with ⟨_, h⟩ | ⟨h, _⟩
    · exact h
    · simp at hc; exact absurd hc h
  have e2 : l2.length = x.Cols.length := by
    rcases q2 with ⟨_, h⟩ | ⟨_, _, s, hs, h⟩
    · exact h
    · obtain ⟨d, hd, he⟩ := ht.cs x hx s hs
      exact absurd he (h d hd)
  have e3 := ht.rf x hx hk
  refine yd (R := TT) (forN_tt fun j s hj => yah om fun u _ hu => ybc (q1 u hu).1 (q1 u hu).2 fun _ _ _ => yah hj fun v _ hv => ybc (p1 v hv).1 (p1 v hv).2 fun _ _ _ => yi rt rt) ?_
  rintro (_ | _) _
  · exact yd (keys_tt _ _) fun _ _ => yi rt rt
  · exact yc trivial
theorem sound_rb {b : Prop} {n : Nat} (c : qC) {t : qT} (h : TB n t) (hn : n ≤ 1000) : RB b (r17_Sound c t) (fun r => r = 0 → TR t) := by
  have no : ∀ {k : Int} {C : Prop}, k ≠ 0 → (k = 0 → C) := fun hk he => absurd he hk
  unfold r17_Sound
  refine yd (tcheck_rb h hn) fun r hr => yi (fun hc => yc (no (by simpa using hc))) fun hc => ?_
  have ht : TR t := hr (by simpa using hc)
  refine RB.mono (Q := TT) ?_ (fun _ _ _ => ht)
  refine yd (R := TT) (forN_tt fun j s hj => yah hj fun x _ hx => ?_) ?_
  · obtain ⟨_, _, x1, x2, x3⟩ := h.xs x hx
    refine yd (R := TT) (yi (fun _ => yd (resolve_rb t (Nat.le_trans x3.1 om) x3.2) ?_) rt) fun _ _ => yd (R := TT) (yi (fun hk => yd (foreign_tt ht hx (by simpa using hk) om om) fun _ _ => yc trivial) rt) fun _ _ => yi rt rt
    rintro ⟨e, f⟩ hf
    refine yd (R := TT) (yi (fun hc => ?_) rt) fun _ _ => yc trivial
    obtain ⟨f1, f2⟩ := hf (by simpa using hc)
    have hcl := h.cols
    refine yd (R := TT) ?_ fun l _ => yd (bool_tt l f1 f2) fun _ _ => yc trivial
    unfold r15_Cols
    exact yd (grow (k := 8) (fun (x : qL) => x.Type_) (by simp; omega) fun j s x hx => by rw [idx_nat, hx]; rfl).tt fun _ _ => yc trivial
  · rintro (_ | _) _ <;> exact yc trivial
def CO (n : Nat) (x : qK) : Prop := x.Name.size ≤ 100 ∧ x.Table.size ≤ 100 ∧ x.Cols.length ≤ n ∧ x.Refs.length ≤ n ∧ Es x.Check
def TN (n : Nat) (t : qT) : Prop := TB n t ∧ NE t
structure CB (n : Nat) (c : qC) : Prop where
  tabs : c.Tables.length ≤ n
  ok : ∀ t ∈ c.Tables, TN n t
  grants : c.Grants.length ≤ n
theorem CB.up {n m : Nat} {c : qC} (h : CB n c) (hm : n ≤ m) : CB m c := ⟨by have := h.tabs; omega, fun t ht => ⟨(h.ok t ht).1.up hm, (h.ok t ht).2⟩, by have := h.grants; omega⟩
structure SF (s : qS) : Prop where
  cols : s.Cols.length ≤ 12
  cons : s.Cons.length ≤ 12
  names : s.Names.length ≤ 12
  table : s.Table.size ≤ 100
  name : s.Name.size ≤ 100
  cn : ∀ x ∈ s.Cols, x.Name.size ≤ 100
  xs : ∀ x ∈ s.Cons, CO 12 x
theorem copy_rb {b : Prop} {n : Nat} {t : qT} (h : TB n t) (hn : n ≤ 1000) : RB b (r17_Copy t) (fun r => r = t) := by
  have h1 := h.cols
  have h2 := h.cons
  have h3 := h.idx
  unfold r17_Copy
  exact yax (by simp; omega) (yax (by simp; omega) (yax (by simp; omega) (yc rfl)))
theorem pointed_rb {b : Prop} {n : Nat} {t : qT} (h : TN n t) (hn : n ≤ 1000) (p q : By8) (hq : q.size ≤ 100) : RB b (r17_pointed t p q) (fun r => TN n r.1 ∧ r.1.Name = t.Name) := by
  have h2 := h.1.cons
  unfold r17_pointed
  refine yd (copy_rb h.1 hn) ?_
  rintro _ rfl
  refine yd (loopO_rb (fun (s : Bool × Int × List qK) => ∃ i : Nat, s.2.1 = (i : Int) ∧ i ≤ s.2.2.length ∧ s.2.2.length ≤ n ∧ ∀ x ∈ s.2.2, CO n x ∧ (x.Kind = 1 → x.Cols ≠ [])) (fun s => s.2.2.length - s.2.1.toNat) (Q := fun s => s.2.length ≤ n ∧ ∀ x ∈ s.2, CO n x ∧ (x.Kind = 1 → x.Cols ≠ [])) ?_ ⟨0, rfl, by omega, h2, fun x hx => ⟨h.1.xs x hx, h.2 x hx⟩⟩) ?_
  · rintro ⟨c, _, l⟩ ⟨i, rfl, hi, hl, g⟩
    simp only at hi hl g
    refine yi (fun hc => ?_) fun _ => yc ⟨hl, g⟩
    have hlt : i < l.length := by simpa using hc
    have ew : w64 ((i : Int) + 1) = ((i + 1 : Nat) : Int) := by rw [w64_id om om]; rfl
    refine yah hlt fun x hx hm => yd (R := TT) (yi (fun _ => yah hlt fun _ _ _ => yc trivial) rt) fun _ _ => yd (R := fun (r : Bool × List qK) => r.2.length = l.length ∧ ∀ x ∈ r.2, CO n x ∧ (x.Kind = 1 → x.Cols ≠ [])) (yi (fun _ => yah hlt fun y _ hy => yc ⟨by simp, fun z hz => ?_⟩) (fun _ => yc ⟨rfl, g⟩)) ?_
    · rcases List.mem_or_eq_of_mem_set hz with hz | rfl
      · exact g z hz
      · obtain ⟨⟨c1, _, c3, c4, c5⟩, c6⟩ := g y hy
        exact ⟨⟨c1, hq, c3, c4, c5⟩, c6⟩
    · rintro ⟨c', l'⟩ ⟨e1, e2⟩
      simp only at e1 e2
      refine yc ⟨⟨i + 1, ew, by simp only; omega, by simp only; omega, e2⟩, ?_⟩
      simp only [ew]
      omega
  · rintro ⟨c, l⟩ ⟨g1, g2⟩
    simp only at g1 g2
    exact yc ⟨⟨⟨h.1.cols, g1, h.1.idx, h.1.nm, h.1.ow, h.1.cn, fun x hx => (g2 x hx).1, h.1.is⟩, fun x hx => (g2 x hx).2⟩, rfl⟩
theorem TN.ver {n : Nat} {t : qT} (h : TN n t) (v : Int) : TN n { t with Version := v } := ⟨⟨h.1.cols, h.1.cons, h.1.idx, h.1.nm, h.1.ow, h.1.cn, h.1.xs, h.1.is⟩, h.2⟩
theorem TB.ver {n : Nat} {t : qT} (h : TB n t) (v : Int) : TB n { t with Version := v } := ⟨h.cols, h.cons, h.idx, h.nm, h.ow, h.cn, h.xs, h.is⟩
theorem renamed_rb {b : Prop} {n : Nat} {c : qC} {t : qT} (h : CB n c) (ht : TN n t) (hn : n ≤ 1000) {q : By8} (hq : q.size ≤ 100) : RB b (r17_renamed c t q) (fun r => CB n r.1 ∧ r.1.Roles = c.Roles ∧ TB n r.2) := by
  have h1 := h.tabs
  have h2 := h.grants
  unfold r17_renamed
  refine yd (pointed_rb ht hn _ _ hq) ?_
  rintro ⟨u, f⟩ ⟨hu, _⟩
  refine yd (forE_ret (fun j (s : List qT) => s.length ≤ j ∧ ∀ t ∈ s, TN n t) ⟨by simp, by simp⟩ ?_) ?_
  · rintro j s hj ⟨g1, g2⟩
    refine yd (R := fun (r : qT × Bool) => TN n r.1) (yah hj fun x _ hx => yd (pointed_rb (h.ok x hx) hn _ _ hq) ?_) ?_
    · rintro ⟨_, _⟩ g
      exact yc g.1
    rintro ⟨x, f⟩ hx
    refine yd (R := fun (x : qT) => TN n x) (yi (fun _ => yc (hx.ver _)) (fun _ => yc hx)) fun y hy => yah hj fun z _ _ => yd (R := fun (s : List qT) => s.length ≤ j + 1 ∧ ∀ t ∈ s, TN n t) (yi (fun _ => yax (by simp only [List.length_cons, List.length_nil]; omega) (yc ⟨by simp; omega, fun w hw => ?_⟩)) (fun _ => yc ⟨by omega, g2⟩)) fun s hs => yc hs
    rcases List.mem_append.1 hw with hw | hw
    · exact g2 w hw
    · simp only [List.mem_cons, List.not_mem_nil, or_false] at hw
      subst hw
      exact hy
  · rintro s ⟨g1, g2⟩
    refine yd (forE_ret (fun j (s : List qG) => s.length ≤ j) (by simp) ?_) ?_
    · rintro j s hj g
      exact yah hj fun x _ _ => yd (R := TT) (yi rt rt) fun _ _ => yax (by simp only [List.length_cons, List.length_nil]; omega) (yc (by simp; omega))
    · intro gs hg
      have hg : gs.length ≤ c.Grants.length := hg
      refine yc ⟨⟨by simp only; omega, g2, by simp only; omega⟩, rfl, ?_⟩
      exact ⟨hu.1.cols, hu.1.cons, hu.1.idx, hq, hu.1.ow, hu.1.cn, hu.1.xs, hu.1.is⟩
theorem refers1_tt {b : Prop} {n : Nat} {c : qC} (h : CB n c) (hn : n ≤ 1000) (p1 p2 p3 : By8) (p4 : List By8) : RB b (r17_refers_nnsl c p1 p2 p3 p4) TT := by
  unfold r17_refers_nnsl
  refine yd (R := TT) (forN_tt fun j s hj => yah hj fun x _ hx => yd (R := TT) (loopO_rb (fun (i : Int) => ∃ k : Nat, i = (k : Int) ∧ k ≤ x.Cons.length) (fun i => x.Cons.length - i.toNat) (Q := TT) ?_ ⟨0, rfl, by omega⟩) ?_) ?_
  · rintro _ ⟨k, rfl, hk⟩
    have hxl := (h.ok x hx).1.cons
    refine yaj (yi (fun hc => ?_) fun _ => yc trivial)
    have hlt : k < x.Cons.length := by simp at hc; omega
    have ew : w64 ((k : Int) + 1) = ((k + 1 : Nat) : Int) := by rw [w64_id om om]; rfl
    refine yd (R := TT) (yah hlt fun y _ _ => yi rt fun _ => yd (alike_tt _ _) fun _ _ => yi rt rt) ?_
    rintro (u | s) _
    · exact yc ⟨⟨k + 1, ew, by omega⟩, by rw [ew]; omega⟩
    · exact yc trivial
  · rintro (_ | _) _ <;> exact yc trivial
  · rintro (_ | _) _ <;> exact yc trivial
theorem refers0_tt {b : Prop} {n : Nat} {c : qC} (h : CB n c) (hn : n ≤ 1000) (p1 p2 p3 : By8) : RB b (r17_refers_nilsl c p1 p2 p3) TT := by
  unfold r17_refers_nilsl
  refine yd (R := TT) (forN_tt fun j s hj => yah hj fun x _ hx => yd (R := TT) (loopO_rb (fun (i : Int) => ∃ k : Nat, i = (k : Int) ∧ k ≤ x.Cons.length) (fun i => x.Cons.length - i.toNat) (Q := TT) ?_ ⟨0, rfl, by omega⟩) ?_) ?_
  · rintro _ ⟨k, rfl, hk⟩
    have hxl := (h.ok x hx).1.cons
    refine yaj (yi (fun hc => ?_) fun _ => yc trivial)
    have hlt : k < x.Cons.length := by simp at hc; omega
    have ew : w64 ((k : Int) + 1) = ((k + 1 : Nat) : Int) := by rw [w64_id om om]; rfl
    refine yd (R := TT) (yah hlt fun y _ _ => yi rt fun _ => yd (R := TT) (yi rt fun _ => yd (has_rb _ _) fun _ _ => yc trivial) fun _ _ => yd (R := TT) (yi rt rt) fun _ _ => yi rt rt) ?_
    rintro (u | s) _
    · exact yc ⟨⟨k + 1, ew, by omega⟩, by rw [ew]; omega⟩
    · exact yc trivial
  · rintro (_ | _) _ <;> exact yc trivial
  · rintro (_ | _) _ <;> exact yc trivial
theorem ybf {α β : Type} {b : Prop} {xs : List α} {lo hi : Int} {Q : β → Prop} {f : List α → Option β} (h0 : 0 ≤ lo) (h1 : lo ≤ hi) (h2 : hi ≤ (xs.length : Int)) (hf : ∀ l, (∀ x ∈ l, x ∈ xs) → (l.length : Int) = hi - lo → RB b (f l) Q) : RB b ((sub xs lo hi).bind f) Q := by
  rw [sub_at (i := lo.toNat) (j := hi.toNat) om om om om]
  exact hf _ (fun x hx => List.mem_of_mem_take (List.mem_of_mem_drop hx)) (by simp; omega)
theorem dropped_rb {b : Prop} {n : Nat} {c : qC} {t : qT} (h : CB n c) (ht : TN n t) (hn : n ≤ 1000) (nm : By8) : RB b (r17_dropped c t nm) (fun r => TB (n + 1) r.1) := by
  have h2 := ht.1.cons
  unfold r17_dropped
  refine yd (forN_q (Q := fun r => TB (n + 1) r.2) fun j s hj => yah hj fun x _ hx => yi rt fun _ => ?_) ?_
  · have hxc := (ht.1.xs x hx).2.2.1
    refine yax (by simp; omega) ?_
    rw [List.nil_append]
    refine yd (R := fun (q : Bool) => q = true → x.Kind = 1) (yi (fun hk => yd (keys_tt _ _) fun _ _ => yc fun _ => by simpa using hk) (fun _ => yc fun h => by cases h)) fun q hq => yd (R := TT) (yi (fun hc => ?_) rt) fun _ _ => yi (fun _ => yc (show TB (n + 1) t from ht.1.up om)) fun _ => yd (copy_rb ht.1 hn) ?_
    · have hne := ht.2 x hx (hq hc)
      have : must (!(x.Cols).isEmpty) = some () := by cases hxc : x.Cols with
        | nil => exact absurd hxc hne
        | cons a r => rfl
      rw [this]
      exact yaj (yd (refers1_tt h hn _ _ _ _) fun _ _ => yc trivial)
    · intro r hr
      have hr : r = t := hr
      rw [hr]
      have ew : w64 ((j : Int) + 1) = ((j + 1 : Nat) : Int) := by rw [w64_id om om]; rfl
      rw [ew]
      refine ybf om om om fun l1 m1 k1 => yax (by simp; omega) (ybf om om om fun l2 m2 k2 => yax (by simp; omega) (yc ?_))
      refine ⟨by have := ht.1.cols; simp only; omega, by simp; omega, by have := ht.1.idx; simp only; omega, ht.1.nm, ht.1.ow, ht.1.cn, fun y hy => (ht.1.up (show n ≤ n + 1 by omega)).xs y ?_, (ht.1.up (show n ≤ n + 1 by omega)).is⟩
      simp only [List.nil_append, List.mem_append] at hy
      rcases hy with hy | hy
      · exact m1 y hy
      · exact m2 y hy
  · rintro (s | ⟨s1, s2⟩) g
    · exact yc (ht.1.up om)
    · exact yc g
theorem turned_rb {b : Prop} {n : Nat} {c : qC} {t : qT} {s : qS} (h : CB n c) (ht : TN n t) (hs : SF s) (h12 : 12 ≤ n) (hn : n ≤ 1000) : RB b (r17_turned c t s) (fun r => TB (n + 1) r.1) := by
  have t1 := ht.1.cols
  have t2 := ht.1.cons
  have t3 := ht.1.idx
  have up := ht.1.up (show n ≤ n + 1 by omega)
  unfold r17_turned
  refine yd (copy_rb ht.1 hn) fun r hr => ?_
  have hr : r = t := hr
  rw [hr]
  refine yd (tnames_rb ht.1 hn) ?_
  rintro ⟨r1, r2⟩ _
  refine yd (R := fun (q : (Int × qT) ⊕ (qT × (List qL) × (List qK) × (List qI))) => match q with | .inl (_, u) => TB (n + 1) u | .inr (_, a, d, e) => TB (n + 1) { t with Cols := a, Cons := d, Idx := e }) ?_ ?_
  rotate_left
  · rintro (⟨_, u⟩ | ⟨_, a, d, e⟩) g
    · exact yc g
    · exact yc g
  refine yi (fun _ => yi (fun _ => yc up) fun hc => ?_) fun _ => ?_
  · have hl : s.Cols.length = 1 := by simp at hc; omega
    refine yah (i := 0) om fun x _ hx => yd (col_rb _ _) fun _ _ => yi (fun _ => yc up) fun _ => yah (i := 0) om fun y _ hy => yax (by simp only [List.length_cons, List.length_nil]; omega) (yc ?_)
    refine ⟨by simp only [List.length_append, List.length_cons, List.length_nil]; omega, up.cons, up.idx, up.nm, up.ow, fun z hz => ?_, up.xs, up.is⟩
    rcases List.mem_append.1 hz with hz | hz
    · exact up.cn z hz
    · simp only [List.mem_cons, List.not_mem_nil, or_false] at hz
      subst hz
      exact hs.cn _ hy
  refine yd (R := fun (q : (Int × qT) ⊕ (qT × (List qL) × (List qK) × (List qI))) => match q with | .inl (_, u) => TB (n + 1) u | .inr (_, a, d, e) => TB (n + 1) { t with Cols := a, Cons := d, Idx := e }) ?_ ?_
  rotate_left
  · rintro (⟨_, u⟩ | ⟨_, a, d, e⟩) g <;> exact yc g
  refine yi (fun _ => yd (col_rb _ _) fun at_ ha => yi (fun _ => yc up) fun hc => yd (R := TT) (yi rt fun _ => yd (used_rb ht.1 hn) fun _ _ => yd (has_rb _ _) fun _ _ => yc trivial) fun _ _ => yd (R := TT) (yi rt fun _ => yd (R := TT) (yi (fun _ => yd (refers0_tt h hn _ _ _) fun _ _ => yc trivial) rt) fun _ _ => yc trivial) fun _ _ => yi (fun _ => yc up) fun _ => ?_) fun _ => ?_
  · have h0 : 0 ≤ at_ ∧ at_ < (t.Cols.length : Int) := by
      rcases ha with ⟨ha, _⟩ | ha
      · subst ha; simp at hc
      · exact ha
    have ew : w64 (at_ + 1) = at_ + 1 := w64_id om om
    rw [ew]
    refine ybf om om om fun l1 m1 k1 => yax (by simp; omega) (ybf om om om fun l2 m2 k2 => yax (by simp; omega) (yc ?_))
    refine ⟨by simp; omega, up.cons, up.idx, up.nm, up.ow, fun z hz => ?_, up.xs, up.is⟩
    simp only [List.nil_append, List.mem_append] at hz
    rcases hz with hz | hz
    · exact up.cn z (m1 z hz)
    · exact up.cn z (m2 z hz)
  refine yd (R := fun (q : (Int × qT) ⊕ (qT × (List qK) × (List qI))) => match q with | .inl (_, u) => TB (n + 1) u | .inr (_, d, e) => TB (n + 1) { t with Cons := d, Idx := e }) ?_ ?_
  rotate_left
  · rintro (⟨_, u⟩ | ⟨_, d, e⟩) g <;> exact yc g
  refine yi (fun _ => yi (fun _ => yc up) fun hc => ?_) fun _ => ?_
  · have hl : s.Cons.length = 1 := by simp at hc; omega
    refine yah (i := 0) om fun x _ hx => yd (has_rb _ _) fun _ _ => yi (fun _ => yc up) fun _ => yi (fun _ => yc up) fun _ => yah (i := 0) om fun y _ hy => yax (by simp only [List.length_cons, List.length_nil]; omega) (yc ?_)
    refine ⟨up.cols, by simp only [List.length_append, List.length_cons, List.length_nil]; omega, up.idx, up.nm, up.ow, up.cn, fun z hz => ?_, up.is⟩
    rcases List.mem_append.1 hz with hz | hz
    · exact up.xs z hz
    · simp only [List.mem_cons, List.not_mem_nil, or_false] at hz
      subst hz
      obtain ⟨c1, c2, c3, c4, c5⟩ := hs.xs _ hy
      exact ⟨c1, c2, by omega, by omega, c5⟩
  refine yd (R := fun (q : (Int × qT) ⊕ (qT × (List qI))) => match q with | .inl (_, u) => TB (n + 1) u | .inr (_, e) => TB (n + 1) { t with Idx := e }) ?_ ?_
  rotate_left
  · rintro (⟨_, u⟩ | ⟨_, e⟩) g <;> exact yc g
  refine yi (fun _ => yd (has_rb _ _) fun _ _ => yi (fun _ => yc up) fun _ => yi (fun _ => yc up) fun _ => yax (by simp only [List.length_cons, List.length_nil]; omega) (yc ?_)) fun _ => yi (fun _ => yd (dropped_rb h ht hn _) ?_) fun _ => yi (fun _ => ?_) fun _ => yc up
  · refine ⟨up.cols, up.cons, by simp only [List.length_append, List.length_cons, List.length_nil]; omega, up.nm, up.ow, up.cn, up.xs, fun z hz => ?_⟩
    rcases List.mem_append.1 hz with hz | hz
    · exact up.is z hz
    · simp only [List.mem_cons, List.not_mem_nil, or_false] at hz
      subst hz
      exact ⟨hs.name, by have := hs.names; simp only; omega⟩
  · rintro ⟨_, _⟩ g
    exact yc g
  · refine yd (forN_q (Q := fun q => TB (n + 1) q.2) ?_) ?_
    · rintro j ⟨_, _⟩ hj
      have ew : w64 ((j : Int) + 1) = ((j + 1 : Nat) : Int) := by rw [w64_id om om]; rfl
      refine yah hj fun x _ hx => yi (fun _ => ?_) rt
      rw [ew]
      refine ybf om om om fun l1 m1 k1 => yax (by simp; omega) (ybf om om om fun l2 m2 k2 => yax (by simp; omega) (yc ?_))
      refine ⟨up.cols, up.cons, by simp; omega, up.nm, up.ow, up.cn, up.xs, fun z hz => ?_⟩
      simp only [List.nil_append, List.mem_append] at hz
      rcases hz with hz | hz
      · exact up.is z (m1 z hz)
      · exact up.is z (m2 z hz)
    · rintro (⟨_, _⟩ | ⟨_, _⟩) g
      · exact yc up
      · exact yc g
theorem without_rb {b : Prop} {n : Nat} {c : qC} (h : CB n c) (hn : n ≤ 1000) (nm : By8) : RB b (r17_without c nm) (fun r => CB n r ∧ r.Roles = c.Roles ∧ r.Grants = c.Grants) := by
  have h1 := h.tabs
  unfold r17_without
  refine yd (forE_ret (fun j (s : List qT) => s.length ≤ j ∧ ∀ t ∈ s, TN n t) ⟨by simp, by simp⟩ ?_) ?_
  · rintro j s hj ⟨g1, g2⟩
    refine yah hj fun x _ _ => yd (R := fun (s : List qT) => s.length ≤ j + 1 ∧ ∀ t ∈ s, TN n t) (yi (fun _ => yah hj fun y _ hy => yax (by simp only [List.length_cons, List.length_nil]; omega) (yc ⟨by simp; omega, fun w hw => ?_⟩)) (fun _ => yc ⟨by omega, g2⟩)) fun s hs => yc hs
    rcases List.mem_append.1 hw with hw | hw
    · exact g2 w hw
    · simp only [List.mem_cons, List.not_mem_nil, or_false] at hw
      subst hw
      exact h.ok _ hy
  · rintro s ⟨g1, g2⟩
    exact yc ⟨⟨by simp only; omega, g2, h.grants⟩, rfl, rfl⟩
theorem with_rb {b : Prop} {n : Nat} {c : qC} {t : qT} (h : CB n c) (ht : TN (n + 1) t) (hn : n ≤ 1000) : RB b (r17_with c t) (fun r => CB (n + 1) r ∧ r.Roles = c.Roles) := by
  have h1 := h.tabs
  unfold r17_with
  refine yd (loopO_rb (fun (i : Int) => ∃ k : Nat, i = (k : Int) ∧ k ≤ c.Tables.length) (fun i => c.Tables.length - i.toNat) (Q := fun i => 0 ≤ i ∧ i ≤ (c.Tables.length : Int)) ?_ ⟨0, rfl, by omega⟩) ?_
  · rintro _ ⟨k, rfl, hk⟩
    have ew : w64 ((k : Int) + 1) = ((k + 1 : Nat) : Int) := by rw [w64_id om om]; rfl
    refine yd (R := fun (q : Bool) => q = true → k < c.Tables.length) (yi (fun hc => yah (by simpa using hc) fun _ _ _ => yc fun _ => by simpa using hc) (fun _ => yc fun h => by cases h)) fun q hq => yi (fun hc => yc ⟨⟨k + 1, ew, hq hc⟩, by have := hq hc; rw [ew]; omega⟩) fun _ => yc ⟨by omega, by omega⟩
  · rintro i ⟨i0, i1⟩
    refine ybf om om om fun l1 m1 k1 => yax (by simp; omega) (yax (by simp; omega) (ybf om om om fun l2 m2 k2 => yax (by simp; omega) (yc ⟨⟨by simp; omega, fun z hz => ?_, by have := h.grants; simp only; omega⟩, rfl⟩)))
    have hu := h.up (show n ≤ n + 1 by omega)
    simp only [List.nil_append, List.mem_append, List.mem_cons, List.not_mem_nil, or_false] at hz
    rcases hz with (hz | hz) | hz
    · exact hu.ok z (m1 z hz)
    · subst hz; exact ht
    · exact hu.ok z (m2 z hz)
theorem TR.ver {t : qT} (h : TR t) (v : Int) : NE { t with Version := v } := h.ne
theorem tmake_rb {b : Prop} {n : Nat} {c : qC} {s : qS} {by_ : By8} {most : Int} (h : CB n c) (hs : SF s) (hb : by_.size ≤ 100) (h12 : 12 ≤ n) (hn : n ≤ 1000 - 1) : RB b (r17_Make c s by_ most) (fun r => r.2 = 0 → CB (n + 1) r.1 ∧ r.1.Roles = c.Roles) := by
  have h1 := h.tabs
  have h2 := h.grants
  have no : ∀ {k : Int} {C : Prop}, k ≠ 0 → (k = 0 → C) := fun hk he => absurd he hk
  unfold r17_Make
  refine yi (fun _ => yc (no (by decide))) fun _ => yd (tat_rb c _) fun at_ hat => yi (fun _ => yc (no (by decide))) fun _ => yi (fun _ => yc (no (by decide))) fun _ => yi (fun _ => yc (no (by decide))) fun hc4 => yd (without_rb h om _) fun w hw => ?_
  obtain ⟨hw1, hw2, hw3⟩ := hw
  have hne : (s.Kind == 1) = false → 0 ≤ at_ ∧ at_ < (c.Tables.length : Int) := by
    intro hk
    rw [show (s.Kind != 1) = true by simp [bne, hk]] at hc4
    simp only [Bool.true_and, decide_eq_false_iff_not] at hc4
    rcases hat with hat | hat
    · omega
    · exact hat
  refine yd (R := fun (q : (Int × qC × Int × (List qT) × (List qJ) × (List qG) × qT) ⊕ (Int × qC × qT)) => match q with | .inl (_, _, v, ts, rs, gs, u) => CB n ⟨v, ts, rs, gs⟩ ∧ rs = c.Roles ∧ TB (n + 1) u | .inr (k, _, _) => k ≠ 0) ?_ ?_
  · have hz : TB (n + 1) z_qT := ⟨Nat.zero_le _, Nat.zero_le _, Nat.zero_le _, Nat.zero_le _, Nat.zero_le _, (fun x hx => by cases hx), (fun x hx => by cases hx), (fun x hx => by cases hx)⟩
    refine yi (fun _ => yc ⟨hw1, hw2, ?_⟩) fun k1 => ?_
    · exact ⟨by have := hs.cols; simp only; omega, by have := hs.cons; simp only; omega, Nat.zero_le _, hs.table, hb, hs.cn, fun x hx => by obtain ⟨c1, c2, c3, c4, c5⟩ := hs.xs x hx; exact ⟨c1, c2, by omega, by omega, c5⟩, fun x hx => by cases hx⟩
    obtain ⟨a0, a1⟩ := hne k1
    refine yd (R := fun (q : (Int × qC × qT) ⊕ (Int × qC × Int × (List qT) × (List qJ) × (List qG) × qT)) => match q with | .inr (_, _, v, ts, rs, gs, u) => CB n ⟨v, ts, rs, gs⟩ ∧ rs = c.Roles ∧ TB (n + 1) u | .inl (k, _, _) => k ≠ 0) ?_ ?_
    rotate_left
    · rintro (⟨_, _, _⟩ | ⟨_, _, _, _, _, _, _⟩) g <;> exact yc g
    refine yi (fun _ => yd (refers0_tt h om _ _ _) fun _ _ => yi (fun _ => yc (show (34 : Int) ≠ 0 by decide)) fun _ => yd (forE_ret (fun j (s : List qG) => s.length ≤ j) (by simp) ?_) fun gs hg => yc ⟨⟨hw1.tabs, hw1.ok, by have hg : gs.length ≤ c.Grants.length := hg; simp only; omega⟩, hw2, hz⟩) fun _ => ?_
    · intro j s hj g
      exact yah hj fun x _ _ => yd (R := fun (s : List qG) => s.length ≤ j + 1) (yi (fun _ => yah hj fun _ _ _ => yax (by simp only [List.length_cons, List.length_nil]; omega) (yc (by simp; omega))) (fun _ => yc om)) fun s hs => yc hs
    refine yd (R := fun (q : (Int × qC × qT) ⊕ (Int × qC × Int × (List qT) × (List qJ) × (List qG) × qT)) => match q with | .inr (_, _, v, ts, rs, gs, u) => CB n ⟨v, ts, rs, gs⟩ ∧ rs = c.Roles ∧ TB (n + 1) u | .inl (k, _, _) => k ≠ 0) ?_ ?_
    rotate_left
    · rintro (⟨_, _, _⟩ | ⟨_, _, _, _, _, _, _⟩) g <;> exact yc g
    refine yi (fun _ => yd (tat_rb c _) fun _ _ => yi (fun _ => yc (show (19 : Int) ≠ 0 by decide)) fun _ => ybc a0 a1 fun x _ hx => yd (renamed_rb h (h.ok x hx) om hs.name) ?_) fun _ => ybc a0 a1 fun x _ hx => yd (turned_rb h (h.ok x hx) hs h12 om) ?_
    · rintro ⟨d, u⟩ ⟨d1, d2, d3⟩
      exact yc ⟨d1, d2, d3.up om⟩
    · rintro ⟨u, e⟩ g
      exact yc ⟨hw1, hw2, g⟩
  · rintro (⟨k, z, v, ts, rs, gs, u⟩ | ⟨k, z, u⟩) g
    · obtain ⟨g1, g2, g3⟩ := g
      refine yd (R := fun (e : Int) => e = 0 → s.Kind ≠ 2 → NE u) (yi (fun _ => yd (sound_rb _ g3 om) fun r hr => yc fun he _ => (hr he).ne) fun hc => yc fun he hk => ?_) fun e he => yd (R := fun (e' : Int) => e' = 0 → e = 0) (yi (fun _ => yc fun h => by cases h) fun _ => yc fun h => h) fun e' he' => yi (fun hc => yc (no (by simpa using hc))) fun hc => ?_
      · subst he
        simp [hk] at hc
      have hz : e' = 0 := by simpa using hc
      refine yd (R := fun (q : Int × (List qT) × (List qJ) × (List qG) × qT) => CB (n + 1) ⟨q.1, q.2.1, q.2.2.1, q.2.2.2.1⟩ ∧ q.2.2.1 = c.Roles) (yi (fun hk => yd (with_rb g1 ⟨g3.ver _, ?_⟩ om) fun r hr => yc ⟨⟨hr.1.tabs, hr.1.ok, hr.1.grants⟩, hr.2.trans g2⟩) fun _ => yc ⟨g1.up om, g2⟩) ?_
      · exact he (he' hz) (by simpa using hk)
      · rintro ⟨q1, q2, q3, q4, q5⟩ ⟨e1, e2⟩
        exact yc fun _ => ⟨⟨e1.tabs, e1.ok, e1.grants⟩, e2⟩
    · exact yc (no g)
noncomputable def isB (l : List Role) (n o : By8) : Bool := (r18_Is l n o).getD false
theorem is_val {l : List Role} (h : Sm l) (n o : By8) : r18_Is l n o = some (isB l n o) := by
  obtain ⟨r, hr, _⟩ := rall_eq (n := n) h.1 h.2.1
  obtain ⟨b, hb, _⟩ := has_eq r o
  have : r18_Is l n o = some b := by unfold r18_Is; rw [hr]; simp only [obs, hb]
  unfold isB
  rw [this]
  rfl
noncomputable def rI (l : List Role) (n : By8) : Int := (r18_At l n).getD 0
theorem rat_val (l : List Role) (n : By8) : r18_At l n = some (rI l n) := by
  unfold rI
  rcases rat_spec l n with ⟨_, h⟩ | ⟨_, _, _, _, _, _, h⟩ <;> rw [h] <;> rfl
theorem rI_lt (l : List Role) (n : By8) : rI l n < (l.length : Int) := by
  unfold rI
  rcases rat_spec l n with ⟨_, h⟩ | ⟨A, x, B, rfl, _, _, h⟩ <;> rw [h]
  · simp only [Option.getD_some]; omega
  · simp only [Option.getD_some, List.length_append, List.length_cons]; omega
def tI (c : qC) (n : By8) : Int := match c.Tables.findIdx? (fun x => sEq x.Name n) with | some j => (j : Int) | none => -1
theorem tat_val (c : qC) (n : By8) : r17_At c n = some (tI c n) := by
  unfold r17_At tI
  rw [forN_find (fun (x : qT) => sEq x.Name n) (fun j => (j : Int)) (fun j x hx => by rw [idx_nat, hx]; simp only [obs]; cases sEq x.Name n <;> rfl)]
  cases c.Tables.findIdx? (fun x => sEq x.Name n) <;> rfl
theorem tI_get {c : qC} {n : By8} (h : 0 ≤ tI c n) : ∃ (k : Nat) (t : qT), tI c n = (k : Int) ∧ c.Tables[k]? = some t ∧ t ∈ c.Tables ∧ c.Tables.findIdx? (fun x => sEq x.Name n) = some k := by
  unfold tI at h ⊢
  cases e : c.Tables.findIdx? (fun x => sEq x.Name n) with
  | none => rw [e] at h; simp at h
  | some k =>
    obtain ⟨hk, _, _⟩ := List.findIdx?_eq_some_iff_getElem.1 e
    exact ⟨k, c.Tables[k], rfl, gE hk, List.getElem_mem hk, rfl⟩
noncomputable def owB (c : qC) (r t : By8) : Bool := (r19_Owns c r t).getD false
theorem owns_val {c : qC} (h : Sm c.Roles) (r t : By8) : r19_Owns c r t = some (owB c r t) := by
  have : ∃ b, r19_Owns c r t = some b := by
    unfold r19_Owns
    rw [tat_val]
    simp only [obs]
    by_cases h0 : 0 ≤ tI c t
    · obtain ⟨k, x, hk, hx, _⟩ := tI_get h0
      rw [show decide (tI c t ≥ 0) = true by simpa using h0, hk, idx_nat, hx]
      simp only [obs, cond_true, is_val h]
      exact ⟨_, rfl⟩
    · rw [show decide (tI c t ≥ 0) = false by simpa using h0]
      exact ⟨_, rfl⟩
  obtain ⟨b, hb⟩ := this
  unfold owB
  rw [hb]
  rfl
noncomputable def haB (c : qC) (l : List qG) (r : By8) (p : Int) (t : By8) (o : Bool) : Bool := l.any fun g => g.Priv == p && sEq g.Table t && (g.Option || !o) && isB c.Roles r g.To
theorem rhas_val {c : qC} (h : Sm c.Roles) (l : List qG) (r : By8) (p : Int) (t : By8) (o : Bool) : r19_has c l r p t o = some (haB c l r p t o) := by
  unfold r19_has haB
  rw [forN_list (v := true) (fun (g : qG) => !(g.Priv == p && sEq g.Table t && (g.Option || !o) && isB c.Roles r g.To)) (fun j x hx => ?_)]
  · rw [List.all_eq_not_any_not]
    simp only [Bool.not_not]
    cases l.any fun g => g.Priv == p && sEq g.Table t && (g.Option || !o) && isB c.Roles r g.To <;> rfl
  · simp only [idx_nat, hx, obs]
    cases (x.Priv == p) <;> cases sEq x.Table t <;> cases x.Option <;> cases o <;> simp [is_val h] <;> cases isB c.Roles r x.To <;> rfl
noncomputable def okB (c : qC) (l : List qG) (g : qG) : Bool := decide (0 ≤ tI c g.Table) && decide (0 ≤ rI c.Roles g.To) && (owB c g.By g.Table || haB c l g.By g.Priv g.Table true)
noncomputable def rnd (c : qC) (l : List qG) : List qG := c.Grants.filter (okB c l)
noncomputable def rnds (c : qC) : Nat → List qG
  | 0 => []
  | k + 1 => rnd c (rnds c k)
theorem rnds_len (c : qC) (k : Nat) : (rnds c k).length ≤ c.Grants.length := by
  cases k with
  | zero => exact Nat.zero_le _
  | succ k => exact List.length_filter_le ..
noncomputable def heR (c : qC) : List qG := rnds c (c.Grants.length + 1)
theorem rheld_val {c : qC} (h : Sm c.Roles) (hg : c.Grants.length ≤ 1000) : r19_Held c = some (heR c) := by
  unfold r19_Held
  have step : ∀ (s8 : List qG), forE (fun (i18 : Nat) (s17 : List qG) => ((idx c.Grants (i18 : Int)).bind (fun (x32 : qG) => (r17_At c x32.Table).bind (fun (r44 : Int) => ((bif (decide (r44 < 0)) then some true else (r18_At c.Roles x32.To).bind (fun (r56 : Int) => some (decide (r56 < 0))))).bind (fun (j45 : Bool) => (bif j45 then some s17 else (r19_Owns c x32.By x32.Table).bind (fun (r69 : Bool) => ((bif r69 then some true else (r19_has c s8 x32.By x32.Priv x32.Table true).bind (fun (r79 : Bool) => some r79))).bind (fun (j70 : Bool) => ((bif j70 then (app 64 s17 ([x32] : List qG)).bind (fun (x94 : List qG) => some x94) else some s17)).bind (fun (j82 : List qG) => some j82)))))))).bind (fun (j28 : List qG) => some j28)) c.Grants.length 0 ([] : List qG) = some (rnd c s8) := by
    intro s8
    refine Ret.eq ((forE_ret (fun j s => s = (c.Grants.take j).filter (okB c s8)) (by simp) ?_).mono fun r hr => by rw [hr, List.take_length]; rfl)
    rintro j s hj rfl
    have hx : c.Grants[j]? = some c.Grants[j] := gE hj
    have hle : ((c.Grants.take j).filter (okB c s8)).length ≤ j := Nat.le_trans (List.length_filter_le ..) (by simp; omega)
    generalize c.Grants[j] = x at hx
    rw [take_next hx, List.filter_append]
    simp only [idx_nat, hx, obs, tat_val, rat_val, owns_val h, rhas_val h]
    have e : (c.Grants.take j).filter (okB c s8) ++ [x].filter (okB c s8) = bif okB c s8 x then (c.Grants.take j).filter (okB c s8) ++ [x] else (c.Grants.take j).filter (okB c s8) := by
      cases hc : okB c s8 x <;> simp [hc]
    rw [e]
    generalize (c.Grants.take j).filter (okB c s8) = s at hle ⊢
    unfold okB
    by_cases h1 : tI c x.Table < 0
    · rw [show decide (tI c x.Table < 0) = true by simpa using h1, show decide (0 ≤ tI c x.Table) = false by simp; omega]
      exact yc rfl
    · rw [show decide (tI c x.Table < 0) = false by simpa using h1, show decide (0 ≤ tI c x.Table) = true by simp; omega]
      simp only [cond_false, obs, Bool.true_and]
      by_cases h2 : rI c.Roles x.To < 0
      · rw [show decide (rI c.Roles x.To < 0) = true by simpa using h2, show decide (0 ≤ rI c.Roles x.To) = false by simp; omega]
        exact yc rfl
      · rw [show decide (rI c.Roles x.To < 0) = false by simpa using h2, show decide (0 ≤ rI c.Roles x.To) = true by simp; omega]
        simp only [cond_false, Bool.true_and]
        rw [app_le (by simp only [List.length_cons, List.length_nil]; omega)]
        cases owB c x.By x.Table <;> cases haB c s8 x.By x.Priv x.Table true <;> exact yc rfl
  refine Ret.eq (yd (loopO_rb (fun (s : List qG × Int) => ∃ k : Nat, s.2 = (k : Int) ∧ k ≤ c.Grants.length + 1 ∧ s.1 = rnds c k) (fun s => c.Grants.length + 1 - s.2.toNat) (Q := fun s => s = heR c) ?_ ⟨0, rfl, by omega, rfl⟩) fun r hr => yc hr)
  rintro ⟨_, _⟩ ⟨k, rfl, hk, rfl⟩
  refine yi (fun hc => ?_) fun hc => yc ?_
  · have hle : k ≤ c.Grants.length := by simpa using hc
    have ew : w64 ((k : Int) + 1) = ((k + 1 : Nat) : Int) := by rw [w64_id om om]; rfl
    simp only
    rw [step, ew]
    exact yc ⟨⟨k + 1, rfl, by omega, rfl⟩, by simp only; omega⟩
  · have : k = c.Grants.length + 1 := by simp at hc; omega
    subst this
    rfl
def RO (n : Nat) (l : List Role) : Prop := l.length ≤ 8 ∧ ∀ x ∈ l, x.In.length ≤ n ∧ x.Name.size ≤ 100
theorem RO.sm {n : Nat} {l : List Role} (h : RO n l) (hn : n ≤ 100) : Sm l := ⟨by have := h.1; omega, fun x hx => by have := (h.2 x hx).1; omega, fun x hx => by have := (h.2 x hx).2; omega⟩
theorem RO.up {n m : Nat} {l : List Role} (h : RO n l) (hm : n ≤ m) : RO m l := ⟨h.1, fun x hx => ⟨Nat.le_trans (h.2 x hx).1 hm, (h.2 x hx).2⟩⟩
theorem is_tt {b : Prop} {l : List Role} (h : Sm l) (n o : By8) : RB b (r18_Is l n o) TT := ybm (is_val h n o) trivial
theorem rat_rb {b : Prop} (l : List Role) (n : By8) : RB b (r18_At l n) (fun r => r < (l.length : Int)) := ybm (rat_val l n) (rI_lt l n)
theorem rcheck_tt {b : Prop} {n : Nat} {l : List Role} (h : RO n l) (hn : n ≤ 100) : RB b (r18_Check l) TT := by
  have hl := h.1
  have hsm := h.sm hn
  unfold r18_Check
  refine yi rt fun _ => yd (R := TT) (forN_tt fun j s hj => yah hj fun x _ hx => yd (rname_tt (h.2 x hx).2) fun _ _ => yd (R := TT) (yi rt fun _ => yd (R := TT) (yi (fun hc => ?_) rt) fun _ _ => yc trivial) fun _ _ => yi rt fun _ => yd (R := TT) (loopO_rb (fun (i : Int) => ∃ k : Nat, i = (k : Int) ∧ k ≤ l[j].In.length) (fun i => l[j].In.length - i.toNat) (Q := TT) ?_ ⟨0, rfl, by omega⟩) ?_) ?_
  · have h0 : 0 < (j : Int) := by simpa using hc
    have ew : w64 ((j : Int) - 1) = (j : Int) - 1 := w64_id om om
    rw [ew]
    exact ybc om om fun _ _ _ => yah hj fun _ _ _ => yc trivial
  · rintro _ ⟨k, rfl, hk⟩
    have hmem := h.2 l[j] (List.getElem_mem hj)
    have ej : ∀ {α : Type} {f : qJ → Option α} {Q : α → Prop}, RB b (f l[j]) Q → RB b ((idx l (j : Int)).bind f) Q := fun hf => by rw [idx_mem hj]; exact hf
    refine ej (yi (fun hc => ej ?_) rt)
    have hlt : k < l[j].In.length := by simpa using hc
    refine yah hlt fun y _ _ => yd (rat_rb _ _) fun _ _ => yd (R := TT) (yi rt fun _ => yd (R := TT) (yi (fun hc => ej ?_) rt) fun _ _ => yc trivial) fun _ _ => yi rt fun _ => yc ⟨⟨k + 1, by rw [w64_id om om]; rfl, by omega⟩, by rw [w64_id om om]; omega⟩
    have h0 : 0 < (k : Int) := by simpa using hc
    rw [w64_id om om]
    exact ybc om om fun _ _ _ => ej (yah hlt fun _ _ _ => yc trivial)
  · rintro (_ | _) _ <;> exact yc trivial
  · rintro (_ | _) _
    rotate_left
    · exact yc trivial
    refine yd (R := TT) (forN_tt fun j s hj => yd (R := TT) (loopO_rb (fun (i : Int) => ∃ k : Nat, i = (k : Int) ∧ k ≤ l[j].In.length) (fun i => l[j].In.length - i.toNat) (Q := TT) ?_ ⟨0, rfl, by omega⟩) ?_) ?_
    · rintro _ ⟨k, rfl, hk⟩
      have hmem := h.2 l[j] (List.getElem_mem hj)
      have ej : ∀ {α : Type} {f : qJ → Option α} {Q : α → Prop}, RB b (f l[j]) Q → RB b ((idx l (j : Int)).bind f) Q := fun hf => by rw [idx_mem hj]; exact hf
      refine ej (yi (fun hc => ej ?_) rt)
      have hlt : k < l[j].In.length := by simpa using hc
      exact yah hlt fun y _ _ => ej (yd (is_tt hsm _ _) fun _ _ => yi rt fun _ => yc ⟨⟨k + 1, by rw [w64_id om om]; rfl, by omega⟩, by rw [w64_id om om]; omega⟩)
    · rintro (_ | _) _ <;> exact yc trivial
    · rintro (_ | _) _ <;> exact yc trivial
theorem while_rb {α : Type} {b : Prop} {xs : List α} {p : α → Bool} (hx : xs.length ≤ 1000) : RB b (loopO (fun (s22 : Int) => ((bif (decide (s22 < (xs.length : Int))) then (idx xs s22).bind (fun (x31 : α) => some (p x31)) else some false)).bind (fun (j27 : Bool) => (bif j27 then some (.inl (w64 (s22 + 1))) else some (.inr s22) : Option (Int ⊕ Int)))) 0) (fun i => 0 ≤ i ∧ i ≤ (xs.length : Int)) := by
  refine loopO_rb (fun (i : Int) => ∃ k : Nat, i = (k : Int) ∧ k ≤ xs.length) (fun i => xs.length - i.toNat) ?_ ⟨0, rfl, by omega⟩
  rintro _ ⟨k, rfl, hk⟩
  have ew : w64 ((k : Int) + 1) = ((k + 1 : Nat) : Int) := by rw [w64_id om om]; rfl
  exact yd (R := fun (q : Bool) => q = true → k < xs.length) (yi (fun hc => yah (by simpa using hc) fun _ _ _ => yc fun _ => by simpa using hc) (fun _ => yc fun h => by cases h)) fun q hq => yi (fun hc => yc ⟨⟨k + 1, ew, hq hc⟩, by have := hq hc; rw [ew]; omega⟩) fun _ => yc ⟨by omega, by omega⟩
theorem rcreate_rb {b : Prop} {n : Nat} {l : List Role} {nm : By8} (h : RO n l) (hn : n ≤ 100) (hm : nm.size ≤ 100) : RB b (r18_Create l nm) (fun r => r.2 = 0 → RO (n + 1) r.1) := by
  have no : ∀ {k : Int} {C : Prop}, k ≠ 0 → (k = 0 → C) := fun hk he => absurd he hk
  have hl := h.1
  unfold r18_Create
  refine yd (rcheck_tt h hn) fun _ _ => yi (fun hc => yc (no (by simpa using hc))) fun _ => yd (rname_tt hm) fun _ _ => yi (fun _ => yc (no (by decide))) fun _ => yd (rat_rb _ _) fun _ _ => yi (fun _ => yc (no (by decide))) fun _ => yi (fun _ => yc (no (by decide))) fun h8 => yd (while_rb (p := fun (x : qJ) => sLt x.Name nm) om) ?_
  have h8 : l.length ≠ 8 := by simp at h8; omega
  rintro i ⟨i0, i1⟩
  refine ybf om om om fun l1 m1 k1 => yax (by simp; omega) (yax (by simp; omega) (ybf om om om fun l2 m2 k2 => yax (by simp; omega) (yc fun _ => ⟨by simp; omega, fun x hx => ?_⟩)))
  simp only [List.nil_append, List.mem_append, List.mem_cons, List.not_mem_nil, or_false] at hx
  rcases hx with (hx | hx) | hx
  · exact (h.up (show n ≤ n + 1 by omega)).2 x (m1 x hx)
  · subst hx; exact ⟨Nat.zero_le _, hm⟩
  · exact (h.up (show n ≤ n + 1 by omega)).2 x (m2 x hx)
theorem without_tt {b : Prop} {l : List By8} (hl : l.length ≤ 1000) (n : By8) : RB b (r18_without l n) (fun r => r.length ≤ l.length) := by
  unfold r18_without
  refine yd (forE_ret (fun j (s : List By8) => s.length ≤ j) (by simp) fun j s hj g => yah hj fun x _ _ => yd (R := fun (s : List By8) => s.length ≤ j + 1) (yi (fun _ => yah hj fun _ _ _ => yax (by simp only [List.length_cons, List.length_nil]; omega) (yc (by simp; omega))) (fun _ => yc om)) fun s hs => yc hs) fun s hs => yc hs
theorem rturned_rb {b : Prop} {n : Nat} {l : List Role} {k : Int} {s : List By8} (h : RO n l) (h0 : 0 ≤ k) (h1 : k < (l.length : Int)) (hs : s.length ≤ n + 1) : RB b (r18_turned l k s) (RO (n + 1)) := by
  have hl := h.1
  unfold r18_turned
  refine yax (by simp; omega) (ybc h0 (by simpa using h1) fun x _ hx => yc ⟨by simpa using hl, fun y hy => ?_⟩)
  rw [List.nil_append] at hx hy
  rcases List.mem_or_eq_of_mem_set hy with hy | rfl
  · exact (h.up (show n ≤ n + 1 by omega)).2 y hy
  · exact ⟨hs, (h.2 x hx).2⟩
theorem rinto_rb {b : Prop} {l : List By8} (hl : l.length ≤ 1000) (n : By8) : RB b (r18_into l n) (fun r => r.length ≤ l.length + 1) := by
  unfold r18_into
  refine yd (while_rb (p := fun (x : By8) => sLt x n) hl) ?_
  rintro i ⟨i0, i1⟩
  exact ybf om om om fun l1 m1 k1 => yax (by simp; omega) (yax (by simp; omega) (ybf om om om fun l2 m2 k2 => yax (by simp; omega) (yc (by simp; omega))))
theorem rgrant_rb {b : Prop} {n : Nat} {l : List Role} (h : RO n l) (hn : n ≤ 100) (nm to : By8) : RB b (r18_Grant l nm to) (fun r => r.2 = 0 → RO (n + 1) r.1) := by
  have no : ∀ {k : Int} {C : Prop}, k ≠ 0 → (k = 0 → C) := fun hk he => absurd he hk
  unfold r18_Grant
  refine yd (rcheck_tt h hn) fun _ _ => yi (fun hc => yc (no (by simpa using hc))) fun _ => yd (rat_rb _ _) fun k hk => yd (R := fun (q : Bool) => q = false → 0 ≤ k) (yi (fun _ => yc fun h => by cases h) fun hc => yd (rat_rb _ _) fun _ _ => yc fun _ => by simpa using hc) fun q hq => yi (fun _ => yc (no (by decide))) fun hc => ?_
  have h0 := hq hc
  refine ybc h0 hk fun x _ _ => yd (has_rb _ _) fun _ _ => yi (fun _ => yc (no (by decide))) fun _ => yd (is_tt (h.sm hn) _ _) fun _ _ => yi (fun _ => yc (no (by decide))) fun _ => ybc h0 hk fun y _ hy => ?_
  have hin := (h.2 y hy).1
  exact yd (rinto_rb om _) fun r hr => yd (rturned_rb h h0 hk (by have hr : r.length ≤ y.In.length + 1 := hr; omega)) fun r hr => yc fun _ => hr
theorem rrevoke_rb {b : Prop} {n : Nat} {l : List Role} (h : RO n l) (hn : n ≤ 100) (nm to : By8) : RB b (r18_Revoke l nm to) (fun r => r.2 = 0 → RO (n + 1) r.1) := by
  have no : ∀ {k : Int} {C : Prop}, k ≠ 0 → (k = 0 → C) := fun hk he => absurd he hk
  unfold r18_Revoke
  refine yd (rcheck_tt h hn) fun _ _ => yi (fun hc => yc (no (by simpa using hc))) fun _ => yd (rat_rb _ _) fun k hk => yd (R := fun (q : Bool) => q = false → 0 ≤ k) (yi (fun _ => yc fun h => by cases h) fun hc => ybc (by simpa using hc) hk fun _ _ _ => yd (has_rb _ _) fun _ _ => yc fun _ => by simpa using hc) fun q hq => yi (fun _ => yc (no (by decide))) fun hc => ybc (hq hc) hk fun y _ hy => ?_
  have hin := (h.2 y hy).1
  exact yd (without_tt om _) fun r hr => yd (rturned_rb h (hq hc) hk (by have hr : r.length ≤ y.In.length := hr; omega)) fun r hr => yc fun _ => hr
theorem rdrop_rb {b : Prop} {n : Nat} {l : List Role} (h : RO n l) (hn : n ≤ 100) (nm : By8) : RB b (r18_Drop l nm) (fun r => r.2 = 0 → RO (n + 1) r.1) := by
  have no : ∀ {k : Int} {C : Prop}, k ≠ 0 → (k = 0 → C) := fun hk he => absurd he hk
  have hl := h.1
  unfold r18_Drop
  refine yd (rcheck_tt h hn) fun _ _ => yi (fun hc => yc (no (by simpa using hc))) fun _ => yd (rat_rb _ _) fun k hk => yi (fun _ => yc (no (by decide))) fun _ => yi (fun _ => yc (no (by decide))) fun _ => yd (forE_ret (fun j (s : List qJ) => s.length ≤ j ∧ ∀ x ∈ s, x.In.length ≤ n + 1 ∧ x.Name.size ≤ 100) ⟨by simp, by simp⟩ ?_) ?_
  · rintro j s hj ⟨g1, g2⟩
    refine yah hj fun x _ _ => yd (R := fun (s : List qJ) => s.length ≤ j + 1 ∧ ∀ x ∈ s, x.In.length ≤ n + 1 ∧ x.Name.size ≤ 100) (yi (fun _ => yah hj fun y _ hy => yah hj fun z _ hz => yd (without_tt (by have := (h.2 z hz).1; omega) _) fun r hr => yax (by simp only [List.length_cons, List.length_nil]; omega) (yc ⟨by simp; omega, fun w hw => ?_⟩)) (fun _ => yc ⟨by omega, g2⟩)) fun s hs => yc hs
    rcases List.mem_append.1 hw with hw | hw
    · exact g2 w hw
    · simp only [List.mem_cons, List.not_mem_nil, or_false] at hw
      subst hw
      have hr : r.length ≤ z.In.length := hr
      exact ⟨by have := (h.2 z hz).1; simp only; omega, (h.2 y hy).2⟩
  · rintro s ⟨g1, g2⟩
    exact yc fun _ => ⟨by simp only; omega, g2⟩
def CI (n : Nat) (c : qC) : Prop := CB n c ∧ RO n c.Roles
theorem CI.up {n m : Nat} {c : qC} (h : CI n c) (hm : n ≤ m) : CI m c := ⟨h.1.up hm, h.2.up hm⟩
theorem heR_len (c : qC) : (heR c).length ≤ c.Grants.length := rnds_len _ _
theorem rcan_val {c : qC} (h : Sm c.Roles) (hg : c.Grants.length ≤ 1000) (r : By8) (p : Int) (t : By8) : r19_Can c r p t = some (owB c r t || haB c (heR c) r p t true) := by
  unfold r19_Can
  simp only [owns_val h, rheld_val h hg, rhas_val h, obs]
  cases owB c r t <;> rfl
theorem rplace_rb {b : Prop} (c : qC) (s : qS) (by_ : By8) : RB b (r19_place c s by_) (fun r => r = -1 ∨ 0 ≤ r ∧ r < (c.Grants.length : Int)) := by
  unfold r19_place
  refine yd (forN_q (Q := fun r => 0 ≤ r ∧ r < (c.Grants.length : Int)) fun j s hj => yah hj fun _ _ _ => yaj (yi (fun _ => yc ⟨by omega, by omega⟩) rt)) ?_
  rintro (_ | _) g
  · exact yc (.inl rfl)
  · exact yc (.inr g)
theorem rgiven_rb {b : Prop} {n : Nat} {c : qC} (h : CI n c) (hn : n ≤ 100) (s : qS) (by_ : By8) : RB b (r19_given c s by_) (fun r => r.2 = 0 → r.1.length ≤ n + 1) := by
  have no : ∀ {k : Int} {C : Prop}, k ≠ 0 → (k = 0 → C) := fun hk he => absurd he hk
  have hg := h.1.grants
  unfold r19_given
  refine yd (tat_rb _ _) fun _ _ => yd (R := TT) (yi rt fun _ => yd (rat_rb _ _) fun _ _ => yc trivial) fun _ _ => yi (fun _ => yc (no (by decide))) fun _ => yd (R := TT) (ybm (rcan_val (h.2.sm hn) om _ _ _) trivial) fun _ _ => yi (fun _ => yc (no (by decide))) fun _ => yd (rplace_rb _ _ _) fun k hk => yax (by simp; omega) ?_
  rw [List.nil_append]
  refine yi (fun hc => ?_) fun _ => yi (fun _ => yc (no (by decide))) fun _ => yax (by simp only [List.length_cons, List.length_nil]; omega) (yc fun _ => by simp; omega)
  have h0 : 0 ≤ k := by simpa using hc
  have h1 : k < (c.Grants.length : Int) := by omega
  exact ybc h0 h1 fun _ _ _ => yi (fun _ => yc (no (by decide))) fun _ => ybc h0 h1 fun _ _ _ => yc fun _ => by simp; omega
theorem rroles_rb {b : Prop} {n : Nat} {c : qC} {s : qS} (h : CI n c) (hn : n ≤ 100) (hm : s.Name.size ≤ 100) : RB b (r19_roles c s) (fun r => r.2 = 0 → RO (n + 1) r.1) := by
  unfold r19_roles
  refine yi (fun _ => yd (rcreate_rb h.2 hn hm) ?_) fun _ => yi (fun _ => yd (rgrant_rb h.2 hn _ _) ?_) fun _ => yi (fun _ => yd (rrevoke_rb h.2 hn _ _) ?_) fun _ => yd (forN_q (Q := fun r => r.2 = (34 : Int)) fun j s hj => yah hj fun _ _ _ => yi (fun _ => yc rfl) rt) ?_
  · rintro ⟨_, _⟩ g; exact yc g
  · rintro ⟨_, _⟩ g; exact yc g
  · rintro ⟨_, _⟩ g; exact yc g
  · rintro (_ | ⟨_, k⟩) g
    · refine yd (rdrop_rb h.2 hn _) ?_
      rintro ⟨_, _⟩ g; exact yc g
    · simp only at g
      subst g
      exact yc fun h => by cases h
theorem gmake_rb {b : Prop} {n : Nat} {c : qC} {s : qS} (h : CI n c) (hn : n ≤ 99) (hm : s.Name.size ≤ 100) (by_ : By8) (most : Int) : RB b (r19_Make c s by_ most) (fun r => r.2 = 0 → CI (n + 1) r.1) := by
  have no : ∀ {k : Int} {C : Prop}, k ≠ 0 → (k = 0 → C) := fun hk he => absurd he hk
  have hg := h.1.grants
  unfold r19_Make
  refine yi (fun _ => yc (no (by decide))) fun _ => yd (rat_rb _ _) fun _ _ => yi (fun _ => yc (no (by decide))) fun _ => yd (R := TT) (yi (fun _ => yd (is_tt (h.2.sm om) _ _) fun _ _ => yc trivial) rt) fun _ _ => yd (R := fun (q : (Int × qC × (List qJ) × (List qG)) ⊕ (Int × qC)) => match q with | .inl (k, _, rs, gs) => k = 0 → RO (n + 1) rs ∧ gs.length ≤ n + 1 | .inr (k, _) => k ≠ 0) ?_ ?_
  · refine yi (fun _ => yc (no (by decide))) fun _ => yd (R := fun (q : (Int × qC × (List qJ) × (List qG)) ⊕ (Int × qC)) => match q with | .inl (k, _, rs, gs) => k = 0 → RO (n + 1) rs ∧ gs.length ≤ n + 1 | .inr (k, _) => k ≠ 0) ?_ ?_
    rotate_left
    · rintro (⟨_, _, _, _⟩ | ⟨_, _⟩) g <;> exact yc g
    refine yi (fun _ => yd (rroles_rb h om hm) ?_) fun _ => yd (R := fun (q : (Int × qC × (List qG)) ⊕ (Int × qC)) => match q with | .inl (k, _, gs) => k = 0 → gs.length ≤ n + 1 | .inr (k, _) => k ≠ 0) (yi (fun _ => yd (rgiven_rb h om _ _) ?_) fun _ => yd (rplace_rb _ _ _) fun k hk => yi (fun _ => yc (show (4 : Int) ≠ 0 by decide)) fun hc => ?_) ?_
    · rintro ⟨_, _⟩ g
      exact yc fun he => ⟨g he, by omega⟩
    · rintro ⟨_, _⟩ g
      exact yc g
    · have h0 : 0 ≤ k ∧ k < (c.Grants.length : Int) := by
        rcases hk with hk | hk
        · subst hk; simp at hc
        · exact hk
      have ew : w64 (k + 1) = k + 1 := w64_id om om
      rw [ew]
      exact ybf om om om fun l1 m1 k1 => yax (by simp; omega) (ybf om om om fun l2 m2 k2 => yax (by simp; omega) (yc fun _ => by simp; omega))
    · rintro (⟨_, _, _⟩ | ⟨_, _⟩) g
      · exact yc fun he => ⟨h.2.up om, g he⟩
      · exact yc g
  · rintro (⟨k, z, rs, gs⟩ | ⟨k, z⟩) g
    · refine yd (R := fun (e : Int) => e = 0 → k = 0) (yi (fun _ => yc fun h => by cases h) fun _ => yc fun h => h) fun e he => yi (fun hc => yc (no (by simpa using hc))) fun hc => ?_
      obtain ⟨g1, g2⟩ := g (he (by simpa using hc))
      have hh : (heR ({ c with Version := (w64 (c.Version + 1)), Roles := rs, Grants := gs } : qC)).length ≤ gs.length := heR_len _
      refine yd (R := fun l => l = heR _) (ybm (rheld_val (g1.sm om) (by show gs.length ≤ 1000; omega)) rfl) fun l hl => yc fun _ => ⟨⟨Nat.le_succ_of_le h.1.tabs, (h.1.up (show n ≤ n + 1 by omega)).ok, ?_⟩, g1⟩
      have hl : l = heR _ := hl
      rw [hl]
      exact Nat.le_trans hh om
    · exact yc (no g)
theorem SF.of {s : qS} (h1 : s.Cols.length ≤ 12) (h2 : s.Cons.length ≤ 12) (h3 : s.Names.length ≤ 12) (h4 : ∀ x ∈ s.Cons, x.Cols.length ≤ 12 ∧ x.Refs.length ≤ 12 ∧ Es x.Check) {l : List By8} (hl : ∀ x ∈ l, x.size ≤ 100)
    (g1 : s.Table ∈ l ∧ s.Name ∈ l) (g2 : ∀ x ∈ s.Cols, x.Name ∈ l) (g3 : ∀ x ∈ s.Cons, x.Name ∈ l ∧ x.Table ∈ l) : SF s :=
  ⟨h1, h2, h3, hl _ g1.1, hl _ g1.2, fun x hx => hl _ (g2 x hx), fun x hx => ⟨hl _ (g3 x hx).1, hl _ (g3 x hx).2, (h4 x hx).1, (h4 x hx).2.1, (h4 x hx).2.2⟩⟩
theorem sfew_fu {b : Prop} : ∀ (n : Nat) (s : qS), (b → s.Kids = [] ∧ 1 ≤ n ∨ 2 ≤ n) → RB b (r12_Few_fu n s) (fun r => r = true → SF s)
  | 0, s, h => ybg fun hb => by have := h hb; omega
  | n + 1, s, h => by
    unfold r12_Few_fu
    refine yaj (yaj (yaj (yd (R := fun (q : Bool) => q = false → s.Cols.length ≤ 12 ∧ s.Cons.length ≤ 12 ∧ s.Names.length ≤ 12 ∧ s.Rows.length ≤ 12 ∧ s.Sets.length ≤ 12 ∧ s.Kids.length ≤ 1) (yi (fun _ => yc fun h => by cases h) fun hc => yd (efew_rb _) fun _ _ => yc fun _ => ?_) fun q hq => yi (fun _ => yc fun h => by cases h) fun hc => ?_)))
    · simp only [Bool.or_eq_false_iff, decide_eq_false_iff_not] at hc
      omega
    obtain ⟨h1, h2, h3, h5, h6, h7⟩ := hq hc
    refine yax (by simp only [List.length_cons, List.length_nil]; omega) ?_
    refine yd (grow (k := 16) (fun (x : qL) => x.Name) (by simp; omega) fun j s x hx => by rw [idx_nat, hx]; rfl) fun l0 hl0 => ?_
    have hl0 : l0 = [s.Table, s.Name, s.Role] ++ s.Names ++ s.Cols.map (·.Name) := hl0
    have hn0 : l0.length ≤ 27 := by rw [hl0]; simp; omega
    refine yd (forN_ret (fun j (l : List By8) => l.length ≤ 27 + j * 26 ∧ (∀ x ∈ l0, x ∈ l) ∧ ∀ x ∈ s.Cons.take j, (x.Cols.length ≤ 12 ∧ x.Refs.length ≤ 12 ∧ Es x.Check) ∧ x.Name ∈ l ∧ x.Table ∈ l) (Q := fun r => r = false) ⟨by omega, fun x hx => hx, by simp⟩ ?_) ?_
    · rintro j l hj ⟨g1, g2, g3⟩
      refine yah hj fun x hx _ => yaj (yd (R := fun (q : Bool) => q = false → x.Cols.length ≤ 12 ∧ x.Refs.length ≤ 12 ∧ Es x.Check) (yi (fun _ => yc fun h => by cases h) fun hc => yd (efew_rb _) fun r hr => yc fun hq => ?_) fun q hq => yi (fun _ => yc rfl) fun hc => ?_)
      · simp only [Bool.or_eq_false_iff, decide_eq_false_iff_not] at hc
        exact ⟨by omega, by omega, hr (by simpa using hq)⟩
      have hx3 := hq hc
      refine yax (by simp only [List.length_cons, List.length_nil]; omega) (yax (by simp; omega) (yax (by simp; omega) (yc ⟨by simp; omega, fun y hy => by simp [g2 y hy], ?_⟩)))
      rw [take_next hx]
      intro y hy
      rcases List.mem_append.1 hy with hy | hy
      · exact ⟨(g3 y hy).1, by simp [(g3 y hy).2.1], by simp [(g3 y hy).2.2]⟩
      · simp only [List.mem_cons, List.not_mem_nil, or_false] at hy
        subst hy
        exact ⟨hx3, by simp, by simp⟩
    rintro (l1 | _) g
    rotate_left
    · exact yc fun h => by subst h; cases g
    obtain ⟨g1, g2, g3⟩ := g
    rw [List.take_length] at g3
    refine yd (forN_q (Q := fun q => q = false) fun j _ hj => yah hj fun x _ _ => yi (fun _ => yc rfl) fun hc => ?_) ?_
    · have hr : ∀ {α : Type} {f : List qE → Option α} {Q : α → Prop}, RB b (f s.Rows[j]) Q → RB b ((idx s.Rows (j : Int)).bind f) Q := fun hf => by rw [idx_mem hj]; exact hf
      rename_i hx1 _
      have hxj : x = s.Rows[j] := by rw [gE hj] at hx1; injection hx1 with hx1; exact hx1.symm
      have hlen : s.Rows[j].length ≤ 12 := by rw [← hxj]; simp only [decide_eq_false_iff_not] at hc; omega
      refine yd (loopO_rb (fun (i : Int) => ∃ k : Nat, i = (k : Int) ∧ k ≤ s.Rows[j].length) (fun i => s.Rows[j].length - i.toNat) (Q := fun r => match r with | .inl q => q = false | .inr _ => True) ?_ ⟨0, rfl, by omega⟩) ?_
      · rintro _ ⟨k, rfl, hk⟩
        refine hr (yi (fun hc => hr ?_) rt)
        have hlt : k < s.Rows[j].length := by simpa using hc
        have ew : w64 ((k : Int) + 1) = ((k + 1 : Nat) : Int) := by rw [w64_id om om]; rfl
        exact yah hlt fun _ _ _ => yd (efew_rb _) fun _ _ => yi (fun _ => yc rfl) fun _ => yc ⟨⟨k + 1, ew, by omega⟩, by rw [ew]; omega⟩
      · rintro (_ | _) g
        · exact yc g
        · exact yc trivial
    rintro (_ | _) g
    rotate_left
    · exact yc fun h => by subst h; cases g
    refine yd (forN_ret (fun j (l : List By8) => l.length ≤ 400 + j ∧ ∀ x ∈ l1, x ∈ l) (Q := fun r => r = false) ⟨by omega, fun x hx => hx⟩ ?_) ?_
    · rintro j l hj ⟨k1, k2⟩
      exact yah hj fun _ _ _ => yax (by simp only [List.length_cons, List.length_nil]; omega) (yah hj fun _ _ _ => yd (efew_rb _) fun _ _ => yi (fun _ => yc rfl) fun _ => yc ⟨by simp; omega, fun x hx => List.mem_append_left _ (k2 x hx)⟩)
    rintro (l2 | _) g
    rotate_left
    · exact yc fun h => by subst h; cases g
    obtain ⟨_, k2⟩ := g
    refine yd (forN_q (Q := fun q => q = false) fun j _ hj => yah hj fun _ _ _ => yd (efew_rb _) fun _ _ => yi (fun _ => yc rfl) rt) ?_
    rintro (_ | _) g
    rotate_left
    · exact yc fun h => by subst h; cases g
    refine yd (forN_ret (fun j _ => ∀ x ∈ l2.take j, x.size ≤ 100) (Q := fun r => r = false) (by simp) ?_) ?_
    · intro j _ hj g
      refine yah hj fun x hx _ => yi (fun _ => yc rfl) fun hc => yc ?_
      show ∀ x ∈ l2.take (j + 1), _
      rw [take_next hx]
      intro y hy
      rcases List.mem_append.1 hy with hy | hy
      · exact g y hy
      · simp only [List.mem_cons, List.not_mem_nil, or_false] at hy
        subst hy
        simp only [decide_eq_false_iff_not] at hc
        omega
    rintro (_ | _) g
    rotate_left
    · exact yc fun h => by subst h; cases g
    rw [List.take_length] at g
    have sf : SF s := by
      refine SF.of h1 h2 h3 (fun x hx => (g3 x hx).1) g ⟨k2 _ (g2 _ (by rw [hl0]; simp)), k2 _ (g2 _ (by rw [hl0]; simp))⟩ (fun x hx => k2 _ (g2 _ ?_)) (fun x hx => ⟨k2 _ (g3 x hx).2.1, k2 _ (g3 x hx).2.2⟩)
      rw [hl0]
      exact List.mem_append_right _ (List.mem_map_of_mem hx)
    refine RB.mono (Q := TT) ?_ (fun _ _ _ => sf)
    refine yd (R := TT) (yi rt fun hc => ?_) fun _ _ => yc trivial
    have hk : 0 < s.Kids.length := by
      cases hs : s.Kids with
      | nil => rw [hs] at hc; cases hc
      | cons => simp
    have h0 : ∀ {α : Type} {f : qS → Option α} {Q : α → Prop}, RB b (f s.Kids[0]) Q → RB b ((idx s.Kids 0).bind f) Q := fun hf => by rw [show (0 : Int) = ((0 : Nat) : Int) from rfl, idx_mem hk]; exact hf
    refine h0 (yd (R := TT) (yi (fun hc2 => h0 (yd (sfew_fu n s.Kids[0] fun hb => ?_).tt fun _ _ => yc trivial)) rt) fun _ _ => yc trivial)
    have e0 : s.Kids[0].Kids = [] := by
      have : s.Kids[0].Kids.length = 0 := by simp at hc2; simp [hc2]
      exact List.eq_nil_of_length_eq_zero this
    rcases h hb with ⟨h, _⟩ | h
    · rw [h] at hk; simp at hk
    · exact .inl ⟨e0, by omega⟩
theorem sfew_rb {b : Prop} (s : qS) : RB b (r12_Few s) (fun r => r = true → SF s) := by
  unfold r12_Few
  exact fuel_tt 2 fun n => sfew_fu n s fun h => .inr h
def AF (l : List law19_Act) : Prop := l.length ≤ 40 ∧ ∀ a ∈ l, SF a.S ∧ a.By.size ≤ 100
theorem afew_rb {b : Prop} (l : List law19_Act) : RB b (law19_Few l) (fun r => r = true → AF l) := by
  unfold law19_Few
  refine yd (forN_ret (fun j _ => j ≤ 40 ∧ ∀ a ∈ l.take j, SF a.S ∧ a.By.size ≤ 100) (Q := fun r => r = false) (by simp) ?_) ?_
  · rintro j _ hj ⟨g0, g⟩
    refine yd (R := fun (q : Bool) => q = false → j < 40 ∧ ∀ x, l[j]? = some x → SF x.S) (yi (fun _ => yc fun h => by cases h) fun hc => yah hj fun x hx _ => yd (sfew_rb _) fun r hr => yc fun hq => ⟨?_, fun y hy => ?_⟩) fun q hq => yd (R := fun (q' : Bool) => q' = false → q = false ∧ ∀ x, l[j]? = some x → x.By.size ≤ 100) (yi (fun _ => yc fun h => by cases h) fun hc => yah hj fun x hx _ => yc fun hq => ⟨hc, fun y hy => ?_⟩) fun q' hq' => yi (fun _ => yc rfl) fun hc => yc ?_
    · simp only [decide_eq_false_iff_not] at hc
      omega
    · rw [hx] at hy
      injection hy with hy
      subst hy
      exact hr (by simpa using hq)
    · rw [hx] at hy
      injection hy with hy
      subst hy
      simp only [decide_eq_false_iff_not] at hq
      omega
    · obtain ⟨e1, e2⟩ := hq' hc
      obtain ⟨e3, e4⟩ := hq e1
      have hx : l[j]? = some l[j] := gE hj
      refine ⟨by omega, ?_⟩
      rw [take_next hx]
      intro y hy
      rcases List.mem_append.1 hy with hy | hy
      · exact g y hy
      · simp only [List.mem_cons, List.not_mem_nil, or_false] at hy
        subst hy
        exact ⟨e4 _ hx, e2 _ hx⟩
  · rintro (_ | _) g
    · rw [List.take_length] at g
      exact yc fun _ => g
    · exact yc fun h => by subst h; cases g
theorem next_rb {b : Prop} {n : Nat} {c : qC} {a : law19_Act} (h : CI n c) (ha : SF a.S ∧ a.By.size ≤ 100) (h12 : 12 ≤ n) (hn : n ≤ 99) : RB b (law19_Next c a) (fun r => CI (n + 1) r.1) := by
  unfold law19_Next
  refine yd (gmake_rb h hn ha.1.name _ _) ?_
  rintro ⟨d, e⟩ g
  refine yd (R := fun (q : Int × qC) => q.1 = 0 → CI (n + 1) q.2) (yi (fun _ => yd (tmake_rb h.1 ha.1 ha.2 h12 om) ?_) fun _ => yc g) ?_
  · rintro ⟨d', e'⟩ g'
    exact yc fun he => ⟨(g' he).1, by rw [(g' he).2]; exact h.2.up om⟩
  · rintro ⟨k, d'⟩ g'
    exact yi (fun _ => yc (h.up om)) fun hc => yc (g' (by simpa using hc))
theorem set_same {α : Type} {xs : List α} {i : Nat} {x : α} (h : xs[i]? = some x) : xs.set i x = xs := by
  refine List.ext_getElem? fun j => ?_
  rw [List.getElem?_set]
  by_cases e : i = j
  · subst e
    have := (List.getElem?_eq_some_iff.1 h).1
    rw [if_pos rfl, if_pos this, h]
  · rw [if_neg e]
theorem clone_str {l : List By8} (h : l.length ≤ 1000) : slices_Clone_string l = some l := by
  unfold slices_Clone_string
  rw [app_le (by simp; omega)]
  rfl
theorem eclone_fu {b : Prop} : ∀ (n : Nat) (e : qE), esz e ≤ 1000 → (b → esz e ≤ n) → RB b (expr_Clone_fu n e) (fun r => r = e)
  | 0, e, _, h => ybg fun hb => by have := h hb; have := esz_pos e; omega
  | n + 1, e, hz, h => by
    have hkl := eszL_len e.Kids
    have h1 := esz_eq e
    unfold expr_Clone_fu
    refine yd (forE_ret (fun j (s : List qE) => s = e.Kids.take j) (by simp) ?_) fun s hs => ?_
    · rintro j s hj rfl
      refine yah hj fun x hx hm => yd (eclone_fu n x (by have := kid_sz hm; omega) fun hb => by have := h hb; have := kid_sz hm; omega) fun r hr => ?_
      have hr : r = x := hr
      subst hr
      exact yax (by simp only [List.length_cons, List.length_nil, List.length_take]; omega) (yc (take_next hx).symm)
    · have hs : s = e.Kids.take e.Kids.length := hs
      rw [List.take_length] at hs
      subst hs
      exact yc (by cases e; rfl)
theorem eclone_eq {e : qE} (hz : esz e ≤ 1000) : expr_Clone e = some e := by
  unfold expr_Clone
  exact Ret.eq (fuel_tt (esz e) fun n => eclone_fu n e hz fun h => h)
theorem tclone_eq {n : Nat} {t : qT} (h : TB n t) (hn : n ≤ 1000) : table_Clone t = some t := by
  have h1 := h.cols
  have h2 := h.cons
  have h3 := h.idx
  unfold table_Clone slices_Clone_qL slices_Clone_qK slices_Clone_qI
  rw [app_le (by simp; omega), app_le (by simp; omega), app_le (by simp; omega)]
  simp only [obs, List.nil_append]
  have c1 : ∀ j s, j < t.Cons.length → s = t.Cons → (idx s (j : Int)).bind (fun (x45 : qK) => (slices_Clone_string x45.Cols).bind (fun (r59 : List By8) => (slices_Clone_string x45.Refs).bind (fun (r65 : List By8) => (expr_Clone x45.Check).bind (fun (r71 : qE) => (idx s (j : Int)).bind (fun (x72 : qK) => (idx (s.set ((j : Int)).toNat ({ x72 with Cols := r59 })) (j : Int)).bind (fun (x85 : qK) => (idx ((s.set ((j : Int)).toNat ({ x72 with Cols := r59 })).set ((j : Int)).toNat ({ x85 with Refs := r65 })) (j : Int)).bind (fun (x97 : qK) => some (((s.set ((j : Int)).toNat ({ x72 with Cols := r59 })).set ((j : Int)).toNat ({ x85 with Refs := r65 })).set ((j : Int)).toNat ({ x97 with Check := r71 }))))))))) = some t.Cons := by
    rintro j s hj rfl
    have hx : t.Cons[j]? = some t.Cons[j] := gE hj
    obtain ⟨_, _, x1, x2, x3⟩ := h.xs _ (List.getElem_mem hj)
    generalize t.Cons[j] = x at hx x1 x2 x3
    have e1 : t.Cons.set ((j : Int)).toNat x = t.Cons := set_same (by simpa using hx)
    simp only [idx_nat, hx, obs, clone_str (show x.Cols.length ≤ 1000 by omega), clone_str (show x.Refs.length ≤ 1000 by omega), eclone_eq (Nat.le_trans x3.1 om : esz x.Check ≤ 1000), e1]
  have c2 : ∀ j s, j < t.Idx.length → s = t.Idx → (idx s (j : Int)).bind (fun (x134 : qI) => (slices_Clone_string x134.Cols).bind (fun (r148 : List By8) => (idx s (j : Int)).bind (fun (x149 : qI) => some (s.set ((j : Int)).toNat ({ x149 with Cols := r148 }))))) = some t.Idx := by
    rintro j s hj rfl
    have hx : t.Idx[j]? = some t.Idx[j] := gE hj
    obtain ⟨_, x1⟩ := h.is _ (List.getElem_mem hj)
    generalize t.Idx[j] = x at hx x1
    have e1 : t.Idx.set ((j : Int)).toNat x = t.Idx := set_same (by simpa using hx)
    simp only [idx_nat, hx, obs, clone_str (show x.Cols.length ≤ 1000 by omega), e1]
  refine Ret.eq (yd (forE_ret (fun _ s => s = t.Cons) rfl fun j s hj hs => ybm (c1 j s hj hs) rfl) fun s hs => yd (forE_ret (fun _ s => s = t.Idx) rfl fun j s hj hs => ybm (c2 j s hj hs) rfl) fun u hu => ?_)
  have hs : s = t.Cons := hs
  have hu : u = t.Idx := hu
  rw [hs, hu]
  exact yc rfl
theorem cfind_eq {n : Nat} {c : qC} (h : CB n c) (hn : n ≤ 1000) (nm : By8) : (tI c nm < 0 ∧ catalog_Find c nm = some (z_qT, false)) ∨ ∃ t, 0 ≤ tI c nm ∧ idx c.Tables (tI c nm) = some t ∧ catalog_Find c nm = some (t, true) := by
  have hf : slices_IndexFunc_qT c.Tables (fun (u0 : qT) => catalog_Find_1 u0 nm) = some (tI c nm) := by
    unfold slices_IndexFunc_qT tI
    rw [forN_find (fun (x : qT) => sEq x.Name nm) (fun j => (j : Int)) (fun j x hx => by rw [idx_nat, hx]; unfold catalog_Find_1; simp only [obs]; cases sEq x.Name nm <;> rfl)]
    cases c.Tables.findIdx? (fun x => sEq x.Name nm) <;> rfl
  unfold catalog_Find
  rw [hf]
  simp only [obs]
  by_cases h0 : 0 ≤ tI c nm
  · right
    obtain ⟨k, t, hk, ht, hm, _⟩ := tI_get h0
    refine ⟨t, h0, by rw [hk, idx_nat]; exact ht, ?_⟩
    rw [show decide (tI c nm ≥ 0) = true by simpa using h0, hk, idx_nat, ht]
    simp only [obs, cond_true, tclone_eq (h.ok t hm).1 hn]
  · left
    rw [show decide (tI c nm ≥ 0) = false by simpa using h0]
    exact ⟨by omega, rfl⟩
theorem SF.role (n : By8) (h : n.size ≤ 100) : SF { z_qS with Kind := 10, Name := n } := ⟨Nat.zero_le _, Nat.zero_le _, Nat.zero_le _, Nat.zero_le _, h, (fun x hx => by cases hx), (fun x hx => by cases hx)⟩
theorem first_rb {b : Prop} : RB b law19_first (CI 16) := by
  unfold law19_first r17_New
  refine yaj (yd (forE_ret (fun j c => CI (12 + j) c) ⟨⟨Nat.zero_le _, (fun t ht => by cases ht), Nat.zero_le _⟩, ⟨by show 1 ≤ 8; omega, fun x hx => ?_⟩⟩ ?_) ?_)
  · simp only [List.mem_cons, List.not_mem_nil, or_false] at hx
    subst hx
    exact ⟨Nat.zero_le _, by show (4 : Nat) ≤ 100; omega⟩
  · rintro j c hj hc
    refine yd (R := fun (q : qC × Int) => q.2 = 0 → CI (12 + (j + 1)) q.1) (yah (xs := [(⟨#[97, 110, 110]⟩ : By8), ⟨#[98, 111, 98]⟩, ⟨#[99, 121]⟩]) hj fun x _ hx => ?_) ?_
    · have hs : x.size ≤ 100 := by
        simp only [List.mem_cons, List.not_mem_nil, or_false] at hx
        rcases hx with rfl | rfl | rfl <;> decide
      refine yd (gmake_rb hc om (SF.role x hs).name _ _) ?_
      rintro ⟨d, e⟩ g
      exact yc g
    · rintro ⟨d, e⟩ g
      exact yd (R := CI (12 + (j + 1))) (yi (fun he => yc (g (by simpa using he))) (fun _ => yc (hc.up om))) fun _ h => yc h
  · intro c hc
    have hc : CI 15 c := hc
    refine yd (tmake_rb (n := 15) hc.1 ⟨by show 1 ≤ 12; omega, Nat.zero_le _, Nat.zero_le _, by show 1 ≤ 100; omega, Nat.zero_le _, fun x hx => ?_, (fun x hx => by cases hx)⟩ (by show 3 ≤ 100; omega) om om) ?_
    · simp only [List.mem_cons, List.not_mem_nil, or_false] at hx
      subst hx
      show 1 ≤ 100
      omega
    · rintro ⟨d, e⟩ g
      exact yd (R := CI 16) (yi (fun he => yc ⟨(g (by simpa using he)).1, by rw [(g (by simpa using he)).2]; exact hc.2.up om⟩) (fun _ => yc (hc.up om))) fun _ h => yc h
theorem RB.any {α : Type} {m : Option α} : RB False m (fun r => m = some r) := ⟨fun h => h.elim, fun _ h => h⟩
theorem RB.no {α : Type} {m : Option α} : RB False m TT := ⟨fun h => h.elim, fun _ _ => trivial⟩
theorem rb_and {α : Type} {b : Prop} {m : Option α} {Q Q' : α → Prop} (h : RB b m Q) (h' : RB False m Q') : RB b m (fun r => Q r ∧ Q' r) := ⟨h.is, fun r e => ⟨h.so r e, h'.so r e⟩⟩
theorem ya9 {α β : Type} {k : Nat} {xs ys : List β} {f : List β → Option α} {Q : α → Prop} (h : RB False (f (xs ++ ys)) Q) : RB False ((app k xs ys).bind f) Q := yd RB.any fun l hl => by rw [(app_some hl).2]; exact h
theorem RB.idP {α β : Type} {xs : List β} {i : Int} {f : β → Option α} {Q : α → Prop} (h : ∀ x, x ∈ xs → RB False (f x) Q) : RB False ((idx xs i).bind f) Q := yd RB.any fun x hx => h x (List.mem_of_getElem? (idx_some hx).2.2)
def HasT (c : qC) (n : By8) : Prop := ∃ t ∈ c.Tables, t.Name = n
theorem has_tI {c : qC} {n : By8} : 0 ≤ tI c n ↔ HasT c n := by
  unfold tI
  cases e : c.Tables.findIdx? (fun x => sEq x.Name n) with
  | none =>
    rw [List.findIdx?_eq_none_iff] at e
    exact ⟨fun h => by simp at h, fun ⟨t, ht, hn⟩ => by have := e t ht; rw [sEq_iff.2 hn] at this; cases this⟩
  | some k =>
    obtain ⟨hk, h2, _⟩ := List.findIdx?_eq_some_iff_getElem.1 e
    exact ⟨fun _ => ⟨_, List.getElem_mem hk, sEq_iff.1 h2⟩, fun _ => by simp⟩
theorem tI_nm {c : qC} {n : By8} {x : qT} (h : 0 ≤ tI c n) (hx : c.Tables[(tI c n).toNat]? = some x) : x.Name = n := by
  obtain ⟨k, t, hk, ht, _, he⟩ := tI_get h
  obtain ⟨hk', h2, _⟩ := List.findIdx?_eq_some_iff_getElem.1 he
  rw [hk, Int.toNat_natCast, gE hk'] at hx
  injection hx with hx
  subst hx
  exact sEq_iff.1 h2
abbrev kk (g : qG) : By8 × By8 × By8 × Int := (g.To, g.By, g.Table, g.Priv)
def UQ (l : List qG) : Prop := l.Pairwise fun g h => kk g ≠ kk h
def GU (c : qC) : Prop := (∀ g ∈ c.Grants, HasT c g.Table) ∧ UQ c.Grants
theorem UQ.map {l m : List qG} (h : UQ l) (e : m.map kk = l.map kk) : UQ m := by
  have h2 : (l.map kk).Pairwise (· ≠ ·) := List.pairwise_map.2 h
  rw [← e] at h2
  exact List.pairwise_map.1 h2
theorem without_p {c : qC} {nm : By8} : RB False (r17_without c nm) (fun r => r = { c with Tables := c.Tables.filter fun t => !sEq t.Name nm }) := by
  unfold r17_without
  refine yd (forE_ret (fun j s => s = (c.Tables.take j).filter fun t => !sEq t.Name nm) (by simp) ?_) fun s hs => yc (by rw [hs, List.take_length])
  rintro j s hj rfl
  refine yah hj fun x hx _ => ?_
  rw [take_next hx, List.filter_append]
  refine yd (R := fun r => r = (c.Tables.take j).filter (fun t => !sEq t.Name nm) ++ [x].filter fun t => !sEq t.Name nm) (yi (fun hc => ?_) fun hc => yc (by simp [hc])) fun _ h => yc h
  rw [idx_nat, hx]
  exact yaj (ya9 (yc (by simp [hc])))
theorem copy_p {t : qT} : RB False (r17_Copy t) (fun r => r = t) := by
  unfold r17_Copy
  exact ya9 (ya9 (ya9 (yc (by simp))))
theorem dropped_p {c : qC} {t : qT} {nm : By8} : RB False (r17_dropped c t nm) (fun r => r.1.Name = t.Name) := by
  unfold r17_dropped
  refine yd (forN_q (Q := fun r => r.2.Name = t.Name) fun j s hj => yah hj fun x _ _ => yi rt fun _ => ya9 (yd RB.no fun _ _ => yd RB.no fun _ _ => yi (fun _ => yc rfl) fun _ => yd copy_p ?_)) ?_
  · rintro _ rfl
    exact yd RB.no fun _ _ => ya9 (yd RB.no fun _ _ => ya9 (yc rfl))
  · rintro (_ | ⟨_, _⟩) g
    · exact yc rfl
    · exact yc g
def LN {α : Type} (n : By8) (q : (Int × qT) ⊕ α) : Prop := match q with | .inl (_, t) => t.Name = n | .inr _ => True
theorem turned_p {c : qC} {t : qT} {s : qS} : RB False (r17_turned c t s) (fun r => r.1.Name = t.Name) := by
  unfold r17_turned
  refine yd copy_p fun u hu => yd RB.no ?_
  subst hu
  rintro ⟨_, names⟩ _
  refine yd (R := LN u.Name) ?_ ?_
  rotate_left
  · rintro (⟨_, _⟩ | ⟨_, _, _, _⟩) g
    · exact yc g
    · exact yc rfl
  refine yi (fun _ => yi (fun _ => yc rfl) fun _ => RB.idP fun _ _ => yd RB.no fun _ _ => yi (fun _ => yc rfl) fun _ => RB.idP fun _ _ => ya9 (yc trivial)) fun _ => ?_
  refine yd (R := LN u.Name) ?_ ?_
  rotate_left
  · rintro (⟨_, _⟩ | ⟨_, _, _, _⟩) g
    · exact yc g
    · exact yc trivial
  refine yi (fun _ => yd RB.no fun _ _ => yi (fun _ => yc rfl) fun _ => yd RB.no fun _ _ => yd RB.no fun _ _ => yi (fun _ => yc rfl) fun _ => yd RB.no fun _ _ => ya9 (yd RB.no fun _ _ => ya9 (yc trivial))) fun _ => ?_
  refine yd (R := LN u.Name) ?_ ?_
  rotate_left
  · rintro (⟨_, _⟩ | ⟨_, _, _⟩) g
    · exact yc g
    · exact yc trivial
  refine yi (fun _ => yi (fun _ => yc rfl) fun _ => RB.idP fun _ _ => yd RB.no fun _ _ => yi (fun _ => yc rfl) fun _ => yi (fun _ => yc rfl) fun _ => RB.idP fun _ _ => ya9 (yc trivial)) fun _ => ?_
  refine yd (R := LN u.Name) ?_ ?_
  rotate_left
  · rintro (⟨_, _⟩ | ⟨_, _⟩) g
    · exact yc g
    · exact yc trivial
  refine yi (fun _ => yd RB.no fun _ _ => yi (fun _ => yc rfl) fun _ => yi (fun _ => yc rfl) fun _ => ya9 (yc trivial)) fun _ => yi (fun _ => yd dropped_p ?_) fun _ => yi (fun _ => yd (forN_q (Q := fun r => r.2.Name = u.Name) ?_) ?_) fun _ => yc trivial
  · rintro ⟨_, _⟩ g
    exact yc g
  · rintro j ⟨_, _⟩ hj
    exact yah hj fun x _ _ => yi (fun _ => yd RB.no fun _ _ => ya9 (yd RB.no fun _ _ => ya9 (yc rfl))) fun _ => yc trivial
  · rintro (⟨_, _⟩ | ⟨_, _⟩) g
    · exact yc rfl
    · exact yc g
def CG (n : Nat) (c : qC) : Prop := CI n c ∧ GU c
theorem CG.up {n m : Nat} {c : qC} (h : CG n c) (hm : n ≤ m) : CG m c := ⟨h.1.up hm, h.2⟩
def VB (c : qC) : Prop := 0 ≤ c.Version ∧ c.Version ≤ 1000
theorem vb_next {c : qC} (h : VB c) (hl : c.Version < 1000) : 0 ≤ w64 (c.Version + 1) ∧ w64 (c.Version + 1) ≤ 1000 := by
  obtain ⟨a, b⟩ := h
  rw [w64_id om om]
  omega
theorem tmake_v {c : qC} (h : VB c) (s : qS) (by_ : By8) : RB False (r17_Make c s by_ 1000) (fun r => r.2 = 0 → VB r.1) := by
  have no : ∀ {k : Int} {C : Prop}, k ≠ 0 → (k = 0 → C) := fun hk he => absurd he hk
  unfold r17_Make
  refine yi (fun _ => yc (no (by decide))) fun _ => ybi (tat_val c _) (yi (fun _ => yc (no (by decide))) fun _ => yi (fun _ => yc (no (by decide))) fun _ => yi (fun _ => yc (no (by decide))) fun _ => yd RB.no fun w _ => ?_)
  refine yd (R := fun (q : (Int × qC × Int × (List qT) × (List qJ) × (List qG) × qT) ⊕ (Int × qC × qT)) => match q with | .inl _ => True | .inr (k, _, _) => k ≠ 0) ?_ ?_
  · refine yi rt fun _ => yd (R := fun (q : (Int × qC × qT) ⊕ (Int × qC × Int × (List qT) × (List qJ) × (List qG) × qT)) => match q with | .inl (k, _, _) => k ≠ 0 | .inr _ => True) ?_ ?_
    · refine yi (fun _ => yd RB.no fun _ _ => yi (fun _ => yc (show (34 : Int) ≠ 0 by decide)) fun _ => yd RB.no fun _ _ => yc trivial) fun _ => yd (R := fun (q : (Int × qC × qT) ⊕ (Int × qC × Int × (List qT) × (List qJ) × (List qG) × qT)) => match q with | .inl (k, _, _) => k ≠ 0 | .inr _ => True) ?_ ?_
      · refine yi (fun _ => yd RB.no fun _ _ => yi (fun _ => yc (show (19 : Int) ≠ 0 by decide)) fun _ => yd RB.no fun _ _ => yd RB.no ?_) fun _ => yd RB.no fun _ _ => yd RB.no ?_ <;> (rintro ⟨_, _⟩ _; exact yc trivial)
      · rintro (⟨_, _, _⟩ | ⟨_, _, _, _, _, _, _⟩) g <;> exact yc g
    · rintro (⟨_, _, _⟩ | ⟨_, _, _, _, _, _, _⟩) g <;> exact yc g
  · rintro (⟨k, z, v, ts, rs, gs, u⟩ | ⟨k, z, u⟩) g
    · refine yd RB.no fun e _ => yd (R := fun e' => e' = 0 → c.Version < 1000) (yi (fun _ => yc fun h => by cases h) fun hc => yc fun he => ?_) fun e' he' => yi (fun hc => yc (no (by simpa using hc))) fun hc => yd RB.no ?_
      · have he : e = 0 := he
        rw [he] at hc
        simpa using hc
      · rintro ⟨_, _, _, _, _⟩ _
        exact yc fun _ => vb_next h (he' (by simpa using hc))
    · exact yc (no g)
theorem gmake_v {c : qC} (h : VB c) (s : qS) (by_ : By8) : RB False (r19_Make c s by_ 1000) (fun r => r.2 = 0 → VB r.1) := by
  have no : ∀ {k : Int} {C : Prop}, k ≠ 0 → (k = 0 → C) := fun hk he => absurd he hk
  unfold r19_Make
  refine yi (fun _ => yc (no (by decide))) fun _ => yd RB.no fun _ _ => yi (fun _ => yc (no (by decide))) fun _ => yd RB.no fun _ _ => ?_
  refine yd (R := fun (q : (Int × qC × (List qJ) × (List qG)) ⊕ (Int × qC)) => match q with | .inl _ => True | .inr (k, _) => k ≠ 0) ?_ ?_
  · refine yi rt fun _ => yd (R := fun (q : (Int × qC × (List qJ) × (List qG)) ⊕ (Int × qC)) => match q with | .inl _ => True | .inr (k, _) => k ≠ 0) ?_ ?_
    · refine yi (fun _ => yd RB.no ?_) fun _ => yd (R := fun (q : (Int × qC × (List qG)) ⊕ (Int × qC)) => match q with | .inl _ => True | .inr (k, _) => k ≠ 0) (yi (fun _ => yd RB.no ?_) fun _ => yd RB.no fun _ _ => yi (fun _ => yc (show (4 : Int) ≠ 0 by decide)) fun _ => yd RB.no fun _ _ => yd RB.no fun _ _ => yd RB.no fun _ _ => yd RB.no fun _ _ => yc trivial) ?_
      · rintro ⟨_, _⟩ _; exact yc trivial
      · rintro ⟨_, _⟩ _; exact yc trivial
      · rintro (⟨_, _, _⟩ | ⟨_, _⟩) g <;> exact yc g
    · rintro (⟨_, _, _, _⟩ | ⟨_, _⟩) g <;> exact yc g
  · rintro (⟨k, z, rs, gs⟩ | ⟨k, z⟩) g
    · refine yd (R := fun e' => e' = 0 → c.Version < 1000) (yi (fun _ => yc fun h => by cases h) fun hc => yc fun he => ?_) fun e' he' => yi (fun hc => yc (no (by simpa using hc))) fun hc => yd RB.no fun _ _ => yc fun _ => vb_next h (he' (by simpa using hc))
      have he : k = 0 := he
      rw [he] at hc
      simpa using hc
    · exact yc (no g)
theorem next_v {c : qC} (h : VB c) (a : law19_Act) : RB False (law19_Next c a) (fun r => VB r.1) := by
  unfold law19_Next
  refine yd (gmake_v h _ _) ?_
  rintro ⟨d, e⟩ hd
  refine yd (R := fun (q : Int × qC) => q.1 = 0 → VB q.2) (yi (fun _ => yd (tmake_v h _ _) ?_) fun _ => yc hd) ?_
  · rintro ⟨d', e'⟩ hd'
    exact yc hd'
  · rintro ⟨e', d'⟩ hq
    exact yi (fun _ => yc h) fun hc => yc (hq (by simpa using hc))
theorem grown_v (l : List law19_Act) : RB False (law19_Grown l) VB := by
  unfold law19_Grown
  have hf : RB False law19_first VB := by
    unfold law19_first r17_New
    refine yaj (yd (forE_ret (fun _ c => VB c) ⟨by decide, by decide⟩ fun j c _ hc => yd (R := fun (q : qC × Int) => q.2 = 0 → VB q.1) (yd RB.no fun _ _ => yd (gmake_v hc _ _) ?_) ?_) fun c hc => yd (tmake_v hc _ _) ?_)
    · rintro ⟨d, e⟩ h
      exact yc h
    · rintro ⟨d, e⟩ h
      exact yd (R := VB) (yi (fun he => yc (h (by simpa using he))) fun _ => yc hc) fun _ h => yc h
    · rintro ⟨d, e⟩ h
      exact yd (R := VB) (yi (fun he => yc (h (by simpa using he))) fun _ => yc hc) fun _ h => yc h
  refine yd hf fun c hc => yd (forE_ret (fun _ c => VB c) hc fun j c _ hc => yd RB.no fun a _ => yd (next_v hc a) ?_) fun c hc => yc hc
  rintro ⟨d, e⟩ h
  exact yc h
def nmT (t : qT) : By8 := t.Name
def TU (c : qC) : Prop := (c.Tables.map nmT).Nodup
theorem with_n {c : qC} {t : qT} (h : TU c) (hn : ∀ x ∈ c.Tables, nmT x ≠ nmT t) : RB False (r17_with c t) TU := by
  unfold r17_with
  refine yd RB.no fun s _ => yd RB.any fun l1 h1 => ya9 (ya9 (yd RB.any fun l2 h2 => ya9 (yc ?_)))
  obtain ⟨a0, a1, a2, rfl⟩ := sub_some h1
  obtain ⟨b0, b1, b2, rfl⟩ := sub_some h2
  have e : c.Tables = c.Tables.take s.toNat ++ c.Tables.drop s.toNat := (List.take_append_drop ..).symm
  have h' : ((c.Tables.take s.toNat).map nmT ++ (c.Tables.drop s.toNat).map nmT).Nodup := by rw [← List.map_append, ← e]; exact h
  obtain ⟨p1, p2, p3⟩ := List.nodup_append.1 h'
  show (List.map nmT _).Nodup
  simp only [List.nil_append, List.map_append, List.map_cons, List.map_nil, Int.toNat_zero, List.drop_zero, Int.toNat_natCast, List.take_length]
  refine List.nodup_append.2 ⟨List.nodup_append.2 ⟨p1, by simp, fun a ha b hb => ?_⟩, p2, fun a ha b hb => ?_⟩
  · simp only [List.mem_cons, List.not_mem_nil, or_false] at hb
    subst hb
    obtain ⟨x, hx, rfl⟩ := List.mem_map.1 ha
    exact hn x (List.mem_of_mem_take hx)
  · rcases List.mem_append.1 ha with ha | ha
    · exact p3 a ha b hb
    · simp only [List.mem_cons, List.not_mem_nil, or_false] at ha
      subst ha
      obtain ⟨x, hx, rfl⟩ := List.mem_map.1 hb
      exact (hn x (List.mem_of_mem_drop hx)).symm
theorem pointed_n {t : qT} {p q : By8} : RB False (r17_pointed t p q) (fun r => r.1.Name = t.Name) := by
  unfold r17_pointed
  refine yd copy_p ?_
  rintro _ rfl
  refine yd RB.no ?_
  rintro ⟨_, _⟩ _
  exact yc rfl
theorem renamed_n {c : qC} {t : qT} {q : By8} : RB False (r17_renamed c t q) (fun r => r.2.Name = q ∧ r.1.Tables.map nmT = (c.Tables.filter fun x => !sEq x.Name t.Name).map nmT) := by
  unfold r17_renamed
  refine yd RB.no ?_
  rintro ⟨u, _⟩ _
  refine yd (forE_ret (fun j (s : List qT) => s.map nmT = ((c.Tables.take j).filter fun x => !sEq x.Name t.Name).map nmT) (by simp) ?_) fun ts hts => yd RB.no fun gs _ => yc ⟨rfl, ?_⟩
  · intro j s hj g
    refine yd (R := fun (r : qT × Bool) => ∀ x, c.Tables[j]? = some x → r.1.Name = x.Name) (yah hj fun x hx _ => yd pointed_n ?_) ?_
    · rintro ⟨_, _⟩ h
      exact yc fun y hy => by rw [hx] at hy; injection hy with hy; rw [← hy]; exact h
    rintro ⟨u, f⟩ hu
    refine yd (R := fun (u : qT) => ∀ x, c.Tables[j]? = some x → u.Name = x.Name) (yi (fun _ => yc hu) (fun _ => yc hu)) fun v hv => yah hj fun x hx _ => yd (R := fun (s : List qT) => s.map nmT = ((c.Tables.take (j + 1)).filter fun x => !sEq x.Name t.Name).map nmT) (yi (fun hc => ya9 (yc ?_)) fun hc => yc ?_) fun s h => yc h
    · rw [take_next hx, List.filter_append, List.map_append, List.map_append, g]
      congr 1
      simp [hc, nmT, hv _ hx]
    · rw [take_next hx, List.filter_append, List.map_append, g]
      simp [hc]
  · have hts : ts.map nmT = _ := hts
    show ts.map nmT = _
    rw [hts, List.take_length]
theorem tmake_n {c : qC} {s : qS} {by_ : By8} {most : Int} (hu : TU c) : RB False (r17_Make c s by_ most) (fun r => r.2 = 0 → TU r.1) := by
  have no : ∀ {k : Int} {C : Prop}, k ≠ 0 → (k = 0 → C) := fun hk he => absurd he hk
  have hf : ∀ n : By8, ((c.Tables.filter fun t => !sEq t.Name n).map nmT).Nodup := fun n => List.Nodup.sublist (List.filter_sublist.map _) hu
  have hr : ∀ n : By8, ∀ t ∈ c.Tables.filter (fun t => !sEq t.Name n), nmT t ≠ n := fun n t ht e => by
    have := (List.mem_filter.1 ht).2
    rw [show t.Name = n from e, sEq_iff.2 rfl] at this
    cases this
  unfold r17_Make
  refine yi (fun _ => yc (no (by decide))) fun _ => ybi (tat_val c _) (yi (fun _ => yc (no (by decide))) fun _ => yi (fun _ => yc (no (by decide))) fun _ => yi (fun _ => yc (no (by decide))) fun hc4 => yd without_p fun w hw => ?_)
  subst hw
  have hne : (s.Kind == 1) = false → 0 ≤ tI c s.Table := by
    intro hk
    rw [show (s.Kind != 1) = true by simp [bne, hk]] at hc4
    simpa using hc4
  refine yd (R := fun (q : (Int × qC × Int × (List qT) × (List qJ) × (List qG) × qT) ⊕ (Int × qC × qT)) => match q with | .inl (_, _, v, ts, rs, gs, u) => (ts.map nmT).Nodup ∧ (s.Kind ≠ 2 → ∀ t ∈ ts, nmT t ≠ u.Name) | .inr (k, _, _) => k ≠ 0) ?_ ?_
  · refine yi (fun k1 => yc ⟨hf _, fun _ => hr _⟩) fun k1 => ?_
    have a0 := hne k1
    refine yd (R := fun (q : (Int × qC × qT) ⊕ (Int × qC × Int × (List qT) × (List qJ) × (List qG) × qT)) => match q with | .inr (_, _, v, ts, rs, gs, u) => (ts.map nmT).Nodup ∧ (s.Kind ≠ 2 → ∀ t ∈ ts, nmT t ≠ u.Name) | .inl (k, _, _) => k ≠ 0) ?_ ?_
    rotate_left
    · rintro (⟨_, _, _⟩ | ⟨_, _, _, _, _, _, _⟩) g <;> exact yc g
    refine yi (fun hk => yd RB.no fun _ _ => yi (fun _ => yc (show (34 : Int) ≠ 0 by decide)) fun _ => yd RB.no fun gs hg => yc ⟨hf _, fun h => absurd (by simpa using hk) h⟩) fun k2 => ?_
    refine yd (R := fun (q : (Int × qC × qT) ⊕ (Int × qC × Int × (List qT) × (List qJ) × (List qG) × qT)) => match q with | .inr (_, _, v, ts, rs, gs, u) => (ts.map nmT).Nodup ∧ (s.Kind ≠ 2 → ∀ t ∈ ts, nmT t ≠ u.Name) | .inl (k, _, _) => k ≠ 0) ?_ ?_
    rotate_left
    · rintro (⟨_, _, _⟩ | ⟨_, _, _, _, _, _, _⟩) g <;> exact yc g
    refine yi (fun _ => ybi (tat_val c _) (yi (fun _ => yc (show (19 : Int) ≠ 0 by decide)) fun hq => yd RB.any fun x hx => yd renamed_n ?_)) fun _ => yd RB.any fun x hx => yd turned_p ?_
    · have hn := tI_nm a0 (idx_some hx).2.2
      have hq : ¬ HasT c s.Name := fun h => by have := has_tI.2 h; simp at hq; omega
      rintro ⟨d, u⟩ ⟨d1, d2⟩
      simp only at d1 d2
      refine yc ?_
      show (d.Tables.map nmT).Nodup ∧ (s.Kind ≠ 2 → ∀ t ∈ d.Tables, nmT t ≠ u.Name)
      rw [d2]
      refine ⟨hf _, fun _ t ht e => ?_⟩
      have : nmT t ∈ (c.Tables.filter fun x' => !sEq x'.Name x.Name).map nmT := by rw [← d2]; exact List.mem_map.2 ⟨t, ht, rfl⟩
      obtain ⟨y, hy, e2⟩ := List.mem_map.1 this
      exact hq ⟨y, (List.mem_filter.1 hy).1, e2.trans (e.trans d1)⟩
    · have hn := tI_nm a0 (idx_some hx).2.2
      rintro ⟨u, e⟩ g
      refine yc ?_
      refine ⟨hf _, fun _ t ht => ?_⟩
      rw [g, hn]
      exact hr _ t ht
  · rintro (⟨k, z, v, ts, rs, gs, u⟩ | ⟨k, z, u⟩) g
    · obtain ⟨g1, g2⟩ := g
      refine yd RB.no fun e _ => yd RB.no fun e' _ => yi (fun hc => yc (no (by simpa using hc))) fun hc => yd (R := fun (q : Int × (List qT) × (List qJ) × (List qG) × qT) => (q.2.1.map nmT).Nodup) (yi (fun hk => yd (with_n g1 (g2 (by simpa using hk))) fun r hr => yc hr) fun hk => yc g1) ?_
      rintro ⟨q1, q2, q3, q4, q5⟩ e1
      exact yc fun _ => e1
    · exact yc (no g)
theorem gmake_n {c : qC} {s : qS} (by_ : By8) (most : Int) : RB False (r19_Make c s by_ most) (fun r => r.2 = 0 → r.1.Tables = c.Tables) := by
  have no : ∀ {k : Int} {C : Prop}, k ≠ 0 → (k = 0 → C) := fun hk he => absurd he hk
  unfold r19_Make
  refine yi (fun _ => yc (no (by decide))) fun _ => yd RB.no fun _ _ => yi (fun _ => yc (no (by decide))) fun _ => yd RB.no fun _ _ => yd (R := fun (q : (Int × qC × (List qJ) × (List qG)) ⊕ (Int × qC)) => match q with | .inl _ => True | .inr (k, _) => k ≠ 0) ?_ ?_
  · refine yi rt fun _ => yd (R := fun (q : (Int × qC × (List qJ) × (List qG)) ⊕ (Int × qC)) => match q with | .inl _ => True | .inr (k, _) => k ≠ 0) ?_ ?_
    rotate_left
    · rintro (⟨_, _, _, _⟩ | ⟨_, _⟩) g <;> exact yc g
    refine yi (fun _ => yd RB.no fun _ _ => yc trivial) fun _ => yd (R := fun (q : (Int × qC × (List qG)) ⊕ (Int × qC)) => match q with | .inl _ => True | .inr (k, _) => k ≠ 0) (yi (fun _ => yd RB.no fun _ _ => yc trivial) fun _ => yd RB.no fun _ _ => yi (fun _ => yc (show (4 : Int) ≠ 0 by decide)) fun hc => yd RB.any fun l1 e1 => ya9 (yd RB.any fun l2 e2 => ya9 (yc trivial))) ?_
    rintro (⟨_, _, _⟩ | ⟨_, _⟩) g <;> exact yc g
  · rintro (⟨k, z, rs, gs⟩ | ⟨k, z⟩) g
    · exact yd RB.no fun e he => yi (fun hc => yc (no (by simpa using hc))) fun hc => yd RB.no fun _ _ => yc fun _ => rfl
    · exact yc (no g)
def CT (n : Nat) (c : qC) : Prop := CI n c ∧ TU c
theorem CT.up {n m : Nat} {c : qC} (h : CT n c) (hm : n ≤ m) : CT m c := ⟨h.1.up hm, h.2⟩
theorem next_tu {b : Prop} {n : Nat} {c : qC} {a : law19_Act} (h : CT n c) (ha : SF a.S ∧ a.By.size ≤ 100) (h12 : 12 ≤ n) (hn : n ≤ 99) : RB b (law19_Next c a) (fun r => CT (n + 1) r.1) := by
  refine rb_and (next_rb h.1 ha h12 hn) ?_
  have hu : TU c := h.2
  unfold law19_Next
  refine yd (gmake_n _ _) ?_
  rintro ⟨d, e⟩ g
  refine yd (R := fun (q : Int × qC) => q.1 = 0 → TU q.2) (yi (fun _ => yd (tmake_n hu) ?_) fun _ => yc fun he => by show (d.Tables.map nmT).Nodup; rw [g he]; exact hu) ?_
  · rintro ⟨d', e'⟩ g'
    exact yc g'
  · rintro ⟨k, d'⟩ g'
    exact yi (fun _ => yc hu) fun hc => yc (g' (by simpa using hc))
theorem first_tu {b : Prop} : RB b law19_first (CT 16) := by
  refine rb_and first_rb ?_
  unfold law19_first r17_New
  refine yaj (yd (forE_ret (fun j c => TU c) (by show (List.map nmT []).Nodup; simp) ?_) ?_)
  · rintro j c hj hc
    refine yd (R := fun (q : qC × Int) => q.2 = 0 → TU q.1) (yah (xs := [(⟨#[97, 110, 110]⟩ : By8), ⟨#[98, 111, 98]⟩, ⟨#[99, 121]⟩]) hj fun x _ hx => yd (gmake_n _ _) ?_) ?_
    · rintro ⟨d, e⟩ g
      exact yc fun he => by show (d.Tables.map nmT).Nodup; rw [g he]; exact hc
    · rintro ⟨d, e⟩ g
      exact yd (R := TU) (yi (fun he => yc (g (by simpa using he))) (fun _ => yc hc)) fun _ h => yc h
  · intro c hc
    refine yd (tmake_n hc) ?_
    rintro ⟨d, e⟩ g
    exact yd (R := TU) (yi (fun he => yc (g (by simpa using he))) (fun _ => yc hc)) fun _ h => yc h
theorem grown_nil {b : Prop} : RB b (law19_Grown []) (CT 16) := by
  unfold law19_Grown
  exact yd first_tu fun c hc => yc hc
theorem chk_val (h : chain_Chain) (w : Int) : chain_Chain_check h w = some (if 1 ≤ w ∧ w ≤ 8 then 0 else 2) := by
  unfold chain_Chain_check chain_Chain_dead
  simp only [obs]
  by_cases hw : 1 ≤ w ∧ w ≤ 8
  · rw [if_pos hw, show (decide (w < 1) || decide (w > 8)) = false by simp; omega]
    rfl
  · rw [if_neg hw, show (decide (w < 1) || decide (w > 8)) = true by simp; omega]
    rfl
theorem le_lt {a b c : By8} (h1 : sLt b a = false) (h2 : sLt b c = true) : sLt a c = true := by
  rcases sLt_total a b with h | h | h
  · exact sLt_trans h h2
  · rw [h]; exact h2
  · rw [h1] at h; cases h
theorem step_lt {L : List By8} (hs : L.Pairwise fun a b => sLt b a = false) {j : Nat} {x y : By8} (hx : L[j]? = some x) (hy : L[j + 1]? = some y) (hne : x ≠ y) : ∀ z ∈ L.take (j + 1), sLt z y = true := by
  obtain ⟨h1, rfl⟩ := List.getElem?_eq_some_iff.1 hx
  obtain ⟨h2, rfl⟩ := List.getElem?_eq_some_iff.1 hy
  have hxy : sLt L[j] L[j + 1] = true := by
    have := List.pairwise_iff_getElem.1 hs j (j + 1) h1 h2 om
    rcases sLt_total L[j] L[j + 1] with h | h | h
    · exact h
    · exact absurd h hne
    · rw [this] at h; cases h
  intro z hz
  obtain ⟨i, hi, rfl⟩ := List.mem_take_iff_getElem.1 hz
  by_cases e : i = j
  · subst e; exact hxy
  · exact le_lt (List.pairwise_iff_getElem.1 hs i j om h1 om) hxy
theorem compact_val {L : List By8} (hs : L.Pairwise fun a b => sLt b a = false) (hl : L.length ≤ 100000) : ∃ y, slices_Compact_string L = some y ∧ Asc y ∧ y.length ≤ L.length ∧ ∀ n, n ∈ y ↔ n ∈ L := by
  refine Ret.ex ?_
  unfold slices_Compact_string
  refine yi (fun hc => yc ⟨?_, Nat.le_refl _, fun n => Iff.rfl⟩) fun hc => ?_
  · have hc : L.length < 2 := by simp only [decide_eq_true_eq] at hc; omega
    match L, hc with
    | [], _ => exact List.Pairwise.nil
    | [x], _ => exact List.pairwise_singleton _ _
  have hc : 2 ≤ L.length := by simp only [decide_eq_false_iff_not] at hc; omega
  refine yd (R := fun (t : List By8 ⊕ List By8) => match t with | .inl y => Asc y ∧ y.length ≤ L.length ∧ ∀ n, n ∈ y ↔ n ∈ L | .inr y => Asc y ∧ y.length ≤ L.length ∧ ∀ n, n ∈ y ↔ n ∈ L)
    (loopO_rb (fun (s : Int × List By8) => ∃ k : Nat, s.1 = (k : Int) ∧ 1 ≤ k ∧ k ≤ L.length ∧ s.2 = L ∧ Asc (L.take k)) (fun s => L.length - s.1.toNat) ?_ ⟨1, rfl, by omega, by omega, rfl, ?_⟩) ?_
  rotate_left
  · obtain ⟨x, r, e⟩ := List.exists_cons_of_ne_nil (show L ≠ [] by rintro rfl; simp at hc)
    rw [e]
    exact List.pairwise_singleton _ _
  · rintro (y | y) h <;> exact yc h
  rintro ⟨_, s⟩ ⟨k, rfl, k1, kl, rfl, hk⟩
  simp only at kl hk hl hs hc ⊢
  refine yi (fun hlt => ?_) fun hlt => ?_
  rotate_left
  · have : k = s.length := by simp only [decide_eq_false_iff_not] at hlt; omega
    subst this
    rw [List.take_length] at hk
    exact yc ⟨hk, Nat.le_refl _, fun n => Iff.rfl⟩
  have hlt : k < s.length := by simp only [decide_eq_true_eq] at hlt; omega
  have ek : w64 ((k : Int) - 1) = ((k - 1 : Nat) : Int) := by rw [w64_id om om]; omega
  have ekk : w64 ((k : Int) + 1) = ((k + 1 : Nat) : Int) := by rw [w64_id om om]; rfl
  refine yah hlt fun x hx _ => ?_
  rw [ek, ekk]
  refine yah om fun x' hx' _ => yi (fun he => ?_) fun he => ?_
  rotate_left
  · refine yc ⟨⟨k + 1, rfl, by omega, by omega, rfl, ?_⟩, by simp only [Int.toNat_natCast]; omega⟩
    have hne : x' ≠ x := by
      rintro rfl
      rw [sEq_iff.2 rfl] at he
      cases he
    rw [take_snoc hx]
    refine List.pairwise_append.2 ⟨hk, List.pairwise_singleton _ _, fun a ha b hb => ?_⟩
    simp only [List.mem_singleton] at hb
    subst hb
    have := step_lt hs (j := k - 1) hx' (by rw [show k - 1 + 1 = k by omega]; exact hx) hne
    rw [show k - 1 + 1 = k by omega] at this
    exact this a ha
  have he : x' = x := (sEq_iff.1 he).symm
  subst he
  rw [sub_at (i := k) (j := s.length) rfl rfl om (Nat.le_refl _)]
  refine yaj ?_
  have hL : s.length ≤ 100000 := hl
  refine yd (R := fun (t : Int × List By8) => ∃ wr : Nat, t.1 = (wr : Int) ∧ wr ≤ t.2.length ∧ t.2.length = s.length ∧ Asc (t.2.take wr) ∧ ∀ n, n ∈ t.2.take wr ↔ n ∈ s)
    (loopO_rb (fun (t : Int × Int × List By8) => ∃ wr k2 : Nat, t.1 = (wr : Int) ∧ t.2.1 = (k2 : Int) ∧ 1 ≤ k2 ∧ k ≤ wr ∧ wr ≤ k + k2 - 1 ∧ k + k2 ≤ s.length ∧ t.2.2.length = s.length ∧ (∀ i, k + k2 - 1 ≤ i → t.2.2[i]? = s[i]?) ∧ Asc (t.2.2.take wr) ∧ ∀ n, n ∈ t.2.2.take wr ↔ n ∈ s.take (k + k2))
      (fun t => s.length - t.2.1.toNat) ?_ ⟨k, 1, rfl, rfl, by omega, by omega, by omega, by omega, rfl, fun _ _ => rfl, hk, fun n => ?_⟩) ?_
  · rintro ⟨_, _, u⟩ ⟨wr, k2, rfl, rfl, a1, a2, a3, a4, a5, a6, a7, a8⟩
    simp only at a5 a6 a7 a8 ⊢
    rw [Int.toNat_natCast]
    refine yi (fun h2 => ?_) fun h2 => ?_
    · have h2 : k + k2 < s.length := by simp only [decide_eq_true_eq] at h2; omega
      have e1 : w64 ((k2 : Int) - 1) = ((k2 - 1 : Nat) : Int) := by rw [w64_id om om]; omega
      have e2 : w64 ((k2 : Int) + 1) = ((k2 + 1 : Nat) : Int) := by rw [w64_id om om]; rfl
      have e3 : w64 ((wr : Int) + 1) = ((wr + 1 : Nat) : Int) := by rw [w64_id om om]; rfl
      have g1 : s[k + k2]? = some s[k + k2] := gE h2
      have g2 : s[k + k2 - 1]? = some s[k + k2 - 1] := gE om
      have v1 : vidx u k (k2 : Int) = some s[k + k2] := by
        unfold vidx
        rw [if_pos om]
        exact idx_at (j := k + k2) om (by rw [a6 _ om, g1])
      have v2 : vidx u k ((k2 - 1 : Nat) : Int) = some s[k + k2 - 1] := by
        unfold vidx
        rw [if_pos om]
        exact idx_at (j := k + k2 - 1) om (by rw [a6 _ om, g2])
      have hwl : wr < u.length := by omega
      rw [e1, e2, e3, v1, v2]
      refine yaj (yaj ?_)
      refine yd (R := fun (t : Int × List By8) => ∃ wr' : Nat, t.1 = (wr' : Int) ∧ k ≤ wr' ∧ wr' ≤ k + k2 ∧ t.2.length = s.length ∧ (∀ i, k + k2 ≤ i → t.2[i]? = s[i]?) ∧ Asc (t.2.take wr') ∧ ∀ n, n ∈ t.2.take wr' ↔ n ∈ s.take (k + k2 + 1)) (yi (fun hd => ?_) fun hd => ?_) ?_
      · rw [idx_mem hwl]
        refine yaj (yc ⟨wr + 1, rfl, by omega, by omega, by simp only [List.length_set]; exact a5, fun i hi => ?_, ?_, fun n => ?_⟩)
        · simp only [Int.toNat_natCast]
          rw [List.getElem?_set, if_neg om]
          exact a6 i om
        · simp only [Int.toNat_natCast]
          rw [take_snoc (x := s[k + k2]) (by rw [List.getElem?_set, if_pos rfl, if_pos hwl]), List.take_set_of_le om]
          refine List.pairwise_append.2 ⟨a7, List.pairwise_singleton _ _, fun a ha b hb => ?_⟩
          simp only [List.mem_singleton] at hb
          subst hb
          have hne : s[k + k2 - 1] ≠ s[k + k2] := by
            intro e
            rw [e, sEq_iff.2 rfl] at hd
            cases hd
          have := step_lt hs (j := k + k2 - 1) g2 (by rw [show k + k2 - 1 + 1 = k + k2 by omega]; exact g1) hne
          rw [show k + k2 - 1 + 1 = k + k2 by omega] at this
          exact this a ((a8 a).1 ha)
        · simp only [Int.toNat_natCast]
          rw [take_snoc (x := s[k + k2]) (by rw [List.getElem?_set, if_pos rfl, if_pos hwl]), List.take_set_of_le om, take_snoc g1, List.mem_append, List.mem_append, a8]
      · refine yc ⟨wr, rfl, by omega, by omega, a5, fun i hi => a6 i om, a7, fun n => ?_⟩
        have he2 : s[k + k2] = s[k + k2 - 1] := sEq_iff.1 (by simpa using hd)
        rw [take_snoc g1, List.mem_append, a8]
        constructor
        · exact .inl
        · rintro (h | h)
          · exact h
          · simp only [List.mem_singleton] at h
            rw [h, he2]
            exact List.mem_take_iff_getElem.2 ⟨k + k2 - 1, by omega, rfl⟩
      · rintro ⟨_, u'⟩ ⟨wr', rfl, b1, b2, b3, b4, b5, b6⟩
        exact yc ⟨⟨wr', k2 + 1, rfl, rfl, by omega, b1, by omega, by omega, b3, fun i hi => b4 i om, b5, fun n => by rw [b6]; rfl⟩, by simp only [Int.toNat_natCast]; omega⟩
    · have h2 : k + k2 = s.length := by simp only [decide_eq_false_iff_not] at h2; omega
      refine yc ⟨wr, rfl, by simp only; omega, a5, a7, fun n => ?_⟩
      simp only
      rw [a8, h2, List.take_length]
  · rw [take_snoc hx, List.mem_append]
    constructor
    · exact .inl
    · rintro (h | h)
      · exact h
      · simp only [List.mem_singleton] at h
        rw [h]
        obtain ⟨q1, q2⟩ := List.getElem?_eq_some_iff.1 hx'
        rw [← q2]
        exact List.mem_take_iff_getElem.2 ⟨k - 1, by show k - 1 < min k s.length; omega, rfl⟩
  · rintro ⟨_, u⟩ ⟨wr, rfl, b1, b2, b3, b4⟩
    simp only at b1 b2 b3 b4 ⊢
    rw [sub_at (i := wr) (j := u.length) rfl rfl b1 (Nat.le_refl _)]
    refine yaj ?_
    have hl2 : (u.take wr).length = wr := by rw [List.length_take]; omega
    rw [sub_at (lo := 0) (i := 0) (j := wr) rfl rfl om (by simp; omega)]
    refine yaj (yc ?_)
    simp only [Int.toNat_natCast, List.drop_zero]
    rw [List.take_append_of_le_length om, List.take_of_length_le om]
    exact ⟨b3, by omega, b4⟩
theorem sorted_val {l : List By8} (h : l.length ≤ 50000) : ∃ y, chain_sorted l = some y ∧ Asc y ∧ y.length ≤ l.length ∧ ∀ n, n ∈ y ↔ n ∈ l := by
  unfold chain_sorted slices_Clone_string
  rw [app_le (by simp; omega)]
  simp only [obs, List.nil_append]
  have e : sortSO l = some (sortS l) := by unfold sortSO; rw [if_pos om]
  obtain ⟨y, y1, y2, y3, y4⟩ := compact_val (L := sortS l) (sorted l) (by rw [sortS_len]; omega)
  rw [e]
  simp only [obs]
  rw [y1]
  exact ⟨y, rfl, y2, by rw [sortS_len] at y3; exact y3, fun n => by rw [y4]; exact (sortS_perm l).mem_iff⟩
theorem same_list {α : Type} {xs ys : List α} {step : Nat → Unit → Option (Unit ⊕ Bool)} (hl : xs.length = ys.length) (h : ∀ j x y, xs[j]? = some x → ys[j]? = some y → (x = y → step j () = some (.inl ())) ∧ (x ≠ y → step j () = some (.inr false))) :
    (xs = ys ∧ forN step xs.length 0 () = some (.inl ())) ∨ (xs ≠ ys ∧ forN step xs.length 0 () = some (.inr false)) := by
  have key : ∀ (us vs : List α) (i : Nat), us.length = vs.length → (∀ j, us[j]? = xs[i + j]?) → (∀ j, vs[j]? = ys[i + j]?) → (us = vs ∧ forN step us.length i () = some (.inl ())) ∨ (us ≠ vs ∧ forN step us.length i () = some (.inr false)) := by
    intro us
    induction us with
    | nil =>
      intro vs i hlen _ _
      have : vs = [] := List.eq_nil_of_length_eq_zero (by simpa using hlen.symm)
      exact .inl ⟨this.symm, rfl⟩
    | cons a us ih =>
      intro vs i hlen ha hb
      match vs, hlen with
      | b :: vs, hlen =>
        obtain ⟨h1, h2⟩ := h i a b (by have := ha 0; simpa using this.symm) (by have := hb 0; simpa using this.symm)
        by_cases e : a = b
        · subst e
          simp only [List.length_cons, forN, h1 rfl, obs]
          rcases ih vs (i + 1) (by simpa using hlen) (fun j => by have := ha (j + 1); rw [show i + (j + 1) = i + 1 + j by omega] at this; simpa using this) (fun j => by have := hb (j + 1); rw [show i + (j + 1) = i + 1 + j by omega] at this; simpa using this) with ⟨e1, e2⟩ | ⟨e1, e2⟩
          · exact .inl ⟨by rw [e1], e2⟩
          · exact .inr ⟨fun e => e1 (List.cons.inj e).2, e2⟩
        · simp only [List.length_cons, forN, h2 e, obs]
          exact .inr ⟨fun q => e (List.cons.inj q).1, trivial⟩
  exact key xs ys 0 hl (fun j => by rw [Nat.zero_add]) (fun j => by rw [Nat.zero_add])
theorem same_bind {α : Type} {xs ys : List α} {step : Nat → Unit → Option (Unit ⊕ Bool)} {f : Unit ⊕ Bool → Option Bool} (hl : xs.length = ys.length) (h : ∀ j x y, xs[j]? = some x → ys[j]? = some y → (x = y → step j () = some (.inl ())) ∧ (x ≠ y → step j () = some (.inr false)))
    (f1 : f (.inl ()) = some true) (f2 : f (.inr false) = some false) : ∃ b, (forN step xs.length 0 ()).bind f = some b ∧ (b = true ↔ xs = ys) := by
  rcases same_list hl h with ⟨e1, e2⟩ | ⟨e1, e2⟩
  · rw [e2]; exact ⟨true, f1, by simp [e1]⟩
  · rw [e2]; exact ⟨false, f2, by simp [e1]⟩
theorem len_ne {α : Type} {xs ys : List α} : ((xs.length : Int) != (ys.length : Int)) = true → xs ≠ ys := by
  rintro h rfl
  simp at h
theorem len_eq {α : Type} {xs ys : List α} (h : ((xs.length : Int) != (ys.length : Int)) = false) : xs.length = ys.length := by
  have : ((xs.length : Int)) = (ys.length : Int) := by simpa using h
  omega
theorem strs_val (xs ys : List By8) : ∃ b, slices_Equal_string xs ys = some b ∧ (b = true ↔ xs = ys) := by
  unfold slices_Equal_string
  cases hc : ((xs.length : Int) != (ys.length : Int)) with
  | true => exact ⟨false, rfl, by simp [len_ne hc]⟩
  | false =>
    simp only [cond_false]
    refine same_bind (len_eq hc) (fun j x y hx hy => ?_) rfl rfl
    simp only [idx_nat, hx, hy, obs]
    exact ⟨fun e => by subst e; rw [sEq_iff.2 rfl]; rfl, fun e => by rw [show sEq x y = false from Bool.eq_false_iff.2 fun h => e (sEq_iff.1 h)]; rfl⟩
theorem eqR_val (xs ys : List qJ) : ∃ b, slices_EqualFunc_qJ_l xs ys (fun u0 u1 => chain_sameRoles_1 u0 u1) = some b ∧ (b = true ↔ xs = ys) := by
  unfold slices_EqualFunc_qJ_l
  cases hc : ((xs.length : Int) != (ys.length : Int)) with
  | true => exact ⟨false, rfl, by simp [len_ne hc]⟩
  | false =>
    simp only [cond_false]
    refine same_bind (len_eq hc) (fun j x y hx hy => ?_) rfl rfl
    simp only [idx_nat, hx, hy, obs]
    obtain ⟨b, hb, hi⟩ := strs_val x.In y.In
    have hv : chain_sameRoles_1 x y = some (sEq x.Name y.Name && b) := by
      unfold chain_sameRoles_1
      rw [hb]
      cases sEq x.Name y.Name <;> rfl
    rw [hv]
    simp only [obs]
    constructor
    · rintro rfl
      rw [sEq_iff.2 rfl, hi.2 rfl]
      rfl
    · intro e
      have : (sEq x.Name y.Name && b) = false := Bool.eq_false_iff.2 fun h => by
        simp only [Bool.and_eq_true] at h
        obtain ⟨n1, i1⟩ := x
        obtain ⟨n2, i2⟩ := y
        have h1 : n1 = n2 := sEq_iff.1 h.1
        have h2 : i1 = i2 := hi.1 h.2
        subst h1 h2
        exact e rfl
      rw [this]
      rfl
theorem sameR_val (xs ys : List qJ) : ∃ b, chain_sameRoles xs ys = some b ∧ (b = true ↔ xs = ys) := by
  obtain ⟨b, h1, h2⟩ := eqR_val xs ys
  exact ⟨b, by unfold chain_sameRoles; rw [h1]; rfl, h2⟩
theorem grant_eq (x y : qG) : (sEq x.To y.To && (sEq x.By y.By && (sEq x.Table y.Table && ((x.Priv == y.Priv) && (x.Option == y.Option))))) = true ↔ x = y := by
  obtain ⟨a1, a2, a3, a4, a5⟩ := x
  obtain ⟨b1, b2, b3, b4, b5⟩ := y
  simp only [Bool.and_eq_true, sEq_iff, beq_iff_eq, qG.mk.injEq]
theorem sameG_val (xs ys : List qG) : ∃ b, slices_Equal_qG xs ys = some b ∧ (b = true ↔ xs = ys) := by
  unfold slices_Equal_qG
  cases hc : ((xs.length : Int) != (ys.length : Int)) with
  | true => exact ⟨false, rfl, by simp [len_ne hc]⟩
  | false =>
    simp only [cond_false]
    refine same_bind (len_eq hc) (fun j x y hx hy => ?_) rfl rfl
    simp only [idx_nat, hx, hy, obs]
    exact ⟨fun e => by rw [(grant_eq x y).2 e]; rfl, fun e => by rw [show (sEq x.To y.To && (sEq x.By y.By && (sEq x.Table y.Table && ((x.Priv == y.Priv) && (x.Option == y.Option))))) = false from Bool.eq_false_iff.2 fun h => e ((grant_eq x y).1 h)]; rfl⟩
theorem rsameG_val (xs ys : List qG) : ∃ b, r19_Same xs ys = some b ∧ (b = true ↔ xs = ys) := sameG_val xs ys
theorem rsameR_val (xs ys : List qJ) (hx : ∀ x ∈ xs, x.In.length ≤ 1000) : ∃ b, r18_Same xs ys = some b ∧ (b = true ↔ xs = ys) := by
  unfold r18_Same
  cases hc : ((xs.length : Int) != (ys.length : Int)) with
  | true => exact ⟨false, rfl, by simp [len_ne hc]⟩
  | false =>
    simp only [cond_false]
    refine same_bind (len_eq hc) (fun j x y hjx hjy => ?_) rfl rfl
    simp only [idx_nat, hjx, hjy, obs]
    have hl := hx x (List.mem_of_getElem? hjx)
    cases hn : sEq x.Name y.Name with
    | false =>
      refine ⟨fun e => ?_, fun _ => rfl⟩
      rw [e, sEq_iff.2 rfl] at hn
      cases hn
    | true =>
      simp only [Bool.not_true, cond_false]
      cases hln : ((x.In.length : Int) != (y.In.length : Int)) with
      | true =>
        refine ⟨fun e => ?_, fun _ => rfl⟩
        subst e
        simp at hln
      | false =>
        simp only [obs, cond_false]
        have hll := len_eq hln
        have hlp : Ret (loopO (fun (s28 : Int) => (bif decide (s28 < (x.In.length : Int)) then (idx x.In s28).bind fun x37 => (idx y.In s28).bind fun x39 => bif !sEq x37 x39 then some (Sum.inr (Sum.inl false)) else some (Sum.inl (w64 (s28 + 1))) else some (Sum.inr (Sum.inr ())) : Option (Int ⊕ (Bool ⊕ Unit)))) 0) (fun t => (t = .inr () ∧ x.In = y.In) ∨ (t = .inl false ∧ x.In ≠ y.In)) := by
          refine loopO_rb (fun (s : Int) => ∃ i : Nat, s = i ∧ i ≤ x.In.length ∧ x.In.take i = y.In.take i) (fun s => x.In.length - s.toNat) ?_ ⟨0, rfl, by omega, rfl⟩
          rintro s ⟨i, rfl, hi, ht⟩
          by_cases hlt : i < x.In.length
          · rw [show decide ((i : Int) < (x.In.length : Int)) = true by simp [hlt]]
            have hz : x.In[i]? = some x.In[i] := gE hlt
            have hz2 : y.In[i]? = some (y.In[i]'om) := gE om
            simp only [cond_true, idx_nat, hz, hz2, obs]
            cases hq : sEq x.In[i] (y.In[i]'om) with
            | true =>
              simp only [Bool.not_true, cond_false]
              exact yc ⟨⟨i + 1, by rw [w64_id om om]; rfl, hlt, by rw [take_snoc hz, take_snoc hz2, ht, sEq_iff.1 hq]⟩, by rw [w64_id om om]; omega⟩
            | false =>
              simp only [Bool.not_false, cond_true]
              refine yc (.inr ⟨rfl, fun e => ?_⟩)
              have : some x.In[i] = some (y.In[i]'om) := by rw [← hz, ← hz2, e]
              rw [Option.some.inj this, sEq_iff.2 rfl] at hq
              cases hq
          · rw [show decide ((i : Int) < (x.In.length : Int)) = false by simp; omega]
            have : i = x.In.length := by omega
            subst this
            rw [List.take_length, hll, List.take_length] at ht
            exact yc (.inl ⟨rfl, ht⟩)
        obtain ⟨t, h1, h2⟩ := hlp.ex
        rw [h1]
        simp only [obs]
        obtain ⟨n1, i1⟩ := x
        obtain ⟨n2, i2⟩ := y
        have hnn : n1 = n2 := sEq_iff.1 hn
        rcases h2 with ⟨rfl, h2⟩ | ⟨rfl, h2⟩
        · exact ⟨fun _ => rfl, fun e => absurd (by rw [hnn, show i1 = i2 from h2]) e⟩
        · exact ⟨fun e => absurd (congrArg qJ.In e) h2, fun _ => rfl⟩
def tG (c : qC) (n : By8) : Option qT := if 0 ≤ tI c n then c.Tables[(tI c n).toNat]? else none
def mB (b : qC) (t : qT) : Bool := match tG b t.Name with
  | none => true
  | some u => (u.Version != t.Version) || (!sEq u.Owner t.Owner)
theorem missing_val {n m : Nat} {a b : qC} (ha : CB n a) (hb : CB m b) (hn : n ≤ 1000) (hm : m ≤ 1000) : chain_missing a b = some ((a.Tables.filter (mB b)).map (·.Name)) := by
  have hta := ha.tabs
  unfold chain_missing
  refine Ret.eq (yd (R := fun s => s = (a.Tables.filter (mB b)).map (·.Name)) ?_ fun s hs => yc hs)
  have h0 := forE_ret (b := True) (step := fun (i13 : Nat) (s12 : List By8) => (idx a.Tables (i13 : Int)).bind (fun x25 => (catalog_Find b x25.Name).bind (fun (r37, r38) => (some (((!r38) || (r37.Version != x25.Version)) || (!sEq r37.Owner x25.Owner))).bind (fun (q47 : Bool) => ((bif q47 then (app 16 s12 ([x25.Name] : List By8)).bind (fun x62 => some x62) else some s12)).bind (fun (j50 : List By8) => some j50))))) (fun j (s : List By8) => s = ((a.Tables.take j).filter (mB b)).map (·.Name)) (n := a.Tables.length) (s := []) (by simp) ?_
  · rw [List.take_length] at h0
    exact h0
  rintro j s hj rfl
  refine yah hj fun x hx _ => ?_
  have hq : ∃ u v, catalog_Find b x.Name = some (u, v) ∧ (((!v) || (u.Version != x.Version)) || (!sEq u.Owner x.Owner)) = mB b x := by
    rcases cfind_eq hb hm x.Name with ⟨h0, e⟩ | ⟨t, h0, ht, e⟩
    · refine ⟨_, _, e, ?_⟩
      unfold mB tG
      rw [if_neg om]
      simp
    · refine ⟨_, _, e, ?_⟩
      unfold mB tG
      rw [if_pos h0, (idx_some ht).2.2]
      simp
  obtain ⟨u, v, e1, e2⟩ := hq
  rw [e1]
  refine yaj ?_
  dsimp only
  rw [e2]
  refine yaj ?_
  have hlen : (((a.Tables.take j).filter (mB b)).map (·.Name)).length ≤ 1000 := by
    rw [List.length_map]
    have h1 := List.length_filter_le (mB b) (a.Tables.take j)
    have h2 : (a.Tables.take j).length ≤ a.Tables.length := List.length_take_le' ..
    omega
  refine yd (R := fun (s : List By8) => s = ((a.Tables.take (j + 1)).filter (mB b)).map (·.Name)) (yi (fun hc => ?_) fun hc => yc ?_) fun s hs => yc hs
  · refine yax (by simp only [List.length_singleton]; omega) (yc ?_)
    rw [take_snoc hx, List.filter_append, List.map_append]
    simp [hc]
  · rw [take_snoc hx, List.filter_append, List.map_append]
    simp [hc]
abbrev dol : By8 := ⟨#[36]⟩
def Ch (a b : qC) (n : By8) : Prop := (∃ t ∈ a.Tables, t.Name = n ∧ mB b t = true) ∨ (∃ t ∈ b.Tables, t.Name = n ∧ mB a t = true) ∨ (n = dol ∧ ¬ (a.Roles = b.Roles ∧ a.Grants = b.Grants))
theorem Ch.symm {a b : qC} {n : By8} (h : Ch a b n) : Ch b a n := by
  rcases h with h | h | ⟨h1, h2⟩
  · exact .inr (.inl h)
  · exact .inl h
  · exact .inr (.inr ⟨h1, fun ⟨e1, e2⟩ => h2 ⟨e1.symm, e2.symm⟩⟩)
theorem mem_missing {a b : qC} {n : By8} : n ∈ (a.Tables.filter (mB b)).map (·.Name) ↔ ∃ t ∈ a.Tables, t.Name = n ∧ mB b t = true := by
  simp only [List.mem_map, List.mem_filter]
  exact ⟨fun ⟨t, ⟨h1, h2⟩, h3⟩ => ⟨t, h1, h3, h2⟩, fun ⟨t, h1, h3, h2⟩ => ⟨t, ⟨h1, h2⟩, h3⟩⟩
theorem changed_val (h : chain_Chain) {a b : qC} (ha : CI 60 a) (hb : CI 60 b) : ∃ ch, chain_Chain_Changed h a b = some ch ∧ Asc ch ∧ ch.length ≤ 121 ∧ ∀ n, n ∈ ch ↔ Ch a b n := by
  have ta := ha.1.tabs
  have tb := hb.1.tabs
  have l1 := List.length_filter_le (mB b) a.Tables
  have l2 := List.length_filter_le (mB a) b.Tables
  refine Ret.ex ?_
  unfold chain_Chain_Changed
  rw [missing_val ha.1 hb.1 om om, missing_val hb.1 ha.1 om om]
  refine yaj (yaj (yax (by simp only [List.length_map]; omega) ?_))
  obtain ⟨x, x1, x2⟩ := sameR_val a.Roles b.Roles
  obtain ⟨y, y1, y2⟩ := sameG_val a.Grants b.Grants
  rw [x1, y1]
  refine yaj (yd (R := fun q => q = true ↔ ¬ (a.Roles = b.Roles ∧ a.Grants = b.Grants)) (yi (fun hc => yc ?_) fun hc => yaj (yc ?_)) fun q hq => ?_)
  · have : ¬ a.Roles = b.Roles := fun e => by rw [x2.2 e] at hc; cases hc
    simp [this]
  · have : a.Roles = b.Roles := x2.1 (by simpa using hc)
    rw [Bool.not_eq_true', ← Bool.not_eq_true, y2]
    simp [this]
  refine yd (R := fun (l : List By8) => l.length ≤ 121 ∧ ∀ n, n ∈ l ↔ Ch a b n) (yi (fun hc => yax (by simp only [List.length_append, List.length_map, List.length_singleton]; omega) (yc ⟨by simp only [List.length_append, List.length_map, List.length_singleton]; omega, fun n => ?_⟩)) fun hc => yc ⟨by simp only [List.length_append, List.length_map]; omega, fun n => ?_⟩) ?_
  · rw [List.mem_append, List.mem_append, mem_missing, mem_missing, List.mem_singleton]
    unfold Ch
    have := hq.1 hc
    constructor
    · rintro ((h | h) | h)
      · exact .inl h
      · exact .inr (.inl h)
      · exact .inr (.inr ⟨h, this⟩)
    · rintro (h | h | h)
      · exact .inl (.inl h)
      · exact .inl (.inr h)
      · exact .inr h.1
  · rw [List.mem_append, mem_missing, mem_missing]
    unfold Ch
    have : ¬ ¬ (a.Roles = b.Roles ∧ a.Grants = b.Grants) := fun h => by rw [hq.2 h] at hc; cases hc
    constructor
    · rintro (h | h)
      · exact .inl h
      · exact .inr (.inl h)
    · rintro (h | h | h)
      · exact .inl h
      · exact .inr h
      · exact absurd h.2 this
  · rintro l ⟨l1, l2⟩
    obtain ⟨z, z1, z2, z3, z4⟩ := sorted_val (l := l) om
    rw [z1]
    exact yaj (yc ⟨z2, by omega, fun n => by rw [z4]; exact l2 n⟩)
def pinned (N : List Int) (w : Int) : Option Nat := if 0 ≤ w then (N[w.toNat]?).bind fun x => if 0 ≤ x then some x.toNat else none else none
def lvP (A : List qC) (N : List Int) (i : Nat) : Prop := i + 1 = A.length ∨ (i : Int) ∈ N
structure Inv (A : List qC) (N D : List Int) (h : chain_Chain) : Prop where
  pos : 0 < A.length
  len : A.length ≤ 50
  asc : A.Pairwise fun a b => a.Version < b.Version
  ok : ∀ c ∈ A, CI 60 c ∧ VB c
  now : ∀ a, A[A.length - 1]? = some a → h.now = a.Version
  n9 : N.length = 9
  d9 : D.length = 9
  nb : ∀ x ∈ N, x = -1 ∨ ∃ i : Nat, x = (i : Int) ∧ i < A.length
  n0 : N[0]? = some (-1)
  pnd : (h.pins.map (·.1)).Nodup
  pins : ∀ w : Int, mget iEq h.pins w = (pinned N w).bind fun i => (A[i]?).map (·.Version)
  lnd : (h.live.map (·.1)).Nodup
  live : ∀ v k, mget iEq h.live v = some k ↔ ∃ (i : Nat) (c : qC), A[i]? = some c ∧ c.Version = v ∧ k = ⟨c, (N.count (i : Int) : Int)⟩ ∧ lvP A N i
  db : ∀ x ∈ D, ∃ j : Nat, x = (j : Int) ∧ j < A.length
  nnd : (h.news.map (·.1)).Nodup
  news : ∀ w : Nat, 1 ≤ w → w ≤ 8 → Asc ((mget iEq h.news (w : Int)).getD []) ∧ ((mget iEq h.news (w : Int)).getD []).length ≤ 121 * A.length ∧
    ∀ n, n ∈ (mget iEq h.news (w : Int)).getD [] ↔ ∃ (d j : Nat) (a b : qC), D[w]? = some (d : Int) ∧ d ≤ j ∧ A[j]? = some a ∧ A[j + 1]? = some b ∧ Ch a b n
theorem ieqC : KEq iEq := fun _ _ => iEq_iff
section
variable {A : List qC}
theorem ver_lt (h : A.Pairwise fun a b => a.Version < b.Version) {i j : Nat} {a b : qC} (hi : A[i]? = some a) (hj : A[j]? = some b) (e : i < j) : a.Version < b.Version := by
  obtain ⟨h1, rfl⟩ := List.getElem?_eq_some_iff.1 hi
  obtain ⟨h2, rfl⟩ := List.getElem?_eq_some_iff.1 hj
  exact List.pairwise_iff_getElem.1 h i j h1 h2 e
theorem ver_inj (h : A.Pairwise fun a b => a.Version < b.Version) {i j : Nat} {a b : qC} (hi : A[i]? = some a) (hj : A[j]? = some b) (e : a.Version = b.Version) : i = j := by
  rcases Nat.lt_trichotomy i j with h1 | h1 | h1
  · have := ver_lt h hi hj h1; omega
  · exact h1
  · have := ver_lt h hj hi h1; omega
end
theorem mget_filter {ν : Type} {q : Int × ν → Bool} : ∀ {l : List (Int × ν)}, (l.map (·.1)).Nodup → ∀ v k, mget iEq (l.filter q) v = some k ↔ mget iEq l v = some k ∧ q (v, k) = true
  | [], _, v, k => by simp [mget_nil]
  | (a, u) :: r, hn, v, k => by
    obtain ⟨h1, h2⟩ := List.nodup_cons.1 (by simpa using hn : (a :: r.map (·.1)).Nodup)
    rw [mget_cons, List.filter_cons]
    cases e : iEq v a with
    | true =>
      obtain rfl := (ieqC v a).1 e
      have hno : mget iEq (r.filter q) v = none := mget_none ieqC fun hm => h1 ((List.filter_sublist.map _).subset hm)
      cases hq : q (v, u) with
      | true =>
        simp only [if_true, mget_cons, e, cond_true, Option.some.injEq]
        exact ⟨fun hk => ⟨hk, hk ▸ hq⟩, fun hk => hk.1⟩
      | false =>
        simp only [cond_true, Option.some.injEq]
        rw [if_neg (by simp), hno]
        exact ⟨(fun hk => by cases hk), (fun ⟨hk, hq'⟩ => by rw [← hk, hq] at hq'; cases hq')⟩
    | false =>
      simp only [cond_false]
      rw [← mget_filter h2 v k]
      split
      · rw [mget_cons, e]; rfl
      · rfl
section
variable {A : List qC} {N D : List Int} {h : chain_Chain}
theorem Inv.last (hi : Inv A N D h) : ∃ a, A[A.length - 1]? = some a ∧ h.now = a.Version := by
  have hp := hi.pos
  have e : A[A.length - 1]? = some (A[A.length - 1]'om) := gE _
  exact ⟨_, e, hi.now _ e⟩
theorem Inv.at_last (hi : Inv A N D h) {a : qC} (e : A[A.length - 1]? = some a) : mget iEq h.live h.now = some ⟨a, (N.count ((A.length - 1 : Nat) : Int) : Int)⟩ := by
  have hp := hi.pos
  exact (hi.live _ _).2 ⟨A.length - 1, a, e, (hi.now a e).symm, rfl, .inl om⟩
theorem inv_now (hi : Inv A N D h) : ∃ a, A[A.length - 1]? = some a ∧ chain_Chain_Now h = some a := by
  obtain ⟨a, e, _⟩ := hi.last
  exact ⟨a, e, by unfold chain_Chain_Now; rw [hi.at_last e]; rfl⟩
theorem pinned_some {w : Int} {i : Nat} : pinned N w = some i ↔ 0 ≤ w ∧ N[w.toNat]? = some (i : Int) := by
  unfold pinned
  by_cases h0 : 0 ≤ w
  · rw [if_pos h0]
    cases hx : N[w.toNat]? with
    | none => simp
    | some x =>
      simp only [obs, Option.some.injEq]
      by_cases hx0 : 0 ≤ x
      · rw [if_pos hx0]
        simp only [Option.some.injEq]
        omega
      · rw [if_neg hx0]
        simp only [reduceCtorEq, false_iff]
        omega
  · rw [if_neg h0]
    simp
    omega
theorem Inv.pin_lt (hi : Inv A N D h) {w : Int} {i : Nat} (hp : pinned N w = some i) : ∃ a, A[i]? = some a := by
  obtain ⟨_, h2⟩ := pinned_some.1 hp
  rcases hi.nb _ (List.mem_of_getElem? h2) with e | ⟨j, e, hj⟩
  · omega
  · have : i = j := by omega
    subst this
    exact ⟨_, gE hj⟩
theorem Inv.pin_get (hi : Inv A N D h) {w : Int} {i : Nat} {a : qC} (hp : pinned N w = some i) (ha : A[i]? = some a) : mget iEq h.pins w = some a.Version ∧ mget iEq h.live a.Version = some ⟨a, (N.count (i : Int) : Int)⟩ :=
  ⟨by rw [hi.pins, hp]; simp [ha], (hi.live _ _).2 ⟨i, a, ha, rfl, rfl, .inr (List.mem_of_getElem? (pinned_some.1 hp).2)⟩⟩
theorem Inv.has (hi : Inv A N D h) (w : Int) : mhas iEq h.pins w = (pinned N w).isSome := by
  rw [mhas_get, hi.pins]
  cases hp : pinned N w with
  | none => rfl
  | some i =>
    obtain ⟨a, ha⟩ := hi.pin_lt hp
    simp [ha]
theorem Inv.range (hi : Inv A N D h) {w : Int} {i : Nat} (hp : pinned N w = some i) : 1 ≤ w ∧ w ≤ 8 := by
  obtain ⟨h1, h2⟩ := pinned_some.1 hp
  have h3 := (List.getElem?_eq_some_iff.1 h2).1
  rw [hi.n9] at h3
  have : w ≠ 0 := by
    rintro rfl
    have h4 := hi.n0
    rw [show (0 : Int).toNat = 0 from rfl] at h2
    rw [h2] at h4
    injection h4 with h4
    omega
  omega
theorem inv_at (hi : Inv A N D h) (w : Int) : (pinned N w = none ∧ chain_Chain_At h w = some (z_qC, false)) ∨ ∃ i a, pinned N w = some i ∧ A[i]? = some a ∧ chain_Chain_At h w = some (a, true) := by
  unfold chain_Chain_At
  rw [hi.has]
  cases hp : pinned N w with
  | none => exact .inl ⟨rfl, rfl⟩
  | some i =>
    obtain ⟨a, ha⟩ := hi.pin_lt hp
    obtain ⟨h1, h2⟩ := hi.pin_get hp ha
    refine .inr ⟨i, a, rfl, ha, ?_⟩
    rw [h1]
    simp only [Option.isSome_some, Bool.not_true, cond_false, Option.getD_some, h2, obs]
end
theorem trim_live {A : List qC} {N : List Int} {live : List (Int × chain_kept)} {now : Int} {pins : List (Int × Int)} {news : List (Int × List By8)} {P : Nat → Prop} (ha : A.Pairwise fun a b => a.Version < b.Version) (hnow : ∀ a, A[A.length - 1]? = some a → now = a.Version) (hn : (live.map (·.1)).Nodup)
    (hP : ∀ i, lvP A N i → P i) (hl : ∀ v k, mget iEq live v = some k ↔ ∃ (i : Nat) (c : qC), A[i]? = some c ∧ c.Version = v ∧ k = ⟨c, (N.count (i : Int) : Int)⟩ ∧ P i) :
    ∃ live', chain_Chain_trim ⟨live, now, pins, news⟩ = some ⟨live', now, pins, news⟩ ∧ (live'.map (·.1)).Nodup ∧ ∀ v k, mget iEq live' v = some k ↔ ∃ (i : Nat) (c : qC), A[i]? = some c ∧ c.Version = v ∧ k = ⟨c, (N.count (i : Int) : Int)⟩ ∧ lvP A N i := by
  unfold chain_Chain_trim
  rw [if_pos hn]
  refine ⟨_, rfl, hn.sublist (List.filter_sublist.map _), fun v k => ?_⟩
  rw [mget_filter hn, hl]
  constructor
  · rintro ⟨⟨i, c, h1, h2, h3, h4⟩, hq⟩
    refine ⟨i, c, h1, h2, h3, ?_⟩
    subst h3
    by_cases e : i + 1 = A.length
    · exact .inl e
    · refine .inr (List.count_pos_iff.1 ?_)
      have hil := (List.getElem?_eq_some_iff.1 h1).1
      have e3 : A[A.length - 1]? = some (A[A.length - 1]'om) := gE _
      have hne : v ≠ now := by
        rw [hnow _ e3, ← h2]
        intro e4
        have := ver_inj ha h1 e3 e4
        omega
      have : (v != now) = true := by simpa using hne
      simp only [this, Bool.true_and, Bool.not_eq_true', beq_eq_false_iff_ne, ne_eq] at hq
      omega
  · rintro ⟨i, c, h1, h2, h3, h4⟩
    refine ⟨⟨i, c, h1, h2, h3, hP i h4⟩, ?_⟩
    subst h3
    rcases h4 with e | hm
    · have e3 : A[A.length - 1]? = some c := by rw [← h1]; congr 1; omega
      rw [hnow _ e3, ← h2]
      simp
    · have := List.count_pos_iff.2 hm
      have h0 : ¬ (N.count (i : Int) = 0) := by omega
      simp [h0]
theorem pinned_set {N : List Int} {w : Int} (h0 : 0 ≤ w) (hl : w.toNat < N.length) (x : Nat) (j : Int) : pinned (N.set w.toNat (x : Int)) j = if j = w then some x else pinned N j := by
  unfold pinned
  by_cases hj : 0 ≤ j
  · rw [if_pos hj, List.getElem?_set]
    by_cases e : j = w
    · subst e
      rw [if_pos rfl, if_pos hl]
      simp
    · rw [if_neg om, if_neg e, if_pos hj]
  · rw [if_neg hj, if_neg om, if_neg hj]
theorem pinned_clr {N : List Int} {w : Int} (h0 : 0 ≤ w) (hl : w.toNat < N.length) (j : Int) : pinned (N.set w.toNat (-1)) j = if j = w then none else pinned N j := by
  unfold pinned
  by_cases hj : 0 ≤ j
  · rw [if_pos hj, List.getElem?_set]
    by_cases e : j = w
    · subst e
      rw [if_pos rfl, if_pos hl]
      simp
    · rw [if_neg om, if_neg e, if_pos hj]
  · rw [if_neg hj, if_neg om, if_neg hj]
theorem count_put {N : List Int} {w : Nat} (hl : w < N.length) (x y : Int) (i : Int) (hy : N[w]? = some y) : ((N.set w x).count i : Int) = (N.count i : Int) - (if y = i then 1 else 0) + (if x = i then 1 else 0) := by
  have e : N[w] = y := (List.getElem?_eq_some_iff.1 hy).2
  rw [List.count_set hl, e]
  by_cases h : y = i
  · have : 0 < N.count i := List.count_pos_iff.2 (h ▸ List.mem_of_getElem? hy)
    simp only [beq_iff_eq, h, if_true]
    by_cases h2 : x = i
    · simp only [h2, if_true]; omega
    · simp only [h2, if_false]; omega
  · simp only [beq_iff_eq, h, if_false]
    by_cases h2 : x = i
    · simp only [h2, if_true]; omega
    · simp only [h2, if_false]; omega
theorem mem_put {N : List Int} {w : Nat} {x i : Int} (h : i ∈ N.set w x) : i = x ∨ i ∈ N := by
  rcases List.mem_or_eq_of_mem_set h with h | h
  · exact .inr h
  · exact .inl h
section
variable {A : List qC} {N D : List Int} {h : chain_Chain}
theorem Inv.nget (hi : Inv A N D h) {w : Int} (h1 : 1 ≤ w) (h2 : w ≤ 8) (hp : pinned N w = none) : N[w.toNat]? = some (-1) := by
  have hl : w.toNat < N.length := by rw [hi.n9]; omega
  have e : N[w.toNat]? = some N[w.toNat] := gE hl
  rcases hi.nb _ (List.getElem_mem hl) with hx | ⟨i, hx, _⟩
  · rw [e, hx]
  · have h9 := (pinned_some (N := N) (w := w) (i := i)).2 ⟨by omega, by rw [e, hx]⟩
    rw [hp] at h9
    cases h9
theorem Inv.cnt_le (hi : Inv A N D h) (i : Int) : N.count i ≤ 9 := by
  have := List.count_le_length (a := i) (l := N)
  rw [hi.n9] at this
  exact this
theorem inv_pin (hi : Inv A N D h) (w : Int) : (¬ (1 ≤ w ∧ w ≤ 8) ∧ chain_Chain_Pin h w = some (0, 2, h)) ∨ ((1 ≤ w ∧ w ≤ 8) ∧ (∃ i, pinned N w = some i) ∧ chain_Chain_Pin h w = some (0, 19, h)) ∨
    ((1 ≤ w ∧ w ≤ 8) ∧ pinned N w = none ∧ ∃ h', chain_Chain_Pin h w = some (h.now, 0, h') ∧ Inv A (N.set w.toNat ((A.length - 1 : Nat) : Int)) D h') := by
  unfold chain_Chain_Pin
  rw [chk_val]
  by_cases hw : 1 ≤ w ∧ w ≤ 8
  · right
    rw [if_pos hw]
    simp only [obs, bne_self_eq_false, cond_false]
    rw [hi.has]
    cases hp : pinned N w with
    | some i => exact .inl ⟨hw, ⟨i, rfl⟩, rfl⟩
    | none =>
      refine .inr ⟨hw, rfl, ?_⟩
      obtain ⟨a, ha, hnow⟩ := hi.last
      have hpos := hi.pos
      rw [hi.at_last ha]
      simp only [Option.isSome_none, cond_false, obs]
      refine ⟨_, rfl, ?_⟩
      have hl : w.toNat < N.length := by rw [hi.n9]; omega
      have hg := hi.nget hw.1 hw.2 hp
      have hcnt : ∀ i : Nat, ((N.set w.toNat ((A.length - 1 : Nat) : Int)).count (i : Int) : Int) = (N.count (i : Int) : Int) + (if i = A.length - 1 then 1 else 0) := by
        intro i
        rw [count_put hl _ _ _ hg, if_neg om]
        by_cases e : i = A.length - 1
        · rw [if_pos e, if_pos om]; omega
        · rw [if_neg e, if_neg om]; omega
      have hlv : ∀ i, lvP A (N.set w.toNat ((A.length - 1 : Nat) : Int)) i ↔ lvP A N i := by
        intro i
        constructor
        · rintro (e | e)
          · exact .inl e
          · rcases mem_put e with e | e
            · exact .inl om
            · exact .inr e
        · rintro (e | e)
          · exact .inl e
          · refine .inr (List.count_pos_iff.1 ?_)
            have := hcnt i
            have h3 := List.count_pos_iff.2 e
            split at this <;> omega
      have hc9 := hi.cnt_le ((A.length - 1 : Nat) : Int)
      refine ⟨hi.pos, hi.len, hi.asc, hi.ok, hi.now, by rw [List.length_set]; exact hi.n9, hi.d9, fun x hx => ?_, ?_, mset_nodup ieqC hi.pnd _ _, fun j => ?_, mset_nodup ieqC hi.lnd _ _, fun v k => ?_, hi.db, hi.nnd, hi.news⟩
      · rcases mem_put hx with e | e
        · exact .inr ⟨_, e, by omega⟩
        · exact hi.nb x e
      · rw [List.getElem?_set, if_neg om]; exact hi.n0
      · rw [mget_mset ieqC, pinned_set om hl]
        by_cases e : j = w
        · rw [if_pos e, (ieqC j w).2 e]
          simp only [cond_true, obs, ha, Option.map_some, hnow]
        · rw [if_neg e, ieqC.ne e]
          exact hi.pins j
      · show mget iEq (mset iEq h.live h.now _) v = some k ↔ _
        rw [mget_mset ieqC]
        by_cases e : v = h.now
        · rw [(ieqC v h.now).2 e]
          simp only [cond_true, Option.some.injEq]
          constructor
          · intro hk
            refine ⟨A.length - 1, a, ha, by rw [e, hnow], ?_, .inl om⟩
            rw [← hk, hcnt, if_pos rfl, w64_id om om]
          · rintro ⟨i, c, g1, g2, g3, g4⟩
            have hij := ver_inj hi.asc g1 ha (by rw [g2, e, hnow])
            subst hij
            rw [ha] at g1
            injection g1 with g1
            rw [g3, ← g1, hcnt, if_pos rfl, w64_id om om]
        · rw [ieqC.ne e]
          simp only [cond_false]
          rw [hi.live]
          constructor
          · rintro ⟨i, c, g1, g2, g3, g4⟩
            refine ⟨i, c, g1, g2, ?_, (hlv i).2 g4⟩
            rw [hcnt, if_neg, Int.add_zero]
            · exact g3
            · rintro rfl
              rw [ha] at g1
              injection g1 with g1
              exact e (by rw [← g2, ← g1, hnow])
          · rintro ⟨i, c, g1, g2, g3, g4⟩
            refine ⟨i, c, g1, g2, ?_, (hlv i).1 g4⟩
            rw [hcnt, if_neg, Int.add_zero] at g3
            · exact g3
            · rintro rfl
              rw [ha] at g1
              injection g1 with g1
              exact e (by rw [← g2, ← g1, hnow])
  · left
    rw [if_neg hw]
    exact ⟨hw, rfl⟩
theorem inv_unpin (hi : Inv A N D h) (w : Int) : (¬ (1 ≤ w ∧ w ≤ 8) ∧ chain_Chain_Unpin h w = some (2, h)) ∨ ((1 ≤ w ∧ w ≤ 8) ∧ pinned N w = none ∧ chain_Chain_Unpin h w = some (4, h)) ∨
    ((1 ≤ w ∧ w ≤ 8) ∧ (∃ i, pinned N w = some i) ∧ ∃ h', chain_Chain_Unpin h w = some (0, h') ∧ Inv A (N.set w.toNat (-1)) D h') := by
  unfold chain_Chain_Unpin
  rw [chk_val]
  by_cases hw : 1 ≤ w ∧ w ≤ 8
  · right
    rw [if_pos hw]
    simp only [obs, bne_self_eq_false, cond_false]
    rw [hi.has]
    cases hp : pinned N w with
    | none => exact .inl ⟨hw, rfl, rfl⟩
    | some i0 =>
      refine .inr ⟨hw, ⟨i0, rfl⟩, ?_⟩
      obtain ⟨a, ha⟩ := hi.pin_lt hp
      obtain ⟨p1, p2⟩ := hi.pin_get hp ha
      rw [p1]
      simp only [Option.isSome_some, Bool.not_true, cond_false, Option.getD_some, p2, obs]
      have hl : w.toNat < N.length := by rw [hi.n9]; omega
      have hg := (pinned_some.1 hp).2
      have hmem := List.count_pos_iff.2 (List.mem_of_getElem? hg)
      have hc9 := hi.cnt_le (i0 : Int)
      have hcnt : ∀ i : Nat, ((N.set w.toNat (-1)).count (i : Int) : Int) = (N.count (i : Int) : Int) - (if i = i0 then 1 else 0) := by
        intro i
        rw [count_put hl _ _ _ hg, if_neg (show ¬ ((-1 : Int) = (i : Int)) by omega)]
        by_cases e : i = i0
        · rw [if_pos e, if_pos om]; omega
        · rw [if_neg e, if_neg om]; omega
      obtain ⟨live', t1, t2, t3⟩ := trim_live (A := A) (N := N.set w.toNat (-1)) (live := mset iEq h.live a.Version ⟨a, w64 ((N.count (i0 : Int) : Int) - 1)⟩) (now := h.now) (pins := mdel iEq h.pins w) (news := h.news) (P := lvP A N) hi.asc hi.now (mset_nodup ieqC hi.lnd _ _) (fun i hlv => by
        rcases hlv with e | e
        · exact .inl e
        · rcases mem_put e with e | e
          · omega
          · exact .inr e) (fun v k => by
        rw [mget_mset ieqC]
        by_cases e : v = a.Version
        · rw [(ieqC v a.Version).2 e]
          simp only [cond_true, Option.some.injEq]
          constructor
          · intro hk
            refine ⟨i0, a, ha, e.symm, ?_, .inr (List.mem_of_getElem? hg)⟩
            rw [← hk, hcnt, if_pos rfl, w64_id om om]
          · rintro ⟨i, c, g1, g2, g3, g4⟩
            have hij := ver_inj hi.asc g1 ha (by rw [g2, e])
            subst hij
            rw [ha] at g1
            injection g1 with g1
            rw [g3, ← g1, hcnt, if_pos rfl, w64_id om om]
        · rw [ieqC.ne e]
          simp only [cond_false]
          rw [hi.live]
          constructor
          · rintro ⟨i, c, g1, g2, g3, g4⟩
            refine ⟨i, c, g1, g2, ?_, g4⟩
            rw [hcnt, if_neg, Int.sub_zero]
            · exact g3
            · rintro rfl
              rw [ha] at g1
              injection g1 with g1
              exact e (by rw [← g2, ← g1])
          · rintro ⟨i, c, g1, g2, g3, g4⟩
            refine ⟨i, c, g1, g2, ?_, g4⟩
            rw [hcnt, if_neg, Int.sub_zero] at g3
            · exact g3
            · rintro rfl
              rw [ha] at g1
              injection g1 with g1
              exact e (by rw [← g2, ← g1]))
      rw [t1]
      refine ⟨_, rfl, hi.pos, hi.len, hi.asc, hi.ok, hi.now, by rw [List.length_set]; exact hi.n9, hi.d9, fun x hx => ?_, ?_, mdel_nodup hi.pnd _, fun j => ?_, t2, t3, hi.db, hi.nnd, hi.news⟩
      · rcases mem_put hx with e | e
        · exact .inl e
        · exact hi.nb x e
      · rw [List.getElem?_set, if_neg om]; exact hi.n0
      · show mget iEq (mdel iEq h.pins w) j = _
        rw [mget_mdel ieqC hi.pnd, pinned_clr om hl]
        by_cases e : j = w
        · rw [if_pos e, (ieqC j w).2 e]; rfl
        · rw [if_neg e, ieqC.ne e]
          exact hi.pins j
  · left
    rw [if_neg hw]
    exact ⟨hw, rfl⟩
theorem inv_hear (hi : Inv A N D h) (w : Int) : (¬ (1 ≤ w ∧ w ≤ 8) ∧ chain_Chain_Hear h w = some ([], h)) ∨ ((1 ≤ w ∧ w ≤ 8) ∧ ∃ l h', chain_Chain_Hear h w = some (l, h') ∧ Asc l ∧ l.length ≤ 121 * A.length ∧
    (∀ n, n ∈ l ↔ ∃ (d j : Nat) (a b : qC), D[w.toNat]? = some (d : Int) ∧ d ≤ j ∧ A[j]? = some a ∧ A[j + 1]? = some b ∧ Ch a b n) ∧ Inv A N (D.set w.toNat ((A.length - 1 : Nat) : Int)) h') := by
  unfold chain_Chain_Hear
  rw [chk_val]
  by_cases hw : 1 ≤ w ∧ w ≤ 8
  · right
    rw [if_pos hw]
    simp only [obs, bne_self_eq_false, cond_false]
    have hpos := hi.pos
    have hwn : ((w.toNat : Nat) : Int) = w := by omega
    obtain ⟨n1, n2, n3⟩ := hi.news w.toNat om om
    rw [hwn] at n1 n2 n3
    have hl : w.toNat < D.length := by rw [hi.d9]; omega
    refine ⟨hw, _, _, rfl, n1, n2, n3, hi.pos, hi.len, hi.asc, hi.ok, hi.now, hi.n9, by rw [List.length_set]; exact hi.d9, hi.nb, hi.n0, hi.pnd, hi.pins, hi.lnd, hi.live, fun x hx => ?_, mdel_nodup hi.nnd _, fun j h1 h2 => ?_⟩
    · rcases mem_put hx with e | e
      · exact ⟨_, e, by omega⟩
      · exact hi.db x e
    · show Asc ((mget iEq (mdel iEq h.news w) (j : Int)).getD []) ∧ _
      rw [mget_mdel ieqC hi.nnd, List.getElem?_set]
      by_cases e : (j : Int) = w
      · rw [(ieqC (j : Int) w).2 e, if_pos om, if_pos om]
        simp only [cond_true, Option.getD_none, List.length_nil, List.not_mem_nil, false_iff, Option.some.injEq]
        refine ⟨List.Pairwise.nil, by omega, ?_⟩
        rintro n ⟨d, q, a, b, e1, e2, e3, e4, _⟩
        have := (List.getElem?_eq_some_iff.1 e4).1
        omega
      · rw [ieqC.ne e, if_neg om]
        exact hi.news j h1 h2
  · left
    rw [if_neg hw]
    exact ⟨hw, rfl⟩
end
theorem inv_new {c : qC} (h1 : CI 60 c) (h2 : VB c) : Inv [c] (List.replicate 9 (-1)) (List.replicate 9 0) ⟨[(c.Version, ⟨c, 0⟩)], c.Version, [], []⟩ := by
  have hz : ∀ i : Nat, (List.replicate 9 (-1 : Int)).count (i : Int) = 0 := fun i => by
    rw [List.count_eq_zero]
    intro hm
    have := List.eq_of_mem_replicate hm
    omega
  refine ⟨by simp, by simp, by simp, ?_, ?_, by simp, by simp, ?_, rfl, by simp, ?_, by simp, ?_, ?_, by simp, ?_⟩
  · intro x hx
    simp only [List.mem_cons, List.not_mem_nil, or_false] at hx
    subst hx
    exact ⟨h1, h2⟩
  · intro a ha
    simp at ha
    rw [ha]
  · intro x hx
    exact .inl (List.eq_of_mem_replicate hx)
  · intro w
    have : pinned (List.replicate 9 (-1)) w = none := by
      cases hp : pinned (List.replicate 9 (-1)) w with
      | none => rfl
      | some i =>
        have := List.eq_of_mem_replicate (List.mem_of_getElem? (pinned_some.1 hp).2)
        omega
    rw [this]
    rfl
  · intro v k
    rw [mget_cons, mget_nil]
    constructor
    · intro hk
      cases e : iEq v c.Version with
      | false => rw [e] at hk; cases hk
      | true =>
        rw [e] at hk
        injection hk with hk
        refine ⟨0, c, rfl, ((ieqC _ _).1 e).symm, ?_, .inl rfl⟩
        rw [← hk, hz 0]
        rfl
    · rintro ⟨i, a, e1, e2, e3, e4⟩
      have hi0 : i = 0 := by have := (List.getElem?_eq_some_iff.1 e1).1; simp at this; omega
      subst hi0
      simp only [List.getElem?_cons_zero, Option.some.injEq] at e1
      subst e1
      rw [(ieqC _ _).2 e2.symm, e3, hz 0]
      rfl
  · intro x hx
    exact ⟨0, List.eq_of_mem_replicate hx, by simp⟩
  · intro w _ _
    refine ⟨List.Pairwise.nil, by simp [mget_nil], fun n => ?_⟩
    simp only [mget_nil, Option.getD_none, List.not_mem_nil, false_iff]
    rintro ⟨d, j, a, b, _, _, _, e, _⟩
    have := (List.getElem?_eq_some_iff.1 e).1
    simp at this
section
variable {A : List qC} {N D : List Int} {h : chain_Chain}
theorem told_val {l : List (Int × List By8)} {ch : List By8} (hn : (l.map (·.1)).Nodup) (hc : ch.length ≤ 121) (hb : ∀ w : Nat, 1 ≤ w → w ≤ 8 → ((mget iEq l (w : Int)).getD []).length ≤ 10000) :
    ∃ l', chain_told ch l = some l' ∧ (l'.map (·.1)).Nodup ∧ ∀ w : Nat, 1 ≤ w → w ≤ 8 → Asc ((mget iEq l' (w : Int)).getD []) ∧ ((mget iEq l' (w : Int)).getD []).length ≤ ((mget iEq l (w : Int)).getD []).length + ch.length ∧
      ∀ n, n ∈ (mget iEq l' (w : Int)).getD [] ↔ n ∈ (mget iEq l (w : Int)).getD [] ∨ n ∈ ch := by
  refine Ret.ex ?_
  unfold chain_told
  refine loopO_rb (fun (s : Int × List (Int × List By8)) => ∃ k : Nat, s.1 = (k : Int) ∧ 1 ≤ k ∧ k ≤ 9 ∧ (s.2.map (·.1)).Nodup ∧ (∀ w : Nat, k ≤ w → mget iEq s.2 (w : Int) = mget iEq l (w : Int)) ∧ ∀ w : Nat, 1 ≤ w → w < k → Asc ((mget iEq s.2 (w : Int)).getD []) ∧ ((mget iEq s.2 (w : Int)).getD []).length ≤ ((mget iEq l (w : Int)).getD []).length + ch.length ∧
      ∀ n, n ∈ (mget iEq s.2 (w : Int)).getD [] ↔ n ∈ (mget iEq l (w : Int)).getD [] ∨ n ∈ ch) (fun s => 9 - s.1.toNat) ?_ ⟨1, rfl, by omega, by omega, hn, fun _ _ => rfl, fun w h1 h2 => by omega⟩
  rintro ⟨_, s⟩ ⟨k, rfl, k1, k9, g1, g2, g3⟩
  simp only at g1 g2 g3 ⊢
  refine yi (fun hk => ?_) fun hk => ?_
  · have hk : k ≤ 8 := by simp only [decide_eq_true_eq] at hk; omega
    have hbk := hb k k1 hk
    rw [g2 k (Nat.le_refl _), app_le om]
    simp only [obs]
    obtain ⟨y, y1, y2, y3, y4⟩ := sorted_val (l := (mget iEq l (k : Int)).getD [] ++ ch) (by rw [List.length_append]; omega)
    rw [y1]
    simp only [obs]
    rw [w64_id om om]
    refine yc ⟨⟨k + 1, rfl, by omega, by omega, mset_nodup ieqC g1 _ _, fun w hw => ?_, fun w h1 h2 => ?_⟩, by simp only; omega⟩
    · rw [mget_mset ieqC, ieqC.ne om]
      exact g2 w om
    · rw [mget_mset ieqC]
      by_cases e : w = k
      · subst e
        rw [ieqC.refl]
        simp only [cond_true, Option.getD_some]
        refine ⟨y2, by rw [List.length_append] at y3; exact y3, fun n => by rw [y4, List.mem_append]⟩
      · rw [ieqC.ne om]
        exact g3 w h1 om
  · have hk : k = 9 := by simp only [decide_eq_false_iff_not] at hk; omega
    subst hk
    exact yc ⟨g1, fun w h1 h2 => g3 w h1 om⟩
theorem inv_pub (hi : Inv A N D h) {c : qC} (h1 : CI 60 c) (h2 : VB c) (hA : A.length < 50) : (c.Version ≤ h.now ∧ chain_Chain_Publish h c = some (2, h)) ∨ (h.now < c.Version ∧ ∃ h', chain_Chain_Publish h c = some (0, h') ∧ Inv (A ++ [c]) N D h') := by
  unfold chain_Chain_Publish
  by_cases hv : c.Version ≤ h.now
  · rw [show decide (c.Version ≤ h.now) = true by simpa using hv]
    exact .inl ⟨hv, rfl⟩
  · right
    rw [show decide (c.Version ≤ h.now) = false by simpa using hv]
    refine ⟨by omega, ?_⟩
    obtain ⟨a, ha, hnow⟩ := inv_now hi
    have hpos := hi.pos
    obtain ⟨ch, c1, c2, c3, c4⟩ := changed_val h (hi.ok a (List.mem_of_getElem? ha)).1 h1
    have hlen : ∀ w : Nat, 1 ≤ w → w ≤ 8 → ((mget iEq h.news (w : Int)).getD []).length ≤ 10000 := fun w w1 w2 => by
      have := (hi.news w w1 w2).2.1
      have := Nat.mul_le_mul_left 121 hi.len
      omega
    obtain ⟨nl, n1, n2, n3⟩ := told_val (ch := ch) hi.nnd c3 hlen
    rw [hnow, cond_false, obs, c1, obs, n1, obs]
    have hver : h.now = a.Version := hi.now a ha
    have hasc : (A ++ [c]).Pairwise fun a b => a.Version < b.Version := by
      refine List.pairwise_append.2 ⟨hi.asc, by simp, fun x hx y hy => ?_⟩
      simp only [List.mem_cons, List.not_mem_nil, or_false] at hy
      subst hy
      obtain ⟨i, hx⟩ := List.getElem?_of_mem hx
      have hil := (List.getElem?_eq_some_iff.1 hx).1
      by_cases e : i = A.length - 1
      · subst e
        rw [ha] at hx
        injection hx with hx
        rw [← hx]
        omega
      · have := ver_lt hi.asc hx ha om
        omega
    have hlast : ∀ x, (A ++ [c])[(A ++ [c]).length - 1]? = some x → c.Version = x.Version := by
      intro x hx
      rw [List.length_append, List.length_singleton, Nat.add_sub_cancel, List.getElem?_append_right (Nat.le_refl _)] at hx
      simp at hx
      rw [hx]
    have hno : mget iEq h.live c.Version = none := by
      cases e : mget iEq h.live c.Version with
      | none => rfl
      | some k =>
        obtain ⟨i, x, e1, e2, _⟩ := (hi.live _ _).1 e
        have hil := (List.getElem?_eq_some_iff.1 e1).1
        have := ver_lt hasc (i := i) (j := A.length) (a := x) (b := c) (by rw [List.getElem?_append_left hil]; exact e1) (by rw [List.getElem?_append_right (Nat.le_refl _)]; simp) hil
        omega
    have hz : N.count (A.length : Int) = 0 := by
      rw [List.count_eq_zero]
      intro hm
      rcases hi.nb _ hm with e | ⟨j, e, hj⟩ <;> omega
    obtain ⟨live', t1, t2, t3⟩ := trim_live (A := A ++ [c]) (N := N) (live := mset iEq h.live c.Version ⟨c, 0⟩) (now := c.Version) (pins := h.pins) (news := nl) (P := fun i => lvP A N i ∨ i = A.length) hasc hlast (mset_nodup ieqC hi.lnd _ _) (fun i hlv => by
        rcases hlv with e | e
        · rw [List.length_append, List.length_singleton] at e
          exact .inr om
        · exact .inl (.inr e)) (fun v k => by
        rw [mget_mset ieqC]
        by_cases e : v = c.Version
        · rw [(ieqC v c.Version).2 e]
          simp only [cond_true, Option.some.injEq]
          constructor
          · intro hk
            refine ⟨A.length, c, by rw [List.getElem?_append_right (Nat.le_refl _)]; simp, e.symm, ?_, .inr rfl⟩
            rw [← hk, hz]
            rfl
          · rintro ⟨i, x, g1, g2, g3, g4⟩
            have hil := ver_inj hasc g1 (j := A.length) (b := c) (by rw [List.getElem?_append_right (Nat.le_refl _)]; simp) (by rw [g2, e])
            subst hil
            rw [List.getElem?_append_right (Nat.le_refl _)] at g1
            simp at g1
            rw [g3, ← g1, hz]
            rfl
        · rw [ieqC.ne e]
          simp only [cond_false]
          rw [hi.live]
          constructor
          · rintro ⟨i, x, g1, g2, g3, g4⟩
            exact ⟨i, x, by rw [List.getElem?_append_left (List.getElem?_eq_some_iff.1 g1).1]; exact g1, g2, g3, .inl g4⟩
          · rintro ⟨i, x, g1, g2, g3, g4⟩
            by_cases hil : i < A.length
            · rw [List.getElem?_append_left hil] at g1
              exact ⟨i, x, g1, g2, g3, g4.resolve_right om⟩
            · rw [List.getElem?_append_right om] at g1
              have : i - A.length = 0 := by have := (List.getElem?_eq_some_iff.1 g1).1; simp at this; omega
              rw [this] at g1
              simp at g1
              exact absurd (by rw [← g2, g1]) e)
    rw [t1]
    refine ⟨_, rfl, by simp, by simp; omega, hasc, fun x hx => ?_, hlast, hi.n9, hi.d9, fun x hx => ?_, hi.n0, hi.pnd, fun w => ?_, t2, t3, fun x hx => ?_, n2, fun w w1 w2 => ?_⟩
    · rcases List.mem_append.1 hx with hx | hx
      · exact hi.ok x hx
      · simp only [List.mem_cons, List.not_mem_nil, or_false] at hx
        subst hx
        exact ⟨h1, h2⟩
    · rcases hi.nb x hx with e | ⟨j, e, hj⟩
      · exact .inl e
      · exact .inr ⟨j, e, by simp; omega⟩
    · show mget iEq h.pins w = _
      rw [hi.pins]
      cases hp : pinned N w with
      | none => rfl
      | some i =>
        obtain ⟨x, hx⟩ := hi.pin_lt hp
        simp only [obs]
        rw [List.getElem?_append_left (List.getElem?_eq_some_iff.1 hx).1]
    · obtain ⟨j, e, hj⟩ := hi.db x hx
      exact ⟨j, e, by simp; omega⟩
    · obtain ⟨m1, m2, m3⟩ := n3 w w1 w2
      obtain ⟨q1, q2, q3⟩ := hi.news w w1 w2
      refine ⟨m1, ?_, fun n => ?_⟩
      · rw [List.length_append, List.length_singleton]
        show ((mget iEq nl (w : Int)).getD []).length ≤ _
        omega
      · show n ∈ (mget iEq nl (w : Int)).getD [] ↔ _
        rw [m3, q3, c4]
        have hwd : w < D.length := by rw [hi.d9]; omega
        obtain ⟨d, hd⟩ : ∃ d, D[w]? = some d := ⟨_, gE hwd⟩
        obtain ⟨dn, rfl, hdn⟩ := hi.db d (List.mem_of_getElem? hd)
        constructor
        · rintro (⟨d', j, x, y, e1, e2, e3, e4, e5⟩ | hch)
          · exact ⟨d', j, x, y, e1, e2, by rw [List.getElem?_append_left (List.getElem?_eq_some_iff.1 e3).1]; exact e3, by rw [List.getElem?_append_left (List.getElem?_eq_some_iff.1 e4).1]; exact e4, e5⟩
          · refine ⟨dn, A.length - 1, a, c, hd, by omega, by rw [List.getElem?_append_left om]; exact ha, ?_, hch⟩
            rw [show A.length - 1 + 1 = A.length by omega, List.getElem?_append_right (Nat.le_refl _)]
            simp
        · rintro ⟨d', j, x, y, e1, e2, e3, e4, e5⟩
          have hjl := (List.getElem?_eq_some_iff.1 e4).1
          rw [List.length_append, List.length_singleton] at hjl
          by_cases hj : j + 1 < A.length
          · rw [List.getElem?_append_left hj] at e4
            rw [List.getElem?_append_left om] at e3
            exact .inl ⟨d', j, x, y, e1, e2, e3, e4, e5⟩
          · have hje : j = A.length - 1 := by omega
            subst hje
            rw [List.getElem?_append_left om, ha] at e3
            rw [show A.length - 1 + 1 = A.length by omega, List.getElem?_append_right (Nat.le_refl _)] at e4
            simp at e4
            injection e3 with e3
            subst e3 e4
            exact .inr e5
end
theorem asc_eqI : ∀ {a b : List Int}, a.Pairwise (· < ·) → b.Pairwise (· < ·) → (∀ x, x ∈ a ↔ x ∈ b) → a = b
  | [], [], _, _, _ => rfl
  | [], y :: b, _, _, h => absurd ((h y).2 (by simp)) (by simp)
  | x :: a, [], _, _, h => absurd ((h x).1 (by simp)) (by simp)
  | x :: a, y :: b, h1, h2, h => by
    obtain ⟨p1, p2⟩ := List.pairwise_cons.1 h1
    obtain ⟨q1, q2⟩ := List.pairwise_cons.1 h2
    have e : x = y := by
      rcases List.mem_cons.1 ((h x).1 (by simp)) with e | e
      · exact e
      · rcases List.mem_cons.1 ((h y).2 (by simp)) with e' | e'
        · exact e'.symm
        · have := q1 _ e; have := p1 _ e'; omega
    subst e
    congr 1
    refine asc_eqI p2 q2 fun z => ?_
    have hz := h z
    simp only [List.mem_cons] at hz
    constructor
    · intro hm
      have hne := p1 z hm
      exact (hz.1 (.inr hm)).resolve_left om
    · intro hm
      have hne := q1 z hm
      exact (hz.2 (.inr hm)).resolve_left om
theorem asc_eq : ∀ {a b : List By8}, Asc a → Asc b → (∀ x, x ∈ a ↔ x ∈ b) → a = b
  | [], [], _, _, _ => rfl
  | [], y :: b, _, _, h => absurd ((h y).2 (by simp)) (by simp)
  | x :: a, [], _, _, h => absurd ((h x).1 (by simp)) (by simp)
  | x :: a, y :: b, h1, h2, h => by
    obtain ⟨p1, p2⟩ := List.pairwise_cons.1 h1
    obtain ⟨q1, q2⟩ := List.pairwise_cons.1 h2
    have irr : ∀ u : By8, sLt u u ≠ true := fun u hu => by rw [sLt_irrefl] at hu; cases hu
    have e : x = y := by
      rcases List.mem_cons.1 ((h x).1 (by simp)) with e | e
      · exact e
      · rcases List.mem_cons.1 ((h y).2 (by simp)) with e' | e'
        · exact e'.symm
        · exact absurd (sLt_trans (q1 _ e) (p1 _ e')) (irr _)
    subst e
    congr 1
    refine asc_eq p2 q2 fun z => ?_
    have hz := h z
    simp only [List.mem_cons] at hz
    constructor
    · intro hm
      exact (hz.1 (.inr hm)).resolve_left (fun e => irr z (by have := p1 z hm; rwa [← e] at this))
    · intro hm
      exact (hz.2 (.inr hm)).resolve_left (fun e => irr z (by have := q1 z hm; rwa [← e] at this))
def lvB (A : List qC) (N : List Int) (i : Nat) : Bool := decide (i + 1 = A.length) || N.contains (i : Int)
theorem lvB_iff {A : List qC} {N : List Int} {i : Nat} : lvB A N i = true ↔ lvP A N i := by
  unfold lvB lvP
  simp
def liveL (A : List qC) (N : List Int) : List Int := ((List.range A.length).filter (lvB A N)).filterMap fun i => (A[i]?).map (·.Version)
theorem liveL_mem {A : List qC} {N : List Int} {v : Int} : v ∈ liveL A N ↔ ∃ (i : Nat) (c : qC), A[i]? = some c ∧ c.Version = v ∧ lvP A N i := by
  unfold liveL
  simp only [List.mem_filterMap, List.mem_filter, List.mem_range, Option.map_eq_some_iff, lvB_iff]
  constructor
  · rintro ⟨i, ⟨_, h2⟩, c, h3, h4⟩
    exact ⟨i, c, h3, h4, h2⟩
  · rintro ⟨i, c, h3, h4, h2⟩
    exact ⟨i, ⟨(List.getElem?_eq_some_iff.1 h3).1, h2⟩, c, h3, h4⟩
theorem liveL_asc {A : List qC} {N : List Int} (h : A.Pairwise fun a b => a.Version < b.Version) : (liveL A N).Pairwise (· < ·) := by
  unfold liveL
  refine List.Pairwise.filterMap _ (R := (· < ·)) ?_ (List.Pairwise.filter _ List.pairwise_lt_range)
  intro i j hij x hx y hy
  obtain ⟨a, ha, rfl⟩ := Option.map_eq_some_iff.1 hx
  obtain ⟨b, hb, rfl⟩ := Option.map_eq_some_iff.1 hy
  exact ver_lt h ha hb hij
theorem i64_small {x : Int} (h0 : 0 ≤ x) (h1 : x ≤ 1000) : i64ok x = true := by
  have e1 : IntKind.i64.min = -9223372036854775808 := rfl
  have e2 : IntKind.i64.max = 9223372036854775807 := rfl
  show (decide (IntKind.i64.min ≤ x) && decide (x ≤ IntKind.i64.max)) = true
  rw [e1, e2, Bool.and_eq_true, decide_eq_true_eq, decide_eq_true_eq]
  omega
theorem inv_live {A : List qC} {N D : List Int} {h : chain_Chain} (hi : Inv A N D h) : chain_Chain_Live h = some (liveL A N) := by
  have hmem : ∀ v, v ∈ h.live.map (·.1) ↔ v ∈ liveL A N := by
    intro v
    rw [liveL_mem]
    constructor
    · intro hm
      obtain ⟨k, hk⟩ := mget_some ieqC hm
      obtain ⟨i, c, e1, e2, _, e4⟩ := (hi.live v k).1 hk
      exact ⟨i, c, e1, e2, e4⟩
    · rintro ⟨i, c, e1, e2, e4⟩
      have := (hi.live v ⟨c, (N.count (i : Int) : Int)⟩).2 ⟨i, c, e1, e2, rfl, e4⟩
      refine Classical.byContradiction fun hno => ?_
      rw [mget_none ieqC hno] at this
      cases this
  have hasc := liveL_asc (N := N) hi.asc
  have hnd : (liveL A N).Nodup := hasc.imp fun h => by omega
  have hlen : h.live.length ≤ 50 := by
    rw [nodup_len hi.lnd hnd hmem]
    unfold liveL
    refine Nat.le_trans (List.length_filterMap_le _ _) (Nat.le_trans (List.length_filter_le _ _) ?_)
    rw [List.length_range]
    exact hi.len
  unfold chain_Chain_Live keysI
  have hk : ∀ k ∈ h.live.map (·.1), i64ok k = true := fun k hk => by
    obtain ⟨i, c, e1, e2, _⟩ := liveL_mem.1 ((hmem k).1 hk)
    have := (hi.ok c (List.mem_of_getElem? e1)).2
    rw [← e2]
    exact i64_small this.1 this.2
  rw [if_pos ⟨hi.lnd, by omega, hk⟩]
  · congr 1
    refine asc_eqI ?_ hasc fun x => ?_
    · have h1 : (sortI (h.live.map (·.1))).Pairwise (fun a b => decide (a ≤ b) = true) := by
        unfold sortI
        refine List.pairwise_mergeSort ?_ ?_ _
        · intro a b c; simp only [decide_eq_true_eq]; omega
        · intro a b; simp only [Bool.or_eq_true, decide_eq_true_eq]; omega
      have h2 : (sortI (h.live.map (·.1))).Nodup := (List.mergeSort_perm _ _).nodup_iff.2 hi.lnd
      exact List.Pairwise.imp₂ (fun a b g1 g2 => by simp only [decide_eq_true_eq] at g1; omega) h1 h2
    · rw [← hmem]
      exact (List.mergeSort_perm _ _).mem_iff
theorem sEq_self (a : By8) : sEq a a = true := sEq_iff.2 rfl
theorem rinto_val {s : List By8} {x : By8} (hs : Asc s) (hl : s.length ≤ 100000) : ∃ y, r22_into s x = some y ∧ Asc y ∧ y.length ≤ s.length + 1 ∧ ∀ n, n ∈ y ↔ n = x ∨ n ∈ s := by
  refine Ret.ex ?_
  unfold r22_into
  refine yd (R := fun (q : Int) => ∃ i : Nat, q = i ∧ i ≤ s.length ∧ (∀ y ∈ s.take i, sLt y x = true) ∧ ∀ z, s[i]? = some z → sLt z x = false) (loopO_rb (fun (q : Int) => ∃ i : Nat, q = i ∧ i ≤ s.length ∧ ∀ y ∈ s.take i, sLt y x = true) (fun q => s.length - q.toNat) ?_ ⟨0, rfl, by omega, by simp⟩) ?_
  · rintro q ⟨i, rfl, hi, h1⟩
    by_cases hlt : i < s.length
    · rw [show decide ((i : Int) < (s.length : Int)) = true by simp [hlt]]
      have hz : s[i]? = some s[i] := gE hlt
      simp only [cond_true, idx_nat, hz, obs]
      cases hc : sLt s[i] x with
      | true =>
        refine yc ⟨⟨i + 1, by rw [w64_id om om]; rfl, hlt, fun y hy => ?_⟩, by rw [w64_id om om]; omega⟩
        rw [take_snoc hz, List.mem_append, List.mem_singleton] at hy
        rcases hy with hy | rfl
        · exact h1 y hy
        · exact hc
      | false =>
        refine yc ⟨i, rfl, hi, h1, fun z hz' => ?_⟩
        rw [hz] at hz'
        injection hz' with hz'
        subst hz'
        exact hc
    · rw [show decide ((i : Int) < (s.length : Int)) = false by simp; omega]
      simp only [cond_false, obs]
      refine yc ⟨i, rfl, hi, h1, fun z hz => ?_⟩
      have := (List.getElem?_eq_some_iff.1 hz).1
      omega
  rintro q ⟨i, rfl, hi, h1, h2⟩
  refine yd (R := fun (q : Bool) => (q = true → x ∈ s) ∧ (q = false → ∀ z, s[i]? = some z → sLt x z = true)) ?_ fun q hq => ?_
  · by_cases hlt : i < s.length
    · rw [show decide ((i : Int) < (s.length : Int)) = true by simp [hlt]]
      have hz : s[i]? = some s[i] := gE hlt
      simp only [cond_true, idx_nat, hz, obs]
      refine yc ⟨fun h => ?_, fun h z hz' => ?_⟩
      · rw [← sEq_iff.1 h]
        exact List.getElem_mem hlt
      · rw [Option.some.injEq] at hz'
        subst hz'
        rcases sLt_total s[i] x with g | g | g
        · rw [h2 _ hz] at g; cases g
        · rw [g, sEq_iff.2 rfl] at h; cases h
        · exact g
    · rw [show decide ((i : Int) < (s.length : Int)) = false by simp; omega]
      refine yc ⟨(fun h => by cases h), fun _ z hz => ?_⟩
      have := (List.getElem?_eq_some_iff.1 hz).1
      omega
  refine yi (fun hc => yc ⟨hs, by omega, fun n => ⟨.inr, ?_⟩⟩) fun hc => ?_
  · rintro (rfl | h)
    · exact hq.1 hc
    · exact h
  rw [sub_at (lo := 0) (i := 0) (j := i) rfl rfl om hi, sub_at (i := i) (j := s.length) rfl rfl hi om]
  simp only [obs, List.drop_zero, List.take_length]
  rw [app_le (by simp; omega)]
  simp only [obs, List.nil_append]
  rw [app_le (by simp; omega)]
  simp only [obs]
  rw [app_le (by simp; omega)]
  simp only [obs]
  have e : s.take i ++ [x] ++ s.drop i = s.take i ++ x :: s.drop i := by simp
  rw [e]
  have hlen : (s.take i ++ x :: s.drop i).length = s.length + 1 := by simp; omega
  refine yc ⟨Asc.ins (by rw [List.take_append_drop]; exact hs) h1 fun y hy => hs.drop_lt (hq.2 hc) hy, by omega, fun n => ?_⟩
  rw [List.mem_append, List.mem_cons]
  have hm : n ∈ s ↔ n ∈ s.take i ∨ n ∈ s.drop i := by rw [← List.mem_append, List.take_append_drop]
  rw [hm]
  constructor
  · rintro (h | h | h)
    · exact .inr (.inl h)
    · exact .inl h
    · exact .inr (.inr h)
  · rintro (h | h | h)
    · exact .inr (.inl h)
    · exact .inl h
    · exact .inr (.inr h)
theorem mB_no {c : qC} {t : qT} (h : tI c t.Name < 0) : mB c t = true := by
  unfold mB tG
  rw [if_neg om]
theorem mB_at {c : qC} {t u : qT} (h : 0 ≤ tI c t.Name) (hx : c.Tables[(tI c t.Name).toNat]? = some u) : mB c t = ((u.Version != t.Version) || !sEq u.Owner t.Owner) := by
  unfold mB tG
  rw [if_pos h, hx]
theorem rchanged_val {a b : qC} (ha : CI 60 a) (hb : CI 60 b) : ∃ ch, r22_Changed a b = some ch ∧ Asc ch ∧ ch.length ≤ 121 ∧ ∀ n, n ∈ ch ↔ Ch a b n := by
  have ta := ha.1.tabs
  have tb := hb.1.tabs
  refine Ret.ex ?_
  unfold r22_Changed
  refine yax (by simp only [List.length_nil]; omega) (yax (by simp only [List.length_append, List.length_nil]; omega) ?_)
  rw [List.nil_append]
  have hlen : (a.Tables ++ b.Tables).length = a.Tables.length + b.Tables.length := List.length_append ..
  refine yd (R := fun (s : List By8) => Asc s ∧ s.length ≤ 120 ∧ ∀ n, n ∈ s ↔ (∃ t ∈ a.Tables, t.Name = n ∧ mB b t = true) ∨ ∃ t ∈ b.Tables, t.Name = n ∧ mB a t = true) ((forE_ret (fun j (s : List By8) => Asc s ∧ s.length ≤ j ∧ ∀ n, n ∈ s ↔ ∃ (i : Nat) (t : qT), i < j ∧ (a.Tables ++ b.Tables)[i]? = some t ∧ t.Name = n ∧ (if i < a.Tables.length then mB b t else mB a t) = true) ⟨List.Pairwise.nil, Nat.le_refl _, fun n => by simp⟩ ?_).mono ?_) ?_
  · rintro j s hj ⟨g1, g2, g3⟩
    refine yah hj fun t ht hmt => ?_
    rw [tat_val, tat_val]
    refine yaj (yaj ?_)
    have hA : j < a.Tables.length → 0 ≤ tI a t.Name := fun h => has_tI.2 ⟨t, by rw [List.getElem?_append_left h] at ht; exact List.mem_of_getElem? ht, rfl⟩
    have hB : ¬ j < a.Tables.length → 0 ≤ tI b t.Name := fun h => has_tI.2 ⟨t, by rw [List.getElem?_append_right om] at ht; exact List.mem_of_getElem? ht, rfl⟩
    have gA : 0 ≤ tI a t.Name → ∃ u, idx a.Tables (tI a t.Name) = some u ∧ a.Tables[(tI a t.Name).toNat]? = some u := fun h => by
      obtain ⟨k, u, hk, hu, _⟩ := tI_get h
      rw [hk, idx_nat, hu]
      exact ⟨u, rfl, by rw [Int.toNat_natCast]; exact hu⟩
    have gB : 0 ≤ tI b t.Name → ∃ u, idx b.Tables (tI b t.Name) = some u ∧ b.Tables[(tI b t.Name).toNat]? = some u := fun h => by
      obtain ⟨k, u, hk, hu, _⟩ := tI_get h
      rw [hk, idx_nat, hu]
      exact ⟨u, rfl, by rw [Int.toNat_natCast]; exact hu⟩
    have hjx : idx (a.Tables ++ b.Tables) (j : Int) = some t := by rw [idx_nat]; exact ht
    refine yd (R := fun (q : Bool) => (j < a.Tables.length → q = mB b t) ∧ (¬ j < a.Tables.length → q = decide (tI a t.Name < 0))) ?_ fun q hq => ?_
    · refine yi (fun hc => yc ⟨fun h => ?_, fun h => ?_⟩) fun hc => ?_
      · have := hA h
        simp only [Bool.or_eq_true, decide_eq_true_eq] at hc
        rw [mB_no om]
      · have := hB h
        simp only [Bool.or_eq_true, decide_eq_true_eq] at hc
        simp; omega
      · simp only [Bool.or_eq_false_iff, decide_eq_false_iff_not] at hc
        refine yd (R := fun (q : Bool) => (j < a.Tables.length → q = mB b t) ∧ (¬ j < a.Tables.length → q = decide (tI a t.Name < 0))) (yi (fun hd => ?_) fun hd => yc ⟨fun h => by simp at hd; omega, fun _ => by simp; omega⟩) fun q hq => yc hq
        have hd : j < a.Tables.length := by simpa using hd
        obtain ⟨u, u1, u2⟩ := gB om
        rw [u1, hjx]
        refine yaj (yaj (yd (R := fun (q : Bool) => q = mB b t) (yi (fun hv => yc ?_) fun hv => yaj (yaj (yc ?_))) fun q hq => yc ⟨fun _ => hq, fun h => absurd hd h⟩))
        · rw [mB_at om u2, hv]; rfl
        · rw [mB_at om u2, hv]; rfl
    refine yd (R := fun (q : Bool) => q = if j < a.Tables.length then mB b t else mB a t) ?_ fun q2 hq2 => ?_
    · refine yi (fun hc => yc ?_) fun hc => ?_
      · split
        · rename_i h
          rw [← hq.1 h, hc]
        · rename_i h
          have := hq.2 h
          rw [hc] at this
          rw [mB_no (by simpa using this.symm)]
      · refine yd (R := fun (q : Bool) => q = if j < a.Tables.length then mB b t else mB a t) (yi (fun hd => ?_) fun hd => yc ?_) fun q hq => yc hq
        · have hd : ¬ j < a.Tables.length := by simp only [decide_eq_true_eq] at hd; omega
          have h0 := hq.2 hd
          rw [hc] at h0
          have h0 : 0 ≤ tI a t.Name := by have := h0.symm; simp at this; omega
          obtain ⟨u, u1, u2⟩ := gA h0
          rw [u1, hjx, if_neg hd]
          refine yaj (yaj (yd (R := fun (q : Bool) => q = mB a t) (yi (fun hv => yc ?_) fun hv => yaj (yaj (yc ?_))) fun q hq => yc hq))
          · rw [mB_at h0 u2, hv]; rfl
          · rw [mB_at h0 u2, hv]; rfl
        · have hd : j < a.Tables.length := by simp only [decide_eq_false_iff_not] at hd; omega
          rw [if_pos hd, ← hq.1 hd, hc]
    refine yd (R := fun (s : List By8) => Asc s ∧ s.length ≤ j + 1 ∧ ∀ n, n ∈ s ↔ ∃ (i : Nat) (t : qT), i < j + 1 ∧ (a.Tables ++ b.Tables)[i]? = some t ∧ t.Name = n ∧ (if i < a.Tables.length then mB b t else mB a t) = true) (yi (fun hc => ?_) fun hc => yc ⟨g1, by omega, fun n => ?_⟩) fun s h => yc h
    · obtain ⟨y, y1, y2, y3, y4⟩ := rinto_val (x := t.Name) g1 om
      rw [y1]
      refine yaj (yc ⟨y2, by omega, fun n => ?_⟩)
      rw [y4, g3]
      constructor
      · rintro (rfl | ⟨i, u, h1, h2⟩)
        · exact ⟨j, t, by omega, ht, rfl, by rw [← hq2]; exact hc⟩
        · exact ⟨i, u, by omega, h2⟩
      · rintro ⟨i, u, h1, h2, h3, h4⟩
        by_cases e : i = j
        · subst e
          rw [ht] at h2
          injection h2 with h2
          exact .inl (by rw [← h3, ← h2])
        · exact .inr ⟨i, u, by omega, h2, h3, h4⟩
    · rw [g3]
      constructor
      · rintro ⟨i, u, h1, h2⟩
        exact ⟨i, u, by omega, h2⟩
      · rintro ⟨i, u, h1, h2, h3, h4⟩
        by_cases e : i = j
        · subst e
          rw [ht] at h2
          injection h2 with h2
          subst h2
          rw [← hq2, hc] at h4
          cases h4
        · exact ⟨i, u, by omega, h2, h3, h4⟩
  · rintro s ⟨g1, g2, g3⟩
    refine ⟨g1, by omega, fun n => ?_⟩
    rw [g3]
    constructor
    · rintro ⟨i, t, h1, h2, h3, h4⟩
      by_cases hi : i < a.Tables.length
      · rw [if_pos hi] at h4
        rw [List.getElem?_append_left hi] at h2
        exact .inl ⟨t, List.mem_of_getElem? h2, h3, h4⟩
      · rw [if_neg hi] at h4
        rw [List.getElem?_append_right om] at h2
        exact .inr ⟨t, List.mem_of_getElem? h2, h3, h4⟩
    · rintro (⟨t, h1, h2, h3⟩ | ⟨t, h1, h2, h3⟩)
      · obtain ⟨i, hi⟩ := List.getElem?_of_mem h1
        have hil := (List.getElem?_eq_some_iff.1 hi).1
        exact ⟨i, t, by omega, by rw [List.getElem?_append_left hil]; exact hi, h2, by rw [if_pos hil]; exact h3⟩
      · obtain ⟨i, hi⟩ := List.getElem?_of_mem h1
        have hil := (List.getElem?_eq_some_iff.1 hi).1
        exact ⟨a.Tables.length + i, t, by omega, by rw [List.getElem?_append_right om, Nat.add_sub_cancel_left]; exact hi, h2, by rw [if_neg om]; exact h3⟩
  rintro s ⟨g1, g2, g3⟩
  obtain ⟨x, x1, x2⟩ := rsameR_val a.Roles b.Roles (fun r hr => by have := (ha.2.sm (show 60 ≤ 100 by omega)).2.1 r hr; omega)
  obtain ⟨y, y1, y2⟩ := rsameG_val a.Grants b.Grants
  rw [x1, y1]
  refine yaj (yd (R := fun q => q = true ↔ ¬ (a.Roles = b.Roles ∧ a.Grants = b.Grants)) (yi (fun hc => yc ?_) fun hc => yaj (yc ?_)) fun q hq => ?_)
  · have : ¬ a.Roles = b.Roles := fun e => by rw [x2.2 e] at hc; cases hc
    simp [this]
  · have : a.Roles = b.Roles := x2.1 (by simpa using hc)
    rw [Bool.not_eq_true', ← Bool.not_eq_true, y2]
    simp [this]
  refine yd (R := fun (l : List By8) => Asc l ∧ l.length ≤ 121 ∧ ∀ n, n ∈ l ↔ Ch a b n) (yi (fun hc => ?_) fun hc => yc ⟨g1, by omega, fun n => ?_⟩) fun l h => yc h
  · obtain ⟨z, z1, z2, z3, z4⟩ := rinto_val (x := dol) g1 om
    rw [show (⟨#[36]⟩ : By8) = dol from rfl, z1]
    refine yaj (yc ⟨z2, by omega, fun n => ?_⟩)
    rw [z4, g3]
    unfold Ch
    constructor
    · rintro (h | h | h)
      · exact .inr (.inr ⟨h, hq.1 hc⟩)
      · exact .inl h
      · exact .inr (.inl h)
    · rintro (h | h | h)
      · exact .inr (.inl h)
      · exact .inr (.inr h)
      · exact .inl h.1
  · rw [g3]
    unfold Ch
    have hno : ¬ ¬ (a.Roles = b.Roles ∧ a.Grants = b.Grants) := fun h => by rw [hq.2 h] at hc; cases hc
    constructor
    · rintro (h | h)
      · exact .inl h
      · exact .inr (.inl h)
    · rintro (h | h | h)
      · exact .inl h
      · exact .inr h
      · exact absurd h.2 hno
theorem rhear_val {A : List qC} {N D : List Int} {w : Int} (h1 : 1 ≤ w) (h2 : w ≤ 8) (hd : D.length = 9) (db : ∀ x ∈ D, ∃ j : Nat, x = (j : Int) ∧ j < A.length) (hlen : A.length ≤ 50) (ok : ∀ c ∈ A, CI 60 c) :
    ∃ l, r22_Chain_Hear ⟨A, N, D⟩ w = some (l, ⟨A, N, D.set w.toNat ((A.length - 1 : Nat) : Int)⟩) ∧ Asc l ∧ ∀ n, n ∈ l ↔ ∃ (d j : Nat) (a b : qC), D[w.toNat]? = some (d : Int) ∧ d ≤ j ∧ A[j]? = some a ∧ A[j + 1]? = some b ∧ Ch a b n := by
  have hw : w.toNat < D.length := by omega
  obtain ⟨d, hdw, hdl⟩ := db _ (List.getElem_mem hw)
  have hg : D[w.toNat]? = some (d : Int) := by rw [gE hw, hdw]
  have hx : idx D w = some (d : Int) := idx_at (j := w.toNat) om hg
  have hgo : Ret (r22_Chain_Hear ⟨A, N, D⟩ w) (fun r => r.2 = ⟨A, N, D.set w.toNat ((A.length - 1 : Nat) : Int)⟩ ∧ Asc r.1 ∧ ∀ n, n ∈ r.1 ↔ ∃ (j : Nat) (a b : qC), d ≤ j ∧ A[j]? = some a ∧ A[j + 1]? = some b ∧ Ch a b n) := by
    unfold r22_Chain_Hear
    refine yi (fun hc => by simp at hc; omega) fun _ => ?_
    simp only [hx, obs]
    refine yd (R := fun (l : List By8) => Asc l ∧ ∀ n, n ∈ l ↔ ∃ (j : Nat) (a b : qC), d ≤ j ∧ A[j]? = some a ∧ A[j + 1]? = some b ∧ Ch a b n)
      (loopO_rb (fun (s : List By8 × Int) => ∃ k : Nat, s.2 = (k : Int) ∧ d ≤ k ∧ k < A.length ∧ Asc s.1 ∧ s.1.length ≤ 121 * k ∧ ∀ n, n ∈ s.1 ↔ ∃ (j : Nat) (a b : qC), d ≤ j ∧ j < k ∧ A[j]? = some a ∧ A[j + 1]? = some b ∧ Ch a b n) (fun s => A.length - s.2.toNat) ?_ ⟨d, rfl, Nat.le_refl _, hdl, List.Pairwise.nil, by simp, fun n => ?_⟩) ?_
    · rintro ⟨l, _⟩ ⟨k, rfl, k1, k2, g1, g2, g3⟩
      simp only at g1 g2 g3 ⊢
      have e1 : w64 ((k : Int) + 1) = ((k + 1 : Nat) : Int) := by rw [w64_id om om]; rfl
      rw [e1]
      refine yi (fun hc => ?_) fun hc => ?_
      · have hc : k + 1 < A.length := by simp only [decide_eq_true_eq] at hc; omega
        refine yah k2 fun a hak ham => yah hc fun b hbk hbm => ?_
        obtain ⟨ch, c1, c2, c3, c4⟩ := rchanged_val (ok a ham) (ok b hbm)
        rw [c1]
        refine yaj (yd (R := fun (s : List By8) => Asc s ∧ s.length ≤ l.length + ch.length ∧ ∀ n, n ∈ s ↔ n ∈ l ∨ n ∈ ch) ((forE_ret (fun j (s : List By8) => Asc s ∧ s.length ≤ l.length + j ∧ ∀ n, n ∈ s ↔ n ∈ l ∨ n ∈ ch.take j) ⟨g1, Nat.le_refl _, fun n => by simp⟩ ?_).mono ?_) ?_)
        · rintro j s hj ⟨q1, q2, q3⟩
          refine yah hj fun x hxj _ => ?_
          have hkb : 121 * k ≤ 121 * 50 := Nat.mul_le_mul_left _ om
          obtain ⟨y, y1, y2, y3, y4⟩ := rinto_val (x := x) q1 om
          rw [y1]
          refine yaj (yc ⟨y2, by omega, fun n => ?_⟩)
          rw [y4, q3, take_snoc hxj, List.mem_append, List.mem_singleton]
          constructor
          · rintro (h | h | h)
            · exact .inr (.inr h)
            · exact .inl h
            · exact .inr (.inl h)
          · rintro (h | h | h)
            · exact .inr (.inl h)
            · exact .inr (.inr h)
            · exact .inl h
        · rintro s ⟨q1, q2, q3⟩
          rw [List.take_length] at q3
          exact ⟨q1, q2, q3⟩
        · rintro s ⟨q1, q2, q3⟩
          refine yc ⟨⟨k + 1, rfl, by omega, hc, q1, by simp only; omega, fun n => ?_⟩, by simp only [Int.toNat_natCast]; omega⟩
          rw [q3, g3, c4]
          constructor
          · rintro (⟨j, x, y, h1, h2, h3, h4, h5⟩ | h)
            · exact ⟨j, x, y, h1, by omega, h3, h4, h5⟩
            · exact ⟨k, a, b, k1, by omega, hak, hbk, h⟩
          · rintro ⟨j, x, y, h1, h2, h3, h4, h5⟩
            by_cases e : j = k
            · subst e
              rw [hak] at h3
              rw [hbk] at h4
              injection h3 with h3
              injection h4 with h4
              subst h3 h4
              exact .inr h5
            · exact .inl ⟨j, x, y, h1, by omega, h3, h4, h5⟩
      · have hc : k + 1 = A.length := by simp only [decide_eq_false_iff_not] at hc; omega
        refine yc ⟨g1, fun n => ?_⟩
        rw [g3]
        constructor
        · rintro ⟨j, x, y, h1, h2, h3⟩
          exact ⟨j, x, y, h1, h3⟩
        · rintro ⟨j, x, y, h1, h3, h4, h5⟩
          have := (List.getElem?_eq_some_iff.1 h4).1
          exact ⟨j, x, y, h1, by omega, h3, h4, h5⟩
    · constructor
      · intro h; cases h
      · rintro ⟨j, x, y, h1, h2, _⟩
        omega
    · rintro l ⟨g1, g2⟩
      have ew : w64 ((A.length : Int) - 1) = ((A.length - 1 : Nat) : Int) := by rw [w64_id om om]; omega
      rw [ew]
      exact yc ⟨rfl, g1, g2⟩
  obtain ⟨⟨l, r⟩, e1, e2, e3, e4⟩ := hgo.ex
  simp only at e2 e3 e4
  subst e2
  refine ⟨l, e1, e3, fun n => ?_⟩
  rw [e4]
  constructor
  · rintro ⟨j, a, b, q⟩
    exact ⟨d, j, a, b, hg, q⟩
  · rintro ⟨d', j, a, b, q0, q⟩
    rw [hg] at q0
    have : d = d' := by injection q0 with q0; omega
    subst this
    exact ⟨j, a, b, q⟩
theorem rnew_val (c : qC) : r22_New c = some ⟨[c], List.replicate 9 (-1), List.replicate 9 0⟩ := by
  rfl
theorem psame_fu {b : Prop} : ∀ (n : Nat) (e : qE), (b → esz e ≤ n) → RB b (r10_Same_fu n e e) (fun r => r = true)
  | 0, e, h => ybg fun hb => by have := h hb; have := esz_pos e; omega
  | n + 1, e, h => by
    unfold r10_Same_fu
    refine yaj (yi (fun hc => by simp [sEq_self] at hc) fun _ => yd (R := fun r => r = true) ?_ fun _ h => yc h)
    unfold r10_SameList
    refine yi (fun hc => by simp at hc) fun _ => yd (forN_q (Q := fun _ => False) fun j _ hj => ?_) ?_
    · have hx : e.Kids[j]? = some e.Kids[j] := gE hj
      rw [idx_nat, hx]
      refine yaj (yaj (yd (psame_fu n _ fun hb => ?_) fun r hr => ?_))
      · have := kid_sz (List.getElem_mem hj)
        have := h hb
        omega
      · subst hr
        exact yc trivial
    · rintro (_ | _) g
      · exact yc rfl
      · exact g.elim
theorem psame_rb {b : Prop} (e : qE) : RB b (r10_Same e e) (fun r => r = true) := by
  unfold r10_Same
  exact fuel_tt (esz e) fun n => psame_fu n e id
theorem ssame_rb {b : Prop} (l : List By8) : RB b (r12_SameTexts l l) (fun r => r = true) := by
  unfold r12_SameTexts
  refine yi (fun hc => by simp at hc) fun _ => yd (forN_q (Q := fun _ => False) fun j _ hj => yah hj fun x hx _ => ?_) ?_
  · rw [idx_nat, hx]
    refine yaj ?_
    rw [sEq_self]
    exact yc trivial
  · rintro (_ | _) g
    · exact yc rfl
    · exact g.elim
theorem csame_rb {b : Prop} (x : qK) : RB b (r12_SameCons x x) (fun r => r = true) := by
  unfold r12_SameCons
  refine yaj ?_
  simp only [sEq_self, beq_self_eq_true, Bool.and_self]
  refine yd (R := fun r => r = true) (yd (ssame_rb _) fun _ h => yc h) fun q hq => ?_
  subst hq
  refine yd (R := fun r => r = true) (yd (ssame_rb _) fun _ h => yc h) fun q hq => ?_
  subst hq
  exact yd (R := fun r => r = true) (yd (psame_rb _) fun _ h => yc h) fun q hq => yc hq
theorem tsame_rb {b : Prop} (t : qT) : RB b (r14_Same t t) (fun r => r = true) := by
  unfold r14_Same
  refine yaj (yaj (yi (fun hc => by simp [sEq_self] at hc) fun _ => yd (forN_q (Q := fun _ => False) fun j _ hj => yah hj fun x hx _ => ?_) ?_))
  · rw [idx_nat, hx]
    refine yaj ?_
    simp only [sEq_self, beq_self_eq_true, Bool.and_self]
    exact yc trivial
  rintro (_ | _) g
  rotate_left
  · exact g.elim
  refine yd (forN_q (Q := fun _ => False) fun j _ hj => yah hj fun x hx _ => ?_) ?_
  · rw [idx_nat, hx]
    refine yaj (yd (csame_rb x) fun r hr => ?_)
    subst hr
    exact yc trivial
  rintro (_ | _) g
  rotate_left
  · exact g.elim
  refine yd (forN_q (Q := fun _ => False) fun j _ hj => yah hj fun x hx _ => ?_) ?_
  · rw [idx_nat, hx]
    refine yaj (yd (R := fun r => r = false) ?_ fun r hr => ?_)
    · rw [sEq_self]
      refine yi (fun h => by cases h) fun _ => yaj (yaj (yd (ssame_rb _) fun r hr => ?_))
      subst hr
      exact yc rfl
    · subst hr
      exact yc trivial
  · rintro (_ | _) g
    · exact yc rfl
    · exact g.elim
theorem catsame_rb {b : Prop} (c : qC) : RB b (r17_Same c c) (fun r => r = true) := by
  unfold r17_Same
  refine yaj (yaj (yi (fun hc => by simp at hc) fun _ => yd (forN_q (Q := fun _ => False) fun j _ hj => yah hj fun x hx _ => ?_) ?_))
  · rw [idx_nat, hx]
    refine yaj (yd (tsame_rb x) fun r hr => ?_)
    subst hr
    exact yc trivial
  rintro (_ | _) g
  rotate_left
  · exact g.elim
  refine yd (forN_q (Q := fun _ => False) fun j _ hj => yd (R := fun (q : qJ × qJ) => q.1 = q.2) (yah hj fun x hx _ => ?_) ?_) ?_
  · rw [idx_nat, hx]
    exact yaj (yc rfl)
  · rintro ⟨x, y⟩ hxy
    have hxy : x = y := hxy
    subst hxy
    refine yaj (yi (fun hc => by simp [sEq_self] at hc) fun _ => yd (forN_q (Q := fun _ => False) fun j _ hj => yah hj fun x hx _ => ?_) ?_)
    · rw [idx_nat, hx]
      refine yaj ?_
      rw [sEq_self]
      exact yc trivial
    · rintro (_ | _) g
      · exact yc trivial
      · exact g.elim
  rintro (_ | _) g
  rotate_left
  · exact g.elim
  refine yd (forN_q (Q := fun _ => False) fun j _ hj => yah hj fun x hx _ => ?_) ?_
  · rw [idx_nat, hx]
    refine yaj ?_
    simp only [sEq_self, beq_self_eq_true, Bool.and_self]
    exact yc trivial
  · rintro (_ | _) g
    · exact yc rfl
    · exact g.elim
theorem csame (c : qC) : r17_Same c c = some true := Ret.eq (catsame_rb c)
theorem texts (l : List By8) : r12_SameTexts l l = some true := Ret.eq (ssame_rb l)
section
variable {A : List qC} {N D : List Int} {h : chain_Chain}
theorem rnow_val {c : qC} (hpos : 0 < A.length) (hlen : A.length ≤ 1000) (hc : A[A.length - 1]? = some c) : r22_Chain_Now ⟨A, N, D⟩ = some c := by
  have ew : w64 ((A.length : Int) - 1) = ((A.length - 1 : Nat) : Int) := by rw [w64_id om om]; omega
  unfold r22_Chain_Now
  simp only
  rw [ew, idx_nat, hc]
  rfl
theorem rpub_val {c : qC} (hpos : 0 < A.length) (hlen : A.length ≤ 1000) (hc : A[A.length - 1]? = some c) (d : qC) : r22_Chain_Publish ⟨A, N, D⟩ d = if d.Version ≤ c.Version then some (2, ⟨A, N, D⟩) else some (0, ⟨A ++ [d], N, D⟩) := by
  unfold r22_Chain_Publish
  rw [rnow_val hpos hlen hc]
  simp only [obs]
  by_cases hv : d.Version ≤ c.Version
  · rw [if_pos hv, show decide (d.Version ≤ c.Version) = true by simpa using hv]
    rfl
  · rw [if_neg hv, show decide (d.Version ≤ c.Version) = false by simpa using hv, app_le (by simp only [List.length_singleton]; omega)]
    rfl
theorem rng {w : Int} (h1 : ¬ (1 ≤ w ∧ w ≤ 8)) : (decide (w < 1) || decide (w > 8)) = true := by simp; omega
theorem rng' {w : Int} (h1 : 1 ≤ w ∧ w ≤ 8) : (decide (w < 1) || decide (w > 8)) = false := by simp; omega
theorem pin_idx {w : Int} {i : Nat} (hp : pinned N w = some i) : idx N w = some (i : Int) := by
  obtain ⟨h1, h2⟩ := pinned_some.1 hp
  exact idx_at (j := w.toNat) om h2
theorem nget_idx (hi : Inv A N D h) {w : Int} (hw : 1 ≤ w ∧ w ≤ 8) (hp : pinned N w = none) : idx N w = some (-1) := idx_at (j := w.toNat) om (hi.nget hw.1 hw.2 hp)
structure Left (A : List qC) (N : List Int) (k : Nat) (a : law22_Act) (r : Bool × chain_Chain × r22_Chain) : Prop where
  ok : r.1 = true
  ex : ∃ A' N' D', Inv A' N' D' r.2.1 ∧ r.2.2 = ⟨A', N', D'⟩ ∧ A'.length ≤ k + 2 ∧ (∀ x, A'[A'.length - 1]? = some x → CT (16 + (k + 1)) x) ∧ (∃ B, A' = A ++ B) ∧ ∀ w i, (a.Do = 2 → a.Who ≠ w) → pinned N w = some i → pinned N' w = some i
theorem done_rb (hi : Inv A N D h) {k : Nat} (hA : A.length ≤ k + 1) (hk : k < 40) (hc : ∀ x, A[A.length - 1]? = some x → CT (16 + k) x) {a : law22_Act} (ha : SF a.A.S ∧ a.A.By.size ≤ 100) : Ret (law22_done h ⟨A, N, D⟩ a) (Left A N k a) := by
  obtain ⟨c, hl, hn⟩ := hi.last
  have hpos := hi.pos
  have hcl := hc c hl
  have rnow := rnow_val (N := N) (D := D) hpos om hl
  have stay : ∀ x, A[A.length - 1]? = some x → CT (16 + (k + 1)) x := fun x hx => (hc x hx).up om
  unfold law22_done
  refine yi (fun _ => ?_) fun _ => yi (fun _ => ?_) fun h1 => yi (fun h2 => ?_) fun _ => ?_
  · refine yd (R := fun j => CT (16 + k + 1) j ∧ VB j) ?_ ?_
    · rw [rnow]
      refine yaj (yd (rb_and (next_tu hcl ha om om) (next_v (hi.ok c (List.mem_of_getElem? hl)).2 _)) ?_)
      rintro ⟨d, e⟩ g
      exact yc g
    · rintro d ⟨g1, g2⟩
      rw [rpub_val hpos om hl]
      rcases inv_pub hi (g1.1.up om) g2 om with ⟨hv, e⟩ | ⟨hv, h', e, hi'⟩
      · rw [e, if_pos om]
        exact yaj (yaj (yc ⟨rfl, A, N, D, hi, rfl, by omega, stay, ⟨[], by simp⟩, fun _ _ _ hp => hp⟩))
      · rw [e, if_neg om]
        refine yaj (yaj (yc ⟨rfl, A ++ [d], N, D, hi', rfl, by simp; omega, fun x hx => ?_, ⟨[d], rfl⟩, fun _ _ _ hp => hp⟩))
        rw [List.length_append, List.length_singleton, Nat.add_sub_cancel, List.getElem?_append_right (Nat.le_refl _), Nat.sub_self] at hx
        simp only [List.getElem?_cons_zero, Option.some.injEq] at hx
        rw [← hx]
        exact g1
  · unfold r22_Chain_Pin
    rcases inv_pin hi a.Who with ⟨hw, e⟩ | ⟨hw, ⟨i, hp⟩, e⟩ | ⟨hw, hp, h', e, hi'⟩
    · rw [e, rng hw]
      exact yaj (yaj (yc ⟨rfl, A, N, D, hi, rfl, by omega, stay, ⟨[], by simp⟩, fun _ _ _ hp => hp⟩))
    · rw [e, rng' hw]
      simp only [cond_false, pin_idx hp, obs]
      rw [show decide ((i : Int) ≥ 0) = true by simp]
      exact yaj (yc ⟨rfl, A, N, D, hi, rfl, by omega, stay, ⟨[], by simp⟩, fun _ _ _ hp => hp⟩)
    · have ew : w64 ((A.length : Int) - 1) = ((A.length - 1 : Nat) : Int) := by rw [w64_id om om]; omega
      rw [e, rng' hw]
      simp only [cond_false, nget_idx hi hw hp, obs]
      rw [show decide ((-1 : Int) ≥ 0) = false by simp, ew, rnow_val hpos om hl]
      refine yaj (yc ⟨?_, A, _, D, hi', rfl, by omega, stay, ⟨[], by simp⟩, fun w i _ hq => ?_⟩)
      · simp only [hn, beq_self_eq_true, Bool.and_self]
      · rw [pinned_set om (by rw [hi.n9]; omega)]
        by_cases ew : w = a.Who
        · rw [ew, hp] at hq; cases hq
        · rw [if_neg ew]; exact hq
  · unfold r22_Chain_Unpin
    rcases inv_unpin hi a.Who with ⟨hw, e⟩ | ⟨hw, hp, e⟩ | ⟨hw, ⟨i, hp⟩, h', e, hi'⟩
    · rw [e, rng hw]
      exact yaj (yaj (yc ⟨rfl, A, N, D, hi, rfl, by omega, stay, ⟨[], by simp⟩, fun _ _ _ hp => hp⟩))
    · rw [e, rng' hw]
      simp only [cond_false, nget_idx hi hw hp, obs]
      rw [show decide ((-1 : Int) < 0) = true by simp]
      exact yaj (yc ⟨rfl, A, N, D, hi, rfl, by omega, stay, ⟨[], by simp⟩, fun _ _ _ hp => hp⟩)
    · rw [e, rng' hw]
      simp only [cond_false, pin_idx hp, obs]
      rw [show decide ((i : Int) < 0) = false by simp]
      refine yaj (yc ⟨rfl, A, _, D, hi', rfl, by omega, stay, ⟨[], by simp⟩, fun w j hne hq => ?_⟩)
      rw [pinned_clr om (by rw [hi.n9]; omega), if_neg fun e => hne (by simpa using h2) e.symm]
      exact hq
  · rcases inv_hear hi a.Who with ⟨hw, e⟩ | ⟨hw, l, h', e, g1, g2, g3, hi'⟩
    · rw [e]
      unfold r22_Chain_Hear
      rw [rng hw]
      refine yaj (yaj ?_)
      dsimp only
      rw [texts]
      exact yaj (yc ⟨rfl, A, N, D, hi, rfl, by omega, stay, ⟨[], by simp⟩, fun _ _ _ hp => hp⟩)
    · obtain ⟨l', e', q1, q2⟩ := rhear_val (N := N) hw.1 hw.2 hi.d9 hi.db hi.len (fun x hx => (hi.ok x hx).1)
      have : l = l' := asc_eq g1 q1 fun n => by rw [g3, q2]
      subst this
      rw [e, e']
      refine yaj (yaj ?_)
      dsimp only
      rw [texts]
      exact yaj (yc ⟨rfl, A, N, _, hi', rfl, by omega, stay, ⟨[], by simp⟩, fun _ _ _ hp => hp⟩)
end
theorem few22_rb {b : Prop} (l : List law22_Act) : RB b (law22_few l) (fun r => r = true → l.length ≤ 40 ∧ ∀ a ∈ l, SF a.A.S ∧ a.A.By.size ≤ 100) := by
  unfold law22_few
  refine yd (forN_ret (fun j _ => j ≤ 40 ∧ ∀ a ∈ l.take j, SF a.A.S ∧ a.A.By.size ≤ 100) (Q := fun r => r = false) (by simp) ?_) ?_
  · rintro j _ hj ⟨g0, g⟩
    refine yd (R := fun (q : Bool) => q = false → j < 40 ∧ ∀ x, l[j]? = some x → SF x.A.S ∧ x.A.By.size ≤ 100) (yi (fun _ => yc fun h => by cases h) fun hc => yah hj fun x hx _ => yd (afew_rb _) fun r hr => yc fun hq => ⟨?_, fun y hy => ?_⟩) fun q hq => yi (fun hc => yc rfl) fun hc => yc ⟨by have := (hq hc).1; omega, fun y hy => ?_⟩
    · simp only [decide_eq_false_iff_not] at hc
      omega
    · rw [hx] at hy
      injection hy with hy
      subst hy
      exact (hr (by simpa using hq)).2 x.A (by simp)
    · have hx : l[j]? = some l[j] := gE hj
      rw [take_snoc hx, List.mem_append, List.mem_singleton] at hy
      rcases hy with hy | rfl
      · exact g y hy
      · exact (hq hc).2 _ hx
  · rintro (_ | r) g
    · refine yc fun _ => ?_
      have g : l.length ≤ 40 ∧ ∀ a ∈ l.take l.length, SF a.A.S ∧ a.A.By.size ≤ 100 := g
      rw [List.take_length] at g
      exact g
    · refine yc fun h => ?_
      have g : r = false := g
      rw [g] at h
      cases h
def wc (n : Int) (ts : List qT) : qC := { z_qC with Version := n, Tables := ts }
def wt : qT := { z_qT with Name := (⟨#[116]⟩ : By8) }
theorem wCI (n : Int) {ts : List qT} (h : ts = [] ∨ ts = [wt]) : CI 60 (wc n ts) := by
  refine ⟨⟨?_, fun t ht => ?_, by show 0 ≤ 60; omega⟩, by show 0 ≤ 8; omega, fun x hx => by cases hx⟩
  · rcases h with rfl | rfl
    · show 0 ≤ 60; omega
    · show 1 ≤ 60; omega
  · rcases h with rfl | rfl
    · cases ht
    · have : t = wt := by simpa [wc] using ht
      subst this
      exact ⟨⟨by show 0 ≤ 60; omega, by show 0 ≤ 60; omega, by show 0 ≤ 60; omega, by show 1 ≤ 100; omega, by show 0 ≤ 100; omega, (fun x hx => by cases hx), (fun x hx => by cases hx), (fun x hx => by cases hx)⟩, fun x hx => by cases hx⟩
theorem wCh {n m : Int} {x : By8} : Ch (wc n []) (wc m [wt]) x ↔ x = ⟨#[116]⟩ := by
  unfold Ch
  constructor
  · rintro (⟨t, h, _⟩ | ⟨t, h, h2, _⟩ | ⟨_, h⟩)
    · cases h
    · have : t = wt := by simpa [wc] using h
      rw [← h2, this]
      rfl
    · exact absurd ⟨rfl, rfl⟩ h
  · rintro rfl
    exact .inr (.inl ⟨wt, by simp [wc], rfl, by kernel_rfl⟩)
theorem wCh2 {n m : Int} {x : By8} : Ch (wc n [wt]) (wc m []) x ↔ x = ⟨#[116]⟩ := ⟨fun h => wCh.1 h.symm, fun h => (wCh.2 h).symm⟩
theorem works22 : law22_works = some true := by
  have h0 := inv_new (c := wc 3 []) (wCI 3 (.inl rfl)) ⟨by show (0 : Int) ≤ 3; omega, by show (3 : Int) ≤ 1000; omega⟩
  rcases inv_pin h0 1 with ⟨hw, _⟩ | ⟨_, ⟨i, hp⟩, _⟩ | ⟨_, hp, h1, e1, i1⟩
  · exact absurd ⟨by omega, by omega⟩ hw
  · have : pinned (List.replicate 9 (-1)) 1 = none := rfl
    rw [this] at hp; cases hp
  rcases inv_pub i1 (c := wc 4 [wt]) (wCI 4 (.inr rfl)) ⟨by show (0 : Int) ≤ 4; omega, by show (4 : Int) ≤ 1000; omega⟩ (by simp) with ⟨hv, _⟩ | ⟨_, h2, e2, i2⟩
  · have := i1.now (wc 3 []) rfl
    rw [this] at hv
    exact absurd hv (by show ¬ (4 : Int) ≤ 3; omega)
  rcases inv_pub i2 (c := wc 5 []) (wCI 5 (.inl rfl)) ⟨by show (0 : Int) ≤ 5; omega, by show (5 : Int) ≤ 1000; omega⟩ (by simp) with ⟨hv, _⟩ | ⟨_, h3, e3, i3⟩
  · have := i2.now (wc 4 [wt]) rfl
    rw [this] at hv
    exact absurd hv (by show ¬ (5 : Int) ≤ 4; omega)
  have e4 := inv_live i3
  rw [show liveL ([wc 3 []] ++ [wc 4 [wt]] ++ [wc 5 []]) ((List.replicate 9 (-1)).set (Int.toNat 1) (([wc 3 []].length - 1 : Nat) : Int)) = [3, 5] by kernel_rfl] at e4
  rcases inv_hear i3 2 with ⟨hw, _⟩ | ⟨_, l, h4, e5, g1, g2, g3, _⟩
  · exact absurd ⟨by omega, by omega⟩ hw
  have hl : l = [⟨#[116]⟩] := by
    refine asc_eq g1 (List.pairwise_singleton _ _) fun n => ?_
    rw [g3, List.mem_singleton]
    constructor
    · rintro ⟨d, j, a, b, _, _, ha, hb, hc⟩
      have hj : j = 0 ∨ j = 1 := by have := (List.getElem?_eq_some_iff.1 hb).1; simp at this; omega
      rcases hj with rfl | rfl
      · simp at ha hb
        subst ha hb
        exact wCh.1 hc
      · simp at ha hb
        subst ha hb
        exact wCh2.1 hc
    · rintro rfl
      exact ⟨0, 0, wc 3 [], wc 4 [wt], rfl, Nat.le_refl _, rfl, rfl, wCh.2 rfl⟩
  subst hl
  unfold law22_works
  rw [show chain_New { z_qC with Version := 3 } = some ⟨[((wc 3 []).Version, ⟨wc 3 [], 0⟩)], (wc 3 []).Version, [], []⟩ from rfl]
  simp only [obs, e1]
  rw [show ({ z_qC with Version := 4, Tables := ([{ z_qT with Name := (⟨#[116]⟩ : By8) }] : List qT) } : qC) = wc 4 [wt] from rfl, e2]
  simp only [obs]
  rw [show ({ z_qC with Version := 5 } : qC) = wc 5 [] from rfl, e3]
  simp only [obs, e4, e5]
  show (_ : Option Bool) = some true
  kernel_rfl
end Go.Proofs.YtpgmbifboopfmaaGreat
