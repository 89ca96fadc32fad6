/- Plain laws: what the plain functions answer. Conditions: none. -/
import Derived.Test.YtdmapcjbbbifbaaGreatF5
set_option maxRecDepth 100000
namespace Go.Proofs.YtdmapcjbbbifbaaGreat
open Go.Gv
def wf_qColumn (x : qColumn) : Prop := (fun s => s.size ≤ maxLen) x.Name ∧ (fun n => IntKind.min .i64 ≤ n ∧ n ≤ IntKind.max .i64) x.Type_ ∧ (fun _ => True) x.NotNull
theorem opens_qColumn : Opens P 73 R_qColumn wf_qColumn := by
  intro H enc w fuel cs x h
  obtain ⟨x0, h0, w0⟩ := opens_field (by kernel_rfl) h 0 (ft := 9) (off := 0) (sz := 1) (by kernel_rfl) (opens_str (by kernel_rfl))
  have e0 := h0
  obtain ⟨x1, h1, w1⟩ := opens_field (by kernel_rfl) h 1 (ft := 3) (off := 1) (sz := 1) (by kernel_rfl) (opens_int (by kernel_rfl))
  have e1 := h1
  obtain ⟨x2, h2, w2⟩ := opens_field (by kernel_rfl) h 2 (ft := 4) (off := 2) (sz := 1) (by kernel_rfl) (opens_bool (by kernel_rfl))
  have e2 := h2
  exact ⟨⟨x0, x1, x2⟩, (cut e0 (cut e1 (cut e2 (opens_len (by kernel_rfl) h (n := 3) (by kernel_rfl))))), ⟨w0, w1, w2⟩⟩
def wf_qValue (x : qValue) : Prop := (fun n => IntKind.min .i64 ≤ n ∧ n ≤ IntKind.max .i64) x.Kind ∧ (fun n => IntKind.min .i64 ≤ n ∧ n ≤ IntKind.max .i64) x.N ∧ (fun s => s.size ≤ maxLen) x.S
theorem opens_qValue : Opens P 36 R_qValue wf_qValue := by
  intro H enc w fuel cs x h
  obtain ⟨x0, h0, w0⟩ := opens_field (by kernel_rfl) h 0 (ft := 3) (off := 0) (sz := 1) (by kernel_rfl) (opens_int (by kernel_rfl))
  have e0 := h0
  obtain ⟨x1, h1, w1⟩ := opens_field (by kernel_rfl) h 1 (ft := 3) (off := 1) (sz := 1) (by kernel_rfl) (opens_int (by kernel_rfl))
  have e1 := h1
  obtain ⟨x2, h2, w2⟩ := opens_field (by kernel_rfl) h 2 (ft := 9) (off := 2) (sz := 1) (by kernel_rfl) (opens_str (by kernel_rfl))
  have e2 := h2
  exact ⟨⟨x0, x1, x2⟩, (cut e0 (cut e1 (cut e2 (opens_len (by kernel_rfl) h (n := 3) (by kernel_rfl))))), ⟨w0, w1, w2⟩⟩
def wf_qExpr (_ : qExpr) : Prop := True
theorem opensF_qExpr : ∀ N : Nat, OpensF P 39 Q_qExpr wf_qExpr N
 | 0 => OpensF.zero
 | N + 1 => by
  have ih := opensF_qExpr N
  intro H enc w fuel cs x hN h
  obtain ⟨x0, h0, w0⟩ := opensF_field (by kernel_rfl) hN h 0 (ft := 3) (off := 0) (sz := 1) (by kernel_rfl) (Opens.atF (opens_int (by kernel_rfl)) N)
  have e0 := h0
  obtain ⟨x1, h1, w1⟩ := opensF_field (by kernel_rfl) hN h 1 (ft := 3) (off := 1) (sz := 1) (by kernel_rfl) (Opens.atF (opens_int (by kernel_rfl)) N)
  have e1 := h1
  obtain ⟨x2, h2, w2⟩ := opensF_field (by kernel_rfl) hN h 2 (ft := 36) (off := 2) (sz := 3) (by kernel_rfl) (Opens.atF opens_qValue N)
  have e2 := h2
  obtain ⟨x3, h3, w3⟩ := opensF_field (by kernel_rfl) hN h 3 (ft := 9) (off := 5) (sz := 1) (by kernel_rfl) (Opens.atF (opens_str (by kernel_rfl)) N)
  have e3 := h3
  obtain ⟨x4, h4, w4⟩ := opensF_field (by kernel_rfl) hN h 4 (ft := 37) (off := 6) (sz := 1) (by kernel_rfl) (opensF_slice (e := 39) (by kernel_rfl) (by kernel_rfl) (by kernel_rfl) ih)
  obtain ⟨a4, c4, e4, f4⟩ := h4
  exact ⟨⟨x0, x1, x2, x3, x4⟩, Q_qExpr_iff.2 ⟨⟨⟨a4, c4⟩⟩, (cut e0 (cut e1 (cut e2 (cut e3 (cut e4 (opens_len (by kernel_rfl) h (n := 7) (by kernel_rfl))))))), ⟨f4⟩⟩, trivial⟩
theorem opensQ_qExpr : Opens P 39 Q_qExpr wf_qExpr := OpensF.all opensF_qExpr
theorem opens_qExpr : Opens P 39 R_qExpr wf_qExpr := fun H enc w fuel cs x h => let ⟨a, h1, h2⟩ := opensQ_qExpr H enc w fuel cs x h; ⟨a, Q_qExpr_iff.1 h1, h2⟩
def wf_qCons (x : qCons) : Prop := (fun s => s.size ≤ maxLen) x.Name ∧ (fun n => IntKind.min .i64 ≤ n ∧ n ≤ IntKind.max .i64) x.Kind ∧ (fun xs => xs.length ≤ maxLen ∧ ∀ x ∈ xs, (fun s => s.size ≤ maxLen) x) x.Cols ∧ wf_qExpr x.Check ∧ (fun s => s.size ≤ maxLen) x.Table ∧ (fun xs => xs.length ≤ maxLen ∧ ∀ x ∈ xs, (fun s => s.size ≤ maxLen) x) x.Refs
theorem opens_qCons : Opens P 100 R_qCons wf_qCons := by
  intro H enc w fuel cs x h
  obtain ⟨x0, h0, w0⟩ := opens_field (by kernel_rfl) h 0 (ft := 9) (off := 0) (sz := 1) (by kernel_rfl) (opens_str (by kernel_rfl))
  have e0 := h0
  obtain ⟨x1, h1, w1⟩ := opens_field (by kernel_rfl) h 1 (ft := 3) (off := 1) (sz := 1) (by kernel_rfl) (opens_int (by kernel_rfl))
  have e1 := h1
  obtain ⟨x2, h2, w2⟩ := opens_field (by kernel_rfl) h 2 (ft := 33) (off := 2) (sz := 1) (by kernel_rfl) (opens_slice (e := 9) (by kernel_rfl) (by kernel_rfl) (by kernel_rfl) (opens_str (by kernel_rfl)))
  obtain ⟨a2, c2, e2, f2⟩ := h2
  obtain ⟨x3, h3, w3⟩ := opens_field (by kernel_rfl) h 3 (ft := 39) (off := 3) (sz := 7) (by kernel_rfl) opens_qExpr
  obtain ⟨v3, e3, f3⟩ := h3
  obtain ⟨x4, h4, w4⟩ := opens_field (by kernel_rfl) h 4 (ft := 9) (off := 10) (sz := 1) (by kernel_rfl) (opens_str (by kernel_rfl))
  have e4 := h4
  obtain ⟨x5, h5, w5⟩ := opens_field (by kernel_rfl) h 5 (ft := 33) (off := 11) (sz := 1) (by kernel_rfl) (opens_slice (e := 9) (by kernel_rfl) (by kernel_rfl) (by kernel_rfl) (opens_str (by kernel_rfl)))
  obtain ⟨a5, c5, e5, f5⟩ := h5
  exact ⟨⟨x0, x1, x2, x3, x4, x5⟩, ⟨⟨⟨a2, c2⟩, v3, ⟨a5, c5⟩⟩, (cut e0 (cut e1 (cut e2 (cut e3 (cut e4 (cut e5 (opens_len (by kernel_rfl) h (n := 12) (by kernel_rfl)))))))), ⟨f2, f3, f5⟩⟩, ⟨w0, w1, w2, w3, w4, w5⟩⟩
def wf_qSet (x : qSet) : Prop := (fun s => s.size ≤ maxLen) x.Name ∧ wf_qExpr x.E
theorem opens_qSet : Opens P 102 R_qSet wf_qSet := by
  intro H enc w fuel cs x h
  obtain ⟨x0, h0, w0⟩ := opens_field (by kernel_rfl) h 0 (ft := 9) (off := 0) (sz := 1) (by kernel_rfl) (opens_str (by kernel_rfl))
  have e0 := h0
  obtain ⟨x1, h1, w1⟩ := opens_field (by kernel_rfl) h 1 (ft := 39) (off := 1) (sz := 7) (by kernel_rfl) opens_qExpr
  obtain ⟨v1, e1, f1⟩ := h1
  exact ⟨⟨x0, x1⟩, ⟨⟨v1⟩, (cut e0 (cut e1 (opens_len (by kernel_rfl) h (n := 8) (by kernel_rfl)))), ⟨f1⟩⟩, ⟨w0, w1⟩⟩
def wf_qOrder (x : qOrder) : Prop := wf_qExpr x.E ∧ (fun _ => True) x.Desc
theorem opens_qOrder : Opens P 104 R_qOrder wf_qOrder := by
  intro H enc w fuel cs x h
  obtain ⟨x0, h0, w0⟩ := opens_field (by kernel_rfl) h 0 (ft := 39) (off := 0) (sz := 7) (by kernel_rfl) opens_qExpr
  obtain ⟨v0, e0, f0⟩ := h0
  obtain ⟨x1, h1, w1⟩ := opens_field (by kernel_rfl) h 1 (ft := 4) (off := 7) (sz := 1) (by kernel_rfl) (opens_bool (by kernel_rfl))
  have e1 := h1
  exact ⟨⟨x0, x1⟩, ⟨⟨v0⟩, (cut e0 (cut e1 (opens_len (by kernel_rfl) h (n := 8) (by kernel_rfl)))), ⟨f0⟩⟩, ⟨w0, w1⟩⟩
def wf_qStmt (_ : qStmt) : Prop := True
theorem opensF_qStmt : ∀ N : Nat, OpensF P 44 Q_qStmt wf_qStmt N
 | 0 => OpensF.zero
 | N + 1 => by
  have ih := opensF_qStmt N
  intro H enc w fuel cs x hN h
  obtain ⟨x0, h0, w0⟩ := opensF_field (by kernel_rfl) hN h 0 (ft := 3) (off := 0) (sz := 1) (by kernel_rfl) (Opens.atF (opens_int (by kernel_rfl)) N)
  have e0 := h0
  obtain ⟨x1, h1, w1⟩ := opensF_field (by kernel_rfl) hN h 1 (ft := 9) (off := 1) (sz := 1) (by kernel_rfl) (Opens.atF (opens_str (by kernel_rfl)) N)
  have e1 := h1
  obtain ⟨x2, h2, w2⟩ := opensF_field (by kernel_rfl) hN h 2 (ft := 9) (off := 2) (sz := 1) (by kernel_rfl) (Opens.atF (opens_str (by kernel_rfl)) N)
  have e2 := h2
  obtain ⟨x3, h3, w3⟩ := opensF_field (by kernel_rfl) hN h 3 (ft := 9) (off := 3) (sz := 1) (by kernel_rfl) (Opens.atF (opens_str (by kernel_rfl)) N)
  have e3 := h3
  obtain ⟨x4, h4, w4⟩ := opensF_field (by kernel_rfl) hN h 4 (ft := 31) (off := 4) (sz := 1) (by kernel_rfl) (Opens.atF (opens_slice (e := 73) (by kernel_rfl) (by kernel_rfl) (by kernel_rfl) opens_qColumn) N)
  obtain ⟨a4, c4, e4, f4⟩ := h4
  obtain ⟨x5, h5, w5⟩ := opensF_field (by kernel_rfl) hN h 5 (ft := 32) (off := 5) (sz := 1) (by kernel_rfl) (Opens.atF (opens_slice (e := 100) (by kernel_rfl) (by kernel_rfl) (by kernel_rfl) opens_qCons) N)
  obtain ⟨a5, c5, e5, f5⟩ := h5
  obtain ⟨x6, h6, w6⟩ := opensF_field (by kernel_rfl) hN h 6 (ft := 33) (off := 6) (sz := 1) (by kernel_rfl) (Opens.atF (opens_slice (e := 9) (by kernel_rfl) (by kernel_rfl) (by kernel_rfl) (opens_str (by kernel_rfl))) N)
  obtain ⟨a6, c6, e6, f6⟩ := h6
  obtain ⟨x7, h7, w7⟩ := opensF_field (by kernel_rfl) hN h 7 (ft := 34) (off := 7) (sz := 1) (by kernel_rfl) (Opens.atF (opens_slice (e := 37) (by kernel_rfl) (by kernel_rfl) (by kernel_rfl) (opens_slice (e := 39) (by kernel_rfl) (by kernel_rfl) (by kernel_rfl) opensQ_qExpr)) N)
  obtain ⟨a7, c7, e7, f7⟩ := h7
  obtain ⟨x8, h8, w8⟩ := opensF_field (by kernel_rfl) hN h 8 (ft := 39) (off := 8) (sz := 7) (by kernel_rfl) (Opens.atF opens_qExpr N)
  obtain ⟨v8, e8, f8⟩ := h8
  obtain ⟨x9, h9, w9⟩ := opensF_field (by kernel_rfl) hN h 9 (ft := 40) (off := 15) (sz := 1) (by kernel_rfl) (Opens.atF (opens_slice (e := 102) (by kernel_rfl) (by kernel_rfl) (by kernel_rfl) opens_qSet) N)
  obtain ⟨a9, c9, e9, f9⟩ := h9
  obtain ⟨x10, h10, w10⟩ := opensF_field (by kernel_rfl) hN h 10 (ft := 41) (off := 16) (sz := 1) (by kernel_rfl) (Opens.atF (opens_slice (e := 104) (by kernel_rfl) (by kernel_rfl) (by kernel_rfl) opens_qOrder) N)
  obtain ⟨a10, c10, e10, f10⟩ := h10
  obtain ⟨x11, h11, w11⟩ := opensF_field (by kernel_rfl) hN h 11 (ft := 3) (off := 17) (sz := 1) (by kernel_rfl) (Opens.atF (opens_int (by kernel_rfl)) N)
  have e11 := h11
  obtain ⟨x12, h12, w12⟩ := opensF_field (by kernel_rfl) hN h 12 (ft := 3) (off := 18) (sz := 1) (by kernel_rfl) (Opens.atF (opens_int (by kernel_rfl)) N)
  have e12 := h12
  obtain ⟨x13, h13, w13⟩ := opensF_field (by kernel_rfl) hN h 13 (ft := 4) (off := 19) (sz := 1) (by kernel_rfl) (Opens.atF (opens_bool (by kernel_rfl)) N)
  have e13 := h13
  obtain ⟨x14, h14, w14⟩ := opensF_field (by kernel_rfl) hN h 14 (ft := 42) (off := 20) (sz := 1) (by kernel_rfl) (opensF_slice (e := 44) (by kernel_rfl) (by kernel_rfl) (by kernel_rfl) ih)
  obtain ⟨a14, c14, e14, f14⟩ := h14
  exact ⟨⟨x0, x1, x2, x3, x4, x5, x6, x7, x8, x9, x10, x11, x12, x13, x14⟩, Q_qStmt_iff.2 ⟨⟨⟨a4, c4⟩, ⟨a5, c5⟩, ⟨a6, c6⟩, ⟨a7, c7⟩, v8, ⟨a9, c9⟩, ⟨a10, c10⟩, ⟨a14, c14⟩⟩, (cut e0 (cut e1 (cut e2 (cut e3 (cut e4 (cut e5 (cut e6 (cut e7 (cut e8 (cut e9 (cut e10 (cut e11 (cut e12 (cut e13 (cut e14 (opens_len (by kernel_rfl) h (n := 21) (by kernel_rfl))))))))))))))))), ⟨f4, f5, f6, f7, f8, f9, f10, f14⟩⟩, trivial⟩
theorem opensQ_qStmt : Opens P 44 Q_qStmt wf_qStmt := OpensF.all opensF_qStmt
theorem opens_qStmt : Opens P 44 R_qStmt wf_qStmt := fun H enc w fuel cs x h => let ⟨a, h1, h2⟩ := opensQ_qStmt H enc w fuel cs x h; ⟨a, Q_qStmt_iff.1 h1, h2⟩
def wf_law19_Act (x : law19_Act) : Prop := wf_qStmt x.S ∧ (fun s => s.size ≤ maxLen) x.By
theorem opens_law19_Act : Opens P 46 R_law19_Act wf_law19_Act := by
  intro H enc w fuel cs x h
  obtain ⟨x0, h0, w0⟩ := opens_field (by kernel_rfl) h 0 (ft := 44) (off := 0) (sz := 21) (by kernel_rfl) opens_qStmt
  obtain ⟨v0, e0, f0⟩ := h0
  obtain ⟨x1, h1, w1⟩ := opens_field (by kernel_rfl) h 1 (ft := 9) (off := 21) (sz := 1) (by kernel_rfl) (opens_str (by kernel_rfl))
  have e1 := h1
  exact ⟨⟨x0, x1⟩, ⟨⟨v0⟩, (cut e0 (cut e1 (opens_len (by kernel_rfl) h (n := 22) (by kernel_rfl)))), ⟨f0⟩⟩, ⟨w0, w1⟩⟩
end Go.Proofs.YtdmapcjbbbifbaaGreat
namespace Go.Proofs.YtdmapcjbbbifbaaGreat
open Go.Gv
abbrev Role := qRole
theorem keq : KEq sEq := fun a b => by
  rw [sEq_data]
  constructor
  · intro h
    have h := eq_of_beq h
    cases a; cases b
    simp only at h
    congr
    exact Array.toList_inj.1 h
  · rintro rfl
    simp
theorem at_eq (l : List Role) (n : ByteArray) : member_at l n = some (match l.findIdx? (fun x => sEq x.Name n) with | some j => (j : Int) | none => -1) := by
  unfold member_at slices_IndexFunc_qRole
  rw [forN_find (fun x : Role => sEq x.Name n) (fun j => (j : Int))]
  · cases l.findIdx? (fun x => sEq x.Name n) <;> rfl
  · intro j x hx
    simp only [idx_nat, hx, Option.bind_some]
    unfold member_at_1
    simp only [Option.bind_some]
    cases sEq x.Name n <;> rfl
theorem at_spec (l : List Role) (n : ByteArray) : ((∀ y ∈ l, y.Name ≠ n) ∧ member_at l n = some (-1)) ∨ ∃ A x B, l = A ++ x :: B ∧ x.Name = n ∧ (∀ y ∈ A, y.Name ≠ n) ∧ member_at l n = some (A.length : Int) := by
  rw [at_eq]
  rcases find_cases (fun x : Role => sEq x.Name n) l with ⟨h, e⟩ | ⟨A, x, B, h1, h2, h3, h4⟩
  · left
    refine ⟨fun y hy e1 => ?_, by rw [e]⟩
    have := h y hy
    rw [(keq _ _).2 e1] at this
    cases this
  · right
    refine ⟨A, x, B, h1, (keq _ _).1 h2, fun y hy e1 => ?_, by rw [h4]⟩
    have := h3 y hy
    rw [(keq _ _).2 e1] at this
    cases this
def ins (l : List Role) (n : ByteArray) : List ByteArray := ((l.find? fun x => sEq x.Name n).map (·.In)).getD []
def has (l : List Role) (n : ByteArray) : Prop := ∃ x ∈ l, x.Name = n
theorem at_has (l : List Role) (n : ByteArray) : ∃ i, member_at l n = some i ∧ (0 ≤ i ↔ has l n) := by
  rcases at_spec l n with ⟨h, e⟩ | ⟨A, x, B, h1, h2, h3, h4⟩
  · exact ⟨_, e, ⟨fun hi => by omega, fun ⟨x, hx, hn⟩ => absurd hn (h x hx)⟩⟩
  · exact ⟨_, h4, ⟨fun _ => ⟨x, by rw [h1]; simp, h2⟩, fun _ => by omega⟩⟩
theorem find_eq (l : List Role) (n : ByteArray) (hs : ∀ x ∈ l, x.In.length ≤ 1000) : ∃ r b, member_Find l n = some (r, b) ∧ r.In = ins l n ∧ (b = true ↔ has l n) ∧ (b = true → r.Name = n) := by
  unfold member_Find
  rcases at_spec l n with ⟨h, e⟩ | ⟨A, x, B, h1, h2, h3, h4⟩
  · rw [e]
    refine ⟨z_qRole, false, rfl, ?_, ?_, by simp⟩
    · unfold ins
      rw [List.find?_eq_none.2]
      · rfl
      · intro y hy hn
        exact h y hy ((keq _ _).1 hn)
    · constructor
      · intro hb; cases hb
      · rintro ⟨x, hx, hn⟩; exact absurd hn (h x hx)
  · rw [h4]
    simp only [Option.bind_some]
    rw [show decide ((A.length : Int) < 0) = false by simp]
    have hx : idx l (A.length : Int) = some x := by
      rw [h1, idx_nat, List.getElem?_append_right (Nat.le_refl _), Nat.sub_self]
      rfl
    simp only [cond_false]
    rw [hx]
    simp only [Option.bind_some]
    have hxl : x ∈ l := by rw [h1]; simp
    have hc : slices_Clone_string x.In = some x.In := by
      unfold slices_Clone_string
      have := hs x hxl
      rw [app_le (by simp; omega)]
      rfl
    rw [hc]
    refine ⟨{ x with In := x.In }, true, rfl, ?_, ⟨fun _ => ⟨x, hxl, h2⟩, fun _ => rfl⟩, fun _ => h2⟩
    unfold ins
    rw [h1, List.find?_append, List.find?_eq_none.2]
    · simp [(keq _ _).2 h2]
    · intro y hy hn
      exact h3 y hy ((keq _ _).1 hn)
inductive Rch (l : List Role) (n : ByteArray) : ByteArray → Prop
  | self : Rch l n n
  | step {a b : ByteArray} : Rch l n a → b ∈ ins l a → has l b → Rch l n b
end Go.Proofs.YtdmapcjbbbifbaaGreat
namespace Go.Proofs.YtdmapcjbbbifbaaGreat
open Go.Gv
structure Up (l : List Role) (n : ByteArray) (g : Bool) (all : List (ByteArray × Bool)) : Prop where
  nd : (all.map (·.1)).Nodup
  self : n ∈ all.map (·.1)
  so : ∀ k ∈ all.map (·.1), Rch l n k ∧ has l k
  tr : ∀ k, (mget sEq all k).getD false = true ↔ k ∈ all.map (·.1)
  cl : g = false → ∀ a ∈ all.map (·.1), ∀ b ∈ ins l a, has l b → b ∈ all.map (·.1)
theorem Up.len {l : List Role} {n : ByteArray} {g : Bool} {all : List (ByteArray × Bool)} (h : Up l n g all) : all.length ≤ l.length := by
  have := List.Nodup.length_le_of_subset (l₂ := l.map (·.Name)) h.nd (fun k hk => by
    obtain ⟨x, hx, e⟩ := (h.so k hk).2
    exact List.mem_map.2 ⟨x, hx, e⟩)
  simpa using this
theorem tr_set {all : List (ByteArray × Bool)} (h : ∀ k, (mget sEq all k).getD false = true ↔ k ∈ all.map (·.1)) (b : ByteArray) : ∀ k, (mget sEq (mset sEq all b true) k).getD false = true ↔ k ∈ (mset sEq all b true).map (·.1) := by
  intro k
  rw [mget_mset keq, mset_mem keq]
  by_cases e : k = b
  · subst e
    rw [keq.refl]
    simp
  · rw [keq.ne e]
    simp only [cond_false]
    rw [h]
    constructor
    · exact .inr
    · rintro (h1 | h1)
      · exact absurd h1 e
      · exact h1
theorem put_all (more : List ByteArray) (all : List (ByteArray × Bool)) : forE (fun (i53 : Nat) => fun (s52 : List (ByteArray × Bool)) => (idx more (i53 : Int)).bind (fun (x61 : ByteArray) => some (mset sEq s52 x61 true))) more.length 0 all = some (more.foldl (fun s x => mset sEq s x true) all) :=
  forE_list (fun s x => mset sEq s x true) fun j x s hx => by rw [idx_nat, hx]; rfl
theorem fold_spec {more : List ByteArray} : ∀ {all : List (ByteArray × Bool)}, (all.map (·.1)).Nodup → (∀ k, (mget sEq all k).getD false = true ↔ k ∈ all.map (·.1)) →
    ((more.foldl (fun s x => mset sEq s x true) all).map (·.1)).Nodup ∧ (∀ k, (mget sEq (more.foldl (fun s x => mset sEq s x true) all) k).getD false = true ↔ k ∈ (more.foldl (fun s x => mset sEq s x true) all).map (·.1)) ∧
    ∀ k, k ∈ (more.foldl (fun s x => mset sEq s x true) all).map (·.1) ↔ k ∈ more ∨ k ∈ all.map (·.1) := by
  induction more with
  | nil => intro all h1 h2; exact ⟨h1, h2, fun k => by simp⟩
  | cons b more ih =>
    intro all h1 h2
    obtain ⟨g1, g2, g3⟩ := ih (all := mset sEq all b true) (mset_nodup keq h1 b true) (tr_set h2 b)
    refine ⟨g1, g2, fun k => ?_⟩
    rw [List.foldl_cons, g3, mset_mem keq, List.mem_cons]
    constructor
    · rintro (h | h | h)
      · exact .inl (.inr h)
      · exact .inl (.inl h)
      · exact .inr h
    · rintro ((h | h) | h)
      · exact .inr (.inl h)
      · exact .inl h
      · exact .inr (.inr h)
end Go.Proofs.YtdmapcjbbbifbaaGreat
namespace Go.Proofs.YtdmapcjbbbifbaaGreat
open Go.Gv
theorem ex_inl {α τ : Type} {m : Option (α ⊕ τ)} {G : α → Prop} (h : Ret m (fun y => ∃ s', y = .inl s' ∧ G s')) : ∃ s', m = some (.inl s') ∧ G s' := by
  obtain ⟨y, e, s', rfl, hg⟩ := h.ex
  exact ⟨s', e, hg⟩
theorem more_all {l : List Role} {n : ByteArray} {g : Bool} {all : List (ByteArray × Bool)} (h : Up l n g all) (hl : l.length ≤ 100) (hi : ∀ x ∈ l, x.In.length ≤ 100) (Q : (List ByteArray) ⊕ Unit → Prop)
    (hq : ∀ more : List ByteArray, (∀ b ∈ more, b ∉ all.map (·.1) ∧ ∃ a ∈ all.map (·.1), b ∈ ins l a ∧ has l b) → (∀ a ∈ all.map (·.1), ∀ b ∈ ins l a, has l b → b ∈ all.map (·.1) ∨ b ∈ more) → Q (.inl more)) :
    rangeM (τ := Unit) (fun (k71 : ByteArray) (x72 : Bool) => fun (s33 : List ByteArray) => (member_Find l k71).bind (fun ((r91, r92) : qRole × Bool) => (forE (fun (i103 : Nat) => fun (s102 : List ByteArray) => (idx r91.In (i103 : Int)).bind (fun (x114 : ByteArray) => (some ((mget sEq all x114).getD false)).bind (fun (x115 : Bool) => ((bif (!x115) then (member_at l x114).bind (fun (r125 : Int) => some (decide (r125 ≥ 0))) else some false)).bind (fun (j116 : Bool) => ((bif j116 then (app 16 s102 ([x114] : List ByteArray)).bind (fun (x140 : List ByteArray) => some x140) else some s102)).bind (fun (j128 : List ByteArray) => some j128))))) r91.In.length 0 s33).bind (fun (s102 : (List ByteArray)) => some (.inl s102)))) all ([] : List ByteArray) Q := by
  have hins : ∀ a, (ins l a).length ≤ 100 := by
    intro a
    unfold ins
    cases hf : l.find? (fun x => sEq x.Name a) with
    | none => simp
    | some x => simpa using hi x (List.mem_of_find?_eq_some hf)
  have hal := h.len
  refine rangeM_inv (fun vis s => s.length ≤ vis.length * 100 ∧ (∀ b ∈ s, b ∉ all.map (·.1) ∧ ∃ a ∈ all.map (·.1), b ∈ ins l a ∧ has l b) ∧ ∀ a ∈ vis.map (·.1), ∀ b ∈ ins l a, has l b → b ∈ all.map (·.1) ∨ b ∈ s) ⟨by simp, by simp, by simp⟩ ?_ ?_
  · rintro vis k x rem s hp ⟨h1, h2, h3⟩
    have hk : k ∈ all.map (·.1) := List.mem_map.2 ⟨(k, x), hp.mem_iff.1 (by simp), rfl⟩
    have hvl : vis.length ≤ 100 := by have := hp.length_eq; simp at this; omega
    obtain ⟨r, b, e, hr, _, _⟩ := find_eq l k (fun x hx => by have := hi x hx; omega)
    rw [e]
    simp only [Option.bind_some]
    have hrl : r.In.length ≤ 100 := by rw [hr]; exact hins k
    refine ex_inl (RB.bind (R := fun (s' : List ByteArray) => s'.length ≤ s.length + r.In.length ∧ (∀ b ∈ s', b ∉ all.map (·.1) ∧ ∃ a ∈ all.map (·.1), b ∈ ins l a ∧ has l b) ∧ (∀ b ∈ s, b ∈ s') ∧ ∀ b ∈ r.In.take r.In.length, has l b → b ∈ all.map (·.1) ∨ b ∈ s') (forE_ret (fun i (s' : List ByteArray) => s'.length ≤ s.length + i ∧ (∀ b ∈ s', b ∉ all.map (·.1) ∧ ∃ a ∈ all.map (·.1), b ∈ ins l a ∧ has l b) ∧ (∀ b ∈ s, b ∈ s') ∧ ∀ b ∈ r.In.take i, has l b → b ∈ all.map (·.1) ∨ b ∈ s') ⟨by simp, h2, fun b hb => hb, by simp⟩ ?_) ?_)
    · rintro i s' hi2 ⟨g1, g2, g3, g4⟩
      have hx : r.In[i]? = some r.In[i] := List.getElem?_eq_getElem hi2
      simp only [idx_nat, hx, Option.bind_some]
      obtain ⟨p, hp1, hp2⟩ := at_has l r.In[i]
      refine RB.bind (R := fun j => j = true ↔ r.In[i] ∉ all.map (·.1) ∧ has l r.In[i]) ?_ ?_
      · cases hm : (mget sEq all r.In[i]).getD false with
        | true =>
          refine RB.ret ?_
          simp only [Bool.false_eq_true, false_iff]
          exact fun hh => hh.1 ((h.tr _).1 hm)
        | false =>
          simp only [Bool.not_false, cond_true]
          rw [hp1]
          refine RB.ret ?_
          rw [decide_eq_true_eq, ge_iff_le, hp2]
          constructor
          · intro hh
            refine ⟨fun hin => ?_, hh⟩
            rw [(h.tr _).2 hin] at hm
            cases hm
          · exact fun hh => hh.2
      rintro j hj
      cases j with
      | true =>
        simp only [cond_true]
        rw [app_le (by simp; omega)]
        have hj' := hj.1 rfl
        refine RB.ret ⟨by simp; omega, fun b hb => ?_, fun b hb => List.mem_append_left _ (g3 b hb), fun b hb hh => ?_⟩
        · rw [List.mem_append, List.mem_singleton] at hb
          rcases hb with hb | rfl
          · exact g2 b hb
          · exact ⟨hj'.1, k, hk, by rw [← hr]; exact List.getElem_mem hi2, hj'.2⟩
        · rw [take_snoc hx, List.mem_append, List.mem_singleton] at hb
          rcases hb with hb | rfl
          · rcases g4 b hb hh with q | q
            · exact .inl q
            · exact .inr (List.mem_append_left _ q)
          · exact .inr (by simp)
      | false =>
        refine RB.ret ⟨by omega, g2, g3, fun b hb hh => ?_⟩
        rw [take_snoc hx, List.mem_append, List.mem_singleton] at hb
        rcases hb with hb | rfl
        · exact g4 b hb hh
        · refine .inl (Classical.byContradiction fun hn => ?_)
          have := hj.2 ⟨hn, hh⟩
          cases this
    · rintro s' ⟨g1, g2, g3, g4⟩
      rw [List.take_length] at g4
      refine RB.ret ⟨s', rfl, by simp; omega, g2, fun a ha b hb hh => ?_⟩
      rw [List.map_append, List.mem_append] at ha
      rcases ha with ha | ha
      · rcases h3 a ha b hb hh with q | q
        · exact .inl q
        · exact .inr (g3 b q)
      · simp at ha
        subst ha
        exact g4 b (by rw [hr]; exact hb) hh
  · rintro vis s hp ⟨_, h2, h3⟩
    exact hq s h2 fun a ha => h3 a (by rw [(hp.map (·.1)).mem_iff]; exact ha)
end Go.Proofs.YtdmapcjbbbifbaaGreat
namespace Go.Proofs.YtdmapcjbbbifbaaGreat
open Go.Gv
theorem sortS_perm (xs : List ByteArray) : (sortS xs).Perm xs := by
  unfold sortS
  refine ((List.mergeSort_perm _ _).map ub).trans ?_
  rw [List.map_map]
  have : xs.map (ub ∘ bs) = xs := by
    have : ub ∘ bs = id := funext ub_bs
    rw [this, List.map_id]
  rw [this]
theorem bl_lt : ∀ (x y : List UInt8), Op.bytesLess x y = decide (x < y)
  | _, [] => by simp [Op.bytesLess]
  | [], y :: ys => by simp [Op.bytesLess]
  | x :: xs, y :: ys => by
    simp only [Op.bytesLess, bl_lt xs ys]
    rw [Bool.eq_iff_iff]
    simp only [List.cons_lt_cons_iff, decide_eq_true_eq, Bool.or_eq_true, Bool.and_eq_true, beq_iff_eq]
theorem sorted (xs : List ByteArray) : (sortS xs).Pairwise (fun a b => sLt b a = false) := by
  unfold sortS
  rw [List.pairwise_map]
  refine (List.pairwise_mergeSort ?_ ?_ _).imp ?_
  · intro a b c h1 h2
    simp only [decide_eq_true_eq] at h1 h2 ⊢
    exact List.le_trans h1 h2
  · intro a b
    simp only [Bool.or_eq_true, decide_eq_true_eq]
    exact List.le_total a b
  · intro a b h
    have h := of_decide_eq_true h
    rw [sLt_data]
    show Op.bytesLess (bs (ub b)) (bs (ub a)) = false
    rw [bs_ub, bs_ub]
    cases hb : Op.bytesLess b a with
    | false => rfl
    | true =>
      exfalso
      have : b < a := by
        have e := bl_lt b a
        rw [hb] at e
        simpa using e.symm
      exact (List.not_lt.2 h) this
theorem lt_of (a b : ByteArray) (h1 : sLt b a = false) (h2 : a ≠ b) : sLt a b = true := by
  rcases sLt_total a b with h | h | h
  · exact h
  · exact absurd h h2
  · rw [h] at h1; cases h1
theorem condM_of {α : Type} {b : Bool} {x y : M α} {Q : α → Prop} (h1 : b = true → x Q) (h2 : b = false → y Q) : (cond b x y) Q := by cases b; exact h2 rfl; exact h1 rfl
def Good (l : List Role) (n : ByteArray) (r : List ByteArray) : Prop := (has l n → r.Pairwise (fun a b => sLt a b = true) ∧ ∀ k, k ∈ r ↔ Rch l n k) ∧ (¬ has l n → r = [])
theorem all_good {l : List Role} {n : ByteArray} (hl : l.length ≤ 100) (hi : ∀ x ∈ l, x.In.length ≤ 100) (hz : ∀ x ∈ l, x.Name.size ≤ 1000) : member_AllM l n (Good l n) := by
  unfold member_AllM
  obtain ⟨i, e, hi2⟩ := at_has l n
  refine ⟨i, e, ?_⟩
  refine condM_of (fun hd => ?_) (fun hd => ?_)
  · have hn : ¬ has l n := fun hh => by have := hi2.2 hh; simp at hd; omega
    exact ⟨fun hh => absurd hh hn, fun _ => rfl⟩
  · have hn : has l n := hi2.1 (by simp at hd; omega)
    refine loopM_inv (fun s A B hAB h => ?_) (fun (s : Bool × List (ByteArray × Bool)) => Up l n s.1 s.2) (fun s => 2 * (l.length + 1 - s.2.length) + (if s.1 then 1 else 0)) ?_ ?_
    · obtain ⟨g, all⟩ := s
      exact (Mono_.cond (Mono_.bind (Mono_.range _ _ _) (fun t => by cases t with | inl s => exact @Mono_.bind _ _ (optM _) (fun _ => retM _) (Mono_.opt _) (fun _ => Mono_.ret _) | inr u => exact Mono_.no)) (Mono_.ret _)) A B hAB h
    · rintro ⟨g, all⟩ h
      simp only at h
      have hlen := h.len
      cases g with
      | true =>
        refine more_all h hl hi _ (fun more h1 h2 => ⟨_, put_all more all, ?_⟩)
        obtain ⟨g1, g2, g3⟩ := fold_spec (more := more) h.nd h.tr
        have hup : Up l n (decide ((more.length : Int) > 0)) (more.foldl (fun s x => mset sEq s x true) all) := by
          refine ⟨g1, (g3 n).2 (.inr h.self), fun k hk => ?_, g2, fun hg a ha b hb hh => ?_⟩
          · rcases (g3 k).1 hk with hk | hk
            · obtain ⟨_, a, ha, hb, hh⟩ := h1 k hk
              exact ⟨.step (h.so a ha).1 hb hh, hh⟩
            · exact h.so k hk
          · have hm : more = [] := by
              cases more with
              | nil => rfl
              | cons x r => simp at hg
            subst hm
            rcases h2 a ha b hb hh with q | q
            · exact q
            · cases q
        refine ⟨hup, ?_⟩
        have hlen2 := hup.len
        simp only [if_true]
        cases more with
        | nil => simp
        | cons x r =>
          have hx := (h1 x (by simp)).1
          have hnd : (x :: all.map (·.1)).Nodup := List.nodup_cons.2 ⟨hx, h.nd⟩
          have := List.Nodup.length_le_of_subset hnd (l₂ := ((x :: r).foldl (fun s x => mset sEq s x true) all).map (·.1)) (fun k hk => by
            rcases List.mem_cons.1 hk with rfl | hk
            · exact (g3 _).2 (.inl (by simp))
            · exact (g3 _).2 (.inr hk))
          simp only [List.length_cons, List.length_map] at this
          split <;> omega
      | false =>
        have hk : keysO all = some (sortS (all.map (·.1))) := by
          unfold keysO
          rw [if_pos ⟨h.nd, by omega, fun k hk => by obtain ⟨x, hx, rfl⟩ := (h.so k hk).2; have := hz x hx; simp only [maxLen]; omega⟩]
        refine ⟨_, hk, fun _ => ⟨?_, fun k => ?_⟩, fun hh => absurd hn hh⟩
        · have hp := sortS_perm (all.map (·.1))
          have hnd : (sortS (all.map (·.1))).Nodup := hp.nodup_iff.2 h.nd
          exact (List.Pairwise.and (sorted _) hnd).imp fun {a b} hab => lt_of a b hab.1 hab.2
        · rw [(sortS_perm _).mem_iff]
          constructor
          · exact fun hk => (h.so k hk).1
          · intro hr
            induction hr with
            | self => exact h.self
            | step _ hb hh ih => exact h.cl rfl _ ih _ hb hh
    · simp only
      refine ⟨by simp [mset_nil], by simp [mset_nil], fun k hk => ?_, tr_set (all := []) (fun k => by simp [mget_nil]) n, fun hg => by cases hg⟩
      simp [mset_nil] at hk
      subst hk
      exact ⟨.self, hn⟩
end Go.Proofs.YtdmapcjbbbifbaaGreat
namespace Go.Proofs.YtdmapcjbbbifbaaGreat
open Go.Gv
theorem strict_eq {α : Type} {lt : α → α → Prop} (hi : ∀ x, ¬ lt x x) (ha : ∀ x y, lt x y → ¬ lt y x) : ∀ (a b : List α), a.Pairwise lt → b.Pairwise lt → (∀ n, n ∈ a ↔ n ∈ b) → a = b
  | [], [], _, _, _ => rfl
  | [], y :: b, _, _, h => by have := (h y).2 (by simp); cases this
  | x :: a, [], _, _, h => by have := (h x).1 (by simp); cases this
  | x :: a, y :: b, h1, h2, h => by
    have h1' := List.pairwise_cons.1 h1
    have h2' := List.pairwise_cons.1 h2
    have e : x = y := by
      rcases List.mem_cons.1 ((h x).1 (by simp)) with e | g1
      · exact e
      · rcases List.mem_cons.1 ((h y).2 (by simp)) with e | g2
        · exact e.symm
        · exact absurd (h1'.1 y g2) (ha _ _ (h2'.1 x g1))
    subst e
    rw [strict_eq hi ha a b h1'.2 h2'.2 (fun n => ?_)]
    constructor
    · intro hn
      rcases List.mem_cons.1 ((h n).1 (by simp [hn])) with rfl | g1
      · exact absurd (h1'.1 n hn) (hi n)
      · exact g1
    · intro hn
      rcases List.mem_cons.1 ((h n).2 (by simp [hn])) with rfl | g1
      · exact absurd (h2'.1 n hn) (hi n)
      · exact g1
theorem key_eq {α : Type} (K : α → ByteArray) (a b : List α) (h1 : a.Pairwise (fun u v => sLt (K u) (K v) = true)) (h2 : b.Pairwise (fun u v => sLt (K u) (K v) = true)) (h : ∀ n, n ∈ a ↔ n ∈ b) : a = b :=
  strict_eq (lt := fun u v => sLt (K u) (K v) = true) (fun x h => by rw [sLt_irrefl] at h; cases h) (fun x y h g => by rw [sLt_asymm h] at g; cases g) a b h1 h2 h
theorem Good.uniq {l : List Role} {n : ByteArray} {a b : List ByteArray} (h1 : Good l n a) (h2 : Good l n b) : a = b := by
  by_cases hn : has l n
  · exact key_eq (fun k => k) a b (h1.1 hn).1 (h2.1 hn).1 fun k => ((h1.1 hn).2 k).trans ((h2.1 hn).2 k).symm
  · rw [h1.2 hn, h2.2 hn]
theorem Mono_.loop {σ τ : Type} {step : σ → M (σ ⊕ τ)} (h : ∀ s, Mono_ (step s)) (s : σ) : Mono_ (loopM step s) := by
  rintro Q Q' hq ⟨k, hk⟩
  refine ⟨k, ?_⟩
  induction k generalizing s with
  | zero => exact hk
  | succ k ih =>
    refine h s _ _ ?_ hk
    rintro (s' | t) hx
    · exact ih s' hx
    · exact hq t hx
theorem all_mono (l : List Role) (n : ByteArray) : Mono_ (member_AllM l n) := by
  unfold member_AllM
  refine Mono_.bind (Mono_.opt _) fun i => Mono_.cond (Mono_.ret _) (Mono_.bind (Mono_.loop (fun s => ?_) _) fun t => Mono_.bind (Mono_.opt _) fun _ => Mono_.ret _)
  obtain ⟨g, all⟩ := s
  exact Mono_.cond (Mono_.bind (Mono_.range _ _ _) (fun t => by cases t with | inl s => exact @Mono_.bind _ _ (optM _) (fun _ => retM _) (Mono_.opt _) (fun _ => Mono_.ret _) | inr u => exact Mono_.no)) (Mono_.ret _)
theorem all_meets (l : List Role) (n : ByteArray) : Meets (member_AllM l n) := by
  unfold member_AllM
  refine Meets.bind (Meets.opt _) fun i => Meets.cond (Meets.ret _) (Meets.bind (Meets.loop (fun s => ?_) _) fun t => Meets.bind (Meets.opt _) fun _ => Meets.ret _)
  obtain ⟨g, all⟩ := s
  exact Meets.cond (Meets.bind (Meets.range _ _ _) (fun t => by cases t with | inl s => exact @Meets.bind _ _ (optM _) (fun _ => retM _) (Meets.opt _) (fun _ => Meets.ret _) | inr u => exact Meets.no)) (Meets.ret _)
theorem all_eq {l : List Role} {n : ByteArray} (hl : l.length ≤ 100) (hi : ∀ x ∈ l, x.In.length ≤ 100) (hz : ∀ x ∈ l, x.Name.size ≤ 1000) : ∃ r, member_All l n = some r ∧ Good l n r := by
  have h := all_good (n := n) hl hi hz
  obtain ⟨r, hr, _⟩ := all_meets l n _ _ h h
  exact ⟨r, ofM_eq (all_mono l n _ _ (fun x hx => hx.uniq hr) h) (all_meets l n), hr⟩
end Go.Proofs.YtdmapcjbbbifbaaGreat
namespace Go.Proofs.YtdmapcjbbbifbaaGreat
open Go.Gv
abbrev Asc (s : List ByteArray) : Prop := s.Pairwise (fun a b => sLt a b = true)
theorem Asc.drop_lt {s : List ByteArray} (hs : Asc s) {i : Nat} {x y : ByteArray} (h : ∀ z, s[i]? = some z → sLt x z = true) (hy : y ∈ s.drop i) : sLt x y = true := by
  obtain ⟨j, hj⟩ := List.mem_iff_getElem?.1 hy
  rw [List.getElem?_drop] at hj
  have hlt : i < s.length := by have := (List.getElem?_eq_some_iff.1 hj).1; omega
  have hi := h _ (List.getElem?_eq_getElem hlt)
  cases j with
  | zero => rw [Nat.add_zero] at hj; exact h y hj
  | succ j =>
    obtain ⟨hj1, rfl⟩ := List.getElem?_eq_some_iff.1 hj
    exact sLt_trans hi (List.pairwise_iff_getElem.1 hs i (i + (j + 1)) hlt hj1 (by omega))
theorem Asc.ins {A B : List ByteArray} {x : ByteArray} (hs : Asc (A ++ B)) (h1 : ∀ y ∈ A, sLt y x = true) (h2 : ∀ y ∈ B, sLt x y = true) : Asc (A ++ x :: B) := by
  have h := List.pairwise_append.1 hs
  refine List.pairwise_append.2 ⟨h.1, List.pairwise_cons.2 ⟨h2, h.2.1⟩, fun a ha b hb => ?_⟩
  rcases List.mem_cons.1 hb with rfl | hb
  · exact h1 a ha
  · exact h.2.2 a ha b hb
theorem any_find {xs : List ByteArray} {n : ByteArray} {p : ByteArray → Bool} (hp : ∀ x, p x = true ↔ x = n) : (xs.findIdx? p).isSome = true ↔ n ∈ xs := by
  rcases find_cases p xs with ⟨h, e⟩ | ⟨A, x, B, h1, h2, h3, h4⟩
  · rw [e]
    refine Iff.intro (fun h => Bool.noConfusion h) (fun hn => ?_)
    have := h n hn
    rw [(hp n).2 rfl] at this
    cases this
  · rw [h4]
    exact ⟨fun _ => by rw [h1, ← (hp x).1 h2]; simp, fun _ => rfl⟩
theorem has_eq (xs : List ByteArray) (n : ByteArray) : ∃ b, r14_Has xs n = some b ∧ (b = true ↔ n ∈ xs) := by
  unfold r14_Has
  rw [forN_find (fun x => sEq x n) (fun _ => true) (fun j x hx => by simp only [idx_nat, hx, Option.bind_some]; cases sEq x n <;> rfl)]
  have := any_find (xs := xs) (n := n) (p := fun x => sEq x n) (fun x => keq x n)
  cases h : xs.findIdx? (fun x => sEq x n) with
  | none => rw [h] at this; exact ⟨false, rfl, by rw [← this]; simp⟩
  | some j => rw [h] at this; exact ⟨true, rfl, by rw [← this]; simp⟩
theorem contains_eq (xs : List ByteArray) (n : ByteArray) : ∃ b, slices_Contains_string xs n = some b ∧ (b = true ↔ n ∈ xs) := by
  unfold slices_Contains_string slices_Index_string
  rw [forN_find (fun x => sEq n x) (fun j => (j : Int)) (fun j x hx => by simp only [idx_nat, hx, Option.bind_some]; cases sEq n x <;> rfl)]
  have := any_find (xs := xs) (n := n) (p := fun x => sEq n x) (fun x => (keq n x).trans eq_comm)
  cases h : xs.findIdx? (fun x => sEq n x) with
  | none => rw [h] at this; exact ⟨false, rfl, by rw [← this]; simp⟩
  | some j => rw [h] at this; exact ⟨true, by simp, by rw [← this]; simp⟩
theorem bool_iff {a b : Bool} {p : Prop} (ha : a = true ↔ p) (hb : b = true ↔ p) : a = b := by cases a <;> cases b <;> simp_all
def Sm (l : List Role) : Prop := l.length ≤ 100 ∧ (∀ x ∈ l, x.In.length ≤ 100) ∧ ∀ x ∈ l, x.Name.size ≤ 1000
theorem is_eq {l : List Role} (h : Sm l) (n o : ByteArray) : ∃ b, member_Is l n o = some b ∧ (b = true ↔ has l n ∧ Rch l n o) := by
  obtain ⟨a, ha, ga⟩ := all_eq (n := n) h.1 h.2.1 h.2.2
  obtain ⟨b, hb, gb⟩ := contains_eq a o
  refine ⟨b, by unfold member_Is; rw [ha]; simp only [Option.bind_some]; rw [hb]; rfl, gb.trans ?_⟩
  by_cases hn : has l n
  · rw [(ga.1 hn).2]; simp [hn]
  · rw [ga.2 hn]; simp [hn]
end Go.Proofs.YtdmapcjbbbifbaaGreat
namespace Go.Proofs.YtdmapcjbbbifbaaGreat
open Go.Gv
theorem rat_spec (l : List Role) (n : ByteArray) : ((∀ y ∈ l, y.Name ≠ n) ∧ r18_At l n = some (-1)) ∨ ∃ A x B, l = A ++ x :: B ∧ x.Name = n ∧ (∀ y ∈ A, y.Name ≠ n) ∧ r18_At l n = some (A.length : Int) := by
  have e : r18_At l n = some (match l.findIdx? (fun x => sEq x.Name n) with | some j => (j : Int) | none => -1) := by
    unfold r18_At
    rw [forN_find (fun x : Role => sEq x.Name n) (fun j => (j : Int))]
    · cases l.findIdx? (fun x => sEq x.Name n) <;> rfl
    · intro j x hx
      simp only [idx_nat, hx, Option.bind_some]
      cases sEq x.Name n <;> rfl
  rw [e]
  rcases find_cases (fun x : Role => sEq x.Name n) l with ⟨h, e⟩ | ⟨A, x, B, h1, h2, h3, h4⟩
  · left
    refine ⟨fun y hy e1 => ?_, by rw [e]⟩
    have := h y hy
    rw [(keq _ _).2 e1] at this
    cases this
  · right
    refine ⟨A, x, B, h1, (keq _ _).1 h2, fun y hy e1 => ?_, by rw [h4]⟩
    have := h3 y hy
    rw [(keq _ _).2 e1] at this
    cases this
def Fst (l : List Role) (k : Nat) (n : ByteArray) : Prop := ∃ A x B, l = A ++ x :: B ∧ x.Name = n ∧ (∀ y ∈ A, y.Name ≠ n) ∧ k = A.length
theorem Fst.get {l : List Role} {k : Nat} {n : ByteArray} (h : Fst l k n) : ∃ x, l[k]? = some x ∧ x.Name = n ∧ x ∈ l ∧ ins l n = x.In := by
  obtain ⟨A, x, B, rfl, h2, h3, rfl⟩ := h
  refine ⟨x, by simp, h2, by simp, ?_⟩
  unfold ins
  rw [List.find?_append, List.find?_eq_none.2]
  · simp [(keq _ _).2 h2]
  · intro y hy hn
    exact h3 y hy ((keq _ _).1 hn)
theorem Fst.lt {l : List Role} {k : Nat} {n : ByteArray} (h : Fst l k n) : k < l.length := by
  obtain ⟨A, x, B, rfl, h2, h3, rfl⟩ := h
  simp
theorem Fst.hs {l : List Role} {k : Nat} {n : ByteArray} (h : Fst l k n) : has l n := by
  obtain ⟨x, _, h2, h3, _⟩ := h.get
  exact ⟨x, h3, h2⟩
theorem Fst.uniq {l : List Role} {j k : Nat} {n : ByteArray} (h1 : Fst l j n) (h2 : Fst l k n) : j = k := by
  obtain ⟨A, x, B, e1, g1, g2, rfl⟩ := h1
  obtain ⟨A', x', B', e2, g1', g2', rfl⟩ := h2
  have e : A ++ x :: B = A' ++ x' :: B' := by rw [← e1, e2]
  rcases List.append_eq_append_iff.1 e with ⟨c, hc1, hc2⟩ | ⟨c, hc1, hc2⟩
  · cases c with
    | nil => simp [hc1]
    | cons z c =>
      simp only [List.cons_append, List.cons.injEq] at hc2
      exact absurd g1 (by rw [hc2.1]; exact g2' z (by rw [hc1]; simp))
  · cases c with
    | nil => simp [hc1]
    | cons z c =>
      simp only [List.cons_append, List.cons.injEq] at hc2
      exact absurd g1' (by rw [hc2.1]; exact g2 z (by rw [hc1]; simp))
theorem Fst.of_has {l : List Role} {n : ByteArray} (h : has l n) : ∃ k, Fst l k n ∧ r18_At l n = some (k : Int) := by
  rcases rat_spec l n with ⟨h1, _⟩ | ⟨A, x, B, h1, h2, h3, h4⟩
  · obtain ⟨x, hx, hn⟩ := h
    exact absurd hn (h1 x hx)
  · exact ⟨A.length, ⟨A, x, B, h1, h2, h3, rfl⟩, h4⟩
theorem rat_none {l : List Role} {n : ByteArray} (h : ¬ has l n) : r18_At l n = some (-1) := by
  rcases rat_spec l n with ⟨_, e⟩ | ⟨A, x, B, h1, h2, _⟩
  · exact e
  · exact absurd ⟨x, by rw [h1]; simp, h2⟩ h
theorem at_same (l : List Role) (n : ByteArray) : member_at l n = r18_At l n := by
  rcases at_spec l n with ⟨h, e⟩ | ⟨A, x, B, h1, h2, h3, h4⟩
  · rw [e, rat_none]
    rintro ⟨x, hx, hn⟩
    exact h x hx hn
  · obtain ⟨k, hk, e⟩ := Fst.of_has (l := l) (n := n) ⟨x, by rw [h1]; simp, h2⟩
    rw [h4, e, hk.uniq ⟨A, x, B, h1, h2, h3, rfl⟩]
structure Sd (l : List Role) (n : ByteArray) (is : List Bool) : Prop where
  len : is.length = l.length
  so : ∀ k : Nat, is[k]? = some true → ∃ a, Fst l k a ∧ Rch l n a ∧ has l n
  self : ∀ k, Fst l k n → is[k]? = some true
def Mon (a b : List Bool) : Prop := ∀ k : Nat, a[k]? = some true → b[k]? = some true
def Cl (l : List Role) (is : List Bool) : Prop := ∀ (k : Nat) (a b : ByteArray) (j : Nat), is[k]? = some true → Fst l k a → b ∈ ins l a → Fst l j b → is[j]? = some true
theorem cnt : ∀ (a b : List Bool), a.length = b.length → Mon a b → a = b ∨ a.count true < b.count true
  | [], [], _, _ => .inl rfl
  | [], _ :: _, h, _ => by cases h
  | _ :: _, [], h, _ => by cases h
  | x :: a, y :: b, h, hm => by
    have ih := cnt a b (by simpa using h) (fun k hk => by simpa using hm (k + 1) (by simpa using hk))
    have h0 := hm 0
    simp only [List.getElem?_cons_zero, Option.some.injEq] at h0
    cases x <;> cases y <;> simp_all <;> rcases ih with rfl | ih <;> omega
theorem mon_set {is : List Bool} {j : Nat} : Mon is (is.set j true) := by
  intro k hk
  rw [List.getElem?_set]
  split
  · rename_i e
    subst e
    have := (List.getElem?_eq_some_iff.1 hk).1
    simp [this]
  · exact hk
theorem Sd.set {l : List Role} {n : ByteArray} {is : List Bool} (h : Sd l n is) {j : Nat} {b : ByteArray} (hj : Fst l j b) (hb : Rch l n b) (hn : has l n) : Sd l n (is.set j true) := by
  refine ⟨by simpa using h.len, fun k hk => ?_, fun k hk => mon_set k (h.self k hk)⟩
  rw [List.getElem?_set] at hk
  split at hk
  · rename_i e
    subst e
    exact ⟨b, hj, hb, hn⟩
  · exact h.so k hk
theorem set_at {l : List Role} {n : ByteArray} {is : List Bool} (h : Sd l n is) {j : Nat} {b : ByteArray} (hj : Fst l j b) : (is.set j true)[j]? = some true := by
  have := hj.lt
  rw [← h.len] at this
  simp [this]
theorem flag_idx {l : List Role} {n : ByteArray} {is : List Bool} (h : Sd l n is) {k : Nat} (hk : k < l.length) : ∃ b, is[k]? = some b := by
  rw [← h.len] at hk
  exact ⟨_, List.getElem?_eq_getElem hk⟩
theorem ins_has {l : List Role} {a b : ByteArray} (hb : b ∈ ins l a) : has l a := by
  cases hf : l.find? (fun x => sEq x.Name a) with
  | none => unfold ins at hb; rw [hf] at hb; cases hb
  | some y => exact ⟨y, List.mem_of_find?_eq_some hf, (keq _ _).1 (by simpa using List.find?_some hf)⟩
theorem closed_all {l : List Role} {n : ByteArray} {is : List Bool} (hs : Sd l n is) (hc : Cl l is) : ∀ a, Rch l n a → has l a → ∃ j, Fst l j a ∧ is[j]? = some true := by
  intro a ha
  induction ha with
  | self => intro hh; obtain ⟨j, hj, _⟩ := Fst.of_has hh; exact ⟨j, hj, hs.self j hj⟩
  | @step a b hr hb hh ih =>
    intro _
    obtain ⟨k', hk', hf⟩ := ih (ins_has hb)
    obtain ⟨j, hj, _⟩ := Fst.of_has hh
    exact ⟨j, hj, hc k' a b j hf hk' hb hj⟩
theorem reach_spec {l : List Role} {n : ByteArray} (hl : l.length ≤ 100) (hi : ∀ x ∈ l, x.In.length ≤ 100) : Ret (r18_Reach l n) (fun is => Sd l n is ∧ Cl l is) := by
  unfold r18_Reach
  refine yav (x := l.length) (by unfold mk; rw [if_pos ⟨by omega, by omega⟩]; rfl) ?_
  refine RB.bind (R := fun (r : Int) => (r = -1 ∧ ¬ has l n) ∨ ∃ k : Nat, r = k ∧ Fst l k n) ?_ ?_
  · by_cases hn : has l n
    · obtain ⟨k, hk, e⟩ := Fst.of_has hn
      exact RB.of e (.inr ⟨k, rfl, hk⟩)
    · exact RB.of (rat_none hn) (.inl ⟨rfl, hn⟩)
  intro r hr
  refine RB.bind (R := fun is => Sd l n is ∧ (has l n → 1 ≤ is.count true)) ?_ ?_
  · rcases hr with ⟨rfl, hn⟩ | ⟨k, rfl, hk⟩
    · refine RB.ret ⟨⟨by simp, fun k hk => ?_, fun k hk => absurd hk.hs hn⟩, fun h => absurd h hn⟩
      rw [List.getElem?_replicate] at hk
      split at hk <;> cases hk
    · rw [show decide ((k : Int) ≥ 0) = true by simp]
      simp only [cond_true]
      have hlt := hk.lt
      rw [idx_nat, List.getElem?_replicate, if_pos hlt]
      simp only [Option.bind_some, Int.toNat_natCast]
      have hat : ((List.replicate l.length false).set k true)[k]? = some true := by simp [hlt]
      refine RB.ret ⟨⟨by simp, fun j hj => ?_, fun j hj => ?_⟩, fun _ => ?_⟩
      · rw [List.getElem?_set] at hj
        split at hj
        · rename_i e
          subst e
          exact ⟨n, hk, .self, hk.hs⟩
        · rw [List.getElem?_replicate] at hj
          split at hj <;> cases hj
      · rw [hj.uniq hk]; exact hat
      · exact List.count_pos_iff.2 (List.mem_of_getElem? hat)
  rintro is0 ⟨hs0, hc0⟩
  refine RB.bind (R := fun is => Sd l n is ∧ Cl l is) (RB.mono (forE_ret (fun t is => Sd l n is ∧ (Cl l is ∨ (has l n → t + 1 ≤ is.count true))) ⟨hs0, .inr hc0⟩ ?_) ?_) (fun is h => RB.ret h)
  · rintro t is ht ⟨hs, hc⟩
    refine RB.bind (R := fun is' => Sd l n is' ∧ Mon is is' ∧ ∀ k, k < l.length → is[k]? = some true → ∀ a, Fst l k a → ∀ b ∈ ins l a, ∀ j, Fst l j b → is'[j]? = some true) (forE_ret (fun K is' => Sd l n is' ∧ Mon is is' ∧ ∀ k, k < K → is[k]? = some true → ∀ a, Fst l k a → ∀ b ∈ ins l a, ∀ j, Fst l j b → is'[j]? = some true) ⟨hs, fun k hk => hk, fun k hk => absurd hk (by omega)⟩ ?_) ?_
    · rintro K s hK ⟨g1, g2, g3⟩
      obtain ⟨x, hx⟩ : ∃ x, l[K]? = some x := ⟨_, List.getElem?_eq_getElem hK⟩
      have hxl : x.In.length ≤ 100 := hi x (List.mem_of_getElem? hx)
      refine RB.bind (R := fun s' => Sd l n s' ∧ Mon s s' ∧ (s[K]? = some true → ∀ b ∈ x.In, ∀ j, Fst l j b → s'[j]? = some true)) (loopO_rb (fun (u : Int × List Bool) => ∃ J : Nat, u.1 = J ∧ J ≤ x.In.length ∧ Sd l n u.2 ∧ Mon s u.2 ∧ ∀ b ∈ x.In.take J, ∀ j, Fst l j b → u.2[j]? = some true) (fun u => x.In.length - u.1.toNat) ?_ ⟨0, rfl, by omega, g1, fun k hk => hk, by simp⟩) ?_
      · rintro ⟨q, s'⟩ ⟨J, hJ, hJ2, f1, f2, f3⟩
        simp only at hJ f1 f2 f3
        subst hJ
        obtain ⟨bk, hbk⟩ := flag_idx f1 hK
        simp only [idx_nat, hbk, hx, Option.bind_some]
        cases bk with
        | false =>
          simp only [cond_false, Option.bind_some]
          refine RB.ret ⟨f1, f2, fun hh => ?_⟩
          have := f2 K hh
          rw [hbk] at this
          cases this
        | true =>
          simp only [cond_true, Option.bind_some]
          by_cases hlt : J < x.In.length
          · rw [show decide ((J : Int) < (x.In.length : Int)) = true by simp [hlt]]
            have hb : x.In[J]? = some x.In[J] := List.getElem?_eq_getElem hlt
            simp only [cond_true, idx_nat, hb, Option.bind_some]
            obtain ⟨a, ha1, ha2, ha3⟩ := f1.so K hbk
            obtain ⟨x', hx', hn', _, hin⟩ := ha1.get
            rw [hx] at hx'
            injection hx' with hx'
            subst hx'
            by_cases hh : has l x.In[J]
            · obtain ⟨k2, hk2, e2⟩ := Fst.of_has hh
              rw [e2]
              obtain ⟨b2, hb2⟩ := flag_idx f1 hk2.lt
              simp only [Option.bind_some, idx_nat, hb2]
              rw [show decide ((k2 : Int) ≥ 0) = true by simp]
              simp only [cond_true, Option.bind_some, Int.toNat_natCast]
              refine RB.ret ⟨⟨J + 1, ?_, hlt, f1.set hk2 (.step ha2 (by rw [hin]; exact List.getElem_mem hlt) hh) ha3, fun k hk => mon_set k (f2 k hk), ?_⟩, ?_⟩
              · simp only; rw [w64_id (by omega) (by omega)]; rfl
              · intro b hb3 j hj
                rw [take_snoc hb, List.mem_append, List.mem_singleton] at hb3
                rcases hb3 with hb3 | rfl
                · exact mon_set j (f3 b hb3 j hj)
                · rw [hj.uniq hk2]; exact set_at f1 hk2
              · simp only; rw [w64_id (by omega) (by omega)]; omega
            · rw [rat_none hh]
              simp only [Option.bind_some]
              rw [show decide ((-1 : Int) ≥ 0) = false by decide]
              simp only [cond_false, Option.bind_some]
              refine RB.ret ⟨⟨J + 1, ?_, hlt, f1, f2, ?_⟩, ?_⟩
              · simp only; rw [w64_id (by omega) (by omega)]; rfl
              · intro b hb3 j hj
                rw [take_snoc hb, List.mem_append, List.mem_singleton] at hb3
                rcases hb3 with hb3 | rfl
                · exact f3 b hb3 j hj
                · exact absurd hj.hs hh
              · simp only; rw [w64_id (by omega) (by omega)]; omega
          · rw [show decide ((J : Int) < (x.In.length : Int)) = false by simp; omega]
            simp only [cond_false]
            refine RB.ret ⟨f1, f2, fun _ b hb => f3 b ?_⟩
            rw [List.take_of_length_le (by omega)]
            exact hb
      · rintro s' ⟨f1, f2, f3⟩
        refine RB.ret ⟨f1, fun k hk => f2 k (g2 k hk), fun k hk hf a ha b hb j hj => ?_⟩
        by_cases e : k = K
        · subst e
          obtain ⟨x', hx', hn', _, hin⟩ := ha.get
          rw [hx] at hx'
          injection hx' with hx'
          subst hx'
          exact f3 (g2 _ hf) b (by rw [← hin]; exact hb) j hj
        · exact f2 j (g3 k (by omega) hf a ha b hb j hj)
    · rintro is' ⟨g1, g2, g3⟩
      refine RB.ret ⟨g1, ?_⟩
      rcases cnt is is' (by rw [hs.len, g1.len]) g2 with rfl | hlt
      · left
        intro k a b j hk ha hb hj
        exact g3 k (by have := (List.getElem?_eq_some_iff.1 hk).1; rw [hs.len] at this; exact this) hk a ha b hb j hj
      · rcases hc with hc | hc
        · exfalso
          have : Mon is' is := by
            intro k hk
            obtain ⟨a, ha1, ha2, ha3⟩ := g1.so k hk
            obtain ⟨j, hj, hf⟩ := closed_all hs hc a ha2 ha1.hs
            rw [ha1.uniq hj]
            exact hf
          rcases cnt is' is (by rw [hs.len, g1.len]) this with e | e
          · rw [e] at hlt; omega
          · omega
        · exact .inr fun hn => by have := hc hn; omega
  · rintro is ⟨hs, hc⟩
    refine ⟨hs, ?_⟩
    rcases hc with hc | hc
    · exact hc
    · by_cases hn : has l n
      · have h1 := hc hn
        have h2 := List.count_le_length (a := true) (l := is)
        rw [hs.len] at h2
        omega
      · intro k a b j hk
        obtain ⟨_, _, _, hh⟩ := hs.so k hk
        exact absurd hh hn
end Go.Proofs.YtdmapcjbbbifbaaGreat
namespace Go.Proofs.YtdmapcjbbbifbaaGreat
open Go.Gv
theorem into_spec {s : List ByteArray} {x : ByteArray} (hs : Asc s) (hx : x ∉ s) (hl : s.length ≤ 1000) : ∃ A B, s = A ++ B ∧ (∀ y ∈ A, sLt y x = true) ∧ (∀ y ∈ B, sLt x y = true) ∧ r18_into s x = some (A ++ x :: B) := by
  have h : Ret (r18_into s x) (fun r => ∃ A B, s = A ++ B ∧ (∀ y ∈ A, sLt y x = true) ∧ (∀ y ∈ B, sLt x y = true) ∧ r = A ++ x :: B) := by
    unfold r18_into
    refine RB.bind (R := fun (q : Int) => ∃ i : Nat, q = i ∧ i ≤ s.length ∧ (∀ y ∈ s.take i, sLt y x = true) ∧ ∀ z, s[i]? = some z → sLt x z = true) (loopO_rb (fun (q : Int) => ∃ i : Nat, q = i ∧ i ≤ s.length ∧ ∀ y ∈ s.take i, sLt y x = true) (fun q => s.length - q.toNat) ?_ ⟨0, rfl, by omega, by simp⟩) ?_
    · rintro q ⟨i, rfl, hi, h1⟩
      by_cases hlt : i < s.length
      · rw [show decide ((i : Int) < (s.length : Int)) = true by simp [hlt]]
        have hz : s[i]? = some s[i] := List.getElem?_eq_getElem hlt
        simp only [cond_true, idx_nat, hz, Option.bind_some]
        cases hc : sLt s[i] x with
        | true =>
          refine RB.ret ⟨⟨i + 1, by rw [w64_id (by omega) (by omega)]; rfl, hlt, fun y hy => ?_⟩, by rw [w64_id (by omega) (by omega)]; omega⟩
          rw [take_snoc hz, List.mem_append, List.mem_singleton] at hy
          rcases hy with hy | rfl
          · exact h1 y hy
          · exact hc
        | false =>
          refine RB.ret ⟨i, rfl, hi, h1, fun z hz' => ?_⟩
          rw [hz] at hz'
          injection hz' with hz'
          subst hz'
          rcases sLt_total s[i] x with h | h | h
          · rw [hc] at h; cases h
          · exact absurd (h ▸ List.getElem_mem hlt) hx
          · exact h
      · rw [show decide ((i : Int) < (s.length : Int)) = false by simp; omega]
        simp only [cond_false, Option.bind_some]
        refine RB.ret ⟨i, rfl, hi, h1, fun z hz => ?_⟩
        have := (List.getElem?_eq_some_iff.1 hz).1
        omega
    · rintro q ⟨i, rfl, hi, h1, h2⟩
      rw [sub_at (lo := 0) (i := 0) (j := i) rfl rfl (by omega) hi, sub_at (i := i) (j := s.length) rfl rfl hi (by omega)]
      simp only [Option.bind_some, List.drop_zero, List.take_length]
      rw [app_le (by simp; omega)]
      simp only [Option.bind_some, List.nil_append]
      rw [app_le (by simp; omega)]
      simp only [Option.bind_some]
      rw [app_le (by simp; omega)]
      exact RB.ret ⟨s.take i, s.drop i, (List.take_append_drop i s).symm, h1, fun y hy => hs.drop_lt h2 hy, by simp⟩
  obtain ⟨r, hr, A, B, h1, h2, h3, rfl⟩ := h.ex
  exact ⟨A, B, h1, h2, h3, hr⟩
theorem rall_eq {l : List Role} {n : ByteArray} (hl : l.length ≤ 100) (hi : ∀ x ∈ l, x.In.length ≤ 100) : ∃ r, r18_All l n = some r ∧ Good l n r := by
  refine Ret.ex ?_
  unfold r18_All
  refine RB.bind (reach_spec hl hi) ?_
  rintro is ⟨hs, hc⟩
  refine RB.bind (R := fun r => Asc r ∧ ∀ m, m ∈ r ↔ ∃ k, k < l.length ∧ is[k]? = some true ∧ ∃ x, l[k]? = some x ∧ x.Name = m) (forE_ret (fun K r => Asc r ∧ r.length ≤ K ∧ ∀ m, m ∈ r ↔ ∃ k, k < K ∧ is[k]? = some true ∧ ∃ x, l[k]? = some x ∧ x.Name = m) ⟨List.Pairwise.nil, Nat.le_refl _, fun m => by simp⟩ ?_ |>.mono fun r h => ⟨h.1, h.2.2⟩) ?_
  · rintro K r hK ⟨g1, g2, g3⟩
    obtain ⟨b, hb⟩ := flag_idx hs hK
    have hx : l[K]? = some l[K] := List.getElem?_eq_getElem hK
    simp only [idx_nat, hb, hx, Option.bind_some]
    cases b with
    | false =>
      refine RB.ret ⟨g1, by omega, fun m => (g3 m).trans ⟨fun ⟨k, h1, h2⟩ => ⟨k, by omega, h2⟩, fun ⟨k, h1, h2, h3⟩ => ⟨k, ?_, h2, h3⟩⟩⟩
      have : k ≠ K := by rintro rfl; rw [hb] at h2; cases h2
      omega
    | true =>
      obtain ⟨a, ha, _, _⟩ := hs.so K hb
      have hn : l[K].Name ∉ r := by
        intro hm
        obtain ⟨k, h1, h2, x, h3, h4⟩ := (g3 _).1 hm
        obtain ⟨a', ha', _, _⟩ := hs.so k h2
        obtain ⟨y, hy1, hy2, _⟩ := ha.get
        obtain ⟨y', hy1', hy2', _⟩ := ha'.get
        rw [hx] at hy1; injection hy1 with hy1
        rw [h3] at hy1'; injection hy1' with hy1'
        subst hy1 hy1'
        rw [h4, hy2] at hy2'
        subst hy2'
        have := ha.uniq ha'
        omega
      obtain ⟨A, B, e, e1, e2, e3⟩ := into_spec g1 hn (by omega)
      simp only [cond_true]
      rw [e3]
      refine RB.ret ⟨(e ▸ g1 : Asc (A ++ B)).ins e1 e2, by rw [e] at g2; simp at g2 ⊢; omega, fun m => ?_⟩
      have : m ∈ A ++ l[K].Name :: B ↔ m = l[K].Name ∨ m ∈ r := by rw [e]; simp only [List.mem_append, List.mem_cons]; exact ⟨fun h => by rcases h with h | h | h <;> simp [h], fun h => by rcases h with h | h | h <;> simp [h]⟩
      rw [this, g3]
      constructor
      · rintro (rfl | ⟨k, h1, h2⟩)
        · exact ⟨K, by omega, hb, _, hx, rfl⟩
        · exact ⟨k, by omega, h2⟩
      · rintro ⟨k, h1, h2, x, h3, h4⟩
        by_cases e : k = K
        · subst e
          rw [hx] at h3; injection h3 with h3
          exact .inl (by rw [h3]; exact h4.symm)
        · exact .inr ⟨k, by omega, h2, x, h3, h4⟩
  · rintro r ⟨h1, h2⟩
    refine RB.ret ⟨fun hn => ⟨h1, fun m => ?_⟩, fun hn => ?_⟩
    · rw [h2]
      constructor
      · rintro ⟨k, g1, g2, x, g3, g4⟩
        obtain ⟨a, ha, hr, _⟩ := hs.so k g2
        obtain ⟨y, hy1, hy2, _⟩ := ha.get
        rw [g3] at hy1; injection hy1 with hy1
        subst hy1
        rw [← g4, hy2]
        exact hr
      · intro hr
        have hm : has l m := by cases hr with | self => exact hn | step _ _ h => exact h
        obtain ⟨j, hj, hf⟩ := closed_all hs hc m hr hm
        obtain ⟨y, hy1, hy2, _⟩ := hj.get
        exact ⟨j, hj.lt, hf, y, hy1, hy2⟩
    · cases r with
      | nil => rfl
      | cons m r =>
        obtain ⟨k, g1, g2, _⟩ := (h2 m).1 (by simp)
        obtain ⟨_, _, _, hh⟩ := hs.so k g2
        exact absurd hh hn
theorem contains_has (xs : List ByteArray) (n : ByteArray) : slices_Contains_string xs n = r14_Has xs n := by
  obtain ⟨a, ha, ha'⟩ := contains_eq xs n
  obtain ⟨b, hb, hb'⟩ := has_eq xs n
  rw [ha, hb, bool_iff ha' hb']
theorem all_same {l : List Role} (h : Sm l) (n : ByteArray) : member_All l n = r18_All l n := by
  obtain ⟨a, ha, ga⟩ := all_eq (n := n) h.1 h.2.1 h.2.2
  obtain ⟨b, hb, gb⟩ := rall_eq (n := n) h.1 h.2.1
  rw [ha, hb, ga.uniq gb]
theorem is_same {l : List Role} (h : Sm l) (n o : ByteArray) : member_Is l n o = r18_Is l n o := by
  unfold member_Is r18_Is
  rw [all_same h]
  simp only [contains_has]
end Go.Proofs.YtdmapcjbbbifbaaGreat
namespace Go.Proofs.YtdmapcjbbbifbaaGreat
open Go.Gv
theorem sAt_some {s : ByteArray} {i : Int} (h0 : 0 ≤ i) (h1 : i < (s.size : Int)) : ∃ c, sAt s i = some c := by
  unfold sAt
  simp [h0, h1]
end Go.Proofs.YtdmapcjbbbifbaaGreat
namespace Go.Proofs.YtdmapcjbbbifbaaGreat
open Go.Gv
def Sml (c : Int) : Prop := 97 ≤ c ∧ c ≤ 122
def Wrd (c : Int) : Prop := (97 ≤ c ∧ c ≤ 122) ∨ (48 ≤ c ∧ c ≤ 57) ∨ c = 95
def Nmd (s : ByteArray) : Prop := s.size ≤ 12 ∧ (∃ c, sAt s 0 = some c ∧ Sml c) ∧ ∀ (i : Nat) (c : Int), sAt s (i : Int) = some c → Wrd c
theorem sAt_lt {s : ByteArray} {i : Nat} {c : Int} (h : sAt s (i : Int) = some c) : i < s.size := by
  unfold sAt at h
  rw [if_pos (by omega), Int.toNat_natCast] at h
  cases hx : s[i]? with
  | none => rw [hx] at h; cases h
  | some b => exact (getElem?_eq_some_iff.1 hx).1
theorem size_pos {s : ByteArray} (h : sEq s (⟨#[]⟩ : ByteArray) = false) : 0 < s.size := by
  rcases Nat.eq_zero_or_pos s.size with h0 | h0
  · exfalso
    have : s = (⟨#[]⟩ : ByteArray) := by
      cases s with
      | mk d => congr 1; exact Array.eq_empty_of_size_eq_zero h0
    rw [this, keq.refl] at h
    cases h
  · exact h0
theorem Nmd.pos {s : ByteArray} (h : Nmd s) : 0 < s.size := by
  obtain ⟨_, ⟨c, hc, _⟩, _⟩ := h
  exact sAt_lt (i := 0) hc
end Go.Proofs.YtdmapcjbbbifbaaGreat
namespace Go.Proofs.YtdmapcjbbbifbaaGreat
open Go.Gv
theorem rall_spec {s t : ByteArray} {f : Nat} (hs : s.size ≤ 100000) (ht : t.size ≤ 1000) : Ret (r09_all s (f : Int) t) (fun b => b = true ↔ ∀ (i : Nat) c, f ≤ i → sAt s (i : Int) = some c → ∃ j : Nat, sAt t (j : Int) = some c) := by
  unfold r09_all
  refine RB.bind (R := fun r => (r = .inl false ∧ ∃ (i : Nat) (c : Int), f ≤ i ∧ sAt s (i : Int) = some c ∧ ∀ j : Nat, sAt t (j : Int) ≠ some c) ∨ (r = .inr () ∧ ∀ (i : Nat) c, f ≤ i → sAt s (i : Int) = some c → ∃ j : Nat, sAt t (j : Int) = some c)) (loopO_rb (fun (q : Int) => ∃ k : Nat, q = (k : Int) ∧ f ≤ k ∧ (k ≤ s.size ∨ k = f) ∧ ∀ (i : Nat) c, f ≤ i → i < k → sAt s (i : Int) = some c → ∃ j : Nat, sAt t (j : Int) = some c) (fun q => s.size + f + 1 - q.toNat) ?_ ⟨f, rfl, Nat.le_refl _, .inr rfl, by omega⟩) ?_
  · rintro q ⟨k, rfl, h1, h2, h3⟩
    refine RB.cond (fun hc => ?_) (fun hc => RB.ret (.inr ⟨rfl, fun i c hi hic => h3 i c hi (by have := sAt_lt hic; simp at hc; omega) hic⟩))
    have hk : k < s.size := by simp at hc; omega
    obtain ⟨c, hc⟩ := sAt_some (s := s) (i := (k : Int)) (by omega) (by omega)
    refine RB.bind (R := fun b => b = true ↔ ∃ j : Nat, sAt t (j : Int) = some c) (loopO_rb (fun (q : Bool × Int) => ∃ j : Nat, q.2 = (j : Int) ∧ j ≤ t.size ∧ (q.1 = true ↔ ∃ m : Nat, m < j ∧ sAt t (m : Int) = some c)) (fun q => t.size - q.2.toNat) ?_ ⟨0, rfl, by omega, by simp⟩) ?_
    · rintro ⟨b, q⟩ ⟨j, g1, g2, g3⟩
      simp only at g1 g3
      subst g1
      refine RB.cond (fun hj => ?_) (fun hj => RB.ret ?_)
      · have hj : j < t.size := by simp at hj; omega
        obtain ⟨d, hd⟩ := sAt_some (s := t) (i := (j : Int)) (by omega) (by omega)
        simp only [hd, hc, Option.bind_some]
        refine RB.bind (R := fun b' => b' = true ↔ b = true ∨ d = c) (RB.cond (fun e => RB.ret (by simp [e])) (fun e => RB.ret (by simp [e]))) ?_
        intro b' hb'
        refine RB.ret ⟨⟨j + 1, by simp only; rw [w64_id (by omega) (by omega)]; rfl, hj, ?_⟩, by simp only; rw [w64_id (by omega) (by omega)]; omega⟩
        simp only
        rw [hb', g3]
        constructor
        · rintro (⟨m, h, e⟩ | rfl)
          · exact ⟨m, by omega, e⟩
          · exact ⟨j, by omega, hd⟩
        · rintro ⟨m, h, e⟩
          by_cases hm : m = j
          · subst hm; rw [hd] at e; injection e with e; exact .inr e
          · exact .inl ⟨m, by omega, e⟩
      · have : j = t.size := by simp at hj; omega
        subst this
        refine g3.trans ?_
        constructor
        · rintro ⟨m, _, e⟩; exact ⟨m, e⟩
        · rintro ⟨m, e⟩; exact ⟨m, sAt_lt e, e⟩
    · intro b hb
      refine RB.cond (fun e => RB.ret (.inl ⟨rfl, k, c, h1, hc, fun j hj => ?_⟩)) (fun e => RB.ret ⟨⟨k + 1, by rw [w64_id (by omega) (by omega)]; rfl, by omega, .inl hk, fun i d hi hik hd => ?_⟩, by rw [w64_id (by omega) (by omega)]; omega⟩)
      · rw [hb.2 ⟨j, hj⟩] at e; cases e
      · by_cases hm : i = k
        · subst hm; rw [hc] at hd; injection hd with hd; subst hd; exact hb.1 (by simpa using e)
        · exact h3 i d hi (by omega) hd
  · rintro r (⟨rfl, i, c, h1, h2, h3⟩ | ⟨rfl, h⟩)
    · exact RB.ret ⟨fun h => (by cases h), fun h => by obtain ⟨j, hj⟩ := h i c h1 h2; exact absurd hj (h3 j)⟩
    · exact RB.ret ⟨fun _ => h, fun _ => rfl⟩
def nums (t : ByteArray) : List Int := t.data.toList.map fun b => (b.toNat : Int)
theorem sAt_nums (t : ByteArray) (c : Int) : (∃ j : Nat, sAt t (j : Int) = some c) ↔ c ∈ nums t := by
  have key : ∀ j : Nat, sAt t (j : Int) = (nums t)[j]? := fun j => by
    unfold sAt nums
    rw [if_pos (by omega), Int.toNat_natCast, List.getElem?_map, Array.getElem?_toList]
    rfl
  rw [List.mem_iff_getElem?]
  constructor <;> rintro ⟨j, hj⟩ <;> exact ⟨j, by rw [← hj, key]⟩
theorem first_at {s : ByteArray} (h0 : 0 < s.size) (i : Nat) (c : Int) : sAt (s.extract 0 1) (i : Int) = some c ↔ i = 0 ∧ sAt s 0 = some c := by
  have hs : (s.extract 0 1).size = 1 := by rw [ByteArray.size_extract]; omega
  constructor
  · intro h
    have hi := sAt_lt h
    have hi0 : i = 0 := by omega
    subst hi0
    refine ⟨rfl, ?_⟩
    unfold sAt at h ⊢
    rw [if_pos (by omega)] at h ⊢
    rw [← h]
    congr 1
    rw [Int.toNat_natCast]
    show s[0]? = _
    rw [getElem?_pos s 0 h0, getElem?_pos (s.extract 0 1) 0 (by omega), ByteArray.getElem_extract]
  · rintro ⟨rfl, h⟩
    unfold sAt at h ⊢
    rw [if_pos (by omega)] at h ⊢
    rw [← h]
    congr 1
    rw [Int.toNat_natCast]
    show _ = s[0]?
    rw [getElem?_pos s 0 h0, getElem?_pos (s.extract 0 1) 0 (by omega), ByteArray.getElem_extract]
theorem plain_ret {s : ByteArray} (hs : s.size ≤ 100000) : ∃ b, r03_Plain s = some b := by
  refine Ret.ex (Q := fun _ => True) ?_ |>.imp fun r h => h.1
  unfold r03_Plain
  refine RB.bind (loopO_rb (Q := fun _ => True) (fun (q : Int) => 0 ≤ q ∧ q ≤ (s.size : Int)) (fun q => ((s.size : Int) - q).toNat) ?_ ⟨by omega, by omega⟩) (fun t _ => by cases t <;> exact RB.ret trivial)
  rintro q ⟨h1, h2⟩
  refine RB.cond (fun hc => ?_) (fun _ => RB.ret trivial)
  have hq : q < (s.size : Int) := by simpa using hc
  obtain ⟨c, hc⟩ := sAt_some h1 hq
  rw [hc]
  simp only [Option.bind_some]
  refine RB.bind (R := fun _ => True) (RB.cond (fun _ => RB.ret trivial) (fun _ => RB.ret trivial)) (fun b _ => RB.cond (fun _ => RB.ret trivial) (fun _ => RB.ret ⟨⟨?_, ?_⟩, ?_⟩)) <;> rw [w64_id (by omega) (by omega)] <;> omega
theorem rquoted_ret {s : ByteArray} (hs : s.size ≤ 100000) (h0 : 0 < s.size) : ∃ b, r09_quoted s = some b := by
  refine Ret.ex (Q := fun _ => True) ?_ |>.imp fun r h => h.1
  unfold r09_quoted
  have hw : w64 ((s.size : Int) - 1) = ((s.size - 1 : Nat) : Int) := by rw [w64_id (by omega) (by omega)]; omega
  rw [hw]
  obtain ⟨c0, hc0⟩ := sAt_some (s := s) (i := 0) (by omega) (by omega)
  obtain ⟨c1, hc1⟩ := sAt_some (s := s) (i := ((s.size - 1 : Nat) : Int)) (by omega) (by omega)
  obtain ⟨p, hp⟩ := plain_ret hs
  rw [hc0, hc1, hp]
  simp only [Option.bind_some]
  refine RB.bind (R := fun _ => True) (RB.cond (fun _ => RB.ret trivial) (fun _ => RB.ret trivial)) (fun _ _ => RB.bind (R := fun _ => True) (RB.cond (fun _ => RB.ret trivial) (fun _ => RB.ret trivial)) (fun _ _ => RB.bind (R := fun _ => True) (RB.cond (fun _ => RB.ret trivial) (fun _ => RB.ret trivial)) (fun _ _ => RB.cond (fun _ => RB.ret trivial) (fun _ => ?_))))
  refine RB.bind (loopO_rb (Q := fun _ => True) (fun (q : Int × Int) => 1 ≤ q.2 ∧ (q.2 ≤ (s.size : Int) ∨ q.2 = 1)) (fun q => ((s.size : Int) + 1 - q.2).toNat) ?_ ⟨by simp, .inr rfl⟩) (fun t _ => by cases t <;> exact RB.ret trivial)
  rintro ⟨n, q⟩ ⟨h1, h2⟩
  simp only at h1 h2
  refine RB.cond (fun hc => ?_) (fun _ => RB.ret trivial)
  have hq : q < (s.size : Int) := by simp at hc; omega
  obtain ⟨c, hc⟩ := sAt_some (s := s) (by omega) hq
  rw [hc]
  simp only [Option.bind_some]
  refine RB.bind (R := fun _ => True) (RB.cond (fun _ => RB.cond (fun _ => RB.ret trivial) (fun _ => RB.ret trivial)) (fun _ => RB.ret trivial)) (fun t _ => ?_)
  cases t with
  | inl v => exact RB.ret trivial
  | inr v =>
    refine RB.ret ⟨⟨?_, .inl ?_⟩, ?_⟩ <;> simp only <;> rw [w64_id (by omega) (by omega)] <;> omega
theorem rsign_ret (s : ByteArray) : ∃ b, r09_sign s = some b := by
  refine Ret.ex (Q := fun _ => True) ?_ |>.imp fun r h => h.1
  unfold r09_sign
  refine RB.bind (R := fun _ => True) ?_ (fun b _ => RB.cond (fun _ => RB.ret trivial) (fun _ => RB.ret trivial))
  repeat first
    | exact RB.ret trivial
    | refine RB.cond (fun _ => RB.ret trivial) (fun _ => RB.bind (R := fun _ => True) ?_ (fun _ _ => RB.ret trivial))
    | refine RB.cond (fun _ => RB.ret trivial) (fun _ => RB.ret trivial)
theorem rname_spec {s : ByteArray} (hs : s.size ≤ 100000) : ∃ b, r09_IsName s = some b ∧ (b = true ↔ Nmd s) := by
  refine Ret.ex ?_
  unfold r09_IsName
  refine RB.bind (R := fun k => k = 1 ↔ Nmd s) ?_ (fun k hk => RB.ret (by rw [beq_iff_eq]; exact hk))
  unfold r09_Kind
  refine RB.cond (fun e => RB.ret ⟨fun h => (by cases h), fun h => ?_⟩) (fun e => ?_)
  · have := h.pos
    rw [(keq _ _).1 e] at this
    cases this
  have h0 := size_pos e
  have hex : ssub s 0 1 = some (s.extract 0 1) := by
    unfold ssub
    rw [if_pos ⟨by omega, by omega, by omega⟩]
    rfl
  have hes : (s.extract 0 1).size ≤ 100000 := by rw [ByteArray.size_extract]; omega
  refine RB.bind (R := fun b => b = true ↔ s.size ≤ 12 ∧ ∃ c, sAt s 0 = some c ∧ Sml c) (RB.cond (fun hc => ?_) (fun hc => RB.ret ⟨fun h => (by cases h), fun h => by simp at hc; omega⟩)) (fun b hb => ?_)
  · rw [hex]
    simp only [Option.bind_some]
    refine RB.bind (rall_spec (f := 0) hes (by decide)) (fun b hb => RB.ret (hb.trans ?_))
    have h12 : s.size ≤ 12 := by simp at hc; omega
    obtain ⟨c, hc⟩ := sAt_some (s := s) (i := 0) (by omega) (by omega)
    have hm : (∃ j : Nat, sAt (⟨#[97, 98, 99, 100, 101, 102, 103, 104, 105, 106, 107, 108, 109, 110, 111, 112, 113, 114, 115, 116, 117, 118, 119, 120, 121, 122]⟩ : ByteArray) (j : Int) = some c) ↔ Sml c := by
      rw [sAt_nums]
      simp only [nums, List.map_cons, List.map_nil, List.mem_cons, List.not_mem_nil, or_false, Sml]
      simp
      omega
    constructor
    · intro h
      exact ⟨h12, c, hc, hm.1 (h 0 c (by omega) ((first_at h0 0 c).2 ⟨rfl, hc⟩))⟩
    · rintro ⟨_, d, hd, hds⟩ i x _ hx
      obtain ⟨_, hx⟩ := (first_at h0 i x).1 hx
      rw [hc] at hx hd
      injection hx with hx; injection hd with hd
      subst hx hd
      exact hm.2 hds
  refine RB.bind (R := fun b => b = true ↔ Nmd s) (RB.cond (fun e => ?_) (fun e => RB.ret ⟨fun h => (by cases h), fun h => ?_⟩)) (fun b hb => RB.cond (fun e => RB.ret ⟨fun _ => hb.1 e, fun _ => rfl⟩) (fun e => ?_))
  · obtain ⟨h12, c, hc, hcs⟩ := hb.1 e
    refine RB.bind (rall_spec (f := 1) hs (by decide)) (fun b hb => RB.ret (hb.trans ?_))
    have hm : ∀ x, (∃ j : Nat, sAt (⟨#[97, 98, 99, 100, 101, 102, 103, 104, 105, 106, 107, 108, 109, 110, 111, 112, 113, 114, 115, 116, 117, 118, 119, 120, 121, 122, 48, 49, 50, 51, 52, 53, 54, 55, 56, 57, 95]⟩ : ByteArray) (j : Int) = some x) ↔ Wrd x := fun x => by
      rw [sAt_nums]
      simp only [nums, List.map_cons, List.map_nil, List.mem_cons, List.not_mem_nil, or_false, Wrd]
      simp
      omega
    constructor
    · intro h
      refine ⟨h12, ⟨c, hc, hcs⟩, fun i x hx => ?_⟩
      by_cases hi : i = 0
      · subst hi
        rw [show ((0 : Nat) : Int) = 0 from rfl, hc] at hx
        injection hx with hx
        subst hx
        exact .inl hcs
      · exact (hm x).1 (h i x (by omega) hx)
    · intro h i x _ hx
      exact (hm x).2 (h.2.2 i x hx)
  · have := hb.2 ⟨h.1, h.2.1⟩
    rw [e] at this
    cases this
  have hno : ¬ Nmd s := fun h => by rw [hb.2 h] at e; cases e
  refine RB.mono (Q := fun k => k ≠ 1) ?_ (fun k hk => ⟨fun h => absurd h hk, fun h => absurd h hno⟩)
  rw [hex]
  simp only [Option.bind_some]
  have ra : ∀ (x t : ByteArray) (f : Nat), x.size ≤ 100000 → t.size ≤ 1000 → ∃ b, r09_all x (f : Int) t = some b := fun x t f h1 h2 => by
    obtain ⟨b, hb, _⟩ := (rall_spec (s := x) (t := t) (f := f) h1 h2).ex
    exact ⟨b, hb⟩
  obtain ⟨b1, hb1⟩ := ra (s.extract 0 1) (⟨#[65, 66, 67, 68, 69, 70, 71, 72, 73, 74, 75, 76, 77, 78, 79, 80, 81, 82, 83, 84, 85, 86, 87, 88, 89, 90]⟩ : ByteArray) 0 hes (by decide)
  obtain ⟨b2, hb2⟩ := ra s (⟨#[65, 66, 67, 68, 69, 70, 71, 72, 73, 74, 75, 76, 77, 78, 79, 80, 81, 82, 83, 84, 85, 86, 87, 88, 89, 90, 95]⟩ : ByteArray) 1 hs (by decide)
  obtain ⟨b3, hb3⟩ := ra s (⟨#[48, 49, 50, 51, 52, 53, 54, 55, 56, 57]⟩ : ByteArray) 0 hs (by decide)
  obtain ⟨b4, hb4⟩ := rquoted_ret hs h0
  obtain ⟨b5, hb5⟩ := rsign_ret s
  obtain ⟨c0, hc0⟩ := sAt_some (s := s) (i := 0) (by omega) (by omega)
  refine RB.bind (R := fun _ => True) (RB.cond (fun _ => yav hb1 (RB.ret trivial)) (fun _ => RB.ret trivial)) (fun _ _ => ?_)
  refine RB.bind (R := fun _ => True) (RB.cond (fun _ => yav hb2 (RB.ret trivial)) (fun _ => RB.ret trivial)) (fun _ _ => RB.cond (fun _ => RB.ret (by decide)) (fun _ => ?_))
  refine RB.bind (R := fun _ => True) (RB.cond (fun _ => yav hb3 (RB.ret trivial)) (fun _ => RB.ret trivial)) (fun _ _ => ?_)
  refine RB.bind (R := fun _ => True) (RB.cond (fun _ => RB.bind (R := fun _ => True) (RB.cond (fun _ => RB.ret trivial) (fun _ => by rw [hc0]; exact RB.ret trivial)) (fun _ _ => RB.ret trivial)) (fun _ => RB.ret trivial)) (fun _ _ => RB.cond (fun _ => RB.ret (by decide)) (fun _ => ?_))
  rw [hb4]
  simp only [Option.bind_some]
  refine RB.cond (fun _ => RB.ret (by decide)) (fun _ => ?_)
  refine RB.bind (R := fun b => b = true → s.size = 2) (RB.cond (fun hc => by rw [hc0]; exact RB.ret (fun _ => by simp at hc; omega)) (fun _ => RB.ret (fun h => by cases h))) (fun b hb => ?_)
  have at1 : s.size = 2 → ∃ c, sAt s 1 = some c := fun h => sAt_some (by omega) (by omega)
  refine RB.bind (R := fun b => b = true → s.size = 2) (RB.cond (fun e => by obtain ⟨c, hc⟩ := at1 (hb e); rw [hc]; exact RB.ret (fun _ => hb e)) (fun _ => RB.ret (fun h => by cases h))) (fun b hb => ?_)
  refine RB.bind (R := fun _ => True) (RB.cond (fun e => by obtain ⟨c, hc⟩ := at1 (hb e); rw [hc]; exact RB.ret trivial) (fun _ => RB.ret trivial)) (fun _ _ => RB.cond (fun _ => RB.ret (by decide)) (fun _ => ?_))
  rw [hb5]
  simp only [Option.bind_some]
  exact RB.cond (fun _ => RB.ret (by decide)) (fun _ => RB.ret (by decide))
end Go.Proofs.YtdmapcjbbbifbaaGreat
namespace Go.Proofs.YtdmapcjbbbifbaaGreat
open Go.Gv
mutual
def esz (e : qExpr) : Nat := match e with | ⟨_, _, _, _, ks⟩ => 1 + eszL ks
def eszL (l : List qExpr) : Nat := match l with | [] => 0 | x :: xs => esz x + eszL xs
end
mutual
def eok (e : qExpr) : Prop := match e with | ⟨_, _, v, n, ks⟩ => n.size ≤ 100 ∧ v.S.size ≤ 100 ∧ eokL ks
def eokL (l : List qExpr) : Prop := match l with | [] => True | x :: xs => eok x ∧ eokL xs
end
theorem esz_eq (e : qExpr) : esz e = 1 + eszL e.Kids := by cases e; rw [esz]
theorem esz_mem {l : List qExpr} {x : qExpr} (h : x ∈ l) : esz x ≤ eszL l := by
  induction h with
  | head => rw [eszL]; omega
  | tail _ _ ih => rw [eszL]; omega
theorem eok_eq {e : qExpr} : eok e ↔ e.Name.size ≤ 100 ∧ e.V.S.size ≤ 100 ∧ eokL e.Kids := by cases e; rw [eok]
theorem eokL_iff {l : List qExpr} : eokL l ↔ ∀ x ∈ l, eok x := by
  induction l with
  | nil => rw [eokL]; simp
  | cons x r ih => rw [eokL, ih]; simp
theorem kid_sz {e x : qExpr} (h : x ∈ e.Kids) : esz x < esz e := by
  have := esz_mem h
  rw [esz_eq e]
  omega
theorem esz_pos (e : qExpr) : 0 < esz e := by rw [esz_eq]; omega
theorem eszL_len : ∀ l : List qExpr, l.length ≤ eszL l
  | [] => Nat.zero_le _
  | x :: xs => by
    have := eszL_len xs
    have := esz_pos x
    rw [eszL]
    simp only [List.length_cons]
    omega
theorem height_fu {b : Prop} : ∀ (n : Nat) (e : qExpr), (b → esz e ≤ n) → RB b (r10_Height_fu n e) TT
  | 0, e, h => RB.none fun hb => by have := h hb; have := esz_pos e; omega
  | n + 1, e, h => by
    unfold r10_Height_fu
    refine RB.bind (R := TT) (forE_tt fun j s hj => y8 hj fun x _ hx => RB.bind (height_fu n x fun hb => by have := h hb; have := kid_sz hx; omega) fun r _ => ?_) fun s _ => RB.ret trivial
    refine RB.bind (R := TT) ?_ fun s _ => RB.ret trivial
    exact RB.cond (fun _ => RB.ret trivial) (fun _ => RB.ret trivial)
theorem height_tt {b : Prop} (e : qExpr) : RB b (r10_Height e) TT := fuel_tt (esz e) fun n => height_fu n e fun h => h
theorem eszL_app : ∀ a c : List qExpr, eszL (a ++ c) = eszL a + eszL c
  | [], c => by simp [eszL]
  | x :: xs, c => by rw [List.cons_append, eszL, eszL, eszL_app xs c]; omega
theorem take_next {α : Type} {xs : List α} {j : Nat} {x : α} (h : xs[j]? = some x) : xs.take (j + 1) = xs.take j ++ [x] := by
  rw [List.take_add_one, h]
  rfl
theorem eszL_next {xs : List qExpr} {j : Nat} {x : qExpr} (h : xs[j]? = some x) : eszL (xs.take (j + 1)) = eszL (xs.take j) + esz x := by
  rw [take_next h, eszL_app, eszL, eszL, Nat.add_zero]
theorem count_fu {b : Prop} : ∀ (n : Nat) (e : qExpr) (k : Int), (b → esz e ≤ n) → k ≤ 1000 → RB b (r10_count_fu n e k) (fun r => r.2 = true → 0 ≤ r.1 ∧ r.1 + (esz e : Int) ≤ k ∧ eok e)
  | 0, e, k, h, _ => RB.none fun hb => by have := h hb; have := esz_pos e; omega
  | n + 1, e, k, h, hk => by
    unfold r10_count_fu
    refine yao (yao (RB.cond (fun _ => RB.ret fun h => by cases h) fun hc => ?_))
    simp only [Bool.or_eq_false_iff, decide_eq_false_iff_not] at hc
    obtain ⟨⟨⟨h1, h2⟩, h3⟩, h4⟩ := hc
    have e0 : w64 (k - 1) = k - 1 := w64_id (by omega) (by omega)
    rw [e0]
    refine RB.bind (forN_ret (fun j s => 0 ≤ s ∧ s + (eszL (e.Kids.take j) : Int) ≤ k - 1 ∧ ∀ x ∈ e.Kids.take j, eok x) (Q := fun r => r.2 = false) ⟨by omega, by simp [eszL], by simp⟩ ?_) ?_
    · rintro j s hj ⟨g1, g2, g3⟩
      refine y8 hj fun x hx hm => ?_
      have hs : s ≤ 1000 := by omega
      refine RB.bind (count_fu n x s (fun hb => by have := h hb; have := kid_sz hm; omega) hs) ?_
      rintro ⟨u, c⟩ hr
      refine RB.cond (fun hc => RB.ret rfl) fun hc => RB.ret ?_
      simp only [Bool.not_eq_false'] at hc
      obtain ⟨q1, q2, q3⟩ := hr hc
      refine ⟨q1, ?_, ?_⟩
      · rw [eszL_next hx]
        simp only at q2
        omega
      · rw [take_next hx]
        intro y hy
        rcases List.mem_append.1 hy with hy | hy
        · exact g3 y hy
        · simp at hy; subst hy; exact q3
    · rintro t ht
      cases t with
      | inl s =>
        obtain ⟨g1, g2, g3⟩ := ht
        rw [List.take_length] at g2 g3
        refine RB.ret fun _ => ⟨g1, ?_, eok_eq.2 ⟨by omega, by omega, eokL_iff.2 g3⟩⟩
        rw [esz_eq]
        simp only
        omega
      | inr r =>
        obtain ⟨r1, r2⟩ := r
        simp only at ht
        subst ht
        exact RB.ret fun h => by cases h
def Es (e : qExpr) : Prop := esz e ≤ 60 ∧ eok e
theorem efew_rb {b : Prop} (e : qExpr) : RB b (r10_Few e 60) (fun r => r = true → Es e) := by
  unfold r10_Few r10_count
  refine RB.bind (fuel_tt (esz e) fun n => count_fu n e 60 (fun h => h) (by omega)) ?_
  rintro ⟨u, c⟩ hr
  refine RB.ret fun h => ?_
  obtain ⟨q1, q2, q3⟩ := hr h
  simp only at q2
  exact ⟨by omega, q3⟩
theorem samelist_tt {b : Prop} {f : qExpr → qExpr → Option Bool} {p q : List qExpr} (h : ∀ x ∈ p, ∀ y, RB b (f x y) TT) : RB b (r10_SameList f p q) TT := by
  unfold r10_SameList
  refine RB.cond (fun _ => RB.ret trivial) fun hc => ?_
  have hl : p.length = q.length := by simp at hc; omega
  refine RB.bind (R := TT) (forN_tt fun j s hj => y8 hj fun x _ hx => y8 (by omega) fun y _ _ => RB.bind (h x hx y) fun r _ => RB.cond (fun _ => RB.ret trivial) (fun _ => RB.ret trivial)) ?_
  rintro (_ | _) _ <;> exact RB.ret trivial
theorem esame_fu {b : Prop} : ∀ (n : Nat) (e d : qExpr), (b → esz e ≤ n) → RB b (r10_Same_fu n e d) TT
  | 0, e, d, h => RB.none fun hb => by have := h hb; have := esz_pos e; omega
  | n + 1, e, d, h => by
    unfold r10_Same_fu
    refine yao (RB.cond (fun _ => RB.ret trivial) fun _ => RB.bind (samelist_tt fun x hx y => esame_fu n x y fun hb => by have := h hb; have := kid_sz hx; omega) fun r _ => RB.ret trivial)
theorem none_tt {b : Prop} (e : qExpr) : RB b (r12_None e) TT := by
  unfold r12_None r10_Same
  exact RB.bind (fuel_tt (esz e) fun n => esame_fu n e z_qExpr fun h => h) fun r _ => RB.ret trivial
theorem parts_fu {b : Prop} : ∀ (n : Nat) (e : qExpr), esz e ≤ 1000 → (b → esz e ≤ n) → RB b (r10_Parts_fu n e) (fun l => l.length ≤ esz e ∧ ∀ x ∈ l, eok e → eok x)
  | 0, e, _, h => RB.none fun hb => by have := h hb; have := esz_pos e; omega
  | n + 1, e, hz, h => by
    unfold r10_Parts_fu
    refine RB.bind (forE_ret (fun j (s : List qExpr) => s.length ≤ 1 + eszL (e.Kids.take j) ∧ ∀ x ∈ s, eok e → eok x) ⟨by simp [eszL], by simp⟩ ?_) ?_
    · rintro j s hj ⟨g1, g2⟩
      refine y8 hj fun x hx hm => ?_
      have hx1 := kid_sz hm
      refine RB.bind (parts_fu n x (by omega) fun hb => by have := h hb; omega) ?_
      rintro r ⟨r1, r2⟩
      have hle : eszL (e.Kids.take (j + 1)) ≤ eszL e.Kids := by
        have := eszL_app (e.Kids.take (j + 1)) (e.Kids.drop (j + 1))
        rw [List.take_append_drop] at this
        omega
      have h1 := esz_eq e
      rw [eszL_next hx] at hle
      refine RB.ap (by omega) (RB.ret ⟨by rw [eszL_next hx, List.length_append]; omega, fun y hy ho => ?_⟩)
      rcases List.mem_append.1 hy with hy | hy
      · exact g2 y hy ho
      · exact r2 y hy (eokL_iff.1 (eok_eq.1 ho).2.2 x hm)
    · rintro s ⟨g1, g2⟩
      rw [List.take_length] at g1
      exact RB.ret ⟨by rw [esz_eq]; omega, g2⟩
theorem parts_rb {b : Prop} {e : qExpr} (hz : esz e ≤ 1000) : RB b (r10_Parts e) (fun l => l.length ≤ esz e ∧ ∀ x ∈ l, eok e → eok x) := by
  unfold r10_Parts
  exact fuel_tt (esz e) fun n => parts_fu n e hz fun h => h
theorem params_tt {b : Prop} {e : qExpr} (hz : esz e ≤ 1000) : RB b (r10_Params e) TT := by
  unfold r10_Params
  refine RB.bind (parts_rb hz) fun l _ => RB.bind (R := TT) (forE_tt fun j s hj => y8 hj fun x _ _ => RB.bind (R := TT) ?_ fun c _ => RB.bind (R := TT) ?_ fun _ _ => RB.ret trivial) fun _ _ => RB.ret trivial
  · exact RB.cond (fun _ => y8 hj fun _ _ _ => RB.ret trivial) (fun _ => RB.ret trivial)
  · exact RB.cond (fun _ => y8 hj fun _ _ _ => RB.ret trivial) (fun _ => RB.ret trivial)
theorem enames_rb {b : Prop} {e : qExpr} (hz : esz e ≤ 1000) : RB b (r10_Names e) (fun l => l.length ≤ 1000) := by
  unfold r10_Names
  refine RB.bind (parts_rb hz) ?_
  rintro l ⟨hl, _⟩
  refine RB.bind (forE_ret (fun j (s : List ByteArray) => s.length ≤ j) (by simp) ?_) fun s hs => RB.ret (by omega)
  rintro j s hj hs
  refine y8 hj fun x _ _ => RB.bind (R := TT) (forE_tt fun i c hi => RB.bind (R := TT) (RB.cond (fun _ => RB.ret trivial) fun _ => y8 hi fun _ _ _ => y8 hj fun _ _ _ => RB.ret trivial) fun _ _ => RB.ret trivial) fun c _ => ?_
  refine RB.bind (R := fun (s' : List ByteArray) => s'.length ≤ j + 1) ?_ fun s' h => RB.ret h
  refine RB.cond (fun _ => y8 hj fun _ _ _ => RB.ap (by simp only [List.length_cons, List.length_nil]; omega) (RB.ret (by simp; omega))) fun _ => RB.ret (by omega)
end Go.Proofs.YtdmapcjbbbifbaaGreat
namespace Go.Proofs.YtdmapcjbbbifbaaGreat
open Go.Gv
theorem rname_tt {b : Prop} {s : ByteArray} (hs : s.size ≤ 100) : RB b (r09_IsName s) TT := by
  obtain ⟨r, hr, _⟩ := rname_spec (s := s) (by omega)
  exact RB.of hr trivial
theorem vright_tt {b : Prop} {v : qValue} (hs : v.S.size ≤ 100) : RB b (r03_Right v) TT := by
  unfold r03_Right
  refine RB.cond (fun _ => RB.ret trivial) fun _ => RB.cond (fun _ => RB.ret trivial) fun _ => RB.cond (fun _ => yao (RB.ret trivial)) fun _ => RB.cond (fun _ => ?_) fun _ => RB.ret trivial
  refine RB.bind (R := TT) (RB.cond (fun _ => ?_) fun _ => RB.ret trivial) fun _ _ => RB.ret trivial
  obtain ⟨r, hr⟩ := plain_ret (s := v.S) (by omega)
  rw [hr]
  exact RB.ret trivial
mutual
def ert (e : qExpr) : Prop := match e with | ⟨k, o, _, _, ks⟩ => (k = 6 → 2 ≤ ks.length) ∧ (k = 3 → 1 ≤ o ∧ o ≤ 6) ∧ (k = 8 → 0 ≤ o ∧ o ≤ 5) ∧ ertL ks
def ertL (l : List qExpr) : Prop := match l with | [] => True | x :: xs => ert x ∧ ertL xs
end
theorem ert_eq {e : qExpr} : ert e ↔ (e.Kind = 6 → 2 ≤ e.Kids.length) ∧ (e.Kind = 3 → 1 ≤ e.Op ∧ e.Op ≤ 6) ∧ (e.Kind = 8 → 0 ≤ e.Op ∧ e.Op ≤ 5) ∧ ertL e.Kids := by cases e; rw [ert]
theorem ertL_iff {l : List qExpr} : ertL l ↔ ∀ x ∈ l, ert x := by
  induction l with
  | nil => rw [ertL]; simp
  | cons x r ih => rw [ertL, ih]; simp
theorem right_fu {b : Prop} : ∀ (n : Nat) (e : qExpr) (s : Bool), eok e → (b → esz e ≤ n) → RB b (r10_Right_fu n e s) (fun r => r = true → ert e)
  | 0, e, s, _, h => RB.none fun hb => by have := h hb; have := esz_pos e; omega
  | n + 1, e, s, ho, h => by
    obtain ⟨o1, o2, o3⟩ := eok_eq.1 ho
    have o3 := eokL_iff.1 o3
    unfold r10_Right_fu
    refine RB.bind (forN_ret (fun j _ => ∀ x ∈ e.Kids.take j, ert x) (Q := fun r => r = false) (by simp) ?_) ?_
    · rintro j _ hj g
      refine y8 hj fun x hx hm => RB.bind (right_fu n x s (o3 x hm) fun hb => by have := h hb; have := kid_sz hm; omega) fun r hr => RB.cond (fun _ => RB.ret rfl) fun hc => RB.ret ?_
      simp only [Bool.not_eq_false'] at hc
      rw [take_next hx]
      intro y hy
      rcases List.mem_append.1 hy with hy | hy
      · exact g y hy
      · simp at hy; subst hy; exact hr hc
    · rintro t ht
      cases t with
      | inr r => exact RB.ret fun h => by subst h; cases ht
      | inl u =>
        rw [List.take_length] at ht
        have hk := ertL_iff.2 ht
        have fin : ∀ {c : Bool}, (c = true → (e.Kind = 6 → 2 ≤ e.Kids.length) ∧ (e.Kind = 3 → 1 ≤ e.Op ∧ e.Op ≤ 6) ∧ (e.Kind = 8 → 0 ≤ e.Op ∧ e.Op ≤ 5)) → c = true → ert e := fun hq hc => ert_eq.2 ⟨(hq hc).1, (hq hc).2.1, (hq hc).2.2, hk⟩
        refine yao (yao (RB.cond (fun _ => RB.ret fun h => by cases h) fun _ => yao (RB.cond (fun _ => RB.ret fun h => by cases h) fun _ => RB.cond (fun k => ?_) fun k1 => RB.cond (fun k => ?_) fun k2 => RB.cond (fun k => yao (RB.ret (fin fun hq => ?_))) fun k3 => RB.cond (fun k => yao (RB.ret (fin fun hq => ?_))) fun k4 => RB.cond (fun k => yao (RB.ret (fin fun hq => ?_))) fun k5 => RB.cond (fun k => yao (RB.ret (fin fun hq => ?_))) fun k6 => RB.cond (fun k => yao (yao (RB.ret (fin fun hq => ?_)))) fun k7 => RB.cond (fun k => yao (RB.ret (fin fun hq => ?_))) fun k8 => RB.ret fun h => by cases h)))
        · refine RB.bind (R := TT) (RB.cond (fun _ => RB.bind (vright_tt o2) fun _ _ => RB.ret trivial) fun _ => RB.ret trivial) fun c _ => RB.ret (fin fun hq => ?_)
          simp only [beq_iff_eq] at k
          exact ⟨fun h => by omega, fun h => by omega, fun h => by omega⟩
        · refine RB.bind (R := TT) (RB.cond (fun _ => RB.bind (rname_tt o1) fun _ _ => RB.ret trivial) fun _ => RB.ret trivial) fun c _ => RB.ret (fin fun hq => ?_)
          simp only [beq_iff_eq] at k
          exact ⟨fun h => by omega, fun h => by omega, fun h => by omega⟩
        all_goals
          simp only [beq_iff_eq, Bool.and_eq_true, decide_eq_true_eq] at k hq
          exact ⟨fun h => by omega, fun h => by omega, fun h => by omega⟩
theorem echeck_rb {b : Prop} {e : qExpr} (s : Bool) (ho : eok e) : RB b (r10_Check e s) (fun r => r = 0 → ert e) := by
  unfold r10_Check r10_Right
  refine RB.bind (height_tt e) fun k _ => RB.cond (fun _ => RB.ret fun h => by cases h) fun _ => RB.bind (fuel_tt (esz e) fun n => right_fu n e s ho fun h => h) fun r hr => RB.cond (fun _ => RB.ret fun h => by cases h) fun hc => RB.ret fun _ => hr (by simpa using hc)
theorem col_rb {b : Prop} (t : qTable) (n : ByteArray) : RB b (r14_Col t n) (fun r => r = -1 ∧ (∀ x ∈ t.Cols, x.Name ≠ n) ∨ 0 ≤ r ∧ r < (t.Cols.length : Int)) := by
  unfold r14_Col
  refine RB.bind (forN_ret (fun j _ => ∀ x ∈ t.Cols.take j, x.Name ≠ n) (Q := fun r => 0 ≤ r ∧ r < (t.Cols.length : Int)) (by simp) ?_) ?_
  · rintro j _ hj g
    refine y8 hj fun x hx _ => RB.cond (fun _ => RB.ret ⟨by omega, by omega⟩) fun hc => RB.ret ?_
    rw [take_next hx]
    intro y hy
    rcases List.mem_append.1 hy with hy | hy
    · exact g y hy
    · simp at hy
      subst hy
      intro he
      rw [sEq_iff.2 he] at hc
      cases hc
  · rintro t ht
    cases t with
    | inl u => rw [List.take_length] at ht; exact RB.ret (.inl ⟨rfl, ht⟩)
    | inr r => exact RB.ret (.inr ht)
theorem place_fu {b : Prop} (t : qTable) : ∀ (n : Nat) (e : qExpr), esz e ≤ 1000 → (b → esz e ≤ n) → RB b (r15_Place_fu n t e) (fun r => esz r ≤ esz e ∧ (eok e → eok r))
  | 0, e, _, h => RB.none fun hb => by have := h hb; have := esz_pos e; omega
  | n + 1, e, hz, h => by
    unfold r15_Place_fu
    refine RB.cond (fun _ => RB.bind (col_rb t e.Name) fun r _ => RB.ret ⟨?_, fun _ => ?_⟩) fun _ => ?_
    · have := esz_pos e
      rw [esz_eq]
      show 1 + eszL [] ≤ esz e
      rw [eszL]
      omega
    · refine eok_eq.2 ⟨by show (0 : Nat) ≤ 100; omega, by show (0 : Nat) ≤ 100; omega, ?_⟩
      show eokL []
      rw [eokL]
      trivial
    · refine RB.bind (forE_ret (fun j (s : List qExpr) => s.length ≤ j ∧ eszL s ≤ eszL (e.Kids.take j) ∧ (eok e → eokL s)) ⟨by simp, by simp [eszL], by simp [eokL]⟩ ?_) ?_
      · rintro j s hj ⟨g0, g1, g2⟩
        refine y8 hj fun x hx hm => ?_
        have hx1 := kid_sz hm
        have hkl := eszL_len e.Kids
        have h1 := esz_eq e
        refine RB.bind (place_fu t n x (by omega) fun hb => by have := h hb; omega) ?_
        rintro r ⟨r1, r2⟩
        refine RB.ap (by simp only [List.length_cons, List.length_nil]; omega) (RB.ret ⟨by simp; omega, by rw [eszL_next hx, eszL_app, eszL, eszL]; omega, fun ho => eokL_iff.2 fun y hy => ?_⟩)
        rcases List.mem_append.1 hy with hy | hy
        · exact eokL_iff.1 (g2 ho) y hy
        · simp at hy; subst hy; exact r2 (eokL_iff.1 (eok_eq.1 ho).2.2 x hm)
      · rintro s ⟨_, g1, g2⟩
        rw [List.take_length] at g1
        exact RB.ret ⟨by rw [esz_eq, esz_eq]; simp only; omega, fun ho => eok_eq.2 ⟨(eok_eq.1 ho).1, (eok_eq.1 ho).2.1, g2 ho⟩⟩
theorem resolve_rb {b : Prop} (t : qTable) {e : qExpr} (hz : esz e ≤ 1000) (ho : eok e) : RB b (r15_Resolve t e) (fun r => r.2 = 0 → esz r.1 ≤ 1000 ∧ eok r.1) := by
  unfold r15_Resolve r15_Place
  refine RB.bind (echeck_rb false ho) fun r _ => RB.cond (fun hc => RB.ret fun h => by simp only at h; subst h; cases hc) fun _ => RB.bind (enames_rb hz) fun l _ => ?_
  refine RB.bind (forN_ret (fun _ _ => True) (Q := fun r => r.1 = 4) trivial fun j s hj _ => y8 hj fun x _ _ => RB.bind (col_rb t x) fun _ _ => RB.cond (fun _ => RB.ret rfl) (fun _ => RB.ret trivial)) ?_
  rintro (s | ⟨s1, s2⟩) hs
  · exact RB.bind (fuel_tt (esz e) fun n => place_fu t n e hz fun h => h) fun r hr => RB.ret fun _ => ⟨Nat.le_trans hr.1 hz, hr.2 ho⟩
  · simp only at hs
    subst hs
    exact RB.ret fun h => by cases h
theorem first_tt {b : Prop} (l : List Int) : RB b (r15_first l) TT := by
  unfold r15_first
  refine RB.bind (R := TT) (forN_tt fun j s hj => y8 hj fun _ _ _ => RB.cond (fun _ => y8 hj fun _ _ _ => RB.ret trivial) (fun _ => RB.ret trivial)) ?_
  rintro (_ | _) _ <;> exact RB.ret trivial
theorem all_tt {b : Prop} (l : List Int) (k : Int) : RB b (r15_all l k) TT := by
  unfold r15_all
  refine RB.bind (R := TT) (forN_tt fun j s hj => y8 hj fun _ _ _ => RB.bind (R := TT) (RB.cond (fun _ => y8 hj fun _ _ _ => RB.ret trivial) (fun _ => RB.ret trivial)) fun _ _ => RB.cond (fun _ => RB.ret trivial) (fun _ => RB.ret trivial)) ?_
  rintro (_ | _) _ <;> exact RB.ret trivial
theorem made_tt {b : Prop} {e : qExpr} {l : List Int} (h : e.Kind = 6 → 0 < l.length) : RB b (r15_made e l) TT := by
  unfold r15_made
  have h6 : ∀ {α : Type} {f : Int → Option α} {Q : α → Prop}, (e.Kind == 6) = true → (∀ x, RB b (f x) Q) → RB b ((idx l 0).bind f) Q := fun hk hf => y8 (i := 0) (h (by simpa using hk)) fun x _ _ => hf x
  refine RB.cond (fun _ => RB.ret trivial) fun _ => yao (RB.bind (R := TT) ?_ ?_)
  · refine RB.cond (fun _ => RB.ret trivial) fun _ => RB.bind (R := TT) (RB.cond (fun _ => RB.bind (first_tt l) fun _ _ => RB.ret trivial) fun _ => RB.bind (R := TT) (RB.cond (fun _ => RB.ret trivial) fun _ => RB.bind (R := TT) (RB.cond (fun k => h6 k fun _ => RB.ret trivial) (fun _ => RB.ret trivial)) fun c _ => RB.cond (fun _ => RB.ret trivial) fun _ => RB.bind (R := TT) (RB.cond (fun k => h6 k fun _ => RB.ret trivial) fun _ => yao (RB.bind (R := TT) (RB.cond (fun _ => RB.ret trivial) fun _ => yao (RB.bind (R := TT) (RB.cond (fun _ => RB.bind (first_tt l) fun _ _ => RB.bind (first_tt l) fun _ _ => RB.ret trivial) (fun _ => RB.ret trivial)) ?_)) ?_)) ?_) ?_) ?_
    all_goals first | (rintro (⟨_, _⟩ | _) _ <;> exact RB.ret trivial; done) | (rintro ⟨_, _⟩ _; exact RB.ret trivial)
  · rintro (⟨k, m⟩ | _) _
    · exact RB.bind (all_tt l k) fun _ _ => RB.cond (fun _ => RB.ret trivial) (fun _ => RB.ret trivial)
    · exact RB.ret trivial
theorem find_fu {b : Prop} (cols : List Int) : ∀ (n : Nat) (e : qExpr), esz e ≤ 1000 → ert e → (b → esz e ≤ n) → RB b (r15_find_fu n e cols []) TT
  | 0, e, _, _, h => RB.none fun hb => by have := h hb; have := esz_pos e; omega
  | n + 1, e, hz, he, h => by
    obtain ⟨e6, e3, e8, ek⟩ := ert_eq.1 he
    have hkl := eszL_len e.Kids
    have h1 := esz_eq e
    unfold r15_find_fu
    refine RB.cond (fun _ => RB.ret trivial) fun _ => RB.cond (fun _ => RB.ret trivial) fun _ => RB.bind (R := fun (p : List Int × Int) => e.Kind = 3 ∨ e.Kind = 8 → 0 ≤ p.2) ?_ ?_
    · refine RB.cond (fun k => RB.ret fun _ => ?_) (fun k => RB.ret fun hk => ?_)
      · have := e3 (by simpa using k)
        show 0 ≤ w64 (e.Op - 1)
        rw [w64_id (by omega) (by omega)]
        omega
      · rcases hk with hk | hk
        · rw [hk] at k; cases k
        · exact (e8 hk).1
    · rintro ⟨p, q⟩ hq
      refine RB.cond (fun hk => ?_) fun _ => ?_
      · have h0 : 0 ≤ q := hq (by simpa using hk)
        refine RB.cond (fun _ => RB.ret trivial) fun hc => ?_
        have hl : q < (p.length : Int) := by simpa using hc
        exact yax h0 hl fun _ _ _ => RB.bind (R := TT) (RB.cond (fun _ => RB.ret trivial) fun _ => yax h0 hl fun _ _ _ => RB.ret trivial) fun _ _ => RB.cond (fun _ => RB.ret trivial) fun _ => yax h0 hl fun _ _ _ => RB.ret trivial
      · refine RB.bind (forN_ret (fun j (s : List Int) => s.length = j) (Q := fun _ => True) rfl ?_) ?_
        · rintro j s hj hs
          refine y8 hj fun x hx hm => RB.bind (find_fu cols n x (by have := kid_sz hm; omega) (ertL_iff.1 ek x hm) fun hb => by have := h hb; have := kid_sz hm; omega) ?_
          rintro ⟨r1, r2⟩ _
          exact RB.cond (fun _ => RB.ret trivial) fun _ => RB.ap (by simp only [List.length_cons, List.length_nil]; omega) (RB.ret (by simp [hs]))
        · rintro (s | ⟨_, _⟩) hs
          · refine RB.bind (made_tt fun k => ?_) fun _ _ => RB.cond (fun _ => RB.ret trivial) (fun _ => RB.ret trivial)
            have := e6 k
            simp only at hs
            omega
          · exact RB.ret trivial
theorem bool_tt {b : Prop} {e : qExpr} (cols : List Int) (hz : esz e ≤ 1000) (ho : eok e) : RB b (r15_Bool e cols []) TT := by
  unfold r15_Bool r15_Type r15_find
  refine RB.bind (R := TT) (RB.bind (echeck_rb true ho) fun r hr => RB.cond (fun _ => RB.ret trivial) fun hc => RB.bind (fuel_tt (esz e) fun n => find_fu cols n e hz (hr (by simpa using hc)) fun h => h) ?_) ?_
  · rintro ⟨_, _⟩ _; exact RB.ret trivial
  · rintro ⟨_, _⟩ _; exact RB.cond (fun _ => RB.ret trivial) fun _ => RB.cond (fun _ => RB.ret trivial) (fun _ => RB.ret trivial)
end Go.Proofs.YtdmapcjbbbifbaaGreat
set_option maxRecDepth 100000
namespace Go.Proofs.YtdmapcjbbbifbaaGreat
open Go.Gv
structure TB (n : Nat) (t : qTable) : Prop where
  cols : t.Cols.length ≤ n
  cons : t.Cons.length ≤ n
  idx : t.Idx.length ≤ n
  nm : t.Name.size ≤ 100
  ow : t.Owner.size ≤ 100
  cn : ∀ x ∈ t.Cols, x.Name.size ≤ 100
  xs : ∀ x ∈ t.Cons, x.Name.size ≤ 100 ∧ x.Table.size ≤ 100 ∧ x.Cols.length ≤ n ∧ x.Refs.length ≤ n ∧ Es x.Check
  is : ∀ x ∈ t.Idx, x.Name.size ≤ 100 ∧ x.Cols.length ≤ n
theorem TB.up {n m : Nat} {t : qTable} (h : TB n t) (hm : n ≤ m) : TB m t :=
  ⟨by have := h.cols; omega, by have := h.cons; omega, by have := h.idx; omega, h.nm, h.ow, h.cn, fun x hx => by obtain ⟨a, b, c, d, e⟩ := h.xs x hx; exact ⟨a, b, by omega, by omega, e⟩, fun x hx => by obtain ⟨a, b⟩ := h.is x hx; exact ⟨a, by omega⟩⟩
theorem has_rb {b : Prop} (xs : List ByteArray) (n : ByteArray) : RB b (r14_Has xs n) (fun r => r = true ↔ n ∈ xs) := RB.ex (has_eq xs n)
theorem grow {α β : Type} {b : Prop} {k : Nat} (g : α → β) {xs : List α} {s0 : List β} (hk : (s0.length + xs.length) * k ≤ 140737488355328) {step : Nat → List β → Option (List β)} (h : ∀ j s x, xs[j]? = some x → step j s = (app k s [g x]).bind fun y => some y) :
    RB b (forE step xs.length 0 s0) (fun r => r = s0 ++ xs.map g) := by
  refine (forE_ret (fun j s => s = s0 ++ (xs.take j).map g) (by simp) ?_).mono fun r hr => by rw [hr, List.take_length]
  rintro j s hj rfl
  rw [h j _ _ (List.getElem?_eq_getElem hj)]
  refine RB.ap ?_ (RB.ret ?_)
  · refine Nat.le_trans (Nat.mul_le_mul_right k ?_) hk
    simp
    omega
  · rw [take_next (List.getElem?_eq_getElem hj), List.map_append, List.map_cons, List.map_nil, List.append_assoc]
theorem tnames_rb {b : Prop} {n : Nat} {t : qTable} (h : TB n t) (hn : n ≤ 1000) : RB b (r14_Names t) (fun r => r.1 = t.Cols.map (·.Name) ∧ r.2 = t.Cons.map (·.Name) ++ t.Idx.map (·.Name)) := by
  have h1 := h.cols
  have h2 := h.cons
  have h3 := h.idx
  unfold r14_Names
  refine RB.bind (grow (k := 16) (fun (x : qColumn) => x.Name) (by simp; omega) fun j s x hx => by rw [idx_nat, hx]; rfl) ?_
  rintro _ rfl
  refine RB.bind (grow (k := 16) (fun (x : qCons) => x.Name) (by simp; omega) fun j s x hx => by rw [idx_nat, hx]; rfl) ?_
  rintro _ rfl
  refine RB.bind (grow (k := 16) (fun (x : qIndex) => x.Name) (by simp; omega) fun j s x hx => by rw [idx_nat, hx]; rfl) ?_
  rintro _ rfl
  exact RB.ret ⟨by simp, by simp⟩
theorem tlists_rb {b : Prop} {n : Nat} {t : qTable} (h : TB n t) (hn : n ≤ 1000) : RB b (r14_lists t) (fun r => r = t.Cons.map (·.Cols) ++ t.Idx.map (·.Cols)) := by
  have h2 := h.cons
  have h3 := h.idx
  unfold r14_lists
  refine RB.bind (grow (k := 24) (fun (x : qCons) => x.Cols) (by simp; omega) fun j s x hx => by rw [idx_nat, hx]; rfl) ?_
  rintro _ rfl
  refine RB.bind (grow (k := 24) (fun (x : qIndex) => x.Cols) (by simp; omega) fun j s x hx => by rw [idx_nat, hx]; rfl) ?_
  rintro _ rfl
  exact RB.ret (by simp)
theorem lists_len {n : Nat} {t : qTable} (h : TB n t) {l : List ByteArray} (hl : l ∈ t.Cons.map (·.Cols) ++ t.Idx.map (·.Cols)) : l.length ≤ n := by
  rcases List.mem_append.1 hl with hl | hl
  · obtain ⟨x, hx, rfl⟩ := List.mem_map.1 hl
    exact (h.xs x hx).2.2.1
  · obtain ⟨x, hx, rfl⟩ := List.mem_map.1 hl
    exact (h.is x hx).2
theorem used_rb {b : Prop} {n : Nat} {t : qTable} (h : TB n t) (hn : n ≤ 1000) : RB b (r14_Used t) (fun r => ∀ x ∈ t.Cons, ∀ s ∈ x.Cols, s ∈ r) := by
  have h2 := h.cons
  have h3 := h.idx
  unfold r14_Used
  refine RB.bind (tlists_rb h hn) ?_
  rintro r rfl
  have hlen : (t.Cons.map (·.Cols) ++ t.Idx.map (·.Cols)).length ≤ 2000 := by simp; omega
  generalize hL : t.Cons.map (·.Cols) ++ t.Idx.map (·.Cols) = L at hlen ⊢
  refine RB.bind (forE_ret (fun j (s : List ByteArray) => s.length ≤ j * 1000 ∧ ∀ l ∈ L.take j, ∀ x ∈ l, x ∈ s) ⟨by simp, by simp⟩ ?_) ?_
  · rintro j s hj ⟨g1, g2⟩
    refine y8 hj fun l hl hm => ?_
    have hll : l.length ≤ n := lists_len h (by rw [hL]; exact hm)
    refine RB.ap (by omega) (RB.ret ⟨by simp; omega, ?_⟩)
    rw [take_next hl]
    intro l' hl' x hx
    rcases List.mem_append.1 hl' with hl' | hl'
    · exact List.mem_append_left _ (g2 l' hl' x hx)
    · simp at hl'; subst hl'; exact List.mem_append_right _ hx
  · rintro s ⟨g1, g2⟩
    rw [List.take_length] at g2
    refine RB.bind (forE_ret (fun j (u : List ByteArray) => u.length ≤ (2000 + j) * 1000 ∧ ∀ x ∈ s, x ∈ u) ⟨by omega, fun x hx => hx⟩ ?_) ?_
    · rintro j u hj ⟨k1, k2⟩
      refine y8 hj fun x _ hm => RB.bind (R := fun (v : List ByteArray) => v.length ≤ (2000 + (j + 1)) * 1000 ∧ ∀ x ∈ s, x ∈ v) ?_ fun v hv => RB.ret hv
      refine RB.cond (fun _ => y8 hj fun y _ hm' => ?_) fun _ => RB.ret ⟨by omega, k2⟩
      have hz : esz y.Check ≤ 1000 := Nat.le_trans (h.xs y hm').2.2.2.2.1 (by omega)
      refine RB.bind (enames_rb hz) fun v hv => ?_
      have hv : v.length ≤ 1000 := hv
      refine RB.ap ?_ (RB.ret ⟨by rw [List.length_append]; omega, fun z hz => List.mem_append_left _ (k2 z hz)⟩)
      have : u.length + v.length ≤ 4000000 := by omega
      omega
    · rintro u ⟨_, k2⟩
      refine RB.ret fun x hx z hz => k2 z (g2 x.Cols ?_ z hz)
      rw [← hL]
      exact List.mem_append_left _ (List.mem_map_of_mem hx)
theorem twice_tt {b : Prop} (l : List ByteArray) : RB b (r14_twice l) TT := by
  unfold r14_twice
  refine RB.bind (R := TT) (forN_tt fun j s hj => ?_) ?_
  · rw [sub_at (xs := l) (lo := 0) (hi := (j : Int)) (i := 0) (j := j) rfl rfl (by omega) (by omega)]
    exact y8 hj fun _ _ _ => RB.bind (has_rb _ _) fun _ _ => RB.cond (fun _ => RB.ret trivial) (fun _ => RB.ret trivial)
  · rintro (_ | _) _ <;> exact RB.ret trivial
theorem forN_q {σ τ : Type} {b : Prop} {step : Nat → σ → Option (σ ⊕ τ)} {n : Nat} {s : σ} {Q : τ → Prop} (hs : ∀ j s, j < n → RB b (step j s) (fun r => match r with | .inl _ => True | .inr t => Q t)) :
    RB b (forN step n 0 s) (fun r => match r with | .inl _ => True | .inr t => Q t) := forN_ret (fun _ _ => True) trivial fun j s hj _ => hs j s hj
def NE (t : qTable) : Prop := ∀ x ∈ t.Cons, x.Kind = 1 → x.Cols ≠ []
theorem wrong_rb {b : Prop} {n : Nat} {t : qTable} (h : TB n t) (hn : n ≤ 1000) : RB b (r14_wrong t) (fun r => r = 0 → NE t) := by
  have h1 := h.cols
  have h2 := h.cons
  have h3 := h.idx
  have no : ∀ {k : Int} {C : Prop}, k ≠ 0 → (k = 0 → C) := fun hk he => absurd he hk
  unfold r14_wrong
  refine RB.bind (tnames_rb h hn) ?_
  rintro ⟨r1, r2⟩ ⟨e1, e2⟩
  simp only at e1 e2
  subst e1 e2
  refine RB.ap (by simp; omega) (RB.ap (by simp; omega) ?_)
  have hsz : ∀ s ∈ [t.Name, t.Owner] ++ t.Cols.map (·.Name) ++ (t.Cons.map (·.Name) ++ t.Idx.map (·.Name)), s.size ≤ 100 := by
    intro s hs
    simp only [List.mem_append, List.mem_cons, List.not_mem_nil, or_false, List.mem_map] at hs
    rcases hs with ((rfl | rfl) | ⟨x, hx, rfl⟩) | ⟨x, hx, rfl⟩ | ⟨x, hx, rfl⟩
    · exact h.nm
    · exact h.ow
    · exact h.cn x hx
    · exact (h.xs x hx).1
    · exact (h.is x hx).1
  generalize [t.Name, t.Owner] ++ t.Cols.map (·.Name) ++ (t.Cons.map (·.Name) ++ t.Idx.map (·.Name)) = A at hsz ⊢
  refine RB.bind (forN_q (Q := fun r => r ≠ 0) fun j s hj => y8 hj fun x _ hx => RB.bind (rname_tt (hsz x hx)) fun _ _ => RB.cond (fun _ => RB.ret (by decide)) (fun _ => RB.ret trivial)) ?_
  rintro (_ | _) g
  rotate_left
  · exact RB.ret (no g)
  refine RB.cond (fun _ => RB.ret (no (by decide))) fun _ => RB.bind (forN_q (Q := fun r => r ≠ 0) fun j s hj => y8 hj fun x _ hx => RB.bind (R := TT) (RB.cond (fun _ => RB.ret trivial) fun _ => y8 hj fun _ _ _ => RB.ret trivial) fun _ _ => RB.cond (fun _ => RB.ret (by decide)) (fun _ => RB.ret trivial)) ?_
  rintro (_ | _) g
  rotate_left
  · exact RB.ret (no g)
  refine RB.bind (forN_q (Q := fun r => r ≠ 0) fun j s hj => y8 hj fun x _ hx => RB.bind (R := TT) (RB.cond (fun _ => RB.ret trivial) fun _ => y8 hj fun _ _ _ => RB.ret trivial) fun _ _ => RB.cond (fun _ => RB.ret (by decide)) (fun _ => RB.ret trivial)) ?_
  rintro (_ | _) g
  rotate_left
  · exact RB.ret (no g)
  refine yao (yao (RB.cond (fun _ => RB.ret (no (by decide))) fun _ => RB.bind (tlists_rb h hn) fun l hl => ?_))
  have hl : l = t.Cons.map (·.Cols) ++ t.Idx.map (·.Cols) := hl
  have hll : t.Cons.length ≤ l.length := by rw [hl]; simp
  refine RB.bind (forN_ret (fun j _ => ∀ i x, i < j → t.Cons[i]? = some x → x.Kind = 1 → x.Cols ≠ []) (Q := fun r => r ≠ 0) (fun i x hi => by omega) ?_) ?_
  · intro j s hj g
    have hlt : ∀ {α : Type} {f : qCons → Option α} {Q : α → Prop}, decide ((j : Int) < (t.Cons.length : Int)) = true → (∀ x, t.Cons[j]? = some x → RB b (f x) Q) → RB b ((Gv.idx t.Cons (j : Int)).bind f) Q := fun hc hf => y8 (by simpa using hc) fun x hx _ => hf x hx
    refine RB.bind (R := fun (q : Bool) => q = true → ∀ x, t.Cons[j]? = some x → x.Kind = 2) (RB.cond (fun hc => hlt hc fun x hx => RB.ret fun hq y hy => by rw [hx] at hy; injection hy with hy; subst hy; simpa using hq) (fun _ => RB.ret fun h => by cases h)) fun q hq => ?_
    refine RB.bind (R := fun (q' : Bool) => q' = false → q = false → ∀ x, t.Cons[j]? = some x → x.Cols ≠ []) (RB.cond (fun hc => y8 hj fun u hu _ => RB.bind (R := fun (q' : Bool) => q' = false → u ≠ []) (RB.cond (fun _ => RB.ret fun h => by cases h) fun hc => y8 hj fun _ _ _ => RB.ret fun _ hu => by subst hu; simp at hc) fun q' hq' => RB.ret fun hf _ x hx => ?_) (fun hc => RB.ret fun _ hq => by subst hq; cases hc)) fun q' hq' => ?_
    · have : l[j]? = some x.Cols := by
        rw [hl, List.getElem?_append_left (by simpa using (List.getElem?_eq_some_iff.1 hx).1), List.getElem?_map, hx]
        rfl
      rw [hu] at this
      injection this with this
      rw [← this]
      exact hq' hf
    · refine RB.cond (fun _ => RB.ret (show (3 : Int) ≠ 0 by decide)) fun hc => ?_
      have goal : ∀ i x, i < j + 1 → t.Cons[i]? = some x → x.Kind = 1 → x.Cols ≠ [] := by
        intro i x hi hx hk
        by_cases hij : i < j
        · exact g i x hij hx hk
        · have : i = j := by omega
          subst this
          cases q with
          | false => exact hq' hc rfl x hx
          | true => rw [hq rfl x hx] at hk; cases hk
      refine RB.bind (R := fun (q : Bool) => q = true → j < t.Cons.length) (RB.cond (fun hc => hlt hc fun _ _ => RB.ret fun _ => by simpa using hc) (fun _ => RB.ret fun h => by cases h)) fun q hq => RB.bind (R := TT) (RB.cond (fun hc => y8 (hq hc) fun _ _ _ => RB.bind (R := TT) (RB.cond (fun _ => RB.ret trivial) fun _ => y8 (hq hc) fun _ _ _ => RB.ret trivial) fun _ _ => RB.ret trivial) (fun _ => RB.ret trivial)) fun _ _ => RB.cond (fun _ => RB.ret (show (3 : Int) ≠ 0 by decide)) (fun _ => RB.ret goal)
  rintro (_ | _) g2
  rotate_left
  · exact RB.ret (no g2)
  have ne : NE t := fun x hx => by
    obtain ⟨i, hi, rfl⟩ := List.mem_iff_getElem.1 hx
    exact g2 i _ (by omega) (List.getElem?_eq_getElem hi)
  refine RB.mono (Q := TT) ?_ (fun _ _ _ => ne)
  refine RB.bind (twice_tt _) fun _ _ => RB.bind (R := TT) (RB.cond (fun _ => RB.ret trivial) fun _ => RB.bind (twice_tt _) fun _ _ => RB.ret trivial) fun _ _ => RB.cond (fun _ => RB.ret trivial) fun _ => RB.bind (R := TT) (forN_tt fun j s hj => ?_) ?_
  · have hlt : ∀ {α : Type} {f : qCons → Option α} {Q : α → Prop}, decide ((j : Int) < (t.Cons.length : Int)) = true → (∀ x, RB b (f x) Q) → RB b ((Gv.idx t.Cons (j : Int)).bind f) Q := fun hc hf => y8 (by simpa using hc) fun x _ _ => hf x
    exact y8 hj fun _ _ _ => RB.bind (twice_tt _) fun _ _ => RB.bind (R := TT) (RB.cond (fun _ => RB.ret trivial) fun _ => RB.bind (R := TT) (RB.cond (fun hc => hlt hc fun _ => RB.bind (twice_tt _) fun _ _ => RB.ret trivial) (fun _ => RB.ret trivial)) fun _ _ => RB.ret trivial) fun _ _ => RB.cond (fun _ => RB.ret trivial) (fun _ => RB.ret trivial)
  · rintro (_ | _) _ <;> exact RB.ret trivial
end Go.Proofs.YtdmapcjbbbifbaaGreat
set_option maxRecDepth 100000
namespace Go.Proofs.YtdmapcjbbbifbaaGreat
open Go.Gv
structure TR (t : qTable) : Prop where
  ne : NE t
  cs : ∀ x ∈ t.Cons, ∀ s ∈ x.Cols, ∃ c ∈ t.Cols, c.Name = s
  rf : ∀ x ∈ t.Cons, x.Kind = 3 → x.Refs.length = x.Cols.length
theorem tcheck_rb {b : Prop} {n : Nat} {t : qTable} (h : TB n t) (hn : n ≤ 1000) : RB b (r14_Check t) (fun r => r = 0 → TR t) := by
  unfold r14_Check
  have no : ∀ {k : Int} {C : Prop}, k ≠ 0 → (k = 0 → C) := fun hk he => absurd he hk
  refine RB.bind (wrong_rb h hn) fun r hr => RB.cond (fun hc => RB.ret (no (by simpa using hc))) fun hc => ?_
  have hne : NE t := hr (by simpa using hc)
  refine RB.bind (tnames_rb h hn) ?_
  rintro ⟨r1, r2⟩ ⟨e1, e2⟩
  simp only at e1 e2
  subst e1 e2
  refine RB.bind (used_rb h hn) fun u hu => RB.bind (forN_ret (fun j _ => ∀ s ∈ u.take j, ∃ c ∈ t.Cols, c.Name = s) (Q := fun r => r ≠ 0) (by simp) ?_) ?_
  · intro j s hj g
    refine y8 hj fun x hx _ => RB.bind (has_rb _ _) fun q hq => RB.cond (fun _ => RB.ret (show (4 : Int) ≠ 0 by decide)) fun hc => RB.ret ?_
    show ∀ s ∈ u.take (j + 1), _
    rw [take_next hx]
    intro y hy
    rcases List.mem_append.1 hy with hy | hy
    · exact g y hy
    · simp only [List.mem_cons, List.not_mem_nil, or_false] at hy
      subst hy
      have := hq.1 (by simpa using hc)
      simpa using this
  rintro (_ | _) g1
  rotate_left
  · exact RB.ret (no g1)
  rw [List.take_length] at g1
  refine RB.bind (forN_q (Q := fun r => r ≠ 0) fun j s hj => ?_) ?_
  · refine RB.bind (R := fun (r : Bool ⊕ Int) => match r with | .inl _ => True | .inr k => k = 17) (y8 hj fun x _ _ => RB.cond (fun _ => RB.ret trivial) fun _ => y8 hj fun y _ hy => RB.bind (echeck_rb false (h.xs y hy).2.2.2.2.2) fun _ _ => RB.cond (fun _ => RB.ret rfl) fun _ => RB.bind (R := TT) (RB.cond (fun _ => RB.ret trivial) fun _ => y8 hj fun z _ hz => RB.bind (params_tt (Nat.le_trans (h.xs z hz).2.2.2.2.1 (by omega))) fun _ _ => RB.ret trivial) fun _ _ => RB.ret trivial) ?_
    rintro (_ | k) hk
    · exact RB.ret trivial
    · simp only at hk
      subst hk
      exact RB.ret (show (17 : Int) ≠ 0 by decide)
  rintro (_ | _) g2
  rotate_left
  · exact RB.ret (no g2)
  refine RB.cond (fun _ => RB.ret (no (by decide))) fun _ => RB.bind (forN_ret (fun j _ => ∀ x ∈ t.Cons.take j, x.Kind = 3 → x.Refs.length = x.Cols.length) (Q := fun r => r ≠ 0) (by simp) ?_) ?_
  · intro j s hj g
    refine y8 hj fun x hx hm => RB.bind (R := TT) (RB.cond (fun _ => RB.bind (none_tt _) fun _ _ => RB.ret trivial) (fun _ => RB.ret trivial)) fun _ _ => yao (RB.cond (fun _ => RB.ret (show (2 : Int) ≠ 0 by decide)) fun _ => ?_)
    refine RB.bind (R := fun (q : Bool) => q = false → x.Kind = 3 → x.Refs.length = x.Cols.length) (RB.cond (fun _ => RB.bind (rname_tt (h.xs x hm).2.1) fun q _ => yao (RB.ret fun hq _ => ?_)) (fun hc => RB.ret fun _ hk => by rw [hk] at hc; cases hc)) fun q hq => yao (RB.cond (fun _ => RB.ret (show (2 : Int) ≠ 0 by decide)) fun hc => RB.ret ?_)
    · simp only [Bool.or_eq_false_iff, bne_eq_false_iff_eq] at hq
      omega
    · simp only [Bool.or_eq_false_iff] at hc
      show ∀ x ∈ t.Cons.take (j + 1), _
      rw [take_next hx]
      intro y hy
      rcases List.mem_append.1 hy with hy | hy
      · exact g y hy
      · simp only [List.mem_cons, List.not_mem_nil, or_false] at hy
        subst hy
        exact hq hc.1
  rintro (_ | _) g3
  rotate_left
  · exact RB.ret (no g3)
  rw [List.take_length] at g3
  exact RB.ret fun _ => ⟨hne, fun x hx s hs => g1 s (hu x hx s hs), g3⟩
theorem places_rb {b : Prop} (t : qTable) {l : List ByteArray} (hl : l.length ≤ 1000) : RB b (r14_Places t l) (fun r => (∀ k ∈ r.1, 0 ≤ k ∧ k < (t.Cols.length : Int)) ∧ (r.2 = 0 ∧ r.1.length = l.length ∨ r.2 ≠ 0 ∧ r.1 = [] ∧ ∃ s ∈ l, ∀ c ∈ t.Cols, c.Name ≠ s)) := by
  unfold r14_Places
  refine RB.bind (forN_ret (fun j (s : List Int) => s.length = j ∧ ∀ k ∈ s, 0 ≤ k ∧ k < (t.Cols.length : Int)) (Q := fun r => r.1 = [] ∧ r.2 ≠ 0 ∧ ∃ s ∈ l, ∀ c ∈ t.Cols, c.Name ≠ s) ⟨rfl, by simp⟩ ?_) ?_
  · rintro j s hj ⟨g1, g2⟩
    refine y8 hj fun x hx hm => RB.bind (col_rb t x) fun r hr => RB.cond (fun hc => RB.ret ⟨rfl, show (4 : Int) ≠ 0 by decide, x, hm, ?_⟩) fun hc => RB.ap (by simp only [List.length_cons, List.length_nil]; omega) (RB.ret ⟨by simp [g1], ?_⟩)
    · rcases hr with ⟨_, hr⟩ | ⟨hr, _⟩
      · exact hr
      · simp at hc; omega
    · intro k hk
      rcases List.mem_append.1 hk with hk | hk
      · exact g2 k hk
      · simp at hk
        subst hk
        rcases hr with ⟨hr, _⟩ | hr
        · subst hr; simp at hc
        · exact hr
  · rintro (s | ⟨s1, s2⟩) g
    · exact RB.ret ⟨g.2, .inl ⟨rfl, g.1⟩⟩
    · obtain ⟨e1, e2, e3⟩ := g
      simp only at e1 e2
      subst e1
      exact RB.ret ⟨by simp, .inr ⟨e2, rfl, e3⟩⟩
theorem alike_tt {b : Prop} (p q : List ByteArray) : RB b (r17_alike p q) TT := by
  unfold r17_alike
  refine RB.cond (fun _ => RB.ret trivial) fun hc => ?_
  have hl : p.length = q.length := by simp at hc; omega
  refine RB.bind (R := TT) (forN_tt fun j s hj => RB.bind (R := TT) (forE_tt ?_) ?_) ?_
  · rintro i ⟨s1, s2⟩ hi
    exact y8 hi fun _ _ _ => y8 hj fun _ _ _ => RB.bind (R := TT) (RB.cond (fun _ => RB.ret trivial) (fun _ => RB.ret trivial)) fun _ _ => y8 (by omega) fun _ _ _ => y8 hj fun _ _ _ => RB.bind (R := TT) (RB.cond (fun _ => RB.ret trivial) (fun _ => RB.ret trivial)) fun _ _ => RB.ret trivial
  · rintro ⟨_, _⟩ _
    exact RB.cond (fun _ => RB.ret trivial) (fun _ => RB.ret trivial)
  · rintro (_ | _) _ <;> exact RB.ret trivial
theorem keys_tt {b : Prop} (t : qTable) (l : List ByteArray) : RB b (r17_keys t l) TT := by
  unfold r17_keys
  exact RB.bind (R := TT) (forE_tt fun j s hj => y8 hj fun _ _ _ => RB.bind (R := TT) (RB.cond (fun _ => y8 hj fun _ _ _ => RB.bind (alike_tt _ _) fun _ _ => RB.ret trivial) (fun _ => RB.ret trivial)) fun _ _ => RB.bind (R := TT) (RB.cond (fun _ => RB.ret trivial) (fun _ => RB.ret trivial)) fun _ _ => RB.ret trivial) fun _ _ => RB.ret trivial
theorem tat_rb {b : Prop} (c : qCatalog) (n : ByteArray) : RB b (r17_At c n) (fun r => r = -1 ∨ 0 ≤ r ∧ r < (c.Tables.length : Int)) := by
  unfold r17_At
  refine RB.bind (forN_q (Q := fun r => 0 ≤ r ∧ r < (c.Tables.length : Int)) fun j s hj => y8 hj fun _ _ _ => RB.cond (fun _ => RB.ret ⟨by omega, by omega⟩) (fun _ => RB.ret trivial)) ?_
  rintro (_ | _) g
  · exact RB.ret (.inl rfl)
  · exact RB.ret (.inr g)
theorem foreign_tt {b : Prop} {c : qCatalog} {t : qTable} {x : qCons} (ht : TR t) (hx : x ∈ t.Cons) (hk : x.Kind = 3) (h1 : x.Cols.length ≤ 1000) (h2 : x.Refs.length ≤ 1000) : RB b (r17_foreign c t x) TT := by
  unfold r17_foreign
  refine RB.bind (R := TT) (RB.cond (fun _ => RB.bind (tat_rb c _) fun r hr => RB.cond (fun _ => RB.ret trivial) fun hc => ?_) (fun _ => RB.ret trivial)) ?_
  · simp only [decide_eq_false_iff_not] at hc
    exact yax (by omega) (by rcases hr with hr | hr <;> omega) fun _ _ _ => RB.ret trivial
  rintro (⟨_, _⟩ | p) _
  · exact RB.ret trivial
  refine RB.bind (places_rb p h2) ?_
  rintro ⟨l1, k1⟩ ⟨p1, p2⟩
  refine RB.bind (places_rb t h1) ?_
  rintro ⟨l2, k2⟩ ⟨q1, q2⟩
  simp only at p1 p2 q1 q2
  refine RB.cond (fun _ => RB.ret trivial) fun hc => ?_
  have e1 : l1.length = x.Refs.length := by
    rcases p2 with ⟨_, h⟩ | ⟨h, _⟩
    · exact h
    · simp at hc; exact absurd hc h
  have e2 : l2.length = x.Cols.length := by
    rcases q2 with ⟨_, h⟩ | ⟨_, _, s, hs, h⟩
    · exact h
    · obtain ⟨d, hd, he⟩ := ht.cs x hx s hs
      exact absurd he (h d hd)
  have e3 := ht.rf x hx hk
  refine RB.bind (R := TT) (forN_tt fun j s hj => y8 (by omega) fun u _ hu => yax (q1 u hu).1 (q1 u hu).2 fun _ _ _ => y8 hj fun v _ hv => yax (p1 v hv).1 (p1 v hv).2 fun _ _ _ => RB.cond (fun _ => RB.ret trivial) (fun _ => RB.ret trivial)) ?_
  rintro (_ | _) _
  · exact RB.bind (keys_tt _ _) fun _ _ => RB.cond (fun _ => RB.ret trivial) (fun _ => RB.ret trivial)
  · exact RB.ret trivial
theorem sound_rb {b : Prop} {n : Nat} (c : qCatalog) {t : qTable} (h : TB n t) (hn : n ≤ 1000) : RB b (r17_Sound c t) (fun r => r = 0 → TR t) := by
  have no : ∀ {k : Int} {C : Prop}, k ≠ 0 → (k = 0 → C) := fun hk he => absurd he hk
  unfold r17_Sound
  refine RB.bind (tcheck_rb h hn) fun r hr => RB.cond (fun hc => RB.ret (no (by simpa using hc))) fun hc => ?_
  have ht : TR t := hr (by simpa using hc)
  refine RB.mono (Q := TT) ?_ (fun _ _ _ => ht)
  refine RB.bind (R := TT) (forN_tt fun j s hj => y8 hj fun x _ hx => ?_) ?_
  · obtain ⟨_, _, x1, x2, x3⟩ := h.xs x hx
    refine RB.bind (R := TT) (RB.cond (fun _ => RB.bind (resolve_rb t (Nat.le_trans x3.1 (by omega)) x3.2) ?_) (fun _ => RB.ret trivial)) fun _ _ => RB.bind (R := TT) (RB.cond (fun hk => RB.bind (foreign_tt ht hx (by simpa using hk) (by omega) (by omega)) fun _ _ => RB.ret trivial) (fun _ => RB.ret trivial)) fun _ _ => RB.cond (fun _ => RB.ret trivial) (fun _ => RB.ret trivial)
    rintro ⟨e, f⟩ hf
    refine RB.bind (R := TT) (RB.cond (fun hc => ?_) (fun _ => RB.ret trivial)) fun _ _ => RB.ret trivial
    obtain ⟨f1, f2⟩ := hf (by simpa using hc)
    have hcl := h.cols
    refine RB.bind (R := TT) ?_ fun l _ => RB.bind (bool_tt l f1 f2) fun _ _ => RB.ret trivial
    unfold r15_Cols
    exact RB.bind (grow (k := 8) (fun (x : qColumn) => x.Type_) (by simp; omega) fun j s x hx => by rw [idx_nat, hx]; rfl).tt fun _ _ => RB.ret trivial
  · rintro (_ | _) _ <;> exact RB.ret trivial
end Go.Proofs.YtdmapcjbbbifbaaGreat
set_option maxRecDepth 100000
namespace Go.Proofs.YtdmapcjbbbifbaaGreat
open Go.Gv
def CO (n : Nat) (x : qCons) : Prop := x.Name.size ≤ 100 ∧ x.Table.size ≤ 100 ∧ x.Cols.length ≤ n ∧ x.Refs.length ≤ n ∧ Es x.Check
def TN (n : Nat) (t : qTable) : Prop := TB n t ∧ NE t
structure CB (n : Nat) (c : qCatalog) : Prop where
  tabs : c.Tables.length ≤ n
  ok : ∀ t ∈ c.Tables, TN n t
  grants : c.Grants.length ≤ n
theorem CB.up {n m : Nat} {c : qCatalog} (h : CB n c) (hm : n ≤ m) : CB m c := ⟨by have := h.tabs; omega, fun t ht => ⟨(h.ok t ht).1.up hm, (h.ok t ht).2⟩, by have := h.grants; omega⟩
structure SF (s : qStmt) : Prop where
  cols : s.Cols.length ≤ 12
  cons : s.Cons.length ≤ 12
  names : s.Names.length ≤ 12
  table : s.Table.size ≤ 100
  name : s.Name.size ≤ 100
  cn : ∀ x ∈ s.Cols, x.Name.size ≤ 100
  xs : ∀ x ∈ s.Cons, CO 12 x
theorem copy_rb {b : Prop} {n : Nat} {t : qTable} (h : TB n t) (hn : n ≤ 1000) : RB b (r17_Copy t) (fun r => r = t) := by
  have h1 := h.cols
  have h2 := h.cons
  have h3 := h.idx
  unfold r17_Copy
  exact RB.ap (by simp; omega) (RB.ap (by simp; omega) (RB.ap (by simp; omega) (RB.ret rfl)))
theorem pointed_rb {b : Prop} {n : Nat} {t : qTable} (h : TN n t) (hn : n ≤ 1000) (p q : ByteArray) (hq : q.size ≤ 100) : RB b (r17_pointed t p q) (fun r => TN n r.1 ∧ r.1.Name = t.Name) := by
  have h2 := h.1.cons
  unfold r17_pointed
  refine RB.bind (copy_rb h.1 hn) ?_
  rintro _ rfl
  refine RB.bind (loopO_rb (fun (s : Bool × Int × List qCons) => ∃ i : Nat, s.2.1 = (i : Int) ∧ i ≤ s.2.2.length ∧ s.2.2.length ≤ n ∧ ∀ x ∈ s.2.2, CO n x ∧ (x.Kind = 1 → x.Cols ≠ [])) (fun s => s.2.2.length - s.2.1.toNat) (Q := fun s => s.2.length ≤ n ∧ ∀ x ∈ s.2, CO n x ∧ (x.Kind = 1 → x.Cols ≠ [])) ?_ ⟨0, rfl, by omega, h2, fun x hx => ⟨h.1.xs x hx, h.2 x hx⟩⟩) ?_
  · rintro ⟨c, _, l⟩ ⟨i, rfl, hi, hl, g⟩
    simp only at hi hl g
    refine RB.cond (fun hc => ?_) fun _ => RB.ret ⟨hl, g⟩
    have hlt : i < l.length := by simpa using hc
    have ew : w64 ((i : Int) + 1) = ((i + 1 : Nat) : Int) := by rw [w64_id (by omega) (by omega)]; rfl
    refine y8 hlt fun x hx hm => RB.bind (R := TT) (RB.cond (fun _ => y8 hlt fun _ _ _ => RB.ret trivial) (fun _ => RB.ret trivial)) fun _ _ => RB.bind (R := fun (r : Bool × List qCons) => r.2.length = l.length ∧ ∀ x ∈ r.2, CO n x ∧ (x.Kind = 1 → x.Cols ≠ [])) (RB.cond (fun _ => y8 hlt fun y _ hy => RB.ret ⟨by simp, fun z hz => ?_⟩) (fun _ => RB.ret ⟨rfl, g⟩)) ?_
    · rcases List.mem_or_eq_of_mem_set hz with hz | rfl
      · exact g z hz
      · obtain ⟨⟨c1, _, c3, c4, c5⟩, c6⟩ := g y hy
        exact ⟨⟨c1, hq, c3, c4, c5⟩, c6⟩
    · rintro ⟨c', l'⟩ ⟨e1, e2⟩
      simp only at e1 e2
      refine RB.ret ⟨⟨i + 1, ew, by simp only; omega, by simp only; omega, e2⟩, ?_⟩
      simp only [ew]
      omega
  · rintro ⟨c, l⟩ ⟨g1, g2⟩
    simp only at g1 g2
    exact RB.ret ⟨⟨⟨h.1.cols, g1, h.1.idx, h.1.nm, h.1.ow, h.1.cn, fun x hx => (g2 x hx).1, h.1.is⟩, fun x hx => (g2 x hx).2⟩, rfl⟩
theorem TN.ver {n : Nat} {t : qTable} (h : TN n t) (v : Int) : TN n { t with Version := v } := ⟨⟨h.1.cols, h.1.cons, h.1.idx, h.1.nm, h.1.ow, h.1.cn, h.1.xs, h.1.is⟩, h.2⟩
theorem TB.ver {n : Nat} {t : qTable} (h : TB n t) (v : Int) : TB n { t with Version := v } := ⟨h.cols, h.cons, h.idx, h.nm, h.ow, h.cn, h.xs, h.is⟩
theorem renamed_rb {b : Prop} {n : Nat} {c : qCatalog} {t : qTable} (h : CB n c) (ht : TN n t) (hn : n ≤ 1000) {q : ByteArray} (hq : q.size ≤ 100) : RB b (r17_renamed c t q) (fun r => CB n r.1 ∧ r.1.Roles = c.Roles ∧ TB n r.2) := by
  have h1 := h.tabs
  have h2 := h.grants
  unfold r17_renamed
  refine RB.bind (pointed_rb ht hn _ _ hq) ?_
  rintro ⟨u, f⟩ ⟨hu, _⟩
  refine RB.bind (forE_ret (fun j (s : List qTable) => s.length ≤ j ∧ ∀ t ∈ s, TN n t) ⟨by simp, by simp⟩ ?_) ?_
  · rintro j s hj ⟨g1, g2⟩
    refine RB.bind (R := fun (r : qTable × Bool) => TN n r.1) (y8 hj fun x _ hx => RB.bind (pointed_rb (h.ok x hx) hn _ _ hq) ?_) ?_
    · rintro ⟨_, _⟩ g
      exact RB.ret g.1
    rintro ⟨x, f⟩ hx
    refine RB.bind (R := fun (x : qTable) => TN n x) (RB.cond (fun _ => RB.ret (hx.ver _)) (fun _ => RB.ret hx)) fun y hy => y8 hj fun z _ _ => RB.bind (R := fun (s : List qTable) => s.length ≤ j + 1 ∧ ∀ t ∈ s, TN n t) (RB.cond (fun _ => RB.ap (by simp only [List.length_cons, List.length_nil]; omega) (RB.ret ⟨by simp; omega, fun w hw => ?_⟩)) (fun _ => RB.ret ⟨by omega, g2⟩)) fun s hs => RB.ret hs
    rcases List.mem_append.1 hw with hw | hw
    · exact g2 w hw
    · simp only [List.mem_cons, List.not_mem_nil, or_false] at hw
      subst hw
      exact hy
  · rintro s ⟨g1, g2⟩
    refine RB.bind (forE_ret (fun j (s : List qGrant) => s.length ≤ j) (by simp) ?_) ?_
    · rintro j s hj g
      exact y8 hj fun x _ _ => RB.bind (R := TT) (RB.cond (fun _ => RB.ret trivial) (fun _ => RB.ret trivial)) fun _ _ => RB.ap (by simp only [List.length_cons, List.length_nil]; omega) (RB.ret (by simp; omega))
    · intro gs hg
      have hg : gs.length ≤ c.Grants.length := hg
      refine RB.ret ⟨⟨by simp only; omega, g2, by simp only; omega⟩, rfl, ?_⟩
      exact ⟨hu.1.cols, hu.1.cons, hu.1.idx, hq, hu.1.ow, hu.1.cn, hu.1.xs, hu.1.is⟩
theorem refers1_tt {b : Prop} {n : Nat} {c : qCatalog} (h : CB n c) (hn : n ≤ 1000) (p1 p2 p3 : ByteArray) (p4 : List ByteArray) : RB b (r17_refers_nnsl c p1 p2 p3 p4) TT := by
  unfold r17_refers_nnsl
  refine RB.bind (R := TT) (forN_tt fun j s hj => y8 hj fun x _ hx => RB.bind (R := TT) (loopO_rb (fun (i : Int) => ∃ k : Nat, i = (k : Int) ∧ k ≤ x.Cons.length) (fun i => x.Cons.length - i.toNat) (Q := TT) ?_ ⟨0, rfl, by omega⟩) ?_) ?_
  · rintro _ ⟨k, rfl, hk⟩
    have hxl := (h.ok x hx).1.cons
    refine yao (RB.cond (fun hc => ?_) fun _ => RB.ret trivial)
    have hlt : k < x.Cons.length := by simp at hc; omega
    have ew : w64 ((k : Int) + 1) = ((k + 1 : Nat) : Int) := by rw [w64_id (by omega) (by omega)]; rfl
    refine RB.bind (R := TT) (y8 hlt fun y _ _ => RB.cond (fun _ => RB.ret trivial) fun _ => RB.bind (alike_tt _ _) fun _ _ => RB.cond (fun _ => RB.ret trivial) (fun _ => RB.ret trivial)) ?_
    rintro (u | s) _
    · exact RB.ret ⟨⟨k + 1, ew, by omega⟩, by rw [ew]; omega⟩
    · exact RB.ret trivial
  · rintro (_ | _) _ <;> exact RB.ret trivial
  · rintro (_ | _) _ <;> exact RB.ret trivial
theorem refers0_tt {b : Prop} {n : Nat} {c : qCatalog} (h : CB n c) (hn : n ≤ 1000) (p1 p2 p3 : ByteArray) : RB b (r17_refers_nilsl c p1 p2 p3) TT := by
  unfold r17_refers_nilsl
  refine RB.bind (R := TT) (forN_tt fun j s hj => y8 hj fun x _ hx => RB.bind (R := TT) (loopO_rb (fun (i : Int) => ∃ k : Nat, i = (k : Int) ∧ k ≤ x.Cons.length) (fun i => x.Cons.length - i.toNat) (Q := TT) ?_ ⟨0, rfl, by omega⟩) ?_) ?_
  · rintro _ ⟨k, rfl, hk⟩
    have hxl := (h.ok x hx).1.cons
    refine yao (RB.cond (fun hc => ?_) fun _ => RB.ret trivial)
    have hlt : k < x.Cons.length := by simp at hc; omega
    have ew : w64 ((k : Int) + 1) = ((k + 1 : Nat) : Int) := by rw [w64_id (by omega) (by omega)]; rfl
    refine RB.bind (R := TT) (y8 hlt fun y _ _ => RB.cond (fun _ => RB.ret trivial) fun _ => RB.bind (R := TT) (RB.cond (fun _ => RB.ret trivial) fun _ => RB.bind (has_rb _ _) fun _ _ => RB.ret trivial) fun _ _ => RB.bind (R := TT) (RB.cond (fun _ => RB.ret trivial) (fun _ => RB.ret trivial)) fun _ _ => RB.cond (fun _ => RB.ret trivial) (fun _ => RB.ret trivial)) ?_
    rintro (u | s) _
    · exact RB.ret ⟨⟨k + 1, ew, by omega⟩, by rw [ew]; omega⟩
    · exact RB.ret trivial
  · rintro (_ | _) _ <;> exact RB.ret trivial
  · rintro (_ | _) _ <;> exact RB.ret trivial
theorem RB.cut {α β : Type} {b : Prop} {xs : List α} {lo hi : Int} {Q : β → Prop} {f : List α → Option β} (h0 : 0 ≤ lo) (h1 : lo ≤ hi) (h2 : hi ≤ (xs.length : Int)) (hf : ∀ l, (∀ x ∈ l, x ∈ xs) → (l.length : Int) = hi - lo → RB b (f l) Q) : RB b ((sub xs lo hi).bind f) Q := by
  rw [sub_at (i := lo.toNat) (j := hi.toNat) (by omega) (by omega) (by omega) (by omega)]
  exact hf _ (fun x hx => List.mem_of_mem_take (List.mem_of_mem_drop hx)) (by simp; omega)
theorem dropped_rb {b : Prop} {n : Nat} {c : qCatalog} {t : qTable} (h : CB n c) (ht : TN n t) (hn : n ≤ 1000) (nm : ByteArray) : RB b (r17_dropped c t nm) (fun r => TB (n + 1) r.1) := by
  have h2 := ht.1.cons
  unfold r17_dropped
  refine RB.bind (forN_q (Q := fun r => TB (n + 1) r.2) fun j s hj => y8 hj fun x _ hx => RB.cond (fun _ => RB.ret trivial) fun _ => ?_) ?_
  · have hxc := (ht.1.xs x hx).2.2.1
    refine RB.ap (by simp; omega) ?_
    rw [List.nil_append]
    refine RB.bind (R := fun (q : Bool) => q = true → x.Kind = 1) (RB.cond (fun hk => RB.bind (keys_tt _ _) fun _ _ => RB.ret fun _ => by simpa using hk) (fun _ => RB.ret fun h => by cases h)) fun q hq => RB.bind (R := TT) (RB.cond (fun hc => ?_) (fun _ => RB.ret trivial)) fun _ _ => RB.cond (fun _ => RB.ret (show TB (n + 1) t from ht.1.up (by omega))) fun _ => RB.bind (copy_rb ht.1 hn) ?_
    · have hne := ht.2 x hx (hq hc)
      have : must (!(x.Cols).isEmpty) = some () := by cases hxc : x.Cols with
        | nil => exact absurd hxc hne
        | cons a r => rfl
      rw [this]
      exact yao (RB.bind (refers1_tt h hn _ _ _ _) fun _ _ => RB.ret trivial)
    · intro r hr
      have hr : r = t := hr
      rw [hr]
      have ew : w64 ((j : Int) + 1) = ((j + 1 : Nat) : Int) := by rw [w64_id (by omega) (by omega)]; rfl
      rw [ew]
      refine RB.cut (by omega) (by omega) (by omega) fun l1 m1 k1 => RB.ap (by simp; omega) (RB.cut (by omega) (by omega) (by omega) fun l2 m2 k2 => RB.ap (by simp; omega) (RB.ret ?_))
      refine ⟨by have := ht.1.cols; simp only; omega, by simp; omega, by have := ht.1.idx; simp only; omega, ht.1.nm, ht.1.ow, ht.1.cn, fun y hy => (ht.1.up (show n ≤ n + 1 by omega)).xs y ?_, (ht.1.up (show n ≤ n + 1 by omega)).is⟩
      simp only [List.nil_append, List.mem_append] at hy
      rcases hy with hy | hy
      · exact m1 y hy
      · exact m2 y hy
  · rintro (s | ⟨s1, s2⟩) g
    · exact RB.ret (ht.1.up (by omega))
    · exact RB.ret g
end Go.Proofs.YtdmapcjbbbifbaaGreat
set_option maxRecDepth 100000
namespace Go.Proofs.YtdmapcjbbbifbaaGreat
open Go.Gv
theorem turned_rb {b : Prop} {n : Nat} {c : qCatalog} {t : qTable} {s : qStmt} (h : CB n c) (ht : TN n t) (hs : SF s) (h12 : 12 ≤ n) (hn : n ≤ 1000) : RB b (r17_turned c t s) (fun r => TB (n + 1) r.1) := by
  have t1 := ht.1.cols
  have t2 := ht.1.cons
  have t3 := ht.1.idx
  have up := ht.1.up (show n ≤ n + 1 by omega)
  unfold r17_turned
  refine RB.bind (copy_rb ht.1 hn) fun r hr => ?_
  have hr : r = t := hr
  rw [hr]
  refine RB.bind (tnames_rb ht.1 hn) ?_
  rintro ⟨r1, r2⟩ _
  refine RB.bind (R := fun (q : (Int × qTable) ⊕ (qTable × (List qColumn) × (List qCons) × (List qIndex))) => match q with | .inl (_, u) => TB (n + 1) u | .inr (_, a, d, e) => TB (n + 1) { t with Cols := a, Cons := d, Idx := e }) ?_ ?_
  rotate_left
  · rintro (⟨_, u⟩ | ⟨_, a, d, e⟩) g
    · exact RB.ret g
    · exact RB.ret g
  refine RB.cond (fun _ => RB.cond (fun _ => RB.ret up) fun hc => ?_) fun _ => ?_
  · have hl : s.Cols.length = 1 := by simp at hc; omega
    refine y8 (i := 0) (by omega) fun x _ hx => RB.bind (col_rb _ _) fun _ _ => RB.cond (fun _ => RB.ret up) fun _ => y8 (i := 0) (by omega) fun y _ hy => RB.ap (by simp only [List.length_cons, List.length_nil]; omega) (RB.ret ?_)
    refine ⟨by simp only [List.length_append, List.length_cons, List.length_nil]; omega, up.cons, up.idx, up.nm, up.ow, fun z hz => ?_, up.xs, up.is⟩
    rcases List.mem_append.1 hz with hz | hz
    · exact up.cn z hz
    · simp only [List.mem_cons, List.not_mem_nil, or_false] at hz
      subst hz
      exact hs.cn _ hy
  refine RB.bind (R := fun (q : (Int × qTable) ⊕ (qTable × (List qColumn) × (List qCons) × (List qIndex))) => match q with | .inl (_, u) => TB (n + 1) u | .inr (_, a, d, e) => TB (n + 1) { t with Cols := a, Cons := d, Idx := e }) ?_ ?_
  rotate_left
  · rintro (⟨_, u⟩ | ⟨_, a, d, e⟩) g <;> exact RB.ret g
  refine RB.cond (fun _ => RB.bind (col_rb _ _) fun at_ ha => RB.cond (fun _ => RB.ret up) fun hc => RB.bind (R := TT) (RB.cond (fun _ => RB.ret trivial) fun _ => RB.bind (used_rb ht.1 hn) fun _ _ => RB.bind (has_rb _ _) fun _ _ => RB.ret trivial) fun _ _ => RB.bind (R := TT) (RB.cond (fun _ => RB.ret trivial) fun _ => RB.bind (R := TT) (RB.cond (fun _ => RB.bind (refers0_tt h hn _ _ _) fun _ _ => RB.ret trivial) (fun _ => RB.ret trivial)) fun _ _ => RB.ret trivial) fun _ _ => RB.cond (fun _ => RB.ret up) fun _ => ?_) fun _ => ?_
  · have h0 : 0 ≤ at_ ∧ at_ < (t.Cols.length : Int) := by
      rcases ha with ⟨ha, _⟩ | ha
      · subst ha; simp at hc
      · exact ha
    have ew : w64 (at_ + 1) = at_ + 1 := w64_id (by omega) (by omega)
    rw [ew]
    refine RB.cut (by omega) (by omega) (by omega) fun l1 m1 k1 => RB.ap (by simp; omega) (RB.cut (by omega) (by omega) (by omega) fun l2 m2 k2 => RB.ap (by simp; omega) (RB.ret ?_))
    refine ⟨by simp; omega, up.cons, up.idx, up.nm, up.ow, fun z hz => ?_, up.xs, up.is⟩
    simp only [List.nil_append, List.mem_append] at hz
    rcases hz with hz | hz
    · exact up.cn z (m1 z hz)
    · exact up.cn z (m2 z hz)
  refine RB.bind (R := fun (q : (Int × qTable) ⊕ (qTable × (List qCons) × (List qIndex))) => match q with | .inl (_, u) => TB (n + 1) u | .inr (_, d, e) => TB (n + 1) { t with Cons := d, Idx := e }) ?_ ?_
  rotate_left
  · rintro (⟨_, u⟩ | ⟨_, d, e⟩) g <;> exact RB.ret g
  refine RB.cond (fun _ => RB.cond (fun _ => RB.ret up) fun hc => ?_) fun _ => ?_
  · have hl : s.Cons.length = 1 := by simp at hc; omega
    refine y8 (i := 0) (by omega) fun x _ hx => RB.bind (has_rb _ _) fun _ _ => RB.cond (fun _ => RB.ret up) fun _ => RB.cond (fun _ => RB.ret up) fun _ => y8 (i := 0) (by omega) fun y _ hy => RB.ap (by simp only [List.length_cons, List.length_nil]; omega) (RB.ret ?_)
    refine ⟨up.cols, by simp only [List.length_append, List.length_cons, List.length_nil]; omega, up.idx, up.nm, up.ow, up.cn, fun z hz => ?_, up.is⟩
    rcases List.mem_append.1 hz with hz | hz
    · exact up.xs z hz
    · simp only [List.mem_cons, List.not_mem_nil, or_false] at hz
      subst hz
      obtain ⟨c1, c2, c3, c4, c5⟩ := hs.xs _ hy
      exact ⟨c1, c2, by omega, by omega, c5⟩
  refine RB.bind (R := fun (q : (Int × qTable) ⊕ (qTable × (List qIndex))) => match q with | .inl (_, u) => TB (n + 1) u | .inr (_, e) => TB (n + 1) { t with Idx := e }) ?_ ?_
  rotate_left
  · rintro (⟨_, u⟩ | ⟨_, e⟩) g <;> exact RB.ret g
  refine RB.cond (fun _ => RB.bind (has_rb _ _) fun _ _ => RB.cond (fun _ => RB.ret up) fun _ => RB.cond (fun _ => RB.ret up) fun _ => RB.ap (by simp only [List.length_cons, List.length_nil]; omega) (RB.ret ?_)) fun _ => RB.cond (fun _ => RB.bind (dropped_rb h ht hn _) ?_) fun _ => RB.cond (fun _ => ?_) fun _ => RB.ret up
  · refine ⟨up.cols, up.cons, by simp only [List.length_append, List.length_cons, List.length_nil]; omega, up.nm, up.ow, up.cn, up.xs, fun z hz => ?_⟩
    rcases List.mem_append.1 hz with hz | hz
    · exact up.is z hz
    · simp only [List.mem_cons, List.not_mem_nil, or_false] at hz
      subst hz
      exact ⟨hs.name, by have := hs.names; simp only; omega⟩
  · rintro ⟨_, _⟩ g
    exact RB.ret g
  · refine RB.bind (forN_q (Q := fun q => TB (n + 1) q.2) ?_) ?_
    · rintro j ⟨_, _⟩ hj
      have ew : w64 ((j : Int) + 1) = ((j + 1 : Nat) : Int) := by rw [w64_id (by omega) (by omega)]; rfl
      refine y8 hj fun x _ hx => RB.cond (fun _ => ?_) (fun _ => RB.ret trivial)
      rw [ew]
      refine RB.cut (by omega) (by omega) (by omega) fun l1 m1 k1 => RB.ap (by simp; omega) (RB.cut (by omega) (by omega) (by omega) fun l2 m2 k2 => RB.ap (by simp; omega) (RB.ret ?_))
      refine ⟨up.cols, up.cons, by simp; omega, up.nm, up.ow, up.cn, up.xs, fun z hz => ?_⟩
      simp only [List.nil_append, List.mem_append] at hz
      rcases hz with hz | hz
      · exact up.is z (m1 z hz)
      · exact up.is z (m2 z hz)
    · rintro (⟨_, _⟩ | ⟨_, _⟩) g
      · exact RB.ret up
      · exact RB.ret g
theorem without_rb {b : Prop} {n : Nat} {c : qCatalog} (h : CB n c) (hn : n ≤ 1000) (nm : ByteArray) : RB b (r17_without c nm) (fun r => CB n r ∧ r.Roles = c.Roles ∧ r.Grants = c.Grants) := by
  have h1 := h.tabs
  unfold r17_without
  refine RB.bind (forE_ret (fun j (s : List qTable) => s.length ≤ j ∧ ∀ t ∈ s, TN n t) ⟨by simp, by simp⟩ ?_) ?_
  · rintro j s hj ⟨g1, g2⟩
    refine y8 hj fun x _ _ => RB.bind (R := fun (s : List qTable) => s.length ≤ j + 1 ∧ ∀ t ∈ s, TN n t) (RB.cond (fun _ => y8 hj fun y _ hy => RB.ap (by simp only [List.length_cons, List.length_nil]; omega) (RB.ret ⟨by simp; omega, fun w hw => ?_⟩)) (fun _ => RB.ret ⟨by omega, g2⟩)) fun s hs => RB.ret hs
    rcases List.mem_append.1 hw with hw | hw
    · exact g2 w hw
    · simp only [List.mem_cons, List.not_mem_nil, or_false] at hw
      subst hw
      exact h.ok _ hy
  · rintro s ⟨g1, g2⟩
    exact RB.ret ⟨⟨by simp only; omega, g2, h.grants⟩, rfl, rfl⟩
theorem with_rb {b : Prop} {n : Nat} {c : qCatalog} {t : qTable} (h : CB n c) (ht : TN (n + 1) t) (hn : n ≤ 1000) : RB b (r17_with c t) (fun r => CB (n + 1) r ∧ r.Roles = c.Roles) := by
  have h1 := h.tabs
  unfold r17_with
  refine RB.bind (loopO_rb (fun (i : Int) => ∃ k : Nat, i = (k : Int) ∧ k ≤ c.Tables.length) (fun i => c.Tables.length - i.toNat) (Q := fun i => 0 ≤ i ∧ i ≤ (c.Tables.length : Int)) ?_ ⟨0, rfl, by omega⟩) ?_
  · rintro _ ⟨k, rfl, hk⟩
    have ew : w64 ((k : Int) + 1) = ((k + 1 : Nat) : Int) := by rw [w64_id (by omega) (by omega)]; rfl
    refine RB.bind (R := fun (q : Bool) => q = true → k < c.Tables.length) (RB.cond (fun hc => y8 (by simpa using hc) fun _ _ _ => RB.ret fun _ => by simpa using hc) (fun _ => RB.ret fun h => by cases h)) fun q hq => RB.cond (fun hc => RB.ret ⟨⟨k + 1, ew, hq hc⟩, by have := hq hc; rw [ew]; omega⟩) fun _ => RB.ret ⟨by omega, by omega⟩
  · rintro i ⟨i0, i1⟩
    refine RB.cut (by omega) (by omega) (by omega) fun l1 m1 k1 => RB.ap (by simp; omega) (RB.ap (by simp; omega) (RB.cut (by omega) (by omega) (by omega) fun l2 m2 k2 => RB.ap (by simp; omega) (RB.ret ⟨⟨by simp; omega, fun z hz => ?_, by have := h.grants; simp only; omega⟩, rfl⟩)))
    have hu := h.up (show n ≤ n + 1 by omega)
    simp only [List.nil_append, List.mem_append, List.mem_cons, List.not_mem_nil, or_false] at hz
    rcases hz with (hz | hz) | hz
    · exact hu.ok z (m1 z hz)
    · subst hz; exact ht
    · exact hu.ok z (m2 z hz)
theorem TR.ver {t : qTable} (h : TR t) (v : Int) : NE { t with Version := v } := h.ne
theorem tmake_rb {b : Prop} {n : Nat} {c : qCatalog} {s : qStmt} {by_ : ByteArray} {most : Int} (h : CB n c) (hs : SF s) (hb : by_.size ≤ 100) (h12 : 12 ≤ n) (hn : n ≤ 1000 - 1) : RB b (r17_Make c s by_ most) (fun r => r.2 = 0 → CB (n + 1) r.1 ∧ r.1.Roles = c.Roles) := by
  have h1 := h.tabs
  have h2 := h.grants
  have no : ∀ {k : Int} {C : Prop}, k ≠ 0 → (k = 0 → C) := fun hk he => absurd he hk
  unfold r17_Make
  refine RB.cond (fun _ => RB.ret (no (by decide))) fun _ => RB.bind (tat_rb c _) fun at_ hat => RB.cond (fun _ => RB.ret (no (by decide))) fun _ => RB.cond (fun _ => RB.ret (no (by decide))) fun _ => RB.cond (fun _ => RB.ret (no (by decide))) fun hc4 => RB.bind (without_rb h (by omega) _) fun w hw => ?_
  obtain ⟨hw1, hw2, hw3⟩ := hw
  have hne : (s.Kind == 1) = false → 0 ≤ at_ ∧ at_ < (c.Tables.length : Int) := by
    intro hk
    rw [show (s.Kind != 1) = true by simp [bne, hk]] at hc4
    simp only [Bool.true_and, decide_eq_false_iff_not] at hc4
    rcases hat with hat | hat
    · omega
    · exact hat
  refine RB.bind (R := fun (q : (Int × qCatalog × Int × (List qTable) × (List qRole) × (List qGrant) × qTable) ⊕ (Int × qCatalog × qTable)) => match q with | .inl (_, _, v, ts, rs, gs, u) => CB n ⟨v, ts, rs, gs⟩ ∧ rs = c.Roles ∧ TB (n + 1) u | .inr (k, _, _) => k ≠ 0) ?_ ?_
  · have hz : TB (n + 1) z_qTable := ⟨Nat.zero_le _, Nat.zero_le _, Nat.zero_le _, Nat.zero_le _, Nat.zero_le _, (fun x hx => by cases hx), (fun x hx => by cases hx), (fun x hx => by cases hx)⟩
    refine RB.cond (fun _ => RB.ret ⟨hw1, hw2, ?_⟩) fun k1 => ?_
    · exact ⟨by have := hs.cols; simp only; omega, by have := hs.cons; simp only; omega, Nat.zero_le _, hs.table, hb, hs.cn, fun x hx => by obtain ⟨c1, c2, c3, c4, c5⟩ := hs.xs x hx; exact ⟨c1, c2, by omega, by omega, c5⟩, fun x hx => by cases hx⟩
    obtain ⟨a0, a1⟩ := hne k1
    refine RB.bind (R := fun (q : (Int × qCatalog × qTable) ⊕ (Int × qCatalog × Int × (List qTable) × (List qRole) × (List qGrant) × qTable)) => match q with | .inr (_, _, v, ts, rs, gs, u) => CB n ⟨v, ts, rs, gs⟩ ∧ rs = c.Roles ∧ TB (n + 1) u | .inl (k, _, _) => k ≠ 0) ?_ ?_
    rotate_left
    · rintro (⟨_, _, _⟩ | ⟨_, _, _, _, _, _, _⟩) g <;> exact RB.ret g
    refine RB.cond (fun _ => RB.bind (refers0_tt h (by omega) _ _ _) fun _ _ => RB.cond (fun _ => RB.ret (show (34 : Int) ≠ 0 by decide)) fun _ => RB.bind (forE_ret (fun j (s : List qGrant) => s.length ≤ j) (by simp) ?_) fun gs hg => RB.ret ⟨⟨hw1.tabs, hw1.ok, by have hg : gs.length ≤ c.Grants.length := hg; simp only; omega⟩, hw2, hz⟩) fun _ => ?_
    · intro j s hj g
      exact y8 hj fun x _ _ => RB.bind (R := fun (s : List qGrant) => s.length ≤ j + 1) (RB.cond (fun _ => y8 hj fun _ _ _ => RB.ap (by simp only [List.length_cons, List.length_nil]; omega) (RB.ret (by simp; omega))) (fun _ => RB.ret (by omega))) fun s hs => RB.ret hs
    refine RB.bind (R := fun (q : (Int × qCatalog × qTable) ⊕ (Int × qCatalog × Int × (List qTable) × (List qRole) × (List qGrant) × qTable)) => match q with | .inr (_, _, v, ts, rs, gs, u) => CB n ⟨v, ts, rs, gs⟩ ∧ rs = c.Roles ∧ TB (n + 1) u | .inl (k, _, _) => k ≠ 0) ?_ ?_
    rotate_left
    · rintro (⟨_, _, _⟩ | ⟨_, _, _, _, _, _, _⟩) g <;> exact RB.ret g
    refine RB.cond (fun _ => RB.bind (tat_rb c _) fun _ _ => RB.cond (fun _ => RB.ret (show (19 : Int) ≠ 0 by decide)) fun _ => yax a0 a1 fun x _ hx => RB.bind (renamed_rb h (h.ok x hx) (by omega) hs.name) ?_) fun _ => yax a0 a1 fun x _ hx => RB.bind (turned_rb h (h.ok x hx) hs h12 (by omega)) ?_
    · rintro ⟨d, u⟩ ⟨d1, d2, d3⟩
      exact RB.ret ⟨d1, d2, d3.up (by omega)⟩
    · rintro ⟨u, e⟩ g
      exact RB.ret ⟨hw1, hw2, g⟩
  · rintro (⟨k, z, v, ts, rs, gs, u⟩ | ⟨k, z, u⟩) g
    · obtain ⟨g1, g2, g3⟩ := g
      refine RB.bind (R := fun (e : Int) => e = 0 → s.Kind ≠ 2 → NE u) (RB.cond (fun _ => RB.bind (sound_rb _ g3 (by omega)) fun r hr => RB.ret fun he _ => (hr he).ne) fun hc => RB.ret fun he hk => ?_) fun e he => RB.bind (R := fun (e' : Int) => e' = 0 → e = 0) (RB.cond (fun _ => RB.ret fun h => by cases h) fun _ => RB.ret fun h => h) fun e' he' => RB.cond (fun hc => RB.ret (no (by simpa using hc))) fun hc => ?_
      · subst he
        simp [hk] at hc
      have hz : e' = 0 := by simpa using hc
      refine RB.bind (R := fun (q : Int × (List qTable) × (List qRole) × (List qGrant) × qTable) => CB (n + 1) ⟨q.1, q.2.1, q.2.2.1, q.2.2.2.1⟩ ∧ q.2.2.1 = c.Roles) (RB.cond (fun hk => RB.bind (with_rb g1 ⟨g3.ver _, ?_⟩ (by omega)) fun r hr => RB.ret ⟨⟨hr.1.tabs, hr.1.ok, hr.1.grants⟩, hr.2.trans g2⟩) fun _ => RB.ret ⟨g1.up (by omega), g2⟩) ?_
      · exact he (he' hz) (by simpa using hk)
      · rintro ⟨q1, q2, q3, q4, q5⟩ ⟨e1, e2⟩
        exact RB.ret fun _ => ⟨⟨e1.tabs, e1.ok, e1.grants⟩, e2⟩
    · exact RB.ret (no g)
end Go.Proofs.YtdmapcjbbbifbaaGreat
set_option maxRecDepth 100000
namespace Go.Proofs.YtdmapcjbbbifbaaGreat
open Go.Gv
noncomputable def isB (l : List Role) (n o : ByteArray) : Bool := (r18_Is l n o).getD false
theorem is_val {l : List Role} (h : Sm l) (n o : ByteArray) : r18_Is l n o = some (isB l n o) := by
  obtain ⟨r, hr, _⟩ := rall_eq (n := n) h.1 h.2.1
  obtain ⟨b, hb, _⟩ := has_eq r o
  have : r18_Is l n o = some b := by unfold r18_Is; rw [hr]; simp only [Option.bind_some, hb]
  unfold isB
  rw [this]
  rfl
noncomputable def rI (l : List Role) (n : ByteArray) : Int := (r18_At l n).getD 0
theorem rat_val (l : List Role) (n : ByteArray) : r18_At l n = some (rI l n) := by
  unfold rI
  rcases rat_spec l n with ⟨_, h⟩ | ⟨_, _, _, _, _, _, h⟩ <;> rw [h] <;> rfl
theorem rI_lt (l : List Role) (n : ByteArray) : rI l n < (l.length : Int) := by
  unfold rI
  rcases rat_spec l n with ⟨_, h⟩ | ⟨A, x, B, rfl, _, _, h⟩ <;> rw [h]
  · simp only [Option.getD_some]; omega
  · simp only [Option.getD_some, List.length_append, List.length_cons]; omega
def tI (c : qCatalog) (n : ByteArray) : Int := match c.Tables.findIdx? (fun x => sEq x.Name n) with | some j => (j : Int) | none => -1
theorem tat_val (c : qCatalog) (n : ByteArray) : r17_At c n = some (tI c n) := by
  unfold r17_At tI
  rw [forN_find (fun (x : qTable) => sEq x.Name n) (fun j => (j : Int)) (fun j x hx => by rw [idx_nat, hx]; simp only [Option.bind_some]; cases sEq x.Name n <;> rfl)]
  cases c.Tables.findIdx? (fun x => sEq x.Name n) <;> rfl
theorem tI_get {c : qCatalog} {n : ByteArray} (h : 0 ≤ tI c n) : ∃ (k : Nat) (t : qTable), tI c n = (k : Int) ∧ c.Tables[k]? = some t ∧ t ∈ c.Tables ∧ c.Tables.findIdx? (fun x => sEq x.Name n) = some k := by
  unfold tI at h ⊢
  cases e : c.Tables.findIdx? (fun x => sEq x.Name n) with
  | none => rw [e] at h; simp at h
  | some k =>
    obtain ⟨hk, _, _⟩ := List.findIdx?_eq_some_iff_getElem.1 e
    exact ⟨k, c.Tables[k], rfl, List.getElem?_eq_getElem hk, List.getElem_mem hk, rfl⟩
noncomputable def owB (c : qCatalog) (r t : ByteArray) : Bool := (r19_Owns c r t).getD false
theorem owns_val {c : qCatalog} (h : Sm c.Roles) (r t : ByteArray) : r19_Owns c r t = some (owB c r t) := by
  have : ∃ b, r19_Owns c r t = some b := by
    unfold r19_Owns
    rw [tat_val]
    simp only [Option.bind_some]
    by_cases h0 : 0 ≤ tI c t
    · obtain ⟨k, x, hk, hx, _⟩ := tI_get h0
      rw [show decide (tI c t ≥ 0) = true by simpa using h0, hk, idx_nat, hx]
      simp only [Option.bind_some, cond_true, is_val h]
      exact ⟨_, rfl⟩
    · rw [show decide (tI c t ≥ 0) = false by simpa using h0]
      exact ⟨_, rfl⟩
  obtain ⟨b, hb⟩ := this
  unfold owB
  rw [hb]
  rfl
noncomputable def haB (c : qCatalog) (l : List qGrant) (r : ByteArray) (p : Int) (t : ByteArray) (o : Bool) : Bool := l.any fun g => g.Priv == p && sEq g.Table t && (g.Option || !o) && isB c.Roles r g.To
theorem rhas_val {c : qCatalog} (h : Sm c.Roles) (l : List qGrant) (r : ByteArray) (p : Int) (t : ByteArray) (o : Bool) : r19_has c l r p t o = some (haB c l r p t o) := by
  unfold r19_has haB
  rw [forN_list (v := true) (fun (g : qGrant) => !(g.Priv == p && sEq g.Table t && (g.Option || !o) && isB c.Roles r g.To)) (fun j x hx => ?_)]
  · rw [List.all_eq_not_any_not]
    simp only [Bool.not_not]
    cases l.any fun g => g.Priv == p && sEq g.Table t && (g.Option || !o) && isB c.Roles r g.To <;> rfl
  · simp only [idx_nat, hx, Option.bind_some]
    cases (x.Priv == p) <;> cases sEq x.Table t <;> cases x.Option <;> cases o <;> simp [is_val h] <;> cases isB c.Roles r x.To <;> rfl
noncomputable def okB (c : qCatalog) (l : List qGrant) (g : qGrant) : Bool := decide (0 ≤ tI c g.Table) && decide (0 ≤ rI c.Roles g.To) && (owB c g.By g.Table || haB c l g.By g.Priv g.Table true)
noncomputable def rnd (c : qCatalog) (l : List qGrant) : List qGrant := c.Grants.filter (okB c l)
noncomputable def rnds (c : qCatalog) : Nat → List qGrant
  | 0 => []
  | k + 1 => rnd c (rnds c k)
theorem rnds_len (c : qCatalog) (k : Nat) : (rnds c k).length ≤ c.Grants.length := by
  cases k with
  | zero => exact Nat.zero_le _
  | succ k => exact List.length_filter_le ..
noncomputable def heR (c : qCatalog) : List qGrant := rnds c (c.Grants.length + 1)
theorem rheld_val {c : qCatalog} (h : Sm c.Roles) (hg : c.Grants.length ≤ 1000) : r19_Held c = some (heR c) := by
  unfold r19_Held
  have step : ∀ (s8 : List qGrant), forE (fun (i18 : Nat) => fun (s17 : List qGrant) => ((idx c.Grants (i18 : Int)).bind (fun (x32 : qGrant) => (r17_At c x32.Table).bind (fun (r44 : Int) => ((bif (decide (r44 < 0)) then some true else (r18_At c.Roles x32.To).bind (fun (r56 : Int) => some (decide (r56 < 0))))).bind (fun (j45 : Bool) => (bif j45 then some s17 else (r19_Owns c x32.By x32.Table).bind (fun (r69 : Bool) => ((bif r69 then some true else (r19_has c s8 x32.By x32.Priv x32.Table true).bind (fun (r79 : Bool) => some r79))).bind (fun (j70 : Bool) => ((bif j70 then (app 64 s17 ([x32] : List qGrant)).bind (fun (x94 : List qGrant) => some x94) else some s17)).bind (fun (j82 : List qGrant) => some j82)))))))).bind (fun (j28 : List qGrant) => some j28)) c.Grants.length 0 ([] : List qGrant) = some (rnd c s8) := by
    intro s8
    refine Ret.eq ((forE_ret (fun j s => s = (c.Grants.take j).filter (okB c s8)) (by simp) ?_).mono fun r hr => by rw [hr, List.take_length]; rfl)
    rintro j s hj rfl
    have hx : c.Grants[j]? = some c.Grants[j] := List.getElem?_eq_getElem hj
    have hle : ((c.Grants.take j).filter (okB c s8)).length ≤ j := Nat.le_trans (List.length_filter_le ..) (by simp; omega)
    generalize c.Grants[j] = x at hx
    rw [take_next hx, List.filter_append]
    simp only [idx_nat, hx, Option.bind_some, tat_val, rat_val, owns_val h, rhas_val h]
    have e : (c.Grants.take j).filter (okB c s8) ++ [x].filter (okB c s8) = bif okB c s8 x then (c.Grants.take j).filter (okB c s8) ++ [x] else (c.Grants.take j).filter (okB c s8) := by
      cases hc : okB c s8 x <;> simp [hc]
    rw [e]
    generalize (c.Grants.take j).filter (okB c s8) = s at hle ⊢
    unfold okB
    by_cases h1 : tI c x.Table < 0
    · rw [show decide (tI c x.Table < 0) = true by simpa using h1, show decide (0 ≤ tI c x.Table) = false by simp; omega]
      exact RB.ret rfl
    · rw [show decide (tI c x.Table < 0) = false by simpa using h1, show decide (0 ≤ tI c x.Table) = true by simp; omega]
      simp only [cond_false, Option.bind_some, Bool.true_and]
      by_cases h2 : rI c.Roles x.To < 0
      · rw [show decide (rI c.Roles x.To < 0) = true by simpa using h2, show decide (0 ≤ rI c.Roles x.To) = false by simp; omega]
        exact RB.ret rfl
      · rw [show decide (rI c.Roles x.To < 0) = false by simpa using h2, show decide (0 ≤ rI c.Roles x.To) = true by simp; omega]
        simp only [cond_false, Bool.true_and]
        rw [app_le (by simp only [List.length_cons, List.length_nil]; omega)]
        cases owB c x.By x.Table <;> cases haB c s8 x.By x.Priv x.Table true <;> exact RB.ret rfl
  refine Ret.eq (RB.bind (loopO_rb (fun (s : List qGrant × Int) => ∃ k : Nat, s.2 = (k : Int) ∧ k ≤ c.Grants.length + 1 ∧ s.1 = rnds c k) (fun s => c.Grants.length + 1 - s.2.toNat) (Q := fun s => s = heR c) ?_ ⟨0, rfl, by omega, rfl⟩) fun r hr => RB.ret hr)
  rintro ⟨_, _⟩ ⟨k, rfl, hk, rfl⟩
  refine RB.cond (fun hc => ?_) fun hc => RB.ret ?_
  · have hle : k ≤ c.Grants.length := by simpa using hc
    have ew : w64 ((k : Int) + 1) = ((k + 1 : Nat) : Int) := by rw [w64_id (by omega) (by omega)]; rfl
    simp only
    rw [step, ew]
    exact RB.ret ⟨⟨k + 1, rfl, by omega, rfl⟩, by simp only; omega⟩
  · have : k = c.Grants.length + 1 := by simp at hc; omega
    subst this
    rfl
end Go.Proofs.YtdmapcjbbbifbaaGreat
set_option maxRecDepth 100000
namespace Go.Proofs.YtdmapcjbbbifbaaGreat
open Go.Gv
def RO (n : Nat) (l : List Role) : Prop := l.length ≤ 8 ∧ ∀ x ∈ l, x.In.length ≤ n ∧ x.Name.size ≤ 100
theorem RO.sm {n : Nat} {l : List Role} (h : RO n l) (hn : n ≤ 100) : Sm l := ⟨by have := h.1; omega, fun x hx => by have := (h.2 x hx).1; omega, fun x hx => by have := (h.2 x hx).2; omega⟩
theorem RO.up {n m : Nat} {l : List Role} (h : RO n l) (hm : n ≤ m) : RO m l := ⟨h.1, fun x hx => ⟨Nat.le_trans (h.2 x hx).1 hm, (h.2 x hx).2⟩⟩
theorem is_tt {b : Prop} {l : List Role} (h : Sm l) (n o : ByteArray) : RB b (r18_Is l n o) TT := RB.of (is_val h n o) trivial
theorem rat_rb {b : Prop} (l : List Role) (n : ByteArray) : RB b (r18_At l n) (fun r => r < (l.length : Int)) := RB.of (rat_val l n) (rI_lt l n)
theorem rcheck_tt {b : Prop} {n : Nat} {l : List Role} (h : RO n l) (hn : n ≤ 100) : RB b (r18_Check l) TT := by
  have hl := h.1
  have hsm := h.sm hn
  unfold r18_Check
  refine RB.cond (fun _ => RB.ret trivial) fun _ => RB.bind (R := TT) (forN_tt fun j s hj => y8 hj fun x _ hx => RB.bind (rname_tt (h.2 x hx).2) fun _ _ => RB.bind (R := TT) (RB.cond (fun _ => RB.ret trivial) fun _ => RB.bind (R := TT) (RB.cond (fun hc => ?_) (fun _ => RB.ret trivial)) fun _ _ => RB.ret trivial) fun _ _ => RB.cond (fun _ => RB.ret trivial) fun _ => RB.bind (R := TT) (loopO_rb (fun (i : Int) => ∃ k : Nat, i = (k : Int) ∧ k ≤ l[j].In.length) (fun i => l[j].In.length - i.toNat) (Q := TT) ?_ ⟨0, rfl, by omega⟩) ?_) ?_
  · have h0 : 0 < (j : Int) := by simpa using hc
    have ew : w64 ((j : Int) - 1) = (j : Int) - 1 := w64_id (by omega) (by omega)
    rw [ew]
    exact yax (by omega) (by omega) fun _ _ _ => y8 hj fun _ _ _ => RB.ret trivial
  · rintro _ ⟨k, rfl, hk⟩
    have hmem := h.2 l[j] (List.getElem_mem hj)
    have ej : ∀ {α : Type} {f : qRole → Option α} {Q : α → Prop}, RB b (f l[j]) Q → RB b ((idx l (j : Int)).bind f) Q := fun hf => by rw [idx_mem hj]; exact hf
    refine ej (RB.cond (fun hc => ej ?_) (fun _ => RB.ret trivial))
    have hlt : k < l[j].In.length := by simpa using hc
    refine y8 hlt fun y _ _ => RB.bind (rat_rb _ _) fun _ _ => RB.bind (R := TT) (RB.cond (fun _ => RB.ret trivial) fun _ => RB.bind (R := TT) (RB.cond (fun hc => ej ?_) (fun _ => RB.ret trivial)) fun _ _ => RB.ret trivial) fun _ _ => RB.cond (fun _ => RB.ret trivial) fun _ => RB.ret ⟨⟨k + 1, by rw [w64_id (by omega) (by omega)]; rfl, by omega⟩, by rw [w64_id (by omega) (by omega)]; omega⟩
    have h0 : 0 < (k : Int) := by simpa using hc
    rw [w64_id (by omega) (by omega)]
    exact yax (by omega) (by omega) fun _ _ _ => ej (y8 hlt fun _ _ _ => RB.ret trivial)
  · rintro (_ | _) _ <;> exact RB.ret trivial
  · rintro (_ | _) _
    rotate_left
    · exact RB.ret trivial
    refine RB.bind (R := TT) (forN_tt fun j s hj => RB.bind (R := TT) (loopO_rb (fun (i : Int) => ∃ k : Nat, i = (k : Int) ∧ k ≤ l[j].In.length) (fun i => l[j].In.length - i.toNat) (Q := TT) ?_ ⟨0, rfl, by omega⟩) ?_) ?_
    · rintro _ ⟨k, rfl, hk⟩
      have hmem := h.2 l[j] (List.getElem_mem hj)
      have ej : ∀ {α : Type} {f : qRole → Option α} {Q : α → Prop}, RB b (f l[j]) Q → RB b ((idx l (j : Int)).bind f) Q := fun hf => by rw [idx_mem hj]; exact hf
      refine ej (RB.cond (fun hc => ej ?_) (fun _ => RB.ret trivial))
      have hlt : k < l[j].In.length := by simpa using hc
      exact y8 hlt fun y _ _ => ej (RB.bind (is_tt hsm _ _) fun _ _ => RB.cond (fun _ => RB.ret trivial) fun _ => RB.ret ⟨⟨k + 1, by rw [w64_id (by omega) (by omega)]; rfl, by omega⟩, by rw [w64_id (by omega) (by omega)]; omega⟩)
    · rintro (_ | _) _ <;> exact RB.ret trivial
    · rintro (_ | _) _ <;> exact RB.ret trivial
theorem while_rb {α : Type} {b : Prop} {xs : List α} {p : α → Bool} (hx : xs.length ≤ 1000) : RB b (loopO (fun (s22 : Int) => ((bif (decide (s22 < (xs.length : Int))) then (idx xs s22).bind (fun (x31 : α) => some (p x31)) else some false)).bind (fun (j27 : Bool) => (bif j27 then some (.inl (w64 (s22 + 1))) else some (.inr s22) : Option (Int ⊕ Int)))) 0) (fun i => 0 ≤ i ∧ i ≤ (xs.length : Int)) := by
  refine loopO_rb (fun (i : Int) => ∃ k : Nat, i = (k : Int) ∧ k ≤ xs.length) (fun i => xs.length - i.toNat) ?_ ⟨0, rfl, by omega⟩
  rintro _ ⟨k, rfl, hk⟩
  have ew : w64 ((k : Int) + 1) = ((k + 1 : Nat) : Int) := by rw [w64_id (by omega) (by omega)]; rfl
  exact RB.bind (R := fun (q : Bool) => q = true → k < xs.length) (RB.cond (fun hc => y8 (by simpa using hc) fun _ _ _ => RB.ret fun _ => by simpa using hc) (fun _ => RB.ret fun h => by cases h)) fun q hq => RB.cond (fun hc => RB.ret ⟨⟨k + 1, ew, hq hc⟩, by have := hq hc; rw [ew]; omega⟩) fun _ => RB.ret ⟨by omega, by omega⟩
theorem rcreate_rb {b : Prop} {n : Nat} {l : List Role} {nm : ByteArray} (h : RO n l) (hn : n ≤ 100) (hm : nm.size ≤ 100) : RB b (r18_Create l nm) (fun r => r.2 = 0 → RO (n + 1) r.1) := by
  have no : ∀ {k : Int} {C : Prop}, k ≠ 0 → (k = 0 → C) := fun hk he => absurd he hk
  have hl := h.1
  unfold r18_Create
  refine RB.bind (rcheck_tt h hn) fun _ _ => RB.cond (fun hc => RB.ret (no (by simpa using hc))) fun _ => RB.bind (rname_tt hm) fun _ _ => RB.cond (fun _ => RB.ret (no (by decide))) fun _ => RB.bind (rat_rb _ _) fun _ _ => RB.cond (fun _ => RB.ret (no (by decide))) fun _ => RB.cond (fun _ => RB.ret (no (by decide))) fun h8 => RB.bind (while_rb (p := fun (x : qRole) => sLt x.Name nm) (by omega)) ?_
  have h8 : l.length ≠ 8 := by simp at h8; omega
  rintro i ⟨i0, i1⟩
  refine RB.cut (by omega) (by omega) (by omega) fun l1 m1 k1 => RB.ap (by simp; omega) (RB.ap (by simp; omega) (RB.cut (by omega) (by omega) (by omega) fun l2 m2 k2 => RB.ap (by simp; omega) (RB.ret fun _ => ⟨by simp; omega, fun x hx => ?_⟩)))
  simp only [List.nil_append, List.mem_append, List.mem_cons, List.not_mem_nil, or_false] at hx
  rcases hx with (hx | hx) | hx
  · exact (h.up (show n ≤ n + 1 by omega)).2 x (m1 x hx)
  · subst hx; exact ⟨Nat.zero_le _, hm⟩
  · exact (h.up (show n ≤ n + 1 by omega)).2 x (m2 x hx)
theorem without_tt {b : Prop} {l : List ByteArray} (hl : l.length ≤ 1000) (n : ByteArray) : RB b (r18_without l n) (fun r => r.length ≤ l.length) := by
  unfold r18_without
  refine RB.bind (forE_ret (fun j (s : List ByteArray) => s.length ≤ j) (by simp) fun j s hj g => y8 hj fun x _ _ => RB.bind (R := fun (s : List ByteArray) => s.length ≤ j + 1) (RB.cond (fun _ => y8 hj fun _ _ _ => RB.ap (by simp only [List.length_cons, List.length_nil]; omega) (RB.ret (by simp; omega))) (fun _ => RB.ret (by omega))) fun s hs => RB.ret hs) fun s hs => RB.ret hs
theorem rturned_rb {b : Prop} {n : Nat} {l : List Role} {k : Int} {s : List ByteArray} (h : RO n l) (h0 : 0 ≤ k) (h1 : k < (l.length : Int)) (hs : s.length ≤ n + 1) : RB b (r18_turned l k s) (RO (n + 1)) := by
  have hl := h.1
  unfold r18_turned
  refine RB.ap (by simp; omega) (yax h0 (by simpa using h1) fun x _ hx => RB.ret ⟨by simpa using hl, fun y hy => ?_⟩)
  rw [List.nil_append] at hx hy
  rcases List.mem_or_eq_of_mem_set hy with hy | rfl
  · exact (h.up (show n ≤ n + 1 by omega)).2 y hy
  · exact ⟨hs, (h.2 x hx).2⟩
theorem rinto_rb {b : Prop} {l : List ByteArray} (hl : l.length ≤ 1000) (n : ByteArray) : RB b (r18_into l n) (fun r => r.length ≤ l.length + 1) := by
  unfold r18_into
  refine RB.bind (while_rb (p := fun (x : ByteArray) => sLt x n) hl) ?_
  rintro i ⟨i0, i1⟩
  exact RB.cut (by omega) (by omega) (by omega) fun l1 m1 k1 => RB.ap (by simp; omega) (RB.ap (by simp; omega) (RB.cut (by omega) (by omega) (by omega) fun l2 m2 k2 => RB.ap (by simp; omega) (RB.ret (by simp; omega))))
theorem rgrant_rb {b : Prop} {n : Nat} {l : List Role} (h : RO n l) (hn : n ≤ 100) (nm to : ByteArray) : RB b (r18_Grant l nm to) (fun r => r.2 = 0 → RO (n + 1) r.1) := by
  have no : ∀ {k : Int} {C : Prop}, k ≠ 0 → (k = 0 → C) := fun hk he => absurd he hk
  unfold r18_Grant
  refine RB.bind (rcheck_tt h hn) fun _ _ => RB.cond (fun hc => RB.ret (no (by simpa using hc))) fun _ => RB.bind (rat_rb _ _) fun k hk => RB.bind (R := fun (q : Bool) => q = false → 0 ≤ k) (RB.cond (fun _ => RB.ret fun h => by cases h) fun hc => RB.bind (rat_rb _ _) fun _ _ => RB.ret fun _ => by simpa using hc) fun q hq => RB.cond (fun _ => RB.ret (no (by decide))) fun hc => ?_
  have h0 := hq hc
  refine yax h0 hk fun x _ _ => RB.bind (has_rb _ _) fun _ _ => RB.cond (fun _ => RB.ret (no (by decide))) fun _ => RB.bind (is_tt (h.sm hn) _ _) fun _ _ => RB.cond (fun _ => RB.ret (no (by decide))) fun _ => yax h0 hk fun y _ hy => ?_
  have hin := (h.2 y hy).1
  exact RB.bind (rinto_rb (by omega) _) fun r hr => RB.bind (rturned_rb h h0 hk (by have hr : r.length ≤ y.In.length + 1 := hr; omega)) fun r hr => RB.ret fun _ => hr
theorem rrevoke_rb {b : Prop} {n : Nat} {l : List Role} (h : RO n l) (hn : n ≤ 100) (nm to : ByteArray) : RB b (r18_Revoke l nm to) (fun r => r.2 = 0 → RO (n + 1) r.1) := by
  have no : ∀ {k : Int} {C : Prop}, k ≠ 0 → (k = 0 → C) := fun hk he => absurd he hk
  unfold r18_Revoke
  refine RB.bind (rcheck_tt h hn) fun _ _ => RB.cond (fun hc => RB.ret (no (by simpa using hc))) fun _ => RB.bind (rat_rb _ _) fun k hk => RB.bind (R := fun (q : Bool) => q = false → 0 ≤ k) (RB.cond (fun _ => RB.ret fun h => by cases h) fun hc => yax (by simpa using hc) hk fun _ _ _ => RB.bind (has_rb _ _) fun _ _ => RB.ret fun _ => by simpa using hc) fun q hq => RB.cond (fun _ => RB.ret (no (by decide))) fun hc => yax (hq hc) hk fun y _ hy => ?_
  have hin := (h.2 y hy).1
  exact RB.bind (without_tt (by omega) _) fun r hr => RB.bind (rturned_rb h (hq hc) hk (by have hr : r.length ≤ y.In.length := hr; omega)) fun r hr => RB.ret fun _ => hr
theorem rdrop_rb {b : Prop} {n : Nat} {l : List Role} (h : RO n l) (hn : n ≤ 100) (nm : ByteArray) : RB b (r18_Drop l nm) (fun r => r.2 = 0 → RO (n + 1) r.1) := by
  have no : ∀ {k : Int} {C : Prop}, k ≠ 0 → (k = 0 → C) := fun hk he => absurd he hk
  have hl := h.1
  unfold r18_Drop
  refine RB.bind (rcheck_tt h hn) fun _ _ => RB.cond (fun hc => RB.ret (no (by simpa using hc))) fun _ => RB.bind (rat_rb _ _) fun k hk => RB.cond (fun _ => RB.ret (no (by decide))) fun _ => RB.cond (fun _ => RB.ret (no (by decide))) fun _ => RB.bind (forE_ret (fun j (s : List qRole) => s.length ≤ j ∧ ∀ x ∈ s, x.In.length ≤ n + 1 ∧ x.Name.size ≤ 100) ⟨by simp, by simp⟩ ?_) ?_
  · rintro j s hj ⟨g1, g2⟩
    refine y8 hj fun x _ _ => RB.bind (R := fun (s : List qRole) => s.length ≤ j + 1 ∧ ∀ x ∈ s, x.In.length ≤ n + 1 ∧ x.Name.size ≤ 100) (RB.cond (fun _ => y8 hj fun y _ hy => y8 hj fun z _ hz => RB.bind (without_tt (by have := (h.2 z hz).1; omega) _) fun r hr => RB.ap (by simp only [List.length_cons, List.length_nil]; omega) (RB.ret ⟨by simp; omega, fun w hw => ?_⟩)) (fun _ => RB.ret ⟨by omega, g2⟩)) fun s hs => RB.ret hs
    rcases List.mem_append.1 hw with hw | hw
    · exact g2 w hw
    · simp only [List.mem_cons, List.not_mem_nil, or_false] at hw
      subst hw
      have hr : r.length ≤ z.In.length := hr
      exact ⟨by have := (h.2 z hz).1; simp only; omega, (h.2 y hy).2⟩
  · rintro s ⟨g1, g2⟩
    exact RB.ret fun _ => ⟨by simp only; omega, g2⟩
end Go.Proofs.YtdmapcjbbbifbaaGreat
set_option maxRecDepth 100000
namespace Go.Proofs.YtdmapcjbbbifbaaGreat
open Go.Gv
def CI (n : Nat) (c : qCatalog) : Prop := CB n c ∧ RO n c.Roles
theorem CI.up {n m : Nat} {c : qCatalog} (h : CI n c) (hm : n ≤ m) : CI m c := ⟨h.1.up hm, h.2.up hm⟩
theorem heR_len (c : qCatalog) : (heR c).length ≤ c.Grants.length := rnds_len _ _
theorem rcan_val {c : qCatalog} (h : Sm c.Roles) (hg : c.Grants.length ≤ 1000) (r : ByteArray) (p : Int) (t : ByteArray) : r19_Can c r p t = some (owB c r t || haB c (heR c) r p t true) := by
  unfold r19_Can
  simp only [owns_val h, rheld_val h hg, rhas_val h, Option.bind_some]
  cases owB c r t <;> rfl
theorem rmay_val {c : qCatalog} (h : Sm c.Roles) (hg : c.Grants.length ≤ 1000) (r : ByteArray) (p : Int) (t : ByteArray) : r19_May c r p t = some (owB c r t || haB c (heR c) r p t false) := by
  unfold r19_May
  simp only [owns_val h, rheld_val h hg, rhas_val h, Option.bind_some]
  cases owB c r t <;> rfl
theorem rplace_rb {b : Prop} (c : qCatalog) (s : qStmt) (by_ : ByteArray) : RB b (r19_place c s by_) (fun r => r = -1 ∨ 0 ≤ r ∧ r < (c.Grants.length : Int)) := by
  unfold r19_place
  refine RB.bind (forN_q (Q := fun r => 0 ≤ r ∧ r < (c.Grants.length : Int)) fun j s hj => y8 hj fun _ _ _ => yao (RB.cond (fun _ => RB.ret ⟨by omega, by omega⟩) (fun _ => RB.ret trivial))) ?_
  rintro (_ | _) g
  · exact RB.ret (.inl rfl)
  · exact RB.ret (.inr g)
theorem rgiven_rb {b : Prop} {n : Nat} {c : qCatalog} (h : CI n c) (hn : n ≤ 100) (s : qStmt) (by_ : ByteArray) : RB b (r19_given c s by_) (fun r => r.2 = 0 → r.1.length ≤ n + 1) := by
  have no : ∀ {k : Int} {C : Prop}, k ≠ 0 → (k = 0 → C) := fun hk he => absurd he hk
  have hg := h.1.grants
  unfold r19_given
  refine RB.bind (tat_rb _ _) fun _ _ => RB.bind (R := TT) (RB.cond (fun _ => RB.ret trivial) fun _ => RB.bind (rat_rb _ _) fun _ _ => RB.ret trivial) fun _ _ => RB.cond (fun _ => RB.ret (no (by decide))) fun _ => RB.bind (R := TT) (RB.of (rcan_val (h.2.sm hn) (by omega) _ _ _) trivial) fun _ _ => RB.cond (fun _ => RB.ret (no (by decide))) fun _ => RB.bind (rplace_rb _ _ _) fun k hk => RB.ap (by simp; omega) ?_
  rw [List.nil_append]
  refine RB.cond (fun hc => ?_) fun _ => RB.cond (fun _ => RB.ret (no (by decide))) fun _ => RB.ap (by simp only [List.length_cons, List.length_nil]; omega) (RB.ret fun _ => by simp; omega)
  have h0 : 0 ≤ k := by simpa using hc
  have h1 : k < (c.Grants.length : Int) := by omega
  exact yax h0 h1 fun _ _ _ => RB.cond (fun _ => RB.ret (no (by decide))) fun _ => yax h0 h1 fun _ _ _ => RB.ret fun _ => by simp; omega
theorem rroles_rb {b : Prop} {n : Nat} {c : qCatalog} {s : qStmt} (h : CI n c) (hn : n ≤ 100) (hm : s.Name.size ≤ 100) : RB b (r19_roles c s) (fun r => r.2 = 0 → RO (n + 1) r.1) := by
  unfold r19_roles
  refine RB.cond (fun _ => RB.bind (rcreate_rb h.2 hn hm) ?_) fun _ => RB.cond (fun _ => RB.bind (rgrant_rb h.2 hn _ _) ?_) fun _ => RB.cond (fun _ => RB.bind (rrevoke_rb h.2 hn _ _) ?_) fun _ => RB.bind (forN_q (Q := fun r => r.2 = (34 : Int)) fun j s hj => y8 hj fun _ _ _ => RB.cond (fun _ => RB.ret rfl) (fun _ => RB.ret trivial)) ?_
  · rintro ⟨_, _⟩ g; exact RB.ret g
  · rintro ⟨_, _⟩ g; exact RB.ret g
  · rintro ⟨_, _⟩ g; exact RB.ret g
  · rintro (_ | ⟨_, k⟩) g
    · refine RB.bind (rdrop_rb h.2 hn _) ?_
      rintro ⟨_, _⟩ g; exact RB.ret g
    · simp only at g
      subst g
      exact RB.ret fun h => by cases h
theorem gmake_rb {b : Prop} {n : Nat} {c : qCatalog} {s : qStmt} (h : CI n c) (hn : n ≤ 99) (hm : s.Name.size ≤ 100) (by_ : ByteArray) (most : Int) : RB b (r19_Make c s by_ most) (fun r => r.2 = 0 → CI (n + 1) r.1) := by
  have no : ∀ {k : Int} {C : Prop}, k ≠ 0 → (k = 0 → C) := fun hk he => absurd he hk
  have hg := h.1.grants
  unfold r19_Make
  refine RB.cond (fun _ => RB.ret (no (by decide))) fun _ => RB.bind (rat_rb _ _) fun _ _ => RB.cond (fun _ => RB.ret (no (by decide))) fun _ => RB.bind (R := TT) (RB.cond (fun _ => RB.bind (is_tt (h.2.sm (by omega)) _ _) fun _ _ => RB.ret trivial) (fun _ => RB.ret trivial)) fun _ _ => RB.bind (R := fun (q : (Int × qCatalog × (List qRole) × (List qGrant)) ⊕ (Int × qCatalog)) => match q with | .inl (k, _, rs, gs) => k = 0 → RO (n + 1) rs ∧ gs.length ≤ n + 1 | .inr (k, _) => k ≠ 0) ?_ ?_
  · refine RB.cond (fun _ => RB.ret (no (by decide))) fun _ => RB.bind (R := fun (q : (Int × qCatalog × (List qRole) × (List qGrant)) ⊕ (Int × qCatalog)) => match q with | .inl (k, _, rs, gs) => k = 0 → RO (n + 1) rs ∧ gs.length ≤ n + 1 | .inr (k, _) => k ≠ 0) ?_ ?_
    rotate_left
    · rintro (⟨_, _, _, _⟩ | ⟨_, _⟩) g <;> exact RB.ret g
    refine RB.cond (fun _ => RB.bind (rroles_rb h (by omega) hm) ?_) fun _ => RB.bind (R := fun (q : (Int × qCatalog × (List qGrant)) ⊕ (Int × qCatalog)) => match q with | .inl (k, _, gs) => k = 0 → gs.length ≤ n + 1 | .inr (k, _) => k ≠ 0) (RB.cond (fun _ => RB.bind (rgiven_rb h (by omega) _ _) ?_) fun _ => RB.bind (rplace_rb _ _ _) fun k hk => RB.cond (fun _ => RB.ret (show (4 : Int) ≠ 0 by decide)) fun hc => ?_) ?_
    · rintro ⟨_, _⟩ g
      exact RB.ret fun he => ⟨g he, by omega⟩
    · rintro ⟨_, _⟩ g
      exact RB.ret g
    · have h0 : 0 ≤ k ∧ k < (c.Grants.length : Int) := by
        rcases hk with hk | hk
        · subst hk; simp at hc
        · exact hk
      have ew : w64 (k + 1) = k + 1 := w64_id (by omega) (by omega)
      rw [ew]
      exact RB.cut (by omega) (by omega) (by omega) fun l1 m1 k1 => RB.ap (by simp; omega) (RB.cut (by omega) (by omega) (by omega) fun l2 m2 k2 => RB.ap (by simp; omega) (RB.ret fun _ => by simp; omega))
    · rintro (⟨_, _, _⟩ | ⟨_, _⟩) g
      · exact RB.ret fun he => ⟨h.2.up (by omega), g he⟩
      · exact RB.ret g
  · rintro (⟨k, z, rs, gs⟩ | ⟨k, z⟩) g
    · refine RB.bind (R := fun (e : Int) => e = 0 → k = 0) (RB.cond (fun _ => RB.ret fun h => by cases h) fun _ => RB.ret fun h => h) fun e he => RB.cond (fun hc => RB.ret (no (by simpa using hc))) fun hc => ?_
      obtain ⟨g1, g2⟩ := g (he (by simpa using hc))
      have hh : (heR ({ c with Version := (w64 (c.Version + 1)), Roles := rs, Grants := gs } : qCatalog)).length ≤ gs.length := heR_len _
      refine RB.bind (R := fun l => l = heR _) (RB.of (rheld_val (g1.sm (by omega)) (by show gs.length ≤ 1000; omega)) rfl) fun l hl => RB.ret fun _ => ⟨⟨Nat.le_succ_of_le h.1.tabs, (h.1.up (show n ≤ n + 1 by omega)).ok, ?_⟩, g1⟩
      have hl : l = heR _ := hl
      rw [hl]
      exact Nat.le_trans hh (by omega)
    · exact RB.ret (no g)
theorem SF.of {s : qStmt} (h1 : s.Cols.length ≤ 12) (h2 : s.Cons.length ≤ 12) (h3 : s.Names.length ≤ 12) (h4 : ∀ x ∈ s.Cons, x.Cols.length ≤ 12 ∧ x.Refs.length ≤ 12 ∧ Es x.Check) {l : List ByteArray} (hl : ∀ x ∈ l, x.size ≤ 100)
    (g1 : s.Table ∈ l ∧ s.Name ∈ l) (g2 : ∀ x ∈ s.Cols, x.Name ∈ l) (g3 : ∀ x ∈ s.Cons, x.Name ∈ l ∧ x.Table ∈ l) : SF s :=
  ⟨h1, h2, h3, hl _ g1.1, hl _ g1.2, fun x hx => hl _ (g2 x hx), fun x hx => ⟨hl _ (g3 x hx).1, hl _ (g3 x hx).2, (h4 x hx).1, (h4 x hx).2.1, (h4 x hx).2.2⟩⟩
theorem sfew_fu {b : Prop} : ∀ (n : Nat) (s : qStmt), (b → s.Kids = [] ∧ 1 ≤ n ∨ 2 ≤ n) → RB b (r12_Few_fu n s) (fun r => r = true → SF s)
  | 0, s, h => RB.none fun hb => by have := h hb; omega
  | n + 1, s, h => by
    unfold r12_Few_fu
    refine yao (yao (yao (RB.bind (R := fun (q : Bool) => q = false → s.Cols.length ≤ 12 ∧ s.Cons.length ≤ 12 ∧ s.Names.length ≤ 12 ∧ s.Rows.length ≤ 12 ∧ s.Sets.length ≤ 12 ∧ s.Kids.length ≤ 1) (RB.cond (fun _ => RB.ret fun h => by cases h) fun hc => RB.bind (efew_rb _) fun _ _ => RB.ret fun _ => ?_) fun q hq => RB.cond (fun _ => RB.ret fun h => by cases h) fun hc => ?_)))
    · simp only [Bool.or_eq_false_iff, decide_eq_false_iff_not] at hc
      omega
    obtain ⟨h1, h2, h3, h5, h6, h7⟩ := hq hc
    refine RB.ap (by simp only [List.length_cons, List.length_nil]; omega) ?_
    refine RB.bind (grow (k := 16) (fun (x : qColumn) => x.Name) (by simp; omega) fun j s x hx => by rw [idx_nat, hx]; rfl) fun l0 hl0 => ?_
    have hl0 : l0 = [s.Table, s.Name, s.Role] ++ s.Names ++ s.Cols.map (·.Name) := hl0
    have hn0 : l0.length ≤ 27 := by rw [hl0]; simp; omega
    refine RB.bind (forN_ret (fun j (l : List ByteArray) => l.length ≤ 27 + j * 26 ∧ (∀ x ∈ l0, x ∈ l) ∧ ∀ x ∈ s.Cons.take j, (x.Cols.length ≤ 12 ∧ x.Refs.length ≤ 12 ∧ Es x.Check) ∧ x.Name ∈ l ∧ x.Table ∈ l) (Q := fun r => r = false) ⟨by omega, fun x hx => hx, by simp⟩ ?_) ?_
    · rintro j l hj ⟨g1, g2, g3⟩
      refine y8 hj fun x hx _ => yao (RB.bind (R := fun (q : Bool) => q = false → x.Cols.length ≤ 12 ∧ x.Refs.length ≤ 12 ∧ Es x.Check) (RB.cond (fun _ => RB.ret fun h => by cases h) fun hc => RB.bind (efew_rb _) fun r hr => RB.ret fun hq => ?_) fun q hq => RB.cond (fun _ => RB.ret rfl) fun hc => ?_)
      · simp only [Bool.or_eq_false_iff, decide_eq_false_iff_not] at hc
        exact ⟨by omega, by omega, hr (by simpa using hq)⟩
      have hx3 := hq hc
      refine RB.ap (by simp only [List.length_cons, List.length_nil]; omega) (RB.ap (by simp; omega) (RB.ap (by simp; omega) (RB.ret ⟨by simp; omega, fun y hy => by simp [g2 y hy], ?_⟩)))
      rw [take_next hx]
      intro y hy
      rcases List.mem_append.1 hy with hy | hy
      · exact ⟨(g3 y hy).1, by simp [(g3 y hy).2.1], by simp [(g3 y hy).2.2]⟩
      · simp only [List.mem_cons, List.not_mem_nil, or_false] at hy
        subst hy
        exact ⟨hx3, by simp, by simp⟩
    rintro (l1 | _) g
    rotate_left
    · exact RB.ret fun h => by subst h; cases g
    obtain ⟨g1, g2, g3⟩ := g
    rw [List.take_length] at g3
    refine RB.bind (forN_q (Q := fun q => q = false) fun j _ hj => y8 hj fun x _ _ => RB.cond (fun _ => RB.ret rfl) fun hc => ?_) ?_
    · have hr : ∀ {α : Type} {f : List qExpr → Option α} {Q : α → Prop}, RB b (f s.Rows[j]) Q → RB b ((idx s.Rows (j : Int)).bind f) Q := fun hf => by rw [idx_mem hj]; exact hf
      rename_i hx1 _
      have hxj : x = s.Rows[j] := by rw [List.getElem?_eq_getElem hj] at hx1; injection hx1 with hx1; exact hx1.symm
      have hlen : s.Rows[j].length ≤ 12 := by rw [← hxj]; simp only [decide_eq_false_iff_not] at hc; omega
      refine RB.bind (loopO_rb (fun (i : Int) => ∃ k : Nat, i = (k : Int) ∧ k ≤ s.Rows[j].length) (fun i => s.Rows[j].length - i.toNat) (Q := fun r => match r with | .inl q => q = false | .inr _ => True) ?_ ⟨0, rfl, by omega⟩) ?_
      · rintro _ ⟨k, rfl, hk⟩
        refine hr (RB.cond (fun hc => hr ?_) (fun _ => RB.ret trivial))
        have hlt : k < s.Rows[j].length := by simpa using hc
        have ew : w64 ((k : Int) + 1) = ((k + 1 : Nat) : Int) := by rw [w64_id (by omega) (by omega)]; rfl
        exact y8 hlt fun _ _ _ => RB.bind (efew_rb _) fun _ _ => RB.cond (fun _ => RB.ret rfl) fun _ => RB.ret ⟨⟨k + 1, ew, by omega⟩, by rw [ew]; omega⟩
      · rintro (_ | _) g
        · exact RB.ret g
        · exact RB.ret trivial
    rintro (_ | _) g
    rotate_left
    · exact RB.ret fun h => by subst h; cases g
    refine RB.bind (forN_ret (fun j (l : List ByteArray) => l.length ≤ 400 + j ∧ ∀ x ∈ l1, x ∈ l) (Q := fun r => r = false) ⟨by omega, fun x hx => hx⟩ ?_) ?_
    · rintro j l hj ⟨k1, k2⟩
      exact y8 hj fun _ _ _ => RB.ap (by simp only [List.length_cons, List.length_nil]; omega) (y8 hj fun _ _ _ => RB.bind (efew_rb _) fun _ _ => RB.cond (fun _ => RB.ret rfl) fun _ => RB.ret ⟨by simp; omega, fun x hx => List.mem_append_left _ (k2 x hx)⟩)
    rintro (l2 | _) g
    rotate_left
    · exact RB.ret fun h => by subst h; cases g
    obtain ⟨_, k2⟩ := g
    refine RB.bind (forN_q (Q := fun q => q = false) fun j _ hj => y8 hj fun _ _ _ => RB.bind (efew_rb _) fun _ _ => RB.cond (fun _ => RB.ret rfl) (fun _ => RB.ret trivial)) ?_
    rintro (_ | _) g
    rotate_left
    · exact RB.ret fun h => by subst h; cases g
    refine RB.bind (forN_ret (fun j _ => ∀ x ∈ l2.take j, x.size ≤ 100) (Q := fun r => r = false) (by simp) ?_) ?_
    · intro j _ hj g
      refine y8 hj fun x hx _ => RB.cond (fun _ => RB.ret rfl) fun hc => RB.ret ?_
      show ∀ x ∈ l2.take (j + 1), _
      rw [take_next hx]
      intro y hy
      rcases List.mem_append.1 hy with hy | hy
      · exact g y hy
      · simp only [List.mem_cons, List.not_mem_nil, or_false] at hy
        subst hy
        simp only [decide_eq_false_iff_not] at hc
        omega
    rintro (_ | _) g
    rotate_left
    · exact RB.ret fun h => by subst h; cases g
    rw [List.take_length] at g
    have sf : SF s := by
      refine SF.of h1 h2 h3 (fun x hx => (g3 x hx).1) g ⟨k2 _ (g2 _ (by rw [hl0]; simp)), k2 _ (g2 _ (by rw [hl0]; simp))⟩ (fun x hx => k2 _ (g2 _ ?_)) (fun x hx => ⟨k2 _ (g3 x hx).2.1, k2 _ (g3 x hx).2.2⟩)
      rw [hl0]
      exact List.mem_append_right _ (List.mem_map_of_mem hx)
    refine RB.mono (Q := TT) ?_ (fun _ _ _ => sf)
    refine RB.bind (R := TT) (RB.cond (fun _ => RB.ret trivial) fun hc => ?_) fun _ _ => RB.ret trivial
    have hk : 0 < s.Kids.length := by
      cases hs : s.Kids with
      | nil => rw [hs] at hc; cases hc
      | cons => simp
    have h0 : ∀ {α : Type} {f : qStmt → Option α} {Q : α → Prop}, RB b (f s.Kids[0]) Q → RB b ((idx s.Kids 0).bind f) Q := fun hf => by rw [show (0 : Int) = ((0 : Nat) : Int) from rfl, idx_mem hk]; exact hf
    refine h0 (RB.bind (R := TT) (RB.cond (fun hc2 => h0 (RB.bind (sfew_fu n s.Kids[0] fun hb => ?_).tt fun _ _ => RB.ret trivial)) (fun _ => RB.ret trivial)) fun _ _ => RB.ret trivial)
    have e0 : s.Kids[0].Kids = [] := by
      have : s.Kids[0].Kids.length = 0 := by simp at hc2; simp [hc2]
      exact List.eq_nil_of_length_eq_zero this
    rcases h hb with ⟨h, _⟩ | h
    · rw [h] at hk; simp at hk
    · exact .inl ⟨e0, by omega⟩
theorem sfew_rb {b : Prop} (s : qStmt) : RB b (r12_Few s) (fun r => r = true → SF s) := by
  unfold r12_Few
  exact fuel_tt 2 fun n => sfew_fu n s fun h => .inr h
def AF (l : List law19_Act) : Prop := l.length ≤ 40 ∧ ∀ a ∈ l, SF a.S ∧ a.By.size ≤ 100
theorem afew_rb {b : Prop} (l : List law19_Act) : RB b (law19_Few l) (fun r => r = true → AF l) := by
  unfold law19_Few
  refine RB.bind (forN_ret (fun j _ => j ≤ 40 ∧ ∀ a ∈ l.take j, SF a.S ∧ a.By.size ≤ 100) (Q := fun r => r = false) (by simp) ?_) ?_
  · rintro j _ hj ⟨g0, g⟩
    refine RB.bind (R := fun (q : Bool) => q = false → j < 40 ∧ ∀ x, l[j]? = some x → SF x.S) (RB.cond (fun _ => RB.ret fun h => by cases h) fun hc => y8 hj fun x hx _ => RB.bind (sfew_rb _) fun r hr => RB.ret fun hq => ⟨?_, fun y hy => ?_⟩) fun q hq => RB.bind (R := fun (q' : Bool) => q' = false → q = false ∧ ∀ x, l[j]? = some x → x.By.size ≤ 100) (RB.cond (fun _ => RB.ret fun h => by cases h) fun hc => y8 hj fun x hx _ => RB.ret fun hq => ⟨hc, fun y hy => ?_⟩) fun q' hq' => RB.cond (fun _ => RB.ret rfl) fun hc => RB.ret ?_
    · simp only [decide_eq_false_iff_not] at hc
      omega
    · rw [hx] at hy
      injection hy with hy
      subst hy
      exact hr (by simpa using hq)
    · rw [hx] at hy
      injection hy with hy
      subst hy
      simp only [decide_eq_false_iff_not] at hq
      omega
    · obtain ⟨e1, e2⟩ := hq' hc
      obtain ⟨e3, e4⟩ := hq e1
      have hx : l[j]? = some l[j] := List.getElem?_eq_getElem hj
      refine ⟨by omega, ?_⟩
      rw [take_next hx]
      intro y hy
      rcases List.mem_append.1 hy with hy | hy
      · exact g y hy
      · simp only [List.mem_cons, List.not_mem_nil, or_false] at hy
        subst hy
        exact ⟨e4 _ hx, e2 _ hx⟩
  · rintro (_ | _) g
    · rw [List.take_length] at g
      exact RB.ret fun _ => g
    · exact RB.ret fun h => by subst h; cases g
theorem next_rb {b : Prop} {n : Nat} {c : qCatalog} {a : law19_Act} (h : CI n c) (ha : SF a.S ∧ a.By.size ≤ 100) (h12 : 12 ≤ n) (hn : n ≤ 99) : RB b (law19_Next c a) (fun r => CI (n + 1) r.1) := by
  unfold law19_Next
  refine RB.bind (gmake_rb h hn ha.1.name _ _) ?_
  rintro ⟨d, e⟩ g
  refine RB.bind (R := fun (q : Int × qCatalog) => q.1 = 0 → CI (n + 1) q.2) (RB.cond (fun _ => RB.bind (tmake_rb h.1 ha.1 ha.2 h12 (by omega)) ?_) fun _ => RB.ret g) ?_
  · rintro ⟨d', e'⟩ g'
    exact RB.ret fun he => ⟨(g' he).1, by rw [(g' he).2]; exact h.2.up (by omega)⟩
  · rintro ⟨k, d'⟩ g'
    exact RB.cond (fun _ => RB.ret (h.up (by omega))) fun hc => RB.ret (g' (by simpa using hc))
end Go.Proofs.YtdmapcjbbbifbaaGreat
set_option maxRecDepth 100000
namespace Go.Proofs.YtdmapcjbbbifbaaGreat
open Go.Gv
theorem set_same {α : Type} {xs : List α} {i : Nat} {x : α} (h : xs[i]? = some x) : xs.set i x = xs := by
  refine List.ext_getElem? fun j => ?_
  rw [List.getElem?_set]
  by_cases e : i = j
  · subst e
    have := (List.getElem?_eq_some_iff.1 h).1
    rw [if_pos rfl, if_pos this, h]
  · rw [if_neg e]
theorem clone_str {l : List ByteArray} (h : l.length ≤ 1000) : slices_Clone_string l = some l := by
  unfold slices_Clone_string
  rw [app_le (by simp; omega)]
  rfl
theorem eclone_fu {b : Prop} : ∀ (n : Nat) (e : qExpr), esz e ≤ 1000 → (b → esz e ≤ n) → RB b (expr_Clone_fu n e) (fun r => r = e)
  | 0, e, _, h => RB.none fun hb => by have := h hb; have := esz_pos e; omega
  | n + 1, e, hz, h => by
    have hkl := eszL_len e.Kids
    have h1 := esz_eq e
    unfold expr_Clone_fu
    refine RB.bind (forE_ret (fun j (s : List qExpr) => s = e.Kids.take j) (by simp) ?_) fun s hs => ?_
    · rintro j s hj rfl
      refine y8 hj fun x hx hm => RB.bind (eclone_fu n x (by have := kid_sz hm; omega) fun hb => by have := h hb; have := kid_sz hm; omega) fun r hr => ?_
      have hr : r = x := hr
      subst hr
      exact RB.ap (by simp only [List.length_cons, List.length_nil, List.length_take]; omega) (RB.ret (take_next hx).symm)
    · have hs : s = e.Kids.take e.Kids.length := hs
      rw [List.take_length] at hs
      subst hs
      exact RB.ret (by cases e; rfl)
theorem eclone_eq {e : qExpr} (hz : esz e ≤ 1000) : expr_Clone e = some e := by
  unfold expr_Clone
  exact Ret.eq (fuel_tt (esz e) fun n => eclone_fu n e hz fun h => h)
theorem tclone_eq {n : Nat} {t : qTable} (h : TB n t) (hn : n ≤ 1000) : table_Clone t = some t := by
  have h1 := h.cols
  have h2 := h.cons
  have h3 := h.idx
  unfold table_Clone slices_Clone_qColumn slices_Clone_qCons slices_Clone_qIndex
  rw [app_le (by simp; omega), app_le (by simp; omega), app_le (by simp; omega)]
  simp only [Option.bind_some, List.nil_append]
  have c1 : ∀ j s, j < t.Cons.length → s = t.Cons → (idx s (j : Int)).bind (fun (x45 : qCons) => (slices_Clone_string x45.Cols).bind (fun (r59 : List ByteArray) => (slices_Clone_string x45.Refs).bind (fun (r65 : List ByteArray) => (expr_Clone x45.Check).bind (fun (r71 : qExpr) => (idx s (j : Int)).bind (fun (x72 : qCons) => (idx (s.set ((j : Int)).toNat ({ x72 with Cols := r59 })) (j : Int)).bind (fun (x85 : qCons) => (idx ((s.set ((j : Int)).toNat ({ x72 with Cols := r59 })).set ((j : Int)).toNat ({ x85 with Refs := r65 })) (j : Int)).bind (fun (x97 : qCons) => some (((s.set ((j : Int)).toNat ({ x72 with Cols := r59 })).set ((j : Int)).toNat ({ x85 with Refs := r65 })).set ((j : Int)).toNat ({ x97 with Check := r71 }))))))))) = some t.Cons := by
    rintro j s hj rfl
    have hx : t.Cons[j]? = some t.Cons[j] := List.getElem?_eq_getElem hj
    obtain ⟨_, _, x1, x2, x3⟩ := h.xs _ (List.getElem_mem hj)
    generalize t.Cons[j] = x at hx x1 x2 x3
    have e1 : t.Cons.set ((j : Int)).toNat x = t.Cons := set_same (by simpa using hx)
    simp only [idx_nat, hx, Option.bind_some, clone_str (show x.Cols.length ≤ 1000 by omega), clone_str (show x.Refs.length ≤ 1000 by omega), eclone_eq (Nat.le_trans x3.1 (by omega) : esz x.Check ≤ 1000), e1]
  have c2 : ∀ j s, j < t.Idx.length → s = t.Idx → (idx s (j : Int)).bind (fun (x134 : qIndex) => (slices_Clone_string x134.Cols).bind (fun (r148 : List ByteArray) => (idx s (j : Int)).bind (fun (x149 : qIndex) => some (s.set ((j : Int)).toNat ({ x149 with Cols := r148 }))))) = some t.Idx := by
    rintro j s hj rfl
    have hx : t.Idx[j]? = some t.Idx[j] := List.getElem?_eq_getElem hj
    obtain ⟨_, x1⟩ := h.is _ (List.getElem_mem hj)
    generalize t.Idx[j] = x at hx x1
    have e1 : t.Idx.set ((j : Int)).toNat x = t.Idx := set_same (by simpa using hx)
    simp only [idx_nat, hx, Option.bind_some, clone_str (show x.Cols.length ≤ 1000 by omega), e1]
  refine Ret.eq (RB.bind (forE_ret (fun _ s => s = t.Cons) rfl fun j s hj hs => RB.of (c1 j s hj hs) rfl) fun s hs => RB.bind (forE_ret (fun _ s => s = t.Idx) rfl fun j s hj hs => RB.of (c2 j s hj hs) rfl) fun u hu => ?_)
  have hs : s = t.Cons := hs
  have hu : u = t.Idx := hu
  rw [hs, hu]
  exact RB.ret rfl
theorem cfind_eq {n : Nat} {c : qCatalog} (h : CB n c) (hn : n ≤ 1000) (nm : ByteArray) : (tI c nm < 0 ∧ catalog_Find c nm = some (z_qTable, false)) ∨ ∃ t, 0 ≤ tI c nm ∧ idx c.Tables (tI c nm) = some t ∧ catalog_Find c nm = some (t, true) := by
  have hf : slices_IndexFunc_qTable c.Tables (fun (u0 : qTable) => catalog_Find_1 u0 nm) = some (tI c nm) := by
    unfold slices_IndexFunc_qTable tI
    rw [forN_find (fun (x : qTable) => sEq x.Name nm) (fun j => (j : Int)) (fun j x hx => by rw [idx_nat, hx]; unfold catalog_Find_1; simp only [Option.bind_some]; cases sEq x.Name nm <;> rfl)]
    cases c.Tables.findIdx? (fun x => sEq x.Name nm) <;> rfl
  unfold catalog_Find
  rw [hf]
  simp only [Option.bind_some]
  by_cases h0 : 0 ≤ tI c nm
  · right
    obtain ⟨k, t, hk, ht, hm, _⟩ := tI_get h0
    refine ⟨t, h0, by rw [hk, idx_nat]; exact ht, ?_⟩
    rw [show decide (tI c nm ≥ 0) = true by simpa using h0, hk, idx_nat, ht]
    simp only [Option.bind_some, cond_true, tclone_eq (h.ok t hm).1 hn]
  · left
    rw [show decide (tI c nm ≥ 0) = false by simpa using h0]
    exact ⟨by omega, rfl⟩
theorem gowns_val {n : Nat} {c : qCatalog} (h : CB n c) (hn : n ≤ 1000) (hr : Sm c.Roles) (r t : ByteArray) : grants_Owns c r t = some (owB c r t) := by
  rw [← owns_val hr]
  unfold grants_Owns r19_Owns
  rw [tat_val]
  rcases cfind_eq h hn t with ⟨h0, e⟩ | ⟨x, h0, hx, e⟩
  · rw [e]
    simp only [Option.bind_some]
    rw [show decide (tI c t ≥ 0) = false by simp; omega]
    rfl
  · rw [e]
    simp only [Option.bind_some]
    rw [show decide (tI c t ≥ 0) = true by simpa using h0]
    simp only [Option.bind_some, cond_true, hx, is_same hr]
theorem mfind_eq {l : List Role} (h : Sm l) (n : ByteArray) : ∃ r, member_Find l n = some (r, decide (0 ≤ rI l n)) := by
  unfold member_Find
  rw [at_same, rat_val]
  simp only [Option.bind_some]
  by_cases h0 : rI l n < 0
  · rw [show decide (rI l n < 0) = true by simpa using h0, show decide (0 ≤ rI l n) = false by simp; omega]
    exact ⟨_, rfl⟩
  · obtain ⟨x, hx, hx'⟩ := idx_lt (xs := l) (i := rI l n) (by omega) (rI_lt l n)
    have hm := List.mem_of_getElem? hx'
    rw [show decide (rI l n < 0) = false by simpa using h0, show decide (0 ≤ rI l n) = true by simp; omega, hx]
    simp only [Option.bind_some, cond_false, clone_str (show x.In.length ≤ 1000 by have := h.2.1 x hm; omega)]
    exact ⟨_, rfl⟩
theorem ghas_val {c : qCatalog} (h : Sm c.Roles) (l : List qGrant) (r : ByteArray) (p : Int) (t : ByteArray) (o : Bool) : grants_has c l r p t o = some (haB c l r p t o) := by
  have h1 : ∀ g, grants_has_1 g p t o c r = some (g.Priv == p && sEq g.Table t && (g.Option || !o) && isB c.Roles r g.To) := by
    intro g
    unfold grants_has_1
    rw [is_same h, is_val h]
    cases (g.Priv == p && sEq g.Table t && (g.Option || !o)) <;> rfl
  unfold grants_has slices_ContainsFunc_qGrant slices_IndexFunc_qGrant haB
  rw [forN_find (fun (g : qGrant) => g.Priv == p && sEq g.Table t && (g.Option || !o) && isB c.Roles r g.To) (fun j => (j : Int)) (fun j x hx => by rw [idx_nat, hx]; simp only [Option.bind_some, h1]; cases (x.Priv == p && sEq x.Table t && (x.Option || !o) && isB c.Roles r x.To) <;> rfl)]
  cases e : l.findIdx? (fun (g : qGrant) => g.Priv == p && sEq g.Table t && (g.Option || !o) && isB c.Roles r g.To) with
  | none =>
    rw [List.findIdx?_eq_none_iff] at e
    have : (l.any fun g => g.Priv == p && sEq g.Table t && (g.Option || !o) && isB c.Roles r g.To) = false := List.any_eq_false.2 fun x hx => by rw [e x hx]; simp
    rw [this]
    rfl
  | some k =>
    obtain ⟨hk, h2, _⟩ := List.findIdx?_eq_some_iff_getElem.1 e
    have : (l.any fun g => g.Priv == p && sEq g.Table t && (g.Option || !o) && isB c.Roles r g.To) = true := List.any_eq_true.2 ⟨_, List.getElem_mem hk, h2⟩
    rw [this]
    simp
noncomputable def pk (c : qCatalog) : Nat → qGrant → Bool
  | 0, _ => false
  | k + 1, g => okB c (rnds c k) g
theorem rnds_pk (c : qCatalog) (k : Nat) : rnds c k = c.Grants.filter (pk c k) := by
  cases k with
  | zero => simp [rnds, pk]
  | succ k => rfl
theorem haB_mono {c : qCatalog} {l m : List qGrant} (h : ∀ g ∈ l, g ∈ m) {r : ByteArray} {p : Int} {t : ByteArray} {o : Bool} (hh : haB c l r p t o = true) : haB c m r p t o = true := by
  obtain ⟨g, hg, e⟩ := List.any_eq_true.1 hh
  exact List.any_eq_true.2 ⟨g, h g hg, e⟩
theorem okB_mono {c : qCatalog} {l m : List qGrant} (h : ∀ g ∈ l, g ∈ m) {g : qGrant} (hh : okB c l g = true) : okB c m g = true := by
  unfold okB at hh ⊢
  simp only [Bool.and_eq_true, Bool.or_eq_true] at hh ⊢
  exact ⟨hh.1, hh.2.imp id (haB_mono h)⟩
theorem pk_mono (c : qCatalog) : ∀ (k : Nat) (g : qGrant), pk c k g = true → pk c (k + 1) g = true
  | 0, g, h => by cases h
  | k + 1, g, h => by
    refine okB_mono (fun x hx => ?_) h
    rw [rnds_pk] at hx ⊢
    rw [List.mem_filter] at hx ⊢
    exact ⟨hx.1, pk_mono c k x hx.2⟩
theorem stable {c : qCatalog} {k : Nat} (h : rnds c (k + 1) = rnds c k) : ∀ m, rnds c (k + m) = rnds c k
  | 0 => rfl
  | m + 1 => by
    show rnd c (rnds c (k + m)) = _
    rw [stable h m]
    exact h
theorem list_val {c : qCatalog} (hg : c.Grants.length ≤ 1000) (p : qGrant → Bool) : grants_Held_1 c (c.Grants.map p) = some (c.Grants.filter p) := by
  unfold grants_Held_1
  refine Ret.eq (RB.bind (forE_ret (fun j s => s = (c.Grants.take j).filter p) (by simp) ?_) fun s hs => RB.ret (by have hs : s = (c.Grants.take c.Grants.length).filter p := hs; rw [hs, List.take_length]))
  rintro j s hj rfl
  have hx : c.Grants[j]? = some c.Grants[j] := List.getElem?_eq_getElem hj
  have hle : ((c.Grants.take j).filter p).length ≤ j := Nat.le_trans (List.length_filter_le ..) (by simp; omega)
  generalize c.Grants[j] = x at hx
  simp only [idx_nat, List.getElem?_map, hx, Option.map_some, Option.bind_some]
  rw [take_next hx, List.filter_append, app_le (by simp only [List.length_cons, List.length_nil]; omega)]
  cases hp : p x
  · exact RB.ret (by simp [hp])
  · exact RB.ret (by simp [hp])
theorem grow_flags {c : qCatalog} {p q : qGrant → Bool} (h : ∀ g, p g = true → q g = true) : c.Grants.map q = c.Grants.map p ∨ (c.Grants.map p).count true < (c.Grants.map q).count true := by
  rcases cnt (c.Grants.map p) (c.Grants.map q) (by simp) (fun k hk => by
    rw [List.getElem?_map] at hk ⊢
    cases hx : c.Grants[k]? with
    | none => rw [hx] at hk; cases hk
    | some g => rw [hx] at hk; simp only [Option.map_some, Option.some.injEq] at hk ⊢; exact h g hk) with h | h
  · exact .inl h.symm
  · exact .inr h
theorem round_val {n : Nat} {c : qCatalog} (h : CB n c) (hn : n ≤ 1000) (hr : Sm c.Roles) {p q : qGrant → Bool} (now : List qGrant) (hq : ∀ g, q g = okB c now g) (hpq : ∀ g, p g = true → q g = true) :
    forE (fun (i50 : Nat) => fun (s : Bool × (List Bool)) => match s with | (s48, s49) => (idx c.Grants (i50 : Int)).bind (fun (x59 : qGrant) => (catalog_Find c x59.Table).bind (fun ((r71, r72) : qTable × Bool) => (member_Find c.Roles x59.To).bind (fun ((r84, r85) : qRole × Bool) => (idx s49 (i50 : Int)).bind (fun (x92 : Bool) => ((bif (((!x92) && r72) && r85) then (grants_Owns c x59.By x59.Table).bind (fun (r106 : Bool) => ((bif r106 then some true else (grants_has c now x59.By x59.Priv x59.Table true).bind (fun (r119 : Bool) => some r119))).bind (fun (j107 : Bool) => some j107)) else some false)).bind (fun (j97 : Bool) => ((bif j97 then (idx s49 (i50 : Int)).bind (fun (x134 : Bool) => some (true, (s49.set ((i50 : Int)).toNat true))) else some (s48, s49))).bind (fun ((s141, s142) : Bool × (List Bool)) => some (s141, s142)))))))) c.Grants.length 0 (false, c.Grants.map p) =
      some (decide (c.Grants.map q ≠ c.Grants.map p), c.Grants.map q) := by
  refine Ret.eq ((forE_ret (fun j (s : Bool × List Bool) => s.2 = (c.Grants.take j).map q ++ (c.Grants.drop j).map p ∧ s.1 = decide ((c.Grants.take j).map q ≠ (c.Grants.take j).map p)) ⟨by simp, by simp⟩ ?_).mono ?_)
  · rintro j ⟨g, fl⟩ hj ⟨e1, e2⟩
    simp only at e1 e2
    have hx : c.Grants[j]? = some c.Grants[j] := List.getElem?_eq_getElem hj
    have hd : c.Grants.drop j = c.Grants[j] :: c.Grants.drop (j + 1) := List.drop_eq_getElem_cons hj
    generalize c.Grants[j] = x at hx hd
    have hlen : ((c.Grants.take j).map q).length = j := by simp; omega
    have hfl : fl[j]? = some (p x) := by
      rw [e1, List.getElem?_append_right (by omega), hlen, Nat.sub_self, hd]
      rfl
    have hset : ∀ v, fl.set j v = (c.Grants.take j).map q ++ v :: (c.Grants.drop (j + 1)).map p := by
      intro v
      rw [e1, List.set_append_right _ _ (by omega), hlen, Nat.sub_self, hd]
      rfl
    have hfin : ∀ v, v = q x → (c.Grants.take j).map q ++ v :: (c.Grants.drop (j + 1)).map p = (c.Grants.take (j + 1)).map q ++ (c.Grants.drop (j + 1)).map p := by
      rintro v rfl
      rw [take_next hx]
      simp
    have hg : decide ((c.Grants.take (j + 1)).map q ≠ (c.Grants.take (j + 1)).map p) = (g || decide (q x ≠ p x)) := by
      rw [take_next hx, List.map_append, List.map_append, e2]
      by_cases h1 : (c.Grants.take j).map q = (c.Grants.take j).map p
      · rw [h1]; simp
      · have : ¬ ((c.Grants.take j).map q ++ [x].map q = (c.Grants.take j).map p ++ [x].map p) := fun he => h1 (List.append_inj_left he (by simp))
        simp [h1, this]
    obtain ⟨mr, hmf⟩ := mfind_eq hr x.To
    have hcf : ∃ t, catalog_Find c x.Table = some (t, decide (0 ≤ tI c x.Table)) := by
      rcases cfind_eq h hn x.Table with ⟨h0, e⟩ | ⟨t, h0, _, e⟩
      · exact ⟨_, by rw [e, show decide (0 ≤ tI c x.Table) = false by simp; omega]⟩
      · exact ⟨_, by rw [e, show decide (0 ≤ tI c x.Table) = true by simpa using h0]⟩
    obtain ⟨t, hcf⟩ := hcf
    have hqx := hq x
    unfold okB at hqx
    have hpx := hpq x
    simp only [idx_nat, hx, Option.bind_some, hcf, hmf, hfl, gowns_val h hn hr, ghas_val hr]
    have cond : ((bif (((!p x) && decide (0 ≤ tI c x.Table)) && decide (0 ≤ rI c.Roles x.To)) then ((bif owB c x.By x.Table then some true else some (haB c now x.By x.Priv x.Table true))).bind (fun (j107 : Bool) => some j107) else some false)) = some (!p x && q x) := by
      rw [hqx]
      cases p x <;> cases decide (0 ≤ tI c x.Table) <;> cases decide (0 ≤ rI c.Roles x.To) <;> cases owB c x.By x.Table <;> cases haB c now x.By x.Priv x.Table true <;> rfl
    rw [cond]
    simp only [Option.bind_some]
    cases hp : p x with
    | true =>
      have hqt := hpx hp
      simp only [Bool.not_true, Bool.false_and, cond_false, Option.bind_some]
      refine RB.ret ⟨?_, ?_⟩
      · simp only
        rw [← hfin (p x) (by rw [hp, hqt]), ← hset, set_same hfl]
      · simp only
        rw [hg, hp, hqt]
        simp
    | false =>
      cases hq' : q x with
      | false =>
        simp only [Bool.not_false, Bool.and_false, cond_false, Option.bind_some]
        refine RB.ret ⟨?_, ?_⟩
        · simp only
          rw [← hfin (p x) (by rw [hp, hq']), ← hset, set_same hfl]
        · simp only
          rw [hg, hp, hq']
          simp
      | true =>
        simp only [Bool.not_false, Bool.and_true, cond_true, Option.bind_some]
        refine RB.ret ⟨?_, ?_⟩
        · simp only [Int.toNat_natCast]
          rw [hset, hfin true hq'.symm]
        · simp only
          rw [hg, hp, hq']
          simp
  · rintro ⟨g, fl⟩ ⟨e1, e2⟩
    simp only [List.take_length, List.drop_length, List.map_nil, List.append_nil] at e1 e2
    rw [e1, e2]
theorem gheld_val {n : Nat} {c : qCatalog} (h : CB n c) (hn : n ≤ 1000) (hr : Sm c.Roles) : grants_Held c = some (heR c) := by
  have hg := h.grants
  unfold grants_Held
  have hmk : mk 1 (c.Grants.length : Int) = some c.Grants.length := by
    unfold mk
    rw [if_pos (by omega)]
    rfl
  rw [hmk]
  simp only [Option.bind_some]
  have h0 : List.replicate c.Grants.length false = c.Grants.map (pk c 0) := by
    symm
    exact List.eq_replicate_iff.2 ⟨by simp, fun b hb => by obtain ⟨g, _, rfl⟩ := List.mem_map.1 hb; rfl⟩
  rw [h0]
  refine Ret.eq (RB.bind (loopO_rb (fun (s : Bool × List Bool) => ∃ k : Nat, s.2 = c.Grants.map (pk c k) ∧ k ≤ s.2.count true ∧ (s.1 = false → c.Grants.map (pk c (k + 1)) = c.Grants.map (pk c k))) (fun s => 2 * (c.Grants.length - s.2.count true) + s.1.toNat) (Q := fun fl => ∃ k : Nat, k ≤ c.Grants.length ∧ fl = c.Grants.map (pk c k) ∧ c.Grants.map (pk c (k + 1)) = c.Grants.map (pk c k)) ?_ ⟨0, rfl, Nat.zero_le _, fun h => by cases h⟩) ?_)
  · rintro ⟨g, fl⟩ ⟨k, e1, e2, e3⟩
    simp only at e1 e2 e3
    subst e1
    cases g with
    | false =>
      refine RB.ret ⟨k, ?_, rfl, e3 rfl⟩
      have := List.count_le_length (a := true) (l := c.Grants.map (pk c k))
      simp only [List.length_map] at this
      omega
    | true =>
      simp only [cond_true]
      rw [list_val (by omega)]
      simp only [Option.bind_some]
      rw [round_val h hn hr (q := pk c (k + 1)) (c.Grants.filter (pk c k)) (fun g => by rw [← rnds_pk]; rfl) (pk_mono c k)]
      have hc1 := List.count_le_length (a := true) (l := c.Grants.map (pk c (k + 1)))
      simp only [List.length_map] at hc1
      rcases grow_flags (c := c) (pk_mono c k) with he | he
      · rw [show decide (c.Grants.map (pk c (k + 1)) ≠ c.Grants.map (pk c k)) = false by simp [he]]
        refine RB.ret ⟨⟨k, he, by rw [he]; exact e2, fun _ => he⟩, ?_⟩
        simp only [he, Bool.toNat_true, Bool.toNat_false]
        omega
      · have hne : c.Grants.map (pk c (k + 1)) ≠ c.Grants.map (pk c k) := fun e => by rw [e] at he; omega
        rw [show decide (c.Grants.map (pk c (k + 1)) ≠ c.Grants.map (pk c k)) = true by simpa using hne]
        refine RB.ret ⟨⟨k + 1, rfl, by simp only; omega, fun h => by cases h⟩, ?_⟩
        simp only [Bool.toNat_true]
        omega
  · rintro fl ⟨k, hk, rfl, he⟩
    rw [list_val (by omega)]
    refine RB.ret ?_
    have hst : rnds c (k + 1) = rnds c k := by
      rw [rnds_pk, rnds_pk]
      refine List.filter_congr fun g hg' => ?_
      obtain ⟨i, hi, rfl⟩ := List.mem_iff_getElem.1 hg'
      have := congrArg (fun l => l[i]?) he
      simpa [hi] using this
    have := stable hst (c.Grants.length + 1 - k)
    rw [show k + (c.Grants.length + 1 - k) = c.Grants.length + 1 by omega] at this
    show c.Grants.filter (pk c k) = rnds c (c.Grants.length + 1)
    rw [this, rnds_pk]
theorem gmay_val {n : Nat} {c : qCatalog} (h : CB n c) (hn : n ≤ 1000) (hr : Sm c.Roles) (r : ByteArray) (p : Int) (t : ByteArray) : grants_May c r p t = r19_May c r p t := by
  have hg := h.grants
  rw [rmay_val hr (by omega)]
  unfold grants_May
  simp only [gowns_val h hn hr, gheld_val h hn hr, ghas_val hr, Option.bind_some]
  cases owB c r t <;> rfl
end Go.Proofs.YtdmapcjbbbifbaaGreat
set_option maxRecDepth 100000
namespace Go.Proofs.YtdmapcjbbbifbaaGreat
open Go.Gv
theorem SF.role (n : ByteArray) (h : n.size ≤ 100) : SF { z_qStmt with Kind := 10, Name := n } := ⟨Nat.zero_le _, Nat.zero_le _, Nat.zero_le _, Nat.zero_le _, h, (fun x hx => by cases hx), (fun x hx => by cases hx)⟩
theorem first_rb {b : Prop} : RB b law19_first (CI 16) := by
  unfold law19_first r17_New
  refine yao (RB.bind (forE_ret (fun j c => CI (12 + j) c) ⟨⟨Nat.zero_le _, (fun t ht => by cases ht), Nat.zero_le _⟩, ⟨by show 1 ≤ 8; omega, fun x hx => ?_⟩⟩ ?_) ?_)
  · simp only [List.mem_cons, List.not_mem_nil, or_false] at hx
    subst hx
    exact ⟨Nat.zero_le _, by show (4 : Nat) ≤ 100; omega⟩
  · rintro j c hj hc
    refine RB.bind (R := fun (q : qCatalog × Int) => q.2 = 0 → CI (12 + (j + 1)) q.1) (y8 (xs := [(⟨#[97, 110, 110]⟩ : ByteArray), ⟨#[98, 111, 98]⟩, ⟨#[99, 121]⟩]) hj fun x _ hx => ?_) ?_
    · have hs : x.size ≤ 100 := by
        simp only [List.mem_cons, List.not_mem_nil, or_false] at hx
        rcases hx with rfl | rfl | rfl <;> decide
      refine RB.bind (gmake_rb hc (by omega) (SF.role x hs).name _ _) ?_
      rintro ⟨d, e⟩ g
      exact RB.ret g
    · rintro ⟨d, e⟩ g
      exact RB.bind (R := CI (12 + (j + 1))) (RB.cond (fun he => RB.ret (g (by simpa using he))) (fun _ => RB.ret (hc.up (by omega)))) fun _ h => RB.ret h
  · intro c hc
    have hc : CI 15 c := hc
    refine RB.bind (tmake_rb (n := 15) hc.1 ⟨by show 1 ≤ 12; omega, Nat.zero_le _, Nat.zero_le _, by show 1 ≤ 100; omega, Nat.zero_le _, fun x hx => ?_, (fun x hx => by cases hx)⟩ (by show 3 ≤ 100; omega) (by omega) (by omega)) ?_
    · simp only [List.mem_cons, List.not_mem_nil, or_false] at hx
      subst hx
      show 1 ≤ 100
      omega
    · rintro ⟨d, e⟩ g
      exact RB.bind (R := CI 16) (RB.cond (fun he => RB.ret ⟨(g (by simpa using he)).1, by rw [(g (by simpa using he)).2]; exact hc.2.up (by omega)⟩) (fun _ => RB.ret (hc.up (by omega)))) fun _ h => RB.ret h
theorem grown_rb {b : Prop} {l : List law19_Act} (h : AF l) : RB b (law19_Grown l) (CI 60) := by
  have hl := h.1
  unfold law19_Grown
  refine RB.bind first_rb fun c hc => RB.bind (forE_ret (fun j c => CI (16 + j) c) hc ?_) fun d hd => RB.ret ?_
  · intro j c hj hc
    refine y8 hj fun a _ ha => RB.bind (next_rb hc (h.2 a ha) (by omega) (by omega)) ?_
    rintro ⟨d, e⟩ g
    exact RB.ret g
  · have hd : CI (16 + l.length) d := hd
    exact hd.up (by omega)
end Go.Proofs.YtdmapcjbbbifbaaGreat
set_option maxRecDepth 100000
namespace Go.Proofs.YtdmapcjbbbifbaaGreat
open Go.Gv
def r18_Reach_c (kf : Nat) (p0 : List qRole) (p1 : ByteArray) : Option (List Bool) := (mk 1 (p0.length : Int)).bind (fun (n1 : Nat) => (r18_At p0 p1).bind (fun (r13 : Int) => ((bif (decide (r13 ≥ 0)) then (idx (List.replicate n1 false) r13).bind (fun (x18 : Bool) => some ((List.replicate n1 false).set (r13).toNat true)) else some (List.replicate n1 false))).bind (fun (j14 : List Bool) => (forE (fun (i29 : Nat) => fun (s28 : List Bool) => (forE (fun (i40 : Nat) => fun (s39 : List Bool) => (loopK kf (fun (s : Int × (List Bool)) => match s with | (s50, s51) => (idx s51 (i40 : Int)).bind (fun (x56 : Bool) => ((bif x56 then (idx p0 (i40 : Int)).bind (fun (x61 : qRole) => some (decide (s50 < (x61.In.length : Int)))) else some false)).bind (fun (j57 : Bool) => (bif j57 then (idx p0 (i40 : Int)).bind (fun (x64 : qRole) => (idx x64.In s50).bind (fun (x65 : ByteArray) => (r18_At p0 x65).bind (fun (r71 : Int) => ((bif (decide (r71 ≥ 0)) then (idx s51 r71).bind (fun (x76 : Bool) => some (s51.set (r71).toNat true)) else some s51)).bind (fun (j72 : List Bool) => some (.inl ((w64 (s50 + 1)), j72)))))) else some (.inr s51))))) (0, s39)).bind (fun (s84 : List Bool) => some s84)) p0.length 0 s28).bind (fun (s39 : (List Bool)) => some s39)) p0.length 0 j14).bind (fun (s28 : (List Bool)) => some s28))))
theorem r18_Reach_le (kf : Nat) (p0 : List qRole) (p1 : ByteArray)  : Le (r18_Reach_c kf p0 p1) (r18_Reach p0 p1) := by
  unfold r18_Reach_c r18_Reach
  repeat first
    | with_reducible exact Le.refl _
    | refine Le.bind ?_ (fun x => ?_)
    | refine Le.cond ?_ ?_
    | refine Le.loopK (fun s => ?_) _ _
    | refine Le.forE (fun i s => ?_) _ _ _
    | exact Le.refl _
    | cases x
    | cases s
def r18_into_c (kf : Nat) (p0 : List ByteArray) (p1 : ByteArray) : Option (List ByteArray) := (loopK kf (fun (s4 : Int) => ((bif (decide (s4 < (p0.length : Int))) then (idx p0 s4).bind (fun (x13 : ByteArray) => some (sLt x13 p1)) else some false)).bind (fun (j9 : Bool) => (bif j9 then some (.inl (w64 (s4 + 1))) else some (.inr s4)))) 0).bind (fun (s17 : Int) => (sub p0 0 s17).bind (fun (x18 : List ByteArray) => (app 16 ([] : List ByteArray) x18).bind (fun (x21 : List ByteArray) => (app 16 x21 ([p1] : List ByteArray)).bind (fun (x36 : List ByteArray) => (sub p0 s17 (p0.length : Int)).bind (fun (x45 : List ByteArray) => (app 16 x36 x45).bind (fun (x46 : List ByteArray) => some x46))))))
theorem r18_into_le (kf : Nat) (p0 : List ByteArray) (p1 : ByteArray)  : Le (r18_into_c kf p0 p1) (r18_into p0 p1) := by
  unfold r18_into_c r18_into
  repeat first
    | with_reducible exact Le.refl _
    | refine Le.bind ?_ (fun x => ?_)
    | refine Le.cond ?_ ?_
    | refine Le.loopK (fun s => ?_) _ _
    | exact Le.refl _
    | cases x
    | cases s
def r18_All_c (kf : Nat) (p0 : List qRole) (p1 : ByteArray) : Option (List ByteArray) := (r18_Reach_c kf p0 p1).bind (fun (r6 : List Bool) => (forE (fun (i11 : Nat) => fun (s10 : List ByteArray) => (idx r6 (i11 : Int)).bind (fun (x18 : Bool) => ((bif x18 then (idx p0 (i11 : Int)).bind (fun (x23 : qRole) => (r18_into_c kf s10 x23.Name).bind (fun (r29 : List ByteArray) => some r29)) else some s10)).bind (fun (j19 : List ByteArray) => some j19))) p0.length 0 ([] : List ByteArray)).bind (fun (s10 : (List ByteArray)) => some s10))
theorem r18_All_le (kf : Nat) (p0 : List qRole) (p1 : ByteArray)  : Le (r18_All_c kf p0 p1) (r18_All p0 p1) := by
  unfold r18_All_c r18_All
  repeat first
    | with_reducible exact Le.refl _
    | exact r18_Reach_le kf _ _
    | exact r18_into_le kf _ _
    | refine Le.bind ?_ (fun x => ?_)
    | refine Le.cond ?_ ?_
    | refine Le.forE (fun i s => ?_) _ _ _
    | exact Le.refl _
    | cases x
    | cases s
def r18_Is_c (kf : Nat) (p0 : List qRole) (p1 : ByteArray) (p2 : ByteArray) : Option Bool := (r18_All_c kf p0 p1).bind (fun (r6 : List ByteArray) => (r14_Has r6 p2).bind (fun (r12 : Bool) => some r12))
theorem r18_Is_le (kf : Nat) (p0 : List qRole) (p1 : ByteArray) (p2 : ByteArray)  : Le (r18_Is_c kf p0 p1 p2) (r18_Is p0 p1 p2) := by
  unfold r18_Is_c r18_Is
  repeat first
    | with_reducible exact Le.refl _
    | exact r18_All_le kf _ _
    | refine Le.bind ?_ (fun x => ?_)
    | refine Le.cond ?_ ?_
    | exact Le.refl _
    | cases x
    | cases s
def r09_all_c (kf : Nat) (p0 : ByteArray) (p1 : Int) (p2 : ByteArray) : Option Bool := (loopK kf (fun (s4 : Int) => (bif (decide (s4 < (p0.size : Int))) then (loopK kf (fun (s : Bool × Int) => match s with | (s12, s13) => (bif (decide (s13 < (p2.size : Int))) then ((bif s12 then some true else (sAt p2 s13).bind (fun (y24 : Int) => (sAt p0 s4).bind (fun (y25 : Int) => some (y24 == y25))))).bind (fun (j20 : Bool) => some (.inl (j20, (w64 (s13 + 1))))) else some (.inr s12))) (false, 0)).bind (fun (s29 : Bool) => (bif (!s29) then some (.inr (.inl false)) else some (.inl (w64 (s4 + 1))))) else some (.inr (.inr ())))) p1).bind (fun (t : Bool ⊕ Unit) => match t with | (.inl s31) => some s31 | (.inr ()) => some true)
theorem r09_all_le (kf : Nat) (p0 : ByteArray) (p1 : Int) (p2 : ByteArray)  : Le (r09_all_c kf p0 p1 p2) (r09_all p0 p1 p2) := by
  unfold r09_all_c r09_all
  repeat first
    | with_reducible exact Le.refl _
    | refine Le.bind ?_ (fun x => ?_)
    | refine Le.cond ?_ ?_
    | refine Le.loopK (fun s => ?_) _ _
    | exact Le.refl _
    | cases x
    | cases s
def r03_Plain_c (kf : Nat) (p0 : ByteArray) : Option Bool := none
theorem r03_Plain_le (kf : Nat) (p0 : ByteArray)  : Le (r03_Plain_c kf p0) (r03_Plain p0) := by
  exact Le.none _
def r09_quoted_c (kf : Nat) (p0 : ByteArray) : Option Bool := ((bif (decide ((p0.size : Int) < 2)) then some true else (sAt p0 0).bind (fun (y5 : Int) => some (y5 != 39)))).bind (fun (j1 : Bool) => ((bif j1 then some true else (sAt p0 (w64 ((p0.size : Int) - 1))).bind (fun (y12 : Int) => some (y12 != 39)))).bind (fun (j8 : Bool) => ((bif j8 then some true else (r03_Plain_c kf p0).bind (fun (r24 : Bool) => some (!r24)))).bind (fun (j15 : Bool) => (bif j15 then some false else (loopK kf (fun (s : Int × Int) => match s with | (s30, s31) => (bif (decide (s31 < (w64 ((p0.size : Int) - 1)))) then ((sAt p0 s31).bind (fun (y40 : Int) => (bif (y40 != 39) then (bif ((Int.tmod s30 2) == 1) then some (.inl false) else some (.inr s30)) else some (.inr (w64 (s30 + 1)))))).bind (fun (t : Bool ⊕ Int) => match t with | (.inl s42) => some (.inr (.inl s42)) | (.inr s45) => some (.inl (s45, (w64 (s31 + 1))))) else some (.inr (.inr s30)))) (0, 1)).bind (fun (t : Bool ⊕ Int) => match t with | (.inl s44) => some s44 | (.inr s49) => some ((Int.tmod s49 2) == 0))))))
theorem r09_quoted_le (kf : Nat) (p0 : ByteArray)  : Le (r09_quoted_c kf p0) (r09_quoted p0) := by
  unfold r09_quoted_c r09_quoted
  repeat first
    | with_reducible exact Le.refl _
    | exact r03_Plain_le kf _
    | refine Le.bind ?_ (fun x => ?_)
    | refine Le.cond ?_ ?_
    | refine Le.loopK (fun s => ?_) _ _
    | exact Le.refl _
    | cases x
    | cases s
def r09_Kind_c (kf : Nat) (p0 : ByteArray) : Option Int := (bif (sEq p0 (⟨#[]⟩ : ByteArray)) then some 7 else ((bif (decide ((p0.size : Int) ≤ 12)) then (ssub p0 0 1).bind (fun (x5 : ByteArray) => (r09_all_c kf x5 0 (⟨#[97, 98, 99, 100, 101, 102, 103, 104, 105, 106, 107, 108, 109, 110, 111, 112, 113, 114, 115, 116, 117, 118, 119, 120, 121, 122]⟩ : ByteArray)).bind (fun (r11 : Bool) => some r11)) else some false)).bind (fun (j1 : Bool) => ((bif j1 then (r09_all_c kf p0 1 (⟨#[97, 98, 99, 100, 101, 102, 103, 104, 105, 106, 107, 108, 109, 110, 111, 112, 113, 114, 115, 116, 117, 118, 119, 120, 121, 122, 48, 49, 50, 51, 52, 53, 54, 55, 56, 57, 95]⟩ : ByteArray)).bind (fun (r23 : Bool) => some r23) else some false)).bind (fun (j14 : Bool) => (bif j14 then some 1 else ((bif (decide ((p0.size : Int) ≤ 16)) then (ssub p0 0 1).bind (fun (x30 : ByteArray) => (r09_all_c kf x30 0 (⟨#[65, 66, 67, 68, 69, 70, 71, 72, 73, 74, 75, 76, 77, 78, 79, 80, 81, 82, 83, 84, 85, 86, 87, 88, 89, 90]⟩ : ByteArray)).bind (fun (r36 : Bool) => some r36)) else some false)).bind (fun (j26 : Bool) => ((bif j26 then (r09_all_c kf p0 1 (⟨#[65, 66, 67, 68, 69, 70, 71, 72, 73, 74, 75, 76, 77, 78, 79, 80, 81, 82, 83, 84, 85, 86, 87, 88, 89, 90, 95]⟩ : ByteArray)).bind (fun (r48 : Bool) => some r48) else some false)).bind (fun (j39 : Bool) => (bif j39 then some 2 else ((bif (decide ((p0.size : Int) ≤ 19)) then (r09_all_c kf p0 0 (⟨#[48, 49, 50, 51, 52, 53, 54, 55, 56, 57]⟩ : ByteArray)).bind (fun (r60 : Bool) => some r60) else some false)).bind (fun (j51 : Bool) => ((bif j51 then ((bif (sEq p0 (⟨#[48]⟩ : ByteArray)) then some true else (sAt p0 0).bind (fun (y71 : Int) => some (y71 != 48)))).bind (fun (j67 : Bool) => some j67) else some false)).bind (fun (j63 : Bool) => (bif j63 then some 3 else (r09_quoted_c kf p0).bind (fun (r81 : Bool) => (bif r81 then some 4 else ((bif ((p0.size : Int) == 2) then (sAt p0 0).bind (fun (y86 : Int) => some (y86 == 36)) else some false)).bind (fun (j82 : Bool) => ((bif j82 then (sAt p0 1).bind (fun (y93 : Int) => some (decide (y93 ≥ 49))) else some false)).bind (fun (j89 : Bool) => ((bif j89 then (sAt p0 1).bind (fun (y100 : Int) => some (decide (y100 ≤ 54))) else some false)).bind (fun (j96 : Bool) => (bif j96 then some 5 else (r09_sign p0).bind (fun (r108 : Bool) => (bif r108 then some 6 else some 0))))))))))))))))))
theorem r09_Kind_le (kf : Nat) (p0 : ByteArray)  : Le (r09_Kind_c kf p0) (r09_Kind p0) := by
  unfold r09_Kind_c r09_Kind
  repeat first
    | with_reducible exact Le.refl _
    | exact r09_all_le kf _ _ _
    | exact r09_quoted_le kf _
    | refine Le.bind ?_ (fun x => ?_)
    | refine Le.cond ?_ ?_
    | exact Le.refl _
    | cases x
    | cases s
def r09_IsName_c (kf : Nat) (p0 : ByteArray) : Option Bool := (r09_Kind_c kf p0).bind (fun (r6 : Int) => some (r6 == 1))
theorem r09_IsName_le (kf : Nat) (p0 : ByteArray)  : Le (r09_IsName_c kf p0) (r09_IsName p0) := by
  unfold r09_IsName_c r09_IsName
  repeat first
    | with_reducible exact Le.refl _
    | exact r09_Kind_le kf _
    | refine Le.bind ?_ (fun x => ?_)
    | refine Le.cond ?_ ?_
    | exact Le.refl _
    | cases x
    | cases s
def r18_Check_c (kf : Nat) (p0 : List qRole) : Option Int := (bif (decide ((p0.length : Int) > 8)) then some 2 else (forN (fun (i4 : Nat) => fun (_s : Unit) => (idx p0 (i4 : Int)).bind (fun (x13 : qRole) => (r09_IsName_c kf x13.Name).bind (fun (r19 : Bool) => ((bif (!r19) then some true else ((bif (decide ((i4 : Int) > 0)) then (idx p0 (w64 ((i4 : Int) - 1))).bind (fun (x28 : qRole) => (idx p0 (i4 : Int)).bind (fun (x29 : qRole) => some (!sLt x28.Name x29.Name))) else some false)).bind (fun (j24 : Bool) => some j24))).bind (fun (j20 : Bool) => (bif j20 then some (.inr (2 : Int)) else (loopK kf (fun (s39 : Int) => (idx p0 (i4 : Int)).bind (fun (x44 : qRole) => (bif (decide (s39 < (x44.In.length : Int))) then (idx p0 (i4 : Int)).bind (fun (x47 : qRole) => (idx x47.In s39).bind (fun (x48 : ByteArray) => (r18_At p0 x48).bind (fun (r54 : Int) => ((bif (decide (r54 < 0)) then some true else ((bif (decide (s39 > 0)) then (idx p0 (i4 : Int)).bind (fun (x63 : qRole) => (idx x63.In (w64 (s39 - 1))).bind (fun (x64 : ByteArray) => (idx p0 (i4 : Int)).bind (fun (x65 : qRole) => (idx x65.In s39).bind (fun (x66 : ByteArray) => some (!sLt x64 x66))))) else some false)).bind (fun (j59 : Bool) => some j59))).bind (fun (j55 : Bool) => (bif j55 then some (.inr (.inl (2 : Int))) else some (.inl (w64 (s39 + 1)))))))) else some (.inr (.inr ()))))) 0).bind (fun (t : Int ⊕ Unit) => match t with | (.inl s72) => some (.inr s72) | (.inr ()) => some (.inl ()))))))) p0.length 0 ()).bind (fun (t : Unit ⊕ (Int)) => match t with | .inl _ => (forN (fun (i79 : Nat) => fun (_s : Unit) => (loopK kf (fun (s89 : Int) => (idx p0 (i79 : Int)).bind (fun (x94 : qRole) => (bif (decide (s89 < (x94.In.length : Int))) then (idx p0 (i79 : Int)).bind (fun (x97 : qRole) => (idx x97.In s89).bind (fun (x98 : ByteArray) => (idx p0 (i79 : Int)).bind (fun (x99 : qRole) => (r18_Is_c kf p0 x98 x99.Name).bind (fun (r105 : Bool) => (bif r105 then some (.inr (.inl (2 : Int))) else some (.inl (w64 (s89 + 1)))))))) else some (.inr (.inr ()))))) 0).bind (fun (t : Int ⊕ Unit) => match t with | (.inl s107) => some (.inr s107) | (.inr ()) => some (.inl ()))) p0.length 0 ()).bind (fun (t : Unit ⊕ (Int)) => match t with | .inl _ => some 0 | .inr s109 => some s109) | .inr s35 => some s35))
theorem r18_Check_le (kf : Nat) (p0 : List qRole)  : Le (r18_Check_c kf p0) (r18_Check p0) := by
  unfold r18_Check_c r18_Check
  repeat first
    | with_reducible exact Le.refl _
    | exact r18_Is_le kf _ _ _
    | exact r09_IsName_le kf _
    | refine Le.bind ?_ (fun x => ?_)
    | refine Le.cond ?_ ?_
    | refine Le.loopK (fun s => ?_) _ _
    | refine Le.forN (fun i s => ?_) _ _ _
    | exact Le.refl _
    | cases x
    | cases s
def r18_Create_c (kf : Nat) (p0 : List qRole) (p1 : ByteArray) : Option ((List qRole) × Int) := (r18_Check_c kf p0).bind (fun (r6 : Int) => (bif (r6 != 0) then some (([] : List qRole), r6) else (r09_IsName_c kf p1).bind (fun (r12 : Bool) => (bif (!r12) then some (([] : List qRole), 18) else (r18_At p0 p1).bind (fun (r18 : Int) => (bif (decide (r18 ≥ 0)) then some (([] : List qRole), 19) else (bif ((p0.length : Int) == 8) then some (([] : List qRole), 5) else (loopK kf (fun (s22 : Int) => ((bif (decide (s22 < (p0.length : Int))) then (idx p0 s22).bind (fun (x31 : qRole) => some (sLt x31.Name p1)) else some false)).bind (fun (j27 : Bool) => (bif j27 then some (.inl (w64 (s22 + 1))) else some (.inr s22)))) 0).bind (fun (s35 : Int) => (sub p0 0 s35).bind (fun (x36 : List qRole) => (app 40 ([] : List qRole) x36).bind (fun (x39 : List qRole) => (app 40 x39 ([{ z_qRole with Name := p1 }] : List qRole)).bind (fun (x55 : List qRole) => (sub p0 s35 (p0.length : Int)).bind (fun (x64 : List qRole) => (app 40 x55 x64).bind (fun (x65 : List qRole) => some (x65, 0))))))))))))))
theorem r18_Create_le (kf : Nat) (p0 : List qRole) (p1 : ByteArray)  : Le (r18_Create_c kf p0 p1) (r18_Create p0 p1) := by
  unfold r18_Create_c r18_Create
  repeat first
    | with_reducible exact Le.refl _
    | exact r09_IsName_le kf _
    | exact r18_Check_le kf _
    | refine Le.bind ?_ (fun x => ?_)
    | refine Le.cond ?_ ?_
    | refine Le.loopK (fun s => ?_) _ _
    | exact Le.refl _
    | cases x
    | cases s
def r18_Grant_c (kf : Nat) (p0 : List qRole) (p1 : ByteArray) (p2 : ByteArray) : Option ((List qRole) × Int) := none
theorem r18_Grant_le (kf : Nat) (p0 : List qRole) (p1 : ByteArray) (p2 : ByteArray)  : Le (r18_Grant_c kf p0 p1 p2) (r18_Grant p0 p1 p2) := by
  exact Le.none _
def r18_Revoke_c (kf : Nat) (p0 : List qRole) (p1 : ByteArray) (p2 : ByteArray) : Option ((List qRole) × Int) := none
theorem r18_Revoke_le (kf : Nat) (p0 : List qRole) (p1 : ByteArray) (p2 : ByteArray)  : Le (r18_Revoke_c kf p0 p1 p2) (r18_Revoke p0 p1 p2) := by
  exact Le.none _
def r18_Drop_c (kf : Nat) (p0 : List qRole) (p1 : ByteArray) : Option ((List qRole) × Int) := none
theorem r18_Drop_le (kf : Nat) (p0 : List qRole) (p1 : ByteArray)  : Le (r18_Drop_c kf p0 p1) (r18_Drop p0 p1) := by
  exact Le.none _
def r19_roles_c (kf : Nat) (p0 : qCatalog) (p1 : qStmt) : Option ((List qRole) × Int) := (bif (p1.Kind == 10) then (r18_Create_c kf p0.Roles p1.Name).bind (fun ((r14, r15) : (List qRole) × Int) => some (r14, r15)) else (bif (p1.Kind == 12) then (r18_Grant_c kf p0.Roles p1.Name p1.Role).bind (fun ((r23, r24) : (List qRole) × Int) => some (r23, r24)) else (bif (p1.Kind == 13) then (r18_Revoke_c kf p0.Roles p1.Name p1.Role).bind (fun ((r32, r33) : (List qRole) × Int) => some (r32, r33)) else (forN (fun (i39 : Nat) => fun (_s : Unit) => (idx p0.Tables (i39 : Int)).bind (fun (x49 : qTable) => (bif (sEq x49.Owner p1.Name) then some (.inr (([] : List qRole), (34 : Int))) else some (.inl ())))) p0.Tables.length 0 ()).bind (fun (t : Unit ⊕ (((List qRole) × Int))) => match t with | .inl _ => (r18_Drop_c kf p0.Roles p1.Name).bind (fun ((r64, r65) : (List qRole) × Int) => some (r64, r65)) | .inr (s51, s52) => some (s51, s52)))))
theorem r19_roles_le (kf : Nat) (p0 : qCatalog) (p1 : qStmt)  : Le (r19_roles_c kf p0 p1) (r19_roles p0 p1) := by
  unfold r19_roles_c r19_roles
  repeat first
    | with_reducible exact Le.refl _
    | exact r18_Create_le kf _ _
    | exact r18_Grant_le kf _ _ _
    | exact r18_Revoke_le kf _ _ _
    | exact r18_Drop_le kf _ _
    | refine Le.bind ?_ (fun x => ?_)
    | refine Le.cond ?_ ?_
    | refine Le.forN (fun i s => ?_) _ _ _
    | exact Le.refl _
    | cases x
    | cases s
def r19_Owns_c (kf : Nat) (p0 : qCatalog) (p1 : ByteArray) (p2 : ByteArray) : Option Bool := (r17_At p0 p2).bind (fun (r10 : Int) => ((bif (decide (r10 ≥ 0)) then (idx p0.Tables r10).bind (fun (x17 : qTable) => (r18_Is_c kf p0.Roles p1 x17.Owner).bind (fun (r23 : Bool) => some r23)) else some false)).bind (fun (j13 : Bool) => some j13))
theorem r19_Owns_le (kf : Nat) (p0 : qCatalog) (p1 : ByteArray) (p2 : ByteArray)  : Le (r19_Owns_c kf p0 p1 p2) (r19_Owns p0 p1 p2) := by
  unfold r19_Owns_c r19_Owns
  repeat first
    | with_reducible exact Le.refl _
    | exact r18_Is_le kf _ _ _
    | refine Le.bind ?_ (fun x => ?_)
    | refine Le.cond ?_ ?_
    | exact Le.refl _
    | cases x
    | cases s
def r19_has_c (kf : Nat) (p0 : qCatalog) (p1 : List qGrant) (p2 : ByteArray) (p3 : Int) (p4 : ByteArray) (p5 : Bool) : Option Bool := (forN (fun (i8 : Nat) => fun (_s : Unit) => (idx p1 (i8 : Int)).bind (fun (x17 : qGrant) => ((bif (x17.Priv == p3) then (idx p1 (i8 : Int)).bind (fun (x22 : qGrant) => some (sEq x22.Table p4)) else some false)).bind (fun (j18 : Bool) => ((bif j18 then (idx p1 (i8 : Int)).bind (fun (x29 : qGrant) => some (x29.Option || (!p5))) else some false)).bind (fun (j25 : Bool) => ((bif j25 then (idx p1 (i8 : Int)).bind (fun (x38 : qGrant) => (r18_Is_c kf p0.Roles p2 x38.To).bind (fun (r44 : Bool) => some r44)) else some false)).bind (fun (j34 : Bool) => (bif j34 then some (.inr true) else some (.inl ()))))))) p1.length 0 ()).bind (fun (t : Unit ⊕ (Bool)) => match t with | .inl _ => some false | .inr s48 => some s48)
theorem r19_has_le (kf : Nat) (p0 : qCatalog) (p1 : List qGrant) (p2 : ByteArray) (p3 : Int) (p4 : ByteArray) (p5 : Bool)  : Le (r19_has_c kf p0 p1 p2 p3 p4 p5) (r19_has p0 p1 p2 p3 p4 p5) := by
  unfold r19_has_c r19_has
  repeat first
    | with_reducible exact Le.refl _
    | exact r18_Is_le kf _ _ _
    | refine Le.bind ?_ (fun x => ?_)
    | refine Le.cond ?_ ?_
    | refine Le.forN (fun i s => ?_) _ _ _
    | exact Le.refl _
    | cases x
    | cases s
def r19_Held_c (kf : Nat) (p0 : qCatalog) : Option (List qGrant) := (loopK kf (fun (s : (List qGrant) × Int) => match s with | (s8, s9) => (bif (decide (s9 ≤ (p0.Grants.length : Int))) then (forE (fun (i18 : Nat) => fun (s17 : List qGrant) => ((idx p0.Grants (i18 : Int)).bind (fun (x32 : qGrant) => (r17_At p0 x32.Table).bind (fun (r44 : Int) => ((bif (decide (r44 < 0)) then some true else (r18_At p0.Roles x32.To).bind (fun (r56 : Int) => some (decide (r56 < 0))))).bind (fun (j45 : Bool) => (bif j45 then some s17 else (r19_Owns_c kf p0 x32.By x32.Table).bind (fun (r69 : Bool) => ((bif r69 then some true else (r19_has_c kf p0 s8 x32.By x32.Priv x32.Table true).bind (fun (r79 : Bool) => some r79))).bind (fun (j70 : Bool) => ((bif j70 then (app 64 s17 ([x32] : List qGrant)).bind (fun (x94 : List qGrant) => some x94) else some s17)).bind (fun (j82 : List qGrant) => some j82)))))))).bind (fun (j28 : List qGrant) => some j28)) p0.Grants.length 0 ([] : List qGrant)).bind (fun (s17 : (List qGrant)) => some (.inl (s17, (w64 (s9 + 1))))) else some (.inr s8))) (([] : List qGrant), 0)).bind (fun (s120 : List qGrant) => some s120)
theorem r19_Held_le (kf : Nat) (p0 : qCatalog)  : Le (r19_Held_c kf p0) (r19_Held p0) := by
  unfold r19_Held_c r19_Held
  repeat first
    | with_reducible exact Le.refl _
    | exact r19_Owns_le kf _ _ _
    | exact r19_has_le kf _ _ _ _ _ _
    | refine Le.bind ?_ (fun x => ?_)
    | refine Le.cond ?_ ?_
    | refine Le.loopK (fun s => ?_) _ _
    | refine Le.forE (fun i s => ?_) _ _ _
    | exact Le.refl _
    | cases x
    | cases s
def r19_Can_c (kf : Nat) (p0 : qCatalog) (p1 : ByteArray) (p2 : Int) (p3 : ByteArray) : Option Bool := (r19_Owns_c kf p0 p1 p3).bind (fun (r12 : Bool) => ((bif r12 then some true else (r19_Held_c kf p0).bind (fun (r22 : List qGrant) => (r19_has_c kf p0 r22 p1 p2 p3 true).bind (fun (r28 : Bool) => some r28)))).bind (fun (j13 : Bool) => some j13))
theorem r19_Can_le (kf : Nat) (p0 : qCatalog) (p1 : ByteArray) (p2 : Int) (p3 : ByteArray)  : Le (r19_Can_c kf p0 p1 p2 p3) (r19_Can p0 p1 p2 p3) := by
  unfold r19_Can_c r19_Can
  repeat first
    | with_reducible exact Le.refl _
    | exact r19_Owns_le kf _ _ _
    | exact r19_has_le kf _ _ _ _ _ _
    | exact r19_Held_le kf _
    | refine Le.bind ?_ (fun x => ?_)
    | refine Le.cond ?_ ?_
    | exact Le.refl _
    | cases x
    | cases s
def r19_given_c (kf : Nat) (p0 : qCatalog) (p1 : qStmt) (p2 : ByteArray) : Option ((List qGrant) × Int) := (r17_At p0 p1.Table).bind (fun (r14 : Int) => ((bif (decide (r14 < 0)) then some true else (r18_At p0.Roles p1.Role).bind (fun (r25 : Int) => some (decide (r25 < 0))))).bind (fun (j15 : Bool) => (bif j15 then some (([] : List qGrant), 4) else (r19_Can_c kf p0 p2 p1.Priv p1.Table).bind (fun (r36 : Bool) => (bif (!r36) then some (([] : List qGrant), 36) else (r19_place p0 p1 p2).bind (fun (r44 : Int) => (app 64 ([] : List qGrant) p0.Grants).bind (fun (x47 : List qGrant) => (bif (decide (r44 ≥ 0)) then (idx x47 r44).bind (fun (x54 : qGrant) => (bif (x54.Option || (!p1.Option)) then some (([] : List qGrant), 19) else (idx x47 r44).bind (fun (x60 : qGrant) => some ((x47.set (r44).toNat ({ x60 with Option := true })), 0)))) else (bif (decide ((x47.length : Int) ≥ 40)) then some (([] : List qGrant), 5) else (app 64 x47 ([(⟨p1.Role, p2, p1.Table, p1.Priv, p1.Option⟩ : qGrant)] : List qGrant)).bind (fun (x82 : List qGrant) => some (x82, 0)))))))))))
theorem r19_given_le (kf : Nat) (p0 : qCatalog) (p1 : qStmt) (p2 : ByteArray)  : Le (r19_given_c kf p0 p1 p2) (r19_given p0 p1 p2) := by
  unfold r19_given_c r19_given
  repeat first
    | with_reducible exact Le.refl _
    | exact r19_Can_le kf _ _ _ _
    | refine Le.bind ?_ (fun x => ?_)
    | refine Le.cond ?_ ?_
    | exact Le.refl _
    | cases x
    | cases s
def r19_Make_c (kf : Nat) (p0 : qCatalog) (p1 : qStmt) (p2 : ByteArray) (p3 : Int) : Option (qCatalog × Int) := (bif ((decide (p1.Kind < 10)) || (decide (p1.Kind > 15))) then some (z_qCatalog, 2) else (r18_At p0.Roles p2).bind (fun (r25 : Int) => (bif (decide (r25 < 0)) then some (z_qCatalog, 4) else ((bif (decide (p1.Kind ≤ 13)) then (r18_Is_c kf p0.Roles p2 (⟨#[114, 111, 111, 116]⟩ : ByteArray)).bind (fun (r46 : Bool) => some (!r46)) else some false)).bind (fun (j37 : Bool) => ((bif j37 then some (.inl ((36 : Int), z_qCatalog, p0.Roles, p0.Grants)) else ((bif (decide (p1.Kind ≤ 13)) then (r19_roles_c kf p0 p1).bind (fun ((r74, r75) : (List qRole) × Int) => some (.inl (r75, z_qCatalog, r74, p0.Grants))) else ((bif (p1.Kind == 14) then (r19_given_c kf p0 p1 p2).bind (fun ((r96, r97) : (List qGrant) × Int) => some (.inl (r97, z_qCatalog, r96))) else (r19_place p0 p1 p2).bind (fun (r113 : Int) => (bif (decide (r113 < 0)) then some (.inr (4, z_qCatalog)) else (sub p0.Grants 0 r113).bind (fun (x147 : List qGrant) => (app 64 ([] : List qGrant) x147).bind (fun (x150 : List qGrant) => (sub p0.Grants (w64 (r113 + 1)) (p0.Grants.length : Int)).bind (fun (x162 : List qGrant) => (app 64 x150 x162).bind (fun (x164 : List qGrant) => some (.inl ((0 : Int), z_qCatalog, x164)))))))))).bind (fun (t : (Int × qCatalog × (List qGrant)) ⊕ (Int × qCatalog)) => match t with | (.inl (s101, s102, s103)) => some (.inl (s101, s102, p0.Roles, s103)) | (.inr (s118, s119)) => some (.inr (s118, s119))))).bind (fun (t : (Int × qCatalog × (List qRole) × (List qGrant)) ⊕ (Int × qCatalog)) => match t with | (.inl (s79, s80, s81, s82)) => some (.inl (s79, s80, s81, s82)) | (.inr (s121, s122)) => some (.inr (s121, s122))))).bind (fun (t : (Int × qCatalog × (List qRole) × (List qGrant)) ⊕ (Int × qCatalog)) => match t with | (.inl (s59, s60, s61, s62)) => ((bif ((s59 == 0) && (decide (p0.Version ≥ p3))) then some 52 else some s59)).bind (fun (j191 : Int) => (bif (j191 != 0) then some (z_qCatalog, j191) else (r19_Held_c kf ({ p0 with Version := (w64 (p0.Version + 1)), Roles := s61, Grants := s62 })).bind (fun (r212 : List qGrant) => some ({ p0 with Version := (w64 (p0.Version + 1)), Roles := s61, Grants := r212 }, 0)))) | (.inr (s124, s125)) => some (s125, s124))))))
theorem r19_Make_le (kf : Nat) (p0 : qCatalog) (p1 : qStmt) (p2 : ByteArray) (p3 : Int)  : Le (r19_Make_c kf p0 p1 p2 p3) (r19_Make p0 p1 p2 p3) := by
  unfold r19_Make_c r19_Make
  repeat first
    | with_reducible exact Le.refl _
    | exact r18_Is_le kf _ _ _
    | exact r19_roles_le kf _ _
    | exact r19_Held_le kf _
    | exact r19_given_le kf _ _ _
    | refine Le.bind ?_ (fun x => ?_)
    | refine Le.cond ?_ ?_
    | exact Le.refl _
    | cases x
    | cases s
def r17_renamed_c (kf : Nat) (p0 : qCatalog) (p1 : qTable) (p2 : ByteArray) : Option (qCatalog × qTable) := none
theorem r17_renamed_le (kf : Nat) (p0 : qCatalog) (p1 : qTable) (p2 : ByteArray)  : Le (r17_renamed_c kf p0 p1 p2) (r17_renamed p0 p1 p2) := by
  exact Le.none _
def r10_Names_c (kf : Nat) (p0 : qExpr) : Option (List ByteArray) := none
theorem r10_Names_le (kf : Nat) (p0 : qExpr)  : Le (r10_Names_c kf p0) (r10_Names p0) := by
  exact Le.none _
def r14_Used_c (kf : Nat) (p0 : qTable) : Option (List ByteArray) := (r14_lists p0).bind (fun (r10 : List (List ByteArray)) => (forE (fun (i15 : Nat) => fun (s14 : List ByteArray) => (idx r10 (i15 : Int)).bind (fun (x25 : List ByteArray) => (app 16 s14 x25).bind (fun (x27 : List ByteArray) => some x27))) r10.length 0 ([] : List ByteArray)).bind (fun (s14 : (List ByteArray)) => (forE (fun (i41 : Nat) => fun (s40 : List ByteArray) => (idx p0.Cons (i41 : Int)).bind (fun (x48 : qCons) => ((bif (x48.Kind == 2) then (idx p0.Cons (i41 : Int)).bind (fun (x53 : qCons) => (r10_Names_c kf x53.Check).bind (fun (r59 : List ByteArray) => (app 16 s40 r59).bind (fun (x61 : List ByteArray) => some x61))) else some s40)).bind (fun (j49 : List ByteArray) => some j49))) p0.Cons.length 0 s14).bind (fun (s40 : (List ByteArray)) => some s40)))
theorem r14_Used_le (kf : Nat) (p0 : qTable)  : Le (r14_Used_c kf p0) (r14_Used p0) := by
  unfold r14_Used_c r14_Used
  repeat first
    | with_reducible exact Le.refl _
    | exact r10_Names_le kf _
    | refine Le.bind ?_ (fun x => ?_)
    | refine Le.cond ?_ ?_
    | refine Le.forE (fun i s => ?_) _ _ _
    | exact Le.refl _
    | cases x
    | cases s
def r17_refers_nilsl_c (kf : Nat) (p0 : qCatalog) (p1 : ByteArray) (p2 : ByteArray) (p3 : ByteArray) : Option Bool := none
theorem r17_refers_nilsl_le (kf : Nat) (p0 : qCatalog) (p1 : ByteArray) (p2 : ByteArray) (p3 : ByteArray)  : Le (r17_refers_nilsl_c kf p0 p1 p2 p3) (r17_refers_nilsl p0 p1 p2 p3) := by
  exact Le.none _
def r17_turned_c (kf : Nat) (p0 : qCatalog) (p1 : qTable) (p2 : qStmt) : Option (qTable × Int) := none
theorem r17_turned_le (kf : Nat) (p0 : qCatalog) (p1 : qTable) (p2 : qStmt)  : Le (r17_turned_c kf p0 p1 p2) (r17_turned p0 p1 p2) := by
  exact Le.none _
def r14_wrong_c (kf : Nat) (p0 : qTable) : Option Int := (r14_Names p0).bind (fun ((r10, r11) : (List ByteArray) × (List ByteArray)) => (app 16 ([p0.Name, p0.Owner] : List ByteArray) r10).bind (fun (x19 : List ByteArray) => (app 16 x19 r11).bind (fun (x26 : List ByteArray) => (forN (fun (i40 : Nat) => fun (_s : Unit) => (idx x26 (i40 : Int)).bind (fun (x47 : ByteArray) => (r09_IsName_c kf x47).bind (fun (r53 : Bool) => (bif (!r53) then some (.inr (18 : Int)) else some (.inl ()))))) x26.length 0 ()).bind (fun (t : Unit ⊕ (Int)) => match t with | .inl _ => (bif (decide (p0.Version < 0)) then some 2 else (forN (fun (i64 : Nat) => fun (_s : Unit) => (idx p0.Cols (i64 : Int)).bind (fun (x71 : qColumn) => ((bif (decide (x71.Type_ < 1)) then some true else (idx p0.Cols (i64 : Int)).bind (fun (x76 : qColumn) => some (decide (x76.Type_ > 3))))).bind (fun (j72 : Bool) => (bif j72 then some (.inr (2 : Int)) else some (.inl ()))))) p0.Cols.length 0 ()).bind (fun (t : Unit ⊕ (Int)) => match t with | .inl _ => (forN (fun (i88 : Nat) => fun (_s : Unit) => (idx p0.Cons (i88 : Int)).bind (fun (x95 : qCons) => ((bif (decide (x95.Kind < 1)) then some true else (idx p0.Cons (i88 : Int)).bind (fun (x100 : qCons) => some (decide (x100.Kind > 3))))).bind (fun (j96 : Bool) => (bif j96 then some (.inr (2 : Int)) else some (.inl ()))))) p0.Cons.length 0 ()).bind (fun (t : Unit ⊕ (Int)) => match t with | .inl _ => (some ((decide ((p0.Cols.length : Int) < 1)) || (decide ((p0.Cols.length : Int) > 6)))).bind (fun (q109 : Bool) => (some ((q109 || (decide ((p0.Cons.length : Int) > 6))) || (decide ((p0.Idx.length : Int) > 3)))).bind (fun (q114 : Bool) => (bif q114 then some 3 else (r14_lists p0).bind (fun (r123 : List (List ByteArray)) => (forN (fun (i127 : Nat) => fun (_s : Unit) => ((bif (decide ((i127 : Int) < (p0.Cons.length : Int))) then (idx p0.Cons (i127 : Int)).bind (fun (x138 : qCons) => some (x138.Kind == 2)) else some false)).bind (fun (j134 : Bool) => ((bif (!j134) then (idx r123 (i127 : Int)).bind (fun (x145 : List ByteArray) => ((bif (decide ((x145.length : Int) < 1)) then some true else (idx r123 (i127 : Int)).bind (fun (x150 : List ByteArray) => some (decide ((x150.length : Int) > 3))))).bind (fun (j146 : Bool) => some j146)) else some false)).bind (fun (j141 : Bool) => (bif j141 then some (.inr (3 : Int)) else ((bif (decide ((i127 : Int) < (p0.Cons.length : Int))) then (idx p0.Cons (i127 : Int)).bind (fun (x163 : qCons) => some (x163.Kind == 3)) else some false)).bind (fun (j159 : Bool) => ((bif j159 then (idx p0.Cons (i127 : Int)).bind (fun (x170 : qCons) => ((bif (decide ((x170.Refs.length : Int) < 1)) then some true else (idx p0.Cons (i127 : Int)).bind (fun (x175 : qCons) => some (decide ((x175.Refs.length : Int) > 3))))).bind (fun (j171 : Bool) => some j171)) else some false)).bind (fun (j166 : Bool) => (bif j166 then some (.inr (3 : Int)) else some (.inl ())))))))) r123.length 0 ()).bind (fun (t : Unit ⊕ (Int)) => match t with | .inl _ => (r14_twice r10).bind (fun (r188 : Bool) => ((bif r188 then some true else (r14_twice r11).bind (fun (r198 : Bool) => some r198))).bind (fun (j189 : Bool) => (bif j189 then some 19 else (forN (fun (i205 : Nat) => fun (_s : Unit) => (idx r123 (i205 : Int)).bind (fun (x212 : List ByteArray) => (r14_twice x212).bind (fun (r218 : Bool) => ((bif r218 then some true else ((bif (decide ((i205 : Int) < (p0.Cons.length : Int))) then (idx p0.Cons (i205 : Int)).bind (fun (x227 : qCons) => (r14_twice x227.Refs).bind (fun (r233 : Bool) => some r233)) else some false)).bind (fun (j223 : Bool) => some j223))).bind (fun (j219 : Bool) => (bif j219 then some (.inr (19 : Int)) else some (.inl ())))))) r123.length 0 ()).bind (fun (t : Unit ⊕ (Int)) => match t with | .inl _ => some 0 | .inr s239 => some s239)))) | .inr s156 => some s156))))) | .inr s104 => some s104) | .inr s80 => some s80)) | .inr s55 => some s55))))
theorem r14_wrong_le (kf : Nat) (p0 : qTable)  : Le (r14_wrong_c kf p0) (r14_wrong p0) := by
  unfold r14_wrong_c r14_wrong
  repeat first
    | with_reducible exact Le.refl _
    | exact r09_IsName_le kf _
    | refine Le.bind ?_ (fun x => ?_)
    | refine Le.cond ?_ ?_
    | refine Le.forN (fun i s => ?_) _ _ _
    | exact Le.refl _
    | cases x
    | cases s
def r10_Check_c (kf : Nat) (p0 : qExpr) (p1 : Bool) : Option Int := none
theorem r10_Check_le (kf : Nat) (p0 : qExpr) (p1 : Bool)  : Le (r10_Check_c kf p0 p1) (r10_Check p0 p1) := by
  exact Le.none _
def r10_Params_c (kf : Nat) (p0 : qExpr) : Option Int := none
theorem r10_Params_le (kf : Nat) (p0 : qExpr)  : Le (r10_Params_c kf p0) (r10_Params p0) := by
  exact Le.none _
def r12_None_c (kf : Nat) (p0 : qExpr) : Option Bool := none
theorem r12_None_le (kf : Nat) (p0 : qExpr)  : Le (r12_None_c kf p0) (r12_None p0) := by
  exact Le.none _
def r14_Check_c (kf : Nat) (p0 : qTable) : Option Int := (r14_wrong_c kf p0).bind (fun (r10 : Int) => (bif (r10 != 0) then some r10 else (r14_Names p0).bind (fun ((r17, r18) : (List ByteArray) × (List ByteArray)) => (r14_Used_c kf p0).bind (fun (r24 : List ByteArray) => (forN (fun (i28 : Nat) => fun (_s : Unit) => (idx r24 (i28 : Int)).bind (fun (x35 : ByteArray) => (r14_Has r17 x35).bind (fun (r41 : Bool) => (bif (!r41) then some (.inr (4 : Int)) else some (.inl ()))))) r24.length 0 ()).bind (fun (t : Unit ⊕ (Int)) => match t with | .inl _ => (forN (fun (i52 : Nat) => fun (s51 : Bool) => ((idx p0.Cons (i52 : Int)).bind (fun (x63 : qCons) => (bif (x63.Kind != 2) then some (.inl s51) else (idx p0.Cons (i52 : Int)).bind (fun (x65 : qCons) => (r10_Check_c kf x65.Check false).bind (fun (r71 : Int) => (bif (r71 == 17) then some (.inr 17) else ((bif (s51 || (r71 != 0)) then some true else (idx p0.Cons (i52 : Int)).bind (fun (x85 : qCons) => (r10_Params_c kf x85.Check).bind (fun (r91 : Int) => some (decide (r91 > 0)))))).bind (fun (j81 : Bool) => some (.inl j81)))))))).bind (fun (t : Bool ⊕ Int) => match t with | (.inl s64) => some (.inl s64) | (.inr s73) => some (.inr s73))) p0.Cons.length 0 false).bind (fun (t : Bool ⊕ (Int)) => match t with | .inl s51 => (bif s51 then some 2 else (forN (fun (i102 : Nat) => fun (_s : Unit) => (idx p0.Cons (i102 : Int)).bind (fun (x109 : qCons) => ((bif (x109.Kind != 2) then (r12_None_c kf x109.Check).bind (fun (r125 : Bool) => some (!r125)) else some false)).bind (fun (j116 : Bool) => (some (j116 || ((x109.Kind == 2) && (decide ((x109.Cols.length : Int) > 0))))).bind (fun (q132 : Bool) => (bif q132 then some (.inr (2 : Int)) else ((bif (x109.Kind == 3) then (r09_IsName_c kf x109.Table).bind (fun (r151 : Bool) => (some ((!r151) || ((x109.Refs.length : Int) != (x109.Cols.length : Int)))).bind (fun (q152 : Bool) => some q152)) else some false)).bind (fun (j142 : Bool) => (some (j142 || ((x109.Kind != 3) && ((!sEq x109.Table (⟨#[]⟩ : ByteArray)) || (decide ((x109.Refs.length : Int) > 0)))))).bind (fun (q163 : Bool) => (bif q163 then some (.inr (2 : Int)) else some (.inl ()))))))))) p0.Cons.length 0 ()).bind (fun (t : Unit ⊕ (Int)) => match t with | .inl _ => some 0 | .inr s138 => some s138)) | .inr s75 => some s75) | .inr s43 => some s43)))))
theorem r14_Check_le (kf : Nat) (p0 : qTable)  : Le (r14_Check_c kf p0) (r14_Check p0) := by
  unfold r14_Check_c r14_Check
  repeat first
    | with_reducible exact Le.refl _
    | exact r09_IsName_le kf _
    | exact r14_Used_le kf _
    | exact r14_wrong_le kf _
    | exact r10_Check_le kf _ _
    | exact r10_Params_le kf _
    | exact r12_None_le kf _
    | refine Le.bind ?_ (fun x => ?_)
    | refine Le.cond ?_ ?_
    | refine Le.forN (fun i s => ?_) _ _ _
    | exact Le.refl _
    | cases x
    | cases s
def r15_Resolve_c (kf : Nat) (p0 : qTable) (p1 : qExpr) : Option (qExpr × Int) := none
theorem r15_Resolve_le (kf : Nat) (p0 : qTable) (p1 : qExpr)  : Le (r15_Resolve_c kf p0 p1) (r15_Resolve p0 p1) := by
  exact Le.none _
def r15_Bool_c (kf : Nat) (p0 : qExpr) (p1 : List Int) (p2 : List Int) : Option Int := none
theorem r15_Bool_le (kf : Nat) (p0 : qExpr) (p1 : List Int) (p2 : List Int)  : Le (r15_Bool_c kf p0 p1 p2) (r15_Bool p0 p1 p2) := by
  exact Le.none _
def r17_Sound_c (kf : Nat) (p0 : qCatalog) (p1 : qTable) : Option Int := (r14_Check_c kf p1).bind (fun (r14 : Int) => (bif (r14 != 0) then some r14 else (forN (fun (i20 : Nat) => fun (_s : Unit) => (idx p1.Cons (i20 : Int)).bind (fun (x28 : qCons) => ((bif (x28.Kind == 2) then (r15_Resolve_c kf p1 x28.Check).bind (fun ((r44, r45) : qExpr × Int) => ((bif (r45 == 0) then (r15_Cols p1).bind (fun (r63 : List Int) => (r15_Bool_c kf r44 r63 ([] : List Int)).bind (fun (r69 : Int) => some r69)) else some r45)).bind (fun (j52 : Int) => some j52)) else some 0)).bind (fun (j35 : Int) => ((bif (x28.Kind == 3) then (r17_foreign p0 p1 x28).bind (fun (r91 : Int) => some r91) else some j35)).bind (fun (j82 : Int) => (bif (j82 != 0) then some (.inr j82) else some (.inl ())))))) p1.Cons.length 0 ()).bind (fun (t : Unit ⊕ (Int)) => match t with | .inl _ => some 0 | .inr s99 => some s99)))
theorem r17_Sound_le (kf : Nat) (p0 : qCatalog) (p1 : qTable)  : Le (r17_Sound_c kf p0 p1) (r17_Sound p0 p1) := by
  unfold r17_Sound_c r17_Sound
  repeat first
    | with_reducible exact Le.refl _
    | exact r14_Check_le kf _
    | exact r15_Resolve_le kf _ _
    | exact r15_Bool_le kf _ _ _
    | refine Le.bind ?_ (fun x => ?_)
    | refine Le.cond ?_ ?_
    | refine Le.forN (fun i s => ?_) _ _ _
    | exact Le.refl _
    | cases x
    | cases s
def r17_with_c (kf : Nat) (p0 : qCatalog) (p1 : qTable) : Option qCatalog := (loopK kf (fun (s24 : Int) => ((bif (decide (s24 < (p0.Tables.length : Int))) then (idx p0.Tables s24).bind (fun (x38 : qTable) => some (sLt x38.Name p1.Name)) else some false)).bind (fun (j34 : Bool) => (bif j34 then some (.inl (w64 (s24 + 1))) else some (.inr s24)))) 0).bind (fun (s42 : Int) => (sub p0.Tables 0 s42).bind (fun (x45 : List qTable) => (app 112 ([] : List qTable) x45).bind (fun (x48 : List qTable) => (app 112 x48 ([p1] : List qTable)).bind (fun (x66 : List qTable) => (sub p0.Tables s42 (p0.Tables.length : Int)).bind (fun (x80 : List qTable) => (app 112 x66 x80).bind (fun (x82 : List qTable) => some { p0 with Tables := x82 }))))))
theorem r17_with_le (kf : Nat) (p0 : qCatalog) (p1 : qTable)  : Le (r17_with_c kf p0 p1) (r17_with p0 p1) := by
  unfold r17_with_c r17_with
  repeat first
    | with_reducible exact Le.refl _
    | refine Le.bind ?_ (fun x => ?_)
    | refine Le.cond ?_ ?_
    | refine Le.loopK (fun s => ?_) _ _
    | exact Le.refl _
    | cases x
    | cases s
def r17_Make_c (kf : Nat) (p0 : qCatalog) (p1 : qStmt) (p2 : ByteArray) (p3 : Int) : Option (qCatalog × Int) := (bif ((decide (p1.Kind < 1)) || (decide (p1.Kind > 9))) then some (z_qCatalog, 2) else (r17_At p0 p1.Table).bind (fun (r25 : Int) => (bif ((p1.Kind == 1) && (decide (r25 ≥ 0))) then some (z_qCatalog, 19) else (bif ((p1.Kind == 1) && (decide ((p0.Tables.length : Int) ≥ 8))) then some (z_qCatalog, 5) else (bif ((p1.Kind != 1) && (decide (r25 < 0))) then some (z_qCatalog, 4) else (r17_without p0 p1.Table).bind (fun (r52 : qCatalog) => ((bif (p1.Kind == 1) then some (.inl ((0 : Int), z_qCatalog, r52.Version, r52.Tables, r52.Roles, r52.Grants, { z_qTable with Name := p1.Table, Owner := p2, Cols := p1.Cols, Cons := p1.Cons })) else ((bif (p1.Kind == 2) then (r17_refers_nilsl_c kf p0 p1.Table p1.Table (⟨#[]⟩ : ByteArray)).bind (fun (r90 : Bool) => (bif r90 then some (.inl (34, z_qCatalog, z_qTable)) else (forE (fun (i124 : Nat) => fun (s123 : List qGrant) => (idx p0.Grants (i124 : Int)).bind (fun (x140 : qGrant) => ((bif (!sEq x140.Table p1.Table) then (idx p0.Grants (i124 : Int)).bind (fun (x147 : qGrant) => (app 64 s123 ([x147] : List qGrant)).bind (fun (x156 : List qGrant) => some x156)) else some s123)).bind (fun (j141 : List qGrant) => some j141))) p0.Grants.length 0 ([] : List qGrant)).bind (fun (s123 : (List qGrant)) => some (.inr ((0 : Int), z_qCatalog, r52.Version, r52.Tables, r52.Roles, s123, z_qTable))))) else ((bif (p1.Kind == 5) then (r17_At p0 p1.Name).bind (fun (r199 : Int) => (bif (decide (r199 ≥ 0)) then some (.inl (19, z_qCatalog, z_qTable)) else (idx p0.Tables r25).bind (fun (x219 : qTable) => (r17_renamed_c kf p0 x219 p1.Name).bind (fun ((r225, r226) : qCatalog × qTable) => some (.inr ((0 : Int), z_qCatalog, r225.Version, r225.Tables, r225.Roles, r225.Grants, r226)))))) else (idx p0.Tables r25).bind (fun (x246 : qTable) => (r17_turned_c kf p0 x246 p1).bind (fun ((r252, r253) : qTable × Int) => some (.inr (r253, z_qCatalog, r52.Version, r52.Tables, r52.Roles, r52.Grants, r252)))))).bind (fun (t : (Int × qCatalog × qTable) ⊕ (Int × qCatalog × Int × (List qTable) × (List qRole) × (List qGrant) × qTable)) => match t with | (.inl (s204, s205, s206)) => some (.inl (s204, s205, s206)) | (.inr (s233, s234, s235, s236, s237, s238, s239)) => some (.inr (s233, s234, s235, s236, s237, s238, s239))))).bind (fun (t : (Int × qCatalog × qTable) ⊕ (Int × qCatalog × Int × (List qTable) × (List qRole) × (List qGrant) × qTable)) => match t with | (.inl (s95, s96, s97)) => some (.inr (s95, s96, s97)) | (.inr (s178, s179, s180, s181, s182, s183, s184)) => some (.inl (s178, s179, s180, s181, s182, s183, s184))))).bind (fun (t : (Int × qCatalog × Int × (List qTable) × (List qRole) × (List qGrant) × qTable) ⊕ (Int × qCatalog × qTable)) => match t with | (.inl (s69, s70, s71, s72, s73, s74, s75)) => ((bif ((s69 == 0) && (p1.Kind != 2)) then (r17_Sound_c kf (⟨s71, s72, s73, s74⟩ : qCatalog) s75).bind (fun (r278 : Int) => some r278) else some s69)).bind (fun (j268 : Int) => ((bif ((j268 == 0) && (decide (p0.Version ≥ p3))) then some 52 else some j268)).bind (fun (j283 : Int) => (bif (j283 != 0) then some (z_qCatalog, j283) else ((bif (p1.Kind != 2) then (r17_with_c kf (⟨s71, s72, s73, s74⟩ : qCatalog) ({ s75 with Version := (w64 (p0.Version + 1)) })).bind (fun (r311 : qCatalog) => some (r311.Version, r311.Tables, r311.Roles, r311.Grants, { s75 with Version := (w64 (p0.Version + 1)) })) else some (s71, s72, s73, s74, s75))).bind (fun ((s315, s316, s317, s318, s319) : Int × (List qTable) × (List qRole) × (List qGrant) × qTable) => some ((⟨(w64 (p0.Version + 1)), s316, s317, s318⟩ : qCatalog), 0))))) | (.inr (s99, s100, s101)) => some (s100, s99))))))))
theorem r17_Make_le (kf : Nat) (p0 : qCatalog) (p1 : qStmt) (p2 : ByteArray) (p3 : Int)  : Le (r17_Make_c kf p0 p1 p2 p3) (r17_Make p0 p1 p2 p3) := by
  unfold r17_Make_c r17_Make
  repeat first
    | with_reducible exact Le.refl _
    | exact r17_renamed_le kf _ _ _
    | exact r17_refers_nilsl_le kf _ _ _ _
    | exact r17_turned_le kf _ _ _
    | exact r17_Sound_le kf _ _
    | exact r17_with_le kf _ _
    | refine Le.bind ?_ (fun x => ?_)
    | refine Le.cond ?_ ?_
    | refine Le.forE (fun i s => ?_) _ _ _
    | exact Le.refl _
    | cases x
    | cases s
def law19_first_c (kf : Nat)  : Option qCatalog := (r17_New).bind (fun (r10 : qCatalog) => (forE (fun (i32 : Nat) => fun (s31 : qCatalog) => ((idx ([(⟨#[97, 110, 110]⟩ : ByteArray), (⟨#[98, 111, 98]⟩ : ByteArray), (⟨#[99, 121]⟩ : ByteArray)] : List ByteArray) (i32 : Int)).bind (fun (x46 : ByteArray) => (r19_Make_c kf s31 ({ z_qStmt with Kind := 10, Name := x46 }) (⟨#[114, 111, 111, 116]⟩ : ByteArray) 1000).bind (fun ((r57, r58) : qCatalog × Int) => some (r57, r58)))).bind (fun ((s61, s62) : qCatalog × Int) => ((bif (s62 == 0) then some s61 else some s31)).bind (fun (j101 : qCatalog) => some j101))) 3 0 r10).bind (fun (s31 : qCatalog) => (r17_Make_c kf s31 ({ z_qStmt with Kind := 1, Table := (⟨#[116]⟩ : ByteArray), Cols := ([{ z_qColumn with Name := (⟨#[97]⟩ : ByteArray), Type_ := 1 }] : List qColumn) }) (⟨#[97, 110, 110]⟩ : ByteArray) 1000).bind (fun ((r134, r135) : qCatalog × Int) => ((bif (r135 == 0) then some r134 else some s31)).bind (fun (j142 : qCatalog) => some j142))))
theorem law19_first_le (kf : Nat)   : Le (law19_first_c kf ) (law19_first ) := by
  unfold law19_first_c law19_first
  repeat first
    | with_reducible exact Le.refl _
    | exact r19_Make_le kf _ _ _ _
    | exact r17_Make_le kf _ _ _ _
    | refine Le.bind ?_ (fun x => ?_)
    | refine Le.cond ?_ ?_
    | refine Le.forE (fun i s => ?_) _ _ _
    | exact Le.refl _
    | cases x
    | cases s
def law19_Next_c (kf : Nat) (p0 : qCatalog) (p1 : law19_Act) : Option (qCatalog × Int) := (r19_Make_c kf p0 p1.S p1.By 1000).bind (fun ((r18, r19) : qCatalog × Int) => ((bif (decide (p1.S.Kind < 10)) then (r17_Make_c kf p0 p1.S p1.By 1000).bind (fun ((r35, r36) : qCatalog × Int) => some (r36, r35)) else some (r19, r18))).bind (fun ((s39, s40) : Int × qCatalog) => (bif (s39 != 0) then some (p0, s39) else some (s40, s39))))
theorem law19_Next_le (kf : Nat) (p0 : qCatalog) (p1 : law19_Act)  : Le (law19_Next_c kf p0 p1) (law19_Next p0 p1) := by
  unfold law19_Next_c law19_Next
  repeat first
    | with_reducible exact Le.refl _
    | exact r19_Make_le kf _ _ _ _
    | exact r17_Make_le kf _ _ _ _
    | refine Le.bind ?_ (fun x => ?_)
    | refine Le.cond ?_ ?_
    | exact Le.refl _
    | cases x
    | cases s
def law19_Grown_c (kf : Nat) (p0 : List law19_Act) : Option qCatalog := (law19_first_c kf).bind (fun (r10 : qCatalog) => (forE (fun (i21 : Nat) => fun (s20 : qCatalog) => (idx p0 (i21 : Int)).bind (fun (x31 : law19_Act) => (law19_Next_c kf s20 x31).bind (fun ((r37, r38) : qCatalog × Int) => some r37))) p0.length 0 r10).bind (fun (s20 : qCatalog) => some s20))
theorem law19_Grown_le (kf : Nat) (p0 : List law19_Act)  : Le (law19_Grown_c kf p0) (law19_Grown p0) := by
  unfold law19_Grown_c law19_Grown
  repeat first
    | with_reducible exact Le.refl _
    | exact law19_first_le kf 
    | exact law19_Next_le kf _ _
    | refine Le.bind ?_ (fun x => ?_)
    | refine Le.cond ?_ ?_
    | refine Le.forE (fun i s => ?_) _ _ _
    | exact Le.refl _
    | cases x
    | cases s
def r19_May_c (kf : Nat) (p0 : qCatalog) (p1 : ByteArray) (p2 : Int) (p3 : ByteArray) : Option Bool := (r19_Owns_c kf p0 p1 p3).bind (fun (r12 : Bool) => ((bif r12 then some true else (r19_Held_c kf p0).bind (fun (r22 : List qGrant) => (r19_has_c kf p0 r22 p1 p2 p3 false).bind (fun (r28 : Bool) => some r28)))).bind (fun (j13 : Bool) => some j13))
theorem r19_May_le (kf : Nat) (p0 : qCatalog) (p1 : ByteArray) (p2 : Int) (p3 : ByteArray)  : Le (r19_May_c kf p0 p1 p2 p3) (r19_May p0 p1 p2 p3) := by
  unfold r19_May_c r19_May
  repeat first
    | with_reducible exact Le.refl _
    | exact r19_Owns_le kf _ _ _
    | exact r19_has_le kf _ _ _ _ _ _
    | exact r19_Held_le kf _
    | refine Le.bind ?_ (fun x => ?_)
    | refine Le.cond ?_ ?_
    | exact Le.refl _
    | cases x
    | cases s
end Go.Proofs.YtdmapcjbbbifbaaGreat
set_option maxRecDepth 100000
namespace Go.Proofs.YtdmapcjbbbifbaaGreat
open Go.Gv
def nAnn : ByteArray := ⟨#[97, 110, 110]⟩
def nBob : ByteArray := ⟨#[98, 111, 98]⟩
def nCy : ByteArray := ⟨#[99, 121]⟩
def nRoot : ByteArray := ⟨#[114, 111, 111, 116]⟩
def nT : ByteArray := ⟨#[116]⟩
def wG1 : qGrant := ⟨nBob, nAnn, nT, 1, true⟩
def wG2 : qGrant := ⟨nCy, nBob, nT, 1, true⟩
def wR : List Role := [⟨nAnn, []⟩, ⟨nBob, []⟩, ⟨nCy, []⟩, ⟨nRoot, []⟩]
def wT : List qTable := [⟨nT, nAnn, 4, [⟨⟨#[97]⟩, 1, false⟩], [], []⟩]
def wC : qCatalog := ⟨6, wT, wR, [wG1, wG2]⟩
def wA (f t : ByteArray) : law19_Act := ⟨{ z_qStmt with Kind := 14, Table := nT, Role := t, Priv := 1, Option := true }, f⟩
theorem wAct (f t : ByteArray) : law19_works_1 f t = some (wA f t) := rfl
theorem wGrown : law19_Grown [wA nAnn nBob, wA nBob nCy] = some wC := law19_Grown_le 60 _ _ (by kernel_rfl)
theorem wAF : AF [wA nAnn nBob, wA nBob nCy] := by
  refine ⟨by show 2 ≤ 40; omega, fun a ha => ?_⟩
  simp only [List.mem_cons, List.not_mem_nil, or_false] at ha
  rcases ha with rfl | rfl
  · exact ⟨⟨Nat.zero_le _, Nat.zero_le _, Nat.zero_le _, by decide, Nat.zero_le _, (fun x hx => by cases hx), (fun x hx => by cases hx)⟩, by decide⟩
  · exact ⟨⟨Nat.zero_le _, Nat.zero_le _, Nat.zero_le _, by decide, Nat.zero_le _, (fun x hx => by cases hx), (fun x hx => by cases hx)⟩, by decide⟩
theorem wCI : CI 60 wC := (grown_rb (b := True) wAF).so _ wGrown
theorem wSm : Sm wR := wCI.2.sm (by omega)
def wS : qStmt := { z_qStmt with Kind := 15, Table := nT, Role := nBob, Priv := 1 }
theorem wTake : grants_take wC wS nAnn = some ([wG2], 0) := by kernel_rfl
def wD : qCatalog := ⟨7, wT, wR, [wG2]⟩
theorem wDB : CB 60 wD := ⟨wCI.1.tabs, wCI.1.ok, by show 1 ≤ 60; omega⟩
def wE : qCatalog := ⟨7, wT, wR, []⟩
theorem wEB : CB 60 wE := ⟨wCI.1.tabs, wCI.1.ok, by show 0 ≤ 60; omega⟩
theorem wHeld : r19_Held wD = some [] := r19_Held_le 60 _ _ (by kernel_rfl)
theorem wTrim : grants_Trim wD = some wE := by
  have e : heR wD = [] := by
    have := rheld_val (c := wD) wSm (by show 1 ≤ 1000; omega)
    rw [wHeld] at this
    injection this with this
    exact this.symm
  unfold grants_Trim
  rw [gheld_val wDB (by omega) wSm, e]
  rfl
theorem wMake : grants_Make wC wS nAnn 1000 = some (wE, 0) := by
  obtain ⟨r, hr⟩ := mfind_eq wSm nAnn
  have h0 : decide (0 ≤ rI wR nAnn) = true := by kernel_rfl
  rw [h0] at hr
  unfold grants_Make
  rw [show member_Find wC.Roles nAnn = some (r, true) from hr]
  have k1 : ((decide (wS.Kind < 10)) || (decide (wS.Kind > 15))) = false := by decide
  have k2 : (wS.Kind == 10) = false := by decide
  have k3 : (wS.Kind == 11) = false := by decide
  have k4 : (wS.Kind == 12) = false := by decide
  have k5 : (wS.Kind == 13) = false := by decide
  have k6 : (wS.Kind == 14) = false := by decide
  simp only [k1, k2, k3, k4, k5, k6, cond_false, Option.bind_some, Bool.not_true, wTake]
  have k7 : (((0 : Int) == 0) && (decide (wC.Version ≥ 1000))) = false := by decide
  have k8 : ((0 : Int) != 0) = false := by decide
  simp only [k7, k8, cond_false, Option.bind_some]
  have e2 : (({ wC with Version := (w64 (wC.Version + 1)), Grants := [wG2] } : qCatalog)) = wD := by
    show (⟨w64 (6 + 1), wT, wR, [wG2]⟩ : qCatalog) = wD
    rw [show w64 (6 + 1) = 7 by kernel_rfl]
    rfl
  have e3 : grants_Trim ({ wC with Version := (w64 (wC.Version + 1)), Grants := [wG2] } : qCatalog) = some wE := by rw [e2]; exact wTrim
  rw [e3]
  rfl
theorem wMay1 : grants_May wC nCy 1 nT = some true := by
  rw [gmay_val wCI.1 (by omega) wSm]
  exact r19_May_le 60 _ _ _ _ _ (by kernel_rfl)
theorem wMay2 : grants_May wE nCy 1 nT = some false := by
  rw [gmay_val wEB (by omega) wSm]
  exact r19_May_le 60 _ _ _ _ _ (by kernel_rfl)
theorem works_eq : law19_works = some true := by
  unfold law19_works
  have a1 : law19_works_1 (⟨#[97, 110, 110]⟩ : ByteArray) (⟨#[98, 111, 98]⟩ : ByteArray) = some (wA nAnn nBob) := rfl
  have a2 : law19_works_1 (⟨#[98, 111, 98]⟩ : ByteArray) (⟨#[99, 121]⟩ : ByteArray) = some (wA nBob nCy) := rfl
  rw [a1, a2]
  simp only [Option.bind_some]
  rw [wGrown]
  simp only [Option.bind_some]
  have hm : grants_Make wC ({ z_qStmt with Kind := 15, Table := (⟨#[116]⟩ : ByteArray), Role := (⟨#[98, 111, 98]⟩ : ByteArray), Priv := 1 }) (⟨#[97, 110, 110]⟩ : ByteArray) 1000 = some (wE, 0) := wMake
  have h1 : grants_May wC (⟨#[99, 121]⟩ : ByteArray) 1 (⟨#[116]⟩ : ByteArray) = some true := wMay1
  have h2 : grants_May wE (⟨#[99, 121]⟩ : ByteArray) 1 (⟨#[116]⟩ : ByteArray) = some false := wMay2
  rw [hm]
  simp only [Option.bind_some, beq_self_eq_true, cond_true, h1, h2, Bool.not_false, Bool.true_and]
  rfl
end Go.Proofs.YtdmapcjbbbifbaaGreat
set_option maxRecDepth 100000
namespace Go.Proofs.YtdmapcjbbbifbaaGreat
open Go.Gv
theorem RB.any {α : Type} {m : Option α} : RB False m (fun r => m = some r) := ⟨fun h => h.elim, fun _ h => h⟩
theorem RB.no {α : Type} {m : Option α} : RB False m TT := ⟨fun h => h.elim, fun _ _ => trivial⟩
theorem rb_and {α : Type} {b : Prop} {m : Option α} {Q Q' : α → Prop} (h : RB b m Q) (h' : RB False m Q') : RB b m (fun r => Q r ∧ Q' r) := ⟨h.is, fun r e => ⟨h.so r e, h'.so r e⟩⟩
theorem yar {α β : Type} {k : Nat} {xs ys : List β} {f : List β → Option α} {Q : α → Prop} (h : RB False (f (xs ++ ys)) Q) : RB False ((app k xs ys).bind f) Q := RB.bind RB.any fun l hl => by rw [(app_some hl).2]; exact h
theorem RB.idP {α β : Type} {xs : List β} {i : Int} {f : β → Option α} {Q : α → Prop} (h : ∀ x, x ∈ xs → RB False (f x) Q) : RB False ((idx xs i).bind f) Q := RB.bind RB.any fun x hx => h x (List.mem_of_getElem? (idx_some hx).2.2)
def HasT (c : qCatalog) (n : ByteArray) : Prop := ∃ t ∈ c.Tables, t.Name = n
theorem has_tI {c : qCatalog} {n : ByteArray} : 0 ≤ tI c n ↔ HasT c n := by
  unfold tI
  cases e : c.Tables.findIdx? (fun x => sEq x.Name n) with
  | none =>
    rw [List.findIdx?_eq_none_iff] at e
    exact ⟨fun h => by simp at h, fun ⟨t, ht, hn⟩ => by have := e t ht; rw [sEq_iff.2 hn] at this; cases this⟩
  | some k =>
    obtain ⟨hk, h2, _⟩ := List.findIdx?_eq_some_iff_getElem.1 e
    exact ⟨fun _ => ⟨_, List.getElem_mem hk, sEq_iff.1 h2⟩, fun _ => by simp⟩
theorem tI_nm {c : qCatalog} {n : ByteArray} {x : qTable} (h : 0 ≤ tI c n) (hx : c.Tables[(tI c n).toNat]? = some x) : x.Name = n := by
  obtain ⟨k, t, hk, ht, _, he⟩ := tI_get h
  obtain ⟨hk', h2, _⟩ := List.findIdx?_eq_some_iff_getElem.1 he
  rw [hk, Int.toNat_natCast, List.getElem?_eq_getElem hk'] at hx
  injection hx with hx
  subst hx
  exact sEq_iff.1 h2
abbrev kk (g : qGrant) : ByteArray × ByteArray × ByteArray × Int := (g.To, g.By, g.Table, g.Priv)
def UQ (l : List qGrant) : Prop := l.Pairwise fun g h => kk g ≠ kk h
def GU (c : qCatalog) : Prop := (∀ g ∈ c.Grants, HasT c g.Table) ∧ UQ c.Grants
theorem UQ.map {l m : List qGrant} (h : UQ l) (e : m.map kk = l.map kk) : UQ m := by
  have h2 : (l.map kk).Pairwise (· ≠ ·) := List.pairwise_map.2 h
  rw [← e] at h2
  exact List.pairwise_map.1 h2
theorem without_p {c : qCatalog} {nm : ByteArray} : RB False (r17_without c nm) (fun r => r = { c with Tables := c.Tables.filter fun t => !sEq t.Name nm }) := by
  unfold r17_without
  refine RB.bind (forE_ret (fun j s => s = (c.Tables.take j).filter fun t => !sEq t.Name nm) (by simp) ?_) fun s hs => RB.ret (by rw [hs, List.take_length])
  rintro j s hj rfl
  refine y8 hj fun x hx _ => ?_
  rw [take_next hx, List.filter_append]
  refine RB.bind (R := fun r => r = (c.Tables.take j).filter (fun t => !sEq t.Name nm) ++ [x].filter fun t => !sEq t.Name nm) (RB.cond (fun hc => ?_) fun hc => RB.ret (by simp [hc])) fun _ h => RB.ret h
  rw [idx_nat, hx]
  exact yao (yar (RB.ret (by simp [hc])))
theorem with_p {c : qCatalog} {t : qTable} : RB False (r17_with c t) (fun r => r.Grants = c.Grants ∧ t ∈ r.Tables ∧ ∀ x ∈ c.Tables, x ∈ r.Tables) := by
  unfold r17_with
  refine RB.bind RB.no fun s _ => RB.bind RB.any fun l1 h1 => yar (yar (RB.bind RB.any fun l2 h2 => yar (RB.ret ?_)))
  obtain ⟨a0, a1, a2, rfl⟩ := sub_some h1
  obtain ⟨b0, b1, b2, rfl⟩ := sub_some h2
  refine ⟨rfl, by simp, fun x hx => ?_⟩
  have e : c.Tables = c.Tables.take s.toNat ++ c.Tables.drop s.toNat := (List.take_append_drop ..).symm
  rw [e] at hx
  rcases List.mem_append.1 hx with hx | hx
  · simp [hx]
  · simp [hx]
theorem copy_p {t : qTable} : RB False (r17_Copy t) (fun r => r = t) := by
  unfold r17_Copy
  exact yar (yar (yar (RB.ret (by simp))))
theorem pointed_p {t : qTable} {p q : ByteArray} : RB False (r17_pointed t p q) (fun r => r.1.Name = t.Name) := by
  unfold r17_pointed
  refine RB.bind copy_p ?_
  rintro _ rfl
  refine RB.bind RB.no ?_
  rintro ⟨_, _⟩ _
  exact RB.ret rfl
theorem renamed_p {c : qCatalog} {t : qTable} {q : ByteArray} : RB False (r17_renamed c t q) (fun r => r.2.Name = q ∧ (∀ x ∈ c.Tables, x.Name ≠ t.Name → HasT r.1 x.Name) ∧ r.1.Grants = c.Grants.map fun g => bif sEq g.Table t.Name then { g with Table := q } else g) := by
  unfold r17_renamed
  refine RB.bind RB.no ?_
  rintro ⟨u, _⟩ _
  refine RB.bind (forE_ret (fun j (s : List qTable) => ∀ x ∈ c.Tables.take j, x.Name ≠ t.Name → ∃ y ∈ s, y.Name = x.Name) (by simp) ?_) fun ts hts => RB.bind (forE_ret (fun j (s : List qGrant) => s = (c.Grants.take j).map fun g => bif sEq g.Table t.Name then { g with Table := q } else g) (by simp) ?_) fun gs hgs => RB.ret ⟨rfl, ?_, ?_⟩
  · intro j s hj g
    refine RB.bind (R := fun (r : qTable × Bool) => ∀ x, c.Tables[j]? = some x → r.1.Name = x.Name) (y8 hj fun x hx _ => RB.bind pointed_p ?_) ?_
    · rintro ⟨_, _⟩ h
      exact RB.ret fun y hy => by rw [hx] at hy; injection hy with hy; rw [← hy]; exact h
    rintro ⟨u, f⟩ hu
    refine RB.bind (R := fun (u : qTable) => ∀ x, c.Tables[j]? = some x → u.Name = x.Name) (RB.cond (fun _ => RB.ret hu) (fun _ => RB.ret hu)) fun v hv => y8 hj fun x hx _ => RB.bind (R := fun (s : List qTable) => ∀ x ∈ c.Tables.take (j + 1), x.Name ≠ t.Name → ∃ y ∈ s, y.Name = x.Name) (RB.cond (fun hc => yar (RB.ret ?_)) fun hc => RB.ret ?_) fun s h => RB.ret h
    · rw [take_next hx]
      intro y hy hn
      rcases List.mem_append.1 hy with hy | hy
      · obtain ⟨z, hz, e⟩ := g y hy hn
        exact ⟨z, List.mem_append_left _ hz, e⟩
      · simp only [List.mem_cons, List.not_mem_nil, or_false] at hy
        subst hy
        exact ⟨v, by simp, hv _ hx⟩
    · rw [take_next hx]
      intro y hy hn
      rcases List.mem_append.1 hy with hy | hy
      · exact g y hy hn
      · simp only [List.mem_cons, List.not_mem_nil, or_false] at hy
        subst hy
        simp only [Bool.not_eq_false'] at hc
        exact absurd (sEq_iff.1 hc) hn
  · rintro j s hj rfl
    refine y8 hj fun x hx _ => RB.bind (R := fun y => y = bif sEq x.Table t.Name then { x with Table := q } else x) (RB.cond (fun hc => RB.ret (by rw [hc]; rfl)) fun hc => RB.ret (by rw [hc]; rfl)) ?_
    rintro _ rfl
    rw [take_next hx, List.map_append]
    exact yar (RB.ret rfl)
  · intro x hx hn
    exact hts x (by rw [List.take_length]; exact hx) hn
  · show gs = _
    have hgs : gs = _ := hgs
    rw [hgs, List.take_length]
theorem dropped_p {c : qCatalog} {t : qTable} {nm : ByteArray} : RB False (r17_dropped c t nm) (fun r => r.1.Name = t.Name) := by
  unfold r17_dropped
  refine RB.bind (forN_q (Q := fun r => r.2.Name = t.Name) fun j s hj => y8 hj fun x _ _ => RB.cond (fun _ => RB.ret trivial) fun _ => yar (RB.bind RB.no fun _ _ => RB.bind RB.no fun _ _ => RB.cond (fun _ => RB.ret rfl) fun _ => RB.bind copy_p ?_)) ?_
  · rintro _ rfl
    exact RB.bind RB.no fun _ _ => yar (RB.bind RB.no fun _ _ => yar (RB.ret rfl))
  · rintro (_ | ⟨_, _⟩) g
    · exact RB.ret rfl
    · exact RB.ret g
def LN {α : Type} (n : ByteArray) (q : (Int × qTable) ⊕ α) : Prop := match q with | .inl (_, t) => t.Name = n | .inr _ => True
theorem turned_p {c : qCatalog} {t : qTable} {s : qStmt} : RB False (r17_turned c t s) (fun r => r.1.Name = t.Name) := by
  unfold r17_turned
  refine RB.bind copy_p fun u hu => RB.bind RB.no ?_
  subst hu
  rintro ⟨_, names⟩ _
  refine RB.bind (R := LN u.Name) ?_ ?_
  rotate_left
  · rintro (⟨_, _⟩ | ⟨_, _, _, _⟩) g
    · exact RB.ret g
    · exact RB.ret rfl
  refine RB.cond (fun _ => RB.cond (fun _ => RB.ret rfl) fun _ => RB.idP fun _ _ => RB.bind RB.no fun _ _ => RB.cond (fun _ => RB.ret rfl) fun _ => RB.idP fun _ _ => yar (RB.ret trivial)) fun _ => ?_
  refine RB.bind (R := LN u.Name) ?_ ?_
  rotate_left
  · rintro (⟨_, _⟩ | ⟨_, _, _, _⟩) g
    · exact RB.ret g
    · exact RB.ret trivial
  refine RB.cond (fun _ => RB.bind RB.no fun _ _ => RB.cond (fun _ => RB.ret rfl) fun _ => RB.bind RB.no fun _ _ => RB.bind RB.no fun _ _ => RB.cond (fun _ => RB.ret rfl) fun _ => RB.bind RB.no fun _ _ => yar (RB.bind RB.no fun _ _ => yar (RB.ret trivial))) fun _ => ?_
  refine RB.bind (R := LN u.Name) ?_ ?_
  rotate_left
  · rintro (⟨_, _⟩ | ⟨_, _, _⟩) g
    · exact RB.ret g
    · exact RB.ret trivial
  refine RB.cond (fun _ => RB.cond (fun _ => RB.ret rfl) fun _ => RB.idP fun _ _ => RB.bind RB.no fun _ _ => RB.cond (fun _ => RB.ret rfl) fun _ => RB.cond (fun _ => RB.ret rfl) fun _ => RB.idP fun _ _ => yar (RB.ret trivial)) fun _ => ?_
  refine RB.bind (R := LN u.Name) ?_ ?_
  rotate_left
  · rintro (⟨_, _⟩ | ⟨_, _⟩) g
    · exact RB.ret g
    · exact RB.ret trivial
  refine RB.cond (fun _ => RB.bind RB.no fun _ _ => RB.cond (fun _ => RB.ret rfl) fun _ => RB.cond (fun _ => RB.ret rfl) fun _ => yar (RB.ret trivial)) fun _ => RB.cond (fun _ => RB.bind dropped_p ?_) fun _ => RB.cond (fun _ => RB.bind (forN_q (Q := fun r => r.2.Name = u.Name) ?_) ?_) fun _ => RB.ret trivial
  · rintro ⟨_, _⟩ g
    exact RB.ret g
  · rintro j ⟨_, _⟩ hj
    exact y8 hj fun x _ _ => RB.cond (fun _ => RB.bind RB.no fun _ _ => yar (RB.bind RB.no fun _ _ => yar (RB.ret rfl))) fun _ => RB.ret trivial
  · rintro (⟨_, _⟩ | ⟨_, _⟩) g
    · exact RB.ret rfl
    · exact RB.ret g
theorem tmake_p {c : qCatalog} {s : qStmt} {by_ : ByteArray} {most : Int} (hu : GU c) : RB False (r17_Make c s by_ most) (fun r => r.2 = 0 → GU r.1) := by
  have no : ∀ {k : Int} {C : Prop}, k ≠ 0 → (k = 0 → C) := fun hk he => absurd he hk
  obtain ⟨hu1, hu2⟩ := hu
  unfold r17_Make
  refine RB.cond (fun _ => RB.ret (no (by decide))) fun _ => yav (tat_val c _) (RB.cond (fun _ => RB.ret (no (by decide))) fun _ => RB.cond (fun _ => RB.ret (no (by decide))) fun _ => RB.cond (fun _ => RB.ret (no (by decide))) fun hc4 => RB.bind without_p fun w hw => ?_)
  subst hw
  have hne : (s.Kind == 1) = false → 0 ≤ tI c s.Table := by
    intro hk
    rw [show (s.Kind != 1) = true by simp [bne, hk]] at hc4
    simpa using hc4
  have rest : ∀ {u : qTable}, u.Name = s.Table → s.Kind ≠ 2 → ∀ g ∈ c.Grants, (∃ t ∈ c.Tables.filter (fun t => !sEq t.Name s.Table), t.Name = g.Table) ∨ (s.Kind ≠ 2 ∧ u.Name = g.Table) := by
    intro u hn k2 g hg
    obtain ⟨t, ht, e⟩ := hu1 g hg
    by_cases h : t.Name = s.Table
    · exact .inr ⟨k2, by rw [hn, ← h, e]⟩
    · exact .inl ⟨t, List.mem_filter.2 ⟨ht, by simpa using fun h' => h (sEq_iff.1 h')⟩, e⟩
  refine RB.bind (R := fun (q : (Int × qCatalog × Int × (List qTable) × (List qRole) × (List qGrant) × qTable) ⊕ (Int × qCatalog × qTable)) => match q with | .inl (_, _, v, ts, rs, gs, u) => UQ gs ∧ ∀ g ∈ gs, (∃ t ∈ ts, t.Name = g.Table) ∨ (s.Kind ≠ 2 ∧ u.Name = g.Table) | .inr (k, _, _) => k ≠ 0) ?_ ?_
  · refine RB.cond (fun k1 => RB.ret ⟨hu2, rest rfl (by simp only [beq_iff_eq] at k1; omega)⟩) fun k1 => ?_
    have a0 := hne k1
    refine RB.bind (R := fun (q : (Int × qCatalog × qTable) ⊕ (Int × qCatalog × Int × (List qTable) × (List qRole) × (List qGrant) × qTable)) => match q with | .inr (_, _, v, ts, rs, gs, u) => UQ gs ∧ ∀ g ∈ gs, (∃ t ∈ ts, t.Name = g.Table) ∨ (s.Kind ≠ 2 ∧ u.Name = g.Table) | .inl (k, _, _) => k ≠ 0) ?_ ?_
    rotate_left
    · rintro (⟨_, _, _⟩ | ⟨_, _, _, _, _, _, _⟩) g <;> exact RB.ret g
    refine RB.cond (fun _ => RB.bind RB.no fun _ _ => RB.cond (fun _ => RB.ret (show (34 : Int) ≠ 0 by decide)) fun _ => RB.bind (forE_ret (fun j (l : List qGrant) => l = (c.Grants.take j).filter fun g => !sEq g.Table s.Table) (by simp) ?_) fun gs hg => RB.ret ?_) fun k2 => ?_
    · rintro j l hj rfl
      refine y8 hj fun x hx _ => ?_
      rw [take_next hx, List.filter_append]
      refine RB.bind (R := fun r => r = (c.Grants.take j).filter (fun g => !sEq g.Table s.Table) ++ [x].filter fun g => !sEq g.Table s.Table) (RB.cond (fun hc => ?_) fun hc => RB.ret (by simp [hc])) fun _ h => RB.ret h
      rw [idx_nat, hx]
      exact yao (yar (RB.ret (by simp [hc])))
    · have hg : gs = (c.Grants.take c.Grants.length).filter fun g => !sEq g.Table s.Table := hg
      rw [List.take_length] at hg
      subst hg
      refine ⟨hu2.sublist List.filter_sublist, fun g hg => ?_⟩
      obtain ⟨h1, h2⟩ := List.mem_filter.1 hg
      obtain ⟨t, ht, e⟩ := hu1 g h1
      exact .inl ⟨t, List.mem_filter.2 ⟨ht, by rw [e]; exact h2⟩, e⟩
    refine RB.bind (R := fun (q : (Int × qCatalog × qTable) ⊕ (Int × qCatalog × Int × (List qTable) × (List qRole) × (List qGrant) × qTable)) => match q with | .inr (_, _, v, ts, rs, gs, u) => UQ gs ∧ ∀ g ∈ gs, (∃ t ∈ ts, t.Name = g.Table) ∨ (s.Kind ≠ 2 ∧ u.Name = g.Table) | .inl (k, _, _) => k ≠ 0) ?_ ?_
    rotate_left
    · rintro (⟨_, _, _⟩ | ⟨_, _, _, _, _, _, _⟩) g <;> exact RB.ret g
    have k2' : s.Kind ≠ 2 := by simpa using k2
    refine RB.cond (fun _ => yav (tat_val c _) (RB.cond (fun _ => RB.ret (show (19 : Int) ≠ 0 by decide)) fun hq => RB.bind RB.any fun x hx => RB.bind renamed_p ?_)) fun _ => RB.bind RB.any fun x hx => RB.bind turned_p ?_
    · have hn := tI_nm a0 (idx_some hx).2.2
      have hq : ¬ HasT c s.Name := fun h => by have := has_tI.2 h; simp at hq; omega
      rintro ⟨d, u⟩ ⟨d1, d2, d3⟩
      simp only at d1 d2 d3
      refine RB.ret ?_
      show UQ d.Grants ∧ ∀ g ∈ d.Grants, (∃ t ∈ d.Tables, t.Name = g.Table) ∨ (s.Kind ≠ 2 ∧ u.Name = g.Table)
      rw [d3]
      have hnt : ∀ g ∈ c.Grants, g.Table ≠ s.Name := fun g hg e => hq (e ▸ hu1 g hg)
      have p1 : UQ (c.Grants.map fun g => bif sEq g.Table x.Name then { g with Table := s.Name } else g) := by
        refine List.pairwise_map.2 (List.Pairwise.imp_of_mem ?_ hu2)
        intro a b ha hb hab e
        refine hab ?_
        have h1 := hnt a ha
        have h2 := hnt b hb
        cases ea : sEq a.Table x.Name <;> cases eb : sEq b.Table x.Name <;> simp only [ea, eb, cond_true, cond_false, kk, Prod.mk.injEq] at e ⊢
        · exact e
        · exact absurd e.2.2.1 h1
        · exact absurd e.2.2.1.symm h2
        · exact ⟨e.1, e.2.1, by rw [sEq_iff.1 ea, sEq_iff.1 eb], e.2.2.2⟩
      refine ⟨p1, fun g hg => ?_⟩
      obtain ⟨g', hg', rfl⟩ := List.mem_map.1 hg
      obtain ⟨t, ht, e⟩ := hu1 g' hg'
      cases eg : sEq g'.Table x.Name
      · simp only [cond_false]
        refine .inl ?_
        obtain ⟨y, hy, e2⟩ := d2 t ht (fun h => by rw [← e, h, sEq_iff.2 rfl] at eg; cases eg)
        exact ⟨y, hy, e2.trans e⟩
      · exact .inr ⟨k2', d1⟩
    · have hn := tI_nm a0 (idx_some hx).2.2
      rintro ⟨u, e⟩ g
      exact RB.ret ⟨hu2, rest (g.trans hn) k2'⟩
  · rintro (⟨k, z, v, ts, rs, gs, u⟩ | ⟨k, z, u⟩) g
    · obtain ⟨g1, g2⟩ := g
      refine RB.bind RB.no fun e _ => RB.bind RB.no fun e' _ => RB.cond (fun hc => RB.ret (no (by simpa using hc))) fun hc => RB.bind (R := fun (q : Int × (List qTable) × (List qRole) × (List qGrant) × qTable) => UQ q.2.2.2.1 ∧ ∀ g ∈ q.2.2.2.1, ∃ t ∈ q.2.1, t.Name = g.Table) (RB.cond (fun hk => RB.bind with_p fun r hr => RB.ret ?_) fun hk => RB.ret ⟨g1, fun g hg => ?_⟩) ?_
      · obtain ⟨r1, r2, r3⟩ := hr
        refine ⟨by simp only [r1]; exact g1, fun g hg => ?_⟩
        simp only [r1] at hg
        rcases g2 g hg with ⟨t, ht, e⟩ | ⟨_, e⟩
        · exact ⟨t, r3 t ht, e⟩
        · exact ⟨_, r2, e⟩
      · rcases g2 g hg with h | ⟨h, _⟩
        · exact h
        · simp at hk; exact absurd hk h
      · rintro ⟨q1, q2, q3, q4, q5⟩ ⟨e1, e2⟩
        exact RB.ret fun _ => ⟨e2, e1⟩
    · exact RB.ret (no g)
def kB (s : qStmt) (by_ : ByteArray) (g : qGrant) : Bool := sEq g.To s.Role && sEq g.By by_ && sEq g.Table s.Table && (g.Priv == s.Priv)
theorem kB_iff {s : qStmt} {by_ : ByteArray} {g : qGrant} : kB s by_ g = true ↔ kk g = (s.Role, by_, s.Table, s.Priv) := by
  unfold kB
  simp only [Bool.and_eq_true, sEq_iff, beq_iff_eq, kk, Prod.mk.injEq, and_assoc]
def pI (c : qCatalog) (s : qStmt) (by_ : ByteArray) : Int := match c.Grants.findIdx? (kB s by_) with | some j => (j : Int) | none => -1
theorem rplace_val (c : qCatalog) (s : qStmt) (by_ : ByteArray) : r19_place c s by_ = some (pI c s by_) := by
  unfold r19_place pI
  rw [forN_find (kB s by_) (fun j => (j : Int)) (fun j x hx => by rw [idx_nat, hx]; simp only [Option.bind_some]; show (bif kB s by_ x then _ else _) = _; cases kB s by_ x <;> rfl)]
  cases c.Grants.findIdx? (kB s by_) <;> rfl
theorem pI_cases (c : qCatalog) (s : qStmt) (by_ : ByteArray) : (pI c s by_ = -1 ∧ ∀ g ∈ c.Grants, kk g ≠ (s.Role, by_, s.Table, s.Priv)) ∨ ∃ (k : Nat) (g : qGrant), pI c s by_ = (k : Int) ∧ c.Grants[k]? = some g ∧ kk g = (s.Role, by_, s.Table, s.Priv) := by
  unfold pI
  cases e : c.Grants.findIdx? (kB s by_) with
  | none =>
    rw [List.findIdx?_eq_none_iff] at e
    exact .inl ⟨rfl, fun g hg h => by have := e g hg; rw [kB_iff.2 h] at this; cases this⟩
  | some k =>
    obtain ⟨hk, h2, _⟩ := List.findIdx?_eq_some_iff_getElem.1 e
    exact .inr ⟨k, _, rfl, List.getElem?_eq_getElem hk, kB_iff.1 h2⟩
theorem he_has {c : qCatalog} {g : qGrant} (h : g ∈ heR c) : HasT c g.Table := by
  have h2 := (List.mem_filter.1 (show g ∈ c.Grants.filter _ from h)).2
  unfold okB at h2
  simp only [Bool.and_eq_true, decide_eq_true_eq] at h2
  exact has_tI.1 h2.1.1
theorem he_sub (c : qCatalog) : (heR c).Sublist c.Grants := List.filter_sublist
theorem given_p {c : qCatalog} {s : qStmt} {by_ : ByteArray} (hu : UQ c.Grants) : RB False (r19_given c s by_) (fun r => r.2 = 0 → UQ r.1) := by
  have no : ∀ {k : Int} {C : Prop}, k ≠ 0 → (k = 0 → C) := fun hk he => absurd he hk
  unfold r19_given
  refine RB.bind RB.no fun _ _ => RB.bind RB.no fun _ _ => RB.cond (fun _ => RB.ret (no (by decide))) fun _ => RB.bind RB.no fun _ _ => RB.cond (fun _ => RB.ret (no (by decide))) fun _ => yav (rplace_val _ _ _) (yar ?_)
  rw [List.nil_append]
  rcases pI_cases c s by_ with ⟨e, h⟩ | ⟨k, g, e, hk, hg⟩ <;> rw [e]
  · refine RB.cond (fun h => by simp at h) fun _ => RB.cond (fun _ => RB.ret (no (by decide))) fun _ => yar (RB.ret fun _ => List.pairwise_append.2 ⟨hu, by simp, fun a ha b hb => ?_⟩)
    simp only [List.mem_cons, List.not_mem_nil, or_false] at hb
    subst hb
    exact h a ha
  · refine RB.cond (fun _ => RB.idP fun _ _ => RB.cond (fun _ => RB.ret (no (by decide))) fun _ => RB.bind RB.any fun x hx => RB.ret fun _ => UQ.map hu ?_) fun h => by simp at h
    rw [idx_nat, hk] at hx
    injection hx with hx
    subst hx
    show (c.Grants.set ((k : Int)).toNat _).map kk = _
    rw [Int.toNat_natCast, List.map_set]
    exact set_same (by rw [List.getElem?_map, hk]; rfl)
theorem gmake_p {n : Nat} {c : qCatalog} {s : qStmt} (h : CI n c) (hn : n ≤ 99) (hm : s.Name.size ≤ 100) (hu : GU c) (by_ : ByteArray) (most : Int) : RB False (r19_Make c s by_ most) (fun r => r.2 = 0 → GU r.1) := by
  have no : ∀ {k : Int} {C : Prop}, k ≠ 0 → (k = 0 → C) := fun hk he => absurd he hk
  have hg := h.1.grants
  unfold r19_Make
  refine RB.cond (fun _ => RB.ret (no (by decide))) fun _ => RB.bind RB.no fun _ _ => RB.cond (fun _ => RB.ret (no (by decide))) fun _ => RB.bind RB.no fun _ _ => RB.bind (R := fun (q : (Int × qCatalog × (List qRole) × (List qGrant)) ⊕ (Int × qCatalog)) => match q with | .inl (k, _, rs, gs) => k = 0 → RO (n + 1) rs ∧ gs.length ≤ n + 1 ∧ UQ gs | .inr (k, _) => k ≠ 0) ?_ ?_
  · refine RB.cond (fun _ => RB.ret (no (by decide))) fun _ => RB.bind (R := fun (q : (Int × qCatalog × (List qRole) × (List qGrant)) ⊕ (Int × qCatalog)) => match q with | .inl (k, _, rs, gs) => k = 0 → RO (n + 1) rs ∧ gs.length ≤ n + 1 ∧ UQ gs | .inr (k, _) => k ≠ 0) ?_ ?_
    rotate_left
    · rintro (⟨_, _, _, _⟩ | ⟨_, _⟩) g <;> exact RB.ret g
    refine RB.cond (fun _ => RB.bind (rroles_rb h (by omega) hm) ?_) fun _ => RB.bind (R := fun (q : (Int × qCatalog × (List qGrant)) ⊕ (Int × qCatalog)) => match q with | .inl (k, _, gs) => k = 0 → gs.length ≤ n + 1 ∧ UQ gs | .inr (k, _) => k ≠ 0) (RB.cond (fun _ => RB.bind (rb_and (rgiven_rb h (by omega) _ _) (given_p hu.2)) ?_) fun _ => yav (rplace_val _ _ _) (RB.cond (fun _ => RB.ret (show (4 : Int) ≠ 0 by decide)) fun hc => RB.bind RB.any fun l1 e1 => yar (RB.bind RB.any fun l2 e2 => yar (RB.ret fun _ => ?_)))) ?_
    · rintro ⟨_, _⟩ g
      exact RB.ret fun he => ⟨g he, by omega, hu.2⟩
    · rintro ⟨_, _⟩ g
      exact RB.ret fun he => ⟨g.1 he, g.2 he⟩
    · rcases pI_cases c s by_ with ⟨e, _⟩ | ⟨k, g, e, hk, _⟩ <;> rw [e] at hc e1 e2
      · simp at hc
      · have hkl : k < c.Grants.length := (List.getElem?_eq_some_iff.1 hk).1
        obtain ⟨_, _, _, rfl⟩ := sub_some e1
        rw [w64_id (by omega) (by omega)] at e2
        obtain ⟨_, _, _, rfl⟩ := sub_some e2
        have ex : [] ++ List.drop (0 : Int).toNat (c.Grants.take ((k : Int)).toNat) ++ List.drop (((k : Int) + 1)).toNat (c.Grants.take ((c.Grants.length : Int)).toNat) = c.Grants.eraseIdx k := by
          rw [List.eraseIdx_eq_take_drop_succ, show (((k : Int) + 1)).toNat = k + 1 by omega]
          simp
        rw [ex]
        exact ⟨by have := List.length_eraseIdx_le c.Grants k; omega, hu.2.sublist (List.eraseIdx_sublist ..)⟩
    · rintro (⟨_, _, _⟩ | ⟨_, _⟩) g
      · exact RB.ret fun he => ⟨h.2.up (by omega), g he⟩
      · exact RB.ret g
  · rintro (⟨k, z, rs, gs⟩ | ⟨k, z⟩) g
    · refine RB.bind (R := fun (e : Int) => e = 0 → k = 0) (RB.cond (fun _ => RB.ret fun h => by cases h) fun _ => RB.ret fun h => h) fun e he => RB.cond (fun hc => RB.ret (no (by simpa using hc))) fun hc => ?_
      obtain ⟨g1, g2, g3⟩ := g (he (by simpa using hc))
      refine yav (rheld_val (c := { c with Version := (w64 (c.Version + 1)), Roles := rs, Grants := gs }) (g1.sm (by omega)) (by show gs.length ≤ 1000; omega)) (RB.ret fun _ => ⟨fun x hx => he_has (c := { c with Version := (w64 (c.Version + 1)), Roles := rs, Grants := gs }) hx, ?_⟩)
      exact List.Pairwise.sublist (he_sub _) g3
    · exact RB.ret (no g)
def CG (n : Nat) (c : qCatalog) : Prop := CI n c ∧ GU c
theorem CG.up {n m : Nat} {c : qCatalog} (h : CG n c) (hm : n ≤ m) : CG m c := ⟨h.1.up hm, h.2⟩
theorem next_gu {b : Prop} {n : Nat} {c : qCatalog} {a : law19_Act} (h : CG n c) (ha : SF a.S ∧ a.By.size ≤ 100) (h12 : 12 ≤ n) (hn : n ≤ 99) : RB b (law19_Next c a) (fun r => CG (n + 1) r.1) := by
  refine rb_and (next_rb h.1 ha h12 hn) ?_
  unfold law19_Next
  refine RB.bind (gmake_p h.1 hn ha.1.name h.2 _ _) ?_
  rintro ⟨d, e⟩ g
  refine RB.bind (R := fun (q : Int × qCatalog) => q.1 = 0 → GU q.2) (RB.cond (fun _ => RB.bind (tmake_p h.2) ?_) fun _ => RB.ret g) ?_
  · rintro ⟨d', e'⟩ g'
    exact RB.ret g'
  · rintro ⟨k, d'⟩ g'
    exact RB.cond (fun _ => RB.ret h.2) fun hc => RB.ret (g' (by simpa using hc))
theorem first_gu {b : Prop} : RB b law19_first (CG 16) := by
  refine rb_and first_rb ?_
  unfold law19_first r17_New
  refine yao (RB.bind (forE_ret (fun j c => CG (12 + j) c) ⟨⟨⟨Nat.zero_le _, (fun t ht => by cases ht), Nat.zero_le _⟩, ⟨by show 1 ≤ 8; omega, fun x hx => ?_⟩⟩, (fun g hg => by cases hg), List.Pairwise.nil⟩ ?_) ?_)
  · simp only [List.mem_cons, List.not_mem_nil, or_false] at hx
    subst hx
    exact ⟨Nat.zero_le _, by show (4 : Nat) ≤ 100; omega⟩
  · rintro j c hj hc
    refine RB.bind (R := fun (q : qCatalog × Int) => q.2 = 0 → CG (12 + (j + 1)) q.1) (y8 (xs := [(⟨#[97, 110, 110]⟩ : ByteArray), ⟨#[98, 111, 98]⟩, ⟨#[99, 121]⟩]) hj fun x _ hx => ?_) ?_
    · have hs : x.size ≤ 100 := by
        simp only [List.mem_cons, List.not_mem_nil, or_false] at hx
        rcases hx with rfl | rfl | rfl <;> decide
      refine RB.bind (rb_and (gmake_rb hc.1 (by omega) (SF.role x hs).name _ _) (gmake_p hc.1 (by omega) (SF.role x hs).name hc.2 _ _)) ?_
      rintro ⟨d, e⟩ g
      exact RB.ret fun he => ⟨g.1 he, g.2 he⟩
    · rintro ⟨d, e⟩ g
      exact RB.bind (R := CG (12 + (j + 1))) (RB.cond (fun he => RB.ret (g (by simpa using he))) (fun _ => RB.ret (hc.up (by omega)))) fun _ h => RB.ret h
  · intro c hc
    refine RB.bind (tmake_p hc.2) ?_
    rintro ⟨d, e⟩ g
    exact RB.bind (R := GU) (RB.cond (fun he => RB.ret (g (by simpa using he))) (fun _ => RB.ret hc.2)) fun _ h => RB.ret h
theorem grown_gu {b : Prop} {l : List law19_Act} (h : AF l) : RB b (law19_Grown l) (CG 60) := by
  have hl := h.1
  unfold law19_Grown
  refine RB.bind first_gu fun c hc => RB.bind (forE_ret (fun j c => CG (16 + j) c) hc ?_) fun d hd => RB.ret ?_
  · intro j c hj hc
    refine y8 hj fun a _ ha => RB.bind (next_gu hc (h.2 a ha) (by omega) (by omega)) ?_
    rintro ⟨d, e⟩ g
    exact RB.ret g
  · have hd : CG (16 + l.length) d := hd
    exact hd.up (by omega)
end Go.Proofs.YtdmapcjbbbifbaaGreat
