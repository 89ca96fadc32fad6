/- A region's operations: one by one in the text's order, and in whatever order its edges allow. Conditions: none. -/
import Derived.Test.YthndadengamanaaGreatGv2
namespace Go.Gv
open Go

def opsOf : Op → List Operand := fun o => o.operands.toList
/-- The operations that are served. -/
def served : Op → Bool
  | .select .. | .go _ | .defer _ | .send .. | .recv .. | .makeChan .. | .ready _ | .waits _ => false
  | _ => true
/-- What an operation does hangs on its operands alone. -/
theorem execOp_congr {ρ ρ' : Operand → Value} (o : Oper) (hs : served o.op = true) (h : ∀ x ∈ opsOf o.op, ρ x = ρ' x) : execOp ρ o = execOp ρ' o := by
  obtain ⟨dst, op, ty, pos, after, guard⟩ := o
  have H : ∀ x, x ∈ op.operands → ρ x = ρ' x := fun x hx => h x (by simpa [opsOf] using hx)
  clear h
  have opt : ∀ r : Option Operand, (∀ x, r = some x → ρ x = ρ' x) → r.map ρ = r.map ρ' := by
    intro r hr
    cases r with
    | none => rfl
    | some x => simp [hr x rfl]
  cases op with
  | build t ps =>
    have e : (ps.map fun (i, x) => (i, ρ x)) = ps.map fun (i, x) => (i, ρ' x) := by
      apply Array.map_congr_left
      rintro ⟨i, x⟩ hx
      have := H x (by simp only [Op.operands]; simp; exact ⟨i, hx⟩)
      simp [this]
    simp only [execOp, e]
  | buildSlice t n ps =>
    have e : (ps.map fun (i, x) => (i, ρ x)) = ps.map fun (i, x) => (i, ρ' x) := by
      apply Array.map_congr_left
      rintro ⟨i, x⟩ hx
      have := H x (by simp only [Op.operands]; simp; exact ⟨i, hx⟩)
      simp [this]
    simp only [execOp, e]
  | makeFunc f a b =>
    have e1 : a.map ρ = a.map ρ' := Array.map_congr_left fun x hx => H x (by simp [Op.operands, hx])
    have e2 : b.map ρ = b.map ρ' := Array.map_congr_left fun x hx => H x (by simp [Op.operands, hx])
    simp only [execOp, e1, e2]
  | makeMap t r =>
    have e := opt r fun x hx => H x (by simp [Op.operands, hx])
    simp only [execOp, e]
  | slice t x lo hi mx =>
    have ex := H x (by simp [Op.operands])
    have e1 := opt lo fun y hy => H y (by simp [Op.operands, hy])
    have e2 := opt hi fun y hy => H y (by simp [Op.operands, hy])
    have e3 := opt mx fun y hy => H y (by simp [Op.operands, hy])
    simp only [execOp, ex, e1, e2, e3]
  | call c =>
    obtain ⟨callee, args, ats⟩ := c
    have ea : args.map ρ = args.map ρ' := Array.map_congr_left fun x hx => H x (by simp [Op.operands, Call.operands, hx])
    cases callee with
    | value f =>
      have ef := H f (by simp [Op.operands, Call.operands])
      simp only [execOp, resolve, ea, ef]
    | invoke r m =>
      have ef := H r (by simp [Op.operands, Call.operands])
      simp only [execOp, resolve, ea, ef]
    | builtin b => simp only [execOp, resolve, ea]
  | pick c a b =>
    have e1 := H c (by simp [Op.operands]); have e2 := H a (by simp [Op.operands]); have e3 := H b (by simp [Op.operands])
    simp only [execOp, e1, e2, e3]
  | insert t m k v =>
    have e1 := H m (by simp [Op.operands]); have e2 := H k (by simp [Op.operands]); have e3 := H v (by simp [Op.operands])
    simp only [execOp, e1, e2, e3]
  | mapUpdate t m k v =>
    have e1 := H m (by simp [Op.operands]); have e2 := H k (by simp [Op.operands]); have e3 := H v (by simp [Op.operands])
    simp only [execOp, e1, e2, e3]
  | entryStore t m k v =>
    have e1 := H m (by simp [Op.operands]); have e2 := H k (by simp [Op.operands]); have e3 := H v (by simp [Op.operands])
    simp only [execOp, e1, e2, e3]
  | store t a v =>
    have e1 := H a (by simp [Op.operands]); have e2 := H v (by simp [Op.operands])
    simp only [execOp, e1, e2]
  | binOp b t x y u =>
    have e1 := H x (by simp [Op.operands]); have e2 := H y (by simp [Op.operands])
    simp only [execOp, e1, e2]
  | makeSlice t a v =>
    have e1 := H a (by simp [Op.operands]); have e2 := H v (by simp [Op.operands])
    simp only [execOp, e1, e2]
  | indexAddr t a v =>
    have e1 := H a (by simp [Op.operands]); have e2 := H v (by simp [Op.operands])
    simp only [execOp, e1, e2]
  | index t a v =>
    have e1 := H a (by simp [Op.operands]); have e2 := H v (by simp [Op.operands])
    simp only [execOp, e1, e2]
  | lookup t a v ok =>
    have e1 := H a (by simp [Op.operands]); have e2 := H v (by simp [Op.operands])
    simp only [execOp, e1, e2]
  | mapEntry t a v =>
    have e1 := H a (by simp [Op.operands]); have e2 := H v (by simp [Op.operands])
    simp only [execOp, e1, e2]
  | alloc t => rfl
  | move x => have e := H x (by simp [Op.operands]); simp only [execOp, e]
  | assign x => have e := H x (by simp [Op.operands]); simp only [execOp, e]
  | box t x => have e := H x (by simp [Op.operands]); simp only [execOp, e]
  | load t x => have e := H x (by simp [Op.operands]); simp only [execOp, e]
  | nilCheck x => have e := H x (by simp [Op.operands]); simp only [execOp, e]
  | unOp b t x => have e := H x (by simp [Op.operands]); simp only [execOp, e]
  | convert s t x => have e := H x (by simp [Op.operands]); simp only [execOp, e]
  | sliceToArrayPointer t x => have e := H x (by simp [Op.operands]); simp only [execOp, e]
  | makeInterface t x => have e := H x (by simp [Op.operands]); simp only [execOp, e]
  | fieldAddr t x k => have e := H x (by simp [Op.operands]); simp only [execOp, e]
  | field t x k => have e := H x (by simp [Op.operands]); simp only [execOp, e]
  | range t x => have e := H x (by simp [Op.operands]); simp only [execOp, e]
  | next x k => have e := H x (by simp [Op.operands]); simp only [execOp, e]
  | entry x => have e := H x (by simp [Op.operands]); simp only [execOp, e]
  | typeAssert x t u k => have e := H x (by simp [Op.operands]); simp only [execOp, e]
  | extract x k => have e := H x (by simp [Op.operands]); simp only [execOp, e]
  | panic x => have e := H x (by simp [Op.operands]); simp only [execOp, e]
  | _ => cases hs

/-! ### A list of operations, with what holds of the world all along -/
/-- An operation that acts: what it hands on. It neither panics nor defers. -/
def effK (P : Program) (o : Oper) (a : Act) (w : World) (next : Value → World → Prop) : Prop :=
  match (execOp a.eval o).run P w with
  | .ok (.value v) w' => next v w'
  | .ok .skip w' => next undef w'
  | .ok (.enter f args) w' => Calls P f args w' fun e w'' => ∃ v, e = .returned v ∧ next v w''
  | _ => False
/-- Operations whose value hangs on no world. -/
def spOp : Op → Bool
  | .move _ => true
  | .binOp .add .. | .binOp .sub .. => true
  | _ => false
def wpK (P : Program) (K : World → Prop) (qt : Op → Bool) (z : Nat) (ops : Array Oper) (Q : Exit → Act → World → Prop) : List Nat → Act → World → Prop
  | [], a, w => Q .normal a w
  | i :: rest, a, w =>
    match ops[i]? with
    | none => wpK P K qt z ops Q rest a w
    | some o =>
      if Region.wanted o (yielded ops a.tmps) = true then
        (if (qt o.op && Nat.blt i z) = true then ∃ v, (∀ w', (K w' ∨ w' = w) ∨ spOp o.op = true → (execOp a.eval o).run P w' = .ok (.value v) w') ∧ wpK P K qt z ops Q rest (a.put o.dst v) w
         else effK P o a w fun v w' => (z ≤ i ∨ K w') ∧ wpK P K qt z ops Q rest (a.put o.dst v) w')
      else wpK P K qt z ops Q rest (a.put o.dst undef) w

section
variable {P : Program} {K : World → Prop} {qt : Op → Bool} {z : Nat} {ops : Array Oper} {Q : Exit → Act → World → Prop}

theorem effK.mono {o : Oper} {a : Act} {w : World} {f g : Value → World → Prop} (h : effK P o a w f) (hfg : ∀ v w', f v w' → g v w') : effK P o a w g := by
  unfold effK at h ⊢
  split at h
  · exact hfg _ _ h
  · exact hfg _ _ h
  · exact h.mono fun e w'' ⟨v, he, hv⟩ => ⟨v, he, hfg _ _ hv⟩
  · exact h.elim
theorem effK.some {o : Oper} {a : Act} {w : World} {f : Value → World → Prop} (h : effK P o a w f) : ∃ v w', f v w' := by
  unfold effK at h
  split at h
  · exact ⟨_, _, h⟩
  · exact ⟨_, _, h⟩
  · obtain ⟨e, w', fr, ⟨v, _, hv⟩, _⟩ := h []
    exact ⟨v, w', hv⟩
  · exact h.elim
theorem effK.congr {o : Oper} {a b : Act} {w : World} {f : Value → World → Prop} (he : execOp a.eval o = execOp b.eval o) (h : effK P o a w f) : effK P o b w f := by
  unfold effK at h ⊢
  rw [← he]
  exact h
theorem effK.wp {o : Oper} {a : Act} {w : World} {f : Value → World → Prop} {next : Act → World → Prop} (h : effK P o a w f) (hn : ∀ v w', f v w' → next (a.put o.dst v) w') : o.wp P a w next Q := by
  unfold effK at h
  unfold Oper.wp Oper.upon
  split at h
  · rename_i hr; rw [hr]; exact hn _ _ h
  · rename_i hr; rw [hr]; exact hn _ _ h
  · rename_i hr
    rw [hr]
    refine h.mono ?_
    rintro e w'' ⟨v, rfl, hv⟩
    exact hn _ _ hv
  · exact h.elim

/-- In the order of the list. -/
theorem wpOps_of_wpK : ∀ (l : List Nat) (a : Act) (w : World), wpK P K qt z ops Q l a w → wpOps P ops Q l a w
  | [], a, w, h => h
  | i :: l, a, w, h => by
    simp only [wpK] at h
    simp only [wpOps]
    cases ho : ops[i]? with
    | none => rw [ho] at h; exact wpOps_of_wpK l a w h
    | some o =>
      simp only [ho] at h ⊢
      by_cases hw : Region.wanted o (yielded ops a.tmps) = true
      · simp only [hw, if_true] at h ⊢
        left
        by_cases hq : (qt o.op && Nat.blt i z) = true
        · rw [if_pos hq] at h
          obtain ⟨v, hv, hr⟩ := h
          unfold Oper.wp Oper.upon
          rw [hv w (.inl (.inr rfl))]
          exact wpOps_of_wpK l _ w hr
        · rw [if_neg hq] at h
          exact effK.wp h fun v w' ⟨_, hr⟩ => wpOps_of_wpK l _ w' hr
      · rw [if_neg hw] at h
        simp only [hw, if_false, Bool.false_eq_true]
        exact wpOps_of_wpK l _ w h

/-! ### Two operations that may change places -/
def dstOf (ops : Array Oper) (i : Nat) : Option Tmp := (ops[i]?).bind (·.dst)
def reads (o : Oper) (d : Option Tmp) : Bool :=
  match d with
  | none => false
  | some t => (opsOf o.op).any fun | .tmp u => Nat.beq u t | _ => false
def guards (ops : Array Oper) (o : Oper) (d : Option Tmp) : Bool :=
  match o.guard, d with
  | some (j, _), some t => (match dstOf ops j with | some u => Nat.beq u t | none => false)
  | _, _ => false
def sameDst (x y : Option Tmp) : Bool :=
  match x, y with
  | some a, some b => Nat.beq a b
  | _, _ => false
def apartOps (ops : Array Oper) (x y : Oper) : Bool :=
  !reads x y.dst && !reads y x.dst && !guards ops x y.dst && !guards ops y x.dst && !sameDst x.dst y.dst && served x.op && served y.op
theorem eval_put {o : Oper} {a : Act} {d : Option Tmp} {v : Value} (h : reads o d = false) : ∀ x ∈ opsOf o.op, (a.put d v).eval x = a.eval x := by
  intro x hx
  cases d with
  | none => rfl
  | some t =>
    cases x with
    | tmp u =>
      simp only [reads, List.any_eq_false] at h
      have := h _ hx
      simp only [Bool.not_eq_true] at this
      have hne : u ≠ t := by rintro rfl; rw [Nat.beq_refl] at this; cases this
      simp only [Act.eval, Act.put, Array.getD_eq_getD_getElem?, Array.getElem?_setIfInBounds]
      rw [if_neg (fun e => hne e.symm)]
    | _ => rfl
theorem wanted_put {o : Oper} {a : Act} {d : Option Tmp} {v : Value} (h : guards ops o d = false) : Region.wanted o (yielded ops (a.put d v).tmps) = Region.wanted o (yielded ops a.tmps) := by
  unfold Region.wanted
  cases hg : o.guard with
  | none => rfl
  | some p =>
    obtain ⟨j, want⟩ := p
    simp only
    cases d with
    | none => rfl
    | some t =>
      have : yielded ops (a.put (some t) v).tmps j = yielded ops a.tmps j := by
        unfold yielded
        simp only [guards, hg, dstOf] at h
        cases hd : (ops[j]?).bind (·.dst) with
        | none => rfl
        | some u =>
          rw [hd] at h
          have hne : u ≠ t := by rintro rfl; simp at h
          simp only [Option.bind_some, Act.put, Array.getElem?_setIfInBounds]
          rw [if_neg (fun e => hne e.symm)]
      rw [this]
theorem put_comm {a : Act} {d e : Option Tmp} {u v : Value} (h : sameDst d e = false) : (a.put d u).put e v = (a.put e v).put d u := by
  cases d with
  | none => rfl
  | some x =>
    cases e with
    | none => rfl
    | some y =>
      have hne : x ≠ y := by rintro rfl; simp [sameDst] at h
      simp only [Act.put]
      congr 1
      exact Array.setIfInBounds_comm u v hne

theorem swap {i j : Nat} {rest : List Nat} {oi oj : Oper} (hi : ops[i]? = some oi) (hj : ops[j]? = some oj) (hap : apartOps ops oi oj = true) (hq : qt oi.op = true ∨ qt oj.op = true) (hzi : i < z) (hzj : j < z)
    {a : Act} {w : World} (hK : K w) (h : wpK P K qt z ops Q (i :: j :: rest) a w) : wpK P K qt z ops Q (j :: i :: rest) a w := by
  simp only [apartOps, Bool.and_eq_true, Bool.not_eq_true'] at hap
  obtain ⟨⟨⟨⟨⟨⟨r1, r2⟩, g1⟩, g2⟩, sd⟩, s1⟩, s2⟩ := hap
  have ei : ∀ (a : Act) v, execOp (a.put oj.dst v).eval oi = execOp a.eval oi := fun a v => execOp_congr oi s1 (eval_put r1)
  have ej : ∀ (a : Act) v, execOp (a.put oi.dst v).eval oj = execOp a.eval oj := fun a v => execOp_congr oj s2 (eval_put r2)
  have wi : ∀ (a : Act) v, Region.wanted oi (yielded ops (a.put oj.dst v).tmps) = Region.wanted oi (yielded ops a.tmps) := fun a v => wanted_put g1
  have wj : ∀ (a : Act) v, Region.wanted oj (yielded ops (a.put oi.dst v).tmps) = Region.wanted oj (yielded ops a.tmps) := fun a v => wanted_put g2
  have pc : ∀ (a : Act) u v, (a.put oi.dst u).put oj.dst v = (a.put oj.dst v).put oi.dst u := fun a u v => put_comm sd
  have zi : Nat.blt i z = true := Nat.ble_eq_true_of_le hzi
  have zj : Nat.blt j z = true := Nat.ble_eq_true_of_le hzj
  simp only [wpK, hi, hj, zi, zj, Bool.and_true] at h ⊢
  by_cases hwi : Region.wanted oi (yielded ops a.tmps) = true
  · rw [if_pos hwi] at h
    by_cases hqi : qt oi.op = true
    · rw [if_pos hqi] at h
      obtain ⟨v, hv, hr⟩ := h
      by_cases hwj : Region.wanted oj (yielded ops a.tmps) = true
      · rw [if_pos hwj]
        rw [if_pos (by rw [wj]; exact hwj)] at hr
        by_cases hqj : qt oj.op = true
        · rw [if_pos hqj] at hr ⊢
          obtain ⟨u, hu, hr⟩ := hr
          refine ⟨u, fun w' hw' => by rw [← ej a v]; exact hu w' hw', ?_⟩
          rw [if_pos (by rw [wi]; exact hwi), if_pos hqi]
          refine ⟨v, fun w' hw' => by rw [ei a u]; exact hv w' hw', ?_⟩
          rw [← pc]; exact hr
        · rw [if_neg hqj] at hr ⊢
          refine (hr.congr (ej a v)).mono ?_
          rintro u w' ⟨hK', hr'⟩
          have hK' := hK'.resolve_left (by omega)
          refine ⟨.inr hK', ?_⟩
          rw [if_pos (by rw [wi]; exact hwi), if_pos hqi]
          refine ⟨v, fun w'' hw'' => ?_, by rw [← pc]; exact hr'⟩
          rw [ei a u]
          rcases hw'' with (x | rfl) | x
          · exact hv w'' (.inl (.inl x))
          · exact hv w'' (.inl (.inl hK'))
          · exact hv w'' (.inr x)
      · rw [if_neg hwj]
        rw [if_neg (by rw [wj]; exact hwj)] at hr
        rw [if_pos (by rw [wi]; exact hwi), if_pos hqi]
        exact ⟨v, fun w' hw' => by rw [ei a undef]; exact hv w' hw', by rw [← pc]; exact hr⟩
    · have hqj : qt oj.op = true := hq.resolve_left hqi
      rw [if_neg hqi] at h
      by_cases hwj : Region.wanted oj (yielded ops a.tmps) = true
      · rw [if_pos hwj, if_pos hqj]
        obtain ⟨v0, w0, hK0, h0⟩ := h.some
        rw [if_pos (by rw [wj]; exact hwj), if_pos hqj] at h0
        obtain ⟨u, hu, _⟩ := h0
        have hK0 := hK0.resolve_left (by omega)
        have hu' : ∀ w', K w' → (execOp a.eval oj).run P w' = .ok (.value u) w' := fun w' hw' => by rw [← ej a v0]; exact hu w' (.inl (.inl hw'))
        refine ⟨u, fun w' hw' => ?_, ?_⟩
        · rcases hw' with (x | rfl) | x
          · exact hu' w' x
          · exact hu' w' hK
          · rw [← ej a v0]; exact hu w' (.inr x)
        · rw [if_pos (by rw [wi]; exact hwi), if_neg hqi]
          refine (h.congr (ei a u).symm).mono ?_
          rintro v w' ⟨hK', hr⟩
          have hK' := hK'.resolve_left (by omega)
          refine ⟨.inr hK', ?_⟩
          rw [if_pos (by rw [wj]; exact hwj), if_pos hqj] at hr
          obtain ⟨u2, hu2, hr⟩ := hr
          have e1 := hu2 w' (.inl (.inl hK'))
          rw [ej a v, hu' w' hK'] at e1
          injection e1 with e1
          injection e1 with e1
          subst e1
          rw [← pc]; exact hr
      · rw [if_neg hwj, if_pos (by rw [wi]; exact hwi), if_neg hqi]
        refine (h.congr (ei a undef).symm).mono ?_
        rintro v w' ⟨hK', hr⟩
        refine ⟨hK', ?_⟩
        rw [if_neg (by rw [wj]; exact hwj)] at hr
        rw [← pc]; exact hr
  · rw [if_neg hwi] at h
    by_cases hwj : Region.wanted oj (yielded ops a.tmps) = true
    · rw [if_pos hwj]
      rw [if_pos (by rw [wj]; exact hwj)] at h
      by_cases hqj : qt oj.op = true
      · rw [if_pos hqj] at h ⊢
        obtain ⟨u, hu, hr⟩ := h
        refine ⟨u, fun w' hw' => by rw [← ej a undef]; exact hu w' hw', ?_⟩
        rw [if_neg (by rw [wi]; exact hwi), ← pc]; exact hr
      · rw [if_neg hqj] at h ⊢
        refine (h.congr (ej a undef)).mono ?_
        rintro u w' ⟨hK', hr⟩
        refine ⟨hK', ?_⟩
        rw [if_neg (by rw [wi]; exact hwi), ← pc]; exact hr
    · rw [if_neg hwj]
      rw [if_neg (by rw [wj]; exact hwj)] at h
      rw [if_neg (by rw [wi]; exact hwi), ← pc]; exact h

/-- What hangs on no world goes behind anything. -/
theorem swap_sp {i j : Nat} {rest : List Nat} {oi oj : Oper} (hi : ops[i]? = some oi) (hj : ops[j]? = some oj) (hap : apartOps ops oi oj = true) (hq : qt oi.op = true) (hsp : spOp oi.op = true) (hzi : i < z)
    {a : Act} {w : World} (h : wpK P K qt z ops Q (i :: j :: rest) a w) : wpK P K qt z ops Q (j :: i :: rest) a w := by
  simp only [apartOps, Bool.and_eq_true, Bool.not_eq_true'] at hap
  obtain ⟨⟨⟨⟨⟨⟨r1, r2⟩, g1⟩, g2⟩, sd⟩, s1⟩, s2⟩ := hap
  have ei : ∀ (a : Act) v, execOp (a.put oj.dst v).eval oi = execOp a.eval oi := fun a v => execOp_congr oi s1 (eval_put r1)
  have ej : ∀ (a : Act) v, execOp (a.put oi.dst v).eval oj = execOp a.eval oj := fun a v => execOp_congr oj s2 (eval_put r2)
  have wi : ∀ (a : Act) v, Region.wanted oi (yielded ops (a.put oj.dst v).tmps) = Region.wanted oi (yielded ops a.tmps) := fun a v => wanted_put g1
  have wj : ∀ (a : Act) v, Region.wanted oj (yielded ops (a.put oi.dst v).tmps) = Region.wanted oj (yielded ops a.tmps) := fun a v => wanted_put g2
  have pc : ∀ (a : Act) u v, (a.put oi.dst u).put oj.dst v = (a.put oj.dst v).put oi.dst u := fun a u v => put_comm sd
  have zi : Nat.blt i z = true := Nat.ble_eq_true_of_le hzi
  simp only [wpK, hi, hj, zi, Bool.and_true, hq, if_true] at h ⊢
  by_cases hwi : Region.wanted oi (yielded ops a.tmps) = true
  · rw [if_pos hwi] at h
    obtain ⟨v, hv, hr⟩ := h
    by_cases hwj : Region.wanted oj (yielded ops a.tmps) = true
    · rw [if_pos hwj]
      rw [if_pos (by rw [wj]; exact hwj)] at hr
      by_cases hqj : (qt oj.op && Nat.blt j z) = true
      · rw [if_pos hqj] at hr ⊢
        obtain ⟨u, hu, hr⟩ := hr
        refine ⟨u, fun w' hw' => by rw [← ej a v]; exact hu w' hw', ?_⟩
        rw [if_pos (by rw [wi]; exact hwi)]
        refine ⟨v, fun w' hw' => by rw [ei a u]; exact hv w' hw', ?_⟩
        rw [← pc]; exact hr
      · rw [if_neg hqj] at hr ⊢
        refine (hr.congr (ej a v)).mono ?_
        rintro u w' ⟨hK', hr'⟩
        refine ⟨hK', ?_⟩
        rw [if_pos (by rw [wi]; exact hwi)]
        exact ⟨v, fun w'' hw'' => by rw [ei a u]; exact hv w'' (.inr hsp), by rw [← pc]; exact hr'⟩
    · rw [if_neg hwj]
      rw [if_neg (by rw [wj]; exact hwj)] at hr
      rw [if_pos (by rw [wi]; exact hwi)]
      exact ⟨v, fun w' hw' => by rw [ei a undef]; exact hv w' hw', by rw [← pc]; exact hr⟩
  · rw [if_neg hwi] at h
    by_cases hwj : Region.wanted oj (yielded ops a.tmps) = true
    · rw [if_pos hwj]
      rw [if_pos (by rw [wj]; exact hwj)] at h
      by_cases hqj : (qt oj.op && Nat.blt j z) = true
      · rw [if_pos hqj] at h ⊢
        obtain ⟨u, hu, hr⟩ := h
        refine ⟨u, fun w' hw' => by rw [← ej a undef]; exact hu w' hw', ?_⟩
        rw [if_neg (by rw [wi]; exact hwi), ← pc]; exact hr
      · rw [if_neg hqj] at h ⊢
        refine (h.congr (ej a undef)).mono ?_
        rintro u w' ⟨hK', hr⟩
        refine ⟨hK', ?_⟩
        rw [if_neg (by rw [wi]; exact hwi), ← pc]; exact hr
    · rw [if_neg hwj]
      rw [if_neg (by rw [wj]; exact hwj)] at h
      rw [if_neg (by rw [wi]; exact hwi), ← pc]; exact h
theorem wpK_any {i : Nat} {r r' : List Nat} (hr : ∀ a w, wpK P K qt z ops Q r a w → wpK P K qt z ops Q r' a w) {a : Act} {w : World}
    (h : wpK P K qt z ops Q (i :: r) a w) : wpK P K qt z ops Q (i :: r') a w := by
  simp only [wpK] at h ⊢
  cases ho : ops[i]? with
  | none => rw [ho] at h; exact hr a w h
  | some o =>
    simp only [ho] at h ⊢
    by_cases hw : Region.wanted o (yielded ops a.tmps) = true
    · rw [if_pos hw] at h ⊢
      by_cases hq : (qt o.op && Nat.blt i z) = true
      · rw [if_pos hq] at h ⊢
        obtain ⟨v, hv, h⟩ := h
        exact ⟨v, hv, hr _ _ h⟩
      · rw [if_neg hq] at h ⊢
        exact h.mono fun v w' ⟨hK', h⟩ => ⟨hK', hr _ _ h⟩
    · rw [if_neg hw] at h ⊢
      exact hr _ _ h
theorem wpK_under {i : Nat} (hiz : i < z) {r r' : List Nat} (hr : ∀ a w, K w → wpK P K qt z ops Q r a w → wpK P K qt z ops Q r' a w) {a : Act} {w : World} (hK : K w)
    (h : wpK P K qt z ops Q (i :: r) a w) : wpK P K qt z ops Q (i :: r') a w := by
  simp only [wpK] at h ⊢
  cases ho : ops[i]? with
  | none => rw [ho] at h; exact hr a w hK h
  | some o =>
    simp only [ho] at h ⊢
    by_cases hw : Region.wanted o (yielded ops a.tmps) = true
    · rw [if_pos hw] at h ⊢
      by_cases hq : (qt o.op && Nat.blt i z) = true
      · rw [if_pos hq] at h ⊢
        obtain ⟨v, hv, h⟩ := h
        exact ⟨v, hv, hr _ _ hK h⟩
      · rw [if_neg hq] at h ⊢
        exact h.mono fun v w' ⟨hK', h⟩ => ⟨hK', hr _ _ (hK'.resolve_left (by omega)) h⟩
    · rw [if_neg hw] at h ⊢
      exact hr _ _ hK h

/-- m may go behind x. -/
def mayPass (qt : Op → Bool) (z : Nat) (ops : Array Oper) (m x : Nat) : Bool :=
  match ops[m]?, ops[x]? with
  | some om, some ox => apartOps ops om ox && Nat.blt m z && ((Nat.blt x z && (qt om.op || qt ox.op)) || (qt om.op && spOp om.op))
  | _, _ => false
def spAt (qt : Op → Bool) (ops : Array Oper) (m : Nat) : Bool := match ops[m]? with
  | some o => qt o.op && spOp o.op
  | none => false
theorem wpK_behind_sp {m : Nat} (hs : spAt qt ops m = true) : ∀ (l1 l2 : List Nat), (∀ x ∈ l1, mayPass qt z ops m x = true) → ∀ {a : Act} {w : World}, wpK P K qt z ops Q (m :: (l1 ++ l2)) a w → wpK P K qt z ops Q (l1 ++ m :: l2) a w
  | [], l2, _, a, w, h => h
  | x :: l1, l2, hx, a, w, h => by
    have hp := hx x (by simp)
    unfold mayPass at hp
    unfold spAt at hs
    cases hm : ops[m]? with
    | none => simp [hm] at hp
    | some om =>
      cases hox : ops[x]? with
      | none => simp [hm, hox] at hp
      | some ox =>
        simp only [hm, Bool.and_eq_true] at hs
        simp only [hm, hox, Bool.and_eq_true] at hp
        have h' := swap_sp hm hox hp.1.1 hs.1 hs.2 (Nat.le_of_ble_eq_true hp.1.2) h
        exact wpK_any (fun a w h => wpK_behind_sp (by unfold spAt; rw [hm]; simp [hs.1, hs.2]) l1 l2 (fun y hy => hx y (by simp [hy])) h) h'
theorem wpK_behind {m : Nat} (hs : spAt qt ops m = false) : ∀ (l1 l2 : List Nat), (∀ x ∈ l1, mayPass qt z ops m x = true) → ∀ {a : Act} {w : World}, K w → wpK P K qt z ops Q (m :: (l1 ++ l2)) a w → wpK P K qt z ops Q (l1 ++ m :: l2) a w
  | [], l2, _, a, w, _, h => h
  | x :: l1, l2, hx, a, w, hK, h => by
    have hp := hx x (by simp)
    unfold mayPass at hp
    cases hm : ops[m]? with
    | none => simp [hm] at hp
    | some om =>
      cases hox : ops[x]? with
      | none => simp [hm, hox] at hp
      | some ox =>
        have hs' := hs
        unfold spAt at hs'
        rw [hm] at hs'
        simp only at hs'
        simp only [hm, hox, hs', Bool.or_false, Bool.and_eq_true, Bool.or_eq_true] at hp
        have hmz : m < z := Nat.le_of_ble_eq_true hp.1.2
        have hxz : x < z := Nat.le_of_ble_eq_true hp.2.1
        have h' := swap hm hox hp.1.1 hp.2.2 hmz hxz hK h
        exact wpK_under hxz (fun a w hK h => wpK_behind hs l1 l2 (fun y hy => hx y (by simp [hy])) hK h) hK h'

/-- The edges that bind in whichever way. -/
def aft (o : Oper) : List Edge := o.after.toList.filter fun e => Region.binds .any e
/-- A list in which whoever must be first is first. -/
def Ordered (ops : Array Oper) (l : List Nat) : Prop := ∀ l1 m l2, l = l1 ++ m :: l2 → ∀ x ∈ l1, ∀ o, ops[x]? = some o → ∀ e ∈ aft o, e.on ≠ m
theorem Ordered.strike {l1 l2 : List Nat} {m : Nat} (h : Ordered ops (l1 ++ m :: l2)) : Ordered ops (l1 ++ l2) := by
  intro k1 y k2 e x hx o ho ed hed
  -- the same two elements stand in the longer list
  have : ∃ p1 p2, l1 ++ m :: l2 = p1 ++ y :: p2 ∧ x ∈ p1 := by
    rcases List.append_eq_append_iff.1 e with ⟨c, hc1, hc2⟩ | ⟨c, hc1, hc2⟩
    · exact ⟨l1 ++ m :: c, k2, by rw [hc2]; simp, by rw [hc1] at hx; rcases List.mem_append.1 hx with h1 | h1 <;> simp [h1]⟩
    · cases c with
      | nil =>
        simp only [List.nil_append] at hc2
        simp only [List.append_nil] at hc1
        exact ⟨l1 ++ [m], k2, by rw [← hc2]; simp, by rw [hc1]; simp [hx]⟩
      | cons z c =>
        simp only [List.cons_append, List.cons.injEq] at hc2
        obtain ⟨rfl, hc2⟩ := hc2
        exact ⟨k1, c ++ m :: l2, by rw [hc1]; simp, hx⟩
  obtain ⟨p1, p2, e', hx'⟩ := this
  exact h p1 y p2 e' x hx' o ho ed hed

/-- Does x wait for m, over others? -/
def waits (ops : Array Oper) : Nat → Nat → Nat → Bool
  | 0, _, _ => false
  | k + 1, x, m => match ops[x]? with
    | some o => (aft o).any fun e => Nat.blt e.on x && (Nat.beq e.on m || (Nat.blt m e.on && waits ops k e.on m))
    | none => false
theorem not_waits {l : List Nat} (ho : Ordered ops l) {l1 l2 : List Nat} {m : Nat} (e : l = l1 ++ m :: l2) : ∀ (k x : Nat), (∀ y, m < y → y < x → y ∈ l) → x ∈ l1 → waits ops k x m = false
  | 0, _, _, _ => rfl
  | k + 1, x, hall, hx => by
    cases hw : waits ops (k + 1) x m with
    | false => rfl
    | true =>
      exfalso
      simp only [waits] at hw
      cases hox : ops[x]? with
      | none => simp [hox] at hw
      | some o =>
        simp only [hox] at hw
        obtain ⟨ed, hed, h1⟩ := List.any_eq_true.1 hw
        simp only [Bool.and_eq_true, Bool.or_eq_true] at h1
        obtain ⟨hlt, h2⟩ := h1
        have hlt : ed.on < x := Nat.le_of_ble_eq_true hlt
        rcases h2 with h2 | ⟨h2, h3⟩
        · exact ho l1 m l2 e x hx o hox ed hed (Nat.eq_of_beq_eq_true h2)
        · have hml : m < ed.on := Nat.le_of_ble_eq_true h2
          have hin := hall ed.on hml hlt
          by_cases hc : ed.on ∈ l1
          · have := not_waits ho e k ed.on (fun y hy1 hy2 => hall y hy1 (by omega)) hc
            rw [this] at h3
            cases h3
          · -- it stands behind m, and so behind x
            rw [e] at hin
            have hin2 : ed.on ∈ l2 := by
              rcases List.mem_append.1 hin with h | h
              · exact absurd h hc
              · rcases List.mem_cons.1 h with h | h
                · omega
                · exact h
            obtain ⟨p1, p2, rfl⟩ := List.append_of_mem hin2
            exact ho (l1 ++ m :: p1) ed.on p2 (by rw [e]; simp) x (by simp [hx]) o hox ed hed rfl
/-- Where each waits for those before it, there is one order. -/
theorem tail_eq : ∀ (s l : List Nat), s.Perm l → Ordered ops l → s.Pairwise (· < ·) → (∀ m ∈ s, ∀ x ∈ s, ∀ y, m < y → y < x → y ∈ s) →
    s.Pairwise (fun m x => waits ops ops.size x m = true) → s = l
  | [], l, hp, _, _, _, _ => (List.Perm.eq_nil hp.symm).symm
  | m :: s, l, hp, ho, hlt, hcl, hs => by
    have hlt' := List.pairwise_cons.1 hlt
    have hs' := List.pairwise_cons.1 hs
    obtain ⟨l1, l2, rfl⟩ := List.append_of_mem (hp.subset (List.mem_cons_self))
    have hp' : s.Perm (l1 ++ l2) := (List.perm_cons m).1 (hp.trans List.perm_middle)
    have hcl' : ∀ p ∈ s, ∀ x ∈ s, ∀ y, p < y → y < x → y ∈ s := by
      intro p hpm x hx y h1 h2
      rcases List.mem_cons.1 (hcl p (List.mem_cons_of_mem _ hpm) x (List.mem_cons_of_mem _ hx) y h1 h2) with h | h
      · have := hlt'.1 p hpm
        omega
      · exact h
    have hn : l1 = [] := by
      cases l1 with
      | nil => rfl
      | cons x r =>
        have hxs : x ∈ s := hp'.symm.subset (by simp)
        have := not_waits ho rfl ops.size x (fun y h1 h2 => hp.subset (hcl m (List.mem_cons_self) x (List.mem_cons_of_mem _ hxs) y h1 h2)) (by simp)
        rw [hs'.1 x hxs] at this
        cases this
    subst hn
    rw [tail_eq s l2 hp' ho.strike hlt'.2 hcl' hs'.2]
    rfl
theorem wpK_sorted : ∀ (s l : List Nat), s.Perm l → Ordered ops l → s.Pairwise (· < ·) → (∀ m ∈ s, ∀ x ∈ s, ∀ y, m < y → y < x → y ∈ s) →
    s.Pairwise (fun m x => waits ops ops.size x m = true ∨ mayPass qt z ops m x = true) →
    ∀ {a : Act} {w : World}, K w → wpK P K qt z ops Q s a w → wpK P K qt z ops Q l a w
  | [], l, hp, _, _, _, _, a, w, _, h => by rw [List.Perm.eq_nil hp.symm]; exact h
  | m :: s, l, hp, ho, hlt, hcl, hs, a, w, hK, h => by
    by_cases hmz : m < z
    · have hlt' := List.pairwise_cons.1 hlt
      obtain ⟨l1, l2, rfl⟩ := List.append_of_mem (hp.subset (List.mem_cons_self))
      have hp' : s.Perm (l1 ++ l2) := (List.perm_cons m).1 (hp.trans List.perm_middle)
      have hs' := List.pairwise_cons.1 hs
      have hcl' : ∀ p ∈ s, ∀ x ∈ s, ∀ y, p < y → y < x → y ∈ s := by
        intro p hpm x hx y h1 h2
        rcases List.mem_cons.1 (hcl p (List.mem_cons_of_mem _ hpm) x (List.mem_cons_of_mem _ hx) y h1 h2) with h | h
        · have := hlt'.1 p hpm
          omega
        · exact h
      have h1 : wpK P K qt z ops Q (m :: (l1 ++ l2)) a w :=
        wpK_under hmz (fun a w hK h => wpK_sorted s (l1 ++ l2) hp' ho.strike hlt'.2 hcl' hs'.2 hK h) hK h
      have hmay : ∀ x ∈ l1, mayPass qt z ops m x = true := ?_
      · cases hsp : spAt qt ops m with
        | true => exact wpK_behind_sp hsp l1 l2 hmay h1
        | false => exact wpK_behind hsp l1 l2 hmay hK h1
      intro x hx
      have hxs : x ∈ s := hp'.symm.subset (List.mem_append_left _ hx)
      rcases hs'.1 x hxs with hwt | hmp
      · have := not_waits ho rfl ops.size x (fun y h1 h2 => hp.subset (hcl m (List.mem_cons_self) x (List.mem_cons_of_mem _ hxs) y h1 h2)) hx
        rw [this] at hwt
        cases hwt
      · exact hmp
    · have hall : ∀ x ∈ m :: s, z ≤ x := by
        intro x hx
        rcases List.mem_cons.1 hx with h | h
        · omega
        · have := (List.pairwise_cons.1 hlt).1 x h
          omega
      have hw : (m :: s).Pairwise (fun m x => waits ops ops.size x m = true) := by
        refine hs.imp_of_mem fun {p x} hp hx h => ?_
        rcases h with h | h
        · exact h
        · unfold mayPass at h
          have := hall p hp
          split at h
          · simp only [Bool.and_eq_true] at h
            have := Nat.le_of_ble_eq_true h.1.2
            omega
          · cases h
      rw [← tail_eq (m :: s) l hp ho hlt hcl hw]
      exact h
end
end Go.Gv
