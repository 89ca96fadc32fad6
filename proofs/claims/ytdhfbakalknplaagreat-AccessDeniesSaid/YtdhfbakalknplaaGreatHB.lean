/- Plain laws: what the plain functions answer. Conditions: none. -/
import Derived.Test.YtdhfbakalknplaaGreatHA
set_option maxRecDepth 100000
namespace Go.Proofs.YtdhfbakalknplaaGreat
open Go.Gv
theorem RB.any {α : Type} {m : Option α} : RB False m (fun r => m = some r) := ⟨fun h => h.elim, fun _ h => h⟩
theorem RB.no {α : Type} {m : Option α} : RB False m TT := ⟨fun h => h.elim, fun _ _ => trivial⟩
theorem rb_and {α : Type} {b : Prop} {m : Option α} {Q Q' : α → Prop} (h : RB b m Q) (h' : RB False m Q') : RB b m (fun r => Q r ∧ Q' r) := ⟨h.is, fun r e => ⟨h.so r e, h'.so r e⟩⟩
theorem yby {α β : Type} {k : Nat} {xs ys : List β} {f : List β → Option α} {Q : α → Prop} (h : RB False (f (xs ++ ys)) Q) : RB False ((app k xs ys).bind f) Q := yg RB.any fun l hl => by rw [(app_some hl).2]; exact h
theorem take_all {α : Type} {P : α → Prop} {xs : List α} {j : Nat} {x : α} (h : xs[j]? = some x) (g : ∀ y ∈ xs.take j, P y) (hp : P x) : ∀ y ∈ xs.take (j + 1), P y := by
  rw [take_next h]
  intro y hy
  rcases List.mem_append.1 hy with hy | hy
  · exact g y hy
  · simp only [List.mem_cons, List.not_mem_nil, or_false] at hy
    subst hy
    exact hp
structure SE (s : qS) : Prop where
  wh : Es s.Where
  rows : s.Rows.length ≤ 12
  sets : s.Sets.length ≤ 12
  ord : s.Order.length ≤ 12
  re : ∀ x ∈ s.Rows, x.length ≤ 12 ∧ ∀ y ∈ x, Es y
  se : ∀ x ∈ s.Sets, Es x.E
  oe : ∀ x ∈ s.Order, Es x.E
theorem sfe_fu : ∀ (n : Nat) (s : qS), RB False (r12_Few_fu n s) (fun r => r = true → SE s)
  | 0, s => ybi fun h => h
  | n + 1, s => by
    unfold r12_Few_fu
    refine ya9 (ya9 (ya9 (yg (R := fun (q : Bool) => q = false → s.Rows.length ≤ 12 ∧ s.Sets.length ≤ 12 ∧ s.Order.length ≤ 12 ∧ Es s.Where) (yk (fun _ => yd fun h => by cases h) fun hc => yg (efew_rb _) fun r hr => yd fun hq => ?_) fun q hq => yk (fun _ => yd fun h => by cases h) fun hc => ?_)))
    · simp only [Bool.or_eq_false_iff, decide_eq_false_iff_not] at hc
      exact ⟨by omega, by omega, by omega, hr (by simpa using hq)⟩
    obtain ⟨h1, h2, h3, h4⟩ := hq hc
    refine yby (yg RB.no fun l0 _ => yg (forN_q (Q := fun q => q = false) fun j l hj => ?_) ?_)
    · exact yak hj fun x _ _ => ya9 (yg RB.no fun q _ => yk (fun _ => yd rfl) fun _ => yby (yby (yby (yd trivial))))
    rintro (l1 | _) g
    rotate_left
    · exact yd fun h => by subst h; cases g
    refine yg (forN_ret (fun j _ => ∀ x ∈ s.Rows.take j, x.length ≤ 12 ∧ ∀ y ∈ x, Es y) (Q := fun r => r = false) (by simp) ?_) ?_
    · intro j _ hj g
      refine yak hj fun x hx _ => yk (fun _ => yd rfl) fun hc => ?_
      have hl : x.length ≤ 12 := by simp only [decide_eq_false_iff_not] at hc; omega
      have hr : ∀ {α : Type} {f : List qE → Option α} {Q : α → Prop}, RB False (f x) Q → RB False ((idx s.Rows (j : Int)).bind f) Q := fun hf => by rw [idx_nat, hx]; exact hf
      refine yg (loopO_rb (fun (i : Int) => ∃ k : Nat, i = (k : Int) ∧ k ≤ x.length ∧ ∀ y ∈ x.take k, Es y) (fun i => x.length - i.toNat) (Q := fun r => match r with | .inl q => q = false | .inr _ => ∀ y ∈ x, Es y) ?_ ⟨0, rfl, by omega, by simp⟩) ?_
      · rintro _ ⟨k, rfl, hk, gk⟩
        refine hr (yk (fun hc => hr ?_) (fun hc => yd ?_))
        · have hlt : k < x.length := by simpa using hc
          have ew : w64 ((k : Int) + 1) = ((k + 1 : Nat) : Int) := by rw [w64_id om om]; rfl
          exact yak hlt fun y hy _ => yg (efew_rb _) fun r hr => yk (fun _ => yd rfl) fun hc2 => yd ⟨⟨k + 1, ew, by omega, take_all hy gk (hr (by simpa using hc2))⟩, by rw [ew]; omega⟩
        · have : k = x.length := by simp at hc; omega
          subst this
          rw [List.take_length] at gk
          exact gk
      · rintro (_ | _) g2
        · exact yd g2
        · exact yd (take_all hx g ⟨hl, g2⟩)
    rintro (_ | _) g5
    rotate_left
    · exact yd fun h => by subst h; cases g5
    refine yg (forN_ret (fun j _ => ∀ x ∈ s.Sets.take j, Es x.E) (Q := fun r => r = false) (by simp) ?_) ?_
    · intro j _ hj g
      refine yak hj fun x hx _ => yby (yak hj fun y hy _ => ?_)
      rw [hx] at hy
      obtain rfl := Option.some.inj hy
      exact yg (efew_rb _) fun r hr => yk (fun _ => yd rfl) fun hc2 => yd (take_all hx g (hr (by simpa using hc2)))
    rintro (_ | _) g6
    rotate_left
    · exact yd fun h => by subst h; cases g6
    refine yg (forN_ret (fun j _ => ∀ x ∈ s.Order.take j, Es x.E) (Q := fun r => r = false) (by simp) ?_) ?_
    · intro j _ hj g
      exact yak hj fun x hx _ => yg (efew_rb _) fun r hr => yk (fun _ => yd rfl) fun hc2 => yd (take_all hx g (hr (by simpa using hc2)))
    rintro (_ | _) g7
    rotate_left
    · exact yd fun h => by subst h; cases g7
    rw [List.take_length] at g5 g6 g7
    exact RB.mono (Q := TT) RB.no (fun _ _ _ => ⟨h4, h1, h2, h3, g5, g6, g7⟩)
theorem sfe_rb (s : qS) : RB False (r12_Few s) (fun r => r = true → SE s) := by
  unfold r12_Few
  refine ⟨fun h => h.elim, fun r hr => ?_⟩
  obtain ⟨n, hn⟩ := anyFuel_some hr
  exact (sfe_fu n s).so r hn
mutual
def hcl (e : qE) : Bool := match e with | ⟨k, _, _, _, ks⟩ => k == 2 || hclL ks
def hclL (l : List qE) : Bool := match l with | [] => false | x :: xs => hcl x || hclL xs
end
theorem hcl_eq (e : qE) : hcl e = (e.Kind == 2 || hclL e.Kids) := by cases e; rw [hcl]
theorem hclL_app : ∀ a c : List qE, hclL (a ++ c) = (hclL a || hclL c)
  | [], c => by simp [hclL]
  | x :: xs, c => by rw [List.cons_append, hclL, hclL, hclL_app xs c, Bool.or_assoc]
theorem hclL_next {xs : List qE} {j : Nat} {x : qE} (h : xs[j]? = some x) : hclL (xs.take (j + 1)) = (hclL (xs.take j) || hcl x) := by
  rw [take_next h, hclL_app, hclL, hclL, Bool.or_false]
theorem partsK_fu : ∀ (n : Nat) (e : qE), RB False (r10_Parts_fu n e) (fun l => (l.any fun x => x.Kind == 2) = hcl e)
  | 0, e => ybi fun h => h
  | n + 1, e => by
    unfold r10_Parts_fu
    refine yg (forE_ret (fun j (s : List qE) => (s.any fun x => x.Kind == 2) = (e.Kind == 2 || hclL (e.Kids.take j))) (by simp [hclL]) ?_) ?_
    · intro j s hj g
      refine yak hj fun x hx hm => yg (partsK_fu n x) fun r hr => yby (yd ?_)
      show ((s ++ r).any fun x => x.Kind == 2) = _
      rw [List.any_append, g, hr, hclL_next hx, Bool.or_assoc]
    · intro s g
      rw [List.take_length] at g
      exact yd (by rw [hcl_eq]; exact g)
theorem rnames_val {e : qE} (hz : esz e ≤ 1000) : r20_names e = some (hcl e) := by
  have hp : RB False (r10_Names e) (fun l => decide (0 < l.length) = hcl e) := by
    unfold r10_Names
    have h0 : RB False (r10_Parts e) (fun l => (l.any fun x => x.Kind == 2) = hcl e) := by
      unfold r10_Parts
      refine ⟨fun h => h.elim, fun r hr => ?_⟩
      obtain ⟨n, hn⟩ := anyFuel_some hr
      exact (partsK_fu n e).so r hn
    refine yg h0 fun l hl => yg (forE_ret (fun j (s : List By8) => decide (0 < s.length) = ((l.take j).any fun x => x.Kind == 2)) (by simp) ?_) fun s hs => yd ?_
    · intro j s hj g
      refine yak hj fun x hx hm => ?_
      have e1 : ((l.take (j + 1)).any fun x => x.Kind == 2) = (decide (0 < s.length) || x.Kind == 2) := by
        rw [take_next hx, List.any_append, g]
        simp
      refine yg (forE_ret (fun i (c : Bool) => (c = false → (x.Kind != 2) = false) ∧ (i = 0 → c = (x.Kind != 2))) ⟨fun h => h, fun _ => rfl⟩ ?_) ?_
      · rintro i c hi ⟨g1, g2⟩
        refine yg (R := fun (q : Bool) => q = false → c = false) (yk (fun hc => yd fun h => by cases h) fun hc => ?_) fun q hq => yd ⟨fun h => g1 (hq h), fun h => by omega⟩
        exact RB.mono (Q := TT) RB.no fun _ _ _ => hc
      · rintro c ⟨g1, g2⟩
        refine yg (R := fun (t : List By8) => decide (0 < t.length) = (decide (0 < s.length) || x.Kind == 2)) (yk (fun hc => yak hj fun y hy _ => yby (yd ?_)) fun hc => yd ?_) fun t ht => yd (by rw [e1]; exact ht)
        · have := g1 (by simpa using hc)
          have hk : (x.Kind == 2) = true := by simpa using this
          rw [hk]
          simp
        · have hc : c = true := by simpa using hc
          by_cases h : s.length = 0
          · have := g2 h
            rw [hc] at this
            have hk : (x.Kind == 2) = false := by simpa using this.symm
            rw [hk, Bool.or_false]
          · have : decide (0 < s.length) = true := by simp; omega
            rw [this, Bool.true_or]
    · rw [List.take_length] at hs
      rw [hs, hl]
  unfold r20_names
  refine Ret.eq (yg (rb_and (enames_rb hz) hp) fun l hl => yd ?_)
  rw [← hl.2]
  simp
theorem nmS_rb {b : Prop} {s : List By8} {e : qE} (hs : s.length ≤ 2000) : RB b (nmS s e) (fun r => r.1 = true ∧ r.2.length ≤ s.length + 1 ∧ decide (0 < r.2.length) = (decide (0 < s.length) || e.Kind == 2)) := by
  unfold nmS
  refine yg (R := fun (q : Bool) => if q then e.Kind = 2 else e.Kind = 2 → e.Name ∈ s) ?_ fun j hj => yg (R := fun (t : List By8) => t.length ≤ s.length + 1 ∧ decide (0 < t.length) = (decide (0 < s.length) || e.Kind == 2)) ?_ fun t ht => yd ⟨rfl, ht⟩
  · refine yk (fun hk => ?_) (fun hk => yd ?_)
    · obtain ⟨c, hc, hi⟩ := contains_eq s e.Name
      rw [hc]
      refine ya9 (yd ?_)
      cases c with
      | true => exact fun _ => hi.1 rfl
      | false => simpa using hk
    · intro h
      rw [h] at hk
      cases hk
  · refine yk (fun h => ?_) (fun h => yd ?_)
    · subst h
      refine ya3 (by simp only [List.length_cons, List.length_nil]; omega) (yd ⟨by simp, ?_⟩)
      have hj : e.Kind = 2 := hj
      simp [hj]
    · subst h
      have hj : e.Kind = 2 → e.Name ∈ s := hj
      refine ⟨by omega, ?_⟩
      by_cases hk : e.Kind = 2
      · have := List.length_pos_of_mem (hj hk)
        simp [this]
      · have : (e.Kind == 2) = false := by simpa using hk
        rw [this, Bool.or_false]
theorem each_rb {b : Prop} : ∀ (n : Nat) (e : qE) (s : List By8), (b → esz e ≤ n) → s.length + esz e ≤ 2000 → RB b (eachS_fu n e s nmS) (fun r => r.1 = true ∧ r.2.length ≤ s.length + esz e ∧ decide (0 < r.2.length) = (decide (0 < s.length) || hcl e))
  | 0, e, s, h, _ => ybi fun hb => by have := h hb; have := esz_pos e; omega
  | n + 1, e, s, h, hl => by
    unfold eachS_fu
    refine yg (nmS_rb om) ?_
    rintro ⟨c, s1⟩ ⟨rfl, h1, h2⟩
    simp only at h1 h2
    have hz := esz_eq e
    simp only [Bool.not_true, cond_false]
    refine yg (forN_ret (fun j (t : List By8) => t.length ≤ s.length + 1 + eszL (e.Kids.take j) ∧ decide (0 < t.length) = ((decide (0 < s.length) || e.Kind == 2) || hclL (e.Kids.take j))) (Q := fun _ => False) ⟨by simpa [eszL] using h1, by simpa [hclL] using h2⟩ ?_) ?_
    · rintro j t hj ⟨g1, g2⟩
      refine yak hj fun x hx hm => ?_
      have hx1 := kid_sz hm
      have hle : eszL (e.Kids.take (j + 1)) ≤ eszL e.Kids := by
        have := eszL_app (e.Kids.take (j + 1)) (e.Kids.drop (j + 1))
        rw [List.take_append_drop] at this
        omega
      rw [eszL_next hx] at hle
      refine yg (each_rb n x t (fun hb => by have := h hb; omega) om) ?_
      rintro ⟨c, t'⟩ ⟨rfl, k1, k2⟩
      simp only at k1 k2
      refine yd ⟨by rw [eszL_next hx]; show t'.length ≤ _; omega, ?_⟩
      show decide (0 < t'.length) = _
      rw [k2, g2, hclL_next hx, Bool.or_assoc]
    · rintro (t | _) g
      · obtain ⟨g1, g2⟩ := g
        rw [List.take_length] at g1 g2
        refine yd ⟨rfl, by show t.length ≤ _; omega, ?_⟩
        show decide (0 < t.length) = _
        rw [g2, hcl_eq, Bool.or_assoc]
      · exact g.elim
theorem names_val {e : qE} (hz : esz e ≤ 1000) : access_names e = some (hcl e) := by
  unfold access_names expr_Names
  refine Ret.eq (yg (R := fun (l : List By8) => decide (0 < l.length) = hcl e) (yg (fuel_tt (esz e) fun n => each_rb n e [] (fun h => h) (by simp; omega)) ?_) fun l hl => yd (by rw [← hl]; simp))
  rintro ⟨c, l⟩ ⟨_, _, h⟩
  refine yd ?_
  simpa using h
theorem anyF {α : Type} {F : List α → (α → Option Bool) → Option Int} {l : List α} {p : α → Option Bool} {q : α → Bool} (hF : F l p = (forN (fun (i4 : Nat) (_s : Unit) => (idx l (i4 : Int)).bind (fun x11 => (p x11).bind (fun (r17 : Bool) => (bif r17 then some (.inr (i4 : Int)) else some (.inl ()))))) l.length 0 ()).bind (fun (t : Unit ⊕ (Int)) => match t with | .inl _ => some (-1) | .inr s19 => some s19))
    (hp : ∀ x ∈ l, p x = some (q x)) : (F l p).bind (fun r6 => some (decide (r6 ≥ 0))) = some (l.any q) := by
  rw [hF, forN_find q (fun j => (j : Int)) (fun j x hx => by simp only [idx_nat, hx, obs, hp x (List.mem_of_getElem? hx)]; cases q x <;> rfl)]
  cases h : l.findIdx? q with
  | none =>
    rw [List.findIdx?_eq_none_iff] at h
    have : l.any q = false := by
      rw [List.any_eq_false]
      intro x hx
      simp [h x hx]
    rw [this]
    rfl
  | some j =>
    have : l.any q = true := by
      rw [List.findIdx?_eq_some_iff_getElem] at h
      obtain ⟨hj, h1, _⟩ := h
      exact List.any_eq_true.2 ⟨_, List.getElem_mem hj, h1⟩
    rw [this]
    simp
def rdB (s : qS) : Bool := ((hcl s.Where || s.Sets.any fun x => hcl x.E) || s.Order.any fun x => hcl x.E) || (s.Kind != 16 && s.Kind != 21) && s.Rows.any fun r => r.any hcl
theorem reads_val {s : qS} (h : SE s) : access_Reads s = some (rdB s) := by
  unfold access_Reads slices_ContainsFunc_qSet slices_ContainsFunc_qO slices_ContainsFunc_qE_l
  rw [names_val (by have := h.wh.1; omega), anyF (F := slices_IndexFunc_qSet) (q := fun x => hcl x.E) rfl (fun x hx => by unfold access_Reads_1; rw [names_val (by have := (h.se x hx).1; omega)]; rfl), anyF (F := slices_IndexFunc_qO) (q := fun x => hcl x.E) rfl (fun x hx => by unfold access_Reads_2; rw [names_val (by have := (h.oe x hx).1; omega)]; rfl),
    anyF (F := slices_IndexFunc_qE_l) (q := fun r => r.any hcl) rfl (fun x hx => by unfold access_Reads_3 slices_ContainsFunc_qE; rw [anyF (F := slices_IndexFunc_qE) (q := hcl) rfl (fun y hy => names_val (by have := ((h.re x hx).2 y hy).1; omega))]; rfl)]
  unfold rdB
  simp only [obs]
  cases hcl s.Where <;> cases (s.Sets.any fun x => hcl x.E) <;> cases (s.Order.any fun x => hcl x.E) <;> cases hk1 : (s.Kind == 16) <;> cases hk2 : (s.Kind == 21) <;> simp [bne, hk1, hk2]
theorem foldl_or {α : Type} (q : α → Bool) : ∀ (l : List α) (c : Bool), l.foldl (fun c x => c || q x) c = (c || l.any q)
  | [], c => by simp
  | x :: xs, c => by rw [List.foldl_cons, foldl_or q xs, List.any_cons, Bool.or_assoc]
theorem any_next {α : Type} {q : α → Bool} {xs : List α} {j : Nat} {x : α} (h : xs[j]? = some x) : (xs.take (j + 1)).any q = ((xs.take j).any q || q x) := by
  rw [take_next h, List.any_append]
  simp
theorem rreads_val {s : qS} (h : SE s) : r20_Reads s = some (rdB s) := by
  unfold r20_Reads
  rw [rnames_val (by have := h.wh.1; omega)]
  simp only [obs]
  rw [forE_list (fun c (x : qSet) => c || hcl x.E) (fun j x c hx => by rw [idx_nat, hx]; simp only [obs, rnames_val (show esz x.E ≤ 1000 by have := (h.se x (List.mem_of_getElem? hx)).1; omega)]; cases c <;> rfl), foldl_or (fun (x : qSet) => hcl x.E)]
  simp only [obs]
  rw [forE_list (fun c (x : qO) => c || hcl x.E) (fun j x c hx => by rw [idx_nat, hx]; simp only [obs, rnames_val (show esz x.E ≤ 1000 by have := (h.oe x (List.mem_of_getElem? hx)).1; omega)]; cases c <;> rfl), foldl_or (fun (x : qO) => hcl x.E)]
  simp only [obs]
  refine Ret.eq (yg (loopO_rb (fun (u : Bool × Int) => ∃ i : Nat, u.2 = (i : Int) ∧ i ≤ s.Rows.length ∧ (i = 0 ∨ (s.Kind != 16 && s.Kind != 21) = true) ∧ u.1 = (((hcl s.Where || s.Sets.any fun x => hcl x.E) || s.Order.any fun x => hcl x.E) || (s.Kind != 16 && s.Kind != 21) && (s.Rows.take i).any fun r => r.any hcl)) (fun u => s.Rows.length - u.2.toNat) (Q := fun c => c = rdB s) ?_ ⟨0, rfl, by omega, .inl rfl, by simp⟩) fun c hc => yd hc)
  rintro ⟨c, _⟩ ⟨i, rfl, hi, hk, hc⟩
  simp only at hc
  have hrl := h.rows
  refine ya9 (yk (fun hq => ?_) (fun hq => yd ?_))
  · simp only [Bool.and_eq_true, decide_eq_true_eq] at hq
    obtain ⟨⟨h1, h2⟩, h3⟩ := hq
    have hlt : i < s.Rows.length := by omega
    obtain ⟨x, hx, hm⟩ : ∃ x, s.Rows[i]? = some x ∧ x ∈ s.Rows := ⟨_, gE hlt, List.getElem_mem hlt⟩
    have hr : ∀ {α : Type} {f : List qE → Option α} {Q : α → Prop}, RB True (f x) Q → RB True ((idx s.Rows (i : Int)).bind f) Q := fun hf => by rw [idx_nat, hx]; exact hf
    have hxl := (h.re x hm).1
    have ew : w64 ((i : Int) + 1) = ((i + 1 : Nat) : Int) := by rw [w64_id om om]; rfl
    refine yg (loopO_rb (fun (u : Bool × Int) => ∃ k : Nat, u.2 = (k : Int) ∧ k ≤ x.length ∧ u.1 = (c || (x.take k).any hcl)) (fun u => x.length - u.2.toNat) (Q := fun c' => c' = (c || x.any hcl)) ?_ ⟨0, rfl, by omega, by simp⟩) ?_
    · rintro ⟨c', _⟩ ⟨k, rfl, hk', hc'⟩
      simp only at hc'
      refine hr (yk (fun hq2 => ?_) (fun hq2 => yd ?_))
      · have hlt2 : k < x.length := by simpa using hq2
        have ew2 : w64 ((k : Int) + 1) = ((k + 1 : Nat) : Int) := by rw [w64_id om om]; rfl
        obtain ⟨y, hy, hym⟩ : ∃ y, x[k]? = some y ∧ y ∈ x := ⟨_, gE hlt2, List.getElem_mem hlt2⟩
        refine yg (R := fun (q : Bool) => q = (c' || hcl y)) (yk (fun hb => yd (by rw [show c' = true from hb]; rfl)) fun hb => hr ?_) fun q hq => yd ⟨⟨k + 1, ew2, by omega, ?_⟩, by rw [ew2]; simp only; omega⟩
        · rw [idx_nat, hy]
          refine ya9 ?_
          rw [rnames_val (by have := ((h.re x hm).2 y hym).1; omega)]
          exact ya9 (yd (by rw [show c' = false from hb]; rfl))
        · show q = _
          rw [hq, hc', any_next hy, Bool.or_assoc]
      · have : k = x.length := by simp at hq2; omega
        subst this
        rw [List.take_length] at hc'
        exact hc'
    · rintro c' hc'
      refine yd ⟨⟨i + 1, ew, by omega, .inr (by simp [h2, h3]), ?_⟩, by rw [ew]; simp only; omega⟩
      show c' = _
      rw [hc', hc, any_next hx, h2, h3]
      simp only [Bool.and_self, Bool.true_and, Bool.or_assoc]
  · show c = rdB s
    unfold rdB
    rw [hc]
    rcases hk with rfl | hk
    · by_cases hl : s.Rows = []
      · rw [hl]; simp
      · have : 0 < s.Rows.length := List.length_pos_iff.2 hl
        have hkf : (s.Kind != 16 && s.Kind != 21) = false := by
          have hd : decide ((((false, ((0 : Nat) : Int)) : Bool × Int)).2 < (s.Rows.length : Int)) = true := by simp; omega
          have hq : ((decide ((((false, ((0 : Nat) : Int)) : Bool × Int)).2 < (s.Rows.length : Int)) && s.Kind != 16) && s.Kind != 21) = false := hq
          rw [hd, Bool.true_and] at hq
          exact hq
        rw [hkf]
        simp
    · have : i = s.Rows.length := by
        simp only [Bool.and_eq_true] at hk
        rw [hk.1, hk.2] at hq
        simp at hq
        omega
      subst this
      rw [List.take_length]
theorem parents_eq {n : Nat} {c : qC} (h : CB n c) (hn : n ≤ 1000) (hr : Sm c.Roles) (r : By8) (s : qS) : access_parents c r s = r20_parents c r s := by
  unfold access_parents r20_parents
  congr 1
  congr 1
  funext i u
  cases hx : idx s.Cons (i : Int) with
  | none => rfl
  | some x =>
    simp only [obs, tat_val, gmay_val h hn hr]
    rcases cfind_eq h hn x.Table with ⟨h0, e⟩ | ⟨t, h0, hx, e⟩
    · rw [e, show decide (tI c x.Table < 0) = true by simpa using h0]
      rfl
    · rw [e, show decide (tI c x.Table < 0) = false by simp; omega]
      rfl
noncomputable def mayB (c : qC) (r : By8) (p : Int) (t : By8) : Bool := owB c r t || haB c (heR c) r p t false
theorem allowed_eq {n : Nat} {c : qC} (h : CB n c) (hn : n ≤ 1000) (hr : Sm c.Roles) (r : By8) {s : qS} (hs : SE s) : access_Allowed c r s = r20_Allowed c r s := by
  have hg : c.Grants.length ≤ 1000 := by have := h.grants; omega
  have hm : ∀ p t, r19_May c r p t = some (mayB c r p t) := fun p t => rmay_val hr hg r p t
  unfold access_Allowed r20_Allowed
  obtain ⟨x, hf⟩ := mfind_eq hr r
  rw [hf, rat_val]
  simp only [obs]
  by_cases h0 : 0 ≤ rI c.Roles r
  · rw [show decide (0 ≤ rI c.Roles r) = true by simpa using h0, show decide (rI c.Roles r < 0) = false by simp; omega]
    simp only [Bool.not_true, cond_false]
    rw [parents_eq h hn hr]
    by_cases h1 : s.Kind = 1
    · simp [h1]
    have e1 : (s.Kind == 1) = false := by simpa using h1
    rw [e1]
    simp only [cond_false]
    by_cases h2 : s.Kind < 2
    · have a1 : (decide (s.Kind ≥ 2) && decide (s.Kind ≤ 9)) = false := by simp; omega
      have a2 : (decide (s.Kind ≥ 16) && decide (s.Kind ≤ 19)) = false := by simp; omega
      have a3 : ((decide (s.Kind < 2) || (decide (s.Kind > 9) && decide (s.Kind < 16))) || decide (s.Kind > 19)) = true := by simp; omega
      rw [a1, a2, a3]
      rfl
    by_cases h3 : s.Kind ≤ 9
    · have a1 : (decide (s.Kind ≥ 2) && decide (s.Kind ≤ 9)) = true := by simp; omega
      have a3 : ((decide (s.Kind < 2) || (decide (s.Kind > 9) && decide (s.Kind < 16))) || decide (s.Kind > 19)) = false := by simp; omega
      rw [a1, a3, show decide (s.Kind ≤ 9) = true by simpa using h3, tat_val, gowns_val h hn hr, owns_val hr]
      simp only [cond_true, cond_false, obs]
      rcases cfind_eq h hn s.Table with ⟨g0, e⟩ | ⟨t, g0, hx, e⟩
      · rw [e, show decide (tI c s.Table < 0) = true by simpa using g0]
        rfl
      · rw [e, show decide (tI c s.Table < 0) = false by simp; omega]
        simp only [obs, Bool.not_true, cond_false]
        cases owB c r s.Table with
        | false => rfl
        | true =>
          cases (s.Kind == 6) with
          | false => rfl
          | true =>
            simp only [Bool.not_true, cond_false, cond_true]
            cases r20_parents c r s <;> rfl
    have a1 : (decide (s.Kind ≥ 2) && decide (s.Kind ≤ 9)) = false := by simp; omega
    rw [a1, show decide (s.Kind ≤ 9) = false by simpa using h3]
    by_cases h4 : 16 ≤ s.Kind ∧ s.Kind ≤ 19
    · have a2 : (decide (s.Kind ≥ 16) && decide (s.Kind ≤ 19)) = true := by simp; omega
      have a3 : ((decide (s.Kind < 2) || (decide (s.Kind > 9) && decide (s.Kind < 16))) || decide (s.Kind > 19)) = false := by simp; omega
      rw [a2, a3]
      unfold access_rows
      rw [tat_val]
      simp only [cond_true, cond_false, obs, gmay_val h hn hr, hm, reads_val hs, rreads_val hs]
      have hp : ∃ p, access_priv s.Kind = some p ∧ (bif decide (s.Kind < 19) then some (w64 (s.Kind - 14)) else some 1) = some p := by
        unfold access_priv
        rcases (by omega : s.Kind = 16 ∨ s.Kind = 17 ∨ s.Kind = 18 ∨ s.Kind = 19) with e | e | e | e <;> rw [e] <;> exact ⟨_, rfl, by decide⟩
      obtain ⟨p, p1, p2⟩ := hp
      rw [p1, p2]
      simp only [obs]
      rcases cfind_eq h hn s.Table with ⟨g0, e⟩ | ⟨t, g0, hx, e⟩
      · rw [e, show decide (tI c s.Table < 0) = true by simpa using g0]
        rfl
      · rw [e, show decide (tI c s.Table < 0) = false by simp; omega]
        simp only [obs, Bool.not_true, cond_false]
        cases mayB c r p s.Table <;> cases (s.Kind == 17 || s.Kind == 18) <;> cases rdB s <;> cases mayB c r 1 s.Table <;> rfl
    · have a2 : (decide (s.Kind ≥ 16) && decide (s.Kind ≤ 19)) = false := by simp; omega
      have a3 : ((decide (s.Kind < 2) || (decide (s.Kind > 9) && decide (s.Kind < 16))) || decide (s.Kind > 19)) = true := by simp; omega
      rw [a2, a3]
      rfl
  · rw [show decide (0 ≤ rI c.Roles r) = false by simpa using h0, show decide (rI c.Roles r < 0) = true by simp; omega]
    rfl
theorem rparents_tt {b : Prop} {c : qC} (hr : Sm c.Roles) (hg : c.Grants.length ≤ 1000) (r : By8) (s : qS) : RB b (r20_parents c r s) TT := by
  unfold r20_parents
  refine yg (R := TT) (forN_tt fun j _ hj => yg (R := TT) (yak hj fun x _ _ => yk rt fun _ => ?_) ?_) ?_
  · rw [tat_val, rmay_val hr hg]
    exact ya9 (yk rt fun _ => ya9 (yk rt fun _ => yd trivial))
  · rintro (_ | _) _ <;> exact yd trivial
  · rintro (_ | _) _ <;> exact yd trivial
theorem rallowed_tt {b : Prop} {n : Nat} {c : qC} (h : CB n c) (hn : n ≤ 1000) (hr : Sm c.Roles) (r : By8) {s : qS} (hs : SE s) : RB b (r20_Allowed c r s) TT := by
  have hg : c.Grants.length ≤ 1000 := by have := h.grants; omega
  unfold r20_Allowed
  simp only [rat_val, tat_val, owns_val hr, rreads_val hs, rmay_val hr hg, obs]
  refine yk rt fun _ => yk (fun _ => yg (rparents_tt hr hg r s) fun _ _ => yd trivial) fun _ => yk rt fun _ => yk rt fun _ => yk (fun _ => yk rt fun _ => yk (fun _ => yg (rparents_tt hr hg r s) fun _ _ => yd trivial) fun _ => yd trivial) fun _ => ?_
  refine yg (R := TT) (yk rt fun _ => yd trivial) fun p _ => yk rt fun _ => yg (R := TT) (yk rt fun _ => yd trivial) fun q _ => yg (R := TT) (yk rt fun _ => yd trivial) fun q' _ => yk rt fun _ => yd trivial
section
variable {c d : qC} (ht : ∀ n, tI d n = tI c n) (ho : ∀ r t, owB d r t = owB c r t) (hr : d.Roles = c.Roles) (hg : d.Grants = c.Grants)
include ht ho hr hg
theorem he_same : heR d = heR c := by
  have key : ∀ k, rnds d k = rnds c k := by
    intro k
    induction k with
    | zero => rfl
    | succ k ih =>
      show d.Grants.filter (okB d (rnds d k)) = c.Grants.filter (okB c (rnds c k))
      rw [ih, hg]
      refine congrArg (fun p => c.Grants.filter p) (funext fun g => ?_)
      unfold okB haB
      rw [ht, ho, hr]
  unfold heR
  rw [hg]
  exact key _
theorem may_same (r : By8) (p : Int) (t : By8) : mayB d r p t = mayB c r p t := by
  unfold mayB
  rw [ho, he_same ht ho hr hg]
  unfold haB
  rw [hr]
theorem rallowed_same (hs : Sm c.Roles) (hl : c.Grants.length ≤ 1000) (r : By8) {s : qS} (he : SE s) : r20_Allowed d r s = r20_Allowed c r s := by
  have hs' : Sm d.Roles := by rw [hr]; exact hs
  have hl' : d.Grants.length ≤ 1000 := by rw [hg]; exact hl
  have m1 : ∀ r p t, r19_May c r p t = some (mayB c r p t) := fun r p t => rmay_val hs hl r p t
  have m2 : ∀ r p t, r19_May d r p t = some (mayB c r p t) := fun r p t => by rw [← may_same ht ho hr hg]; exact rmay_val hs' hl' r p t
  have hp : r20_parents d r s = r20_parents c r s := by
    unfold r20_parents
    simp only [tat_val, ht, m1, m2]
  unfold r20_Allowed
  simp only [tat_val, ht, rat_val, hr, owns_val hs, owns_val hs', ho, m1, m2, hp]
end
def bare (t : qT) : qT := { z_qT with Name := t.Name, Owner := t.Owner, Cols := ([{ z_qL with Name := (⟨#[122]⟩ : By8), Type_ := 2 }] : List qL) }
theorem bare_tI (c : qC) (n : By8) : tI { c with Tables := c.Tables.map bare } n = tI c n := by
  unfold tI
  rw [show ({ c with Tables := c.Tables.map bare } : qC).Tables = c.Tables.map bare from rfl, List.findIdx?_map]
  rfl
theorem bare_ow {c : qC} (r t : By8) : owB { c with Tables := c.Tables.map bare } r t = owB c r t := by
  unfold owB r19_Owns
  rw [tat_val, tat_val, bare_tI]
  simp only [obs]
  by_cases h0 : 0 ≤ tI c t
  · obtain ⟨k, x, hk, hx, _⟩ := tI_get h0
    rw [hk, idx_nat, idx_nat, List.getElem?_map, hx]
    rfl
  · rw [show decide (tI c t ≥ 0) = false by simpa using h0]
    rfl
theorem bare_ok {c : qC} (h : CB 60 c) : CB 60 { c with Tables := c.Tables.map bare } := by
  refine ⟨by simpa using h.tabs, fun t ht => ?_, h.grants⟩
  obtain ⟨x, hx, rfl⟩ := List.mem_map.1 ht
  have hb := (h.ok x hx).1
  refine ⟨⟨by simp [bare], by simp [bare, z_qT], by simp [bare, z_qT], hb.nm, hb.ow, fun y hy => ?_, fun y hy => by simp [bare, z_qT] at hy, fun y hy => by simp [bare, z_qT] at hy⟩, fun y hy => by simp [bare, z_qT] at hy⟩
  have : y = { z_qL with Name := (⟨#[122]⟩ : By8), Type_ := 2 } := by simpa [bare] using hy
  subst this
  show (⟨#[122]⟩ : By8).size ≤ 100
  decide
theorem denies_ok {A B C : Prop} (p0 : List law19_Act) (p1 : By8) (p2 : qS) (_ : A) (_ : B) (_ : C) : law20_AccessDenies p0 p1 p2 = some true := by
  unfold law20_AccessDenies
  refine Ret.eq (yg (afew_rb p0) fun q0 h0 => yg (R := fun (q : Bool) => q = false → q0 = true ∧ SE p2) (yk (fun _ => yd fun h => by cases h) fun hc => yg (rb_and (sfew_rb p2) (sfe_rb p2)) fun r hr => yd fun hq => ⟨by simpa using hc, hr.2 (by simpa using hq)⟩) fun q1 h1 => yk (fun _ => ?_) fun hc => ?_)
  · rw [works_eq]
    exact ya9 (yd rfl)
  obtain ⟨g0, se⟩ := h1 (by simp only [Bool.or_eq_false_iff] at hc; exact hc.1)
  refine yg (grown_rb (h0 g0)) fun c hc => ?_
  have hs := hc.2.sm (show 60 ≤ 100 by omega)
  have hn := hc.1.tabs
  refine yg (forE_ret (fun j (s : List qT) => s = (c.Tables.take j).map bare) (by simp) ?_) fun ts hts => ?_
  · rintro j s hj rfl
    refine yak hj fun x hx _ => ya3 (by simp only [List.length_map, List.length_take, List.length_cons, List.length_nil]; omega) (yd ?_)
    rw [take_next hx, List.map_append]
    rfl
  have hts : ts = (c.Tables.take c.Tables.length).map bare := hts
  rw [List.take_length] at hts
  subst hts
  rw [allowed_eq hc.1 om hs p1 se, allowed_eq (bare_ok hc.1) om hs p1 se, rallowed_same (c := c) (d := { c with Tables := c.Tables.map bare }) (bare_tI c) bare_ow rfl rfl hs (by have := hc.1.grants; omega) p1 se]
  obtain ⟨v, hv, _⟩ := Ret.ex (rallowed_tt hc.1 (show 60 ≤ 1000 by omega) hs p1 se)
  rw [hv, works_eq]
  simp only [obs, beq_self_eq_true, cond_true]
  exact yd rfl
end Go.Proofs.YtdhfbakalknplaaGreat
