/- Locks: just what asking, letting go and leaving come to. Conditions: none. -/
import Derived.Test.YtdmefifamlpbiaaGoes
namespace Go.Proofs.Ytdmefifamlpbiaa
open Go.Gv
attribute [local irreducible] Pl
theorem bl_lt : ∀ (x y : List UInt8), Op.bytesLess x y = decide (x < y)
  | _, [] => by simp [Op.bytesLess]
  | [], y :: ys => by simp [Op.bytesLess]
  | x :: xs, y :: ys => by
    simp only [Op.bytesLess, bl_lt xs ys]
    rw [Bool.eq_iff_iff]
    simp only [List.cons_lt_cons_iff, decide_eq_true_eq, Bool.or_eq_true, Bool.and_eq_true, beq_iff_eq]
theorem sorted (xs : List ByteArray) : (sortS xs).Pairwise (fun a b => sLt b a = false) := by
  unfold sortS
  rw [List.pairwise_map]
  refine (List.pairwise_mergeSort ?_ ?_ _).imp ?_
  · intro a b c h1 h2
    simp only [decide_eq_true_eq] at h1 h2 ⊢
    exact List.le_trans h1 h2
  · intro a b
    simp only [Bool.or_eq_true, decide_eq_true_eq]
    exact List.le_total a b
  · intro a b h
    have h := of_decide_eq_true h
    rw [sLt_data]
    show Op.bytesLess (bs (ub b)) (bs (ub a)) = false
    rw [bs_ub, bs_ub]
    cases hb : Op.bytesLess b a with
    | false => rfl
    | true =>
      exfalso
      have : b < a := by
        have e := bl_lt b a
        rw [hb] at e
        simpa using e.symm
      exact (List.not_lt.2 h) this
theorem lt_of (a b : ByteArray) (h1 : sLt b a = false) (h2 : a ≠ b) : sLt a b = true := by
  rcases sLt_total a b with h | h | h
  · exact h
  · exact absurd h h2
  · rw [h] at h1; cases h1
theorem Inv.paths2 {n : Nat} {l : mdl_Locks} (h : Inv n l) (hN : n ≤ 1000) : ∃ ks, mdl_Locks_Paths l = some ks ∧ ks.Perm (l.at_.map (·.1)) ∧ ks.Pairwise (fun a b => sLt a b = true) := by
  unfold mdl_Locks_Paths mdl_Locks_dead keysO
  have hl := h.len
  rw [if_pos ⟨h.nd, by omega, fun k hk => by have := h.ks k hk; simp only [maxLen]; omega⟩]
  have hp := sortS_perm (l.at_.map (·.1))
  refine ⟨_, rfl, hp, ?_⟩
  have hn : (sortS (l.at_.map (·.1))).Nodup := hp.nodup_iff.2 h.nd
  exact (List.Pairwise.and (sorted _) hn).imp fun {a b} hab => lt_of a b hab.1 hab.2
/-- What somebody holds at a path. -/
def hf (l : mdl_Locks) (w : Int) (k : ByteArray) : Option api_Need := if w ∈ (Pl l k).held.map (·.who) then some ⟨k, modeOf (Pl l k) w⟩ else none
theorem Inv.holds2 {n : Nat} {l : mdl_Locks} (h : Inv n l) (hN : n ≤ 1000) (w : Int) {ks : List ByteArray} (hks : mdl_Locks_Paths l = some ks) (hp : ks.length ≤ n) : mdl_Locks_Holds l w = some (ks.filterMap (hf l w)) := by
  refine Ret.eq ?_
  unfold mdl_Locks_Holds mdl_Locks_dead
  simp only [Option.bind_some]
  rw [hks]
  simp only [Option.bind_some]
  refine RB.bind (R := fun r => r = (ks.take ks.length).filterMap (hf l w)) (forE_ret (fun i r => r = (ks.take i).filterMap (hf l w)) (by simp) ?_) ?_
  · rintro i r hi rfl
    have hx : ks[i]? = some ks[i] := List.getElem?_eq_getElem hi
    simp only [idx_nat, hx, Option.bind_some, pl_eq]
    have hle : ((ks.take i).filterMap (hf l w)).length ≤ i := by
      have := List.length_filterMap_le (hf l w) (ks.take i)
      simp at this
      omega
    rw [take_snoc hx, List.filterMap_append]
    rcases find_spec (Pl l ks[i]).held w with ⟨hno, e⟩ | ⟨A, x, B, hx1, hx2, hx3, e⟩
    · rw [e]
      refine RB.ret ?_
      have : hf l w ks[i] = none := by
        unfold hf
        rw [if_neg]
        intro hm
        obtain ⟨y, hy, e⟩ := List.mem_map.1 hm
        exact hno y hy e
      simp [List.filterMap_cons, this]
    · rw [e]
      simp only [Option.bind_some]
      rw [show decide ((A.length : Int) ≥ 0) = true by simp]
      simp only [cond_true]
      have hxm : x ∈ (Pl l ks[i]).held := by rw [hx1]; simp
      have e2 : idx (Pl l ks[i]).held (A.length : Int) = some x := by rw [hx1]; exact at_len
      rw [e2]
      simp only [Option.bind_some]
      rw [app_le (by simp; omega)]
      refine RB.ret ?_
      have : hf l w ks[i] = some ⟨ks[i], x.mode⟩ := by
        unfold hf
        rw [if_pos (List.mem_map.2 ⟨x, hxm, hx2⟩), ← hx2, modeOf_mem (h.pl ks[i]).toPre hxm]
      simp [List.filterMap_cons, this]
  · rintro r rfl
    refine RB.ret ?_
    rw [List.take_length]
def okWho (w : Int) : Prop := 1 ≤ w ∧ w ≤ 8
def waitsAt (l : mdl_Locks) (w : Int) (k : ByteArray) : Prop := ∃ x ∈ (Pl l k).queue, x.who = w
def holdsAt (l : mdl_Locks) (w : Int) (k : ByteArray) : Prop := ∃ x ∈ (Pl l k).held, x.who = w
/-- What asking comes to. -/
def AskQ (l : mdl_Locks) (w : Int) (k : ByteArray) (m : Int) (b : Bool) (e : Int) (l' : mdl_Locks) : Prop :=
  (¬ (okWho w ∧ 1 ≤ m ∧ m ≤ 4) ∧ b = false ∧ e = 2 ∧ l' = l) ∨
  ((okWho w ∧ 1 ≤ m ∧ m ≤ 4) ∧ (∃ j, waitsAt l w j) ∧ b = false ∧ e = 50 ∧ l' = l) ∨
  ((okWho w ∧ 1 ≤ m ∧ m ≤ 4) ∧ (∀ j, ¬ waitsAt l w j) ∧ holdsAt l w k ∧ b = false ∧ e = 19 ∧ l' = l) ∨
  ((okWho w ∧ 1 ≤ m ∧ m ≤ 4) ∧ (∀ j, ¬ waitsAt l w j) ∧ ¬ holdsAt l w k ∧ b = (decide ((Pl l k).queue = []) && (Pl l k).held.all fun x => G x.mode m) ∧ e = 0 ∧ (∀ j, j ≠ k → Pl l' j = Pl l j) ∧
    Pl l' k = (bif b then ⟨(Pl l k).held ++ [⟨w, m⟩], (Pl l k).queue⟩ else ⟨(Pl l k).held, (Pl l k).queue ++ [⟨w, m⟩]⟩))
set_option maxHeartbeats 1000000 in
theorem Inv.ask2 {n : Nat} {l : mdl_Locks} (h : Inv n l) (hN : n < 1000) (w : Int) (k : ByteArray) (m : Int) (hk : k.size ≤ 100) :
    ∃ b e l', mdl_Locks_Ask l w ⟨k, m⟩ = some (b, e, l') ∧ Inv (n + 1) l' ∧ AskQ l w k m b e l' := by
  obtain ⟨b0, e0, l0, hr0, hI0, _⟩ := h.ask hN w k m hk
  refine ⟨b0, e0, l0, hr0, hI0, ?_⟩
  refine (?_ : Ret (mdl_Locks_Ask l w ⟨k, m⟩) fun r => AskQ l w k m r.1 r.2.1 r.2.2).so (b0, e0, l0) hr0
  unfold mdl_Locks_Ask
  rw [check_eq]
  simp only [Option.bind_some]
  refine RB.cond (fun hc => RB.ret (.inl ⟨?_, rfl, ?_, rfl⟩)) (fun hc => ?_)
  · cases hb : decide (w < 1) || decide (w > 8) with
    | true => simp at hb; rintro ⟨⟨h1, h2⟩, _⟩; omega
    | false => rw [hb] at hc; simp at hc
  · cases hb : decide (w < 1) || decide (w > 8) with
    | true => simp
    | false => rw [hb] at hc; simp at hc
  have hwr : okWho w := by
    cases hb : decide (w < 1) || decide (w > 8) with
    | true => rw [hb] at hc; simp at hc
    | false => simp at hb; exact ⟨by omega, by omega⟩
  refine RB.cond (fun hm => RB.ret (.inl ⟨?_, rfl, rfl, rfl⟩)) (fun hm => ?_)
  · simp at hm; rintro ⟨_, h1, h2⟩; omega
  have hok : okWho w ∧ 1 ≤ m ∧ m ≤ 4 := by simp at hm; exact ⟨hwr, by omega, by omega⟩
  rcases h.waits w with ⟨hno, e⟩ | ⟨k', A, x, B, hq, hw, _, e⟩
  rotate_left
  · rw [e]
    exact RB.ret (.inr (.inl ⟨hok, ⟨k', x, by rw [hq]; simp, hw⟩, rfl, rfl, rfl⟩))
  rw [e]
  have hnw : ∀ j, ¬ waitsAt l w j := fun j ⟨x, hx, e⟩ => hno j x hx e
  simp only [Option.bind_some, cond_false]
  rw [pl_eq]
  rcases find_spec (Pl l k).held w with ⟨hnh, e⟩ | ⟨A, x, B, hq, hw, _, e⟩
  rotate_left
  · rw [e]
    simp only [Option.bind_some]
    rw [show decide ((A.length : Int) ≥ 0) = true by simp]
    exact RB.ret (.inr (.inr (.inl ⟨hok, hnw, ⟨x, by rw [hq]; simp, hw⟩, rfl, rfl, rfl⟩)))
  rw [e]
  simp only [Option.bind_some]
  rw [show decide ((-1 : Int) ≥ 0) = false by decide]
  simp only [cond_false]
  have hlen := (h.pl k).len
  refine RB.bind (R := fun b => b = (decide ((Pl l k).queue = []) && (Pl l k).held.all fun x => G x.mode m)) ?_ ?_
  · cases hq : (Pl l k).queue with
    | nil => simp only [List.length_nil]; rw [show (((0 : Nat) : Int) == 0) = true from rfl]; simp only [cond_true, pgoes_eq, Option.bind_some]; exact RB.ret (by simp)
    | cons y r =>
      have : ((((y :: r).length : Nat) : Int) == 0) = false := by
        cases hb : ((((y :: r).length : Nat) : Int) == 0) with
        | false => rfl
        | true => have := eq_of_beq hb; simp at this; omega
      rw [this]
      exact RB.ret (by simp)
  rintro b hb
  -- what is set
  have fin : ∀ (p : Place), p.held.length + p.queue.length ≤ 1000 → (p.held ≠ [] ∨ p.queue ≠ []) → p = (bif b then ⟨(Pl l k).held ++ [⟨w, m⟩], (Pl l k).queue⟩ else ⟨(Pl l k).held, (Pl l k).queue ++ [⟨w, m⟩]⟩) →
      RB True ((mdl_Locks_set l k p).bind fun (r309 : mdl_Locks) => some (b, (0 : Int), r309)) fun r => AskQ l w k m r.1 r.2.1 r.2.2 := by
    intro p hpl hpne hpe
    rw [set_eq l k p hpl, if_neg (by rintro ⟨h1, h2⟩; rcases hpne with h3 | h3 <;> contradiction)]
    refine RB.ret (.inr (.inr (.inr ⟨hok, hnw, fun ⟨x, hx, e⟩ => hnh x hx e, hb, rfl, fun j hj => ?_, ?_⟩)))
    · rw [← pl_eq, ← pl_eq]
      simp only
      rw [mget_mset keq, keq.ne hj]
      rfl
    · rw [← pl_eq]
      simp only
      rw [mget_mset keq, keq.refl]
      exact hpe
  cases b with
  | true =>
    simp only [cond_true]
    rw [clone_eq (by omega)]
    simp only [Option.bind_some]
    rw [app_le (by simp; omega)]
    simp only [Option.bind_some]
    have f1 := fin ⟨(Pl l k).held ++ [⟨w, m⟩], (Pl l k).queue⟩
    refine f1 ?_ ?_ ?_
    · simp; omega
    · left; simp
    · rfl
  | false =>
    simp only [cond_false]
    rw [clone_eq (by omega)]
    simp only [Option.bind_some]
    rw [app_le (by simp; omega)]
    simp only [Option.bind_some]
    have f1 := fin ⟨(Pl l k).held, (Pl l k).queue ++ [⟨w, m⟩]⟩
    refine f1 ?_ ?_ ?_
    · simp; omega
    · right; simp
    · rfl
/-- Without somebody, and served. -/
def Lv (w : Int) (p p' : Place) : Prop := ∃ T R, p' = ⟨wo w p.held ++ T, R⟩ ∧ wo w p.queue = T ++ R
theorem Inv.leave2 {n : Nat} {l : mdl_Locks} (h : Inv n l) (hN : n ≤ 1000) (w : Int) : ∃ e l', mdl_Locks_Leave l w = some (e, l') ∧ Inv n l' ∧ ((¬ okWho w ∧ e = 2 ∧ l' = l) ∨ (okWho w ∧ e = 0 ∧ ∀ j, Lv w (Pl l j) (Pl l' j))) := by
  refine (?_ : Ret (mdl_Locks_Leave l w) fun r => Inv n r.2 ∧ ((¬ okWho w ∧ r.1 = 2 ∧ r.2 = l) ∨ (okWho w ∧ r.1 = 0 ∧ ∀ j, Lv w (Pl l j) (Pl r.2 j)))).ex.elim fun r hr => ⟨r.1, r.2, hr.1, hr.2⟩
  unfold mdl_Locks_Leave
  rw [check_eq]
  simp only [Option.bind_some]
  refine RB.cond (fun hc => RB.ret ⟨h, .inl ⟨?_, ?_, rfl⟩⟩) (fun hc => ?_)
  · cases hb : decide (w < 1) || decide (w > 8) with
    | false => rw [hb] at hc; simp at hc
    | true => simp at hb; rintro ⟨h1, h2⟩; omega
  · cases hb : decide (w < 1) || decide (w > 8) with
    | true => simp
    | false => rw [hb] at hc; simp at hc
  have hwr : okWho w := by
    cases hb : decide (w < 1) || decide (w > 8) with
    | true => rw [hb] at hc; simp at hc
    | false => simp at hb; exact ⟨by omega, by omega⟩
  obtain ⟨ks, e, hp⟩ := h.paths hN
  rw [e]
  simp only [Option.bind_some]
  have hnd : ks.Nodup := hp.nodup_iff.2 h.nd
  refine RB.bind (R := fun s => Inv n s ∧ (∀ k, k ∉ ks → Pl s k = Pl l k) ∧ ∀ k ∈ ks, Lv w (Pl l k) (Pl s k)) ?_ ?_
  · refine (forE_ret (fun i s => Inv n s ∧ (∀ k, k ∉ ks.take i → Pl s k = Pl l k) ∧ ∀ k ∈ ks.take i, Lv w (Pl l k) (Pl s k)) ⟨h, fun _ _ => rfl, by simp⟩ ?_).mono ?_
    · rintro i s hi ⟨hI, h1, h2⟩
      have hx : ks[i]? = some ks[i] := List.getElem?_eq_getElem hi
      simp only [idx_nat, hx, Option.bind_some]
      rw [pl_eq]
      have hni : ks[i] ∉ ks.take i := by
        intro hm
        have e : ks.take i ++ ks[i] :: ks.drop (i + 1) = ks := by rw [← List.drop_eq_getElem_cons hi, List.take_append_drop]
        have hnd2 := hnd
        rw [← e] at hnd2
        exact (List.nodup_append.1 hnd2).2.2 _ hm _ (List.mem_cons_self ..) rfl
      have hsame := h1 _ hni
      have hkm : ks[i] ∈ s.at_.map (·.1) := by
        have : ks[i] ∈ l.at_.map (·.1) := hp.mem_iff.1 (List.getElem_mem hi)
        obtain ⟨x, hx⟩ := List.exists_mem_of_ne_nil _ (h.ne _ this)
        exact key_of (x := x) (.inl (by rw [hsame]; exact hx))
      have hpl := hI.pl ks[i]
      have hlen := hpl.len
      rw [without_eq (by omega), without_eq (by omega)]
      simp only [Option.bind_some]
      obtain ⟨l', T, R, h3, h4, h5, h6, h7⟩ := hI.serve hN (hpl.toPre.less w (wo_sub w _)) hkm (fun x hx => (wo_sub w _).subset hx)
      simp only at h3 h5
      rw [h3]
      refine RB.ret ⟨h4, fun k hk => ?_, fun k hk => ?_⟩
      · rw [take_snoc hx, List.mem_append, List.mem_singleton] at hk
        rw [h7 k (fun e => hk (.inr e))]
        exact h1 k (fun e => hk (.inl e))
      · by_cases e : k = ks[i]
        · subst e
          rw [h6, ← hsame]
          exact ⟨T, R, rfl, h5⟩
        · rw [take_snoc hx, List.mem_append, List.mem_singleton] at hk
          rw [h7 k e]
          exact h2 k (hk.resolve_right e)
    · rintro s ⟨h1, h2, h3⟩
      rw [List.take_length] at h2 h3
      exact ⟨h1, h2, h3⟩
  · rintro s ⟨h1, h2, h3⟩
    refine RB.ret ⟨h1, .inr ⟨hwr, rfl, fun j => ?_⟩⟩
    by_cases hj : j ∈ ks
    · exact h3 j hj
    · simp only
      rw [h2 j hj, pl_none (fun hm => hj (hp.mem_iff.2 hm))]
      exact ⟨[], [], by simp [wo], by simp [wo]⟩
theorem whos_val {xs : List One} (h : (xs.map (·.who)).Nodup) (hl : xs.length ≤ 1000) : ∃ r, mdl_whos xs = some r ∧ r.Perm (xs.map (·.who)) ∧ r.Pairwise (· < ·) := by
  have e : mdl_whos xs = some (sortI (xs.map (·.who))) := by
    refine Ret.eq ?_
    unfold mdl_whos
    refine RB.bind (R := fun s => s = (xs.take xs.length).map (·.who)) (forE_ret (fun i s => s = (xs.take i).map (·.who)) (by simp) ?_) ?_
    · rintro i s hi rfl
      have hx : xs[i]? = some xs[i] := List.getElem?_eq_getElem hi
      simp only [idx_nat, hx, Option.bind_some]
      rw [app_le (by simp; omega)]
      refine RB.ret ?_
      rw [take_snoc hx, List.map_append]
      rfl
    · rintro s rfl
      rw [List.take_length]
      have e : sortIO (xs.map (·.who)) = some (sortI (xs.map (·.who))) := by
        unfold sortIO
        rw [if_pos (by simp; omega)]
      rw [e]
      simp only [Option.bind_some]
      have hp : (sortI (xs.map (·.who))).Perm (xs.map (·.who)) := List.mergeSort_perm _ _
      rw [compact_eq (hp.nodup_iff.2 h) (by rw [hp.length_eq]; simpa using hl)]
      exact RB.ret rfl
  have hp : (sortI (xs.map (·.who))).Perm (xs.map (·.who)) := List.mergeSort_perm _ _
  refine ⟨_, e, hp, ?_⟩
  have hs : (sortI (xs.map (·.who))).Pairwise (fun a b => decide (a ≤ b) = true) := List.pairwise_mergeSort (by intro a b c; simp; omega) (by intro a b; simp; omega) _
  exact (List.Pairwise.and hs (hp.nodup_iff.2 h)).imp fun {a b} hab => by
    have h1 := of_decide_eq_true hab.1
    have h2 : a ≠ b := hab.2
    omega
/-- Whom one waits for. -/
theorem Inv.blockers {n : Nat} {l : mdl_Locks} (h : Inv n l) (hN : n ≤ 400) (w : Int) : ((∀ j, ¬ waitsAt l w j) ∧ mdl_Locks_Blockers l w = some []) ∨ ∃ k A x B r, (Pl l k).queue = A ++ x :: B ∧ x.who = w ∧ mdl_Locks_Blockers l w = some r ∧ r.Pairwise (· < ·) ∧ ∀ y, y ∈ r ↔ y ∈ A.map (·.who) ∨ ∃ z ∈ (Pl l k).held, z.who = y ∧ G z.mode x.mode = false := by
  rcases h.waits w with ⟨hno, e⟩ | ⟨k, A, x, B, hq, hw, hA, e⟩
  · left
    refine ⟨fun j ⟨x, hx, e⟩ => hno j x hx e, ?_⟩
    unfold mdl_Locks_Blockers
    rw [e]
    rfl
  · right
    have hpl := h.pl k
    have hlen := hpl.len
    have hql : (Pl l k).queue.length = A.length + (B.length + 1) := by rw [hq]; simp
    have hnd := hpl.nd
    rw [List.map_append, List.nodup_append] at hnd
    have hfind : mdl_find (Pl l k).queue w = some (A.length : Int) := by
      rcases find_spec (Pl l k).queue w with ⟨hn, _⟩ | ⟨A', x', B', h1, h2, h3, h4⟩
      · exact absurd hw (hn x (by rw [hq]; simp))
      · rw [h4]
        have : A'.length = A.length := by
          have e1 := find_eq (Pl l k).queue w
          rw [h4] at e1
          rcases find_cases (fun x : One => x.who == w) (Pl l k).queue with ⟨h5, _⟩ | ⟨A2, x2, B2, h5, h6, h7, h8⟩
          · have := h5 x (by rw [hq]; simp)
            simp [hw] at this
          · rcases Nat.lt_trichotomy A'.length A.length with h9 | h9 | h9
            · have hx' : x' ∈ A := by
                have e2 : (A ++ x :: B)[A'.length]? = some x' := by rw [← hq, h1, List.getElem?_append_right (Nat.le_refl _), Nat.sub_self]; rfl
                rw [List.getElem?_append_left h9] at e2
                exact List.mem_of_getElem? e2
              exact absurd h2 (hA x' hx')
            · exact h9
            · have hx' : x ∈ A' := by
                have e2 : (A' ++ x' :: B')[A.length]? = some x := by rw [← h1, hq, List.getElem?_append_right (Nat.le_refl _), Nat.sub_self]; rfl
                rw [List.getElem?_append_left h9] at e2
                exact List.mem_of_getElem? e2
              exact absurd hw (h3 x hx')
        rw [this]
    have hsub : sub (Pl l k).queue 0 (A.length : Int) = some A := by
      have e0 := sub_at (xs := (Pl l k).queue) (lo := 0) (hi := (A.length : Int)) (i := 0) (j := A.length) rfl rfl (by omega) (by omega)
      rw [e0, hq]
      simp
    have hfor : (forE (fun (i45 : Nat) => fun (s44 : List mdl_one) => (idx (Pl l k).held (i45 : Int)).bind (fun (x57 : mdl_one) => (mdl_Goes x57.mode x.mode).bind (fun (r69 : Bool) => ((bif (!r69) then (app 16 s44 ([x57] : List mdl_one)).bind (fun (x82 : List mdl_one) => some x82) else some s44)).bind (fun (j70 : List mdl_one) => some j70)))) (Pl l k).held.length 0 A) = some (A ++ (Pl l k).held.filter fun z => !G z.mode x.mode) := by
      refine Ret.eq ?_
      refine (forE_ret (fun i s => s = A ++ ((Pl l k).held.take i).filter fun z => !G z.mode x.mode) (by simp) ?_).mono (fun s hs => by rw [hs, List.take_length])
      rintro i s hi rfl
      have hx : (Pl l k).held[i]? = some (Pl l k).held[i] := List.getElem?_eq_getElem hi
      simp only [idx_nat, hx, Option.bind_some, goes_eq]
      have hle : (((Pl l k).held.take i).filter fun z => !G z.mode x.mode).length ≤ i := by
        refine Nat.le_trans (List.length_filter_le _ _) ?_
        simp
        omega
      rw [take_snoc hx, List.filter_append]
      cases hg : G (Pl l k).held[i].mode x.mode with
      | true => exact RB.ret (by simp [List.filter_cons, hg])
      | false =>
        simp only [Bool.not_false, cond_true]
        rw [app_le (by simp; omega)]
        exact RB.ret (by simp [List.filter_cons, hg])
    have hfl : ((Pl l k).held.filter fun z => !G z.mode x.mode).length ≤ (Pl l k).held.length := List.length_filter_le ..
    have hnd2 : ((A ++ (Pl l k).held.filter fun z => !G z.mode x.mode).map (·.who)).Nodup := by
      rw [List.map_append, List.nodup_append]
      have hq2 := hnd.2.1
      rw [hq, List.map_append, List.nodup_append] at hq2
      refine ⟨hq2.1, hnd.1.sublist (List.filter_sublist.map _), fun a ha b hb => ?_⟩
      have hb' := (List.filter_sublist.map (fun x : One => x.who)).subset hb
      have ha' : a ∈ (Pl l k).queue.map (·.who) := by rw [hq, List.map_append]; exact List.mem_append_left _ ha
      exact fun e => hnd.2.2 b hb' a ha' e.symm
    obtain ⟨r, hr, hperm, hlt⟩ := whos_val hnd2 (by simp; omega)
    refine ⟨k, A, x, B, r, hq, hw, ?_, hlt, fun y => ?_⟩
    · unfold mdl_Locks_Blockers
      rw [e]
      simp only [Option.bind_some, Bool.not_true, cond_false, pl_eq]
      rw [hfind]
      simp only [Option.bind_some]
      rw [hsub]
      simp only [Option.bind_some]
      rw [clone_eq (by omega)]
      simp only [Option.bind_some]
      rw [hfor]
      simp only [Option.bind_some]
      rw [hr]
      rfl
    · rw [hperm.mem_iff, List.map_append, List.mem_append]
      constructor
      · rintro (h1 | h1)
        · exact .inl h1
        · obtain ⟨z, hz, rfl⟩ := List.mem_map.1 h1
          rw [List.mem_filter] at hz
          exact .inr ⟨z, hz.1, rfl, by simpa using hz.2⟩
      · rintro (h1 | ⟨z, hz, rfl, hg⟩)
        · exact .inl h1
        · exact .inr (List.mem_map.2 ⟨z, List.mem_filter.2 ⟨hz, by simp [hg]⟩, rfl⟩)
end Go.Proofs.Ytdmefifamlpbiaa
