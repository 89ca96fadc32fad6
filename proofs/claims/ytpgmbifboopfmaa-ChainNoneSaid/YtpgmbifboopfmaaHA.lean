/- Plain laws: what the plain functions answer. Conditions: none. -/
import Derived.Test.YtpgmbifboopfmaaF3
set_option maxRecDepth 100000
namespace Go.Proofs.Ytpgmbifboopfmaa
open Go.Gv
abbrev Role := qJ
theorem keq : KEq sEq := fun a b => by
  rw [sEq_data]
  constructor
  · intro h
    have h := eq_of_beq h
    cases a; cases b
    simp only at h
    congr
    exact Array.toList_inj.1 h
  · rintro rfl
    simp
def ins (l : List Role) (n : By8) : List By8 := ((l.find? fun x => sEq x.Name n).map (·.In)).getD []
def has (l : List Role) (n : By8) : Prop := ∃ x ∈ l, x.Name = n
inductive Rch (l : List Role) (n : By8) : By8 → Prop
  | self : Rch l n n
  | step {a b : By8} : Rch l n a → b ∈ ins l a → has l b → Rch l n b
structure Up (l : List Role) (n : By8) (g : Bool) (all : List (By8 × Bool)) : Prop where
  nd : (all.map (·.1)).Nodup
  self : n ∈ all.map (·.1)
  so : ∀ k ∈ all.map (·.1), Rch l n k ∧ has l k
  tr : ∀ k, (mget sEq all k).getD false = true ↔ k ∈ all.map (·.1)
  cl : g = false → ∀ a ∈ all.map (·.1), ∀ b ∈ ins l a, has l b → b ∈ all.map (·.1)
theorem Up.len {l : List Role} {n : By8} {g : Bool} {all : List (By8 × Bool)} (h : Up l n g all) : all.length ≤ l.length := by
  have := List.Nodup.length_le_of_subset (l₂ := l.map (·.Name)) h.nd (fun k hk => by
    obtain ⟨x, hx, e⟩ := (h.so k hk).2
    exact List.mem_map.2 ⟨x, hx, e⟩)
  simpa using this
theorem sortS_perm (xs : List By8) : (sortS xs).Perm xs := by
  unfold sortS
  refine ((List.mergeSort_perm _ _).map ub).trans ?_
  rw [List.map_map]
  have : xs.map (ub ∘ bs) = xs := by
    have : ub ∘ bs = id := funext ub_bs
    rw [this, List.map_id]
  rw [this]
theorem bl_lt : ∀ (x y : List UInt8), Op.bytesLess x y = decide (x < y)
  | _, [] => by simp [Op.bytesLess]
  | [], y :: ys => by simp [Op.bytesLess]
  | x :: xs, y :: ys => by
    simp only [Op.bytesLess, bl_lt xs ys]
    rw [Bool.eq_iff_iff]
    simp only [List.cons_lt_cons_iff, decide_eq_true_eq, Bool.or_eq_true, Bool.and_eq_true, beq_iff_eq]
theorem sorted (xs : List By8) : (sortS xs).Pairwise (fun a b => sLt b a = false) := by
  unfold sortS
  rw [List.pairwise_map]
  refine (List.pairwise_mergeSort ?_ ?_ _).imp ?_
  · intro a b c h1 h2
    simp only [decide_eq_true_eq] at h1 h2 ⊢
    exact List.le_trans h1 h2
  · intro a b
    simp only [Bool.or_eq_true, decide_eq_true_eq]
    exact List.le_total a b
  · intro a b h
    have h := of_decide_eq_true h
    rw [sLt_data]
    show Op.bytesLess (bs (ub b)) (bs (ub a)) = false
    rw [bs_ub, bs_ub]
    cases hb : Op.bytesLess b a with
    | false => rfl
    | true =>
      exfalso
      have : b < a := by
        have e := bl_lt b a
        rw [hb] at e
        simpa using e.symm
      exact (List.not_lt.2 h) this
abbrev Asc (s : List By8) : Prop := s.Pairwise (fun a b => sLt a b = true)
theorem Asc.ins {A B : List By8} {x : By8} (hs : Asc (A ++ B)) (h1 : ∀ y ∈ A, sLt y x = true) (h2 : ∀ y ∈ B, sLt x y = true) : Asc (A ++ x :: B) := by
  have h := List.pairwise_append.1 hs
  refine List.pairwise_append.2 ⟨h.1, List.pairwise_cons.2 ⟨h2, h.2.1⟩, fun a ha b hb => ?_⟩
  rcases List.mem_cons.1 hb with rfl | hb
  · exact h1 a ha
  · exact h.2.2 a ha b hb
def Fst (l : List Role) (k : Nat) (n : By8) : Prop := ∃ A x B, l = A ++ x :: B ∧ x.Name = n ∧ (∀ y ∈ A, y.Name ≠ n) ∧ k = A.length
theorem Fst.get {l : List Role} {k : Nat} {n : By8} (h : Fst l k n) : ∃ x, l[k]? = some x ∧ x.Name = n ∧ x ∈ l ∧ ins l n = x.In := by
  obtain ⟨A, x, B, rfl, h2, h3, rfl⟩ := h
  refine ⟨x, by simp, h2, by simp, ?_⟩
  unfold ins
  rw [List.find?_append, List.find?_eq_none.2]
  · simp [(keq _ _).2 h2]
  · intro y hy hn
    exact h3 y hy ((keq _ _).1 hn)
theorem Fst.hs {l : List Role} {k : Nat} {n : By8} (h : Fst l k n) : has l n := by
  obtain ⟨x, _, h2, h3, _⟩ := h.get
  exact ⟨x, h3, h2⟩
structure Sd (l : List Role) (n : By8) (is : List Bool) : Prop where
  len : is.length = l.length
  so : ∀ k : Nat, is[k]? = some true → ∃ a, Fst l k a ∧ Rch l n a ∧ has l n
  self : ∀ k, Fst l k n → is[k]? = some true
def Mon (a b : List Bool) : Prop := ∀ k : Nat, a[k]? = some true → b[k]? = some true
theorem mon_set {is : List Bool} {j : Nat} : Mon is (is.set j true) := by
  intro k hk
  rw [List.getElem?_set]
  split
  · rename_i e
    subst e
    have := (List.getElem?_eq_some_iff.1 hk).1
    simp [this]
  · exact hk
theorem Sd.set {l : List Role} {n : By8} {is : List Bool} (h : Sd l n is) {j : Nat} {b : By8} (hj : Fst l j b) (hb : Rch l n b) (hn : has l n) : Sd l n (is.set j true) := by
  refine ⟨by simpa using h.len, fun k hk => ?_, fun k hk => mon_set k (h.self k hk)⟩
  rw [List.getElem?_set] at hk
  split at hk
  · rename_i e
    subst e
    exact ⟨b, hj, hb, hn⟩
  · exact h.so k hk
def Sml (c : Int) : Prop := 97 ≤ c ∧ c ≤ 122
def Wrd (c : Int) : Prop := (97 ≤ c ∧ c ≤ 122) ∨ (48 ≤ c ∧ c ≤ 57) ∨ c = 95
def Nmd (s : By8) : Prop := s.size ≤ 12 ∧ (∃ c, sAt s 0 = some c ∧ Sml c) ∧ ∀ (i : Nat) (c : Int), sAt s (i : Int) = some c → Wrd c
theorem sAt_lt {s : By8} {i : Nat} {c : Int} (h : sAt s (i : Int) = some c) : i < s.size := by
  unfold sAt at h
  rw [if_pos om, Int.toNat_natCast] at h
  cases hx : s[i]? with
  | none => rw [hx] at h; cases h
  | some b => exact (getElem?_eq_some_iff.1 hx).1
theorem Nmd.pos {s : By8} (h : Nmd s) : 0 < s.size := by
  obtain ⟨_, ⟨c, hc, _⟩, _⟩ := h
  exact sAt_lt (i := 0) hc
mutual
def esz (e : qE) : Nat := match e with | ⟨_, _, _, _, ks⟩ => 1 + eszL ks
def eszL (l : List qE) : Nat := match l with | [] => 0 | x :: xs => esz x + eszL xs
end
mutual
def eok (e : qE) : Prop := match e with | ⟨_, _, v, n, ks⟩ => n.size ≤ 100 ∧ v.S.size ≤ 100 ∧ eokL ks
def eokL (l : List qE) : Prop := match l with | [] => True | x :: xs => eok x ∧ eokL xs
end
theorem esz_eq (e : qE) : esz e = 1 + eszL e.Kids := by cases e; rw [esz]
theorem esz_mem {l : List qE} {x : qE} (h : x ∈ l) : esz x ≤ eszL l := by
  induction h with
  | head => rw [eszL]; omega
  | tail _ _ ih => rw [eszL]; omega
theorem kid_sz {e x : qE} (h : x ∈ e.Kids) : esz x < esz e := by
  have := esz_mem h
  rw [esz_eq e]
  omega
theorem esz_pos (e : qE) : 0 < esz e := by rw [esz_eq]; omega
theorem eszL_len : ∀ l : List qE, l.length ≤ eszL l
  | [] => Nat.zero_le _
  | x :: xs => by
    have := eszL_len xs
    have := esz_pos x
    rw [eszL]
    simp only [List.length_cons]
    omega
theorem take_next {α : Type} {xs : List α} {j : Nat} {x : α} (h : xs[j]? = some x) : xs.take (j + 1) = xs.take j ++ [x] := by
  rw [List.take_add_one, h]
  rfl
def Es (e : qE) : Prop := esz e ≤ 60 ∧ eok e
structure TB (n : Nat) (t : qT) : Prop where
  cols : t.Cols.length ≤ n
  cons : t.Cons.length ≤ n
  idx : t.Idx.length ≤ n
  nm : t.Name.size ≤ 100
  ow : t.Owner.size ≤ 100
  cn : ∀ x ∈ t.Cols, x.Name.size ≤ 100
  xs : ∀ x ∈ t.Cons, x.Name.size ≤ 100 ∧ x.Table.size ≤ 100 ∧ x.Cols.length ≤ n ∧ x.Refs.length ≤ n ∧ Es x.Check
  is : ∀ x ∈ t.Idx, x.Name.size ≤ 100 ∧ x.Cols.length ≤ n
theorem forN_q {σ τ : Type} {b : Prop} {step : Nat → σ → Option (σ ⊕ τ)} {n : Nat} {s : σ} {Q : τ → Prop} (hs : ∀ j s, j < n → RB b (step j s) (fun r => match r with | .inl _ => True | .inr t => Q t)) :
    RB b (forN step n 0 s) (fun r => match r with | .inl _ => True | .inr t => Q t) := forN_ret (fun _ _ => True) trivial fun j s hj _ => hs j s hj
def NE (t : qT) : Prop := ∀ x ∈ t.Cons, x.Kind = 1 → x.Cols ≠ []
def TN (n : Nat) (t : qT) : Prop := TB n t ∧ NE t
structure CB (n : Nat) (c : qC) : Prop where
  tabs : c.Tables.length ≤ n
  ok : ∀ t ∈ c.Tables, TN n t
  grants : c.Grants.length ≤ n
def tI (c : qC) (n : By8) : Int := match c.Tables.findIdx? (fun x => sEq x.Name n) with | some j => (j : Int) | none => -1
theorem tI_get {c : qC} {n : By8} (h : 0 ≤ tI c n) : ∃ (k : Nat) (t : qT), tI c n = (k : Int) ∧ c.Tables[k]? = some t ∧ t ∈ c.Tables ∧ c.Tables.findIdx? (fun x => sEq x.Name n) = some k := by
  unfold tI at h ⊢
  cases e : c.Tables.findIdx? (fun x => sEq x.Name n) with
  | none => rw [e] at h; simp at h
  | some k =>
    obtain ⟨hk, _, _⟩ := List.findIdx?_eq_some_iff_getElem.1 e
    exact ⟨k, c.Tables[k], rfl, gE hk, List.getElem_mem hk, rfl⟩
def RO (n : Nat) (l : List Role) : Prop := l.length ≤ 8 ∧ ∀ x ∈ l, x.In.length ≤ n ∧ x.Name.size ≤ 100
def CI (n : Nat) (c : qC) : Prop := CB n c ∧ RO n c.Roles
theorem set_same {α : Type} {xs : List α} {i : Nat} {x : α} (h : xs[i]? = some x) : xs.set i x = xs := by
  refine List.ext_getElem? fun j => ?_
  rw [List.getElem?_set]
  by_cases e : i = j
  · subst e
    have := (List.getElem?_eq_some_iff.1 h).1
    rw [if_pos rfl, if_pos this, h]
  · rw [if_neg e]
theorem clone_str {l : List By8} (h : l.length ≤ 1000) : slices_Clone_string l = some l := by
  unfold slices_Clone_string
  rw [app_le (by simp; omega)]
  rfl
theorem eclone_fu {b : Prop} : ∀ (n : Nat) (e : qE), esz e ≤ 1000 → (b → esz e ≤ n) → RB b (expr_Clone_fu n e) (fun r => r = e)
  | 0, e, _, h => RB.none fun hb => by have := h hb; have := esz_pos e; omega
  | n + 1, e, hz, h => by
    have hkl := eszL_len e.Kids
    have h1 := esz_eq e
    unfold expr_Clone_fu
    refine yae (forE_ret (fun j (s : List qE) => s = e.Kids.take j) (by simp) ?_) fun s hs => ?_
    · rintro j s hj rfl
      refine RB.at hj fun x hx hm => yae (eclone_fu n x (by have := kid_sz hm; omega) fun hb => by have := h hb; have := kid_sz hm; omega) fun r hr => ?_
      have hr : r = x := hr
      subst hr
      exact RB.ap (by simp only [List.length_cons, List.length_nil, List.length_take]; omega) (y5 (take_next hx).symm)
    · have hs : s = e.Kids.take e.Kids.length := hs
      rw [List.take_length] at hs
      subst hs
      exact y5 (by cases e; rfl)
theorem eclone_eq {e : qE} (hz : esz e ≤ 1000) : expr_Clone e = some e := by
  unfold expr_Clone
  exact Ret.eq (fuel_tt (esz e) fun n => eclone_fu n e hz fun h => h)
theorem tclone_eq {n : Nat} {t : qT} (h : TB n t) (hn : n ≤ 1000) : table_Clone t = some t := by
  have h1 := h.cols
  have h2 := h.cons
  have h3 := h.idx
  unfold table_Clone slices_Clone_qL slices_Clone_qK slices_Clone_qI
  rw [app_le (by simp; omega), app_le (by simp; omega), app_le (by simp; omega)]
  simp only [obs, List.nil_append]
  have c1 : ∀ j s, j < t.Cons.length → s = t.Cons → (idx s (j : Int)).bind (fun (x45 : qK) => (slices_Clone_string x45.Cols).bind (fun (r59 : List By8) => (slices_Clone_string x45.Refs).bind (fun (r65 : List By8) => (expr_Clone x45.Check).bind (fun (r71 : qE) => (idx s (j : Int)).bind (fun (x72 : qK) => (idx (s.set ((j : Int)).toNat ({ x72 with Cols := r59 })) (j : Int)).bind (fun (x85 : qK) => (idx ((s.set ((j : Int)).toNat ({ x72 with Cols := r59 })).set ((j : Int)).toNat ({ x85 with Refs := r65 })) (j : Int)).bind (fun (x97 : qK) => some (((s.set ((j : Int)).toNat ({ x72 with Cols := r59 })).set ((j : Int)).toNat ({ x85 with Refs := r65 })).set ((j : Int)).toNat ({ x97 with Check := r71 }))))))))) = some t.Cons := by
    rintro j s hj rfl
    have hx : t.Cons[j]? = some t.Cons[j] := gE hj
    obtain ⟨_, _, x1, x2, x3⟩ := h.xs _ (List.getElem_mem hj)
    generalize t.Cons[j] = x at hx x1 x2 x3
    have e1 : t.Cons.set ((j : Int)).toNat x = t.Cons := set_same (by simpa using hx)
    simp only [idx_nat, hx, obs, clone_str (show x.Cols.length ≤ 1000 by omega), clone_str (show x.Refs.length ≤ 1000 by omega), eclone_eq (Nat.le_trans x3.1 om : esz x.Check ≤ 1000), e1]
  have c2 : ∀ j s, j < t.Idx.length → s = t.Idx → (idx s (j : Int)).bind (fun (x134 : qI) => (slices_Clone_string x134.Cols).bind (fun (r148 : List By8) => (idx s (j : Int)).bind (fun (x149 : qI) => some (s.set ((j : Int)).toNat ({ x149 with Cols := r148 }))))) = some t.Idx := by
    rintro j s hj rfl
    have hx : t.Idx[j]? = some t.Idx[j] := gE hj
    obtain ⟨_, x1⟩ := h.is _ (List.getElem_mem hj)
    generalize t.Idx[j] = x at hx x1
    have e1 : t.Idx.set ((j : Int)).toNat x = t.Idx := set_same (by simpa using hx)
    simp only [idx_nat, hx, obs, clone_str (show x.Cols.length ≤ 1000 by omega), e1]
  refine Ret.eq (yae (forE_ret (fun _ s => s = t.Cons) rfl fun j s hj hs => RB.of (c1 j s hj hs) rfl) fun s hs => yae (forE_ret (fun _ s => s = t.Idx) rfl fun j s hj hs => RB.of (c2 j s hj hs) rfl) fun u hu => ?_)
  have hs : s = t.Cons := hs
  have hu : u = t.Idx := hu
  rw [hs, hu]
  exact y5 rfl
theorem cfind_eq {n : Nat} {c : qC} (h : CB n c) (hn : n ≤ 1000) (nm : By8) : (tI c nm < 0 ∧ catalog_Find c nm = some (z_qT, false)) ∨ ∃ t, 0 ≤ tI c nm ∧ idx c.Tables (tI c nm) = some t ∧ catalog_Find c nm = some (t, true) := by
  have hf : slices_IndexFunc_qT c.Tables (fun (u0 : qT) => catalog_Find_1 u0 nm) = some (tI c nm) := by
    unfold slices_IndexFunc_qT tI
    rw [forN_find (fun (x : qT) => sEq x.Name nm) (fun j => (j : Int)) (fun j x hx => by rw [idx_nat, hx]; unfold catalog_Find_1; simp only [obs]; cases sEq x.Name nm <;> rfl)]
    cases c.Tables.findIdx? (fun x => sEq x.Name nm) <;> rfl
  unfold catalog_Find
  rw [hf]
  simp only [obs]
  by_cases h0 : 0 ≤ tI c nm
  · right
    obtain ⟨k, t, hk, ht, hm, _⟩ := tI_get h0
    refine ⟨t, h0, by rw [hk, idx_nat]; exact ht, ?_⟩
    rw [show decide (tI c nm ≥ 0) = true by simpa using h0, hk, idx_nat, ht]
    simp only [obs, cond_true, tclone_eq (h.ok t hm).1 hn]
  · left
    rw [show decide (tI c nm ≥ 0) = false by simpa using h0]
    exact ⟨by omega, rfl⟩
theorem RB.no {α : Type} {m : Option α} : RB False m TT := ⟨fun h => h.elim, fun _ _ => trivial⟩
abbrev kk (g : qG) : By8 × By8 × By8 × Int := (g.To, g.By, g.Table, g.Priv)
def UQ (l : List qG) : Prop := l.Pairwise fun g h => kk g ≠ kk h
theorem UQ.map {l m : List qG} (h : UQ l) (e : m.map kk = l.map kk) : UQ m := by
  have h2 : (l.map kk).Pairwise (· ≠ ·) := List.pairwise_map.2 h
  rw [← e] at h2
  exact List.pairwise_map.1 h2
def VB (c : qC) : Prop := 0 ≤ c.Version ∧ c.Version ≤ 1000
theorem chk_val (h : chain_Chain) (w : Int) : chain_Chain_check h w = some (if 1 ≤ w ∧ w ≤ 8 then 0 else 2) := by
  unfold chain_Chain_check chain_Chain_dead
  simp only [obs]
  by_cases hw : 1 ≤ w ∧ w ≤ 8
  · rw [if_pos hw, show (decide (w < 1) || decide (w > 8)) = false by simp; omega]
    rfl
  · rw [if_neg hw, show (decide (w < 1) || decide (w > 8)) = true by simp; omega]
    rfl
theorem le_lt {a b c : By8} (h1 : sLt b a = false) (h2 : sLt b c = true) : sLt a c = true := by
  rcases sLt_total a b with h | h | h
  · exact sLt_trans h h2
  · rw [h]; exact h2
  · rw [h1] at h; cases h
theorem step_lt {L : List By8} (hs : L.Pairwise fun a b => sLt b a = false) {j : Nat} {x y : By8} (hx : L[j]? = some x) (hy : L[j + 1]? = some y) (hne : x ≠ y) : ∀ z ∈ L.take (j + 1), sLt z y = true := by
  obtain ⟨h1, rfl⟩ := List.getElem?_eq_some_iff.1 hx
  obtain ⟨h2, rfl⟩ := List.getElem?_eq_some_iff.1 hy
  have hxy : sLt L[j] L[j + 1] = true := by
    have := List.pairwise_iff_getElem.1 hs j (j + 1) h1 h2 om
    rcases sLt_total L[j] L[j + 1] with h | h | h
    · exact h
    · exact absurd h hne
    · rw [this] at h; cases h
  intro z hz
  obtain ⟨i, hi, rfl⟩ := List.mem_take_iff_getElem.1 hz
  by_cases e : i = j
  · subst e; exact hxy
  · exact le_lt (List.pairwise_iff_getElem.1 hs i j om h1 om) hxy
theorem compact_val {L : List By8} (hs : L.Pairwise fun a b => sLt b a = false) (hl : L.length ≤ 100000) : ∃ y, slices_Compact_string L = some y ∧ Asc y ∧ y.length ≤ L.length ∧ ∀ n, n ∈ y ↔ n ∈ L := by
  refine Ret.ex ?_
  unfold slices_Compact_string
  refine yah (fun hc => y5 ⟨?_, Nat.le_refl _, fun n => Iff.rfl⟩) fun hc => ?_
  · have hc : L.length < 2 := by simp only [decide_eq_true_eq] at hc; omega
    match L, hc with
    | [], _ => exact List.Pairwise.nil
    | [x], _ => exact List.pairwise_singleton _ _
  have hc : 2 ≤ L.length := by simp only [decide_eq_false_iff_not] at hc; omega
  refine yae (R := fun (t : List By8 ⊕ List By8) => match t with | .inl y => Asc y ∧ y.length ≤ L.length ∧ ∀ n, n ∈ y ↔ n ∈ L | .inr y => Asc y ∧ y.length ≤ L.length ∧ ∀ n, n ∈ y ↔ n ∈ L)
    (loopO_rb (fun (s : Int × List By8) => ∃ k : Nat, s.1 = (k : Int) ∧ 1 ≤ k ∧ k ≤ L.length ∧ s.2 = L ∧ Asc (L.take k)) (fun s => L.length - s.1.toNat) ?_ ⟨1, rfl, by omega, by omega, rfl, ?_⟩) ?_
  rotate_left
  · obtain ⟨x, r, e⟩ := List.exists_cons_of_ne_nil (show L ≠ [] by rintro rfl; simp at hc)
    rw [e]
    exact List.pairwise_singleton _ _
  · rintro (y | y) h <;> exact y5 h
  rintro ⟨_, s⟩ ⟨k, rfl, k1, kl, rfl, hk⟩
  simp only at kl hk hl hs hc ⊢
  refine yah (fun hlt => ?_) fun hlt => ?_
  rotate_left
  · have : k = s.length := by simp only [decide_eq_false_iff_not] at hlt; omega
    subst this
    rw [List.take_length] at hk
    exact y5 ⟨hk, Nat.le_refl _, fun n => Iff.rfl⟩
  have hlt : k < s.length := by simp only [decide_eq_true_eq] at hlt; omega
  have ek : w64 ((k : Int) - 1) = ((k - 1 : Nat) : Int) := by rw [w64_id om om]; omega
  have ekk : w64 ((k : Int) + 1) = ((k + 1 : Nat) : Int) := by rw [w64_id om om]; rfl
  refine RB.at hlt fun x hx _ => ?_
  rw [ek, ekk]
  refine RB.at om fun x' hx' _ => yah (fun he => ?_) fun he => ?_
  rotate_left
  · refine y5 ⟨⟨k + 1, rfl, by omega, by omega, rfl, ?_⟩, by simp only [Int.toNat_natCast]; omega⟩
    have hne : x' ≠ x := by
      rintro rfl
      rw [sEq_iff.2 rfl] at he
      cases he
    rw [take_snoc hx]
    refine List.pairwise_append.2 ⟨hk, List.pairwise_singleton _ _, fun a ha b hb => ?_⟩
    simp only [List.mem_singleton] at hb
    subst hb
    have := step_lt hs (j := k - 1) hx' (by rw [show k - 1 + 1 = k by omega]; exact hx) hne
    rw [show k - 1 + 1 = k by omega] at this
    exact this a ha
  have he : x' = x := (sEq_iff.1 he).symm
  subst he
  rw [sub_at (i := k) (j := s.length) rfl rfl om (Nat.le_refl _)]
  refine yam ?_
  have hL : s.length ≤ 100000 := hl
  refine yae (R := fun (t : Int × List By8) => ∃ wr : Nat, t.1 = (wr : Int) ∧ wr ≤ t.2.length ∧ t.2.length = s.length ∧ Asc (t.2.take wr) ∧ ∀ n, n ∈ t.2.take wr ↔ n ∈ s)
    (loopO_rb (fun (t : Int × Int × List By8) => ∃ wr k2 : Nat, t.1 = (wr : Int) ∧ t.2.1 = (k2 : Int) ∧ 1 ≤ k2 ∧ k ≤ wr ∧ wr ≤ k + k2 - 1 ∧ k + k2 ≤ s.length ∧ t.2.2.length = s.length ∧ (∀ i, k + k2 - 1 ≤ i → t.2.2[i]? = s[i]?) ∧ Asc (t.2.2.take wr) ∧ ∀ n, n ∈ t.2.2.take wr ↔ n ∈ s.take (k + k2))
      (fun t => s.length - t.2.1.toNat) ?_ ⟨k, 1, rfl, rfl, by omega, by omega, by omega, by omega, rfl, fun _ _ => rfl, hk, fun n => ?_⟩) ?_
  · rintro ⟨_, _, u⟩ ⟨wr, k2, rfl, rfl, a1, a2, a3, a4, a5, a6, a7, a8⟩
    simp only at a5 a6 a7 a8 ⊢
    rw [Int.toNat_natCast]
    refine yah (fun h2 => ?_) fun h2 => ?_
    · have h2 : k + k2 < s.length := by simp only [decide_eq_true_eq] at h2; omega
      have e1 : w64 ((k2 : Int) - 1) = ((k2 - 1 : Nat) : Int) := by rw [w64_id om om]; omega
      have e2 : w64 ((k2 : Int) + 1) = ((k2 + 1 : Nat) : Int) := by rw [w64_id om om]; rfl
      have e3 : w64 ((wr : Int) + 1) = ((wr + 1 : Nat) : Int) := by rw [w64_id om om]; rfl
      have g1 : s[k + k2]? = some s[k + k2] := gE h2
      have g2 : s[k + k2 - 1]? = some s[k + k2 - 1] := gE om
      have v1 : vidx u k (k2 : Int) = some s[k + k2] := by
        unfold vidx
        rw [if_pos om]
        exact idx_at (j := k + k2) om (by rw [a6 _ om, g1])
      have v2 : vidx u k ((k2 - 1 : Nat) : Int) = some s[k + k2 - 1] := by
        unfold vidx
        rw [if_pos om]
        exact idx_at (j := k + k2 - 1) om (by rw [a6 _ om, g2])
      have hwl : wr < u.length := by omega
      rw [e1, e2, e3, v1, v2]
      refine yam (yam ?_)
      refine yae (R := fun (t : Int × List By8) => ∃ wr' : Nat, t.1 = (wr' : Int) ∧ k ≤ wr' ∧ wr' ≤ k + k2 ∧ t.2.length = s.length ∧ (∀ i, k + k2 ≤ i → t.2[i]? = s[i]?) ∧ Asc (t.2.take wr') ∧ ∀ n, n ∈ t.2.take wr' ↔ n ∈ s.take (k + k2 + 1)) (yah (fun hd => ?_) fun hd => ?_) ?_
      · rw [idx_mem hwl]
        refine yam (y5 ⟨wr + 1, rfl, by omega, by omega, by simp only [List.length_set]; exact a5, fun i hi => ?_, ?_, fun n => ?_⟩)
        · simp only [Int.toNat_natCast]
          rw [List.getElem?_set, if_neg om]
          exact a6 i om
        · simp only [Int.toNat_natCast]
          rw [take_snoc (x := s[k + k2]) (by rw [List.getElem?_set, if_pos rfl, if_pos hwl]), List.take_set_of_le om]
          refine List.pairwise_append.2 ⟨a7, List.pairwise_singleton _ _, fun a ha b hb => ?_⟩
          simp only [List.mem_singleton] at hb
          subst hb
          have hne : s[k + k2 - 1] ≠ s[k + k2] := by
            intro e
            rw [e, sEq_iff.2 rfl] at hd
            cases hd
          have := step_lt hs (j := k + k2 - 1) g2 (by rw [show k + k2 - 1 + 1 = k + k2 by omega]; exact g1) hne
          rw [show k + k2 - 1 + 1 = k + k2 by omega] at this
          exact this a ((a8 a).1 ha)
        · simp only [Int.toNat_natCast]
          rw [take_snoc (x := s[k + k2]) (by rw [List.getElem?_set, if_pos rfl, if_pos hwl]), List.take_set_of_le om, take_snoc g1, List.mem_append, List.mem_append, a8]
      · refine y5 ⟨wr, rfl, by omega, by omega, a5, fun i hi => a6 i om, a7, fun n => ?_⟩
        have he2 : s[k + k2] = s[k + k2 - 1] := sEq_iff.1 (by simpa using hd)
        rw [take_snoc g1, List.mem_append, a8]
        constructor
        · exact .inl
        · rintro (h | h)
          · exact h
          · simp only [List.mem_singleton] at h
            rw [h, he2]
            exact List.mem_take_iff_getElem.2 ⟨k + k2 - 1, by omega, rfl⟩
      · rintro ⟨_, u'⟩ ⟨wr', rfl, b1, b2, b3, b4, b5, b6⟩
        exact y5 ⟨⟨wr', k2 + 1, rfl, rfl, by omega, b1, by omega, by omega, b3, fun i hi => b4 i om, b5, fun n => by rw [b6]; rfl⟩, by simp only [Int.toNat_natCast]; omega⟩
    · have h2 : k + k2 = s.length := by simp only [decide_eq_false_iff_not] at h2; omega
      refine y5 ⟨wr, rfl, by simp only; omega, a5, a7, fun n => ?_⟩
      simp only
      rw [a8, h2, List.take_length]
  · rw [take_snoc hx, List.mem_append]
    constructor
    · exact .inl
    · rintro (h | h)
      · exact h
      · simp only [List.mem_singleton] at h
        rw [h]
        obtain ⟨q1, q2⟩ := List.getElem?_eq_some_iff.1 hx'
        rw [← q2]
        exact List.mem_take_iff_getElem.2 ⟨k - 1, by show k - 1 < min k s.length; omega, rfl⟩
  · rintro ⟨_, u⟩ ⟨wr, rfl, b1, b2, b3, b4⟩
    simp only at b1 b2 b3 b4 ⊢
    rw [sub_at (i := wr) (j := u.length) rfl rfl b1 (Nat.le_refl _)]
    refine yam ?_
    have hl2 : (u.take wr).length = wr := by rw [List.length_take]; omega
    rw [sub_at (lo := 0) (i := 0) (j := wr) rfl rfl om (by simp; omega)]
    refine yam (y5 ?_)
    simp only [Int.toNat_natCast, List.drop_zero]
    rw [List.take_append_of_le_length om, List.take_of_length_le om]
    exact ⟨b3, by omega, b4⟩
theorem sorted_val {l : List By8} (h : l.length ≤ 50000) : ∃ y, chain_sorted l = some y ∧ Asc y ∧ y.length ≤ l.length ∧ ∀ n, n ∈ y ↔ n ∈ l := by
  unfold chain_sorted slices_Clone_string
  rw [app_le (by simp; omega)]
  simp only [obs, List.nil_append]
  have e : sortSO l = some (sortS l) := by unfold sortSO; rw [if_pos om]
  obtain ⟨y, y1, y2, y3, y4⟩ := compact_val (L := sortS l) (sorted l) (by rw [sortS_len]; omega)
  rw [e]
  simp only [obs]
  rw [y1]
  exact ⟨y, rfl, y2, by rw [sortS_len] at y3; exact y3, fun n => by rw [y4]; exact (sortS_perm l).mem_iff⟩
theorem same_list {α : Type} {xs ys : List α} {step : Nat → Unit → Option (Unit ⊕ Bool)} (hl : xs.length = ys.length) (h : ∀ j x y, xs[j]? = some x → ys[j]? = some y → (x = y → step j () = some (.inl ())) ∧ (x ≠ y → step j () = some (.inr false))) :
    (xs = ys ∧ forN step xs.length 0 () = some (.inl ())) ∨ (xs ≠ ys ∧ forN step xs.length 0 () = some (.inr false)) := by
  have key : ∀ (us vs : List α) (i : Nat), us.length = vs.length → (∀ j, us[j]? = xs[i + j]?) → (∀ j, vs[j]? = ys[i + j]?) → (us = vs ∧ forN step us.length i () = some (.inl ())) ∨ (us ≠ vs ∧ forN step us.length i () = some (.inr false)) := by
    intro us
    induction us with
    | nil =>
      intro vs i hlen _ _
      have : vs = [] := List.eq_nil_of_length_eq_zero (by simpa using hlen.symm)
      exact .inl ⟨this.symm, rfl⟩
    | cons a us ih =>
      intro vs i hlen ha hb
      match vs, hlen with
      | b :: vs, hlen =>
        obtain ⟨h1, h2⟩ := h i a b (by have := ha 0; simpa using this.symm) (by have := hb 0; simpa using this.symm)
        by_cases e : a = b
        · subst e
          simp only [List.length_cons, forN, h1 rfl, obs]
          rcases ih vs (i + 1) (by simpa using hlen) (fun j => by have := ha (j + 1); rw [show i + (j + 1) = i + 1 + j by omega] at this; simpa using this) (fun j => by have := hb (j + 1); rw [show i + (j + 1) = i + 1 + j by omega] at this; simpa using this) with ⟨e1, e2⟩ | ⟨e1, e2⟩
          · exact .inl ⟨by rw [e1], e2⟩
          · exact .inr ⟨fun e => e1 (List.cons.inj e).2, e2⟩
        · simp only [List.length_cons, forN, h2 e, obs]
          exact .inr ⟨fun q => e (List.cons.inj q).1, trivial⟩
  exact key xs ys 0 hl (fun j => by rw [Nat.zero_add]) (fun j => by rw [Nat.zero_add])
theorem same_bind {α : Type} {xs ys : List α} {step : Nat → Unit → Option (Unit ⊕ Bool)} {f : Unit ⊕ Bool → Option Bool} (hl : xs.length = ys.length) (h : ∀ j x y, xs[j]? = some x → ys[j]? = some y → (x = y → step j () = some (.inl ())) ∧ (x ≠ y → step j () = some (.inr false)))
    (f1 : f (.inl ()) = some true) (f2 : f (.inr false) = some false) : ∃ b, (forN step xs.length 0 ()).bind f = some b ∧ (b = true ↔ xs = ys) := by
  rcases same_list hl h with ⟨e1, e2⟩ | ⟨e1, e2⟩
  · rw [e2]; exact ⟨true, f1, by simp [e1]⟩
  · rw [e2]; exact ⟨false, f2, by simp [e1]⟩
theorem len_ne {α : Type} {xs ys : List α} : ((xs.length : Int) != (ys.length : Int)) = true → xs ≠ ys := by
  rintro h rfl
  simp at h
theorem len_eq {α : Type} {xs ys : List α} (h : ((xs.length : Int) != (ys.length : Int)) = false) : xs.length = ys.length := by
  have : ((xs.length : Int)) = (ys.length : Int) := by simpa using h
  omega
theorem strs_val (xs ys : List By8) : ∃ b, slices_Equal_string xs ys = some b ∧ (b = true ↔ xs = ys) := by
  unfold slices_Equal_string
  cases hc : ((xs.length : Int) != (ys.length : Int)) with
  | true => exact ⟨false, rfl, by simp [len_ne hc]⟩
  | false =>
    simp only [cond_false]
    refine same_bind (len_eq hc) (fun j x y hx hy => ?_) rfl rfl
    simp only [idx_nat, hx, hy, obs]
    exact ⟨fun e => by subst e; rw [sEq_iff.2 rfl]; rfl, fun e => by rw [show sEq x y = false from Bool.eq_false_iff.2 fun h => e (sEq_iff.1 h)]; rfl⟩
theorem eqR_val (xs ys : List qJ) : ∃ b, slices_EqualFunc_qJ_l xs ys (fun u0 u1 => chain_sameRoles_1 u0 u1) = some b ∧ (b = true ↔ xs = ys) := by
  unfold slices_EqualFunc_qJ_l
  cases hc : ((xs.length : Int) != (ys.length : Int)) with
  | true => exact ⟨false, rfl, by simp [len_ne hc]⟩
  | false =>
    simp only [cond_false]
    refine same_bind (len_eq hc) (fun j x y hx hy => ?_) rfl rfl
    simp only [idx_nat, hx, hy, obs]
    obtain ⟨b, hb, hi⟩ := strs_val x.In y.In
    have hv : chain_sameRoles_1 x y = some (sEq x.Name y.Name && b) := by
      unfold chain_sameRoles_1
      rw [hb]
      cases sEq x.Name y.Name <;> rfl
    rw [hv]
    simp only [obs]
    constructor
    · rintro rfl
      rw [sEq_iff.2 rfl, hi.2 rfl]
      rfl
    · intro e
      have : (sEq x.Name y.Name && b) = false := Bool.eq_false_iff.2 fun h => by
        simp only [Bool.and_eq_true] at h
        obtain ⟨n1, i1⟩ := x
        obtain ⟨n2, i2⟩ := y
        have h1 : n1 = n2 := sEq_iff.1 h.1
        have h2 : i1 = i2 := hi.1 h.2
        subst h1 h2
        exact e rfl
      rw [this]
      rfl
theorem sameR_val (xs ys : List qJ) : ∃ b, chain_sameRoles xs ys = some b ∧ (b = true ↔ xs = ys) := by
  obtain ⟨b, h1, h2⟩ := eqR_val xs ys
  exact ⟨b, by unfold chain_sameRoles; rw [h1]; rfl, h2⟩
theorem grant_eq (x y : qG) : (sEq x.To y.To && (sEq x.By y.By && (sEq x.Table y.Table && ((x.Priv == y.Priv) && (x.Option == y.Option))))) = true ↔ x = y := by
  obtain ⟨a1, a2, a3, a4, a5⟩ := x
  obtain ⟨b1, b2, b3, b4, b5⟩ := y
  simp only [Bool.and_eq_true, sEq_iff, beq_iff_eq, qG.mk.injEq]
theorem sameG_val (xs ys : List qG) : ∃ b, slices_Equal_qG xs ys = some b ∧ (b = true ↔ xs = ys) := by
  unfold slices_Equal_qG
  cases hc : ((xs.length : Int) != (ys.length : Int)) with
  | true => exact ⟨false, rfl, by simp [len_ne hc]⟩
  | false =>
    simp only [cond_false]
    refine same_bind (len_eq hc) (fun j x y hx hy => ?_) rfl rfl
    simp only [idx_nat, hx, hy, obs]
    exact ⟨fun e => by rw [(grant_eq x y).2 e]; rfl, fun e => by rw [show (sEq x.To y.To && (sEq x.By y.By && (sEq x.Table y.Table && ((x.Priv == y.Priv) && (x.Option == y.Option))))) = false from Bool.eq_false_iff.2 fun h => e ((grant_eq x y).1 h)]; rfl⟩
def tG (c : qC) (n : By8) : Option qT := if 0 ≤ tI c n then c.Tables[(tI c n).toNat]? else none
def mB (b : qC) (t : qT) : Bool := match tG b t.Name with
  | none => true
  | some u => (u.Version != t.Version) || (!sEq u.Owner t.Owner)
theorem missing_val {n m : Nat} {a b : qC} (ha : CB n a) (hb : CB m b) (hn : n ≤ 1000) (hm : m ≤ 1000) : chain_missing a b = some ((a.Tables.filter (mB b)).map (·.Name)) := by
  have hta := ha.tabs
  unfold chain_missing
  refine Ret.eq (yae (R := fun s => s = (a.Tables.filter (mB b)).map (·.Name)) ?_ fun s hs => y5 hs)
  have h0 := forE_ret (b := True) (step := fun (i13 : Nat) (s12 : List By8) => (idx a.Tables (i13 : Int)).bind (fun x25 => (catalog_Find b x25.Name).bind (fun (r37, r38) => (some (((!r38) || (r37.Version != x25.Version)) || (!sEq r37.Owner x25.Owner))).bind (fun (q47 : Bool) => ((bif q47 then (app 16 s12 ([x25.Name] : List By8)).bind (fun x62 => some x62) else some s12)).bind (fun (j50 : List By8) => some j50))))) (fun j (s : List By8) => s = ((a.Tables.take j).filter (mB b)).map (·.Name)) (n := a.Tables.length) (s := []) (by simp) ?_
  · rw [List.take_length] at h0
    exact h0
  rintro j s hj rfl
  refine RB.at hj fun x hx _ => ?_
  have hq : ∃ u v, catalog_Find b x.Name = some (u, v) ∧ (((!v) || (u.Version != x.Version)) || (!sEq u.Owner x.Owner)) = mB b x := by
    rcases cfind_eq hb hm x.Name with ⟨h0, e⟩ | ⟨t, h0, ht, e⟩
    · refine ⟨_, _, e, ?_⟩
      unfold mB tG
      rw [if_neg om]
      simp
    · refine ⟨_, _, e, ?_⟩
      unfold mB tG
      rw [if_pos h0, (idx_some ht).2.2]
      simp
  obtain ⟨u, v, e1, e2⟩ := hq
  rw [e1]
  refine yam ?_
  dsimp only
  rw [e2]
  refine yam ?_
  have hlen : (((a.Tables.take j).filter (mB b)).map (·.Name)).length ≤ 1000 := by
    rw [List.length_map]
    have h1 := List.length_filter_le (mB b) (a.Tables.take j)
    have h2 : (a.Tables.take j).length ≤ a.Tables.length := List.length_take_le' ..
    omega
  refine yae (R := fun (s : List By8) => s = ((a.Tables.take (j + 1)).filter (mB b)).map (·.Name)) (yah (fun hc => ?_) fun hc => y5 ?_) fun s hs => y5 hs
  · refine RB.ap (by simp only [List.length_singleton]; omega) (y5 ?_)
    rw [take_snoc hx, List.filter_append, List.map_append]
    simp [hc]
  · rw [take_snoc hx, List.filter_append, List.map_append]
    simp [hc]
abbrev dol : By8 := ⟨#[36]⟩
def Ch (a b : qC) (n : By8) : Prop := (∃ t ∈ a.Tables, t.Name = n ∧ mB b t = true) ∨ (∃ t ∈ b.Tables, t.Name = n ∧ mB a t = true) ∨ (n = dol ∧ ¬ (a.Roles = b.Roles ∧ a.Grants = b.Grants))
theorem Ch.symm {a b : qC} {n : By8} (h : Ch a b n) : Ch b a n := by
  rcases h with h | h | ⟨h1, h2⟩
  · exact .inr (.inl h)
  · exact .inl h
  · exact .inr (.inr ⟨h1, fun ⟨e1, e2⟩ => h2 ⟨e1.symm, e2.symm⟩⟩)
theorem mem_missing {a b : qC} {n : By8} : n ∈ (a.Tables.filter (mB b)).map (·.Name) ↔ ∃ t ∈ a.Tables, t.Name = n ∧ mB b t = true := by
  simp only [List.mem_map, List.mem_filter]
  exact ⟨fun ⟨t, ⟨h1, h2⟩, h3⟩ => ⟨t, h1, h3, h2⟩, fun ⟨t, h1, h3, h2⟩ => ⟨t, ⟨h1, h2⟩, h3⟩⟩
theorem changed_val (h : chain_Chain) {a b : qC} (ha : CI 60 a) (hb : CI 60 b) : ∃ ch, chain_Chain_Changed h a b = some ch ∧ Asc ch ∧ ch.length ≤ 121 ∧ ∀ n, n ∈ ch ↔ Ch a b n := by
  have ta := ha.1.tabs
  have tb := hb.1.tabs
  have l1 := List.length_filter_le (mB b) a.Tables
  have l2 := List.length_filter_le (mB a) b.Tables
  refine Ret.ex ?_
  unfold chain_Chain_Changed
  rw [missing_val ha.1 hb.1 om om, missing_val hb.1 ha.1 om om]
  refine yam (yam (RB.ap (by simp only [List.length_map]; omega) ?_))
  obtain ⟨x, x1, x2⟩ := sameR_val a.Roles b.Roles
  obtain ⟨y, y1, y2⟩ := sameG_val a.Grants b.Grants
  rw [x1, y1]
  refine yam (yae (R := fun q => q = true ↔ ¬ (a.Roles = b.Roles ∧ a.Grants = b.Grants)) (yah (fun hc => y5 ?_) fun hc => yam (y5 ?_)) fun q hq => ?_)
  · have : ¬ a.Roles = b.Roles := fun e => by rw [x2.2 e] at hc; cases hc
    simp [this]
  · have : a.Roles = b.Roles := x2.1 (by simpa using hc)
    rw [Bool.not_eq_true', ← Bool.not_eq_true, y2]
    simp [this]
  refine yae (R := fun (l : List By8) => l.length ≤ 121 ∧ ∀ n, n ∈ l ↔ Ch a b n) (yah (fun hc => RB.ap (by simp only [List.length_append, List.length_map, List.length_singleton]; omega) (y5 ⟨by simp only [List.length_append, List.length_map, List.length_singleton]; omega, fun n => ?_⟩)) fun hc => y5 ⟨by simp only [List.length_append, List.length_map]; omega, fun n => ?_⟩) ?_
  · rw [List.mem_append, List.mem_append, mem_missing, mem_missing, List.mem_singleton]
    unfold Ch
    have := hq.1 hc
    constructor
    · rintro ((h | h) | h)
      · exact .inl h
      · exact .inr (.inl h)
      · exact .inr (.inr ⟨h, this⟩)
    · rintro (h | h | h)
      · exact .inl (.inl h)
      · exact .inl (.inr h)
      · exact .inr h.1
  · rw [List.mem_append, mem_missing, mem_missing]
    unfold Ch
    have : ¬ ¬ (a.Roles = b.Roles ∧ a.Grants = b.Grants) := fun h => by rw [hq.2 h] at hc; cases hc
    constructor
    · rintro (h | h)
      · exact .inl h
      · exact .inr (.inl h)
    · rintro (h | h | h)
      · exact .inl h
      · exact .inr h
      · exact absurd h.2 this
  · rintro l ⟨l1, l2⟩
    obtain ⟨z, z1, z2, z3, z4⟩ := sorted_val (l := l) om
    rw [z1]
    exact yam (y5 ⟨z2, by omega, fun n => by rw [z4]; exact l2 n⟩)
def pinned (N : List Int) (w : Int) : Option Nat := if 0 ≤ w then (N[w.toNat]?).bind fun x => if 0 ≤ x then some x.toNat else none else none
def lvP (A : List qC) (N : List Int) (i : Nat) : Prop := i + 1 = A.length ∨ (i : Int) ∈ N
structure Inv (A : List qC) (N D : List Int) (h : chain_Chain) : Prop where
  pos : 0 < A.length
  len : A.length ≤ 50
  asc : A.Pairwise fun a b => a.Version < b.Version
  ok : ∀ c ∈ A, CI 60 c ∧ VB c
  now : ∀ a, A[A.length - 1]? = some a → h.now = a.Version
  n9 : N.length = 9
  d9 : D.length = 9
  nb : ∀ x ∈ N, x = -1 ∨ ∃ i : Nat, x = (i : Int) ∧ i < A.length
  n0 : N[0]? = some (-1)
  pnd : (h.pins.map (·.1)).Nodup
  pins : ∀ w : Int, mget iEq h.pins w = (pinned N w).bind fun i => (A[i]?).map (·.Version)
  lnd : (h.live.map (·.1)).Nodup
  live : ∀ v k, mget iEq h.live v = some k ↔ ∃ (i : Nat) (c : qC), A[i]? = some c ∧ c.Version = v ∧ k = ⟨c, (N.count (i : Int) : Int)⟩ ∧ lvP A N i
  db : ∀ x ∈ D, ∃ j : Nat, x = (j : Int) ∧ j < A.length
  nnd : (h.news.map (·.1)).Nodup
  news : ∀ w : Nat, 1 ≤ w → w ≤ 8 → Asc ((mget iEq h.news (w : Int)).getD []) ∧ ((mget iEq h.news (w : Int)).getD []).length ≤ 121 * A.length ∧
    ∀ n, n ∈ (mget iEq h.news (w : Int)).getD [] ↔ ∃ (d j : Nat) (a b : qC), D[w]? = some (d : Int) ∧ d ≤ j ∧ A[j]? = some a ∧ A[j + 1]? = some b ∧ Ch a b n
theorem ieqC : KEq iEq := fun _ _ => iEq_iff
section
variable {A : List qC}
theorem ver_lt (h : A.Pairwise fun a b => a.Version < b.Version) {i j : Nat} {a b : qC} (hi : A[i]? = some a) (hj : A[j]? = some b) (e : i < j) : a.Version < b.Version := by
  obtain ⟨h1, rfl⟩ := List.getElem?_eq_some_iff.1 hi
  obtain ⟨h2, rfl⟩ := List.getElem?_eq_some_iff.1 hj
  exact List.pairwise_iff_getElem.1 h i j h1 h2 e
theorem ver_inj (h : A.Pairwise fun a b => a.Version < b.Version) {i j : Nat} {a b : qC} (hi : A[i]? = some a) (hj : A[j]? = some b) (e : a.Version = b.Version) : i = j := by
  rcases Nat.lt_trichotomy i j with h1 | h1 | h1
  · have := ver_lt h hi hj h1; omega
  · exact h1
  · have := ver_lt h hj hi h1; omega
end
theorem mget_filter {ν : Type} {q : Int × ν → Bool} : ∀ {l : List (Int × ν)}, (l.map (·.1)).Nodup → ∀ v k, mget iEq (l.filter q) v = some k ↔ mget iEq l v = some k ∧ q (v, k) = true
  | [], _, v, k => by simp [mget_nil]
  | (a, u) :: r, hn, v, k => by
    obtain ⟨h1, h2⟩ := List.nodup_cons.1 (by simpa using hn : (a :: r.map (·.1)).Nodup)
    rw [mget_cons, List.filter_cons]
    cases e : iEq v a with
    | true =>
      obtain rfl := (ieqC v a).1 e
      have hno : mget iEq (r.filter q) v = none := mget_none ieqC fun hm => h1 ((List.filter_sublist.map _).subset hm)
      cases hq : q (v, u) with
      | true =>
        simp only [if_true, mget_cons, e, cond_true, Option.some.injEq]
        exact ⟨fun hk => ⟨hk, hk ▸ hq⟩, fun hk => hk.1⟩
      | false =>
        simp only [cond_true, Option.some.injEq]
        rw [if_neg (by simp), hno]
        exact ⟨(fun hk => by cases hk), (fun ⟨hk, hq'⟩ => by rw [← hk, hq] at hq'; cases hq')⟩
    | false =>
      simp only [cond_false]
      rw [← mget_filter h2 v k]
      split
      · rw [mget_cons, e]; rfl
      · rfl
section
variable {A : List qC} {N D : List Int} {h : chain_Chain}
theorem Inv.last (hi : Inv A N D h) : ∃ a, A[A.length - 1]? = some a ∧ h.now = a.Version := by
  have hp := hi.pos
  have e : A[A.length - 1]? = some (A[A.length - 1]'om) := gE _
  exact ⟨_, e, hi.now _ e⟩
theorem Inv.at_last (hi : Inv A N D h) {a : qC} (e : A[A.length - 1]? = some a) : mget iEq h.live h.now = some ⟨a, (N.count ((A.length - 1 : Nat) : Int) : Int)⟩ := by
  have hp := hi.pos
  exact (hi.live _ _).2 ⟨A.length - 1, a, e, (hi.now a e).symm, rfl, .inl om⟩
theorem inv_now (hi : Inv A N D h) : ∃ a, A[A.length - 1]? = some a ∧ chain_Chain_Now h = some a := by
  obtain ⟨a, e, _⟩ := hi.last
  exact ⟨a, e, by unfold chain_Chain_Now; rw [hi.at_last e]; rfl⟩
theorem pinned_some {w : Int} {i : Nat} : pinned N w = some i ↔ 0 ≤ w ∧ N[w.toNat]? = some (i : Int) := by
  unfold pinned
  by_cases h0 : 0 ≤ w
  · rw [if_pos h0]
    cases hx : N[w.toNat]? with
    | none => simp
    | some x =>
      simp only [obs, Option.some.injEq]
      by_cases hx0 : 0 ≤ x
      · rw [if_pos hx0]
        simp only [Option.some.injEq]
        omega
      · rw [if_neg hx0]
        simp only [reduceCtorEq, false_iff]
        omega
  · rw [if_neg h0]
    simp
    omega
theorem Inv.pin_lt (hi : Inv A N D h) {w : Int} {i : Nat} (hp : pinned N w = some i) : ∃ a, A[i]? = some a := by
  obtain ⟨_, h2⟩ := pinned_some.1 hp
  rcases hi.nb _ (List.mem_of_getElem? h2) with e | ⟨j, e, hj⟩
  · omega
  · have : i = j := by omega
    subst this
    exact ⟨_, gE hj⟩
theorem Inv.has (hi : Inv A N D h) (w : Int) : mhas iEq h.pins w = (pinned N w).isSome := by
  rw [mhas_get, hi.pins]
  cases hp : pinned N w with
  | none => rfl
  | some i =>
    obtain ⟨a, ha⟩ := hi.pin_lt hp
    simp [ha]
theorem Inv.range (hi : Inv A N D h) {w : Int} {i : Nat} (hp : pinned N w = some i) : 1 ≤ w ∧ w ≤ 8 := by
  obtain ⟨h1, h2⟩ := pinned_some.1 hp
  have h3 := (List.getElem?_eq_some_iff.1 h2).1
  rw [hi.n9] at h3
  have : w ≠ 0 := by
    rintro rfl
    have h4 := hi.n0
    rw [show (0 : Int).toNat = 0 from rfl] at h2
    rw [h2] at h4
    injection h4 with h4
    omega
  omega
end
theorem trim_live {A : List qC} {N : List Int} {live : List (Int × chain_kept)} {now : Int} {pins : List (Int × Int)} {news : List (Int × List By8)} {P : Nat → Prop} (ha : A.Pairwise fun a b => a.Version < b.Version) (hnow : ∀ a, A[A.length - 1]? = some a → now = a.Version) (hn : (live.map (·.1)).Nodup)
    (hP : ∀ i, lvP A N i → P i) (hl : ∀ v k, mget iEq live v = some k ↔ ∃ (i : Nat) (c : qC), A[i]? = some c ∧ c.Version = v ∧ k = ⟨c, (N.count (i : Int) : Int)⟩ ∧ P i) :
    ∃ live', chain_Chain_trim ⟨live, now, pins, news⟩ = some ⟨live', now, pins, news⟩ ∧ (live'.map (·.1)).Nodup ∧ ∀ v k, mget iEq live' v = some k ↔ ∃ (i : Nat) (c : qC), A[i]? = some c ∧ c.Version = v ∧ k = ⟨c, (N.count (i : Int) : Int)⟩ ∧ lvP A N i := by
  unfold chain_Chain_trim
  rw [if_pos hn]
  refine ⟨_, rfl, hn.sublist (List.filter_sublist.map _), fun v k => ?_⟩
  rw [mget_filter hn, hl]
  constructor
  · rintro ⟨⟨i, c, h1, h2, h3, h4⟩, hq⟩
    refine ⟨i, c, h1, h2, h3, ?_⟩
    subst h3
    by_cases e : i + 1 = A.length
    · exact .inl e
    · refine .inr (List.count_pos_iff.1 ?_)
      have hil := (List.getElem?_eq_some_iff.1 h1).1
      have e3 : A[A.length - 1]? = some (A[A.length - 1]'om) := gE _
      have hne : v ≠ now := by
        rw [hnow _ e3, ← h2]
        intro e4
        have := ver_inj ha h1 e3 e4
        omega
      have : (v != now) = true := by simpa using hne
      simp only [this, Bool.true_and, Bool.not_eq_true', beq_eq_false_iff_ne, ne_eq] at hq
      omega
  · rintro ⟨i, c, h1, h2, h3, h4⟩
    refine ⟨⟨i, c, h1, h2, h3, hP i h4⟩, ?_⟩
    subst h3
    rcases h4 with e | hm
    · have e3 : A[A.length - 1]? = some c := by rw [← h1]; congr 1; omega
      rw [hnow _ e3, ← h2]
      simp
    · have := List.count_pos_iff.2 hm
      have h0 : ¬ (N.count (i : Int) = 0) := by omega
      simp [h0]
theorem pinned_set {N : List Int} {w : Int} (h0 : 0 ≤ w) (hl : w.toNat < N.length) (x : Nat) (j : Int) : pinned (N.set w.toNat (x : Int)) j = if j = w then some x else pinned N j := by
  unfold pinned
  by_cases hj : 0 ≤ j
  · rw [if_pos hj, List.getElem?_set]
    by_cases e : j = w
    · subst e
      rw [if_pos rfl, if_pos hl]
      simp
    · rw [if_neg om, if_neg e, if_pos hj]
  · rw [if_neg hj, if_neg om, if_neg hj]
theorem count_put {N : List Int} {w : Nat} (hl : w < N.length) (x y : Int) (i : Int) (hy : N[w]? = some y) : ((N.set w x).count i : Int) = (N.count i : Int) - (if y = i then 1 else 0) + (if x = i then 1 else 0) := by
  have e : N[w] = y := (List.getElem?_eq_some_iff.1 hy).2
  rw [List.count_set hl, e]
  by_cases h : y = i
  · have : 0 < N.count i := List.count_pos_iff.2 (h ▸ List.mem_of_getElem? hy)
    simp only [beq_iff_eq, h, if_true]
    by_cases h2 : x = i
    · simp only [h2, if_true]; omega
    · simp only [h2, if_false]; omega
  · simp only [beq_iff_eq, h, if_false]
    by_cases h2 : x = i
    · simp only [h2, if_true]; omega
    · simp only [h2, if_false]; omega
theorem mem_put {N : List Int} {w : Nat} {x i : Int} (h : i ∈ N.set w x) : i = x ∨ i ∈ N := by
  rcases List.mem_or_eq_of_mem_set h with h | h
  · exact .inr h
  · exact .inl h
section
variable {A : List qC} {N D : List Int} {h : chain_Chain}
theorem Inv.nget (hi : Inv A N D h) {w : Int} (h1 : 1 ≤ w) (h2 : w ≤ 8) (hp : pinned N w = none) : N[w.toNat]? = some (-1) := by
  have hl : w.toNat < N.length := by rw [hi.n9]; omega
  have e : N[w.toNat]? = some N[w.toNat] := gE hl
  rcases hi.nb _ (List.getElem_mem hl) with hx | ⟨i, hx, _⟩
  · rw [e, hx]
  · have h9 := (pinned_some (N := N) (w := w) (i := i)).2 ⟨by omega, by rw [e, hx]⟩
    rw [hp] at h9
    cases h9
theorem Inv.cnt_le (hi : Inv A N D h) (i : Int) : N.count i ≤ 9 := by
  have := List.count_le_length (a := i) (l := N)
  rw [hi.n9] at this
  exact this
theorem inv_pin (hi : Inv A N D h) (w : Int) : (¬ (1 ≤ w ∧ w ≤ 8) ∧ chain_Chain_Pin h w = some (0, 2, h)) ∨ ((1 ≤ w ∧ w ≤ 8) ∧ (∃ i, pinned N w = some i) ∧ chain_Chain_Pin h w = some (0, 19, h)) ∨
    ((1 ≤ w ∧ w ≤ 8) ∧ pinned N w = none ∧ ∃ h', chain_Chain_Pin h w = some (h.now, 0, h') ∧ Inv A (N.set w.toNat ((A.length - 1 : Nat) : Int)) D h') := by
  unfold chain_Chain_Pin
  rw [chk_val]
  by_cases hw : 1 ≤ w ∧ w ≤ 8
  · right
    rw [if_pos hw]
    simp only [obs, bne_self_eq_false, cond_false]
    rw [hi.has]
    cases hp : pinned N w with
    | some i => exact .inl ⟨hw, ⟨i, rfl⟩, rfl⟩
    | none =>
      refine .inr ⟨hw, rfl, ?_⟩
      obtain ⟨a, ha, hnow⟩ := hi.last
      have hpos := hi.pos
      rw [hi.at_last ha]
      simp only [Option.isSome_none, cond_false, obs]
      refine ⟨_, rfl, ?_⟩
      have hl : w.toNat < N.length := by rw [hi.n9]; omega
      have hg := hi.nget hw.1 hw.2 hp
      have hcnt : ∀ i : Nat, ((N.set w.toNat ((A.length - 1 : Nat) : Int)).count (i : Int) : Int) = (N.count (i : Int) : Int) + (if i = A.length - 1 then 1 else 0) := by
        intro i
        rw [count_put hl _ _ _ hg, if_neg om]
        by_cases e : i = A.length - 1
        · rw [if_pos e, if_pos om]; omega
        · rw [if_neg e, if_neg om]; omega
      have hlv : ∀ i, lvP A (N.set w.toNat ((A.length - 1 : Nat) : Int)) i ↔ lvP A N i := by
        intro i
        constructor
        · rintro (e | e)
          · exact .inl e
          · rcases mem_put e with e | e
            · exact .inl om
            · exact .inr e
        · rintro (e | e)
          · exact .inl e
          · refine .inr (List.count_pos_iff.1 ?_)
            have := hcnt i
            have h3 := List.count_pos_iff.2 e
            split at this <;> omega
      have hc9 := hi.cnt_le ((A.length - 1 : Nat) : Int)
      refine ⟨hi.pos, hi.len, hi.asc, hi.ok, hi.now, by rw [List.length_set]; exact hi.n9, hi.d9, fun x hx => ?_, ?_, mset_nodup ieqC hi.pnd _ _, fun j => ?_, mset_nodup ieqC hi.lnd _ _, fun v k => ?_, hi.db, hi.nnd, hi.news⟩
      · rcases mem_put hx with e | e
        · exact .inr ⟨_, e, by omega⟩
        · exact hi.nb x e
      · rw [List.getElem?_set, if_neg om]; exact hi.n0
      · rw [mget_mset ieqC, pinned_set om hl]
        by_cases e : j = w
        · rw [if_pos e, (ieqC j w).2 e]
          simp only [cond_true, obs, ha, Option.map_some, hnow]
        · rw [if_neg e, ieqC.ne e]
          exact hi.pins j
      · show mget iEq (mset iEq h.live h.now _) v = some k ↔ _
        rw [mget_mset ieqC]
        by_cases e : v = h.now
        · rw [(ieqC v h.now).2 e]
          simp only [cond_true, Option.some.injEq]
          constructor
          · intro hk
            refine ⟨A.length - 1, a, ha, by rw [e, hnow], ?_, .inl om⟩
            rw [← hk, hcnt, if_pos rfl, w64_id om om]
          · rintro ⟨i, c, g1, g2, g3, g4⟩
            have hij := ver_inj hi.asc g1 ha (by rw [g2, e, hnow])
            subst hij
            rw [ha] at g1
            injection g1 with g1
            rw [g3, ← g1, hcnt, if_pos rfl, w64_id om om]
        · rw [ieqC.ne e]
          simp only [cond_false]
          rw [hi.live]
          constructor
          · rintro ⟨i, c, g1, g2, g3, g4⟩
            refine ⟨i, c, g1, g2, ?_, (hlv i).2 g4⟩
            rw [hcnt, if_neg, Int.add_zero]
            · exact g3
            · rintro rfl
              rw [ha] at g1
              injection g1 with g1
              exact e (by rw [← g2, ← g1, hnow])
          · rintro ⟨i, c, g1, g2, g3, g4⟩
            refine ⟨i, c, g1, g2, ?_, (hlv i).1 g4⟩
            rw [hcnt, if_neg, Int.add_zero] at g3
            · exact g3
            · rintro rfl
              rw [ha] at g1
              injection g1 with g1
              exact e (by rw [← g2, ← g1, hnow])
  · left
    rw [if_neg hw]
    exact ⟨hw, rfl⟩
theorem inv_hear (hi : Inv A N D h) (w : Int) : (¬ (1 ≤ w ∧ w ≤ 8) ∧ chain_Chain_Hear h w = some ([], h)) ∨ ((1 ≤ w ∧ w ≤ 8) ∧ ∃ l h', chain_Chain_Hear h w = some (l, h') ∧ Asc l ∧ l.length ≤ 121 * A.length ∧
    (∀ n, n ∈ l ↔ ∃ (d j : Nat) (a b : qC), D[w.toNat]? = some (d : Int) ∧ d ≤ j ∧ A[j]? = some a ∧ A[j + 1]? = some b ∧ Ch a b n) ∧ Inv A N (D.set w.toNat ((A.length - 1 : Nat) : Int)) h') := by
  unfold chain_Chain_Hear
  rw [chk_val]
  by_cases hw : 1 ≤ w ∧ w ≤ 8
  · right
    rw [if_pos hw]
    simp only [obs, bne_self_eq_false, cond_false]
    have hpos := hi.pos
    have hwn : ((w.toNat : Nat) : Int) = w := by omega
    obtain ⟨n1, n2, n3⟩ := hi.news w.toNat om om
    rw [hwn] at n1 n2 n3
    have hl : w.toNat < D.length := by rw [hi.d9]; omega
    refine ⟨hw, _, _, rfl, n1, n2, n3, hi.pos, hi.len, hi.asc, hi.ok, hi.now, hi.n9, by rw [List.length_set]; exact hi.d9, hi.nb, hi.n0, hi.pnd, hi.pins, hi.lnd, hi.live, fun x hx => ?_, mdel_nodup hi.nnd _, fun j h1 h2 => ?_⟩
    · rcases mem_put hx with e | e
      · exact ⟨_, e, by omega⟩
      · exact hi.db x e
    · show Asc ((mget iEq (mdel iEq h.news w) (j : Int)).getD []) ∧ _
      rw [mget_mdel ieqC hi.nnd, List.getElem?_set]
      by_cases e : (j : Int) = w
      · rw [(ieqC (j : Int) w).2 e, if_pos om, if_pos om]
        simp only [cond_true, Option.getD_none, List.length_nil, List.not_mem_nil, false_iff, Option.some.injEq]
        refine ⟨List.Pairwise.nil, by omega, ?_⟩
        rintro n ⟨d, q, a, b, e1, e2, e3, e4, _⟩
        have := (List.getElem?_eq_some_iff.1 e4).1
        omega
      · rw [ieqC.ne e, if_neg om]
        exact hi.news j h1 h2
  · left
    rw [if_neg hw]
    exact ⟨hw, rfl⟩
end
theorem inv_new {c : qC} (h1 : CI 60 c) (h2 : VB c) : Inv [c] (List.replicate 9 (-1)) (List.replicate 9 0) ⟨[(c.Version, ⟨c, 0⟩)], c.Version, [], []⟩ := by
  have hz : ∀ i : Nat, (List.replicate 9 (-1 : Int)).count (i : Int) = 0 := fun i => by
    rw [List.count_eq_zero]
    intro hm
    have := List.eq_of_mem_replicate hm
    omega
  refine ⟨by simp, by simp, by simp, ?_, ?_, by simp, by simp, ?_, rfl, by simp, ?_, by simp, ?_, ?_, by simp, ?_⟩
  · intro x hx
    simp only [List.mem_cons, List.not_mem_nil, or_false] at hx
    subst hx
    exact ⟨h1, h2⟩
  · intro a ha
    simp at ha
    rw [ha]
  · intro x hx
    exact .inl (List.eq_of_mem_replicate hx)
  · intro w
    have : pinned (List.replicate 9 (-1)) w = none := by
      cases hp : pinned (List.replicate 9 (-1)) w with
      | none => rfl
      | some i =>
        have := List.eq_of_mem_replicate (List.mem_of_getElem? (pinned_some.1 hp).2)
        omega
    rw [this]
    rfl
  · intro v k
    rw [mget_cons, mget_nil]
    constructor
    · intro hk
      cases e : iEq v c.Version with
      | false => rw [e] at hk; cases hk
      | true =>
        rw [e] at hk
        injection hk with hk
        refine ⟨0, c, rfl, ((ieqC _ _).1 e).symm, ?_, .inl rfl⟩
        rw [← hk, hz 0]
        rfl
    · rintro ⟨i, a, e1, e2, e3, e4⟩
      have hi0 : i = 0 := by have := (List.getElem?_eq_some_iff.1 e1).1; simp at this; omega
      subst hi0
      simp only [List.getElem?_cons_zero, Option.some.injEq] at e1
      subst e1
      rw [(ieqC _ _).2 e2.symm, e3, hz 0]
      rfl
  · intro x hx
    exact ⟨0, List.eq_of_mem_replicate hx, by simp⟩
  · intro w _ _
    refine ⟨List.Pairwise.nil, by simp [mget_nil], fun n => ?_⟩
    simp only [mget_nil, Option.getD_none, List.not_mem_nil, false_iff]
    rintro ⟨d, j, a, b, _, _, _, e, _⟩
    have := (List.getElem?_eq_some_iff.1 e).1
    simp at this
section
variable {A : List qC} {N D : List Int} {h : chain_Chain}
theorem told_val {l : List (Int × List By8)} {ch : List By8} (hn : (l.map (·.1)).Nodup) (hc : ch.length ≤ 121) (hb : ∀ w : Nat, 1 ≤ w → w ≤ 8 → ((mget iEq l (w : Int)).getD []).length ≤ 10000) :
    ∃ l', chain_told ch l = some l' ∧ (l'.map (·.1)).Nodup ∧ ∀ w : Nat, 1 ≤ w → w ≤ 8 → Asc ((mget iEq l' (w : Int)).getD []) ∧ ((mget iEq l' (w : Int)).getD []).length ≤ ((mget iEq l (w : Int)).getD []).length + ch.length ∧
      ∀ n, n ∈ (mget iEq l' (w : Int)).getD [] ↔ n ∈ (mget iEq l (w : Int)).getD [] ∨ n ∈ ch := by
  refine Ret.ex ?_
  unfold chain_told
  refine loopO_rb (fun (s : Int × List (Int × List By8)) => ∃ k : Nat, s.1 = (k : Int) ∧ 1 ≤ k ∧ k ≤ 9 ∧ (s.2.map (·.1)).Nodup ∧ (∀ w : Nat, k ≤ w → mget iEq s.2 (w : Int) = mget iEq l (w : Int)) ∧ ∀ w : Nat, 1 ≤ w → w < k → Asc ((mget iEq s.2 (w : Int)).getD []) ∧ ((mget iEq s.2 (w : Int)).getD []).length ≤ ((mget iEq l (w : Int)).getD []).length + ch.length ∧
      ∀ n, n ∈ (mget iEq s.2 (w : Int)).getD [] ↔ n ∈ (mget iEq l (w : Int)).getD [] ∨ n ∈ ch) (fun s => 9 - s.1.toNat) ?_ ⟨1, rfl, by omega, by omega, hn, fun _ _ => rfl, fun w h1 h2 => by omega⟩
  rintro ⟨_, s⟩ ⟨k, rfl, k1, k9, g1, g2, g3⟩
  simp only at g1 g2 g3 ⊢
  refine yah (fun hk => ?_) fun hk => ?_
  · have hk : k ≤ 8 := by simp only [decide_eq_true_eq] at hk; omega
    have hbk := hb k k1 hk
    rw [g2 k (Nat.le_refl _), app_le om]
    simp only [obs]
    obtain ⟨y, y1, y2, y3, y4⟩ := sorted_val (l := (mget iEq l (k : Int)).getD [] ++ ch) (by rw [List.length_append]; omega)
    rw [y1]
    simp only [obs]
    rw [w64_id om om]
    refine y5 ⟨⟨k + 1, rfl, by omega, by omega, mset_nodup ieqC g1 _ _, fun w hw => ?_, fun w h1 h2 => ?_⟩, by simp only; omega⟩
    · rw [mget_mset ieqC, ieqC.ne om]
      exact g2 w om
    · rw [mget_mset ieqC]
      by_cases e : w = k
      · subst e
        rw [ieqC.refl]
        simp only [cond_true, Option.getD_some]
        refine ⟨y2, by rw [List.length_append] at y3; exact y3, fun n => by rw [y4, List.mem_append]⟩
      · rw [ieqC.ne om]
        exact g3 w h1 om
  · have hk : k = 9 := by simp only [decide_eq_false_iff_not] at hk; omega
    subst hk
    exact y5 ⟨g1, fun w h1 h2 => g3 w h1 om⟩
theorem inv_pub (hi : Inv A N D h) {c : qC} (h1 : CI 60 c) (h2 : VB c) (hA : A.length < 50) : (c.Version ≤ h.now ∧ chain_Chain_Publish h c = some (2, h)) ∨ (h.now < c.Version ∧ ∃ h', chain_Chain_Publish h c = some (0, h') ∧ Inv (A ++ [c]) N D h') := by
  unfold chain_Chain_Publish
  by_cases hv : c.Version ≤ h.now
  · rw [show decide (c.Version ≤ h.now) = true by simpa using hv]
    exact .inl ⟨hv, rfl⟩
  · right
    rw [show decide (c.Version ≤ h.now) = false by simpa using hv]
    refine ⟨by omega, ?_⟩
    obtain ⟨a, ha, hnow⟩ := inv_now hi
    have hpos := hi.pos
    obtain ⟨ch, c1, c2, c3, c4⟩ := changed_val h (hi.ok a (List.mem_of_getElem? ha)).1 h1
    have hlen : ∀ w : Nat, 1 ≤ w → w ≤ 8 → ((mget iEq h.news (w : Int)).getD []).length ≤ 10000 := fun w w1 w2 => by
      have := (hi.news w w1 w2).2.1
      have := Nat.mul_le_mul_left 121 hi.len
      omega
    obtain ⟨nl, n1, n2, n3⟩ := told_val (ch := ch) hi.nnd c3 hlen
    rw [hnow, cond_false, obs, c1, obs, n1, obs]
    have hver : h.now = a.Version := hi.now a ha
    have hasc : (A ++ [c]).Pairwise fun a b => a.Version < b.Version := by
      refine List.pairwise_append.2 ⟨hi.asc, by simp, fun x hx y hy => ?_⟩
      simp only [List.mem_cons, List.not_mem_nil, or_false] at hy
      subst hy
      obtain ⟨i, hx⟩ := List.getElem?_of_mem hx
      have hil := (List.getElem?_eq_some_iff.1 hx).1
      by_cases e : i = A.length - 1
      · subst e
        rw [ha] at hx
        injection hx with hx
        rw [← hx]
        omega
      · have := ver_lt hi.asc hx ha om
        omega
    have hlast : ∀ x, (A ++ [c])[(A ++ [c]).length - 1]? = some x → c.Version = x.Version := by
      intro x hx
      rw [List.length_append, List.length_singleton, Nat.add_sub_cancel, List.getElem?_append_right (Nat.le_refl _)] at hx
      simp at hx
      rw [hx]
    have hno : mget iEq h.live c.Version = none := by
      cases e : mget iEq h.live c.Version with
      | none => rfl
      | some k =>
        obtain ⟨i, x, e1, e2, _⟩ := (hi.live _ _).1 e
        have hil := (List.getElem?_eq_some_iff.1 e1).1
        have := ver_lt hasc (i := i) (j := A.length) (a := x) (b := c) (by rw [List.getElem?_append_left hil]; exact e1) (by rw [List.getElem?_append_right (Nat.le_refl _)]; simp) hil
        omega
    have hz : N.count (A.length : Int) = 0 := by
      rw [List.count_eq_zero]
      intro hm
      rcases hi.nb _ hm with e | ⟨j, e, hj⟩ <;> omega
    obtain ⟨live', t1, t2, t3⟩ := trim_live (A := A ++ [c]) (N := N) (live := mset iEq h.live c.Version ⟨c, 0⟩) (now := c.Version) (pins := h.pins) (news := nl) (P := fun i => lvP A N i ∨ i = A.length) hasc hlast (mset_nodup ieqC hi.lnd _ _) (fun i hlv => by
        rcases hlv with e | e
        · rw [List.length_append, List.length_singleton] at e
          exact .inr om
        · exact .inl (.inr e)) (fun v k => by
        rw [mget_mset ieqC]
        by_cases e : v = c.Version
        · rw [(ieqC v c.Version).2 e]
          simp only [cond_true, Option.some.injEq]
          constructor
          · intro hk
            refine ⟨A.length, c, by rw [List.getElem?_append_right (Nat.le_refl _)]; simp, e.symm, ?_, .inr rfl⟩
            rw [← hk, hz]
            rfl
          · rintro ⟨i, x, g1, g2, g3, g4⟩
            have hil := ver_inj hasc g1 (j := A.length) (b := c) (by rw [List.getElem?_append_right (Nat.le_refl _)]; simp) (by rw [g2, e])
            subst hil
            rw [List.getElem?_append_right (Nat.le_refl _)] at g1
            simp at g1
            rw [g3, ← g1, hz]
            rfl
        · rw [ieqC.ne e]
          simp only [cond_false]
          rw [hi.live]
          constructor
          · rintro ⟨i, x, g1, g2, g3, g4⟩
            exact ⟨i, x, by rw [List.getElem?_append_left (List.getElem?_eq_some_iff.1 g1).1]; exact g1, g2, g3, .inl g4⟩
          · rintro ⟨i, x, g1, g2, g3, g4⟩
            by_cases hil : i < A.length
            · rw [List.getElem?_append_left hil] at g1
              exact ⟨i, x, g1, g2, g3, g4.resolve_right om⟩
            · rw [List.getElem?_append_right om] at g1
              have : i - A.length = 0 := by have := (List.getElem?_eq_some_iff.1 g1).1; simp at this; omega
              rw [this] at g1
              simp at g1
              exact absurd (by rw [← g2, g1]) e)
    rw [t1]
    refine ⟨_, rfl, by simp, by simp; omega, hasc, fun x hx => ?_, hlast, hi.n9, hi.d9, fun x hx => ?_, hi.n0, hi.pnd, fun w => ?_, t2, t3, fun x hx => ?_, n2, fun w w1 w2 => ?_⟩
    · rcases List.mem_append.1 hx with hx | hx
      · exact hi.ok x hx
      · simp only [List.mem_cons, List.not_mem_nil, or_false] at hx
        subst hx
        exact ⟨h1, h2⟩
    · rcases hi.nb x hx with e | ⟨j, e, hj⟩
      · exact .inl e
      · exact .inr ⟨j, e, by simp; omega⟩
    · show mget iEq h.pins w = _
      rw [hi.pins]
      cases hp : pinned N w with
      | none => rfl
      | some i =>
        obtain ⟨x, hx⟩ := hi.pin_lt hp
        simp only [obs]
        rw [List.getElem?_append_left (List.getElem?_eq_some_iff.1 hx).1]
    · obtain ⟨j, e, hj⟩ := hi.db x hx
      exact ⟨j, e, by simp; omega⟩
    · obtain ⟨m1, m2, m3⟩ := n3 w w1 w2
      obtain ⟨q1, q2, q3⟩ := hi.news w w1 w2
      refine ⟨m1, ?_, fun n => ?_⟩
      · rw [List.length_append, List.length_singleton]
        show ((mget iEq nl (w : Int)).getD []).length ≤ _
        omega
      · show n ∈ (mget iEq nl (w : Int)).getD [] ↔ _
        rw [m3, q3, c4]
        have hwd : w < D.length := by rw [hi.d9]; omega
        obtain ⟨d, hd⟩ : ∃ d, D[w]? = some d := ⟨_, gE hwd⟩
        obtain ⟨dn, rfl, hdn⟩ := hi.db d (List.mem_of_getElem? hd)
        constructor
        · rintro (⟨d', j, x, y, e1, e2, e3, e4, e5⟩ | hch)
          · exact ⟨d', j, x, y, e1, e2, by rw [List.getElem?_append_left (List.getElem?_eq_some_iff.1 e3).1]; exact e3, by rw [List.getElem?_append_left (List.getElem?_eq_some_iff.1 e4).1]; exact e4, e5⟩
          · refine ⟨dn, A.length - 1, a, c, hd, by omega, by rw [List.getElem?_append_left om]; exact ha, ?_, hch⟩
            rw [show A.length - 1 + 1 = A.length by omega, List.getElem?_append_right (Nat.le_refl _)]
            simp
        · rintro ⟨d', j, x, y, e1, e2, e3, e4, e5⟩
          have hjl := (List.getElem?_eq_some_iff.1 e4).1
          rw [List.length_append, List.length_singleton] at hjl
          by_cases hj : j + 1 < A.length
          · rw [List.getElem?_append_left hj] at e4
            rw [List.getElem?_append_left om] at e3
            exact .inl ⟨d', j, x, y, e1, e2, e3, e4, e5⟩
          · have hje : j = A.length - 1 := by omega
            subst hje
            rw [List.getElem?_append_left om, ha] at e3
            rw [show A.length - 1 + 1 = A.length by omega, List.getElem?_append_right (Nat.le_refl _)] at e4
            simp at e4
            injection e3 with e3
            subst e3 e4
            exact .inr e5
end
theorem asc_eqI : ∀ {a b : List Int}, a.Pairwise (· < ·) → b.Pairwise (· < ·) → (∀ x, x ∈ a ↔ x ∈ b) → a = b
  | [], [], _, _, _ => rfl
  | [], y :: b, _, _, h => absurd ((h y).2 (by simp)) (by simp)
  | x :: a, [], _, _, h => absurd ((h x).1 (by simp)) (by simp)
  | x :: a, y :: b, h1, h2, h => by
    obtain ⟨p1, p2⟩ := List.pairwise_cons.1 h1
    obtain ⟨q1, q2⟩ := List.pairwise_cons.1 h2
    have e : x = y := by
      rcases List.mem_cons.1 ((h x).1 (by simp)) with e | e
      · exact e
      · rcases List.mem_cons.1 ((h y).2 (by simp)) with e' | e'
        · exact e'.symm
        · have := q1 _ e; have := p1 _ e'; omega
    subst e
    congr 1
    refine asc_eqI p2 q2 fun z => ?_
    have hz := h z
    simp only [List.mem_cons] at hz
    constructor
    · intro hm
      have hne := p1 z hm
      exact (hz.1 (.inr hm)).resolve_left om
    · intro hm
      have hne := q1 z hm
      exact (hz.2 (.inr hm)).resolve_left om
theorem asc_eq : ∀ {a b : List By8}, Asc a → Asc b → (∀ x, x ∈ a ↔ x ∈ b) → a = b
  | [], [], _, _, _ => rfl
  | [], y :: b, _, _, h => absurd ((h y).2 (by simp)) (by simp)
  | x :: a, [], _, _, h => absurd ((h x).1 (by simp)) (by simp)
  | x :: a, y :: b, h1, h2, h => by
    obtain ⟨p1, p2⟩ := List.pairwise_cons.1 h1
    obtain ⟨q1, q2⟩ := List.pairwise_cons.1 h2
    have irr : ∀ u : By8, sLt u u ≠ true := fun u hu => by rw [sLt_irrefl] at hu; cases hu
    have e : x = y := by
      rcases List.mem_cons.1 ((h x).1 (by simp)) with e | e
      · exact e
      · rcases List.mem_cons.1 ((h y).2 (by simp)) with e' | e'
        · exact e'.symm
        · exact absurd (sLt_trans (q1 _ e) (p1 _ e')) (irr _)
    subst e
    congr 1
    refine asc_eq p2 q2 fun z => ?_
    have hz := h z
    simp only [List.mem_cons] at hz
    constructor
    · intro hm
      exact (hz.1 (.inr hm)).resolve_left (fun e => irr z (by have := p1 z hm; rwa [← e] at this))
    · intro hm
      exact (hz.2 (.inr hm)).resolve_left (fun e => irr z (by have := q1 z hm; rwa [← e] at this))
def lvB (A : List qC) (N : List Int) (i : Nat) : Bool := decide (i + 1 = A.length) || N.contains (i : Int)
theorem lvB_iff {A : List qC} {N : List Int} {i : Nat} : lvB A N i = true ↔ lvP A N i := by
  unfold lvB lvP
  simp
def liveL (A : List qC) (N : List Int) : List Int := ((List.range A.length).filter (lvB A N)).filterMap fun i => (A[i]?).map (·.Version)
theorem liveL_mem {A : List qC} {N : List Int} {v : Int} : v ∈ liveL A N ↔ ∃ (i : Nat) (c : qC), A[i]? = some c ∧ c.Version = v ∧ lvP A N i := by
  unfold liveL
  simp only [List.mem_filterMap, List.mem_filter, List.mem_range, Option.map_eq_some_iff, lvB_iff]
  constructor
  · rintro ⟨i, ⟨_, h2⟩, c, h3, h4⟩
    exact ⟨i, c, h3, h4, h2⟩
  · rintro ⟨i, c, h3, h4, h2⟩
    exact ⟨i, ⟨(List.getElem?_eq_some_iff.1 h3).1, h2⟩, c, h3, h4⟩
theorem liveL_asc {A : List qC} {N : List Int} (h : A.Pairwise fun a b => a.Version < b.Version) : (liveL A N).Pairwise (· < ·) := by
  unfold liveL
  refine List.Pairwise.filterMap _ (R := (· < ·)) ?_ (List.Pairwise.filter _ List.pairwise_lt_range)
  intro i j hij x hx y hy
  obtain ⟨a, ha, rfl⟩ := Option.map_eq_some_iff.1 hx
  obtain ⟨b, hb, rfl⟩ := Option.map_eq_some_iff.1 hy
  exact ver_lt h ha hb hij
theorem i64_small {x : Int} (h0 : 0 ≤ x) (h1 : x ≤ 1000) : i64ok x = true := by
  have e1 : IntKind.i64.min = -9223372036854775808 := rfl
  have e2 : IntKind.i64.max = 9223372036854775807 := rfl
  show (decide (IntKind.i64.min ≤ x) && decide (x ≤ IntKind.i64.max)) = true
  rw [e1, e2, Bool.and_eq_true, decide_eq_true_eq, decide_eq_true_eq]
  omega
theorem inv_live {A : List qC} {N D : List Int} {h : chain_Chain} (hi : Inv A N D h) : chain_Chain_Live h = some (liveL A N) := by
  have hmem : ∀ v, v ∈ h.live.map (·.1) ↔ v ∈ liveL A N := by
    intro v
    rw [liveL_mem]
    constructor
    · intro hm
      obtain ⟨k, hk⟩ := mget_some ieqC hm
      obtain ⟨i, c, e1, e2, _, e4⟩ := (hi.live v k).1 hk
      exact ⟨i, c, e1, e2, e4⟩
    · rintro ⟨i, c, e1, e2, e4⟩
      have := (hi.live v ⟨c, (N.count (i : Int) : Int)⟩).2 ⟨i, c, e1, e2, rfl, e4⟩
      refine Classical.byContradiction fun hno => ?_
      rw [mget_none ieqC hno] at this
      cases this
  have hasc := liveL_asc (N := N) hi.asc
  have hnd : (liveL A N).Nodup := hasc.imp fun h => by omega
  have hlen : h.live.length ≤ 50 := by
    rw [nodup_len hi.lnd hnd hmem]
    unfold liveL
    refine Nat.le_trans (List.length_filterMap_le _ _) (Nat.le_trans (List.length_filter_le _ _) ?_)
    rw [List.length_range]
    exact hi.len
  unfold chain_Chain_Live keysI
  have hk : ∀ k ∈ h.live.map (·.1), i64ok k = true := fun k hk => by
    obtain ⟨i, c, e1, e2, _⟩ := liveL_mem.1 ((hmem k).1 hk)
    have := (hi.ok c (List.mem_of_getElem? e1)).2
    rw [← e2]
    exact i64_small this.1 this.2
  rw [if_pos ⟨hi.lnd, by omega, hk⟩]
  · congr 1
    refine asc_eqI ?_ hasc fun x => ?_
    · have h1 : (sortI (h.live.map (·.1))).Pairwise (fun a b => decide (a ≤ b) = true) := by
        unfold sortI
        refine List.pairwise_mergeSort ?_ ?_ _
        · intro a b c; simp only [decide_eq_true_eq]; omega
        · intro a b; simp only [Bool.or_eq_true, decide_eq_true_eq]; omega
      have h2 : (sortI (h.live.map (·.1))).Nodup := (List.mergeSort_perm _ _).nodup_iff.2 hi.lnd
      exact List.Pairwise.imp₂ (fun a b g1 g2 => by simp only [decide_eq_true_eq] at g1; omega) h1 h2
    · rw [← hmem]
      exact (List.mergeSort_perm _ _).mem_iff
theorem sEq_self (a : By8) : sEq a a = true := sEq_iff.2 rfl
theorem ssame_rb {b : Prop} (l : List By8) : RB b (r12_SameTexts l l) (fun r => r = true) := by
  unfold r12_SameTexts
  refine yah (fun hc => by simp at hc) fun _ => yae (forN_q (Q := fun _ => False) fun j _ hj => RB.at hj fun x hx _ => ?_) ?_
  · rw [idx_nat, hx]
    refine yam ?_
    rw [sEq_self]
    exact y5 trivial
  · rintro (_ | _) g
    · exact y5 rfl
    · exact g.elim
theorem texts (l : List By8) : r12_SameTexts l l = some true := Ret.eq (ssame_rb l)
section
variable {A : List qC} {N D : List Int} {h : chain_Chain}
end
def wc (n : Int) (ts : List qT) : qC := { z_qC with Version := n, Tables := ts }
def wt : qT := { z_qT with Name := (⟨#[116]⟩ : By8) }
theorem wCI (n : Int) {ts : List qT} (h : ts = [] ∨ ts = [wt]) : CI 60 (wc n ts) := by
  refine ⟨⟨?_, fun t ht => ?_, by show 0 ≤ 60; omega⟩, by show 0 ≤ 8; omega, fun x hx => by cases hx⟩
  · rcases h with rfl | rfl
    · show 0 ≤ 60; omega
    · show 1 ≤ 60; omega
  · rcases h with rfl | rfl
    · cases ht
    · have : t = wt := by simpa [wc] using ht
      subst this
      exact ⟨⟨by show 0 ≤ 60; omega, by show 0 ≤ 60; omega, by show 0 ≤ 60; omega, by show 1 ≤ 100; omega, by show 0 ≤ 100; omega, (fun x hx => by cases hx), (fun x hx => by cases hx), (fun x hx => by cases hx)⟩, fun x hx => by cases hx⟩
theorem wCh {n m : Int} {x : By8} : Ch (wc n []) (wc m [wt]) x ↔ x = ⟨#[116]⟩ := by
  unfold Ch
  constructor
  · rintro (⟨t, h, _⟩ | ⟨t, h, h2, _⟩ | ⟨_, h⟩)
    · cases h
    · have : t = wt := by simpa [wc] using h
      rw [← h2, this]
      rfl
    · exact absurd ⟨rfl, rfl⟩ h
  · rintro rfl
    exact .inr (.inl ⟨wt, by simp [wc], rfl, by kernel_rfl⟩)
theorem wCh2 {n m : Int} {x : By8} : Ch (wc n [wt]) (wc m []) x ↔ x = ⟨#[116]⟩ := ⟨fun h => wCh.1 h.symm, fun h => (wCh.2 h).symm⟩
theorem works22 : law22_works = some true := by
  have h0 := inv_new (c := wc 3 []) (wCI 3 (.inl rfl)) ⟨by show (0 : Int) ≤ 3; omega, by show (3 : Int) ≤ 1000; omega⟩
  rcases inv_pin h0 1 with ⟨hw, _⟩ | ⟨_, ⟨i, hp⟩, _⟩ | ⟨_, hp, h1, e1, i1⟩
  · exact absurd ⟨by omega, by omega⟩ hw
  · have : pinned (List.replicate 9 (-1)) 1 = none := rfl
    rw [this] at hp; cases hp
  rcases inv_pub i1 (c := wc 4 [wt]) (wCI 4 (.inr rfl)) ⟨by show (0 : Int) ≤ 4; omega, by show (4 : Int) ≤ 1000; omega⟩ (by simp) with ⟨hv, _⟩ | ⟨_, h2, e2, i2⟩
  · have := i1.now (wc 3 []) rfl
    rw [this] at hv
    exact absurd hv (by show ¬ (4 : Int) ≤ 3; omega)
  rcases inv_pub i2 (c := wc 5 []) (wCI 5 (.inl rfl)) ⟨by show (0 : Int) ≤ 5; omega, by show (5 : Int) ≤ 1000; omega⟩ (by simp) with ⟨hv, _⟩ | ⟨_, h3, e3, i3⟩
  · have := i2.now (wc 4 [wt]) rfl
    rw [this] at hv
    exact absurd hv (by show ¬ (5 : Int) ≤ 4; omega)
  have e4 := inv_live i3
  rw [show liveL ([wc 3 []] ++ [wc 4 [wt]] ++ [wc 5 []]) ((List.replicate 9 (-1)).set (Int.toNat 1) (([wc 3 []].length - 1 : Nat) : Int)) = [3, 5] by kernel_rfl] at e4
  rcases inv_hear i3 2 with ⟨hw, _⟩ | ⟨_, l, h4, e5, g1, g2, g3, _⟩
  · exact absurd ⟨by omega, by omega⟩ hw
  have hl : l = [⟨#[116]⟩] := by
    refine asc_eq g1 (List.pairwise_singleton _ _) fun n => ?_
    rw [g3, List.mem_singleton]
    constructor
    · rintro ⟨d, j, a, b, _, _, ha, hb, hc⟩
      have hj : j = 0 ∨ j = 1 := by have := (List.getElem?_eq_some_iff.1 hb).1; simp at this; omega
      rcases hj with rfl | rfl
      · simp at ha hb
        subst ha hb
        exact wCh.1 hc
      · simp at ha hb
        subst ha hb
        exact wCh2.1 hc
    · rintro rfl
      exact ⟨0, 0, wc 3 [], wc 4 [wt], rfl, Nat.le_refl _, rfl, rfl, wCh.2 rfl⟩
  subst hl
  unfold law22_works
  rw [show chain_New { z_qC with Version := 3 } = some ⟨[((wc 3 []).Version, ⟨wc 3 [], 0⟩)], (wc 3 []).Version, [], []⟩ from rfl]
  simp only [obs, e1]
  rw [show ({ z_qC with Version := 4, Tables := ([{ z_qT with Name := (⟨#[116]⟩ : By8) }] : List qT) } : qC) = wc 4 [wt] from rfl, e2]
  simp only [obs]
  rw [show ({ z_qC with Version := 5 } : qC) = wc 5 [] from rfl, e3]
  simp only [obs, e4, e5]
  show (_ : Option Bool) = some true
  kernel_rfl
theorem none_ok {P Q : Prop} (p0 p1 : Int) (_ : P) (_ : Q) : law22_ChainNone p0 p1 = some true := by
  unfold law22_ChainNone
  rw [works22]
  rfl
end Go.Proofs.Ytpgmbifboopfmaa
