/- Plain laws: what the plain functions answer. Conditions: none. -/
import Derived.Test.YtdmapcjbbbifbaaGreatHA
set_option maxRecDepth 100000
namespace Go.Proofs.YtdmapcjbbbifbaaGreat
open Go.Gv
theorem gplace_val (c : qCatalog) (s : qStmt) (by_ : ByteArray) : grants_place c s by_ = some (pI c s by_) := by
  unfold grants_place slices_IndexFunc_qGrant pI
  rw [forN_find (kB s by_) (fun j => (j : Int)) (fun j x hx => by rw [idx_nat, hx]; unfold grants_place_1; simp only [Option.bind_some]; show (bif kB s by_ x then _ else _) = _; cases kB s by_ x <;> rfl)]
  cases c.Grants.findIdx? (kB s by_) <;> rfl
theorem take_rb {b : Prop} {c : qCatalog} (h : c.Grants.length ≤ 1000) (s : qStmt) (by_ : ByteArray) : RB b (grants_take c s by_) (fun r => r.2 ≠ 0 ∨ (r.2 = 0 ∧ ∃ (k : Nat) (g : qGrant), c.Grants[k]? = some g ∧ kk g = (s.Role, by_, s.Table, s.Priv) ∧ r.1 = c.Grants.eraseIdx k)) := by
  unfold grants_take slices_Clone_qGrant slices_Delete_qGrant
  refine yav (gplace_val _ _ _) ?_
  rcases pI_cases c s by_ with ⟨e, _⟩ | ⟨k, g, e, hk, hg⟩ <;> rw [e]
  · exact RB.cond (fun _ => RB.ret (.inl (by decide))) fun h => by simp at h
  · have hkl : k < c.Grants.length := (List.getElem?_eq_some_iff.1 hk).1
    refine RB.cond (fun h => by simp at h; omega) fun _ => RB.bind (R := fun l => l = c.Grants) (RB.ap (by simp; omega) (RB.ret (by simp))) ?_
    rintro _ rfl
    rw [w64_id (by omega) (by omega)]
    refine RB.bind (R := fun l => l = c.Grants.eraseIdx k) (RB.of (r := c.Grants.take ((k : Int)).toNat ++ c.Grants.drop (((k : Int) + 1)).toNat) ?_ ?_) fun l hl => RB.ret (.inr ⟨rfl, k, g, hk, hg, hl⟩)
    · unfold delO
      rw [if_pos ⟨by omega, by omega, by omega⟩]
    · rw [List.eraseIdx_eq_take_drop_succ, show (((k : Int) + 1)).toNat = k + 1 by omega, Int.toNat_natCast]
theorem revoke_rb {b : Prop} {n : Nat} {c : qCatalog} (h : CI n c) (hn : n ≤ 99) (s : qStmt) (by_ : ByteArray) (most : Int) : RB b (grants_Make c { s with Kind := 15 } by_ most) (fun r => (r.2 ≠ 0 ∧ r.1 = z_qCatalog) ∨
    (r.2 = 0 ∧ ∃ (v : Int) (k : Nat) (g : qGrant), c.Grants[k]? = some g ∧ kk g = (s.Role, by_, s.Table, s.Priv) ∧ r.1 = { c with Version := v, Grants := heR { c with Version := v, Grants := c.Grants.eraseIdx k } })) := by
  have hs := h.2.sm (by omega)
  obtain ⟨r, hr⟩ := mfind_eq hs by_
  unfold grants_Make
  refine RB.cond (fun h => by simp at h) fun _ => yav hr (RB.cond (fun _ => RB.ret (.inl ⟨by decide, rfl⟩)) fun _ => RB.bind (R := fun (t : (Int × qCatalog × qCatalog) ⊕ (Int × qCatalog × qCatalog)) => match t with | .inl (e, z, d) => e ≠ 0 ∨ (e = 0 ∧ ∃ (k : Nat) (g : qGrant), c.Grants[k]? = some g ∧ kk g = (s.Role, by_, s.Table, s.Priv) ∧ d = { c with Grants := c.Grants.eraseIdx k }) | .inr _ => False) ?_ ?_)
  · refine yav (x := .inr (.inr ())) rfl ?_
    refine RB.bind (take_rb (by have := h.1.grants; omega) _ _) ?_
    rintro ⟨l, e⟩ g
    refine RB.ret ?_
    rcases g with g | ⟨g0, k, y, h1, h2, h3⟩
    · exact .inl g
    · exact .inr ⟨g0, k, y, h1, h2, by simp only at h3; rw [h3]⟩
  · rintro (⟨e, z, d⟩ | _) g
    rotate_left
    · exact g.elim
    refine RB.bind (R := fun e' => e' = 0 → e = 0) (RB.cond (fun _ => RB.ret fun h => by cases h) fun _ => RB.ret fun h => h) fun e' he' => RB.cond (fun hc => RB.ret (.inl ⟨by simpa using hc, rfl⟩)) fun hc => ?_
    have e0 := he' (by simpa using hc)
    rcases g with g | ⟨_, k, y, h1, h2, rfl⟩
    · exact absurd e0 g
    · have hcb : CB n ({ c with Version := w64 (c.Version + 1), Grants := c.Grants.eraseIdx k } : qCatalog) := ⟨h.1.tabs, h.1.ok, Nat.le_trans (List.length_eraseIdx_le ..) h.1.grants⟩
      refine yav (x := { c with Version := w64 (c.Version + 1), Grants := heR { c with Version := w64 (c.Version + 1), Grants := c.Grants.eraseIdx k } }) ?_ (RB.ret (.inr ⟨rfl, _, k, y, h1, h2, rfl⟩))
      unfold grants_Trim
      rw [gheld_val hcb (by omega) hs]
      rfl
theorem gmay2 {n : Nat} {c : qCatalog} (h : CB n c) (hn : n ≤ 1000) (hr : Sm c.Roles) (r : ByteArray) (p : Int) (t : ByteArray) : grants_May c r p t = some (owB c r t || haB c (heR c) r p t false) := by
  unfold grants_May
  simp only [gowns_val h hn hr, gheld_val h hn hr, ghas_val hr, Option.bind_some]
  cases owB c r t <;> rfl
theorem ha_same {c d : qCatalog} (hr : d.Roles = c.Roles) (l : List qGrant) (r : ByteArray) (p : Int) (t : ByteArray) (o : Bool) : haB d l r p t o = haB c l r p t o := by
  unfold haB
  rw [hr]
section
variable {c d : qCatalog} (ht : d.Tables = c.Tables) (hr : d.Roles = c.Roles)
include ht hr
theorem ow_same (r t : ByteArray) : owB d r t = owB c r t := by
  unfold owB r19_Owns r17_At
  rw [ht, hr]
theorem ok_same (l : List qGrant) (g : qGrant) : okB d l g = okB c l g := by
  unfold okB
  rw [ow_same ht hr, ha_same hr, hr]
  unfold tI
  rw [ht]
theorem rnds_sub (hg : ∀ g ∈ d.Grants, g ∈ c.Grants) : ∀ (k : Nat) (g : qGrant), g ∈ rnds d k → g ∈ rnds c k
  | 0, g, h => by cases h
  | k + 1, g, h => by
    obtain ⟨h1, h2⟩ := List.mem_filter.1 (show g ∈ d.Grants.filter (okB d (rnds d k)) from h)
    rw [ok_same ht hr] at h2
    exact List.mem_filter.2 ⟨hg g h1, okB_mono (rnds_sub hg k) h2⟩
theorem he_mono (hg : ∀ g ∈ d.Grants, g ∈ c.Grants) (hl : d.Grants.length ≤ c.Grants.length) (g : qGrant) (h : g ∈ heR d) : g ∈ heR c := by
  have h1 := rnds_sub ht hr hg _ g h
  have up : ∀ m, g ∈ rnds c (d.Grants.length + 1 + m) := by
    intro m
    induction m with
    | zero => exact h1
    | succ m ih =>
      rw [rnds_pk] at ih ⊢
      obtain ⟨i1, i2⟩ := List.mem_filter.1 ih
      exact List.mem_filter.2 ⟨i1, pk_mono c _ g i2⟩
  have := up (c.Grants.length - d.Grants.length)
  rwa [show d.Grants.length + 1 + (c.Grants.length - d.Grants.length) = c.Grants.length + 1 by omega] at this
theorem may_mono (hg : ∀ g ∈ d.Grants, g ∈ c.Grants) (hl : d.Grants.length ≤ c.Grants.length) (r : ByteArray) (p : Int) (t : ByteArray) (h : (owB d r t || haB d (heR d) r p t false) = true) : (owB c r t || haB c (heR c) r p t false) = true := by
  rw [ow_same ht hr, ha_same hr] at h
  simp only [Bool.or_eq_true] at h ⊢
  exact h.imp id (haB_mono (he_mono ht hr hg hl))
end
theorem UQ.other {l : List qGrant} (h : UQ l) {k : Nat} {g x : qGrant} (hk : l[k]? = some g) (hx : x ∈ l.eraseIdx k) : kk x ≠ kk g := by
  obtain ⟨hl, rfl⟩ := List.getElem?_eq_some_iff.1 hk
  have e : l = l.take k ++ l[k] :: l.drop (k + 1) := by rw [← List.drop_eq_getElem_cons hl, List.take_append_drop]
  rw [List.eraseIdx_eq_take_drop_succ] at hx
  unfold UQ at h
  rw [e] at h
  obtain ⟨_, h2, h3⟩ := List.pairwise_append.1 h
  rcases List.mem_append.1 hx with hx | hx
  · exact h3 x hx _ (List.mem_cons_self ..)
  · exact fun e => (List.pairwise_cons.1 h2).1 x hx e.symm
theorem sEq_me (a : ByteArray) : sEq a a = true := sEq_iff.2 rfl
theorem gone_ok {A B : Prop} (p0 : List law19_Act) (p1 : law19_Act) (_ : A) (_ : B) : law19_GrantsGone p0 p1 = some true := by
  unfold law19_GrantsGone
  refine Ret.eq (RB.bind (afew_rb p0) fun q0 h0 => RB.bind (R := fun (q : Bool) => q = false → q0 = true) (RB.cond (fun _ => RB.ret fun h => by cases h) fun hc => RB.bind (afew_rb [p1]) fun r hr => RB.ret fun hq => by simpa using hc) fun q1 h1 => RB.cond (fun _ => ?_) fun hc => ?_)
  · rw [works_eq]
    exact yao (RB.ret rfl)
  have af := h0 (h1 hc)
  refine RB.bind (grown_gu af) fun c hc => RB.bind (revoke_rb hc.1 (by omega) _ _ _) ?_
  rintro ⟨d, e⟩ (⟨he, hd⟩ | ⟨he, v, k, g, hk, hg, hd⟩) <;> simp only at he hd
  · subst hd
    refine RB.cond (fun _ => RB.bind (R := fun r => r = true) (RB.cond (fun _ => ?_) fun h => ?_) fun r h => RB.ret h) fun h => by simp at h; exact absurd h he
    · rw [works_eq]
      exact yao (RB.ret rfl)
    · exact absurd h (by decide)
  have hs := hc.1.2.sm (show 60 ≤ 100 by omega)
  have hkl : k < c.Grants.length := (List.getElem?_eq_some_iff.1 hk).1
  have hsub : d.Grants.Sublist (c.Grants.eraseIdx k) := by rw [hd]; exact he_sub _
  have hlen : d.Grants.length < c.Grants.length := by
    have h1 := hsub.length_le
    rw [List.length_eraseIdx_of_lt hkl] at h1
    omega
  have hin : ∀ x ∈ d.Grants, x ∈ c.Grants := fun x hx => List.mem_of_mem_eraseIdx (hsub.subset hx)
  have ht : d.Tables = c.Tables := by rw [hd]
  have hr : d.Roles = c.Roles := by rw [hd]
  have hcb : CB 60 d := ⟨by rw [ht]; exact hc.1.1.tabs, by rw [ht]; exact hc.1.1.ok, by have := hc.1.1.grants; omega⟩
  have hsd : Sm d.Roles := by rw [hr]; exact hs
  refine RB.cond (fun h => by rw [he] at h; simp at h) fun _ => RB.cond (fun h => by simp at h; omega) fun _ => RB.bind (forN_ret (fun _ _ => True) (Q := fun _ => False) trivial fun j _ hj _ => ?_) ?_
  · obtain ⟨x, hx⟩ : ∃ x, d.Grants[j]? = some x := ⟨_, List.getElem?_eq_getElem hj⟩
    have hxm := List.mem_of_getElem? hx
    have hne : kk x ≠ (p1.S.Role, p1.By, p1.S.Table, p1.S.Priv) := by rw [← hg]; exact UQ.other hc.2.2 hk (hsub.subset hxm)
    refine RB.bind (forE_ret (fun i (s : Bool) => x ∈ c.Grants.take i → s = true) (by simp) ?_) fun s hs => ?_
    · intro i s hi g
      refine RB.bind (R := fun (s : Bool) => x ∈ c.Grants.take (i + 1) → s = true) (RB.cond (fun _ => RB.ret fun _ => rfl) fun hc => y8 hi fun y hy _ => ?_) fun _ h => RB.ret h
      rw [idx_nat, hx]
      refine yao (RB.ret fun hm => ?_)
      rw [take_next hy] at hm
      rcases List.mem_append.1 hm with hm | hm
      · rw [g hm] at hc; cases hc
      · simp only [List.mem_cons, List.not_mem_nil, or_false] at hm
        subst hm
        simp [sEq_me]
    · have hs1 : s = true := hs (by rw [List.take_length]; exact hin x hxm)
      subst hs1
      refine RB.bind (R := fun q => q = false) (RB.cond (fun h => by cases h) fun _ => ?_) fun q hq => RB.cond (fun h => by rw [hq] at h; cases h) fun _ => RB.ret trivial
      rw [idx_nat, hx]
      refine yao (yao (RB.ret ?_))
      refine Bool.eq_false_iff.2 fun h => hne ?_
      simp only [Bool.and_eq_true, sEq_iff, beq_iff_eq] at h
      simp only [kk, h.1, h.2.1, h.2.2.1, h.2.2.2.1]
  · rintro (_ | _) g
    rotate_left
    · exact g.elim
    refine RB.bind (forN_ret (fun _ _ => True) (Q := fun _ => False) trivial fun j _ hj _ => ?_) ?_
    · refine RB.bind (loopO_rb (fun (i : Int) => 1 ≤ i ∧ i ≤ 5) (fun i => (5 - i).toNat) (Q := fun t => match t with | .inl _ => False | .inr _ => True) ?_ ⟨by omega, by omega⟩) ?_
      · rintro i ⟨i1, i2⟩
        refine RB.cond (fun hc5 => y8 hj fun x hx _ => ?_) fun _ => RB.ret trivial
        have h5 : i < 5 := by simpa using hc5
        have ew : w64 (i + 1) = i + 1 := w64_id (by omega) (by omega)
        rw [gmay2 hcb (by omega) hsd, idx_nat, hx]
        refine yao (RB.bind (R := fun q => q = false) (RB.cond (fun h => ?_) fun _ => RB.ret rfl) fun q hq => RB.cond (fun h => by rw [hq] at h; cases h) fun _ => RB.ret ?_)
        · refine yao ?_
          rw [gmay2 hc.1.1 (by omega) hs, may_mono ht hr hin (by omega) _ _ _ h]
          exact yao (RB.ret rfl)
        · rw [ew]
          exact ⟨⟨by omega, by omega⟩, by omega⟩
      · rintro (_ | _) g
        · exact g.elim
        · exact RB.ret trivial
    · rintro (_ | _) g
      · rw [works_eq]
        exact yao (RB.ret rfl)
      · exact g.elim
end Go.Proofs.YtdmapcjbbbifbaaGreat
