/- Plain laws: maps as lists; searches. Conditions: none. -/
import Derived.Test.YthndadengamanaaGreatGv16
namespace Go.Gv
section
variable {κ ν : Type} {eq : κ → κ → Bool}
/-- Keys are told apart. -/
def KEq (eq : κ → κ → Bool) : Prop := ∀ a b, eq a b = true ↔ a = b
theorem KEq.refl (h : KEq eq) (a : κ) : eq a a = true := (h a a).2 rfl
theorem KEq.ne (h : KEq eq) {a b : κ} (hn : a ≠ b) : eq a b = false := by
  cases hx : eq a b with
  | false => rfl
  | true => exact absurd ((h a b).1 hx) hn
theorem mget_nil (k : κ) : mget eq ([] : List (κ × ν)) k = none := rfl
theorem mhas_nil (k : κ) : mhas eq ([] : List (κ × ν)) k = false := rfl
theorem mget_cons (a : κ) (v : ν) (r : List (κ × ν)) (k : κ) : mget eq ((a, v) :: r) k = bif eq k a then some v else mget eq r k := by
  unfold mget
  simp only [List.map_cons, mpos]
  cases eq k a with
  | true => rfl
  | false => simp only [Bool.false_eq_true, if_false, cond_false]; cases mpos eq k (r.map (·.1)) <;> simp
theorem mhas_cons (a : κ) (v : ν) (r : List (κ × ν)) (k : κ) : mhas eq ((a, v) :: r) k = (eq k a || mhas eq r k) := by
  unfold mhas
  simp only [List.map_cons, mpos]
  cases eq k a with
  | true => rfl
  | false => simp
theorem mset_nil (k : κ) (v : ν) : mset eq [] k v = [(k, v)] := rfl
theorem mset_cons (a : κ) (u : ν) (r : List (κ × ν)) (k : κ) (v : ν) : mset eq ((a, u) :: r) k v = bif eq k a then (k, v) :: r else (a, u) :: mset eq r k v := by
  unfold mset
  simp only [List.map_cons, mpos]
  cases eq k a with
  | true => rfl
  | false => simp only [Bool.false_eq_true, if_false, cond_false]; cases mpos eq k (r.map (·.1)) <;> simp
theorem mdel_nil (k : κ) : mdel eq ([] : List (κ × ν)) k = [] := rfl
theorem mdel_cons (a : κ) (u : ν) (r : List (κ × ν)) (k : κ) : mdel eq ((a, u) :: r) k = bif eq k a then r else (a, u) :: mdel eq r k := by
  unfold mdel
  simp only [List.map_cons, mpos]
  cases eq k a with
  | true => rfl
  | false => simp only [Bool.false_eq_true, if_false, cond_false]; cases mpos eq k (r.map (·.1)) <;> simp
theorem mhas_get (l : List (κ × ν)) (k : κ) : mhas eq l k = (mget eq l k).isSome := by
  induction l with
  | nil => rfl
  | cons p r ih => obtain ⟨a, v⟩ := p; rw [mhas_cons, mget_cons]; cases eq k a <;> simp [ih]
theorem mhas_iff (h : KEq eq) {l : List (κ × ν)} {k : κ} : mhas eq l k = true ↔ k ∈ l.map (·.1) := by
  induction l with
  | nil => simp [mhas_nil]
  | cons p r ih => obtain ⟨a, v⟩ := p; rw [mhas_cons]; simp only [Bool.or_eq_true, List.map_cons, List.mem_cons, ih, h k a]
theorem mget_none (h : KEq eq) {l : List (κ × ν)} {k : κ} (hk : k ∉ l.map (·.1)) : mget eq l k = none := by
  have : mhas eq l k = false := by
    cases hx : mhas eq l k with
    | false => rfl
    | true => exact absurd ((mhas_iff h).1 hx) hk
  rw [mhas_get] at this
  simpa using this
theorem mget_some (h : KEq eq) {l : List (κ × ν)} {k : κ} (hk : k ∈ l.map (·.1)) : ∃ v, mget eq l k = some v := by
  have := (mhas_iff h).2 hk
  rw [mhas_get] at this
  exact Option.isSome_iff_exists.1 this
theorem mget_mset (h : KEq eq) (l : List (κ × ν)) (k : κ) (v : ν) (j : κ) : mget eq (mset eq l k v) j = bif eq j k then some v else mget eq l j := by
  induction l with
  | nil => rw [mset_nil, mget_cons]
  | cons p r ih =>
    obtain ⟨a, u⟩ := p
    rw [mset_cons]
    cases hk : eq k a with
    | true =>
      have := (h k a).1 hk
      subst this
      simp only [cond_true, mget_cons]
      cases eq j k <;> rfl
    | false =>
      simp only [cond_false, mget_cons, ih]
      cases hj : eq j a with
      | true =>
        have := (h j a).1 hj
        subst this
        have : eq j k = false := h.ne fun e => by subst e; rw [h.refl] at hk; cases hk
        rw [this]; rfl
      | false => rfl
theorem mset_mem (h : KEq eq) (l : List (κ × ν)) (k : κ) (v : ν) (j : κ) : j ∈ (mset eq l k v).map (·.1) ↔ j = k ∨ j ∈ l.map (·.1) := by
  rw [← mhas_iff h, ← mhas_iff h, mhas_get, mhas_get, mget_mset h]
  cases hj : eq j k with
  | true => simp [(h j k).1 hj]
  | false =>
    simp only [cond_false]
    constructor
    · exact .inr
    · rintro (rfl | h2)
      · rw [h.refl] at hj; cases hj
      · exact h2
theorem mset_nodup (h : KEq eq) {l : List (κ × ν)} (hn : (l.map (·.1)).Nodup) (k : κ) (v : ν) : ((mset eq l k v).map (·.1)).Nodup := by
  induction l with
  | nil => simp [mset_nil]
  | cons p r ih =>
    obtain ⟨a, u⟩ := p
    simp only [List.map_cons, List.nodup_cons] at hn
    rw [mset_cons]
    cases hk : eq k a with
    | true =>
      have := (h k a).1 hk
      subst this
      simpa using hn
    | false =>
      simp only [cond_false, List.map_cons, List.nodup_cons]
      refine ⟨?_, ih hn.2⟩
      rw [mset_mem h]
      rintro (rfl | h2)
      · rw [h.refl] at hk; cases hk
      · exact hn.1 h2
theorem mget_mdel (h : KEq eq) {l : List (κ × ν)} (hn : (l.map (·.1)).Nodup) (k j : κ) : mget eq (mdel eq l k) j = bif eq j k then none else mget eq l j := by
  induction l with
  | nil => rw [mdel_nil, mget_nil]; cases eq j k <;> rfl
  | cons p r ih =>
    obtain ⟨a, u⟩ := p
    simp only [List.map_cons, List.nodup_cons] at hn
    rw [mdel_cons]
    cases hk : eq k a with
    | true =>
      have := (h k a).1 hk
      subst this
      simp only [cond_true, mget_cons]
      cases hj : eq j k with
      | true => rw [(h j k).1 hj]; exact mget_none h hn.1
      | false => rfl
    | false =>
      simp only [cond_false, mget_cons, ih hn.2]
      cases hj : eq j a with
      | true =>
        have := (h j a).1 hj
        subst this
        have : eq j k = false := h.ne fun e => by subst e; rw [h.refl] at hk; cases hk
        rw [this]; rfl
      | false => rfl
theorem mdel_mem (h : KEq eq) {l : List (κ × ν)} (hn : (l.map (·.1)).Nodup) (k j : κ) : j ∈ (mdel eq l k).map (·.1) ↔ j ≠ k ∧ j ∈ l.map (·.1) := by
  rw [← mhas_iff h, ← mhas_iff h, mhas_get, mhas_get, mget_mdel h hn]
  cases hj : eq j k with
  | true => simp [(h j k).1 hj]
  | false =>
    simp only [cond_false]
    exact ⟨fun h2 => ⟨fun e => (by subst e; rw [h.refl] at hj; cases hj), h2⟩, fun h2 => h2.2⟩
theorem mdel_sub (l : List (κ × ν)) (k : κ) : (mdel eq l k).Sublist l := by
  unfold mdel
  cases mpos eq k (l.map (·.1)) with
  | none => exact List.Sublist.refl _
  | some i => exact List.eraseIdx_sublist ..
theorem mdel_nodup {l : List (κ × ν)} (hn : (l.map (·.1)).Nodup) (k : κ) : ((mdel eq l k).map (·.1)).Nodup := hn.sublist ((mdel_sub l k).map _)
theorem nodup_len {l : List (κ × ν)} {ks : List κ} (hn : (l.map (·.1)).Nodup) (hk : ks.Nodup) (hm : ∀ e, e ∈ l.map (·.1) ↔ e ∈ ks) : l.length = ks.length := by
  have := ((List.perm_ext_iff_of_nodup hn hk).2 hm).length_eq
  simpa using this
end
section
variable {α τ : Type}
theorem find_cases (p : α → Bool) : ∀ L : List α, ((∀ y ∈ L, p y = false) ∧ L.findIdx? p = none) ∨ ∃ A x B, L = A ++ x :: B ∧ p x = true ∧ (∀ y ∈ A, p y = false) ∧ L.findIdx? p = some A.length
  | [] => .inl ⟨by simp, rfl⟩
  | y :: r => by
    rw [List.findIdx?_cons]
    cases hy : p y with
    | true => exact .inr ⟨[], y, r, rfl, hy, by simp, rfl⟩
    | false =>
      rcases find_cases p r with ⟨h1, h2⟩ | ⟨A, x, B, rfl, h2, h3, h4⟩
      · exact .inl ⟨by simpa [hy] using h1, by simp [h2]⟩
      · exact .inr ⟨y :: A, x, B, rfl, h2, by simpa [hy] using h3, by simp [h4]⟩
theorem take_snoc {L : List α} {i : Nat} {x : α} (h : L[i]? = some x) : L.take (i + 1) = L.take i ++ [x] := by
  rw [List.take_add_one, h]; rfl
end
/-! ### Strings, by their bytes -/
theorem sEq_data (a b : ByteArray) : sEq a b = (a.data.toList == b.data.toList) := by
  unfold sEq
  rw [ByteArray.toList_eq, ByteArray.toList_eq]
theorem sLt_data (a b : ByteArray) : sLt a b = Op.bytesLess a.data.toList b.data.toList := by
  unfold sLt
  rw [ByteArray.toList_eq, ByteArray.toList_eq]
end Go.Gv
