/- Regions some of whose operations may come in several orders: a walk for each order. Conditions: none. -/
import Derived.Test.YthndadengamanaaGreatGv15
namespace Go.Gv
open Go
/-- x stands ahead of m. -/
def Inv (l : List Nat) (m x : Nat) : Prop := ∃ l1 l2, l = l1 ++ m :: l2 ∧ x ∈ l1
theorem Inv.strike {l1 l2 : List Nat} {m p x : Nat} (h : Inv (l1 ++ l2) p x) : Inv (l1 ++ m :: l2) p x := by
  obtain ⟨k1, k2, e, hx⟩ := h
  rcases List.append_eq_append_iff.1 e with ⟨c, hc1, hc2⟩ | ⟨c, hc1, hc2⟩
  · refine ⟨l1 ++ m :: c, k2, by rw [hc2]; simp, ?_⟩
    rw [hc1] at hx
    rcases List.mem_append.1 hx with h | h <;> simp [h]
  · cases c with
    | nil =>
      simp only [List.nil_append] at hc2
      simp only [List.append_nil] at hc1
      exact ⟨l1 ++ [m], k2, by rw [← hc2]; simp, by rw [hc1]; simp [hx]⟩
    | cons z c =>
      simp only [List.cons_append, List.cons.injEq] at hc2
      obtain ⟨rfl, hc2⟩ := hc2
      exact ⟨k1, c ++ m :: l2, by rw [hc1]; simp, hx⟩
theorem Inv.trans {l : List Nat} {m k x : Nat} (hk : k ∈ l) (h1 : ¬ Inv l m k) (h2 : ¬ Inv l k x) : ¬ Inv l m x := by
  rintro ⟨l1, l2, rfl, hx⟩
  rcases List.mem_append.1 hk with h | h
  · exact h1 ⟨l1, l2, rfl, h⟩
  · rcases List.mem_cons.1 h with rfl | h
    · exact h2 ⟨l1, l2, rfl, hx⟩
    · obtain ⟨a, b, rfl⟩ := List.append_of_mem h
      exact h2 ⟨l1 ++ m :: a, b, by simp, by simp [hx]⟩
theorem Inv.asymm {l : List Nat} (hn : l.Nodup) {a b : Nat} (h : Inv l a b) : ¬ Inv l b a := by
  rintro ⟨k1, k2, e2, ha⟩
  obtain ⟨l1, l2, e1, hb⟩ := h
  obtain ⟨p, q, rfl⟩ := List.append_of_mem hb
  have e : p ++ b :: (q ++ a :: l2) = k1 ++ b :: k2 := by rw [← e2, e1]; simp
  have hn1 : (p ++ b :: (q ++ a :: l2)).Nodup := by rw [e, ← e2]; exact hn
  have hp : p = k1 := by
    have h1 := List.nodup_append.1 hn1
    have hn2 : (k1 ++ b :: k2).Nodup := by rw [← e2]; exact hn
    have h2 := List.nodup_append.1 hn2
    have hb1 : b ∉ p := fun hm => h1.2.2 b hm b (by simp) rfl
    have hb2 : b ∉ k1 := fun hm => h2.2.2 b hm b (by simp) rfl
    rcases List.append_eq_append_iff.1 e with ⟨c, hc1, hc2⟩ | ⟨c, hc1, hc2⟩
    · cases c with
      | nil => simpa using hc1.symm
      | cons z c =>
        simp only [List.cons_append, List.cons.injEq] at hc2
        exact absurd (by rw [hc1, hc2.1]; simp) hb2
    · cases c with
      | nil => simpa using hc1
      | cons z c =>
        simp only [List.cons_append, List.cons.injEq] at hc2
        exact absurd (by rw [hc1, hc2.1]; simp) hb1
  subst hp
  have h1 := (List.nodup_append.1 hn1).2.2 a ha a (by simp)
  exact h1 rfl
section
variable {P : Program} {K : World → Prop} {qt : Op → Bool} {z : Nat} {ops : Array Oper} {Q : Exit → Act → World → Prop}
theorem mayPass_lt {m x : Nat} (h : mayPass qt z ops m x = true) : m < z := by
  unfold mayPass at h
  split at h
  · simp only [Bool.and_eq_true] at h
    exact Nat.le_of_ble_eq_true h.1.2
  · cases h
theorem tail_eq2 : ∀ (s l : List Nat), s.Perm l → (∀ x ∈ s, z ≤ x) → s.Pairwise (fun m x => ¬ Inv l m x ∨ mayPass qt z ops m x = true) → s = l
  | [], l, hp, _, _ => (List.Perm.eq_nil hp.symm).symm
  | m :: s, l, hp, hz, h => by
    obtain ⟨l1, l2, rfl⟩ := List.append_of_mem (hp.subset (List.mem_cons_self))
    have hp' : s.Perm (l1 ++ l2) := (List.perm_cons m).1 (hp.trans List.perm_middle)
    have h' := List.pairwise_cons.1 h
    have : l1 = [] := by
      cases l1 with
      | nil => rfl
      | cons x r =>
        have hx : x ∈ s := hp'.symm.subset (by simp)
        rcases h'.1 x hx with hi | hi
        · exact absurd ⟨x :: r, l2, rfl, by simp⟩ hi
        · have := mayPass_lt hi
          have := hz m (by simp)
          omega
    subst this
    simp only [List.nil_append] at hp' h ⊢
    rw [tail_eq2 s l2 hp' (fun x hx => hz x (by simp [hx])) (h'.2.imp fun {p x} hh => hh.imp (fun hn hi => hn (Inv.strike (l1 := []) (m := m) hi)) id)]
theorem wpK_sorted2 : ∀ (s l : List Nat), s.Perm l → s.Pairwise (fun m x => z ≤ m → z ≤ x) → s.Pairwise (fun m x => ¬ Inv l m x ∨ mayPass qt z ops m x = true) →
    ∀ {a : Act} {w : World}, K w → wpK P K qt z ops Q s a w → wpK P K qt z ops Q l a w
  | [], l, hp, _, _, a, w, _, h => by rw [List.Perm.eq_nil hp.symm]; exact h
  | m :: s, l, hp, ht, hs, a, w, hK, h => by
    by_cases hmz : m < z
    · obtain ⟨l1, l2, rfl⟩ := List.append_of_mem (hp.subset (List.mem_cons_self))
      have hp' : s.Perm (l1 ++ l2) := (List.perm_cons m).1 (hp.trans List.perm_middle)
      have hs' := List.pairwise_cons.1 hs
      have h1 : wpK P K qt z ops Q (m :: (l1 ++ l2)) a w :=
        wpK_under hmz (fun a w hK h => wpK_sorted2 s (l1 ++ l2) hp' (List.pairwise_cons.1 ht).2 (hs'.2.imp fun {p x} hh => hh.imp (fun hn hi => hn (Inv.strike hi)) id) hK h) hK h
      have hmay : ∀ x ∈ l1, mayPass qt z ops m x = true := fun x hx => by
        rcases hs'.1 x (hp'.symm.subset (List.mem_append_left _ hx)) with hi | hi
        · exact absurd ⟨l1, l2, rfl, hx⟩ hi
        · exact hi
      cases hsp : spAt qt ops m with
      | true => exact wpK_behind_sp hsp l1 l2 hmay h1
      | false => exact wpK_behind hsp l1 l2 hmay hK h1
    · have ht' := List.pairwise_cons.1 ht
      have e := tail_eq2 (qt := qt) (ops := ops) (m :: s) l hp (fun x hx => by
        rcases List.mem_cons.1 hx with rfl | hx
        · omega
        · exact ht'.1 x hx (by omega)) hs
      rw [← e]
      exact h
end
/-- The orders, by which of two operations comes first. -/
inductive OT
  | leaf (l : List Nat)
  | split (a b : Nat) (t1 t2 : OT)
def bef1 (ops : Array Oper) (F : List (Nat × Nat)) (m x : Nat) : Bool := waits ops ops.size x m || F.any fun p => Nat.beq p.1 m && Nat.beq p.2 x
def bef (ops : Array Oper) (F : List (Nat × Nat)) (m x : Nat) : Bool := bef1 ops F m x || (List.range ops.size).any fun k => bef1 ops F m k && bef1 ops F k x
def pairsB (p : Nat → Nat → Bool) : List Nat → Bool
  | [] => true
  | m :: r => r.all (p m) && pairsB p r
def permB (n : Nat) (l : List Nat) : Bool := (pairsB (fun a b => !Nat.beq a b) l && l.all fun i => Nat.blt i n) && (List.range n).all fun i => l.any (Nat.beq i)
def OT.ok (qt : Op → Bool) (z : Nat) (ops : Array Oper) : List (Nat × Nat) → OT → Bool
  | F, .leaf l => permB ops.size l && pairsB (fun m x => Nat.blt m z || Nat.ble z x) l && pairsB (fun m x => bef ops F m x || mayPass qt z ops m x) l
  | F, .split a b t1 t2 => OT.ok qt z ops ((a, b) :: F) t1 && OT.ok qt z ops ((b, a) :: F) t2
def OT.all (Φ : List Nat → Prop) : OT → Prop
  | .leaf l => Φ l
  | .split _ _ t1 t2 => t1.all Φ ∧ t2.all Φ
theorem pairsB_pw {p : Nat → Nat → Bool} : ∀ {l : List Nat}, pairsB p l = true → l.Pairwise fun m x => p m x = true
  | [], _ => List.Pairwise.nil
  | m :: r, h => by
    simp only [pairsB, Bool.and_eq_true] at h
    exact List.pairwise_cons.2 ⟨fun x hx => List.all_eq_true.1 h.1 x hx, pairsB_pw h.2⟩
theorem permB_perm {n : Nat} {l : List Nat} (h : permB n l = true) : l.Perm (List.range n) := by
  simp only [permB, Bool.and_eq_true] at h
  have hnd : l.Nodup := (pairsB_pw h.1.1).imp fun {a b} hh e => by
    subst e
    rw [Nat.beq_refl] at hh
    cases hh
  refine (List.perm_ext_iff_of_nodup hnd List.nodup_range).2 fun i => ⟨fun hi => List.mem_range.2 (Nat.le_of_ble_eq_true (List.all_eq_true.1 h.1.2 i hi)), fun hi => ?_⟩
  obtain ⟨x, hx, hb⟩ := List.any_eq_true.1 (List.all_eq_true.1 h.2 i hi)
  rw [Nat.eq_of_beq_eq_true hb]; exact hx
section
variable {P : Program} {n : Nat} {K : World → Prop} {qt : Op → Bool} {z : Nat} {ops : Array Oper} {Q : Exit → Act → World → Prop} {fr : Fr} {w : World}
theorem OT.sound {l : List Nat} (hp : (List.range ops.size).Perm l) (ho : Ordered ops l) {a : Act} (hK : K w) : ∀ (t : OT) (F : List (Nat × Nat)), t.ok qt z ops F = true → (∀ p ∈ F, ¬ Inv l p.1 p.2) → t.all (fun s => wpK P K qt z ops Q s a w) → wpK P K qt z ops Q l a w
  | .leaf s, F, h, hF, hw => by
    simp only [OT.ok, Bool.and_eq_true] at h
    have hs := permB_perm h.1.1
    have hin : ∀ y, y < ops.size → y ∈ l := fun y hy => hp.subset (List.mem_range.2 hy)
    have b1 : ∀ m x, x ∈ s → bef1 ops F m x = true → ¬ Inv l m x := by
      intro m x hx hb
      simp only [bef1, Bool.or_eq_true] at hb
      rcases hb with hb | hb
      · rintro ⟨l1, l2, e, hx1⟩
        have hxs : x < ops.size := List.mem_range.1 (hs.subset hx)
        have := not_waits ho e ops.size x (fun y _ h2 => hin y (by omega)) hx1
        rw [hb] at this
        cases this
      · obtain ⟨p, hp', hb⟩ := List.any_eq_true.1 hb
        simp only [Bool.and_eq_true] at hb
        rw [← Nat.eq_of_beq_eq_true hb.1, ← Nat.eq_of_beq_eq_true hb.2]
        exact hF p hp'
    refine wpK_sorted2 s l (hs.trans hp) ((pairsB_pw h.1.2).imp fun {m x} hh hz => ?_) ?_ hK hw
    · simp only [Bool.or_eq_true] at hh
      rcases hh with hh | hh
      · have := Nat.le_of_ble_eq_true hh
        omega
      · exact Nat.le_of_ble_eq_true hh
    · refine (pairsB_pw h.2).imp_of_mem fun {m x} hm hx hh => ?_
      simp only [Bool.or_eq_true] at hh
      rcases hh with hh | hh
      · left
        simp only [bef, Bool.or_eq_true] at hh
        rcases hh with hh | hh
        · exact b1 m x hx hh
        · obtain ⟨k, hk, hb⟩ := List.any_eq_true.1 hh
          simp only [Bool.and_eq_true] at hb
          exact Inv.trans (hin k (List.mem_range.1 hk)) (b1 m k (hs.symm.subset hk) hb.1) (b1 k x hx hb.2)
      · exact .inr hh
  | .split p q t1 t2, F, h, hF, hw => by
    simp only [OT.ok, Bool.and_eq_true] at h
    by_cases hi : Inv l p q
    · refine OT.sound hp ho hK t2 ((q, p) :: F) h.2 (fun e he => ?_) hw.2
      rcases List.mem_cons.1 he with rfl | he
      · exact hi.asymm (hp.nodup List.nodup_range)
      · exact hF e he
    · refine OT.sound hp ho hK t1 ((p, q) :: F) h.1 (fun e he => ?_) hw.1
      rcases List.mem_cons.1 he with rfl | he
      · exact hi
      · exact hF e he
theorem OT.all_imp {Φ Ψ : List Nat → Prop} (h : ∀ l, Φ l → Ψ l) : ∀ (t : OT), t.all Φ → t.all Ψ
  | .leaf l, hw => h l hw
  | .split _ _ t1 t2, hw => ⟨OT.all_imp h t1 hw.1, OT.all_imp h t2 hw.2⟩
theorem W.draws {id : Nat} (t : OT) (z : Nat) (K : World → Prop) (qt : Op → Bool) (hb : Sched ops) (hp : t.ok qt z ops [] = true) (hK : K w.drew)
    (h : t.all fun l => WO P n K qt z ops Q l fr w.drew) : W P n (.region id ops true) Q fr w :=
  fun a ha => wp_region_draw fun u => by
    obtain ⟨h1, h2⟩ := hb (P.follows .mixedOrders) u
    exact wpOps_of_wpK _ a w.drew (OT.sound h1 h2 hK t [] hp (fun p hp => by cases hp) (OT.all_imp (fun l hl => hl hK a ha) t h))
end
end Go.Gv
