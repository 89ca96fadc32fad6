/- Whether a text is a name, by the document. Conditions: none. -/
import Derived.Test.YthndadengamanaaGreatNm
namespace Go.Proofs.YthndadengamanaaGreat
open Go.Gv
/-- Are all bytes from a place on from some? -/
theorem rall_spec {s t : ByteArray} {f : Nat} (hs : s.size ≤ 100000) (ht : t.size ≤ 1000) : Ret (registrarref09_all s (f : Int) t) (fun b => b = true ↔ ∀ (i : Nat) c, f ≤ i → sAt s (i : Int) = some c → ∃ j : Nat, sAt t (j : Int) = some c) := by
  unfold registrarref09_all
  refine RB.bind (R := fun r => (r = .inl false ∧ ∃ (i : Nat) (c : Int), f ≤ i ∧ sAt s (i : Int) = some c ∧ ∀ j : Nat, sAt t (j : Int) ≠ some c) ∨ (r = .inr () ∧ ∀ (i : Nat) c, f ≤ i → sAt s (i : Int) = some c → ∃ j : Nat, sAt t (j : Int) = some c)) (loopO_rb (fun (q : Int) => ∃ k : Nat, q = (k : Int) ∧ f ≤ k ∧ (k ≤ s.size ∨ k = f) ∧ ∀ (i : Nat) c, f ≤ i → i < k → sAt s (i : Int) = some c → ∃ j : Nat, sAt t (j : Int) = some c) (fun q => s.size + f + 1 - q.toNat) ?_ ⟨f, rfl, Nat.le_refl _, .inr rfl, by omega⟩) ?_
  · rintro q ⟨k, rfl, h1, h2, h3⟩
    refine RB.cond (fun hc => ?_) (fun hc => RB.ret (.inr ⟨rfl, fun i c hi hic => h3 i c hi (by have := sAt_lt hic; simp at hc; omega) hic⟩))
    have hk : k < s.size := by simp at hc; omega
    obtain ⟨c, hc⟩ := sAt_some (s := s) (i := (k : Int)) (by omega) (by omega)
    refine RB.bind (R := fun b => b = true ↔ ∃ j : Nat, sAt t (j : Int) = some c) (loopO_rb (fun (q : Bool × Int) => ∃ j : Nat, q.2 = (j : Int) ∧ j ≤ t.size ∧ (q.1 = true ↔ ∃ m : Nat, m < j ∧ sAt t (m : Int) = some c)) (fun q => t.size - q.2.toNat) ?_ ⟨0, rfl, by omega, by simp⟩) ?_
    · rintro ⟨b, q⟩ ⟨j, g1, g2, g3⟩
      simp only at g1 g3
      subst g1
      refine RB.cond (fun hj => ?_) (fun hj => RB.ret ?_)
      · have hj : j < t.size := by simp at hj; omega
        obtain ⟨d, hd⟩ := sAt_some (s := t) (i := (j : Int)) (by omega) (by omega)
        simp only [hd, hc, Option.bind_some]
        refine RB.bind (R := fun b' => b' = true ↔ b = true ∨ d = c) (RB.cond (fun e => RB.ret (by simp [e])) (fun e => RB.ret (by simp [e]))) ?_
        intro b' hb'
        refine RB.ret ⟨⟨j + 1, by simp only; rw [w64_id (by omega) (by omega)]; rfl, hj, ?_⟩, by simp only; rw [w64_id (by omega) (by omega)]; omega⟩
        simp only
        rw [hb', g3]
        constructor
        · rintro (⟨m, h, e⟩ | rfl)
          · exact ⟨m, by omega, e⟩
          · exact ⟨j, by omega, hd⟩
        · rintro ⟨m, h, e⟩
          by_cases hm : m = j
          · subst hm; rw [hd] at e; injection e with e; exact .inr e
          · exact .inl ⟨m, by omega, e⟩
      · have : j = t.size := by simp at hj; omega
        subst this
        refine g3.trans ?_
        constructor
        · rintro ⟨m, _, e⟩; exact ⟨m, e⟩
        · rintro ⟨m, e⟩; exact ⟨m, sAt_lt e, e⟩
    · intro b hb
      refine RB.cond (fun e => RB.ret (.inl ⟨rfl, k, c, h1, hc, fun j hj => ?_⟩)) (fun e => RB.ret ⟨⟨k + 1, by rw [w64_id (by omega) (by omega)]; rfl, by omega, .inl hk, fun i d hi hik hd => ?_⟩, by rw [w64_id (by omega) (by omega)]; omega⟩)
      · rw [hb.2 ⟨j, hj⟩] at e; cases e
      · by_cases hm : i = k
        · subst hm; rw [hc] at hd; injection hd with hd; subst hd; exact hb.1 (by simpa using e)
        · exact h3 i d hi (by omega) hd
  · rintro r (⟨rfl, i, c, h1, h2, h3⟩ | ⟨rfl, h⟩)
    · exact RB.ret ⟨fun h => (by cases h), fun h => by obtain ⟨j, hj⟩ := h i c h1 h2; exact absurd hj (h3 j)⟩
    · exact RB.ret ⟨fun _ => h, fun _ => rfl⟩
def nums (t : ByteArray) : List Int := t.data.toList.map fun b => (b.toNat : Int)
theorem sAt_nums (t : ByteArray) (c : Int) : (∃ j : Nat, sAt t (j : Int) = some c) ↔ c ∈ nums t := by
  have key : ∀ j : Nat, sAt t (j : Int) = (nums t)[j]? := fun j => by
    unfold sAt nums
    rw [if_pos (by omega), Int.toNat_natCast, List.getElem?_map, Array.getElem?_toList]
    rfl
  rw [List.mem_iff_getElem?]
  constructor <;> rintro ⟨j, hj⟩ <;> exact ⟨j, by rw [← hj, key]⟩
theorem first_at {s : ByteArray} (h0 : 0 < s.size) (i : Nat) (c : Int) : sAt (s.extract 0 1) (i : Int) = some c ↔ i = 0 ∧ sAt s 0 = some c := by
  have hs : (s.extract 0 1).size = 1 := by rw [ByteArray.size_extract]; omega
  constructor
  · intro h
    have hi := sAt_lt h
    have hi0 : i = 0 := by omega
    subst hi0
    refine ⟨rfl, ?_⟩
    unfold sAt at h ⊢
    rw [if_pos (by omega)] at h ⊢
    rw [← h]
    congr 1
    rw [Int.toNat_natCast]
    show s[0]? = _
    rw [getElem?_pos s 0 h0, getElem?_pos (s.extract 0 1) 0 (by omega), ByteArray.getElem_extract]
  · rintro ⟨rfl, h⟩
    unfold sAt at h ⊢
    rw [if_pos (by omega)] at h ⊢
    rw [← h]
    congr 1
    rw [Int.toNat_natCast]
    show _ = s[0]?
    rw [getElem?_pos s 0 h0, getElem?_pos (s.extract 0 1) 0 (by omega), ByteArray.getElem_extract]
theorem plain_ret {s : ByteArray} (hs : s.size ≤ 100000) : ∃ b, registrarref03_Plain s = some b := by
  refine Ret.ex (Q := fun _ => True) ?_ |>.imp fun r h => h.1
  unfold registrarref03_Plain
  refine RB.bind (loopO_rb (Q := fun _ => True) (fun (q : Int) => 0 ≤ q ∧ q ≤ (s.size : Int)) (fun q => ((s.size : Int) - q).toNat) ?_ ⟨by omega, by omega⟩) (fun t _ => by cases t <;> exact RB.ret trivial)
  rintro q ⟨h1, h2⟩
  refine RB.cond (fun hc => ?_) (fun _ => RB.ret trivial)
  have hq : q < (s.size : Int) := by simpa using hc
  obtain ⟨c, hc⟩ := sAt_some h1 hq
  rw [hc]
  simp only [Option.bind_some]
  refine RB.bind (R := fun _ => True) (RB.cond (fun _ => RB.ret trivial) (fun _ => RB.ret trivial)) (fun b _ => RB.cond (fun _ => RB.ret trivial) (fun _ => RB.ret ⟨⟨?_, ?_⟩, ?_⟩)) <;> rw [w64_id (by omega) (by omega)] <;> omega
theorem rquoted_ret {s : ByteArray} (hs : s.size ≤ 100000) (h0 : 0 < s.size) : ∃ b, registrarref09_quoted s = some b := by
  refine Ret.ex (Q := fun _ => True) ?_ |>.imp fun r h => h.1
  unfold registrarref09_quoted
  have hw : w64 ((s.size : Int) - 1) = ((s.size - 1 : Nat) : Int) := by rw [w64_id (by omega) (by omega)]; omega
  rw [hw]
  obtain ⟨c0, hc0⟩ := sAt_some (s := s) (i := 0) (by omega) (by omega)
  obtain ⟨c1, hc1⟩ := sAt_some (s := s) (i := ((s.size - 1 : Nat) : Int)) (by omega) (by omega)
  obtain ⟨p, hp⟩ := plain_ret hs
  rw [hc0, hc1, hp]
  simp only [Option.bind_some]
  refine RB.bind (R := fun _ => True) (RB.cond (fun _ => RB.ret trivial) (fun _ => RB.ret trivial)) (fun _ _ => RB.bind (R := fun _ => True) (RB.cond (fun _ => RB.ret trivial) (fun _ => RB.ret trivial)) (fun _ _ => RB.bind (R := fun _ => True) (RB.cond (fun _ => RB.ret trivial) (fun _ => RB.ret trivial)) (fun _ _ => RB.cond (fun _ => RB.ret trivial) (fun _ => ?_))))
  refine RB.bind (loopO_rb (Q := fun _ => True) (fun (q : Int × Int) => 1 ≤ q.2 ∧ (q.2 ≤ (s.size : Int) ∨ q.2 = 1)) (fun q => ((s.size : Int) + 1 - q.2).toNat) ?_ ⟨by simp, .inr rfl⟩) (fun t _ => by cases t <;> exact RB.ret trivial)
  rintro ⟨n, q⟩ ⟨h1, h2⟩
  simp only at h1 h2
  refine RB.cond (fun hc => ?_) (fun _ => RB.ret trivial)
  have hq : q < (s.size : Int) := by simp at hc; omega
  obtain ⟨c, hc⟩ := sAt_some (s := s) (by omega) hq
  rw [hc]
  simp only [Option.bind_some]
  refine RB.bind (R := fun _ => True) (RB.cond (fun _ => RB.cond (fun _ => RB.ret trivial) (fun _ => RB.ret trivial)) (fun _ => RB.ret trivial)) (fun t _ => ?_)
  cases t with
  | inl v => exact RB.ret trivial
  | inr v =>
    refine RB.ret ⟨⟨?_, .inl ?_⟩, ?_⟩ <;> simp only <;> rw [w64_id (by omega) (by omega)] <;> omega
theorem rsign_ret (s : ByteArray) : ∃ b, registrarref09_sign s = some b := by
  refine Ret.ex (Q := fun _ => True) ?_ |>.imp fun r h => h.1
  unfold registrarref09_sign
  refine RB.bind (R := fun _ => True) ?_ (fun b _ => RB.cond (fun _ => RB.ret trivial) (fun _ => RB.ret trivial))
  repeat first
    | exact RB.ret trivial
    | refine RB.cond (fun _ => RB.ret trivial) (fun _ => RB.bind (R := fun _ => True) ?_ (fun _ _ => RB.ret trivial))
    | refine RB.cond (fun _ => RB.ret trivial) (fun _ => RB.ret trivial)
theorem rname_spec {s : ByteArray} (hs : s.size ≤ 100000) : ∃ b, registrarref09_IsName s = some b ∧ (b = true ↔ Nmd s) := by
  refine Ret.ex ?_
  unfold registrarref09_IsName
  refine RB.bind (R := fun k => k = 1 ↔ Nmd s) ?_ (fun k hk => RB.ret (by rw [beq_iff_eq]; exact hk))
  unfold registrarref09_Kind
  refine RB.cond (fun e => RB.ret ⟨fun h => (by cases h), fun h => ?_⟩) (fun e => ?_)
  · have := h.pos
    rw [(keq _ _).1 e] at this
    cases this
  have h0 := size_pos e
  have hex : ssub s 0 1 = some (s.extract 0 1) := by
    unfold ssub
    rw [if_pos ⟨by omega, by omega, by omega⟩]
    rfl
  have hes : (s.extract 0 1).size ≤ 100000 := by rw [ByteArray.size_extract]; omega
  refine RB.bind (R := fun b => b = true ↔ s.size ≤ 12 ∧ ∃ c, sAt s 0 = some c ∧ Sml c) (RB.cond (fun hc => ?_) (fun hc => RB.ret ⟨fun h => (by cases h), fun h => by simp at hc; omega⟩)) (fun b hb => ?_)
  · rw [hex]
    simp only [Option.bind_some]
    refine RB.bind (rall_spec (f := 0) hes (by decide)) (fun b hb => RB.ret (hb.trans ?_))
    have h12 : s.size ≤ 12 := by simp at hc; omega
    obtain ⟨c, hc⟩ := sAt_some (s := s) (i := 0) (by omega) (by omega)
    have hm : (∃ j : Nat, sAt (⟨#[97, 98, 99, 100, 101, 102, 103, 104, 105, 106, 107, 108, 109, 110, 111, 112, 113, 114, 115, 116, 117, 118, 119, 120, 121, 122]⟩ : ByteArray) (j : Int) = some c) ↔ Sml c := by
      rw [sAt_nums]
      simp only [nums, List.map_cons, List.map_nil, List.mem_cons, List.not_mem_nil, or_false, Sml]
      simp
      omega
    constructor
    · intro h
      exact ⟨h12, c, hc, hm.1 (h 0 c (by omega) ((first_at h0 0 c).2 ⟨rfl, hc⟩))⟩
    · rintro ⟨_, d, hd, hds⟩ i x _ hx
      obtain ⟨_, hx⟩ := (first_at h0 i x).1 hx
      rw [hc] at hx hd
      injection hx with hx; injection hd with hd
      subst hx hd
      exact hm.2 hds
  refine RB.bind (R := fun b => b = true ↔ Nmd s) (RB.cond (fun e => ?_) (fun e => RB.ret ⟨fun h => (by cases h), fun h => ?_⟩)) (fun b hb => RB.cond (fun e => RB.ret ⟨fun _ => hb.1 e, fun _ => rfl⟩) (fun e => ?_))
  · obtain ⟨h12, c, hc, hcs⟩ := hb.1 e
    refine RB.bind (rall_spec (f := 1) hs (by decide)) (fun b hb => RB.ret (hb.trans ?_))
    have hm : ∀ x, (∃ j : Nat, sAt (⟨#[97, 98, 99, 100, 101, 102, 103, 104, 105, 106, 107, 108, 109, 110, 111, 112, 113, 114, 115, 116, 117, 118, 119, 120, 121, 122, 48, 49, 50, 51, 52, 53, 54, 55, 56, 57, 95]⟩ : ByteArray) (j : Int) = some x) ↔ Wrd x := fun x => by
      rw [sAt_nums]
      simp only [nums, List.map_cons, List.map_nil, List.mem_cons, List.not_mem_nil, or_false, Wrd]
      simp
      omega
    constructor
    · intro h
      refine ⟨h12, ⟨c, hc, hcs⟩, fun i x hx => ?_⟩
      by_cases hi : i = 0
      · subst hi
        rw [show ((0 : Nat) : Int) = 0 from rfl, hc] at hx
        injection hx with hx
        subst hx
        exact .inl hcs
      · exact (hm x).1 (h i x (by omega) hx)
    · intro h i x _ hx
      exact (hm x).2 (h.2.2 i x hx)
  · have := hb.2 ⟨h.1, h.2.1⟩
    rw [e] at this
    cases this
  have hno : ¬ Nmd s := fun h => by rw [hb.2 h] at e; cases e
  refine RB.mono (Q := fun k => k ≠ 1) ?_ (fun k hk => ⟨fun h => absurd h hk, fun h => absurd h hno⟩)
  rw [hex]
  simp only [Option.bind_some]
  have ra : ∀ (x t : ByteArray) (f : Nat), x.size ≤ 100000 → t.size ≤ 1000 → ∃ b, registrarref09_all x (f : Int) t = some b := fun x t f h1 h2 => by
    obtain ⟨b, hb, _⟩ := (rall_spec (s := x) (t := t) (f := f) h1 h2).ex
    exact ⟨b, hb⟩
  obtain ⟨b1, hb1⟩ := ra (s.extract 0 1) (⟨#[65, 66, 67, 68, 69, 70, 71, 72, 73, 74, 75, 76, 77, 78, 79, 80, 81, 82, 83, 84, 85, 86, 87, 88, 89, 90]⟩ : ByteArray) 0 hes (by decide)
  obtain ⟨b2, hb2⟩ := ra s (⟨#[65, 66, 67, 68, 69, 70, 71, 72, 73, 74, 75, 76, 77, 78, 79, 80, 81, 82, 83, 84, 85, 86, 87, 88, 89, 90, 95]⟩ : ByteArray) 1 hs (by decide)
  obtain ⟨b3, hb3⟩ := ra s (⟨#[48, 49, 50, 51, 52, 53, 54, 55, 56, 57]⟩ : ByteArray) 0 hs (by decide)
  obtain ⟨b4, hb4⟩ := rquoted_ret hs h0
  obtain ⟨b5, hb5⟩ := rsign_ret s
  obtain ⟨c0, hc0⟩ := sAt_some (s := s) (i := 0) (by omega) (by omega)
  refine RB.bind (R := fun _ => True) (RB.cond (fun _ => RB.bindE hb1 (RB.ret trivial)) (fun _ => RB.ret trivial)) (fun _ _ => ?_)
  refine RB.bind (R := fun _ => True) (RB.cond (fun _ => RB.bindE hb2 (RB.ret trivial)) (fun _ => RB.ret trivial)) (fun _ _ => RB.cond (fun _ => RB.ret (by decide)) (fun _ => ?_))
  refine RB.bind (R := fun _ => True) (RB.cond (fun _ => RB.bindE hb3 (RB.ret trivial)) (fun _ => RB.ret trivial)) (fun _ _ => ?_)
  refine RB.bind (R := fun _ => True) (RB.cond (fun _ => RB.bind (R := fun _ => True) (RB.cond (fun _ => RB.ret trivial) (fun _ => by rw [hc0]; exact RB.ret trivial)) (fun _ _ => RB.ret trivial)) (fun _ => RB.ret trivial)) (fun _ _ => RB.cond (fun _ => RB.ret (by decide)) (fun _ => ?_))
  rw [hb4]
  simp only [Option.bind_some]
  refine RB.cond (fun _ => RB.ret (by decide)) (fun _ => ?_)
  refine RB.bind (R := fun b => b = true → s.size = 2) (RB.cond (fun hc => by rw [hc0]; exact RB.ret (fun _ => by simp at hc; omega)) (fun _ => RB.ret (fun h => by cases h))) (fun b hb => ?_)
  have at1 : s.size = 2 → ∃ c, sAt s 1 = some c := fun h => sAt_some (by omega) (by omega)
  refine RB.bind (R := fun b => b = true → s.size = 2) (RB.cond (fun e => by obtain ⟨c, hc⟩ := at1 (hb e); rw [hc]; exact RB.ret (fun _ => hb e)) (fun _ => RB.ret (fun h => by cases h))) (fun b hb => ?_)
  refine RB.bind (R := fun _ => True) (RB.cond (fun e => by obtain ⟨c, hc⟩ := at1 (hb e); rw [hc]; exact RB.ret trivial) (fun _ => RB.ret trivial)) (fun _ _ => RB.cond (fun _ => RB.ret (by decide)) (fun _ => ?_))
  rw [hb5]
  simp only [Option.bind_some]
  exact RB.cond (fun _ => RB.ret (by decide)) (fun _ => RB.ret (by decide))
end Go.Proofs.YthndadengamanaaGreat
