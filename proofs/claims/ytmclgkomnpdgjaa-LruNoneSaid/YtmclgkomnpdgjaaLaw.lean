/- A cache and the document's, act by act: the plain laws of layer 26. Conditions: none. -/
import Derived.Test.YtmclgkomnpdgjaaRing
namespace Go.Proofs.Ytmclgkomnpdgjaa
open Go.Gv
abbrev R_ := registrarref26_Entry
abbrev RC := registrarref26_Cache
def md (t : ByteArray) (n : Int) : plan_Plan := { z_plan_Plan with Table := { z_api_Table with Name := t }, Insert := [n] }
theorem made_eq (t : ByteArray) (n : Int) : registrarlaw26_made t n = some (md t n) := rfl
theorem mark_md (t : ByteArray) (n : Int) : registrarlaw26_mark (md t n) = some n := rfl
theorem mark_z : registrarlaw26_mark z_plan_Plan = some (-1) := rfl
def key (x : R_) : lru_Entry := ⟨x.Who, x.Name⟩
def pk (e : lru_Entry) (x : R_) : Bool := x.Who == e.Who && sEq x.Name e.Name
theorem pk_iff {e : lru_Entry} {x : R_} : pk e x = true ↔ key x = e := eq_lru_Entry_iff (a := key x) (b := e)
theorem pk_no {e : lru_Entry} {x : R_} : pk e x = false ↔ key x ≠ e := by
  rw [← Bool.not_eq_true, pk_iff]
/-- Without an entry. -/
def wo (e : lru_Entry) (L : List R_) : List R_ := L.filter fun y => !pk e y
theorem find_eq (r : RC) (w : Int) (n : ByteArray) : registrarref26_Cache_find r w n = some (match r.L.findIdx? (pk ⟨w, n⟩) with | some j => (j : Int) | none => -1) := by
  unfold registrarref26_Cache_find
  rw [forN_find (pk ⟨w, n⟩) (fun j => (j : Int))]
  · cases r.L.findIdx? (pk ⟨w, n⟩) <;> rfl
  · intro j x hx
    simp only [idx_nat, hx, Option.bind_some]
    unfold pk
    cases x.Who == w with
    | true => simp only [cond_true, Option.bind_some, Bool.true_and]; cases sEq x.Name n <;> rfl
    | false => rfl
theorem without_eq (r : RC) (j : Nat) (at_ : Int) (hat : at_ = j ∨ (at_ = -1 ∧ r.L.length ≤ j)) (hs : r.L.length ≤ 1000) : registrarref26_Cache_without r at_ = some (r.L.eraseIdx j) := by
  unfold registrarref26_Cache_without
  refine Ret.eq ?_
  refine RB.bind (R := fun s => s = (r.L.take r.L.length).eraseIdx j) (forE_ret (fun i s => s = (r.L.take i).eraseIdx j) (by simp) ?_) ?_
  · rintro i s hi rfl
    have hx : r.L[i]? = some r.L[i] := List.getElem?_eq_getElem hi
    have hl : (r.L.take i).length = i := by simp; omega
    by_cases hij : i = j
    · subst hij
      have e1 : ((i : Int) != at_) = false := by
        have : (i : Int) = at_ := by omega
        simp [this]
      simp only [e1, cond_false, Option.bind_some]
      refine RB.ret ?_
      rw [take_snoc hx, List.eraseIdx_append_of_length_le (by omega), hl, Nat.sub_self, List.eraseIdx_of_length_le (by omega)]
      simp
    · have e1 : ((i : Int) != at_) = true := by
        have : (i : Int) ≠ at_ := by omega
        simp [this]
      simp only [e1, cond_true, idx_nat, hx, Option.bind_some]
      have hl2 : ((r.L.take i).eraseIdx j).length ≤ i := by
        have := List.length_eraseIdx_le (r.L.take i) j
        omega
      rw [app_le (by simp; omega)]
      refine RB.ret ?_
      rw [take_snoc hx]
      by_cases hlt : i < j
      · rw [List.eraseIdx_of_length_le (by omega), List.eraseIdx_of_length_le (by simp; omega)]
      · rw [List.eraseIdx_append_of_lt_length (by omega)]
  · rintro s rfl
    refine RB.ret ?_
    rw [List.take_length]
theorem wo_none {e : lru_Entry} {L : List R_} (h : ∀ y ∈ L, pk e y = false) : wo e L = L := List.filter_eq_self.2 fun y hy => by rw [h y hy]; rfl
theorem wo_app (e : lru_Entry) (A B : List R_) : wo e (A ++ B) = wo e A ++ wo e B := List.filter_append ..
theorem wo_cons_no {e : lru_Entry} {x : R_} (h : pk e x = false) (B : List R_) : wo e (x :: B) = x :: wo e B := by unfold wo; rw [List.filter_cons_of_pos]; rw [h]; rfl
theorem wo_cons_yes {e : lru_Entry} {x : R_} (h : pk e x = true) (B : List R_) : wo e (x :: B) = wo e B := by unfold wo; rw [List.filter_cons_of_neg]; rw [h]; simp
/-- With the entry, or without it. -/
theorem split_cases (L : List R_) (hn : (L.map key).Nodup) (e : lru_Entry) : ((∀ y ∈ L, pk e y = false) ∧ L.findIdx? (pk e) = none ∧ wo e L = L ∧ e ∉ L.map key) ∨
    ∃ A x B, L = A ++ x :: B ∧ key x = e ∧ L.findIdx? (pk e) = some A.length ∧ wo e L = A ++ B ∧ L.eraseIdx A.length = A ++ B := by
  rcases find_cases (pk e) L with ⟨h1, h2⟩ | ⟨A, x, B, rfl, h2, h3, h4⟩
  · refine .inl ⟨h1, h2, wo_none h1, ?_⟩
    intro hm
    obtain ⟨y, hy, hk⟩ := List.mem_map.1 hm
    have := h1 y hy
    rw [pk_no] at this
    exact this hk
  · have hk := pk_iff.1 h2
    refine .inr ⟨A, x, B, rfl, hk, h4, ?_, ?_⟩
    · rw [wo_app, wo_cons_yes h2, wo_none h3, wo_none]
      intro y hy
      rw [pk_no]
      intro e1
      simp only [List.map_append, List.map_cons] at hn
      have := (List.nodup_cons.1 (List.nodup_append.1 hn).2.1).1
      rw [hk, ← e1] at this
      exact this (List.mem_map.2 ⟨y, hy, rfl⟩)
    · rw [List.eraseIdx_append_of_length_le (Nat.le_refl _), Nat.sub_self]; rfl

/-- A cache holds what the document's does. -/
structure Inv (c : lru_Cache) (r : RC) : Prop where
  ring : Ring c.at_ (r.L.map key)
  pl : ∀ x ∈ r.L, (G c.at_ (key x)).p = md x.Table x.Mark
  most : c.most = r.Most
  m1 : 1 ≤ r.Most
  m6 : r.Most ≤ 6
  len : (r.L.length : Int) ≤ r.Most
  who : ∀ x ∈ r.L, 1 ≤ x.Who
section
variable {c : lru_Cache} {r : RC}
theorem Inv.small (h : Inv c r) : r.L.length ≤ 6 := by have := h.len; have := h.m6; omega
theorem Inv.get (h : Inv c r) (w : Int) (n : ByteArray) : ∃ p b c' y L', lru_Cache_Get c w n = some (p, b, c') ∧ registrarref26_Cache_Get r w n = some (y, b, { r with L := L' }) ∧ Inv c' { r with L := L' } ∧
    (b = true → p = md y.Table y.Mark ∧ key y = ⟨w, n⟩ ∧ y ∈ r.L ∧ L' = y :: wo ⟨w, n⟩ r.L) ∧ (b = false → p = z_plan_Plan ∧ L' = r.L ∧ (⟨w, n⟩ : lru_Entry) ∉ r.L.map key) := by
  rcases split_cases r.L h.ring.kn ⟨w, n⟩ with ⟨h1, h2, h3, h4⟩ | ⟨A, x, B, hL, hk, h2, h3, h4⟩
  · refine ⟨z_plan_Plan, false, c, z_registrarref26_Entry, r.L, ?_, ?_, h, fun x => (by cases x), fun _ => ⟨rfl, rfl, h4⟩⟩
    · unfold lru_Cache_Get lru_Cache_dead
      simp only [Option.bind_some, Bool.false_or]
      cases hw : w == 0 with
      | true => rfl
      | false =>
        have : mhas eq_lru_Entry c.at_ (⟨w, n⟩ : lru_Entry) = false := by
          cases hx : mhas eq_lru_Entry c.at_ (⟨w, n⟩ : lru_Entry) with
          | false => rfl
          | true =>
            rcases (h.ring.mem _).1 ((mhas_iff kE).1 hx) with e1 | e1
            · have : w = 0 := congrArg lru_Entry.Who e1
              subst this
              cases hw
            · exact absurd e1 h4
        simp [this]
    · unfold registrarref26_Cache_Get
      rw [find_eq, h2]
      rfl
  · have hring := h.ring
    rw [hL] at hring
    simp only [List.map_append, List.map_cons, hk] at hring
    have hxm : x ∈ r.L := by rw [hL]; simp
    have hw : 1 ≤ w := by have := h.who x hxm; rw [show x.Who = w from congrArg lru_Entry.Who hk] at this; exact this
    obtain ⟨m1, e1, c1, p1⟩ := cut_ok hring
    obtain ⟨m2, e2, c2, p2⟩ := lead_ok (c := { c with at_ := m1 }) c1
    refine ⟨md x.Table x.Mark, true, { c with at_ := m2 }, x, x :: (A ++ B), ?_, ?_, ⟨?_, ?_, h.most, h.m1, h.m6, ?_, ?_⟩, fun _ => ⟨rfl, hk, hxm, by rw [h3]⟩, fun x => (by cases x)⟩
    · unfold lru_Cache_Get lru_Cache_dead
      have hw0 : (w == 0) = false := by rw [beq_eq_false_iff_ne]; omega
      have hh : mhas eq_lru_Entry c.at_ (⟨w, n⟩ : lru_Entry) = true := (mhas_iff kE).2 ((hring.mem _).2 (.inr (by simp)))
      have hG : (mget eq_lru_Entry c.at_ (⟨w, n⟩ : lru_Entry)).getD z_lru_link = G c.at_ ⟨w, n⟩ := rfl
      simp only [Option.bind_some, Bool.false_or, hw0, cond_false, hh, Bool.not_true, hG, e1, e2]
      rw [← hk, h.pl x hxm]
    · unfold registrarref26_Cache_Get
      have hs := h.small
      rw [find_eq, h2]
      simp only [Option.bind_some]
      have hlt : A.length < r.L.length := by rw [hL]; simp
      have d1 : decide ((A.length : Int) < 0) = false := by simp
      rw [d1, idx_nat, show r.L[A.length]? = some x by rw [hL]; simp]
      simp only [cond_false, Option.bind_some]
      rw [without_eq r A.length _ (.inl rfl) (by omega), h4]
      have hlen : (A ++ B).length ≤ 6 := by rw [hL] at hs; simp at hs ⊢; omega
      simp only [Option.bind_some]
      rw [app_le (by simp at hlen ⊢; omega)]
      try rfl
    · rw [List.map_cons, List.map_append, hk]
      exact c2
    · intro y hy
      have hy' : y ∈ r.L := by
        rw [hL]
        simp only [List.mem_cons, List.mem_append] at hy ⊢
        rcases hy with h | h | h
        · exact .inr (.inl h)
        · exact .inl h
        · exact .inr (.inr h)
      rw [← h.pl y hy']
      show (G m2 (key y)).p = _
      rw [p2, p1]
    · have := h.len
      rw [hL] at this
      simp at this ⊢
      omega
    · intro y hy
      refine h.who y ?_
      rw [hL]
      simp only [List.mem_cons, List.mem_append] at hy ⊢
      rcases hy with h | h | h
      · exact .inr (.inl h)
      · exact .inl h
      · exact .inr (.inr h)
theorem Inv.drop (h : Inv c r) (w : Int) (n : ByteArray) : ∃ b c' L', lru_Cache_Drop c w n = some (b, c') ∧ registrarref26_Cache_Drop r w n = some (b, { r with L := L' }) ∧ Inv c' { r with L := L' } := by
  rcases split_cases r.L h.ring.kn ⟨w, n⟩ with ⟨h1, h2, h3, h4⟩ | ⟨A, x, B, hL, hk, h2, h3, h4⟩
  · refine ⟨false, c, r.L, ?_, ?_, h⟩
    · unfold lru_Cache_Drop lru_Cache_dead
      simp only [Option.bind_some, Bool.false_or]
      cases hw : w == 0 with
      | true => rfl
      | false =>
        have : mhas eq_lru_Entry c.at_ (⟨w, n⟩ : lru_Entry) = false := by
          cases hx : mhas eq_lru_Entry c.at_ (⟨w, n⟩ : lru_Entry) with
          | false => rfl
          | true =>
            rcases (h.ring.mem _).1 ((mhas_iff kE).1 hx) with e1 | e1
            · have : w = 0 := congrArg lru_Entry.Who e1
              subst this
              cases hw
            · exact absurd e1 h4
        simp [this]
    · unfold registrarref26_Cache_Drop
      have hs := h.small
      rw [find_eq, h2]
      simp only [Option.bind_some]
      rw [without_eq r r.L.length _ (.inr ⟨rfl, Nat.le_refl _⟩) (by omega), List.eraseIdx_of_length_le (Nat.le_refl _)]
      rfl
  · have hring := h.ring
    rw [hL] at hring
    simp only [List.map_append, List.map_cons, hk] at hring
    have hxm : x ∈ r.L := by rw [hL]; simp
    have hw : 1 ≤ w := by have := h.who x hxm; rw [show x.Who = w from congrArg lru_Entry.Who hk] at this; exact this
    obtain ⟨m1, e1, c1, p1⟩ := gone_ok hring
    have hsub : ∀ y, y ∈ A ++ B → y ∈ r.L := by
      intro y hy
      rw [hL]
      simp only [List.mem_append, List.mem_cons] at hy ⊢
      rcases hy with h | h
      · exact .inl h
      · exact .inr (.inr h)
    have hne : ∀ y, y ∈ A ++ B → key y ≠ ⟨w, n⟩ := by
      rw [← h3]
      intro y hy
      have := (List.mem_filter.1 hy).2
      simp only [Bool.not_eq_true'] at this
      exact pk_no.1 this
    refine ⟨true, { c with at_ := m1 }, A ++ B, ?_, ?_, ⟨?_, ?_, h.most, h.m1, h.m6, ?_, ?_⟩⟩
    · unfold lru_Cache_Drop lru_Cache_dead
      have hw0 : (w == 0) = false := by rw [beq_eq_false_iff_ne]; omega
      have hh : mhas eq_lru_Entry c.at_ (⟨w, n⟩ : lru_Entry) = true := (mhas_iff kE).2 ((hring.mem _).2 (.inr (by simp)))
      simp only [Option.bind_some, Bool.false_or, hw0, cond_false, hh, cond_true, e1]
    · unfold registrarref26_Cache_Drop
      have hs := h.small
      rw [find_eq, h2]
      simp only [Option.bind_some]
      rw [without_eq r A.length _ (.inl rfl) (by omega), h4]
      have d1 : decide ((A.length : Int) ≥ 0) = true := by simp
      simp only [Option.bind_some, d1]
    · rw [List.map_append]
      exact c1
    · intro y hy
      rw [← h.pl y (hsub y hy)]
      exact p1 _ (hne y hy)
    · have := h.len
      rw [hL] at this
      simp at this ⊢
      omega
    · exact fun y hy => h.who y (hsub y hy)
theorem Inv.put (h : Inv c r) (x : R_) : (∃ e, (x.Who < 1 ∨ 8 < x.Who) ∧ lru_Cache_Put c x.Who x.Name (md x.Table x.Mark) = some (e, c) ∧ registrarref26_Cache_Put r x = some (e, r) ∧ e = 2) ∨
    ∃ c' L', 1 ≤ x.Who ∧ lru_Cache_Put c x.Who x.Name (md x.Table x.Mark) = some (0, c') ∧ registrarref26_Cache_Put r x = some (0, { r with L := L' }) ∧ Inv c' { r with L := L' } ∧ L' = (x :: wo (key x) r.L).take r.Most.toNat := by
  by_cases hw : x.Who < 1 ∨ 8 < x.Who
  · refine .inl ⟨2, hw, ?_, ?_, rfl⟩
    · unfold lru_Cache_Put lru_Cache_dead
      have : (decide (x.Who < 1) || decide (x.Who > 8)) = true := by simpa using hw
      simp [this]
    · unfold registrarref26_Cache_Put
      have : (decide (x.Who < 1) || decide (x.Who > 8)) = true := by simpa using hw
      simp [this]
  have hw1 : 1 ≤ x.Who := by omega
  have hd : (decide (x.Who < 1) || decide (x.Who > 8)) = false := by simp; omega
  have hz : key x ≠ zE := fun e => by
    have : x.Who = 0 := congrArg lru_Entry.Who e
    omega
  have hs := h.small
  -- taken out first
  have h1 : ∃ m1, (bif mhas eq_lru_Entry c.at_ (key x) then (lru_Cache_gone c (key x)).bind (fun (r45 : lru_Cache) => some r45) else some c) = some { c with at_ := m1 } ∧ Ring m1 ((wo (key x) r.L).map key) ∧ (∀ y ∈ wo (key x) r.L, (G m1 (key y)).p = md y.Table y.Mark) ∧
      registrarref26_Cache_find r x.Who x.Name = some (match r.L.findIdx? (pk (key x)) with | some j => (j : Int) | none => -1) ∧
      ∃ j : Nat, registrarref26_Cache_find r x.Who x.Name = some (match r.L.findIdx? (pk (key x)) with | some j => (j : Int) | none => -1) ∧ registrarref26_Cache_without r (match r.L.findIdx? (pk (key x)) with | some j => (j : Int) | none => -1) = some (wo (key x) r.L) := by
    rcases split_cases r.L h.ring.kn (key x) with ⟨g1, g2, g3, g4⟩ | ⟨A, y, B, hL, hk, g2, g3, g4⟩
    · have : mhas eq_lru_Entry c.at_ (key x) = false := by
        cases hx : mhas eq_lru_Entry c.at_ (key x) with
        | false => rfl
        | true =>
          rcases (h.ring.mem _).1 ((mhas_iff kE).1 hx) with e1 | e1
          · exact absurd e1 hz
          · exact absurd e1 g4
      refine ⟨c.at_, by rw [this]; rfl, by rw [g3]; exact h.ring, by rw [g3]; exact h.pl, find_eq .., 0, find_eq .., ?_⟩
      rw [g2, g3]
      simp only
      rw [without_eq r r.L.length _ (.inr ⟨rfl, Nat.le_refl _⟩) (by omega), List.eraseIdx_of_length_le (Nat.le_refl _)]
    · have hring := h.ring
      rw [hL] at hring
      simp only [List.map_append, List.map_cons, hk] at hring
      obtain ⟨m1, e1, c1, p1⟩ := gone_ok hring
      have hh : mhas eq_lru_Entry c.at_ (key x) = true := (mhas_iff kE).2 ((hring.mem _).2 (.inr (by simp)))
      refine ⟨m1, by rw [hh, e1]; rfl, by rw [g3, List.map_append]; exact c1, ?_, find_eq .., 0, find_eq .., ?_⟩
      · intro z hz'
        have h2 := List.mem_filter.1 hz'
        rw [← h.pl z h2.1]
        refine p1 _ ?_
        have := h2.2
        simp only [Bool.not_eq_true'] at this
        exact pk_no.1 this
      · rw [g2]
        simp only
        rw [without_eq r A.length _ (.inl rfl) (by omega), g4, g3]
  obtain ⟨m1, e1, ring1, pl1, f1, _, _, wo1⟩ := h1
  have hno : key x ∉ (wo (key x) r.L).map key := by
    intro hm
    obtain ⟨y, hy, hk⟩ := List.mem_map.1 hm
    have := (List.mem_filter.1 hy).2
    rw [pk_iff.2 hk] at this
    cases this
  have hlen1 : (wo (key x) r.L).length ≤ r.L.length := List.length_filter_le ..
  have c2 := ring1.put hno hz { z_lru_link with p := md x.Table x.Mark }
  obtain ⟨m3, e3, ring3, p3⟩ := lead_ok (c := { c with at_ := mset eq_lru_Entry m1 (key x) { z_lru_link with p := md x.Table x.Mark } }) c2
  have pl3 : ∀ y ∈ x :: wo (key x) r.L, (G m3 (key y)).p = md y.Table y.Mark := by
    intro y hy
    rw [p3]
    show (G (mset eq_lru_Entry m1 (key x) _) (key y)).p = _
    rw [G_set]
    rcases List.mem_cons.1 hy with rfl | hy
    · rw [if_pos rfl]
    · have hne : key y ≠ key x := fun e => hno (List.mem_map.2 ⟨y, hy, e⟩)
      rw [if_neg hne, pl1 y hy]
  have hl3 := ring3.len
  have hmost := h.most
  have hm1 := h.m1
  have hm6 := h.m6
  have hlen := h.len
  have hw64 : w64 (c.most + 1) = c.most + 1 := w64_id (by omega) (by omega)
  refine .inr ?_
  have hwho : ∀ y ∈ x :: wo (key x) r.L, 1 ≤ y.Who := by
    intro y hy
    rcases List.mem_cons.1 hy with rfl | hy
    · exact hw1
    · exact h.who y (List.mem_filter.1 hy).1
  have refPut : registrarref26_Cache_Put r x = some (0, { r with L := (x :: wo (key x) r.L).take r.Most.toNat }) := by
    unfold registrarref26_Cache_Put
    rw [hd]
    simp only [cond_false]
    rw [f1]
    simp only [Option.bind_some]
    rw [wo1]
    simp only [Option.bind_some]
    rw [app_le (by simp; omega)]
    simp only [Option.bind_some, List.singleton_append]
    by_cases hgt : (((x :: wo (key x) r.L).length : Int) > r.Most)
    · rw [show decide (((x :: wo (key x) r.L).length : Int) > r.Most) = true by simpa using hgt]
      simp only [cond_true]
      rw [sub_at (lo := 0) (xs := x :: wo (key x) r.L) (i := 0) (j := r.Most.toNat) rfl (by omega) (by omega) (by omega)]
      rfl
    · rw [show decide (((x :: wo (key x) r.L).length : Int) > r.Most) = false by simpa using hgt]
      simp only [cond_false, Option.bind_some]
      rw [List.take_of_length_le (by omega)]
  have hkx : (⟨x.Who, x.Name⟩ : lru_Entry) = key x := rfl
  have hG3 : ∀ (m : M_) e, (mget eq_lru_Entry m e).getD z_lru_link = G m e := fun _ _ => rfl
  have lruPut : lru_Cache_Put c x.Who x.Name (md x.Table x.Mark) = (bif decide ((m3.length : Int) > c.most + 1) then (lru_Cache_gone { c with at_ := m3 } (G m3 zE).ahead).bind (fun r89 => some r89) else some { c with at_ := m3 }).bind (fun j77 => some (0, j77)) := by
    unfold lru_Cache_Put lru_Cache_dead
    simp only [Option.bind_some, cond_false, hd, hkx]
    rw [e1]
    simp only [Option.bind_some]
    rw [e3]
    simp only [Option.bind_some, hw64, hG3]
  by_cases hgt : (((x :: wo (key x) r.L).length : Int) > r.Most)
  · -- the last one goes
    obtain ⟨X, A, hXA⟩ : ∃ X A, x :: wo (key x) r.L = X ++ [A] := ⟨(x :: wo (key x) r.L).dropLast, (x :: wo (key x) r.L).getLast (by simp), by rw [List.dropLast_concat_getLast]⟩
    have hX : (x :: wo (key x) r.L).take r.Most.toNat = X := by
      have : X.length = r.Most.toNat := by
        have e : (x :: wo (key x) r.L).length = X.length + 1 := by rw [hXA]; simp
        simp only [List.length_cons] at e hgt
        omega
      rw [hXA, ← this, List.take_left']
      rfl
    have ring4 : Ring m3 (X.map key ++ [key A]) := by
      have e : key x :: (wo (key x) r.L).map key = X.map key ++ [key A] := by rw [← List.map_cons, hXA]; simp
      rw [← e]; exact ring3
    obtain ⟨m5, e5, ring5, p5⟩ := gone_ok (c := { c with at_ := m3 }) (l2 := []) ring4
    rw [List.append_nil] at ring5
    refine ⟨{ c with at_ := m5 }, X, hw1, ?_, by rw [refPut, hX], ⟨ring5, fun y hy => ?_, h.most, h.m1, h.m6, ?_, fun y hy => hwho y (by rw [hXA]; simp [hy])⟩, hX.symm⟩
    · rw [lruPut, show decide ((m3.length : Int) > c.most + 1) = true by simp only [List.length_cons] at hgt; simp [hl3]; omega]
      simp only [cond_true]
      rw [ring4.last, e5]
      rfl
    · rw [← pl3 y (by rw [hXA]; simp [hy])]
      refine p5 _ ?_
      have := (List.nodup_append.1 ring4.kn).2.2 (key y) (List.mem_map.2 ⟨y, hy, rfl⟩) (key A) (by simp)
      exact this
    · have e : (x :: wo (key x) r.L).length = X.length + 1 := by rw [hXA]; simp
      simp only [List.length_cons] at e
      simp only
      omega
  · refine ⟨{ c with at_ := m3 }, x :: wo (key x) r.L, hw1, ?_, by rw [refPut, List.take_of_length_le (by omega)], ⟨ring3, pl3, h.most, h.m1, h.m6, by simp only; omega, hwho⟩, by rw [List.take_of_length_le (by omega)]⟩
    rw [lruPut, show decide ((m3.length : Int) > c.most + 1) = false by simp only [List.length_cons] at hgt; simp [hl3]; omega]
    rfl
/-- All that are so go. -/
theorem Inv.sweep (h : Inv c r) (f : lru_Entry → plan_Plan → Option Bool) (q : R_ → Bool) (hf : ∀ x : R_, f (key x) (md x.Table x.Mark) = some (q x)) (w : Int) (t : ByteArray) (b : Bool) (hq : ∀ x : R_, q x = bif b then sEq x.Table t else x.Who == w) :
    ∃ n c' L', lru_Cache_sweep c f = some (n, c') ∧ registrarref26_Cache_sweep r w t b = some (n, { r with L := L' }) ∧ Inv c' { r with L := L' } := by
  have hs := h.small
  have href : registrarref26_Cache_sweep r w t b = some (((r.L.length - (r.L.filter fun x => !q x).length : Nat) : Int), { r with L := r.L.filter fun x => !q x }) := by
    unfold registrarref26_Cache_sweep
    refine Ret.eq (RB.bind (R := fun s => s = (r.L.take r.L.length).filter fun x => !q x) (forE_ret (fun i s => s = (r.L.take i).filter fun x => !q x) (by simp) ?_) ?_)
    · rintro i s hi rfl
      have hx : r.L[i]? = some r.L[i] := List.getElem?_eq_getElem hi
      simp only [idx_nat, hx, Option.bind_some]
      have hl : ((r.L.take i).filter fun x => !q x).length ≤ 6 := Nat.le_trans (List.length_filter_le ..) (by simp; omega)
      rw [app_le (by simp at hl ⊢; omega), take_snoc hx, List.filter_append]
      have hqx := hq r.L[i]
      cases b with
      | true =>
        simp only [cond_true, Option.bind_some, Bool.not_true, cond_false] at hqx ⊢
        rw [← hqx]
        cases hb : q r.L[i] with
        | true => simp only [cond_true, Option.bind_some]; exact RB.ret (by simp [hb])
        | false => simp only [cond_false, Option.bind_some]; exact RB.ret (by simp [hb])
      | false =>
        simp only [cond_false, Option.bind_some, Bool.not_false, cond_true] at hqx ⊢
        rw [← hqx]
        cases hb : q r.L[i] with
        | true => simp only [cond_true, Option.bind_some]; exact RB.ret (by simp [hb])
        | false => simp only [cond_false, Option.bind_some]; exact RB.ret (by simp [hb])
    · rintro s rfl
      refine RB.ret ?_
      have := List.length_filter_le (fun x => !q x) r.L
      rw [List.take_length, w64_id (by omega) (by omega)]
      simp only [Prod.mk.injEq, and_true]
      omega
  have hlru : ∃ c', lru_Cache_sweep c f = some (((r.L.length - (r.L.filter fun x => !q x).length : Nat) : Int), c') ∧ Inv c' { r with L := r.L.filter fun x => !q x } := by
    have key1 : Ret (lru_Cache_sweep c f) (fun t => t.1 = ((r.L.length - (r.L.filter fun x => !q x).length : Nat) : Int) ∧ Inv t.2 { r with L := r.L.filter fun x => !q x }) := by
      unfold lru_Cache_sweep
      rw [all_ok h.ring (by simp; omega)]
      simp only [Option.bind_some]
      refine RB.bind (R := fun (s : Int × lru_Cache) => s.1 = (((r.L.take r.L.length).length - ((r.L.take r.L.length).filter fun x => !q x).length : Nat) : Int) ∧ Inv s.2 { r with L := ((r.L.take r.L.length).filter fun x => !q x) ++ r.L.drop r.L.length }) ?_ ?_
      · have hn : (r.L.map key).length = r.L.length := by simp
        rw [hn]
        refine forE_ret (fun i (s : Int × lru_Cache) => s.1 = (((r.L.take i).length - ((r.L.take i).filter fun x => !q x).length : Nat) : Int) ∧ Inv s.2 { r with L := ((r.L.take i).filter fun x => !q x) ++ r.L.drop i }) (by simpa using h) ?_
        rintro i ⟨n, ci⟩ hi ⟨hn1, hI⟩
        have hx : r.L[i]? = some r.L[i] := List.getElem?_eq_getElem hi
        have hd : r.L.drop i = r.L[i] :: r.L.drop (i + 1) := List.drop_eq_getElem_cons hi
        simp only [hd] at hn1 hI
        have hp := hI.pl r.L[i] (List.mem_append_right _ (List.mem_cons_self ..))
        have hG : (mget eq_lru_Entry ci.at_ (key r.L[i])).getD z_lru_link = G ci.at_ (key r.L[i]) := rfl
        simp only [idx_nat, List.getElem?_map, hx, Option.map_some, Option.bind_some, hG, hp, hf]
        have hle := List.length_filter_le (fun x => !q x) (r.L.take i)
        have hli : (r.L.take i).length = i := by simp; omega
        cases hb : q r.L[i] with
        | false =>
          simp only [cond_false, Option.bind_some]
          refine RB.ret ⟨?_, ?_⟩
          · simp only [take_snoc hx, List.filter_append, hn1]
            simp [hb]
            omega
          · simp only [take_snoc hx, List.filter_append]
            have e : ([r.L[i]].filter fun x => !q x) = [r.L[i]] := by simp [hb]
            rw [e, List.append_assoc, List.singleton_append]
            exact hI
        | true =>
          simp only [cond_true]
          have hring := hI.ring
          simp only [List.map_append, List.map_cons] at hring
          obtain ⟨m1, e1, ring1, p1⟩ := gone_ok hring
          rw [e1]
          simp only [Option.bind_some]
          have e : ([r.L[i]].filter fun x => !q x) = [] := by simp [hb]
          have hdis := List.nodup_append.1 hring.kn
          refine RB.ret ⟨?_, ?_⟩
          · rw [w64_id (by omega) (by omega)]
            simp only [take_snoc hx, List.filter_append, hn1, e]
            simp
            omega
          · simp only [take_snoc hx, List.filter_append, e, List.append_nil]
            refine ⟨by simpa using ring1, fun y hy => ?_, hI.most, hI.m1, hI.m6, ?_, fun y hy => hI.who y ?_⟩
            · have hy' : y ∈ ((r.L.take i).filter fun x => !q x) ++ r.L[i] :: r.L.drop (i + 1) := by
                rcases List.mem_append.1 hy with h | h
                · exact List.mem_append_left _ h
                · exact List.mem_append_right _ (List.mem_cons_of_mem _ h)
              rw [← hI.pl y hy']
              refine p1 _ ?_
              rcases List.mem_append.1 hy with h | h
              · exact hdis.2.2 _ (List.mem_map.2 ⟨y, h, rfl⟩) _ (by simp)
              · have := (List.nodup_cons.1 hdis.2.1).1
                intro e2
                exact this (e2 ▸ List.mem_map.2 ⟨y, h, rfl⟩)
            · have := hI.len
              simp at this ⊢
              omega
            · rcases List.mem_append.1 hy with h | h
              · exact List.mem_append_left _ h
              · exact List.mem_append_right _ (List.mem_cons_of_mem _ h)
      · rintro ⟨n, ci⟩ ⟨h1, h2⟩
        simp only [List.take_length, List.drop_length, List.append_nil] at h1 h2
        exact RB.ret ⟨h1, h2⟩
    obtain ⟨⟨n, c'⟩, hr, h1, h2⟩ := key1.ex
    simp only at h1 h2
    subst h1
    exact ⟨c', hr, h2⟩
  obtain ⟨c', h1, h2⟩ := hlru
  exact ⟨_, c', _, h1, href, h2⟩
theorem Inv.leave (h : Inv c r) (w : Int) : ∃ n c' L', lru_Cache_Leave c w = some (n, c') ∧ registrarref26_Cache_Leave r w = some (n, { r with L := L' }) ∧ Inv c' { r with L := L' } := by
  obtain ⟨n, c', L', h1, h2, h3⟩ := h.sweep (fun u0 u1 => lru_Cache_Leave_1 u0 u1 w) (fun x => x.Who == w) (fun x => rfl) w (⟨#[]⟩ : ByteArray) false (fun x => rfl)
  refine ⟨n, c', L', ?_, ?_, h3⟩
  · unfold lru_Cache_Leave
    rw [h1]; rfl
  · unfold registrarref26_Cache_Leave
    rw [h2]; rfl
theorem Inv.forget (h : Inv c r) (t : ByteArray) : ∃ n c' L', lru_Cache_Forget c t = some (n, c') ∧ registrarref26_Cache_Forget r t = some (n, { r with L := L' }) ∧ Inv c' { r with L := L' } := by
  obtain ⟨n, c', L', h1, h2, h3⟩ := h.sweep (fun u0 u1 => lru_Cache_Forget_1 u0 u1 t) (fun x => sEq x.Table t) (fun x => rfl) 0 t true (fun x => rfl)
  refine ⟨n, c', L', ?_, ?_, h3⟩
  · unfold lru_Cache_Forget
    rw [h1]; rfl
  · unfold registrarref26_Cache_Forget
    rw [h2]; rfl
theorem Inv.done (h : Inv c r) (a : registrarlaw26_Act) (k : Int) : ∃ c' L', registrarlaw26_done c r a k = some (true, c', { r with L := L' }) ∧ Inv c' { r with L := L' } := by
  unfold registrarlaw26_done
  cases h0 : a.Do == 0 with
  | true =>
    simp only [cond_true, made_eq, Option.bind_some]
    rcases h.put (⟨a.Who, a.Name, a.Table, k⟩ : R_) with ⟨e, _, h1, h2, _⟩ | ⟨c', L', _, h1, h2, h3, _⟩
    · simp only at h1
      rw [h1, h2]
      exact ⟨c, r.L, by simp, h⟩
    · simp only at h1
      rw [h1, h2]
      exact ⟨c', L', by simp, h3⟩
  | false =>
    simp only [cond_false]
    cases h1 : a.Do == 1 with
    | true =>
      simp only [cond_true]
      obtain ⟨p, b, c', y, L', e1, e2, e3, e4, e5⟩ := h.get a.Who a.Name
      rw [e1, e2]
      refine ⟨c', L', ?_, e3⟩
      cases b with
      | true =>
        obtain ⟨rfl, _⟩ := e4 rfl
        simp only [Option.bind_some, beq_self_eq_true, cond_true, Bool.not_true, cond_false, mark_md, Bool.true_and]
        have : sEq (md y.Table y.Mark).Table.Name y.Table = true := sEq_refl y.Table
        simp [this]
      | false =>
        obtain ⟨rfl, _⟩ := e5 rfl
        simp [mark_z]
    | false =>
      simp only [cond_false]
      cases h2 : a.Do == 2 with
      | true =>
        obtain ⟨b, c', L', e1, e2, e3⟩ := h.drop a.Who a.Name
        exact ⟨c', L', by simp [e1, e2], e3⟩
      | false =>
        simp only [cond_false]
        cases h3 : a.Do == 3 with
        | true =>
          obtain ⟨b, c', L', e1, e2, e3⟩ := h.leave a.Who
          exact ⟨c', L', by simp [e1, e2], e3⟩
        | false =>
          obtain ⟨b, c', L', e1, e2, e3⟩ := h.forget a.Table
          exact ⟨c', L', by simp [e1, e2], e3⟩
theorem Inv.like (h : Inv c r) : registrarlaw26_like c r = some true := by
  unfold registrarlaw26_like
  have hs := h.small
  rw [all_ok h.ring (by simp; omega)]
  have e : ((((r.L.map key).length : Int) != (r.L.length : Int))) = false := by simp
  simp only [Option.bind_some, e, cond_false, List.length_map]
  have := forN_all (τ := Bool) (v := false) (step := fun (i12 : Nat) => fun (_s : Unit) => (idx (r.L.map key) (i12 : Int)).bind (fun (x21 : lru_Entry) => (idx r.L (i12 : Int)).bind (fun (x22 : registrarref26_Entry) => ((bif (x21.Who != x22.Who) then some true else (idx (r.L.map key) (i12 : Int)).bind (fun (x27 : lru_Entry) => (idx r.L (i12 : Int)).bind (fun (x28 : registrarref26_Entry) => some (!sEq x27.Name x28.Name))))).bind (fun (j23 : Bool) => (bif j23 then some (.inr false) else some (.inl ())))))) (fun _ => true) r.L.length 0 (fun j _ hj => by
    have hj : j < r.L.length := by omega
    have hx : r.L[j]? = some r.L[j] := List.getElem?_eq_getElem hj
    simp only [idx_nat, List.getElem?_map, hx, Option.map_some, Option.bind_some]
    have e1 : ((key r.L[j]).Who != r.L[j].Who) = false := by simp [key]
    have e2 : sEq (key r.L[j]).Name r.L[j].Name = true := sEq_refl _
    simp [e1, e2])
  rw [this]
  have e2 : (List.range' 0 r.L.length).all (fun _ => true) = true := by simp
  have e3 : ((r.L.length : Int) != (r.L.length : Int)) = false := by simp
  rw [e2, e3]
  rfl
end
theorem new_ok (m : Int) : ∃ c r, lru_New m = some c ∧ registrarref26_New m = some r ∧ Inv c r ∧ r.L = [] ∧ r.Most = max 1 (min m 6) := by
  refine ⟨_, ⟨[], max 1 (min m 6)⟩, rfl, ?_, ⟨⟨?_, ?_, List.nodup_nil, by simp, ?_⟩, fun x hx => (by cases hx), ?_, ?_, ?_, ?_, fun x hx => (by cases hx)⟩, rfl, rfl⟩
  · unfold registrarref26_New
    by_cases h1 : m < 1
    · simp only [h1, decide_true, cond_true, Option.bind_some]
      have : max 1 (min m 6) = (1 : Int) := by omega
      rw [this]; rfl
    · simp only [h1, decide_false, cond_false, Option.bind_some]
      by_cases h2 : m > 6
      · simp only [h2, decide_true, cond_true, Option.bind_some]
        have : max 1 (min m 6) = (6 : Int) := by omega
        rw [this]; rfl
      · simp only [h2, decide_false, cond_false, Option.bind_some]
        have : max 1 (min m 6) = m := by omega
        rw [this]; rfl
  · simp [mset_nil]
  · intro e; simp [mset_nil]
  · have hz : G (mset eq_lru_Entry [] z_lru_Entry z_lru_link) zE = z_lru_link := by rw [G_set, if_pos rfl]
    exact ⟨by show (G (mset eq_lru_Entry [] z_lru_Entry z_lru_link) zE).behind = zE; rw [hz]; rfl, by show (G (mset eq_lru_Entry [] z_lru_Entry z_lru_link) zE).ahead = zE; rw [hz]; rfl, trivial⟩
  · show (if (if 6 < m then 6 else m) > 1 then (if 6 < m then 6 else m) else 1) = max 1 (min m 6)
    by_cases h1 : 6 < m
    · simp only [h1, if_true]; omega
    · simp only [h1, if_false]
      split <;> omega
  · show 1 ≤ max 1 (min m 6)
    omega
  · show max 1 (min m 6) ≤ 6
    omega
  · show ((0 : Nat) : Int) ≤ max 1 (min m 6)
    omega
/-- The fixed case. -/
theorem works_eq : registrarlaw26_works = some true := by
  obtain ⟨c0, r0, hc0, hr0, i0, l0, m0⟩ := new_ok 2
  unfold registrarlaw26_works
  rw [hc0]
  simp only [Option.bind_some, made_eq]
  rcases i0.put (⟨1, ⟨#[97]⟩, ⟨#[116]⟩, 1⟩ : R_) with ⟨e, hw, _⟩ | ⟨c1, L1, _, h1, _, i1, l1⟩
  · exact absurd hw (by simp)
  simp only at h1
  rw [h1]
  simp only [Option.bind_some]
  rcases i1.put (⟨1, ⟨#[98]⟩, ⟨#[116]⟩, 2⟩ : R_) with ⟨e, hw, _⟩ | ⟨c2, L2, _, h2, _, i2, l2⟩
  · exact absurd hw (by simp)
  simp only at h2
  rw [h2]
  simp only [Option.bind_some]
  have k0 : max (1 : Int) (min 2 6) = 2 := by decide
  rw [k0] at m0
  have e1 : L1 = [⟨1, ⟨#[97]⟩, ⟨#[116]⟩, 1⟩] := by rw [l1, l0, m0]; rfl
  have n1 : pk (key (⟨1, ⟨#[98]⟩, ⟨#[116]⟩, 2⟩ : R_)) ⟨1, ⟨#[97]⟩, ⟨#[116]⟩, 1⟩ = false := by kernel_rfl
  have e2 : L2 = [⟨1, ⟨#[98]⟩, ⟨#[116]⟩, 2⟩, ⟨1, ⟨#[97]⟩, ⟨#[116]⟩, 1⟩] := by
    rw [l2]
    simp only [m0, e1]
    rw [wo_cons_no n1]
    rfl
  obtain ⟨p, b, c3, y, L3, h3, _, i3, y1, y2⟩ := i2.get 1 ⟨#[97]⟩
  rw [h3]
  simp only [Option.bind_some]
  have hb : b = true := by
    cases b with
    | true => rfl
    | false =>
      exfalso
      have hg := h3
      unfold lru_Cache_Get lru_Cache_dead at hg
      have hh : mhas eq_lru_Entry c2.at_ (⟨1, ⟨#[97]⟩⟩ : lru_Entry) = true := (mhas_iff kE).2 ((i2.ring.mem _).2 (.inr (by simp only [e2]; simp [key])))
      simp only [Option.bind_some, Bool.false_or, hh, Bool.not_true, cond_false] at hg
      rw [show ((1 : Int) == 0) = false from rfl] at hg
      simp only [cond_false] at hg
      cases hq : lru_Cache_cut c2 (⟨1, ⟨#[97]⟩⟩ : lru_Entry) with
      | none => rw [hq] at hg; cases hg
      | some c4 =>
        rw [hq] at hg
        simp only [Option.bind_some] at hg
        cases hq2 : lru_Cache_lead c4 (⟨1, ⟨#[97]⟩⟩ : lru_Entry) with
        | none => rw [hq2] at hg; cases hg
        | some c5 => rw [hq2] at hg; simp at hg
  obtain ⟨hp, hk, hy, e3⟩ := y1 hb
  have hyv : y = ⟨1, ⟨#[97]⟩, ⟨#[116]⟩, 1⟩ := by
    simp only [e2] at hy
    simp only [List.mem_cons, List.not_mem_nil, or_false] at hy
    rcases hy with rfl | rfl
    · have n3 : pk (⟨1, ⟨#[97]⟩⟩ : lru_Entry) (⟨1, ⟨#[98]⟩, ⟨#[116]⟩, 2⟩ : R_) = false := by kernel_rfl
      exact absurd hk (pk_no.1 n3)
    · rfl
  have n2 : pk (⟨1, ⟨#[97]⟩⟩ : lru_Entry) (⟨1, ⟨#[98]⟩, ⟨#[116]⟩, 2⟩ : R_) = false := by kernel_rfl
  have n4 : pk (⟨1, ⟨#[97]⟩⟩ : lru_Entry) (⟨1, ⟨#[97]⟩, ⟨#[116]⟩, 1⟩ : R_) = true := by kernel_rfl
  have e3' : L3 = [⟨1, ⟨#[97]⟩, ⟨#[116]⟩, 1⟩, ⟨1, ⟨#[98]⟩, ⟨#[116]⟩, 2⟩] := by
    rw [e3, hyv]
    simp only [e2]
    rw [wo_cons_no n2, wo_cons_yes n4]
    rfl
  rcases i3.put (⟨2, ⟨#[99]⟩, ⟨#[117]⟩, 3⟩ : R_) with ⟨e, hw, _⟩ | ⟨c5, L5, _, h5, _, i5, l5⟩
  · exact absurd hw (by simp)
  simp only at h5
  rw [h5]
  simp only [Option.bind_some]
  have n5 : pk (key (⟨2, ⟨#[99]⟩, ⟨#[117]⟩, 3⟩ : R_)) ⟨1, ⟨#[97]⟩, ⟨#[116]⟩, 1⟩ = false := by kernel_rfl
  have n6 : pk (key (⟨2, ⟨#[99]⟩, ⟨#[117]⟩, 3⟩ : R_)) ⟨1, ⟨#[98]⟩, ⟨#[116]⟩, 2⟩ = false := by kernel_rfl
  have e5 : L5 = [⟨2, ⟨#[99]⟩, ⟨#[117]⟩, 3⟩, ⟨1, ⟨#[97]⟩, ⟨#[116]⟩, 1⟩] := by
    rw [l5]
    simp only [m0, e3']
    rw [wo_cons_no n5, wo_cons_no n6]
    rfl
  rw [all_ok i5.ring (by simp only [e5]; simp)]
  simp only [Option.bind_some, e5, hp, hb, cond_true, mark_md, hyv]
  simp [idx, key, sEq_refl]
theorem plays_true (most : Int) (l : List registrarlaw26_Act) (h0 : IntKind.min .i64 ≤ most ∧ most ≤ IntKind.max .i64) (hl : l.length ≤ maxLen ∧ ∀ x ∈ l, wf_registrarlaw26_Act x) : registrarlaw26_LruPlays most l = some true := by
  obtain ⟨c0, r0, hc0, hr0, i0, _, _⟩ := new_ok most
  unfold registrarlaw26_LruPlays
  rw [hc0, hr0]
  simp only [Option.bind_some, works_eq]
  refine Ret.eq (RB.bind (R := fun t => match t with | .inl s => s.1 = true | .inr _ => True) (loopO_rb (fun s => 0 ≤ s.1 ∧ s.1 ≤ 80 ∧ Inv s.2.2 s.2.1) (fun s => (80 - s.1).toNat) ?_ ⟨by simp, by simp, i0⟩) ?_)
  · rintro ⟨k, r, c⟩ ⟨h0, h1, hI⟩
    refine RB.cond (fun hc => ?_) (fun _ => RB.ret trivial)
    simp only [Bool.and_eq_true, decide_eq_true_eq] at hc
    obtain ⟨x, hx, _⟩ := idx_lt h0 hc.1
    simp only [hx, Option.bind_some]
    unfold registrarlaw26_long
    simp only [Option.bind_some]
    refine RB.cond (fun _ => RB.ret rfl) (fun _ => ?_)
    obtain ⟨c', L', e1, e2⟩ := hI.done x k
    rw [e1]
    simp only [Option.bind_some, Bool.not_true, cond_false, e2.like, Bool.not_true]
    rw [w64_id (by omega) (by omega)]
    exact RB.ret ⟨⟨by simp only; omega, by simp only; omega, e2⟩, by simp only; omega⟩
  · rintro (⟨a, b, c⟩ | ⟨b, c⟩) h
    · simp only at h
      subst h
      exact RB.ret rfl
    · exact RB.ret rfl
end Go.Proofs.Ytmclgkomnpdgjaa
