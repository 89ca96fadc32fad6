/- The document's locks stay beside the program's. Conditions: none. -/
import Derived.Test.YtdmefifamlpbiaaRef
namespace Go.Proofs.Ytdmefifamlpbiaa
open Go.Gv
attribute [local irreducible] Pl
def less (w : Int) (p : Place) : Place := ⟨wo w p.held, wo w p.queue⟩
theorem Served.of {n : Nat} {p : Place} {T R : List One} (h : PlOk n ⟨p.held ++ T, R⟩) (hq : p.queue = T ++ R) : Served p T R := ⟨hq, h.go, h.bl⟩
theorem atP_filter (L : List RO) (c : RO → Bool) (k : ByteArray) : atP (L.filter c) k = (atP L k).filter c := by
  unfold atP
  rw [List.filter_filter, List.filter_filter]
  exact List.filter_congr fun x _ => Bool.and_comm _ _
theorem form_less (k : ByteArray) (p : Place) (w : Int) : (form k p).filter (fun x => !(x.Who == w)) = form k (less w p) := by
  unfold form less wo
  rw [List.filter_append, List.filter_map, List.filter_map]
  rfl
theorem wo_id {w : Int} {xs : List One} (h : ∀ x ∈ xs, x.who ≠ w) : wo w xs = xs := List.filter_eq_self.2 fun x hx => by simpa using h x hx
theorem Rel.leave {n N : Nat} {l l' : mdl_Locks} {r : RK} (hI : Inv N l) (hI' : Inv N l') (h : Rel n l r) (hn : n < 900) {w e : Int} (hQ : (¬ okWho w ∧ e = 2 ∧ l' = l) ∨ (okWho w ∧ e = 0 ∧ ∀ j, Lv w (Pl l j) (Pl l' j))) : ∃ r', registrarref21_Locks_Leave r w = some (e, r') ∧ Rel n l' r' := by
  have hlen := h.len
  suffices hs : Ret (registrarref21_Locks_Leave r w) (fun t => t.1 = e ∧ Rel n l' t.2) by
    obtain ⟨⟨e', r'⟩, hr, h1, h2⟩ := hs.ex
    simp only at h1
    subst h1
    exact ⟨r', hr, h2⟩
  unfold registrarref21_Locks_Leave
  cases hbad : (decide (w < 1) || decide (w > 8)) with
  | true =>
    simp only [cond_true]
    simp only [Bool.or_eq_true, decide_eq_true_eq] at hbad
    rcases hQ with ⟨_, rfl, rfl⟩ | ⟨⟨h1, h2⟩, _⟩
    · exact RB.ret ⟨rfl, h⟩
    · omega
  | false =>
    simp only [cond_false]
    simp only [Bool.or_eq_false_iff, decide_eq_false_iff_not] at hbad
    obtain ⟨_, rfl, hLv⟩ := hQ.resolve_left (fun hx => hx.1 ⟨by omega, by omega⟩)
    rw [drop_eq w _ true (by omega)]
    simp only [Option.bind_some, Bool.true_or, Bool.and_true]
    generalize hpaths : (r.L.filter fun x => x.Who == w).map (·.Path) = paths
    have hpl : paths.length ≤ 1000 := by
      rw [← hpaths, List.length_map]
      exact Nat.le_trans (List.length_filter_le _ _) (by omega)
    have hpre : ∀ j, atP (r.L.filter fun x => !(x.Who == w)) j = form j (less w (Pl l j)) := fun j => by rw [atP_filter, h.eq, form_less]
    have hgo : ∀ j, (less w (Pl l j)).held.Pairwise (fun x y => G x.mode y.mode = true) := fun j => (hI.pl j).go.sublist (wo_sub w _)
    have hsv : ∀ j, ∃ T R, Pl l' j = ⟨wo w (Pl l j).held ++ T, R⟩ ∧ Served (less w (Pl l j)) T R := by
      intro j
      obtain ⟨T, R, h1, h2⟩ := hLv j
      have := hI'.pl j
      rw [h1] at this
      exact ⟨T, R, h1, Served.of this h2⟩
    refine RB.bind (R := fun (s : RK) => s.L.length ≤ n ∧ (∀ j ∈ paths.take paths.length, ∃ T R, atP s.L j = form j ⟨wo w (Pl l j).held ++ T, R⟩ ∧ Served (less w (Pl l j)) T R) ∧ ∀ j, j ∉ paths.take paths.length → atP s.L j = form j (less w (Pl l j)))
      (forE_ret (fun i (s : RK) => s.L.length ≤ n ∧ (∀ j ∈ paths.take i, ∃ T R, atP s.L j = form j ⟨wo w (Pl l j).held ++ T, R⟩ ∧ Served (less w (Pl l j)) T R) ∧ ∀ j, j ∉ paths.take i → atP s.L j = form j (less w (Pl l j))) ⟨Nat.le_trans (List.length_filter_le _ _) hlen, by simp, fun j _ => hpre j⟩ ?_) ?_
    · rintro i s hi ⟨h1, h2, h3⟩
      have hx : paths[i]? = some paths[i] := List.getElem?_eq_getElem hi
      simp only [idx_nat, hx, Option.bind_some]
      have fin : ∀ (s' : RK) (T R : List One), atP s'.L paths[i] = form paths[i] ⟨wo w (Pl l paths[i]).held ++ T, R⟩ → Served (less w (Pl l paths[i])) T R → (∀ j, j ≠ paths[i] → atP s'.L j = atP s.L j) → s'.L.length = s.L.length →
          s'.L.length ≤ n ∧ (∀ j ∈ paths.take (i + 1), ∃ T R, atP s'.L j = form j ⟨wo w (Pl l j).held ++ T, R⟩ ∧ Served (less w (Pl l j)) T R) ∧ ∀ j, j ∉ paths.take (i + 1) → atP s'.L j = form j (less w (Pl l j)) := by
        intro s' T R g1 g2 g3 g4
        refine ⟨by omega, fun j hj => ?_, fun j hj => ?_⟩
        · by_cases e : j = paths[i]
          · subst e
            exact ⟨T, R, g1, g2⟩
          · rw [take_snoc hx, List.mem_append, List.mem_singleton] at hj
            rw [g3 j e]
            exact h2 j (hj.resolve_right e)
        · rw [take_snoc hx, List.mem_append, List.mem_singleton] at hj
          rw [g3 j (fun e => hj (.inr e))]
          exact h3 j (fun e => hj (.inl e))
      by_cases hm : paths[i] ∈ paths.take i
      · obtain ⟨T, R, g1, g2⟩ := h2 _ hm
        obtain ⟨s', T', R', k1, k2, k3, k4, k5⟩ := serveR g1 g2.2.1 (by omega)
        rw [k1]
        simp only at k2
        have k6 := k3.1
        simp only at k6
        refine RB.ret (fin s' (T ++ T') R' (by rw [k2, List.append_assoc]) ⟨by rw [g2.1, k6, List.append_assoc], ?_, ?_⟩ k4 k5)
        · have := k3.2.1
          simp only at this
          rw [List.append_assoc] at this
          exact this
        · intro y q e
          have := k3.2.2 y q e
          simp only at this
          rw [List.append_assoc] at this
          exact this
      · obtain ⟨s', T', R', k1, k2, k3, k4, k5⟩ := serveR (h3 _ hm) (hgo _) (by omega)
        rw [k1]
        exact RB.ret (fin s' T' R' k2 k3 k4 k5)
    · rintro s ⟨h1, h2, h3⟩
      refine RB.ret ⟨rfl, ⟨fun j => ?_, h1⟩⟩
      rw [List.take_length] at h2 h3
      obtain ⟨T0, R0, g1, g2⟩ := hsv j
      by_cases hj : j ∈ paths
      · obtain ⟨T, R, k1, k2⟩ := h2 j hj
        obtain ⟨e1, e2⟩ := k2.uniq g2
        subst e1 e2
        rw [k1, g1]
      · have hno : ∀ x ∈ (Pl l j).held ++ (Pl l j).queue, x.who ≠ w := by
          intro x hx e
          refine hj ?_
          rw [← hpaths]
          rcases List.mem_append.1 hx with hx | hx
          · exact List.mem_map.2 ⟨mk1 j true x, List.mem_filter.2 ⟨h.mem.2 (.inl ⟨x, hx, rfl⟩), by simpa [mk1] using e⟩, rfl⟩
          · exact List.mem_map.2 ⟨mk1 j false x, List.mem_filter.2 ⟨h.mem.2 (.inr ⟨x, hx, rfl⟩), by simpa [mk1] using e⟩, rfl⟩
        have e1 : wo w (Pl l j).held = (Pl l j).held := wo_id fun x hx => hno x (List.mem_append_left _ hx)
        have e2 : wo w (Pl l j).queue = (Pl l j).queue := wo_id fun x hx => hno x (List.mem_append_right _ hx)
        have hs0 : Served (less w (Pl l j)) [] (Pl l j).queue := by
          refine ⟨by simp [less, e2], ?_, ?_⟩
          · simp only [less, e1, List.append_nil]
            exact (hI.pl j).go
          · simp only [less, e1, List.append_nil]
            exact (hI.pl j).bl
        obtain ⟨e3, e4⟩ := hs0.uniq g2
        subst e3 e4
        rw [h3 j hj, g1]
        simp [less, e2]
theorem Inv.free2 {n : Nat} {l : mdl_Locks} (h : Inv n l) (hN : n ≤ 1000) (w : Int) (k : ByteArray) : ∃ e l', mdl_Locks_Free l w k = some (e, l') ∧ Inv n l' ∧ ((¬ okWho w ∧ e = 2 ∧ l' = l) ∨ (okWho w ∧ ¬ holdsAt l w k ∧ e = 4 ∧ l' = l) ∨ (okWho w ∧ holdsAt l w k ∧ e = 0 ∧ (∀ j, j ≠ k → Pl l' j = Pl l j) ∧ ∃ T R, (Pl l k).queue = T ++ R ∧ Pl l' k = ⟨wo w (Pl l k).held ++ T, R⟩)) := by
  refine (?_ : Ret (mdl_Locks_Free l w k) fun r => Inv n r.2 ∧ ((¬ okWho w ∧ r.1 = 2 ∧ r.2 = l) ∨ (okWho w ∧ ¬ holdsAt l w k ∧ r.1 = 4 ∧ r.2 = l) ∨ (okWho w ∧ holdsAt l w k ∧ r.1 = 0 ∧ (∀ j, j ≠ k → Pl r.2 j = Pl l j) ∧ ∃ T R, (Pl l k).queue = T ++ R ∧ Pl r.2 k = ⟨wo w (Pl l k).held ++ T, R⟩))).ex.elim fun r hr => ⟨r.1, r.2, hr.1, hr.2⟩
  unfold mdl_Locks_Free
  rw [check_eq]
  simp only [Option.bind_some]
  refine RB.cond (fun hc => RB.ret ⟨h, .inl ⟨?_, ?_, rfl⟩⟩) (fun hc => ?_)
  · cases hb : decide (w < 1) || decide (w > 8) with
    | false => rw [hb] at hc; simp at hc
    | true => simp at hb; rintro ⟨h1, h2⟩; omega
  · cases hb : decide (w < 1) || decide (w > 8) with
    | true => simp
    | false => rw [hb] at hc; simp at hc
  have hwr : okWho w := by
    cases hb : decide (w < 1) || decide (w > 8) with
    | true => rw [hb] at hc; simp at hc
    | false => simp at hb; exact ⟨by omega, by omega⟩
  rw [pl_eq]
  rcases find_spec (Pl l k).held w with ⟨hnh, e⟩ | ⟨A, x, B, hx, hxw, _, e⟩
  · rw [e]
    exact RB.ret ⟨h, .inr (.inl ⟨hwr, fun ⟨x, hx, e⟩ => hnh x hx e, rfl, rfl⟩)⟩
  rw [e]
  simp only [Option.bind_some]
  rw [show decide ((A.length : Int) < 0) = false by simp]
  simp only [cond_false]
  have hp := h.pl k
  have hlen := hp.len
  rw [without_eq (by omega)]
  simp only [Option.bind_some]
  obtain ⟨l', T, R, h1, h2, h3, h4, h5⟩ := h.serve hN (hp.toPre.less w (List.Sublist.refl _)) (key_of (x := x) (.inl (by rw [hx]; simp))) (fun x hx => hx)
  simp only at h1 h3 h4
  rw [h1]
  exact RB.ret ⟨h2, .inr (.inr ⟨hwr, ⟨x, by rw [hx]; simp, hxw⟩, rfl, h5, T, R, h3, h4⟩)⟩
theorem Rel.free {n N : Nat} {l l' : mdl_Locks} {r : RK} (hI : Inv N l) (hI' : Inv N l') (h : Rel n l r) (hn : n < 900) {w e : Int} {k : ByteArray}
    (hQ : (¬ okWho w ∧ e = 2 ∧ l' = l) ∨ (okWho w ∧ ¬ holdsAt l w k ∧ e = 4 ∧ l' = l) ∨ (okWho w ∧ holdsAt l w k ∧ e = 0 ∧ (∀ j, j ≠ k → Pl l' j = Pl l j) ∧ ∃ T R, (Pl l k).queue = T ++ R ∧ Pl l' k = ⟨wo w (Pl l k).held ++ T, R⟩)) : ∃ r', registrarref21_Locks_Free r w k = some (e, r') ∧ Rel n l' r' := by
  have hlen := h.len
  suffices hs : Ret (registrarref21_Locks_Free r w k) (fun t => t.1 = e ∧ Rel n l' t.2) by
    obtain ⟨⟨e', r'⟩, hr, h1, h2⟩ := hs.ex
    simp only at h1
    subst h1
    exact ⟨r', hr, h2⟩
  unfold registrarref21_Locks_Free
  cases hbad : (decide (w < 1) || decide (w > 8)) with
  | true =>
    simp only [cond_true]
    simp only [Bool.or_eq_true, decide_eq_true_eq] at hbad
    rcases hQ with ⟨_, rfl, rfl⟩ | ⟨⟨h1, h2⟩, _⟩ | ⟨⟨h1, h2⟩, _⟩
    · exact RB.ret ⟨rfl, h⟩
    all_goals omega
  | false =>
    simp only [cond_false]
    simp only [Bool.or_eq_false_iff, decide_eq_false_iff_not] at hbad
    replace hQ := hQ.resolve_left (fun hx => hx.1 ⟨by omega, by omega⟩)
    rw [drop_eq w _ false (by omega)]
    simp only [Option.bind_some, Bool.false_or]
    have hcond : ∀ x ∈ r.L, ((x.Who == w) && (x.Held && sEq x.Path k)) = true → holdsAt l w k := by
      intro x hx hc
      simp only [Bool.and_eq_true, beq_iff_eq] at hc
      have hk := (keq _ _).1 hc.2.2
      rcases h.mem.1 hx with ⟨y, hy, e1⟩ | ⟨y, hy, e1⟩
      · rw [hk] at hy
        exact ⟨y, hy, by rw [e1] at hc; exact hc.1⟩
      · rw [e1] at hc
        have := hc.2.1
        cases this
    rcases hQ with ⟨_, hno, rfl, rfl⟩ | ⟨_, hyes, rfl, hs, T, R, hq, hk⟩
    · have e1 : (r.L.filter fun x => (x.Who == w) && (x.Held && sEq x.Path k)) = [] := List.filter_eq_nil_iff.2 fun x hx hc => hno (hcond x hx hc)
      have e2 : (r.L.filter fun x => !((x.Who == w) && (x.Held && sEq x.Path k))) = r.L := List.filter_eq_self.2 fun x hx => by
        cases hc : ((x.Who == w) && (x.Held && sEq x.Path k)) with
        | false => rfl
        | true => exact absurd (hcond x hx hc) hno
      rw [e1, e2]
      exact RB.ret ⟨rfl, h⟩
    · obtain ⟨y, hy, hyw⟩ := hyes
      have hmem : mk1 k true y ∈ (r.L.filter fun x => (x.Who == w) && (x.Held && sEq x.Path k)) := List.mem_filter.2 ⟨h.mem.2 (.inl ⟨y, hy, rfl⟩), by simp [mk1, hyw, sEq_self]⟩
      have hne : ((((r.L.filter fun x => (x.Who == w) && (x.Held && sEq x.Path k)).map (·.Path)).length : Int) == 0) = false := by
        simp only [beq_eq_false_iff_ne, ne_eq, List.length_map]
        intro e
        have : (r.L.filter fun x => (x.Who == w) && (x.Held && sEq x.Path k)) = [] := List.eq_nil_of_length_eq_zero (by omega)
        rw [this] at hmem
        cases hmem
      rw [hne]
      simp only [cond_false]
      have hfl : (r.L.filter fun x => !((x.Who == w) && (x.Held && sEq x.Path k))).length ≤ r.L.length := List.length_filter_le _ _
      have hat : atP (r.L.filter fun x => !((x.Who == w) && (x.Held && sEq x.Path k))) k = form k ⟨wo w (Pl l k).held, (Pl l k).queue⟩ := by
        rw [atP_filter, h.eq]
        unfold form wo
        rw [List.filter_append, List.filter_map, List.filter_map]
        congr 2
        · exact List.filter_congr fun x _ => by simp [mk1, sEq_self]
        · exact List.filter_eq_self.2 fun x _ => by simp [mk1]
      have hat2 : ∀ j, j ≠ k → atP (r.L.filter fun x => !((x.Who == w) && (x.Held && sEq x.Path k))) j = atP r.L j := by
        intro j hj
        rw [atP_filter]
        refine List.filter_eq_self.2 fun x hx => ?_
        have hp := (at_path hx).2
        rw [hp, sEq_no hj]
        simp
      obtain ⟨r', T', R', k1, k2, k3, k4, k5⟩ := serveR (r := ⟨r.L.filter fun x => !((x.Who == w) && (x.Held && sEq x.Path k))⟩) hat ((hI.pl k).go.sublist (wo_sub w _)) (by simp only; omega)
      rw [k1]
      have hok := hI'.pl k
      rw [hk] at hok
      obtain ⟨e1, e2⟩ := k3.uniq (Served.of (p := ⟨wo w (Pl l k).held, (Pl l k).queue⟩) hok hq)
      subst e1 e2
      refine RB.ret ⟨rfl, ⟨fun j => ?_, by simp only at k5 ⊢; omega⟩⟩
      by_cases ej : j = k
      · subst ej
        simp only
        rw [k2, hk]
      · simp only
        rw [k4 j ej, hs j ej]
        simp only
        rw [hat2 j ej, h.eq j]
theorem done_eq {n : Nat} {l : mdl_Locks} {r : RK} (hI : Inv n l) (h : Rel n l r) (hn : n < 800) (a : registrarlaw21_Act) (ha : a.Path.size ≤ 100) : ∃ l' r', registrarlaw21_done l r a = some (true, l', r') ∧ Inv (n + 1) l' ∧ Rel (n + 1) l' r' := by
  suffices hs : Ret (registrarlaw21_done l r a) (fun t => t.1 = true ∧ Inv (n + 1) t.2.1 ∧ Rel (n + 1) t.2.1 t.2.2) by
    obtain ⟨⟨b, l', r'⟩, hr, h1, h2, h3⟩ := hs.ex
    simp only at h1
    subst h1
    exact ⟨l', r', hr, h2, h3⟩
  unfold registrarlaw21_done
  refine RB.cond (fun _ => ?_) (fun _ => RB.cond (fun _ => ?_) (fun _ => ?_))
  · obtain ⟨b, e, l', h1, h2, h3⟩ := hI.ask2 (by omega) a.Who a.Path a.Mode ha
    obtain ⟨r', h4, h5⟩ := h.ask hI (by omega) h3
    rw [h1, h4]
    exact RB.ret ⟨by simp, h2, h5⟩
  · obtain ⟨e, l', h1, h2, h3⟩ := hI.free2 (by omega) a.Who a.Path
    obtain ⟨r', h4, h5⟩ := h.free hI h2 (by omega) h3
    rw [h1, h4]
    exact RB.ret ⟨by simp, h2.mono (by omega), h5.eq, by have := h5.len; simp only; omega⟩
  · obtain ⟨e, l', h1, h2, h3⟩ := hI.leave2 (by omega) a.Who
    obtain ⟨r', h4, h5⟩ := h.leave hI h2 (by omega) h3
    rw [h1, h4]
    exact RB.ret ⟨by simp, h2.mono (by omega), h5.eq, by have := h5.len; simp only; omega⟩
end Go.Proofs.Ytdmefifamlpbiaa
