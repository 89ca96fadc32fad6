/- The document's locks beside the program's. Conditions: none. -/
import Derived.Test.YtdmefifamlpbiaaOrdered
namespace Go.Proofs.Ytdmefifamlpbiaa
open Go.Gv
attribute [local irreducible] Pl
abbrev RO := registrarref21_One
abbrev RK := registrarref21_Locks
def mk1 (k : ByteArray) (b : Bool) (x : One) : RO := ⟨x.who, x.mode, k, b⟩
def form (k : ByteArray) (p : Place) : List RO := p.held.map (mk1 k true) ++ p.queue.map (mk1 k false)
def atP (L : List RO) (k : ByteArray) : List RO := L.filter fun x => sEq x.Path k
theorem sEq_self (k : ByteArray) : sEq k k = true := (keq k k).2 rfl
theorem sEq_no {a b : ByteArray} (h : a ≠ b) : sEq a b = false := keq.ne h
structure Rel (n : Nat) (l : mdl_Locks) (r : RK) : Prop where
  eq : ∀ k, atP r.L k = form k (Pl l k)
  len : r.L.length ≤ n
theorem mem_at {L : List RO} {e : RO} : e ∈ L ↔ e ∈ atP L e.Path := by
  unfold atP
  rw [List.mem_filter]
  simp [sEq_self]
theorem at_path {L : List RO} {e : RO} {k : ByteArray} (h : e ∈ atP L k) : e ∈ L ∧ e.Path = k := by
  obtain ⟨h1, h2⟩ := List.mem_filter.1 h
  exact ⟨h1, (keq _ _).1 h2⟩
theorem form_mem {k : ByteArray} {p : Place} {e : RO} : e ∈ form k p ↔ (∃ x ∈ p.held, e = mk1 k true x) ∨ ∃ x ∈ p.queue, e = mk1 k false x := by
  unfold form
  rw [List.mem_append, List.mem_map, List.mem_map]
  constructor
  · rintro (⟨x, h1, h2⟩ | ⟨x, h1, h2⟩)
    · exact .inl ⟨x, h1, h2.symm⟩
    · exact .inr ⟨x, h1, h2.symm⟩
  · rintro (⟨x, h1, h2⟩ | ⟨x, h1, h2⟩)
    · exact .inl ⟨x, h1, h2.symm⟩
    · exact .inr ⟨x, h1, h2.symm⟩
theorem Rel.mem {n : Nat} {l : mdl_Locks} {r : RK} (h : Rel n l r) {e : RO} : e ∈ r.L ↔ (∃ x ∈ (Pl l e.Path).held, e = mk1 e.Path true x) ∨ ∃ x ∈ (Pl l e.Path).queue, e = mk1 e.Path false x := by
  rw [mem_at, h.eq, form_mem]
theorem who_inj {L : List One} (hn : (L.map (·.who)).Nodup) {x y : One} (hx : x ∈ L) (hy : y ∈ L) (e : x.who = y.who) : x = y := by
  induction L with
  | nil => cases hx
  | cons a r ih =>
    simp only [List.map_cons, List.nodup_cons] at hn
    rcases List.mem_cons.1 hx with h1 | h1 <;> rcases List.mem_cons.1 hy with h2 | h2
    · rw [h1, h2]
    · subst h1
      exact absurd (List.mem_map.2 ⟨y, h2, e.symm⟩) hn.1
    · subst h2
      exact absurd (List.mem_map.2 ⟨x, h1, e⟩) hn.1
    · exact ih hn.2 h1 h2
theorem Rel.waits {n N : Nat} {l : mdl_Locks} {r : RK} (hI : Inv N l) (h : Rel n l r) (w : Int) : registrarref21_Locks_Waits r w = mdl_Locks_Waits l w := by
  obtain ⟨v, hv⟩ : ∃ v, mdl_Locks_Waits l w = some v := by rcases hI.waits w with ⟨_, e⟩ | ⟨_, _, _, _, _, _, _, e⟩ <;> exact ⟨_, e⟩
  rw [hv]
  refine Ret.eq ?_
  unfold registrarref21_Locks_Waits
  refine RB.bind (forN_ret (fun i s => s = z_api_Need ∧ ∀ e ∈ r.L.take i, ¬ (e.Who = w ∧ e.Held = false)) (Q := fun t => ∃ e ∈ r.L, e.Who = w ∧ e.Held = false ∧ t = (true, (⟨e.Path, e.Mode⟩ : api_Need))) ⟨rfl, by simp⟩ ?_) ?_
  · rintro i s hi ⟨rfl, h1⟩
    have hx : r.L[i]? = some r.L[i] := List.getElem?_eq_getElem hi
    simp only [idx_nat, hx, Option.bind_some]
    refine RB.bind (R := fun b => b = (r.L[i].Who == w && !r.L[i].Held)) ?_ ?_
    · cases r.L[i].Who == w <;> exact RB.ret (by simp)
    rintro b rfl
    refine RB.cond (fun hc => RB.ret ?_) (fun hc => RB.ret ⟨rfl, fun e he => ?_⟩)
    · simp only [Bool.and_eq_true, beq_iff_eq, Bool.not_eq_true'] at hc
      exact ⟨r.L[i], List.getElem_mem hi, hc.1, hc.2, rfl⟩
    · rw [take_snoc hx, List.mem_append, List.mem_singleton] at he
      rcases he with he | rfl
      · exact h1 e he
      · rintro ⟨h2, h3⟩
        rw [h2, h3] at hc
        simp at hc
  · rcases hI.waits w with ⟨hno, e⟩ | ⟨k, A, x, B, hq, hw, hA, e⟩
    · rw [hv] at e
      injection e with e
      subst e
      rintro (s | t) ht
      · exact RB.ret rfl
      · obtain ⟨e, he, h1, h2, _⟩ := ht
        rcases h.mem.1 he with ⟨y, hy, e1⟩ | ⟨y, hy, e1⟩
        · rw [e1] at h2; cases h2
        · rw [e1] at h1
          exact absurd h1 (hno _ y hy)
    · rw [hv] at e
      injection e with e
      subst e
      have hxq : x ∈ (Pl l k).queue := by rw [hq]; simp
      rintro (s | t) ht
      · have hm : mk1 k false x ∈ r.L := h.mem.2 (.inr ⟨x, hxq, rfl⟩)
        have := ht.2 (mk1 k false x) (by rw [List.take_length]; exact hm)
        exact absurd ⟨hw, rfl⟩ this
      · obtain ⟨e, he, h1, h2, rfl⟩ := ht
        refine RB.ret ?_
        rcases h.mem.1 he with ⟨y, hy, e1⟩ | ⟨y, hy, e1⟩
        · rw [e1] at h2; cases h2
        · have h3 : y.who = w := by rw [e1] at h1; exact h1
          have hk : e.Path = k := hI.w1 _ _ y x hy hxq (h3.trans hw.symm)
          have hnd := (hI.pl k).nd
          rw [List.map_append, List.nodup_append] at hnd
          rw [hk] at hy
          have hyx : y = x := who_inj hnd.2.1 hy hxq (h3.trans hw.symm)
          subst hyx
          rw [e1]
          simp [mk1, hk]
theorem blocked_eq {r : RK} {k : ByteArray} {p : Place} (h : atP r.L k = form k p) (m : Int) : registrarref21_Locks_blocked r k m = some (p.held.any fun x => !G x.mode m) := by
  unfold registrarref21_Locks_blocked
  rw [forN_find (fun e : RO => sEq e.Path k && e.Held && !G e.Mode m) (fun _ => true)]
  · have key : (r.L.any fun e : RO => sEq e.Path k && e.Held && !G e.Mode m) = p.held.any fun x => !G x.mode m := by
      rw [Bool.eq_iff_iff, List.any_eq_true, List.any_eq_true]
      constructor
      · rintro ⟨e, he, hc⟩
        simp only [Bool.and_eq_true] at hc
        have he' : e ∈ atP r.L k := List.mem_filter.2 ⟨he, hc.1.1⟩
        rw [h, form_mem] at he'
        rcases he' with ⟨x, hx, rfl⟩ | ⟨x, hx, rfl⟩
        · exact ⟨x, hx, hc.2⟩
        · have := hc.1.2; cases this
      · rintro ⟨x, hx, hg⟩
        have he : mk1 k true x ∈ atP r.L k := by rw [h, form_mem]; exact .inl ⟨x, hx, rfl⟩
        refine ⟨_, (at_path he).1, ?_⟩
        simp only [mk1, sEq_self, Bool.true_and]
        exact hg
    rcases find_cases (fun e : RO => sEq e.Path k && e.Held && !G e.Mode m) r.L with ⟨h1, e⟩ | ⟨A, x, B, h1, h2, h3, e⟩
    · rw [e, ← key]
      have : (r.L.any fun e : RO => sEq e.Path k && e.Held && !G e.Mode m) = false := List.any_eq_false.2 fun x hx => by rw [h1 x hx]; simp
      rw [this]
      rfl
    · rw [e, ← key]
      have : (r.L.any fun e : RO => sEq e.Path k && e.Held && !G e.Mode m) = true := List.any_eq_true.2 ⟨x, by rw [h1]; simp, h2⟩
      rw [this]
      rfl
  · intro j x hx
    simp only [idx_nat, hx, Option.bind_some, refgoes_eq]
    cases hc : sEq x.Path k && x.Held with
    | true => simp only [cond_true, Option.bind_some, Bool.true_and]; cases G x.Mode m <;> rfl
    | false => rfl
theorem queue_eq {r : RK} {k : ByteArray} {p : Place} (hl : r.L.length ≤ 1000) (h : atP r.L k = form k p) : registrarref21_Locks_Queue r k = some (p.queue.map (·.who)) := by
  have key : (r.L.filter fun e => sEq e.Path k && !e.Held).map (·.Who) = p.queue.map (·.who) := by
    have e1 : (r.L.filter fun e => sEq e.Path k && !e.Held) = (atP r.L k).filter fun e => !e.Held := by
      unfold atP
      rw [List.filter_filter]
      refine List.filter_congr fun x _ => ?_
      rw [Bool.and_comm]
    rw [e1, h]
    unfold form
    rw [List.filter_append, List.filter_map, List.filter_map, List.map_append, List.map_map, List.map_map]
    have e2 : (p.held.filter ((fun e : RO => !e.Held) ∘ mk1 k true)) = [] := List.filter_eq_nil_iff.2 fun x _ => by simp [mk1]
    have e3 : (p.queue.filter ((fun e : RO => !e.Held) ∘ mk1 k false)) = p.queue := List.filter_eq_self.2 fun x _ => by simp [mk1]
    rw [e2, e3]
    simp [mk1, Function.comp_def]
  rw [← key]
  refine Ret.eq ?_
  unfold registrarref21_Locks_Queue
  refine RB.bind (R := fun s => s = ((r.L.take r.L.length).filter fun e => sEq e.Path k && !e.Held).map (·.Who)) (forE_ret (fun i s => s = ((r.L.take i).filter fun e => sEq e.Path k && !e.Held).map (·.Who)) (by simp) ?_) ?_
  · rintro i s hi rfl
    have hx : r.L[i]? = some r.L[i] := List.getElem?_eq_getElem hi
    have hle : ((r.L.take i).filter fun e => sEq e.Path k && !e.Held).length ≤ i := by
      refine Nat.le_trans (List.length_filter_le _ _) ?_
      simp
      omega
    simp only [idx_nat, hx, Option.bind_some]
    rw [take_snoc hx, List.filter_append, List.map_append]
    refine RB.bind (R := fun b => b = (sEq r.L[i].Path k && !r.L[i].Held)) ?_ ?_
    · cases sEq r.L[i].Path k <;> exact RB.ret (by simp)
    rintro b rfl
    cases hb : (sEq r.L[i].Path k && !r.L[i].Held) with
    | true =>
      simp only [cond_true]
      rw [app_le (by simp; omega)]
      exact RB.ret (by simp [List.filter_cons, hb])
    | false => exact RB.ret (by simp [List.filter_cons, hb])
  · rintro s rfl
    refine RB.ret ?_
    rw [List.take_length]
theorem atP_app (A B : List RO) (k : ByteArray) : atP (A ++ B) k = atP A k ++ atP B k := List.filter_append ..
theorem atP_yes {e : RO} {k : ByteArray} (h : e.Path = k) : atP [e] k = [e] := by unfold atP; simp [List.filter_cons, h, sEq_self]
theorem atP_no {e : RO} {k : ByteArray} (h : e.Path ≠ k) : atP [e] k = [] := by unfold atP; simp [List.filter_cons, sEq_no h]
theorem Rel.ask {n N : Nat} {l l' : mdl_Locks} {r : RK} (hI : Inv N l) (h : Rel n l r) (hn : n < 900) {w : Int} {k : ByteArray} {m : Int} {b : Bool} {e : Int} (hQ : AskQ l w k m b e l') : ∃ r', registrarref21_Locks_Ask r w ⟨k, m⟩ = some (b, e, r') ∧ Rel (n + 1) l' r' := by
  have hlen := h.len
  suffices hs : Ret (registrarref21_Locks_Ask r w ⟨k, m⟩) (fun t => t.1 = b ∧ t.2.1 = e ∧ Rel (n + 1) l' t.2.2) by
    obtain ⟨⟨b', e', r'⟩, hr, h1, h2, h3⟩ := hs.ex
    simp only at h1 h2
    subst h1 h2
    exact ⟨r', hr, h3⟩
  have same : ∀ l0, l0 = l → Rel (n + 1) l0 r := fun l0 e => e ▸ ⟨h.eq, by omega⟩
  unfold registrarref21_Locks_Ask
  cases hbad : (((decide (w < 1) || decide (w > 8)) || decide (m < 1)) || decide (m > 4)) with
  | true =>
    simp only [hbad, cond_true]
    simp only [Bool.or_eq_true, decide_eq_true_eq] at hbad
    rcases hQ with ⟨_, rfl, rfl, hl⟩ | ⟨⟨⟨h1, h2⟩, h3, h4⟩, _⟩ | ⟨⟨⟨h1, h2⟩, h3, h4⟩, _⟩ | ⟨⟨⟨h1, h2⟩, h3, h4⟩, _⟩
    · exact RB.ret ⟨rfl, rfl, same _ hl⟩
    all_goals omega
  | false =>
    simp only [hbad, cond_false]
    simp only [Bool.or_eq_false_iff, decide_eq_false_iff_not] at hbad
    have hok : okWho w ∧ 1 ≤ m ∧ m ≤ 4 := ⟨⟨by omega, by omega⟩, by omega, by omega⟩
    replace hQ := hQ.resolve_left (fun hx => hx.1 hok)
    rw [h.waits hI]
    rcases hI.waits w with ⟨hno, e0⟩ | ⟨k', A, x, B, hq, hw, hA, e0⟩
    rotate_left
    · rw [e0]
      simp only [Option.bind_some, cond_true]
      have hwa : waitsAt l w k' := ⟨x, by rw [hq]; simp, hw⟩
      rcases hQ with ⟨_, _, rfl, rfl, hl⟩ | ⟨_, hx, _⟩ | ⟨_, hx, _⟩
      · exact RB.ret ⟨rfl, rfl, same _ hl⟩
      · exact absurd hwa (hx k')
      · exact absurd hwa (hx k')
    rw [e0]
    simp only [Option.bind_some, cond_false]
    replace hQ := hQ.resolve_left (fun hx => by obtain ⟨j, x, hx1, hx2⟩ := hx.2.1; exact hno j x hx1 hx2)
    refine RB.bind (forN_ret (fun i (_ : Unit) => ∀ e ∈ r.L.take i, ¬ (e.Who = w ∧ e.Path = k)) (Q := fun t => t = (false, 19) ∧ ∃ e ∈ r.L, e.Who = w ∧ e.Path = k) (by simp) ?_) ?_
    · rintro i _ hi h1
      have hx : r.L[i]? = some r.L[i] := List.getElem?_eq_getElem hi
      simp only [idx_nat, hx, Option.bind_some]
      refine RB.bind (R := fun b => b = (r.L[i].Who == w && sEq r.L[i].Path k)) ?_ ?_
      · cases r.L[i].Who == w <;> exact RB.ret (by simp)
      rintro b rfl
      refine RB.cond (fun hc => RB.ret ?_) (fun hc => RB.ret (fun e he => ?_))
      · simp only [Bool.and_eq_true, beq_iff_eq] at hc
        exact ⟨rfl, r.L[i], List.getElem_mem hi, hc.1, (keq _ _).1 hc.2⟩
      · rw [take_snoc hx, List.mem_append, List.mem_singleton] at he
        rcases he with he | rfl
        · exact h1 e he
        · rintro ⟨h2, h3⟩
          rw [h2, h3, sEq_self] at hc
          simp at hc
    · have hheld : (∃ e ∈ r.L, e.Who = w ∧ e.Path = k) ↔ holdsAt l w k := by
        constructor
        · rintro ⟨e, he, h1, h2⟩
          rcases h.mem.1 he with ⟨y, hy, e1⟩ | ⟨y, hy, e1⟩
          · exact ⟨y, h2 ▸ hy, by rw [e1] at h1; exact h1⟩
          · exact absurd (by rw [e1] at h1; exact h1) (hno _ y hy)
        · rintro ⟨y, hy, hyw⟩
          exact ⟨mk1 k true y, h.mem.2 (.inl ⟨y, hy, rfl⟩), hyw, rfl⟩
      rintro (u | t) ht
      · simp only
        have hnh : ¬ holdsAt l w k := fun hx => by
          obtain ⟨e, he, h1⟩ := hheld.2 hx
          exact ht e (by rw [List.take_length]; exact he) h1
        obtain ⟨_, _, _, hb, he, hs, hk⟩ := hQ.resolve_left (fun hx => hnh hx.2.2.1)
        rw [queue_eq (by omega) (h.eq k)]
        simp only [Option.bind_some, List.length_map]
        refine RB.bind (R := fun c => c = b) ?_ ?_
        · rw [hb]
          cases hq : (Pl l k).queue with
          | nil =>
            simp only [List.length_nil]
            rw [show (((0 : Nat) : Int) == 0) = true from rfl]
            simp only [cond_true]
            rw [blocked_eq (h.eq k)]
            refine RB.ret ?_
            simp only [decide_true, Bool.true_and]
            rw [List.not_any_eq_all_not]
            simp
          | cons y q =>
            have : ((((y :: q).length : Nat) : Int) == 0) = false := by
              simp only [beq_eq_false_iff_ne, ne_eq, List.length_cons]
              omega
            rw [this]
            exact RB.ret (by simp)
        rintro c rfl
        rw [app_le (by simp; omega)]
        refine RB.ret ⟨rfl, he.symm, ⟨fun j => ?_, by simp; omega⟩⟩
        simp only
        rw [atP_app, h.eq j]
        by_cases ej : j = k
        · subst ej
          rw [atP_yes rfl, hk]
          cases c with
          | true =>
            have hq0 : (Pl l j).queue = [] := by
              have := hb.symm
              simp only [Bool.and_eq_true, decide_eq_true_eq] at this
              exact this.1
            simp [form, hq0, mk1]
          | false => simp [form, mk1]
        · rw [atP_no (by simpa using fun e => ej e.symm), hs j ej, List.append_nil]
      · simp only
        obtain ⟨rfl, he⟩ := ht
        have hx := hheld.1 he
        rcases hQ with ⟨_, _, _, rfl, rfl, hl⟩ | ⟨_, _, hnh, _⟩
        · exact RB.ret ⟨rfl, rfl, same _ hl⟩
        · exact absurd hx hnh
theorem drop_eq {r : RK} (w : Int) (k : ByteArray) (all : Bool) (hl : r.L.length ≤ 1000) : registrarref21_Locks_drop r w k all = some ((r.L.filter fun x => (x.Who == w) && (all || (x.Held && sEq x.Path k))).map (·.Path), ⟨r.L.filter fun x => !((x.Who == w) && (all || (x.Held && sEq x.Path k)))⟩) := by
  generalize hc : (fun x : RO => (x.Who == w) && (all || (x.Held && sEq x.Path k))) = c
  have hc2 : ∀ x : RO, ((x.Who == w) && (all || (x.Held && sEq x.Path k))) = c x := fun x => by rw [← hc]
  simp only [hc2]
  refine Ret.eq ?_
  unfold registrarref21_Locks_drop
  simp only [hc2]
  refine RB.bind (R := fun s => s = ((r.L.take r.L.length).filter (fun x => !c x), ((r.L.take r.L.length).filter c).map (·.Path))) (forE_ret (fun i s => s = ((r.L.take i).filter (fun x => !c x), ((r.L.take i).filter c).map (·.Path))) (by simp) ?_) ?_
  · rintro i s hi rfl
    have hx : r.L[i]? = some r.L[i] := List.getElem?_eq_getElem hi
    have hle : ((r.L.take i).filter c).length ≤ i := by
      refine Nat.le_trans (List.length_filter_le _ _) ?_
      simp
      omega
    have hle2 : ((r.L.take i).filter (fun x => !c x)).length ≤ i := by
      refine Nat.le_trans (List.length_filter_le _ _) ?_
      simp
      omega
    simp only [idx_nat, hx, Option.bind_some]
    rw [take_snoc hx, List.filter_append, List.filter_append, List.map_append]
    cases hb : c r.L[i] with
    | true =>
      simp only [cond_true]
      rw [app_le (by simp; omega)]
      exact RB.ret (by simp [List.filter_cons, hb])
    | false =>
      simp only [cond_false]
      rw [app_le (by simp; omega)]
      exact RB.ret (by simp [List.filter_cons, hb])
  · rintro s rfl
    refine RB.ret ?_
    rw [List.take_length]
theorem split_at {h : RO → Bool} {x : RO} : ∀ {U F V Z : List RO}, (∀ u ∈ U, h u = true) → (∀ f ∈ F, h f = true) → h x = false → (∀ z ∈ Z, h z = false) → U ++ x :: V = F ++ Z → U = F ∧ x :: V = Z
  | [], [], V, Z, _, _, _, _, e => ⟨rfl, by simpa using e⟩
  | [], f :: F, V, Z, _, h2, h3, _, e => by
    simp only [List.nil_append, List.cons_append] at e
    injection e with e1 _
    have := h2 f (List.mem_cons_self ..)
    rw [← e1, h3] at this
    cases this
  | u :: U, [], V, Z, h1, _, _, h4, e => by
    simp only [List.nil_append, List.cons_append] at e
    have := h4 u (by rw [← e]; simp)
    rw [h1 u (List.mem_cons_self ..)] at this
    cases this
  | u :: U, f :: F, V, Z, h1, h2, h3, h4, e => by
    simp only [List.cons_append] at e
    injection e with e1 e2
    obtain ⟨e3, e4⟩ := split_at (fun a ha => h1 a (List.mem_cons_of_mem _ ha)) (fun a ha => h2 a (List.mem_cons_of_mem _ ha)) h3 h4 e2
    exact ⟨by rw [e1, e3], e4⟩
/-- What serving leaves. -/
def Served (p : Place) (T R : List One) : Prop := p.queue = T ++ R ∧ (p.held ++ T).Pairwise (fun x y => G x.mode y.mode = true) ∧ ∀ y q, R = y :: q → ∃ x ∈ p.held ++ T, G x.mode y.mode = false
theorem Served.uniq {p : Place} {T R T' R' : List One} (h : Served p T R) (h' : Served p T' R') : T = T' ∧ R = R' := by
  have e : T ++ R = T' ++ R' := h.1.symm.trans h'.1
  have key : ∀ {A B A' B' : List One}, Served p A B → Served p A' B' → ∀ C, A' = A ++ C → B = C ++ B' → C = [] := by
    intro A B A' B' h1 h2 C e1 e2
    cases C with
    | nil => rfl
    | cons y C =>
      exfalso
      obtain ⟨x, hx, hg⟩ := h1.2.2 y (C ++ B') e2
      have hp := h2.2.1
      rw [e1, ← List.append_assoc, List.pairwise_append] at hp
      have := hp.2.2 x hx y (List.mem_cons_self ..)
      rw [hg] at this
      cases this
  rcases List.append_eq_append_iff.1 e with ⟨C, e1, e2⟩ | ⟨C, e1, e2⟩
  · have := key h h' C e1 e2
    subst this
    exact ⟨by simpa using e1.symm, by simpa using e2⟩
  · have := key h' h C e1 e2
    subst this
    exact ⟨by simpa using e1, by simpa using e2.symm⟩
set_option maxHeartbeats 1000000 in
theorem serveR {r : RK} {k : ByteArray} {p : Place} (h : atP r.L k = form k p) (hg : p.held.Pairwise (fun x y => G x.mode y.mode = true)) (hl : r.L.length ≤ 1000) :
    ∃ r' T R, registrarref21_Locks_serve r k = some r' ∧ atP r'.L k = form k ⟨p.held ++ T, R⟩ ∧ Served p T R ∧ (∀ j, j ≠ k → atP r'.L j = atP r.L j) ∧ r'.L.length = r.L.length := by
  suffices hs : Ret (registrarref21_Locks_serve r k) (fun r' => ∃ T R, atP r'.L k = form k ⟨p.held ++ T, R⟩ ∧ Served p T R ∧ (∀ j, j ≠ k → atP r'.L j = atP r.L j) ∧ r'.L.length = r.L.length) by
    obtain ⟨r', hr, T, R, h1⟩ := hs.ex
    exact ⟨r', T, R, hr, h1⟩
  have heldF : ∀ {T : List One}, ∀ f ∈ (p.held ++ T).map (mk1 k true), f.Held = true := by
    intro T f hf
    obtain ⟨x, _, rfl⟩ := List.mem_map.1 hf
    rfl
  have heldZ : ∀ {R : List One}, ∀ f ∈ R.map (mk1 k false), f.Held = false := by
    intro T f hf
    obtain ⟨x, _, rfl⟩ := List.mem_map.1 hf
    rfl
  unfold registrarref21_Locks_serve
  refine RB.bind (R := fun t => match t with | .inl r' => ∃ T R, atP r'.L k = form k ⟨p.held ++ T, R⟩ ∧ Served p T R ∧ (∀ j, j ≠ k → atP r'.L j = atP r.L j) ∧ r'.L.length = r.L.length | .inr r' => ∃ T R, atP r'.L k = form k ⟨p.held ++ T, R⟩ ∧ Served p T R ∧ (∀ j, j ≠ k → atP r'.L j = atP r.L j) ∧ r'.L.length = r.L.length)
    (loopO_rb (fun (s : Int × RK) => 0 ≤ s.1 ∧ s.1 ≤ (r.L.length : Int) ∧ s.2.L.length = r.L.length ∧ (∀ j, j ≠ k → atP s.2.L j = atP r.L j) ∧ (∀ e ∈ s.2.L.take s.1.toNat, e.Path = k → e.Held = true) ∧ ∃ T R, atP s.2.L k = form k ⟨p.held ++ T, R⟩ ∧ p.queue = T ++ R ∧ (p.held ++ T).Pairwise (fun x y => G x.mode y.mode = true))
      (fun s => ((r.L.length : Int) - s.1).toNat) ?_ ⟨by simp, by simp, rfl, fun _ _ => rfl, by simp, [], p.queue, by simpa using h, rfl, by simpa using hg⟩) ?_
  · rintro ⟨i, r1⟩ ⟨h0, h1, h2, h3, h4, T, R, h5, h6, h7⟩
    simp only at h0 h1 h2 h3 h4 h5
    refine RB.cond (fun hc => ?_) (fun hc => ?_)
    · simp only [decide_eq_true_eq] at hc
      have hi : i.toNat < r1.L.length := by omega
      have hx : r1.L[i.toNat]? = some r1.L[i.toNat] := List.getElem?_eq_getElem hi
      have hix : idx r1.L i = some r1.L[i.toNat] := idx_at (by omega) hx
      have hw : w64 (i + 1) = i + 1 := w64_id (by omega) (by omega)
      have hsplit : r1.L = r1.L.take i.toNat ++ r1.L[i.toNat] :: r1.L.drop (i.toNat + 1) := by rw [← List.drop_eq_getElem_cons hi, List.take_append_drop]
      have htn : (i + 1).toNat = i.toNat + 1 := by omega
      rw [hix]
      simp only [Option.bind_some, hw]
      cases hskip : (!sEq r1.L[i.toNat].Path k) || r1.L[i.toNat].Held with
      | true =>
        simp only [cond_true, Option.bind_some]
        refine RB.ret ⟨⟨by simp only; omega, by simp only; omega, h2, h3, ?_, T, R, h5, h6, h7⟩, by simp only; omega⟩
        intro e he hp
        simp only [htn] at he
        rw [take_snoc hx, List.mem_append, List.mem_singleton] at he
        rcases he with he | rfl
        · exact h4 e he hp
        · rw [hp, sEq_self] at hskip
          simpa using hskip
      | false =>
        simp only [Bool.or_eq_false_iff, Bool.not_eq_false'] at hskip
        have hpk : r1.L[i.toNat].Path = k := (keq _ _).1 hskip.1
        simp only [cond_false]
        rw [blocked_eq h5]
        simp only [Option.bind_some]
        have hat : atP r1.L k = atP (r1.L.take i.toNat) k ++ r1.L[i.toNat] :: atP (r1.L.drop (i.toNat + 1)) k := by
          conv => lhs; rw [hsplit]
          rw [show r1.L.take i.toNat ++ r1.L[i.toNat] :: r1.L.drop (i.toNat + 1) = r1.L.take i.toNat ++ ([r1.L[i.toNat]] ++ r1.L.drop (i.toNat + 1)) from rfl, atP_app, atP_app, atP_yes hpk]
          rfl
        obtain ⟨g1, g2⟩ := split_at (h := fun e : RO => e.Held) (U := atP (r1.L.take i.toNat) k) (F := (p.held ++ T).map (mk1 k true)) (x := r1.L[i.toNat]) (V := atP (r1.L.drop (i.toNat + 1)) k) (Z := R.map (mk1 k false))
          (fun u hu => h4 u (at_path hu).1 (at_path hu).2) heldF hskip.2 heldZ (by rw [← hat, h5]; rfl)
        obtain ⟨y, R', rfl, hy, hR'⟩ : ∃ y R', R = y :: R' ∧ mk1 k false y = r1.L[i.toNat] ∧ R'.map (mk1 k false) = atP (r1.L.drop (i.toNat + 1)) k := by
          cases R with
          | nil => cases g2
          | cons y R' =>
            simp only [List.map_cons] at g2
            injection g2 with g3 g4
            exact ⟨y, R', rfl, g3.symm, g4.symm⟩
        have hym : r1.L[i.toNat].Mode = y.mode := by rw [← hy]; rfl
        refine RB.bind (R := fun t => match t with | .inl r' => ((0 : Int) ≤ i + 1 ∧ r'.L.length = r.L.length ∧ (∀ j, j ≠ k → atP r'.L j = atP r.L j) ∧ (∀ e ∈ r'.L.take (i.toNat + 1), e.Path = k → e.Held = true) ∧ ∃ T R, atP r'.L k = form k ⟨p.held ++ T, R⟩ ∧ p.queue = T ++ R ∧ (p.held ++ T).Pairwise (fun x y => G x.mode y.mode = true)) | .inr r' => ∃ T R, atP r'.L k = form k ⟨p.held ++ T, R⟩ ∧ Served p T R ∧ (∀ j, j ≠ k → atP r'.L j = atP r.L j) ∧ r'.L.length = r.L.length) ?_ ?_
        · cases hblk : ((p.held ++ T).any fun x => !G x.mode r1.L[i.toNat].Mode) with
          | true =>
            simp only [cond_true]
            refine RB.ret ⟨T, y :: R', h5, ⟨h6, h7, fun y' q e => ?_⟩, h3, h2⟩
            injection e with e1 e2
            subst e1
            obtain ⟨x, hx1, hx2⟩ := List.any_eq_true.1 hblk
            exact ⟨x, hx1, by rw [hym] at hx2; simpa using hx2⟩
          | false =>
            simp only [cond_false]
            have hset : r1.L.set i.toNat { r1.L[i.toNat] with Held := true } = r1.L.take i.toNat ++ (mk1 k true y :: r1.L.drop (i.toNat + 1)) := by
              rw [List.set_eq_take_append_cons_drop, if_pos hi, ← hy]
              rfl
            refine RB.ret ⟨by omega, ?_, fun j hj => ?_, fun e he hp => ?_, T ++ [y], R', ?_, by rw [h6]; simp, ?_⟩
            · simp only [List.length_set]
              exact h2
            · simp only
              rw [hset, ← h3 j hj]
              conv => rhs; rw [hsplit]
              rw [show r1.L.take i.toNat ++ (mk1 k true y :: r1.L.drop (i.toNat + 1)) = r1.L.take i.toNat ++ ([mk1 k true y] ++ r1.L.drop (i.toNat + 1)) from rfl, show r1.L.take i.toNat ++ r1.L[i.toNat] :: r1.L.drop (i.toNat + 1) = r1.L.take i.toNat ++ ([r1.L[i.toNat]] ++ r1.L.drop (i.toNat + 1)) from rfl, atP_app, atP_app, atP_app, atP_app, atP_no (e := mk1 k true y) (fun e => hj e.symm), atP_no (e := r1.L[i.toNat]) (fun e => hj (e.symm.trans hpk))]
            · simp only at he
              rw [hset, List.take_append, List.take_of_length_le (show (r1.L.take i.toNat).length ≤ i.toNat + 1 by rw [List.length_take]; omega)] at he
              have hlen1 : (r1.L.take i.toNat).length = i.toNat := by simp; omega
              rw [hlen1, show i.toNat + 1 - i.toNat = 1 by omega, List.mem_append] at he
              rcases he with he | he
              · exact h4 e he hp
              · simp only [List.take_succ_cons, List.take_zero, List.mem_singleton] at he
                subst he
                rfl
            · simp only
              rw [hset, show r1.L.take i.toNat ++ (mk1 k true y :: r1.L.drop (i.toNat + 1)) = r1.L.take i.toNat ++ ([mk1 k true y] ++ r1.L.drop (i.toNat + 1)) from rfl, atP_app, atP_app, atP_yes (e := mk1 k true y) (k := k) rfl, g1, ← hR']
              simp [form]
            · rw [← List.append_assoc, List.pairwise_append]
              refine ⟨h7, by simp, fun a ha b hb => ?_⟩
              rw [List.mem_singleton] at hb
              subst hb
              have := List.any_eq_false.1 hblk a ha
              rw [hym] at this
              simpa using this
        · rintro (r' | r') ht
          · obtain ⟨_, t2, t3, t4, t5⟩ := ht
            refine RB.ret ⟨⟨by simp only; omega, by simp only; omega, t2, t3, ?_, t5⟩, by simp only; omega⟩
            simp only [htn]
            exact t4
          · exact RB.ret ht
    · simp only [decide_eq_false_iff_not] at hc
      have hR : R = [] := by
        cases R with
        | nil => rfl
        | cons y R' =>
          exfalso
          have hm : mk1 k false y ∈ atP r1.L k := by rw [h5, form_mem]; exact .inr ⟨y, by simp, rfl⟩
          have h8 := at_path hm
          have := h4 _ (by rw [List.take_of_length_le (by omega)]; exact h8.1) h8.2
          cases this
      subst hR
      exact RB.ret ⟨T, [], h5, ⟨h6, h7, fun y q e => by cases e⟩, h3, h2⟩
  · rintro (r' | r') ht
    · exact RB.ret ht
    · exact RB.ret ht
end Go.Proofs.Ytdmefifamlpbiaa
