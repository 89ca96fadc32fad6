/- The document's locks tell what the program's do. Conditions: none. -/
import Derived.Test.YtdmefifamlpbiaaSame
namespace Go.Proofs.Ytdmefifamlpbiaa
open Go.Gv
attribute [local irreducible] Pl
/-! ### Lists in strict order -/
theorem strict_eq {α : Type} {lt : α → α → Prop} (hi : ∀ x, ¬ lt x x) (ha : ∀ x y, lt x y → ¬ lt y x) : ∀ (a b : List α), a.Pairwise lt → b.Pairwise lt → (∀ n, n ∈ a ↔ n ∈ b) → a = b
  | [], [], _, _, _ => rfl
  | [], y :: b, _, _, h => by have := (h y).2 (by simp); cases this
  | x :: a, [], _, _, h => by have := (h x).1 (by simp); cases this
  | x :: a, y :: b, h1, h2, h => by
    have h1' := List.pairwise_cons.1 h1
    have h2' := List.pairwise_cons.1 h2
    have e : x = y := by
      rcases List.mem_cons.1 ((h x).1 (by simp)) with e | g1
      · exact e
      · rcases List.mem_cons.1 ((h y).2 (by simp)) with e | g2
        · exact e.symm
        · exact absurd (h1'.1 y g2) (ha _ _ (h2'.1 x g1))
    subst e
    rw [strict_eq hi ha a b h1'.2 h2'.2 (fun n => ?_)]
    constructor
    · intro hn
      rcases List.mem_cons.1 ((h n).1 (by simp [hn])) with rfl | g1
      · exact absurd (h1'.1 n hn) (hi n)
      · exact g1
    · intro hn
      rcases List.mem_cons.1 ((h n).2 (by simp [hn])) with rfl | g1
      · exact absurd (h2'.1 n hn) (hi n)
      · exact g1
theorem int_eq (a b : List Int) (h1 : a.Pairwise (· < ·)) (h2 : b.Pairwise (· < ·)) (h : ∀ n, n ∈ a ↔ n ∈ b) : a = b := strict_eq (lt := fun x y : Int => x < y) (fun x => by omega) (fun x y => by omega) a b h1 h2 h
theorem key_eq {α : Type} (K : α → ByteArray) (a b : List α) (h1 : a.Pairwise (fun u v => sLt (K u) (K v) = true)) (h2 : b.Pairwise (fun u v => sLt (K u) (K v) = true)) (h : ∀ n, n ∈ a ↔ n ∈ b) : a = b :=
  strict_eq (lt := fun u v => sLt (K u) (K v) = true) (fun x h => by rw [sLt_irrefl] at h; cases h) (fun x y h g => by rw [sLt_asymm h] at g; cases g) a b h1 h2 h
theorem srt_put {α : Type} (K : α → ByteArray) {A B : List α} {x : α} (h : (A ++ B).Pairwise (fun u v => sLt (K u) (K v) = true)) (h1 : ∀ a ∈ A, sLt (K a) (K x) = true) (h2 : ∀ b B', B = b :: B' → sLt (K b) (K x) = false ∧ K b ≠ K x) : (A ++ x :: B).Pairwise (fun u v => sLt (K u) (K v) = true) := by
  rw [List.pairwise_append] at h ⊢
  have hB : ∀ b ∈ B, sLt (K x) (K b) = true := by
    cases B with
    | nil => intro b hb; cases hb
    | cons b B' =>
      obtain ⟨g1, g2⟩ := h2 b B' rfl
      have g3 : sLt (K x) (K b) = true := lt_of _ _ g1 (fun e => g2 e.symm)
      intro c hc
      rcases List.mem_cons.1 hc with rfl | hc
      · exact g3
      · exact sLt_trans g3 ((List.pairwise_cons.1 h.2.1).1 c hc)
  refine ⟨h.1, List.pairwise_cons.2 ⟨hB, h.2.1⟩, fun a ha b hb => ?_⟩
  rcases List.mem_cons.1 hb with rfl | hb
  · exact h1 a ha
  · exact h.2.2 a ha b hb
theorem scan {α : Type} (K : α → ByteArray) (xs : List α) (x : ByteArray) {step : Int → Option (Int ⊕ Int)} (hs : ∀ (j : Nat), j ≤ xs.length → step (j : Int) = some (match xs[j]? with | some y => (bif sLt (K y) x then .inl ((j + 1 : Nat) : Int) else .inr (j : Int)) | none => .inr (j : Int))) :
    ∃ A B, xs = A ++ B ∧ (∀ a ∈ A, sLt (K a) x = true) ∧ (∀ b B', B = b :: B' → sLt (K b) x = false) ∧ loopO step 0 = some (A.length : Int) := by
  have key : Ret (loopO step 0) (fun t => ∃ A B, xs = A ++ B ∧ (∀ a ∈ A, sLt (K a) x = true) ∧ (∀ b B', B = b :: B' → sLt (K b) x = false) ∧ t = (A.length : Int)) := by
    refine loopO_rb (fun s => ∃ A B, xs = A ++ B ∧ (∀ a ∈ A, sLt (K a) x = true) ∧ s = (A.length : Int)) (fun s => ((xs.length : Int) - s).toNat) ?_ ⟨[], xs, rfl, by simp, rfl⟩
    rintro s ⟨A, B, rfl, h1, rfl⟩
    rw [hs A.length (by simp)]
    rw [List.getElem?_append_right (Nat.le_refl _), Nat.sub_self]
    cases B with
    | nil => exact RB.ret ⟨A, [], rfl, h1, fun b B' e => by (cases e), rfl⟩
    | cons b B =>
      simp only [List.getElem?_cons_zero]
      cases hb : sLt (K b) x with
      | true =>
        refine RB.ret ⟨⟨A ++ [b], B, by simp, fun a ha => ?_, by simp⟩, by simp; omega⟩
        rw [List.mem_append, List.mem_singleton] at ha
        rcases ha with ha | rfl
        · exact h1 a ha
        · exact hb
      | false =>
        refine RB.ret ⟨A, b :: B, rfl, h1, fun b' B' e => ?_, rfl⟩
        injection e with e1 _
        rw [← e1]
        exact hb
  obtain ⟨t, ht, A, B, h1, h2, h3, rfl⟩ := key.ex
  exact ⟨A, B, h1, h2, h3, ht⟩
open Classical in
theorem Rel.paths {n : Nat} {l : mdl_Locks} {r : RK} (h : Rel n l r) (hn : n ≤ 900) : ∃ ks, registrarref21_Locks_Paths r = some ks ∧ ks.Pairwise (fun a b => sLt a b = true) ∧ ∀ k, k ∈ ks ↔ ∃ e ∈ r.L, e.Path = k := by
  have hl := h.len
  refine Ret.ex ?_
  unfold registrarref21_Locks_Paths
  refine RB.bind (R := fun s => s.length ≤ r.L.length ∧ s.Pairwise (fun a b => sLt a b = true) ∧ ∀ k, k ∈ s ↔ ∃ e ∈ r.L.take r.L.length, e.Path = k) (forE_ret (fun i (s : List ByteArray) => s.length ≤ i ∧ s.Pairwise (fun a b => sLt a b = true) ∧ ∀ k, k ∈ s ↔ ∃ e ∈ r.L.take i, e.Path = k) ⟨by simp, by simp, by simp⟩ ?_) ?_
  · rintro i s hi ⟨h1, h2, h3⟩
    have hx : r.L[i]? = some r.L[i] := List.getElem?_eq_getElem hi
    simp only [idx_nat, hx, Option.bind_some]
    obtain ⟨A, B, hs, hA, hB, hlo⟩ := scan (fun k => k) s r.L[i].Path (step := fun (s19 : Int) => ((bif (decide (s19 < (s.length : Int))) then (idx s s19).bind (fun (x30 : ByteArray) => some (sLt x30 r.L[i].Path)) else some false)).bind (fun (j26 : Bool) => (bif j26 then some (.inl (w64 (s19 + 1))) else some (.inr s19)))) (by
      intro j hj
      by_cases hlt : j < s.length
      · simp only [idx_nat, List.getElem?_eq_getElem hlt]
        rw [show decide ((j : Int) < (s.length : Int)) = true by simpa using hlt]
        simp only [cond_true, Option.bind_some]
        rw [w64_id (by omega) (by omega)]
        cases sLt s[j] r.L[i].Path <;> rfl
      · rw [show decide ((j : Int) < (s.length : Int)) = false by simpa using hlt, List.getElem?_eq_none (by omega)]
        rfl)
    refine RB.bind (R := fun s' => s'.length ≤ i + 1 ∧ s'.Pairwise (fun a b => sLt a b = true) ∧ ∀ k, k ∈ s' ↔ ∃ e ∈ r.L.take (i + 1), e.Path = k) ?_ (fun _ h => RB.ret h)
    rw [hlo]
    simp only [Option.bind_some]
    have hls : s.length = A.length + B.length := by rw [hs]; simp
    have hmem : ∀ k, (∃ e ∈ r.L.take (i + 1), e.Path = k) ↔ k ∈ s ∨ k = r.L[i].Path := by
      intro k
      rw [h3, take_snoc hx]
      constructor
      · rintro ⟨e, he, h4⟩
        rw [List.mem_append, List.mem_singleton] at he
        rcases he with he | rfl
        · exact .inl ⟨e, he, h4⟩
        · exact .inr h4.symm
      · rintro (⟨e, he, h4⟩ | h4)
        · exact ⟨e, List.mem_append_left _ he, h4⟩
        · exact ⟨r.L[i], List.mem_append_right _ (List.mem_singleton.2 rfl), h4.symm⟩
    refine RB.bind (R := fun b => b = decide (∃ B', B = r.L[i].Path :: B')) ?_ ?_
    · cases hBc : B with
      | nil =>
        rw [show decide ((A.length : Int) < (s.length : Int)) = false by rw [hls, hBc]; simp]
        exact RB.ret (by simp)
      | cons b B' =>
        rw [show decide ((A.length : Int) < (s.length : Int)) = true by rw [hls, hBc]; simp; omega]
        simp only [cond_true]
        have e1 : idx s (A.length : Int) = some b := by rw [hs, hBc, idx_nat, List.getElem?_append_right (Nat.le_refl _), Nat.sub_self]; rfl
        rw [e1]
        refine RB.ret ?_
        rw [Bool.eq_iff_iff, decide_eq_true_eq]
        constructor
        · intro h4
          exact ⟨B', by rw [(keq _ _).1 h4]⟩
        · rintro ⟨B2, h4⟩
          injection h4 with h5 _
          exact (keq _ _).2 h5
    rintro b rfl
    by_cases hc : ∃ B', B = r.L[i].Path :: B'
    · rw [decide_eq_true hc]
      refine RB.ret ⟨by omega, h2, fun k => ?_⟩
      rw [hmem]
      constructor
      · exact .inl
      · rintro (h4 | h4)
        · exact h4
        · obtain ⟨B', h5⟩ := hc
          rw [h4, hs, h5]
          simp
    · rw [decide_eq_false hc]
      simp only [cond_false]
      have hil : i < 900 := by omega
      have s1 := sub_at (xs := s) (lo := 0) (hi := (A.length : Int)) (i := 0) (j := A.length) rfl rfl (by omega) (by omega)
      have s2 := sub_at (xs := s) (lo := (A.length : Int)) (hi := (s.length : Int)) (i := A.length) (j := s.length) rfl rfl (by omega) (by omega)
      have t1 : (s.take A.length).drop 0 = A := by rw [hs]; simp
      have t2 : (s.take s.length).drop A.length = B := by rw [List.take_length]; conv => lhs; rw [hs]
                                                          simp
      rw [t1] at s1
      rw [t2] at s2
      rw [s1]
      simp only [Option.bind_some]
      rw [app_le (by simp; omega)]
      simp only [Option.bind_some, List.nil_append]
      rw [app_le (by simp; omega)]
      simp only [Option.bind_some]
      rw [s2]
      simp only [Option.bind_some]
      rw [app_le (by simp; omega)]
      refine RB.ret ⟨by simp; omega, ?_, fun k => ?_⟩
      · rw [List.append_assoc, List.singleton_append]
        rw [hs] at h2
        refine srt_put (fun k => k) h2 hA (fun b B' e => ⟨hB b B' e, fun e2 => hc ⟨B', by rw [e, e2]⟩⟩)
      · rw [hmem, hs]
        simp
        constructor
        · rintro (h4 | h4 | h4)
          · exact .inl (.inl h4)
          · exact .inr h4
          · exact .inl (.inr h4)
        · rintro ((h4 | h4) | h4)
          · exact .inl h4
          · exact .inr (.inr h4)
          · exact .inr (.inl h4)
  · rintro s ⟨_, h2, h3⟩
    rw [List.take_length] at h3
    exact RB.ret ⟨h2, h3⟩
theorem Rel.holds {n N : Nat} {l : mdl_Locks} {r : RK} (hI : Inv N l) (h : Rel n l r) (hn : n ≤ 900) (w : Int) : ∃ hs, registrarref21_Locks_Holds r w = some hs ∧ hs.Pairwise (fun a b => sLt a.Path b.Path = true) ∧ ∀ x : api_Need, x ∈ hs ↔ ∃ e ∈ r.L, e.Who = w ∧ e.Held = true ∧ x = ⟨e.Path, e.Mode⟩ := by
  have hl := h.len
  refine Ret.ex ?_
  unfold registrarref21_Locks_Holds
  refine RB.bind (R := fun s => s.length ≤ r.L.length ∧ s.Pairwise (fun a b => sLt a.Path b.Path = true) ∧ ∀ x : api_Need, x ∈ s ↔ ∃ e ∈ r.L.take r.L.length, e.Who = w ∧ e.Held = true ∧ x = ⟨e.Path, e.Mode⟩) (forE_ret (fun i (s : List api_Need) => s.length ≤ i ∧ s.Pairwise (fun a b => sLt a.Path b.Path = true) ∧ ∀ x : api_Need, x ∈ s ↔ ∃ e ∈ r.L.take i, e.Who = w ∧ e.Held = true ∧ x = ⟨e.Path, e.Mode⟩) ⟨by simp, by simp, by simp⟩ ?_) ?_
  · rintro i s hi ⟨h1, h2, h3⟩
    have hx : r.L[i]? = some r.L[i] := List.getElem?_eq_getElem hi
    simp only [idx_nat, hx, Option.bind_some]
    refine RB.bind (R := fun s' => s'.length ≤ i + 1 ∧ s'.Pairwise (fun a b => sLt a.Path b.Path = true) ∧ ∀ x : api_Need, x ∈ s' ↔ ∃ e ∈ r.L.take (i + 1), e.Who = w ∧ e.Held = true ∧ x = ⟨e.Path, e.Mode⟩) ?_ (fun _ h => RB.ret h)
    cases hc : ((r.L[i].Who != w) || !r.L[i].Held) with
    | true =>
      simp only [cond_true]
      refine RB.ret ⟨by omega, h2, fun x => ?_⟩
      rw [h3, take_snoc hx]
      constructor
      · rintro ⟨e, he, h4⟩
        exact ⟨e, List.mem_append_left _ he, h4⟩
      · rintro ⟨e, he, h4⟩
        rw [List.mem_append, List.mem_singleton] at he
        rcases he with he | rfl
        · exact ⟨e, he, h4⟩
        · rw [h4.1, h4.2.1] at hc
          simp at hc
    | false =>
      simp only [Bool.or_eq_false_iff, bne_eq_false_iff_eq, Bool.not_eq_false'] at hc
      simp only [cond_false]
      -- no other one is at this path
      have hnew : ∀ x ∈ s, x.Path ≠ r.L[i].Path := by
        intro x hxs hp
        obtain ⟨e, he, h4, h5, rfl⟩ := (h3 x).1 hxs
        simp only at hp
        have hsplit : r.L = r.L.take i ++ r.L[i] :: r.L.drop (i + 1) := by rw [← List.drop_eq_getElem_cons hi, List.take_append_drop]
        have hat0 : ∀ p, r.L[i].Path = p → atP r.L p = atP (r.L.take i) p ++ r.L[i] :: atP (r.L.drop (i + 1)) p := by
          intro p hpp
          conv => lhs; rw [hsplit]
          rw [show r.L.take i ++ r.L[i] :: r.L.drop (i + 1) = r.L.take i ++ ([r.L[i]] ++ r.L.drop (i + 1)) from rfl, atP_app, atP_app, atP_yes hpp]
          rfl
        have hat := hat0 _ rfl
        have hnd := (hI.pl r.L[i].Path).nd
        have e1 : (form r.L[i].Path (Pl l r.L[i].Path)).map (·.Who) = ((Pl l r.L[i].Path).held ++ (Pl l r.L[i].Path).queue).map (·.who) := by
          unfold form
          simp [mk1, Function.comp_def]
        rw [← e1, ← h.eq, hat, List.map_append, List.nodup_append] at hnd
        have hea : e ∈ atP (r.L.take i) r.L[i].Path := List.mem_filter.2 ⟨he, by rw [hp]; exact sEq_self _⟩
        exact hnd.2.2 e.Who (List.mem_map.2 ⟨e, hea, rfl⟩) r.L[i].Who (by simp) (h4.trans hc.1.symm)
      obtain ⟨A, B, hs, hA, hB, hlo⟩ := scan (fun k : api_Need => k.Path) s r.L[i].Path (step := fun (s29 : Int) => ((bif (decide (s29 < (s.length : Int))) then (idx s s29).bind (fun (x42 : api_Need) => some (sLt x42.Path r.L[i].Path)) else some false)).bind (fun (j38 : Bool) => (bif j38 then some (.inl (w64 (s29 + 1))) else some (.inr s29)))) (by
        intro j hj
        by_cases hlt : j < s.length
        · simp only [idx_nat, List.getElem?_eq_getElem hlt]
          rw [show decide ((j : Int) < (s.length : Int)) = true by simpa using hlt]
          simp only [cond_true, Option.bind_some]
          rw [w64_id (by omega) (by omega)]
          cases sLt s[j].Path r.L[i].Path <;> rfl
        · rw [show decide ((j : Int) < (s.length : Int)) = false by simpa using hlt, List.getElem?_eq_none (by omega)]
          rfl)
      rw [hlo]
      simp only [Option.bind_some]
      have hls : s.length = A.length + B.length := by rw [hs]; simp
      have s1 := sub_at (xs := s) (lo := 0) (hi := (A.length : Int)) (i := 0) (j := A.length) rfl rfl (by omega) (by omega)
      have s2 := sub_at (xs := s) (lo := (A.length : Int)) (hi := (s.length : Int)) (i := A.length) (j := s.length) rfl rfl (by omega) (by omega)
      have t1 : (s.take A.length).drop 0 = A := by rw [hs]; simp
      have t2 : (s.take s.length).drop A.length = B := by rw [List.take_length]; conv => lhs; rw [hs]
                                                          simp
      rw [t1] at s1
      rw [t2] at s2
      rw [s1]
      simp only [Option.bind_some]
      rw [app_le (by simp; omega)]
      simp only [Option.bind_some, List.nil_append]
      rw [app_le (by simp; omega)]
      simp only [Option.bind_some]
      rw [s2]
      simp only [Option.bind_some]
      rw [app_le (by simp; omega)]
      refine RB.ret ⟨by simp; omega, ?_, fun x => ?_⟩
      · rw [List.append_assoc, List.singleton_append]
        rw [hs] at h2
        refine srt_put (fun k : api_Need => k.Path) h2 hA (fun b B' e => ⟨hB b B' e, hnew b (by rw [hs, e]; simp)⟩)
      · have e1 : x ∈ A ++ [(⟨r.L[i].Path, r.L[i].Mode⟩ : api_Need)] ++ B ↔ x ∈ s ∨ x = ⟨r.L[i].Path, r.L[i].Mode⟩ := by
          rw [hs]
          simp only [List.mem_append, List.mem_singleton]
          constructor
          · rintro ((h4 | h4) | h4)
            · exact .inl (.inl h4)
            · exact .inr h4
            · exact .inl (.inr h4)
          · rintro ((h4 | h4) | h4)
            · exact .inl (.inl h4)
            · exact .inr h4
            · exact .inl (.inr h4)
        rw [e1, h3, take_snoc hx]
        constructor
        · rintro (⟨e, he, h4⟩ | h4)
          · exact ⟨e, List.mem_append_left _ he, h4⟩
          · exact ⟨r.L[i], List.mem_append_right _ (List.mem_singleton.2 rfl), hc.1, hc.2, h4⟩
        · rintro ⟨e, he, h4⟩
          rw [List.mem_append, List.mem_singleton] at he
          rcases he with he | rfl
          · exact .inl ⟨e, he, h4⟩
          · exact .inr h4.2.2
  · rintro s ⟨_, h2, h3⟩
    rw [List.take_length] at h3
    exact RB.ret ⟨h2, h3⟩
theorem Rel.holders {n N : Nat} {l : mdl_Locks} {r : RK} (hI : Inv N l) (h : Rel n l r) (hn : n ≤ 900) (k : ByteArray) : ∃ hs, registrarref21_Locks_Holders r k = some hs ∧ hs.Pairwise (· < ·) ∧ ∀ v, v ∈ hs ↔ v ∈ (Pl l k).held.map (·.who) := by
  have hl := h.len
  refine Ret.ex ?_
  unfold registrarref21_Locks_Holders
  have hcount : ∀ w, (r.L.filter fun e => (e.Who == w) && e.Held && sEq e.Path k).map (fun _ => w) = bif decide (w ∈ (Pl l k).held.map (·.who)) then [w] else [] := by
    intro w
    have e1 : (r.L.filter fun e => (e.Who == w) && e.Held && sEq e.Path k) = ((Pl l k).held.filter fun x => x.who == w).map (mk1 k true) := by
      have e2 : (r.L.filter fun e => (e.Who == w) && e.Held && sEq e.Path k) = (atP r.L k).filter fun e => (e.Who == w) && e.Held := by
        unfold atP
        rw [List.filter_filter]
      rw [e2, h.eq]
      unfold form
      rw [List.filter_append, List.filter_map, List.filter_map]
      have e3 : ((Pl l k).queue.filter ((fun e : RO => (e.Who == w) && e.Held) ∘ mk1 k false)) = [] := List.filter_eq_nil_iff.2 fun x _ => by simp [mk1]
      rw [e3, List.map_nil, List.append_nil]
      congr 1
      exact List.filter_congr fun x _ => by simp [mk1]
    rw [e1, List.map_map]
    have hnd := (hI.pl k).nd
    rw [List.map_append, List.nodup_append] at hnd
    have hnd := hnd.1
    generalize (Pl l k).held = H at hnd
    clear e1
    induction H with
    | nil => rfl
    | cons x H ih =>
      simp only [List.map_cons, List.nodup_cons] at hnd
      rw [List.filter_cons]
      by_cases e : x.who = w
      · have : H.filter (fun x => x.who == w) = [] := List.filter_eq_nil_iff.2 fun y hy he => hnd.1 (List.mem_map.2 ⟨y, hy, by rw [e]; simpa using he⟩)
        rw [this]
        simp [e]
      · rw [if_neg (by simpa using e), ih hnd.2]
        congr 1
        simp [Ne.symm e]
  refine RB.bind (R := fun s => s.Pairwise (· < ·) ∧ ∀ v, v ∈ s ↔ 1 ≤ v ∧ v ≤ 8 ∧ v ∈ (Pl l k).held.map (·.who)) (loopO_rb (fun (s : List Int × Int) => 1 ≤ s.2 ∧ s.2 ≤ 9 ∧ s.1.length ≤ s.2.toNat ∧ s.1.Pairwise (· < ·) ∧ ∀ v, v ∈ s.1 ↔ 1 ≤ v ∧ v < s.2 ∧ v ∈ (Pl l k).held.map (·.who)) (fun s => (9 - s.2).toNat) ?_ ⟨by simp, by simp, by simp, by simp, fun v => by simp; omega⟩) ?_
  · rintro ⟨s, w⟩ ⟨h1, h2, h3, h4, h5⟩
    simp only at h1 h2 h3 h4 h5
    refine RB.cond (fun hc => ?_) (fun hc => ?_)
    · simp only [decide_eq_true_eq] at hc
      refine RB.bind (R := fun s' => s' = s ++ (r.L.filter fun e => (e.Who == w) && e.Held && sEq e.Path k).map (fun _ => w)) ?_ ?_
      · refine (forE_ret (fun i s' => s' = s ++ ((r.L.take i).filter fun e => (e.Who == w) && e.Held && sEq e.Path k).map (fun _ => w)) (by simp) ?_).mono (fun s' hs' => by rw [hs', List.take_length])
        rintro i s' hi rfl
        have hx : r.L[i]? = some r.L[i] := List.getElem?_eq_getElem hi
        simp only [idx_nat, hx, Option.bind_some]
        have hle : ((r.L.take i).filter fun e => (e.Who == w) && e.Held && sEq e.Path k).length ≤ i := by
          refine Nat.le_trans (List.length_filter_le _ _) ?_
          simp
          omega
        rw [take_snoc hx, List.filter_append, List.map_append]
        refine RB.bind (R := fun b => b = ((r.L[i].Who == w) && r.L[i].Held)) ?_ ?_
        · cases r.L[i].Who == w <;> exact RB.ret (by simp)
        rintro b rfl
        refine RB.bind (R := fun b => b = ((r.L[i].Who == w) && r.L[i].Held && sEq r.L[i].Path k)) ?_ ?_
        · cases (r.L[i].Who == w) && r.L[i].Held <;> exact RB.ret (by simp)
        rintro b rfl
        cases hb : ((r.L[i].Who == w) && r.L[i].Held && sEq r.L[i].Path k) with
        | true =>
          simp only [cond_true]
          rw [app_le (by simp; omega)]
          exact RB.ret (by simp [List.filter_cons, hb])
        | false => exact RB.ret (by simp [List.filter_cons, hb])
      rintro s' rfl
      rw [hcount, w64_id (by omega) (by omega)]
      refine RB.ret ⟨⟨by simp only; omega, by simp only; omega, ?_, ?_, ?_⟩, by simp only; omega⟩
      · simp only [List.length_append]
        have : (bif decide (w ∈ (Pl l k).held.map (·.who)) then [w] else []).length ≤ 1 := by cases decide (w ∈ (Pl l k).held.map (·.who)) <;> simp
        omega
      · simp only
        rw [List.pairwise_append]
        refine ⟨h4, by cases decide (w ∈ (Pl l k).held.map (·.who)) <;> simp, fun a ha b hb => ?_⟩
        have := ((h5 a).1 ha).2.1
        cases hd : decide (w ∈ (Pl l k).held.map (·.who)) with
        | true => rw [hd] at hb; simp at hb; omega
        | false => rw [hd] at hb; simp at hb
      · intro v
        simp only [List.mem_append]
        rw [h5]
        by_cases hd : w ∈ (Pl l k).held.map (·.who)
        · rw [decide_eq_true hd]
          simp only [cond_true, List.mem_singleton]
          constructor
          · rintro (⟨g1, g2, g3⟩ | rfl)
            · exact ⟨g1, by omega, g3⟩
            · exact ⟨h1, by omega, hd⟩
          · rintro ⟨g1, g2, g3⟩
            by_cases e : v = w
            · exact .inr e
            · exact .inl ⟨g1, by omega, g3⟩
        · rw [decide_eq_false hd]
          simp only [cond_false, List.not_mem_nil, or_false]
          constructor
          · rintro ⟨g1, g2, g3⟩
            exact ⟨g1, by omega, g3⟩
          · rintro ⟨g1, g2, g3⟩
            by_cases e : v = w
            · exact absurd (e ▸ g3) hd
            · exact ⟨g1, by omega, g3⟩
    · simp only [decide_eq_false_iff_not] at hc
      refine RB.ret ⟨h4, fun v => ?_⟩
      rw [h5]
      constructor
      · rintro ⟨g1, g2, g3⟩
        exact ⟨g1, by omega, g3⟩
      · rintro ⟨g1, g2, g3⟩
        exact ⟨g1, by omega, g3⟩
  · rintro s ⟨h1, h2⟩
    refine RB.ret ⟨h1, fun v => ?_⟩
    rw [h2]
    constructor
    · exact fun hx => hx.2.2
    · intro hx
      obtain ⟨x, hx1, hx2⟩ := List.mem_map.1 hx
      have := (hI.pl k).wh x (List.mem_append_left _ hx1)
      rw [hx2] at this
      exact ⟨this.1, this.2.1, hx⟩
end Go.Proofs.Ytdmefifamlpbiaa
