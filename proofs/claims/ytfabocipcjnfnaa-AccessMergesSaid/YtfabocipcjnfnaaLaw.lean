/- What needs come to: the plain laws of layer 20's two statements. Conditions: none. -/
import Derived.Test.YtfabocipcjnfnaaSort
namespace Go.Proofs.Ytfabocipcjnfnaa
open Go.Gv
def md (m : Int) : Int := if m < 1 ∨ 4 < m then 4 else m
def bo (a b : Int) : Int := if a = b then a else if a = 1 then b else if b = 1 then a else 4
theorem md_ok (m : Int) : 1 ≤ md m ∧ md m ≤ 4 := by unfold md; split <;> omega
theorem md_id {m : Int} (h1 : 1 ≤ m) (h2 : m ≤ 4) : md m = m := by unfold md; split <;> omega
theorem bo_ok {a b : Int} (ha : 1 ≤ a ∧ a ≤ 4) (hb : 1 ≤ b ∧ b ≤ 4) : 1 ≤ bo a b ∧ bo a b ≤ 4 := by unfold bo; split <;> (try split) <;> (try split) <;> omega
theorem bo_self (a : Int) : bo a a = a := by simp [bo]
theorem bo_assoc (a b c : Int) : bo (bo a b) c = bo a (bo b c) := by
  unfold bo
  by_cases h1 : a = b <;> by_cases h2 : b = c <;> by_cases h3 : a = 1 <;> by_cases h4 : b = 1 <;> by_cases h5 : c = 1 <;> by_cases h6 : a = c <;> by_cases h7 : b = 4 <;> by_cases h8 : a = 4 <;> by_cases h9 : c = 4 <;> simp_all <;> omega
theorem bo_comm (a b : Int) : bo a b = bo b a := by
  unfold bo
  by_cases h1 : a = b <;> by_cases h3 : a = 1 <;> by_cases h4 : b = 1 <;> simp_all <;> omega
theorem bo_absorb {k h n : Int} (h1 : bo k h = k) (h2 : bo h n = h) : bo k n = k := by
  have := bo_assoc k h n
  rw [h1, h2, h1] at this
  exact this
theorem mode_eq (m : Int) : access_mode m = some (md m) := by
  unfold access_mode md
  by_cases h1 : m < 1 <;> by_cases h2 : 4 < m <;> simp [h1, h2]
theorem both_eq (a b : Int) : access_both a b = some (bo a b) := by
  unfold access_both bo
  simp only [Bool.cond_eq_ite, beq_iff_eq]
  split <;> (try split) <;> (try split) <;> rfl
theorem refBoth_eq (a b : Int) : registrarref20_Both a b = some (bo (md a) (md b)) := by
  unfold registrarref20_Both
  have e : ∀ m : Int, (bif ((decide (m < 1)) || (decide (m > 4))) then some 4 else some m) = some (md m) := fun m => mode_eq m
  rw [e, e]
  simp only [Option.bind_some]
  generalize md a = x
  generalize md b = y
  unfold bo
  simp only [Bool.cond_eq_ite, beq_iff_eq, Bool.or_eq_true]
  by_cases h1 : x = y <;> by_cases h3 : x = 1 <;> by_cases h4 : y = 1 <;> simp [h1, h3, h4]
  all_goals (have h5 : ¬ (1 : Int) = y := fun e => h4 e.symm; simp [h5])

/-! ### What needs of one path come to -/
def add (p : ByteArray) (acc : Option Int) (n : N) : Option Int := if n.Path = p then some (match acc with | none => md n.Mode | some v => bo v (md n.Mode)) else acc
def val (l : List N) (p : ByteArray) : Option Int := l.foldl (add p) none
theorem add_comm (p : ByteArray) (acc : Option Int) (x y : N) : add p (add p acc x) y = add p (add p acc y) x := by
  unfold add
  by_cases hx : x.Path = p <;> by_cases hy : y.Path = p <;> simp only [hx, hy, if_true, if_false]
  cases acc with
  | none => simp only; rw [bo_comm]
  | some v => simp only; rw [bo_assoc, bo_assoc, bo_comm (md x.Mode)]
theorem val_perm {l m : List N} (h : l.Perm m) (p : ByteArray) : val l p = val m p := by
  unfold val
  exact h.foldl_eq' (fun x _ y _ z => add_comm p z x y) none
theorem val_snoc (l : List N) (n : N) (p : ByteArray) : val (l ++ [n]) p = add p (val l p) n := by
  unfold val
  rw [List.foldl_append]
  rfl
theorem fold_ok (p : ByteArray) : ∀ (l : List N) (acc : Option Int), (∀ v, acc = some v → 1 ≤ v ∧ v ≤ 4) → ∀ v, l.foldl (add p) acc = some v → 1 ≤ v ∧ v ≤ 4
  | [], acc, h, v, hv => h v hv
  | n :: r, acc, h, v, hv => by
    refine fold_ok p r (add p acc n) (fun u hu => ?_) v hv
    unfold add at hu
    split at hu
    · injection hu with hu
      subst hu
      cases acc with
      | none => exact md_ok _
      | some w => exact bo_ok (h w rfl) (md_ok _)
    · exact h u hu
theorem val_ok {l : List N} {p : ByteArray} {v : Int} (h : val l p = some v) : 1 ≤ v ∧ v ≤ 4 := fold_ok p l none (fun v h => by cases h) v h
theorem fold_some (p : ByteArray) : ∀ (l : List N) (v : Int), ∃ u, l.foldl (add p) (some v) = some u ∧ bo u v = u ∧ ∀ n ∈ l, n.Path = p → bo u (md n.Mode) = u
  | [], v => ⟨v, rfl, bo_self v, fun n h => by cases h⟩
  | n :: r, v => by
    by_cases hn : n.Path = p
    · obtain ⟨u, h1, h2, h3⟩ := fold_some p r (bo v (md n.Mode))
      have e : add p (some v) n = some (bo v (md n.Mode)) := by simp [add, hn]
      refine ⟨u, by rw [List.foldl_cons, e]; exact h1, ?_, ?_⟩
      · refine bo_absorb h2 ?_
        rw [bo_comm v, bo_assoc, bo_self]
      · intro k hk hp
        rcases List.mem_cons.1 hk with rfl | hk
        · refine bo_absorb h2 ?_
          rw [bo_assoc, bo_self]
        · exact h3 k hk hp
    · obtain ⟨u, h1, h2, h3⟩ := fold_some p r v
      have e : add p (some v) n = some v := by simp [add, hn]
      refine ⟨u, by rw [List.foldl_cons, e]; exact h1, h2, fun k hk hp => ?_⟩
      rcases List.mem_cons.1 hk with rfl | hk
      · exact absurd hp hn
      · exact h3 k hk hp
theorem val_mem {l : List N} {n : N} (h : n ∈ l) : ∃ u, val l n.Path = some u ∧ bo u (md n.Mode) = u := by
  obtain ⟨a, b, rfl⟩ := List.append_of_mem h
  have : (a ++ n :: b).Perm (n :: (a ++ b)) := List.perm_middle
  rw [val_perm this]
  obtain ⟨u, h1, h2, _⟩ := fold_some n.Path (a ++ b) (md n.Mode)
  exact ⟨u, by simpa [val, add] using h1, h2⟩
theorem val_none {l : List N} {p : ByteArray} (h : ∀ n ∈ l, n.Path ≠ p) : val l p = none := by
  unfold val
  have : ∀ (l : List N) (acc : Option Int), (∀ n ∈ l, n.Path ≠ p) → l.foldl (add p) acc = acc := by
    intro l
    induction l with
    | nil => intro acc _; rfl
    | cons n r ih =>
      intro acc h
      rw [List.foldl_cons, show add p acc n = acc by simp [add, h n (by simp)]]
      exact ih acc (fun m hm => h m (by simp [hm]))
  exact this l none h
/-- Needs by their paths, each once, with what it comes to. -/
structure Can (l out : List N) : Prop where
  srt : out.Pairwise (fun x y => sLt x.Path y.Path = true)
  mem : ∀ n, n ∈ out ↔ val l n.Path = some n.Mode
theorem strict_eq : ∀ (a b : List N), a.Pairwise (fun x y => sLt x.Path y.Path = true) → b.Pairwise (fun x y => sLt x.Path y.Path = true) → (∀ n, n ∈ a ↔ n ∈ b) → a = b
  | [], [], _, _, _ => rfl
  | [], y :: b, _, _, h => by have := (h y).2 (by simp); cases this
  | x :: a, [], _, _, h => by have := (h x).1 (by simp); cases this
  | x :: a, y :: b, ha, hb, h => by
    have ha' := List.pairwise_cons.1 ha
    have hb' := List.pairwise_cons.1 hb
    have e : x = y := by
      rcases List.mem_cons.1 ((h x).1 (by simp)) with e | h1
      · exact e
      · rcases List.mem_cons.1 ((h y).2 (by simp)) with e | h2
        · exact e.symm
        · have q1 := hb'.1 x h1
          have q2 := ha'.1 y h2
          have := sLt_asymm q1
          rw [q2] at this
          cases this
    subst e
    rw [strict_eq a b ha'.2 hb'.2 (fun n => ?_)]
    constructor
    · intro hn
      rcases List.mem_cons.1 ((h n).1 (by simp [hn])) with rfl | h1
      · have := ha'.1 n hn
        rw [sLt_irrefl] at this
        cases this
      · exact h1
    · intro hn
      rcases List.mem_cons.1 ((h n).2 (by simp [hn])) with rfl | h1
      · have := hb'.1 n hn
        rw [sLt_irrefl] at this
        cases this
      · exact h1
theorem Can.eq {l a b : List N} (ha : Can l a) (hb : Can l b) : a = b := strict_eq a b ha.srt hb.srt (fun n => (ha.mem n).trans (hb.mem n).symm)
theorem Can.perm {l m a : List N} (h : Can l a) (hp : l.Perm m) : Can m a := ⟨h.srt, fun n => by rw [h.mem, val_perm hp]⟩
theorem Can.put {l A B : List N} {x : N} (h : Can l (A ++ B)) (h1 : ∀ n ∈ A, sLt n.Path x.Path = true) (h2 : ∀ n ∈ B, sLt x.Path n.Path = true) : Can (l ++ [x]) (A ++ (⟨x.Path, md x.Mode⟩ : N) :: B) := by
  have hs := h.srt
  rw [List.pairwise_append] at hs
  have hno : val l x.Path = none := by
    cases hv : val l x.Path with
    | none => rfl
    | some v =>
      have := (h.mem ⟨x.Path, v⟩).2 hv
      rcases List.mem_append.1 this with q | q
      · have := h1 _ q
        simp only at this
        rw [sLt_irrefl] at this
        cases this
      · have := h2 _ q
        simp only at this
        rw [sLt_irrefl] at this
        cases this
  refine ⟨?_, fun n => ?_⟩
  · rw [List.pairwise_append]
    refine ⟨hs.1, List.pairwise_cons.2 ⟨fun y hy => h2 y hy, hs.2.1⟩, fun a ha y hy => ?_⟩
    rcases List.mem_cons.1 hy with rfl | hy
    · exact h1 a ha
    · exact hs.2.2 a ha y hy
  · rw [val_snoc]
    unfold add
    by_cases hp : x.Path = n.Path
    · rw [if_pos hp, ← hp, hno]
      simp only [Option.some.injEq]
      constructor
      · intro hm
        simp only [List.mem_append, List.mem_cons] at hm
        rcases hm with hm | rfl | hm
        · have := h1 n hm
          rw [hp, sLt_irrefl] at this
          cases this
        · rfl
        · have := h2 n hm
          rw [hp, sLt_irrefl] at this
          cases this
      · intro hm
        have : n = ⟨x.Path, md x.Mode⟩ := by cases n; simp_all
        rw [this]
        simp
    · rw [if_neg hp, ← h.mem]
      simp only [List.mem_append, List.mem_cons]
      constructor
      · rintro (hm | rfl | hm)
        · exact .inl hm
        · exact absurd rfl hp
        · exact .inr hm
      · rintro (hm | hm)
        · exact .inl hm
        · exact .inr (.inr hm)
theorem Can.upd {l A B : List N} {x h0 : N} (h : Can l (A ++ h0 :: B)) (hp0 : h0.Path = x.Path) : Can (l ++ [x]) (A ++ (⟨h0.Path, bo h0.Mode (md x.Mode)⟩ : N) :: B) := by
  have hs := h.srt
  rw [List.pairwise_append, List.pairwise_cons] at hs
  have hv : val l x.Path = some h0.Mode := by rw [← hp0]; exact (h.mem h0).1 (by simp)
  refine ⟨?_, fun n => ?_⟩
  · rw [List.pairwise_append, List.pairwise_cons]
    refine ⟨hs.1, ⟨fun y hy => hs.2.1.1 y hy, hs.2.1.2⟩, fun a ha y hy => ?_⟩
    rcases List.mem_cons.1 hy with rfl | hy
    · exact hs.2.2 a ha h0 (by simp)
    · exact hs.2.2 a ha y (by simp [hy])
  · rw [val_snoc]
    unfold add
    by_cases hp : x.Path = n.Path
    · rw [if_pos hp, ← hp, hv]
      simp only [Option.some.injEq]
      constructor
      · intro hm
        simp only [List.mem_append, List.mem_cons] at hm
        rcases hm with hm | rfl | hm
        · have := hs.2.2 n hm h0 (by simp)
          rw [hp0, hp, sLt_irrefl] at this
          cases this
        · rfl
        · have := hs.2.1.1 n hm
          rw [hp0, hp, sLt_irrefl] at this
          cases this
      · intro hm
        have : n = ⟨h0.Path, bo h0.Mode (md x.Mode)⟩ := by cases n; simp_all
        rw [this]
        simp
    · rw [if_neg hp, ← h.mem]
      simp only [List.mem_append, List.mem_cons]
      constructor
      · rintro (hm | rfl | hm)
        · exact .inl hm
        · exact absurd hp0.symm hp
        · exact .inr (.inr hm)
      · rintro (hm | rfl | hm)
        · exact .inl hm
        · exact absurd hp0.symm hp
        · exact .inr (.inr hm)
theorem Can.nil : Can [] [] := ⟨List.Pairwise.nil, fun n => by simp [val]⟩
theorem Can.self {l a : List N} (h : Can l a) : Can a a := by
  refine ⟨h.srt, fun n => ?_⟩
  constructor
  · intro hn
    obtain ⟨A, B, rfl⟩ := List.append_of_mem hn
    have hv := val_ok ((h.mem n).1 hn)
    have hs := h.srt
    rw [List.pairwise_append, List.pairwise_cons] at hs
    have : (A ++ n :: B).Perm ((A ++ B) ++ [n]) := List.perm_middle.trans (List.perm_append_singleton n (A ++ B)).symm
    rw [val_perm this, val_snoc, val_none (l := A ++ B) (p := n.Path)]
    · simp [add, md_id hv.1 hv.2]
    · intro m hm e
      rcases List.mem_append.1 hm with q | q
      · have := hs.2.2 m q n (by simp)
        rw [e, sLt_irrefl] at this
        cases this
      · have := hs.2.1.1 m q
        rw [e, sLt_irrefl] at this
        cases this
  · intro hn
    have hex : ∃ m ∈ a, m.Path = n.Path := by
      by_cases hq : ∃ m ∈ a, m.Path = n.Path
      · exact hq
      · rw [val_none (fun m hm e => hq ⟨m, hm, e⟩)] at hn
        cases hn
    obtain ⟨m, hm, e⟩ := hex
    have hv := val_ok ((h.mem m).1 hm)
    obtain ⟨A, B, rfl⟩ := List.append_of_mem hm
    have hs := h.srt
    rw [List.pairwise_append, List.pairwise_cons] at hs
    have : (A ++ m :: B).Perm ((A ++ B) ++ [m]) := List.perm_middle.trans (List.perm_append_singleton m (A ++ B)).symm
    rw [val_perm this, val_snoc, val_none (l := A ++ B) (p := n.Path)] at hn
    · simp [add, e, md_id hv.1 hv.2] at hn
      have : n = m := by cases n; cases m; simp_all
      rw [this]
      simp
    · intro k hk e2
      rcases List.mem_append.1 hk with q | q
      · have := hs.2.2 k q m (by simp)
        rw [e2, e, sLt_irrefl] at this
        cases this
      · have := hs.2.1.1 k q
        rw [e2, e, sLt_irrefl] at this
        cases this

/-! ### The functions -/
def cov (have_ need : List N) : Bool := need.all fun n => have_.any fun h => sEq h.Path n.Path && (bo (md h.Mode) (md n.Mode) == md h.Mode)
theorem few_eq (l : List N) : registrarlaw20_few l = some (decide (l.length ≤ 60) && l.all (fun n => decide (n.Path.size ≤ 100))) := by
  unfold registrarlaw20_few
  by_cases h : l.length ≤ 60
  · rw [show decide ((l.length : Int) > 60) = false from decide_eq_false (by omega)]
    rw [forN_list (v := false) (fun (n : N) => decide (n.Path.size ≤ 100)) (fun j x hx => ?_)]
    · cases hq : l.all (fun n => decide (n.Path.size ≤ 100)) <;> simp [h]
    · rw [idx_at rfl hx]
      simp only [Option.bind_some]
      by_cases hs : x.Path.size ≤ 100
      · rw [show decide ((x.Path.size : Int) > 100) = false from decide_eq_false (by omega), show decide (x.Path.size ≤ 100) = true from decide_eq_true hs]
        rfl
      · rw [show decide ((x.Path.size : Int) > 100) = true from decide_eq_true (by omega), show decide (x.Path.size ≤ 100) = false from decide_eq_false hs]
        rfl
  · rw [show decide ((l.length : Int) > 60) = true from decide_eq_true (by omega), show decide (l.length ≤ 60) = false from decide_eq_false h]
    rfl
def eqN (x y : N) : Bool := sEq x.Path y.Path && (x.Mode == y.Mode)
theorem eqN_iff {x y : N} : eqN x y = true ↔ x = y := by
  obtain ⟨p, m⟩ := x
  obtain ⟨q, k⟩ := y
  simp [eqN, sEq_iff]
def sm (a b : List N) : Bool := decide (a.length = b.length) && (List.range' 0 a.length).all (fun j => match a[j]?, b[j]? with | some x, some y => eqN x y | _, _ => false)
theorem sm_iff {a b : List N} : sm a b = true ↔ a = b := by
  unfold sm
  simp only [Bool.and_eq_true, decide_eq_true_eq, List.all_eq_true, List.mem_range']
  constructor
  · rintro ⟨h, hq⟩
    apply List.ext_getElem?
    intro i
    by_cases hi : i < a.length
    · have := hq i ⟨i, hi, by omega⟩
      rw [List.getElem?_eq_getElem hi, List.getElem?_eq_getElem (by omega)] at this ⊢
      rw [eqN_iff.1 this]
    · rw [List.getElem?_eq_none (by omega), List.getElem?_eq_none (by omega)]
  · rintro rfl
    refine ⟨rfl, ?_⟩
    rintro j ⟨i, hi, rfl⟩
    rw [List.getElem?_eq_getElem (show 0 + 1 * i < a.length by omega)]
    exact eqN_iff.2 rfl
theorem same_eq (a b : List N) : registrarref20_Same a b = some (sm a b) := by
  unfold registrarref20_Same sm
  by_cases h : a.length = b.length
  · rw [show ((a.length : Int) != (b.length : Int)) = false by rw [h]; simp]
    rw [forN_all (v := false) (fun j => match a[j]?, b[j]? with | some x, some y => eqN x y | _, _ => false) a.length 0 (fun j _ hj => ?_)]
    · rw [show decide (a.length = b.length) = true from decide_eq_true h, Bool.true_and]
      generalize (List.range' 0 a.length).all (fun j => match a[j]?, b[j]? with | some x, some y => eqN x y | _, _ => false) = q
      cases q <;> rfl
    · have h1 : j < a.length := by omega
      have h2 : j < b.length := by omega
      rw [idx_mem h1]
      simp only [Option.bind_some]
      rw [idx_mem h2]
      simp only [Option.bind_some]
      rw [List.getElem?_eq_getElem h1, List.getElem?_eq_getElem h2]
      show (bif !(eqN a[j] b[j]) then _ else _) = some (bif eqN a[j] b[j] then _ else _)
      cases eqN a[j] b[j] <;> rfl
  · rw [show ((a.length : Int) != (b.length : Int)) = true by simp; omega]
    rw [show decide (a.length = b.length) = false from decide_eq_false h]
    rfl
theorem indexFunc_eq (l : List N) (p : N → Option Bool) (q : N → Bool) (hq : ∀ n, p n = some (q n)) : slices_IndexFunc_api_Need l p = some (match l.findIdx? q with | some j => (j : Int) | none => -1) := by
  unfold slices_IndexFunc_api_Need
  rw [forN_find q (fun j => (j : Int)) (fun j x hx => ?_)]
  · cases l.findIdx? q <;> rfl
  · rw [idx_at rfl hx]
    simp only [Option.bind_some, hq]
    cases q x <;> rfl
theorem contains_eq (l : List N) (p : N → Option Bool) (q : N → Bool) (hq : ∀ n, p n = some (q n)) : slices_ContainsFunc_api_Need l p = some (l.any q) := by
  unfold slices_ContainsFunc_api_Need
  rw [indexFunc_eq l p q hq]
  simp only [Option.bind_some]
  cases h : l.findIdx? q with
  | none =>
    rw [List.findIdx?_eq_none_iff] at h
    have : l.any q = false := by
      rw [List.any_eq_false]
      intro x hx
      rw [h x hx]
      simp
    rw [this]
    rfl
  | some j =>
    have := List.findIdx?_eq_some_iff_getElem.1 h
    obtain ⟨h1, h2, _⟩ := this
    have e : l.any q = true := List.any_eq_true.2 ⟨l[j], List.getElem_mem h1, h2⟩
    rw [e]
    simp
theorem covers_eq (a b : List N) : access_Covers a b = some (cov a b) := by
  unfold access_Covers
  have h2 : ∀ (n h : N), access_Covers_1_1 h n = some (sEq h.Path n.Path && (bo (md h.Mode) (md n.Mode) == md h.Mode)) := by
    intro n h
    unfold access_Covers_1_1
    cases hs : sEq h.Path n.Path with
    | true => simp [mode_eq, both_eq]
    | false => rfl
  have h1 : ∀ n : N, access_Covers_1 n a = some (!(a.any fun h => sEq h.Path n.Path && (bo (md h.Mode) (md n.Mode) == md h.Mode))) := by
    intro n
    unfold access_Covers_1
    rw [contains_eq a _ _ (fun h => h2 n h)]
    rfl
  rw [contains_eq b _ _ h1]
  simp only [Option.bind_some, cov, Option.some.injEq]
  rw [List.not_any_eq_all_not]
  simp
theorem refCovers_eq (a b : List N) : registrarref20_Covers a b = some (cov a b) := by
  unfold registrarref20_Covers
  rw [forN_list (v := false) (fun (n : N) => a.any fun h => sEq h.Path n.Path && (bo (md h.Mode) (md n.Mode) == md h.Mode)) (fun j n hn => ?_)]
  · unfold cov
    cases b.all fun n => a.any fun h => sEq h.Path n.Path && (bo (md h.Mode) (md n.Mode) == md h.Mode) <;> rfl
  · rw [forE_list (fun (s : Bool) (h : N) => s || (sEq h.Path n.Path && (bo (md h.Mode) (md n.Mode) == md h.Mode))) (fun i h s hh => ?_)]
    · simp only [Option.bind_some]
      have e : ∀ (l : List N) (s : Bool), l.foldl (fun (s : Bool) (h : N) => s || (sEq h.Path n.Path && (bo (md h.Mode) (md n.Mode) == md h.Mode))) s = (s || l.any fun h => sEq h.Path n.Path && (bo (md h.Mode) (md n.Mode) == md h.Mode)) := by
        intro l
        induction l with
        | nil => intro s; simp
        | cons x r ih => intro s; rw [List.foldl_cons, ih, List.any_cons, Bool.or_assoc]
      rw [e, Bool.false_or]
      cases a.any fun h => sEq h.Path n.Path && (bo (md h.Mode) (md n.Mode) == md h.Mode) <;> rfl
    · rw [idx_at rfl hh, idx_at rfl hn]
      simp only [Option.bind_some, refBoth_eq]
      cases s with
      | true => rfl
      | false =>
        cases hs : sEq h.Path n.Path with
        | true => simp [bo_self]
        | false => rfl

theorem pathLess : Less (fun (u0 : N) (u1 : N) => access_Merge_1 u0 u1) (fun x y => sLt x.Path y.Path) := by
  intro x y
  refine ⟨cmpS x.Path y.Path, rfl, cmpS_lt _ _⟩
theorem pathOrd : Ord (fun x y => sLt x.Path y.Path) := by
  refine ⟨fun h => sLt_asymm h, fun {x y z} h1 h2 => ?_⟩
  rcases sLt_total z.Path x.Path with h | h | h
  · rcases sLt_total y.Path z.Path with k | k | k
    · have := sLt_trans k h
      rw [h1] at this; cases this
    · rw [k, h] at h1; cases h1
    · rw [h2] at k; cases k
  · rw [h]
    exact sLt_irrefl _
  · exact sLt_asymm h
theorem merge_ret (l : List N) (hl : l.length ≤ 100000) : Ret (access_Merge l) (Can l) := by
  unfold access_Merge slices_Clone_api_Need
  refine RB.bindE (x := l) (by rw [app_le (by simp; omega)]; rfl) ?_
  refine RB.bind (stable_ret pathOrd pathLess l (by unfold room; omega)) ?_
  rintro r ⟨hp, hs⟩
  have hlr := hp.length_eq
  refine RB.bind (forE_ret (I := fun j (s : List N) => Can (r.take j) s ∧ s.length ≤ j ∧ ∀ n ∈ s, ∃ m ∈ r.take j, m.Path = n.Path) ⟨by simpa using Can.nil, by simp, by simp⟩ ?_) ?_
  · rintro j s hj ⟨h1, h2, h3⟩
    refine RB.bindE (idx_mem hj) ?_
    have hx := List.getElem?_eq_getElem hj
    have ht : r.take (j + 1) = r.take j ++ [r[j]] := (List.take_append_getElem hj).symm
    have hle : ∀ n ∈ s, sLt r[j].Path n.Path = false := by
      intro n hn
      obtain ⟨m, hm, e⟩ := h3 n hn
      rw [← e]
      have hr : r = r.take j ++ r[j] :: r.drop (j + 1) := by rw [List.getElem_cons_drop, List.take_append_drop]
      have hs' : Srt (fun x y => sLt x.Path y.Path) (r.take j ++ r[j] :: r.drop (j + 1)) := by rw [← hr]; exact hs
      rw [Srt, List.pairwise_append] at hs'
      exact hs'.2.2 m hm r[j] List.mem_cons_self
    generalize r[j] = x at *
    rw [ht]
    rw [mode_eq]
    simp only [Option.bind_some]
    have hfin : ∀ s' : List N, Can (r.take j ++ [x]) s' → s'.length ≤ j + 1 → Can (r.take j ++ [x]) s' ∧ s'.length ≤ j + 1 ∧ ∀ n ∈ s', ∃ m ∈ r.take j ++ [x], m.Path = n.Path := by
      intro s' hc hle'
      refine ⟨hc, hle', fun n hn => ?_⟩
      have hv := (hc.mem n).1 hn
      by_cases hq : ∃ m ∈ r.take j ++ [x], m.Path = n.Path
      · exact hq
      · rw [val_none (fun m hm e => hq ⟨m, hm, e⟩)] at hv
        cases hv
    rcases List.eq_nil_or_concat s with rfl | ⟨L, z, rfl⟩
    · have e0 : decide (w64 (((([] : List N).length : Nat) : Int) - 1) ≥ 0) = false := by
        rw [w64_id] <;> simp
      rw [e0]
      simp only [cond_false, Option.bind_some]
      have := hfin [(⟨x.Path, md x.Mode⟩ : N)] (by simpa using h1.put (A := []) (B := []) (x := x) (by simp) (by simp)) (by simp)
      refine RB.bindE (x := [(⟨x.Path, md x.Mode⟩ : N)]) (by rw [app_le (by simp)]; rfl) (RB.ret this)
    · rw [List.concat_eq_append] at *
      have el : w64 ((((L ++ [z]).length : Nat) : Int) - 1) = (L.length : Int) := by
        simp only [List.length_append, List.length_cons, List.length_nil] at *
        rw [w64_id] <;> omega
      rw [el]
      rw [show decide ((L.length : Int) ≥ 0) = true from decide_eq_true (by omega)]
      have ei : idx (L ++ [z]) (L.length : Int) = some z := idx_mid rfl
      rw [ei]
      simp only [cond_true, Option.bind_some]
      cases hq : sEq z.Path x.Path with
      | true =>
        simp only [cond_true]
        rw [both_eq]
        simp only [Option.bind_some]
        have := hfin (L ++ (⟨z.Path, bo z.Mode (md x.Mode)⟩ : N) :: []) (h1.upd (sEq_iff.1 hq)) (by simp only [List.length_append, List.length_cons, List.length_nil] at *; omega)
        refine RB.ret ?_
        rw [show (L ++ [z]).set ((L.length : Int)).toNat (⟨z.Path, bo z.Mode (md x.Mode)⟩ : N) = L ++ (⟨z.Path, bo z.Mode (md x.Mode)⟩ : N) :: [] from set_mid rfl]
        exact this
      | false =>
        simp only [cond_false]
        have hne := sEq_false.1 hq
        have hz : sLt z.Path x.Path = true := by
          rcases sLt_total z.Path x.Path with h | h | h
          · exact h
          · exact absurd h hne
          · rw [hle z (by simp)] at h; cases h
        have hall : ∀ n ∈ L ++ [z], sLt n.Path x.Path = true := by
          intro n hn
          rcases List.mem_append.1 hn with h | h
          · have := h1.srt
            rw [List.pairwise_append] at this
            exact sLt_trans (this.2.2 n h z (by simp)) hz
          · rw [List.mem_singleton] at h
            subst h
            exact hz
        have h1' : Can (r.take j) ((L ++ [z]) ++ []) := by simpa using h1
        have := hfin ((L ++ [z]) ++ (⟨x.Path, md x.Mode⟩ : N) :: []) (h1'.put hall (by simp)) (by simp only [List.length_append, List.length_cons, List.length_nil] at *; omega)
        refine RB.bindE (x := (L ++ [z]) ++ [(⟨x.Path, md x.Mode⟩ : N)]) ?_ (RB.ret this)
        rw [app_le (by simp only [List.length_append, List.length_cons, List.length_nil] at *; omega)]
        rfl
  · rintro s ⟨h1, _, _⟩
    refine RB.ret ?_
    rw [List.take_length] at h1
    exact h1.perm hp

theorem refMerge_ret (l : List N) (hl : l.length ≤ 100000) : Ret (registrarref20_Merge l) (Can l) := by
  unfold registrarref20_Merge
  refine RB.bind (forE_ret (I := fun j (s : List N) => Can (l.take j) s ∧ s.length ≤ j) ⟨by simpa using Can.nil, by simp⟩ ?_) ?_
  · rintro j s hj ⟨h1, h2⟩
    have ht : l.take (j + 1) = l.take j ++ [l[j]] := (List.take_append_getElem hj).symm
    have hx := idx_mem hj
    generalize l[j] = x at *
    rw [ht]
    simp only [hx, Option.bind_some]
    refine RB.bind (R := fun s' => Can (l.take j ++ [x]) s' ∧ s'.length ≤ j + 1) ?_ (fun s' hs' => RB.ret hs')
    refine RB.bind (loopO_rb (Q := fun (i : Int) => ∃ A B, s = A ++ B ∧ i = (A.length : Int) ∧ (∀ n ∈ A, sLt n.Path x.Path = true) ∧ (∀ n ∈ B.head?, sLt n.Path x.Path = false))
      (I := fun (i : Int) => ∃ A B, s = A ++ B ∧ i = (A.length : Int) ∧ (∀ n ∈ A, sLt n.Path x.Path = true)) (μ := fun i => s.length - i.toNat) (s := (0 : Int)) ?_ ⟨[], s, rfl, rfl, by simp⟩) ?_
    · rintro i ⟨A, B, rfl, rfl, hA⟩
      cases B with
      | nil =>
        rw [show decide ((A.length : Int) < ((A ++ ([] : List N)).length : Int)) = false from decide_eq_false (by simp)]
        exact RB.ret ⟨A, [], rfl, rfl, hA, by simp⟩
      | cons y B =>
        rw [show decide ((A.length : Int) < ((A ++ y :: B).length : Int)) = true from decide_eq_true (by simp; omega)]
        rw [show idx (A ++ y :: B) (A.length : Int) = some y from idx_mid rfl]
        simp only [cond_true, Option.bind_some]
        cases hq : sLt y.Path x.Path with
        | true =>
          refine RB.ret ⟨⟨A ++ [y], B, by simp, ?_, ?_⟩, ?_⟩
          · simp only [List.length_append, List.length_cons, List.length_nil] at *
            rw [w64_id] <;> omega
          · intro n hn
            rcases List.mem_append.1 hn with h | h
            · exact hA n h
            · rw [List.mem_singleton] at h
              subst h
              exact hq
          · simp only [List.length_append, List.length_cons] at *
            rw [w64_id] <;> omega
        | false => exact RB.ret ⟨A, y :: B, rfl, rfl, hA, by simpa using hq⟩
    · rintro i ⟨A, B, rfl, rfl, hA, hB⟩
      simp only [List.length_append] at h2
      have hins : (∀ n ∈ B, sLt x.Path n.Path = true) → RB True ((sub (A ++ B) 0 (A.length : Int)).bind (fun (x67 : List api_Need) => (app 24 ([] : List api_Need) x67).bind (fun (x70 : List api_Need) => (registrarref20_Both x.Mode x.Mode).bind (fun (r87 : Int) => (app 24 x70 ([(⟨x.Path, r87⟩ : api_Need)] : List api_Need)).bind (fun (x96 : List api_Need) => (sub (A ++ B) (A.length : Int) ((A ++ B).length : Int)).bind (fun (x105 : List api_Need) => (app 24 x96 x105).bind (fun (x106 : List api_Need) => some x106))))))) (fun s' => Can (l.take j ++ [x]) s' ∧ s'.length ≤ j + 1) := by
        intro hB2
        refine RB.bindE (x := A) (by have := sub_at (xs := A ++ B) (lo := 0) (hi := (A.length : Int)) (i := 0) (j := A.length) rfl rfl (by omega) (by simp); rw [this]; simp) ?_
        refine RB.bindE (x := A) (by rw [app_le (by simp; omega)]; rfl) ?_
        rw [refBoth_eq, bo_self]
        simp only [Option.bind_some]
        refine RB.bindE (x := A ++ [(⟨x.Path, md x.Mode⟩ : N)]) (by rw [app_le (by simp; omega)]) ?_
        refine RB.bindE (x := B) (by rw [sub_at (i := A.length) (j := (A ++ B).length) rfl rfl (by simp) (by simp), List.take_length, List.drop_left]) ?_
        refine RB.bindE (x := A ++ (⟨x.Path, md x.Mode⟩ : N) :: B) (by rw [app_le (by simp; omega)]; simp) ?_
        refine RB.ret ⟨h1.put hA hB2, ?_⟩
        simp only [List.length_append, List.length_cons] at *
        omega
      cases B with
      | nil =>
        rw [show decide ((A.length : Int) < ((A ++ ([] : List N)).length : Int)) = false from decide_eq_false (by simp)]
        simp only [cond_false, Option.bind_some]
        exact hins (by simp)
      | cons y B =>
        have hy : sLt y.Path x.Path = false := hB y (by simp)
        rw [show decide ((A.length : Int) < ((A ++ y :: B).length : Int)) = true from decide_eq_true (by simp; omega)]
        rw [show idx (A ++ y :: B) (A.length : Int) = some y from idx_mid rfl]
        simp only [cond_true, Option.bind_some]
        cases hq : sEq y.Path x.Path with
        | true =>
          have hyv := val_ok ((h1.mem y).1 (by simp))
          rw [refBoth_eq, md_id hyv.1 hyv.2]
          simp only [cond_true, Option.bind_some]
          refine RB.ret ?_
          rw [show (A ++ y :: B).set ((A.length : Int)).toNat (⟨y.Path, bo y.Mode (md x.Mode)⟩ : N) = A ++ (⟨y.Path, bo y.Mode (md x.Mode)⟩ : N) :: B from set_mid rfl]
          refine ⟨h1.upd (sEq_iff.1 hq), ?_⟩
          simp only [List.length_append, List.length_cons] at *
          omega
        | false =>
          simp only [cond_false]
          have hne := sEq_false.1 hq
          have hxy : sLt x.Path y.Path = true := by
            rcases sLt_total x.Path y.Path with h | h | h
            · exact h
            · exact absurd h.symm hne
            · rw [hy] at h; cases h
          refine hins ?_
          intro n hn
          rcases List.mem_cons.1 hn with rfl | hn
          · exact hxy
          · have := h1.srt
            rw [List.pairwise_append, List.pairwise_cons] at this
            exact sLt_trans hxy (this.2.1.1 n hn)
  · rintro s ⟨h1, _⟩
    rw [List.take_length] at h1
    exact RB.ret h1

theorem works_eq : registrarlaw20_works = some true := by
  unfold registrarlaw20_works
  have hc : Can ([(⟨(⟨#[116]⟩ : ByteArray), 3⟩ : api_Need), (⟨(⟨#[]⟩ : ByteArray), 2⟩ : api_Need), (⟨(⟨#[116]⟩ : ByteArray), 2⟩ : api_Need)] : List api_Need) [(⟨(⟨#[]⟩ : ByteArray), 2⟩ : api_Need), (⟨(⟨#[116]⟩ : ByteArray), 4⟩ : api_Need)] := by
    have lt1 : sLt (⟨#[]⟩ : ByteArray) (⟨#[116]⟩ : ByteArray) = true := by
      unfold sLt
      rw [ByteArray.toList_eq, ByteArray.toList_eq]
      rfl
    have h1 : Can ([] ++ [(⟨(⟨#[116]⟩ : ByteArray), 3⟩ : api_Need)]) ([] ++ [(⟨(⟨#[116]⟩ : ByteArray), 3⟩ : api_Need)]) := Can.put (l := []) (A := []) (B := []) (x := ⟨⟨#[116]⟩, 3⟩) Can.nil (by simp) (by simp)
    have h2 := Can.put (A := []) (x := (⟨(⟨#[]⟩ : ByteArray), 2⟩ : api_Need)) h1 (by simp) (by simp [lt1])
    have h3 := Can.upd (A := [(⟨(⟨#[]⟩ : ByteArray), 2⟩ : api_Need)]) (B := []) (x := (⟨(⟨#[116]⟩ : ByteArray), 2⟩ : api_Need)) (h0 := (⟨(⟨#[116]⟩ : ByteArray), 3⟩ : api_Need)) h2 rfl
    exact h3
  obtain ⟨r, hr, hcr⟩ := (merge_ret [(⟨(⟨#[116]⟩ : ByteArray), 3⟩ : api_Need), (⟨(⟨#[]⟩ : ByteArray), 2⟩ : api_Need), (⟨(⟨#[116]⟩ : ByteArray), 2⟩ : api_Need)] (by simp)).ex
  have e := hcr.eq hc
  subst e
  rw [hr]
  simp only [Option.bind_some]
  rw [covers_eq]
  have hcov : cov [(⟨(⟨#[]⟩ : ByteArray), 2⟩ : api_Need), (⟨(⟨#[116]⟩ : ByteArray), 4⟩ : api_Need)] [(⟨(⟨#[]⟩ : ByteArray), 1⟩ : api_Need)] = true := by
    simp [cov, sEq_refl, md, bo]
  rw [hcov]
  show Option.bind (bif ((2 : Int) == 2) then (some (sEq (⟨#[116]⟩ : ByteArray) (⟨#[116]⟩ : ByteArray) && ((4 : Int) == 4))) else some false) _ = _
  rw [sEq_refl]
  rfl
theorem few_len {l : List N} (h : (decide (l.length ≤ 60) && l.all (fun n => decide (n.Path.size ≤ 100))) = true) : l.length ≤ 60 := by
  simp only [Bool.and_eq_true, decide_eq_true_eq] at h
  exact h.1
theorem merges_true (l m : List api_Need) (hl : l.length ≤ maxLen ∧ ∀ x ∈ l, wf_api_Need x) (hm : m.length ≤ maxLen ∧ ∀ x ∈ m, wf_api_Need x) : registrarlaw20_AccessMerges l m = some true := by
  unfold registrarlaw20_AccessMerges
  rw [few_eq]
  simp only [Option.bind_some]
  cases h1 : (decide (l.length ≤ 60) && l.all (fun n => decide (n.Path.size ≤ 100))) with
  | false => simp [works_eq]
  | true =>
    rw [few_eq]
    simp only [Option.bind_some, Bool.not_true, cond_false]
    cases h2 : (decide (m.length ≤ 60) && m.all (fun n => decide (n.Path.size ≤ 100))) with
    | false => simp [works_eq]
    | true =>
      have k1 := few_len h1
      obtain ⟨r, hr, hcr⟩ := (merge_ret l (by omega)).ex
      obtain ⟨r2, hr2, hcr2⟩ := (refMerge_ret l (by omega)).ex
      have e := hcr.eq hcr2
      subst e
      simp only [Bool.not_true, cond_false]
      rw [show app 24 ([] : List api_Need) l = some l from by rw [app_le (by simp; omega)]; rfl]
      simp only [Option.bind_some, hr, hr2, same_eq, covers_eq, refCovers_eq, works_eq, sm_iff.2 rfl, cond_true, beq_self_eq_true]
theorem cov_iff {a b : List N} : cov a b = true ↔ ∀ n ∈ b, ∃ h ∈ a, h.Path = n.Path ∧ bo (md h.Mode) (md n.Mode) = md h.Mode := by
  unfold cov
  simp only [List.all_eq_true, List.any_eq_true, Bool.and_eq_true, sEq_iff, beq_iff_eq]
theorem Can.modes {l a : List N} (h : Can l a) {n : N} (hn : n ∈ a) : md n.Mode = n.Mode := by
  have := val_ok ((h.mem n).1 hn)
  exact md_id this.1 this.2
theorem Can.covers {l a m : List N} (h : Can l a) (hm : ∀ n ∈ m, n ∈ l) : cov a m = true := by
  refine cov_iff.2 fun n hn => ?_
  obtain ⟨u, h1, h2⟩ := val_mem (hm n hn)
  have hmem : (⟨n.Path, u⟩ : N) ∈ a := (h.mem ⟨n.Path, u⟩).2 h1
  refine ⟨_, hmem, rfl, ?_⟩
  rw [h.modes hmem]
  exact h2
theorem Can.stays {l a m : List N} (h : Can l a) (hc : cov a m = true) : Can (a ++ m) a := by
  have hs := h.self
  refine ⟨h.srt, fun n => ?_⟩
  rw [hs.mem]
  have key : ∀ (m : List N), (∀ n ∈ m, ∃ h ∈ a, h.Path = n.Path ∧ bo (md h.Mode) (md n.Mode) = md h.Mode) → ∀ p, val (a ++ m) p = val a p := by
    intro m
    induction m with
    | nil => intro _ p; simp
    | cons x r ih =>
      intro hx p
      have e : (a ++ x :: r).Perm ((a ++ r) ++ [x]) := by
        rw [List.append_assoc]
        exact List.perm_append_left_iff a |>.2 (List.perm_append_singleton x r).symm
      rw [val_perm e, val_snoc, ih (fun n hn => hx n (by simp [hn]))]
      unfold add
      split
      · rename_i hp
        obtain ⟨k, hk, e1, e2⟩ := hx x (by simp)
        have hv := (hs.mem k).1 hk
        rw [e1, hp] at hv
        rw [hv]
        simp only [Option.some.injEq]
        rw [h.modes hk] at e2
        exact e2
      · rfl
  rw [key m (cov_iff.1 hc)]
theorem covers_true (l m : List api_Need) (hl : l.length ≤ maxLen ∧ ∀ x ∈ l, wf_api_Need x) (hm : m.length ≤ maxLen ∧ ∀ x ∈ m, wf_api_Need x) : registrarlaw20_AccessCovers l m = some true := by
  unfold registrarlaw20_AccessCovers
  rw [few_eq]
  simp only [Option.bind_some]
  cases h1 : (decide (l.length ≤ 60) && l.all (fun n => decide (n.Path.size ≤ 100))) with
  | false => simp [works_eq]
  | true =>
    rw [few_eq]
    simp only [Option.bind_some, Bool.not_true, cond_false]
    cases h2 : (decide (m.length ≤ 60) && m.all (fun n => decide (n.Path.size ≤ 100))) with
    | false => simp [works_eq]
    | true =>
      have k1 := few_len h1
      have k2 := few_len h2
      obtain ⟨a, ha, hca⟩ := (merge_ret l (by omega)).ex
      have hal : a.length ≤ 60 := by
        have hsub : a.map (·.Path) ⊆ l.map (·.Path) := by
          intro p hp
          obtain ⟨n, hn, rfl⟩ := List.mem_map.1 hp
          have hv := (hca.mem n).1 hn
          by_cases hq : ∃ m ∈ l, m.Path = n.Path
          · obtain ⟨k, hk, e⟩ := hq
            exact List.mem_map.2 ⟨k, hk, e⟩
          · rw [val_none (fun m hm e => hq ⟨m, hm, e⟩)] at hv
            cases hv
        have hnd : (a.map (·.Path)).Nodup := by
          rw [List.Nodup, List.pairwise_map]
          exact hca.srt.imp fun h => sLt_ne h
        have := hnd.length_le_of_subset hsub
        simp only [List.length_map] at this
        omega
      obtain ⟨a', ha', hca'⟩ := (merge_ret a (by omega)).ex
      have e := hca'.eq hca.self
      subst e
      obtain ⟨b, hb, hcb⟩ := (merge_ret (a' ++ m) (by simp; omega)).ex
      have c1 := hca.covers (m := l) (fun n hn => hn)
      have c2 := hcb.covers (m := m) (fun n hn => by simp [hn])
      have c3 : cov b l = true := by
        refine cov_iff.2 fun n hn => ?_
        obtain ⟨h, hh, e1, e2⟩ := cov_iff.1 c1 n hn
        obtain ⟨k, hk, e3, e4⟩ := cov_iff.1 (hcb.covers (m := a') (fun n hn => by simp [hn])) h hh
        exact ⟨k, hk, e3.trans e1, bo_absorb e4 e2⟩
      have c4 : cov a' m = sm a' b := by
        rw [Bool.eq_iff_iff, sm_iff]
        constructor
        · intro hc
          exact (hca.stays hc).eq hcb
        · rintro rfl
          exact c2
      simp only [Bool.not_true, cond_false, ha, Option.bind_some, covers_eq, c1, ha', same_eq, sm_iff.2 rfl]
      rw [show app 24 ([] : List api_Need) a' = some a' from by rw [app_le (by simp; omega)]; rfl]
      simp only [Option.bind_some]
      rw [app_le (by omega)]
      simp only [Option.bind_some, hb, c2, c3, c4, cond_true, works_eq, beq_self_eq_true]
end Go.Proofs.Ytfabocipcjnfnaa
