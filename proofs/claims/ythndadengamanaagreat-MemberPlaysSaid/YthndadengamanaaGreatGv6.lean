/- Slices: elements, parts, what is appended, what is stored into one that is owned. Conditions: none. -/
import Derived.Test.YthndadengamanaaGreatGv5
namespace Go.Gv
open Go

/-! ### Plain words -/
def idx {α : Type} (xs : List α) (i : Int) : Option α := if 0 ≤ i then xs[i.toNat]? else none
theorem idx_some {α : Type} {xs : List α} {i : Int} {x : α} (h : idx xs i = some x) : 0 ≤ i ∧ i < (xs.length : Int) ∧ xs[i.toNat]? = some x := by
  unfold idx at h
  split at h
  · rename_i h0
    have := (List.getElem?_eq_some_iff.1 h).1
    exact ⟨h0, by omega, h⟩
  · cases h
def app {α : Type} (by_ : Nat) (xs ys : List α) : Option (List α) := if (xs.length + ys.length) * by_ ≤ 140737488355328 then some (xs ++ ys) else none
theorem app_some {α : Type} {b : Nat} {xs ys zs : List α} (h : app b xs ys = some zs) : (xs.length + ys.length) * b ≤ 140737488355328 ∧ zs = xs ++ ys := by
  unfold app at h
  split at h
  · injection h with h; exact ⟨by assumption, h.symm⟩
  · cases h
/-- xs[lo:hi], hi at most the length. -/
def sub {α : Type} (xs : List α) (lo hi : Int) : Option (List α) := if 0 ≤ lo ∧ lo ≤ hi ∧ hi ≤ (xs.length : Int) then some ((xs.take hi.toNat).drop lo.toNat) else none
theorem sub_some {α : Type} {xs ys : List α} {lo hi : Int} (h : sub xs lo hi = some ys) : 0 ≤ lo ∧ lo ≤ hi ∧ hi ≤ (xs.length : Int) ∧ ys = (xs.take hi.toNat).drop lo.toNat := by
  unfold sub at h
  split at h
  · rename_i hc; injection h with h; exact ⟨hc.1, hc.2.1, hc.2.2, h.symm⟩
  · cases h
/-- xs[i] = x. -/
def upd {α : Type} (xs : List α) (i : Int) (x : α) : Option (List α) := if 0 ≤ i ∧ i < (xs.length : Int) then some (xs.set i.toNat x) else none
theorem upd_some {α : Type} {xs ys : List α} {i : Int} {x : α} (h : upd xs i x = some ys) : 0 ≤ i ∧ i < (xs.length : Int) ∧ ys = xs.set i.toNat x := by
  unfold upd at h
  split at h
  · rename_i hc; injection h with h; exact ⟨hc.1, hc.2, h.symm⟩
  · cases h
theorem bind_some {α β : Type} {x : Option α} {f : α → Option β} {b : β} (h : x.bind f = some b) : ∃ a, x = some a ∧ f a = some b := Option.bind_eq_some_iff.1 h
theorem cond_t {α : Type} {b : Bool} {x y : Option α} {r : α} (hb : b = true) (h : cond b x y = some r) : x = some r := by rw [hb] at h; exact h
theorem cond_f {α : Type} {b : Bool} {x y : Option α} {r : α} (hb : b = false) (h : cond b x y = some r) : y = some r := by rw [hb] at h; exact h

/-! ### Elements in a row -/
def ElAt {α : Type} (sz : Nat) (rel : Mem → List Value → α → Prop) (H I : Mem) (b o : Nat) (xs : List α) : Prop := ∀ i x, xs[i]? = some x → ∃ cs, cs.length = sz ∧ rel I cs x ∧ CellsAt H b (o + i * sz) cs
section
variable {α : Type} {sz : Nat} {rel : Mem → List Value → α → Prop} {H I : Mem} {b : Nat}
theorem flat [Mono rel] : ∀ (xs : List α) (o : Nat), ElAt sz rel H I b o xs → ∃ news : List Value, news.length = xs.length * sz ∧ (∀ w, Rdb w H → ∀ j v, news[j]? = some v → w.cell? ⟨b, o + j, none⟩ = some v) ∧
    (∀ v ∈ news, v.oneCell' = true) ∧ (∀ i x, xs[i]? = some x → ∃ cs, cs.length = sz ∧ rel I cs x ∧ ∀ j v, cs[j]? = some v → news[i * sz + j]? = some v)
  | [], o, _ => ⟨[], by simp, by simp, by simp, by simp⟩
  | x :: xs, o, h => by
    obtain ⟨cs, hn, hr, hc⟩ := h 0 x rfl
    obtain ⟨news, h1, h2, h3, h4⟩ := flat xs (o + sz) (fun i y hy => by
      obtain ⟨ds, e1, e2, e3⟩ := h (i + 1) y (by simpa using hy)
      refine ⟨ds, e1, e2, ?_⟩
      rwa [show o + (i + 1) * sz = o + sz + i * sz from by rw [Nat.add_mul]; omega] at e3)
    refine ⟨cs ++ news, by simp [h1, hn, Nat.add_mul]; omega, ?_, ?_, ?_⟩
    · intro w hw j v hj
      by_cases hlt : j < cs.length
      · rw [List.getElem?_append_left hlt] at hj
        have := hc.cell hw hj
        simpa using this
      · rw [List.getElem?_append_right (by omega)] at hj
        have := h2 w hw _ v hj
        rwa [show o + sz + (j - cs.length) = o + j from by omega] at this
    · intro v hv
      rcases List.mem_append.1 hv with h | h
      · exact Mono.one hr v h
      · exact h3 v h
    · intro i y hy
      cases i with
      | zero =>
        simp at hy
        subst hy
        refine ⟨cs, hn, hr, fun j v hj => ?_⟩
        have hlt : j < cs.length := (List.getElem?_eq_some_iff.1 hj).1
        rw [Nat.zero_mul, Nat.zero_add, List.getElem?_append_left hlt]
        exact hj
      | succ i =>
        obtain ⟨ds, e1, e2, e3⟩ := h4 i y (by simpa using hy)
        refine ⟨ds, e1, e2, fun j v hj => ?_⟩
        have := e3 j v hj
        rw [List.getElem?_append_right (by rw [hn, Nat.add_mul]; omega), hn, show (i + 1) * sz + j - sz = i * sz + j from by rw [Nat.add_mul]; omega]
        exact this
theorem SlAt.elAt {a : Option Addr} {cap : Nat} {xs : List α} (h : SlAt sz rel H I a cap xs) : ElAt sz rel H I (bl a) (of a) xs := fun i x hx => (h.el i x hx).2

/-! ### Parts -/
def subA (a : Option Addr) (cap lo sz : Nat) : Option Addr := if cap = lo then a else a.map (·.add (lo * sz))
theorem SlAt.sub {a : Option Addr} {cap : Nat} {xs : List α} (h : SlAt sz rel H I a cap xs) {lo hi : Nat} (h1 : lo ≤ hi) (h2 : hi ≤ xs.length) : SlAt sz rel H I (subA a cap lo sz) (cap - lo) ((xs.take hi).drop lo) := by
  have hle := h.le
  have hlt := h.lt
  refine ⟨by simp; omega, by omega, fun i x hx => ?_⟩
  rw [List.getElem?_drop, List.getElem?_take] at hx
  split at hx
  · rename_i hlt'
    obtain ⟨e, cs, hn, hr, hc⟩ := h.el _ x hx
    have hne : cap ≠ lo := by omega
    have hA : subA a cap lo sz = some ⟨bl a, of a + lo * sz, none⟩ := by
      unfold subA
      rw [if_neg hne]
      generalize bl a = p at *
      generalize of a = q at *
      subst e
      simp only [Option.map_some, add_plain]
    rw [hA]
    refine ⟨rfl, cs, hn, hr, ?_⟩
    show CellsAt H (bl a) (of a + lo * sz + i * sz) cs
    rwa [Nat.add_mul, ← Nat.add_assoc] at hc
  · cases hx
theorem OwnSl.sub {T : Nat} {C : Mem} {a : Option Addr} {cap : Nat} {xs : List α} (h : OwnSl T sz rel I C a cap xs) {lo hi : Nat} (h1 : lo ≤ hi) (h2 : hi ≤ xs.length) : OwnSl T sz rel I C (subA a cap lo sz) (cap - lo) ((xs.take hi).drop lo) := by
  refine ⟨h.sl.sub h1 h2, ?_⟩
  have hle := h.sl.le
  rcases h.own with ⟨rfl, rfl, rfl⟩ | ⟨b, off, c, rfl, rfl, hs⟩
  · left
    refine ⟨?_, by omega, rfl⟩
    unfold subA
    split <;> rfl
  · right
    unfold subA
    split
    · rename_i e
      exact ⟨b, off, c, rfl, rfl, by rw [e] at hs ⊢; simp; omega⟩
    · refine ⟨b, off + lo * sz, c, by simp only [Option.map_some, add_plain], rfl, ?_⟩
      have : lo * sz + (cap - lo) * sz = cap * sz := by rw [← Nat.add_mul]; congr 1; omega
      omega
theorem OwnSl.at_ {T : Nat} {C : Mem} {a : Option Addr} {cap : Nat} {xs : List α} (h : OwnSl T sz rel I C a cap xs) {i : Nat} {x : α} (hx : xs[i]? = some x) :
    ∃ c, C = one (bl a) (.cells c T (0, 0)) ∧ a = some ⟨bl a, of a, none⟩ ∧ of a + cap * sz ≤ c.size := by
  obtain ⟨e, _⟩ := h.sl.el i x hx
  rcases h.own with ⟨rfl, _⟩ | ⟨b, off, c, rfl, rfl, hs⟩
  · cases e
  · exact ⟨c, rfl, rfl, hs⟩
end

/-! ### Stores into an element -/
def wrtL : List Value → Nat → List Value → List Value
  | cs, _, [] => cs
  | cs, k, v :: r => wrtL (cs.set k v) (k + 1) r
theorem wrtL_get : ∀ (vs cs : List Value) (k j : Nat), (wrtL cs k vs)[j]? = if k ≤ j ∧ j < k + vs.length ∧ j < cs.length then vs[j - k]? else cs[j]?
  | [], cs, k, j => by
    rw [wrtL, if_neg (by simp; omega)]
  | v :: r, cs, k, j => by
    rw [wrtL, wrtL_get r, List.length_set, List.getElem?_set]
    by_cases e : k = j
    · subst e
      rw [if_neg (by omega), if_pos rfl]
      by_cases hlt : k < cs.length
      · rw [if_pos hlt, if_pos ⟨Nat.le_refl _, by simp, hlt⟩]; simp
      · rw [if_neg hlt, if_neg (by omega)]; simp; omega
    · rw [if_neg e]
      by_cases hc : k + 1 ≤ j ∧ j < k + 1 + r.length ∧ j < cs.length
      · rw [if_pos hc, if_pos ⟨by omega, by simp; omega, hc.2.2⟩, show j - k = (j - (k + 1)) + 1 from by omega]
        rfl
      · rw [if_neg hc, if_neg (by simp; omega)]
theorem wrtL_length : ∀ (vs cs : List Value) (k : Nat), (wrtL cs k vs).length = cs.length
  | [], cs, k => rfl
  | v :: r, cs, k => by rw [wrtL, wrtL_length r]; simp

section
variable {P : Program} {n : Nat} {K : World → Prop} {qt : Op → Bool} {z : Nat} {ops : Array Oper} {Q : Exit → Act → World → Prop} {fr : Fr} {w : World} {l : List Nat} {i : Nat}
  {dst : Option Tmp} {ty : TypeId} {pos : String} {after : Array Edge} {guard : Option (Nat × Bool)}
  {α : Type} {sz : Nat} {rel : Mem → List Value → α → Prop} {E : World} {I : Mem} {Os : List Mem} {C : Mem} {T : Nat}
theorem OwnSl.stored {a : Option Addr} {cap : Nat} {xs : List α} (h : OwnSl T sz rel I C a cap xs) {m : Nat} {x x' : α} (hx : xs[m]? = some x) (k : Nat) (vs : List Value) (hk : k + vs.length ≤ sz)
    (hrel : ∀ cs, rel I cs x → rel I (wrtL cs k vs) x') {c : Array Value} (hC : C = one (bl a) (.cells c T (0, 0))) :
    OwnSl T sz rel I (C.set (bl a) (.cells (wrt c (of a + m * sz + k) vs) T (0, 0))) a cap (xs.set m x') := by
  obtain ⟨c0, hC0, ha, hs⟩ := h.at_ hx
  have hcc : c0 = c := by
    have := (one_at (bl a) (Obj.cells c0 T (0, 0)))
    rw [← hC0, hC, one_at] at this
    injection this with this
    injection this with this
    exact this.symm
  subst hcc
  have hlen : m < xs.length := (List.getElem?_eq_some_iff.1 hx).1
  have hle := h.sl.le
  rw [hC, one_set]
  have hms : m * sz + sz ≤ cap * sz := by
    have : (m + 1) * sz ≤ cap * sz := Nat.mul_le_mul_right _ (by omega)
    rw [Nat.add_mul] at this
    omega
  refine ⟨⟨by simpa using hle, h.sl.lt, fun j y hy => ?_⟩, .inr ⟨bl a, of a, _, ha, rfl, by rw [wrt_size]; exact hs⟩⟩
  refine ⟨ha, ?_⟩
  rw [List.getElem?_set] at hy
  by_cases e : m = j
  · subst e
    rw [if_pos rfl, if_pos hlen] at hy
    injection hy with hy
    subst hy
    obtain ⟨_, cs, hn, hr, c1, T1, fz1, hb1, hc1⟩ := h.sl.el m x hx
    rw [hC, one_at] at hb1
    injection hb1 with hb1
    injection hb1 with hb1 _ _
    subst hb1
    refine ⟨wrtL cs k vs, by rw [wrtL_length, hn], hrel cs hr, _, T, (0, 0), one_at _ _, fun p v hp => ?_⟩
    rw [wrtL_get] at hp
    split at hp
    · rename_i hcond
      have := wrt_in vs c0 (of a + m * sz + k) (p - k) (by omega) (by omega)
      rw [show of a + m * sz + k + (p - k) = of a + m * sz + p from by omega] at this
      rw [this]; exact hp
    · rename_i hcond
      have hpl : p < cs.length := (List.getElem?_eq_some_iff.1 hp).1
      rw [wrt_out _ _ _ _ (by omega)]
      exact hc1 p v hp
  · rw [if_neg e] at hy
    obtain ⟨_, cs, hn, hr, c1, T1, fz1, hb1, hc1⟩ := h.sl.el j y hy
    rw [hC, one_at] at hb1
    injection hb1 with hb1
    injection hb1 with hb1 _ _
    subst hb1
    refine ⟨cs, hn, hr, _, T, (0, 0), one_at _ _, fun p v hp => ?_⟩
    have hpl : p < cs.length := (List.getElem?_eq_some_iff.1 hp).1
    have hsep : of a + j * sz + p < of a + m * sz + k ∨ of a + m * sz + k + vs.length ≤ of a + j * sz + p := by
      rcases Nat.lt_or_ge j m with hjm | hjm
      · left
        have : (j + 1) * sz ≤ m * sz := Nat.mul_le_mul_right _ (by omega)
        rw [Nat.add_mul] at this
        omega
      · right
        have : (m + 1) * sz ≤ j * sz := Nat.mul_le_mul_right _ (by omega)
        rw [Nat.add_mul] at this
        omega
    rw [wrt_out _ _ _ _ hsep]
    exact hc1 p v hp
theorem WO.storeOwn (hS : St E w I (C :: Os)) {a : Option Addr} {cap : Nat} {xs : List α} (hown : OwnSl T sz rel I C a cap xs) {t : TypeId} {x y : Operand}
    (ho : ops[i]? = some ⟨dst, .store t x y, ty, pos, after, guard⟩) (hok : okAt n ops fr ⟨dst, .store t x y, ty, pos, after, guard⟩ = true) (hq : qt (.store t x y) = false)
    {m : Nat} {u u' : α} (hu : xs[m]? = some u) (k : Nat) (hx : ev fr x = .pointer (some ⟨bl a, of a + m * sz + k, none⟩)) {v : Value} (hy : ev fr y = v)
    (hs : sizeIs P t = some v.cells.size) (h1 : v.cells.toList.all Value.oneCell' = true) (hkb : Nat.ble (k + v.cells.toList.length) sz = true) (hrel : ∀ cs, rel I cs u → rel I (wrtL cs k v.cells.toList) u')
    (hK : ∀ w' C', St E w' I (C' :: Os) → K w')
    (h : ∀ w' C', St E w' I (C' :: Os) → OwnSl T sz rel I C' a cap (xs.set m u') → WO P n K qt z ops Q l (pt fr dst undef) w') : WO P n K qt z ops Q (i :: l) fr w := by
  have hk := Nat.le_of_ble_eq_true hkb
  obtain ⟨c, hC, ha, hsz⟩ := hown.at_ hu
  have hlen : m < xs.length := (List.getElem?_eq_some_iff.1 hu).1
  have hle := hown.sl.le
  have hms : m * sz + sz ≤ cap * sz := by
    have : (m + 1) * sz ≤ cap * sz := Nat.mul_le_mul_right _ (by omega)
    rw [Nat.add_mul] at this
    omega
  have hst := hown.stored hu k v.cells.toList hk hrel hC
  have hlt : of a + m * sz + k + v.cells.size ≤ c.size := by
    rw [Array.length_toList] at hk
    omega
  refine WO.store hS ho hok hq hx hy hs (fun u hu => List.all_eq_true.1 h1 u hu) (by rw [hC]; exact one_at _ _) hlt (fun w' hS' => hK w' _ hS') (fun w' hS' => h w' _ hS' hst)
end
end Go.Gv
