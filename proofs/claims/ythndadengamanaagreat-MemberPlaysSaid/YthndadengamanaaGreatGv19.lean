/- Slices of one's own: prefixes, views, clear. Conditions: none. -/
import Derived.Test.YthndadengamanaaGreatGv18
namespace Go.Gv
open Go
section
variable {α : Type} {T sz : Nat} {rel : Mem → List Value → α → Prop} {I C : Mem} {a : Option Addr} {cap : Nat} {xs : List α}
theorem OwnSl.subA0 (h : OwnSl T sz rel I C a cap xs) : subA a cap 0 sz = a := by
  unfold subA
  rcases h.own with ⟨rfl, _, _⟩ | ⟨b, off, c, rfl, _, _⟩
  · split <;> rfl
  · split
    · rfl
    · simp [add_plain]
theorem OwnSl.pre (h : OwnSl T sz rel I C a cap xs) {hi : Int} {ys : List α} (h0 : 0 ≤ hi) (h2 : hi ≤ (xs.length : Int)) (he : ys = (xs.take hi.toNat).drop (0 : Int).toNat) :
    OwnSl T sz rel I C a cap ys ∧ Value.slice (subA a cap (0 : Int).toNat sz) (hi.toNat - (0 : Int).toNat) (cap - (0 : Int).toNat) = Value.slice a ys.length cap := by
  have e : ys = xs.take hi.toNat := by simpa using he
  subst e
  refine ⟨⟨?_, h.own⟩, ?_⟩
  · have := h.sl.sub (lo := 0) (hi := hi.toNat) (by omega) (by omega)
    rw [h.subA0] at this
    simpa using this
  · show Value.slice (subA a cap 0 sz) (hi.toNat - 0) (cap - 0) = _
    rw [h.subA0]
    simp
    omega
/-- An element of a part that begins at a place. -/
def vidx (xs : List α) (lo : Nat) (j : Int) : Option α := if 0 ≤ j then idx xs ((lo : Int) + j) else none
theorem vidx_some {lo : Nat} {j : Int} {x : α} (h : vidx xs lo j = some x) : 0 ≤ j ∧ idx xs ((lo : Int) + j) = some x := by
  unfold vidx at h
  split at h
  · exact ⟨by assumption, h⟩
  · cases h
/-- A part, seen from a place on, at an element. -/
theorem OwnSl.view (h : OwnSl T sz rel I C a cap xs) {lo : Nat} {j : Int} (h0 : 0 ≤ j) {x : α} (hx : idx xs ((lo : Int) + j) = some x) :
    subA a cap lo sz = some ⟨bl (subA a cap lo sz), of (subA a cap lo sz), none⟩ ∧ j < ((xs.length - lo : Nat) : Int) ∧
    Value.pointer (some ⟨bl (subA a cap lo sz), of (subA a cap lo sz) + j.toNat * sz, none⟩) = Value.pointer (some ⟨bl a, of a + ((lo : Int) + j).toNat * sz, none⟩) := by
  obtain ⟨i0, i1, i2⟩ := idx_some hx
  obtain ⟨c, rfl, ha, hs⟩ := h.at_ i2
  have hle := h.sl.le
  have hlt : lo ≠ cap := by omega
  have e : subA a cap lo sz = some ⟨bl a, of a + lo * sz, none⟩ := by
    unfold subA
    rw [if_neg (fun e => hlt e.symm), ha]
    simp [add_plain, bl, of]
  rw [e]
  refine ⟨rfl, by omega, ?_⟩
  have : ((lo : Int) + j).toNat = lo + j.toNat := by omega
  simp only [bl, of, Option.getD_some, this, Nat.add_mul, Nat.add_assoc]
theorem rep_get {zs : List Value} : ∀ (n j k : Nat) (v : Value), j < n → zs[k]? = some v → (List.replicate n zs).flatten[j * zs.length + k]? = some v
  | 0, j, k, v, h, _ => by omega
  | n + 1, 0, k, v, _, hk => by
    have := (List.getElem?_eq_some_iff.1 hk).1
    have e : zs[k] = v := by rw [List.getElem?_eq_getElem this] at hk; exact Option.some.inj hk
    simp [List.replicate_succ, List.getElem?_append, this, e]
  | n + 1, j + 1, k, v, h, hk => by
    rw [List.replicate_succ, List.flatten_cons, List.getElem?_append, if_neg (by rw [Nat.add_mul]; omega)]
    have := rep_get n j k v (by omega) hk
    rwa [show (j + 1) * zs.length + k - zs.length = j * zs.length + k by rw [Nat.add_mul]; omega]
theorem zeroCells_eq {zs : List Value} (hz : zs ≠ []) (n : Nat) : (Builtin.zeroCells zs.toArray n).toList = (List.replicate n zs).flatten := by
  have hpos : 0 < zs.length := List.length_pos_iff.2 hz
  apply List.ext_getElem?
  intro i
  unfold Builtin.zeroCells
  by_cases hi : i < n * zs.length
  · have h1 : i / zs.length < n := (Nat.div_lt_iff_lt_mul hpos).2 hi
    have h2 : i % zs.length < zs.length := Nat.mod_lt _ hpos
    have h3 := rep_get n (i / zs.length) (i % zs.length) zs[i % zs.length] h1 (List.getElem?_eq_getElem h2)
    rw [Nat.div_add_mod' i zs.length] at h3
    rw [h3]
    simp [hi, h2]
  · rw [List.getElem?_eq_none (by simp; omega), List.getElem?_eq_none (by simp; omega)]
/-- From a place on all is empty. -/
theorem OwnSl.cleared {E w : World} {Os : List Mem} (h : OwnSl T sz rel I C a cap xs) (hS : St E w I (C :: Os)) {zs : List Value} {z0 : α} (hz : rel I zs z0) (hzl : zs.length = sz) (hz1 : zs.all Value.oneCell' = true) (hsz : 0 < sz) {lo : Nat} (hlo : lo < xs.length) (P : Program) :
    ∃ b off w' C', subA a cap lo sz = some ⟨b, off, none⟩ ∧ (storeCells ⟨b, off, none⟩ (Builtin.zeroCells zs.toArray (xs.length - lo)).toList).run P w = .ok () w' ∧ St E w' I (C' :: Os) ∧ OwnSl T sz rel I C' a cap (xs.take lo ++ List.replicate (xs.length - lo) z0) := by
  have hne : zs ≠ [] := by rintro rfl; simp at hzl; omega
  obtain ⟨c, rfl, ha, hs⟩ := h.at_ (List.getElem?_eq_getElem hlo)
  have hle := h.sl.le
  have e : subA a cap lo sz = some ⟨bl a, of a + lo * sz, none⟩ := by
    unfold subA
    rw [if_neg (by omega), ha]
    simp [add_plain, bl, of]
  generalize hvs : (Builtin.zeroCells zs.toArray (xs.length - lo)).toList = vs
  rw [zeroCells_eq hne] at hvs
  have hvl : vs.length = (xs.length - lo) * sz := by rw [← hvs]; simp [hzl]
  have hvget : ∀ j k v, j < xs.length - lo → zs[k]? = some v → vs[j * sz + k]? = some v := by
    intro j k v hj hk
    rw [← hvs, ← hzl]
    exact rep_get _ _ _ _ hj hk
  have hv1 : ∀ u ∈ vs, u.oneCell' = true := by
    intro u hu
    rw [← hvs] at hu
    obtain ⟨l, hl, hul⟩ := List.mem_flatten.1 hu
    rw [(List.mem_replicate.1 hl).2] at hul
    exact List.all_eq_true.1 hz1 u hul
  have hfit : of a + lo * sz + vs.length ≤ c.size := by
    rw [hvl]
    have h1 : lo * sz + (xs.length - lo) * sz ≤ cap * sz := by
      rw [← Nat.add_mul]
      exact Nat.mul_le_mul_right _ (by omega)
    omega
  have hw := hS.rd0 _ _ (one_at (bl a) _)
  have hrun : (storeCells ⟨bl a, of a + lo * sz, none⟩ vs).run P w = .ok () (w.setCells (bl a) (of a + lo * sz) vs) := by
    have hcell : ∀ j, j < vs.length → (w.cell? ⟨bl a, of a + lo * sz + 0 + j, none⟩).isSome = true := by
      intro j hj
      simp [World.cell?, hw]
      omega
    have hfr : ∀ j, j < vs.length → w.frozen? ⟨bl a, of a + lo * sz + 0 + j, none⟩ = false := by
      intro j hj
      simp [World.frozen?, hw]
    have := run_storeCells_cells (P := P) (bl a) (of a + lo * sz) vs 0 w hcell hfr hv1
    simpa using this
  have hS' := hS.setCells (off := of a + lo * sz) vs (one_at _ _)
  rw [one_set] at hS'
  refine ⟨_, _, _, _, e, hrun, hS', ⟨⟨?_, h.sl.lt, ?_⟩, .inr ⟨bl a, of a, _, ha, rfl, by rw [wrt_size]; exact hs⟩⟩⟩
  · simp; omega
  · intro i x hx
    refine ⟨ha, ?_⟩
    have hil : i < xs.length := by
      have := (List.getElem?_eq_some_iff.1 hx).1
      simp at this
      omega
    rw [List.getElem?_append] at hx
    by_cases hi : i < lo
    · rw [if_pos (by simp; omega)] at hx
      have hx' : xs[i]? = some x := by rw [List.getElem?_take_of_lt hi] at hx; exact hx
      obtain ⟨_, cs, hcs, hr, hc⟩ := h.sl.el i x hx'
      refine ⟨cs, hcs, hr, ?_⟩
      obtain ⟨c2, T2, fz, hb, hget⟩ := hc
      rw [one_at] at hb
      injection hb with hb
      injection hb with h1 h2 h3
      subst h1
      refine ⟨_, _, _, one_at _ _, fun j v hj => ?_⟩
      have hjs : j < sz := by rw [← hcs]; exact (List.getElem?_eq_some_iff.1 hj).1
      rw [wrt_out]
      · exact hget j v hj
      · left
        have : i * sz + sz ≤ lo * sz := by
          have : (i + 1) * sz ≤ lo * sz := Nat.mul_le_mul_right _ (by omega)
          rw [Nat.add_mul] at this; omega
        omega
    · rw [if_neg (by simp; omega)] at hx
      have hlt : (xs.take lo).length = lo := by simp; omega
      rw [hlt] at hx
      have hxz : x = z0 := by
        rw [List.getElem?_replicate] at hx
        split at hx
        · injection hx with hx; exact hx.symm
        · cases hx
      subst hxz
      refine ⟨zs, hzl, hz, _, _, _, one_at _ _, fun j v hj => ?_⟩
      have hjs : j < sz := by rw [← hzl]; exact (List.getElem?_eq_some_iff.1 hj).1
      have hv := hvget (i - lo) j v (by omega) hj
      have hidx : of a + i * sz + j = of a + lo * sz + ((i - lo) * sz + j) := by
        have : i * sz = lo * sz + (i - lo) * sz := by rw [← Nat.add_mul]; congr 1; omega
        omega
      rw [hidx, wrt_in _ _ _ _ (List.getElem?_eq_some_iff.1 hv).1 hfit]
      exact hv
variable {P : Program} {n : Nat} {K : World → Prop} {qt : Op → Bool} {z : Nat} {ops : Array Oper} {Q : Exit → Act → World → Prop} {fr : Fr} {w E : World} {li : List Nat} {Os : List Mem}
  {dst : Option Tmp} {ty : TypeId} {pos : String} {after : Array Edge} {guard : Option (Nat × Bool)} {i : Nat}
/-- clear(s[lo:]). -/
theorem WO.clear (hS : St E w I (C :: Os)) (h0 : OwnSl T sz rel I C a cap xs) {t e : Nat} (ht : P.underlying t = some (.slice e)) {zs : List Value} (hzv : zeroOf P e = some zs.toArray) {z0 : α} (hz : rel I zs z0) (hzl : Nat.beq zs.length sz = true) (hz1 : zs.all Value.oneCell' = true) (hsz : Nat.blt 0 sz = true)
    {x : Operand} (ho : ops[i]? = some ⟨dst, .call ⟨.builtin .clear, #[x], #[t]⟩, ty, pos, after, guard⟩) (hok : okAt n ops fr ⟨dst, .call ⟨.builtin .clear, #[x], #[t]⟩, ty, pos, after, guard⟩ = true) (hq : qt (.call ⟨.builtin .clear, #[x], #[t]⟩) = false)
    {lo : Nat} (hlo : lo ≤ xs.length) (hx : ev fr x = .slice (subA a cap lo sz) (xs.length - lo) (cap - lo)) (hK : ∀ w' C', St E w' I (C' :: Os) → K w')
    (h : ∀ w' C', St E w' I (C' :: Os) → OwnSl T sz rel I C' a cap (xs.take lo ++ List.replicate (xs.length - lo) z0) → WO P n K qt z ops Q li (pt fr dst (.tuple #[])) w') : WO P n K qt z ops Q (i :: li) fr w := by
  have hzl := Nat.eq_of_beq_eq_true hzl
  have hsz : 0 < sz := Nat.le_of_ble_eq_true hsz
  have hu := run_underlying' (P := P) (w := w) ht
  have e1 : (#[x].map (ev fr)) = #[.slice (subA a cap lo sz) (xs.length - lo) (cap - lo)] := by simp [hx]
  by_cases hlt : lo < xs.length
  · obtain ⟨b, off, w', C', hsub, hrun, hS', ho'⟩ := h0.cleared hS hz hzl hz1 hsz hlt P
    refine WO.act ho hok hq (v := .tuple #[]) (w' := w') ?_ (hK w' C' hS') (h w' C' hS' ho')
    simp only [execOp, resolve]
    rw [e1]
    rw [run_bind (a := ({ target := .builtin .clear #[t] ty (#[x].map fun | .const _ => true | _ => false), args := #[.slice (subA a cap lo sz) (xs.length - lo) (cap - lo)] } : Deferred)) (w' := w) rfl]
    simp only [invoke, Go.builtin]
    have hne : xs.length - lo ≠ 0 := by omega
    obtain ⟨m, hm⟩ : ∃ m, xs.length - lo = m + 1 := ⟨xs.length - lo - 1, by omega⟩
    have key : (Builtin.clear_ #[t] ty #[.slice (subA a cap lo sz) (xs.length - lo) (cap - lo)]).run P w = .ok (.tuple #[]) w' := by
      obtain ⟨zv, hzc, hzr⟩ := run_zeroValue (w := w) hzv
      unfold Builtin.clear_
      simp only [List.getElem?_toArray, List.getElem?_cons_zero]
      rw [run_bind hu, hsub]
      rw [hm] at hrun ⊢
      simp only
      rw [run_bind hzr, hzc, run_bind hrun]
      rfl
    rw [run_bind key]
    rfl
  · have hle : lo = xs.length := by omega
    have hsame : xs.take lo ++ List.replicate (xs.length - lo) z0 = xs := by
      subst hle
      simp
    refine WO.act ho hok hq (v := .tuple #[]) (w' := w) ?_ (hK w C hS) (h w C hS (by rw [hsame]; exact h0))
    simp only [execOp, resolve]
    rw [e1]
    rw [run_bind (a := ({ target := .builtin .clear #[t] ty (#[x].map fun | .const _ => true | _ => false), args := #[.slice (subA a cap lo sz) (xs.length - lo) (cap - lo)] } : Deferred)) (w' := w) rfl]
    simp only [invoke, Go.builtin]
    have hz0 : xs.length - lo = 0 := by omega
    have key : (Builtin.clear_ #[t] ty #[.slice (subA a cap lo sz) (xs.length - lo) (cap - lo)]).run P w = .ok (.tuple #[]) w := by
      unfold Builtin.clear_
      simp only [List.getElem?_toArray, List.getElem?_cons_zero]
      rw [run_bind hu, hz0]
      cases hsb : subA a cap lo sz <;> rfl
    rw [run_bind key]
    rfl
end
end Go.Gv
