/- append, make, slicing. Conditions: none. -/
import Derived.Test.YthndadengamanaaGreatGv6
import Derived.Deep.Upon
import Derived.Laws.MakeOwn
namespace Go.Gv
open Go

def elOf (P : Program) (T : TypeId) : Option (Nat × Nat × Array Value) := (P.info? T).bind fun i => i.zero.map fun z => (i.size, i.bytes, z.cells)
theorem elOf_some {P : Program} {T sz b : Nat} {z : Array Value} (h : elOf P T = some (sz, b, z)) : ∃ i zv, P.info? T = some i ∧ i.zero = some zv ∧ i.size = sz ∧ i.bytes = b ∧ zv.cells = z := by
  unfold elOf at h
  cases hi : P.info? T with
  | none => simp [hi] at h
  | some i =>
    cases hz : i.zero with
    | none => simp [hi, hz] at h
    | some zv =>
      simp [hi, hz] at h
      exact ⟨i, zv, rfl, hz, h.1, h.2.1, h.2.2⟩

section
variable {P : Program} {α : Type} {sz : Nat} {rel : Mem → List Value → α → Prop} {E w : World} {I C H : Mem} {Os : List Mem} {T : Nat}
/-- What is appended, as the model's law takes it. -/
theorem src_of [Mono rel] {tx e' : Nat} (hx : sliceOf P tx = some e') {a : Option Addr} {cap : Nat} {ys : List α} (h : SlAt sz rel H I a cap ys) (hr : Rdb w H) :
    ∃ news, Src P sz tx (.slice a ys.length cap) ys.length news w ∧ (∀ i x, ys[i]? = some x → ∃ cs, cs.length = sz ∧ rel I cs x ∧ ∀ j v, cs[j]? = some v → news[i * sz + j]? = some v) ∧ news.length = ys.length * sz := by
  rcases h.ad with e | e
  · subst e
    cases a with
    | none => exact ⟨[], Src.ofNil w (sliceOf_eq hx) cap, by simp, by simp⟩
    | some x => exact ⟨[], Src.ofSlice w (sliceOf_eq hx) _ _ _ [] (by simp) (fun j u hj => by simp at hj) (fun v hv => by cases hv), by simp, by simp⟩
  · obtain ⟨news, h1, h2, h3, h4⟩ := flat ys (of a) h.elAt
    refine ⟨news, ?_, h4, h1⟩
    generalize bl a = p at *
    generalize of a = q at *
    subst e
    exact Src.ofSlice w (sliceOf_eq hx) _ _ _ news h1 (fun j u hj => by rw [add_plain]; exact h2 w hr j u hj) h3

theorem run_append [Mono rel] (hS : St E w I (C :: Os)) {a : Option Addr} {cap : Nat} {xs : List α} (hown : OwnSl T sz rel I C a cap xs) {tx e' : Nat} (hx : sliceOf P tx = some e') {a2 : Option Addr} {cap2 : Nat} {ys : List α}
    (hsrc : SlAt sz rel H I a2 cap2 ys) (hr : Rdb w H) {t ty b : Nat} {z : Array Value} (ht : sliceOf P t = some T) (hT : elOf P T = some (sz, b, z)) (hz : z.size = sz) (hb : 0 < b) (hfit : (xs.length + ys.length) * b ≤ 140737488355328) :
    ∃ a' cap' w' C', (Builtin.append_ #[t, tx] ty #[.slice a xs.length cap, .slice a2 ys.length cap2]).run P w = .ok (.slice a' (xs ++ ys).length cap') w' ∧ St E w' I (C' :: Os) ∧ OwnSl T sz rel I C' a' cap' (xs ++ ys) := by
  obtain ⟨i, zv, hi, hiz, rfl, rfl, rfl⟩ := elOf_some hT
  obtain ⟨news, hs, hel, hnl⟩ := src_of (w := w) hx hsrc hr
  have hu := sliceOf_eq ht
  have hle := hown.sl.le
  have h63 : xs.length + ys.length ≤ maxLen := by
    have : xs.length + ys.length ≤ (xs.length + ys.length) * i.bytes := Nat.le_mul_of_pos_right _ hb
    simp only [maxLen]
    omega
  by_cases hroom : xs.length + ys.length ≤ cap
  · by_cases hy : ys = []
    · subst hy
      have hn : news = [] := List.eq_nil_of_length_eq_zero (by simpa using hnl)
      subst hn
      refine ⟨a, cap, w, C, ?_, hS, by simpa using hown⟩
      rw [List.append_nil]
      exact run_append_nothing w t tx ty T i hu hi a xs.length cap hle _ hs
    · rcases hown.own with ⟨rfl, rfl, rfl⟩ | ⟨bb, off, c, rfl, rfl, hcs⟩
      · exfalso
        have := List.length_pos_iff.2 hy
        omega
      · have hsz : off + (xs.length * i.size + ys.length * i.size) ≤ c.size := by
          have : (xs.length + ys.length) * i.size ≤ cap * i.size := Nat.mul_le_mul_right _ hroom
          rw [Nat.add_mul] at this
          omega
        have hcell : ∀ j, j < news.length → (w.cell? ⟨bb, off + xs.length * i.size + j, none⟩).isSome = true := by
          intro j hj
          have := hS.rd0 _ _ (one_at bb _)
          simp [World.cell?, this]
          omega
        have hfr : ∀ j, j < news.length → w.frozen? ⟨bb, off + xs.length * i.size + j, none⟩ = false := by
          intro j hj
          have := hS.rd0 _ _ (one_at bb _)
          simp [World.frozen?, this]
        have hrun := run_append_room_src w t tx ty T i hu hi bb off xs.length cap _ ys.length news hs hroom hcell hfr
        have hS' := hS.setCells (off := off + xs.length * i.size) news (one_at bb _)
        rw [one_set] at hS'
        refine ⟨some ⟨bb, off, none⟩, cap, _, _, (by rw [List.length_append]; exact hrun), hS', ⟨by simpa using hroom, hown.sl.lt, fun m x hx => ⟨rfl, ?_⟩⟩, .inr ⟨bb, off, _, rfl, rfl, by rw [wrt_size]; exact hcs⟩⟩
        show ∃ cs : List Value, _ ∧ _ ∧ CellsAt _ bb (off + m * i.size) cs
        by_cases hm : m < xs.length
        · rw [List.getElem?_append_left hm] at hx
          obtain ⟨_, cs, hn, hrl, c1, T1, fz1, hb1, hc1⟩ := hown.sl.el m x hx
          have hb1' : one bb (Obj.cells c T (0, 0)) bb = some (Obj.cells c1 T1 fz1) := hb1
          rw [one_at] at hb1'
          injection hb1' with hb1'
          injection hb1' with hb1' _ _
          subst hb1'
          refine ⟨cs, hn, hrl, _, T, (0, 0), one_at _ _, fun p v hp => ?_⟩
          have hpl : p < cs.length := (List.getElem?_eq_some_iff.1 hp).1
          have : (m + 1) * i.size ≤ xs.length * i.size := Nat.mul_le_mul_right _ (by omega)
          rw [Nat.add_mul] at this
          rw [wrt_out _ _ _ _ (by omega)]
          exact hc1 p v hp
        · rw [List.getElem?_append_right (by omega)] at hx
          obtain ⟨cs, hn, hrl, hc⟩ := hel _ x hx
          refine ⟨cs, hn, hrl, _, T, (0, 0), one_at _ _, fun p v hp => ?_⟩
          have hnew := hc p v hp
          have hlt : (m - xs.length) * i.size + p < news.length := (List.getElem?_eq_some_iff.1 hnew).1
          have := wrt_in news c (off + xs.length * i.size) ((m - xs.length) * i.size + p) hlt (by omega)
          rw [show off + m * i.size + p = off + xs.length * i.size + ((m - xs.length) * i.size + p) from by
            have : m * i.size = xs.length * i.size + (m - xs.length) * i.size := by rw [← Nat.add_mul]; congr 1; omega
            omega, this]
          exact hnew
  · obtain ⟨olds, ho1, ho2, ho3, ho4⟩ := flat xs (of a) hown.sl.elAt
    have hold : (Builtin.firstCells i.size xs.length (.slice a xs.length cap)).run P w.drew = .ok olds.toArray w.drew := by
      rcases hown.sl.ad with e | e
      · subst e
        have : olds = [] := List.eq_nil_of_length_eq_zero (by simpa using ho1)
        subst this
        cases a with
        | none => exact run_firstCells_none w.drew i.size 0 0 cap
        | some x => exact run_firstCells_some w.drew i.size 0 _ _ _ [] (by simp) (fun j u hj => by simp at hj)
      · generalize bl a = p at *
        generalize of a = q at *
        subst e
        exact run_firstCells_some w.drew i.size xs.length _ _ _ olds ho1 (fun j u hj => by
          rw [add_plain]; exact ho2 w.drew (hS.drew.rd0) j u hj)
    have hg : cap < xs.length + ys.length := by omega
    have hrun := run_append_grow_src w t tx ty T i zv hu hi hiz a xs.length cap olds hold _ ys.length news hs hg (by simp only [maxLen] at h63; omega) (growslice_fits hg hfit)
    have hge := grownCap_ge w (xs.length + ys.length) cap T
    have hcm := grownCap_le_maxLen w (xs.length + ys.length) cap T h63
    have hS' := (hS.drew.alloc (.cells ((olds ++ news).toArray ++ Builtin.zeroCells zv.cells (grownCap w (xs.length + ys.length) cap T - (xs.length + ys.length))) T)).front1.drop
    refine ⟨_, _, _, _, (by rw [List.length_append]; exact hrun), hS', ⟨by simpa using hge, by simp only [maxLen] at hcm; unfold big; omega, fun m x hx => ⟨rfl, ?_⟩⟩, .inr ⟨_, 0, _, rfl, rfl, ?_⟩⟩
    · show ∃ cs : List Value, _ ∧ _ ∧ CellsAt _ w.heap.size (0 + m * i.size) cs
      have hget : ∀ (j : Nat) (v : Value), (olds ++ news)[j]? = some v → ((olds ++ news).toArray ++ Builtin.zeroCells zv.cells (grownCap w (xs.length + ys.length) cap T - (xs.length + ys.length)))[j]? = some v := by
        intro j v hj
        have hlt : j < (olds ++ news).length := (List.getElem?_eq_some_iff.1 hj).1
        rw [Array.getElem?_append, if_pos (by simpa using hlt)]
        simpa using hj
      by_cases hm : m < xs.length
      · rw [List.getElem?_append_left hm] at hx
        obtain ⟨cs, hn, hrl, hc⟩ := ho4 m x hx
        refine ⟨cs, hn, hrl, _, T, (0, 0), one_at _ _, fun p v hp => hget _ _ ?_⟩
        have hpl : p < cs.length := (List.getElem?_eq_some_iff.1 hp).1
        have hcp := hc p v hp
        rw [Nat.zero_add, List.getElem?_append_left (List.getElem?_eq_some_iff.1 hcp).1]
        exact hcp
      · rw [List.getElem?_append_right (by omega)] at hx
        obtain ⟨cs, hn, hrl, hc⟩ := hel _ x hx
        refine ⟨cs, hn, hrl, _, T, (0, 0), one_at _ _, fun p v hp => hget _ _ ?_⟩
        have hcp := hc p v hp
        have e : m * i.size = xs.length * i.size + (m - xs.length) * i.size := by rw [← Nat.add_mul]; congr 1; omega
        rw [List.getElem?_append_right (by omega), ho1, show 0 + m * i.size + p - xs.length * i.size = (m - xs.length) * i.size + p from by omega]
        exact hcp
    · simp only [Array.size_append, List.size_toArray, size_zeroCells, List.length_append, ho1, hnl, hz, ← Nat.add_mul]
      rw [Nat.zero_add]
      apply Nat.mul_le_mul_right
      omega

variable {n : Nat} {K : World → Prop} {qt : Op → Bool} {z : Nat} {ops : Array Oper} {Q : Exit → Act → World → Prop} {fr : Fr} {l : List Nat} {i : Nat}
  {dst : Option Tmp} {ty : TypeId} {pos : String} {after : Array Edge} {guard : Option (Nat × Bool)}
theorem WO.append [Mono rel] (hS : St E w I (C :: Os)) {a : Option Addr} {cap : Nat} {xs : List α} (hown : OwnSl T sz rel I C a cap xs) {t tx : TypeId} {s x : Operand}
    (ho : ops[i]? = some ⟨dst, .call ⟨.builtin .append, #[s, x], #[t, tx]⟩, ty, pos, after, guard⟩) (hok : okAt n ops fr ⟨dst, .call ⟨.builtin .append, #[s, x], #[t, tx]⟩, ty, pos, after, guard⟩ = true)
    (hq : qt (.call ⟨.builtin .append, #[s, x], #[t, tx]⟩) = false) (ht : sliceOf P t = some T) {e' : Nat} (hx : sliceOf P tx = some e') {b : Nat} {zs : Array Value} (hT : elOf P T = some (sz, b, zs)) (hz : zs.size = sz) (hb : Nat.ble 1 b = true)
    (es : ev fr s = .slice a xs.length cap) {a2 : Option Addr} {cap2 : Nat} {ys : List α} (ex : ev fr x = .slice a2 ys.length cap2) (hsrc : SlAt sz rel H I a2 cap2 ys) (hr : Rdb w H)
    (hfit : (xs.length + ys.length) * b ≤ 140737488355328) {us : List α} (hus : us = xs ++ ys) (hK : ∀ w' C', St E w' I (C' :: Os) → K w')
    (h : ∀ a' cap' w' C', St E w' I (C' :: Os) → OwnSl T sz rel I C' a' cap' us → WO P n K qt z ops Q l (pt fr dst (.slice a' us.length cap')) w') : WO P n K qt z ops Q (i :: l) fr w := by
  subst hus
  obtain ⟨a', cap', w', C', hrun, hS', hown'⟩ := run_append (ty := ty) hS hown hx hsrc hr ht hT hz (Nat.le_of_ble_eq_true hb) hfit
  refine WO.act ho hok hq (v := .slice a' (xs ++ ys).length cap') (w' := w') ?_ (hK w' C' hS') (h a' cap' w' C' hS' hown')
  simp only [execOp, resolve]
  have e1 : (#[s, x].map (ev fr)) = #[.slice a xs.length cap, .slice a2 ys.length cap2] := by simp [es, ex]
  rw [e1]
  rw [run_bind (a := ({ target := .builtin .append #[t, tx] ty (#[s, x].map fun | .const _ => true | _ => false), args := #[.slice a xs.length cap, .slice a2 ys.length cap2] } : Deferred)) (w' := w) rfl]
  simp only [invoke, Go.builtin]
  rw [run_bind hrun]
  rfl

/-- x[lo:hi] of a slice. -/
theorem run_slice {t e : Nat} (ht : sliceOf P t = some e) (hsz : sizeIs P e = some sz) (a : Option Addr) (len cap : Nat) {lo hi : Option Value} {l h : Nat}
    (hlo : lo = none ∧ l = 0 ∨ ∃ k, lo = some (.int k (l : Int))) (hhi : hi = none ∧ h = len ∨ ∃ k, hi = some (.int k (h : Int))) (h1 : l ≤ h) (h2 : h ≤ cap) :
    (Instr.sliceAt t (.slice a len cap) lo hi none).run P w = .ok (.slice (subA a cap l sz) (h - l) (cap - l)) w := by
  have hs := run_sizeOf (P := P) (w := w) hsz
  have hu := run_underlying' (P := P) (w := w) (sliceOf_eq ht)
  rcases hlo with ⟨rfl, rfl⟩ | ⟨k1, rfl⟩ <;> rcases hhi with ⟨rfl, rfl⟩ | ⟨k2, rfl⟩ <;>
    simp [Instr.sliceAt, Instr.slice, Instr.sliceBounds, Instr.sliceBound, asIntOf, hu, hs, h1, h2, subA]
theorem WO.slice {t : TypeId} {x : Operand} {lo hi : Option Operand} (ho : ops[i]? = some ⟨dst, .slice t x lo hi none, ty, pos, after, guard⟩) (hok : okAt n ops fr ⟨dst, .slice t x lo hi none, ty, pos, after, guard⟩ = true)
    {e : Nat} (ht : sliceOf P t = some e) (hsz : sizeIs P e = some sz) {a : Option Addr} {len cap : Nat} (hx : ev fr x = .slice a len cap) (l' h' : Int) (g0 : 0 ≤ l')
    (hlo : lo = none ∧ l' = 0 ∨ ∃ k o, lo = some o ∧ ev fr o = .int k l') (hhi : hi = none ∧ h' = (len : Int) ∨ ∃ k o, hi = some o ∧ ev fr o = .int k h') (g1 : l' ≤ h') (g2 : h' ≤ (cap : Int))
    (h : WO P n K qt z ops Q l (pt fr dst (.slice (subA a cap l'.toNat sz) (h'.toNat - l'.toNat) (cap - l'.toNat))) w) : WO P n K qt z ops Q (i :: l) fr w := by
  refine WO.val ho hok _ (fun w' hw' => ?_) h
  simp only [execOp, hx, Option.map_none]
  rw [run_bind (run_slice (P := P) (w := w') ht hsz a len cap (l := l'.toNat) (h := h'.toNat) ?_ ?_ (by omega) (by omega))]
  · rfl
  · rcases hlo with ⟨rfl, rfl⟩ | ⟨k, o, rfl, eo⟩
    · exact .inl ⟨rfl, rfl⟩
    · exact .inr ⟨k, by rw [Option.map_some, eo, Int.toNat_of_nonneg g0]⟩
  · rcases hhi with ⟨rfl, rfl⟩ | ⟨k, o, rfl, eo⟩
    · exact .inl ⟨rfl, by omega⟩
    · exact .inr ⟨k, by rw [Option.map_some, eo, Int.toNat_of_nonneg (by omega)]⟩

/-- make([]T, n). -/
theorem WO.make (hS : St E w I Os) {t : TypeId} {s x : Operand} (ho : ops[i]? = some ⟨dst, .makeSlice t s x, ty, pos, after, guard⟩) (hok : okAt n ops fr ⟨dst, .makeSlice t s x, ty, pos, after, guard⟩ = true)
    (hq : qt (.makeSlice t s x) = false) (ht : sliceOf P t = some T) {b : Nat} {zs : Array Value} (hT : elOf P T = some (sz, b, zs)) (hz : zs.size = sz) (h1 : Nat.ble 1 sz = true) {k1 k2 : IntKind} (m : Nat) (es : ev fr s = .int k1 (m : Int)) (ex : ev fr x = .int k2 (m : Int))
    (hfit : m * b ≤ 140737488355328) (hb : Nat.ble 1 b = true) {z0 : α} (hrel : rel I zs.toList z0) (hK : ∀ w' C', St E w' I (C' :: Os) → K w')
    (h : ∀ a' w' C', St E w' I (C' :: Os) → OwnSl T sz rel I C' a' m (List.replicate m z0) → WO P n K qt z ops Q l (pt fr dst (.slice a' m m)) w') : WO P n K qt z ops Q (i :: l) fr w := by
  obtain ⟨ti, zv, hi, hiz, rfl, rfl, rfl⟩ := elOf_some hT
  have hb' := Nat.le_of_ble_eq_true hb
  have h1' := Nat.le_of_ble_eq_true h1
  have hm : m ≤ m * ti.bytes := Nat.le_mul_of_pos_right _ hb'
  have hbi : (ti.bytes : Int) * (m : Int) ≤ 281474976710656 := by
    have : ((ti.bytes * m : Nat) : Int) ≤ 281474976710656 := by rw [Nat.mul_comm]; omega
    rwa [Int.natCast_mul] at this
  have hrun := run_make (P := P) w t T ti zv (sliceOf_eq ht) hi hiz k1 k2 m m (by omega) (Int.le_refl _) hbi (by omega)
  simp only [Int.toNat_natCast] at hrun
  have hS' := hS.alloc (.cells (madeCells zv.cells (m * ti.size)) T)
  refine WO.act ho hok hq (v := .slice (some ⟨w.heap.size, 0, none⟩) m m) (w' := _) ?_ (hK _ _ hS') (h _ _ _ hS' ⟨⟨by simp, by unfold big; omega, fun j x hx => ⟨rfl, ?_⟩⟩, .inr ⟨_, 0, _, rfl, rfl, by rw [size_madeCells]; omega⟩⟩)
  · simp only [execOp, es, ex]
    rw [run_bind hrun]
    rfl
  · have hj : j < m := by
      have := (List.getElem?_eq_some_iff.1 hx).1
      simpa using this
    rw [List.getElem?_replicate, if_pos hj] at hx
    injection hx with hx
    subst hx
    refine ⟨zv.cells.toList, by simpa using hz, hrel, _, T, (0, 0), one_at _ _, fun p v hp => ?_⟩
    show (madeCells zv.cells (m * ti.size))[0 + j * ti.size + p]? = some v
    have hpl : p < ti.size := by
      have := (List.getElem?_eq_some_iff.1 hp).1
      rw [Array.length_toList] at this
      omega
    have hlt : j * ti.size + p < m * ti.size := by
      have : (j + 1) * ti.size ≤ m * ti.size := Nat.mul_le_mul_right _ (by omega)
      rw [Nat.add_mul] at this
      omega
    have hmod : (j * ti.size + p) % zv.cells.size = p := by
      rw [hz, Nat.add_comm, Nat.add_mul_mod_self_right]
      exact Nat.mod_eq_of_lt hpl
    simp only [madeCells, Nat.zero_add]
    rw [Array.getElem?_map, Array.getElem?_range, if_pos hlt]
    simp only [Option.map_some, hmod]
    rw [Array.getElem?_toList] at hp
    rw [getElem!_def, hp]
end
end Go.Gv
