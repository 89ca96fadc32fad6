/- Rows' cells; what is put into a slice, and taken out of it, in place or anew. Conditions: none. -/
import Derived.Test.YthndadengamanaaGreatGv23
import Derived.Lib.Overlaps
import Derived.Lib.AppendZerosOnto
namespace Go.Gv
open Go
/-- Cells, one element's behind the other's. -/
structure Cel {α : Type} (sz : Nat) (rel : Mem → List Value → α → Prop) (I : Mem) (cs : List Value) (xs : List α) : Prop where
  len : cs.length = xs.length * sz
  one : ∀ v ∈ cs, v.oneCell' = true
  el : ∀ i x, xs[i]? = some x → ∃ es, es.length = sz ∧ rel I es x ∧ ∀ j v, es[j]? = some v → cs[i * sz + j]? = some v
def Hol (c : Array Value) (off : Nat) (cs : List Value) : Prop := ∀ j v, cs[j]? = some v → c[off + j]? = some v
section
variable {α : Type} {sz : Nat} {rel : Mem → List Value → α → Prop} {I C : Mem} {cs ds : List Value} {xs ys : List α} {T cap : Nat} {a : Option Addr}
theorem Cel.nil : Cel sz rel I [] ([] : List α) := ⟨by simp, by simp, by simp⟩
theorem Cel.take (h : Cel sz rel I cs xs) (k : Nat) : Cel sz rel I (cs.take (k * sz)) (xs.take k) := by
  refine ⟨?_, fun v hv => h.one v (List.mem_of_mem_take hv), fun i x hx => ?_⟩
  · rw [List.length_take, List.length_take, h.len, ← Nat.mul_comm sz, ← Nat.mul_comm sz, ← Nat.mul_comm sz]
    rcases Nat.le_total k xs.length with h1 | h1
    · rw [Nat.min_eq_left h1, Nat.min_eq_left (Nat.mul_le_mul_left _ h1)]
    · rw [Nat.min_eq_right h1, Nat.min_eq_right (Nat.mul_le_mul_left _ h1)]
  · rw [List.getElem?_take] at hx
    split at hx
    · rename_i hik
      obtain ⟨es, h1, h2, h3⟩ := h.el i x hx
      refine ⟨es, h1, h2, fun j v hj => ?_⟩
      have hjs : j < sz := by rw [← h1]; exact (List.getElem?_eq_some_iff.1 hj).1
      have : (i + 1) * sz ≤ k * sz := Nat.mul_le_mul_right _ hik
      rw [Nat.add_mul] at this
      rw [List.getElem?_take, if_pos (by omega)]
      exact h3 j v hj
    · cases hx
theorem Cel.drop (h : Cel sz rel I cs xs) (k : Nat) : Cel sz rel I (cs.drop (k * sz)) (xs.drop k) := by
  refine ⟨?_, fun v hv => h.one v (List.mem_of_mem_drop hv), fun i x hx => ?_⟩
  · rw [List.length_drop, List.length_drop, h.len, Nat.sub_mul]
  · rw [List.getElem?_drop] at hx
    obtain ⟨es, h1, h2, h3⟩ := h.el _ x hx
    refine ⟨es, h1, h2, fun j v hj => ?_⟩
    have := h3 j v hj
    rw [List.getElem?_drop, ← this]
    congr 1
    rw [Nat.add_mul]
    omega
theorem Cel.append (h : Cel sz rel I cs xs) (g : Cel sz rel I ds ys) : Cel sz rel I (cs ++ ds) (xs ++ ys) := by
  refine ⟨by rw [List.length_append, List.length_append, h.len, g.len, Nat.add_mul], fun v hv => ?_, fun i x hx => ?_⟩
  · rcases List.mem_append.1 hv with hv | hv
    · exact h.one v hv
    · exact g.one v hv
  · by_cases hi : i < xs.length
    · rw [List.getElem?_append_left hi] at hx
      obtain ⟨es, h1, h2, h3⟩ := h.el i x hx
      refine ⟨es, h1, h2, fun j v hj => ?_⟩
      have := h3 j v hj
      rw [List.getElem?_append_left (List.getElem?_eq_some_iff.1 this).1]
      exact this
    · rw [List.getElem?_append_right (by omega)] at hx
      obtain ⟨es, h1, h2, h3⟩ := g.el _ x hx
      refine ⟨es, h1, h2, fun j v hj => ?_⟩
      have := h3 j v hj
      have e : i * sz = xs.length * sz + (i - xs.length) * sz := by rw [← Nat.add_mul]; congr 1; omega
      rw [List.getElem?_append_right (by rw [h.len]; omega), h.len, ← this]
      congr 1
      omega
theorem SlAt.cel [Mono rel] {H : Mem} (h : SlAt sz rel H I a cap xs) : ∃ cs, Cel sz rel I cs xs ∧ ∀ w, Rdb w H → ∀ j v, cs[j]? = some v → w.cell? ⟨bl a, of a + j, none⟩ = some v := by
  obtain ⟨news, h1, h2, h3, h4⟩ := flat xs (of a) h.elAt
  exact ⟨news, ⟨h1, h3, h4⟩, h2⟩
theorem Cel.own (h : Cel sz rel I cs xs) {c : Array Value} {b off : Nat} (hh : Hol c off cs) (hle : xs.length ≤ cap) (hlt : cap < big) (hs : off + cap * sz ≤ c.size) : OwnSl T sz rel I (Gv.one b (.cells c T (0, 0))) (some ⟨b, off, none⟩) cap xs := by
  refine ⟨⟨hle, hlt, fun i x hx => ⟨rfl, ?_⟩⟩, .inr ⟨b, off, c, rfl, rfl, hs⟩⟩
  obtain ⟨es, h1, h2, h3⟩ := h.el i x hx
  refine ⟨es, h1, h2, c, T, (0, 0), one_at _ _, fun j v hj => ?_⟩
  have := hh _ v (h3 j v hj)
  rw [← this]
  show c[off + i * sz + j]? = _
  congr 1
  omega
/-- A slice that is owned and has elements lies in a block. -/
theorem OwnSl.block (h : OwnSl T sz rel I C a cap xs) (hn : a ≠ none) : ∃ b off c, a = some ⟨b, off, none⟩ ∧ C = Gv.one b (.cells c T (0, 0)) ∧ off + cap * sz ≤ c.size := by
  rcases h.own with ⟨rfl, _⟩ | h
  · exact absurd rfl hn
  · exact h
theorem OwnSl.ne (h : OwnSl T sz rel I C a cap xs) (hn : xs ≠ []) : a ≠ none := by
  rintro rfl
  exact hn h.sl.none_nil
theorem Hol.rd {b off : Nat} {c : Array Value} (h : ∀ w, Rdb w (Gv.one b (.cells c T (0, 0))) → ∀ j v, cs[j]? = some v → w.cell? ⟨b, off + j, none⟩ = some v) {w : World} (hw : Rdb w (Gv.one b (.cells c T (0, 0)))) : Hol c off cs := by
  intro j v hj
  have := h w hw j v hj
  have hb := hw _ _ (one_at b _)
  simpa [World.cell?, hb] using this
theorem Hol.append {c : Array Value} {off : Nat} (h : Hol c off cs) (g : Hol c (off + cs.length) ds) : Hol c off (cs ++ ds) := by
  intro j v hj
  by_cases hlt : j < cs.length
  · rw [List.getElem?_append_left hlt] at hj; exact h j v hj
  · rw [List.getElem?_append_right (by omega)] at hj
    have := g _ v hj
    rwa [show off + cs.length + (j - cs.length) = off + j by omega] at this
theorem Hol.take {c : Array Value} {off : Nat} (h : Hol c off cs) (k : Nat) : Hol c off (cs.take k) := by
  intro j v hj
  rw [List.getElem?_take] at hj
  split at hj
  · exact h j v hj
  · cases hj
theorem Hol.drop {c : Array Value} {off : Nat} (h : Hol c off cs) (k : Nat) : Hol c (off + k) (cs.drop k) := by
  intro j v hj
  rw [List.getElem?_drop] at hj
  have := h _ v hj
  rwa [show off + (k + j) = off + k + j by omega] at this
theorem Hol.wrt {c : Array Value} {off : Nat} (vs : List Value) (h : off + vs.length ≤ c.size) : Hol (Gv.wrt c off vs) off vs := by
  intro j v hj
  rw [wrt_in vs c off j (List.getElem?_eq_some_iff.1 hj).1 h]
  exact hj
theorem Hol.apart {c : Array Value} {off o : Nat} {vs : List Value} (h : Hol c off cs) (hd : off + cs.length ≤ o ∨ o + vs.length ≤ off) : Hol (Gv.wrt c o vs) off cs := by
  intro j v hj
  have := (List.getElem?_eq_some_iff.1 hj).1
  rw [wrt_out _ _ _ _ (by omega)]
  exact h j v hj
end
section
variable {P : Program} {n : Nat} {K : World → Prop} {qt : Op → Bool} {z : Nat} {ops : Array Oper} {Q : Exit → Act → World → Prop} {fr : Fr} {w E : World} {l : List Nat} {i : Nat} {I C D : Mem} {Os : List Mem}
  {dst : Option Tmp} {ty : TypeId} {pos : String} {after : Array Edge} {guard : Option (Nat × Bool)} {α : Type} {sz T : Nat} {rel : Mem → List Value → α → Prop}
/-- copy(d, s): all is read before anything is written. -/
theorem run_copyN {b : Nat} {c : Array Value} (hS : St E w I (Gv.one b (.cells c T (0, 0)) :: Os)) {dT sT e : TypeId} (ht : sliceOf P dT = some e) (hsz : sizeIs P e = some sz) {o dl dc : Nat} {sa : Option Addr} {sl sc : Nat} {news : List Value} (hn : news.length = Nat.min sl dl * sz)
    (hr : ∀ x, sa = some x → ∀ j v, news[j]? = some v → w.cell? (x.add j) = some v) (h0 : sa = none → news = []) (h1 : ∀ v ∈ news, v.oneCell' = true) (hfit : o + news.length ≤ c.size) :
    (Builtin.copy_ #[dT, sT] ty #[.slice (some ⟨b, o, none⟩) dl dc, .slice sa sl sc]).run P w = .ok (goInt (Nat.min sl dl)) (w.setCells b o news) ∧ St E (w.setCells b o news) I (Gv.one b (.cells (wrt c o news) T (0, 0)) :: Os) := by
  have hb := hS.rd0 _ _ (one_at b _)
  have hst := run_storeCells_cells (P := P) b o news 0 w (fun j hj => by simp [World.cell?, hb]; omega) (fun j hj => by simp [World.frozen?, hb]) h1
  have hS' := hS.setCells (off := o) news (one_at b _)
  rw [one_set] at hS'
  refine ⟨?_, hS'⟩
  have hu := sliceOf_eq ht
  have hz : (sizeOf e).run P w = .ok sz w := run_sizeOf hsz
  simp only [Nat.add_zero] at hst
  cases sa with
  | none =>
    have := h0 rfl
    subst this
    simp [Builtin.copy_, run_underlying hu, Builtin.lenOf, Builtin.firstCells, hz, storeCells, World.setCells]
  | some x =>
    have hl := run_loadCells_list (P := P) (w := w) x news (hr x rfl)
    rw [hn] at hl
    simp [Builtin.copy_, run_underlying hu, Builtin.lenOf, Builtin.firstCells, hz, hl, hst]
theorem WO.copyN {b : Nat} {c : Array Value} (hS : St E w I (Gv.one b (.cells c T (0, 0)) :: Os)) {x y : Operand} {dT sT e : TypeId} (ho : ops[i]? = some ⟨dst, .call ⟨.builtin .copy, #[x, y], #[dT, sT]⟩, ty, pos, after, guard⟩) (hok : okAt n ops fr ⟨dst, .call ⟨.builtin .copy, #[x, y], #[dT, sT]⟩, ty, pos, after, guard⟩ = true)
    (hq : qt (.call ⟨.builtin .copy, #[x, y], #[dT, sT]⟩) = false) (ht : sliceOf P dT = some e) (hsz : sizeIs P e = some sz) {o dl dc : Nat} {sa : Option Addr} {sl sc : Nat} (ex : ev fr x = .slice (some ⟨b, o, none⟩) dl dc) (ey : ev fr y = .slice sa sl sc) (news : List Value) (hn : news.length = Nat.min sl dl * sz)
    (hr : ∀ x, sa = some x → ∀ j v, news[j]? = some v → w.cell? (x.add j) = some v) (h0 : sa = none → news = []) (h1 : ∀ v ∈ news, v.oneCell' = true) (hfit : o + news.length ≤ c.size)
    (hK : ∀ w', St E w' I (Gv.one b (.cells (wrt c o news) T (0, 0)) :: Os) → K w')
    (h : ∀ w', St E w' I (Gv.one b (.cells (wrt c o news) T (0, 0)) :: Os) → WO P n K qt z ops Q l (pt fr dst (goInt (Nat.min sl dl))) w') : WO P n K qt z ops Q (i :: l) fr w := by
  obtain ⟨hrun, hS'⟩ := run_copyN (ty := ty) (dc := dc) (sc := sc) (sT := sT) hS ht hsz hn hr h0 h1 hfit
  refine WO.act ho hok hq (v := goInt (Nat.min sl dl)) (w' := w.setCells b o news) ?_ (hK _ hS') (h _ hS')
  simp only [execOp, resolve]
  have e1 : (#[x, y].map (ev fr)) = #[.slice (some ⟨b, o, none⟩) dl dc, .slice sa sl sc] := by simp [ex, ey]
  rw [e1]
  rw [run_bind (a := ({ target := .builtin .copy #[dT, sT] ty (#[x, y].map fun | .const _ => true | _ => false), args := #[.slice (some ⟨b, o, none⟩) dl dc, .slice sa sl sc] } : Deferred)) (w' := w) rfl]
  simp only [invoke, Go.builtin]
  rw [run_bind hrun]
  rfl
/-- append(s[:i], make(S, k)...) where there is no room. -/
theorem WO.appendMake [Mono rel] (hS : St E w I Os) {H : Mem} (hr : Rdb w.drew H) {a : Option Addr} {cap : Nat} {xs : List α} (hsl : SlAt sz rel H I a cap xs) {t tn : TypeId} {s x : Operand}
    (ho : ops[i]? = some ⟨dst, .call ⟨.builtin .append, #[s, x], #[t, tn]⟩, ty, pos, after, guard⟩) (hok : okAt n ops fr ⟨dst, .call ⟨.builtin .append, #[s, x], #[t, tn]⟩, ty, pos, after, guard⟩ = true)
    (hq : qt (.call ⟨.builtin .append, #[s, x], #[t, tn]⟩) = false) (ht : sliceOf P t = some T) {kn : IntKind} (htn : P.underlying tn = some (.int kn)) {b : Nat} {zs : Array Value} (hT : elOf P T = some (sz, b, zs)) (hz : Nat.beq zs.size sz = true) (hb : Nat.ble 1 b = true) (hsp : Nat.ble 1 sz = true)
    (es : ev fr s = .slice a xs.length cap) {k : Nat} {kq : IntKind} (ex : ev fr x = .int kq (k : Int)) (h0 : 0 < k) (hg : cap < xs.length + k) (hfit : (xs.length + k) * b ≤ 140737488355328)
    (hK : ∀ w' C', St E w' I (C' :: Os) → K w')
    (h : ∀ w' nb G (c : Array Value) cs, St E w' I (Gv.one nb (.cells c T (0, 0)) :: Os) → Cel sz rel I cs xs → Hol c 0 cs → xs.length + k ≤ G → G < big → G * sz ≤ c.size → WO P n K qt z ops Q l (pt fr dst (.slice (some ⟨nb, 0, none⟩) (xs.length + k) G)) w') : WO P n K qt z ops Q (i :: l) fr w := by
  obtain ⟨inf, zv, hi, hiz, rfl, rfl, rfl⟩ := elOf_some hT
  have hb := Nat.le_of_ble_eq_true hb
  have hsp := Nat.le_of_ble_eq_true hsp
  have hz := Nat.eq_of_beq_eq_true hz
  have hu := sliceOf_eq ht
  have h63 : xs.length + k ≤ maxLen := by
    have : xs.length + k ≤ (xs.length + k) * inf.bytes := Nat.le_mul_of_pos_right _ hb
    simp only [maxLen]
    omega
  obtain ⟨cs, hc, hrd⟩ := hsl.cel
  have hold : (Builtin.firstCells inf.size xs.length (.slice a xs.length cap)).run P w.drew = .ok cs.toArray w.drew := by
    have hcl := hc.len
    rcases hsl.ad with e | e
    · subst e
      have : cs = [] := List.eq_nil_of_length_eq_zero (by simpa using hcl)
      subst this
      cases a with
      | none => exact run_firstCells_none w.drew inf.size 0 0 cap
      | some x => exact run_firstCells_some w.drew inf.size 0 _ _ _ [] (by simp) (fun j u hj => by simp at hj)
    · generalize bl a = p at *
      generalize of a = q at *
      subst e
      exact run_firstCells_some w.drew inf.size xs.length _ _ _ cs hcl (fun j u hj => by
        rw [add_plain]; exact hrd w.drew hr j u hj)
  have hrun := Lib.run_append_grow_zeros w t tn ty T inf zv kq kn hu htn hi hiz a xs.length cap cs hold k h0 hsp hg (by simp only [maxLen] at h63; omega) (by
    have : k * inf.bytes ≤ (xs.length + k) * inf.bytes := Nat.mul_le_mul_right _ (by omega)
    omega) (growslice_fits hg hfit)
  have hge := grownCap_ge w (xs.length + k) cap T
  have hcm := grownCap_le_maxLen w (xs.length + k) cap T h63
  have hS' := hS.drew.alloc (.cells (cs.toArray ++ Builtin.zeroCells zv.cells k ++ Builtin.zeroCells zv.cells (grownCap w (xs.length + k) cap T - (xs.length + k))) T)
  refine WO.act ho hok hq (v := .slice (some ⟨w.heap.size, 0, none⟩) (xs.length + k) (grownCap w (xs.length + k) cap T)) (w' := _) ?_ (hK _ _ hS') (h _ _ _ _ cs hS' hc ?_ hge (by simp only [maxLen] at hcm; unfold big; omega) ?_)
  · simp only [execOp, resolve]
    have e1 : (#[s, x].map (ev fr)) = #[.slice a xs.length cap, .int kq (k : Int)] := by simp [es, ex]
    rw [e1]
    rw [run_bind (a := ({ target := .builtin .append #[t, tn] ty (#[s, x].map fun | .const _ => true | _ => false), args := #[.slice a xs.length cap, .int kq (k : Int)] } : Deferred)) (w' := w) rfl]
    simp only [invoke, Go.builtin]
    rw [run_bind hrun]
    rfl
  · intro j v hj
    have hlt : j < cs.length := (List.getElem?_eq_some_iff.1 hj).1
    rw [Nat.zero_add, Array.append_assoc, Array.getElem?_append, if_pos (by simpa using hlt)]
    simpa using hj
  · simp only [Array.size_append, List.size_toArray, size_zeroCells, hc.len, hz, ← Nat.add_mul]
    apply Nat.mul_le_mul_right
    omega
/-- append(s[:i], s[j:]...), in place; behind it stands what stood there. -/
theorem WO.appendSelf [Mono rel] (hS : St E w I (C :: Os)) {a : Option Addr} {cap : Nat} {xs : List α} (hown : OwnSl T sz rel I C a cap xs) {t tx : TypeId} {s x : Operand}
    (ho : ops[i]? = some ⟨dst, .call ⟨.builtin .append, #[s, x], #[t, tx]⟩, ty, pos, after, guard⟩) (hok : okAt n ops fr ⟨dst, .call ⟨.builtin .append, #[s, x], #[t, tx]⟩, ty, pos, after, guard⟩ = true)
    (hq : qt (.call ⟨.builtin .append, #[s, x], #[t, tx]⟩) = false) (ht : sliceOf P t = some T) {e' : Nat} (hx : sliceOf P tx = some e') {b : Nat} {zs : Array Value} (hT : elOf P T = some (sz, b, zs)) {p q : Nat} (hpq : p ≤ q) (hqx : q ≤ xs.length)
    (es : ev fr s = .slice (subA a cap 0 sz) p (cap - 0)) (ex : ev fr x = .slice (subA a cap q sz) (xs.length - q) (cap - q)) (hK : ∀ w' C', St E w' I (C' :: Os) → K w')
    (h : ∀ w' C', St E w' I (C' :: Os) → OwnSl T sz rel I C' a cap (xs.take p ++ xs.drop q ++ xs.drop (p + (xs.length - q))) → WO P n K qt z ops Q l (pt fr dst (.slice a (p + (xs.length - q)) cap)) w') : WO P n K qt z ops Q (i :: l) fr w := by
  obtain ⟨inf, zv, hi, hiz, rfl, rfl, rfl⟩ := elOf_some hT
  rw [hown.subA0, Nat.sub_zero] at es
  have hu := sliceOf_eq ht
  have hle := hown.sl.le
  have hsub := hown.sl.sub hqx (Nat.le_refl _)
  rw [List.take_length] at hsub
  have hlen : (xs.drop q).length = xs.length - q := List.length_drop
  obtain ⟨news, hs, hel, hnl⟩ := src_of (w := w) hx hsub (hS.rd0)
  rw [hlen] at hs hnl
  have fin : ∀ w' C', (Builtin.append_ #[t, tx] ty #[.slice a p cap, .slice (subA a cap q inf.size) (xs.length - q) (cap - q)]).run P w = .ok (.slice a (p + (xs.length - q)) cap) w' → St E w' I (C' :: Os) → OwnSl T inf.size rel I C' a cap (xs.take p ++ xs.drop q ++ xs.drop (p + (xs.length - q))) → WO P n K qt z ops Q (i :: l) fr w := by
    intro w' C' hrun hS' ho'
    refine WO.act ho hok hq (v := .slice a (p + (xs.length - q)) cap) (w' := w') ?_ (hK _ _ hS') (h _ _ hS' ho')
    simp only [execOp, resolve]
    have e1 : (#[s, x].map (ev fr)) = #[.slice a p cap, .slice (subA a cap q inf.size) (xs.length - q) (cap - q)] := by simp [es, ex]
    rw [e1]
    rw [run_bind (a := ({ target := .builtin .append #[t, tx] ty (#[s, x].map fun | .const _ => true | _ => false), args := #[.slice a p cap, .slice (subA a cap q inf.size) (xs.length - q) (cap - q)] } : Deferred)) (w' := w) rfl]
    simp only [invoke, Go.builtin]
    rw [run_bind hrun]
    rfl
  by_cases hqe : q = xs.length
  · subst hqe
    have hn : news = [] := List.eq_nil_of_length_eq_zero (by simpa using hnl)
    subst hn
    rw [Nat.sub_self] at hs
    refine fin w C ?_ hS ?_
    · rw [Nat.sub_self, Nat.add_zero]
      exact run_append_nothing w t tx ty T inf hu hi a p cap (by omega) _ hs
    · simpa using hown
  · have hne : xs ≠ [] := by rintro rfl; simp at hqx hqe; omega
    obtain ⟨bb, off, c, rfl, rfl, hcs⟩ := hown.block (hown.ne hne)
    obtain ⟨cs, hc, hrd⟩ := hown.sl.cel
    have hh : Hol c off cs := Hol.rd (T := T) hrd hS.rd0
    have hb := hS.rd0 _ _ (one_at bb _)
    have hcap : xs.length * inf.size ≤ cap * inf.size := Nat.mul_le_mul_right _ hle
    have hk1 : p * inf.size + (xs.length - q) * inf.size ≤ xs.length * inf.size := by rw [← Nat.add_mul]; exact Nat.mul_le_mul_right _ (by omega)
    have hrun := run_append_room_src (P := P) (w := w) t tx ty T inf hu hi bb off p cap _ (xs.length - q) news hs (by omega) (fun j hj => by simp [World.cell?, hb]; omega) (fun j hj => by simp [World.frozen?, hb])
    have hS' := hS.setCells (off := off + p * inf.size) news (one_at bb _)
    rw [one_set] at hS'
    refine fin _ _ hrun hS' ?_
    have hnc : Cel inf.size rel I news (xs.drop q) := ⟨by rw [hlen]; exact hnl, hs.one, hel⟩
    refine Cel.own (((hc.take p).append hnc).append (hc.drop (p + (xs.length - q)))) (((hh.take _).apart (.inl ?_)).append (Hol.append ?_ ?_) |> fun hx => by rwa [List.append_assoc]) ?_ hown.sl.lt (by rw [wrt_size]; exact hcs)
    · rw [List.length_take]; omega
    · have e : (cs.take (p * inf.size)).length = p * inf.size := by rw [List.length_take, hc.len]; omega
      rw [e]
      exact Hol.wrt _ (by omega)
    · have e : (cs.take (p * inf.size)).length = p * inf.size := by rw [List.length_take, hc.len]; omega
      rw [e, hnl]
      have := (hh.drop ((p + (xs.length - q)) * inf.size)).apart (o := off + p * inf.size) (vs := news) (.inr (by rw [hnl, Nat.add_mul]; omega))
      rwa [Nat.add_mul, ← Nat.add_assoc, ← Nat.add_mul] at this
    · simp; omega
/-- Two slices that lie in blocks of their own do not overlap. -/
theorem run_over {tS tR e : TypeId} (ht : P.underlying tS = some (.slice e)) (hz : sizeIs P e = some sz) {b1 o1 b2 o2 : Nat} {c1 c2 : Array Value} {T1 T2 : Nat} (hS : St E w I (Gv.one b1 (.cells c1 T1 (0, 0)) :: Gv.one b2 (.cells c2 T2 (0, 0)) :: Os)) (hk : c1.size ≠ 0) (la ca lb cb : Nat) :
    (Extern.SlicesOverlaps.overlaps #[tS, tS] #[tR] #[.slice (some ⟨b2, o2, none⟩) la ca, .slice (some ⟨b1, o1, none⟩) lb cb]).run P w = .ok (.bool false) w := by
  have h1 := hS.rd0 _ _ (one_at b1 _)
  have h2 := hS.drop.rd0 _ _ (one_at b2 _)
  have hne : b2 ≠ b1 := by
    rintro rfl
    rcases (List.pairwise_cons.1 hS.dj).1 _ (List.mem_cons_self) b2 with h | h <;> rw [one_at] at h <;> cases h
  exact Lib.run_overlaps_apart w tS tR e ht sz (fun w => run_sizeOf hz) ⟨b2, o2, none⟩ ⟨b1, o1, none⟩ la ca lb cb hne T2 T1 c2.size c1.size (by simp [World.shape?, h2]) (by simp [World.shape?, h1]) hk (by simp [World.frozen?, h2]) (by simp [World.frozen?, h2])
theorem SlAt.take {H : Mem} {a : Option Addr} {cap : Nat} {xs : List α} (h : SlAt sz rel H I a cap xs) (k : Nat) : SlAt sz rel H I a cap (xs.take k) :=
  ⟨by have := h.le; rw [List.length_take]; omega, h.lt, fun i x hx => by
    rw [List.getElem?_take] at hx
    split at hx
    · exact h.el i x hx
    · cases hx⟩
/-- x[lo:hi] of a slice that lies in a block, up to its capacity. -/
theorem WO.sliceB {t : TypeId} {x : Operand} {lo hi : Option Operand} (ho : ops[i]? = some ⟨dst, .slice t x lo hi none, ty, pos, after, guard⟩) (hok : okAt n ops fr ⟨dst, .slice t x lo hi none, ty, pos, after, guard⟩ = true)
    {e : Nat} (ht : sliceOf P t = some e) (hsz : sizeIs P e = some sz) {b o len cap : Nat} (hx : ev fr x = .slice (some ⟨b, o, none⟩) len cap) (l' h' : Nat)
    (hlo : lo = none ∧ l' = 0 ∨ ∃ k q, lo = some q ∧ ev fr q = .int k (l' : Int)) (hhi : hi = none ∧ h' = len ∨ ∃ k q, hi = some q ∧ ev fr q = .int k (h' : Int)) (g1 : l' ≤ h') (g2 : h' ≤ cap) (g3 : l' < cap)
    (h : WO P n K qt z ops Q l (pt fr dst (.slice (some ⟨b, o + l' * sz, none⟩) (h' - l') (cap - l'))) w) : WO P n K qt z ops Q (i :: l) fr w := by
  refine WO.slice ho hok ht hsz hx (l' : Int) (h' : Int) (by omega) ?_ ?_ (by omega) (by omega) ?_
  · rcases hlo with ⟨h1, h2⟩ | h
    · exact .inl ⟨h1, by omega⟩
    · exact .inr h
  · rcases hhi with ⟨h1, h2⟩ | h
    · exact .inl ⟨h1, by omega⟩
    · exact .inr h
  · unfold subA
    rw [if_neg (by omega)]
    simpa only [Option.map_some, add_plain, Int.toNat_natCast] using h
/-- x[lo:hi:max] of a slice. -/
theorem run_slice3 {t e : Nat} (ht : sliceOf P t = some e) (hsz : sizeIs P e = some sz) (a : Option Addr) (len cap : Nat) {k1 k2 k3 : IntKind} {p q m : Nat} (h1 : p ≤ q) (h2 : q ≤ m) (h3 : m ≤ cap) :
    (Instr.sliceAt t (.slice a len cap) (some (.int k1 (p : Int))) (some (.int k2 (q : Int))) (some (.int k3 (m : Int)))).run P w = .ok (.slice (subA a m p sz) (q - p) (m - p)) w := by
  have hs := run_sizeOf (P := P) (w := w) hsz
  have hu := run_underlying' (P := P) (w := w) (sliceOf_eq ht)
  simp [Instr.sliceAt, Instr.slice, Instr.sliceBounds, Instr.sliceBound, asIntOf, hu, hs, h1, h2, h3, subA]
theorem WO.slice3 {t : TypeId} {x o1 o2 o3 : Operand} (ho : ops[i]? = some ⟨dst, .slice t x (some o1) (some o2) (some o3), ty, pos, after, guard⟩) (hok : okAt n ops fr ⟨dst, .slice t x (some o1) (some o2) (some o3), ty, pos, after, guard⟩ = true)
    {e : Nat} (ht : sliceOf P t = some e) (hsz : sizeIs P e = some sz) {a : Option Addr} {len cap : Nat} (hx : ev fr x = .slice a len cap) (p q m : Nat) {k1 k2 k3 : IntKind} (e1 : ev fr o1 = .int k1 (p : Int)) (e2 : ev fr o2 = .int k2 (q : Int)) (e3 : ev fr o3 = .int k3 (m : Int))
    (h1 : p ≤ q) (h2 : q ≤ m) (h3 : m ≤ cap) (h : WO P n K qt z ops Q l (pt fr dst (.slice (subA a m p sz) (q - p) (m - p))) w) : WO P n K qt z ops Q (i :: l) fr w := by
  refine WO.val ho hok _ (fun w' hw' => ?_) h
  simp only [execOp, hx, Option.map_some, e1, e2, e3]
  rw [run_bind (run_slice3 (P := P) (w := w') ht hsz a len cap h1 h2 h3)]
  rfl
theorem OwnSl.shorter {a : Option Addr} {cap : Nat} {xs : List α} (h : OwnSl T sz rel I C a cap xs) (k : Nat) : OwnSl T sz rel I C a cap (xs.take k) := ⟨h.sl.take k, h.own⟩
end
/-- What is put in at a place. -/
def insO {α : Type} (b : Nat) (xs : List α) (i : Int) (vs : List α) : Option (List α) := if 0 ≤ i ∧ i ≤ (xs.length : Int) ∧ (xs.length + vs.length) * b ≤ 140737488355328 then some (xs.take i.toNat ++ vs ++ xs.drop i.toNat) else none
theorem insO_some {α : Type} {b : Nat} {xs vs ys : List α} {i : Int} (h : insO b xs i vs = some ys) : ∃ k : Nat, i = (k : Int) ∧ k ≤ xs.length ∧ (xs.length + vs.length) * b ≤ 140737488355328 ∧ ys = xs.take k ++ vs ++ xs.drop k := by
  unfold insO at h
  split at h
  · rename_i hc
    injection h with h
    exact ⟨i.toNat, by omega, by omega, hc.2.2, h.symm⟩
  · cases h
theorem insO_eq {α : Type} {b : Nat} {xs vs : List α} {k : Nat} (h1 : k ≤ xs.length) (h2 : (xs.length + vs.length) * b ≤ 140737488355328) : insO b xs (k : Int) vs = some (xs.take k ++ vs ++ xs.drop k) := by
  unfold insO
  rw [if_pos ⟨by omega, by omega, h2⟩]
  rfl
/-- What is taken out. -/
theorem del_sub {α : Type} (Ds : List α) {p q : Nat} (h : p ≤ q) : (Ds.take p ++ Ds.drop q).Sublist Ds := by
  have h1 : (Ds.drop q).Sublist (Ds.drop p) := by
    have : Ds.drop q = (Ds.drop p).drop (q - p) := by rw [List.drop_drop]; congr 1; omega
    rw [this]
    exact List.drop_sublist ..
  have := (List.Sublist.refl (Ds.take p)).append h1
  rwa [List.take_append_drop] at this
end Go.Gv
