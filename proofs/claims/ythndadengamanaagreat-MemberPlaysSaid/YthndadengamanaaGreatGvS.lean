/- Sorted slices, and the keys of a map in order: the library's contracts, over own parts. Conditions: none. -/
import Derived.Test.YthndadengamanaaGreatGv24
import Derived.Shelf.SlIter.Nil
import Derived.Shelf.SortM.Plain
import Derived.Shelf.SortM.SortNone
namespace Go.Gv
open Go Go.Proofs
set_option linter.unusedVariables false
def bs (s : ByteArray) : List UInt8 := s.data.toList
def ub (l : List UInt8) : ByteArray := ⟨l.toArray⟩
theorem ub_bs (s : ByteArray) : ub (bs s) = s := by cases s; rfl
theorem bs_ub (l : List UInt8) : bs (ub l) = l := by simp [bs, ub]
/-- Texts, rising. -/
def sortS (xs : List ByteArray) : List ByteArray := ((xs.map bs).mergeSort fun x y => decide (x ≤ y)).map ub
def sortI (xs : List Int) : List Int := xs.mergeSort fun x y => decide (x ≤ y)
def sortSO (xs : List ByteArray) : Option (List ByteArray) := if xs.length < 4611686018427387904 then some (sortS xs) else none
def sortIO (xs : List Int) : Option (List Int) := if xs.length < 4611686018427387904 then some (sortI xs) else none
theorem sortS_len (xs : List ByteArray) : (sortS xs).length = xs.length := by simp [sortS]
theorem sortI_len (xs : List Int) : (sortI xs).length = xs.length := by simp [sortI]
section
variable {E w w' : World} {I : Mem} {Os : List Mem}
theorem St.grow (h : St E w I Os) (os : Array Obj) : St E (Go.Sort.grow w os) I Os := by
  have key : ∀ {H : Mem}, Rdb w H → Rdb (Go.Sort.grow w os) H := by
    intro H hH b o hb
    have hlt := hH.lt hb
    show (w.heap ++ os)[b]? = _
    rw [Array.getElem?_append_left hlt]
    exact hH b o hb
  exact ⟨h.os, h.tape, h.output, key h.im, fun C hC => ⟨key (h.ow C hC).1, (h.ow C hC).2⟩, h.dj⟩
theorem St.below (h : St E w I Os) (hb : RowKit.Below w.heap.size w w') : St E w' I Os := by
  have key : ∀ {H : Mem}, Rdb w H → Rdb w' H := by
    intro H hH b o hbo
    rw [hb.block b (hH.lt hbo)]
    exact hH b o hbo
  exact ⟨hb.os.trans h.os, hb.tape.trans h.tape, hb.output.trans h.output, key h.im, fun C hC => ⟨key (h.ow C hC).1, (h.ow C hC).2⟩, h.dj⟩
/-- A new block is written no more. -/
theorem St.fresh (h : St E w I Os) (hb : RowKit.Below w.heap.size w w') {g : Nat} {o : Obj} (hg : w'.heap[g]? = some o) (hge : w.heap.size ≤ g) : St E w' (I.with (one g o)) Os := by
  have h' := h.below hb
  have hn : ∀ {H : Mem}, Rdb w H → H g = none := fun hH => hH.none_of_ge hge
  refine ⟨h'.os, h'.tape, h'.output, ?_, fun C hC => ⟨(h'.ow C hC).1, fun b => ?_⟩, h'.dj⟩
  · intro b u hbu
    cases hi : I b with
    | some v => simp [Mem.with, hi] at hbu; subst hbu; exact h'.im b v hi
    | none =>
      simp [Mem.with, hi] at hbu
      obtain ⟨rfl, rfl⟩ := one_some hbu
      exact hg
  · rcases (h'.ow C hC).2 b with e | e
    · exact .inl e
    · by_cases hbg : b = g
      · subst hbg
        exact .inl (hn (h.ow C hC).1)
      · exact .inr (by simp [Mem.with, e, one_ne hbg])
variable {α β : Type} {P : Program} {f T : Nat} {C : Mem} {a : Option Addr} {cap : Nat}
theorem sort_own {enc : α → Value} {g : β → α} {gi : α → β} {rel : Mem → List Value → β → Prop} [Inhabited α] (srt : List α → List α) (hlen : ∀ zs, (srt zs).length = zs.length) (hrel : ∀ I cs x, rel I cs x ↔ cs = [enc (g x)]) (hgi : ∀ z, enc (g (gi z)) = enc z)
    (hcall : ∀ (blk off cap : Nat) (zs : List α) (w : World), Go.Sort.Holds enc w blk off zs.toArray → blk < w.heap.size → zs.length < 4611686018427387904 →
      Calls P f #[.slice (some ⟨blk, off, none⟩) zs.length cap] w fun e w' => e = .returned (.tuple #[]) ∧ ∃ n os, w' = Go.Sort.grow (Go.Sort.putRow enc (Go.Sort.ahead w n) blk off (srt zs).toArray) os)
    (hnone : ∀ (p : Option Addr) (cap : Nat) (w : World), Calls P f #[.slice p 0 cap] w fun e w' => e = .returned (.tuple #[]) ∧ w' = w)
    {xs : List β} (h : OwnSl T 1 rel I C a cap xs) (hS : St E w I (C :: Os)) (hsm : xs.length < 4611686018427387904) :
    Calls P f #[.slice a xs.length cap] w fun e w' => ∃ C', e = .returned (.tuple #[]) ∧ St E w' I (C' :: Os) ∧ OwnSl T 1 rel I C' a cap ((srt (xs.map g)).map gi) := by
  cases hxs : xs with
  | nil =>
    subst hxs
    refine (hnone a cap w).mono ?_
    rintro e w' ⟨rfl, rfl⟩
    refine ⟨C, rfl, hS, ?_⟩
    have : srt (([] : List β).map g) = [] := List.eq_nil_of_length_eq_zero (by rw [hlen]; rfl)
    rw [this]
    exact h
  | cons x0 r =>
    rw [← hxs]
    obtain ⟨c, rfl, ha, hs⟩ := h.at_ (i := 0) (x := x0) (by rw [hxs]; rfl)
    generalize hb : bl a = b at *
    generalize ho : of a = off at *
    subst ha
    have hw := hS.rd0 b _ (one_at b _)
    have hbl : b < w.heap.size := (Array.getElem?_eq_some_iff.1 hw).1
    have hcell : ∀ j x, xs[j]? = some x → c[off + j]? = some (enc (g x)) := by
      intro j x hx
      obtain ⟨_, cs, _, hr, hc⟩ := h.sl.el j x hx
      rw [hrel] at hr
      subst hr
      obtain ⟨c2, T2, fz, hb2, hget⟩ := hc
      have e1 : bl (some (⟨b, off, none⟩ : Addr)) = b := rfl
      rw [e1, one_at] at hb2
      injection hb2 with hb2
      injection hb2 with h1 h2 h3
      subst h1
      have := hget 0 _ rfl
      simpa [of] using this
    have hle := h.sl.le
    have hH : Go.Sort.Holds enc w b off (xs.map g).toArray := by
      intro j hj
      have hj' : j < xs.length := by simpa using hj
      refine ⟨?_, by simp [World.frozen?, hw]⟩
      have := hcell j xs[j] (List.getElem?_eq_getElem hj')
      simp [World.cell?, hw, this, hj']
    have hcl := hcall b off cap (xs.map g) w hH hbl (by simpa using hsm)
    rw [List.length_map] at hcl
    refine hcl.mono ?_
    rintro e w' ⟨rfl, n, os, rfl⟩
    have hput : St E (Go.Sort.putRow enc (Go.Sort.ahead w n) b off (srt (xs.map g)).toArray) I (one b (.cells (Go.Sort.putCells enc off (srt (xs.map g)).toArray c) T (0, 0)) :: Os) := by
      have := hS.put (one_at b _) (o' := .cells (Go.Sort.putCells enc off (srt (xs.map g)).toArray c) T (0, 0)) (w' := Go.Sort.putRow enc (Go.Sort.ahead w n) b off (srt (xs.map g)).toArray) rfl rfl rfl (by
        simp [Go.Sort.putRow, Go.Sort.mapBlock, Go.Sort.ahead, Array.getElem?_modify, hw, Go.Sort.onCells]) (fun i hi => by
        simp only [Go.Sort.putRow, Go.Sort.mapBlock, Go.Sort.ahead, Array.getElem?_modify]
        rw [if_neg (fun e => hi e.symm)])
      rwa [one_set] at this
    refine ⟨_, rfl, hput.grow os, ⟨⟨by simp [hlen]; exact hle, h.sl.lt, ?_⟩, .inr ⟨b, off, _, rfl, rfl, by simp only [Go.Sort.putCells, Array.size_mapIdx]; exact hs⟩⟩⟩
    intro i y hy
    refine ⟨rfl, [enc (g y)], rfl, (hrel _ _ _).2 rfl, _, _, _, one_at _ _, ?_⟩
    intro j v hj
    have hj0 : j = 0 := by
      have := (List.getElem?_eq_some_iff.1 hj).1
      simpa using this
    subst hj0
    simp at hj
    subst hj
    have hil : i < (srt (xs.map g)).length := by
      have := (List.getElem?_eq_some_iff.1 hy).1
      simpa using this
    have hil2 : i < xs.length := by rw [hlen] at hil; simpa using hil
    have hci : off + i < c.size := by omega
    rw [List.getElem?_map, List.getElem?_eq_getElem hil] at hy
    simp at hy
    subst hy
    show (Go.Sort.putCells enc off (srt (xs.map g)).toArray c)[off + i * 1 + 0]? = _
    simp only [Nat.mul_one, Nat.add_zero, Go.Sort.putCells, Array.getElem?_mapIdx, List.size_toArray, hgi]
    rw [Array.getElem?_eq_getElem hci]
    simp [hil]
end
/-- The keys of a map, rising. -/
def KB : Nat := 8796093022208
def keysO {ν : Type} (l : List (ByteArray × ν)) : Option (List ByteArray) :=
  if (l.map (·.1)).Nodup ∧ l.length ≤ 8796093022208 ∧ (∀ k ∈ l.map (·.1), k.size ≤ maxLen) then some (sortS (l.map (·.1))) else none
section
open Go.WideElems
theorem own_map {ν : Type} {val : Mem → Value → ν → Prop} {I C : Mem} {m : Nat} {l : List (ByteArray × ν)} (h : OwnMap Value.string val I C m l) {P : Program} {kt : Nat} (hk : P.underlying kt = some .string) (hnd : (l.map (·.1)).Nodup) (hlen : l.length ≤ 8796093022208) (hsz : ∀ k ∈ l.map (·.1), k.size ≤ maxLen)
    {w : World} (hw : Rdb w C) : ∃ D0 : DataW Unit, w.ownsMap P kt (fun _ => some (.nil, [])) m l.length D0 ∧ Maps.size D0 = l.length ∧ (strKeys D0).Perm ((l.map (·.1)).map bs) := by
  obtain ⟨es, clock, rfl, h2, h3, h4, h5⟩ := h.ex
  have hkeys : es.toList.map (·.key) = (l.map (·.1)).map Value.string := by rw [h2, List.map_map]; rfl
  have hsize : es.size = l.length := by have := congrArg List.length h2; simpa using this
  have hkey : ∀ x ∈ es.toList, ∃ s, s ∈ l.map (·.1) ∧ x.key = .string s := by
    intro x hx
    have : x.key ∈ es.toList.map (·.key) := List.mem_map.2 ⟨x, hx, rfl⟩
    rw [hkeys] at this
    obtain ⟨s, hs, e⟩ := List.mem_map.1 this
    exact ⟨s, hs, e.symm⟩
  have hko : ∀ s : ByteArray, s.size ≤ maxLen → keyOf P kt (.string s) = some (.string s.data.toList) := by
    intro s hs
    simp [keyOf, mapKey, hk, hs]
  have hrd : ∀ x ∈ es.toList, ∀ s, x.key = .string s → s.size ≤ maxLen → rd (H := Unit) P kt (fun _ => some (.nil, [])) x = some (.string s.data.toList, .nil) := by
    intro x hx s e hs
    unfold rd
    rw [e, hko s hs]
    rfl
  refine ⟨.map ((es.toList.map (rg P kt (fun _ => some (.nil, [])))).foldr DataW.insert []), ⟨es, clock, hw m _ (one_at m _), ⟨by simp only [hsize, maxLen]; omega, ⟨h4, h5, ?_⟩, ?_⟩, by omega, rfl⟩, ?_, ?_⟩
  · rw [hkeys]
    exact List.Pairwise.map _ (fun a b hab e => hab (by injection e)) hnd
  · intro x hx
    obtain ⟨s, hs, e⟩ := hkey x hx
    exact ⟨_, hrd x hx s e (hsz s hs)⟩
  · show ((es.toList.map _).foldr DataW.insert []).length = _
    rw [length_sorted]
    simp [hsize]
  · show (((es.toList.map _).foldr DataW.insert []).map fun p => strOf p.1).Perm _
    refine ((WideShapes.sorted_perm _).map _).trans ?_
    rw [List.map_map]
    have : es.toList.map ((fun p : Lit × DataW Unit => strOf p.1) ∘ rg P kt (fun _ => some (.nil, []))) = (l.map (·.1)).map bs := by
      have e2 : (l.map (·.1)).map bs = (es.toList.map (·.key)).map (fun v => match v with | .string s => bs s | _ => []) := by
        rw [hkeys]
        simp
      rw [e2, List.map_map]
      refine List.map_congr_left fun x hx => ?_
      obtain ⟨s, hs, e⟩ := hkey x hx
      simp only [Function.comp, rg, hrd x hx s e (hsz s hs), Option.getD_some, e]
      rfl
    rw [this]
/-- The keys in order, as a new slice. -/
theorem keys_own {ν : Type} {val : Mem → Value → ν → Prop} {E w : World} {I C : Mem} {Os : List Mem} {m Bm T : Nat} {l : List (ByteArray × ν)} (h : OwnMap Value.string val I C m l) (hS : St E w I (one Bm (.cells #[.map (some m)] T (0, 0)) :: C :: Os)) {P : Program} {f g kt : Nat} (hk : P.underlying kt = some .string)
    (hcall : ∀ (b nn : Nat) (D0 : DataW Unit) (R : Value → Option (DataW Unit × List MemPlace)) (w : World), Bm < w.heap.size → w.cell? ⟨Bm, 0, none⟩ = some (.map (some b)) → w.ownsMap P kt R b nn D0 → Maps.size D0 ≤ maxLen → Maps.size D0 * 16 ≤ 140737488355328 →
      Calls P f #[.func (.func g) #[] #[.pointer (some ⟨Bm, 0, none⟩)]] w fun e w' => ∃ (v : Value) (ss : List (List UInt8)), e = .returned v ∧ ss.Perm (strKeys D0) ∧
        w'.ownsRow w.heap.size kt 1 v ss.length ((ss.mergeSort (fun x y => decide (x ≤ y))).map encStr) ∧ (v = .slice none 0 0 ↔ ss = []) ∧ RowKit.Below w.heap.size w w')
    {r : List ByteArray} (hr : keysO l = some r) :
    Calls P f #[.func (.func g) #[] #[.pointer (some ⟨Bm, 0, none⟩)]] w fun e w' => ∃ (I' : Mem) (a : Option Addr) (c : Nat), e = .returned (.slice a r.length c) ∧ I.Le I' ∧ St E w' I' (one Bm (.cells #[.map (some m)] T (0, 0)) :: C :: Os) ∧ RSl 1 RStr I' a c r := by
  unfold keysO at hr
  split at hr
  · rename_i hc
    obtain ⟨hnd, hlen, hsz⟩ := hc
    injection hr with hr
    subst hr
    obtain ⟨D0, hown, hds, hperm⟩ := own_map h hk hnd hlen hsz (hS.drop.rd0)
    have hw := hS.rd0 Bm _ (one_at Bm _)
    have hbl : Bm < w.heap.size := (Array.getElem?_eq_some_iff.1 hw).1
    refine (hcall m l.length D0 _ w hbl (by simp [World.cell?, hw]) hown (by rw [hds]; simp only [maxLen]; omega) (by rw [hds]; omega)).mono ?_
    rintro e w' ⟨v, ss, rfl, hss, hrow, hnil, hb⟩
    have hsort : (ss.mergeSort fun x y => decide (x ≤ y)) = (((l.map (·.1)).map bs).mergeSort fun x y => decide (x ≤ y)) := mergeSort_of_perm (hss.trans hperm)
    have hsl : (sortS (l.map (·.1))).length = ss.length := by rw [sortS_len]; have := (hss.trans hperm).length_eq; simpa using this.symm
    rcases hrow.2 with ⟨rfl, hz⟩ | ⟨gb, cap, cur, rfl, hbase, hgb, r1, r2, r3, r4⟩
    · have : sortS (l.map (·.1)) = [] := List.eq_nil_of_length_eq_zero (by rw [hsl]; exact hz)
      rw [this]
      exact ⟨I, none, 0, rfl, Mem.Le.refl _, hS.below hb, SlAt.nil⟩
    · refine ⟨_, some ⟨gb, 0, none⟩, cap, by rw [hsl], Mem.le_with _ _, hS.fresh hb hgb hbase, ⟨by rw [hsl]; exact r1, ?_, ?_⟩⟩
      · simp only [maxLen] at r2
        unfold big
        omega
      · intro i x hx
        refine ⟨rfl, [.string x], rfl, rfl, cur, kt, (0, 0), ?_, ?_⟩
        · show (I.with (one gb _)) gb = _
          have : I gb = none := hS.im.none_of_ge hbase
          simp [Mem.with, this, one_at]
        · intro j u hj
          have hj0 : j = 0 := by
            have := (List.getElem?_eq_some_iff.1 hj).1
            simpa using this
          subst hj0
          simp at hj
          subst hj
          have hil : i < ss.length := by
            have := (List.getElem?_eq_some_iff.1 hx).1
            omega
          have h5 : (cur.toList.take (ss.length * 1))[i]? = some (.string x) := by
            rw [r4, hsort]
            unfold sortS at hx
            rw [List.getElem?_map] at hx
            cases hq : (((l.map (·.1)).map bs).mergeSort fun x y => decide (x ≤ y))[i]? with
            | none => rw [hq] at hx; cases hx
            | some z =>
              rw [hq] at hx
              simp at hx
              subst hx
              rw [List.getElem?_map, hq]
              rfl
          rw [List.getElem?_take] at h5
          split at h5
          · show cur[of (some (⟨gb, 0, none⟩ : Addr)) + i * 1 + 0]? = _
            simpa [of] using h5
          · cases h5
  · cases hr
end
end Go.Gv
