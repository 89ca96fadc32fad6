/- Maps that are owned: look-ups, stores, deletes, the number of entries. Conditions: none. -/
import Derived.Test.YthndadengamanaaGreatGv9
namespace Go.Gv
open Go

/-! ### Plain words -/
section
variable {κ ν : Type} (eq : κ → κ → Bool)
def mpos (k : κ) : List κ → Option Nat
  | [] => none
  | a :: r => if eq k a then some 0 else (mpos k r).map (· + 1)
def mget (l : List (κ × ν)) (k : κ) : Option ν := (mpos eq k (l.map (·.1))).bind fun i => (l[i]?).map (·.2)
def mhas (l : List (κ × ν)) (k : κ) : Bool := (mpos eq k (l.map (·.1))).isSome
def mset (l : List (κ × ν)) (k : κ) (v : ν) : List (κ × ν) := match mpos eq k (l.map (·.1)) with
  | some i => l.set i (k, v)
  | none => l ++ [(k, v)]
def mdel (l : List (κ × ν)) (k : κ) : List (κ × ν) := match mpos eq k (l.map (·.1)) with
  | some i => l.eraseIdx i
  | none => l
end
theorem mpos_lt {κ : Type} {eq : κ → κ → Bool} {k : κ} : ∀ {l : List κ} {i : Nat}, mpos eq k l = some i → i < l.length ∧ ∃ a, l[i]? = some a ∧ eq k a = true
  | [], i, h => by cases h
  | a :: r, i, h => by
    simp only [mpos] at h
    split at h
    · rename_i he
      injection h with h
      subst h
      exact ⟨by simp, a, rfl, he⟩
    · cases hm : mpos eq k r with
      | none => rw [hm] at h; cases h
      | some j =>
        rw [hm] at h
        simp only [Option.map_some, Option.some.injEq] at h
        subst h
        obtain ⟨h1, b, h2, h3⟩ := mpos_lt hm
        exact ⟨by simp; omega, b, by simpa using h2, h3⟩

theorem erase_map {α β : Type} (f : α → β) : ∀ (l : List α) (i : Nat), (l.map f).eraseIdx i = (l.eraseIdx i).map f
  | [], i => by simp
  | a :: r, 0 => rfl
  | a :: r, i + 1 => by simp [erase_map f r i]
/-- What a type of keys must do. -/
structure KeyLaw (P : Program) {κ : Type} (kt : TypeId) (enc : κ → Value) (eq : κ → κ → Bool) : Prop where
  check : ∀ (empty : Bool) (k : κ) (w : World), (Instr.checkKey empty 10000 kt (enc k)).run P w = .ok () w
  find : ∀ (k : κ) (w : World) (es : List MapEntry) (ks : List κ), es.map (·.key) = ks.map enc → (Instr.findKey kt (enc k) es).run P w = .ok ((mpos eq k ks).bind fun i => (es[i]?).map fun e => (i, e.val)) w
  same : ∀ a b : κ, eq b a = true → Instr.sameBits 10000 (enc a) (enc b) = true
theorem findAsking_run {P : Program} {κ : Type} {kt : TypeId} {enc : κ → Value} {eq : κ → κ → Bool} (k : κ) (w : World) (he : ∀ a : κ, (Op.equal kt (enc k) (enc a)).run P w = .ok (eq k a) w) :
    ∀ (es : List MapEntry) (ks : List κ) (n : Nat), es.map (·.key) = ks.map enc → (Instr.findAsking kt (enc k) es n).run P w = .ok ((mpos eq k ks).bind fun i => (es[i]?).map fun e => (n + i, e.val)) w
  | [], ks, n, h => by
    cases ks with
    | nil => rfl
    | cons a r => cases h
  | e :: es, ks, n, h => by
    cases ks with
    | nil => cases h
    | cons a r =>
      simp only [List.map_cons, List.cons.injEq] at h
      have ha : (Op.equal kt (enc k) e.key).run P w = .ok (eq k a) w := by rw [h.1]; exact he a
      simp only [Instr.findAsking]
      rw [run_bind ha]
      simp only [mpos]
      cases hq : eq k a with
      | true => simp [pure]
      | false =>
        simp only [Bool.false_eq_true, if_false]
        rw [findAsking_run k w he es r (n + 1) h.2]
        cases mpos eq k r with
        | none => rfl
        | some j =>
          simp only [Option.map_some, Option.bind_some, List.getElem?_cons_succ]
          congr 2
          funext e
          congr 1
          omega
/-- Keys that are structs. -/
theorem keyLaw_struct {P : Program} {κ : Type} {kt : TypeId} {enc : κ → Value} {eq : κ → κ → Bool} {fs : Array Field} (hu : P.underlying kt = some (.struct fs)) (hc : ∀ (empty : Bool) (k : κ) (w : World), (Instr.checkKey empty 10000 kt (enc k)).run P w = .ok () w)
    (he : ∀ a b : κ, eqV P 50 kt (enc a) (enc b) = some (eq a b)) (hs : ∀ a b : κ, eq b a = true → Instr.sameBits 10000 (enc a) (enc b) = true) : KeyLaw P kt enc eq where
  check := hc
  same := hs
  find := by
    intro k w es ks h
    unfold Instr.findKey
    rw [run_bind (run_underlying' hu)]
    cases es with
    | nil =>
      cases ks with
      | nil => rfl
      | cons a r => cases h
    | cons e es =>
      have : Instr.findNow (.struct fs) (enc k) (e :: es) 0 = none := by simp [Instr.findNow, Instr.sameNow]
      rw [this]
      have := findAsking_run (P := P) (kt := kt) (enc := enc) (eq := eq) k w (fun a => eqV_run 50 kt _ _ _ (he k a) 10000 (by omega)) (e :: es) ks 0 h
      simpa using this
theorem findNow_run {κ : Type} {kind : TypeDesc} {enc : κ → Value} {eq : κ → κ → Bool} (k : κ) (he : ∀ a : κ, Instr.sameNow kind (enc k) (enc a) = some (eq k a)) :
    ∀ (es : List MapEntry) (ks : List κ) (n : Nat), es.map (·.key) = ks.map enc → Instr.findNow kind (enc k) es n = some ((mpos eq k ks).bind fun i => (es[i]?).map fun e => (n + i, e.val))
  | [], ks, n, h => by
    cases ks with
    | nil => rfl
    | cons a r => cases h
  | e :: es, ks, n, h => by
    cases ks with
    | nil => cases h
    | cons a r =>
      simp only [List.map_cons, List.cons.injEq] at h
      simp only [Instr.findNow, h.1, he a, mpos]
      cases hq : eq k a with
      | true => simp
      | false =>
        simp only [Bool.false_eq_true, if_false]
        rw [findNow_run k he es r (n + 1) h.2]
        cases mpos eq k r with
        | none => rfl
        | some j =>
          simp only [Option.map_some, Option.bind_some, List.getElem?_cons_succ]
          congr 2
          funext e
          congr 1
          omega
theorem keyLaw_now {P : Program} {κ : Type} {kt : TypeId} {kind : TypeDesc} {enc : κ → Value} {eq : κ → κ → Bool} (hu : P.underlying kt = some kind) (hc : ∀ (empty : Bool) (k : κ) (w : World), (Instr.checkKey empty 10000 kt (enc k)).run P w = .ok () w)
    (he : ∀ a b : κ, Instr.sameNow kind (enc a) (enc b) = some (eq a b)) (hs : ∀ a b : κ, eq b a = true → Instr.sameBits 10000 (enc a) (enc b) = true) : KeyLaw P kt enc eq where
  check := hc
  same := hs
  find := by
    intro k w es ks h
    unfold Instr.findKey
    rw [run_bind (run_underlying' hu), findNow_run k (he k) es ks 0 h]
    simp [pure]

/-! ### A map that is owned -/
def valA {ν : Type} (rel : Mem → List Value → ν → Prop) (I : Mem) (v : Value) (x : ν) : Prop := ∃ cs, v = .agg cs.toArray ∧ rel I cs x
def val1 {ν : Type} (rel : Mem → List Value → ν → Prop) (I : Mem) (v : Value) (x : ν) : Prop := rel I [v] x
class VMono {ν : Type} (val : Mem → Value → ν → Prop) : Prop where
  mono : ∀ {I J : Mem} {v : Value} {x : ν}, I.Le J → val I v x → val J v x
instance {ν : Type} {rel : Mem → List Value → ν → Prop} [Mono rel] : VMono (valA rel) := ⟨fun hl ⟨cs, e, h⟩ => ⟨cs, e, Mono.mono hl h⟩⟩
instance {ν : Type} {rel : Mem → List Value → ν → Prop} [Mono rel] : VMono (val1 rel) := ⟨fun hl h => Mono.mono (rel := rel) hl h⟩
structure OwnMap {κ ν : Type} (enc : κ → Value) (val : Mem → Value → ν → Prop) (I C : Mem) (m : Nat) (l : List (κ × ν)) : Prop where
  ex : ∃ (es : Array MapEntry) (clock : Nat), C = one m (.map es clock) ∧ es.toList.map (·.key) = l.map (fun p => enc p.1) ∧
    (∀ (i : Nat) (e : MapEntry) (p : κ × ν), es[i]? = some e → l[i]? = some p → val I e.val p.2) ∧ (∀ e ∈ es.toList, e.born < clock) ∧ (es.toList.map (·.born)).Nodup
section
variable {κ ν : Type} {enc : κ → Value} {val : Mem → Value → ν → Prop} {I J C : Mem} {m : Nat} {l : List (κ × ν)} {eq : κ → κ → Bool} {P : Program} {w : World}
theorem OwnMap.mono [VMono val] (h : OwnMap enc val I C m l) (hl : I.Le J) : OwnMap enc val J C m l := by
  obtain ⟨es, clock, h1, h2, h3, h4⟩ := h.ex
  exact ⟨es, clock, h1, h2, fun i e p he hp => VMono.mono hl (h3 i e p he hp), h4⟩
theorem OwnMap.nil : OwnMap enc val I (one m (.map #[] 0)) m ([] : List (κ × ν)) := ⟨#[], 0, rfl, rfl, fun i e p he => by simp at he, fun e he => by simp at he, by simp⟩
theorem run_getObj {r : Nat} {es : Array MapEntry} {clock : Nat} (h : w.heap[r]? = some (.map es clock)) : (getObj r).run P w = .ok (.map es clock) w := by
  simp [getObj, Sem.run, h]
/-- v := m[k]; v, ok := m[k]. -/
theorem OwnMap.lookup (h : OwnMap enc val I C m l) {t kt et : Nat} (ht : P.underlying t = some (.map kt et)) (kl : KeyLaw P kt enc eq) (k : κ) {zv : Value} {z0 : ν} (hz : (P.info? et).bind (·.zero) = some zv) (hz0 : val I zv z0) :
    ∃ v, val I v ((mget eq l k).getD z0) ∧ ∀ w, Rdb w C → ∀ ok : Bool, (Instr.lookup t (.map (some m)) (enc k) ok).run P w = .ok (if ok then .tuple #[v, .bool (mhas eq l k)] else v) w := by
  obtain ⟨es, clock, rfl, h2, h3, h4, h5⟩ := h.ex
  have hlen : es.size = l.length := by have := congrArg List.length h2; simpa using this
  have hzr : ∀ w, (zeroValue et).run P w = .ok zv w := by
    intro w
    cases hi : P.info? et with
    | none => simp [hi] at hz
    | some i => simp [hi] at hz; simp [zeroValue, typeInfo, hi, hz]
  have hmap : es.toList.map (·.key) = (l.map (·.1)).map enc := by rw [h2, List.map_map]; rfl
  cases hp : mpos eq k (l.map (·.1)) with
  | none =>
    refine ⟨zv, by simpa [mget, hp] using hz0, fun w hw ok => ?_⟩
    have hf := kl.find k w es.toList _ hmap
    rw [hp] at hf
    simp only [Option.bind_none] at hf
    have hg := run_getObj (P := P) (hw m _ (one_at m _))
    cases ok <;> simp [Instr.lookup, run_underlying' ht, hg, kl.check, hf, hzr, mhas, hp]
  | some i =>
    obtain ⟨hlt, a, ha, hq⟩ := mpos_lt hp
    simp only [List.length_map] at hlt
    have hes : es[i]? = some (es[i]'(by omega)) := Array.getElem?_eq_getElem (by omega)
    have hl : l[i]? = some l[i] := List.getElem?_eq_getElem hlt
    refine ⟨(es[i]'(by omega)).val, by simpa [mget, hp, hl] using h3 i _ _ hes hl, fun w hw ok => ?_⟩
    have hf := kl.find k w es.toList _ hmap
    rw [hp] at hf
    simp only [Option.bind_some, Array.getElem?_toList, hes, Option.map_some] at hf
    have hg := run_getObj (P := P) (hw m _ (one_at m _))
    cases ok <;> simp [Instr.lookup, run_underlying' ht, hg, kl.check, hf, mhas, hp]

theorem St.setObj {E : World} {Os : List Mem} {es es' : Array MapEntry} {clock clock' : Nat} (hS : St E w I (one m (.map es clock) :: Os)) :
    (setObj m (.map es' clock')).run P w = .ok () { w with heap := w.heap.setIfInBounds m (.map es' clock') } ∧ St E { w with heap := w.heap.setIfInBounds m (.map es' clock') } I (one m (.map es' clock') :: Os) := by
  have hm := hS.rd0 m _ (one_at m _)
  refine ⟨by simp [Go.setObj, Sem.run, hm], ?_⟩
  have := hS.put (one_at m _) (o' := .map es' clock') (w' := { w with heap := w.heap.setIfInBounds m (.map es' clock') }) rfl rfl rfl (by
    have hlt := (Array.getElem?_eq_some_iff.1 hm).1
    simp [Array.getElem?_setIfInBounds, hlt]) (fun i hi => by
    simp only [Array.getElem?_setIfInBounds]
    rw [if_neg (fun e => hi e.symm)])
  rwa [one_set] at this
/-- m[k] = v. -/
theorem OwnMap.update {E : World} {Os : List Mem} (h : OwnMap enc val I C m l) (hS : St E w I (C :: Os)) {t kt et : Nat} (ht : P.underlying t = some (.map kt et)) (kl : KeyLaw P kt enc eq) (k : κ) {v : Value} {x : ν} (hv : val I v x) :
    ∃ w' C', (Instr.mapUpdate t (.map (some m)) (enc k) v).run P w = .ok () w' ∧ St E w' I (C' :: Os) ∧ OwnMap enc val I C' m (mset eq l k x) := by
  obtain ⟨es, clock, rfl, h2, h3, h4, h5⟩ := h.ex
  have hlen : es.size = l.length := by have := congrArg List.length h2; simpa using this
  have hmap : es.toList.map (·.key) = (l.map (·.1)).map enc := by rw [h2, List.map_map]; rfl
  have hw := hS.rd0 m _ (one_at m _)
  have hf := kl.find k w es.toList _ hmap
  cases hp : mpos eq k (l.map (·.1)) with
  | none =>
    rw [hp] at hf
    simp only [Option.bind_none] at hf
    obtain ⟨r1, r2⟩ := hS.setObj (P := P) (es' := es.push { key := enc k, val := v, born := clock }) (clock' := clock + 1)
    refine ⟨_, _, ?_, r2, ⟨_, _, rfl, ?_, ?_, ?_, ?_⟩⟩
    · simp only [Instr.mapUpdate]
      rw [run_bind (run_underlying' ht)]
      simp only
      rw [run_bind (run_getObj hw)]
      simp only
      rw [run_bind (kl.check _ k w), run_bind hf]
      exact r1
    · simp [mset, hp, h2]
    · intro i e p he hpp
      simp only [mset, hp] at hpp
      rw [Array.getElem?_push] at he
      rw [List.getElem?_append] at hpp
      by_cases hi : i = es.size
      · subst hi
        rw [if_pos rfl] at he
        rw [if_neg (by omega)] at hpp
        simp [hlen] at hpp
        injection he with he
        subst he
        subst hpp
        exact hv
      · rw [if_neg hi] at he
        have hlt : i < es.size := (Array.getElem?_eq_some_iff.1 he).1
        rw [if_pos (by omega)] at hpp
        exact h3 i e p he hpp
    · intro e he
      simp at he
      rcases he with he | rfl
      · have := h4 e (by simpa using he); omega
      · simp
    · simp only [Array.toList_push, List.map_append, List.map_cons, List.map_nil]
      rw [List.nodup_append]
      refine ⟨h5, by simp, ?_⟩
      intro a ha b hb
      simp at hb
      subst hb
      obtain ⟨e, he, rfl⟩ := List.mem_map.1 ha
      have := h4 e he
      omega
  | some i =>
    obtain ⟨hlt, a, ha, hq⟩ := mpos_lt hp
    simp only [List.length_map] at hlt
    have hes : es[i]? = some (es[i]'(by omega)) := Array.getElem?_eq_getElem (by omega)
    rw [hp] at hf
    simp only [Option.bind_some, Array.getElem?_toList, hes, Option.map_some] at hf
    have hkey : (es[i]'(by omega)).key = enc a := by
      have := congrArg (fun l => l[i]?) hmap
      simp only [List.getElem?_map, Array.getElem?_toList, hes, Option.map_some] at this
      rw [List.getElem?_map] at ha
      rw [ha] at this
      simpa using this
    have hsame := kl.same a k hq
    obtain ⟨r1, r2⟩ := hS.setObj (P := P) (es' := es.modify i fun e => { e with key := enc k, val := v }) (clock' := clock)
    refine ⟨_, _, ?_, r2, ⟨_, _, rfl, ?_, ?_, ?_, ?_⟩⟩
    · simp only [Instr.mapUpdate]
      rw [run_bind (run_underlying' ht)]
      simp only
      rw [run_bind (run_getObj hw)]
      simp only
      rw [run_bind (kl.check _ k w), run_bind hf]
      simp only
      rw [run_bind (a := enc k) (w' := w) (by
        simp only [hes, Option.map_some, Option.getD_some, hkey, Instr.keyThatStays, hsame, if_true]
        rfl)]
      exact r1
    · apply List.ext_getElem?
      intro j
      simp only [mset, hp, List.getElem?_map, Array.getElem?_toList, Array.getElem?_modify, List.getElem?_set]
      by_cases hj : i = j
      · subst hj
        simp [hes, hlt]
      · rw [if_neg hj, if_neg hj]
        have := congrArg (fun l => l[j]?) h2
        simpa [List.getElem?_map] using this
    · intro j e p he hpp
      simp only [mset, hp, List.getElem?_set] at hpp
      rw [Array.getElem?_modify] at he
      by_cases hj : i = j
      · subst hj
        rw [if_pos rfl] at he
        rw [if_pos rfl, if_pos hlt] at hpp
        injection hpp with hpp
        subst hpp
        rw [hes] at he
        simp at he
        subst he
        exact hv
      · rw [if_neg hj] at he hpp
        exact h3 j e p he hpp
    · intro e he
      obtain ⟨j, hj⟩ := List.mem_iff_getElem?.1 he
      rw [Array.getElem?_toList, Array.getElem?_modify] at hj
      split at hj
      · rename_i hij
        subst hij
        rw [hes] at hj
        simp at hj
        subst hj
        exact h4 (es[i]'(by omega)) (by simp)
      · exact h4 e (List.mem_iff_getElem?.2 ⟨j, by rw [Array.getElem?_toList]; exact hj⟩)
    · have : (es.modify i fun e => { e with key := enc k, val := v }).toList.map (·.born) = es.toList.map (·.born) := by
        apply List.ext_getElem?
        intro j
        simp only [List.getElem?_map, Array.getElem?_toList, Array.getElem?_modify]
        split
        · rename_i hij
          subst hij
          rw [hes]; rfl
        · rfl
      rw [this]; exact h5
/-- delete(m, k). -/
theorem OwnMap.delete {E : World} {Os : List Mem} (h : OwnMap enc val I C m l) (hS : St E w I (C :: Os)) {t kt et ty : Nat} {ats : Array Nat} (ha : ats[0]? = some t) (ht : P.underlying t = some (.map kt et)) (kl : KeyLaw P kt enc eq) (k : κ) :
    ∃ w' C', (Builtin.delete_ ats ty #[.map (some m), enc k]).run P w = .ok (.tuple #[]) w' ∧ St E w' I (C' :: Os) ∧ OwnMap enc val I C' m (mdel eq l k) := by
  obtain ⟨es, clock, rfl, h2, h3, h4, h5⟩ := h.ex
  have hlen : es.size = l.length := by have := congrArg List.length h2; simpa using this
  have hmap : es.toList.map (·.key) = (l.map (·.1)).map enc := by rw [h2, List.map_map]; rfl
  have hw := hS.rd0 m _ (one_at m _)
  have hf := kl.find k w es.toList _ hmap
  have start : ∀ (r : Option (Nat × Value)) (es' : Array MapEntry), (Instr.findKey kt (enc k) es.toList).run P w = .ok r w → (match r with | some (i, _) => setObj m (.map (es.eraseIdxIfInBounds i) clock) | none => setObj m (.map es clock)) = setObj m (.map es' clock) →
      (Builtin.delete_ ats ty #[.map (some m), enc k]).run P w = .ok (.tuple #[]) { w with heap := w.heap.setIfInBounds m (.map es' clock) } := by
    intro r es' hr he
    obtain ⟨r1, _⟩ := hS.setObj (P := P) (es' := es') (clock' := clock)
    have hg := run_getObj (P := P) hw
    have key : (do match r with | some (i, _) => setObj m (.map (es.eraseIdxIfInBounds i) clock) | none => setObj m (.map es clock)).run P w = .ok () { w with heap := w.heap.setIfInBounds m (.map es' clock) } := by
      rw [← r1]; exact congrArg (fun s => Sem.run P s w) he
    cases r with
    | none => simp only at key; simp [Builtin.delete_, ha, run_underlying' ht, hg, kl.check, hr, key]
    | some q => obtain ⟨i, v⟩ := q; simp only at key; simp [Builtin.delete_, ha, run_underlying' ht, hg, kl.check, hr, key]
  cases hp : mpos eq k (l.map (·.1)) with
  | none =>
    rw [hp] at hf
    obtain ⟨_, r2⟩ := hS.setObj (P := P) (es' := es) (clock' := clock)
    exact ⟨_, _, start none es hf rfl, r2, ⟨es, clock, rfl, by simpa [mdel, hp] using h2, by simpa [mdel, hp] using h3, h4, h5⟩⟩
  | some i =>
    obtain ⟨hlt, a, ha', hq⟩ := mpos_lt hp
    simp only [List.length_map] at hlt
    have hes : es[i]? = some (es[i]'(by omega)) := Array.getElem?_eq_getElem (by omega)
    rw [hp] at hf
    simp only [Option.bind_some, Array.getElem?_toList, hes, Option.map_some] at hf
    obtain ⟨_, r2⟩ := hS.setObj (P := P) (es' := es.eraseIdxIfInBounds i) (clock' := clock)
    have hel : (es.eraseIdxIfInBounds i).toList = es.toList.eraseIdx i := by
      rw [Array.eraseIdxIfInBounds]
      split
      · simp
      · omega
    refine ⟨_, _, start _ (es.eraseIdxIfInBounds i) hf rfl, r2, ⟨_, _, rfl, ?_, ?_, ?_, ?_⟩⟩
    · rw [hel]
      simp only [mdel, hp]
      rw [← erase_map, h2, erase_map]
    · intro j e p he hpp
      simp only [mdel, hp] at hpp
      rw [← Array.getElem?_toList, hel, List.getElem?_eraseIdx] at he
      rw [List.getElem?_eraseIdx] at hpp
      split at he
      · rename_i hj
        rw [if_pos hj] at hpp
        exact h3 j e p (by rw [← Array.getElem?_toList]; exact he) hpp
      · rename_i hj
        rw [if_neg hj] at hpp
        exact h3 (j + 1) e p (by rw [← Array.getElem?_toList]; exact he) hpp
    · intro e he
      rw [hel] at he
      exact h4 e (List.mem_of_mem_eraseIdx he)
    · rw [hel, ← erase_map]
      exact h5.sublist (List.eraseIdx_sublist _ _)

/-! ### In a walk -/
variable {n : Nat} {K : World → Prop} {qt : Op → Bool} {z : Nat} {ops : Array Oper} {Q : Exit → Act → World → Prop} {fr : Fr} {li : List Nat} {i : Nat}
  {dst : Option Tmp} {ty : TypeId} {pos : String} {after : Array Edge} {guard : Option (Nat × Bool)} {E : World} {Os : List Mem}
theorem WO.lookup {t : TypeId} {x y : Operand} {ok : Bool} (ho : ops[i]? = some ⟨dst, .lookup t x y ok, ty, pos, after, guard⟩) (hok : okAt n ops fr ⟨dst, .lookup t x y ok, ty, pos, after, guard⟩ = true)
    (hx : ev fr x = .map (some m)) {kv : Value} (hy : ev fr y = kv) {v : Value} {b : Bool} (hr : ∀ w, Rdb w C → ∀ ok : Bool, (Instr.lookup t (.map (some m)) kv ok).run P w = .ok (if ok then .tuple #[v, .bool b] else v) w)
    (hrd : ∀ w', Kx K (qt (.lookup t x y ok)) w w' → Rdb w' C) (u : Value) (hu : (if ok = true then Value.tuple #[v, .bool b] else v) = u) (h : WO P n K qt z ops Q li (pt fr dst u) w) : WO P n K qt z ops Q (i :: li) fr w := by
  subst hu
  refine WO.val ho hok _ (fun w' hw' => ?_) h
  simp only [execOp, hx, hy]
  rw [run_bind (hr w' (hrd w' hw') ok)]
  rfl
theorem WO.update [VMono val] (h0 : OwnMap enc val I C m l) (hS : St E w I (C :: Os)) {t kt et : Nat} (ht : P.underlying t = some (.map kt et)) (kl : KeyLaw P kt enc eq) {o : Oper} {x y a : Operand}
    (ho : ops[i]? = some o) (hok : okAt n ops fr o = true) (hq : qt o.op = false) (hop : o.op = .mapUpdate t x y a ∨ o.op = .insert t x y a)
    (hx : ev fr x = .map (some m)) (k : κ) (hy : ev fr y = enc k) {v : Value} (ha : ev fr a = v) {xv : ν} (hv : val I v xv) (hK : ∀ w' C', St E w' I (C' :: Os) → K w')
    (h : ∀ w' C', St E w' I (C' :: Os) → OwnMap enc val I C' m (mset eq l k xv) → WO P n K qt z ops Q li (pt fr o.dst undef) w') : WO P n K qt z ops Q (i :: li) fr w := by
  obtain ⟨w', C', hr, hS', hm⟩ := h0.update hS ht kl k hv
  refine WO.acts ho hok hq ?_ (hK w' C' hS') (h w' C' hS' hm)
  rcases hop with hop | hop <;>
  · simp only [execOp, hop, hx, hy, ha]
    rw [run_bind hr]
    rfl
theorem WO.delete (h0 : OwnMap enc val I C m l) (hS : St E w I (C :: Os)) {t kt et t2 : Nat} (ht : P.underlying t = some (.map kt et)) (kl : KeyLaw P kt enc eq) {x y : Operand}
    (ho : ops[i]? = some ⟨dst, .call ⟨.builtin .delete, #[x, y], #[t, t2]⟩, ty, pos, after, guard⟩) (hok : okAt n ops fr ⟨dst, .call ⟨.builtin .delete, #[x, y], #[t, t2]⟩, ty, pos, after, guard⟩ = true) (hq : qt (.call ⟨.builtin .delete, #[x, y], #[t, t2]⟩) = false)
    (hx : ev fr x = .map (some m)) (k : κ) (hy : ev fr y = enc k) (hK : ∀ w' C', St E w' I (C' :: Os) → K w')
    (h : ∀ w' C', St E w' I (C' :: Os) → OwnMap enc val I C' m (mdel eq l k) → WO P n K qt z ops Q li (pt fr dst (.tuple #[])) w') : WO P n K qt z ops Q (i :: li) fr w := by
  obtain ⟨w', C', hr, hS', hm⟩ := h0.delete (ty := ty) (ats := #[t, t2]) hS rfl ht kl k
  refine WO.act ho hok hq (v := .tuple #[]) (w' := w') ?_ (hK w' C' hS') (h w' C' hS' hm)
  simp only [execOp, resolve]
  have e1 : (#[x, y].map (ev fr)) = #[.map (some m), enc k] := by simp [hx, hy]
  rw [e1]
  rw [run_bind (a := ({ target := .builtin .delete #[t, t2] ty (#[x, y].map fun | .const _ => true | _ => false), args := #[.map (some m), enc k] } : Deferred)) (w' := w) rfl]
  simp only [invoke, Go.builtin]
  rw [run_bind hr]
  rfl
theorem WO.lenMap (h0 : OwnMap enc val I C m l) {t kt et : Nat} (ht : P.underlying t = some (.map kt et)) {x : Operand}
    (ho : ops[i]? = some ⟨dst, .call ⟨.builtin .len, #[x], #[t]⟩, ty, pos, after, guard⟩) (hok : okAt n ops fr ⟨dst, .call ⟨.builtin .len, #[x], #[t]⟩, ty, pos, after, guard⟩ = true)
    (hx : ev fr x = .map (some m)) (hrd : ∀ w', Kx K (qt (.call ⟨.builtin .len, #[x], #[t]⟩)) w w' → Rdb w' C) (h : WO P n K qt z ops Q li (pt fr dst (.int .i64 (l.length : Int))) w) : WO P n K qt z ops Q (i :: li) fr w := by
  obtain ⟨es, clock, rfl, h2, _⟩ := h0.ex
  have hlen : es.size = l.length := by have := congrArg List.length h2; simpa using this
  refine WO.val ho hok _ (fun w' hw' => ?_) h
  have hg := run_getObj (P := P) (hrd w' hw' m _ (one_at m _))
  have hrun : (Builtin.len_ #[t] ty #[.map (some m)]).run P w' = .ok (.int .i64 (l.length : Int)) w' := by
    simp [Builtin.len_, run_underlying' ht, hg, goInt, hlen]
  simp only [execOp, resolve]
  have e1 : (#[x].map (ev fr)) = #[.map (some m)] := by simp [hx]
  rw [e1]
  rw [run_bind (a := ({ target := .builtin .len #[t] ty (#[x].map fun | .const _ => true | _ => false), args := #[.map (some m)] } : Deferred)) (w' := w') rfl]
  simp only [invoke, Go.builtin]
  rw [run_bind hrun]
  rfl
end
end Go.Gv
