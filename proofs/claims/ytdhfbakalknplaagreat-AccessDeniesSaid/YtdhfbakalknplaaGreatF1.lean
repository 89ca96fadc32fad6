/- What functions of the program come to, each by a plain one. Conditions: none. -/
import Derived.Test.YtdhfbakalknplaaGreatProg
import Derived.Test.YtdhfbakalknplaaGreatShelf
set_option maxRecDepth 100000
namespace Go.Proofs.YtdhfbakalknplaaGreat
open Go.Gv
set_option maxHeartbeats 1000000
variable {E w : World} {I : Mem} {Os : List Mem}
noncomputable abbrev P := Tryz.prog
structure qV where
  Kind : Int
  N : Int
  S : By8
def cs_qV (x : qV) : List Value := [.int .i64 x.Kind, .int .i64 x.N, .string x.S]
abbrev vV (x : qV) : Value := .agg (cs_qV x).toArray
def R_qV (I : Mem) (cs : List Value) (x : qV) : Prop := cs = cs_qV x
instance : Mono R_qV := ⟨fun hl h => (by obtain rfl := h; exact rfl), fun h c hv => (by obtain rfl := h; exact (by simp only [cs_qV, List.mem_cons, List.not_mem_nil, or_false] at hv; rcases hv with rfl | rfl | rfl <;> first | rfl | rfl))⟩
def z_qV : qV := ⟨0, 0, eB⟩
structure qE where
  Kind : Int
  Op : Int
  V : qV
  Name : By8
  Kids : List qE
structure W_qE where
  Kids : SW
def cs_qE (x : qE) (v : W_qE) : List Value := [.int .i64 x.Kind, .int .i64 x.Op, .int .i64 x.V.Kind, .int .i64 x.V.N, .string x.V.S, .string x.Name, .slice v.Kids.a x.Kids.length v.Kids.c]
abbrev vE (x : qE) (v : W_qE) : Value := .agg (cs_qE x v).toArray
abbrev bE (bb : Nat) (x : qE) (v : W_qE) : Mem := Bx bb (cs_qE x v) 31
structure okF_qE (R : Mem → List Value → qE → Prop) (I : Mem) (x : qE) (v : W_qE) : Prop where
  Kids : RSl 7 R I v.Kids.a v.Kids.c x.Kids
theorem okF_qE.mono {R : Mem → List Value → qE → Prop} [Mono R] {I J : Mem} {x : qE} {v : W_qE} (h : okF_qE R I x v) (hl : I.Le J) : okF_qE R J x v := ⟨RSl.mono h.Kids hl⟩
theorem okF_qE.map {R S : Mem → List Value → qE → Prop} (hm : ∀ I cs x, R I cs x → S I cs x) {I : Mem} {x : qE} {v : W_qE} (h : okF_qE R I x v) : okF_qE S I x v := ⟨SlAt.map (hm I) h.Kids⟩
def RF_qE : Nat → Mem → List Value → qE → Prop
  | 0, _, _, _ => False
  | k + 1, I, cs, x => ∃ v : W_qE, cs = cs_qE x v ∧ okF_qE (RF_qE k) I x v
def Q_qE (I : Mem) (cs : List Value) (x : qE) : Prop := ∃ k, RF_qE k I cs x
abbrev ok_qE (I : Mem) (x : qE) (v : W_qE) : Prop := okF_qE Q_qE I x v
theorem RF_qE_up : ∀ (k : Nat) (I : Mem) (cs : List Value) (x : qE), RF_qE k I cs x → RF_qE (k + 1) I cs x
  | 0, _, _, _, h => h.elim
  | k + 1, I, cs, x, ⟨v, e, h⟩ => ⟨v, e, h.map (RF_qE_up k)⟩
theorem Q_qE_iff {I : Mem} {cs : List Value} {x : qE} : Q_qE I cs x ↔ ∃ v : W_qE, cs = cs_qE x v ∧ ok_qE I x v := by
  constructor
  · rintro ⟨k, h⟩
    cases k with
    | zero => exact h.elim
    | succ k =>
      obtain ⟨v, e, h⟩ := h
      exact ⟨v, e, h.map fun _ _ _ h => ⟨k, h⟩⟩
  · rintro ⟨v, e, h⟩
    obtain ⟨k, b⟩ := yb1 (R := RF_qE) (fun k cs x => RF_qE_up k I cs x) h.Kids
    exact ⟨k + 1, v, e, ⟨b⟩⟩
theorem RF_qE_mono : ∀ k : Nat, Mono (RF_qE k)
  | 0 => ⟨fun _ h => h.elim, fun h => h.elim⟩
  | k + 1 => by
    haveI := RF_qE_mono k
    exact ⟨fun hl h => (by obtain ⟨v, rfl, h⟩ := h; exact ⟨v, rfl, h.mono hl⟩), fun h c hv => (by obtain ⟨v, rfl, h⟩ := h; exact (by simp only [cs_qE, List.mem_cons, List.not_mem_nil, or_false] at hv; rcases hv with rfl | rfl | rfl | rfl | rfl | rfl | rfl <;> first | rfl | rfl))⟩
instance : Mono Q_qE := ⟨fun hl h => (by obtain ⟨k, h⟩ := h; exact ⟨k, (RF_qE_mono k).mono hl h⟩), fun h c hv => (by obtain ⟨k, h⟩ := h; exact (RF_qE_mono k).one h c hv)⟩
theorem ok_qE.mono {I J : Mem} {x : qE} {v : W_qE} (h : ok_qE I x v) (hl : I.Le J) : ok_qE J x v := okF_qE.mono h hl
def R_qE (I : Mem) (cs : List Value) (x : qE) : Prop := ∃ v : W_qE, cs = cs_qE x v ∧ ok_qE I x v
instance : Mono R_qE := ⟨fun hl h => (by obtain ⟨v, rfl, h⟩ := h; exact ⟨v, rfl, h.mono hl⟩), fun h c hv => (by obtain ⟨v, rfl, h⟩ := h; exact (by simp only [cs_qE, List.mem_cons, List.not_mem_nil, or_false] at hv; rcases hv with rfl | rfl | rfl | rfl | rfl | rfl | rfl <;> first | rfl | rfl))⟩
def z_qE : qE := ⟨0, 0, z_qV, eB, []⟩
def zw_qE : W_qE := ⟨⟨none, 0⟩⟩
theorem zok_qE {I : Mem} : ok_qE I z_qE zw_qE := ⟨SlAt.nil⟩
structure qL where
  Name : By8
  Type_ : Int
  NotNull : Bool
def cs_qL (x : qL) : List Value := [.string x.Name, .int .i64 x.Type_, .bool x.NotNull]
abbrev vL (x : qL) : Value := .agg (cs_qL x).toArray
def R_qL (I : Mem) (cs : List Value) (x : qL) : Prop := cs = cs_qL x
instance : Mono R_qL := ⟨fun hl h => (by obtain rfl := h; exact rfl), fun h c hv => (by obtain rfl := h; exact (by simp only [cs_qL, List.mem_cons, List.not_mem_nil, or_false] at hv; rcases hv with rfl | rfl | rfl <;> first | rfl | rfl))⟩
def z_qL : qL := ⟨eB, 0, false⟩
structure qK where
  Name : By8
  Kind : Int
  Cols : List By8
  Check : qE
  Table : By8
  Refs : List By8
structure W_qK where
  Cols : SW
  Check : W_qE
  Refs : SW
def cs_qK (x : qK) (v : W_qK) : List Value := [.string x.Name, .int .i64 x.Kind, .slice v.Cols.a x.Cols.length v.Cols.c, .int .i64 x.Check.Kind, .int .i64 x.Check.Op, .int .i64 x.Check.V.Kind, .int .i64 x.Check.V.N, .string x.Check.V.S, .string x.Check.Name, .slice v.Check.Kids.a x.Check.Kids.length v.Check.Kids.c, .string x.Table, .slice v.Refs.a x.Refs.length v.Refs.c]
abbrev vK (x : qK) (v : W_qK) : Value := .agg (cs_qK x v).toArray
abbrev bK (bb : Nat) (x : qK) (v : W_qK) : Mem := Bx bb (cs_qK x v) 59
structure ok_qK (I : Mem) (x : qK) (v : W_qK) : Prop where
  Cols : RSl 1 RStr I v.Cols.a v.Cols.c x.Cols
  Check : ok_qE I x.Check v.Check
  Refs : RSl 1 RStr I v.Refs.a v.Refs.c x.Refs
theorem ok_qK.mono {I J : Mem} {x : qK} {v : W_qK} (h : ok_qK I x v) (hl : I.Le J) : ok_qK J x v := ⟨RSl.mono h.Cols hl, h.Check.mono hl, RSl.mono h.Refs hl⟩
def R_qK (I : Mem) (cs : List Value) (x : qK) : Prop := ∃ v : W_qK, cs = cs_qK x v ∧ ok_qK I x v
instance : Mono R_qK := ⟨fun hl h => (by obtain ⟨v, rfl, h⟩ := h; exact ⟨v, rfl, h.mono hl⟩), fun h c hv => (by obtain ⟨v, rfl, h⟩ := h; exact (by simp only [cs_qK, List.mem_cons, List.not_mem_nil, or_false] at hv; rcases hv with rfl | rfl | rfl | rfl | rfl | rfl | rfl | rfl | rfl | rfl | rfl | rfl <;> first | rfl | rfl))⟩
def z_qK : qK := ⟨eB, 0, [], z_qE, eB, []⟩
def zw_qK : W_qK := ⟨⟨none, 0⟩, zw_qE, ⟨none, 0⟩⟩
theorem zok_qK {I : Mem} : ok_qK I z_qK zw_qK := ⟨SlAt.nil, zok_qE, SlAt.nil⟩
structure qSet where
  Name : By8
  E : qE
structure W_qSet where
  E : W_qE
def cs_qSet (x : qSet) (v : W_qSet) : List Value := [.string x.Name, .int .i64 x.E.Kind, .int .i64 x.E.Op, .int .i64 x.E.V.Kind, .int .i64 x.E.V.N, .string x.E.V.S, .string x.E.Name, .slice v.E.Kids.a x.E.Kids.length v.E.Kids.c]
structure ok_qSet (I : Mem) (x : qSet) (v : W_qSet) : Prop where
  E : ok_qE I x.E v.E
theorem ok_qSet.mono {I J : Mem} {x : qSet} {v : W_qSet} (h : ok_qSet I x v) (hl : I.Le J) : ok_qSet J x v := ⟨h.E.mono hl⟩
def R_qSet (I : Mem) (cs : List Value) (x : qSet) : Prop := ∃ v : W_qSet, cs = cs_qSet x v ∧ ok_qSet I x v
instance : Mono R_qSet := ⟨fun hl h => (by obtain ⟨v, rfl, h⟩ := h; exact ⟨v, rfl, h.mono hl⟩), fun h c hv => (by obtain ⟨v, rfl, h⟩ := h; exact (by simp only [cs_qSet, List.mem_cons, List.not_mem_nil, or_false] at hv; rcases hv with rfl | rfl | rfl | rfl | rfl | rfl | rfl | rfl <;> first | rfl | rfl))⟩
def z_qSet : qSet := ⟨eB, z_qE⟩
def zw_qSet : W_qSet := ⟨zw_qE⟩
theorem zok_qSet {I : Mem} : ok_qSet I z_qSet zw_qSet := ⟨zok_qE⟩
structure qO where
  E : qE
  Desc : Bool
structure W_qO where
  E : W_qE
def cs_qO (x : qO) (v : W_qO) : List Value := [.int .i64 x.E.Kind, .int .i64 x.E.Op, .int .i64 x.E.V.Kind, .int .i64 x.E.V.N, .string x.E.V.S, .string x.E.Name, .slice v.E.Kids.a x.E.Kids.length v.E.Kids.c, .bool x.Desc]
abbrev vO (x : qO) (v : W_qO) : Value := .agg (cs_qO x v).toArray
structure ok_qO (I : Mem) (x : qO) (v : W_qO) : Prop where
  E : ok_qE I x.E v.E
theorem ok_qO.mono {I J : Mem} {x : qO} {v : W_qO} (h : ok_qO I x v) (hl : I.Le J) : ok_qO J x v := ⟨h.E.mono hl⟩
def R_qO (I : Mem) (cs : List Value) (x : qO) : Prop := ∃ v : W_qO, cs = cs_qO x v ∧ ok_qO I x v
instance : Mono R_qO := ⟨fun hl h => (by obtain ⟨v, rfl, h⟩ := h; exact ⟨v, rfl, h.mono hl⟩), fun h c hv => (by obtain ⟨v, rfl, h⟩ := h; exact (by simp only [cs_qO, List.mem_cons, List.not_mem_nil, or_false] at hv; rcases hv with rfl | rfl | rfl | rfl | rfl | rfl | rfl | rfl <;> first | rfl | rfl))⟩
def z_qO : qO := ⟨z_qE, false⟩
def zw_qO : W_qO := ⟨zw_qE⟩
theorem zok_qO {I : Mem} : ok_qO I z_qO zw_qO := ⟨zok_qE⟩
structure qS where
  Kind : Int
  Table : By8
  Name : By8
  Role : By8
  Cols : List qL
  Cons : List qK
  Names : List By8
  Rows : List (List qE)
  Where : qE
  Sets : List qSet
  Order : List qO
  Limit : Int
  Priv : Int
  Option : Bool
  Kids : List qS
structure W_qS where
  Cols : SW
  Cons : SW
  Names : SW
  Rows : SW
  Where : W_qE
  Sets : SW
  Order : SW
  Kids : SW
def cs_qS (x : qS) (v : W_qS) : List Value := [.int .i64 x.Kind, .string x.Table, .string x.Name, .string x.Role, .slice v.Cols.a x.Cols.length v.Cols.c, .slice v.Cons.a x.Cons.length v.Cons.c, .slice v.Names.a x.Names.length v.Names.c, .slice v.Rows.a x.Rows.length v.Rows.c, .int .i64 x.Where.Kind, .int .i64 x.Where.Op, .int .i64 x.Where.V.Kind, .int .i64 x.Where.V.N, .string x.Where.V.S, .string x.Where.Name, .slice v.Where.Kids.a x.Where.Kids.length v.Where.Kids.c, .slice v.Sets.a x.Sets.length v.Sets.c, .slice v.Order.a x.Order.length v.Order.c, .int .i64 x.Limit, .int .i64 x.Priv, .bool x.Option, .slice v.Kids.a x.Kids.length v.Kids.c]
abbrev vS (x : qS) (v : W_qS) : Value := .agg (cs_qS x v).toArray
abbrev bS (bb : Nat) (x : qS) (v : W_qS) : Mem := Bx bb (cs_qS x v) 36
structure okF_qS (R : Mem → List Value → qS → Prop) (I : Mem) (x : qS) (v : W_qS) : Prop where
  Cols : RSl 3 R_qL I v.Cols.a v.Cols.c x.Cols
  Cons : RSl 12 R_qK I v.Cons.a v.Cons.c x.Cons
  Names : RSl 1 RStr I v.Names.a v.Names.c x.Names
  Rows : RSl 1 (RSlC 7 Q_qE) I v.Rows.a v.Rows.c x.Rows
  Where : ok_qE I x.Where v.Where
  Sets : RSl 8 R_qSet I v.Sets.a v.Sets.c x.Sets
  Order : RSl 8 R_qO I v.Order.a v.Order.c x.Order
  Kids : RSl 21 R I v.Kids.a v.Kids.c x.Kids
theorem okF_qS.mono {R : Mem → List Value → qS → Prop} [Mono R] {I J : Mem} {x : qS} {v : W_qS} (h : okF_qS R I x v) (hl : I.Le J) : okF_qS R J x v := ⟨RSl.mono h.Cols hl, RSl.mono h.Cons hl, RSl.mono h.Names hl, RSl.mono h.Rows hl, h.Where.mono hl, RSl.mono h.Sets hl, RSl.mono h.Order hl, RSl.mono h.Kids hl⟩
theorem okF_qS.map {R S : Mem → List Value → qS → Prop} (hm : ∀ I cs x, R I cs x → S I cs x) {I : Mem} {x : qS} {v : W_qS} (h : okF_qS R I x v) : okF_qS S I x v := ⟨h.Cols, h.Cons, h.Names, h.Rows, h.Where, h.Sets, h.Order, SlAt.map (hm I) h.Kids⟩
def RF_qS : Nat → Mem → List Value → qS → Prop
  | 0, _, _, _ => False
  | k + 1, I, cs, x => ∃ v : W_qS, cs = cs_qS x v ∧ okF_qS (RF_qS k) I x v
def Q_qS (I : Mem) (cs : List Value) (x : qS) : Prop := ∃ k, RF_qS k I cs x
abbrev ok_qS (I : Mem) (x : qS) (v : W_qS) : Prop := okF_qS Q_qS I x v
theorem RF_qS_up : ∀ (k : Nat) (I : Mem) (cs : List Value) (x : qS), RF_qS k I cs x → RF_qS (k + 1) I cs x
  | 0, _, _, _, h => h.elim
  | k + 1, I, cs, x, ⟨v, e, h⟩ => ⟨v, e, h.map (RF_qS_up k)⟩
theorem Q_qS_iff {I : Mem} {cs : List Value} {x : qS} : Q_qS I cs x ↔ ∃ v : W_qS, cs = cs_qS x v ∧ ok_qS I x v := by
  constructor
  · rintro ⟨k, h⟩
    cases k with
    | zero => exact h.elim
    | succ k =>
      obtain ⟨v, e, h⟩ := h
      exact ⟨v, e, h.map fun _ _ _ h => ⟨k, h⟩⟩
  · rintro ⟨v, e, h⟩
    obtain ⟨k, b⟩ := yb1 (R := RF_qS) (fun k cs x => RF_qS_up k I cs x) h.Kids
    exact ⟨k + 1, v, e, ⟨h.Cols, h.Cons, h.Names, h.Rows, h.Where, h.Sets, h.Order, b⟩⟩
theorem RF_qS_mono : ∀ k : Nat, Mono (RF_qS k)
  | 0 => ⟨fun _ h => h.elim, fun h => h.elim⟩
  | k + 1 => by
    haveI := RF_qS_mono k
    exact ⟨fun hl h => (by obtain ⟨v, rfl, h⟩ := h; exact ⟨v, rfl, h.mono hl⟩), fun h c hv => (by obtain ⟨v, rfl, h⟩ := h; exact (by simp only [cs_qS, List.mem_cons, List.not_mem_nil, or_false] at hv; rcases hv with rfl | rfl | rfl | rfl | rfl | rfl | rfl | rfl | rfl | rfl | rfl | rfl | rfl | rfl | rfl | rfl | rfl | rfl | rfl | rfl | rfl <;> first | rfl | rfl))⟩
instance : Mono Q_qS := ⟨fun hl h => (by obtain ⟨k, h⟩ := h; exact ⟨k, (RF_qS_mono k).mono hl h⟩), fun h c hv => (by obtain ⟨k, h⟩ := h; exact (RF_qS_mono k).one h c hv)⟩
theorem ok_qS.mono {I J : Mem} {x : qS} {v : W_qS} (h : ok_qS I x v) (hl : I.Le J) : ok_qS J x v := okF_qS.mono h hl
def R_qS (I : Mem) (cs : List Value) (x : qS) : Prop := ∃ v : W_qS, cs = cs_qS x v ∧ ok_qS I x v
instance : Mono R_qS := ⟨fun hl h => (by obtain ⟨v, rfl, h⟩ := h; exact ⟨v, rfl, h.mono hl⟩), fun h c hv => (by obtain ⟨v, rfl, h⟩ := h; exact (by simp only [cs_qS, List.mem_cons, List.not_mem_nil, or_false] at hv; rcases hv with rfl | rfl | rfl | rfl | rfl | rfl | rfl | rfl | rfl | rfl | rfl | rfl | rfl | rfl | rfl | rfl | rfl | rfl | rfl | rfl | rfl <;> first | rfl | rfl))⟩
def z_qS : qS := ⟨0, eB, eB, eB, [], [], [], [], z_qE, [], [], 0, 0, false, []⟩
def zw_qS : W_qS := ⟨⟨none, 0⟩, ⟨none, 0⟩, ⟨none, 0⟩, ⟨none, 0⟩, zw_qE, ⟨none, 0⟩, ⟨none, 0⟩, ⟨none, 0⟩⟩
theorem zok_qS {I : Mem} : ok_qS I z_qS zw_qS := ⟨SlAt.nil, SlAt.nil, SlAt.nil, SlAt.nil, zok_qE, SlAt.nil, SlAt.nil, SlAt.nil⟩
structure law19_Act where
  S : qS
  By : By8
structure W_law19_Act where
  S : W_qS
def cs_law19_Act (x : law19_Act) (v : W_law19_Act) : List Value := [.int .i64 x.S.Kind, .string x.S.Table, .string x.S.Name, .string x.S.Role, .slice v.S.Cols.a x.S.Cols.length v.S.Cols.c, .slice v.S.Cons.a x.S.Cons.length v.S.Cons.c, .slice v.S.Names.a x.S.Names.length v.S.Names.c, .slice v.S.Rows.a x.S.Rows.length v.S.Rows.c, .int .i64 x.S.Where.Kind, .int .i64 x.S.Where.Op, .int .i64 x.S.Where.V.Kind, .int .i64 x.S.Where.V.N, .string x.S.Where.V.S, .string x.S.Where.Name, .slice v.S.Where.Kids.a x.S.Where.Kids.length v.S.Where.Kids.c, .slice v.S.Sets.a x.S.Sets.length v.S.Sets.c, .slice v.S.Order.a x.S.Order.length v.S.Order.c, .int .i64 x.S.Limit, .int .i64 x.S.Priv, .bool x.S.Option, .slice v.S.Kids.a x.S.Kids.length v.S.Kids.c, .string x.By]
structure ok_law19_Act (I : Mem) (x : law19_Act) (v : W_law19_Act) : Prop where
  S : ok_qS I x.S v.S
theorem ok_law19_Act.mono {I J : Mem} {x : law19_Act} {v : W_law19_Act} (h : ok_law19_Act I x v) (hl : I.Le J) : ok_law19_Act J x v := ⟨h.S.mono hl⟩
def R_law19_Act (I : Mem) (cs : List Value) (x : law19_Act) : Prop := ∃ v : W_law19_Act, cs = cs_law19_Act x v ∧ ok_law19_Act I x v
instance : Mono R_law19_Act := ⟨fun hl h => (by obtain ⟨v, rfl, h⟩ := h; exact ⟨v, rfl, h.mono hl⟩), fun h c hv => (by obtain ⟨v, rfl, h⟩ := h; exact (by simp only [cs_law19_Act, List.mem_cons, List.not_mem_nil, or_false] at hv; rcases hv with rfl | rfl | rfl | rfl | rfl | rfl | rfl | rfl | rfl | rfl | rfl | rfl | rfl | rfl | rfl | rfl | rfl | rfl | rfl | rfl | rfl | rfl <;> first | rfl | rfl))⟩
def z_law19_Act : law19_Act := ⟨z_qS, eB⟩
def zw_law19_Act : W_law19_Act := ⟨zw_qS⟩
theorem zok_law19_Act {I : Mem} : ok_law19_Act I z_law19_Act zw_law19_Act := ⟨zok_qS⟩
structure qN where
  Path : By8
  Mode : Int
def cs_qN (x : qN) : List Value := [.string x.Path, .int .i64 x.Mode]
abbrev vN (x : qN) : Value := .agg (cs_qN x).toArray
abbrev bN (bb : Nat) (x : qN) : Mem := Bx bb (cs_qN x) 67
def R_qN (I : Mem) (cs : List Value) (x : qN) : Prop := cs = cs_qN x
instance : Mono R_qN := ⟨fun hl h => (by obtain rfl := h; exact rfl), fun h c hv => (by obtain rfl := h; exact (by simp only [cs_qN, List.mem_cons, List.not_mem_nil, or_false] at hv; rcases hv with rfl | rfl <;> first | rfl | rfl))⟩
def z_qN : qN := ⟨eB, 0⟩
structure qI where
  Name : By8
  Cols : List By8
structure W_qI where
  Cols : SW
def cs_qI (x : qI) (v : W_qI) : List Value := [.string x.Name, .slice v.Cols.a x.Cols.length v.Cols.c]
abbrev vI (x : qI) (v : W_qI) : Value := .agg (cs_qI x v).toArray
abbrev bI (bb : Nat) (x : qI) (v : W_qI) : Mem := Bx bb (cs_qI x v) 136
structure ok_qI (I : Mem) (x : qI) (v : W_qI) : Prop where
  Cols : RSl 1 RStr I v.Cols.a v.Cols.c x.Cols
theorem ok_qI.mono {I J : Mem} {x : qI} {v : W_qI} (h : ok_qI I x v) (hl : I.Le J) : ok_qI J x v := ⟨RSl.mono h.Cols hl⟩
def R_qI (I : Mem) (cs : List Value) (x : qI) : Prop := ∃ v : W_qI, cs = cs_qI x v ∧ ok_qI I x v
instance : Mono R_qI := ⟨fun hl h => (by obtain ⟨v, rfl, h⟩ := h; exact ⟨v, rfl, h.mono hl⟩), fun h c hv => (by obtain ⟨v, rfl, h⟩ := h; exact (by simp only [cs_qI, List.mem_cons, List.not_mem_nil, or_false] at hv; rcases hv with rfl | rfl <;> first | rfl | rfl))⟩
def z_qI : qI := ⟨eB, []⟩
def zw_qI : W_qI := ⟨⟨none, 0⟩⟩
theorem zok_qI {I : Mem} : ok_qI I z_qI zw_qI := ⟨SlAt.nil⟩
structure qT where
  Name : By8
  Owner : By8
  Version : Int
  Cols : List qL
  Cons : List qK
  Idx : List qI
structure W_qT where
  Cols : SW
  Cons : SW
  Idx : SW
def cs_qT (x : qT) (v : W_qT) : List Value := [.string x.Name, .string x.Owner, .int .i64 x.Version, .slice v.Cols.a x.Cols.length v.Cols.c, .slice v.Cons.a x.Cons.length v.Cons.c, .slice v.Idx.a x.Idx.length v.Idx.c]
abbrev vT (x : qT) (v : W_qT) : Value := .agg (cs_qT x v).toArray
abbrev bT (bb : Nat) (x : qT) (v : W_qT) : Mem := Bx bb (cs_qT x v) 52
structure ok_qT (I : Mem) (x : qT) (v : W_qT) : Prop where
  Cols : RSl 3 R_qL I v.Cols.a v.Cols.c x.Cols
  Cons : RSl 12 R_qK I v.Cons.a v.Cons.c x.Cons
  Idx : RSl 2 R_qI I v.Idx.a v.Idx.c x.Idx
theorem ok_qT.mono {I J : Mem} {x : qT} {v : W_qT} (h : ok_qT I x v) (hl : I.Le J) : ok_qT J x v := ⟨RSl.mono h.Cols hl, RSl.mono h.Cons hl, RSl.mono h.Idx hl⟩
def R_qT (I : Mem) (cs : List Value) (x : qT) : Prop := ∃ v : W_qT, cs = cs_qT x v ∧ ok_qT I x v
instance : Mono R_qT := ⟨fun hl h => (by obtain ⟨v, rfl, h⟩ := h; exact ⟨v, rfl, h.mono hl⟩), fun h c hv => (by obtain ⟨v, rfl, h⟩ := h; exact (by simp only [cs_qT, List.mem_cons, List.not_mem_nil, or_false] at hv; rcases hv with rfl | rfl | rfl | rfl | rfl | rfl <;> first | rfl | rfl))⟩
def z_qT : qT := ⟨eB, eB, 0, [], [], []⟩
def zw_qT : W_qT := ⟨⟨none, 0⟩, ⟨none, 0⟩, ⟨none, 0⟩⟩
theorem zok_qT {I : Mem} : ok_qT I z_qT zw_qT := ⟨SlAt.nil, SlAt.nil, SlAt.nil⟩
structure qJ where
  Name : By8
  In : List By8
structure W_qJ where
  In : SW
def cs_qJ (x : qJ) (v : W_qJ) : List Value := [.string x.Name, .slice v.In.a x.In.length v.In.c]
abbrev vJ (x : qJ) (v : W_qJ) : Value := .agg (cs_qJ x v).toArray
structure ok_qJ (I : Mem) (x : qJ) (v : W_qJ) : Prop where
  In : RSl 1 RStr I v.In.a v.In.c x.In
theorem ok_qJ.mono {I J : Mem} {x : qJ} {v : W_qJ} (h : ok_qJ I x v) (hl : I.Le J) : ok_qJ J x v := ⟨RSl.mono h.In hl⟩
def R_qJ (I : Mem) (cs : List Value) (x : qJ) : Prop := ∃ v : W_qJ, cs = cs_qJ x v ∧ ok_qJ I x v
instance : Mono R_qJ := ⟨fun hl h => (by obtain ⟨v, rfl, h⟩ := h; exact ⟨v, rfl, h.mono hl⟩), fun h c hv => (by obtain ⟨v, rfl, h⟩ := h; exact (by simp only [cs_qJ, List.mem_cons, List.not_mem_nil, or_false] at hv; rcases hv with rfl | rfl <;> first | rfl | rfl))⟩
def z_qJ : qJ := ⟨eB, []⟩
def zw_qJ : W_qJ := ⟨⟨none, 0⟩⟩
theorem zok_qJ {I : Mem} : ok_qJ I z_qJ zw_qJ := ⟨SlAt.nil⟩
structure qG where
  To : By8
  By : By8
  Table : By8
  Priv : Int
  Option : Bool
def cs_qG (x : qG) : List Value := [.string x.To, .string x.By, .string x.Table, .int .i64 x.Priv, .bool x.Option]
abbrev vG (x : qG) : Value := .agg (cs_qG x).toArray
abbrev bG (bb : Nat) (x : qG) : Mem := Bx bb (cs_qG x) 122
def R_qG (I : Mem) (cs : List Value) (x : qG) : Prop := cs = cs_qG x
instance : Mono R_qG := ⟨fun hl h => (by obtain rfl := h; exact rfl), fun h c hv => (by obtain rfl := h; exact (by simp only [cs_qG, List.mem_cons, List.not_mem_nil, or_false] at hv; rcases hv with rfl | rfl | rfl | rfl | rfl <;> first | rfl | rfl))⟩
def z_qG : qG := ⟨eB, eB, eB, 0, false⟩
structure qC where
  Version : Int
  Tables : List qT
  Roles : List qJ
  Grants : List qG
structure W_qC where
  Tables : SW
  Roles : SW
  Grants : SW
def cs_qC (x : qC) (v : W_qC) : List Value := [.int .i64 x.Version, .slice v.Tables.a x.Tables.length v.Tables.c, .slice v.Roles.a x.Roles.length v.Roles.c, .slice v.Grants.a x.Grants.length v.Grants.c]
abbrev vC (x : qC) (v : W_qC) : Value := .agg (cs_qC x v).toArray
abbrev bC (bb : Nat) (x : qC) (v : W_qC) : Mem := Bx bb (cs_qC x v) 44
structure ok_qC (I : Mem) (x : qC) (v : W_qC) : Prop where
  Tables : RSl 6 R_qT I v.Tables.a v.Tables.c x.Tables
  Roles : RSl 2 R_qJ I v.Roles.a v.Roles.c x.Roles
  Grants : RSl 5 R_qG I v.Grants.a v.Grants.c x.Grants
theorem ok_qC.mono {I J : Mem} {x : qC} {v : W_qC} (h : ok_qC I x v) (hl : I.Le J) : ok_qC J x v := ⟨RSl.mono h.Tables hl, RSl.mono h.Roles hl, RSl.mono h.Grants hl⟩
def R_qC (I : Mem) (cs : List Value) (x : qC) : Prop := ∃ v : W_qC, cs = cs_qC x v ∧ ok_qC I x v
instance : Mono R_qC := ⟨fun hl h => (by obtain ⟨v, rfl, h⟩ := h; exact ⟨v, rfl, h.mono hl⟩), fun h c hv => (by obtain ⟨v, rfl, h⟩ := h; exact (by simp only [cs_qC, List.mem_cons, List.not_mem_nil, or_false] at hv; rcases hv with rfl | rfl | rfl | rfl <;> first | rfl | rfl))⟩
def z_qC : qC := ⟨0, [], [], []⟩
def zw_qC : W_qC := ⟨⟨none, 0⟩, ⟨none, 0⟩, ⟨none, 0⟩⟩
theorem zok_qC {I : Mem} : ok_qC I z_qC zw_qC := ⟨SlAt.nil, SlAt.nil, SlAt.nil⟩
def r10_count_fu : Nat → qE → Int → Option (Int × Bool)
  | 0, _, _ => none
  | fu + 1, p0, p1 => (some ((decide (p1 ≤ 0)) || (decide ((p0.Kids.length : Int) > 12)))).bind (fun (q5 : Bool) => (some ((q5 || (decide ((p0.Name.size : Int) > 100))) || (decide ((p0.V.S.size : Int) > 100)))).bind (fun (q10 : Bool) => (bif q10 then some (0, false) else (forN (fun (i18 : Nat) (s17 : Int) => (idx p0.Kids (i18 : Int)).bind (fun x25 => (r10_count_fu fu x25 s17).bind (fun (r31, r32) => (bif (!r32) then some (.inr ((0 : Int), false)) else some (.inl r31))))) p0.Kids.length 0 (w64 (p1 - 1))).bind (fun (t : Int ⊕ ((Int × Bool))) => match t with | .inl s17 => some (s17, true) | .inr (s34, s35) => some (s34, s35)))))
noncomputable def r10_count (p0 : qE) (p1 : Int) : Option (Int × Bool) := anyFuel (fun fu => r10_count_fu fu p0 p1)
theorem r10_count_fu_ok : ∀ (fu : Nat) {E w : World} {I : Mem} {Os : List Mem} {p0 : qE} {p1 : Int} {w_p0 : W_qE} (h_p0 : ok_qE I p0 w_p0) (hS : St E w I Os) {r : Int × Bool} (D : r10_count_fu fu p0 p1 = some r),
    Calls P 37 #[(vE p0 w_p0), (Iv p1)] w (RT E I Os (.tuple #[(Iv r.1), (.bool r.2)])) := by
 intro fu
 induction fu with
 | zero => intro E w I Os p0 p1 w_p0 h_p0 hS r D; cases D
 | succ fu ih =>
 intro E w I Os p0 p1 w_p0 h_p0 hS r D
 refine calls_W (fn := Tryz.f37) rfl rfl rfl ?_
 unfold r10_count_fu at D
 refine ye nL3 (yaa hS (cs_qE p0 w_p0) 31 z fun b1 w4 S3 => ya 1 2 z (yb (yi (ye nL21 (ya 0 3 z (bsq D fun q5 Xq5 D => ya7 [3, 4, 5, 6] 7 10 15 Xq5 (fun _ => yh 3 1 [6] z (yj (S3.rf m0) z (ya 5 3 z yal))) (ya 8 1 z (ya7 [9, 10, 11, 12] 13 16 21 (.refl (q5 || (decide ((p0.Name.size : Int) > 100)))) (fun _ => yh 9 1 [5] z (yj (S3.rf m0) z (ya 11 3 z yal))) (ya 14 1 z (bsq D fun q10 Xq10 D => ya7 [15, 16, 17, 18, 19] 20 22 28 Xq10 (fun _ => yh 15 2 [2, 2] z (yj (S3.rf m0) z (ya 18 3 z yal))) (yb (y3 D (fun G D => ?_) (fun G D => ?_)))))))))))))
 exact ye nL2 (ya 0 2 z (yb (yq (yf (sj D ▸ ya8 ⟨I, rfl, lr, S3.drop⟩)))))
 refine yl (yc (ye nL3 (ya 0 3 z (yb (yi (ye [0] (ya 0 1 z (yb (yo (bsk D fun t14 hloop19 D => have hlt23 := (h_p0.Kids).len_lt; W.wk (yau (m := p0.Kids.length) hloop19 (fun (i18 : Nat) (s17 : Int) => JI E I [(1, Iv s17), (2, Pt b1 0), (6, Nv i18)] (bE b1 p0 w_p0 :: Os)) ⟨I, rfl, lr, S3⟩ ?_ ?_)))))))))))
 rintro i18 s17 _ w20 hi24 ⟨I15, rfl, L16, S21⟩ x22 R1 hext14
 refine yi (ye nL5 (yh 0 2 [6] z (yj (S21.rf m0) z (ya 3 2 z (yb (yax fun _ => yl (yc (yi (yo (ye [0] (ya 0 1 z (y8 nL12 (yh 0 1 [6] z (yj (S21.rf m0) z (ya 2 1 z ?_)))))))))))))))
 obtain ⟨x25, Xx25, R1⟩ := bsm R1
 obtain ⟨h0_x25, h1_x25, Xx25⟩ := idx_some Xx25
 obtain ⟨ha_x25, cs_x25, hn_x25, hr_x25, Zx25⟩ := ((RSl.mono h_p0.Kids L16)).el _ _ Xx25
 obtain ⟨w_x25, rfl, h_x25⟩ := Q_qE_iff.1 hr_x25
 refine ya5 31 7 ha_x25 h0_x25 h1_x25 ?_
 refine yat ((cs_qE x25 w_x25)) Zx25 0 S21.rm z (ya 5 1 z ?_)
 obtain ⟨⟨r31, r32⟩, Xr26, R1⟩ := bsm R1
 refine WO.c1 (ih h_x25 S21 Xr26) z fun I28 w27 L29 S30 => ya 7 5 z (y8 nL2 (ya 0 2 z (yb (y3 R1 (fun G R1 => ?_) (fun G R1 => ?_)))))
 refine ye nL2 (ya 0 2 z (yb (yq (yn (yf (yv ?_))))))
 obtain rfl := hext14 _ (sj R1).symm
 exact yn (yf (sj D ▸ ya8 ⟨I28, rfl, le, S30.drop⟩))
 exact yl (ym (yc (yai nL3 (ya 0 1 z (yap i18 z (ya 2 1 z (yr (yx ⟨r31, (sj R1).symm, I28, rfl, le, S30⟩))))))))
 rintro s17 _ w38 ⟨I15, rfl, L16, S39⟩ he
 cases he
 exact yi (ye nL5 (yh 0 2 [6] z (yj (S39.rf m0) z (ya 3 2 z (yb (yay fun _ => yab (yp (yt (yu (yc (ye nL3 (ya 0 3 z (yb (yq (sj D ▸ ya8 ⟨I15, rfl, L16, S39.drop⟩)))))))))))))))
theorem r10_count_ok {p0 : qE} {p1 : Int} {w_p0 : W_qE} (h_p0 : ok_qE I p0 w_p0) (hS : St E w I Os) {r : Int × Bool} (D : r10_count p0 p1 = some r) :
    Calls P 37 #[(vE p0 w_p0), (Iv p1)] w (RT E I Os (.tuple #[(Iv r.1), (.bool r.2)])) := by
 obtain ⟨fu, hf⟩ := anyFuel_some D
 exact r10_count_fu_ok fu h_p0 hS hf
noncomputable def r10_Few (p0 : qE) (p1 : Int) : Option Bool := (r10_count p0 p1).bind (fun (r10, r11) => some r11)
theorem r10_Few_ok {p0 : qE} {p1 : Int} {w_p0 : W_qE} (h_p0 : ok_qE I p0 w_p0) (hS : St E w I Os) {r : Bool} (D : r10_Few p0 p1 = some r) :
    Calls P 13 #[(vE p0 w_p0), (Iv p1)] w (RT E I Os (.bool r)) := by
 refine calls_W (fn := Tryz.f13) rfl rfl rfl ?_
 unfold r10_Few at D
 refine ye nL2 (yaa hS (cs_qE p0 w_p0) 31 z fun b1 w4 S3 => ya 1 1 z (y8 nL8 (y4 ((cs_qE p0 w_p0)) (S3.rf m0) z (ya 1 1 z ?_))))
 obtain ⟨⟨r10, r11⟩, Xr5, D⟩ := bsm D
 exact WO.c1 (r10_count_ok h_p0 S3 Xr5) z fun I7 w6 L8 S9 => ya 3 5 z (y8 nL2 (ya 0 2 z (yb (yq (sj D ▸ yy ⟨I7, rfl, L8, S9.drop⟩)))))
noncomputable def r12_Few_fu : Nat → qS → Option Bool
  | 0, _ => none
  | fu + 1, p0 => (some ((decide ((p0.Cols.length : Int) > 12)) || (decide ((p0.Cons.length : Int) > 12)))).bind (fun (q5 : Bool) => (some ((q5 || (decide ((p0.Names.length : Int) > 12))) || (decide ((p0.Rows.length : Int) > 12)))).bind (fun (q10 : Bool) => (some ((q10 || (decide ((p0.Sets.length : Int) > 12))) || (decide ((p0.Order.length : Int) > 12)))).bind (fun (q15 : Bool) => ((bif (q15 || (decide ((p0.Kids.length : Int) > 1))) then some true else (r10_Few p0.Where 60).bind (fun r29 => some (!r29)))).bind (fun (j20 : Bool) => (bif j20 then some false else (app 16 ([p0.Table, p0.Name, p0.Role] : List By8) p0.Names).bind (fun x40 => (forE (fun (i51 : Nat) (s50 : List By8) => (idx p0.Cols (i51 : Int)).bind (fun x59 => (app 16 s50 ([x59.Name] : List By8)).bind (fun x68 => some x68))) p0.Cols.length 0 x40).bind (fun s50 => (forN (fun (i84 : Nat) (s83 : List By8) => (idx p0.Cons (i84 : Int)).bind (fun x91 => (some ((decide ((x91.Cols.length : Int) > 12)) || (decide ((x91.Refs.length : Int) > 12)))).bind (fun (q98 : Bool) => ((bif q98 then some true else (r10_Few x91.Check 60).bind (fun r112 => some (!r112)))).bind (fun (j101 : Bool) => (bif j101 then some (.inr false) else (app 16 s83 ([x91.Name, x91.Table] : List By8)).bind (fun x132 => (app 16 x132 x91.Cols).bind (fun x141 => (app 16 x141 x91.Refs).bind (fun x148 => some (.inl x148))))))))) p0.Cons.length 0 s50).bind (fun (t : (List By8) ⊕ (Bool)) => match t with | .inl s83 => (forN (fun (i163 : Nat) (_s : Unit) => (idx p0.Rows (i163 : Int)).bind (fun x170 => (bif (decide ((x170.length : Int) > 12)) then some (.inr false) else (loopO (fun (s180 : Int) => (idx p0.Rows (i163 : Int)).bind (fun x185 => (bif (decide (s180 < (x185.length : Int))) then (idx p0.Rows (i163 : Int)).bind (fun x186 => (idx x186 s180).bind (fun x187 => (r10_Few x187 60).bind (fun r193 => (bif (!r193) then some (.inr (.inl false)) else some (.inl (w64 (s180 + 1))))))) else some (.inr (.inr ()))))) 0).bind (fun (t : Bool ⊕ Unit) => match t with | (.inl s195) => some (.inr s195) | (.inr ()) => some (.inl ()))))) p0.Rows.length 0 ()).bind (fun (t : Unit ⊕ (Bool)) => match t with | .inl _ => (forN (fun (i207 : Nat) (s206 : List By8) => (idx p0.Sets (i207 : Int)).bind (fun x214 => (app 16 s206 ([x214.Name] : List By8)).bind (fun x223 => (idx p0.Sets (i207 : Int)).bind (fun x232 => (r10_Few x232.E 60).bind (fun r238 => (bif (!r238) then some (.inr false) else some (.inl x223))))))) p0.Sets.length 0 s83).bind (fun (t : (List By8) ⊕ (Bool)) => match t with | .inl s206 => (forN (fun (i251 : Nat) (_s : Unit) => (idx p0.Order (i251 : Int)).bind (fun x258 => (r10_Few x258.E 60).bind (fun r264 => (bif (!r264) then some (.inr false) else some (.inl ()))))) p0.Order.length 0 ()).bind (fun (t : Unit ⊕ (Bool)) => match t with | .inl _ => (forN (fun (i276 : Nat) (_s : Unit) => (idx s206 (i276 : Int)).bind (fun x283 => (bif (decide ((x283.size : Int) > 100)) then some (.inr false) else some (.inl ())))) s206.length 0 ()).bind (fun (t : Unit ⊕ (Bool)) => match t with | .inl _ => ((bif ((p0.Kids.length : Int) == 0) then some true else (idx p0.Kids 0).bind (fun x298 => ((bif ((x298.Kids.length : Int) == 0) then (idx p0.Kids 0).bind (fun x303 => (r12_Few_fu fu x303).bind (fun r309 => some r309)) else some false)).bind (fun (j299 : Bool) => some j299)))).bind (fun (j292 : Bool) => some j292) | .inr s285 => some s285) | .inr s266 => some s266) | .inr s240 => some s240) | .inr s172 => some s172) | .inr s118 => some s118))))))))
noncomputable def r12_Few (p0 : qS) : Option Bool := anyFuel (fun fu => r12_Few_fu fu p0)
theorem r12_Few_fu_ok : ∀ (fu : Nat) {E w : World} {I : Mem} {Os : List Mem} {p0 : qS} {w_p0 : W_qS} (h_p0 : ok_qS I p0 w_p0) (hS : St E w I Os) {r : Bool} (D : r12_Few_fu fu p0 = some r),
    Calls P 6 #[(vS p0 w_p0)] w (RT E I Os (.bool r)) := by
 intro fu
 induction fu with
 | zero => intro E w I Os p0 w_p0 h_p0 hS r D; cases D
 | succ fu ih =>
 intro E w I Os p0 w_p0 h_p0 hS r D
 refine calls_W (fn := Tryz.f6) rfl rfl rfl ?_
 unfold r12_Few_fu at D
 refine ye nL2 (yaa hS (cs_qS p0 w_p0) 36 z fun b1 w4 S3 => ya 1 1 z (yb (yi (ye nL46 (yh 0 1 [4] z (yj (S3.rf m0) z (ya 2 3 z (bsq D fun q5 Xq5 D => ya7 [5, 6, 7, 8] 9 16 21 Xq5 (fun _ => yh 5 1 [5] z (yj (S3.rf m0) z (ya 7 3 z yal))) (ya 10 1 z (ya7 [11, 12, 13, 14] 15 22 27 (.refl (q5 || (decide ((p0.Names.length : Int) > 12)))) (fun _ => yh 11 1 [6] z (yj (S3.rf m0) z (ya 13 3 z yal))) (ya 16 1 z (bsq D fun q10 Xq10 D => ya7 [17, 18, 19, 20] 21 28 33 Xq10 (fun _ => yh 17 1 [7] z (yj (S3.rf m0) z (ya 19 3 z yal))) (ya 22 1 z (ya7 [23, 24, 25, 26] 27 34 39 (.refl (q10 || (decide ((p0.Sets.length : Int) > 12)))) (fun _ => yh 23 1 [15] z (yj (S3.rf m0) z (ya 25 3 z yal))) (ya 28 1 z (bsq D fun q15 Xq15 D => ya7 [29, 30, 31, 32] 33 40 45 Xq15 (fun _ => yh 29 1 [16] z (yj (S3.rf m0) z (ya 31 3 z yal))) (ya 34 1 z (ya7 [35, 36, 37, 38] 39 46 51 (.refl (q15 || (decide ((p0.Kids.length : Int) > 1)))) (fun _ => yh 35 1 [20] z (yj (S3.rf m0) z (ya 37 3 z yal))) (ya 40 1 z (bsk D fun j20 R1 D => yao (l1 := [41, 42, 43, 44, 45]) (J := JI E I [(1, Pt b1 0), (57, .bool j20)] (bS b1 p0 w_p0 :: Os)) ?_ ?_))))))))))))))))))))
 refine yan R1 (fun G R1 => ?_) (fun G R1 => ?_)
 refine y7 52 G ?_
 iterate 4 refine yam ?_
 exact ya 45 1 z (sj R1 ▸ y6 ⟨I, rfl, lr, S3⟩)
 exact y7 52 G (yh 41 1 [8] z (y4 ((cs_qE p0.Where w_p0.Where)) (S3.rf m0) z (bsk R1 fun r29 Xr24 R1 => WO.c1 (r10_Few_ok h_p0.Where S3 Xr24) z fun I26 w25 L27 S28 => ya 44 2 z (sj R1 ▸ y6 ⟨I26, rfl, L27, S28⟩))))
 rintro _ w30 ⟨I22, rfl, L23, S31⟩
 refine yb (y3 D (fun G D => ?_) (fun G D => ?_))
 exact ye [0] (ya 0 1 z (yb (yq (yf (sj D ▸ yy ⟨I22, rfl, L23, S31.drop⟩)))))
 refine yl (yc (ye nL8 (yh 0 1 [1] z (yj (S31.rf m0) z (yh 2 1 [2] z (yj (S31.rf m0) z (yh 4 1 [3] z (yj (S31.rf m0) z (yag (rel := RStr) (xs := ([p0.Table, p0.Name, p0.Role] : List By8)) S31 z kr z 9 1 [[(.string p0.Table)], [(.string p0.Name)], [(.string p0.Role)]] kr z ((Elr.cons z (Elr.cons z (Elr.cons z Elr.nil)))) tv ?_)))))))))
 intro a36 C34 w38 S37 ho35
 refine ya 7 1 z (y8 nL5 (yh 0 2 [6] z (yj (S37.rf m1) z (apk D fun x40 h0_x40 he_x40 D => ya2 9 16 [(.string eB)] S37 ho35 (RSl.mono h_p0.Names L23) S37.im h0_x40 he_x40 z fun a41 c42 w43 C44 S45 ho46 => ya 4 1 z (yb (yi (ye [0] (ya 0 1 z (yb (yo (bsk D fun s50 hloop52 D => have hlt57 := ((RSl.mono h_p0.Cols L23)).len_lt; W.wk (ya1 (m := p0.Cols.length) hloop52 (fun (i51 : Nat) (s50 : List By8) fr w => ∃ I48 a_s50 c_s50 C_s50, fr = [(1, Pt b1 0), (3, Sl a_s50 s50 c_s50), (4, Nv i51)] ∧ I22.Le I48 ∧ St E w I48 (bS b1 p0 w_p0 :: (C_s50) :: Os) ∧ OwnSl 9 1 RStr I48 C_s50 a_s50 c_s50 s50) ⟨I22, a41, c42, C44, rfl, lr, S45.front1, ho46⟩ ?_ ?_))))))))))))
 rintro i51 s50 _ w54 hi58 ⟨I48, a_s50, c_s50, C_s50, rfl, L49, S55, h_s50⟩ x56 R1
 refine yi (ye nL5 (yh 0 2 [4] z (yj (S55.rf m0) z (ya 3 2 z (yb (yax fun _ => yl (yc (yi (yo (yai nL10 (yh 0 2 [4] z (yj (S55.rf m0) z (ya 3 1 z ?_)))))))))))))
 obtain ⟨x59, R1, Hx59, _, rfl, Zx59⟩ := sx I48 h_p0.Cols R1
 refine yac 54 3 Hx59 z (yh 5 1 [0] z (yar Zx59 S55.rm z (yag (rel := RStr) (xs := ([x59.Name] : List By8)) S55 z kr z 9 1 [[(.string x59.Name)]] kr z ((Elr.cons z Elr.nil)) tv ?_)))
 intro a63 C61 w65 S64 ho62
 have S67 := S64.front2
 exact apk R1 fun x68 h0_x68 he_x68 R1 => ya2 9 16 [(.string eB)] S67 h_s50 ho62.sl (S67.rd m1) h0_x68 he_x68 z fun a69 c70 w71 C72 S73 ho74 => ya 9 1 z (yr (ym (yc (yai nL3 (ya 0 1 z (yap i51 z (ya 2 1 z (yr (sj R1 ▸ yx ⟨I48, a69, c70, C72, rfl, L49, S73.front1.drop.front1, ho74⟩)))))))))
 rintro _ w78 ⟨I48, a_s50, c_s50, C_s50, rfl, L49, S79, h_s50⟩
 refine yi (ye nL5 (yh 0 2 [4] z (yj (S79.rf m0) z (ya 3 2 z (yb (yay fun _ => yab (yp (yt (yu (yc (yi (ye [0] (ya 0 1 z (yb (yo (bsk D fun t80 hloop85 D => have hlt89 := ((RSl.mono h_p0.Cons (L23.trans L49))).len_lt; W.wk (yau (m := p0.Cons.length) hloop85 (fun (i84 : Nat) (s83 : List By8) fr w => ∃ I81 a_s83 c_s83 C_s83, fr = [(1, Pt b1 0), (3, Sl a_s83 s83 c_s83), (5, Nv i84)] ∧ I48.Le I81 ∧ St E w I81 (bS b1 p0 w_p0 :: (C_s83) :: Os) ∧ OwnSl 9 1 RStr I81 C_s83 a_s83 c_s83 s83) ⟨I48, a_s50, c_s50, C_s50, rfl, lr, S79, h_s50⟩ ?_ ?_)))))))))))))))))
 rintro i84 s83 _ w86 hi90 ⟨I81, a_s83, c_s83, C_s83, rfl, L82, S87, h_s83⟩ x88 R1 hext80
 refine yi (ye nL5 (yh 0 2 [5] z (yj (S87.rf m0) z (ya 3 2 z (yb (yax fun _ => yl (yc (yi (yo (ye nL7 (yh 0 1 [5] z (yj (S87.rf m0) z (ya 2 1 z ?_)))))))))))))
 obtain ⟨x91, R1, Hx91, _, ⟨w_x91, rfl, h_x91⟩, Zx91⟩ := sx I81 h_p0.Cons R1
 refine yac 59 12 Hx91 z (yat ((cs_qK x91 w_x91)) Zx91 0 S87.rm z (yaa S87 (cs_qK z_qK zw_qK) 59 z fun b92 w95 S94 => yad S94 0 (cs_qK x91 w_x91) fun w97 S96 => yb (yi (ye nL16 (yh 0 1 [2] z (yj (S96.rf m0) z (ya 2 3 z (bsq R1 fun q98 Xq98 R1 => ya7 [5, 6, 7, 8] 9 101 106 Xq98 (fun _ => yh 5 1 [11] z (yj (S96.rf m0) z (ya 7 3 z yal))) (ya 10 1 z (bsk R1 fun j101 R2 R1 => yao (l1 := [11, 12, 13, 14, 15]) (J := JI E I81 [(1, Pt b1 0), (3, Sl a_s83 s83 c_s83), (5, Nv i84), (6, Pt b92 0), (112, .bool j101)] (bS b1 p0 w_p0 :: (C_s83) :: (bK b92 x91 w_x91) :: Os)) ?_ ?_))))))))))
 refine yan R2 (fun G R2 => ?_) (fun G R2 => ?_)
 refine y7 107 G ?_
 iterate 4 refine yam ?_
 exact ya 15 1 z (sj R2 ▸ y6 ⟨I81, rfl, lr, S96.front2.front2⟩)
 exact y7 107 G (yh 11 1 [3] z (y4 ((cs_qE x91.Check w_x91.Check)) (S96.rf m0) z (bsk R2 fun r112 Xr107 R2 => WO.c1 (r10_Few_ok h_x91.Check S96 Xr107) z fun I109 w108 L110 S111 => ya 14 2 z (sj R2 ▸ y6 ⟨I109, rfl, L110, S111.front2.front2⟩))))
 rintro _ w115 ⟨I103, rfl, L104, S116⟩
 refine yb (y3 R1 (fun G R1 => ?_) (fun G R1 => ?_))
 refine ye [0] (ya 0 1 z (yb (yq (yf (yn (yf (yv ?_)))))))
 obtain rfl := hext80 _ (sj R1).symm
 exact yn (yf (sj D ▸ yy ⟨I103, rfl, le, S116.d3⟩))
 refine yl (yc (ye nL8 (yh 0 2 [0] z (yj (S116.rf m2) z (yh 3 1 [10] z (yj (S116.rf m2) z (yag (rel := RStr) (xs := ([x91.Name, x91.Table] : List By8)) S116 z kr z 9 1 [[(.string x91.Name)], [(.string x91.Table)]] kr z ((Elr.cons z (Elr.cons z Elr.nil))) tv ?_)))))))
 intro a127 C125 w129 S128 ho126
 have S131 := S128.front2
 exact apk R1 fun x132 h0_x132 he_x132 R1 => ya2 9 16 [(.string eB)] S131 (OwnSl.mono h_s83 L104) ho126.sl (S131.rd m1) h0_x132 he_x132 z fun a133 c134 w135 C136 S137 ho138 => have S140 := S137.front1.drop; ya 7 1 z (y8 nL5 (yh 0 2 [2] z (yj (S140.rf m2) z (apk R1 fun x141 h0_x141 he_x141 R1 => ya2 9 16 [(.string eB)] S140 ho138 (RSl.mono h_x91.Cols L104) S140.im h0_x141 he_x141 z fun a142 c143 w144 C145 S146 ho147 => ya 4 1 z (yb (yai nL5 (yh 0 2 [11] z (yj (S146.rf m2) z (apk R1 fun x148 h0_x148 he_x148 R1 => ya2 9 16 [(.string eB)] S146 ho147 (RSl.mono h_x91.Refs L104) S146.im h0_x148 he_x148 z fun a149 c150 w151 C152 S153 ho154 => ya 4 1 z (yr (ym (yc (yai nL3 (ya 0 1 z (yap i84 z (ya 2 1 z (yr (yx ⟨x148, (sj R1).symm, I103, a149, c150, C152, rfl, le, S153.front2.drop.front1, ho154⟩))))))))))))))))))
 rintro s83 _ w158 ⟨I81, a_s83, c_s83, C_s83, rfl, L82, S159, h_s83⟩ he
 cases he
 refine yi (ye nL5 (yh 0 2 [5] z (yj (S159.rf m0) z (ya 3 2 z (yb (yay fun _ => yab (yp (yt (yu (yc (yi (ye [0] (ya 0 1 z (yb (yo (bsk D fun t160 hloop164 D => have hlt168 := ((RSl.mono h_p0.Rows ((L23.trans L49).trans L82))).len_lt; W.wk (yau (m := p0.Rows.length) hloop164 (fun (i163 : Nat) (_s : Unit) => JI E I81 [(1, Pt b1 0), (3, Sl a_s83 s83 c_s83), (7, Nv i163)] (bS b1 p0 w_p0 :: (C_s83) :: Os)) ⟨I81, rfl, lr, S159⟩ ?_ ?_)))))))))))))))))
 rintro i163 _ _ w165 hi169 ⟨I161, rfl, L162, S166⟩ x167 R1 hext160
 refine yi (ye nL5 (yh 0 2 [7] z (yj (S166.rf m0) z (ya 3 2 z (yb (yax fun _ => yl (yc (yi (yo (yi (ye nL7 (yh 0 1 [7] z (yj (S166.rf m0) z (ya 2 1 z ?_))))))))))))))
 obtain ⟨x170, Xx170, R1⟩ := bsm R1
 obtain ⟨h0_x170, h1_x170, Xx170⟩ := idx_some Xx170
 obtain ⟨ha_x170, cs_x170, hn_x170, hr_x170, Zx170⟩ := ((RSl.mono h_p0.Rows (((L23.trans L49).trans L82).trans L162))).el _ _ Xx170
 obtain ⟨a_x170, c_x170, rfl, h_x170⟩ := hr_x170
 refine ya5 29 1 ha_x170 h0_x170 h1_x170 ?_
 refine yar Zx170 S166.rm z (ya 5 2 z (yb (y3 R1 (fun G R1 => ?_) (fun G R1 => ?_))))
 refine ye [0] (ya 0 1 z (yb (yq (yf (yn (yf (yv ?_)))))))
 obtain rfl := hext160 _ (sj R1).symm
 exact yn (yf (sj D ▸ yy ⟨I161, rfl, le, S166.d2⟩))
 refine yl (yc (ye [0] (ya 0 1 z (yb (yo (bsk R1 fun t177 hloop181 R1 => W.wk (ya4 hloop181 (fun (s180 : Int) => JI E I161 [(1, Pt b1 0), (3, Sl a_s83 s83 c_s83), (7, Nv i163), (8, Iv s180)] (bS b1 p0 w_p0 :: (C_s83) :: Os)) ⟨I161, rfl, lr, S166⟩ ?_)))))))
 rintro s180 _ w182 ⟨I178, rfl, L179, S183⟩ x184 R2 hext177
 refine yi (ye nL8 (yh 0 2 [7] z (yj (S183.rf m0) z (ya 3 1 z ?_))))
 obtain ⟨x185, Xx185, R2⟩ := bsm R2
 obtain ⟨h0_x185, h1_x185, Xx185⟩ := idx_some Xx185
 obtain ⟨ha_x185, cs_x185, hn_x185, hr_x185, Zx185⟩ := ((RSl.mono h_p0.Rows ((((L23.trans L49).trans L82).trans L162).trans L179))).el _ _ Xx185
 obtain ⟨a_x185, c_x185, rfl, h_x185⟩ := hr_x185
 refine ya5 29 1 ha_x185 h0_x185 h1_x185 ?_
 refine yar Zx185 S183.rm z (ya 6 2 z (yb (y3 R2 (fun G R2 => ?_) (fun G R2 => ?_))))
 refine yl (yc (yi (yo (ye nL10 (yh 0 1 [7] z (yj (S183.rf m0) z (ya 2 1 z ?_)))))))
 obtain ⟨x186, Xx186, R2⟩ := bsm R2
 obtain ⟨h0_x186, h1_x186, Xx186⟩ := idx_some Xx186
 obtain ⟨ha_x186, cs_x186, hn_x186, hr_x186, Zx186⟩ := ((RSl.mono h_p0.Rows ((((L23.trans L49).trans L82).trans L162).trans L179))).el _ _ Xx186
 obtain ⟨a_x186, c_x186, rfl, h_x186⟩ := hr_x186
 refine ya5 29 1 ha_x186 h0_x186 h1_x186 ?_
 refine yar Zx186 S183.rm z (ya 5 1 z ?_)
 obtain ⟨x187, Xx187, R2⟩ := bsm R2
 obtain ⟨h0_x187, h1_x187, Xx187⟩ := idx_some Xx187
 obtain ⟨ha_x187, cs_x187, hn_x187, hr_x187, Zx187⟩ := (h_x186).el _ _ Xx187
 obtain ⟨w_x187, rfl, h_x187⟩ := Q_qE_iff.1 hr_x187
 refine ya5 31 7 ha_x187 h0_x187 h1_x187 ?_
 refine yat ((cs_qE x187 w_x187)) Zx187 0 S183.rm z (bsk R2 fun r193 Xr188 R2 => WO.c1 (r10_Few_ok h_x187 S183 Xr188) z fun I190 w189 L191 S192 => ya 9 1 z (yb (y3 R2 (fun G R2 => ?_) (fun G R2 => ?_))))
 refine ye [0] (ya 0 1 z (yb (yq (yn (yf (yv ?_))))))
 obtain rfl := hext177 _ (sj R2).symm
 refine yn (yn (yf (yv ?_)))
 obtain rfl := hext160 _ (sj R1).symm
 exact yn (yf (sj D ▸ yy ⟨I190, rfl, le, S192.d2⟩))
 exact yl (ym (yc (yai nL3 (ya 0 3 z (yr (yx ⟨(w64 (s180 + 1)), (sj R2).symm, I190, rfl, le, S192⟩))))))
 refine yab (yp (yt ?_))
 obtain rfl := hext177 _ (sj R2).symm
 exact yu (ym (yc (yai nL3 (ya 0 1 z (yap i163 z (ya 2 1 z (yr (yx ⟨(), (sj R1).symm, I178, rfl, le, S183⟩))))))))
 rintro _ _ w201 ⟨I161, rfl, L162, S202⟩ he
 cases he
 refine yi (ye nL5 (yh 0 2 [7] z (yj (S202.rf m0) z (ya 3 2 z (yb (yay fun _ => yab (yp (yt (yu (yc (yi (ye [0] (ya 0 1 z (yb (yo (bsk D fun t203 hloop208 D => have hlt212 := ((RSl.mono h_p0.Sets (((L23.trans L49).trans L82).trans L162))).len_lt; W.wk (yau (m := p0.Sets.length) hloop208 (fun (i207 : Nat) (s206 : List By8) fr w => ∃ I204 a_s206 c_s206 C_s206, fr = [(1, Pt b1 0), (3, Sl a_s206 s206 c_s206), (9, Nv i207)] ∧ I161.Le I204 ∧ St E w I204 (bS b1 p0 w_p0 :: (C_s206) :: Os) ∧ OwnSl 9 1 RStr I204 C_s206 a_s206 c_s206 s206) ⟨I161, a_s83, c_s83, C_s83, rfl, lr, S202, (OwnSl.mono h_s83 L162)⟩ ?_ ?_)))))))))))))))))
 rintro i207 s206 _ w209 hi213 ⟨I204, a_s206, c_s206, C_s206, rfl, L205, S210, h_s206⟩ x211 R1 hext203
 refine yi (ye nL5 (yh 0 2 [15] z (yj (S210.rf m0) z (ya 3 2 z (yb (yax fun _ => yl (yc (yi (yo (ye nL10 (yh 0 2 [15] z (yj (S210.rf m0) z (ya 3 1 z ?_)))))))))))))
 obtain ⟨x214, R1, Hx214, _, ⟨w_x214, rfl, h_x214⟩, Zx214⟩ := sx I204 h_p0.Sets R1
 refine yac 61 8 Hx214 z (yh 5 1 [0] z (yar Zx214 S210.rm z (yag (rel := RStr) (xs := ([x214.Name] : List By8)) S210 z kr z 9 1 [[(.string x214.Name)]] kr z ((Elr.cons z Elr.nil)) tv ?_)))
 intro a218 C216 w220 S219 ho217
 have S222 := S219.front2
 refine apk R1 fun x223 h0_x223 he_x223 R1 => ya2 9 16 [(.string eB)] S222 h_s206 ho217.sl (S222.rd m1) h0_x223 he_x223 z fun a224 c225 w226 C227 S228 ho229 => have S231 := S228.front1.drop; ya 9 1 z (y8 nL8 (yh 0 1 [15] z (yj (S231.rf m1) z (ya 2 1 z ?_))))
 obtain ⟨x232, R1, Hx232, _, ⟨w_x232, rfl, h_x232⟩, Zx232⟩ := sx I204 h_p0.Sets R1
 refine yac 61 8 Hx232 z (yh 4 1 [1] z (yat ((cs_qE x232.E w_x232.E)) Zx232 1 S231.rm z (bsk R1 fun r238 Xr233 R1 => WO.c1 (r10_Few_ok h_x232.E S231 Xr233) z fun I235 w234 L236 S237 => ya 7 1 z (yb (y3 R1 (fun G R1 => ?_) (fun G R1 => ?_))))))
 refine ye [0] (ya 0 1 z (yb (yq (yn (yf (yv ?_))))))
 obtain rfl := hext203 _ (sj R1).symm
 exact yn (yf (sj D ▸ yy ⟨I235, rfl, le, S237.d2⟩))
 exact yl (ym (yc (yai nL3 (ya 0 1 z (yap i207 z (ya 2 1 z (yr (yx ⟨x223, (sj R1).symm, I235, a224, c225, C227, rfl, le, S237.front1, (OwnSl.mono ho229 L236)⟩))))))))
 rintro s206 _ w246 ⟨I204, a_s206, c_s206, C_s206, rfl, L205, S247, h_s206⟩ he
 cases he
 refine yi (ye nL5 (yh 0 2 [15] z (yj (S247.rf m0) z (ya 3 2 z (yb (yay fun _ => yab (yp (yt (yu (yc (yi (ye [0] (ya 0 1 z (yb (yo (bsk D fun t248 hloop252 D => have hlt256 := ((RSl.mono h_p0.Order ((((L23.trans L49).trans L82).trans L162).trans L205))).len_lt; W.wk (yau (m := p0.Order.length) hloop252 (fun (i251 : Nat) (_s : Unit) => JI E I204 [(1, Pt b1 0), (3, Sl a_s206 s206 c_s206), (10, Nv i251)] (bS b1 p0 w_p0 :: (C_s206) :: Os)) ⟨I204, rfl, lr, S247⟩ ?_ ?_)))))))))))))))))
 rintro i251 _ _ w253 hi257 ⟨I249, rfl, L250, S254⟩ x255 R1 hext248
 refine yi (ye nL5 (yh 0 2 [16] z (yj (S254.rf m0) z (ya 3 2 z (yb (yax fun _ => yl (yc (yi (yo (ye nL8 (yh 0 1 [16] z (yj (S254.rf m0) z (ya 2 1 z ?_)))))))))))))
 obtain ⟨x258, R1, Hx258, _, ⟨w_x258, rfl, h_x258⟩, Zx258⟩ := sx I249 h_p0.Order R1
 refine yac 63 8 Hx258 z (yh 4 1 [0] z (yat ((cs_qE x258.E w_x258.E)) Zx258 0 S254.rm z (bsk R1 fun r264 Xr259 R1 => WO.c1 (r10_Few_ok h_x258.E S254 Xr259) z fun I261 w260 L262 S263 => ya 7 1 z (yb (y3 R1 (fun G R1 => ?_) (fun G R1 => ?_))))))
 refine ye [0] (ya 0 1 z (yb (yq (yn (yf (yv ?_))))))
 obtain rfl := hext248 _ (sj R1).symm
 exact yn (yf (sj D ▸ yy ⟨I261, rfl, le, S263.d2⟩))
 exact yl (ym (yc (yai nL3 (ya 0 1 z (yap i251 z (ya 2 1 z (yr (yx ⟨(), (sj R1).symm, I261, rfl, le, S263⟩))))))))
 rintro _ _ w271 ⟨I249, rfl, L250, S272⟩ he
 cases he
 refine yi (ye nL5 (yh 0 2 [16] z (yj (S272.rf m0) z (ya 3 2 z (yb (yay fun _ => yab (yp (yt (yu (yc (yi (ye [0] (ya 0 1 z (yb (yo (bsk D fun t273 hloop277 D => have hlt281 := ((h_s206.mono L250).sl).len_lt; W.wk (yau (m := s206.length) hloop277 (fun (i276 : Nat) (_s : Unit) => JI E I249 [(1, Pt b1 0), (3, Sl a_s206 s206 c_s206), (11, Nv i276)] (bS b1 p0 w_p0 :: (C_s206) :: Os)) ⟨I249, rfl, lr, S272⟩ ?_ ?_)))))))))))))))))
 rintro i276 _ _ w278 hi282 ⟨I274, rfl, L275, S279⟩ x280 R1 hext273
 refine yi (ye nL4 (ya 0 4 z (yb (yax fun _ => yl (yc (yi (yo (ye nL6 (ya 0 2 z ?_)))))))))
 obtain ⟨x283, R1, Hx283, _, rfl, Zx283⟩ := sl_ix ((h_s206.mono (L250.trans L275)).sl) R1
 refine yac 9 1 Hx283 z (yar Zx283 (S279.rf m1) z (ya 4 2 z (yb (y3 R1 (fun G R1 => ?_) (fun G R1 => ?_)))))
 refine ye [0] (ya 0 1 z (yb (yq (yn (yf (yv ?_))))))
 obtain rfl := hext273 _ (sj R1).symm
 exact yn (yf (sj D ▸ yy ⟨I274, rfl, le, S279.d2⟩))
 exact yl (ym (yc (yai nL3 (ya 0 1 z (yap i276 z (ya 2 1 z (yr (yx ⟨(), (sj R1).symm, I274, rfl, L275, S279⟩))))))))
 rintro _ _ w290 ⟨I274, rfl, L275, S291⟩ he
 cases he
 refine yi (ye nL4 (ya 0 4 z (yb (yay fun _ => yab (yp (yt (yu (yc (ye nL21 (yh 0 1 [20] z (yj (S291.rf m0) z (ya 2 3 z (bsk D fun j292 R1 D => yao (l1 := [5, 6, 7, 8, 9, 10, 11, 12, 13, 14, 15, 16, 17, 18, 19]) (J := JI E I274 [(232, .bool j292)] Os) ?_ ?_)))))))))))))
 refine yan R1 (fun G R1 => ?_) (fun G R1 => ?_)
 refine y7 217 G ?_
 iterate 14 refine yam ?_
 exact ya 19 1 z (sj R1 ▸ y6 ⟨I274, rfl, lr, S291.d2⟩)
 refine y7 217 G (yh 5 1 [20] z (yj (S291.rf m0) z ?_))
 obtain ⟨x298, Xx298, R1⟩ := bsm R1
 obtain ⟨h0_x298, h1_x298, Xx298⟩ := idx_some Xx298
 obtain ⟨ha_x298, cs_x298, hn_x298, hr_x298, Zx298⟩ := ((RSl.mono h_p0.Kids ((((((L23.trans L49).trans L82).trans L162).trans L205).trans L250).trans L275))).el _ _ Xx298
 obtain ⟨w_x298, rfl, h_x298⟩ := Q_qS_iff.1 hr_x298
 refine ya5 36 21 ha_x298 h0_x298 h1_x298 ?_
 refine yh 8 1 [20] z (ya6 Zx298 20 S291.rm z (ya 10 3 z (bsk R1 fun j299 R2 R1 => yao (l1 := [13, 14, 15, 16, 17, 18]) (J := JI E I274 [(217, .bool false), (231, .bool j299)] Os) ?_ ?_)))
 refine yan R2 (fun G R2 => ?_) (fun G R2 => ?_)
 refine y7 225 G (yh 13 1 [20] z (yj (S291.rf m0) z ?_))
 obtain ⟨x303, Xx303, R2⟩ := bsm R2
 obtain ⟨h0_x303, h1_x303, Xx303⟩ := idx_some Xx303
 obtain ⟨ha_x303, cs_x303, hn_x303, hr_x303, Zx303⟩ := ((RSl.mono h_p0.Kids ((((((L23.trans L49).trans L82).trans L162).trans L205).trans L250).trans L275))).el _ _ Xx303
 obtain ⟨w_x303, rfl, h_x303⟩ := Q_qS_iff.1 hr_x303
 refine ya5 36 21 ha_x303 h0_x303 h1_x303 ?_
 exact yat ((cs_qS x303 w_x303)) Zx303 0 S291.rm z (bsk R2 fun r309 Xr304 R2 => WO.c1 (ih h_x303 S291 Xr304) z fun I306 w305 L307 S308 => ya 18 1 z (sj R2 ▸ y6 ⟨I306, rfl, L307, S308.d2⟩))
 refine y7 225 G ?_
 iterate 5 refine yam ?_
 exact ya 18 1 z (sj R2 ▸ y6 ⟨I274, rfl, lr, S291.d2⟩)
 rintro _ w314 ⟨I301, rfl, L302, S315⟩
 exact ya 19 1 z (sj R1 ▸ y6 ⟨I301, rfl, L302, S315⟩)
 rintro _ w316 ⟨I294, rfl, L295, S317⟩
 exact ya 20 1 z (yb (yq (sj D ▸ yy ⟨I294, rfl, le, S317⟩)))
theorem r12_Few_ok {p0 : qS} {w_p0 : W_qS} (h_p0 : ok_qS I p0 w_p0) (hS : St E w I Os) {r : Bool} (D : r12_Few p0 = some r) :
    Calls P 6 #[(vS p0 w_p0)] w (RT E I Os (.bool r)) := by
 obtain ⟨fu, hf⟩ := anyFuel_some D
 exact r12_Few_fu_ok fu h_p0 hS hf
noncomputable def law19_Few (p0 : List law19_Act) : Option Bool := (forN (fun (i4 : Nat) (_s : Unit) => ((bif (decide ((i4 : Int) ≥ 40)) then some true else (idx p0 (i4 : Int)).bind (fun x15 => (r12_Few x15.S).bind (fun r21 => some (!r21))))).bind (fun (j11 : Bool) => ((bif j11 then some true else (idx p0 (i4 : Int)).bind (fun x28 => some (decide ((x28.By.size : Int) > 100))))).bind (fun (j24 : Bool) => (bif j24 then some (.inr false) else some (.inl ()))))) p0.length 0 ()).bind (fun (t : Unit ⊕ (Bool)) => match t with | .inl _ => some true | .inr s32 => some s32)
theorem law19_Few_ok {p0 : List law19_Act} {a_p0 : Option Addr} {c_p0 : Nat} (h_p0 : RSl 22 R_law19_Act I a_p0 c_p0 p0) (hS : St E w I Os) {r : Bool} (D : law19_Few p0 = some r) :
    Calls P 5 #[(Sl a_p0 p0 c_p0)] w (RT E I Os (.bool r)) := by
 refine calls_W (fn := Tryz.f5) rfl rfl rfl ?_
 unfold law19_Few at D
 refine ye [0] (ya 0 1 z (yb (yi (ye [0] (ya 0 1 z (yb (yo (bsk D fun t1 hloop5 D => have hlt9 := (h_p0).len_lt; W.wk (yau (m := p0.length) hloop5 (fun (i4 : Nat) (_s : Unit) => JI E I [(0, Sl a_p0 p0 c_p0), (3, Nv i4)] Os) ⟨I, rfl, lr, hS⟩ ?_ ?_)))))))))
 rintro i4 _ _ w6 hi10 ⟨I2, rfl, L3, S7⟩ x8 R1 hext1
 refine yi (ye nL4 (ya 0 4 z (yb (yax fun _ => yl (yc (yi (yo (ye nL20 (ya 0 3 z (bsk R1 fun j11 R2 R1 => yao (l1 := [3, 4, 5, 6, 7, 8, 9, 10]) (J := JI E I2 [(0, Sl a_p0 p0 c_p0), (3, Nv i4), (20, .bool j11)] Os) ?_ ?_))))))))))
 refine yan R2 (fun G R2 => ?_) (fun G R2 => ?_)
 refine y7 12 G ?_
 iterate 7 refine yam ?_
 exact ya 10 1 z (sj R2 ▸ y6 ⟨I2, rfl, lr, S7⟩)
 refine y7 12 G (ya 3 2 z ?_)
 obtain ⟨x15, R2, Hx15, _, ⟨w_x15, rfl, h_x15⟩, Zx15⟩ := sx I2 h_p0 R2
 exact yac 56 22 Hx15 z (yh 6 1 [0] z (yat ((cs_qS x15.S w_x15.S)) Zx15 0 S7.rm z (bsk R2 fun r21 Xr16 R2 => WO.c1 (r12_Few_ok h_x15.S S7 Xr16) z fun I18 w17 L19 S20 => ya 9 2 z (sj R2 ▸ y6 ⟨I18, rfl, L19, S20⟩))))
 rintro _ w22 ⟨I13, rfl, L14, S23⟩
 refine ya 11 1 z (bsk R1 fun j24 R2 R1 => yao (l1 := [12, 13, 14, 15, 16, 17, 18, 19]) (J := JI E I13 [(0, Sl a_p0 p0 c_p0), (3, Nv i4), (29, .bool j24)] Os) ?_ ?_)
 refine yan R2 (fun G R2 => ?_) (fun G R2 => ?_)
 refine y7 21 G ?_
 iterate 7 refine yam ?_
 exact ya 19 1 z (sj R2 ▸ y6 ⟨I13, rfl, lr, S23⟩)
 refine y7 21 G (ya 12 2 z ?_)
 obtain ⟨x28, R2, Hx28, _, ⟨w_x28, rfl, h_x28⟩, Zx28⟩ := sx I13 h_p0 R2
 exact yac 56 22 Hx28 z (yh 15 1 [21] z (ya6 Zx28 21 S23.rm z (ya 17 3 z (sj R2 ▸ y6 ⟨I13, rfl, lr, S23⟩))))
 rintro _ w29 ⟨I26, rfl, L27, S30⟩
 refine yb (y3 R1 (fun G R1 => ?_) (fun G R1 => ?_))
 refine ye [0] (ya 0 1 z (yb (yq (yn (yf (yv ?_))))))
 obtain rfl := hext1 _ (sj R1).symm
 exact yn (yf (sj D ▸ yy ⟨I26, rfl, le, S30⟩))
 exact yl (ym (yc (yai nL3 (ya 0 1 z (yap i4 z (ya 2 1 z (yr (yx ⟨(), (sj R1).symm, I26, rfl, le, S30⟩))))))))
 rintro _ _ w33 ⟨I2, rfl, L3, S34⟩ he
 cases he
 exact yi (ye nL4 (ya 0 4 z (yb (yay fun _ => yab (yp (yt (yu (yc (ye [0] (ya 0 1 z (yb (yq (sj D ▸ yy ⟨I2, rfl, L3, S34⟩)))))))))))))
def slices_Clone_qN (p0 : List qN) : Option (List qN) := (app 24 ([] : List qN) p0).bind (fun x10 => some x10)
theorem slices_Clone_qN_ok {p0 : List qN} {a_p0 : Option Addr} {c_p0 : Nat} (h_p0 : RSl 2 R_qN I a_p0 c_p0 p0) (hS : St E w I Os) {r : (List qN)} (D : slices_Clone_qN p0 = some r) :
    Calls P 38 #[(Sl a_p0 p0 c_p0)] w (fun e w' => ∃ (I' : Mem) (ra0 : Option Addr) (rc0 : Nat) (rC0 : Mem), e = .returned (Sl ra0 r rc0) ∧ I.Le I' ∧ St E w' I' (rC0 :: Os) ∧ OwnSl 67 2 R_qN I' rC0 ra0 rc0 r) := by
 refine calls_W (fn := Tryz.f38) rfl rfl rfl ?_
 unfold slices_Clone_qN at D
 refine ye [0] (yaf 0 2 (.slice none 0 0) (yb (yi (ye nL2 (ya 0 1 z (ybn (e := 67) z kr kr z z ?_))))))
 refine yb (W.cd (fun G => ?_) (fun G => ?_))
 have ha0 := Option.isNone_iff_eq_none.1 G
 subst ha0
 have hx0 := (h_p0).none_nil
 subst hx0
 replace D : some ([] : List qN) = some r := by simpa [app] using D
 exact ye [0] (yaf 0 2 (.slice none 0 0) (yb (yq (yf (sj D ▸ yy ⟨I, none, 0, Mem.no, rfl, lr, hS.no, OwnSl.nil⟩)))))
 clear G
 refine yl (yc (ye nL4 (yag (rel := R_qN) (xs := ([] : List qN)) hS z kr z 67 2 [] kr z (Elr.nil) tv ?_)))
 intro a6 C4 w8 S7 ho5
 exact ya 1 1 z (apk D fun x10 h0_x10 he_x10 D => ya2 67 24 (cs_qN z_qN) S7 ho5 h_p0 S7.im h0_x10 he_x10 z fun a11 c12 w13 C14 S15 ho16 => ya 3 1 z (yb (yq (sj D ▸ yy ⟨I, a11, c12, C14, rfl, lr, S15, ho16⟩))))
noncomputable def slices_insertionSortCmpFunc_registrar_qN (p0 : List qN) (p1 : Int) (p2 : Int) (p3 : qN → qN → Option Int) : Option (List qN) := (loopO (fun (s : Int × (List qN)) => match s with | (s4, s5) => (bif (decide (s4 < p2)) then (loopO (fun (s : Int × (List qN)) => match s with | (s13, s14) => ((bif (decide (s13 > p1)) then (idx s14 s13).bind (fun x25 => (idx s14 (w64 (s13 - 1))).bind (fun x26 => (p3 x25 x26).bind (fun (r32 : Int) => some (decide (r32 < 0))))) else some false)).bind (fun (j21 : Bool) => (bif j21 then (idx s14 (w64 (s13 - 1))).bind (fun x37 => (idx s14 s13).bind (fun x38 => (idx s14 s13).bind (fun x39 => (idx (s14.set (s13).toNat x37) (w64 (s13 - 1))).bind (fun x44 => some (.inl ((w64 (s13 - 1)), ((s14.set (s13).toNat x37).set ((w64 (s13 - 1))).toNat x38))))))) else some (.inr s14)))) (s4, s5)).bind (fun (s50 : List qN) => some (.inl ((w64 (s4 + 1)), s50))) else some (.inr s5))) ((w64 (p1 + 1)), p0)).bind (fun (s52 : List qN) => some s52)
theorem slices_insertionSortCmpFunc_registrar_qN_ok {p0 : List qN} {p1 : Int} {p2 : Int} {p3 : qN → qN → Option Int} {a_p0 : Option Addr} {c_p0 : Nat} {C_p0 : Mem} {g_p3 : FuncId} {k_p3 : List Value} (h_p0 : OwnSl 67 2 R_qN I C_p0 a_p0 c_p0 p0) (h_p3 : ∀ {F : List Mem} {I' : Mem} {w : World} {u0 : qN} {u1 : qN}, I.Le I' → St E w I' (F ++ Os) → ∀ {r : Int}, p3 u0 u1 = some r → Calls P g_p3 (([(vN u0), (vN u1)] : List Value) ++ k_p3).toArray w (fun e w' => ∃ (I'' : Mem), e = .returned (Iv r) ∧ I'.Le I'' ∧ St E w' I'' (F ++ Os))) (hcall_p3 : Callable P g_p3) (hS : St E w I ((C_p0) :: Os)) {r : (List qN)} (D : slices_insertionSortCmpFunc_registrar_qN p0 p1 p2 p3 = some r) :
    Calls P 94 #[(Sl a_p0 p0 c_p0), (Iv p1), (Iv p2), (.func (.func g_p3) #[] k_p3.toArray)] w (fun e w' => ∃ (I' : Mem) (rD0 : Mem), e = .returned (.tuple #[]) ∧ I.Le I' ∧ St E w' I' (rD0 :: Os) ∧ OwnSl 67 2 R_qN I' rD0 a_p0 c_p0 r ∧ r.length = p0.length) := by
 refine calls_W (fn := Tryz.f94) rfl rfl rfl ?_
 unfold slices_insertionSortCmpFunc_registrar_qN at D
 refine ye nL3 (ya 0 3 z (yb (yo (bsk D fun t1 hloop6 D => W.wk (ya4 hloop6 (fun (s : Int × (List qN)) fr w => match s with | (s4, s5) => ∃ I2 C_s5, fr = [(0, Sl a_p0 s5 c_p0), (1, Iv p1), (2, Iv p2), (3, .func (.func g_p3) #[] k_p3.toArray), (8, Iv s4)] ∧ I.Le I2 ∧ St E w I2 ((C_s5) :: Os) ∧ OwnSl 67 2 R_qN I2 C_s5 a_p0 c_p0 s5 ∧ s5.length = p0.length) ⟨I, C_p0, rfl, lr, hS, h_p0, rfl⟩ ?_)))))
 rintro ⟨s4, s5⟩ _ w7 ⟨I2, C_s5, rfl, L3, S8, h_s5, hn_s5⟩ x9 R1 hext1
 refine yi (ye nL3 (ya 0 3 z (yb (y3 R1 (fun G R1 => ?_) (fun G R1 => ?_)))))
 refine yl (yc (yi (yo (ye nL2 (ya 0 2 z (yb (yo (bsk R1 fun t10 hloop15 R1 => W.wk (ya4 hloop15 (fun (s : Int × (List qN)) fr w => match s with | (s13, s14) => ∃ I11 C_s14, fr = [(0, Sl a_p0 s14 c_p0), (1, Iv p1), (2, Iv p2), (3, .func (.func g_p3) #[] k_p3.toArray), (8, Iv s4), (9, Iv s13)] ∧ I2.Le I11 ∧ St E w I11 ((C_s14) :: Os) ∧ OwnSl 67 2 R_qN I11 C_s14 a_p0 c_p0 s14 ∧ s14.length = p0.length) ⟨I2, C_s5, rfl, lr, S8, h_s5, hn_s5⟩ ?_)))))))))
 rintro ⟨s13, s14⟩ _ w16 ⟨I11, C_s14, rfl, L12, S17, h_s14, hn_s14⟩ x18 R2 hext10
 refine yi (yi (have S19 := S17.drew; ybc nL17 17 (yw (S19.rd m0) (yae S19.im)) ?_))
 generalize World.drew _ = w20 at *
 refine ya 0 4 z (bsk R2 fun j21 R3 R2 => yao (l1 := [4, 5, 6, 7, 8, 9, 10, 11, 12, 13, 14, 15, 16]) (J := JI E I11 [(0, Sl a_p0 s14 c_p0), (1, Iv p1), (2, Iv p2), (3, .func (.func g_p3) #[] k_p3.toArray), (8, Iv s4), (9, Iv s13), (34, .bool j21)] ((C_s14) :: Os)) ?_ ?_)
 refine yan R3 (fun G R3 => ?_) (fun G R3 => ?_)
 refine y7 21 G (yaf 4 22 (.func (.func g_p3) #[] k_p3.toArray) (ya 5 2 z ?_))
 obtain ⟨x25, R3, Hx25, _, rfl, Zx25⟩ := sl_ix (h_s14.sl) R3
 refine yac 67 2 Hx25 z (yat ((cs_qN x25)) Zx25 0 (rd_c m0 (S19.rd m0)) z (ya 9 3 z ?_))
 obtain ⟨x26, R3, Hx26, _, rfl, Zx26⟩ := sl_ix (h_s14.sl) R3
 refine yac 67 2 Hx26 z (yat ((cs_qN x26)) Zx26 0 (rd_c m0 (S19.rd m0)) z (bsk R3 fun r32 Xr27 R3 => ybg z kr z (g := g_p3) (kk := k_p3) (args := [(vN x25), (vN x26)]) z kr hcall_p3 (h_p3 (F := [C_s14]) le S19  Xr27) ?_))
 rintro _ w28 ⟨I29, rfl, L30, S31⟩
 refine ⟨_, rfl, (yw (S31.rd m0) (yae (S31.im.of_le L30))), ?_⟩
 exact ya 15 2 z (sj R3 ▸ y6 ⟨I29, rfl, L30, S31⟩)
 refine y7 21 G ?_
 iterate 12 refine yam ?_
 exact ya 16 1 z (sj R3 ▸ y6 ⟨I11, rfl, lr, S19⟩)
 rintro _ w33 ⟨I23, rfl, L24, S34⟩
 refine yb (y3 R2 (fun G R2 => ?_) (fun G R2 => ?_))
 refine yl (yc (yi (yo (have S35 := S34.drew; ybm (l := nL18) kr 14 (KR I23 [C_s14]) qR (.ords nL18 [0, 1, 5, 6, 7, 8, 9, 10, 11, 12, 13, 14, 15, 2, 3, 4, 16, 17] kr kr kr kr kr) kr (yw (S35.rd m0) (yae S35.im)) ?_))))
 generalize World.drew _ = w36 at *
 refine ya 0 8 z ?_
 obtain ⟨x37, R2, Hx37, _, rfl, Zx37⟩ := sl_ix ((h_s14.mono L24).sl) R2
 refine yac 67 2 Hx37 z (yat ((cs_qN x37)) Zx37 0 (rd_c m0 (S35.rd m0)) z (ya 10 2 z ?_))
 obtain ⟨x38, R2, Hx38, _, rfl, Zx38⟩ := sl_ix ((h_s14.mono L24).sl) R2
 refine yac 67 2 Hx38 z (yat ((cs_qN x38)) Zx38 0 (rd_c m0 (S35.rd m0)) z (WO.tail z ?_))
 obtain ⟨x39, R2, h0_x39, h1_x39, Xx39, ha_x39, _, _, rfl, Zx39⟩ := sl_at ((h_s14.mono L24).sl) R2
 refine ya5 67 2 ha_x39 h0_x39 h1_x39 ?_
 refine yaw S35 (OwnSl.mono h_s14 L24) z kr z Xx39 (u' := x37) 0 z z kr z z (fun cs hrel => (by obtain rfl := hrel; exact z)) tv ?_
 intro w41 C42 S40 ho43
 refine yz 0 z (show Value.slice a_p0 s14.length c_p0 = Value.slice a_p0 (s14.set (s13).toNat x37).length c_p0 by simp only [List.length_set]) ?_
 refine yz 39 z (show Value.slice a_p0 s14.length c_p0 = Value.slice a_p0 (s14.set (s13).toNat x37).length c_p0 by simp only [List.length_set]) ?_
 obtain ⟨x44, R2, h0_x44, h1_x44, Xx44, ha_x44, _, _, rfl, Zx44⟩ := sl_at (ho43.sl) R2
 refine ya5 67 2 ha_x44 h0_x44 h1_x44 ?_
 refine yaw S40 ho43 z kr z Xx44 (u' := x38) 0 z z kr z z (fun cs hrel => (by obtain rfl := hrel; exact z)) tv ?_
 intro w46 C47 S45 ho48
 refine yz 0 z (show Value.slice a_p0 (s14.set (s13).toNat x37).length c_p0 = Value.slice a_p0 ((s14.set (s13).toNat x37).set ((w64 (s13 - 1))).toNat x38).length c_p0 by simp only [List.length_set]) ?_
 exact yr (ym (yc (yai nL3 (ya 0 3 z (yr (yx ⟨((w64 (s13 - 1)), ((s14.set (s13).toNat x37).set ((w64 (s13 - 1))).toNat x38)), (sj R2).symm, I23, C47, rfl, le, S45, ho48, (List.length_set.trans (List.length_set.trans hn_s14))⟩))))))
 refine yab (yp (yt ?_))
 obtain rfl := hext10 _ (sj R2).symm
 exact yu (ym (yc (yai nL3 (ya 0 3 z (yr (yx ⟨((w64 (s4 + 1)), s14), (sj R1).symm, I23, C_s14, rfl, le, S34, (OwnSl.mono h_s14 L24), hn_s14⟩))))))
 refine yab (yp (yt ?_))
 obtain rfl := hext1 _ (sj R1).symm
 exact yu (ybs (sj D ▸ ybq z ⟨I2, C_s5, rfl, L3, S8, h_s5, hn_s5⟩))
noncomputable def slices_swapRangeCmpFunc_registrar_qN (p0 : List qN) (p1 : Int) (p2 : Int) (p3 : Int) (p4 : qN → qN → Option Int) : Option (List qN) := (loopO (fun (s : Int × (List qN)) => match s with | (s4, s5) => (bif (decide (s4 < p3)) then (idx s5 (w64 (p2 + s4))).bind (fun x12 => (idx s5 (w64 (p1 + s4))).bind (fun x13 => (idx s5 (w64 (p1 + s4))).bind (fun x14 => (idx (s5.set ((w64 (p1 + s4))).toNat x12) (w64 (p2 + s4))).bind (fun x19 => some (.inl ((w64 (s4 + 1)), ((s5.set ((w64 (p1 + s4))).toNat x12).set ((w64 (p2 + s4))).toNat x13))))))) else some (.inr s5))) (0, p0)).bind (fun (s25 : List qN) => some s25)
theorem slices_swapRangeCmpFunc_registrar_qN_ok {p0 : List qN} {p1 : Int} {p2 : Int} {p3 : Int} {p4 : qN → qN → Option Int} {a_p0 : Option Addr} {c_p0 : Nat} {C_p0 : Mem} {g_p4 : FuncId} {k_p4 : List Value} (h_p0 : OwnSl 67 2 R_qN I C_p0 a_p0 c_p0 p0) (h_p4 : ∀ {F : List Mem} {I' : Mem} {w : World} {u0 : qN} {u1 : qN}, I.Le I' → St E w I' (F ++ Os) → ∀ {r : Int}, p4 u0 u1 = some r → Calls P g_p4 (([(vN u0), (vN u1)] : List Value) ++ k_p4).toArray w (fun e w' => ∃ (I'' : Mem), e = .returned (Iv r) ∧ I'.Le I'' ∧ St E w' I'' (F ++ Os))) (hcall_p4 : Callable P g_p4) (hS : St E w I ((C_p0) :: Os)) {r : (List qN)} (D : slices_swapRangeCmpFunc_registrar_qN p0 p1 p2 p3 p4 = some r) :
    Calls P 140 #[(Sl a_p0 p0 c_p0), (Iv p1), (Iv p2), (Iv p3), (.func (.func g_p4) #[] k_p4.toArray)] w (fun e w' => ∃ (I' : Mem) (rD0 : Mem), e = .returned (.tuple #[]) ∧ I.Le I' ∧ St E w' I' (rD0 :: Os) ∧ OwnSl 67 2 R_qN I' rD0 a_p0 c_p0 r ∧ r.length = p0.length) := by
 refine calls_W (fn := Tryz.f140) rfl rfl rfl ?_
 unfold slices_swapRangeCmpFunc_registrar_qN at D
 refine ye [0] (ya 0 1 z (yb (yo (bsk D fun t1 hloop6 D => W.wk (ya4 hloop6 (fun (s : Int × (List qN)) fr w => match s with | (s4, s5) => ∃ I2 C_s5, fr = [(0, Sl a_p0 s5 c_p0), (1, Iv p1), (2, Iv p2), (3, Iv p3), (10, Iv s4)] ∧ I.Le I2 ∧ St E w I2 ((C_s5) :: Os) ∧ OwnSl 67 2 R_qN I2 C_s5 a_p0 c_p0 s5 ∧ s5.length = p0.length) ⟨I, C_p0, rfl, lr, hS, h_p0, rfl⟩ ?_)))))
 rintro ⟨s4, s5⟩ _ w7 ⟨I2, C_s5, rfl, L3, S8, h_s5, hn_s5⟩ x9 R1 hext1
 refine yi (ye nL3 (ya 0 3 z (yb (y3 R1 (fun G R1 => ?_) (fun G R1 => ?_)))))
 refine yl (yc (yi (yo (have S10 := S8.drew; ybm (l := nL24) kr 20 (KR I2 [C_s5]) qR (.ords nL24 [0, 1, 2, 3, 8, 9, 10, 11, 12, 13, 14, 15, 16, 17, 18, 19, 20, 21, 4, 5, 6, 7, 22, 23] kr kr kr kr kr) kr (yw (S10.rd m0) (yae S10.im)) ?_))))
 generalize World.drew _ = w11 at *
 refine ya 0 12 z ?_
 obtain ⟨x12, R1, Hx12, _, rfl, Zx12⟩ := sl_ix (h_s5.sl) R1
 refine yac 67 2 Hx12 z (yat ((cs_qN x12)) Zx12 0 (rd_c m0 (S10.rd m0)) z (ya 14 4 z ?_))
 obtain ⟨x13, R1, Hx13, _, rfl, Zx13⟩ := sl_ix (h_s5.sl) R1
 refine yac 67 2 Hx13 z (yat ((cs_qN x13)) Zx13 0 (rd_c m0 (S10.rd m0)) z (WO.tail z ?_))
 obtain ⟨x14, R1, h0_x14, h1_x14, Xx14, ha_x14, _, _, rfl, Zx14⟩ := sl_at (h_s5.sl) R1
 refine ya5 67 2 ha_x14 h0_x14 h1_x14 ?_
 refine yaw S10 h_s5 z kr z Xx14 (u' := x12) 0 z z kr z z (fun cs hrel => (by obtain rfl := hrel; exact z)) tv ?_
 intro w16 C17 S15 ho18
 refine yz 0 z (show Value.slice a_p0 s5.length c_p0 = Value.slice a_p0 (s5.set ((w64 (p1 + s4))).toNat x12).length c_p0 by simp only [List.length_set]) ?_
 refine yz 20 z (show Value.slice a_p0 s5.length c_p0 = Value.slice a_p0 (s5.set ((w64 (p1 + s4))).toNat x12).length c_p0 by simp only [List.length_set]) ?_
 obtain ⟨x19, R1, h0_x19, h1_x19, Xx19, ha_x19, _, _, rfl, Zx19⟩ := sl_at (ho18.sl) R1
 refine ya5 67 2 ha_x19 h0_x19 h1_x19 ?_
 refine yaw S15 ho18 z kr z Xx19 (u' := x13) 0 z z kr z z (fun cs hrel => (by obtain rfl := hrel; exact z)) tv ?_
 intro w21 C22 S20 ho23
 refine yz 0 z (show Value.slice a_p0 (s5.set ((w64 (p1 + s4))).toNat x12).length c_p0 = Value.slice a_p0 ((s5.set ((w64 (p1 + s4))).toNat x12).set ((w64 (p2 + s4))).toNat x13).length c_p0 by simp only [List.length_set]) ?_
 exact yr (ym (yc (yai nL3 (ya 0 3 z (yr (yx ⟨((w64 (s4 + 1)), ((s5.set ((w64 (p1 + s4))).toNat x12).set ((w64 (p2 + s4))).toNat x13)), (sj R1).symm, I2, C22, rfl, L3, S20, ho23, (List.length_set.trans (List.length_set.trans hn_s5))⟩))))))
 refine yab (yp (yt ?_))
 obtain rfl := hext1 _ (sj R1).symm
 exact yu (ybs (sj D ▸ ybq z ⟨I2, C_s5, rfl, L3, S8, h_s5, hn_s5⟩))
noncomputable def slices_rotateCmpFunc_registrar_qN (p0 : List qN) (p1 : Int) (p2 : Int) (p3 : Int) (p4 : qN → qN → Option Int) : Option (List qN) := (loopO (fun (s : Int × Int × (List qN)) => match s with | (s4, s5, s6) => (bif (s4 != s5) then ((bif (decide (s4 > s5)) then (slices_swapRangeCmpFunc_registrar_qN s6 (w64 (p2 - s4)) p2 s5 p4).bind (fun r20 => some ((w64 (s4 - s5)), s5, r20)) else (slices_swapRangeCmpFunc_registrar_qN s6 (w64 (p2 - s4)) (w64 ((w64 (p2 + s5)) - s4)) s4 p4).bind (fun r29 => some (s4, (w64 (s5 - s4)), r29)))).bind (fun ((s21, s22, s23) : Int × Int × (List qN)) => some (.inl (s21, s22, s23))) else some (.inr (s4, s6)))) ((w64 (p2 - p1)), (w64 (p3 - p2)), p0)).bind (fun ((s33, s34) : Int × (List qN)) => (slices_swapRangeCmpFunc_registrar_qN s34 (w64 (p2 - s33)) p2 s33 p4).bind (fun r40 => some r40))
theorem slices_rotateCmpFunc_registrar_qN_ok {p0 : List qN} {p1 : Int} {p2 : Int} {p3 : Int} {p4 : qN → qN → Option Int} {a_p0 : Option Addr} {c_p0 : Nat} {C_p0 : Mem} {g_p4 : FuncId} {k_p4 : List Value} (h_p0 : OwnSl 67 2 R_qN I C_p0 a_p0 c_p0 p0) (h_p4 : ∀ {F : List Mem} {I' : Mem} {w : World} {u0 : qN} {u1 : qN}, I.Le I' → St E w I' (F ++ Os) → ∀ {r : Int}, p4 u0 u1 = some r → Calls P g_p4 (([(vN u0), (vN u1)] : List Value) ++ k_p4).toArray w (fun e w' => ∃ (I'' : Mem), e = .returned (Iv r) ∧ I'.Le I'' ∧ St E w' I'' (F ++ Os))) (hcall_p4 : Callable P g_p4) (hS : St E w I ((C_p0) :: Os)) {r : (List qN)} (D : slices_rotateCmpFunc_registrar_qN p0 p1 p2 p3 p4 = some r) :
    Calls P 122 #[(Sl a_p0 p0 c_p0), (Iv p1), (Iv p2), (Iv p3), (.func (.func g_p4) #[] k_p4.toArray)] w (fun e w' => ∃ (I' : Mem) (rD0 : Mem), e = .returned (.tuple #[]) ∧ I.Le I' ∧ St E w' I' (rD0 :: Os) ∧ OwnSl 67 2 R_qN I' rD0 a_p0 c_p0 r ∧ r.length = p0.length) := by
 refine calls_W (fn := Tryz.f122) rfl rfl rfl ?_
 unfold slices_rotateCmpFunc_registrar_qN at D
 refine ye nL4 (ya 0 4 z (y8 nL4 (ya 0 4 z (yb (yi (yo (bsk D fun t1 hloop7 D => W.wk (ya4 hloop7 (fun (s : Int × Int × (List qN)) fr w => match s with | (s4, s5, s6) => ∃ I2 C_s6, fr = [(0, Sl a_p0 s6 c_p0), (2, Iv p2), (4, .func (.func g_p4) #[] k_p4.toArray), (10, Iv s4), (11, Iv s5)] ∧ I.Le I2 ∧ St E w I2 ((C_s6) :: Os) ∧ OwnSl 67 2 R_qN I2 C_s6 a_p0 c_p0 s6 ∧ s6.length = p0.length) ⟨I, C_p0, rfl, lr, hS, h_p0, rfl⟩ ?_))))))))
 rintro ⟨s4, s5, s6⟩ _ w8 ⟨I2, C_s6, rfl, L3, S9, h_s6, hn_s6⟩ x10 R1 hext1
 refine yi (ye nL3 (ya 0 3 z (yb (y3 R1 (fun G R1 => ?_) (fun G R1 => ?_)))))
 refine yl (yc (yo (ye nL3 (ya 0 3 z (yb (bsk R1 fun j11 R2 R1 => ya0 (J := (fun fr w => ∃ (s21 : Int) (s22 : Int) (s23 : List qN), ∃ I13 C_s23, (s21, s22, s23) = j11 ∧ fr = [(0, Sl a_p0 s23 c_p0), (2, Iv p2), (4, .func (.func g_p4) #[] k_p4.toArray), (10, Iv s21), (11, Iv s22)] ∧ I2.Le I13 ∧ St E w I13 ((C_s23) :: Os) ∧ OwnSl 67 2 R_qN I13 C_s23 a_p0 c_p0 s23 ∧ s23.length = p0.length)) ?_ ?_))))))
 refine y3 R2 (fun G R2 => ?_) (fun G R2 => ?_)
 refine ye nL8 (ya 0 6 z (yaf 6 30 (.func (.func g_p4) #[] k_p4.toArray) (bsk R2 fun r20 Xr15 R2 => yaj (slices_swapRangeCmpFunc_registrar_qN_ok h_s6 (fun {F Ic wc} {_} {_} hlc hSc  {rc} hrc => h_p4 le hSc  hrc) hcall_p4 S9 Xr15) ?_)))
 rintro _ w16 ⟨I17, C_r20, rfl, L18, S19, h_r20, hn_r20⟩
 refine cv (yz 0 z (show Value.slice a_p0 s6.length c_p0 = Value.slice a_p0 r20.length c_p0 by rw [hn_r20]) ?_)
 refine yz 24 z (show Value.slice a_p0 s6.length c_p0 = Value.slice a_p0 r20.length c_p0 by rw [hn_r20]) ?_
 exact yb (yai nL4 (ya 0 4 z (yr (yx ⟨(w64 (s4 - s5)), s5, r20, I17, C_r20, sj R2, rfl, L18, S19, h_r20, (hn_r20.trans hn_s6)⟩))))
 refine ye nL12 (ya 0 10 z (yaf 10 45 (.func (.func g_p4) #[] k_p4.toArray) (bsk R2 fun r29 Xr24 R2 => yaj (slices_swapRangeCmpFunc_registrar_qN_ok h_s6 (fun {F Ic wc} {_} {_} hlc hSc  {rc} hrc => h_p4 le hSc  hrc) hcall_p4 S9 Xr24) ?_)))
 rintro _ w25 ⟨I26, C_r29, rfl, L27, S28, h_r29, hn_r29⟩
 refine cv (yz 0 z (show Value.slice a_p0 s6.length c_p0 = Value.slice a_p0 r29.length c_p0 by rw [hn_r29]) ?_)
 refine yz 35 z (show Value.slice a_p0 s6.length c_p0 = Value.slice a_p0 r29.length c_p0 by rw [hn_r29]) ?_
 exact yb (yai nL4 (ya 0 4 z (yr (yx ⟨s4, (w64 (s5 - s4)), r29, I26, C_r29, sj R2, rfl, L27, S28, h_r29, (hn_r29.trans hn_s6)⟩))))
 rintro _ w30 ⟨s21, s22, s23, I13, C_s23, rfl, rfl, L14, S31, h_s23, hn_s23⟩
 exact ym (yx ⟨(s21, s22, s23), (sj R1).symm, I13, C_s23, rfl, le, S31, h_s23, hn_s23⟩)
 refine yab (yp (yt ?_))
 obtain rfl := hext1 _ (sj R1).symm
 refine yu (yc (yai nL8 (ya 0 6 z (yaf 6 56 (.func (.func g_p4) #[] k_p4.toArray) (bsk D fun r46 Xr41 D => yaj (slices_swapRangeCmpFunc_registrar_qN_ok h_s6 (fun {F Ic wc} {_} {_} hlc hSc  {rc} hrc => h_p4 le hSc  hrc) hcall_p4 S9 Xr41) ?_)))))
 rintro _ w42 ⟨I43, C_r46, rfl, L44, S45, h_r46, hn_r46⟩
 refine cv (yz 0 z (show Value.slice a_p0 s6.length c_p0 = Value.slice a_p0 r46.length c_p0 by rw [hn_r46]) ?_)
 refine yz 50 z (show Value.slice a_p0 s6.length c_p0 = Value.slice a_p0 r46.length c_p0 by rw [hn_r46]) ?_
 exact yr (ybs (sj D ▸ ybq z ⟨I43, C_r46, rfl, le, S45, h_r46, (hn_r46.trans hn_s6)⟩))
noncomputable def slices_symMergeCmpFunc_registrar_qN_fu : Nat → (List qN) → Int → Int → Int → (qN → qN → Option Int) → Option (List qN)
  | 0, _, _, _, _, _ => none
  | fu + 1, p0, p1, p2, p3, p4 => (bif ((w64 (p2 - p1)) == 1) then (loopO (fun (s : Int × Int) => match s with | (s4, s5) => (bif (decide (s4 < s5)) then (idx p0 (w64 (Int.fdiv (IntKind.wrap .u64 (w64 (s4 + s5))) (2 ^ 1)))).bind (fun x12 => (idx p0 p1).bind (fun x13 => (p4 x12 x13).bind (fun (r19 : Int) => ((bif (decide (r19 < 0)) then some ((w64 ((w64 (Int.fdiv (IntKind.wrap .u64 (w64 (s4 + s5))) (2 ^ 1))) + 1)), s5) else some (s4, (w64 (Int.fdiv (IntKind.wrap .u64 (w64 (s4 + s5))) (2 ^ 1)))))).bind (fun ((s24, s25) : Int × Int) => some (.inl (s24, s25)))))) else some (.inr s4))) (p2, p3)).bind (fun (s29 : Int) => (loopO (fun (s : Int × (List qN)) => match s with | (s33, s34) => (bif (decide (s33 < (w64 (s29 - 1)))) then (idx s34 (w64 (s33 + 1))).bind (fun x41 => (idx s34 s33).bind (fun x42 => (idx s34 s33).bind (fun x43 => (idx (s34.set (s33).toNat x41) (w64 (s33 + 1))).bind (fun x48 => some (.inl ((w64 (s33 + 1)), ((s34.set (s33).toNat x41).set ((w64 (s33 + 1))).toNat x42))))))) else some (.inr s34))) (p1, p0)).bind (fun (s54 : List qN) => some s54)) else (bif ((w64 (p3 - p2)) == 1) then (loopO (fun (s : Int × Int) => match s with | (s83, s84) => (bif (decide (s83 < s84)) then (idx p0 p2).bind (fun x91 => (idx p0 (w64 (Int.fdiv (IntKind.wrap .u64 (w64 (s83 + s84))) (2 ^ 1)))).bind (fun x92 => (p4 x91 x92).bind (fun (r98 : Int) => ((bif (!(decide (r98 < 0))) then some ((w64 ((w64 (Int.fdiv (IntKind.wrap .u64 (w64 (s83 + s84))) (2 ^ 1))) + 1)), s84) else some (s83, (w64 (Int.fdiv (IntKind.wrap .u64 (w64 (s83 + s84))) (2 ^ 1)))))).bind (fun ((s103, s104) : Int × Int) => some (.inl (s103, s104)))))) else some (.inr s83))) (p1, p2)).bind (fun (s108 : Int) => (loopO (fun (s : Int × (List qN)) => match s with | (s112, s113) => (bif (decide (s112 > s108)) then (idx s113 (w64 (s112 - 1))).bind (fun x120 => (idx s113 s112).bind (fun x121 => (idx s113 s112).bind (fun x122 => (idx (s113.set (s112).toNat x120) (w64 (s112 - 1))).bind (fun x127 => some (.inl ((w64 (s112 - 1)), ((s113.set (s112).toNat x120).set ((w64 (s112 - 1))).toNat x121))))))) else some (.inr s113))) (p2, p0)).bind (fun (s133 : List qN) => some s133)) else ((bif (decide (p2 > (w64 (Int.fdiv (IntKind.wrap .u64 (w64 (p1 + p3))) (2 ^ 1))))) then some ((w64 ((w64 ((w64 (Int.fdiv (IntKind.wrap .u64 (w64 (p1 + p3))) (2 ^ 1))) + p2)) - p3)), (w64 (Int.fdiv (IntKind.wrap .u64 (w64 (p1 + p3))) (2 ^ 1)))) else some (p1, p2))).bind (fun ((s163, s164) : Int × Int) => (loopO (fun (s : Int × Int) => match s with | (s170, s171) => (bif (decide (s170 < s171)) then (idx p0 (w64 ((w64 ((w64 ((w64 (Int.fdiv (IntKind.wrap .u64 (w64 (p1 + p3))) (2 ^ 1))) + p2)) - 1)) - (w64 (Int.fdiv (IntKind.wrap .u64 (w64 (s170 + s171))) (2 ^ 1)))))).bind (fun x178 => (idx p0 (w64 (Int.fdiv (IntKind.wrap .u64 (w64 (s170 + s171))) (2 ^ 1)))).bind (fun x179 => (p4 x178 x179).bind (fun (r185 : Int) => ((bif (!(decide (r185 < 0))) then some ((w64 ((w64 (Int.fdiv (IntKind.wrap .u64 (w64 (s170 + s171))) (2 ^ 1))) + 1)), s171) else some (s170, (w64 (Int.fdiv (IntKind.wrap .u64 (w64 (s170 + s171))) (2 ^ 1)))))).bind (fun ((s190, s191) : Int × Int) => some (.inl (s190, s191)))))) else some (.inr s170))) (s163, s164)).bind (fun (s195 : Int) => (some ((decide (s195 < p2)) && (decide (p2 < (w64 ((w64 ((w64 (Int.fdiv (IntKind.wrap .u64 (w64 (p1 + p3))) (2 ^ 1))) + p2)) - s195)))))).bind (fun (q196 : Bool) => ((bif q196 then (slices_rotateCmpFunc_registrar_qN p0 s195 p2 (w64 ((w64 ((w64 (Int.fdiv (IntKind.wrap .u64 (w64 (p1 + p3))) (2 ^ 1))) + p2)) - s195)) p4).bind (fun r208 => some r208) else some p0)).bind (fun (j199 : List qN) => (some ((decide (p1 < s195)) && (decide (s195 < (w64 (Int.fdiv (IntKind.wrap .u64 (w64 (p1 + p3))) (2 ^ 1))))))).bind (fun (q211 : Bool) => ((bif q211 then (slices_symMergeCmpFunc_registrar_qN_fu fu j199 p1 s195 (w64 (Int.fdiv (IntKind.wrap .u64 (w64 (p1 + p3))) (2 ^ 1))) p4).bind (fun r223 => some r223) else some j199)).bind (fun (j214 : List qN) => (some ((decide ((w64 (Int.fdiv (IntKind.wrap .u64 (w64 (p1 + p3))) (2 ^ 1))) < (w64 ((w64 ((w64 (Int.fdiv (IntKind.wrap .u64 (w64 (p1 + p3))) (2 ^ 1))) + p2)) - s195)))) && (decide ((w64 ((w64 ((w64 (Int.fdiv (IntKind.wrap .u64 (w64 (p1 + p3))) (2 ^ 1))) + p2)) - s195)) < p3)))).bind (fun (q226 : Bool) => ((bif q226 then (slices_symMergeCmpFunc_registrar_qN_fu fu j214 (w64 (Int.fdiv (IntKind.wrap .u64 (w64 (p1 + p3))) (2 ^ 1))) (w64 ((w64 ((w64 (Int.fdiv (IntKind.wrap .u64 (w64 (p1 + p3))) (2 ^ 1))) + p2)) - s195)) p3 p4).bind (fun r238 => some r238) else some j214)).bind (fun (j229 : List qN) => some j229))))))))))
noncomputable def slices_symMergeCmpFunc_registrar_qN (p0 : List qN) (p1 : Int) (p2 : Int) (p3 : Int) (p4 : qN → qN → Option Int) : Option (List qN) := anyFuel (fun fu => slices_symMergeCmpFunc_registrar_qN_fu fu p0 p1 p2 p3 p4)
theorem slices_symMergeCmpFunc_registrar_qN_fu_ok : ∀ (fu : Nat) {E w : World} {I : Mem} {Os : List Mem} {p0 : List qN} {p1 : Int} {p2 : Int} {p3 : Int} {p4 : qN → qN → Option Int} {a_p0 : Option Addr} {c_p0 : Nat} {C_p0 : Mem} {g_p4 : FuncId} {k_p4 : List Value} (h_p0 : OwnSl 67 2 R_qN I C_p0 a_p0 c_p0 p0) (h_p4 : ∀ {F : List Mem} {I' : Mem} {w : World} {u0 : qN} {u1 : qN}, I.Le I' → St E w I' (F ++ Os) → ∀ {r : Int}, p4 u0 u1 = some r → Calls P g_p4 (([(vN u0), (vN u1)] : List Value) ++ k_p4).toArray w (fun e w' => ∃ (I'' : Mem), e = .returned (Iv r) ∧ I'.Le I'' ∧ St E w' I'' (F ++ Os))) (hcall_p4 : Callable P g_p4) (hS : St E w I ((C_p0) :: Os)) {r : (List qN)} (D : slices_symMergeCmpFunc_registrar_qN_fu fu p0 p1 p2 p3 p4 = some r),
    Calls P 95 #[(Sl a_p0 p0 c_p0), (Iv p1), (Iv p2), (Iv p3), (.func (.func g_p4) #[] k_p4.toArray)] w (fun e w' => ∃ (I' : Mem) (rD0 : Mem), e = .returned (.tuple #[]) ∧ I.Le I' ∧ St E w' I' (rD0 :: Os) ∧ OwnSl 67 2 R_qN I' rD0 a_p0 c_p0 r ∧ r.length = p0.length) := by
 intro fu
 induction fu with
 | zero => intro E w I Os p0 p1 p2 p3 p4 a_p0 c_p0 C_p0 g_p4 k_p4 h_p0 h_p4 hcall_p4 hS r D; cases D
 | succ fu ih =>
 intro E w I Os p0 p1 p2 p3 p4 a_p0 c_p0 C_p0 g_p4 k_p4 h_p0 h_p4 hcall_p4 hS r D
 refine calls_W (fn := Tryz.f95) rfl rfl rfl ?_
 unfold slices_symMergeCmpFunc_registrar_qN_fu at D
 refine yi (ye nL4 (ya 0 4 z (yb (y3 D (fun G D => ?_) (fun G D => ?_)))))
 refine ye nL2 (ya 0 2 z (y8 nL2 (ya 0 2 z (yb (yi (yo (bsk D fun t1 hloop6 D => W.wk (ya4 hloop6 (fun (s : Int × Int) fr w => match s with | (s4, s5) => ∃ I2, fr = [(0, Sl a_p0 p0 c_p0), (1, Iv p1), (4, .func (.func g_p4) #[] k_p4.toArray), (10, Iv s4), (11, Iv s5)] ∧ I.Le I2 ∧ St E w I2 ((C_p0) :: Os)) ⟨I, rfl, lr, hS⟩ ?_))))))))
 rintro ⟨s4, s5⟩ _ w7 ⟨I2, rfl, L3, S8⟩ x9 R1 hext1
 refine yi (ye nL3 (ya 0 3 z (yb (y3 R1 (fun G R1 => ?_) (fun G R1 => ?_)))))
 refine yl (yc (yo (ye nL7 (ya 0 3 z (WO.vs 3 [(37, .int .u64 (IntKind.wrap .u64 (w64 (s4 + s5)))), (38, .int .u64 (Int.fdiv (IntKind.wrap .u64 (w64 (s4 + s5))) (2 ^ 1))), (39, Iv (w64 (Int.fdiv (IntKind.wrap .u64 (w64 (s4 + s5))) (2 ^ 1))))] (ya 6 1 z (yb (yi (have S10 := S8.drew; ybc nL11 9 (yw (S10.rd m0) (yae S10.im)) ?_)))))))))
 generalize World.drew _ = w11 at *
 refine yaf 0 40 (.func (.func g_p4) #[] k_p4.toArray) (ya 1 2 z ?_)
 obtain ⟨x12, R1, Hx12, _, rfl, Zx12⟩ := sl_ix ((h_p0.mono L3).sl) R1
 refine yac 67 2 Hx12 z (yat ((cs_qN x12)) Zx12 0 (rd_c m0 (S10.rd m0)) z (ya 5 2 z ?_))
 obtain ⟨x13, R1, Hx13, _, rfl, Zx13⟩ := sl_ix ((h_p0.mono L3).sl) R1
 refine yac 67 2 Hx13 z (yat ((cs_qN x13)) Zx13 0 (rd_c m0 (S10.rd m0)) z (WO.tail z (bsk R1 fun r19 Xr14 R1 => ybg z kr z (g := g_p4) (kk := k_p4) (args := [(vN x12), (vN x13)]) z kr hcall_p4 (h_p4 (F := [C_p0]) L3 S10  Xr14) ?_)))
 rintro _ w15 ⟨I16, rfl, L17, S18⟩
 refine cv (ya 10 1 z (yb (bsk R1 fun j20 R2 R1 => ya0 (J := (fun fr w => ∃ (s24 : Int) (s25 : Int), ∃ I22, (s24, s25) = j20 ∧ fr = [(0, Sl a_p0 p0 c_p0), (1, Iv p1), (4, .func (.func g_p4) #[] k_p4.toArray), (10, Iv s24), (11, Iv s25)] ∧ I16.Le I22 ∧ St E w I22 ((C_p0) :: Os))) ?_ ?_)))
 refine y3 R2 (fun G R2 => ?_) (fun G R2 => ?_)
 exact yai nL3 (ya 0 3 z (yr (yx ⟨(w64 ((w64 (Int.fdiv (IntKind.wrap .u64 (w64 (s4 + s5))) (2 ^ 1))) + 1)), s5, I16, sj R2, rfl, lr, S18⟩)))
 exact yai nL2 (ya 0 2 z (yr (yx ⟨s4, (w64 (Int.fdiv (IntKind.wrap .u64 (w64 (s4 + s5))) (2 ^ 1))), I16, sj R2, rfl, lr, S18⟩)))
 rintro _ w26 ⟨s24, s25, I22, rfl, rfl, L23, S27⟩
 exact ym (yx ⟨(s24, s25), (sj R1).symm, I22, rfl, le, S27⟩)
 refine yab (yp (yt ?_))
 obtain rfl := hext1 _ (sj R1).symm
 refine yu (yc (yi (ye nL2 (ya 0 2 z (yb (yo (bsk D fun t55 hloop60 D => W.wk (ya4 hloop60 (fun (s : Int × (List qN)) fr w => match s with | (s58, s59) => ∃ I56 C_s59, fr = [(0, Sl a_p0 s59 c_p0), (10, Iv s4), (13, Iv s58)] ∧ I2.Le I56 ∧ St E w I56 ((C_s59) :: Os) ∧ OwnSl 67 2 R_qN I56 C_s59 a_p0 c_p0 s59 ∧ s59.length = p0.length) ⟨I2, C_p0, rfl, lr, S8, (OwnSl.mono h_p0 L3), rfl⟩ ?_))))))))
 rintro ⟨s58, s59⟩ _ w61 ⟨I56, C_s59, rfl, L57, S62, h_s59, hn_s59⟩ x63 R1 hext55
 refine yi (ye nL4 (ya 0 4 z (yb (y3 R1 (fun G R1 => ?_) (fun G R1 => ?_)))))
 refine yl (yc (yi (yo (have S64 := S62.drew; ybm (l := nL18) kr 14 (KR I56 [C_s59]) qR (.ords nL18 [0, 1, 5, 6, 7, 8, 9, 10, 11, 12, 13, 14, 15, 2, 3, 4, 16, 17] kr kr kr kr kr) kr (yw (S64.rd m0) (yae S64.im)) ?_))))
 generalize World.drew _ = w65 at *
 refine ya 0 8 z ?_
 obtain ⟨x66, R1, Hx66, _, rfl, Zx66⟩ := sl_ix (h_s59.sl) R1
 refine yac 67 2 Hx66 z (yat ((cs_qN x66)) Zx66 0 (rd_c m0 (S64.rd m0)) z (ya 10 2 z ?_))
 obtain ⟨x67, R1, Hx67, _, rfl, Zx67⟩ := sl_ix (h_s59.sl) R1
 refine yac 67 2 Hx67 z (yat ((cs_qN x67)) Zx67 0 (rd_c m0 (S64.rd m0)) z (WO.tail z ?_))
 obtain ⟨x68, R1, h0_x68, h1_x68, Xx68, ha_x68, _, _, rfl, Zx68⟩ := sl_at (h_s59.sl) R1
 refine ya5 67 2 ha_x68 h0_x68 h1_x68 ?_
 refine yaw S64 h_s59 z kr z Xx68 (u' := x66) 0 z z kr z z (fun cs hrel => (by obtain rfl := hrel; exact z)) tv ?_
 intro w70 C71 S69 ho72
 refine yz 0 z (show Value.slice a_p0 s59.length c_p0 = Value.slice a_p0 (s59.set (s58).toNat x66).length c_p0 by simp only [List.length_set]) ?_
 refine yz 63 z (show Value.slice a_p0 s59.length c_p0 = Value.slice a_p0 (s59.set (s58).toNat x66).length c_p0 by simp only [List.length_set]) ?_
 obtain ⟨x73, R1, h0_x73, h1_x73, Xx73, ha_x73, _, _, rfl, Zx73⟩ := sl_at (ho72.sl) R1
 refine ya5 67 2 ha_x73 h0_x73 h1_x73 ?_
 refine yaw S69 ho72 z kr z Xx73 (u' := x67) 0 z z kr z z (fun cs hrel => (by obtain rfl := hrel; exact z)) tv ?_
 intro w75 C76 S74 ho77
 refine yz 0 z (show Value.slice a_p0 (s59.set (s58).toNat x66).length c_p0 = Value.slice a_p0 ((s59.set (s58).toNat x66).set ((w64 (s58 + 1))).toNat x67).length c_p0 by simp only [List.length_set]) ?_
 exact yr (ym (yc (yai nL3 (ya 0 3 z (yr (yx ⟨((w64 (s58 + 1)), ((s59.set (s58).toNat x66).set ((w64 (s58 + 1))).toNat x67)), (sj R1).symm, I56, C76, rfl, L57, S74, ho77, (List.length_set.trans (List.length_set.trans hn_s59))⟩))))))
 refine yab (yp (yt ?_))
 obtain rfl := hext55 _ (sj R1).symm
 exact yu (yc (yq (yf (sj D ▸ ybq z ⟨I56, C_s59, rfl, le, S62, h_s59, hn_s59⟩))))
 refine yl (yc (yi (ye nL4 (ya 0 4 z (yb (y3 D (fun G D => ?_) (fun G D => ?_)))))))
 refine ye nL2 (ya 0 2 z (y8 nL2 (ya 0 2 z (yb (yi (yo (bsk D fun t80 hloop85 D => W.wk (ya4 hloop85 (fun (s : Int × Int) fr w => match s with | (s83, s84) => ∃ I81, fr = [(0, Sl a_p0 p0 c_p0), (2, Iv p2), (4, .func (.func g_p4) #[] k_p4.toArray), (14, Iv s83), (15, Iv s84)] ∧ I.Le I81 ∧ St E w I81 ((C_p0) :: Os)) ⟨I, rfl, lr, hS⟩ ?_))))))))
 rintro ⟨s83, s84⟩ _ w86 ⟨I81, rfl, L82, S87⟩ x88 R1 hext80
 refine yi (ye nL3 (ya 0 3 z (yb (y3 R1 (fun G R1 => ?_) (fun G R1 => ?_)))))
 refine yl (yc (yo (ye nL7 (ya 0 3 z (WO.vs 3 [(89, .int .u64 (IntKind.wrap .u64 (w64 (s83 + s84)))), (90, .int .u64 (Int.fdiv (IntKind.wrap .u64 (w64 (s83 + s84))) (2 ^ 1))), (91, Iv (w64 (Int.fdiv (IntKind.wrap .u64 (w64 (s83 + s84))) (2 ^ 1))))] (ya 6 1 z (yb (yi (have S89 := S87.drew; ybc nL12 9 (yw (S89.rd m0) (yae S89.im)) ?_)))))))))
 generalize World.drew _ = w90 at *
 refine yaf 0 92 (.func (.func g_p4) #[] k_p4.toArray) (ya 1 2 z ?_)
 obtain ⟨x91, R1, Hx91, _, rfl, Zx91⟩ := sl_ix ((h_p0.mono L82).sl) R1
 refine yac 67 2 Hx91 z (yat ((cs_qN x91)) Zx91 0 (rd_c m0 (S89.rd m0)) z (ya 5 2 z ?_))
 obtain ⟨x92, R1, Hx92, _, rfl, Zx92⟩ := sl_ix ((h_p0.mono L82).sl) R1
 refine yac 67 2 Hx92 z (yat ((cs_qN x92)) Zx92 0 (rd_c m0 (S89.rd m0)) z (WO.tail z (bsk R1 fun r98 Xr93 R1 => ybg z kr z (g := g_p4) (kk := k_p4) (args := [(vN x91), (vN x92)]) z kr hcall_p4 (h_p4 (F := [C_p0]) L82 S89  Xr93) ?_)))
 rintro _ w94 ⟨I95, rfl, L96, S97⟩
 refine cv (ya 10 2 z (yb (bsk R1 fun j99 R2 R1 => ya0 (J := (fun fr w => ∃ (s103 : Int) (s104 : Int), ∃ I101, (s103, s104) = j99 ∧ fr = [(0, Sl a_p0 p0 c_p0), (2, Iv p2), (4, .func (.func g_p4) #[] k_p4.toArray), (14, Iv s103), (15, Iv s104)] ∧ I95.Le I101 ∧ St E w I101 ((C_p0) :: Os))) ?_ ?_)))
 refine y3 R2 (fun G R2 => ?_) (fun G R2 => ?_)
 exact yai nL3 (ya 0 3 z (yr (yx ⟨(w64 ((w64 (Int.fdiv (IntKind.wrap .u64 (w64 (s83 + s84))) (2 ^ 1))) + 1)), s84, I95, sj R2, rfl, lr, S97⟩)))
 exact yai nL2 (ya 0 2 z (yr (yx ⟨s83, (w64 (Int.fdiv (IntKind.wrap .u64 (w64 (s83 + s84))) (2 ^ 1))), I95, sj R2, rfl, lr, S97⟩)))
 rintro _ w105 ⟨s103, s104, I101, rfl, rfl, L102, S106⟩
 exact ym (yx ⟨(s103, s104), (sj R1).symm, I101, rfl, le, S106⟩)
 refine yab (yp (yt ?_))
 obtain rfl := hext80 _ (sj R1).symm
 refine yu (yc (yi (ye nL2 (ya 0 2 z (yb (yo (bsk D fun t134 hloop139 D => W.wk (ya4 hloop139 (fun (s : Int × (List qN)) fr w => match s with | (s137, s138) => ∃ I135 C_s138, fr = [(0, Sl a_p0 s138 c_p0), (14, Iv s83), (17, Iv s137)] ∧ I81.Le I135 ∧ St E w I135 ((C_s138) :: Os) ∧ OwnSl 67 2 R_qN I135 C_s138 a_p0 c_p0 s138 ∧ s138.length = p0.length) ⟨I81, C_p0, rfl, lr, S87, (OwnSl.mono h_p0 L82), rfl⟩ ?_))))))))
 rintro ⟨s137, s138⟩ _ w140 ⟨I135, C_s138, rfl, L136, S141, h_s138, hn_s138⟩ x142 R1 hext134
 refine yi (ye nL3 (ya 0 3 z (yb (y3 R1 (fun G R1 => ?_) (fun G R1 => ?_)))))
 refine yl (yc (yi (yo (have S143 := S141.drew; ybm (l := nL18) kr 14 (KR I135 [C_s138]) qR (.ords nL18 [0, 1, 5, 6, 7, 8, 9, 10, 11, 12, 13, 14, 15, 2, 3, 4, 16, 17] kr kr kr kr kr) kr (yw (S143.rd m0) (yae S143.im)) ?_))))
 generalize World.drew _ = w144 at *
 refine ya 0 8 z ?_
 obtain ⟨x145, R1, Hx145, _, rfl, Zx145⟩ := sl_ix (h_s138.sl) R1
 refine yac 67 2 Hx145 z (yat ((cs_qN x145)) Zx145 0 (rd_c m0 (S143.rd m0)) z (ya 10 2 z ?_))
 obtain ⟨x146, R1, Hx146, _, rfl, Zx146⟩ := sl_ix (h_s138.sl) R1
 refine yac 67 2 Hx146 z (yat ((cs_qN x146)) Zx146 0 (rd_c m0 (S143.rd m0)) z (WO.tail z ?_))
 obtain ⟨x147, R1, h0_x147, h1_x147, Xx147, ha_x147, _, _, rfl, Zx147⟩ := sl_at (h_s138.sl) R1
 refine ya5 67 2 ha_x147 h0_x147 h1_x147 ?_
 refine yaw S143 h_s138 z kr z Xx147 (u' := x145) 0 z z kr z z (fun cs hrel => (by obtain rfl := hrel; exact z)) tv ?_
 intro w149 C150 S148 ho151
 refine yz 0 z (show Value.slice a_p0 s138.length c_p0 = Value.slice a_p0 (s138.set (s137).toNat x145).length c_p0 by simp only [List.length_set]) ?_
 refine yz 115 z (show Value.slice a_p0 s138.length c_p0 = Value.slice a_p0 (s138.set (s137).toNat x145).length c_p0 by simp only [List.length_set]) ?_
 obtain ⟨x152, R1, h0_x152, h1_x152, Xx152, ha_x152, _, _, rfl, Zx152⟩ := sl_at (ho151.sl) R1
 refine ya5 67 2 ha_x152 h0_x152 h1_x152 ?_
 refine yaw S148 ho151 z kr z Xx152 (u' := x146) 0 z z kr z z (fun cs hrel => (by obtain rfl := hrel; exact z)) tv ?_
 intro w154 C155 S153 ho156
 refine yz 0 z (show Value.slice a_p0 (s138.set (s137).toNat x145).length c_p0 = Value.slice a_p0 ((s138.set (s137).toNat x145).set ((w64 (s137 - 1))).toNat x146).length c_p0 by simp only [List.length_set]) ?_
 exact yr (ym (yc (yai nL3 (ya 0 3 z (yr (yx ⟨((w64 (s137 - 1)), ((s138.set (s137).toNat x145).set ((w64 (s137 - 1))).toNat x146)), (sj R1).symm, I135, C155, rfl, L136, S153, ho156, (List.length_set.trans (List.length_set.trans hn_s138))⟩))))))
 refine yab (yp (yt ?_))
 obtain rfl := hext134 _ (sj R1).symm
 exact yu (yc (yq (yf (sj D ▸ ybq z ⟨I135, C_s138, rfl, le, S141, h_s138, hn_s138⟩))))
 refine yl (yc (ye nL7 (ya 0 3 z (WO.vs 3 [(132, .int .u64 (IntKind.wrap .u64 (w64 (p1 + p3)))), (133, .int .u64 (Int.fdiv (IntKind.wrap .u64 (w64 (p1 + p3))) (2 ^ 1))), (134, Iv (w64 (Int.fdiv (IntKind.wrap .u64 (w64 (p1 + p3))) (2 ^ 1))))] (ya 6 1 z (y8 nL4 (ya 0 4 z (y8 nL2 (ya 0 2 z (yb (yi (ye nL3 (ya 0 3 z (yb (bsk D fun j159 R1 D => ya0 (J := (fun fr w => ∃ (s163 : Int) (s164 : Int), ∃ I161, (s163, s164) = j159 ∧ fr = [(0, Sl a_p0 p0 c_p0), (1, Iv p1), (2, Iv p2), (3, Iv p3), (4, .func (.func g_p4) #[] k_p4.toArray), (18, Iv (w64 (Int.fdiv (IntKind.wrap .u64 (w64 (p1 + p3))) (2 ^ 1)))), (19, Iv (w64 ((w64 (Int.fdiv (IntKind.wrap .u64 (w64 (p1 + p3))) (2 ^ 1))) + p2))), (20, Iv s163), (21, Iv s164)] ∧ I.Le I161 ∧ St E w I161 ((C_p0) :: Os))) ?_ ?_)))))))))))))))
 refine y3 R1 (fun G R1 => ?_) (fun G R1 => ?_)
 exact ye nL4 (ya 0 4 z (yb (yai nL2 (ya 0 2 z (yr (yx ⟨(w64 ((w64 ((w64 (Int.fdiv (IntKind.wrap .u64 (w64 (p1 + p3))) (2 ^ 1))) + p2)) - p3)), (w64 (Int.fdiv (IntKind.wrap .u64 (w64 (p1 + p3))) (2 ^ 1))), I, sj R1, rfl, lr, hS⟩))))))
 exact ye nL2 (ya 0 2 z (yb (yai nL2 (ya 0 2 z (yr (yx ⟨p1, p2, I, sj R1, rfl, lr, hS⟩))))))
 rintro _ w165 ⟨s163, s164, I161, rfl, rfl, L162, S166⟩
 refine yc (ye nL3 (ya 0 3 z (yb (yi (yo (bsk D fun t167 hloop172 D => W.wk (ya4 hloop172 (fun (s : Int × Int) fr w => match s with | (s170, s171) => ∃ I168, fr = [(0, Sl a_p0 p0 c_p0), (1, Iv p1), (2, Iv p2), (3, Iv p3), (4, .func (.func g_p4) #[] k_p4.toArray), (18, Iv (w64 (Int.fdiv (IntKind.wrap .u64 (w64 (p1 + p3))) (2 ^ 1)))), (19, Iv (w64 ((w64 (Int.fdiv (IntKind.wrap .u64 (w64 (p1 + p3))) (2 ^ 1))) + p2))), (20, Iv s170), (21, Iv s171), (22, Iv (w64 ((w64 ((w64 (Int.fdiv (IntKind.wrap .u64 (w64 (p1 + p3))) (2 ^ 1))) + p2)) - 1)))] ∧ I161.Le I168 ∧ St E w I168 ((C_p0) :: Os)) ⟨I161, rfl, lr, S166⟩ ?_)))))))
 rintro ⟨s170, s171⟩ _ w173 ⟨I168, rfl, L169, S174⟩ x175 R1 hext167
 refine yi (ye nL3 (ya 0 3 z (yb (y3 R1 (fun G R1 => ?_) (fun G R1 => ?_)))))
 refine yl (yc (yo (ye nL7 (ya 0 3 z (WO.vs 3 [(155, .int .u64 (IntKind.wrap .u64 (w64 (s170 + s171)))), (156, .int .u64 (Int.fdiv (IntKind.wrap .u64 (w64 (s170 + s171))) (2 ^ 1))), (157, Iv (w64 (Int.fdiv (IntKind.wrap .u64 (w64 (s170 + s171))) (2 ^ 1))))] (ya 6 1 z (yb (yi (have S176 := S174.drew; ybc nL14 11 (yw (S176.rd m0) (yae S176.im)) ?_)))))))))
 generalize World.drew _ = w177 at *
 refine yaf 0 158 (.func (.func g_p4) #[] k_p4.toArray) (ya 1 4 z ?_)
 obtain ⟨x178, R1, Hx178, _, rfl, Zx178⟩ := sl_ix ((h_p0.mono (L162.trans L169)).sl) R1
 refine yac 67 2 Hx178 z (yat ((cs_qN x178)) Zx178 0 (rd_c m0 (S176.rd m0)) z (ya 7 2 z ?_))
 obtain ⟨x179, R1, Hx179, _, rfl, Zx179⟩ := sl_ix ((h_p0.mono (L162.trans L169)).sl) R1
 refine yac 67 2 Hx179 z (yat ((cs_qN x179)) Zx179 0 (rd_c m0 (S176.rd m0)) z (WO.tail z (bsk R1 fun r185 Xr180 R1 => ybg z kr z (g := g_p4) (kk := k_p4) (args := [(vN x178), (vN x179)]) z kr hcall_p4 (h_p4 (F := [C_p0]) le S176  Xr180) ?_)))
 rintro _ w181 ⟨I182, rfl, L183, S184⟩
 refine cv (ya 12 2 z (yb (bsk R1 fun j186 R2 R1 => ya0 (J := (fun fr w => ∃ (s190 : Int) (s191 : Int), ∃ I188, (s190, s191) = j186 ∧ fr = [(0, Sl a_p0 p0 c_p0), (1, Iv p1), (2, Iv p2), (3, Iv p3), (4, .func (.func g_p4) #[] k_p4.toArray), (18, Iv (w64 (Int.fdiv (IntKind.wrap .u64 (w64 (p1 + p3))) (2 ^ 1)))), (19, Iv (w64 ((w64 (Int.fdiv (IntKind.wrap .u64 (w64 (p1 + p3))) (2 ^ 1))) + p2))), (20, Iv s190), (21, Iv s191), (22, Iv (w64 ((w64 ((w64 (Int.fdiv (IntKind.wrap .u64 (w64 (p1 + p3))) (2 ^ 1))) + p2)) - 1)))] ∧ I182.Le I188 ∧ St E w I188 ((C_p0) :: Os))) ?_ ?_)))
 refine y3 R2 (fun G R2 => ?_) (fun G R2 => ?_)
 exact yai nL3 (ya 0 3 z (yr (yx ⟨(w64 ((w64 (Int.fdiv (IntKind.wrap .u64 (w64 (s170 + s171))) (2 ^ 1))) + 1)), s171, I182, sj R2, rfl, lr, S184⟩)))
 exact yai nL2 (ya 0 2 z (yr (yx ⟨s170, (w64 (Int.fdiv (IntKind.wrap .u64 (w64 (s170 + s171))) (2 ^ 1))), I182, sj R2, rfl, lr, S184⟩)))
 rintro _ w192 ⟨s190, s191, I188, rfl, rfl, L189, S193⟩
 exact ym (yx ⟨(s190, s191), (sj R1).symm, I188, rfl, le, S193⟩)
 refine yab (yp (yt ?_))
 obtain rfl := hext167 _ (sj R1).symm
 refine yu (yc (ye nL4 (ya 0 4 z (yb (yi (ye nL8 (ya 0 4 z (bsq D fun q241 Xq241 D => yaz [4, 5, 6] 7 181 185 Xq241 (fun _ => ya 4 4 z yal) (yb (bsk D fun j244 R1 D => ya0 (J := (fun fr w => ∃ I246 C_j244, fr = [(0, Sl a_p0 j244 c_p0), (1, Iv p1), (3, Iv p3), (4, .func (.func g_p4) #[] k_p4.toArray), (18, Iv (w64 (Int.fdiv (IntKind.wrap .u64 (w64 (p1 + p3))) (2 ^ 1)))), (20, Iv s170), (24, Iv (w64 ((w64 ((w64 (Int.fdiv (IntKind.wrap .u64 (w64 (p1 + p3))) (2 ^ 1))) + p2)) - s170)))] ∧ I168.Le I246 ∧ St E w I246 ((C_j244) :: Os) ∧ OwnSl 67 2 R_qN I246 C_j244 a_p0 c_p0 j244 ∧ j244.length = p0.length)) ?_ ?_))))))))))
 refine y3 R1 (fun G R1 => ?_) (fun G R1 => ?_)
 refine yai nL6 (ya 0 4 z (yaf 4 190 (.func (.func g_p4) #[] k_p4.toArray) (bsk R1 fun r253 Xr248 R1 => yaj (slices_rotateCmpFunc_registrar_qN_ok (OwnSl.mono h_p0 le) (fun {F Ic wc} {_} {_} hlc hSc  {rc} hrc => h_p4 le hSc  hrc) hcall_p4 S174 Xr248) ?_)))
 rintro _ w249 ⟨I250, C_r253, rfl, L251, S252, h_r253, hn_r253⟩
 refine cv (yz 0 z (show Value.slice a_p0 p0.length c_p0 = Value.slice a_p0 r253.length c_p0 by rw [hn_r253]) ?_)
 refine yz 186 z (show Value.slice a_p0 p0.length c_p0 = Value.slice a_p0 r253.length c_p0 by rw [hn_r253]) ?_
 exact yr (sj R1 ▸ yx ⟨I250, C_r253, rfl, L251, S252, h_r253, (hn_r253.trans z)⟩)
 exact yl (sj R1 ▸ yx ⟨I168, C_p0, rfl, lr, S174, (OwnSl.mono h_p0 le), rfl⟩)
 rintro _ w254 ⟨I246, C_j244, rfl, L247, S255, h_j244, hn_j244⟩
 refine yc (yi (ye nL8 (ya 0 4 z (bsq D fun q256 Xq256 D => yaz [4, 5, 6] 7 195 199 Xq256 (fun _ => ya 4 4 z yal) (yb (bsk D fun j259 R1 D => ya0 (J := (fun fr w => ∃ I261 C_j259, fr = [(0, Sl a_p0 j259 c_p0), (3, Iv p3), (4, .func (.func g_p4) #[] k_p4.toArray), (18, Iv (w64 (Int.fdiv (IntKind.wrap .u64 (w64 (p1 + p3))) (2 ^ 1)))), (24, Iv (w64 ((w64 ((w64 (Int.fdiv (IntKind.wrap .u64 (w64 (p1 + p3))) (2 ^ 1))) + p2)) - s170)))] ∧ I246.Le I261 ∧ St E w I261 ((C_j259) :: Os) ∧ OwnSl 67 2 R_qN I261 C_j259 a_p0 c_p0 j259 ∧ j259.length = p0.length)) ?_ ?_))))))
 refine y3 R1 (fun G R1 => ?_) (fun G R1 => ?_)
 refine yai nL6 (ya 0 4 z (yaf 4 204 (.func (.func g_p4) #[] k_p4.toArray) (bsk R1 fun r268 Xr263 R1 => yaj (ih h_j244 (fun {F Ic wc} {_} {_} hlc hSc  {rc} hrc => h_p4 le hSc  hrc) hcall_p4 S255 Xr263) ?_)))
 rintro _ w264 ⟨I265, C_r268, rfl, L266, S267, h_r268, hn_r268⟩
 refine cv (yz 0 z (show Value.slice a_p0 j244.length c_p0 = Value.slice a_p0 r268.length c_p0 by rw [hn_r268]) ?_)
 refine yz 200 z (show Value.slice a_p0 j244.length c_p0 = Value.slice a_p0 r268.length c_p0 by rw [hn_r268]) ?_
 exact yr (sj R1 ▸ yx ⟨I265, C_r268, rfl, L266, S267, h_r268, (hn_r268.trans hn_j244)⟩)
 exact yl (sj R1 ▸ yx ⟨I246, C_j244, rfl, lr, S255, h_j244, hn_j244⟩)
 rintro _ w269 ⟨I261, C_j259, rfl, L262, S270, h_j259, hn_j259⟩
 refine yc (ye nL8 (ya 0 4 z (bsq D fun q271 Xq271 D => yaz [4, 5, 6] 7 209 213 Xq271 (fun _ => ya 4 4 z yal) (yb (bsk D fun j274 R1 D => ya0 (J := (fun fr w => ∃ I276 C_j274, fr = [] ∧ I261.Le I276 ∧ St E w I276 ((C_j274) :: Os) ∧ OwnSl 67 2 R_qN I276 C_j274 a_p0 c_p0 j274 ∧ j274.length = p0.length)) ?_ ?_)))))
 refine y3 R1 (fun G R1 => ?_) (fun G R1 => ?_)
 refine yai nL6 (ya 0 4 z (yaf 4 218 (.func (.func g_p4) #[] k_p4.toArray) (bsk R1 fun r283 Xr278 R1 => yaj (ih h_j259 (fun {F Ic wc} {_} {_} hlc hSc  {rc} hrc => h_p4 le hSc  hrc) hcall_p4 S270 Xr278) ?_)))
 rintro _ w279 ⟨I280, C_r283, rfl, L281, S282, h_r283, hn_r283⟩
 refine cv (yz 0 z (show Value.slice a_p0 j259.length c_p0 = Value.slice a_p0 r283.length c_p0 by rw [hn_r283]) ?_)
 refine yz 214 z (show Value.slice a_p0 j259.length c_p0 = Value.slice a_p0 r283.length c_p0 by rw [hn_r283]) ?_
 exact yr (sj R1 ▸ yx ⟨I280, C_r283, rfl, L281, S282, h_r283, (hn_r283.trans hn_j259)⟩)
 exact yl (sj R1 ▸ yx ⟨I261, C_j259, rfl, lr, S270, h_j259, hn_j259⟩)
 rintro _ w284 ⟨I276, C_j274, rfl, L277, S285, h_j274, hn_j274⟩
 exact ybs (sj D ▸ ybq z ⟨I276, C_j274, rfl, le, S285, h_j274, hn_j274⟩)
theorem slices_symMergeCmpFunc_registrar_qN_ok {p0 : List qN} {p1 : Int} {p2 : Int} {p3 : Int} {p4 : qN → qN → Option Int} {a_p0 : Option Addr} {c_p0 : Nat} {C_p0 : Mem} {g_p4 : FuncId} {k_p4 : List Value} (h_p0 : OwnSl 67 2 R_qN I C_p0 a_p0 c_p0 p0) (h_p4 : ∀ {F : List Mem} {I' : Mem} {w : World} {u0 : qN} {u1 : qN}, I.Le I' → St E w I' (F ++ Os) → ∀ {r : Int}, p4 u0 u1 = some r → Calls P g_p4 (([(vN u0), (vN u1)] : List Value) ++ k_p4).toArray w (fun e w' => ∃ (I'' : Mem), e = .returned (Iv r) ∧ I'.Le I'' ∧ St E w' I'' (F ++ Os))) (hcall_p4 : Callable P g_p4) (hS : St E w I ((C_p0) :: Os)) {r : (List qN)} (D : slices_symMergeCmpFunc_registrar_qN p0 p1 p2 p3 p4 = some r) :
    Calls P 95 #[(Sl a_p0 p0 c_p0), (Iv p1), (Iv p2), (Iv p3), (.func (.func g_p4) #[] k_p4.toArray)] w (fun e w' => ∃ (I' : Mem) (rD0 : Mem), e = .returned (.tuple #[]) ∧ I.Le I' ∧ St E w' I' (rD0 :: Os) ∧ OwnSl 67 2 R_qN I' rD0 a_p0 c_p0 r ∧ r.length = p0.length) := by
 obtain ⟨fu, hf⟩ := anyFuel_some D
 exact slices_symMergeCmpFunc_registrar_qN_fu_ok fu h_p0 h_p4 hcall_p4 hS hf
noncomputable def slices_stableCmpFunc_registrar_qN (p0 : List qN) (p1 : Int) (p2 : qN → qN → Option Int) : Option (List qN) := (loopO (fun (s : Int × Int × (List qN)) => match s with | (s4, s5, s6) => (bif (decide (s5 ≤ p1)) then (slices_insertionSortCmpFunc_registrar_qN s6 s4 s5 p2).bind (fun r16 => some (.inl (s5, (w64 (s5 + 20)), r16))) else some (.inr (s4, s6)))) (0, 20, p0)).bind (fun ((s18, s19) : Int × (List qN)) => (slices_insertionSortCmpFunc_registrar_qN s19 s18 p1 p2).bind (fun r25 => (loopO (fun (s : Int × (List qN)) => match s with | (s29, s30) => (bif (decide (s29 < p1)) then (loopO (fun (s : Int × Int × (List qN)) => match s with | (s38, s39, s40) => (bif (decide (s39 ≤ p1)) then (slices_symMergeCmpFunc_registrar_qN s40 s38 (w64 (s38 + s29)) s39 p2).bind (fun r50 => some (.inl (s39, (w64 (s39 + (w64 (2 * s29)))), r50))) else some (.inr (s38, s40)))) (0, (w64 (2 * s29)), s30)).bind (fun ((s52, s53) : Int × (List qN)) => ((bif (decide ((w64 (s52 + s29)) < p1)) then (slices_symMergeCmpFunc_registrar_qN s53 s52 (w64 (s52 + s29)) p1 p2).bind (fun r63 => some r63) else some s53)).bind (fun (j54 : List qN) => some (.inl ((w64 (s29 * 2)), j54)))) else some (.inr s30))) (20, r25)).bind (fun (s80 : List qN) => some s80)))
theorem slices_stableCmpFunc_registrar_qN_ok {p0 : List qN} {p1 : Int} {p2 : qN → qN → Option Int} {a_p0 : Option Addr} {c_p0 : Nat} {C_p0 : Mem} {g_p2 : FuncId} {k_p2 : List Value} (h_p0 : OwnSl 67 2 R_qN I C_p0 a_p0 c_p0 p0) (h_p2 : ∀ {F : List Mem} {I' : Mem} {w : World} {u0 : qN} {u1 : qN}, I.Le I' → St E w I' (F ++ Os) → ∀ {r : Int}, p2 u0 u1 = some r → Calls P g_p2 (([(vN u0), (vN u1)] : List Value) ++ k_p2).toArray w (fun e w' => ∃ (I'' : Mem), e = .returned (Iv r) ∧ I'.Le I'' ∧ St E w' I'' (F ++ Os))) (hcall_p2 : Callable P g_p2) (hS : St E w I ((C_p0) :: Os)) {r : (List qN)} (D : slices_stableCmpFunc_registrar_qN p0 p1 p2 = some r) :
    Calls P 67 #[(Sl a_p0 p0 c_p0), (Iv p1), (.func (.func g_p2) #[] k_p2.toArray)] w (fun e w' => ∃ (I' : Mem) (rD0 : Mem), e = .returned (.tuple #[]) ∧ I.Le I' ∧ St E w' I' (rD0 :: Os) ∧ OwnSl 67 2 R_qN I' rD0 a_p0 c_p0 r ∧ r.length = p0.length) := by
 refine calls_W (fn := Tryz.f67) rfl rfl rfl ?_
 unfold slices_stableCmpFunc_registrar_qN at D
 refine ye [0] (ya 0 1 z (y8 nL3 (ya 0 3 z (yb (yi (yo (bsk D fun t1 hloop7 D => W.wk (ya4 hloop7 (fun (s : Int × Int × (List qN)) fr w => match s with | (s4, s5, s6) => ∃ I2 C_s6, fr = [(0, Sl a_p0 s6 c_p0), (1, Iv p1), (2, .func (.func g_p2) #[] k_p2.toArray), (6, Iv 20), (7, Iv s4), (8, Iv s5)] ∧ I.Le I2 ∧ St E w I2 ((C_s6) :: Os) ∧ OwnSl 67 2 R_qN I2 C_s6 a_p0 c_p0 s6 ∧ s6.length = p0.length) ⟨I, C_p0, rfl, lr, hS, h_p0, rfl⟩ ?_))))))))
 rintro ⟨s4, s5, s6⟩ _ w8 ⟨I2, C_s6, rfl, L3, S9, h_s6, hn_s6⟩ x10 R1 hext1
 refine yi (ye nL3 (ya 0 3 z (yb (y3 R1 (fun G R1 => ?_) (fun G R1 => ?_)))))
 refine yl (yc (yo (ye nL5 (ya 0 3 z (yaf 3 17 (.func (.func g_p2) #[] k_p2.toArray) (bsk R1 fun r16 Xr11 R1 => yaj (slices_insertionSortCmpFunc_registrar_qN_ok h_s6 (fun {F Ic wc} {_} {_} hlc hSc  {rc} hrc => h_p2 le hSc  hrc) hcall_p2 S9 Xr11) ?_))))))
 rintro _ w12 ⟨I13, C_r16, rfl, L14, S15, h_r16, hn_r16⟩
 refine cv (yz 0 z (show Value.slice a_p0 s6.length c_p0 = Value.slice a_p0 r16.length c_p0 by rw [hn_r16]) ?_)
 refine yz 14 z (show Value.slice a_p0 s6.length c_p0 = Value.slice a_p0 r16.length c_p0 by rw [hn_r16]) ?_
 exact y8 nL2 (ya 0 2 z (yb (yai nL4 (ya 0 4 z (yr (ym (yx ⟨(s5, (w64 (s5 + 20)), r16), (sj R1).symm, I13, C_r16, rfl, le, S15, h_r16, (hn_r16.trans hn_s6)⟩)))))))
 refine yab (yp (yt ?_))
 obtain rfl := hext1 _ (sj R1).symm
 refine yu (yc (ye nL5 (ya 0 3 z (yaf 3 26 (.func (.func g_p2) #[] k_p2.toArray) (bsk D fun r86 Xr81 D => yaj (slices_insertionSortCmpFunc_registrar_qN_ok h_s6 (fun {F Ic wc} {_} {_} hlc hSc  {rc} hrc => h_p2 le hSc  hrc) hcall_p2 S9 Xr81) ?_)))))
 rintro _ w82 ⟨I83, C_r86, rfl, L84, S85, h_r86, hn_r86⟩
 refine cv (yz 0 z (show Value.slice a_p0 s6.length c_p0 = Value.slice a_p0 r86.length c_p0 by rw [hn_r86]) ?_)
 refine yz 23 z (show Value.slice a_p0 s6.length c_p0 = Value.slice a_p0 r86.length c_p0 by rw [hn_r86]) ?_
 refine yb (yo (bsk D fun t87 hloop92 D => W.wk (ya4 hloop92 (fun (s : Int × (List qN)) fr w => match s with | (s90, s91) => ∃ I88 C_s91, fr = [(0, Sl a_p0 s91 c_p0), (1, Iv p1), (2, .func (.func g_p2) #[] k_p2.toArray), (6, Iv s90)] ∧ I83.Le I88 ∧ St E w I88 ((C_s91) :: Os) ∧ OwnSl 67 2 R_qN I88 C_s91 a_p0 c_p0 s91 ∧ s91.length = p0.length) ⟨I83, C_r86, rfl, lr, S85, h_r86, (hn_r86.trans hn_s6)⟩ ?_)))
 rintro ⟨s90, s91⟩ _ w93 ⟨I88, C_s91, rfl, L89, S94, h_s91, hn_s91⟩ x95 R1 hext87
 refine yi (ye nL3 (ya 0 3 z (yb (y3 R1 (fun G R1 => ?_) (fun G R1 => ?_)))))
 refine yl (yc (yo (ye nL4 (ya 0 4 z (yb (yi (yo (bsk R1 fun t96 hloop102 R1 => W.wk (ya4 hloop102 (fun (s : Int × Int × (List qN)) fr w => match s with | (s99, s100, s101) => ∃ I97 C_s101, fr = [(0, Sl a_p0 s101 c_p0), (1, Iv p1), (2, .func (.func g_p2) #[] k_p2.toArray), (6, Iv s90), (7, Iv s99), (8, Iv s100)] ∧ I88.Le I97 ∧ St E w I97 ((C_s101) :: Os) ∧ OwnSl 67 2 R_qN I97 C_s101 a_p0 c_p0 s101 ∧ s101.length = p0.length) ⟨I88, C_s91, rfl, lr, S94, h_s91, hn_s91⟩ ?_)))))))))
 rintro ⟨s99, s100, s101⟩ _ w103 ⟨I97, C_s101, rfl, L98, S104, h_s101, hn_s101⟩ x105 R2 hext96
 refine yi (ye nL3 (ya 0 3 z (yb (y3 R2 (fun G R2 => ?_) (fun G R2 => ?_)))))
 refine yl (yc (yo (ye nL8 (ya 0 6 z (yaf 6 42 (.func (.func g_p2) #[] k_p2.toArray) (bsk R2 fun r111 Xr106 R2 => yaj (slices_symMergeCmpFunc_registrar_qN_ok h_s101 (fun {F Ic wc} {_} {_} hlc hSc  {rc} hrc => h_p2 le hSc  hrc) hcall_p2 S104 Xr106) ?_))))))
 rintro _ w107 ⟨I108, C_r111, rfl, L109, S110, h_r111, hn_r111⟩
 refine cv (yz 0 z (show Value.slice a_p0 s101.length c_p0 = Value.slice a_p0 r111.length c_p0 by rw [hn_r111]) ?_)
 refine yz 36 z (show Value.slice a_p0 s101.length c_p0 = Value.slice a_p0 r111.length c_p0 by rw [hn_r111]) ?_
 exact y8 nL2 (ya 0 2 z (yb (yai nL5 (ya 0 5 z (yr (ym (yx ⟨(s100, (w64 (s100 + (w64 (2 * s90)))), r111), (sj R2).symm, I108, C_r111, rfl, le, S110, h_r111, (hn_r111.trans hn_s101)⟩)))))))
 refine yab (yp (yt ?_))
 obtain rfl := hext96 _ (sj R2).symm
 refine yu (yc (yi (ye nL4 (ya 0 4 z (y8 nL3 (ya 0 3 z (yb (bsk R1 fun j127 R2 R1 => ya0 (J := (fun fr w => ∃ I129 C_j127, fr = [(0, Sl a_p0 j127 c_p0), (1, Iv p1), (2, .func (.func g_p2) #[] k_p2.toArray), (6, Iv s90)] ∧ I97.Le I129 ∧ St E w I129 ((C_j127) :: Os) ∧ OwnSl 67 2 R_qN I129 C_j127 a_p0 c_p0 j127 ∧ j127.length = p0.length)) ?_ ?_))))))))
 refine y3 R2 (fun G R2 => ?_) (fun G R2 => ?_)
 refine yai nL6 (ya 0 4 z (yaf 4 59 (.func (.func g_p2) #[] k_p2.toArray) (bsk R2 fun r136 Xr131 R2 => yaj (slices_symMergeCmpFunc_registrar_qN_ok h_s101 (fun {F Ic wc} {_} {_} hlc hSc  {rc} hrc => h_p2 le hSc  hrc) hcall_p2 S104 Xr131) ?_)))
 rintro _ w132 ⟨I133, C_r136, rfl, L134, S135, h_r136, hn_r136⟩
 refine cv (yz 0 z (show Value.slice a_p0 s101.length c_p0 = Value.slice a_p0 r136.length c_p0 by rw [hn_r136]) ?_)
 refine yz 55 z (show Value.slice a_p0 s101.length c_p0 = Value.slice a_p0 r136.length c_p0 by rw [hn_r136]) ?_
 exact yr (sj R2 ▸ yx ⟨I133, C_r136, rfl, L134, S135, h_r136, (hn_r136.trans hn_s101)⟩)
 exact yl (sj R2 ▸ yx ⟨I97, C_s101, rfl, lr, S104, h_s101, hn_s101⟩)
 rintro _ w137 ⟨I129, C_j127, rfl, L130, S138, h_j127, hn_j127⟩
 exact yc (yai nL3 (ya 0 3 z (yr (ym (yx ⟨((w64 (s90 * 2)), j127), (sj R1).symm, I129, C_j127, rfl, le, S138, h_j127, hn_j127⟩)))))
 refine yab (yp (yt ?_))
 obtain rfl := hext87 _ (sj R1).symm
 exact yu (ybs (sj D ▸ ybq z ⟨I88, C_s91, rfl, le, S94, h_s91, hn_s91⟩))
noncomputable def slices_SortStableFunc_qN (p0 : List qN) (p1 : qN → qN → Option Int) : Option (List qN) := (slices_stableCmpFunc_registrar_qN p0 (p0.length : Int) p1).bind (fun r6 => some r6)
theorem slices_SortStableFunc_qN_ok {p0 : List qN} {p1 : qN → qN → Option Int} {a_p0 : Option Addr} {c_p0 : Nat} {C_p0 : Mem} {g_p1 : FuncId} {k_p1 : List Value} (h_p0 : OwnSl 67 2 R_qN I C_p0 a_p0 c_p0 p0) (h_p1 : ∀ {F : List Mem} {I' : Mem} {w : World} {u0 : qN} {u1 : qN}, I.Le I' → St E w I' (F ++ Os) → ∀ {r : Int}, p1 u0 u1 = some r → Calls P g_p1 (([(vN u0), (vN u1)] : List Value) ++ k_p1).toArray w (fun e w' => ∃ (I'' : Mem), e = .returned (Iv r) ∧ I'.Le I'' ∧ St E w' I'' (F ++ Os))) (hcall_p1 : Callable P g_p1) (hS : St E w I ((C_p0) :: Os)) {r : (List qN)} (D : slices_SortStableFunc_qN p0 p1 = some r) :
    Calls P 39 #[(Sl a_p0 p0 c_p0), (.func (.func g_p1) #[] k_p1.toArray)] w (fun e w' => ∃ (I' : Mem) (rD0 : Mem), e = .returned (.tuple #[]) ∧ I.Le I' ∧ St E w' I' (rD0 :: Os) ∧ OwnSl 67 2 R_qN I' rD0 a_p0 c_p0 r ∧ r.length = p0.length) := by
 refine calls_W (fn := Tryz.f39) rfl rfl rfl ?_
 unfold slices_SortStableFunc_qN at D
 refine yai nL5 (ya 0 3 z (yaf 3 7 (.func (.func g_p1) #[] k_p1.toArray) (bsk D fun r6 Xr1 D => yaj (slices_stableCmpFunc_registrar_qN_ok h_p0 (fun {F Ic wc} {_} {_} hlc hSc  {rc} hrc => h_p1 hlc hSc  hrc) hcall_p1 hS Xr1) ?_)))
 rintro _ w2 ⟨I3, C_r6, rfl, L4, S5, h_r6, hn_r6⟩
 refine cv (yz 0 z (show Value.slice a_p0 p0.length c_p0 = Value.slice a_p0 r6.length c_p0 by rw [hn_r6]) ?_)
 refine yz 4 z (show Value.slice a_p0 p0.length c_p0 = Value.slice a_p0 r6.length c_p0 by rw [hn_r6]) ?_
 refine yz 5 z (show Value.slice a_p0 p0.length c_p0 = Value.slice a_p0 r6.length c_p0 by rw [hn_r6]) ?_
 exact yr (ybs (sj D ▸ ybq z ⟨I3, C_r6, rfl, L4, S5, h_r6, (hn_r6.trans z)⟩))
def internal_bytealg_CompareString (p0 : By8) (p1 : By8) : Option Int := some (cmpS p0 p1)
theorem internal_bytealg_CompareString_ok {p0 : By8} {p1 : By8} (hS : St E w I Os) {r : Int} (D : internal_bytealg_CompareString p0 p1 = some r) :
    Calls P 68 #[(.string p0), (.string p1)] w (RT E I Os (Iv r)) := by
 refine calls_W (fn := Tryz.f68) rfl rfl rfl ?_
 unfold internal_bytealg_CompareString at D
 refine ye [0] (ya 0 1 z (y8 nL4 (ya 0 2 z (WO.cmpstring z kr (fn := Tryz.f96) z kr kr kr kr (a := p0) (b := p1) kr ?_))))
 exact ya 3 1 z (yb (yq (sj D ▸ yy ⟨I, rfl, lr, hS⟩)))
def strings_Compare (p0 : By8) (p1 : By8) : Option Int := (internal_bytealg_CompareString p0 p1).bind (fun r6 => some r6)
theorem strings_Compare_ok {p0 : By8} {p1 : By8} (hS : St E w I Os) {r : Int} (D : strings_Compare p0 p1 = some r) :
    Calls P 41 #[(.string p0), (.string p1)] w (RT E I Os (Iv r)) := by
 refine calls_W (fn := Tryz.f41) rfl rfl rfl ?_
 unfold strings_Compare at D
 exact ye [0] (ya 0 1 z (y8 nL4 (ya 0 2 z (bsk D fun r6 Xr1 D => WO.c1 (internal_bytealg_CompareString_ok  hS Xr1) z fun I3 w2 L4 S5 => ya 3 1 z (yb (yq (sj D ▸ yy ⟨I3, rfl, L4, S5⟩)))))))
def access_Merge_1 (p0 : qN) (p1 : qN) : Option Int := (strings_Compare p0.Path p1.Path).bind (fun r14 => some r14)
theorem access_Merge_1_ok {p0 : qN} {p1 : qN} (hS : St E w I Os) {r : Int} (D : access_Merge_1 p0 p1 = some r) :
    Calls P 40 #[(vN p0), (vN p1)] w (RT E I Os (Iv r)) := by
 refine calls_W (fn := Tryz.f40) rfl rfl rfl ?_
 unfold access_Merge_1 at D
 exact ye nL3 (yaa hS (cs_qN p0) 67 z fun b1 w4 S3 => yaa S3 (cs_qN p1) 67 z fun b5 w8 S7 => ya 2 1 z (y8 nL6 (yh 0 1 [0] z (yj (S7.rf m1) z (yh 2 1 [0] z (yj (S7.rf m0) z (bsk D fun r14 Xr9 D => WO.c1 (strings_Compare_ok  S7 Xr9) z fun I11 w10 L12 S13 => ya 5 1 z (yb (yq (sj D ▸ yy ⟨I11, rfl, L12, S13.d2⟩))))))))))
def access_mode (p0 : Int) : Option Int := (bif ((decide (p0 < 1)) || (decide (p0 > 4))) then some 4 else some p0)
theorem access_mode_ok {p0 : Int} (hS : St E w I Os) {r : Int} (D : access_mode p0 = some r) :
    Calls P 42 #[(Iv p0)] w (RT E I Os (Iv r)) := by
 refine calls_W (fn := Tryz.f42) rfl rfl rfl ?_
 unfold access_mode at D
 refine ye [0] (ya 0 1 z (yb (yi (ye nL6 (ya 0 3 z (ya7 [3, 4] 5 5 8 (.refl ((decide (p0 < 1)) || (decide (p0 > 4)))) (fun _ => ya 3 3 z yal) (yb (y3 D (fun G D => ?_) (fun G D => ?_)))))))))
 exact ye [0] (ya 0 1 z (yb (yq (yf (sj D ▸ yy ⟨I, rfl, lr, hS⟩)))))
 exact yl (yc (ye nL2 (ya 0 2 z (yb (yq (sj D ▸ yy ⟨I, rfl, lr, hS⟩))))))
def access_both (p0 : Int) (p1 : Int) : Option Int := (bif (p0 == p1) then some p0 else (bif (p0 == 1) then some p1 else (bif (p1 == 1) then some p0 else some 4)))
theorem access_both_ok {p0 : Int} {p1 : Int} (hS : St E w I Os) {r : Int} (D : access_both p0 p1 = some r) :
    Calls P 43 #[(Iv p0), (Iv p1)] w (RT E I Os (Iv r)) := by
 refine calls_W (fn := Tryz.f43) rfl rfl rfl ?_
 unfold access_both at D
 refine ye [0] (ya 0 1 z (yb (yi (yo (ye nL4 (ya 0 4 z (yb (y3 D (fun G D => ?_) (fun G D => ?_)))))))))
 exact ye nL2 (ya 0 2 z (yb (yq (yn (yf (sj D ▸ yy ⟨I, rfl, lr, hS⟩))))))
 refine ye nL3 (ya 0 3 z (yb (y3 D (fun G D => ?_) (fun G D => ?_))))
 exact ye nL2 (ya 0 2 z (yb (yq (yn (yf (sj D ▸ yy ⟨I, rfl, lr, hS⟩))))))
 refine ye nL3 (ya 0 3 z (yb (y3 D (fun G D => ?_) (fun G D => ?_))))
 exact ye nL2 (ya 0 2 z (yb (yq (yn (yf (sj D ▸ yy ⟨I, rfl, lr, hS⟩))))))
 exact yl (ym (yc (ye [0] (ya 0 1 z (yb (yq (sj D ▸ yy ⟨I, rfl, lr, hS⟩)))))))
noncomputable def access_Merge (p0 : List qN) : Option (List qN) := (slices_Clone_qN p0).bind (fun r6 => (slices_SortStableFunc_qN r6 (fun (u0 : qN) (u1 : qN) => access_Merge_1 u0 u1)).bind (fun r12 => (forE (fun (i17 : Nat) (s16 : List qN) => (idx r12 (i17 : Int)).bind (fun x27 => (access_mode x27.Mode).bind (fun r39 => ((bif (decide ((w64 ((s16.length : Int) - 1)) ≥ 0)) then (idx s16 (w64 ((s16.length : Int) - 1))).bind (fun x48 => some (sEq x48.Path x27.Path)) else some false)).bind (fun (j44 : Bool) => ((bif j44 then (idx s16 (w64 ((s16.length : Int) - 1))).bind (fun x61 => (access_both x61.Mode r39).bind (fun r67 => (idx s16 (w64 ((s16.length : Int) - 1))).bind (fun x68 => some (s16.set ((w64 ((s16.length : Int) - 1))).toNat ({ x68 with Mode := r67 }))))) else (app 24 s16 ([{ x27 with Mode := r39 }] : List qN)).bind (fun x85 => some x85))).bind (fun (j55 : List qN) => some j55))))) r12.length 0 ([] : List qN)).bind (fun s16 => some s16)))
theorem access_Merge_ok {p0 : List qN} {a_p0 : Option Addr} {c_p0 : Nat} (h_p0 : RSl 2 R_qN I a_p0 c_p0 p0) (hS : St E w I Os) {r : (List qN)} (D : access_Merge p0 = some r) :
    Calls P 14 #[(Sl a_p0 p0 c_p0)] w (fun e w' => ∃ (I' : Mem) (ra0 : Option Addr) (rc0 : Nat), e = .returned (Sl ra0 r rc0) ∧ I.Le I' ∧ St E w' I' Os ∧ RSl 2 R_qN I' ra0 rc0 r) := by
 refine calls_W (fn := Tryz.f14) rfl rfl rfl ?_
 unfold access_Merge at D
 refine ye [0] (yaf 0 2 (.slice none 0 0) (y8 nL3 (ya 0 1 z (bsk D fun r6 Xr1 D => yaj (slices_Clone_qN_ok h_p0 hS Xr1) ?_))))
 rintro _ w2 ⟨I3, a_r6, c_r6, C_r6, rfl, L4, S5, h_r6⟩
 refine cv (ya 2 1 z (y8 nL2 (ya 0 1 z (bsk D fun r12 Xr7 D => yaj (slices_SortStableFunc_qN_ok h_r6 (fun {F Ic wc} {_} {_} hlc hSc  {rc} hrc => access_Merge_1_ok   hSc hrc) (fun _ _ => by kernel_rfl) S5 Xr7) ?_))))
 rintro _ w8 ⟨I9, C_r12, rfl, L10, S11, h_r12, hn_r12⟩
 refine cv (yz 3 z (show Value.slice a_r6 r6.length c_r6 = Value.slice a_r6 r12.length c_r6 by rw [hn_r12]) ?_)
 refine yz 9 z (show Value.slice a_r6 r6.length c_r6 = Value.slice a_r6 r12.length c_r6 by rw [hn_r12]) ?_
 refine yz 10 z (show Value.slice a_r6 r6.length c_r6 = Value.slice a_r6 r12.length c_r6 by rw [hn_r12]) ?_
 refine y8 [0] (yaf 0 4 (.slice none 0 0) (yb (yi (ye nL3 (ya 0 3 z (yb (yo (bsk D fun s16 hloop18 D => have hlt25 := (h_r12.sl).len_lt; W.wk (ya1 (m := r12.length) hloop18 (fun (i17 : Nat) (s16 : List qN) fr w => ∃ I14 a_s16 c_s16 C_s16, fr = [(4, Sl a_s16 s16 c_s16), (12, Sl a_r6 r12 c_r6), (13, Nv r12.length), (14, Nv i17)] ∧ I9.Le I14 ∧ St E w I14 ((C_r12) :: (C_s16) :: Os) ∧ OwnSl 67 2 R_qN I14 C_s16 a_s16 c_s16 s16) ⟨I9, none, 0, Mem.no, rfl, lr, S11.no.front1, OwnSl.nil⟩ ?_ ?_)))))))))
 rintro i17 s16 _ w22 hi26 ⟨I14, a_s16, c_s16, C_s16, rfl, L15, S23, h_s16⟩ x24 R1
 refine ye [0] (ya 0 1 z (yb (yi (yax fun _ => yl (yc (yi (yo (ye nL4 ?_))))))))
 obtain ⟨x27, R1, Hx27, _, rfl, Zx27⟩ := sl_ix ((h_r12.mono L15).sl) R1
 refine yac 67 2 Hx27 z (yat ((cs_qN x27)) Zx27 0 (S23.rf m0) z (yaa S23 (cs_qN z_qN) 67 z fun b28 w31 S30 => yad S30 0 (cs_qN x27) fun w33 S32 => y8 nL5 (yh 0 1 [1] z (yj (S32.rf m0) z (bsk R1 fun r39 Xr34 R1 => WO.c1 (access_mode_ok  S32 Xr34) z fun I36 w35 L37 S38 => yh 3 1 [1] z (yad S38 1 (cs_qN ({ x27 with Mode := r39 })) fun w41 S40 => y8 nL4 (ya 0 4 z (yb (yi (have S42 := S40.drew; ybc nL12 12 (yw (S42.rd m0) (yw (S42.rd m2) (yae S42.im))) ?_))))))))))
 generalize World.drew _ = w43 at *
 refine ya 0 3 z (bsk R1 fun j44 R2 R1 => yao (l1 := [3, 4, 5, 6, 7, 8, 9, 10, 11]) (J := JI E I36 [(4, Sl a_s16 s16 c_s16), (6, Pt b28 0), (7, Iv (w64 ((s16.length : Int) - 1))), (12, Sl a_r6 r12 c_r6), (13, Nv r12.length), (14, Nv i17), (36, .bool j44)] ((C_r12) :: (C_s16) :: (Bx b28 (cs_qN ({ x27 with Mode := r39 })) 67) :: Os)) ?_ ?_)
 refine yan R2 (fun G R2 => ?_) (fun G R2 => ?_)
 refine y7 27 G (ya 3 2 z ?_)
 obtain ⟨x48, R2, Hx48, _, rfl, Zx48⟩ := sl_ix ((h_s16.mono L37).sl) R2
 exact yac 67 2 Hx48 z (yh 6 1 [0] z (yar Zx48 (rd_c m1 (S42.rd m2)) z (yh 8 1 [0] z (yj (rd_c m0 (S42.rd m0)) z (ya 10 2 z (sj R2 ▸ y6 ⟨I36, rfl, lr, S42.front2.front2⟩))))))
 refine y7 27 G ?_
 iterate 8 refine yam ?_
 exact ya 11 1 z (sj R2 ▸ y6 ⟨I36, rfl, lr, S42.front2.front2⟩)
 rintro _ w53 ⟨I46, rfl, L47, S54⟩
 refine yb (bsk R1 fun j55 R2 R1 => ya0 (J := (fun fr w => ∃ I57 a_j55 c_j55 C_j55, fr = [(4, Sl a_j55 j55 c_j55), (12, Sl a_r6 r12 c_r6), (13, Nv r12.length), (14, Nv i17)] ∧ I46.Le I57 ∧ St E w I57 ((C_r12) :: (C_j55) :: Os) ∧ OwnSl 67 2 R_qN I57 C_j55 a_j55 c_j55 j55)) ?_ ?_)
 refine y3 R2 (fun G R2 => ?_) (fun G R2 => ?_)
 have S59 := S54.drew
 refine ybc nL13 9 (yw (S59.rd m1) (yw (S59.rd m2) (yae S59.im))) ?_
 generalize World.drew _ = w60 at *
 refine ya 0 4 z ?_
 obtain ⟨x61, R2, Hx61, _, rfl, Zx61⟩ := sl_ix ((h_s16.mono (L37.trans L47)).sl) R2
 refine yac 67 2 Hx61 z (yh 5 1 [1] z (ya6 Zx61 1 (rd_c m0 (S59.rd m1)) z (yh 7 1 [1] z (yj (rd_c m1 (S59.rd m2)) z (WO.tail z (bsk R2 fun r67 Xr62 R2 => WO.c1 (access_both_ok  S59 Xr62) z ?_))))))
 intro I64 w63 L65 S66
 obtain ⟨x68, R2, h0_x68, h1_x68, Xx68, ha_x68, _, _, rfl, Zx68⟩ := sl_at ((h_s16.mono ((L37.trans L47).trans L65)).sl) R2
 refine ya5 67 2 ha_x68 h0_x68 h1_x68 ?_
 refine yh 11 1 [1] z (yaw S66.front1 (OwnSl.mono h_s16 le) z kr z Xx68 (u' := { x68 with Mode := r67 }) 1 z z kr z z (fun cs hrel => (by obtain rfl := hrel; exact z)) tv ?_)
 intro w71 C72 S70 ho73
 refine yz 4 z (show Value.slice a_s16 s16.length c_s16 = Value.slice a_s16 (s16.set ((w64 ((s16.length : Int) - 1))).toNat ({ x68 with Mode := r67 })).length c_s16 by simp only [List.length_set]) ?_
 exact yr (sj R2 ▸ yx ⟨I64, a_s16, c_s16, C72, rfl, L65, S70.front2.drop.front1, ho73⟩)
 refine yai nL5 (ya 0 1 z (y4 ((cs_qN ({ x27 with Mode := r39 }))) (S54.rf m2) z (yag (rel := R_qN) (xs := ([{ x27 with Mode := r39 }] : List qN)) S54 z kr z 67 2 [(cs_qN ({ x27 with Mode := r39 }))] kr z ((Elr.cons z Elr.nil)) tv ?_)))
 intro a80 C78 w82 S81 ho79
 have S84 := S81.front2
 exact apk R2 fun x85 h0_x85 he_x85 R2 => ya2 67 24 (cs_qN z_qN) S84 (OwnSl.mono h_s16 le) ho79.sl (S84.rd m1) h0_x85 he_x85 z fun a86 c87 w88 C89 S90 ho91 => ya 4 1 z (yr (sj R2 ▸ yx ⟨I46, a86, c87, C89, rfl, lr, S90.front1.drop.front2.drop.front1, ho91⟩))
 rintro _ w97 ⟨I57, a_j55, c_j55, C_j55, rfl, L58, S98, h_j55⟩
 exact ym (yc (yai nL2 (yap i17 z (ya 1 1 z (yr (sj R1 ▸ yx ⟨I57, a_j55, c_j55, C_j55, rfl, le, S98, h_j55⟩))))))
 rintro _ w99 ⟨I14, a_s16, c_s16, C_s16, rfl, L15, S100, h_s16⟩
 refine ye [0] (ya 0 1 z (yb (yi (yay fun _ => yab (yp (yt (yu (yc (ye nL2 (ya 0 1 z ?_))))))))))
 obtain ⟨I102, L103, S105, hp104⟩ := yah h_s16 S100.front1
 exact ya 1 1 z (yb (yq (sj D ▸ yy ⟨I102, a_s16, c_s16, rfl, le, S105.drop, hp104⟩)))
def slices_IndexFunc_qN (p0 : List qN) (p1 : qN → Option Bool) : Option Int := (forN (fun (i4 : Nat) (_s : Unit) => (idx p0 (i4 : Int)).bind (fun x11 => (p1 x11).bind (fun (r17 : Bool) => (bif r17 then some (.inr (i4 : Int)) else some (.inl ()))))) p0.length 0 ()).bind (fun (t : Unit ⊕ (Int)) => match t with | .inl _ => some (-1) | .inr s19 => some s19)
theorem slices_IndexFunc_qN_ok {p0 : List qN} {p1 : qN → Option Bool} {a_p0 : Option Addr} {c_p0 : Nat} {g_p1 : FuncId} {k_p1 : List Value} (h_p0 : RSl 2 R_qN I a_p0 c_p0 p0) (h_p1 : ∀ {F : List Mem} {I' : Mem} {w : World} {u0 : qN}, I.Le I' → St E w I' (F ++ Os) → ∀ {r : Bool}, p1 u0 = some r → Calls P g_p1 (([(vN u0)] : List Value) ++ k_p1).toArray w (fun e w' => ∃ (I'' : Mem), e = .returned (.bool r) ∧ I'.Le I'' ∧ St E w' I'' (F ++ Os))) (hcall_p1 : Callable P g_p1) (hS : St E w I Os) {r : Int} (D : slices_IndexFunc_qN p0 p1 = some r) :
    Calls P 69 #[(Sl a_p0 p0 c_p0), (.func (.func g_p1) #[] k_p1.toArray)] w (RT E I Os (Iv r)) := by
 refine calls_W (fn := Tryz.f69) rfl rfl rfl ?_
 unfold slices_IndexFunc_qN at D
 refine ye [0] (ya 0 1 z (yb (yi (ye nL3 (ya 0 3 z (yb (yo (bsk D fun t1 hloop5 D => have hlt9 := (h_p0).len_lt; W.wk (yau (m := p0.length) hloop5 (fun (i4 : Nat) (_s : Unit) => JI E I [(0, Sl a_p0 p0 c_p0), (1, .func (.func g_p1) #[] k_p1.toArray), (7, Nv p0.length), (8, Nv i4)] Os) ⟨I, rfl, lr, hS⟩ ?_ ?_)))))))))
 rintro i4 _ _ w6 hi10 ⟨I2, rfl, L3, S7⟩ x8 R1 hext1
 refine ye [0] (ya 0 1 z (yb (yi (yax fun _ => yl (yc (yi (yo (ye nL2 (ya 0 2 z (y8 nL6 (yaf 0 11 (.func (.func g_p1) #[] k_p1.toArray) (ya 1 2 z ?_))))))))))))
 obtain ⟨x11, R1, Hx11, _, rfl, Zx11⟩ := sx I2 h_p0 R1
 refine yac 67 2 Hx11 z (yat ((cs_qN x11)) Zx11 0 S7.rm z (bsk R1 fun r17 Xr12 R1 => ybg z kr z (g := g_p1) (kk := k_p1) (args := [(vN x11)]) z kr hcall_p1 (h_p1 (F := []) L3 S7  Xr12) ?_))
 rintro _ w13 ⟨I14, rfl, L15, S16⟩
 refine cv (yb (y3 R1 (fun G R1 => ?_) (fun G R1 => ?_)))
 refine ye nL2 (ya 0 2 z (yb (yq (yn (yf (yv ?_))))))
 obtain rfl := hext1 _ (sj R1).symm
 exact yn (yf (sj D ▸ yy ⟨I14, rfl, le, S16⟩))
 exact yl (ym (yc (yai nL2 (yap i4 z (ya 1 1 z (yr (yx ⟨(), (sj R1).symm, I14, rfl, le, S16⟩)))))))
 rintro _ _ w20 ⟨I2, rfl, L3, S21⟩ he
 cases he
 exact ye [0] (ya 0 1 z (yb (yi (yay fun _ => yab (yp (yt (yu (yc (ye [0] (ya 0 1 z (yb (yq (sj D ▸ yy ⟨I2, rfl, L3, S21⟩)))))))))))))
def slices_ContainsFunc_qN (p0 : List qN) (p1 : qN → Option Bool) : Option Bool := (slices_IndexFunc_qN p0 p1).bind (fun r6 => some (decide (r6 ≥ 0)))
theorem slices_ContainsFunc_qN_ok {p0 : List qN} {p1 : qN → Option Bool} {a_p0 : Option Addr} {c_p0 : Nat} {g_p1 : FuncId} {k_p1 : List Value} (h_p0 : RSl 2 R_qN I a_p0 c_p0 p0) (h_p1 : ∀ {F : List Mem} {I' : Mem} {w : World} {u0 : qN}, I.Le I' → St E w I' (F ++ Os) → ∀ {r : Bool}, p1 u0 = some r → Calls P g_p1 (([(vN u0)] : List Value) ++ k_p1).toArray w (fun e w' => ∃ (I'' : Mem), e = .returned (.bool r) ∧ I'.Le I'' ∧ St E w' I'' (F ++ Os))) (hcall_p1 : Callable P g_p1) (hS : St E w I Os) {r : Bool} (D : slices_ContainsFunc_qN p0 p1 = some r) :
    Calls P 44 #[(Sl a_p0 p0 c_p0), (.func (.func g_p1) #[] k_p1.toArray)] w (RT E I Os (.bool r)) := by
 refine calls_W (fn := Tryz.f44) rfl rfl rfl ?_
 unfold slices_ContainsFunc_qN at D
 exact ye [0] (ya 0 1 z (y8 nL5 (ya 0 1 z (yaf 1 6 (.func (.func g_p1) #[] k_p1.toArray) (bsk D fun r6 Xr1 D => WO.c1 (slices_IndexFunc_qN_ok h_p0 (fun {F Ic wc} {_} hlc hSc  {rc} hrc => h_p1 hlc hSc  hrc) hcall_p1 hS Xr1) z fun I3 w2 L4 S5 => ya 3 2 z (yb (yq (sj D ▸ yy ⟨I3, rfl, L4, S5⟩))))))))
def access_Covers_1_1 (p0 : qN) (q1 : qN) : Option Bool := ((bif (sEq p0.Path q1.Path) then (access_mode p0.Mode).bind (fun r16 => (access_mode q1.Mode).bind (fun r22 => (access_both r16 r22).bind (fun r28 => (access_mode p0.Mode).bind (fun r34 => some (r28 == r34))))) else some false)).bind (fun (j7 : Bool) => some j7)
theorem access_Covers_1_1_ok {p0 : qN} {q1 : qN} {kb1 : Nat} (hm1 : (bN kb1 q1) ∈ Os) (hS : St E w I Os) {r : Bool} (D : access_Covers_1_1 p0 q1 = some r) :
    Calls P 46 #[(vN p0), (Pt kb1 0)] w (RT E I Os (.bool r)) := by
 refine calls_W (fn := Tryz.f46) rfl rfl rfl ?_
 unfold access_Covers_1_1 at D
 refine ye nL2 (yaa hS (cs_qN p0) 67 z fun b1 w4 S3 => ya 1 1 z (yb (yi (have S5 := S3.drew; ybc nL19 18 (yw (S5.rd m0) (yw (S5.rd (List.Mem.tail _ hm1)) (yae S5.im))) ?_))))
 generalize World.drew _ = w6 at *
 refine yh 0 1 [0] z (yj (rd_c m0 (S5.rd m0)) z (yh 2 1 [0] z (yj (rd_c m1 (S5.rd (List.Mem.tail _ hm1))) z (ya 4 2 z (bsk D fun j7 R1 D => yao (l1 := [6, 7, 8, 9, 10, 11, 12, 13, 14, 15, 16, 17]) (J := JI E I [(21, .bool j7)] (bN b1 p0 :: Os)) ?_ ?_)))))
 refine yan R1 (fun G R1 => ?_) (fun G R1 => ?_)
 refine y7 9 G (yh 6 1 [1] z (yj (rd_c m0 (S5.rd m0)) z (bsk R1 fun r16 Xr11 R1 => yaj (access_mode_ok  S5 Xr11) ?_)))
 rintro _ w12 ⟨I13, rfl, L14, S15⟩
 refine ⟨_, rfl, (yw (S15.rd m0) (yw (S15.rd (List.Mem.tail _ hm1)) (yae (S15.im.of_le L14)))), ?_⟩
 refine yh 9 1 [1] z (yj (rd_c m1 (S15.rd (List.Mem.tail _ hm1))) z (bsk R1 fun r22 Xr17 R1 => yaj (access_mode_ok  S15 Xr17) ?_))
 rintro _ w18 ⟨I19, rfl, L20, S21⟩
 refine ⟨_, rfl, (yw (S21.rd m0) (yw (S21.rd (List.Mem.tail _ hm1)) (yae (S21.im.of_le le)))), ?_⟩
 refine bsk R1 fun r28 Xr23 R1 => yaj (access_both_ok  S21 Xr23) ?_
 rintro _ w24 ⟨I25, rfl, L26, S27⟩
 refine ⟨_, rfl, (yw (S27.rd m0) (yw (S27.rd (List.Mem.tail _ hm1)) (yae (S27.im.of_le le)))), ?_⟩
 refine yh 13 1 [1] z (yj (rd_c m0 (S27.rd m0)) z (bsk R1 fun r34 Xr29 R1 => yaj (access_mode_ok  S27 Xr29) ?_))
 rintro _ w30 ⟨I31, rfl, L32, S33⟩
 refine ⟨_, rfl, (yw (S33.rd m0) (yw (S33.rd (List.Mem.tail _ hm1)) (yae (S33.im.of_le le)))), ?_⟩
 exact ya 16 2 z (sj R1 ▸ y6 ⟨I31, rfl, le, S33⟩)
 refine y7 9 G ?_
 iterate 11 refine yam ?_
 exact ya 17 1 z (sj R1 ▸ y6 ⟨I, rfl, lr, S5⟩)
 rintro _ w35 ⟨I9, rfl, L10, S36⟩
 exact WO.tail z (ya 18 1 z (yb (yq (sj D ▸ yy ⟨I9, rfl, L10, S36.drop⟩))))
def access_Covers_1 (p0 : qN) (q1 : List qN) : Option Bool := (slices_ContainsFunc_qN q1 (fun (u0 : qN) => access_Covers_1_1 u0 p0)).bind (fun r10 => some (!r10))
theorem access_Covers_1_ok {p0 : qN} {q1 : List qN} {kb1 : Nat} {a_q1 : Option Addr} {c_q1 : Nat} (h_q1 : RSl 2 R_qN I a_q1 c_q1 q1) (hm1 : (Bx kb1 [(Sl a_q1 q1 c_q1)] 64) ∈ Os) (hS : St E w I Os) {r : Bool} (D : access_Covers_1 p0 q1 = some r) :
    Calls P 45 #[(vN p0), (Pt kb1 0)] w (RT E I Os (.bool r)) := by
 refine calls_W (fn := Tryz.f45) rfl rfl rfl ?_
 unfold access_Covers_1 at D
 exact ye nL2 (yaa hS (cs_qN p0) 67 z fun b1 w4 S3 => ya 1 1 z (y8 nL5 (yj (rd_f (S3.rd (List.Mem.tail _ hm1))) z (yaf 1 5 (.func (.func 46) #[] #[(Pt b1 0)]) (bsk D fun r10 Xr5 D => WO.c1 (slices_ContainsFunc_qN_ok h_q1 (fun {F Ic wc} {_} hlc hSc  {rc} hrc => access_Covers_1_1_ok  (List.mem_append_right _ m0) hSc hrc) (fun _ _ => by kernel_rfl) S3 Xr5) z fun I7 w6 L8 S9 => ya 3 2 z (yb (yq (sj D ▸ yy ⟨I7, rfl, L8, S9.drop⟩))))))))
def access_Covers (p0 : List qN) (p1 : List qN) : Option Bool := (slices_ContainsFunc_qN p1 (fun (u0 : qN) => access_Covers_1 u0 p0)).bind (fun r10 => some (!r10))
theorem access_Covers_ok {p0 : List qN} {p1 : List qN} {a_p0 : Option Addr} {c_p0 : Nat} {a_p1 : Option Addr} {c_p1 : Nat} (h_p0 : RSl 2 R_qN I a_p0 c_p0 p0) (h_p1 : RSl 2 R_qN I a_p1 c_p1 p1) (hS : St E w I Os) {r : Bool} (D : access_Covers p0 p1 = some r) :
    Calls P 15 #[(Sl a_p0 p0 c_p0), (Sl a_p1 p1 c_p1)] w (RT E I Os (.bool r)) := by
 refine calls_W (fn := Tryz.f15) rfl rfl rfl ?_
 unfold access_Covers at D
 exact ye nL2 (yaa hS [(Sl a_p0 p0 c_p0)] 64 z fun b1 w4 S3 => ya 1 1 z (y8 nL5 (ya 0 1 z (yaf 1 6 (.func (.func 45) #[] #[(Pt b1 0)]) (bsk D fun r10 Xr5 D => WO.c1 (slices_ContainsFunc_qN_ok h_p1 (fun {F Ic wc} {_} hlc hSc  {rc} hrc => access_Covers_1_ok (RSl.mono h_p0 hlc) (List.mem_append_right _ m0) hSc hrc) (fun _ _ => by kernel_rfl) S3 Xr5) z fun I7 w6 L8 S9 => ya 3 2 z (yb (yq (sj D ▸ yy ⟨I7, rfl, L8, S9.drop⟩))))))))
noncomputable def law20_works  : Option Bool := (access_Merge ([(⟨(⟨#[116]⟩ : By8), 3⟩ : qN), (⟨eB, 2⟩ : qN), (⟨(⟨#[116]⟩ : By8), 2⟩ : qN)] : List qN)).bind (fun r17 => ((bif ((r17.length : Int) == 2) then (idx r17 1).bind (fun x22 => some (sEq x22.Path (⟨#[116]⟩ : By8) && (x22.Mode == 4))) else some false)).bind (fun (j18 : Bool) => ((bif j18 then (access_Covers r17 ([(⟨eB, 1⟩ : qN)] : List qN)).bind (fun r43 => some r43) else some false)).bind (fun (j25 : Bool) => some j25)))
theorem law20_works_ok (hS : St E w I Os) {r : Bool} (D : law20_works = some r) :
    Calls P 7 #[] w (RT E I Os (.bool r)) := by
 refine calls_W (fn := Tryz.f7) rfl rfl rfl ?_
 unfold law20_works at D
 refine ye [0] (ya 0 1 z (y8 nL6 (WO.vs 0 [(2, .agg (cs_qN (⟨(⟨#[116]⟩ : By8), 3⟩ : qN)).toArray), (3, .agg (cs_qN (⟨eB, 2⟩ : qN)).toArray), (4, .agg (cs_qN (⟨(⟨#[116]⟩ : By8), 2⟩ : qN)).toArray)] (yag (rel := R_qN) (xs := ([(⟨(⟨#[116]⟩ : By8), 3⟩ : qN), (⟨eB, 2⟩ : qN), (⟨(⟨#[116]⟩ : By8), 2⟩ : qN)] : List qN)) hS z kr z 67 2 [(cs_qN (⟨(⟨#[116]⟩ : By8), 3⟩ : qN)), (cs_qN (⟨eB, 2⟩ : qN)), (cs_qN (⟨(⟨#[116]⟩ : By8), 2⟩ : qN))] kr z ((Elr.cons z (Elr.cons z (Elr.cons z Elr.nil)))) tv ?_))))
 intro a4 C2 w6 S5 ho3
 obtain ⟨I8, L9, S11, hp10⟩ := yah ho3 S5
 refine bsk D fun r17 Xr12 D => yaj (access_Merge_ok hp10 S11 Xr12) ?_
 rintro _ w13 ⟨I14, a_r17, c_r17, rfl, L15, S16, h_r17⟩
 refine cv (ya 5 1 z (y8 nL17 (ya 0 4 z (bsk D fun j18 R1 D => yao (l1 := [4, 5, 6, 7, 8, 9]) (J := JI E I14 [(1, Sl a_r17 r17 c_r17), (16, .bool j18)] Os) ?_ ?_))))
 refine yan R1 (fun G R1 => ?_) (fun G R1 => ?_)
 refine y7 10 G (ya 4 1 z ?_)
 obtain ⟨x22, R1, Hx22, _, rfl, Zx22⟩ := sl_ix (h_r17) R1
 refine yac 67 2 Hx22 z (yat ((cs_qN x22)) Zx22 0 S16.rm z (yaf 7 14 (.agg (cs_qN (⟨(⟨#[116]⟩ : By8), 4⟩ : qN)).toArray) (ybv z kr z z kr 50 z (b := (sEq x22.Path (⟨#[116]⟩ : By8) && ((x22.Mode == 4) && true))) kr (sEq x22.Path (⟨#[116]⟩ : By8) && (x22.Mode == 4)) (.inl ⟨rfl, by simp only [Bool.and_true]⟩) ?_)))
 exact ya 9 1 z (sj R1 ▸ y6 ⟨I14, rfl, lr, S16⟩)
 refine y7 10 G ?_
 iterate 5 refine yam ?_
 exact ya 9 1 z (sj R1 ▸ y6 ⟨I14, rfl, lr, S16⟩)
 rintro _ w23 ⟨I20, rfl, L21, S24⟩
 refine ya 10 1 z (bsk D fun j25 R1 D => yao (l1 := [11, 12, 13, 14, 15]) (J := JI E I20 [(22, .bool j25)] Os) ?_ ?_)
 refine yan R1 (fun G R1 => ?_) (fun G R1 => ?_)
 refine y7 17 G (ya 11 1 z (yaf 12 19 (.agg (cs_qN (⟨eB, 1⟩ : qN)).toArray) (yag (rel := R_qN) (xs := ([(⟨eB, 1⟩ : qN)] : List qN)) S24 z kr z 67 2 [(cs_qN (⟨eB, 1⟩ : qN))] kr z ((Elr.cons z Elr.nil)) tv ?_)))
 intro a32 C30 w34 S33 ho31
 have hp37 := (ho31).publish S33
 refine bsk R1 fun r43 Xr38 R1 => yaj (access_Covers_ok (RSl.mono h_r17 (L21.trans (ybf I20 C30))) hp37 S33.publish Xr38) ?_
 rintro _ w39 ⟨I40, rfl, L41, S42⟩
 have S44 := St.back S33 L41 S42
 exact cv (ya 15 1 z (sj R1 ▸ y6 ⟨I20, rfl, lr, S44.drop⟩))
 refine y7 17 G ?_
 iterate 4 refine yam ?_
 exact ya 15 1 z (sj R1 ▸ y6 ⟨I20, rfl, lr, S24⟩)
 rintro _ w46 ⟨I27, rfl, L28, S47⟩
 exact ya 16 1 z (yb (yq (sj D ▸ yy ⟨I27, rfl, le, S47⟩)))
def r17_New  : Option qC := some { z_qC with Roles := ([{ z_qJ with Name := (⟨#[114, 111, 111, 116]⟩ : By8) }] : List qJ) }
theorem r17_New_ok (hS : St E w I Os) {r : qC} (D : r17_New = some r) :
    Calls P 47 #[] w (fun e w' => ∃ I' w_rw0, e = .returned (vC r w_rw0) ∧ I.Le I' ∧ St E w' I' Os ∧ ok_qC I' r w_rw0) := by
 refine calls_W (fn := Tryz.f47) rfl rfl rfl ?_
 unfold r17_New at D
 refine ye [0] (yaa hS (cs_qC z_qC zw_qC) 44 z fun b1 w4 S3 => y8 nL4 (yaf 0 1 (.agg (cs_qJ ({ z_qJ with Name := (⟨#[114, 111, 111, 116]⟩ : By8) }) zw_qJ).toArray) ?_))
 have hk12 : ok_qJ I ({ z_qJ with Name := (⟨#[114, 111, 111, 116]⟩ : By8) }) zw_qJ := ⟨SlAt.nil⟩
 refine yag (rel := R_qJ) (xs := ([{ z_qJ with Name := (⟨#[114, 111, 111, 116]⟩ : By8) }] : List qJ)) S3 z kr z 73 2 [(cs_qJ ({ z_qJ with Name := (⟨#[114, 111, 111, 116]⟩ : By8) }) zw_qJ)] kr z ((Elr.cons ⟨zw_qJ, rfl, hk12⟩ Elr.nil)) tv ?_
 intro a8 C6 w10 S9 ho7
 obtain ⟨I13, L14, S16, hp15⟩ := yah ho7 S9
 refine yaf 2 3 (.agg #[(Iv 0), (.slice none 0 0), (.slice a8 1 1), (.slice none 0 0)]) (yad S16 0 [(Iv 0), (.slice none 0 0), (.slice a8 1 1), (.slice none 0 0)] fun w18 S17 => yb (yq ?_))
 have hk20 : ok_qC I13 ({ z_qC with Roles := ([{ z_qJ with Name := (⟨#[114, 111, 111, 116]⟩ : By8) }] : List qJ) }) ({ zw_qC with Roles := ⟨a8, 1⟩ }) := ⟨SlAt.nil, hp15, SlAt.nil⟩
 exact sj D ▸ En.c1 _ (S17.rd m0) ⟨I13, ({ zw_qC with Roles := ⟨a8, 1⟩ }), rfl, L14, S17.drop, hk20⟩
def r18_At (p0 : List qJ) (p1 : By8) : Option Int := (forN (fun (i4 : Nat) (_s : Unit) => (idx p0 (i4 : Int)).bind (fun x11 => (bif (sEq x11.Name p1) then some (.inr (i4 : Int)) else some (.inl ())))) p0.length 0 ()).bind (fun (t : Unit ⊕ (Int)) => match t with | .inl _ => some (-1) | .inr s13 => some s13)
theorem r18_At_ok {p0 : List qJ} {p1 : By8} {a_p0 : Option Addr} {c_p0 : Nat} (h_p0 : RSl 2 R_qJ I a_p0 c_p0 p0) (hS : St E w I Os) {r : Int} (D : r18_At p0 p1 = some r) :
    Calls P 23 #[(Sl a_p0 p0 c_p0), (.string p1)] w (RT E I Os (Iv r)) := by
 refine calls_W (fn := Tryz.f23) rfl rfl rfl ?_
 unfold r18_At at D
 refine ye [0] (ya 0 1 z (yb (yi (ye [0] (ya 0 1 z (yb (yo (bsk D fun t1 hloop5 D => have hlt9 := (h_p0).len_lt; W.wk (yau (m := p0.length) hloop5 (fun (i4 : Nat) (_s : Unit) => JI E I [(0, Sl a_p0 p0 c_p0), (1, .string p1), (5, Nv i4)] Os) ⟨I, rfl, lr, hS⟩ ?_ ?_)))))))))
 rintro i4 _ _ w6 hi10 ⟨I2, rfl, L3, S7⟩ x8 R1 hext1
 refine yi (ye nL4 (ya 0 4 z (yb (yax fun _ => yl (yc (yi (yo (ye nL7 (ya 0 2 z ?_)))))))))
 obtain ⟨x11, R1, Hx11, _, ⟨w_x11, rfl, h_x11⟩, Zx11⟩ := sx I2 h_p0 R1
 refine yac 73 2 Hx11 z (yh 3 1 [0] z (yar Zx11 S7.rm z (ya 5 2 z (yb (y3 R1 (fun G R1 => ?_) (fun G R1 => ?_))))))
 refine ye nL2 (ya 0 2 z (yb (yq (yn (yf (yv ?_))))))
 obtain rfl := hext1 _ (sj R1).symm
 exact yn (yf (sj D ▸ yy ⟨I2, rfl, L3, S7⟩))
 exact yl (ym (yc (yai nL3 (ya 0 1 z (yap i4 z (ya 2 1 z (yr (yx ⟨(), (sj R1).symm, I2, rfl, L3, S7⟩))))))))
 rintro _ _ w14 ⟨I2, rfl, L3, S15⟩ he
 cases he
 exact yi (ye nL4 (ya 0 4 z (yb (yay fun _ => yab (yp (yt (yu (yc (ye [0] (ya 0 1 z (yb (yq (sj D ▸ yy ⟨I2, rfl, L3, S15⟩)))))))))))))
noncomputable def r18_Reach (p0 : List qJ) (p1 : By8) : Option (List Bool) := (mk 1 (p0.length : Int)).bind (fun n1 => (r18_At p0 p1).bind (fun r13 => ((bif (decide (r13 ≥ 0)) then (idx (List.replicate n1 false) r13).bind (fun x18 => some ((List.replicate n1 false).set (r13).toNat true)) else some (List.replicate n1 false))).bind (fun (j14 : List Bool) => (forE (fun (i29 : Nat) (s28 : List Bool) => (forE (fun (i40 : Nat) (s39 : List Bool) => (loopO (fun (s : Int × (List Bool)) => match s with | (s50, s51) => (idx s51 (i40 : Int)).bind (fun x56 => ((bif x56 then (idx p0 (i40 : Int)).bind (fun x61 => some (decide (s50 < (x61.In.length : Int)))) else some false)).bind (fun (j57 : Bool) => (bif j57 then (idx p0 (i40 : Int)).bind (fun x64 => (idx x64.In s50).bind (fun x65 => (r18_At p0 x65).bind (fun r71 => ((bif (decide (r71 ≥ 0)) then (idx s51 r71).bind (fun x76 => some (s51.set (r71).toNat true)) else some s51)).bind (fun (j72 : List Bool) => some (.inl ((w64 (s50 + 1)), j72)))))) else some (.inr s51))))) (0, s39)).bind (fun (s84 : List Bool) => some s84)) p0.length 0 s28).bind (fun s39 => some s39)) p0.length 0 j14).bind (fun s28 => some s28))))
theorem r18_Reach_ok {p0 : List qJ} {p1 : By8} {a_p0 : Option Addr} {c_p0 : Nat} (h_p0 : RSl 2 R_qJ I a_p0 c_p0 p0) (hS : St E w I Os) {r : (List Bool)} (D : r18_Reach p0 p1 = some r) :
    Calls P 120 #[(Sl a_p0 p0 c_p0), (.string p1)] w (fun e w' => ∃ (I' : Mem) (ra0 : Option Addr) (rc0 : Nat), e = .returned (Sl ra0 r rc0) ∧ I.Le I' ∧ St E w' I' Os ∧ RSl 1 RBool I' ra0 rc0 r) := by
 refine calls_W (fn := Tryz.f120) rfl rfl rfl ?_
 unfold r18_Reach at D
 refine ye [0] (yaf 0 4 (.slice none 0 0) (y8 nL4 (ya 0 2 z ?_)))
 obtain ⟨n1, Xn1, D⟩ := bsm D
 obtain ⟨h0_n1, he_n1⟩ := mk_some Xn1
 refine WO.make (rel := RBool) hS z kr z kr (T := 4) (sz := 1) (b := 1) (zs := #[(.bool false)]) kr z z n1 (congrArg (Value.int .i64) he_n1) (congrArg (Value.int .i64) he_n1) h0_n1 z (z0 := false) z tv ?_
 intro a2 w6 C3 S5 ho4
 refine yz 13 z (show Value.slice a2 n1 n1 = Value.slice a2 (List.replicate n1 false).length n1 by simp only [List.length_replicate]) ?_
 refine ya 3 1 z (y8 nL4 (ya 0 2 z (bsk D fun r13 Xr8 D => WO.c1 (r18_At_ok h_p0 S5 Xr8) z fun I10 w9 L11 S12 => ya 3 1 z (yb (yi (ye nL2 (ya 0 2 z (yb (bsk D fun j14 R1 D => ya0 (J := (fun fr w => ∃ I16 C_j14, fr = [(0, Sl a_p0 p0 c_p0), (5, Sl a2 j14 n1)] ∧ I10.Le I16 ∧ St E w I16 ((C_j14) :: Os) ∧ OwnSl 4 1 RBool I16 C_j14 a2 n1 j14)) ?_ ?_)))))))))
 refine y3 R1 (fun G R1 => ?_) (fun G R1 => ?_)
 refine yai nL4 (ya 0 2 z ?_)
 obtain ⟨x18, R1, h0_x18, h1_x18, Xx18, ha_x18, _, _, rfl, Zx18⟩ := sl_at ((ho4.mono L11).sl) R1
 refine ya5 4 1 ha_x18 h0_x18 h1_x18 ?_
 refine yaw S12 (OwnSl.mono ho4 L11) z kr z Xx18 (u' := true) 0 z z kr z z (fun cs hrel => (by obtain rfl := hrel; exact z)) tv ?_
 intro w20 C21 S19 ho22
 refine yz 5 z (show Value.slice a2 (List.replicate n1 false).length n1 = Value.slice a2 ((List.replicate n1 false).set (r13).toNat true).length n1 by simp only [List.length_set]) ?_
 exact yr (sj R1 ▸ yx ⟨I10, C21, rfl, lr, S19, ho22⟩)
 exact yl (sj R1 ▸ yx ⟨I10, C3, rfl, lr, S12, (OwnSl.mono ho4 L11)⟩)
 rintro _ w23 ⟨I16, C_j14, rfl, L17, S24, h_j14⟩
 refine yc (yi (ye [0] (ya 0 1 z (yb (yo (bsk D fun s28 hloop30 D => have hlt34 := ((RSl.mono h_p0 (L11.trans L17))).len_lt; W.wk (ya1 (m := p0.length) hloop30 (fun (i29 : Nat) (s28 : List Bool) fr w => ∃ I26 C_s28, fr = [(0, Sl a_p0 p0 c_p0), (5, Sl a2 s28 n1), (7, Nv i29)] ∧ I16.Le I26 ∧ St E w I26 ((C_s28) :: Os) ∧ OwnSl 4 1 RBool I26 C_s28 a2 n1 s28) ⟨I16, C_j14, rfl, lr, S24, h_j14⟩ ?_ ?_)))))))
 rintro i29 s28 _ w31 hi35 ⟨I26, C_s28, rfl, L27, S32, h_s28⟩ x33 R1
 refine yi (ye nL4 (ya 0 4 z (yb (yax fun _ => yl (yc (yi (yo (ye [0] (ya 0 1 z (yb (yo (bsk R1 fun s39 hloop41 R1 => have hlt45 := ((RSl.mono h_p0 ((L11.trans L17).trans L27))).len_lt; W.wk (ya1 (m := p0.length) hloop41 (fun (i40 : Nat) (s39 : List Bool) fr w => ∃ I37 C_s39, fr = [(0, Sl a_p0 p0 c_p0), (5, Sl a2 s39 n1), (7, Nv i29), (8, Nv i40)] ∧ I26.Le I37 ∧ St E w I37 ((C_s39) :: Os) ∧ OwnSl 4 1 RBool I37 C_s39 a2 n1 s39) ⟨I26, C_s28, rfl, lr, S32, h_s28⟩ ?_ ?_)))))))))))))
 rintro i40 s39 _ w42 hi46 ⟨I37, C_s39, rfl, L38, S43, h_s39⟩ x44 R2
 refine yi (ye nL4 (ya 0 4 z (yb (yax fun _ => yl (yc (yi (yo (ye [0] (ya 0 1 z (yb (yo (bsk R2 fun t47 hloop52 R2 => W.wk (ya4 hloop52 (fun (s : Int × (List Bool)) fr w => match s with | (s50, s51) => ∃ I48 C_s51, fr = [(0, Sl a_p0 p0 c_p0), (5, Sl a2 s51 n1), (7, Nv i29), (8, Nv i40), (9, Iv s50)] ∧ I37.Le I48 ∧ St E w I48 ((C_s51) :: Os) ∧ OwnSl 4 1 RBool I48 C_s51 a2 n1 s51) ⟨I37, C_s39, rfl, lr, S43, h_s39⟩ ?_)))))))))))))
 rintro ⟨s50, s51⟩ _ w53 ⟨I48, C_s51, rfl, L49, S54, h_s51⟩ x55 R3 hext47
 refine yi (ye nL14 (ya 0 2 z ?_))
 obtain ⟨x56, R3, Hx56, _, rfl, Zx56⟩ := sl_ix (h_s51.sl) R3
 refine yac 4 1 Hx56 z (yar Zx56 (S54.rf m0) z (ya 4 1 z (bsk R3 fun j57 R4 R3 => yao (l1 := [5, 6, 7, 8, 9, 10, 11, 12, 13]) (J := JI E I48 [(0, Sl a_p0 p0 c_p0), (5, Sl a2 s51 n1), (7, Nv i29), (8, Nv i40), (9, Iv s50), (47, .bool j57)] ((C_s51) :: Os)) ?_ ?_)))
 refine yan R4 (fun G R4 => ?_) (fun G R4 => ?_)
 refine y7 38 G (ya 5 3 z ?_)
 obtain ⟨x61, R4, Hx61, _, ⟨w_x61, rfl, h_x61⟩, Zx61⟩ := sx I48 h_p0 R4
 exact yac 73 2 Hx61 z (yh 9 1 [1] z (ya6 Zx61 1 S54.rm z (ya 11 3 z (sj R4 ▸ y6 ⟨I48, rfl, lr, S54⟩))))
 refine y7 38 G ?_
 iterate 8 refine yam ?_
 exact ya 13 1 z (sj R4 ▸ y6 ⟨I48, rfl, lr, S54⟩)
 rintro _ w62 ⟨I59, rfl, L60, S63⟩
 refine yb (y3 R3 (fun G R3 => ?_) (fun G R3 => ?_))
 refine yl (yc (yi (yo (ye nL11 (ya 0 3 z ?_)))))
 obtain ⟨x64, R3, Hx64, _, ⟨w_x64, rfl, h_x64⟩, Zx64⟩ := sx I59 h_p0 R3
 refine yac 73 2 Hx64 z (yh 4 1 [1] z (ya6 Zx64 1 S63.rm z (ya 6 1 z ?_)))
 obtain ⟨x65, R3, Hx65, _, rfl, Zx65⟩ := sl_ix (h_x64.In) R3
 refine yac 9 1 Hx65 z (yar Zx65 S63.rm z (bsk R3 fun r71 Xr66 R3 => WO.c1 (r18_At_ok (up h_p0) S63 Xr66) z fun I68 w67 L69 S70 => ya 10 1 z (y8 nL2 (ya 0 2 z (yb (bsk R3 fun j72 R4 R3 => ya0 (J := (fun fr w => ∃ I74 C_j72, fr = [(0, Sl a_p0 p0 c_p0), (5, Sl a2 j72 n1), (7, Nv i29), (8, Nv i40), (9, Iv s50)] ∧ I68.Le I74 ∧ St E w I74 ((C_j72) :: Os) ∧ OwnSl 4 1 RBool I74 C_j72 a2 n1 j72)) ?_ ?_))))))
 refine y3 R4 (fun G R4 => ?_) (fun G R4 => ?_)
 refine yai nL4 (ya 0 2 z ?_)
 obtain ⟨x76, R4, h0_x76, h1_x76, Xx76, ha_x76, _, _, rfl, Zx76⟩ := sl_at ((h_s51.mono (L60.trans L69)).sl) R4
 refine ya5 4 1 ha_x76 h0_x76 h1_x76 ?_
 refine yaw S70 (OwnSl.mono h_s51 le) z kr z Xx76 (u' := true) 0 z z kr z z (fun cs hrel => (by obtain rfl := hrel; exact z)) tv ?_
 intro w78 C79 S77 ho80
 refine yz 5 z (show Value.slice a2 s51.length n1 = Value.slice a2 (s51.set (r71).toNat true).length n1 by simp only [List.length_set]) ?_
 exact yr (sj R4 ▸ yx ⟨I68, C79, rfl, lr, S77, ho80⟩)
 exact yl (sj R4 ▸ yx ⟨I68, C_s51, rfl, lr, S70, (OwnSl.mono h_s51 le)⟩)
 rintro _ w81 ⟨I74, C_j72, rfl, L75, S82, h_j72⟩
 exact ym (yc (yai nL3 (ya 0 3 z (yr (yx ⟨((w64 (s50 + 1)), j72), (sj R3).symm, I74, C_j72, rfl, le, S82, h_j72⟩)))))
 refine yab (yp (yt ?_))
 obtain rfl := hext47 _ (sj R3).symm
 exact yu (ym (yc (yai nL3 (ya 0 1 z (yap i40 z (ya 2 1 z (yr (sj R2 ▸ yx ⟨I59, C_s51, rfl, le, S63, (OwnSl.mono h_s51 L60)⟩))))))))
 rintro _ w85 ⟨I37, C_s39, rfl, L38, S86, h_s39⟩
 exact yi (ye nL4 (ya 0 4 z (yb (yay fun _ => yab (yp (yt (yu (ym (yc (yai nL3 (ya 0 1 z (yap i29 z (ya 2 1 z (yr (sj R1 ▸ yx ⟨I37, C_s39, rfl, le, S86, h_s39⟩)))))))))))))))
 rintro _ w87 ⟨I26, C_s28, rfl, L27, S88, h_s28⟩
 refine yi (ye nL4 (ya 0 4 z (yb (yay fun _ => yab (yp (yt (yu (yc (ye nL2 (ya 0 1 z ?_))))))))))
 obtain ⟨I89, L90, S92, hp91⟩ := yah h_s28 S88
 exact ya 1 1 z (yb (yq (sj D ▸ yy ⟨I89, a2, n1, rfl, le, S92, hp91⟩)))
noncomputable def r18_into (p0 : List By8) (p1 : By8) : Option (List By8) := (loopO (fun (s4 : Int) => ((bif (decide (s4 < (p0.length : Int))) then (idx p0 s4).bind (fun x13 => some (sLt x13 p1)) else some false)).bind (fun (j9 : Bool) => (bif j9 then some (.inl (w64 (s4 + 1))) else some (.inr s4)))) 0).bind (fun (s17 : Int) => (sub p0 0 s17).bind (fun x18 => (app 16 ([] : List By8) x18).bind (fun x21 => (app 16 x21 ([p1] : List By8)).bind (fun x36 => (sub p0 s17 (p0.length : Int)).bind (fun x45 => (app 16 x36 x45).bind (fun x46 => some x46))))))
theorem r18_into_ok {p0 : List By8} {p1 : By8} {a_p0 : Option Addr} {c_p0 : Nat} (h_p0 : RSl 1 RStr I a_p0 c_p0 p0) (hS : St E w I Os) {r : (List By8)} (D : r18_into p0 p1 = some r) :
    Calls P 121 #[(Sl a_p0 p0 c_p0), (.string p1)] w (fun e w' => ∃ (I' : Mem) (ra0 : Option Addr) (rc0 : Nat), e = .returned (Sl ra0 r rc0) ∧ I.Le I' ∧ St E w' I' Os ∧ RSl 1 RStr I' ra0 rc0 r) := by
 refine calls_W (fn := Tryz.f121) rfl rfl rfl ?_
 unfold r18_into at D
 refine ye [0] (yaf 0 4 (.slice none 0 0) (y8 [0] (ya 0 1 z (yb (yi (yo (bsk D fun t1 hloop5 D => W.wk (ya4 hloop5 (fun (s4 : Int) => JI E I [(0, Sl a_p0 p0 c_p0), (1, .string p1), (5, Iv s4)] Os) ⟨I, rfl, lr, hS⟩ ?_))))))))
 rintro s4 _ w6 ⟨I2, rfl, L3, S7⟩ x8 R1 hext1
 refine yi (ye nL12 (ya 0 5 z (bsk R1 fun j9 R2 R1 => yao (l1 := [5, 6, 7, 8, 9, 10, 11]) (J := JI E I2 [(0, Sl a_p0 p0 c_p0), (1, .string p1), (5, Iv s4), (18, .bool j9)] Os) ?_ ?_)))
 refine yan R2 (fun G R2 => ?_) (fun G R2 => ?_)
 refine y7 11 G (ya 5 2 z ?_)
 obtain ⟨x13, R2, Hx13, _, rfl, Zx13⟩ := sx I2 h_p0 R2
 exact yac 9 1 Hx13 z (yar Zx13 S7.rm z (ya 9 1 z (yaf 10 17 (.bool (sLt x13 p1)) (ya 11 1 z (sj R2 ▸ y6 ⟨I2, rfl, lr, S7⟩)))))
 refine y7 11 G ?_
 iterate 6 refine yam ?_
 exact ya 11 1 z (sj R2 ▸ y6 ⟨I2, rfl, lr, S7⟩)
 rintro _ w14 ⟨I11, rfl, L12, S15⟩
 refine yb (y3 R1 (fun G R1 => ?_) (fun G R1 => ?_))
 exact yl (yc (yo (yai nL3 (ya 0 3 z (yr (ym (yx ⟨(w64 (s4 + 1)), (sj R1).symm, I11, rfl, le, S15⟩)))))))
 refine yab (yp (yt ?_))
 obtain rfl := hext1 _ (sj R1).symm
 refine yu (yc (ye [0] (yaf 0 6 (.slice none 0 0) (y8 nL6 (ya 0 3 z ?_)))))
 obtain ⟨x57, Xx57, D⟩ := bsm D
 obtain ⟨h0_x57, h1_x57, h2_x57, he_x57⟩ := sub_some Xx57
 have hl_x57 : (s4 : Int) ≤ (c_p0 : Int) := Int.le_trans h2_x57 (Int.ofNat_le.2 ((RSl.mono h_p0 (L3.trans L12))).le)
 refine ybe (e := 9) (sz := 1) z kr kr kr z (0 : Int) (s4 : Int) h0_x57 (.inl ⟨rfl, rfl⟩) (.inr ⟨_, _, rfl, rfl⟩) h1_x57 hl_x57 ?_
 obtain ⟨a_x57, c_x57, h_x57, ev_x57⟩ := sub_ok ((RSl.mono h_p0 (L3.trans L12))) h0_x57 h1_x57 h2_x57 he_x57
 refine yz 24 z ev_x57 ?_
 have S59 := S15.no
 refine apk D fun x60 h0_x60 he_x60 D => ybd (e' := 9) (b := 16) (zs := #[(.string eB)]) S59 (OwnSl.nil (T := 9) (rel := RStr) (I := I11)) z kr z kr kr kr z z z z h_x57 S59.im h0_x60 he_x60 tv ?_
 intro a61 c62 w63 C64 S65 ho66
 refine ya 5 1 z (y8 nL5 (ya 0 2 z (yag (rel := RStr) (xs := ([p1] : List By8)) S65 z kr z 9 1 [[(.string p1)]] kr z ((Elr.cons z Elr.nil)) tv ?_)))
 intro a70 C68 w72 S71 ho69
 have S74 := S71.front1
 refine apk D fun x75 h0_x75 he_x75 D => ya2 9 16 [(.string eB)] S74 ho66 ho69.sl (S74.rd m1) h0_x75 he_x75 z fun a76 c77 w78 C79 S80 ho81 => have S83 := S80.front1.drop; ya 4 1 z (y8 nL6 (ya 0 3 z ?_))
 obtain ⟨x84, Xx84, D⟩ := bsm D
 obtain ⟨h0_x84, h1_x84, h2_x84, he_x84⟩ := sub_some Xx84
 have hl_x84 : ((p0.length : Int) : Int) ≤ (c_p0 : Int) := Int.le_trans h2_x84 (Int.ofNat_le.2 ((RSl.mono h_p0 (L3.trans L12))).le)
 refine ybe (e := 9) (sz := 1) z kr kr kr z (s4 : Int) ((p0.length : Int) : Int) h0_x84 (.inr ⟨_, _, rfl, rfl⟩) (.inl ⟨rfl, rfl⟩) h1_x84 hl_x84 ?_
 obtain ⟨a_x84, c_x84, h_x84, ev_x84⟩ := sub_ok ((RSl.mono h_p0 (L3.trans L12))) h0_x84 h1_x84 h2_x84 he_x84
 refine yz 33 z ev_x84 ?_
 refine apk D fun x85 h0_x85 he_x85 D => ya2 9 16 [(.string eB)] S83 ho81 h_x84 S83.im h0_x85 he_x85 z ?_
 intro a86 c87 w88 C89 S90 ho91
 obtain ⟨I92, L93, S95, hp94⟩ := yah ho91 S90
 exact ya 5 1 z (yb (yq (sj D ▸ yy ⟨I92, a86, c87, rfl, le, S95, hp94⟩)))
noncomputable def r18_All (p0 : List qJ) (p1 : By8) : Option (List By8) := (r18_Reach p0 p1).bind (fun r6 => (forE (fun (i11 : Nat) (s10 : List By8) => (idx r6 (i11 : Int)).bind (fun x18 => ((bif x18 then (idx p0 (i11 : Int)).bind (fun x23 => (r18_into s10 x23.Name).bind (fun r29 => some r29)) else some s10)).bind (fun (j19 : List By8) => some j19))) p0.length 0 ([] : List By8)).bind (fun s10 => some s10))
theorem r18_All_ok {p0 : List qJ} {p1 : By8} {a_p0 : Option Addr} {c_p0 : Nat} (h_p0 : RSl 2 R_qJ I a_p0 c_p0 p0) (hS : St E w I Os) {r : (List By8)} (D : r18_All p0 p1 = some r) :
    Calls P 90 #[(Sl a_p0 p0 c_p0), (.string p1)] w (fun e w' => ∃ (I' : Mem) (ra0 : Option Addr) (rc0 : Nat), e = .returned (Sl ra0 r rc0) ∧ I.Le I' ∧ St E w' I' Os ∧ RSl 1 RStr I' ra0 rc0 r) := by
 refine calls_W (fn := Tryz.f90) rfl rfl rfl ?_
 unfold r18_All at D
 refine ye [0] (yaf 0 4 (.slice none 0 0) (y8 nL4 (ya 0 2 z (bsk D fun r6 Xr1 D => yaj (r18_Reach_ok h_p0 hS Xr1) ?_))))
 rintro _ w2 ⟨I3, a_r6, c_r6, rfl, L4, S5, h_r6⟩
 refine cv (ya 3 1 z (y8 [0] (yaf 0 6 (.slice none 0 0) (yb (yi (ye [0] (ya 0 1 z (yb (yo (bsk D fun s10 hloop12 D => have hlt16 := ((RSl.mono h_p0 L4)).len_lt; W.wk (ya1 (m := p0.length) hloop12 (fun (i11 : Nat) (s10 : List By8) fr w => ∃ I8 a_s10 c_s10, fr = [(0, Sl a_p0 p0 c_p0), (5, Sl a_r6 r6 c_r6), (6, Sl a_s10 s10 c_s10), (7, Nv i11)] ∧ I3.Le I8 ∧ St E w I8 Os ∧ RSl 1 RStr I8 a_s10 c_s10 s10) ⟨I3, none, 0, rfl, lr, S5, SlAt.nil⟩ ?_ ?_)))))))))))
 rintro i11 s10 _ w13 hi17 ⟨I8, a_s10, c_s10, rfl, L9, S14, h_s10⟩ x15 R1
 refine yi (ye nL4 (ya 0 4 z (yb (yax fun _ => yl (yc (yi (yo (ye nL4 (ya 0 2 z ?_)))))))))
 obtain ⟨x18, R1, Hx18, _, rfl, Zx18⟩ := sx I8 h_r6 R1
 refine yac 4 1 Hx18 z (yar Zx18 S14.rm z (yb (bsk R1 fun j19 R2 R1 => ya0 (J := (fun fr w => ∃ I21 a_j19 c_j19, fr = [(0, Sl a_p0 p0 c_p0), (5, Sl a_r6 r6 c_r6), (6, Sl a_j19 j19 c_j19), (7, Nv i11)] ∧ I8.Le I21 ∧ St E w I21 Os ∧ RSl 1 RStr I21 a_j19 c_j19 j19)) ?_ ?_)))
 refine y3 R2 (fun G R2 => ?_) (fun G R2 => ?_)
 refine yai nL8 (ya 0 3 z ?_)
 obtain ⟨x23, R2, Hx23, _, ⟨w_x23, rfl, h_x23⟩, Zx23⟩ := sx I8 h_p0 R2
 refine yac 73 2 Hx23 z (yh 4 1 [0] z (yar Zx23 S14.rm z (bsk R2 fun r29 Xr24 R2 => yaj (r18_into_ok h_s10 S14 Xr24) ?_)))
 rintro _ w25 ⟨I26, a_r29, c_r29, rfl, L27, S28, h_r29⟩
 exact cv (ya 7 1 z (yr (sj R2 ▸ yx ⟨I26, a_r29, c_r29, rfl, L27, S28, h_r29⟩)))
 exact yl (sj R2 ▸ yx ⟨I8, a_s10, c_s10, rfl, lr, S14, h_s10⟩)
 rintro _ w30 ⟨I21, a_j19, c_j19, rfl, L22, S31, h_j19⟩
 exact ym (yc (yai nL3 (ya 0 1 z (yap i11 z (ya 2 1 z (yr (sj R1 ▸ yx ⟨I21, a_j19, c_j19, rfl, le, S31, h_j19⟩)))))))
 rintro _ w32 ⟨I8, a_s10, c_s10, rfl, L9, S33, h_s10⟩
 exact yi (ye nL4 (ya 0 4 z (yb (yay fun _ => yab (yp (yt (yu (yc (ye nL2 (ya 0 2 z (yb (yq (sj D ▸ yy ⟨I8, a_s10, c_s10, rfl, le, S33, h_s10⟩)))))))))))))
def r14_Has (p0 : List By8) (p1 : By8) : Option Bool := (forN (fun (i4 : Nat) (_s : Unit) => (idx p0 (i4 : Int)).bind (fun x11 => (bif (sEq x11 p1) then some (.inr true) else some (.inl ())))) p0.length 0 ()).bind (fun (t : Unit ⊕ (Bool)) => match t with | .inl _ => some false | .inr s13 => some s13)
theorem r14_Has_ok {p0 : List By8} {p1 : By8} {a_p0 : Option Addr} {c_p0 : Nat} (h_p0 : RSl 1 RStr I a_p0 c_p0 p0) (hS : St E w I Os) {r : Bool} (D : r14_Has p0 p1 = some r) :
    Calls P 89 #[(Sl a_p0 p0 c_p0), (.string p1)] w (RT E I Os (.bool r)) := by
 refine calls_W (fn := Tryz.f89) rfl rfl rfl ?_
 unfold r14_Has at D
 refine ye [0] (ya 0 1 z (yb (yi (ye [0] (ya 0 1 z (yb (yo (bsk D fun t1 hloop5 D => have hlt9 := (h_p0).len_lt; W.wk (yau (m := p0.length) hloop5 (fun (i4 : Nat) (_s : Unit) => JI E I [(0, Sl a_p0 p0 c_p0), (1, .string p1), (5, Nv i4)] Os) ⟨I, rfl, lr, hS⟩ ?_ ?_)))))))))
 rintro i4 _ _ w6 hi10 ⟨I2, rfl, L3, S7⟩ x8 R1 hext1
 refine yi (ye nL4 (ya 0 4 z (yb (yax fun _ => yl (yc (yi (yo (ye nL6 (ya 0 2 z ?_)))))))))
 obtain ⟨x11, R1, Hx11, _, rfl, Zx11⟩ := sx I2 h_p0 R1
 refine yac 9 1 Hx11 z (yar Zx11 S7.rm z (ya 4 2 z (yb (y3 R1 (fun G R1 => ?_) (fun G R1 => ?_)))))
 refine ye [0] (ya 0 1 z (yb (yq (yn (yf (yv ?_))))))
 obtain rfl := hext1 _ (sj R1).symm
 exact yn (yf (sj D ▸ yy ⟨I2, rfl, L3, S7⟩))
 exact yl (ym (yc (yai nL3 (ya 0 1 z (yap i4 z (ya 2 1 z (yr (yx ⟨(), (sj R1).symm, I2, rfl, L3, S7⟩))))))))
 rintro _ _ w14 ⟨I2, rfl, L3, S15⟩ he
 cases he
 exact yi (ye nL4 (ya 0 4 z (yb (yay fun _ => yab (yp (yt (yu (yc (ye [0] (ya 0 1 z (yb (yq (sj D ▸ yy ⟨I2, rfl, L3, S15⟩)))))))))))))
noncomputable def r18_Is (p0 : List qJ) (p1 : By8) (p2 : By8) : Option Bool := (r18_All p0 p1).bind (fun r6 => (r14_Has r6 p2).bind (fun r12 => some r12))
theorem r18_Is_ok {p0 : List qJ} {p1 : By8} {p2 : By8} {a_p0 : Option Addr} {c_p0 : Nat} (h_p0 : RSl 2 R_qJ I a_p0 c_p0 p0) (hS : St E w I Os) {r : Bool} (D : r18_Is p0 p1 p2 = some r) :
    Calls P 58 #[(Sl a_p0 p0 c_p0), (.string p1), (.string p2)] w (RT E I Os (.bool r)) := by
 refine calls_W (fn := Tryz.f58) rfl rfl rfl ?_
 unfold r18_Is at D
 refine ye [0] (ya 0 1 z (y8 nL6 (ya 0 2 z (bsk D fun r6 Xr1 D => yaj (r18_All_ok h_p0 hS Xr1) ?_))))
 rintro _ w2 ⟨I3, a_r6, c_r6, rfl, L4, S5, h_r6⟩
 exact cv (ya 3 1 z (bsk D fun r12 Xr7 D => WO.c1 (r14_Has_ok h_r6 S5 Xr7) z fun I9 w8 L10 S11 => ya 5 1 z (yb (yq (sj D ▸ yy ⟨I9, rfl, le, S11⟩)))))
noncomputable def r09_all (p0 : By8) (p1 : Int) (p2 : By8) : Option Bool := (loopO (fun (s4 : Int) => (bif (decide (s4 < (p0.size : Int))) then (loopO (fun (s : Bool × Int) => match s with | (s12, s13) => (bif (decide (s13 < (p2.size : Int))) then ((bif s12 then some true else (sAt p2 s13).bind (fun y24 => (sAt p0 s4).bind (fun y25 => some (y24 == y25))))).bind (fun (j20 : Bool) => some (.inl (j20, (w64 (s13 + 1))))) else some (.inr s12))) (false, 0)).bind (fun (s29 : Bool) => (bif (!s29) then some (.inr (.inl false)) else some (.inl (w64 (s4 + 1))))) else some (.inr (.inr ())))) p1).bind (fun (t : Bool ⊕ Unit) => match t with | (.inl s31) => some s31 | (.inr ()) => some true)
theorem r09_all_ok {p0 : By8} {p1 : Int} {p2 : By8} (hS : St E w I Os) {r : Bool} (D : r09_all p0 p1 p2 = some r) :
    Calls P 150 #[(.string p0), (Iv p1), (.string p2)] w (RT E I Os (.bool r)) := by
 refine calls_W (fn := Tryz.f150) rfl rfl rfl ?_
 unfold r09_all at D
 refine ye [0] (ya 0 1 z (yb (yi (ye nL2 (ya 0 2 z (yb (yo (bsk D fun t1 hloop5 D => W.wk (ya4 hloop5 (fun (s4 : Int) => JI E I [(0, .string p0), (2, .string p2), (7, Iv s4)] Os) ⟨I, rfl, lr, hS⟩ ?_)))))))))
 rintro s4 _ w6 ⟨I2, rfl, L3, S7⟩ x8 R1 hext1
 refine yi (ye nL4 (ya 0 4 z (yb (y3 R1 (fun G R1 => ?_) (fun G R1 => ?_)))))
 refine yl (yc (yi (yo (ye [0] (ya 0 1 z (yb (yi (ye [0] (ya 0 1 z (yb (yo (bsk R1 fun t9 hloop14 R1 => W.wk (ya4 hloop14 (fun (s : Bool × Int) fr w => match s with | (s12, s13) => ∃ I10, fr = [(0, .string p0), (2, .string p2), (7, Iv s4), (8, .bool s12), (9, Iv s13)] ∧ I2.Le I10 ∧ St E w I10 Os) ⟨I2, rfl, lr, S7⟩ ?_)))))))))))))
 rintro ⟨s12, s13⟩ _ w15 ⟨I10, rfl, L11, S16⟩ x17 R2 hext9
 refine yi (ye nL4 (ya 0 4 z (yb (y3 R2 (fun G R2 => ?_) (fun G R2 => ?_)))))
 refine yl (yc (yi (yo (have S18 := S16.drew; ybc nL11 10 (yae S18.im) ?_))))
 generalize World.drew _ = w19 at *
 refine ya 0 2 z (bsk R2 fun j20 R3 R2 => yao (l1 := [2, 3, 4, 5, 6, 7, 8, 9]) (J := JI E I10 [(0, .string p0), (2, .string p2), (7, Iv s4), (9, Iv s13), (32, .bool j20)] Os) ?_ ?_)
 refine yan R3 (fun G R3 => ?_) (fun G R3 => ?_)
 refine y7 24 G ?_
 iterate 7 refine yam ?_
 exact ya 9 1 z (sj R3 ▸ y6 ⟨I10, rfl, lr, S18⟩)
 refine y7 24 G (ya 2 2 z (bsk R3 fun y24 Xy24 R3 => ybb z kr kr z z Xy24 ?_))
 refine ya 5 2 z (bsk R3 fun y25 Xy25 R3 => ybb z kr kr z z Xy25 ?_)
 exact ya 8 2 z (sj R3 ▸ y6 ⟨I10, rfl, lr, S18⟩)
 rintro _ w26 ⟨I22, rfl, L23, S27⟩
 exact WO.tail z (ya 10 1 z (yr (ym (yc (yai nL3 (ya 0 3 z (yr (yx ⟨(j20, (w64 (s13 + 1))), (sj R2).symm, I22, rfl, le, S27⟩))))))))
 refine yab (yp (yt ?_))
 obtain rfl := hext9 _ (sj R2).symm
 refine yu (yc (ye nL2 (ya 0 2 z (yb (y3 R1 (fun G R1 => ?_) (fun G R1 => ?_))))))
 refine ye [0] (ya 0 1 z (yb (yq (yn (yf (yv ?_))))))
 obtain rfl := hext1 _ (sj R1).symm
 exact yn (yf (sj D ▸ yy ⟨I10, rfl, le, S16⟩))
 exact yl (ym (yc (yai nL3 (ya 0 3 z (yr (yx ⟨(w64 (s4 + 1)), (sj R1).symm, I10, rfl, le, S16⟩))))))
 refine yab (yp (yt ?_))
 obtain rfl := hext1 _ (sj R1).symm
 exact yu (yc (ye [0] (ya 0 1 z (yb (yq (sj D ▸ yy ⟨I2, rfl, L3, S7⟩))))))
noncomputable def r03_Plain (p0 : By8) : Option Bool := (loopO (fun (s4 : Int) => (bif (decide (s4 < (p0.size : Int))) then (sAt p0 s4).bind (fun y9 => ((bif (decide (y9 < 32)) then some true else (sAt p0 s4).bind (fun y14 => some (decide (y14 > 126))))).bind (fun (j10 : Bool) => (bif j10 then some (.inr (.inl false)) else some (.inl (w64 (s4 + 1)))))) else some (.inr (.inr ())))) 0).bind (fun (t : Bool ⊕ Unit) => match t with | (.inl s18) => some s18 | (.inr ()) => some true)
theorem r03_Plain_ok {p0 : By8} (hS : St E w I Os) {r : Bool} (D : r03_Plain p0 = some r) :
    Calls P 167 #[(.string p0)] w (RT E I Os (.bool r)) := by
 refine calls_W (fn := Tryz.f167) rfl rfl rfl ?_
 unfold r03_Plain at D
 refine ye [0] (ya 0 1 z (yb (yi (ye [0] (ya 0 1 z (yb (yo (bsk D fun t1 hloop5 D => W.wk (ya4 hloop5 (fun (s4 : Int) => JI E I [(0, .string p0), (3, Iv s4)] Os) ⟨I, rfl, lr, hS⟩ ?_)))))))))
 rintro s4 _ w6 ⟨I2, rfl, L3, S7⟩ x8 R1 hext1
 refine yi (ye nL4 (ya 0 4 z (yb (y3 R1 (fun G R1 => ?_) (fun G R1 => ?_)))))
 refine yl (yc (yi (yo (ye nL10 (ya 0 2 z (bsk R1 fun y9 Xy9 R1 => ybb z kr kr z z Xy9 ?_))))))
 refine ya 3 2 z (bsk R1 fun j10 R2 R1 => yao (l1 := [5, 6, 7, 8, 9]) (J := JI E I2 [(0, .string p0), (3, Iv s4), (19, .bool j10)] Os) ?_ ?_)
 refine yan R2 (fun G R2 => ?_) (fun G R2 => ?_)
 refine y7 14 G ?_
 iterate 4 refine yam ?_
 exact ya 9 1 z (sj R2 ▸ y6 ⟨I2, rfl, lr, S7⟩)
 refine y7 14 G (ya 5 2 z (bsk R2 fun y14 Xy14 R2 => ybb z kr kr z z Xy14 ?_))
 exact ya 8 2 z (sj R2 ▸ y6 ⟨I2, rfl, lr, S7⟩)
 rintro _ w15 ⟨I12, rfl, L13, S16⟩
 refine yb (y3 R1 (fun G R1 => ?_) (fun G R1 => ?_))
 refine ye [0] (ya 0 1 z (yb (yq (yn (yf (yv ?_))))))
 obtain rfl := hext1 _ (sj R1).symm
 exact yn (yf (sj D ▸ yy ⟨I12, rfl, le, S16⟩))
 exact yl (ym (yc (yai nL3 (ya 0 3 z (yr (yx ⟨(w64 (s4 + 1)), (sj R1).symm, I12, rfl, le, S16⟩))))))
 refine yab (yp (yt ?_))
 obtain rfl := hext1 _ (sj R1).symm
 exact yu (yc (ye [0] (ya 0 1 z (yb (yq (sj D ▸ yy ⟨I2, rfl, L3, S7⟩))))))
noncomputable def r09_quoted (p0 : By8) : Option Bool := ((bif (decide ((p0.size : Int) < 2)) then some true else (sAt p0 0).bind (fun y5 => some (y5 != 39)))).bind (fun (j1 : Bool) => ((bif j1 then some true else (sAt p0 (w64 ((p0.size : Int) - 1))).bind (fun y12 => some (y12 != 39)))).bind (fun (j8 : Bool) => ((bif j8 then some true else (r03_Plain p0).bind (fun r24 => some (!r24)))).bind (fun (j15 : Bool) => (bif j15 then some false else (loopO (fun (s : Int × Int) => match s with | (s30, s31) => (bif (decide (s31 < (w64 ((p0.size : Int) - 1)))) then ((sAt p0 s31).bind (fun y40 => (bif (y40 != 39) then (bif ((Int.tmod s30 2) == 1) then some (.inl false) else some (.inr s30)) else some (.inr (w64 (s30 + 1)))))).bind (fun (t : Bool ⊕ Int) => match t with | (.inl s42) => some (.inr (.inl s42)) | (.inr s45) => some (.inl (s45, (w64 (s31 + 1))))) else some (.inr (.inr s30)))) (0, 1)).bind (fun (t : Bool ⊕ Int) => match t with | (.inl s44) => some s44 | (.inr s49) => some ((Int.tmod s49 2) == 0))))))
theorem r09_quoted_ok {p0 : By8} (hS : St E w I Os) {r : Bool} (D : r09_quoted p0 = some r) :
    Calls P 151 #[(.string p0)] w (RT E I Os (.bool r)) := by
 refine calls_W (fn := Tryz.f151) rfl rfl rfl ?_
 unfold r09_quoted at D
 refine ye [0] (ya 0 1 z (yb (yi (ye nL21 (ya 0 4 z (bsk D fun j1 R1 D => yao (l1 := [4, 5, 6, 7]) (J := JI E I [(0, .string p0), (12, .bool j1)] Os) ?_ ?_))))))
 refine yan R1 (fun G R1 => ?_) (fun G R1 => ?_)
 refine y7 8 G ?_
 iterate 3 refine yam ?_
 exact ya 7 1 z (sj R1 ▸ y6 ⟨I, rfl, lr, hS⟩)
 refine y7 8 G (ya 4 1 z (bsk R1 fun y5 Xy5 R1 => ybb z kr kr z z Xy5 ?_))
 exact ya 6 2 z (sj R1 ▸ y6 ⟨I, rfl, lr, hS⟩)
 rintro _ w6 ⟨I3, rfl, L4, S7⟩
 refine ya 8 1 z (bsk D fun j8 R1 D => yao (l1 := [9, 10, 11, 12, 13, 14, 15]) (J := JI E I3 [(0, .string p0), (20, .bool j8)] Os) ?_ ?_)
 refine yan R1 (fun G R1 => ?_) (fun G R1 => ?_)
 refine y7 13 G ?_
 iterate 6 refine yam ?_
 exact ya 15 1 z (sj R1 ▸ y6 ⟨I3, rfl, lr, S7⟩)
 refine y7 13 G (ya 9 4 z (bsk R1 fun y12 Xy12 R1 => ybb z kr kr z z Xy12 ?_))
 exact ya 14 2 z (sj R1 ▸ y6 ⟨I3, rfl, lr, S7⟩)
 rintro _ w13 ⟨I10, rfl, L11, S14⟩
 refine ya 16 1 z (bsk D fun j15 R1 D => yao (l1 := [17, 18, 19, 20]) (J := JI E I10 [(0, .string p0), (25, .bool j15)] Os) ?_ ?_)
 refine yan R1 (fun G R1 => ?_) (fun G R1 => ?_)
 refine y7 21 G ?_
 iterate 3 refine yam ?_
 exact ya 20 1 z (sj R1 ▸ y6 ⟨I10, rfl, lr, S14⟩)
 exact y7 21 G (ya 17 1 z (bsk R1 fun r24 Xr19 R1 => WO.c1 (r03_Plain_ok  S14 Xr19) z fun I21 w20 L22 S23 => ya 19 2 z (sj R1 ▸ y6 ⟨I21, rfl, L22, S23⟩)))
 rintro _ w25 ⟨I17, rfl, L18, S26⟩
 refine yb (y3 D (fun G D => ?_) (fun G D => ?_))
 exact ye [0] (ya 0 1 z (yb (yq (yf (sj D ▸ yy ⟨I17, rfl, le, S26⟩)))))
 refine yl (yc (ye [0] (ya 0 1 z (yb (yi (ye [0] (ya 0 1 z (yb (yo (bsk D fun t27 hloop32 D => W.wk (ya4 hloop32 (fun (s : Int × Int) fr w => match s with | (s30, s31) => ∃ I28, fr = [(0, .string p0), (3, Iv s30), (4, Iv s31)] ∧ I17.Le I28 ∧ St E w I28 Os) ⟨I17, rfl, lr, S26⟩ ?_)))))))))))
 rintro ⟨s30, s31⟩ _ w33 ⟨I28, rfl, L29, S34⟩ x35 R1 hext27
 refine yi (ye nL5 (ya 0 5 z (yb (y3 R1 (fun G R1 => ?_) (fun G R1 => ?_)))))
 refine yl (yc (yi (bsk R1 fun j36 R2 R1 => ya0 (J := (fun fr w => ∃ (s45 : Int), ∃ I38, (.inr s45) = j36 ∧ fr = [(0, .string p0), (3, Iv s45), (4, Iv s31)] ∧ I28.Le I38 ∧ St E w I38 Os)) ?_ ?_)))
 refine yo (yi (ye nL4 (ya 0 2 z (bsk R2 fun y40 Xy40 R2 => ybb z kr kr z z Xy40 ?_))))
 refine ya 3 1 z (yb (y3 R2 (fun G R2 => ?_) (fun G R2 => ?_)))
 refine yi (ye nL3 (ya 0 1 z (yaf 1 38 (Iv (Int.tmod s30 2)) (ya 2 1 z (yb (y3 R2 (fun G R2 => ?_) (fun G R2 => ?_)))))))
 refine ye [0] (ya 0 1 z (yb (yq (yf (yf (yn (yv ?_)))))))
 obtain rfl := sj R2
 refine yf (yv ?_)
 obtain rfl := hext27 _ (sj R1).symm
 exact yn (yf (sj D ▸ yy ⟨I28, rfl, le, S34⟩))
 exact yl (yc (yab (yp (yu (yx ⟨s30, I28, sj R2, rfl, lr, S34⟩)))))
 exact yl (yc (yai nL3 (ya 0 3 z (yr (ym (yx ⟨(w64 (s30 + 1)), I28, sj R2, rfl, lr, S34⟩))))))
 rintro _ w46 ⟨s45, I38, rfl, rfl, L39, S47⟩
 exact yc (yai nL3 (ya 0 3 z (yr (yx ⟨(s45, (w64 (s31 + 1))), (sj R1).symm, I38, rfl, le, S47⟩))))
 refine yab (yp (yt ?_))
 obtain rfl := hext27 _ (sj R1).symm
 exact yu (yc (ye nL4 (ya 0 1 z (yaf 1 43 (Iv (Int.tmod s30 2)) (ya 2 2 z (yb (yq (sj D ▸ yy ⟨I28, rfl, le, S34⟩))))))))
def r09_sign (p0 : By8) : Option Bool := ((bif (sEq p0 (⟨#[40]⟩ : By8)) then some (sEq p0 (⟨#[40]⟩ : By8)) else ((bif (sEq p0 (⟨#[41]⟩ : By8)) then some (sEq p0 (⟨#[41]⟩ : By8)) else ((bif (sEq p0 (⟨#[44]⟩ : By8)) then some (sEq p0 (⟨#[44]⟩ : By8)) else ((bif (sEq p0 (⟨#[61]⟩ : By8)) then some (sEq p0 (⟨#[61]⟩ : By8)) else ((bif (sEq p0 (⟨#[60, 62]⟩ : By8)) then some (sEq p0 (⟨#[60, 62]⟩ : By8)) else ((bif (sEq p0 (⟨#[60]⟩ : By8)) then some (sEq p0 (⟨#[60]⟩ : By8)) else ((bif (sEq p0 (⟨#[60, 61]⟩ : By8)) then some (sEq p0 (⟨#[60, 61]⟩ : By8)) else ((bif (sEq p0 (⟨#[62]⟩ : By8)) then some (sEq p0 (⟨#[62]⟩ : By8)) else ((bif (sEq p0 (⟨#[62, 61]⟩ : By8)) then some (sEq p0 (⟨#[62, 61]⟩ : By8)) else ((bif (sEq p0 (⟨#[43]⟩ : By8)) then some (sEq p0 (⟨#[43]⟩ : By8)) else ((bif (sEq p0 (⟨#[45]⟩ : By8)) then some (sEq p0 (⟨#[45]⟩ : By8)) else ((bif (sEq p0 (⟨#[42]⟩ : By8)) then some (sEq p0 (⟨#[42]⟩ : By8)) else ((bif (sEq p0 (⟨#[47]⟩ : By8)) then some (sEq p0 (⟨#[47]⟩ : By8)) else ((bif (sEq p0 (⟨#[37]⟩ : By8)) then some (sEq p0 (⟨#[37]⟩ : By8)) else some (sEq p0 (⟨#[124, 124]⟩ : By8)))).bind (fun (j53 : Bool) => some j53))).bind (fun (j49 : Bool) => some j49))).bind (fun (j45 : Bool) => some j45))).bind (fun (j41 : Bool) => some j41))).bind (fun (j37 : Bool) => some j37))).bind (fun (j33 : Bool) => some j33))).bind (fun (j29 : Bool) => some j29))).bind (fun (j25 : Bool) => some j25))).bind (fun (j21 : Bool) => some j21))).bind (fun (j17 : Bool) => some j17))).bind (fun (j13 : Bool) => some j13))).bind (fun (j9 : Bool) => some j9))).bind (fun (j5 : Bool) => some j5))).bind (fun (j1 : Bool) => (bif j1 then some true else some false))
theorem r09_sign_ok {p0 : By8} (hS : St E w I Os) {r : Bool} (D : r09_sign p0 = some r) :
    Calls P 152 #[(.string p0)] w (RT E I Os (.bool r)) := by
 refine calls_W (fn := Tryz.f152) rfl rfl rfl ?_
 unfold r09_sign at D
 refine ye [0] (ya 0 1 z (yb (yi (ye [0] (ya 0 1 z (yb (yo (yi (ye nL2 (ya 0 2 z (yb (bsk D fun j1 R1 D => ya0 (J := JI E I [(4, .bool j1)] Os) ?_ ?_))))))))))))
 refine y3 R1 (fun G R1 => ?_) (fun G R1 => ?_)
 exact yl (sj R1 ▸ yx ⟨I, rfl, lr, hS⟩)
 refine ye nL2 (ya 0 2 z (yb (bsk R1 fun j5 R2 R1 => ya0 (J := JI E I [(4, .bool j5)] Os) ?_ ?_)))
 refine y3 R2 (fun G R2 => ?_) (fun G R2 => ?_)
 exact yl (sj R2 ▸ yx ⟨I, rfl, lr, hS⟩)
 refine ye nL2 (ya 0 2 z (yb (bsk R2 fun j9 R3 R2 => ya0 (J := JI E I [(4, .bool j9)] Os) ?_ ?_)))
 refine y3 R3 (fun G R3 => ?_) (fun G R3 => ?_)
 exact yl (sj R3 ▸ yx ⟨I, rfl, lr, hS⟩)
 refine ye nL2 (ya 0 2 z (yb (bsk R3 fun j13 R4 R3 => ya0 (J := JI E I [(4, .bool j13)] Os) ?_ ?_)))
 refine y3 R4 (fun G R4 => ?_) (fun G R4 => ?_)
 exact yl (sj R4 ▸ yx ⟨I, rfl, lr, hS⟩)
 refine ye nL2 (ya 0 2 z (yb (bsk R4 fun j17 R5 R4 => ya0 (J := JI E I [(4, .bool j17)] Os) ?_ ?_)))
 refine y3 R5 (fun G R5 => ?_) (fun G R5 => ?_)
 exact yl (sj R5 ▸ yx ⟨I, rfl, lr, hS⟩)
 refine ye nL2 (ya 0 2 z (yb (bsk R5 fun j21 R6 R5 => ya0 (J := JI E I [(4, .bool j21)] Os) ?_ ?_)))
 refine y3 R6 (fun G R6 => ?_) (fun G R6 => ?_)
 exact yl (sj R6 ▸ yx ⟨I, rfl, lr, hS⟩)
 refine ye nL2 (ya 0 2 z (yb (bsk R6 fun j25 R7 R6 => ya0 (J := JI E I [(4, .bool j25)] Os) ?_ ?_)))
 refine y3 R7 (fun G R7 => ?_) (fun G R7 => ?_)
 exact yl (sj R7 ▸ yx ⟨I, rfl, lr, hS⟩)
 refine ye nL2 (ya 0 2 z (yb (bsk R7 fun j29 R8 R7 => ya0 (J := JI E I [(4, .bool j29)] Os) ?_ ?_)))
 refine y3 R8 (fun G R8 => ?_) (fun G R8 => ?_)
 exact yl (sj R8 ▸ yx ⟨I, rfl, lr, hS⟩)
 refine ye nL2 (ya 0 2 z (yb (bsk R8 fun j33 R9 R8 => ya0 (J := JI E I [(4, .bool j33)] Os) ?_ ?_)))
 refine y3 R9 (fun G R9 => ?_) (fun G R9 => ?_)
 exact yl (sj R9 ▸ yx ⟨I, rfl, lr, hS⟩)
 refine ye nL2 (ya 0 2 z (yb (bsk R9 fun j37 R10 R9 => ya0 (J := JI E I [(4, .bool j37)] Os) ?_ ?_)))
 refine y3 R10 (fun G R10 => ?_) (fun G R10 => ?_)
 exact yl (sj R10 ▸ yx ⟨I, rfl, lr, hS⟩)
 refine ye nL2 (ya 0 2 z (yb (bsk R10 fun j41 R11 R10 => ya0 (J := JI E I [(4, .bool j41)] Os) ?_ ?_)))
 refine y3 R11 (fun G R11 => ?_) (fun G R11 => ?_)
 exact yl (sj R11 ▸ yx ⟨I, rfl, lr, hS⟩)
 refine ye nL2 (ya 0 2 z (yb (bsk R11 fun j45 R12 R11 => ya0 (J := JI E I [(4, .bool j45)] Os) ?_ ?_)))
 refine y3 R12 (fun G R12 => ?_) (fun G R12 => ?_)
 exact yl (sj R12 ▸ yx ⟨I, rfl, lr, hS⟩)
 refine ye nL2 (ya 0 2 z (yb (bsk R12 fun j49 R13 R12 => ya0 (J := JI E I [(4, .bool j49)] Os) ?_ ?_)))
 refine y3 R13 (fun G R13 => ?_) (fun G R13 => ?_)
 exact yl (sj R13 ▸ yx ⟨I, rfl, lr, hS⟩)
 refine ye nL2 (ya 0 2 z (yb (bsk R13 fun j53 R14 R13 => ya0 (J := JI E I [(4, .bool j53)] Os) ?_ ?_)))
 refine y3 R14 (fun G R14 => ?_) (fun G R14 => ?_)
 exact yl (sj R14 ▸ yx ⟨I, rfl, lr, hS⟩)
 exact yai nL2 (ya 0 2 z (yr (sj R14 ▸ yx ⟨I, rfl, lr, hS⟩)))
 rintro _ w57 ⟨I55, rfl, L56, S58⟩
 exact sj R13 ▸ yx ⟨I55, rfl, L56, S58⟩
 rintro _ w59 ⟨I51, rfl, L52, S60⟩
 exact sj R12 ▸ yx ⟨I51, rfl, L52, S60⟩
 rintro _ w61 ⟨I47, rfl, L48, S62⟩
 exact sj R11 ▸ yx ⟨I47, rfl, L48, S62⟩
 rintro _ w63 ⟨I43, rfl, L44, S64⟩
 exact sj R10 ▸ yx ⟨I43, rfl, L44, S64⟩
 rintro _ w65 ⟨I39, rfl, L40, S66⟩
 exact sj R9 ▸ yx ⟨I39, rfl, L40, S66⟩
 rintro _ w67 ⟨I35, rfl, L36, S68⟩
 exact sj R8 ▸ yx ⟨I35, rfl, L36, S68⟩
 rintro _ w69 ⟨I31, rfl, L32, S70⟩
 exact sj R7 ▸ yx ⟨I31, rfl, L32, S70⟩
 rintro _ w71 ⟨I27, rfl, L28, S72⟩
 exact sj R6 ▸ yx ⟨I27, rfl, L28, S72⟩
 rintro _ w73 ⟨I23, rfl, L24, S74⟩
 exact sj R5 ▸ yx ⟨I23, rfl, L24, S74⟩
 rintro _ w75 ⟨I19, rfl, L20, S76⟩
 exact sj R4 ▸ yx ⟨I19, rfl, L20, S76⟩
 rintro _ w77 ⟨I15, rfl, L16, S78⟩
 exact sj R3 ▸ yx ⟨I15, rfl, L16, S78⟩
 rintro _ w79 ⟨I11, rfl, L12, S80⟩
 exact sj R2 ▸ yx ⟨I11, rfl, L12, S80⟩
 rintro _ w81 ⟨I7, rfl, L8, S82⟩
 exact sj R1 ▸ yx ⟨I7, rfl, L8, S82⟩
 rintro _ w83 ⟨I3, rfl, L4, S84⟩
 refine yc (y3 D (fun G D => ?_) (fun G D => ?_))
 exact ye [0] (ya 0 1 z (yb (yq (yn (yf (sj D ▸ yy ⟨I3, rfl, L4, S84⟩))))))
 exact yl (ym (yc (ye [0] (ya 0 1 z (yb (yq (sj D ▸ yy ⟨I3, rfl, L4, S84⟩)))))))
noncomputable def r09_Kind (p0 : By8) : Option Int := (bif (sEq p0 eB) then some 7 else ((bif (decide ((p0.size : Int) ≤ 12)) then (ssub p0 0 1).bind (fun x5 => (r09_all x5 0 (⟨#[97, 98, 99, 100, 101, 102, 103, 104, 105, 106, 107, 108, 109, 110, 111, 112, 113, 114, 115, 116, 117, 118, 119, 120, 121, 122]⟩ : By8)).bind (fun r11 => some r11)) else some false)).bind (fun (j1 : Bool) => ((bif j1 then (r09_all p0 1 (⟨#[97, 98, 99, 100, 101, 102, 103, 104, 105, 106, 107, 108, 109, 110, 111, 112, 113, 114, 115, 116, 117, 118, 119, 120, 121, 122, 48, 49, 50, 51, 52, 53, 54, 55, 56, 57, 95]⟩ : By8)).bind (fun r23 => some r23) else some false)).bind (fun (j14 : Bool) => (bif j14 then some 1 else ((bif (decide ((p0.size : Int) ≤ 16)) then (ssub p0 0 1).bind (fun x30 => (r09_all x30 0 (⟨#[65, 66, 67, 68, 69, 70, 71, 72, 73, 74, 75, 76, 77, 78, 79, 80, 81, 82, 83, 84, 85, 86, 87, 88, 89, 90]⟩ : By8)).bind (fun r36 => some r36)) else some false)).bind (fun (j26 : Bool) => ((bif j26 then (r09_all p0 1 (⟨#[65, 66, 67, 68, 69, 70, 71, 72, 73, 74, 75, 76, 77, 78, 79, 80, 81, 82, 83, 84, 85, 86, 87, 88, 89, 90, 95]⟩ : By8)).bind (fun r48 => some r48) else some false)).bind (fun (j39 : Bool) => (bif j39 then some 2 else ((bif (decide ((p0.size : Int) ≤ 19)) then (r09_all p0 0 (⟨#[48, 49, 50, 51, 52, 53, 54, 55, 56, 57]⟩ : By8)).bind (fun r60 => some r60) else some false)).bind (fun (j51 : Bool) => ((bif j51 then ((bif (sEq p0 (⟨#[48]⟩ : By8)) then some true else (sAt p0 0).bind (fun y71 => some (y71 != 48)))).bind (fun (j67 : Bool) => some j67) else some false)).bind (fun (j63 : Bool) => (bif j63 then some 3 else (r09_quoted p0).bind (fun r81 => (bif r81 then some 4 else ((bif ((p0.size : Int) == 2) then (sAt p0 0).bind (fun y86 => some (y86 == 36)) else some false)).bind (fun (j82 : Bool) => ((bif j82 then (sAt p0 1).bind (fun y93 => some (decide (y93 ≥ 49))) else some false)).bind (fun (j89 : Bool) => ((bif j89 then (sAt p0 1).bind (fun y100 => some (decide (y100 ≤ 54))) else some false)).bind (fun (j96 : Bool) => (bif j96 then some 5 else (r09_sign p0).bind (fun r108 => (bif r108 then some 6 else some 0))))))))))))))))))
theorem r09_Kind_ok {p0 : By8} (hS : St E w I Os) {r : Int} (D : r09_Kind p0 = some r) :
    Calls P 141 #[(.string p0)] w (RT E I Os (Iv r)) := by
 refine calls_W (fn := Tryz.f141) rfl rfl rfl ?_
 unfold r09_Kind at D
 refine ye [0] (ya 0 1 z (yb (yi (yo (ye nL3 (ya 0 3 z (yb (y3 D (fun G D => ?_) (fun G D => ?_)))))))))
 exact ye [0] (ya 0 1 z (yb (yq (yn (yf (sj D ▸ yy ⟨I, rfl, lr, hS⟩))))))
 refine ye nL13 (ya 0 4 z (bsk D fun j1 R1 D => yao (l1 := [4, 5, 6, 7]) (J := JI E I [(0, .string p0), (14, .bool j1)] Os) ?_ ?_))
 refine yan R1 (fun G R1 => ?_) (fun G R1 => ?_)
 refine y7 10 G (ya 4 1 z (bsk R1 fun x5 Xx5 R1 => WO.sliceS z kr kr z (0 : Int) (1 : Int) (.inl ⟨rfl, rfl⟩) (.inr ⟨_, _, rfl, rfl⟩) Xx5 ?_))
 exact bsk R1 fun r11 Xr6 R1 => WO.c1 (r09_all_ok  hS Xr6) z fun I8 w7 L9 S10 => ya 7 1 z (sj R1 ▸ y6 ⟨I8, rfl, L9, S10⟩)
 refine y7 10 G ?_
 iterate 3 refine yam ?_
 exact ya 7 1 z (sj R1 ▸ y6 ⟨I, rfl, lr, hS⟩)
 rintro _ w12 ⟨I3, rfl, L4, S13⟩
 refine ya 8 1 z (bsk D fun j14 R1 D => yao (l1 := [9, 10, 11]) (J := JI E I3 [(0, .string p0), (18, .bool j14)] Os) ?_ ?_)
 refine yan R1 (fun G R1 => ?_) (fun G R1 => ?_)
 exact y7 15 G (ya 9 1 z (bsk R1 fun r23 Xr18 R1 => WO.c1 (r09_all_ok  S13 Xr18) z fun I20 w19 L21 S22 => ya 11 1 z (sj R1 ▸ y6 ⟨I20, rfl, L21, S22⟩)))
 refine y7 15 G ?_
 iterate 2 refine yam ?_
 exact ya 11 1 z (sj R1 ▸ y6 ⟨I3, rfl, lr, S13⟩)
 rintro _ w24 ⟨I16, rfl, L17, S25⟩
 refine ya 12 1 z (yb (y3 D (fun G D => ?_) (fun G D => ?_)))
 exact ye [0] (ya 0 1 z (yb (yq (yn (yf (sj D ▸ yy ⟨I16, rfl, le, S25⟩))))))
 refine ye nL13 (ya 0 4 z (bsk D fun j26 R1 D => yao (l1 := [4, 5, 6, 7]) (J := JI E I16 [(0, .string p0), (27, .bool j26)] Os) ?_ ?_))
 refine yan R1 (fun G R1 => ?_) (fun G R1 => ?_)
 refine y7 23 G (ya 4 1 z (bsk R1 fun x30 Xx30 R1 => WO.sliceS z kr kr z (0 : Int) (1 : Int) (.inl ⟨rfl, rfl⟩) (.inr ⟨_, _, rfl, rfl⟩) Xx30 ?_))
 exact bsk R1 fun r36 Xr31 R1 => WO.c1 (r09_all_ok  S25 Xr31) z fun I33 w32 L34 S35 => ya 7 1 z (sj R1 ▸ y6 ⟨I33, rfl, L34, S35⟩)
 refine y7 23 G ?_
 iterate 3 refine yam ?_
 exact ya 7 1 z (sj R1 ▸ y6 ⟨I16, rfl, lr, S25⟩)
 rintro _ w37 ⟨I28, rfl, L29, S38⟩
 refine ya 8 1 z (bsk D fun j39 R1 D => yao (l1 := [9, 10, 11]) (J := JI E I28 [(0, .string p0), (31, .bool j39)] Os) ?_ ?_)
 refine yan R1 (fun G R1 => ?_) (fun G R1 => ?_)
 exact y7 28 G (ya 9 1 z (bsk R1 fun r48 Xr43 R1 => WO.c1 (r09_all_ok  S38 Xr43) z fun I45 w44 L46 S47 => ya 11 1 z (sj R1 ▸ y6 ⟨I45, rfl, L46, S47⟩)))
 refine y7 28 G ?_
 iterate 2 refine yam ?_
 exact ya 11 1 z (sj R1 ▸ y6 ⟨I28, rfl, lr, S38⟩)
 rintro _ w49 ⟨I41, rfl, L42, S50⟩
 refine ya 12 1 z (yb (y3 D (fun G D => ?_) (fun G D => ?_)))
 exact ye [0] (ya 0 1 z (yb (yq (yn (yf (sj D ▸ yy ⟨I41, rfl, le, S50⟩))))))
 refine ye nL17 (ya 0 4 z (bsk D fun j51 R1 D => yao (l1 := [4, 5, 6]) (J := JI E I41 [(0, .string p0), (39, .bool j51)] Os) ?_ ?_))
 refine yan R1 (fun G R1 => ?_) (fun G R1 => ?_)
 exact y7 36 G (ya 4 1 z (bsk R1 fun r60 Xr55 R1 => WO.c1 (r09_all_ok  S50 Xr55) z fun I57 w56 L58 S59 => ya 6 1 z (sj R1 ▸ y6 ⟨I57, rfl, L58, S59⟩)))
 refine y7 36 G ?_
 iterate 2 refine yam ?_
 exact ya 6 1 z (sj R1 ▸ y6 ⟨I41, rfl, lr, S50⟩)
 rintro _ w61 ⟨I53, rfl, L54, S62⟩
 refine ya 7 1 z (bsk D fun j63 R1 D => yao (l1 := [8, 9, 10, 11, 12, 13, 14, 15]) (J := JI E I53 [(0, .string p0), (48, .bool j63)] Os) ?_ ?_)
 refine yan R1 (fun G R1 => ?_) (fun G R1 => ?_)
 refine y7 40 G (ya 8 3 z (bsk R1 fun j67 R2 R1 => yao (l1 := [11, 12, 13, 14]) (J := JI E I53 [(0, .string p0), (40, .bool true), (47, .bool j67)] Os) ?_ ?_))
 refine yan R2 (fun G R2 => ?_) (fun G R2 => ?_)
 refine y7 43 G ?_
 iterate 3 refine yam ?_
 exact ya 14 1 z (sj R2 ▸ y6 ⟨I53, rfl, lr, S62⟩)
 refine y7 43 G (ya 11 1 z (bsk R2 fun y71 Xy71 R2 => ybb z kr kr z z Xy71 ?_))
 exact ya 13 2 z (sj R2 ▸ y6 ⟨I53, rfl, lr, S62⟩)
 rintro _ w72 ⟨I69, rfl, L70, S73⟩
 exact ya 15 1 z (sj R1 ▸ y6 ⟨I69, rfl, L70, S73⟩)
 refine y7 40 G ?_
 iterate 7 refine yam ?_
 exact ya 15 1 z (sj R1 ▸ y6 ⟨I53, rfl, lr, S62⟩)
 rintro _ w74 ⟨I65, rfl, L66, S75⟩
 refine ya 16 1 z (yb (y3 D (fun G D => ?_) (fun G D => ?_)))
 exact ye [0] (ya 0 1 z (yb (yq (yn (yf (sj D ▸ yy ⟨I65, rfl, le, S75⟩))))))
 refine ye nL3 (ya 0 1 z (bsk D fun r81 Xr76 D => WO.c1 (r09_quoted_ok  S75 Xr76) z fun I78 w77 L79 S80 => ya 2 1 z (yb (y3 D (fun G D => ?_) (fun G D => ?_)))))
 exact ye [0] (ya 0 1 z (yb (yq (yn (yf (sj D ▸ yy ⟨I78, rfl, le, S80⟩))))))
 refine ye nL19 (ya 0 4 z (bsk D fun j82 R1 D => yao (l1 := [4, 5, 6, 7]) (J := JI E I78 [(0, .string p0), (60, .bool j82)] Os) ?_ ?_))
 refine yan R1 (fun G R1 => ?_) (fun G R1 => ?_)
 refine y7 56 G (ya 4 1 z (bsk R1 fun y86 Xy86 R1 => ybb z kr kr z z Xy86 ?_))
 exact ya 6 2 z (sj R1 ▸ y6 ⟨I78, rfl, lr, S80⟩)
 refine y7 56 G ?_
 iterate 3 refine yam ?_
 exact ya 7 1 z (sj R1 ▸ y6 ⟨I78, rfl, lr, S80⟩)
 rintro _ w87 ⟨I84, rfl, L85, S88⟩
 refine ya 8 1 z (bsk D fun j89 R1 D => yao (l1 := [9, 10, 11, 12]) (J := JI E I84 [(0, .string p0), (65, .bool j89)] Os) ?_ ?_)
 refine yan R1 (fun G R1 => ?_) (fun G R1 => ?_)
 refine y7 61 G (ya 9 1 z (bsk R1 fun y93 Xy93 R1 => ybb z kr kr z z Xy93 ?_))
 exact ya 11 2 z (sj R1 ▸ y6 ⟨I84, rfl, lr, S88⟩)
 refine y7 61 G ?_
 iterate 3 refine yam ?_
 exact ya 12 1 z (sj R1 ▸ y6 ⟨I84, rfl, lr, S88⟩)
 rintro _ w94 ⟨I91, rfl, L92, S95⟩
 refine ya 13 1 z (bsk D fun j96 R1 D => yao (l1 := [14, 15, 16, 17]) (J := JI E I91 [(0, .string p0), (70, .bool j96)] Os) ?_ ?_)
 refine yan R1 (fun G R1 => ?_) (fun G R1 => ?_)
 refine y7 66 G (ya 14 1 z (bsk R1 fun y100 Xy100 R1 => ybb z kr kr z z Xy100 ?_))
 exact ya 16 2 z (sj R1 ▸ y6 ⟨I91, rfl, lr, S95⟩)
 refine y7 66 G ?_
 iterate 3 refine yam ?_
 exact ya 17 1 z (sj R1 ▸ y6 ⟨I91, rfl, lr, S95⟩)
 rintro _ w101 ⟨I98, rfl, L99, S102⟩
 refine ya 18 1 z (yb (y3 D (fun G D => ?_) (fun G D => ?_)))
 exact ye [0] (ya 0 1 z (yb (yq (yn (yf (sj D ▸ yy ⟨I98, rfl, le, S102⟩))))))
 refine ye nL3 (ya 0 1 z (bsk D fun r108 Xr103 D => WO.c1 (r09_sign_ok  S102 Xr103) z fun I105 w104 L106 S107 => ya 2 1 z (yb (y3 D (fun G D => ?_) (fun G D => ?_)))))
 exact ye [0] (ya 0 1 z (yb (yq (yn (yf (sj D ▸ yy ⟨I105, rfl, le, S107⟩))))))
 exact yl (ym (yc (ye [0] (ya 0 1 z (yb (yq (sj D ▸ yy ⟨I105, rfl, le, S107⟩)))))))
noncomputable def r09_IsName (p0 : By8) : Option Bool := (r09_Kind p0).bind (fun r6 => some (r6 == 1))
theorem r09_IsName_ok {p0 : By8} (hS : St E w I Os) {r : Bool} (D : r09_IsName p0 = some r) :
    Calls P 124 #[(.string p0)] w (RT E I Os (.bool r)) := by
 refine calls_W (fn := Tryz.f124) rfl rfl rfl ?_
 unfold r09_IsName at D
 exact ye [0] (ya 0 1 z (y8 nL4 (ya 0 1 z (bsk D fun r6 Xr1 D => WO.c1 (r09_Kind_ok  hS Xr1) z fun I3 w2 L4 S5 => ya 2 2 z (yb (yq (sj D ▸ yy ⟨I3, rfl, L4, S5⟩)))))))
noncomputable def r18_Check (p0 : List qJ) : Option Int := (bif (decide ((p0.length : Int) > 8)) then some 2 else (forN (fun (i4 : Nat) (_s : Unit) => (idx p0 (i4 : Int)).bind (fun x13 => (r09_IsName x13.Name).bind (fun r19 => ((bif (!r19) then some true else ((bif (decide ((i4 : Int) > 0)) then (idx p0 (w64 ((i4 : Int) - 1))).bind (fun x28 => (idx p0 (i4 : Int)).bind (fun x29 => some (!sLt x28.Name x29.Name))) else some false)).bind (fun (j24 : Bool) => some j24))).bind (fun (j20 : Bool) => (bif j20 then some (.inr (2 : Int)) else (loopO (fun (s39 : Int) => (idx p0 (i4 : Int)).bind (fun x44 => (bif (decide (s39 < (x44.In.length : Int))) then (idx p0 (i4 : Int)).bind (fun x47 => (idx x47.In s39).bind (fun x48 => (r18_At p0 x48).bind (fun r54 => ((bif (decide (r54 < 0)) then some true else ((bif (decide (s39 > 0)) then (idx p0 (i4 : Int)).bind (fun x63 => (idx x63.In (w64 (s39 - 1))).bind (fun x64 => (idx p0 (i4 : Int)).bind (fun x65 => (idx x65.In s39).bind (fun x66 => some (!sLt x64 x66))))) else some false)).bind (fun (j59 : Bool) => some j59))).bind (fun (j55 : Bool) => (bif j55 then some (.inr (.inl (2 : Int))) else some (.inl (w64 (s39 + 1)))))))) else some (.inr (.inr ()))))) 0).bind (fun (t : Int ⊕ Unit) => match t with | (.inl s72) => some (.inr s72) | (.inr ()) => some (.inl ()))))))) p0.length 0 ()).bind (fun (t : Unit ⊕ (Int)) => match t with | .inl _ => (forN (fun (i79 : Nat) (_s : Unit) => (loopO (fun (s89 : Int) => (idx p0 (i79 : Int)).bind (fun x94 => (bif (decide (s89 < (x94.In.length : Int))) then (idx p0 (i79 : Int)).bind (fun x97 => (idx x97.In s89).bind (fun x98 => (idx p0 (i79 : Int)).bind (fun x99 => (r18_Is p0 x98 x99.Name).bind (fun r105 => (bif r105 then some (.inr (.inl (2 : Int))) else some (.inl (w64 (s89 + 1)))))))) else some (.inr (.inr ()))))) 0).bind (fun (t : Int ⊕ Unit) => match t with | (.inl s107) => some (.inr s107) | (.inr ()) => some (.inl ()))) p0.length 0 ()).bind (fun (t : Unit ⊕ (Int)) => match t with | .inl _ => some 0 | .inr s109 => some s109) | .inr s35 => some s35))
theorem r18_Check_ok {p0 : List qJ} {a_p0 : Option Addr} {c_p0 : Nat} (h_p0 : RSl 2 R_qJ I a_p0 c_p0 p0) (hS : St E w I Os) {r : Int} (D : r18_Check p0 = some r) :
    Calls P 123 #[(Sl a_p0 p0 c_p0)] w (RT E I Os (Iv r)) := by
 refine calls_W (fn := Tryz.f123) rfl rfl rfl ?_
 unfold r18_Check at D
 refine ye [0] (ya 0 1 z (yb (yi (ye nL3 (ya 0 3 z (yb (y3 D (fun G D => ?_) (fun G D => ?_))))))))
 exact ye [0] (ya 0 1 z (yb (yq (yf (sj D ▸ yy ⟨I, rfl, lr, hS⟩)))))
 refine yl (yc (yi (ye [0] (ya 0 1 z (yb (yo (bsk D fun t1 hloop5 D => have hlt9 := (h_p0).len_lt; W.wk (yau (m := p0.length) hloop5 (fun (i4 : Nat) (_s : Unit) => JI E I [(0, Sl a_p0 p0 c_p0), (3, Nv i4)] Os) ⟨I, rfl, lr, hS⟩ ?_ ?_))))))))
 rintro i4 _ _ w6 hi10 ⟨I2, rfl, L3, S7⟩ x8 R1 hext1
 refine yi (ye nL4 (ya 0 4 z (yb (yax fun _ => yl (yc (yi (yo (yi (yi (have S11 := S7.drew; ybc nL25 25 (yae S11.im) ?_))))))))))
 generalize World.drew _ = w12 at *
 refine ya 0 2 z ?_
 obtain ⟨x13, R1, Hx13, _, ⟨w_x13, rfl, h_x13⟩, Zx13⟩ := sx I2 h_p0 R1
 refine yac 73 2 Hx13 z (yh 3 1 [0] z (yar Zx13 (rd_i S11.im) z (bsk R1 fun r19 Xr14 R1 => yaj (r09_IsName_ok  S11 Xr14) ?_)))
 rintro _ w15 ⟨I16, rfl, L17, S18⟩
 refine ⟨_, rfl, (yae (S18.im.of_le L17)), ?_⟩
 refine ya 6 2 z (bsk R1 fun j20 R2 R1 => yao (l1 := [8, 9, 10, 11, 12, 13, 14, 15, 16, 17, 18, 19, 20, 21, 22, 23, 24]) (J := JI E I16 [(0, Sl a_p0 p0 c_p0), (3, Nv i4), (40, .bool j20)] Os) ?_ ?_)
 refine yan R2 (fun G R2 => ?_) (fun G R2 => ?_)
 refine y7 23 G ?_
 iterate 16 refine yam ?_
 exact ya 24 1 z (sj R2 ▸ y6 ⟨I16, rfl, lr, S18⟩)
 refine y7 23 G (ya 8 3 z (bsk R2 fun j24 R3 R2 => yao (l1 := [11, 12, 13, 14, 15, 16, 17, 18, 19, 20, 21, 22, 23]) (J := JI E I16 [(0, Sl a_p0 p0 c_p0), (3, Nv i4), (23, .bool false), (39, .bool j24)] Os) ?_ ?_))
 refine yan R3 (fun G R3 => ?_) (fun G R3 => ?_)
 refine y7 26 G (ya 11 3 z ?_)
 obtain ⟨x28, R3, Hx28, _, ⟨w_x28, rfl, h_x28⟩, Zx28⟩ := sx I2 h_p0 R3
 refine yac 73 2 Hx28 z (yh 15 1 [0] z (yar Zx28 (rd_i (S18.im.of_le L17)) z (ya 17 2 z ?_)))
 obtain ⟨x29, R3, Hx29, _, ⟨w_x29, rfl, h_x29⟩, Zx29⟩ := sx I2 h_p0 R3
 exact yac 73 2 Hx29 z (yh 20 1 [0] z (yar Zx29 (rd_i (S18.im.of_le L17)) z (yaf 22 38 (.bool (!sLt x28.Name x29.Name)) (ya 23 1 z (sj R3 ▸ y6 ⟨I16, rfl, lr, S18⟩)))))
 refine y7 26 G ?_
 iterate 12 refine yam ?_
 exact ya 23 1 z (sj R3 ▸ y6 ⟨I16, rfl, lr, S18⟩)
 rintro _ w30 ⟨I26, rfl, L27, S31⟩
 exact ya 24 1 z (sj R2 ▸ y6 ⟨I26, rfl, L27, S31⟩)
 rintro _ w32 ⟨I22, rfl, L23, S33⟩
 refine yb (y3 R1 (fun G R1 => ?_) (fun G R1 => ?_))
 refine ye [0] (ya 0 1 z (yb (yq (yf (yn (yf (yv ?_)))))))
 obtain rfl := hext1 _ (sj R1).symm
 exact yn (yf (sj D ▸ yy ⟨I22, rfl, le, S33⟩))
 refine yl (yc (ye [0] (ya 0 1 z (yb (yo (bsk R1 fun t36 hloop40 R1 => W.wk (ya4 hloop40 (fun (s39 : Int) => JI E I22 [(0, Sl a_p0 p0 c_p0), (3, Nv i4), (4, Iv s39)] Os) ⟨I22, rfl, lr, S33⟩ ?_)))))))
 rintro s39 _ w41 ⟨I37, rfl, L38, S42⟩ x43 R2 hext36
 refine yi (ye nL8 (ya 0 3 z ?_))
 obtain ⟨x44, R2, Hx44, _, ⟨w_x44, rfl, h_x44⟩, Zx44⟩ := sx I37 h_p0 R2
 refine yac 73 2 Hx44 z (yh 4 1 [1] z (ya6 Zx44 1 S42.rm z (ya 6 2 z (yb (y3 R2 (fun G R2 => ?_) (fun G R2 => ?_))))))
 refine yl (yc (yi (yo (yi (have S45 := S42.drew; ybc nL35 35 (yae S45.im) ?_)))))
 generalize World.drew _ = w46 at *
 refine ya 0 3 z ?_
 obtain ⟨x47, R2, Hx47, _, ⟨w_x47, rfl, h_x47⟩, Zx47⟩ := sx I37 h_p0 R2
 refine yac 73 2 Hx47 z (yh 4 1 [1] z (ya6 Zx47 1 (rd_i S45.im) z (ya 6 1 z ?_)))
 obtain ⟨x48, R2, Hx48, _, rfl, Zx48⟩ := sl_ix (h_x47.In) R2
 refine yac 9 1 Hx48 z (yar Zx48 (rd_i S45.im) z (bsk R2 fun r54 Xr49 R2 => yaj (r18_At_ok (up h_p0) S45 Xr49) ?_))
 rintro _ w50 ⟨I51, rfl, L52, S53⟩
 refine ⟨_, rfl, (yae (S53.im.of_le L52)), ?_⟩
 refine ya 10 2 z (bsk R2 fun j55 R3 R2 => yao (l1 := [12, 13, 14, 15, 16, 17, 18, 19, 20, 21, 22, 23, 24, 25, 26, 27, 28, 29, 30, 31, 32, 33, 34]) (J := JI E I51 [(0, Sl a_p0 p0 c_p0), (3, Nv i4), (4, Iv s39), (85, .bool j55)] Os) ?_ ?_)
 refine yan R3 (fun G R3 => ?_) (fun G R3 => ?_)
 refine y7 62 G ?_
 iterate 22 refine yam ?_
 exact ya 34 1 z (sj R3 ▸ y6 ⟨I51, rfl, lr, S53⟩)
 refine y7 62 G (ya 12 3 z (bsk R3 fun j59 R4 R3 => yao (l1 := [15, 16, 17, 18, 19, 20, 21, 22, 23, 24, 25, 26, 27, 28, 29, 30, 31, 32, 33]) (J := JI E I51 [(0, Sl a_p0 p0 c_p0), (3, Nv i4), (4, Iv s39), (62, .bool false), (84, .bool j59)] Os) ?_ ?_))
 refine yan R4 (fun G R4 => ?_) (fun G R4 => ?_)
 refine y7 65 G (ya 15 2 z ?_)
 obtain ⟨x63, R4, Hx63, _, ⟨w_x63, rfl, h_x63⟩, Zx63⟩ := sx I37 h_p0 R4
 refine yac 73 2 Hx63 z (yh 18 1 [1] z (ya6 Zx63 1 (rd_i (S53.im.of_le L52)) z (ya 20 2 z ?_)))
 obtain ⟨x64, R4, Hx64, _, rfl, Zx64⟩ := sl_ix (h_x63.In) R4
 refine yac 9 1 Hx64 z (yar Zx64 (rd_i (S53.im.of_le L52)) z (ya 24 2 z ?_))
 obtain ⟨x65, R4, Hx65, _, ⟨w_x65, rfl, h_x65⟩, Zx65⟩ := sx I37 h_p0 R4
 refine yac 73 2 Hx65 z (yh 27 1 [1] z (ya6 Zx65 1 (rd_i (S53.im.of_le L52)) z (ya 29 1 z ?_)))
 obtain ⟨x66, R4, Hx66, _, rfl, Zx66⟩ := sl_ix (h_x65.In) R4
 exact yac 9 1 Hx66 z (yar Zx66 (rd_i (S53.im.of_le L52)) z (yaf 32 83 (.bool (!sLt x64 x66)) (ya 33 1 z (sj R4 ▸ y6 ⟨I51, rfl, lr, S53⟩))))
 refine y7 65 G ?_
 iterate 18 refine yam ?_
 exact ya 33 1 z (sj R4 ▸ y6 ⟨I51, rfl, lr, S53⟩)
 rintro _ w67 ⟨I61, rfl, L62, S68⟩
 exact ya 34 1 z (sj R3 ▸ y6 ⟨I61, rfl, L62, S68⟩)
 rintro _ w69 ⟨I57, rfl, L58, S70⟩
 refine yb (y3 R2 (fun G R2 => ?_) (fun G R2 => ?_))
 refine ye [0] (ya 0 1 z (yb (yq (yn (yf (yv ?_))))))
 obtain rfl := hext36 _ (sj R2).symm
 refine yn (yn (yf (yv ?_)))
 obtain rfl := hext1 _ (sj R1).symm
 exact yn (yf (sj D ▸ yy ⟨I57, rfl, le, S70⟩))
 exact yl (ym (yc (yai nL3 (ya 0 3 z (yr (yx ⟨(w64 (s39 + 1)), (sj R2).symm, I57, rfl, le, S70⟩))))))
 refine yab (yp (yt ?_))
 obtain rfl := hext36 _ (sj R2).symm
 exact yu (ym (yc (yai nL3 (ya 0 1 z (yap i4 z (ya 2 1 z (yr (yx ⟨(), (sj R1).symm, I37, rfl, le, S42⟩))))))))
 rintro _ _ w74 ⟨I2, rfl, L3, S75⟩ he
 cases he
 refine yi (ye nL4 (ya 0 4 z (yb (yay fun _ => yab (yp (yt (yu (yc (yi (ye [0] (ya 0 1 z (yb (yo (bsk D fun t76 hloop80 D => have hlt84 := ((RSl.mono h_p0 L3)).len_lt; W.wk (yau (m := p0.length) hloop80 (fun (i79 : Nat) (_s : Unit) => JI E I2 [(0, Sl a_p0 p0 c_p0), (5, Nv i79)] Os) ⟨I2, rfl, lr, S75⟩ ?_ ?_)))))))))))))))
 rintro i79 _ _ w81 hi85 ⟨I77, rfl, L78, S82⟩ x83 R1 hext76
 refine yi (ye nL4 (ya 0 4 z (yb (yax fun _ => yl (yc (yi (yo (ye [0] (ya 0 1 z (yb (yo (bsk R1 fun t86 hloop90 R1 => W.wk (ya4 hloop90 (fun (s89 : Int) => JI E I77 [(0, Sl a_p0 p0 c_p0), (5, Nv i79), (6, Iv s89)] Os) ⟨I77, rfl, lr, S82⟩ ?_)))))))))))))
 rintro s89 _ w91 ⟨I87, rfl, L88, S92⟩ x93 R2 hext86
 refine yi (ye nL8 (ya 0 3 z ?_))
 obtain ⟨x94, R2, Hx94, _, ⟨w_x94, rfl, h_x94⟩, Zx94⟩ := sx I87 h_p0 R2
 refine yac 73 2 Hx94 z (yh 4 1 [1] z (ya6 Zx94 1 S92.rm z (ya 6 2 z (yb (y3 R2 (fun G R2 => ?_) (fun G R2 => ?_))))))
 refine yl (yc (yi (yo (yi (have S95 := S92.drew; ybc nL15 14 (yae S95.im) ?_)))))
 generalize World.drew _ = w96 at *
 refine ya 0 3 z ?_
 obtain ⟨x97, R2, Hx97, _, ⟨w_x97, rfl, h_x97⟩, Zx97⟩ := sx I87 h_p0 R2
 refine yac 73 2 Hx97 z (yh 4 1 [1] z (ya6 Zx97 1 (rd_i S95.im) z (ya 6 1 z ?_)))
 obtain ⟨x98, R2, Hx98, _, rfl, Zx98⟩ := sl_ix (h_x97.In) R2
 refine yac 9 1 Hx98 z (yar Zx98 (rd_i S95.im) z (ya 9 2 z ?_))
 obtain ⟨x99, R2, Hx99, _, ⟨w_x99, rfl, h_x99⟩, Zx99⟩ := sx I87 h_p0 R2
 refine yac 73 2 Hx99 z (yh 12 1 [0] z (yar Zx99 (rd_i S95.im) z (WO.tail z (bsk R2 fun r105 Xr100 R2 => WO.c1 (r18_Is_ok (up h_p0) S95 Xr100) z fun I102 w101 L103 S104 => yb (y3 R2 (fun G R2 => ?_) (fun G R2 => ?_))))))
 refine ye [0] (ya 0 1 z (yb (yq (yn (yf (yv ?_))))))
 obtain rfl := hext86 _ (sj R2).symm
 refine yn (yn (yf (yv ?_)))
 obtain rfl := hext76 _ (sj R1).symm
 exact yn (yf (sj D ▸ yy ⟨I102, rfl, le, S104⟩))
 exact yl (ym (yc (yai nL3 (ya 0 3 z (yr (yx ⟨(w64 (s89 + 1)), (sj R2).symm, I102, rfl, le, S104⟩))))))
 refine yab (yp (yt ?_))
 obtain rfl := hext86 _ (sj R2).symm
 exact yu (ym (yc (yai nL3 (ya 0 1 z (yap i79 z (ya 2 1 z (yr (yx ⟨(), (sj R1).symm, I87, rfl, le, S92⟩))))))))
 rintro _ _ w111 ⟨I77, rfl, L78, S112⟩ he
 cases he
 exact yi (ye nL4 (ya 0 4 z (yb (yay fun _ => yab (yp (yt (yu (yc (ye [0] (ya 0 1 z (yb (yq (sj D ▸ yy ⟨I77, rfl, le, S112⟩)))))))))))))
noncomputable def r18_Create (p0 : List qJ) (p1 : By8) : Option ((List qJ) × Int) := (r18_Check p0).bind (fun r6 => (bif (r6 != 0) then some (([] : List qJ), r6) else (r09_IsName p1).bind (fun r12 => (bif (!r12) then some (([] : List qJ), 18) else (r18_At p0 p1).bind (fun r18 => (bif (decide (r18 ≥ 0)) then some (([] : List qJ), 19) else (bif ((p0.length : Int) == 8) then some (([] : List qJ), 5) else (loopO (fun (s22 : Int) => ((bif (decide (s22 < (p0.length : Int))) then (idx p0 s22).bind (fun x31 => some (sLt x31.Name p1)) else some false)).bind (fun (j27 : Bool) => (bif j27 then some (.inl (w64 (s22 + 1))) else some (.inr s22)))) 0).bind (fun (s35 : Int) => (sub p0 0 s35).bind (fun x36 => (app 40 ([] : List qJ) x36).bind (fun x39 => (app 40 x39 ([{ z_qJ with Name := p1 }] : List qJ)).bind (fun x55 => (sub p0 s35 (p0.length : Int)).bind (fun x64 => (app 40 x55 x64).bind (fun x65 => some (x65, 0))))))))))))))
theorem r18_Create_ok {p0 : List qJ} {p1 : By8} {a_p0 : Option Addr} {c_p0 : Nat} (h_p0 : RSl 2 R_qJ I a_p0 c_p0 p0) (hS : St E w I Os) {r : (List qJ) × Int} (D : r18_Create p0 p1 = some r) :
    Calls P 97 #[(Sl a_p0 p0 c_p0), (.string p1)] w (fun e w' => ∃ (I' : Mem) (ra0 : Option Addr) (rc0 : Nat), e = .returned (.tuple #[(Sl ra0 r.1 rc0), (Iv r.2)]) ∧ I.Le I' ∧ St E w' I' Os ∧ RSl 2 R_qJ I' ra0 rc0 r.1) := by
 refine calls_W (fn := Tryz.f97) rfl rfl rfl ?_
 unfold r18_Create at D
 refine ye nL2 (yaf 0 4 (.slice none 0 0) (ya 1 1 z (y8 nL3 (ya 0 1 z (bsk D fun r6 Xr1 D => WO.c1 (r18_Check_ok h_p0 hS Xr1) z fun I3 w2 L4 S5 => ya 2 1 z (yb (yi (ye nL2 (ya 0 2 z (yb (y3 D (fun G D => ?_) (fun G D => ?_))))))))))))
 exact ye nL3 (ya 0 1 z (yaf 1 4 (.slice none 0 0) (ya 2 1 z (yb (yq (yf (sj D ▸ ya8 ⟨I3, none, 0, rfl, L4, S5, SlAt.nil⟩)))))))
 refine yl (yc (yi (ye nL3 (ya 0 1 z (bsk D fun r12 Xr7 D => WO.c1 (r09_IsName_ok  S5 Xr7) z fun I9 w8 L10 S11 => ya 2 1 z (yb (y3 D (fun G D => ?_) (fun G D => ?_))))))))
 exact ye nL2 (yaf 0 4 (.slice none 0 0) (ya 1 1 z (yb (yq (yf (sj D ▸ ya8 ⟨I9, none, 0, rfl, le, S11, SlAt.nil⟩))))))
 refine yl (yc (yi (ye nL4 (ya 0 2 z (bsk D fun r18 Xr13 D => WO.c1 (r18_At_ok (up h_p0) S11 Xr13) z fun I15 w14 L16 S17 => ya 3 1 z (yb (y3 D (fun G D => ?_) (fun G D => ?_))))))))
 exact ye nL2 (yaf 0 4 (.slice none 0 0) (ya 1 1 z (yb (yq (yf (sj D ▸ ya8 ⟨I15, none, 0, rfl, le, S17, SlAt.nil⟩))))))
 refine yl (yc (yi (ye nL3 (ya 0 3 z (yb (y3 D (fun G D => ?_) (fun G D => ?_)))))))
 exact ye nL2 (yaf 0 4 (.slice none 0 0) (ya 1 1 z (yb (yq (yf (sj D ▸ ya8 ⟨I15, none, 0, rfl, le, S17, SlAt.nil⟩))))))
 refine yl (yc (ye [0] (ya 0 1 z (yb (yi (yo (bsk D fun t19 hloop23 D => W.wk (ya4 hloop23 (fun (s22 : Int) => JI E I15 [(0, Sl a_p0 p0 c_p0), (1, .string p1), (7, Iv s22)] Os) ⟨I15, rfl, lr, S17⟩ ?_))))))))
 rintro s22 _ w24 ⟨I20, rfl, L21, S25⟩ x26 R1 hext19
 refine yi (ye nL13 (ya 0 5 z (bsk R1 fun j27 R2 R1 => yao (l1 := [5, 6, 7, 8, 9, 10, 11, 12]) (J := JI E I20 [(0, Sl a_p0 p0 c_p0), (1, .string p1), (7, Iv s22), (36, .bool j27)] Os) ?_ ?_)))
 refine yan R2 (fun G R2 => ?_) (fun G R2 => ?_)
 refine y7 28 G (ya 5 2 z ?_)
 obtain ⟨x31, R2, Hx31, _, ⟨w_x31, rfl, h_x31⟩, Zx31⟩ := sx I20 h_p0 R2
 exact yac 73 2 Hx31 z (yh 8 1 [0] z (yar Zx31 S25.rm z (ya 10 1 z (yaf 11 35 (.bool (sLt x31.Name p1)) (ya 12 1 z (sj R2 ▸ y6 ⟨I20, rfl, lr, S25⟩))))))
 refine y7 28 G ?_
 iterate 7 refine yam ?_
 exact ya 12 1 z (sj R2 ▸ y6 ⟨I20, rfl, lr, S25⟩)
 rintro _ w32 ⟨I29, rfl, L30, S33⟩
 refine yb (y3 R1 (fun G R1 => ?_) (fun G R1 => ?_))
 exact yl (yc (yo (yai nL3 (ya 0 3 z (yr (ym (yx ⟨(w64 (s22 + 1)), (sj R1).symm, I29, rfl, le, S33⟩)))))))
 refine yab (yp (yt ?_))
 obtain rfl := hext19 _ (sj R1).symm
 refine yu (yc (ye [0] (yaf 0 8 (.slice none 0 0) (y8 nL6 (ya 0 3 z ?_)))))
 obtain ⟨x76, Xx76, D⟩ := bsm D
 obtain ⟨h0_x76, h1_x76, h2_x76, he_x76⟩ := sub_some Xx76
 have hl_x76 : (s22 : Int) ≤ (c_p0 : Int) := Int.le_trans h2_x76 (Int.ofNat_le.2 ((RSl.mono h_p0 ((((L4.trans L10).trans L16).trans L21).trans L30))).le)
 refine ybe (e := 73) (sz := 2) z kr kr kr z (0 : Int) (s22 : Int) h0_x76 (.inl ⟨rfl, rfl⟩) (.inr ⟨_, _, rfl, rfl⟩) h1_x76 hl_x76 ?_
 obtain ⟨a_x76, c_x76, h_x76, ev_x76⟩ := sub_ok ((RSl.mono h_p0 ((((L4.trans L10).trans L16).trans L21).trans L30))) h0_x76 h1_x76 h2_x76 he_x76
 refine yz 42 z ev_x76 ?_
 have S78 := S33.no
 refine apk D fun x79 h0_x79 he_x79 D => ybd (e' := 73) (b := 40) (zs := (cs_qJ z_qJ zw_qJ).toArray) S78 (OwnSl.nil (T := 73) (rel := R_qJ) (I := I29)) z kr z kr kr kr z z z z h_x76 S78.im h0_x79 he_x79 tv ?_
 intro a80 c81 w82 C83 S84 ho85
 refine ya 5 1 z (y8 nL6 (ya 0 2 z (yaf 2 46 (.agg (cs_qJ ({ z_qJ with Name := p1 }) zw_qJ).toArray) ?_)))
 have hk93 : ok_qJ I29 ({ z_qJ with Name := p1 }) zw_qJ := ⟨SlAt.nil⟩
 refine yag (rel := R_qJ) (xs := ([{ z_qJ with Name := p1 }] : List qJ)) S84 z kr z 73 2 [(cs_qJ ({ z_qJ with Name := p1 }) zw_qJ)] kr z ((Elr.cons ⟨zw_qJ, rfl, hk93⟩ Elr.nil)) tv ?_
 intro a89 C87 w91 S90 ho88
 have S94 := S90.front1
 refine apk D fun x95 h0_x95 he_x95 D => ya2 73 40 (cs_qJ z_qJ zw_qJ) S94 ho85 ho88.sl (S94.rd m1) h0_x95 he_x95 z fun a96 c97 w98 C99 S100 ho101 => have S103 := S100.front1.drop; ya 5 1 z (y8 nL7 (ya 0 3 z ?_))
 obtain ⟨x104, Xx104, D⟩ := bsm D
 obtain ⟨h0_x104, h1_x104, h2_x104, he_x104⟩ := sub_some Xx104
 have hl_x104 : ((p0.length : Int) : Int) ≤ (c_p0 : Int) := Int.le_trans h2_x104 (Int.ofNat_le.2 ((RSl.mono h_p0 ((((L4.trans L10).trans L16).trans L21).trans L30))).le)
 refine ybe (e := 73) (sz := 2) z kr kr kr z (s22 : Int) ((p0.length : Int) : Int) h0_x104 (.inr ⟨_, _, rfl, rfl⟩) (.inl ⟨rfl, rfl⟩) h1_x104 hl_x104 ?_
 obtain ⟨a_x104, c_x104, h_x104, ev_x104⟩ := sub_ok ((RSl.mono h_p0 ((((L4.trans L10).trans L16).trans L21).trans L30))) h0_x104 h1_x104 h2_x104 he_x104
 refine yz 52 z ev_x104 ?_
 refine apk D fun x105 h0_x105 he_x105 D => ya2 73 40 (cs_qJ z_qJ zw_qJ) S103 ho101 h_x104 S103.im h0_x105 he_x105 z ?_
 intro a106 c107 w108 C109 S110 ho111
 obtain ⟨I112, L113, S115, hp114⟩ := yah ho111 S110
 exact ya 5 2 z (yb (yq (sj D ▸ ya8 ⟨I112, a106, c107, rfl, le, S115, hp114⟩)))
def r18_turned (p0 : List qJ) (p1 : Int) (p2 : List By8) : Option (List qJ) := (app 40 ([] : List qJ) p0).bind (fun x3 => (idx x3 p1).bind (fun x10 => some (x3.set (p1).toNat ({ x10 with In := p2 }))))
theorem r18_turned_ok {p0 : List qJ} {p1 : Int} {p2 : List By8} {a_p0 : Option Addr} {c_p0 : Nat} {a_p2 : Option Addr} {c_p2 : Nat} (h_p0 : RSl 2 R_qJ I a_p0 c_p0 p0) (h_p2 : RSl 1 RStr I a_p2 c_p2 p2) (hS : St E w I Os) {r : (List qJ)} (D : r18_turned p0 p1 p2 = some r) :
    Calls P 125 #[(Sl a_p0 p0 c_p0), (Iv p1), (Sl a_p2 p2 c_p2)] w (fun e w' => ∃ (I' : Mem) (ra0 : Option Addr) (rc0 : Nat), e = .returned (Sl ra0 r rc0) ∧ I.Le I' ∧ St E w' I' Os ∧ RSl 2 R_qJ I' ra0 rc0 r) := by
 refine calls_W (fn := Tryz.f125) rfl rfl rfl ?_
 unfold r18_turned at D
 refine ye [0] (yaf 0 6 (.slice none 0 0) (y8 [0] (yaf 0 7 (.slice none 0 0) (y8 nL4 (ya 0 2 z (have S2 := hS.no; apk D fun x3 h0_x3 he_x3 D => ybd (e' := 73) (b := 40) (zs := (cs_qJ z_qJ zw_qJ).toArray) S2 (OwnSl.nil (T := 73) (rel := R_qJ) (I := I)) z kr z kr kr kr z z z z h_p0 S2.im h0_x3 he_x3 tv ?_))))))
 intro a4 c5 w6 C7 S8 ho9
 refine ya 3 1 z (y8 nL6 (ya 0 3 z ?_))
 obtain ⟨x10, D, h0_x10, h1_x10, Xx10, ha_x10, _, _, ⟨w_x10, rfl, h_x10⟩, Zx10⟩ := sl_at (ho9.sl) D
 refine ya5 73 2 ha_x10 h0_x10 h1_x10 ?_
 refine yh 4 1 [1] z ?_
 have hk15 : ok_qJ I ({ x10 with In := p2 }) (⟨⟨a_p2, c_p2⟩⟩ : W_qJ) := ⟨h_p2⟩
 refine yaw S8 ho9 z kr z Xx10 (u' := { x10 with In := p2 }) 1 z z kr z z (fun cs hrel => (by obtain ⟨w_zz, rfl, h_zz⟩ := hrel; exact ⟨{ w_zz with In := ⟨a_p2, c_p2⟩ }, rfl, { h_zz with In := h_p2 }⟩)) tv ?_
 intro w12 C13 S11 ho14
 refine yz 7 z (show Value.slice a4 x3.length c5 = Value.slice a4 (x3.set (p1).toNat ({ x10 with In := p2 })).length c5 by simp only [List.length_set]) ?_
 refine y8 nL2 (ya 0 1 z ?_)
 obtain ⟨I16, L17, S19, hp18⟩ := yah ho14 S11
 exact ya 1 1 z (yb (yq (sj D ▸ yy ⟨I16, a4, c5, rfl, L17, S19, hp18⟩)))
end Go.Proofs.YtdhfbakalknplaaGreat
