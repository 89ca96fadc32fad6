/- What functions of the program come to, each by a plain one. Conditions: none. -/
import Derived.Test.YtlfphpegelclpaaGreatProg
import Derived.Test.YtlfphpegelclpaaGreatShelf
set_option maxRecDepth 100000
namespace Go.Proofs.YtlfphpegelclpaaGreat
open Go.Gv
set_option maxHeartbeats 1000000
variable {E w : World} {I : Mem} {Os : List Mem}
noncomputable abbrev P := Tryz.prog
structure qV where
  Kind : Int
  N : Int
  S : By8
def cs_qV (x : qV) : List Value := [.int .i64 x.Kind, .int .i64 x.N, .string x.S]
abbrev vV (x : qV) : Value := .agg (cs_qV x).toArray
def R_qV (I : Mem) (cs : List Value) (x : qV) : Prop := cs = cs_qV x
instance : Mono R_qV := ⟨fun hl h => (by obtain rfl := h; exact rfl), fun h c hv => (by obtain rfl := h; exact (by simp only [cs_qV, List.mem_cons, List.not_mem_nil, or_false] at hv; rcases hv with rfl | rfl | rfl <;> first | rfl | rfl))⟩
def z_qV : qV := ⟨0, 0, eB⟩
structure qE where
  Kind : Int
  Op : Int
  V : qV
  Name : By8
  Kids : List qE
structure W_qE where
  Kids : SW
def cs_qE (x : qE) (v : W_qE) : List Value := [.int .i64 x.Kind, .int .i64 x.Op, .int .i64 x.V.Kind, .int .i64 x.V.N, .string x.V.S, .string x.Name, .slice v.Kids.a x.Kids.length v.Kids.c]
abbrev vE (x : qE) (v : W_qE) : Value := .agg (cs_qE x v).toArray
abbrev bE (bb : Nat) (x : qE) (v : W_qE) : Mem := Bx bb (cs_qE x v) 61
structure okF_qE (R : Mem → List Value → qE → Prop) (I : Mem) (x : qE) (v : W_qE) : Prop where
  Kids : RSl 7 R I v.Kids.a v.Kids.c x.Kids
theorem okF_qE.mono {R : Mem → List Value → qE → Prop} [Mono R] {I J : Mem} {x : qE} {v : W_qE} (h : okF_qE R I x v) (hl : I.Le J) : okF_qE R J x v := ⟨RSl.mono h.Kids hl⟩
theorem okF_qE.map {R S : Mem → List Value → qE → Prop} (hm : ∀ I cs x, R I cs x → S I cs x) {I : Mem} {x : qE} {v : W_qE} (h : okF_qE R I x v) : okF_qE S I x v := ⟨SlAt.map (hm I) h.Kids⟩
def RF_qE : Nat → Mem → List Value → qE → Prop
  | 0, _, _, _ => False
  | k + 1, I, cs, x => ∃ v : W_qE, cs = cs_qE x v ∧ okF_qE (RF_qE k) I x v
def Q_qE (I : Mem) (cs : List Value) (x : qE) : Prop := ∃ k, RF_qE k I cs x
abbrev ok_qE (I : Mem) (x : qE) (v : W_qE) : Prop := okF_qE Q_qE I x v
theorem RF_qE_up : ∀ (k : Nat) (I : Mem) (cs : List Value) (x : qE), RF_qE k I cs x → RF_qE (k + 1) I cs x
  | 0, _, _, _, h => h.elim
  | k + 1, I, cs, x, ⟨v, e, h⟩ => ⟨v, e, h.map (RF_qE_up k)⟩
theorem Q_qE_iff {I : Mem} {cs : List Value} {x : qE} : Q_qE I cs x ↔ ∃ v : W_qE, cs = cs_qE x v ∧ ok_qE I x v := by
  constructor
  · rintro ⟨k, h⟩
    cases k with
    | zero => exact h.elim
    | succ k =>
      obtain ⟨v, e, h⟩ := h
      exact ⟨v, e, h.map fun _ _ _ h => ⟨k, h⟩⟩
  · rintro ⟨v, e, h⟩
    obtain ⟨k, b⟩ := ybu (R := RF_qE) (fun k cs x => RF_qE_up k I cs x) h.Kids
    exact ⟨k + 1, v, e, ⟨b⟩⟩
theorem RF_qE_mono : ∀ k : Nat, Mono (RF_qE k)
  | 0 => ⟨fun _ h => h.elim, fun h => h.elim⟩
  | k + 1 => by
    haveI := RF_qE_mono k
    exact ⟨fun hl h => (by obtain ⟨v, rfl, h⟩ := h; exact ⟨v, rfl, h.mono hl⟩), fun h c hv => (by obtain ⟨v, rfl, h⟩ := h; exact (by simp only [cs_qE, List.mem_cons, List.not_mem_nil, or_false] at hv; rcases hv with rfl | rfl | rfl | rfl | rfl | rfl | rfl <;> first | rfl | rfl))⟩
instance : Mono Q_qE := ⟨fun hl h => (by obtain ⟨k, h⟩ := h; exact ⟨k, (RF_qE_mono k).mono hl h⟩), fun h c hv => (by obtain ⟨k, h⟩ := h; exact (RF_qE_mono k).one h c hv)⟩
theorem ok_qE.mono {I J : Mem} {x : qE} {v : W_qE} (h : ok_qE I x v) (hl : I.Le J) : ok_qE J x v := okF_qE.mono h hl
def R_qE (I : Mem) (cs : List Value) (x : qE) : Prop := ∃ v : W_qE, cs = cs_qE x v ∧ ok_qE I x v
instance : Mono R_qE := ⟨fun hl h => (by obtain ⟨v, rfl, h⟩ := h; exact ⟨v, rfl, h.mono hl⟩), fun h c hv => (by obtain ⟨v, rfl, h⟩ := h; exact (by simp only [cs_qE, List.mem_cons, List.not_mem_nil, or_false] at hv; rcases hv with rfl | rfl | rfl | rfl | rfl | rfl | rfl <;> first | rfl | rfl))⟩
def z_qE : qE := ⟨0, 0, z_qV, eB, []⟩
def zw_qE : W_qE := ⟨⟨none, 0⟩⟩
theorem zok_qE {I : Mem} : ok_qE I z_qE zw_qE := ⟨SlAt.nil⟩
structure qL where
  Name : By8
  Type_ : Int
  NotNull : Bool
def cs_qL (x : qL) : List Value := [.string x.Name, .int .i64 x.Type_, .bool x.NotNull]
abbrev vL (x : qL) : Value := .agg (cs_qL x).toArray
def R_qL (I : Mem) (cs : List Value) (x : qL) : Prop := cs = cs_qL x
instance : Mono R_qL := ⟨fun hl h => (by obtain rfl := h; exact rfl), fun h c hv => (by obtain rfl := h; exact (by simp only [cs_qL, List.mem_cons, List.not_mem_nil, or_false] at hv; rcases hv with rfl | rfl | rfl <;> first | rfl | rfl))⟩
def z_qL : qL := ⟨eB, 0, false⟩
structure qK where
  Name : By8
  Kind : Int
  Cols : List By8
  Check : qE
  Table : By8
  Refs : List By8
structure W_qK where
  Cols : SW
  Check : W_qE
  Refs : SW
def cs_qK (x : qK) (v : W_qK) : List Value := [.string x.Name, .int .i64 x.Kind, .slice v.Cols.a x.Cols.length v.Cols.c, .int .i64 x.Check.Kind, .int .i64 x.Check.Op, .int .i64 x.Check.V.Kind, .int .i64 x.Check.V.N, .string x.Check.V.S, .string x.Check.Name, .slice v.Check.Kids.a x.Check.Kids.length v.Check.Kids.c, .string x.Table, .slice v.Refs.a x.Refs.length v.Refs.c]
abbrev vK (x : qK) (v : W_qK) : Value := .agg (cs_qK x v).toArray
abbrev bK (bb : Nat) (x : qK) (v : W_qK) : Mem := Bx bb (cs_qK x v) 116
structure ok_qK (I : Mem) (x : qK) (v : W_qK) : Prop where
  Cols : RSl 1 RStr I v.Cols.a v.Cols.c x.Cols
  Check : ok_qE I x.Check v.Check
  Refs : RSl 1 RStr I v.Refs.a v.Refs.c x.Refs
theorem ok_qK.mono {I J : Mem} {x : qK} {v : W_qK} (h : ok_qK I x v) (hl : I.Le J) : ok_qK J x v := ⟨RSl.mono h.Cols hl, h.Check.mono hl, RSl.mono h.Refs hl⟩
def R_qK (I : Mem) (cs : List Value) (x : qK) : Prop := ∃ v : W_qK, cs = cs_qK x v ∧ ok_qK I x v
instance : Mono R_qK := ⟨fun hl h => (by obtain ⟨v, rfl, h⟩ := h; exact ⟨v, rfl, h.mono hl⟩), fun h c hv => (by obtain ⟨v, rfl, h⟩ := h; exact (by simp only [cs_qK, List.mem_cons, List.not_mem_nil, or_false] at hv; rcases hv with rfl | rfl | rfl | rfl | rfl | rfl | rfl | rfl | rfl | rfl | rfl | rfl <;> first | rfl | rfl))⟩
def z_qK : qK := ⟨eB, 0, [], z_qE, eB, []⟩
def zw_qK : W_qK := ⟨⟨none, 0⟩, zw_qE, ⟨none, 0⟩⟩
theorem zok_qK {I : Mem} : ok_qK I z_qK zw_qK := ⟨SlAt.nil, zok_qE, SlAt.nil⟩
structure qSet where
  Name : By8
  E : qE
structure W_qSet where
  E : W_qE
def cs_qSet (x : qSet) (v : W_qSet) : List Value := [.string x.Name, .int .i64 x.E.Kind, .int .i64 x.E.Op, .int .i64 x.E.V.Kind, .int .i64 x.E.V.N, .string x.E.V.S, .string x.E.Name, .slice v.E.Kids.a x.E.Kids.length v.E.Kids.c]
structure ok_qSet (I : Mem) (x : qSet) (v : W_qSet) : Prop where
  E : ok_qE I x.E v.E
theorem ok_qSet.mono {I J : Mem} {x : qSet} {v : W_qSet} (h : ok_qSet I x v) (hl : I.Le J) : ok_qSet J x v := ⟨h.E.mono hl⟩
def R_qSet (I : Mem) (cs : List Value) (x : qSet) : Prop := ∃ v : W_qSet, cs = cs_qSet x v ∧ ok_qSet I x v
instance : Mono R_qSet := ⟨fun hl h => (by obtain ⟨v, rfl, h⟩ := h; exact ⟨v, rfl, h.mono hl⟩), fun h c hv => (by obtain ⟨v, rfl, h⟩ := h; exact (by simp only [cs_qSet, List.mem_cons, List.not_mem_nil, or_false] at hv; rcases hv with rfl | rfl | rfl | rfl | rfl | rfl | rfl | rfl <;> first | rfl | rfl))⟩
def z_qSet : qSet := ⟨eB, z_qE⟩
def zw_qSet : W_qSet := ⟨zw_qE⟩
theorem zok_qSet {I : Mem} : ok_qSet I z_qSet zw_qSet := ⟨zok_qE⟩
structure qO where
  E : qE
  Desc : Bool
structure W_qO where
  E : W_qE
def cs_qO (x : qO) (v : W_qO) : List Value := [.int .i64 x.E.Kind, .int .i64 x.E.Op, .int .i64 x.E.V.Kind, .int .i64 x.E.V.N, .string x.E.V.S, .string x.E.Name, .slice v.E.Kids.a x.E.Kids.length v.E.Kids.c, .bool x.Desc]
abbrev vO (x : qO) (v : W_qO) : Value := .agg (cs_qO x v).toArray
structure ok_qO (I : Mem) (x : qO) (v : W_qO) : Prop where
  E : ok_qE I x.E v.E
theorem ok_qO.mono {I J : Mem} {x : qO} {v : W_qO} (h : ok_qO I x v) (hl : I.Le J) : ok_qO J x v := ⟨h.E.mono hl⟩
def R_qO (I : Mem) (cs : List Value) (x : qO) : Prop := ∃ v : W_qO, cs = cs_qO x v ∧ ok_qO I x v
instance : Mono R_qO := ⟨fun hl h => (by obtain ⟨v, rfl, h⟩ := h; exact ⟨v, rfl, h.mono hl⟩), fun h c hv => (by obtain ⟨v, rfl, h⟩ := h; exact (by simp only [cs_qO, List.mem_cons, List.not_mem_nil, or_false] at hv; rcases hv with rfl | rfl | rfl | rfl | rfl | rfl | rfl | rfl <;> first | rfl | rfl))⟩
def z_qO : qO := ⟨z_qE, false⟩
def zw_qO : W_qO := ⟨zw_qE⟩
theorem zok_qO {I : Mem} : ok_qO I z_qO zw_qO := ⟨zok_qE⟩
structure qS where
  Kind : Int
  Table : By8
  Name : By8
  Role : By8
  Cols : List qL
  Cons : List qK
  Names : List By8
  Rows : List (List qE)
  Where : qE
  Sets : List qSet
  Order : List qO
  Limit : Int
  Priv : Int
  Option : Bool
  Kids : List qS
structure W_qS where
  Cols : SW
  Cons : SW
  Names : SW
  Rows : SW
  Where : W_qE
  Sets : SW
  Order : SW
  Kids : SW
def cs_qS (x : qS) (v : W_qS) : List Value := [.int .i64 x.Kind, .string x.Table, .string x.Name, .string x.Role, .slice v.Cols.a x.Cols.length v.Cols.c, .slice v.Cons.a x.Cons.length v.Cons.c, .slice v.Names.a x.Names.length v.Names.c, .slice v.Rows.a x.Rows.length v.Rows.c, .int .i64 x.Where.Kind, .int .i64 x.Where.Op, .int .i64 x.Where.V.Kind, .int .i64 x.Where.V.N, .string x.Where.V.S, .string x.Where.Name, .slice v.Where.Kids.a x.Where.Kids.length v.Where.Kids.c, .slice v.Sets.a x.Sets.length v.Sets.c, .slice v.Order.a x.Order.length v.Order.c, .int .i64 x.Limit, .int .i64 x.Priv, .bool x.Option, .slice v.Kids.a x.Kids.length v.Kids.c]
abbrev vS (x : qS) (v : W_qS) : Value := .agg (cs_qS x v).toArray
abbrev bS (bb : Nat) (x : qS) (v : W_qS) : Mem := Bx bb (cs_qS x v) 66
structure okF_qS (R : Mem → List Value → qS → Prop) (I : Mem) (x : qS) (v : W_qS) : Prop where
  Cols : RSl 3 R_qL I v.Cols.a v.Cols.c x.Cols
  Cons : RSl 12 R_qK I v.Cons.a v.Cons.c x.Cons
  Names : RSl 1 RStr I v.Names.a v.Names.c x.Names
  Rows : RSl 1 (RSlC 7 Q_qE) I v.Rows.a v.Rows.c x.Rows
  Where : ok_qE I x.Where v.Where
  Sets : RSl 8 R_qSet I v.Sets.a v.Sets.c x.Sets
  Order : RSl 8 R_qO I v.Order.a v.Order.c x.Order
  Kids : RSl 21 R I v.Kids.a v.Kids.c x.Kids
theorem okF_qS.mono {R : Mem → List Value → qS → Prop} [Mono R] {I J : Mem} {x : qS} {v : W_qS} (h : okF_qS R I x v) (hl : I.Le J) : okF_qS R J x v := ⟨RSl.mono h.Cols hl, RSl.mono h.Cons hl, RSl.mono h.Names hl, RSl.mono h.Rows hl, h.Where.mono hl, RSl.mono h.Sets hl, RSl.mono h.Order hl, RSl.mono h.Kids hl⟩
theorem okF_qS.map {R S : Mem → List Value → qS → Prop} (hm : ∀ I cs x, R I cs x → S I cs x) {I : Mem} {x : qS} {v : W_qS} (h : okF_qS R I x v) : okF_qS S I x v := ⟨h.Cols, h.Cons, h.Names, h.Rows, h.Where, h.Sets, h.Order, SlAt.map (hm I) h.Kids⟩
def RF_qS : Nat → Mem → List Value → qS → Prop
  | 0, _, _, _ => False
  | k + 1, I, cs, x => ∃ v : W_qS, cs = cs_qS x v ∧ okF_qS (RF_qS k) I x v
def Q_qS (I : Mem) (cs : List Value) (x : qS) : Prop := ∃ k, RF_qS k I cs x
abbrev ok_qS (I : Mem) (x : qS) (v : W_qS) : Prop := okF_qS Q_qS I x v
theorem RF_qS_up : ∀ (k : Nat) (I : Mem) (cs : List Value) (x : qS), RF_qS k I cs x → RF_qS (k + 1) I cs x
  | 0, _, _, _, h => h.elim
  | k + 1, I, cs, x, ⟨v, e, h⟩ => ⟨v, e, h.map (RF_qS_up k)⟩
theorem Q_qS_iff {I : Mem} {cs : List Value} {x : qS} : Q_qS I cs x ↔ ∃ v : W_qS, cs = cs_qS x v ∧ ok_qS I x v := by
  constructor
  · rintro ⟨k, h⟩
    cases k with
    | zero => exact h.elim
    | succ k =>
      obtain ⟨v, e, h⟩ := h
      exact ⟨v, e, h.map fun _ _ _ h => ⟨k, h⟩⟩
  · rintro ⟨v, e, h⟩
    obtain ⟨k, b⟩ := ybu (R := RF_qS) (fun k cs x => RF_qS_up k I cs x) h.Kids
    exact ⟨k + 1, v, e, ⟨h.Cols, h.Cons, h.Names, h.Rows, h.Where, h.Sets, h.Order, b⟩⟩
theorem RF_qS_mono : ∀ k : Nat, Mono (RF_qS k)
  | 0 => ⟨fun _ h => h.elim, fun h => h.elim⟩
  | k + 1 => by
    haveI := RF_qS_mono k
    exact ⟨fun hl h => (by obtain ⟨v, rfl, h⟩ := h; exact ⟨v, rfl, h.mono hl⟩), fun h c hv => (by obtain ⟨v, rfl, h⟩ := h; exact (by simp only [cs_qS, List.mem_cons, List.not_mem_nil, or_false] at hv; rcases hv with rfl | rfl | rfl | rfl | rfl | rfl | rfl | rfl | rfl | rfl | rfl | rfl | rfl | rfl | rfl | rfl | rfl | rfl | rfl | rfl | rfl <;> first | rfl | rfl))⟩
instance : Mono Q_qS := ⟨fun hl h => (by obtain ⟨k, h⟩ := h; exact ⟨k, (RF_qS_mono k).mono hl h⟩), fun h c hv => (by obtain ⟨k, h⟩ := h; exact (RF_qS_mono k).one h c hv)⟩
theorem ok_qS.mono {I J : Mem} {x : qS} {v : W_qS} (h : ok_qS I x v) (hl : I.Le J) : ok_qS J x v := okF_qS.mono h hl
def R_qS (I : Mem) (cs : List Value) (x : qS) : Prop := ∃ v : W_qS, cs = cs_qS x v ∧ ok_qS I x v
instance : Mono R_qS := ⟨fun hl h => (by obtain ⟨v, rfl, h⟩ := h; exact ⟨v, rfl, h.mono hl⟩), fun h c hv => (by obtain ⟨v, rfl, h⟩ := h; exact (by simp only [cs_qS, List.mem_cons, List.not_mem_nil, or_false] at hv; rcases hv with rfl | rfl | rfl | rfl | rfl | rfl | rfl | rfl | rfl | rfl | rfl | rfl | rfl | rfl | rfl | rfl | rfl | rfl | rfl | rfl | rfl <;> first | rfl | rfl))⟩
def z_qS : qS := ⟨0, eB, eB, eB, [], [], [], [], z_qE, [], [], 0, 0, false, []⟩
def zw_qS : W_qS := ⟨⟨none, 0⟩, ⟨none, 0⟩, ⟨none, 0⟩, ⟨none, 0⟩, zw_qE, ⟨none, 0⟩, ⟨none, 0⟩, ⟨none, 0⟩⟩
theorem zok_qS {I : Mem} : ok_qS I z_qS zw_qS := ⟨SlAt.nil, SlAt.nil, SlAt.nil, SlAt.nil, zok_qE, SlAt.nil, SlAt.nil, SlAt.nil⟩
structure law19_Act where
  S : qS
  By : By8
structure W_law19_Act where
  S : W_qS
def cs_law19_Act (x : law19_Act) (v : W_law19_Act) : List Value := [.int .i64 x.S.Kind, .string x.S.Table, .string x.S.Name, .string x.S.Role, .slice v.S.Cols.a x.S.Cols.length v.S.Cols.c, .slice v.S.Cons.a x.S.Cons.length v.S.Cons.c, .slice v.S.Names.a x.S.Names.length v.S.Names.c, .slice v.S.Rows.a x.S.Rows.length v.S.Rows.c, .int .i64 x.S.Where.Kind, .int .i64 x.S.Where.Op, .int .i64 x.S.Where.V.Kind, .int .i64 x.S.Where.V.N, .string x.S.Where.V.S, .string x.S.Where.Name, .slice v.S.Where.Kids.a x.S.Where.Kids.length v.S.Where.Kids.c, .slice v.S.Sets.a x.S.Sets.length v.S.Sets.c, .slice v.S.Order.a x.S.Order.length v.S.Order.c, .int .i64 x.S.Limit, .int .i64 x.S.Priv, .bool x.S.Option, .slice v.S.Kids.a x.S.Kids.length v.S.Kids.c, .string x.By]
structure ok_law19_Act (I : Mem) (x : law19_Act) (v : W_law19_Act) : Prop where
  S : ok_qS I x.S v.S
theorem ok_law19_Act.mono {I J : Mem} {x : law19_Act} {v : W_law19_Act} (h : ok_law19_Act I x v) (hl : I.Le J) : ok_law19_Act J x v := ⟨h.S.mono hl⟩
def R_law19_Act (I : Mem) (cs : List Value) (x : law19_Act) : Prop := ∃ v : W_law19_Act, cs = cs_law19_Act x v ∧ ok_law19_Act I x v
instance : Mono R_law19_Act := ⟨fun hl h => (by obtain ⟨v, rfl, h⟩ := h; exact ⟨v, rfl, h.mono hl⟩), fun h c hv => (by obtain ⟨v, rfl, h⟩ := h; exact (by simp only [cs_law19_Act, List.mem_cons, List.not_mem_nil, or_false] at hv; rcases hv with rfl | rfl | rfl | rfl | rfl | rfl | rfl | rfl | rfl | rfl | rfl | rfl | rfl | rfl | rfl | rfl | rfl | rfl | rfl | rfl | rfl | rfl <;> first | rfl | rfl))⟩
def z_law19_Act : law19_Act := ⟨z_qS, eB⟩
def zw_law19_Act : W_law19_Act := ⟨zw_qS⟩
theorem zok_law19_Act {I : Mem} : ok_law19_Act I z_law19_Act zw_law19_Act := ⟨zok_qS⟩
structure qI where
  Name : By8
  Cols : List By8
structure W_qI where
  Cols : SW
def cs_qI (x : qI) (v : W_qI) : List Value := [.string x.Name, .slice v.Cols.a x.Cols.length v.Cols.c]
abbrev vI (x : qI) (v : W_qI) : Value := .agg (cs_qI x v).toArray
abbrev bI (bb : Nat) (x : qI) (v : W_qI) : Mem := Bx bb (cs_qI x v) 163
structure ok_qI (I : Mem) (x : qI) (v : W_qI) : Prop where
  Cols : RSl 1 RStr I v.Cols.a v.Cols.c x.Cols
theorem ok_qI.mono {I J : Mem} {x : qI} {v : W_qI} (h : ok_qI I x v) (hl : I.Le J) : ok_qI J x v := ⟨RSl.mono h.Cols hl⟩
def R_qI (I : Mem) (cs : List Value) (x : qI) : Prop := ∃ v : W_qI, cs = cs_qI x v ∧ ok_qI I x v
instance : Mono R_qI := ⟨fun hl h => (by obtain ⟨v, rfl, h⟩ := h; exact ⟨v, rfl, h.mono hl⟩), fun h c hv => (by obtain ⟨v, rfl, h⟩ := h; exact (by simp only [cs_qI, List.mem_cons, List.not_mem_nil, or_false] at hv; rcases hv with rfl | rfl <;> first | rfl | rfl))⟩
def z_qI : qI := ⟨eB, []⟩
def zw_qI : W_qI := ⟨⟨none, 0⟩⟩
theorem zok_qI {I : Mem} : ok_qI I z_qI zw_qI := ⟨SlAt.nil⟩
structure qT where
  Name : By8
  Owner : By8
  Version : Int
  Cols : List qL
  Cons : List qK
  Idx : List qI
structure W_qT where
  Cols : SW
  Cons : SW
  Idx : SW
def cs_qT (x : qT) (v : W_qT) : List Value := [.string x.Name, .string x.Owner, .int .i64 x.Version, .slice v.Cols.a x.Cols.length v.Cols.c, .slice v.Cons.a x.Cons.length v.Cons.c, .slice v.Idx.a x.Idx.length v.Idx.c]
abbrev vT (x : qT) (v : W_qT) : Value := .agg (cs_qT x v).toArray
abbrev bT (bb : Nat) (x : qT) (v : W_qT) : Mem := Bx bb (cs_qT x v) 104
structure ok_qT (I : Mem) (x : qT) (v : W_qT) : Prop where
  Cols : RSl 3 R_qL I v.Cols.a v.Cols.c x.Cols
  Cons : RSl 12 R_qK I v.Cons.a v.Cons.c x.Cons
  Idx : RSl 2 R_qI I v.Idx.a v.Idx.c x.Idx
theorem ok_qT.mono {I J : Mem} {x : qT} {v : W_qT} (h : ok_qT I x v) (hl : I.Le J) : ok_qT J x v := ⟨RSl.mono h.Cols hl, RSl.mono h.Cons hl, RSl.mono h.Idx hl⟩
def R_qT (I : Mem) (cs : List Value) (x : qT) : Prop := ∃ v : W_qT, cs = cs_qT x v ∧ ok_qT I x v
instance : Mono R_qT := ⟨fun hl h => (by obtain ⟨v, rfl, h⟩ := h; exact ⟨v, rfl, h.mono hl⟩), fun h c hv => (by obtain ⟨v, rfl, h⟩ := h; exact (by simp only [cs_qT, List.mem_cons, List.not_mem_nil, or_false] at hv; rcases hv with rfl | rfl | rfl | rfl | rfl | rfl <;> first | rfl | rfl))⟩
def z_qT : qT := ⟨eB, eB, 0, [], [], []⟩
def zw_qT : W_qT := ⟨⟨none, 0⟩, ⟨none, 0⟩, ⟨none, 0⟩⟩
theorem zok_qT {I : Mem} : ok_qT I z_qT zw_qT := ⟨SlAt.nil, SlAt.nil, SlAt.nil⟩
structure qJ where
  Name : By8
  In : List By8
structure W_qJ where
  In : SW
def cs_qJ (x : qJ) (v : W_qJ) : List Value := [.string x.Name, .slice v.In.a x.In.length v.In.c]
abbrev vJ (x : qJ) (v : W_qJ) : Value := .agg (cs_qJ x v).toArray
abbrev bJ (bb : Nat) (x : qJ) (v : W_qJ) : Mem := Bx bb (cs_qJ x v) 74
structure ok_qJ (I : Mem) (x : qJ) (v : W_qJ) : Prop where
  In : RSl 1 RStr I v.In.a v.In.c x.In
theorem ok_qJ.mono {I J : Mem} {x : qJ} {v : W_qJ} (h : ok_qJ I x v) (hl : I.Le J) : ok_qJ J x v := ⟨RSl.mono h.In hl⟩
def R_qJ (I : Mem) (cs : List Value) (x : qJ) : Prop := ∃ v : W_qJ, cs = cs_qJ x v ∧ ok_qJ I x v
instance : Mono R_qJ := ⟨fun hl h => (by obtain ⟨v, rfl, h⟩ := h; exact ⟨v, rfl, h.mono hl⟩), fun h c hv => (by obtain ⟨v, rfl, h⟩ := h; exact (by simp only [cs_qJ, List.mem_cons, List.not_mem_nil, or_false] at hv; rcases hv with rfl | rfl <;> first | rfl | rfl))⟩
def z_qJ : qJ := ⟨eB, []⟩
def zw_qJ : W_qJ := ⟨⟨none, 0⟩⟩
theorem zok_qJ {I : Mem} : ok_qJ I z_qJ zw_qJ := ⟨SlAt.nil⟩
structure qG where
  To : By8
  By : By8
  Table : By8
  Priv : Int
  Option : Bool
def cs_qG (x : qG) : List Value := [.string x.To, .string x.By, .string x.Table, .int .i64 x.Priv, .bool x.Option]
abbrev vG (x : qG) : Value := .agg (cs_qG x).toArray
abbrev bG (bb : Nat) (x : qG) : Mem := Bx bb (cs_qG x) 50
def R_qG (I : Mem) (cs : List Value) (x : qG) : Prop := cs = cs_qG x
instance : Mono R_qG := ⟨fun hl h => (by obtain rfl := h; exact rfl), fun h c hv => (by obtain rfl := h; exact (by simp only [cs_qG, List.mem_cons, List.not_mem_nil, or_false] at hv; rcases hv with rfl | rfl | rfl | rfl | rfl <;> first | rfl | rfl))⟩
def z_qG : qG := ⟨eB, eB, eB, 0, false⟩
structure qC where
  Version : Int
  Tables : List qT
  Roles : List qJ
  Grants : List qG
structure W_qC where
  Tables : SW
  Roles : SW
  Grants : SW
def cs_qC (x : qC) (v : W_qC) : List Value := [.int .i64 x.Version, .slice v.Tables.a x.Tables.length v.Tables.c, .slice v.Roles.a x.Roles.length v.Roles.c, .slice v.Grants.a x.Grants.length v.Grants.c]
abbrev vC (x : qC) (v : W_qC) : Value := .agg (cs_qC x v).toArray
abbrev bC (bb : Nat) (x : qC) (v : W_qC) : Mem := Bx bb (cs_qC x v) 33
structure ok_qC (I : Mem) (x : qC) (v : W_qC) : Prop where
  Tables : RSl 6 R_qT I v.Tables.a v.Tables.c x.Tables
  Roles : RSl 2 R_qJ I v.Roles.a v.Roles.c x.Roles
  Grants : RSl 5 R_qG I v.Grants.a v.Grants.c x.Grants
theorem ok_qC.mono {I J : Mem} {x : qC} {v : W_qC} (h : ok_qC I x v) (hl : I.Le J) : ok_qC J x v := ⟨RSl.mono h.Tables hl, RSl.mono h.Roles hl, RSl.mono h.Grants hl⟩
def R_qC (I : Mem) (cs : List Value) (x : qC) : Prop := ∃ v : W_qC, cs = cs_qC x v ∧ ok_qC I x v
instance : Mono R_qC := ⟨fun hl h => (by obtain ⟨v, rfl, h⟩ := h; exact ⟨v, rfl, h.mono hl⟩), fun h c hv => (by obtain ⟨v, rfl, h⟩ := h; exact (by simp only [cs_qC, List.mem_cons, List.not_mem_nil, or_false] at hv; rcases hv with rfl | rfl | rfl | rfl <;> first | rfl | rfl))⟩
def z_qC : qC := ⟨0, [], [], []⟩
def zw_qC : W_qC := ⟨⟨none, 0⟩, ⟨none, 0⟩, ⟨none, 0⟩⟩
theorem zok_qC {I : Mem} : ok_qC I z_qC zw_qC := ⟨SlAt.nil, SlAt.nil, SlAt.nil⟩
structure why_asked where
  c : qC
  priv : Int
  table_ : By8
structure W_why_asked where
  c : W_qC
def cs_why_asked (x : why_asked) (v : W_why_asked) : List Value := [.int .i64 x.c.Version, .slice v.c.Tables.a x.c.Tables.length v.c.Tables.c, .slice v.c.Roles.a x.c.Roles.length v.c.Roles.c, .slice v.c.Grants.a x.c.Grants.length v.c.Grants.c, .int .i64 x.priv, .string x.table_]
structure ok_why_asked (I : Mem) (x : why_asked) (v : W_why_asked) : Prop where
  c : ok_qC I x.c v.c
theorem ok_why_asked.mono {I J : Mem} {x : why_asked} {v : W_why_asked} (h : ok_why_asked I x v) (hl : I.Le J) : ok_why_asked J x v := ⟨h.c.mono hl⟩
def R_why_asked (I : Mem) (cs : List Value) (x : why_asked) : Prop := ∃ v : W_why_asked, cs = cs_why_asked x v ∧ ok_why_asked I x v
instance : Mono R_why_asked := ⟨fun hl h => (by obtain ⟨v, rfl, h⟩ := h; exact ⟨v, rfl, h.mono hl⟩), fun h c hv => (by obtain ⟨v, rfl, h⟩ := h; exact (by simp only [cs_why_asked, List.mem_cons, List.not_mem_nil, or_false] at hv; rcases hv with rfl | rfl | rfl | rfl | rfl | rfl <;> first | rfl | rfl))⟩
def z_why_asked : why_asked := ⟨z_qC, 0, eB⟩
def zw_why_asked : W_why_asked := ⟨zw_qC⟩
theorem zok_why_asked {I : Mem} : ok_why_asked I z_why_asked zw_why_asked := ⟨zok_qC⟩
structure law32_Asked where
  Role : By8
  Table : By8
  Priv : Int
def cs_law32_Asked (x : law32_Asked) : List Value := [.string x.Role, .string x.Table, .int .i64 x.Priv]
def R_law32_Asked (I : Mem) (cs : List Value) (x : law32_Asked) : Prop := cs = cs_law32_Asked x
instance : Mono R_law32_Asked := ⟨fun hl h => (by obtain rfl := h; exact rfl), fun h c hv => (by obtain rfl := h; exact (by simp only [cs_law32_Asked, List.mem_cons, List.not_mem_nil, or_false] at hv; rcases hv with rfl | rfl | rfl <;> first | rfl | rfl))⟩
def z_law32_Asked : law32_Asked := ⟨eB, eB, 0⟩
def r10_count_fu : Nat → qE → Int → Option (Int × Bool)
  | 0, _, _ => none
  | fu + 1, p0, p1 => (some ((decide (p1 ≤ 0)) || (decide ((p0.Kids.length : Int) > 12)))).bind (fun (q5 : Bool) => (some ((q5 || (decide ((p0.Name.size : Int) > 100))) || (decide ((p0.V.S.size : Int) > 100)))).bind (fun (q10 : Bool) => (bif q10 then some (0, false) else (forN (fun (i18 : Nat) (s17 : Int) => (idx p0.Kids (i18 : Int)).bind (fun x25 => (r10_count_fu fu x25 s17).bind (fun (r31, r32) => (bif (!r32) then some (.inr ((0 : Int), false)) else some (.inl r31))))) p0.Kids.length 0 (w64 (p1 - 1))).bind (fun (t : Int ⊕ ((Int × Bool))) => match t with | .inl s17 => some (s17, true) | .inr (s34, s35) => some (s34, s35)))))
noncomputable def r10_count (p0 : qE) (p1 : Int) : Option (Int × Bool) := anyFuel (fun fu => r10_count_fu fu p0 p1)
theorem r10_count_fu_ok : ∀ (fu : Nat) {E w : World} {I : Mem} {Os : List Mem} {p0 : qE} {p1 : Int} {w_p0 : W_qE} (h_p0 : ok_qE I p0 w_p0) (hS : St E w I Os) {r : Int × Bool} (D : r10_count_fu fu p0 p1 = some r),
    Calls P 83 #[(vE p0 w_p0), (Iv p1)] w (RT E I Os (.tuple #[(Iv r.1), (.bool r.2)])) := by
 intro fu
 induction fu with
 | zero => intro E w I Os p0 p1 w_p0 h_p0 hS r D; cases D
 | succ fu ih =>
 intro E w I Os p0 p1 w_p0 h_p0 hS r D
 refine calls_W (fn := Tryz.f83) rfl rfl rfl ?_
 unfold r10_count_fu at D
 refine yf nL3 (yz hS (cs_qE p0 w_p0) 61 z fun b1 w4 S3 => ya 1 2 z (yb (W.seq (yf nL21 (ya 0 3 z (bsq D fun q5 Xq5 D => ya2 [3, 4, 5, 6] 7 10 15 Xq5 (fun _ => yg 3 1 [6] z (yj (S3.rf m0) z (ya 5 3 z yah))) (ya 8 1 z (ya2 [9, 10, 11, 12] 13 16 21 (.refl (q5 || (decide ((p0.Name.size : Int) > 100)))) (fun _ => yg 9 1 [5] z (yj (S3.rf m0) z (ya 11 3 z yah))) (ya 14 1 z (bsq D fun q10 Xq10 D => ya2 [15, 16, 17, 18, 19] 20 22 28 Xq10 (fun _ => yg 15 2 [2, 2] z (yj (S3.rf m0) z (ya 18 3 z yah))) (yb (yy D (fun G D => ?_) (fun G D => ?_)))))))))))))
 exact yf nL2 (ya 0 2 z (yb (yq (yh (sj D ▸ yay ⟨I, rfl, lr, S3.drop⟩)))))
 refine W.skip (ye (yf nL3 (ya 0 3 z (yb (W.seq (yf [0] (ya 0 1 z (yb (yl (bsk D fun t14 hloop19 D => have hlt23 := (h_p0.Kids).len_lt; W.wk (yap (m := p0.Kids.length) hloop19 (fun (i18 : Nat) (s17 : Int) => JI E I [(1, Iv s17), (2, Pt b1 0), (6, Nv i18)] (bE b1 p0 w_p0 :: Os)) ⟨I, rfl, lr, S3⟩ ?_ ?_)))))))))))
 rintro i18 s17 _ w20 hi24 ⟨I15, rfl, L16, S21⟩ x22 R1 hext14
 refine W.seq (yf nL5 (yg 0 2 [6] z (yj (S21.rf m0) z (ya 3 2 z (yb (yar fun _ => W.skip (ye (W.seq (yl (yf [0] (ya 0 1 z (y0 nL12 (yg 0 1 [6] z (yj (S21.rf m0) z (ya 2 1 z ?_)))))))))))))))
 obtain ⟨x25, Xx25, R1⟩ := bsm R1
 obtain ⟨h0_x25, h1_x25, Xx25⟩ := idx_some Xx25
 obtain ⟨ha_x25, cs_x25, hn_x25, hr_x25, Zx25⟩ := ((RSl.mono h_p0.Kids L16)).el _ _ Xx25
 obtain ⟨w_x25, rfl, h_x25⟩ := Q_qE_iff.1 hr_x25
 refine ya5 61 7 ha_x25 h0_x25 h1_x25 ?_
 refine yau ((cs_qE x25 w_x25)) Zx25 0 S21.rm z (ya 5 1 z ?_)
 obtain ⟨⟨r31, r32⟩, Xr26, R1⟩ := bsm R1
 refine WO.c1 (ih h_x25 S21 Xr26) z fun I28 w27 L29 S30 => ya 7 5 z (y0 nL2 (ya 0 2 z (yb (yy R1 (fun G R1 => ?_) (fun G R1 => ?_)))))
 refine yf nL2 (ya 0 2 z (yb (yq (ym (yh (yu ?_))))))
 obtain rfl := hext14 _ (sj R1).symm
 exact ym (yh (sj D ▸ yay ⟨I28, rfl, le, S30.drop⟩))
 exact W.skip (yk (ye (yag nL3 (ya 0 1 z (yam i18 z (ya 2 1 z (yp (yt ⟨r31, (sj R1).symm, I28, rfl, le, S30⟩))))))))
 rintro s17 _ w38 ⟨I15, rfl, L16, S39⟩ he
 cases he
 exact W.seq (yf nL5 (yg 0 2 [6] z (yj (S39.rf m0) z (ya 3 2 z (yb (yas fun _ => W.exit (yn (yo (yr (ye (yf nL3 (ya 0 3 z (yb (yq (sj D ▸ yay ⟨I15, rfl, L16, S39.drop⟩)))))))))))))))
theorem r10_count_ok {p0 : qE} {p1 : Int} {w_p0 : W_qE} (h_p0 : ok_qE I p0 w_p0) (hS : St E w I Os) {r : Int × Bool} (D : r10_count p0 p1 = some r) :
    Calls P 83 #[(vE p0 w_p0), (Iv p1)] w (RT E I Os (.tuple #[(Iv r.1), (.bool r.2)])) := by
 obtain ⟨fu, hf⟩ := anyFuel_some D
 exact r10_count_fu_ok fu h_p0 hS hf
noncomputable def r10_Few (p0 : qE) (p1 : Int) : Option Bool := (r10_count p0 p1).bind (fun (r10, r11) => some r11)
theorem r10_Few_ok {p0 : qE} {p1 : Int} {w_p0 : W_qE} (h_p0 : ok_qE I p0 w_p0) (hS : St E w I Os) {r : Bool} (D : r10_Few p0 p1 = some r) :
    Calls P 56 #[(vE p0 w_p0), (Iv p1)] w (RT E I Os (.bool r)) := by
 refine calls_W (fn := Tryz.f56) rfl rfl rfl ?_
 unfold r10_Few at D
 refine yf nL2 (yz hS (cs_qE p0 w_p0) 61 z fun b1 w4 S3 => ya 1 1 z (y0 nL8 (yx ((cs_qE p0 w_p0)) (S3.rf m0) z (ya 1 1 z ?_))))
 obtain ⟨⟨r10, r11⟩, Xr5, D⟩ := bsm D
 exact WO.c1 (r10_count_ok h_p0 S3 Xr5) z fun I7 w6 L8 S9 => ya 3 5 z (y0 nL2 (ya 0 2 z (yb (yq (sj D ▸ yw ⟨I7, rfl, L8, S9.drop⟩)))))
noncomputable def r12_Few_fu : Nat → qS → Option Bool
  | 0, _ => none
  | fu + 1, p0 => (some ((decide ((p0.Cols.length : Int) > 12)) || (decide ((p0.Cons.length : Int) > 12)))).bind (fun (q5 : Bool) => (some ((q5 || (decide ((p0.Names.length : Int) > 12))) || (decide ((p0.Rows.length : Int) > 12)))).bind (fun (q10 : Bool) => (some ((q10 || (decide ((p0.Sets.length : Int) > 12))) || (decide ((p0.Order.length : Int) > 12)))).bind (fun (q15 : Bool) => ((bif (q15 || (decide ((p0.Kids.length : Int) > 1))) then some true else (r10_Few p0.Where 60).bind (fun r29 => some (!r29)))).bind (fun (j20 : Bool) => (bif j20 then some false else (app 16 ([p0.Table, p0.Name, p0.Role] : List By8) p0.Names).bind (fun x40 => (forE (fun (i51 : Nat) (s50 : List By8) => (idx p0.Cols (i51 : Int)).bind (fun x59 => (app 16 s50 ([x59.Name] : List By8)).bind (fun x68 => some x68))) p0.Cols.length 0 x40).bind (fun s50 => (forN (fun (i84 : Nat) (s83 : List By8) => (idx p0.Cons (i84 : Int)).bind (fun x91 => (some ((decide ((x91.Cols.length : Int) > 12)) || (decide ((x91.Refs.length : Int) > 12)))).bind (fun (q98 : Bool) => ((bif q98 then some true else (r10_Few x91.Check 60).bind (fun r112 => some (!r112)))).bind (fun (j101 : Bool) => (bif j101 then some (.inr false) else (app 16 s83 ([x91.Name, x91.Table] : List By8)).bind (fun x132 => (app 16 x132 x91.Cols).bind (fun x141 => (app 16 x141 x91.Refs).bind (fun x148 => some (.inl x148))))))))) p0.Cons.length 0 s50).bind (fun (t : (List By8) ⊕ (Bool)) => match t with | .inl s83 => (forN (fun (i163 : Nat) (_s : Unit) => (idx p0.Rows (i163 : Int)).bind (fun x170 => (bif (decide ((x170.length : Int) > 12)) then some (.inr false) else (loopO (fun (s180 : Int) => (idx p0.Rows (i163 : Int)).bind (fun x185 => (bif (decide (s180 < (x185.length : Int))) then (idx p0.Rows (i163 : Int)).bind (fun x186 => (idx x186 s180).bind (fun x187 => (r10_Few x187 60).bind (fun r193 => (bif (!r193) then some (.inr (.inl false)) else some (.inl (w64 (s180 + 1))))))) else some (.inr (.inr ()))))) 0).bind (fun (t : Bool ⊕ Unit) => match t with | (.inl s195) => some (.inr s195) | (.inr ()) => some (.inl ()))))) p0.Rows.length 0 ()).bind (fun (t : Unit ⊕ (Bool)) => match t with | .inl _ => (forN (fun (i207 : Nat) (s206 : List By8) => (idx p0.Sets (i207 : Int)).bind (fun x214 => (app 16 s206 ([x214.Name] : List By8)).bind (fun x223 => (idx p0.Sets (i207 : Int)).bind (fun x232 => (r10_Few x232.E 60).bind (fun r238 => (bif (!r238) then some (.inr false) else some (.inl x223))))))) p0.Sets.length 0 s83).bind (fun (t : (List By8) ⊕ (Bool)) => match t with | .inl s206 => (forN (fun (i251 : Nat) (_s : Unit) => (idx p0.Order (i251 : Int)).bind (fun x258 => (r10_Few x258.E 60).bind (fun r264 => (bif (!r264) then some (.inr false) else some (.inl ()))))) p0.Order.length 0 ()).bind (fun (t : Unit ⊕ (Bool)) => match t with | .inl _ => (forN (fun (i276 : Nat) (_s : Unit) => (idx s206 (i276 : Int)).bind (fun x283 => (bif (decide ((x283.size : Int) > 100)) then some (.inr false) else some (.inl ())))) s206.length 0 ()).bind (fun (t : Unit ⊕ (Bool)) => match t with | .inl _ => ((bif ((p0.Kids.length : Int) == 0) then some true else (idx p0.Kids 0).bind (fun x298 => ((bif ((x298.Kids.length : Int) == 0) then (idx p0.Kids 0).bind (fun x303 => (r12_Few_fu fu x303).bind (fun r309 => some r309)) else some false)).bind (fun (j299 : Bool) => some j299)))).bind (fun (j292 : Bool) => some j292) | .inr s285 => some s285) | .inr s266 => some s266) | .inr s240 => some s240) | .inr s172 => some s172) | .inr s118 => some s118))))))))
noncomputable def r12_Few (p0 : qS) : Option Bool := anyFuel (fun fu => r12_Few_fu fu p0)
theorem r12_Few_fu_ok : ∀ (fu : Nat) {E w : World} {I : Mem} {Os : List Mem} {p0 : qS} {w_p0 : W_qS} (h_p0 : ok_qS I p0 w_p0) (hS : St E w I Os) {r : Bool} (D : r12_Few_fu fu p0 = some r),
    Calls P 30 #[(vS p0 w_p0)] w (RT E I Os (.bool r)) := by
 intro fu
 induction fu with
 | zero => intro E w I Os p0 w_p0 h_p0 hS r D; cases D
 | succ fu ih =>
 intro E w I Os p0 w_p0 h_p0 hS r D
 refine calls_W (fn := Tryz.f30) rfl rfl rfl ?_
 unfold r12_Few_fu at D
 refine yf nL2 (yz hS (cs_qS p0 w_p0) 66 z fun b1 w4 S3 => ya 1 1 z (yb (W.seq (yf nL46 (yg 0 1 [4] z (yj (S3.rf m0) z (ya 2 3 z (bsq D fun q5 Xq5 D => ya2 [5, 6, 7, 8] 9 16 21 Xq5 (fun _ => yg 5 1 [5] z (yj (S3.rf m0) z (ya 7 3 z yah))) (ya 10 1 z (ya2 [11, 12, 13, 14] 15 22 27 (.refl (q5 || (decide ((p0.Names.length : Int) > 12)))) (fun _ => yg 11 1 [6] z (yj (S3.rf m0) z (ya 13 3 z yah))) (ya 16 1 z (bsq D fun q10 Xq10 D => ya2 [17, 18, 19, 20] 21 28 33 Xq10 (fun _ => yg 17 1 [7] z (yj (S3.rf m0) z (ya 19 3 z yah))) (ya 22 1 z (ya2 [23, 24, 25, 26] 27 34 39 (.refl (q10 || (decide ((p0.Sets.length : Int) > 12)))) (fun _ => yg 23 1 [15] z (yj (S3.rf m0) z (ya 25 3 z yah))) (ya 28 1 z (bsq D fun q15 Xq15 D => ya2 [29, 30, 31, 32] 33 40 45 Xq15 (fun _ => yg 29 1 [16] z (yj (S3.rf m0) z (ya 31 3 z yah))) (ya 34 1 z (ya2 [35, 36, 37, 38] 39 46 51 (.refl (q15 || (decide ((p0.Kids.length : Int) > 1)))) (fun _ => yg 35 1 [20] z (yj (S3.rf m0) z (ya 37 3 z yah))) (ya 40 1 z (bsk D fun j20 R1 D => yal (l1 := [41, 42, 43, 44, 45]) (J := JI E I [(1, Pt b1 0), (57, .bool j20)] (bS b1 p0 w_p0 :: Os)) ?_ ?_))))))))))))))))))))
 refine yak R1 (fun G R1 => ?_) (fun G R1 => ?_)
 refine y6 52 G ?_
 iterate 4 refine yaj ?_
 exact ya 45 1 z (sj R1 ▸ y4 ⟨I, rfl, lr, S3⟩)
 exact y6 52 G (yg 41 1 [8] z (yx ((cs_qE p0.Where w_p0.Where)) (S3.rf m0) z (bsk R1 fun r29 Xr24 R1 => WO.c1 (r10_Few_ok h_p0.Where S3 Xr24) z fun I26 w25 L27 S28 => ya 44 2 z (sj R1 ▸ y4 ⟨I26, rfl, L27, S28⟩))))
 rintro _ w30 ⟨I22, rfl, L23, S31⟩
 refine yb (yy D (fun G D => ?_) (fun G D => ?_))
 exact yf [0] (ya 0 1 z (yb (yq (yh (sj D ▸ yw ⟨I22, rfl, L23, S31.drop⟩)))))
 refine W.skip (ye (yf nL8 (yg 0 1 [1] z (yj (S31.rf m0) z (yg 2 1 [2] z (yj (S31.rf m0) z (yg 4 1 [3] z (yj (S31.rf m0) z (yab (rel := RStr) (xs := ([p0.Table, p0.Name, p0.Role] : List By8)) S31 z kr z 9 1 [[(.string p0.Table)], [(.string p0.Name)], [(.string p0.Role)]] kr z ((Elr.cons z (Elr.cons z (Elr.cons z Elr.nil)))) tv ?_)))))))))
 intro a36 C34 w38 S37 ho35
 refine ya 7 1 z (y0 nL5 (yg 0 2 [6] z (yj (S37.rf m1) z (apk D fun x40 h0_x40 he_x40 D => yax 9 16 [(.string eB)] S37 ho35 (RSl.mono h_p0.Names L23) S37.im h0_x40 he_x40 z fun a41 c42 w43 C44 S45 ho46 => ya 4 1 z (yb (W.seq (yf [0] (ya 0 1 z (yb (yl (bsk D fun s50 hloop52 D => have hlt57 := ((RSl.mono h_p0.Cols L23)).len_lt; W.wk (yat (m := p0.Cols.length) hloop52 (fun (i51 : Nat) (s50 : List By8) fr w => ∃ I48 a_s50 c_s50 C_s50, fr = [(1, Pt b1 0), (3, Sl a_s50 s50 c_s50), (4, Nv i51)] ∧ I22.Le I48 ∧ St E w I48 (bS b1 p0 w_p0 :: (C_s50) :: Os) ∧ OwnSl 9 1 RStr I48 C_s50 a_s50 c_s50 s50) ⟨I22, a41, c42, C44, rfl, lr, S45.front1, ho46⟩ ?_ ?_))))))))))))
 rintro i51 s50 _ w54 hi58 ⟨I48, a_s50, c_s50, C_s50, rfl, L49, S55, h_s50⟩ x56 R1
 refine W.seq (yf nL5 (yg 0 2 [4] z (yj (S55.rf m0) z (ya 3 2 z (yb (yar fun _ => W.skip (ye (W.seq (yl (yag nL10 (yg 0 2 [4] z (yj (S55.rf m0) z (ya 3 1 z ?_)))))))))))))
 obtain ⟨x59, R1, Hx59, _, rfl, Zx59⟩ := sx I48 h_p0.Cols R1
 refine yaa 114 3 Hx59 z (yg 5 1 [0] z (yao Zx59 S55.rm z (yab (rel := RStr) (xs := ([x59.Name] : List By8)) S55 z kr z 9 1 [[(.string x59.Name)]] kr z ((Elr.cons z Elr.nil)) tv ?_)))
 intro a63 C61 w65 S64 ho62
 have S67 := S64.front2
 exact apk R1 fun x68 h0_x68 he_x68 R1 => yax 9 16 [(.string eB)] S67 h_s50 ho62.sl (S67.rd m1) h0_x68 he_x68 z fun a69 c70 w71 C72 S73 ho74 => ya 9 1 z (yp (yk (ye (yag nL3 (ya 0 1 z (yam i51 z (ya 2 1 z (yp (sj R1 ▸ yt ⟨I48, a69, c70, C72, rfl, L49, S73.front1.drop.front1, ho74⟩)))))))))
 rintro _ w78 ⟨I48, a_s50, c_s50, C_s50, rfl, L49, S79, h_s50⟩
 refine W.seq (yf nL5 (yg 0 2 [4] z (yj (S79.rf m0) z (ya 3 2 z (yb (yas fun _ => W.exit (yn (yo (yr (ye (W.seq (yf [0] (ya 0 1 z (yb (yl (bsk D fun t80 hloop85 D => have hlt89 := ((RSl.mono h_p0.Cons (L23.trans L49))).len_lt; W.wk (yap (m := p0.Cons.length) hloop85 (fun (i84 : Nat) (s83 : List By8) fr w => ∃ I81 a_s83 c_s83 C_s83, fr = [(1, Pt b1 0), (3, Sl a_s83 s83 c_s83), (5, Nv i84)] ∧ I48.Le I81 ∧ St E w I81 (bS b1 p0 w_p0 :: (C_s83) :: Os) ∧ OwnSl 9 1 RStr I81 C_s83 a_s83 c_s83 s83) ⟨I48, a_s50, c_s50, C_s50, rfl, lr, S79, h_s50⟩ ?_ ?_)))))))))))))))))
 rintro i84 s83 _ w86 hi90 ⟨I81, a_s83, c_s83, C_s83, rfl, L82, S87, h_s83⟩ x88 R1 hext80
 refine W.seq (yf nL5 (yg 0 2 [5] z (yj (S87.rf m0) z (ya 3 2 z (yb (yar fun _ => W.skip (ye (W.seq (yl (yf nL7 (yg 0 1 [5] z (yj (S87.rf m0) z (ya 2 1 z ?_)))))))))))))
 obtain ⟨x91, R1, Hx91, _, ⟨w_x91, rfl, h_x91⟩, Zx91⟩ := sx I81 h_p0.Cons R1
 refine yaa 116 12 Hx91 z (yau ((cs_qK x91 w_x91)) Zx91 0 S87.rm z (yz S87 (cs_qK z_qK zw_qK) 116 z fun b92 w95 S94 => y7 S94 0 (cs_qK x91 w_x91) fun w97 S96 => yb (W.seq (yf nL16 (yg 0 1 [2] z (yj (S96.rf m0) z (ya 2 3 z (bsq R1 fun q98 Xq98 R1 => ya2 [5, 6, 7, 8] 9 101 106 Xq98 (fun _ => yg 5 1 [11] z (yj (S96.rf m0) z (ya 7 3 z yah))) (ya 10 1 z (bsk R1 fun j101 R2 R1 => yal (l1 := [11, 12, 13, 14, 15]) (J := JI E I81 [(1, Pt b1 0), (3, Sl a_s83 s83 c_s83), (5, Nv i84), (6, Pt b92 0), (112, .bool j101)] (bS b1 p0 w_p0 :: (C_s83) :: (bK b92 x91 w_x91) :: Os)) ?_ ?_))))))))))
 refine yak R2 (fun G R2 => ?_) (fun G R2 => ?_)
 refine y6 107 G ?_
 iterate 4 refine yaj ?_
 exact ya 15 1 z (sj R2 ▸ y4 ⟨I81, rfl, lr, S96.front2.front2⟩)
 exact y6 107 G (yg 11 1 [3] z (yx ((cs_qE x91.Check w_x91.Check)) (S96.rf m0) z (bsk R2 fun r112 Xr107 R2 => WO.c1 (r10_Few_ok h_x91.Check S96 Xr107) z fun I109 w108 L110 S111 => ya 14 2 z (sj R2 ▸ y4 ⟨I109, rfl, L110, S111.front2.front2⟩))))
 rintro _ w115 ⟨I103, rfl, L104, S116⟩
 refine yb (yy R1 (fun G R1 => ?_) (fun G R1 => ?_))
 refine yf [0] (ya 0 1 z (yb (yq (yh (ym (yh (yu ?_)))))))
 obtain rfl := hext80 _ (sj R1).symm
 exact ym (yh (sj D ▸ yw ⟨I103, rfl, le, S116.d3⟩))
 refine W.skip (ye (yf nL8 (yg 0 2 [0] z (yj (S116.rf m2) z (yg 3 1 [10] z (yj (S116.rf m2) z (yab (rel := RStr) (xs := ([x91.Name, x91.Table] : List By8)) S116 z kr z 9 1 [[(.string x91.Name)], [(.string x91.Table)]] kr z ((Elr.cons z (Elr.cons z Elr.nil))) tv ?_)))))))
 intro a127 C125 w129 S128 ho126
 have S131 := S128.front2
 exact apk R1 fun x132 h0_x132 he_x132 R1 => yax 9 16 [(.string eB)] S131 (OwnSl.mono h_s83 L104) ho126.sl (S131.rd m1) h0_x132 he_x132 z fun a133 c134 w135 C136 S137 ho138 => have S140 := S137.front1.drop; ya 7 1 z (y0 nL5 (yg 0 2 [2] z (yj (S140.rf m2) z (apk R1 fun x141 h0_x141 he_x141 R1 => yax 9 16 [(.string eB)] S140 ho138 (RSl.mono h_x91.Cols L104) S140.im h0_x141 he_x141 z fun a142 c143 w144 C145 S146 ho147 => ya 4 1 z (yb (yag nL5 (yg 0 2 [11] z (yj (S146.rf m2) z (apk R1 fun x148 h0_x148 he_x148 R1 => yax 9 16 [(.string eB)] S146 ho147 (RSl.mono h_x91.Refs L104) S146.im h0_x148 he_x148 z fun a149 c150 w151 C152 S153 ho154 => ya 4 1 z (yp (yk (ye (yag nL3 (ya 0 1 z (yam i84 z (ya 2 1 z (yp (yt ⟨x148, (sj R1).symm, I103, a149, c150, C152, rfl, le, S153.front2.drop.front1, ho154⟩))))))))))))))))))
 rintro s83 _ w158 ⟨I81, a_s83, c_s83, C_s83, rfl, L82, S159, h_s83⟩ he
 cases he
 refine W.seq (yf nL5 (yg 0 2 [5] z (yj (S159.rf m0) z (ya 3 2 z (yb (yas fun _ => W.exit (yn (yo (yr (ye (W.seq (yf [0] (ya 0 1 z (yb (yl (bsk D fun t160 hloop164 D => have hlt168 := ((RSl.mono h_p0.Rows ((L23.trans L49).trans L82))).len_lt; W.wk (yap (m := p0.Rows.length) hloop164 (fun (i163 : Nat) (_s : Unit) => JI E I81 [(1, Pt b1 0), (3, Sl a_s83 s83 c_s83), (7, Nv i163)] (bS b1 p0 w_p0 :: (C_s83) :: Os)) ⟨I81, rfl, lr, S159⟩ ?_ ?_)))))))))))))))))
 rintro i163 _ _ w165 hi169 ⟨I161, rfl, L162, S166⟩ x167 R1 hext160
 refine W.seq (yf nL5 (yg 0 2 [7] z (yj (S166.rf m0) z (ya 3 2 z (yb (yar fun _ => W.skip (ye (W.seq (yl (W.seq (yf nL7 (yg 0 1 [7] z (yj (S166.rf m0) z (ya 2 1 z ?_))))))))))))))
 obtain ⟨x170, Xx170, R1⟩ := bsm R1
 obtain ⟨h0_x170, h1_x170, Xx170⟩ := idx_some Xx170
 obtain ⟨ha_x170, cs_x170, hn_x170, hr_x170, Zx170⟩ := ((RSl.mono h_p0.Rows (((L23.trans L49).trans L82).trans L162))).el _ _ Xx170
 obtain ⟨a_x170, c_x170, rfl, h_x170⟩ := hr_x170
 refine ya5 59 1 ha_x170 h0_x170 h1_x170 ?_
 refine yao Zx170 S166.rm z (ya 5 2 z (yb (yy R1 (fun G R1 => ?_) (fun G R1 => ?_))))
 refine yf [0] (ya 0 1 z (yb (yq (yh (ym (yh (yu ?_)))))))
 obtain rfl := hext160 _ (sj R1).symm
 exact ym (yh (sj D ▸ yw ⟨I161, rfl, le, S166.d2⟩))
 refine W.skip (ye (yf [0] (ya 0 1 z (yb (yl (bsk R1 fun t177 hloop181 R1 => W.wk (ya6 hloop181 (fun (s180 : Int) => JI E I161 [(1, Pt b1 0), (3, Sl a_s83 s83 c_s83), (7, Nv i163), (8, Iv s180)] (bS b1 p0 w_p0 :: (C_s83) :: Os)) ⟨I161, rfl, lr, S166⟩ ?_)))))))
 rintro s180 _ w182 ⟨I178, rfl, L179, S183⟩ x184 R2 hext177
 refine W.seq (yf nL8 (yg 0 2 [7] z (yj (S183.rf m0) z (ya 3 1 z ?_))))
 obtain ⟨x185, Xx185, R2⟩ := bsm R2
 obtain ⟨h0_x185, h1_x185, Xx185⟩ := idx_some Xx185
 obtain ⟨ha_x185, cs_x185, hn_x185, hr_x185, Zx185⟩ := ((RSl.mono h_p0.Rows ((((L23.trans L49).trans L82).trans L162).trans L179))).el _ _ Xx185
 obtain ⟨a_x185, c_x185, rfl, h_x185⟩ := hr_x185
 refine ya5 59 1 ha_x185 h0_x185 h1_x185 ?_
 refine yao Zx185 S183.rm z (ya 6 2 z (yb (yy R2 (fun G R2 => ?_) (fun G R2 => ?_))))
 refine W.skip (ye (W.seq (yl (yf nL10 (yg 0 1 [7] z (yj (S183.rf m0) z (ya 2 1 z ?_)))))))
 obtain ⟨x186, Xx186, R2⟩ := bsm R2
 obtain ⟨h0_x186, h1_x186, Xx186⟩ := idx_some Xx186
 obtain ⟨ha_x186, cs_x186, hn_x186, hr_x186, Zx186⟩ := ((RSl.mono h_p0.Rows ((((L23.trans L49).trans L82).trans L162).trans L179))).el _ _ Xx186
 obtain ⟨a_x186, c_x186, rfl, h_x186⟩ := hr_x186
 refine ya5 59 1 ha_x186 h0_x186 h1_x186 ?_
 refine yao Zx186 S183.rm z (ya 5 1 z ?_)
 obtain ⟨x187, Xx187, R2⟩ := bsm R2
 obtain ⟨h0_x187, h1_x187, Xx187⟩ := idx_some Xx187
 obtain ⟨ha_x187, cs_x187, hn_x187, hr_x187, Zx187⟩ := (h_x186).el _ _ Xx187
 obtain ⟨w_x187, rfl, h_x187⟩ := Q_qE_iff.1 hr_x187
 refine ya5 61 7 ha_x187 h0_x187 h1_x187 ?_
 refine yau ((cs_qE x187 w_x187)) Zx187 0 S183.rm z (bsk R2 fun r193 Xr188 R2 => WO.c1 (r10_Few_ok h_x187 S183 Xr188) z fun I190 w189 L191 S192 => ya 9 1 z (yb (yy R2 (fun G R2 => ?_) (fun G R2 => ?_))))
 refine yf [0] (ya 0 1 z (yb (yq (ym (yh (yu ?_))))))
 obtain rfl := hext177 _ (sj R2).symm
 refine ym (ym (yh (yu ?_)))
 obtain rfl := hext160 _ (sj R1).symm
 exact ym (yh (sj D ▸ yw ⟨I190, rfl, le, S192.d2⟩))
 exact W.skip (yk (ye (yag nL3 (ya 0 3 z (yp (yt ⟨(w64 (s180 + 1)), (sj R2).symm, I190, rfl, le, S192⟩))))))
 refine W.exit (yn (yo ?_))
 obtain rfl := hext177 _ (sj R2).symm
 exact yr (yk (ye (yag nL3 (ya 0 1 z (yam i163 z (ya 2 1 z (yp (yt ⟨(), (sj R1).symm, I178, rfl, le, S183⟩))))))))
 rintro _ _ w201 ⟨I161, rfl, L162, S202⟩ he
 cases he
 refine W.seq (yf nL5 (yg 0 2 [7] z (yj (S202.rf m0) z (ya 3 2 z (yb (yas fun _ => W.exit (yn (yo (yr (ye (W.seq (yf [0] (ya 0 1 z (yb (yl (bsk D fun t203 hloop208 D => have hlt212 := ((RSl.mono h_p0.Sets (((L23.trans L49).trans L82).trans L162))).len_lt; W.wk (yap (m := p0.Sets.length) hloop208 (fun (i207 : Nat) (s206 : List By8) fr w => ∃ I204 a_s206 c_s206 C_s206, fr = [(1, Pt b1 0), (3, Sl a_s206 s206 c_s206), (9, Nv i207)] ∧ I161.Le I204 ∧ St E w I204 (bS b1 p0 w_p0 :: (C_s206) :: Os) ∧ OwnSl 9 1 RStr I204 C_s206 a_s206 c_s206 s206) ⟨I161, a_s83, c_s83, C_s83, rfl, lr, S202, (OwnSl.mono h_s83 L162)⟩ ?_ ?_)))))))))))))))))
 rintro i207 s206 _ w209 hi213 ⟨I204, a_s206, c_s206, C_s206, rfl, L205, S210, h_s206⟩ x211 R1 hext203
 refine W.seq (yf nL5 (yg 0 2 [15] z (yj (S210.rf m0) z (ya 3 2 z (yb (yar fun _ => W.skip (ye (W.seq (yl (yf nL10 (yg 0 2 [15] z (yj (S210.rf m0) z (ya 3 1 z ?_)))))))))))))
 obtain ⟨x214, R1, Hx214, _, ⟨w_x214, rfl, h_x214⟩, Zx214⟩ := sx I204 h_p0.Sets R1
 refine yaa 118 8 Hx214 z (yg 5 1 [0] z (yao Zx214 S210.rm z (yab (rel := RStr) (xs := ([x214.Name] : List By8)) S210 z kr z 9 1 [[(.string x214.Name)]] kr z ((Elr.cons z Elr.nil)) tv ?_)))
 intro a218 C216 w220 S219 ho217
 have S222 := S219.front2
 refine apk R1 fun x223 h0_x223 he_x223 R1 => yax 9 16 [(.string eB)] S222 h_s206 ho217.sl (S222.rd m1) h0_x223 he_x223 z fun a224 c225 w226 C227 S228 ho229 => have S231 := S228.front1.drop; ya 9 1 z (y0 nL8 (yg 0 1 [15] z (yj (S231.rf m1) z (ya 2 1 z ?_))))
 obtain ⟨x232, R1, Hx232, _, ⟨w_x232, rfl, h_x232⟩, Zx232⟩ := sx I204 h_p0.Sets R1
 refine yaa 118 8 Hx232 z (yg 4 1 [1] z (yau ((cs_qE x232.E w_x232.E)) Zx232 1 S231.rm z (bsk R1 fun r238 Xr233 R1 => WO.c1 (r10_Few_ok h_x232.E S231 Xr233) z fun I235 w234 L236 S237 => ya 7 1 z (yb (yy R1 (fun G R1 => ?_) (fun G R1 => ?_))))))
 refine yf [0] (ya 0 1 z (yb (yq (ym (yh (yu ?_))))))
 obtain rfl := hext203 _ (sj R1).symm
 exact ym (yh (sj D ▸ yw ⟨I235, rfl, le, S237.d2⟩))
 exact W.skip (yk (ye (yag nL3 (ya 0 1 z (yam i207 z (ya 2 1 z (yp (yt ⟨x223, (sj R1).symm, I235, a224, c225, C227, rfl, le, S237.front1, (OwnSl.mono ho229 L236)⟩))))))))
 rintro s206 _ w246 ⟨I204, a_s206, c_s206, C_s206, rfl, L205, S247, h_s206⟩ he
 cases he
 refine W.seq (yf nL5 (yg 0 2 [15] z (yj (S247.rf m0) z (ya 3 2 z (yb (yas fun _ => W.exit (yn (yo (yr (ye (W.seq (yf [0] (ya 0 1 z (yb (yl (bsk D fun t248 hloop252 D => have hlt256 := ((RSl.mono h_p0.Order ((((L23.trans L49).trans L82).trans L162).trans L205))).len_lt; W.wk (yap (m := p0.Order.length) hloop252 (fun (i251 : Nat) (_s : Unit) => JI E I204 [(1, Pt b1 0), (3, Sl a_s206 s206 c_s206), (10, Nv i251)] (bS b1 p0 w_p0 :: (C_s206) :: Os)) ⟨I204, rfl, lr, S247⟩ ?_ ?_)))))))))))))))))
 rintro i251 _ _ w253 hi257 ⟨I249, rfl, L250, S254⟩ x255 R1 hext248
 refine W.seq (yf nL5 (yg 0 2 [16] z (yj (S254.rf m0) z (ya 3 2 z (yb (yar fun _ => W.skip (ye (W.seq (yl (yf nL8 (yg 0 1 [16] z (yj (S254.rf m0) z (ya 2 1 z ?_)))))))))))))
 obtain ⟨x258, R1, Hx258, _, ⟨w_x258, rfl, h_x258⟩, Zx258⟩ := sx I249 h_p0.Order R1
 refine yaa 120 8 Hx258 z (yg 4 1 [0] z (yau ((cs_qE x258.E w_x258.E)) Zx258 0 S254.rm z (bsk R1 fun r264 Xr259 R1 => WO.c1 (r10_Few_ok h_x258.E S254 Xr259) z fun I261 w260 L262 S263 => ya 7 1 z (yb (yy R1 (fun G R1 => ?_) (fun G R1 => ?_))))))
 refine yf [0] (ya 0 1 z (yb (yq (ym (yh (yu ?_))))))
 obtain rfl := hext248 _ (sj R1).symm
 exact ym (yh (sj D ▸ yw ⟨I261, rfl, le, S263.d2⟩))
 exact W.skip (yk (ye (yag nL3 (ya 0 1 z (yam i251 z (ya 2 1 z (yp (yt ⟨(), (sj R1).symm, I261, rfl, le, S263⟩))))))))
 rintro _ _ w271 ⟨I249, rfl, L250, S272⟩ he
 cases he
 refine W.seq (yf nL5 (yg 0 2 [16] z (yj (S272.rf m0) z (ya 3 2 z (yb (yas fun _ => W.exit (yn (yo (yr (ye (W.seq (yf [0] (ya 0 1 z (yb (yl (bsk D fun t273 hloop277 D => have hlt281 := ((h_s206.mono L250).sl).len_lt; W.wk (yap (m := s206.length) hloop277 (fun (i276 : Nat) (_s : Unit) => JI E I249 [(1, Pt b1 0), (3, Sl a_s206 s206 c_s206), (11, Nv i276)] (bS b1 p0 w_p0 :: (C_s206) :: Os)) ⟨I249, rfl, lr, S272⟩ ?_ ?_)))))))))))))))))
 rintro i276 _ _ w278 hi282 ⟨I274, rfl, L275, S279⟩ x280 R1 hext273
 refine W.seq (yf nL4 (ya 0 4 z (yb (yar fun _ => W.skip (ye (W.seq (yl (yf nL6 (ya 0 2 z ?_)))))))))
 obtain ⟨x283, R1, Hx283, _, rfl, Zx283⟩ := sl_ix ((h_s206.mono (L250.trans L275)).sl) R1
 refine yaa 9 1 Hx283 z (yao Zx283 (S279.rf m1) z (ya 4 2 z (yb (yy R1 (fun G R1 => ?_) (fun G R1 => ?_)))))
 refine yf [0] (ya 0 1 z (yb (yq (ym (yh (yu ?_))))))
 obtain rfl := hext273 _ (sj R1).symm
 exact ym (yh (sj D ▸ yw ⟨I274, rfl, le, S279.d2⟩))
 exact W.skip (yk (ye (yag nL3 (ya 0 1 z (yam i276 z (ya 2 1 z (yp (yt ⟨(), (sj R1).symm, I274, rfl, L275, S279⟩))))))))
 rintro _ _ w290 ⟨I274, rfl, L275, S291⟩ he
 cases he
 refine W.seq (yf nL4 (ya 0 4 z (yb (yas fun _ => W.exit (yn (yo (yr (ye (yf nL21 (yg 0 1 [20] z (yj (S291.rf m0) z (ya 2 3 z (bsk D fun j292 R1 D => yal (l1 := [5, 6, 7, 8, 9, 10, 11, 12, 13, 14, 15, 16, 17, 18, 19]) (J := JI E I274 [(232, .bool j292)] Os) ?_ ?_)))))))))))))
 refine yak R1 (fun G R1 => ?_) (fun G R1 => ?_)
 refine y6 217 G ?_
 iterate 14 refine yaj ?_
 exact ya 19 1 z (sj R1 ▸ y4 ⟨I274, rfl, lr, S291.d2⟩)
 refine y6 217 G (yg 5 1 [20] z (yj (S291.rf m0) z ?_))
 obtain ⟨x298, Xx298, R1⟩ := bsm R1
 obtain ⟨h0_x298, h1_x298, Xx298⟩ := idx_some Xx298
 obtain ⟨ha_x298, cs_x298, hn_x298, hr_x298, Zx298⟩ := ((RSl.mono h_p0.Kids ((((((L23.trans L49).trans L82).trans L162).trans L205).trans L250).trans L275))).el _ _ Xx298
 obtain ⟨w_x298, rfl, h_x298⟩ := Q_qS_iff.1 hr_x298
 refine ya5 66 21 ha_x298 h0_x298 h1_x298 ?_
 refine yg 8 1 [20] z (yaz Zx298 20 S291.rm z (ya 10 3 z (bsk R1 fun j299 R2 R1 => yal (l1 := [13, 14, 15, 16, 17, 18]) (J := JI E I274 [(217, .bool false), (231, .bool j299)] Os) ?_ ?_)))
 refine yak R2 (fun G R2 => ?_) (fun G R2 => ?_)
 refine y6 225 G (yg 13 1 [20] z (yj (S291.rf m0) z ?_))
 obtain ⟨x303, Xx303, R2⟩ := bsm R2
 obtain ⟨h0_x303, h1_x303, Xx303⟩ := idx_some Xx303
 obtain ⟨ha_x303, cs_x303, hn_x303, hr_x303, Zx303⟩ := ((RSl.mono h_p0.Kids ((((((L23.trans L49).trans L82).trans L162).trans L205).trans L250).trans L275))).el _ _ Xx303
 obtain ⟨w_x303, rfl, h_x303⟩ := Q_qS_iff.1 hr_x303
 refine ya5 66 21 ha_x303 h0_x303 h1_x303 ?_
 exact yau ((cs_qS x303 w_x303)) Zx303 0 S291.rm z (bsk R2 fun r309 Xr304 R2 => WO.c1 (ih h_x303 S291 Xr304) z fun I306 w305 L307 S308 => ya 18 1 z (sj R2 ▸ y4 ⟨I306, rfl, L307, S308.d2⟩))
 refine y6 225 G ?_
 iterate 5 refine yaj ?_
 exact ya 18 1 z (sj R2 ▸ y4 ⟨I274, rfl, lr, S291.d2⟩)
 rintro _ w314 ⟨I301, rfl, L302, S315⟩
 exact ya 19 1 z (sj R1 ▸ y4 ⟨I301, rfl, L302, S315⟩)
 rintro _ w316 ⟨I294, rfl, L295, S317⟩
 exact ya 20 1 z (yb (yq (sj D ▸ yw ⟨I294, rfl, le, S317⟩)))
theorem r12_Few_ok {p0 : qS} {w_p0 : W_qS} (h_p0 : ok_qS I p0 w_p0) (hS : St E w I Os) {r : Bool} (D : r12_Few p0 = some r) :
    Calls P 30 #[(vS p0 w_p0)] w (RT E I Os (.bool r)) := by
 obtain ⟨fu, hf⟩ := anyFuel_some D
 exact r12_Few_fu_ok fu h_p0 hS hf
noncomputable def law19_Few (p0 : List law19_Act) : Option Bool := (forN (fun (i4 : Nat) (_s : Unit) => ((bif (decide ((i4 : Int) ≥ 40)) then some true else (idx p0 (i4 : Int)).bind (fun x15 => (r12_Few x15.S).bind (fun r21 => some (!r21))))).bind (fun (j11 : Bool) => ((bif j11 then some true else (idx p0 (i4 : Int)).bind (fun x28 => some (decide ((x28.By.size : Int) > 100))))).bind (fun (j24 : Bool) => (bif j24 then some (.inr false) else some (.inl ()))))) p0.length 0 ()).bind (fun (t : Unit ⊕ (Bool)) => match t with | .inl _ => some true | .inr s32 => some s32)
theorem law19_Few_ok {p0 : List law19_Act} {a_p0 : Option Addr} {c_p0 : Nat} (h_p0 : RSl 22 R_law19_Act I a_p0 c_p0 p0) (hS : St E w I Os) {r : Bool} (D : law19_Few p0 = some r) :
    Calls P 8 #[(Sl a_p0 p0 c_p0)] w (RT E I Os (.bool r)) := by
 refine calls_W (fn := Tryz.f8) rfl rfl rfl ?_
 unfold law19_Few at D
 refine yf [0] (ya 0 1 z (yb (W.seq (yf [0] (ya 0 1 z (yb (yl (bsk D fun t1 hloop5 D => have hlt9 := (h_p0).len_lt; W.wk (yap (m := p0.length) hloop5 (fun (i4 : Nat) (_s : Unit) => JI E I [(0, Sl a_p0 p0 c_p0), (3, Nv i4)] Os) ⟨I, rfl, lr, hS⟩ ?_ ?_)))))))))
 rintro i4 _ _ w6 hi10 ⟨I2, rfl, L3, S7⟩ x8 R1 hext1
 refine W.seq (yf nL4 (ya 0 4 z (yb (yar fun _ => W.skip (ye (W.seq (yl (yf nL20 (ya 0 3 z (bsk R1 fun j11 R2 R1 => yal (l1 := [3, 4, 5, 6, 7, 8, 9, 10]) (J := JI E I2 [(0, Sl a_p0 p0 c_p0), (3, Nv i4), (20, .bool j11)] Os) ?_ ?_))))))))))
 refine yak R2 (fun G R2 => ?_) (fun G R2 => ?_)
 refine y6 12 G ?_
 iterate 7 refine yaj ?_
 exact ya 10 1 z (sj R2 ▸ y4 ⟨I2, rfl, lr, S7⟩)
 refine y6 12 G (ya 3 2 z ?_)
 obtain ⟨x15, R2, Hx15, _, ⟨w_x15, rfl, h_x15⟩, Zx15⟩ := sx I2 h_p0 R2
 exact yaa 71 22 Hx15 z (yg 6 1 [0] z (yau ((cs_qS x15.S w_x15.S)) Zx15 0 S7.rm z (bsk R2 fun r21 Xr16 R2 => WO.c1 (r12_Few_ok h_x15.S S7 Xr16) z fun I18 w17 L19 S20 => ya 9 2 z (sj R2 ▸ y4 ⟨I18, rfl, L19, S20⟩))))
 rintro _ w22 ⟨I13, rfl, L14, S23⟩
 refine ya 11 1 z (bsk R1 fun j24 R2 R1 => yal (l1 := [12, 13, 14, 15, 16, 17, 18, 19]) (J := JI E I13 [(0, Sl a_p0 p0 c_p0), (3, Nv i4), (29, .bool j24)] Os) ?_ ?_)
 refine yak R2 (fun G R2 => ?_) (fun G R2 => ?_)
 refine y6 21 G ?_
 iterate 7 refine yaj ?_
 exact ya 19 1 z (sj R2 ▸ y4 ⟨I13, rfl, lr, S23⟩)
 refine y6 21 G (ya 12 2 z ?_)
 obtain ⟨x28, R2, Hx28, _, ⟨w_x28, rfl, h_x28⟩, Zx28⟩ := sx I13 h_p0 R2
 exact yaa 71 22 Hx28 z (yg 15 1 [21] z (yaz Zx28 21 S23.rm z (ya 17 3 z (sj R2 ▸ y4 ⟨I13, rfl, lr, S23⟩))))
 rintro _ w29 ⟨I26, rfl, L27, S30⟩
 refine yb (yy R1 (fun G R1 => ?_) (fun G R1 => ?_))
 refine yf [0] (ya 0 1 z (yb (yq (ym (yh (yu ?_))))))
 obtain rfl := hext1 _ (sj R1).symm
 exact ym (yh (sj D ▸ yw ⟨I26, rfl, le, S30⟩))
 exact W.skip (yk (ye (yag nL3 (ya 0 1 z (yam i4 z (ya 2 1 z (yp (yt ⟨(), (sj R1).symm, I26, rfl, le, S30⟩))))))))
 rintro _ _ w33 ⟨I2, rfl, L3, S34⟩ he
 cases he
 exact W.seq (yf nL4 (ya 0 4 z (yb (yas fun _ => W.exit (yn (yo (yr (ye (yf [0] (ya 0 1 z (yb (yq (sj D ▸ yw ⟨I2, rfl, L3, S34⟩)))))))))))))
def law32_few (p0 : List By8) : Option Bool := (forN (fun (i4 : Nat) (_s : Unit) => ((bif (decide ((i4 : Int) > 30)) then some true else (idx p0 (i4 : Int)).bind (fun x15 => some (decide ((x15.size : Int) > 100))))).bind (fun (j11 : Bool) => (bif j11 then some (.inr false) else some (.inl ())))) p0.length 0 ()).bind (fun (t : Unit ⊕ (Bool)) => match t with | .inl _ => some true | .inr s19 => some s19)
theorem law32_few_ok {p0 : List By8} {a_p0 : Option Addr} {c_p0 : Nat} (h_p0 : RSl 1 RStr I a_p0 c_p0 p0) (hS : St E w I Os) {r : Bool} (D : law32_few p0 = some r) :
    Calls P 10 #[(Sl a_p0 p0 c_p0)] w (RT E I Os (.bool r)) := by
 refine calls_W (fn := Tryz.f10) rfl rfl rfl ?_
 unfold law32_few at D
 refine yf [0] (ya 0 1 z (yb (W.seq (yf [0] (ya 0 1 z (yb (yl (bsk D fun t1 hloop5 D => have hlt9 := (h_p0).len_lt; W.wk (yap (m := p0.length) hloop5 (fun (i4 : Nat) (_s : Unit) => JI E I [(0, Sl a_p0 p0 c_p0), (3, Nv i4)] Os) ⟨I, rfl, lr, hS⟩ ?_ ?_)))))))))
 rintro i4 _ _ w6 hi10 ⟨I2, rfl, L3, S7⟩ x8 R1 hext1
 refine W.seq (yf nL4 (ya 0 4 z (yb (yar fun _ => W.skip (ye (W.seq (yl (yf nL10 (ya 0 3 z (bsk R1 fun j11 R2 R1 => yal (l1 := [3, 4, 5, 6, 7, 8, 9]) (J := JI E I2 [(0, Sl a_p0 p0 c_p0), (3, Nv i4), (19, .bool j11)] Os) ?_ ?_))))))))))
 refine yak R2 (fun G R2 => ?_) (fun G R2 => ?_)
 refine y6 12 G ?_
 iterate 6 refine yaj ?_
 exact ya 9 1 z (sj R2 ▸ y4 ⟨I2, rfl, lr, S7⟩)
 refine y6 12 G (ya 3 2 z ?_)
 obtain ⟨x15, R2, Hx15, _, rfl, Zx15⟩ := sx I2 h_p0 R2
 exact yaa 9 1 Hx15 z (yao Zx15 S7.rm z (ya 7 3 z (sj R2 ▸ y4 ⟨I2, rfl, lr, S7⟩)))
 rintro _ w16 ⟨I13, rfl, L14, S17⟩
 refine yb (yy R1 (fun G R1 => ?_) (fun G R1 => ?_))
 refine yf [0] (ya 0 1 z (yb (yq (ym (yh (yu ?_))))))
 obtain rfl := hext1 _ (sj R1).symm
 exact ym (yh (sj D ▸ yw ⟨I13, rfl, le, S17⟩))
 exact W.skip (yk (ye (yag nL3 (ya 0 1 z (yam i4 z (ya 2 1 z (yp (yt ⟨(), (sj R1).symm, I13, rfl, le, S17⟩))))))))
 rintro _ _ w20 ⟨I2, rfl, L3, S21⟩ he
 cases he
 exact W.seq (yf nL4 (ya 0 4 z (yb (yas fun _ => W.exit (yn (yo (yr (ye (yf [0] (ya 0 1 z (yb (yq (sj D ▸ yw ⟨I2, rfl, L3, S21⟩)))))))))))))
def r17_New  : Option qC := some { z_qC with Roles := ([{ z_qJ with Name := (⟨#[114, 111, 111, 116]⟩ : By8) }] : List qJ) }
theorem r17_New_ok (hS : St E w I Os) {r : qC} (D : r17_New = some r) :
    Calls P 57 #[] w (fun e w' => ∃ I' w_rw0, e = .returned (vC r w_rw0) ∧ I.Le I' ∧ St E w' I' Os ∧ ok_qC I' r w_rw0) := by
 refine calls_W (fn := Tryz.f57) rfl rfl rfl ?_
 unfold r17_New at D
 refine yf [0] (yz hS (cs_qC z_qC zw_qC) 33 z fun b1 w4 S3 => y0 nL4 (y8 0 1 (.agg (cs_qJ ({ z_qJ with Name := (⟨#[114, 111, 111, 116]⟩ : By8) }) zw_qJ).toArray) ?_))
 have hk12 : ok_qJ I ({ z_qJ with Name := (⟨#[114, 111, 111, 116]⟩ : By8) }) zw_qJ := ⟨SlAt.nil⟩
 refine yab (rel := R_qJ) (xs := ([{ z_qJ with Name := (⟨#[114, 111, 111, 116]⟩ : By8) }] : List qJ)) S3 z kr z 74 2 [(cs_qJ ({ z_qJ with Name := (⟨#[114, 111, 111, 116]⟩ : By8) }) zw_qJ)] kr z ((Elr.cons ⟨zw_qJ, rfl, hk12⟩ Elr.nil)) tv ?_
 intro a8 C6 w10 S9 ho7
 obtain ⟨I13, L14, S16, hp15⟩ := yac ho7 S9
 refine y8 2 3 (.agg #[(Iv 0), (.slice none 0 0), (.slice a8 1 1), (.slice none 0 0)]) (y7 S16 0 [(Iv 0), (.slice none 0 0), (.slice a8 1 1), (.slice none 0 0)] fun w18 S17 => yb (yq ?_))
 have hk20 : ok_qC I13 ({ z_qC with Roles := ([{ z_qJ with Name := (⟨#[114, 111, 111, 116]⟩ : By8) }] : List qJ) }) ({ zw_qC with Roles := ⟨a8, 1⟩ }) := ⟨SlAt.nil, hp15, SlAt.nil⟩
 exact sj D ▸ En.c1 _ (S17.rd m0) ⟨I13, ({ zw_qC with Roles := ⟨a8, 1⟩ }), rfl, L14, S17.drop, hk20⟩
def r18_At (p0 : List qJ) (p1 : By8) : Option Int := (forN (fun (i4 : Nat) (_s : Unit) => (idx p0 (i4 : Int)).bind (fun x11 => (bif (sEq x11.Name p1) then some (.inr (i4 : Int)) else some (.inl ())))) p0.length 0 ()).bind (fun (t : Unit ⊕ (Int)) => match t with | .inl _ => some (-1) | .inr s13 => some s13)
theorem r18_At_ok {p0 : List qJ} {p1 : By8} {a_p0 : Option Addr} {c_p0 : Nat} (h_p0 : RSl 2 R_qJ I a_p0 c_p0 p0) (hS : St E w I Os) {r : Int} (D : r18_At p0 p1 = some r) :
    Calls P 29 #[(Sl a_p0 p0 c_p0), (.string p1)] w (RT E I Os (Iv r)) := by
 refine calls_W (fn := Tryz.f29) rfl rfl rfl ?_
 unfold r18_At at D
 refine yf [0] (ya 0 1 z (yb (W.seq (yf [0] (ya 0 1 z (yb (yl (bsk D fun t1 hloop5 D => have hlt9 := (h_p0).len_lt; W.wk (yap (m := p0.length) hloop5 (fun (i4 : Nat) (_s : Unit) => JI E I [(0, Sl a_p0 p0 c_p0), (1, .string p1), (5, Nv i4)] Os) ⟨I, rfl, lr, hS⟩ ?_ ?_)))))))))
 rintro i4 _ _ w6 hi10 ⟨I2, rfl, L3, S7⟩ x8 R1 hext1
 refine W.seq (yf nL4 (ya 0 4 z (yb (yar fun _ => W.skip (ye (W.seq (yl (yf nL7 (ya 0 2 z ?_)))))))))
 obtain ⟨x11, R1, Hx11, _, ⟨w_x11, rfl, h_x11⟩, Zx11⟩ := sx I2 h_p0 R1
 refine yaa 74 2 Hx11 z (yg 3 1 [0] z (yao Zx11 S7.rm z (ya 5 2 z (yb (yy R1 (fun G R1 => ?_) (fun G R1 => ?_))))))
 refine yf nL2 (ya 0 2 z (yb (yq (ym (yh (yu ?_))))))
 obtain rfl := hext1 _ (sj R1).symm
 exact ym (yh (sj D ▸ yw ⟨I2, rfl, L3, S7⟩))
 exact W.skip (yk (ye (yag nL3 (ya 0 1 z (yam i4 z (ya 2 1 z (yp (yt ⟨(), (sj R1).symm, I2, rfl, L3, S7⟩))))))))
 rintro _ _ w14 ⟨I2, rfl, L3, S15⟩ he
 cases he
 exact W.seq (yf nL4 (ya 0 4 z (yb (yas fun _ => W.exit (yn (yo (yr (ye (yf [0] (ya 0 1 z (yb (yq (sj D ▸ yw ⟨I2, rfl, L3, S15⟩)))))))))))))
noncomputable def r18_Reach (p0 : List qJ) (p1 : By8) : Option (List Bool) := (mk 1 (p0.length : Int)).bind (fun n1 => (r18_At p0 p1).bind (fun r13 => ((bif (decide (r13 ≥ 0)) then (idx (List.replicate n1 false) r13).bind (fun x18 => some ((List.replicate n1 false).set (r13).toNat true)) else some (List.replicate n1 false))).bind (fun (j14 : List Bool) => (forE (fun (i29 : Nat) (s28 : List Bool) => (forE (fun (i40 : Nat) (s39 : List Bool) => (loopO (fun (s : Int × (List Bool)) => match s with | (s50, s51) => (idx s51 (i40 : Int)).bind (fun x56 => ((bif x56 then (idx p0 (i40 : Int)).bind (fun x61 => some (decide (s50 < (x61.In.length : Int)))) else some false)).bind (fun (j57 : Bool) => (bif j57 then (idx p0 (i40 : Int)).bind (fun x64 => (idx x64.In s50).bind (fun x65 => (r18_At p0 x65).bind (fun r71 => ((bif (decide (r71 ≥ 0)) then (idx s51 r71).bind (fun x76 => some (s51.set (r71).toNat true)) else some s51)).bind (fun (j72 : List Bool) => some (.inl ((w64 (s50 + 1)), j72)))))) else some (.inr s51))))) (0, s39)).bind (fun (s84 : List Bool) => some s84)) p0.length 0 s28).bind (fun s39 => some s39)) p0.length 0 j14).bind (fun s28 => some s28))))
theorem r18_Reach_ok {p0 : List qJ} {p1 : By8} {a_p0 : Option Addr} {c_p0 : Nat} (h_p0 : RSl 2 R_qJ I a_p0 c_p0 p0) (hS : St E w I Os) {r : (List Bool)} (D : r18_Reach p0 p1 = some r) :
    Calls P 94 #[(Sl a_p0 p0 c_p0), (.string p1)] w (fun e w' => ∃ (I' : Mem) (ra0 : Option Addr) (rc0 : Nat), e = .returned (Sl ra0 r rc0) ∧ I.Le I' ∧ St E w' I' Os ∧ RSl 1 RBool I' ra0 rc0 r) := by
 refine calls_W (fn := Tryz.f94) rfl rfl rfl ?_
 unfold r18_Reach at D
 refine yf [0] (y8 0 4 (.slice none 0 0) (y0 nL4 (ya 0 2 z ?_)))
 obtain ⟨n1, Xn1, D⟩ := bsm D
 obtain ⟨h0_n1, he_n1⟩ := mk_some Xn1
 refine WO.make (rel := RBool) hS z kr z kr (T := 4) (sz := 1) (b := 1) (zs := #[(.bool false)]) kr z z n1 (congrArg (Value.int .i64) he_n1) (congrArg (Value.int .i64) he_n1) h0_n1 z (z0 := false) z tv ?_
 intro a2 w6 C3 S5 ho4
 refine yae 13 z (show Value.slice a2 n1 n1 = Value.slice a2 (List.replicate n1 false).length n1 by simp only [List.length_replicate]) ?_
 refine ya 3 1 z (y0 nL4 (ya 0 2 z (bsk D fun r13 Xr8 D => WO.c1 (r18_At_ok h_p0 S5 Xr8) z fun I10 w9 L11 S12 => ya 3 1 z (yb (W.seq (yf nL2 (ya 0 2 z (yb (bsk D fun j14 R1 D => yav (J := (fun fr w => ∃ I16 C_j14, fr = [(0, Sl a_p0 p0 c_p0), (5, Sl a2 j14 n1)] ∧ I10.Le I16 ∧ St E w I16 ((C_j14) :: Os) ∧ OwnSl 4 1 RBool I16 C_j14 a2 n1 j14)) ?_ ?_)))))))))
 refine yy R1 (fun G R1 => ?_) (fun G R1 => ?_)
 refine yag nL4 (ya 0 2 z ?_)
 obtain ⟨x18, R1, h0_x18, h1_x18, Xx18, ha_x18, _, _, rfl, Zx18⟩ := sl_at ((ho4.mono L11).sl) R1
 refine ya5 4 1 ha_x18 h0_x18 h1_x18 ?_
 refine ya9 S12 (OwnSl.mono ho4 L11) z kr z Xx18 (u' := true) 0 z z kr z z (fun cs hrel => (by obtain rfl := hrel; exact z)) tv ?_
 intro w20 C21 S19 ho22
 refine yae 5 z (show Value.slice a2 (List.replicate n1 false).length n1 = Value.slice a2 ((List.replicate n1 false).set (r13).toNat true).length n1 by simp only [List.length_set]) ?_
 exact yp (sj R1 ▸ yt ⟨I10, C21, rfl, lr, S19, ho22⟩)
 exact W.skip (sj R1 ▸ yt ⟨I10, C3, rfl, lr, S12, (OwnSl.mono ho4 L11)⟩)
 rintro _ w23 ⟨I16, C_j14, rfl, L17, S24, h_j14⟩
 refine ye (W.seq (yf [0] (ya 0 1 z (yb (yl (bsk D fun s28 hloop30 D => have hlt34 := ((RSl.mono h_p0 (L11.trans L17))).len_lt; W.wk (yat (m := p0.length) hloop30 (fun (i29 : Nat) (s28 : List Bool) fr w => ∃ I26 C_s28, fr = [(0, Sl a_p0 p0 c_p0), (5, Sl a2 s28 n1), (7, Nv i29)] ∧ I16.Le I26 ∧ St E w I26 ((C_s28) :: Os) ∧ OwnSl 4 1 RBool I26 C_s28 a2 n1 s28) ⟨I16, C_j14, rfl, lr, S24, h_j14⟩ ?_ ?_)))))))
 rintro i29 s28 _ w31 hi35 ⟨I26, C_s28, rfl, L27, S32, h_s28⟩ x33 R1
 refine W.seq (yf nL4 (ya 0 4 z (yb (yar fun _ => W.skip (ye (W.seq (yl (yf [0] (ya 0 1 z (yb (yl (bsk R1 fun s39 hloop41 R1 => have hlt45 := ((RSl.mono h_p0 ((L11.trans L17).trans L27))).len_lt; W.wk (yat (m := p0.length) hloop41 (fun (i40 : Nat) (s39 : List Bool) fr w => ∃ I37 C_s39, fr = [(0, Sl a_p0 p0 c_p0), (5, Sl a2 s39 n1), (7, Nv i29), (8, Nv i40)] ∧ I26.Le I37 ∧ St E w I37 ((C_s39) :: Os) ∧ OwnSl 4 1 RBool I37 C_s39 a2 n1 s39) ⟨I26, C_s28, rfl, lr, S32, h_s28⟩ ?_ ?_)))))))))))))
 rintro i40 s39 _ w42 hi46 ⟨I37, C_s39, rfl, L38, S43, h_s39⟩ x44 R2
 refine W.seq (yf nL4 (ya 0 4 z (yb (yar fun _ => W.skip (ye (W.seq (yl (yf [0] (ya 0 1 z (yb (yl (bsk R2 fun t47 hloop52 R2 => W.wk (ya6 hloop52 (fun (s : Int × (List Bool)) fr w => match s with | (s50, s51) => ∃ I48 C_s51, fr = [(0, Sl a_p0 p0 c_p0), (5, Sl a2 s51 n1), (7, Nv i29), (8, Nv i40), (9, Iv s50)] ∧ I37.Le I48 ∧ St E w I48 ((C_s51) :: Os) ∧ OwnSl 4 1 RBool I48 C_s51 a2 n1 s51) ⟨I37, C_s39, rfl, lr, S43, h_s39⟩ ?_)))))))))))))
 rintro ⟨s50, s51⟩ _ w53 ⟨I48, C_s51, rfl, L49, S54, h_s51⟩ x55 R3 hext47
 refine W.seq (yf nL14 (ya 0 2 z ?_))
 obtain ⟨x56, R3, Hx56, _, rfl, Zx56⟩ := sl_ix (h_s51.sl) R3
 refine yaa 4 1 Hx56 z (yao Zx56 (S54.rf m0) z (ya 4 1 z (bsk R3 fun j57 R4 R3 => yal (l1 := [5, 6, 7, 8, 9, 10, 11, 12, 13]) (J := JI E I48 [(0, Sl a_p0 p0 c_p0), (5, Sl a2 s51 n1), (7, Nv i29), (8, Nv i40), (9, Iv s50), (47, .bool j57)] ((C_s51) :: Os)) ?_ ?_)))
 refine yak R4 (fun G R4 => ?_) (fun G R4 => ?_)
 refine y6 38 G (ya 5 3 z ?_)
 obtain ⟨x61, R4, Hx61, _, ⟨w_x61, rfl, h_x61⟩, Zx61⟩ := sx I48 h_p0 R4
 exact yaa 74 2 Hx61 z (yg 9 1 [1] z (yaz Zx61 1 S54.rm z (ya 11 3 z (sj R4 ▸ y4 ⟨I48, rfl, lr, S54⟩))))
 refine y6 38 G ?_
 iterate 8 refine yaj ?_
 exact ya 13 1 z (sj R4 ▸ y4 ⟨I48, rfl, lr, S54⟩)
 rintro _ w62 ⟨I59, rfl, L60, S63⟩
 refine yb (yy R3 (fun G R3 => ?_) (fun G R3 => ?_))
 refine W.skip (ye (W.seq (yl (yf nL11 (ya 0 3 z ?_)))))
 obtain ⟨x64, R3, Hx64, _, ⟨w_x64, rfl, h_x64⟩, Zx64⟩ := sx I59 h_p0 R3
 refine yaa 74 2 Hx64 z (yg 4 1 [1] z (yaz Zx64 1 S63.rm z (ya 6 1 z ?_)))
 obtain ⟨x65, R3, Hx65, _, rfl, Zx65⟩ := sl_ix (h_x64.In) R3
 refine yaa 9 1 Hx65 z (yao Zx65 S63.rm z (bsk R3 fun r71 Xr66 R3 => WO.c1 (r18_At_ok (up h_p0) S63 Xr66) z fun I68 w67 L69 S70 => ya 10 1 z (y0 nL2 (ya 0 2 z (yb (bsk R3 fun j72 R4 R3 => yav (J := (fun fr w => ∃ I74 C_j72, fr = [(0, Sl a_p0 p0 c_p0), (5, Sl a2 j72 n1), (7, Nv i29), (8, Nv i40), (9, Iv s50)] ∧ I68.Le I74 ∧ St E w I74 ((C_j72) :: Os) ∧ OwnSl 4 1 RBool I74 C_j72 a2 n1 j72)) ?_ ?_))))))
 refine yy R4 (fun G R4 => ?_) (fun G R4 => ?_)
 refine yag nL4 (ya 0 2 z ?_)
 obtain ⟨x76, R4, h0_x76, h1_x76, Xx76, ha_x76, _, _, rfl, Zx76⟩ := sl_at ((h_s51.mono (L60.trans L69)).sl) R4
 refine ya5 4 1 ha_x76 h0_x76 h1_x76 ?_
 refine ya9 S70 (OwnSl.mono h_s51 le) z kr z Xx76 (u' := true) 0 z z kr z z (fun cs hrel => (by obtain rfl := hrel; exact z)) tv ?_
 intro w78 C79 S77 ho80
 refine yae 5 z (show Value.slice a2 s51.length n1 = Value.slice a2 (s51.set (r71).toNat true).length n1 by simp only [List.length_set]) ?_
 exact yp (sj R4 ▸ yt ⟨I68, C79, rfl, lr, S77, ho80⟩)
 exact W.skip (sj R4 ▸ yt ⟨I68, C_s51, rfl, lr, S70, (OwnSl.mono h_s51 le)⟩)
 rintro _ w81 ⟨I74, C_j72, rfl, L75, S82, h_j72⟩
 exact yk (ye (yag nL3 (ya 0 3 z (yp (yt ⟨((w64 (s50 + 1)), j72), (sj R3).symm, I74, C_j72, rfl, le, S82, h_j72⟩)))))
 refine W.exit (yn (yo ?_))
 obtain rfl := hext47 _ (sj R3).symm
 exact yr (yk (ye (yag nL3 (ya 0 1 z (yam i40 z (ya 2 1 z (yp (sj R2 ▸ yt ⟨I59, C_s51, rfl, le, S63, (OwnSl.mono h_s51 L60)⟩))))))))
 rintro _ w85 ⟨I37, C_s39, rfl, L38, S86, h_s39⟩
 exact W.seq (yf nL4 (ya 0 4 z (yb (yas fun _ => W.exit (yn (yo (yr (yk (ye (yag nL3 (ya 0 1 z (yam i29 z (ya 2 1 z (yp (sj R1 ▸ yt ⟨I37, C_s39, rfl, le, S86, h_s39⟩)))))))))))))))
 rintro _ w87 ⟨I26, C_s28, rfl, L27, S88, h_s28⟩
 refine W.seq (yf nL4 (ya 0 4 z (yb (yas fun _ => W.exit (yn (yo (yr (ye (yf nL2 (ya 0 1 z ?_))))))))))
 obtain ⟨I89, L90, S92, hp91⟩ := yac h_s28 S88
 exact ya 1 1 z (yb (yq (sj D ▸ yw ⟨I89, a2, n1, rfl, le, S92, hp91⟩)))
noncomputable def r18_into (p0 : List By8) (p1 : By8) : Option (List By8) := (loopO (fun (s4 : Int) => ((bif (decide (s4 < (p0.length : Int))) then (idx p0 s4).bind (fun x13 => some (sLt x13 p1)) else some false)).bind (fun (j9 : Bool) => (bif j9 then some (.inl (w64 (s4 + 1))) else some (.inr s4)))) 0).bind (fun (s17 : Int) => (sub p0 0 s17).bind (fun x18 => (app 16 ([] : List By8) x18).bind (fun x21 => (app 16 x21 ([p1] : List By8)).bind (fun x36 => (sub p0 s17 (p0.length : Int)).bind (fun x45 => (app 16 x36 x45).bind (fun x46 => some x46))))))
theorem r18_into_ok {p0 : List By8} {p1 : By8} {a_p0 : Option Addr} {c_p0 : Nat} (h_p0 : RSl 1 RStr I a_p0 c_p0 p0) (hS : St E w I Os) {r : (List By8)} (D : r18_into p0 p1 = some r) :
    Calls P 95 #[(Sl a_p0 p0 c_p0), (.string p1)] w (fun e w' => ∃ (I' : Mem) (ra0 : Option Addr) (rc0 : Nat), e = .returned (Sl ra0 r rc0) ∧ I.Le I' ∧ St E w' I' Os ∧ RSl 1 RStr I' ra0 rc0 r) := by
 refine calls_W (fn := Tryz.f95) rfl rfl rfl ?_
 unfold r18_into at D
 refine yf [0] (y8 0 4 (.slice none 0 0) (y0 [0] (ya 0 1 z (yb (W.seq (yl (bsk D fun t1 hloop5 D => W.wk (ya6 hloop5 (fun (s4 : Int) => JI E I [(0, Sl a_p0 p0 c_p0), (1, .string p1), (5, Iv s4)] Os) ⟨I, rfl, lr, hS⟩ ?_))))))))
 rintro s4 _ w6 ⟨I2, rfl, L3, S7⟩ x8 R1 hext1
 refine W.seq (yf nL12 (ya 0 5 z (bsk R1 fun j9 R2 R1 => yal (l1 := [5, 6, 7, 8, 9, 10, 11]) (J := JI E I2 [(0, Sl a_p0 p0 c_p0), (1, .string p1), (5, Iv s4), (18, .bool j9)] Os) ?_ ?_)))
 refine yak R2 (fun G R2 => ?_) (fun G R2 => ?_)
 refine y6 11 G (ya 5 2 z ?_)
 obtain ⟨x13, R2, Hx13, _, rfl, Zx13⟩ := sx I2 h_p0 R2
 exact yaa 9 1 Hx13 z (yao Zx13 S7.rm z (ya 9 1 z (y8 10 17 (.bool (sLt x13 p1)) (ya 11 1 z (sj R2 ▸ y4 ⟨I2, rfl, lr, S7⟩)))))
 refine y6 11 G ?_
 iterate 6 refine yaj ?_
 exact ya 11 1 z (sj R2 ▸ y4 ⟨I2, rfl, lr, S7⟩)
 rintro _ w14 ⟨I11, rfl, L12, S15⟩
 refine yb (yy R1 (fun G R1 => ?_) (fun G R1 => ?_))
 exact W.skip (ye (yl (yag nL3 (ya 0 3 z (yp (yk (yt ⟨(w64 (s4 + 1)), (sj R1).symm, I11, rfl, le, S15⟩)))))))
 refine W.exit (yn (yo ?_))
 obtain rfl := hext1 _ (sj R1).symm
 refine yr (ye (yf [0] (y8 0 6 (.slice none 0 0) (y0 nL6 (ya 0 3 z ?_)))))
 obtain ⟨x57, Xx57, D⟩ := bsm D
 obtain ⟨h0_x57, h1_x57, h2_x57, he_x57⟩ := sub_some Xx57
 have hl_x57 : (s4 : Int) ≤ (c_p0 : Int) := Int.le_trans h2_x57 (Int.ofNat_le.2 ((RSl.mono h_p0 (L3.trans L12))).le)
 refine ya3 (e := 9) (sz := 1) z kr kr kr z (0 : Int) (s4 : Int) h0_x57 (.inl ⟨rfl, rfl⟩) (.inr ⟨_, _, rfl, rfl⟩) h1_x57 hl_x57 ?_
 obtain ⟨a_x57, c_x57, h_x57, ev_x57⟩ := sub_ok ((RSl.mono h_p0 (L3.trans L12))) h0_x57 h1_x57 h2_x57 he_x57
 refine yae 24 z ev_x57 ?_
 have S59 := S15.no
 refine apk D fun x60 h0_x60 he_x60 D => ya7 (e' := 9) (b := 16) (zs := #[(.string eB)]) S59 (OwnSl.nil (T := 9) (rel := RStr) (I := I11)) z kr z kr kr kr z z z z h_x57 S59.im h0_x60 he_x60 tv ?_
 intro a61 c62 w63 C64 S65 ho66
 refine ya 5 1 z (y0 nL5 (ya 0 2 z (yab (rel := RStr) (xs := ([p1] : List By8)) S65 z kr z 9 1 [[(.string p1)]] kr z ((Elr.cons z Elr.nil)) tv ?_)))
 intro a70 C68 w72 S71 ho69
 have S74 := S71.front1
 refine apk D fun x75 h0_x75 he_x75 D => yax 9 16 [(.string eB)] S74 ho66 ho69.sl (S74.rd m1) h0_x75 he_x75 z fun a76 c77 w78 C79 S80 ho81 => have S83 := S80.front1.drop; ya 4 1 z (y0 nL6 (ya 0 3 z ?_))
 obtain ⟨x84, Xx84, D⟩ := bsm D
 obtain ⟨h0_x84, h1_x84, h2_x84, he_x84⟩ := sub_some Xx84
 have hl_x84 : ((p0.length : Int) : Int) ≤ (c_p0 : Int) := Int.le_trans h2_x84 (Int.ofNat_le.2 ((RSl.mono h_p0 (L3.trans L12))).le)
 refine ya3 (e := 9) (sz := 1) z kr kr kr z (s4 : Int) ((p0.length : Int) : Int) h0_x84 (.inr ⟨_, _, rfl, rfl⟩) (.inl ⟨rfl, rfl⟩) h1_x84 hl_x84 ?_
 obtain ⟨a_x84, c_x84, h_x84, ev_x84⟩ := sub_ok ((RSl.mono h_p0 (L3.trans L12))) h0_x84 h1_x84 h2_x84 he_x84
 refine yae 33 z ev_x84 ?_
 refine apk D fun x85 h0_x85 he_x85 D => yax 9 16 [(.string eB)] S83 ho81 h_x84 S83.im h0_x85 he_x85 z ?_
 intro a86 c87 w88 C89 S90 ho91
 obtain ⟨I92, L93, S95, hp94⟩ := yac ho91 S90
 exact ya 5 1 z (yb (yq (sj D ▸ yw ⟨I92, a86, c87, rfl, le, S95, hp94⟩)))
noncomputable def r18_All (p0 : List qJ) (p1 : By8) : Option (List By8) := (r18_Reach p0 p1).bind (fun r6 => (forE (fun (i11 : Nat) (s10 : List By8) => (idx r6 (i11 : Int)).bind (fun x18 => ((bif x18 then (idx p0 (i11 : Int)).bind (fun x23 => (r18_into s10 x23.Name).bind (fun r29 => some r29)) else some s10)).bind (fun (j19 : List By8) => some j19))) p0.length 0 ([] : List By8)).bind (fun s10 => some s10))
theorem r18_All_ok {p0 : List qJ} {p1 : By8} {a_p0 : Option Addr} {c_p0 : Nat} (h_p0 : RSl 2 R_qJ I a_p0 c_p0 p0) (hS : St E w I Os) {r : (List By8)} (D : r18_All p0 p1 = some r) :
    Calls P 60 #[(Sl a_p0 p0 c_p0), (.string p1)] w (fun e w' => ∃ (I' : Mem) (ra0 : Option Addr) (rc0 : Nat), e = .returned (Sl ra0 r rc0) ∧ I.Le I' ∧ St E w' I' Os ∧ RSl 1 RStr I' ra0 rc0 r) := by
 refine calls_W (fn := Tryz.f60) rfl rfl rfl ?_
 unfold r18_All at D
 refine yf [0] (y8 0 4 (.slice none 0 0) (y0 nL4 (ya 0 2 z (bsk D fun r6 Xr1 D => yai (r18_Reach_ok h_p0 hS Xr1) ?_))))
 rintro _ w2 ⟨I3, a_r6, c_r6, rfl, L4, S5, h_r6⟩
 refine cv (ya 3 1 z (y0 [0] (y8 0 6 (.slice none 0 0) (yb (W.seq (yf [0] (ya 0 1 z (yb (yl (bsk D fun s10 hloop12 D => have hlt16 := ((RSl.mono h_p0 L4)).len_lt; W.wk (yat (m := p0.length) hloop12 (fun (i11 : Nat) (s10 : List By8) fr w => ∃ I8 a_s10 c_s10, fr = [(0, Sl a_p0 p0 c_p0), (5, Sl a_r6 r6 c_r6), (6, Sl a_s10 s10 c_s10), (7, Nv i11)] ∧ I3.Le I8 ∧ St E w I8 Os ∧ RSl 1 RStr I8 a_s10 c_s10 s10) ⟨I3, none, 0, rfl, lr, S5, SlAt.nil⟩ ?_ ?_)))))))))))
 rintro i11 s10 _ w13 hi17 ⟨I8, a_s10, c_s10, rfl, L9, S14, h_s10⟩ x15 R1
 refine W.seq (yf nL4 (ya 0 4 z (yb (yar fun _ => W.skip (ye (W.seq (yl (yf nL4 (ya 0 2 z ?_)))))))))
 obtain ⟨x18, R1, Hx18, _, rfl, Zx18⟩ := sx I8 h_r6 R1
 refine yaa 4 1 Hx18 z (yao Zx18 S14.rm z (yb (bsk R1 fun j19 R2 R1 => yav (J := (fun fr w => ∃ I21 a_j19 c_j19, fr = [(0, Sl a_p0 p0 c_p0), (5, Sl a_r6 r6 c_r6), (6, Sl a_j19 j19 c_j19), (7, Nv i11)] ∧ I8.Le I21 ∧ St E w I21 Os ∧ RSl 1 RStr I21 a_j19 c_j19 j19)) ?_ ?_)))
 refine yy R2 (fun G R2 => ?_) (fun G R2 => ?_)
 refine yag nL8 (ya 0 3 z ?_)
 obtain ⟨x23, R2, Hx23, _, ⟨w_x23, rfl, h_x23⟩, Zx23⟩ := sx I8 h_p0 R2
 refine yaa 74 2 Hx23 z (yg 4 1 [0] z (yao Zx23 S14.rm z (bsk R2 fun r29 Xr24 R2 => yai (r18_into_ok h_s10 S14 Xr24) ?_)))
 rintro _ w25 ⟨I26, a_r29, c_r29, rfl, L27, S28, h_r29⟩
 exact cv (ya 7 1 z (yp (sj R2 ▸ yt ⟨I26, a_r29, c_r29, rfl, L27, S28, h_r29⟩)))
 exact W.skip (sj R2 ▸ yt ⟨I8, a_s10, c_s10, rfl, lr, S14, h_s10⟩)
 rintro _ w30 ⟨I21, a_j19, c_j19, rfl, L22, S31, h_j19⟩
 exact yk (ye (yag nL3 (ya 0 1 z (yam i11 z (ya 2 1 z (yp (sj R1 ▸ yt ⟨I21, a_j19, c_j19, rfl, le, S31, h_j19⟩)))))))
 rintro _ w32 ⟨I8, a_s10, c_s10, rfl, L9, S33, h_s10⟩
 exact W.seq (yf nL4 (ya 0 4 z (yb (yas fun _ => W.exit (yn (yo (yr (ye (yf nL2 (ya 0 2 z (yb (yq (sj D ▸ yw ⟨I8, a_s10, c_s10, rfl, le, S33, h_s10⟩)))))))))))))
def r14_Has (p0 : List By8) (p1 : By8) : Option Bool := (forN (fun (i4 : Nat) (_s : Unit) => (idx p0 (i4 : Int)).bind (fun x11 => (bif (sEq x11 p1) then some (.inr true) else some (.inl ())))) p0.length 0 ()).bind (fun (t : Unit ⊕ (Bool)) => match t with | .inl _ => some false | .inr s13 => some s13)
theorem r14_Has_ok {p0 : List By8} {p1 : By8} {a_p0 : Option Addr} {c_p0 : Nat} (h_p0 : RSl 1 RStr I a_p0 c_p0 p0) (hS : St E w I Os) {r : Bool} (D : r14_Has p0 p1 = some r) :
    Calls P 45 #[(Sl a_p0 p0 c_p0), (.string p1)] w (RT E I Os (.bool r)) := by
 refine calls_W (fn := Tryz.f45) rfl rfl rfl ?_
 unfold r14_Has at D
 refine yf [0] (ya 0 1 z (yb (W.seq (yf [0] (ya 0 1 z (yb (yl (bsk D fun t1 hloop5 D => have hlt9 := (h_p0).len_lt; W.wk (yap (m := p0.length) hloop5 (fun (i4 : Nat) (_s : Unit) => JI E I [(0, Sl a_p0 p0 c_p0), (1, .string p1), (5, Nv i4)] Os) ⟨I, rfl, lr, hS⟩ ?_ ?_)))))))))
 rintro i4 _ _ w6 hi10 ⟨I2, rfl, L3, S7⟩ x8 R1 hext1
 refine W.seq (yf nL4 (ya 0 4 z (yb (yar fun _ => W.skip (ye (W.seq (yl (yf nL6 (ya 0 2 z ?_)))))))))
 obtain ⟨x11, R1, Hx11, _, rfl, Zx11⟩ := sx I2 h_p0 R1
 refine yaa 9 1 Hx11 z (yao Zx11 S7.rm z (ya 4 2 z (yb (yy R1 (fun G R1 => ?_) (fun G R1 => ?_)))))
 refine yf [0] (ya 0 1 z (yb (yq (ym (yh (yu ?_))))))
 obtain rfl := hext1 _ (sj R1).symm
 exact ym (yh (sj D ▸ yw ⟨I2, rfl, L3, S7⟩))
 exact W.skip (yk (ye (yag nL3 (ya 0 1 z (yam i4 z (ya 2 1 z (yp (yt ⟨(), (sj R1).symm, I2, rfl, L3, S7⟩))))))))
 rintro _ _ w14 ⟨I2, rfl, L3, S15⟩ he
 cases he
 exact W.seq (yf nL4 (ya 0 4 z (yb (yas fun _ => W.exit (yn (yo (yr (ye (yf [0] (ya 0 1 z (yb (yq (sj D ▸ yw ⟨I2, rfl, L3, S15⟩)))))))))))))
noncomputable def r18_Is (p0 : List qJ) (p1 : By8) (p2 : By8) : Option Bool := (r18_All p0 p1).bind (fun r6 => (r14_Has r6 p2).bind (fun r12 => some r12))
theorem r18_Is_ok {p0 : List qJ} {p1 : By8} {p2 : By8} {a_p0 : Option Addr} {c_p0 : Nat} (h_p0 : RSl 2 R_qJ I a_p0 c_p0 p0) (hS : St E w I Os) {r : Bool} (D : r18_Is p0 p1 p2 = some r) :
    Calls P 36 #[(Sl a_p0 p0 c_p0), (.string p1), (.string p2)] w (RT E I Os (.bool r)) := by
 refine calls_W (fn := Tryz.f36) rfl rfl rfl ?_
 unfold r18_Is at D
 refine yf [0] (ya 0 1 z (y0 nL6 (ya 0 2 z (bsk D fun r6 Xr1 D => yai (r18_All_ok h_p0 hS Xr1) ?_))))
 rintro _ w2 ⟨I3, a_r6, c_r6, rfl, L4, S5, h_r6⟩
 exact cv (ya 3 1 z (bsk D fun r12 Xr7 D => WO.c1 (r14_Has_ok h_r6 S5 Xr7) z fun I9 w8 L10 S11 => ya 5 1 z (yb (yq (sj D ▸ yw ⟨I9, rfl, le, S11⟩)))))
noncomputable def r09_all (p0 : By8) (p1 : Int) (p2 : By8) : Option Bool := (loopO (fun (s4 : Int) => (bif (decide (s4 < (p0.size : Int))) then (loopO (fun (s : Bool × Int) => match s with | (s12, s13) => (bif (decide (s13 < (p2.size : Int))) then ((bif s12 then some true else (sAt p2 s13).bind (fun y24 => (sAt p0 s4).bind (fun y25 => some (y24 == y25))))).bind (fun (j20 : Bool) => some (.inl (j20, (w64 (s13 + 1))))) else some (.inr s12))) (false, 0)).bind (fun (s29 : Bool) => (bif (!s29) then some (.inr (.inl false)) else some (.inl (w64 (s4 + 1))))) else some (.inr (.inr ())))) p1).bind (fun (t : Bool ⊕ Unit) => match t with | (.inl s31) => some s31 | (.inr ()) => some true)
theorem r09_all_ok {p0 : By8} {p1 : Int} {p2 : By8} (hS : St E w I Os) {r : Bool} (D : r09_all p0 p1 p2 = some r) :
    Calls P 206 #[(.string p0), (Iv p1), (.string p2)] w (RT E I Os (.bool r)) := by
 refine calls_W (fn := Tryz.f206) rfl rfl rfl ?_
 unfold r09_all at D
 refine yf [0] (ya 0 1 z (yb (W.seq (yf nL2 (ya 0 2 z (yb (yl (bsk D fun t1 hloop5 D => W.wk (ya6 hloop5 (fun (s4 : Int) => JI E I [(0, .string p0), (2, .string p2), (7, Iv s4)] Os) ⟨I, rfl, lr, hS⟩ ?_)))))))))
 rintro s4 _ w6 ⟨I2, rfl, L3, S7⟩ x8 R1 hext1
 refine W.seq (yf nL4 (ya 0 4 z (yb (yy R1 (fun G R1 => ?_) (fun G R1 => ?_)))))
 refine W.skip (ye (W.seq (yl (yf [0] (ya 0 1 z (yb (W.seq (yf [0] (ya 0 1 z (yb (yl (bsk R1 fun t9 hloop14 R1 => W.wk (ya6 hloop14 (fun (s : Bool × Int) fr w => match s with | (s12, s13) => ∃ I10, fr = [(0, .string p0), (2, .string p2), (7, Iv s4), (8, .bool s12), (9, Iv s13)] ∧ I2.Le I10 ∧ St E w I10 Os) ⟨I2, rfl, lr, S7⟩ ?_)))))))))))))
 rintro ⟨s12, s13⟩ _ w15 ⟨I10, rfl, L11, S16⟩ x17 R2 hext9
 refine W.seq (yf nL4 (ya 0 4 z (yb (yy R2 (fun G R2 => ?_) (fun G R2 => ?_)))))
 refine W.skip (ye (W.seq (yl (have S18 := S16.drew; yba nL11 10 (yad S18.im) ?_))))
 generalize World.drew _ = w19 at *
 refine ya 0 2 z (bsk R2 fun j20 R3 R2 => yal (l1 := [2, 3, 4, 5, 6, 7, 8, 9]) (J := JI E I10 [(0, .string p0), (2, .string p2), (7, Iv s4), (9, Iv s13), (32, .bool j20)] Os) ?_ ?_)
 refine yak R3 (fun G R3 => ?_) (fun G R3 => ?_)
 refine y6 24 G ?_
 iterate 7 refine yaj ?_
 exact ya 9 1 z (sj R3 ▸ y4 ⟨I10, rfl, lr, S18⟩)
 refine y6 24 G (ya 2 2 z (bsk R3 fun y24 Xy24 R3 => ya4 z kr kr z z Xy24 ?_))
 refine ya 5 2 z (bsk R3 fun y25 Xy25 R3 => ya4 z kr kr z z Xy25 ?_)
 exact ya 8 2 z (sj R3 ▸ y4 ⟨I10, rfl, lr, S18⟩)
 rintro _ w26 ⟨I22, rfl, L23, S27⟩
 exact WO.tail z (ya 10 1 z (yp (yk (ye (yag nL3 (ya 0 3 z (yp (yt ⟨(j20, (w64 (s13 + 1))), (sj R2).symm, I22, rfl, le, S27⟩))))))))
 refine W.exit (yn (yo ?_))
 obtain rfl := hext9 _ (sj R2).symm
 refine yr (ye (yf nL2 (ya 0 2 z (yb (yy R1 (fun G R1 => ?_) (fun G R1 => ?_))))))
 refine yf [0] (ya 0 1 z (yb (yq (ym (yh (yu ?_))))))
 obtain rfl := hext1 _ (sj R1).symm
 exact ym (yh (sj D ▸ yw ⟨I10, rfl, le, S16⟩))
 exact W.skip (yk (ye (yag nL3 (ya 0 3 z (yp (yt ⟨(w64 (s4 + 1)), (sj R1).symm, I10, rfl, le, S16⟩))))))
 refine W.exit (yn (yo ?_))
 obtain rfl := hext1 _ (sj R1).symm
 exact yr (ye (yf [0] (ya 0 1 z (yb (yq (sj D ▸ yw ⟨I2, rfl, L3, S7⟩))))))
noncomputable def r03_Plain (p0 : By8) : Option Bool := (loopO (fun (s4 : Int) => (bif (decide (s4 < (p0.size : Int))) then (sAt p0 s4).bind (fun y9 => ((bif (decide (y9 < 32)) then some true else (sAt p0 s4).bind (fun y14 => some (decide (y14 > 126))))).bind (fun (j10 : Bool) => (bif j10 then some (.inr (.inl false)) else some (.inl (w64 (s4 + 1)))))) else some (.inr (.inr ())))) 0).bind (fun (t : Bool ⊕ Unit) => match t with | (.inl s18) => some s18 | (.inr ()) => some true)
theorem r03_Plain_ok {p0 : By8} (hS : St E w I Os) {r : Bool} (D : r03_Plain p0 = some r) :
    Calls P 215 #[(.string p0)] w (RT E I Os (.bool r)) := by
 refine calls_W (fn := Tryz.f215) rfl rfl rfl ?_
 unfold r03_Plain at D
 refine yf [0] (ya 0 1 z (yb (W.seq (yf [0] (ya 0 1 z (yb (yl (bsk D fun t1 hloop5 D => W.wk (ya6 hloop5 (fun (s4 : Int) => JI E I [(0, .string p0), (3, Iv s4)] Os) ⟨I, rfl, lr, hS⟩ ?_)))))))))
 rintro s4 _ w6 ⟨I2, rfl, L3, S7⟩ x8 R1 hext1
 refine W.seq (yf nL4 (ya 0 4 z (yb (yy R1 (fun G R1 => ?_) (fun G R1 => ?_)))))
 refine W.skip (ye (W.seq (yl (yf nL10 (ya 0 2 z (bsk R1 fun y9 Xy9 R1 => ya4 z kr kr z z Xy9 ?_))))))
 refine ya 3 2 z (bsk R1 fun j10 R2 R1 => yal (l1 := [5, 6, 7, 8, 9]) (J := JI E I2 [(0, .string p0), (3, Iv s4), (19, .bool j10)] Os) ?_ ?_)
 refine yak R2 (fun G R2 => ?_) (fun G R2 => ?_)
 refine y6 14 G ?_
 iterate 4 refine yaj ?_
 exact ya 9 1 z (sj R2 ▸ y4 ⟨I2, rfl, lr, S7⟩)
 refine y6 14 G (ya 5 2 z (bsk R2 fun y14 Xy14 R2 => ya4 z kr kr z z Xy14 ?_))
 exact ya 8 2 z (sj R2 ▸ y4 ⟨I2, rfl, lr, S7⟩)
 rintro _ w15 ⟨I12, rfl, L13, S16⟩
 refine yb (yy R1 (fun G R1 => ?_) (fun G R1 => ?_))
 refine yf [0] (ya 0 1 z (yb (yq (ym (yh (yu ?_))))))
 obtain rfl := hext1 _ (sj R1).symm
 exact ym (yh (sj D ▸ yw ⟨I12, rfl, le, S16⟩))
 exact W.skip (yk (ye (yag nL3 (ya 0 3 z (yp (yt ⟨(w64 (s4 + 1)), (sj R1).symm, I12, rfl, le, S16⟩))))))
 refine W.exit (yn (yo ?_))
 obtain rfl := hext1 _ (sj R1).symm
 exact yr (ye (yf [0] (ya 0 1 z (yb (yq (sj D ▸ yw ⟨I2, rfl, L3, S7⟩))))))
noncomputable def r09_quoted (p0 : By8) : Option Bool := ((bif (decide ((p0.size : Int) < 2)) then some true else (sAt p0 0).bind (fun y5 => some (y5 != 39)))).bind (fun (j1 : Bool) => ((bif j1 then some true else (sAt p0 (w64 ((p0.size : Int) - 1))).bind (fun y12 => some (y12 != 39)))).bind (fun (j8 : Bool) => ((bif j8 then some true else (r03_Plain p0).bind (fun r24 => some (!r24)))).bind (fun (j15 : Bool) => (bif j15 then some false else (loopO (fun (s : Int × Int) => match s with | (s30, s31) => (bif (decide (s31 < (w64 ((p0.size : Int) - 1)))) then ((sAt p0 s31).bind (fun y40 => (bif (y40 != 39) then (bif ((Int.tmod s30 2) == 1) then some (.inl false) else some (.inr s30)) else some (.inr (w64 (s30 + 1)))))).bind (fun (t : Bool ⊕ Int) => match t with | (.inl s42) => some (.inr (.inl s42)) | (.inr s45) => some (.inl (s45, (w64 (s31 + 1))))) else some (.inr (.inr s30)))) (0, 1)).bind (fun (t : Bool ⊕ Int) => match t with | (.inl s44) => some s44 | (.inr s49) => some ((Int.tmod s49 2) == 0))))))
theorem r09_quoted_ok {p0 : By8} (hS : St E w I Os) {r : Bool} (D : r09_quoted p0 = some r) :
    Calls P 207 #[(.string p0)] w (RT E I Os (.bool r)) := by
 refine calls_W (fn := Tryz.f207) rfl rfl rfl ?_
 unfold r09_quoted at D
 refine yf [0] (ya 0 1 z (yb (W.seq (yf nL21 (ya 0 4 z (bsk D fun j1 R1 D => yal (l1 := [4, 5, 6, 7]) (J := JI E I [(0, .string p0), (12, .bool j1)] Os) ?_ ?_))))))
 refine yak R1 (fun G R1 => ?_) (fun G R1 => ?_)
 refine y6 8 G ?_
 iterate 3 refine yaj ?_
 exact ya 7 1 z (sj R1 ▸ y4 ⟨I, rfl, lr, hS⟩)
 refine y6 8 G (ya 4 1 z (bsk R1 fun y5 Xy5 R1 => ya4 z kr kr z z Xy5 ?_))
 exact ya 6 2 z (sj R1 ▸ y4 ⟨I, rfl, lr, hS⟩)
 rintro _ w6 ⟨I3, rfl, L4, S7⟩
 refine ya 8 1 z (bsk D fun j8 R1 D => yal (l1 := [9, 10, 11, 12, 13, 14, 15]) (J := JI E I3 [(0, .string p0), (20, .bool j8)] Os) ?_ ?_)
 refine yak R1 (fun G R1 => ?_) (fun G R1 => ?_)
 refine y6 13 G ?_
 iterate 6 refine yaj ?_
 exact ya 15 1 z (sj R1 ▸ y4 ⟨I3, rfl, lr, S7⟩)
 refine y6 13 G (ya 9 4 z (bsk R1 fun y12 Xy12 R1 => ya4 z kr kr z z Xy12 ?_))
 exact ya 14 2 z (sj R1 ▸ y4 ⟨I3, rfl, lr, S7⟩)
 rintro _ w13 ⟨I10, rfl, L11, S14⟩
 refine ya 16 1 z (bsk D fun j15 R1 D => yal (l1 := [17, 18, 19, 20]) (J := JI E I10 [(0, .string p0), (25, .bool j15)] Os) ?_ ?_)
 refine yak R1 (fun G R1 => ?_) (fun G R1 => ?_)
 refine y6 21 G ?_
 iterate 3 refine yaj ?_
 exact ya 20 1 z (sj R1 ▸ y4 ⟨I10, rfl, lr, S14⟩)
 exact y6 21 G (ya 17 1 z (bsk R1 fun r24 Xr19 R1 => WO.c1 (r03_Plain_ok  S14 Xr19) z fun I21 w20 L22 S23 => ya 19 2 z (sj R1 ▸ y4 ⟨I21, rfl, L22, S23⟩)))
 rintro _ w25 ⟨I17, rfl, L18, S26⟩
 refine yb (yy D (fun G D => ?_) (fun G D => ?_))
 exact yf [0] (ya 0 1 z (yb (yq (yh (sj D ▸ yw ⟨I17, rfl, le, S26⟩)))))
 refine W.skip (ye (yf [0] (ya 0 1 z (yb (W.seq (yf [0] (ya 0 1 z (yb (yl (bsk D fun t27 hloop32 D => W.wk (ya6 hloop32 (fun (s : Int × Int) fr w => match s with | (s30, s31) => ∃ I28, fr = [(0, .string p0), (3, Iv s30), (4, Iv s31)] ∧ I17.Le I28 ∧ St E w I28 Os) ⟨I17, rfl, lr, S26⟩ ?_)))))))))))
 rintro ⟨s30, s31⟩ _ w33 ⟨I28, rfl, L29, S34⟩ x35 R1 hext27
 refine W.seq (yf nL5 (ya 0 5 z (yb (yy R1 (fun G R1 => ?_) (fun G R1 => ?_)))))
 refine W.skip (ye (W.seq (bsk R1 fun j36 R2 R1 => yav (J := (fun fr w => ∃ (s45 : Int), ∃ I38, (.inr s45) = j36 ∧ fr = [(0, .string p0), (3, Iv s45), (4, Iv s31)] ∧ I28.Le I38 ∧ St E w I38 Os)) ?_ ?_)))
 refine yl (W.seq (yf nL4 (ya 0 2 z (bsk R2 fun y40 Xy40 R2 => ya4 z kr kr z z Xy40 ?_))))
 refine ya 3 1 z (yb (yy R2 (fun G R2 => ?_) (fun G R2 => ?_)))
 refine W.seq (yf nL3 (ya 0 1 z (y8 1 38 (Iv (Int.tmod s30 2)) (ya 2 1 z (yb (yy R2 (fun G R2 => ?_) (fun G R2 => ?_)))))))
 refine yf [0] (ya 0 1 z (yb (yq (yh (yh (ym (yu ?_)))))))
 obtain rfl := sj R2
 refine yh (yu ?_)
 obtain rfl := hext27 _ (sj R1).symm
 exact ym (yh (sj D ▸ yw ⟨I28, rfl, le, S34⟩))
 exact W.skip (ye (W.exit (yn (yr (yt ⟨s30, I28, sj R2, rfl, lr, S34⟩)))))
 exact W.skip (ye (yag nL3 (ya 0 3 z (yp (yk (yt ⟨(w64 (s30 + 1)), I28, sj R2, rfl, lr, S34⟩))))))
 rintro _ w46 ⟨s45, I38, rfl, rfl, L39, S47⟩
 exact ye (yag nL3 (ya 0 3 z (yp (yt ⟨(s45, (w64 (s31 + 1))), (sj R1).symm, I38, rfl, le, S47⟩))))
 refine W.exit (yn (yo ?_))
 obtain rfl := hext27 _ (sj R1).symm
 exact yr (ye (yf nL4 (ya 0 1 z (y8 1 43 (Iv (Int.tmod s30 2)) (ya 2 2 z (yb (yq (sj D ▸ yw ⟨I28, rfl, le, S34⟩))))))))
def r09_sign (p0 : By8) : Option Bool := ((bif (sEq p0 (⟨#[40]⟩ : By8)) then some (sEq p0 (⟨#[40]⟩ : By8)) else ((bif (sEq p0 (⟨#[41]⟩ : By8)) then some (sEq p0 (⟨#[41]⟩ : By8)) else ((bif (sEq p0 (⟨#[44]⟩ : By8)) then some (sEq p0 (⟨#[44]⟩ : By8)) else ((bif (sEq p0 (⟨#[61]⟩ : By8)) then some (sEq p0 (⟨#[61]⟩ : By8)) else ((bif (sEq p0 (⟨#[60, 62]⟩ : By8)) then some (sEq p0 (⟨#[60, 62]⟩ : By8)) else ((bif (sEq p0 (⟨#[60]⟩ : By8)) then some (sEq p0 (⟨#[60]⟩ : By8)) else ((bif (sEq p0 (⟨#[60, 61]⟩ : By8)) then some (sEq p0 (⟨#[60, 61]⟩ : By8)) else ((bif (sEq p0 (⟨#[62]⟩ : By8)) then some (sEq p0 (⟨#[62]⟩ : By8)) else ((bif (sEq p0 (⟨#[62, 61]⟩ : By8)) then some (sEq p0 (⟨#[62, 61]⟩ : By8)) else ((bif (sEq p0 (⟨#[43]⟩ : By8)) then some (sEq p0 (⟨#[43]⟩ : By8)) else ((bif (sEq p0 (⟨#[45]⟩ : By8)) then some (sEq p0 (⟨#[45]⟩ : By8)) else ((bif (sEq p0 (⟨#[42]⟩ : By8)) then some (sEq p0 (⟨#[42]⟩ : By8)) else ((bif (sEq p0 (⟨#[47]⟩ : By8)) then some (sEq p0 (⟨#[47]⟩ : By8)) else ((bif (sEq p0 (⟨#[37]⟩ : By8)) then some (sEq p0 (⟨#[37]⟩ : By8)) else some (sEq p0 (⟨#[124, 124]⟩ : By8)))).bind (fun (j53 : Bool) => some j53))).bind (fun (j49 : Bool) => some j49))).bind (fun (j45 : Bool) => some j45))).bind (fun (j41 : Bool) => some j41))).bind (fun (j37 : Bool) => some j37))).bind (fun (j33 : Bool) => some j33))).bind (fun (j29 : Bool) => some j29))).bind (fun (j25 : Bool) => some j25))).bind (fun (j21 : Bool) => some j21))).bind (fun (j17 : Bool) => some j17))).bind (fun (j13 : Bool) => some j13))).bind (fun (j9 : Bool) => some j9))).bind (fun (j5 : Bool) => some j5))).bind (fun (j1 : Bool) => (bif j1 then some true else some false))
theorem r09_sign_ok {p0 : By8} (hS : St E w I Os) {r : Bool} (D : r09_sign p0 = some r) :
    Calls P 208 #[(.string p0)] w (RT E I Os (.bool r)) := by
 refine calls_W (fn := Tryz.f208) rfl rfl rfl ?_
 unfold r09_sign at D
 refine yf [0] (ya 0 1 z (yb (W.seq (yf [0] (ya 0 1 z (yb (yl (W.seq (yf nL2 (ya 0 2 z (yb (bsk D fun j1 R1 D => yav (J := JI E I [(4, .bool j1)] Os) ?_ ?_))))))))))))
 refine yy R1 (fun G R1 => ?_) (fun G R1 => ?_)
 exact W.skip (sj R1 ▸ yt ⟨I, rfl, lr, hS⟩)
 refine yf nL2 (ya 0 2 z (yb (bsk R1 fun j5 R2 R1 => yav (J := JI E I [(4, .bool j5)] Os) ?_ ?_)))
 refine yy R2 (fun G R2 => ?_) (fun G R2 => ?_)
 exact W.skip (sj R2 ▸ yt ⟨I, rfl, lr, hS⟩)
 refine yf nL2 (ya 0 2 z (yb (bsk R2 fun j9 R3 R2 => yav (J := JI E I [(4, .bool j9)] Os) ?_ ?_)))
 refine yy R3 (fun G R3 => ?_) (fun G R3 => ?_)
 exact W.skip (sj R3 ▸ yt ⟨I, rfl, lr, hS⟩)
 refine yf nL2 (ya 0 2 z (yb (bsk R3 fun j13 R4 R3 => yav (J := JI E I [(4, .bool j13)] Os) ?_ ?_)))
 refine yy R4 (fun G R4 => ?_) (fun G R4 => ?_)
 exact W.skip (sj R4 ▸ yt ⟨I, rfl, lr, hS⟩)
 refine yf nL2 (ya 0 2 z (yb (bsk R4 fun j17 R5 R4 => yav (J := JI E I [(4, .bool j17)] Os) ?_ ?_)))
 refine yy R5 (fun G R5 => ?_) (fun G R5 => ?_)
 exact W.skip (sj R5 ▸ yt ⟨I, rfl, lr, hS⟩)
 refine yf nL2 (ya 0 2 z (yb (bsk R5 fun j21 R6 R5 => yav (J := JI E I [(4, .bool j21)] Os) ?_ ?_)))
 refine yy R6 (fun G R6 => ?_) (fun G R6 => ?_)
 exact W.skip (sj R6 ▸ yt ⟨I, rfl, lr, hS⟩)
 refine yf nL2 (ya 0 2 z (yb (bsk R6 fun j25 R7 R6 => yav (J := JI E I [(4, .bool j25)] Os) ?_ ?_)))
 refine yy R7 (fun G R7 => ?_) (fun G R7 => ?_)
 exact W.skip (sj R7 ▸ yt ⟨I, rfl, lr, hS⟩)
 refine yf nL2 (ya 0 2 z (yb (bsk R7 fun j29 R8 R7 => yav (J := JI E I [(4, .bool j29)] Os) ?_ ?_)))
 refine yy R8 (fun G R8 => ?_) (fun G R8 => ?_)
 exact W.skip (sj R8 ▸ yt ⟨I, rfl, lr, hS⟩)
 refine yf nL2 (ya 0 2 z (yb (bsk R8 fun j33 R9 R8 => yav (J := JI E I [(4, .bool j33)] Os) ?_ ?_)))
 refine yy R9 (fun G R9 => ?_) (fun G R9 => ?_)
 exact W.skip (sj R9 ▸ yt ⟨I, rfl, lr, hS⟩)
 refine yf nL2 (ya 0 2 z (yb (bsk R9 fun j37 R10 R9 => yav (J := JI E I [(4, .bool j37)] Os) ?_ ?_)))
 refine yy R10 (fun G R10 => ?_) (fun G R10 => ?_)
 exact W.skip (sj R10 ▸ yt ⟨I, rfl, lr, hS⟩)
 refine yf nL2 (ya 0 2 z (yb (bsk R10 fun j41 R11 R10 => yav (J := JI E I [(4, .bool j41)] Os) ?_ ?_)))
 refine yy R11 (fun G R11 => ?_) (fun G R11 => ?_)
 exact W.skip (sj R11 ▸ yt ⟨I, rfl, lr, hS⟩)
 refine yf nL2 (ya 0 2 z (yb (bsk R11 fun j45 R12 R11 => yav (J := JI E I [(4, .bool j45)] Os) ?_ ?_)))
 refine yy R12 (fun G R12 => ?_) (fun G R12 => ?_)
 exact W.skip (sj R12 ▸ yt ⟨I, rfl, lr, hS⟩)
 refine yf nL2 (ya 0 2 z (yb (bsk R12 fun j49 R13 R12 => yav (J := JI E I [(4, .bool j49)] Os) ?_ ?_)))
 refine yy R13 (fun G R13 => ?_) (fun G R13 => ?_)
 exact W.skip (sj R13 ▸ yt ⟨I, rfl, lr, hS⟩)
 refine yf nL2 (ya 0 2 z (yb (bsk R13 fun j53 R14 R13 => yav (J := JI E I [(4, .bool j53)] Os) ?_ ?_)))
 refine yy R14 (fun G R14 => ?_) (fun G R14 => ?_)
 exact W.skip (sj R14 ▸ yt ⟨I, rfl, lr, hS⟩)
 exact yag nL2 (ya 0 2 z (yp (sj R14 ▸ yt ⟨I, rfl, lr, hS⟩)))
 rintro _ w57 ⟨I55, rfl, L56, S58⟩
 exact sj R13 ▸ yt ⟨I55, rfl, L56, S58⟩
 rintro _ w59 ⟨I51, rfl, L52, S60⟩
 exact sj R12 ▸ yt ⟨I51, rfl, L52, S60⟩
 rintro _ w61 ⟨I47, rfl, L48, S62⟩
 exact sj R11 ▸ yt ⟨I47, rfl, L48, S62⟩
 rintro _ w63 ⟨I43, rfl, L44, S64⟩
 exact sj R10 ▸ yt ⟨I43, rfl, L44, S64⟩
 rintro _ w65 ⟨I39, rfl, L40, S66⟩
 exact sj R9 ▸ yt ⟨I39, rfl, L40, S66⟩
 rintro _ w67 ⟨I35, rfl, L36, S68⟩
 exact sj R8 ▸ yt ⟨I35, rfl, L36, S68⟩
 rintro _ w69 ⟨I31, rfl, L32, S70⟩
 exact sj R7 ▸ yt ⟨I31, rfl, L32, S70⟩
 rintro _ w71 ⟨I27, rfl, L28, S72⟩
 exact sj R6 ▸ yt ⟨I27, rfl, L28, S72⟩
 rintro _ w73 ⟨I23, rfl, L24, S74⟩
 exact sj R5 ▸ yt ⟨I23, rfl, L24, S74⟩
 rintro _ w75 ⟨I19, rfl, L20, S76⟩
 exact sj R4 ▸ yt ⟨I19, rfl, L20, S76⟩
 rintro _ w77 ⟨I15, rfl, L16, S78⟩
 exact sj R3 ▸ yt ⟨I15, rfl, L16, S78⟩
 rintro _ w79 ⟨I11, rfl, L12, S80⟩
 exact sj R2 ▸ yt ⟨I11, rfl, L12, S80⟩
 rintro _ w81 ⟨I7, rfl, L8, S82⟩
 exact sj R1 ▸ yt ⟨I7, rfl, L8, S82⟩
 rintro _ w83 ⟨I3, rfl, L4, S84⟩
 refine ye (yy D (fun G D => ?_) (fun G D => ?_))
 exact yf [0] (ya 0 1 z (yb (yq (ym (yh (sj D ▸ yw ⟨I3, rfl, L4, S84⟩))))))
 exact W.skip (yk (ye (yf [0] (ya 0 1 z (yb (yq (sj D ▸ yw ⟨I3, rfl, L4, S84⟩)))))))
noncomputable def r09_Kind (p0 : By8) : Option Int := (bif (sEq p0 eB) then some 7 else ((bif (decide ((p0.size : Int) ≤ 12)) then (ssub p0 0 1).bind (fun x5 => (r09_all x5 0 (⟨#[97, 98, 99, 100, 101, 102, 103, 104, 105, 106, 107, 108, 109, 110, 111, 112, 113, 114, 115, 116, 117, 118, 119, 120, 121, 122]⟩ : By8)).bind (fun r11 => some r11)) else some false)).bind (fun (j1 : Bool) => ((bif j1 then (r09_all p0 1 (⟨#[97, 98, 99, 100, 101, 102, 103, 104, 105, 106, 107, 108, 109, 110, 111, 112, 113, 114, 115, 116, 117, 118, 119, 120, 121, 122, 48, 49, 50, 51, 52, 53, 54, 55, 56, 57, 95]⟩ : By8)).bind (fun r23 => some r23) else some false)).bind (fun (j14 : Bool) => (bif j14 then some 1 else ((bif (decide ((p0.size : Int) ≤ 16)) then (ssub p0 0 1).bind (fun x30 => (r09_all x30 0 (⟨#[65, 66, 67, 68, 69, 70, 71, 72, 73, 74, 75, 76, 77, 78, 79, 80, 81, 82, 83, 84, 85, 86, 87, 88, 89, 90]⟩ : By8)).bind (fun r36 => some r36)) else some false)).bind (fun (j26 : Bool) => ((bif j26 then (r09_all p0 1 (⟨#[65, 66, 67, 68, 69, 70, 71, 72, 73, 74, 75, 76, 77, 78, 79, 80, 81, 82, 83, 84, 85, 86, 87, 88, 89, 90, 95]⟩ : By8)).bind (fun r48 => some r48) else some false)).bind (fun (j39 : Bool) => (bif j39 then some 2 else ((bif (decide ((p0.size : Int) ≤ 19)) then (r09_all p0 0 (⟨#[48, 49, 50, 51, 52, 53, 54, 55, 56, 57]⟩ : By8)).bind (fun r60 => some r60) else some false)).bind (fun (j51 : Bool) => ((bif j51 then ((bif (sEq p0 (⟨#[48]⟩ : By8)) then some true else (sAt p0 0).bind (fun y71 => some (y71 != 48)))).bind (fun (j67 : Bool) => some j67) else some false)).bind (fun (j63 : Bool) => (bif j63 then some 3 else (r09_quoted p0).bind (fun r81 => (bif r81 then some 4 else ((bif ((p0.size : Int) == 2) then (sAt p0 0).bind (fun y86 => some (y86 == 36)) else some false)).bind (fun (j82 : Bool) => ((bif j82 then (sAt p0 1).bind (fun y93 => some (decide (y93 ≥ 49))) else some false)).bind (fun (j89 : Bool) => ((bif j89 then (sAt p0 1).bind (fun y100 => some (decide (y100 ≤ 54))) else some false)).bind (fun (j96 : Bool) => (bif j96 then some 5 else (r09_sign p0).bind (fun r108 => (bif r108 then some 6 else some 0))))))))))))))))))
theorem r09_Kind_ok {p0 : By8} (hS : St E w I Os) {r : Int} (D : r09_Kind p0 = some r) :
    Calls P 183 #[(.string p0)] w (RT E I Os (Iv r)) := by
 refine calls_W (fn := Tryz.f183) rfl rfl rfl ?_
 unfold r09_Kind at D
 refine yf [0] (ya 0 1 z (yb (W.seq (yl (yf nL3 (ya 0 3 z (yb (yy D (fun G D => ?_) (fun G D => ?_)))))))))
 exact yf [0] (ya 0 1 z (yb (yq (ym (yh (sj D ▸ yw ⟨I, rfl, lr, hS⟩))))))
 refine yf nL13 (ya 0 4 z (bsk D fun j1 R1 D => yal (l1 := [4, 5, 6, 7]) (J := JI E I [(0, .string p0), (14, .bool j1)] Os) ?_ ?_))
 refine yak R1 (fun G R1 => ?_) (fun G R1 => ?_)
 refine y6 10 G (ya 4 1 z (bsk R1 fun x5 Xx5 R1 => WO.sliceS z kr kr z (0 : Int) (1 : Int) (.inl ⟨rfl, rfl⟩) (.inr ⟨_, _, rfl, rfl⟩) Xx5 ?_))
 exact bsk R1 fun r11 Xr6 R1 => WO.c1 (r09_all_ok  hS Xr6) z fun I8 w7 L9 S10 => ya 7 1 z (sj R1 ▸ y4 ⟨I8, rfl, L9, S10⟩)
 refine y6 10 G ?_
 iterate 3 refine yaj ?_
 exact ya 7 1 z (sj R1 ▸ y4 ⟨I, rfl, lr, hS⟩)
 rintro _ w12 ⟨I3, rfl, L4, S13⟩
 refine ya 8 1 z (bsk D fun j14 R1 D => yal (l1 := [9, 10, 11]) (J := JI E I3 [(0, .string p0), (18, .bool j14)] Os) ?_ ?_)
 refine yak R1 (fun G R1 => ?_) (fun G R1 => ?_)
 exact y6 15 G (ya 9 1 z (bsk R1 fun r23 Xr18 R1 => WO.c1 (r09_all_ok  S13 Xr18) z fun I20 w19 L21 S22 => ya 11 1 z (sj R1 ▸ y4 ⟨I20, rfl, L21, S22⟩)))
 refine y6 15 G ?_
 iterate 2 refine yaj ?_
 exact ya 11 1 z (sj R1 ▸ y4 ⟨I3, rfl, lr, S13⟩)
 rintro _ w24 ⟨I16, rfl, L17, S25⟩
 refine ya 12 1 z (yb (yy D (fun G D => ?_) (fun G D => ?_)))
 exact yf [0] (ya 0 1 z (yb (yq (ym (yh (sj D ▸ yw ⟨I16, rfl, le, S25⟩))))))
 refine yf nL13 (ya 0 4 z (bsk D fun j26 R1 D => yal (l1 := [4, 5, 6, 7]) (J := JI E I16 [(0, .string p0), (27, .bool j26)] Os) ?_ ?_))
 refine yak R1 (fun G R1 => ?_) (fun G R1 => ?_)
 refine y6 23 G (ya 4 1 z (bsk R1 fun x30 Xx30 R1 => WO.sliceS z kr kr z (0 : Int) (1 : Int) (.inl ⟨rfl, rfl⟩) (.inr ⟨_, _, rfl, rfl⟩) Xx30 ?_))
 exact bsk R1 fun r36 Xr31 R1 => WO.c1 (r09_all_ok  S25 Xr31) z fun I33 w32 L34 S35 => ya 7 1 z (sj R1 ▸ y4 ⟨I33, rfl, L34, S35⟩)
 refine y6 23 G ?_
 iterate 3 refine yaj ?_
 exact ya 7 1 z (sj R1 ▸ y4 ⟨I16, rfl, lr, S25⟩)
 rintro _ w37 ⟨I28, rfl, L29, S38⟩
 refine ya 8 1 z (bsk D fun j39 R1 D => yal (l1 := [9, 10, 11]) (J := JI E I28 [(0, .string p0), (31, .bool j39)] Os) ?_ ?_)
 refine yak R1 (fun G R1 => ?_) (fun G R1 => ?_)
 exact y6 28 G (ya 9 1 z (bsk R1 fun r48 Xr43 R1 => WO.c1 (r09_all_ok  S38 Xr43) z fun I45 w44 L46 S47 => ya 11 1 z (sj R1 ▸ y4 ⟨I45, rfl, L46, S47⟩)))
 refine y6 28 G ?_
 iterate 2 refine yaj ?_
 exact ya 11 1 z (sj R1 ▸ y4 ⟨I28, rfl, lr, S38⟩)
 rintro _ w49 ⟨I41, rfl, L42, S50⟩
 refine ya 12 1 z (yb (yy D (fun G D => ?_) (fun G D => ?_)))
 exact yf [0] (ya 0 1 z (yb (yq (ym (yh (sj D ▸ yw ⟨I41, rfl, le, S50⟩))))))
 refine yf nL17 (ya 0 4 z (bsk D fun j51 R1 D => yal (l1 := [4, 5, 6]) (J := JI E I41 [(0, .string p0), (39, .bool j51)] Os) ?_ ?_))
 refine yak R1 (fun G R1 => ?_) (fun G R1 => ?_)
 exact y6 36 G (ya 4 1 z (bsk R1 fun r60 Xr55 R1 => WO.c1 (r09_all_ok  S50 Xr55) z fun I57 w56 L58 S59 => ya 6 1 z (sj R1 ▸ y4 ⟨I57, rfl, L58, S59⟩)))
 refine y6 36 G ?_
 iterate 2 refine yaj ?_
 exact ya 6 1 z (sj R1 ▸ y4 ⟨I41, rfl, lr, S50⟩)
 rintro _ w61 ⟨I53, rfl, L54, S62⟩
 refine ya 7 1 z (bsk D fun j63 R1 D => yal (l1 := [8, 9, 10, 11, 12, 13, 14, 15]) (J := JI E I53 [(0, .string p0), (48, .bool j63)] Os) ?_ ?_)
 refine yak R1 (fun G R1 => ?_) (fun G R1 => ?_)
 refine y6 40 G (ya 8 3 z (bsk R1 fun j67 R2 R1 => yal (l1 := [11, 12, 13, 14]) (J := JI E I53 [(0, .string p0), (40, .bool true), (47, .bool j67)] Os) ?_ ?_))
 refine yak R2 (fun G R2 => ?_) (fun G R2 => ?_)
 refine y6 43 G ?_
 iterate 3 refine yaj ?_
 exact ya 14 1 z (sj R2 ▸ y4 ⟨I53, rfl, lr, S62⟩)
 refine y6 43 G (ya 11 1 z (bsk R2 fun y71 Xy71 R2 => ya4 z kr kr z z Xy71 ?_))
 exact ya 13 2 z (sj R2 ▸ y4 ⟨I53, rfl, lr, S62⟩)
 rintro _ w72 ⟨I69, rfl, L70, S73⟩
 exact ya 15 1 z (sj R1 ▸ y4 ⟨I69, rfl, L70, S73⟩)
 refine y6 40 G ?_
 iterate 7 refine yaj ?_
 exact ya 15 1 z (sj R1 ▸ y4 ⟨I53, rfl, lr, S62⟩)
 rintro _ w74 ⟨I65, rfl, L66, S75⟩
 refine ya 16 1 z (yb (yy D (fun G D => ?_) (fun G D => ?_)))
 exact yf [0] (ya 0 1 z (yb (yq (ym (yh (sj D ▸ yw ⟨I65, rfl, le, S75⟩))))))
 refine yf nL3 (ya 0 1 z (bsk D fun r81 Xr76 D => WO.c1 (r09_quoted_ok  S75 Xr76) z fun I78 w77 L79 S80 => ya 2 1 z (yb (yy D (fun G D => ?_) (fun G D => ?_)))))
 exact yf [0] (ya 0 1 z (yb (yq (ym (yh (sj D ▸ yw ⟨I78, rfl, le, S80⟩))))))
 refine yf nL19 (ya 0 4 z (bsk D fun j82 R1 D => yal (l1 := [4, 5, 6, 7]) (J := JI E I78 [(0, .string p0), (60, .bool j82)] Os) ?_ ?_))
 refine yak R1 (fun G R1 => ?_) (fun G R1 => ?_)
 refine y6 56 G (ya 4 1 z (bsk R1 fun y86 Xy86 R1 => ya4 z kr kr z z Xy86 ?_))
 exact ya 6 2 z (sj R1 ▸ y4 ⟨I78, rfl, lr, S80⟩)
 refine y6 56 G ?_
 iterate 3 refine yaj ?_
 exact ya 7 1 z (sj R1 ▸ y4 ⟨I78, rfl, lr, S80⟩)
 rintro _ w87 ⟨I84, rfl, L85, S88⟩
 refine ya 8 1 z (bsk D fun j89 R1 D => yal (l1 := [9, 10, 11, 12]) (J := JI E I84 [(0, .string p0), (65, .bool j89)] Os) ?_ ?_)
 refine yak R1 (fun G R1 => ?_) (fun G R1 => ?_)
 refine y6 61 G (ya 9 1 z (bsk R1 fun y93 Xy93 R1 => ya4 z kr kr z z Xy93 ?_))
 exact ya 11 2 z (sj R1 ▸ y4 ⟨I84, rfl, lr, S88⟩)
 refine y6 61 G ?_
 iterate 3 refine yaj ?_
 exact ya 12 1 z (sj R1 ▸ y4 ⟨I84, rfl, lr, S88⟩)
 rintro _ w94 ⟨I91, rfl, L92, S95⟩
 refine ya 13 1 z (bsk D fun j96 R1 D => yal (l1 := [14, 15, 16, 17]) (J := JI E I91 [(0, .string p0), (70, .bool j96)] Os) ?_ ?_)
 refine yak R1 (fun G R1 => ?_) (fun G R1 => ?_)
 refine y6 66 G (ya 14 1 z (bsk R1 fun y100 Xy100 R1 => ya4 z kr kr z z Xy100 ?_))
 exact ya 16 2 z (sj R1 ▸ y4 ⟨I91, rfl, lr, S95⟩)
 refine y6 66 G ?_
 iterate 3 refine yaj ?_
 exact ya 17 1 z (sj R1 ▸ y4 ⟨I91, rfl, lr, S95⟩)
 rintro _ w101 ⟨I98, rfl, L99, S102⟩
 refine ya 18 1 z (yb (yy D (fun G D => ?_) (fun G D => ?_)))
 exact yf [0] (ya 0 1 z (yb (yq (ym (yh (sj D ▸ yw ⟨I98, rfl, le, S102⟩))))))
 refine yf nL3 (ya 0 1 z (bsk D fun r108 Xr103 D => WO.c1 (r09_sign_ok  S102 Xr103) z fun I105 w104 L106 S107 => ya 2 1 z (yb (yy D (fun G D => ?_) (fun G D => ?_)))))
 exact yf [0] (ya 0 1 z (yb (yq (ym (yh (sj D ▸ yw ⟨I105, rfl, le, S107⟩))))))
 exact W.skip (yk (ye (yf [0] (ya 0 1 z (yb (yq (sj D ▸ yw ⟨I105, rfl, le, S107⟩)))))))
noncomputable def r09_IsName (p0 : By8) : Option Bool := (r09_Kind p0).bind (fun r6 => some (r6 == 1))
theorem r09_IsName_ok {p0 : By8} (hS : St E w I Os) {r : Bool} (D : r09_IsName p0 = some r) :
    Calls P 155 #[(.string p0)] w (RT E I Os (.bool r)) := by
 refine calls_W (fn := Tryz.f155) rfl rfl rfl ?_
 unfold r09_IsName at D
 exact yf [0] (ya 0 1 z (y0 nL4 (ya 0 1 z (bsk D fun r6 Xr1 D => WO.c1 (r09_Kind_ok  hS Xr1) z fun I3 w2 L4 S5 => ya 2 2 z (yb (yq (sj D ▸ yw ⟨I3, rfl, L4, S5⟩)))))))
noncomputable def r18_Check (p0 : List qJ) : Option Int := (bif (decide ((p0.length : Int) > 8)) then some 2 else (forN (fun (i4 : Nat) (_s : Unit) => (idx p0 (i4 : Int)).bind (fun x13 => (r09_IsName x13.Name).bind (fun r19 => ((bif (!r19) then some true else ((bif (decide ((i4 : Int) > 0)) then (idx p0 (w64 ((i4 : Int) - 1))).bind (fun x28 => (idx p0 (i4 : Int)).bind (fun x29 => some (!sLt x28.Name x29.Name))) else some false)).bind (fun (j24 : Bool) => some j24))).bind (fun (j20 : Bool) => (bif j20 then some (.inr (2 : Int)) else (loopO (fun (s39 : Int) => (idx p0 (i4 : Int)).bind (fun x44 => (bif (decide (s39 < (x44.In.length : Int))) then (idx p0 (i4 : Int)).bind (fun x47 => (idx x47.In s39).bind (fun x48 => (r18_At p0 x48).bind (fun r54 => ((bif (decide (r54 < 0)) then some true else ((bif (decide (s39 > 0)) then (idx p0 (i4 : Int)).bind (fun x63 => (idx x63.In (w64 (s39 - 1))).bind (fun x64 => (idx p0 (i4 : Int)).bind (fun x65 => (idx x65.In s39).bind (fun x66 => some (!sLt x64 x66))))) else some false)).bind (fun (j59 : Bool) => some j59))).bind (fun (j55 : Bool) => (bif j55 then some (.inr (.inl (2 : Int))) else some (.inl (w64 (s39 + 1)))))))) else some (.inr (.inr ()))))) 0).bind (fun (t : Int ⊕ Unit) => match t with | (.inl s72) => some (.inr s72) | (.inr ()) => some (.inl ()))))))) p0.length 0 ()).bind (fun (t : Unit ⊕ (Int)) => match t with | .inl _ => (forN (fun (i79 : Nat) (_s : Unit) => (loopO (fun (s89 : Int) => (idx p0 (i79 : Int)).bind (fun x94 => (bif (decide (s89 < (x94.In.length : Int))) then (idx p0 (i79 : Int)).bind (fun x97 => (idx x97.In s89).bind (fun x98 => (idx p0 (i79 : Int)).bind (fun x99 => (r18_Is p0 x98 x99.Name).bind (fun r105 => (bif r105 then some (.inr (.inl (2 : Int))) else some (.inl (w64 (s89 + 1)))))))) else some (.inr (.inr ()))))) 0).bind (fun (t : Int ⊕ Unit) => match t with | (.inl s107) => some (.inr s107) | (.inr ()) => some (.inl ()))) p0.length 0 ()).bind (fun (t : Unit ⊕ (Int)) => match t with | .inl _ => some 0 | .inr s109 => some s109) | .inr s35 => some s35))
theorem r18_Check_ok {p0 : List qJ} {a_p0 : Option Addr} {c_p0 : Nat} (h_p0 : RSl 2 R_qJ I a_p0 c_p0 p0) (hS : St E w I Os) {r : Int} (D : r18_Check p0 = some r) :
    Calls P 154 #[(Sl a_p0 p0 c_p0)] w (RT E I Os (Iv r)) := by
 refine calls_W (fn := Tryz.f154) rfl rfl rfl ?_
 unfold r18_Check at D
 refine yf [0] (ya 0 1 z (yb (W.seq (yf nL3 (ya 0 3 z (yb (yy D (fun G D => ?_) (fun G D => ?_))))))))
 exact yf [0] (ya 0 1 z (yb (yq (yh (sj D ▸ yw ⟨I, rfl, lr, hS⟩)))))
 refine W.skip (ye (W.seq (yf [0] (ya 0 1 z (yb (yl (bsk D fun t1 hloop5 D => have hlt9 := (h_p0).len_lt; W.wk (yap (m := p0.length) hloop5 (fun (i4 : Nat) (_s : Unit) => JI E I [(0, Sl a_p0 p0 c_p0), (3, Nv i4)] Os) ⟨I, rfl, lr, hS⟩ ?_ ?_))))))))
 rintro i4 _ _ w6 hi10 ⟨I2, rfl, L3, S7⟩ x8 R1 hext1
 refine W.seq (yf nL4 (ya 0 4 z (yb (yar fun _ => W.skip (ye (W.seq (yl (W.seq (W.seq (have S11 := S7.drew; yba nL25 25 (yad S11.im) ?_))))))))))
 generalize World.drew _ = w12 at *
 refine ya 0 2 z ?_
 obtain ⟨x13, R1, Hx13, _, ⟨w_x13, rfl, h_x13⟩, Zx13⟩ := sx I2 h_p0 R1
 refine yaa 74 2 Hx13 z (yg 3 1 [0] z (yao Zx13 (rd_i S11.im) z (bsk R1 fun r19 Xr14 R1 => yai (r09_IsName_ok  S11 Xr14) ?_)))
 rintro _ w15 ⟨I16, rfl, L17, S18⟩
 refine ⟨_, rfl, (yad (S18.im.of_le L17)), ?_⟩
 refine ya 6 2 z (bsk R1 fun j20 R2 R1 => yal (l1 := [8, 9, 10, 11, 12, 13, 14, 15, 16, 17, 18, 19, 20, 21, 22, 23, 24]) (J := JI E I16 [(0, Sl a_p0 p0 c_p0), (3, Nv i4), (40, .bool j20)] Os) ?_ ?_)
 refine yak R2 (fun G R2 => ?_) (fun G R2 => ?_)
 refine y6 23 G ?_
 iterate 16 refine yaj ?_
 exact ya 24 1 z (sj R2 ▸ y4 ⟨I16, rfl, lr, S18⟩)
 refine y6 23 G (ya 8 3 z (bsk R2 fun j24 R3 R2 => yal (l1 := [11, 12, 13, 14, 15, 16, 17, 18, 19, 20, 21, 22, 23]) (J := JI E I16 [(0, Sl a_p0 p0 c_p0), (3, Nv i4), (23, .bool false), (39, .bool j24)] Os) ?_ ?_))
 refine yak R3 (fun G R3 => ?_) (fun G R3 => ?_)
 refine y6 26 G (ya 11 3 z ?_)
 obtain ⟨x28, R3, Hx28, _, ⟨w_x28, rfl, h_x28⟩, Zx28⟩ := sx I2 h_p0 R3
 refine yaa 74 2 Hx28 z (yg 15 1 [0] z (yao Zx28 (rd_i (S18.im.of_le L17)) z (ya 17 2 z ?_)))
 obtain ⟨x29, R3, Hx29, _, ⟨w_x29, rfl, h_x29⟩, Zx29⟩ := sx I2 h_p0 R3
 exact yaa 74 2 Hx29 z (yg 20 1 [0] z (yao Zx29 (rd_i (S18.im.of_le L17)) z (y8 22 38 (.bool (!sLt x28.Name x29.Name)) (ya 23 1 z (sj R3 ▸ y4 ⟨I16, rfl, lr, S18⟩)))))
 refine y6 26 G ?_
 iterate 12 refine yaj ?_
 exact ya 23 1 z (sj R3 ▸ y4 ⟨I16, rfl, lr, S18⟩)
 rintro _ w30 ⟨I26, rfl, L27, S31⟩
 exact ya 24 1 z (sj R2 ▸ y4 ⟨I26, rfl, L27, S31⟩)
 rintro _ w32 ⟨I22, rfl, L23, S33⟩
 refine yb (yy R1 (fun G R1 => ?_) (fun G R1 => ?_))
 refine yf [0] (ya 0 1 z (yb (yq (yh (ym (yh (yu ?_)))))))
 obtain rfl := hext1 _ (sj R1).symm
 exact ym (yh (sj D ▸ yw ⟨I22, rfl, le, S33⟩))
 refine W.skip (ye (yf [0] (ya 0 1 z (yb (yl (bsk R1 fun t36 hloop40 R1 => W.wk (ya6 hloop40 (fun (s39 : Int) => JI E I22 [(0, Sl a_p0 p0 c_p0), (3, Nv i4), (4, Iv s39)] Os) ⟨I22, rfl, lr, S33⟩ ?_)))))))
 rintro s39 _ w41 ⟨I37, rfl, L38, S42⟩ x43 R2 hext36
 refine W.seq (yf nL8 (ya 0 3 z ?_))
 obtain ⟨x44, R2, Hx44, _, ⟨w_x44, rfl, h_x44⟩, Zx44⟩ := sx I37 h_p0 R2
 refine yaa 74 2 Hx44 z (yg 4 1 [1] z (yaz Zx44 1 S42.rm z (ya 6 2 z (yb (yy R2 (fun G R2 => ?_) (fun G R2 => ?_))))))
 refine W.skip (ye (W.seq (yl (W.seq (have S45 := S42.drew; yba nL35 35 (yad S45.im) ?_)))))
 generalize World.drew _ = w46 at *
 refine ya 0 3 z ?_
 obtain ⟨x47, R2, Hx47, _, ⟨w_x47, rfl, h_x47⟩, Zx47⟩ := sx I37 h_p0 R2
 refine yaa 74 2 Hx47 z (yg 4 1 [1] z (yaz Zx47 1 (rd_i S45.im) z (ya 6 1 z ?_)))
 obtain ⟨x48, R2, Hx48, _, rfl, Zx48⟩ := sl_ix (h_x47.In) R2
 refine yaa 9 1 Hx48 z (yao Zx48 (rd_i S45.im) z (bsk R2 fun r54 Xr49 R2 => yai (r18_At_ok (up h_p0) S45 Xr49) ?_))
 rintro _ w50 ⟨I51, rfl, L52, S53⟩
 refine ⟨_, rfl, (yad (S53.im.of_le L52)), ?_⟩
 refine ya 10 2 z (bsk R2 fun j55 R3 R2 => yal (l1 := [12, 13, 14, 15, 16, 17, 18, 19, 20, 21, 22, 23, 24, 25, 26, 27, 28, 29, 30, 31, 32, 33, 34]) (J := JI E I51 [(0, Sl a_p0 p0 c_p0), (3, Nv i4), (4, Iv s39), (85, .bool j55)] Os) ?_ ?_)
 refine yak R3 (fun G R3 => ?_) (fun G R3 => ?_)
 refine y6 62 G ?_
 iterate 22 refine yaj ?_
 exact ya 34 1 z (sj R3 ▸ y4 ⟨I51, rfl, lr, S53⟩)
 refine y6 62 G (ya 12 3 z (bsk R3 fun j59 R4 R3 => yal (l1 := [15, 16, 17, 18, 19, 20, 21, 22, 23, 24, 25, 26, 27, 28, 29, 30, 31, 32, 33]) (J := JI E I51 [(0, Sl a_p0 p0 c_p0), (3, Nv i4), (4, Iv s39), (62, .bool false), (84, .bool j59)] Os) ?_ ?_))
 refine yak R4 (fun G R4 => ?_) (fun G R4 => ?_)
 refine y6 65 G (ya 15 2 z ?_)
 obtain ⟨x63, R4, Hx63, _, ⟨w_x63, rfl, h_x63⟩, Zx63⟩ := sx I37 h_p0 R4
 refine yaa 74 2 Hx63 z (yg 18 1 [1] z (yaz Zx63 1 (rd_i (S53.im.of_le L52)) z (ya 20 2 z ?_)))
 obtain ⟨x64, R4, Hx64, _, rfl, Zx64⟩ := sl_ix (h_x63.In) R4
 refine yaa 9 1 Hx64 z (yao Zx64 (rd_i (S53.im.of_le L52)) z (ya 24 2 z ?_))
 obtain ⟨x65, R4, Hx65, _, ⟨w_x65, rfl, h_x65⟩, Zx65⟩ := sx I37 h_p0 R4
 refine yaa 74 2 Hx65 z (yg 27 1 [1] z (yaz Zx65 1 (rd_i (S53.im.of_le L52)) z (ya 29 1 z ?_)))
 obtain ⟨x66, R4, Hx66, _, rfl, Zx66⟩ := sl_ix (h_x65.In) R4
 exact yaa 9 1 Hx66 z (yao Zx66 (rd_i (S53.im.of_le L52)) z (y8 32 83 (.bool (!sLt x64 x66)) (ya 33 1 z (sj R4 ▸ y4 ⟨I51, rfl, lr, S53⟩))))
 refine y6 65 G ?_
 iterate 18 refine yaj ?_
 exact ya 33 1 z (sj R4 ▸ y4 ⟨I51, rfl, lr, S53⟩)
 rintro _ w67 ⟨I61, rfl, L62, S68⟩
 exact ya 34 1 z (sj R3 ▸ y4 ⟨I61, rfl, L62, S68⟩)
 rintro _ w69 ⟨I57, rfl, L58, S70⟩
 refine yb (yy R2 (fun G R2 => ?_) (fun G R2 => ?_))
 refine yf [0] (ya 0 1 z (yb (yq (ym (yh (yu ?_))))))
 obtain rfl := hext36 _ (sj R2).symm
 refine ym (ym (yh (yu ?_)))
 obtain rfl := hext1 _ (sj R1).symm
 exact ym (yh (sj D ▸ yw ⟨I57, rfl, le, S70⟩))
 exact W.skip (yk (ye (yag nL3 (ya 0 3 z (yp (yt ⟨(w64 (s39 + 1)), (sj R2).symm, I57, rfl, le, S70⟩))))))
 refine W.exit (yn (yo ?_))
 obtain rfl := hext36 _ (sj R2).symm
 exact yr (yk (ye (yag nL3 (ya 0 1 z (yam i4 z (ya 2 1 z (yp (yt ⟨(), (sj R1).symm, I37, rfl, le, S42⟩))))))))
 rintro _ _ w74 ⟨I2, rfl, L3, S75⟩ he
 cases he
 refine W.seq (yf nL4 (ya 0 4 z (yb (yas fun _ => W.exit (yn (yo (yr (ye (W.seq (yf [0] (ya 0 1 z (yb (yl (bsk D fun t76 hloop80 D => have hlt84 := ((RSl.mono h_p0 L3)).len_lt; W.wk (yap (m := p0.length) hloop80 (fun (i79 : Nat) (_s : Unit) => JI E I2 [(0, Sl a_p0 p0 c_p0), (5, Nv i79)] Os) ⟨I2, rfl, lr, S75⟩ ?_ ?_)))))))))))))))
 rintro i79 _ _ w81 hi85 ⟨I77, rfl, L78, S82⟩ x83 R1 hext76
 refine W.seq (yf nL4 (ya 0 4 z (yb (yar fun _ => W.skip (ye (W.seq (yl (yf [0] (ya 0 1 z (yb (yl (bsk R1 fun t86 hloop90 R1 => W.wk (ya6 hloop90 (fun (s89 : Int) => JI E I77 [(0, Sl a_p0 p0 c_p0), (5, Nv i79), (6, Iv s89)] Os) ⟨I77, rfl, lr, S82⟩ ?_)))))))))))))
 rintro s89 _ w91 ⟨I87, rfl, L88, S92⟩ x93 R2 hext86
 refine W.seq (yf nL8 (ya 0 3 z ?_))
 obtain ⟨x94, R2, Hx94, _, ⟨w_x94, rfl, h_x94⟩, Zx94⟩ := sx I87 h_p0 R2
 refine yaa 74 2 Hx94 z (yg 4 1 [1] z (yaz Zx94 1 S92.rm z (ya 6 2 z (yb (yy R2 (fun G R2 => ?_) (fun G R2 => ?_))))))
 refine W.skip (ye (W.seq (yl (W.seq (have S95 := S92.drew; yba nL15 14 (yad S95.im) ?_)))))
 generalize World.drew _ = w96 at *
 refine ya 0 3 z ?_
 obtain ⟨x97, R2, Hx97, _, ⟨w_x97, rfl, h_x97⟩, Zx97⟩ := sx I87 h_p0 R2
 refine yaa 74 2 Hx97 z (yg 4 1 [1] z (yaz Zx97 1 (rd_i S95.im) z (ya 6 1 z ?_)))
 obtain ⟨x98, R2, Hx98, _, rfl, Zx98⟩ := sl_ix (h_x97.In) R2
 refine yaa 9 1 Hx98 z (yao Zx98 (rd_i S95.im) z (ya 9 2 z ?_))
 obtain ⟨x99, R2, Hx99, _, ⟨w_x99, rfl, h_x99⟩, Zx99⟩ := sx I87 h_p0 R2
 refine yaa 74 2 Hx99 z (yg 12 1 [0] z (yao Zx99 (rd_i S95.im) z (WO.tail z (bsk R2 fun r105 Xr100 R2 => WO.c1 (r18_Is_ok (up h_p0) S95 Xr100) z fun I102 w101 L103 S104 => yb (yy R2 (fun G R2 => ?_) (fun G R2 => ?_))))))
 refine yf [0] (ya 0 1 z (yb (yq (ym (yh (yu ?_))))))
 obtain rfl := hext86 _ (sj R2).symm
 refine ym (ym (yh (yu ?_)))
 obtain rfl := hext76 _ (sj R1).symm
 exact ym (yh (sj D ▸ yw ⟨I102, rfl, le, S104⟩))
 exact W.skip (yk (ye (yag nL3 (ya 0 3 z (yp (yt ⟨(w64 (s89 + 1)), (sj R2).symm, I102, rfl, le, S104⟩))))))
 refine W.exit (yn (yo ?_))
 obtain rfl := hext86 _ (sj R2).symm
 exact yr (yk (ye (yag nL3 (ya 0 1 z (yam i79 z (ya 2 1 z (yp (yt ⟨(), (sj R1).symm, I87, rfl, le, S92⟩))))))))
 rintro _ _ w111 ⟨I77, rfl, L78, S112⟩ he
 cases he
 exact W.seq (yf nL4 (ya 0 4 z (yb (yas fun _ => W.exit (yn (yo (yr (ye (yf [0] (ya 0 1 z (yb (yq (sj D ▸ yw ⟨I77, rfl, le, S112⟩)))))))))))))
noncomputable def r18_Create (p0 : List qJ) (p1 : By8) : Option ((List qJ) × Int) := (r18_Check p0).bind (fun r6 => (bif (r6 != 0) then some (([] : List qJ), r6) else (r09_IsName p1).bind (fun r12 => (bif (!r12) then some (([] : List qJ), 18) else (r18_At p0 p1).bind (fun r18 => (bif (decide (r18 ≥ 0)) then some (([] : List qJ), 19) else (bif ((p0.length : Int) == 8) then some (([] : List qJ), 5) else (loopO (fun (s22 : Int) => ((bif (decide (s22 < (p0.length : Int))) then (idx p0 s22).bind (fun x31 => some (sLt x31.Name p1)) else some false)).bind (fun (j27 : Bool) => (bif j27 then some (.inl (w64 (s22 + 1))) else some (.inr s22)))) 0).bind (fun (s35 : Int) => (sub p0 0 s35).bind (fun x36 => (app 40 ([] : List qJ) x36).bind (fun x39 => (app 40 x39 ([{ z_qJ with Name := p1 }] : List qJ)).bind (fun x55 => (sub p0 s35 (p0.length : Int)).bind (fun x64 => (app 40 x55 x64).bind (fun x65 => some (x65, 0))))))))))))))
theorem r18_Create_ok {p0 : List qJ} {p1 : By8} {a_p0 : Option Addr} {c_p0 : Nat} (h_p0 : RSl 2 R_qJ I a_p0 c_p0 p0) (hS : St E w I Os) {r : (List qJ) × Int} (D : r18_Create p0 p1 = some r) :
    Calls P 118 #[(Sl a_p0 p0 c_p0), (.string p1)] w (fun e w' => ∃ (I' : Mem) (ra0 : Option Addr) (rc0 : Nat), e = .returned (.tuple #[(Sl ra0 r.1 rc0), (Iv r.2)]) ∧ I.Le I' ∧ St E w' I' Os ∧ RSl 2 R_qJ I' ra0 rc0 r.1) := by
 refine calls_W (fn := Tryz.f118) rfl rfl rfl ?_
 unfold r18_Create at D
 refine yf nL2 (y8 0 4 (.slice none 0 0) (ya 1 1 z (y0 nL3 (ya 0 1 z (bsk D fun r6 Xr1 D => WO.c1 (r18_Check_ok h_p0 hS Xr1) z fun I3 w2 L4 S5 => ya 2 1 z (yb (W.seq (yf nL2 (ya 0 2 z (yb (yy D (fun G D => ?_) (fun G D => ?_))))))))))))
 exact yf nL3 (ya 0 1 z (y8 1 4 (.slice none 0 0) (ya 2 1 z (yb (yq (yh (sj D ▸ yay ⟨I3, none, 0, rfl, L4, S5, SlAt.nil⟩)))))))
 refine W.skip (ye (W.seq (yf nL3 (ya 0 1 z (bsk D fun r12 Xr7 D => WO.c1 (r09_IsName_ok  S5 Xr7) z fun I9 w8 L10 S11 => ya 2 1 z (yb (yy D (fun G D => ?_) (fun G D => ?_))))))))
 exact yf nL2 (y8 0 4 (.slice none 0 0) (ya 1 1 z (yb (yq (yh (sj D ▸ yay ⟨I9, none, 0, rfl, le, S11, SlAt.nil⟩))))))
 refine W.skip (ye (W.seq (yf nL4 (ya 0 2 z (bsk D fun r18 Xr13 D => WO.c1 (r18_At_ok (up h_p0) S11 Xr13) z fun I15 w14 L16 S17 => ya 3 1 z (yb (yy D (fun G D => ?_) (fun G D => ?_))))))))
 exact yf nL2 (y8 0 4 (.slice none 0 0) (ya 1 1 z (yb (yq (yh (sj D ▸ yay ⟨I15, none, 0, rfl, le, S17, SlAt.nil⟩))))))
 refine W.skip (ye (W.seq (yf nL3 (ya 0 3 z (yb (yy D (fun G D => ?_) (fun G D => ?_)))))))
 exact yf nL2 (y8 0 4 (.slice none 0 0) (ya 1 1 z (yb (yq (yh (sj D ▸ yay ⟨I15, none, 0, rfl, le, S17, SlAt.nil⟩))))))
 refine W.skip (ye (yf [0] (ya 0 1 z (yb (W.seq (yl (bsk D fun t19 hloop23 D => W.wk (ya6 hloop23 (fun (s22 : Int) => JI E I15 [(0, Sl a_p0 p0 c_p0), (1, .string p1), (7, Iv s22)] Os) ⟨I15, rfl, lr, S17⟩ ?_))))))))
 rintro s22 _ w24 ⟨I20, rfl, L21, S25⟩ x26 R1 hext19
 refine W.seq (yf nL13 (ya 0 5 z (bsk R1 fun j27 R2 R1 => yal (l1 := [5, 6, 7, 8, 9, 10, 11, 12]) (J := JI E I20 [(0, Sl a_p0 p0 c_p0), (1, .string p1), (7, Iv s22), (36, .bool j27)] Os) ?_ ?_)))
 refine yak R2 (fun G R2 => ?_) (fun G R2 => ?_)
 refine y6 28 G (ya 5 2 z ?_)
 obtain ⟨x31, R2, Hx31, _, ⟨w_x31, rfl, h_x31⟩, Zx31⟩ := sx I20 h_p0 R2
 exact yaa 74 2 Hx31 z (yg 8 1 [0] z (yao Zx31 S25.rm z (ya 10 1 z (y8 11 35 (.bool (sLt x31.Name p1)) (ya 12 1 z (sj R2 ▸ y4 ⟨I20, rfl, lr, S25⟩))))))
 refine y6 28 G ?_
 iterate 7 refine yaj ?_
 exact ya 12 1 z (sj R2 ▸ y4 ⟨I20, rfl, lr, S25⟩)
 rintro _ w32 ⟨I29, rfl, L30, S33⟩
 refine yb (yy R1 (fun G R1 => ?_) (fun G R1 => ?_))
 exact W.skip (ye (yl (yag nL3 (ya 0 3 z (yp (yk (yt ⟨(w64 (s22 + 1)), (sj R1).symm, I29, rfl, le, S33⟩)))))))
 refine W.exit (yn (yo ?_))
 obtain rfl := hext19 _ (sj R1).symm
 refine yr (ye (yf [0] (y8 0 8 (.slice none 0 0) (y0 nL6 (ya 0 3 z ?_)))))
 obtain ⟨x76, Xx76, D⟩ := bsm D
 obtain ⟨h0_x76, h1_x76, h2_x76, he_x76⟩ := sub_some Xx76
 have hl_x76 : (s22 : Int) ≤ (c_p0 : Int) := Int.le_trans h2_x76 (Int.ofNat_le.2 ((RSl.mono h_p0 ((((L4.trans L10).trans L16).trans L21).trans L30))).le)
 refine ya3 (e := 74) (sz := 2) z kr kr kr z (0 : Int) (s22 : Int) h0_x76 (.inl ⟨rfl, rfl⟩) (.inr ⟨_, _, rfl, rfl⟩) h1_x76 hl_x76 ?_
 obtain ⟨a_x76, c_x76, h_x76, ev_x76⟩ := sub_ok ((RSl.mono h_p0 ((((L4.trans L10).trans L16).trans L21).trans L30))) h0_x76 h1_x76 h2_x76 he_x76
 refine yae 42 z ev_x76 ?_
 have S78 := S33.no
 refine apk D fun x79 h0_x79 he_x79 D => ya7 (e' := 74) (b := 40) (zs := (cs_qJ z_qJ zw_qJ).toArray) S78 (OwnSl.nil (T := 74) (rel := R_qJ) (I := I29)) z kr z kr kr kr z z z z h_x76 S78.im h0_x79 he_x79 tv ?_
 intro a80 c81 w82 C83 S84 ho85
 refine ya 5 1 z (y0 nL6 (ya 0 2 z (y8 2 46 (.agg (cs_qJ ({ z_qJ with Name := p1 }) zw_qJ).toArray) ?_)))
 have hk93 : ok_qJ I29 ({ z_qJ with Name := p1 }) zw_qJ := ⟨SlAt.nil⟩
 refine yab (rel := R_qJ) (xs := ([{ z_qJ with Name := p1 }] : List qJ)) S84 z kr z 74 2 [(cs_qJ ({ z_qJ with Name := p1 }) zw_qJ)] kr z ((Elr.cons ⟨zw_qJ, rfl, hk93⟩ Elr.nil)) tv ?_
 intro a89 C87 w91 S90 ho88
 have S94 := S90.front1
 refine apk D fun x95 h0_x95 he_x95 D => yax 74 40 (cs_qJ z_qJ zw_qJ) S94 ho85 ho88.sl (S94.rd m1) h0_x95 he_x95 z fun a96 c97 w98 C99 S100 ho101 => have S103 := S100.front1.drop; ya 5 1 z (y0 nL7 (ya 0 3 z ?_))
 obtain ⟨x104, Xx104, D⟩ := bsm D
 obtain ⟨h0_x104, h1_x104, h2_x104, he_x104⟩ := sub_some Xx104
 have hl_x104 : ((p0.length : Int) : Int) ≤ (c_p0 : Int) := Int.le_trans h2_x104 (Int.ofNat_le.2 ((RSl.mono h_p0 ((((L4.trans L10).trans L16).trans L21).trans L30))).le)
 refine ya3 (e := 74) (sz := 2) z kr kr kr z (s22 : Int) ((p0.length : Int) : Int) h0_x104 (.inr ⟨_, _, rfl, rfl⟩) (.inl ⟨rfl, rfl⟩) h1_x104 hl_x104 ?_
 obtain ⟨a_x104, c_x104, h_x104, ev_x104⟩ := sub_ok ((RSl.mono h_p0 ((((L4.trans L10).trans L16).trans L21).trans L30))) h0_x104 h1_x104 h2_x104 he_x104
 refine yae 52 z ev_x104 ?_
 refine apk D fun x105 h0_x105 he_x105 D => yax 74 40 (cs_qJ z_qJ zw_qJ) S103 ho101 h_x104 S103.im h0_x105 he_x105 z ?_
 intro a106 c107 w108 C109 S110 ho111
 obtain ⟨I112, L113, S115, hp114⟩ := yac ho111 S110
 exact ya 5 2 z (yb (yq (sj D ▸ yay ⟨I112, a106, c107, rfl, le, S115, hp114⟩)))
def r18_turned (p0 : List qJ) (p1 : Int) (p2 : List By8) : Option (List qJ) := (app 40 ([] : List qJ) p0).bind (fun x3 => (idx x3 p1).bind (fun x10 => some (x3.set (p1).toNat ({ x10 with In := p2 }))))
theorem r18_turned_ok {p0 : List qJ} {p1 : Int} {p2 : List By8} {a_p0 : Option Addr} {c_p0 : Nat} {a_p2 : Option Addr} {c_p2 : Nat} (h_p0 : RSl 2 R_qJ I a_p0 c_p0 p0) (h_p2 : RSl 1 RStr I a_p2 c_p2 p2) (hS : St E w I Os) {r : (List qJ)} (D : r18_turned p0 p1 p2 = some r) :
    Calls P 156 #[(Sl a_p0 p0 c_p0), (Iv p1), (Sl a_p2 p2 c_p2)] w (fun e w' => ∃ (I' : Mem) (ra0 : Option Addr) (rc0 : Nat), e = .returned (Sl ra0 r rc0) ∧ I.Le I' ∧ St E w' I' Os ∧ RSl 2 R_qJ I' ra0 rc0 r) := by
 refine calls_W (fn := Tryz.f156) rfl rfl rfl ?_
 unfold r18_turned at D
 refine yf [0] (y8 0 6 (.slice none 0 0) (y0 [0] (y8 0 7 (.slice none 0 0) (y0 nL4 (ya 0 2 z (have S2 := hS.no; apk D fun x3 h0_x3 he_x3 D => ya7 (e' := 74) (b := 40) (zs := (cs_qJ z_qJ zw_qJ).toArray) S2 (OwnSl.nil (T := 74) (rel := R_qJ) (I := I)) z kr z kr kr kr z z z z h_p0 S2.im h0_x3 he_x3 tv ?_))))))
 intro a4 c5 w6 C7 S8 ho9
 refine ya 3 1 z (y0 nL6 (ya 0 3 z ?_))
 obtain ⟨x10, D, h0_x10, h1_x10, Xx10, ha_x10, _, _, ⟨w_x10, rfl, h_x10⟩, Zx10⟩ := sl_at (ho9.sl) D
 refine ya5 74 2 ha_x10 h0_x10 h1_x10 ?_
 refine yg 4 1 [1] z ?_
 have hk15 : ok_qJ I ({ x10 with In := p2 }) (⟨⟨a_p2, c_p2⟩⟩ : W_qJ) := ⟨h_p2⟩
 refine ya9 S8 ho9 z kr z Xx10 (u' := { x10 with In := p2 }) 1 z z kr z z (fun cs hrel => (by obtain ⟨w_zz, rfl, h_zz⟩ := hrel; exact ⟨{ w_zz with In := ⟨a_p2, c_p2⟩ }, rfl, { h_zz with In := h_p2 }⟩)) tv ?_
 intro w12 C13 S11 ho14
 refine yae 7 z (show Value.slice a4 x3.length c5 = Value.slice a4 (x3.set (p1).toNat ({ x10 with In := p2 })).length c5 by simp only [List.length_set]) ?_
 refine y0 nL2 (ya 0 1 z ?_)
 obtain ⟨I16, L17, S19, hp18⟩ := yac ho14 S11
 exact ya 1 1 z (yb (yq (sj D ▸ yw ⟨I16, a4, c5, rfl, L17, S19, hp18⟩)))
noncomputable def r18_Grant (p0 : List qJ) (p1 : By8) (p2 : By8) : Option ((List qJ) × Int) := (r18_Check p0).bind (fun r6 => (bif (r6 != 0) then some (([] : List qJ), r6) else (r18_At p0 p2).bind (fun r12 => ((bif (decide (r12 < 0)) then some true else (r18_At p0 p1).bind (fun r22 => some (decide (r22 < 0))))).bind (fun (j13 : Bool) => (bif j13 then some (([] : List qJ), 4) else (idx p0 r12).bind (fun x25 => (r14_Has x25.In p1).bind (fun r31 => (bif r31 then some (([] : List qJ), 19) else (r18_Is p0 p1 p2).bind (fun r37 => (bif r37 then some (([] : List qJ), 35) else (idx p0 r12).bind (fun x38 => (r18_into x38.In p1).bind (fun r44 => (r18_turned p0 r12 r44).bind (fun r50 => some (r50, 0))))))))))))))
theorem r18_Grant_ok {p0 : List qJ} {p1 : By8} {p2 : By8} {a_p0 : Option Addr} {c_p0 : Nat} (h_p0 : RSl 2 R_qJ I a_p0 c_p0 p0) (hS : St E w I Os) {r : (List qJ) × Int} (D : r18_Grant p0 p1 p2 = some r) :
    Calls P 119 #[(Sl a_p0 p0 c_p0), (.string p1), (.string p2)] w (fun e w' => ∃ (I' : Mem) (ra0 : Option Addr) (rc0 : Nat), e = .returned (.tuple #[(Sl ra0 r.1 rc0), (Iv r.2)]) ∧ I.Le I' ∧ St E w' I' Os ∧ RSl 2 R_qJ I' ra0 rc0 r.1) := by
 refine calls_W (fn := Tryz.f119) rfl rfl rfl ?_
 unfold r18_Grant at D
 refine yf nL2 (y8 0 6 (.slice none 0 0) (ya 1 1 z (y0 nL3 (ya 0 1 z (bsk D fun r6 Xr1 D => WO.c1 (r18_Check_ok h_p0 hS Xr1) z fun I3 w2 L4 S5 => ya 2 1 z (yb (W.seq (yf nL2 (ya 0 2 z (yb (yy D (fun G D => ?_) (fun G D => ?_))))))))))))
 exact yf nL3 (ya 0 1 z (y8 1 6 (.slice none 0 0) (ya 2 1 z (yb (yq (yh (sj D ▸ yay ⟨I3, none, 0, rfl, L4, S5, SlAt.nil⟩)))))))
 refine W.skip (ye (yf nL4 (ya 0 2 z (bsk D fun r12 Xr7 D => WO.c1 (r18_At_ok (RSl.mono h_p0 L4) S5 Xr7) z fun I9 w8 L10 S11 => ya 3 1 z (yb (W.seq (yf nL8 (ya 0 3 z (bsk D fun j13 R1 D => yal (l1 := [3, 4, 5, 6, 7]) (J := JI E I9 [(0, Sl a_p0 p0 c_p0), (1, .string p1), (2, .string p2), (9, Iv r12), (25, .bool j13)] Os) ?_ ?_)))))))))
 refine yak R1 (fun G R1 => ?_) (fun G R1 => ?_)
 refine y6 20 G ?_
 iterate 4 refine yaj ?_
 exact ya 7 1 z (sj R1 ▸ y4 ⟨I9, rfl, lr, S11⟩)
 exact y6 20 G (ya 3 2 z (bsk R1 fun r22 Xr17 R1 => WO.c1 (r18_At_ok (up h_p0) S11 Xr17) z fun I19 w18 L20 S21 => ya 6 2 z (sj R1 ▸ y4 ⟨I19, rfl, L20, S21⟩)))
 rintro _ w23 ⟨I15, rfl, L16, S24⟩
 refine yb (yy D (fun G D => ?_) (fun G D => ?_))
 exact yf nL2 (y8 0 6 (.slice none 0 0) (ya 1 1 z (yb (yq (yh (sj D ▸ yay ⟨I15, none, 0, rfl, le, S24, SlAt.nil⟩))))))
 refine W.skip (ye (W.seq (yf nL7 (ya 0 2 z ?_))))
 obtain ⟨x25, D, Hx25, _, ⟨w_x25, rfl, h_x25⟩, Zx25⟩ := sx I15 h_p0 D
 refine yaa 74 2 Hx25 z (yg 3 1 [1] z (yaz Zx25 1 S24.rm z (ya 5 1 z (bsk D fun r31 Xr26 D => WO.c1 (r14_Has_ok h_x25.In S24 Xr26) z fun I28 w27 L29 S30 => yb (yy D (fun G D => ?_) (fun G D => ?_))))))
 exact yf nL2 (y8 0 6 (.slice none 0 0) (ya 1 1 z (yb (yq (yh (sj D ▸ yay ⟨I28, none, 0, rfl, le, S30, SlAt.nil⟩))))))
 refine W.skip (ye (W.seq (yf nL4 (ya 0 3 z (bsk D fun r37 Xr32 D => WO.c1 (r18_Is_ok (up h_p0) S30 Xr32) z fun I34 w33 L35 S36 => yb (yy D (fun G D => ?_) (fun G D => ?_)))))))
 exact yf nL2 (y8 0 6 (.slice none 0 0) (ya 1 1 z (yb (yq (yh (sj D ▸ yay ⟨I34, none, 0, rfl, le, S36, SlAt.nil⟩))))))
 refine W.skip (ye (yf nL12 (ya 0 4 z ?_)))
 obtain ⟨x38, D, Hx38, _, ⟨w_x38, rfl, h_x38⟩, Zx38⟩ := sx I34 h_p0 D
 refine yaa 74 2 Hx38 z (yg 5 1 [1] z (yaz Zx38 1 S36.rm z (ya 7 1 z (bsk D fun r44 Xr39 D => yai (r18_into_ok h_x38.In S36 Xr39) ?_))))
 rintro _ w40 ⟨I41, a_r44, c_r44, rfl, L42, S43, h_r44⟩
 refine cv (bsk D fun r50 Xr45 D => yai (r18_turned_ok (up h_p0) h_r44 S43 Xr45) ?_)
 rintro _ w46 ⟨I47, a_r50, c_r50, rfl, L48, S49, h_r50⟩
 exact cv (ya 10 2 z (yb (yq (sj D ▸ yay ⟨I47, a_r50, c_r50, rfl, le, S49, h_r50⟩))))
def r18_without (p0 : List By8) (p1 : By8) : Option (List By8) := (forE (fun (i5 : Nat) (s4 : List By8) => (idx p0 (i5 : Int)).bind (fun x14 => ((bif (!sEq x14 p1) then (idx p0 (i5 : Int)).bind (fun x19 => (app 16 s4 ([x19] : List By8)).bind (fun x28 => some x28)) else some s4)).bind (fun (j15 : List By8) => some j15))) p0.length 0 ([] : List By8)).bind (fun s4 => some s4)
theorem r18_without_ok {p0 : List By8} {p1 : By8} {a_p0 : Option Addr} {c_p0 : Nat} (h_p0 : RSl 1 RStr I a_p0 c_p0 p0) (hS : St E w I Os) {r : (List By8)} (D : r18_without p0 p1 = some r) :
    Calls P 157 #[(Sl a_p0 p0 c_p0), (.string p1)] w (fun e w' => ∃ (I' : Mem) (ra0 : Option Addr) (rc0 : Nat), e = .returned (Sl ra0 r rc0) ∧ I.Le I' ∧ St E w' I' Os ∧ RSl 1 RStr I' ra0 rc0 r) := by
 refine calls_W (fn := Tryz.f157) rfl rfl rfl ?_
 unfold r18_without at D
 refine yf [0] (y8 0 4 (.slice none 0 0) (y0 [0] (y8 0 5 (.slice none 0 0) (yb (W.seq (yf [0] (ya 0 1 z (yb (yl (bsk D fun s4 hloop6 D => have hlt12 := (h_p0).len_lt; W.wk (yat (m := p0.length) hloop6 (fun (i5 : Nat) (s4 : List By8) fr w => ∃ I2 a_s4 c_s4 C_s4, fr = [(0, Sl a_p0 p0 c_p0), (1, .string p1), (5, Sl a_s4 s4 c_s4), (6, Nv i5)] ∧ I.Le I2 ∧ St E w I2 ((C_s4) :: Os) ∧ OwnSl 9 1 RStr I2 C_s4 a_s4 c_s4 s4) ⟨I, none, 0, Mem.no, rfl, lr, hS.no, OwnSl.nil⟩ ?_ ?_)))))))))))
 rintro i5 s4 _ w9 hi13 ⟨I2, a_s4, c_s4, C_s4, rfl, L3, S10, h_s4⟩ x11 R1
 refine W.seq (yf nL4 (ya 0 4 z (yb (yar fun _ => W.skip (ye (W.seq (yl (yf nL6 (ya 0 2 z ?_)))))))))
 obtain ⟨x14, R1, Hx14, _, rfl, Zx14⟩ := sx I2 h_p0 R1
 refine yaa 9 1 Hx14 z (yao Zx14 S10.rm z (ya 4 2 z (yb (bsk R1 fun j15 R2 R1 => yav (J := (fun fr w => ∃ I17 a_j15 c_j15 C_j15, fr = [(0, Sl a_p0 p0 c_p0), (1, .string p1), (5, Sl a_j15 j15 c_j15), (6, Nv i5)] ∧ I2.Le I17 ∧ St E w I17 ((C_j15) :: Os) ∧ OwnSl 9 1 RStr I17 C_j15 a_j15 c_j15 j15)) ?_ ?_))))
 refine yy R2 (fun G R2 => ?_) (fun G R2 => ?_)
 refine yag nL8 (ya 0 3 z ?_)
 obtain ⟨x19, R2, Hx19, _, rfl, Zx19⟩ := sx I2 h_p0 R2
 refine yaa 9 1 Hx19 z (yao Zx19 S10.rm z (yab (rel := RStr) (xs := ([x19] : List By8)) S10 z kr z 9 1 [[(.string x19)]] kr z ((Elr.cons z Elr.nil)) tv ?_))
 intro a23 C21 w25 S24 ho22
 have S27 := S24.front1
 exact apk R2 fun x28 h0_x28 he_x28 R2 => yax 9 16 [(.string eB)] S27 h_s4 ho22.sl (S27.rd m1) h0_x28 he_x28 z fun a29 c30 w31 C32 S33 ho34 => ya 7 1 z (yp (sj R2 ▸ yt ⟨I2, a29, c30, C32, rfl, lr, S33.front1.drop, ho34⟩))
 exact W.skip (sj R2 ▸ yt ⟨I2, a_s4, c_s4, C_s4, rfl, lr, S10, h_s4⟩)
 rintro _ w37 ⟨I17, a_j15, c_j15, C_j15, rfl, L18, S38, h_j15⟩
 exact yk (ye (yag nL3 (ya 0 1 z (yam i5 z (ya 2 1 z (yp (sj R1 ▸ yt ⟨I17, a_j15, c_j15, C_j15, rfl, le, S38, h_j15⟩)))))))
 rintro _ w39 ⟨I2, a_s4, c_s4, C_s4, rfl, L3, S40, h_s4⟩
 refine W.seq (yf nL4 (ya 0 4 z (yb (yas fun _ => W.exit (yn (yo (yr (ye (yf nL2 (ya 0 1 z ?_))))))))))
 obtain ⟨I41, L42, S44, hp43⟩ := yac h_s4 S40
 exact ya 1 1 z (yb (yq (sj D ▸ yw ⟨I41, a_s4, c_s4, rfl, le, S44, hp43⟩)))
noncomputable def r18_Revoke (p0 : List qJ) (p1 : By8) (p2 : By8) : Option ((List qJ) × Int) := (r18_Check p0).bind (fun r6 => (bif (r6 != 0) then some (([] : List qJ), r6) else (r18_At p0 p2).bind (fun r12 => ((bif (decide (r12 < 0)) then some true else (idx p0 r12).bind (fun x17 => (r14_Has x17.In p1).bind (fun r23 => some (!r23))))).bind (fun (j13 : Bool) => (bif j13 then some (([] : List qJ), 4) else (idx p0 r12).bind (fun x26 => (r18_without x26.In p1).bind (fun r32 => (r18_turned p0 r12 r32).bind (fun r38 => some (r38, 0)))))))))
theorem r18_Revoke_ok {p0 : List qJ} {p1 : By8} {p2 : By8} {a_p0 : Option Addr} {c_p0 : Nat} (h_p0 : RSl 2 R_qJ I a_p0 c_p0 p0) (hS : St E w I Os) {r : (List qJ) × Int} (D : r18_Revoke p0 p1 p2 = some r) :
    Calls P 120 #[(Sl a_p0 p0 c_p0), (.string p1), (.string p2)] w (fun e w' => ∃ (I' : Mem) (ra0 : Option Addr) (rc0 : Nat), e = .returned (.tuple #[(Sl ra0 r.1 rc0), (Iv r.2)]) ∧ I.Le I' ∧ St E w' I' Os ∧ RSl 2 R_qJ I' ra0 rc0 r.1) := by
 refine calls_W (fn := Tryz.f120) rfl rfl rfl ?_
 unfold r18_Revoke at D
 refine yf nL2 (y8 0 6 (.slice none 0 0) (ya 1 1 z (y0 nL3 (ya 0 1 z (bsk D fun r6 Xr1 D => WO.c1 (r18_Check_ok h_p0 hS Xr1) z fun I3 w2 L4 S5 => ya 2 1 z (yb (W.seq (yf nL2 (ya 0 2 z (yb (yy D (fun G D => ?_) (fun G D => ?_))))))))))))
 exact yf nL3 (ya 0 1 z (y8 1 6 (.slice none 0 0) (ya 2 1 z (yb (yq (yh (sj D ▸ yay ⟨I3, none, 0, rfl, L4, S5, SlAt.nil⟩)))))))
 refine W.skip (ye (yf nL4 (ya 0 2 z (bsk D fun r12 Xr7 D => WO.c1 (r18_At_ok (RSl.mono h_p0 L4) S5 Xr7) z fun I9 w8 L10 S11 => ya 3 1 z (yb (W.seq (yf nL12 (ya 0 3 z (bsk D fun j13 R1 D => yal (l1 := [3, 4, 5, 6, 7, 8, 9, 10, 11]) (J := JI E I9 [(0, Sl a_p0 p0 c_p0), (1, .string p1), (9, Iv r12), (29, .bool j13)] Os) ?_ ?_)))))))))
 refine yak R1 (fun G R1 => ?_) (fun G R1 => ?_)
 refine y6 20 G ?_
 iterate 8 refine yaj ?_
 exact ya 11 1 z (sj R1 ▸ y4 ⟨I9, rfl, lr, S11⟩)
 refine y6 20 G (ya 3 2 z ?_)
 obtain ⟨x17, R1, Hx17, _, ⟨w_x17, rfl, h_x17⟩, Zx17⟩ := sx I9 h_p0 R1
 exact yaa 74 2 Hx17 z (yg 6 1 [1] z (yaz Zx17 1 S11.rm z (ya 8 1 z (bsk R1 fun r23 Xr18 R1 => WO.c1 (r14_Has_ok h_x17.In S11 Xr18) z fun I20 w19 L21 S22 => ya 10 2 z (sj R1 ▸ y4 ⟨I20, rfl, L21, S22⟩)))))
 rintro _ w24 ⟨I15, rfl, L16, S25⟩
 refine yb (yy D (fun G D => ?_) (fun G D => ?_))
 exact yf nL2 (y8 0 6 (.slice none 0 0) (ya 1 1 z (yb (yq (yh (sj D ▸ yay ⟨I15, none, 0, rfl, le, S25, SlAt.nil⟩))))))
 refine W.skip (ye (yf nL12 (ya 0 4 z ?_)))
 obtain ⟨x26, D, Hx26, _, ⟨w_x26, rfl, h_x26⟩, Zx26⟩ := sx I15 h_p0 D
 refine yaa 74 2 Hx26 z (yg 5 1 [1] z (yaz Zx26 1 S25.rm z (ya 7 1 z (bsk D fun r32 Xr27 D => yai (r18_without_ok h_x26.In S25 Xr27) ?_))))
 rintro _ w28 ⟨I29, a_r32, c_r32, rfl, L30, S31, h_r32⟩
 refine cv (bsk D fun r38 Xr33 D => yai (r18_turned_ok (up h_p0) h_r32 S31 Xr33) ?_)
 rintro _ w34 ⟨I35, a_r38, c_r38, rfl, L36, S37, h_r38⟩
 exact cv (ya 10 2 z (yb (yq (sj D ▸ yay ⟨I35, a_r38, c_r38, rfl, le, S37, h_r38⟩))))
noncomputable def r18_Drop (p0 : List qJ) (p1 : By8) : Option ((List qJ) × Int) := (r18_Check p0).bind (fun r6 => (bif (r6 != 0) then some (([] : List qJ), r6) else (r18_At p0 p1).bind (fun r12 => (bif (decide (r12 < 0)) then some (([] : List qJ), 4) else (bif (sEq p1 (⟨#[114, 111, 111, 116]⟩ : By8)) then some (([] : List qJ), 34) else (forE (fun (i17 : Nat) (s16 : List qJ) => (idx p0 (i17 : Int)).bind (fun x26 => ((bif (!sEq x26.Name p1) then (idx p0 (i17 : Int)).bind (fun x33 => (idx p0 (i17 : Int)).bind (fun x34 => (r18_without x34.In p1).bind (fun r40 => (app 40 s16 ([{ x33 with In := r40 }] : List qJ)).bind (fun x50 => some x50)))) else some s16)).bind (fun (j27 : List qJ) => some j27))) p0.length 0 ([] : List qJ)).bind (fun s16 => some (s16, 0)))))))
theorem r18_Drop_ok {p0 : List qJ} {p1 : By8} {a_p0 : Option Addr} {c_p0 : Nat} (h_p0 : RSl 2 R_qJ I a_p0 c_p0 p0) (hS : St E w I Os) {r : (List qJ) × Int} (D : r18_Drop p0 p1 = some r) :
    Calls P 121 #[(Sl a_p0 p0 c_p0), (.string p1)] w (fun e w' => ∃ (I' : Mem) (ra0 : Option Addr) (rc0 : Nat), e = .returned (.tuple #[(Sl ra0 r.1 rc0), (Iv r.2)]) ∧ I.Le I' ∧ St E w' I' Os ∧ RSl 2 R_qJ I' ra0 rc0 r.1) := by
 refine calls_W (fn := Tryz.f121) rfl rfl rfl ?_
 unfold r18_Drop at D
 refine yf nL2 (y8 0 4 (.slice none 0 0) (ya 1 1 z (y0 nL3 (ya 0 1 z (bsk D fun r6 Xr1 D => WO.c1 (r18_Check_ok h_p0 hS Xr1) z fun I3 w2 L4 S5 => ya 2 1 z (yb (W.seq (yf nL2 (ya 0 2 z (yb (yy D (fun G D => ?_) (fun G D => ?_))))))))))))
 exact yf nL3 (ya 0 1 z (y8 1 4 (.slice none 0 0) (ya 2 1 z (yb (yq (yh (sj D ▸ yay ⟨I3, none, 0, rfl, L4, S5, SlAt.nil⟩)))))))
 refine W.skip (ye (W.seq (yf nL4 (ya 0 2 z (bsk D fun r12 Xr7 D => WO.c1 (r18_At_ok (RSl.mono h_p0 L4) S5 Xr7) z fun I9 w8 L10 S11 => ya 3 1 z (yb (yy D (fun G D => ?_) (fun G D => ?_))))))))
 exact yf nL2 (y8 0 4 (.slice none 0 0) (ya 1 1 z (yb (yq (yh (sj D ▸ yay ⟨I9, none, 0, rfl, le, S11, SlAt.nil⟩))))))
 refine W.skip (ye (W.seq (yf nL2 (ya 0 2 z (yb (yy D (fun G D => ?_) (fun G D => ?_)))))))
 exact yf nL2 (y8 0 4 (.slice none 0 0) (ya 1 1 z (yb (yq (yh (sj D ▸ yay ⟨I9, none, 0, rfl, le, S11, SlAt.nil⟩))))))
 refine W.skip (ye (yf [0] (y8 0 7 (.slice none 0 0) (yb (W.seq (yf [0] (ya 0 1 z (yb (yl (bsk D fun s16 hloop18 D => have hlt24 := ((RSl.mono h_p0 (L4.trans L10))).len_lt; W.wk (yat (m := p0.length) hloop18 (fun (i17 : Nat) (s16 : List qJ) fr w => ∃ I14 a_s16 c_s16 C_s16, fr = [(0, Sl a_p0 p0 c_p0), (1, .string p1), (7, Sl a_s16 s16 c_s16), (8, Nv i17)] ∧ I9.Le I14 ∧ St E w I14 ((C_s16) :: Os) ∧ OwnSl 74 2 R_qJ I14 C_s16 a_s16 c_s16 s16) ⟨I9, none, 0, Mem.no, rfl, lr, S11.no, OwnSl.nil⟩ ?_ ?_)))))))))))
 rintro i17 s16 _ w21 hi25 ⟨I14, a_s16, c_s16, C_s16, rfl, L15, S22, h_s16⟩ x23 R1
 refine W.seq (yf nL4 (ya 0 4 z (yb (yar fun _ => W.skip (ye (W.seq (yl (yf nL7 (ya 0 2 z ?_)))))))))
 obtain ⟨x26, R1, Hx26, _, ⟨w_x26, rfl, h_x26⟩, Zx26⟩ := sx I14 h_p0 R1
 refine yaa 74 2 Hx26 z (yg 3 1 [0] z (yao Zx26 S22.rm z (ya 5 2 z (yb (bsk R1 fun j27 R2 R1 => yav (J := (fun fr w => ∃ I29 a_j27 c_j27 C_j27, fr = [(0, Sl a_p0 p0 c_p0), (1, .string p1), (7, Sl a_j27 j27 c_j27), (8, Nv i17)] ∧ I14.Le I29 ∧ St E w I29 ((C_j27) :: Os) ∧ OwnSl 74 2 R_qJ I29 C_j27 a_j27 c_j27 j27)) ?_ ?_)))))
 refine yy R2 (fun G R2 => ?_) (fun G R2 => ?_)
 have S31 := S22.drew
 refine yba nL17 13 (yad S31.im) ?_
 generalize World.drew _ = w32 at *
 refine ya 0 3 z ?_
 obtain ⟨x33, R2, Hx33, _, ⟨w_x33, rfl, h_x33⟩, Zx33⟩ := sx I14 h_p0 R2
 refine yaa 74 2 Hx33 z (yg 4 1 [0] z (yao Zx33 (rd_i S31.im) z (ya 6 2 z ?_)))
 obtain ⟨x34, R2, Hx34, _, ⟨w_x34, rfl, h_x34⟩, Zx34⟩ := sx I14 h_p0 R2
 refine yaa 74 2 Hx34 z (yg 9 1 [1] z (yaz Zx34 1 (rd_i S31.im) z (ya 11 1 z (bsk R2 fun r40 Xr35 R2 => yai (r18_without_ok h_x34.In S31 Xr35) ?_))))
 rintro _ w36 ⟨I37, a_r40, c_r40, rfl, L38, S39, h_r40⟩
 refine ⟨_, rfl, (yad (S39.im.of_le L38)), ?_⟩
 refine WO.tail z (y8 13 46 (.agg (cs_qJ ({ x33 with In := r40 }) (⟨⟨a_r40, c_r40⟩⟩ : W_qJ)).toArray) ?_)
 have hk48 : ok_qJ I37 ({ x33 with In := r40 }) (⟨⟨a_r40, c_r40⟩⟩ : W_qJ) := ⟨h_r40⟩
 refine yab (rel := R_qJ) (xs := ([{ x33 with In := r40 }] : List qJ)) S39 z kr z 74 2 [(cs_qJ ({ x33 with In := r40 }) (⟨⟨a_r40, c_r40⟩⟩ : W_qJ))] kr z ((Elr.cons ⟨(⟨⟨a_r40, c_r40⟩⟩ : W_qJ), rfl, hk48⟩ Elr.nil)) tv ?_
 intro a44 C42 w46 S45 ho43
 have S49 := S45.front1
 exact apk R2 fun x50 h0_x50 he_x50 R2 => yax 74 40 (cs_qJ z_qJ zw_qJ) S49 (OwnSl.mono h_s16 L38) ho43.sl (S49.rd m1) h0_x50 he_x50 z fun a51 c52 w53 C54 S55 ho56 => ya 16 1 z (yp (sj R2 ▸ yt ⟨I37, a51, c52, C54, rfl, L38, S55.front1.drop, ho56⟩))
 exact W.skip (sj R2 ▸ yt ⟨I14, a_s16, c_s16, C_s16, rfl, lr, S22, h_s16⟩)
 rintro _ w59 ⟨I29, a_j27, c_j27, C_j27, rfl, L30, S60, h_j27⟩
 exact yk (ye (yag nL3 (ya 0 1 z (yam i17 z (ya 2 1 z (yp (sj R1 ▸ yt ⟨I29, a_j27, c_j27, C_j27, rfl, le, S60, h_j27⟩)))))))
 rintro _ w61 ⟨I14, a_s16, c_s16, C_s16, rfl, L15, S62, h_s16⟩
 refine W.seq (yf nL4 (ya 0 4 z (yb (yas fun _ => W.exit (yn (yo (yr (ye (yf nL3 (ya 0 1 z ?_))))))))))
 obtain ⟨I63, L64, S66, hp65⟩ := yac h_s16 S62
 exact ya 1 2 z (yb (yq (sj D ▸ yay ⟨I63, a_s16, c_s16, rfl, le, S66, hp65⟩)))
noncomputable def r19_roles (p0 : qC) (p1 : qS) : Option ((List qJ) × Int) := (bif (p1.Kind == 10) then (r18_Create p0.Roles p1.Name).bind (fun (r14, r15) => some (r14, r15)) else (bif (p1.Kind == 12) then (r18_Grant p0.Roles p1.Name p1.Role).bind (fun (r23, r24) => some (r23, r24)) else (bif (p1.Kind == 13) then (r18_Revoke p0.Roles p1.Name p1.Role).bind (fun (r32, r33) => some (r32, r33)) else (forN (fun (i39 : Nat) (_s : Unit) => (idx p0.Tables (i39 : Int)).bind (fun x49 => (bif (sEq x49.Owner p1.Name) then some (.inr (([] : List qJ), (34 : Int))) else some (.inl ())))) p0.Tables.length 0 ()).bind (fun (t : Unit ⊕ (((List qJ) × Int))) => match t with | .inl _ => (r18_Drop p0.Roles p1.Name).bind (fun (r64, r65) => some (r64, r65)) | .inr (s51, s52) => some (s51, s52)))))
theorem r19_roles_ok {p0 : qC} {p1 : qS} {w_p0 : W_qC} {w_p1 : W_qS} (h_p0 : ok_qC I p0 w_p0) (h_p1 : ok_qS I p1 w_p1) (hS : St E w I Os) {r : (List qJ) × Int} (D : r19_roles p0 p1 = some r) :
    Calls P 84 #[(vC p0 w_p0), (vS p1 w_p1)] w (fun e w' => ∃ (I' : Mem) (ra0 : Option Addr) (rc0 : Nat), e = .returned (.tuple #[(Sl ra0 r.1 rc0), (Iv r.2)]) ∧ I.Le I' ∧ St E w' I' Os ∧ RSl 2 R_qJ I' ra0 rc0 r.1) := by
 refine calls_W (fn := Tryz.f84) rfl rfl rfl ?_
 unfold r19_roles at D
 refine yf nL4 (yz hS (cs_qC p0 w_p0) 33 z fun b1 w4 S3 => yz S3 (cs_qS p1 w_p1) 66 z fun b5 w8 S7 => y8 2 4 (.slice none 0 0) (ya 3 1 z (yb (W.seq (yf nL2 (yg 0 1 [0] z (yj (S7.rf m0) z (yb (yl (yf nL2 (ya 0 2 z (yb (yy D (fun G D => ?_) (fun G D => ?_))))))))))))))
 refine yf nL9 (yg 0 1 [2] z (yj (S7.rf m1) z (yg 2 1 [2] z (yj (S7.rf m0) z ?_))))
 obtain ⟨⟨r14, r15⟩, Xr9, D⟩ := bsm D
 refine yai (r18_Create_ok h_p0.Roles S7 Xr9) ?_
 rintro _ w10 ⟨I11, a_r14, c_r14, rfl, L12, S13, h_r14⟩
 exact cv (ya 5 4 z (yb (yq (ym (yh (sj D ▸ yay ⟨I11, a_r14, c_r14, rfl, L12, S13.d2, h_r14⟩))))))
 refine yf nL2 (ya 0 2 z (yb (yy D (fun G D => ?_) (fun G D => ?_))))
 refine yf nL11 (yg 0 1 [2] z (yj (S7.rf m1) z (yg 2 1 [2] z (yj (S7.rf m0) z (yg 4 1 [3] z (yj (S7.rf m0) z ?_))))))
 obtain ⟨⟨r23, r24⟩, Xr18, D⟩ := bsm D
 refine yai (r18_Grant_ok h_p0.Roles S7 Xr18) ?_
 rintro _ w19 ⟨I20, a_r23, c_r23, rfl, L21, S22, h_r23⟩
 exact cv (ya 7 4 z (yb (yq (ym (yh (sj D ▸ yay ⟨I20, a_r23, c_r23, rfl, L21, S22.d2, h_r23⟩))))))
 refine yf nL2 (ya 0 2 z (yb (yy D (fun G D => ?_) (fun G D => ?_))))
 refine yf nL11 (yg 0 1 [2] z (yj (S7.rf m1) z (yg 2 1 [2] z (yj (S7.rf m0) z (yg 4 1 [3] z (yj (S7.rf m0) z ?_))))))
 obtain ⟨⟨r32, r33⟩, Xr27, D⟩ := bsm D
 refine yai (r18_Revoke_ok h_p0.Roles S7 Xr27) ?_
 rintro _ w28 ⟨I29, a_r32, c_r32, rfl, L30, S31, h_r32⟩
 exact cv (ya 7 4 z (yb (yq (ym (yh (sj D ▸ yay ⟨I29, a_r32, c_r32, rfl, L30, S31.d2, h_r32⟩))))))
 refine W.skip (yk (ye (W.seq (yf [0] (ya 0 1 z (yb (yl (bsk D fun t36 hloop40 D => have hlt45 := (h_p0.Tables).len_lt; W.wk (yap (m := p0.Tables.length) hloop40 (fun (i39 : Nat) (_s : Unit) => JI E I [(2, Pt b1 0), (3, Pt b5 0), (6, Nv i39)] (bC b1 p0 w_p0 :: (bS b5 p1 w_p1) :: Os)) ⟨I, rfl, lr, S7.front1⟩ ?_ ?_)))))))))
 rintro i39 _ _ w42 hi46 ⟨I37, rfl, L38, S43⟩ x44 R1 hext36
 refine W.seq (yf nL5 (yg 0 2 [1] z (yj (S43.rf m0) z (ya 3 2 z (yb (yar fun _ => W.skip (ye (W.seq (yl (W.seq (have S47 := S43.drew; yba nL9 8 (yv (S47.rd m0) (yv (S47.rd m1) (yad S47.im))) ?_)))))))))))
 generalize World.drew _ = w48 at *
 refine yg 0 1 [1] z (yj (rd_c m0 (S47.rd m0)) z (ya 2 1 z ?_))
 obtain ⟨x49, R1, Hx49, _, ⟨w_x49, rfl, h_x49⟩, Zx49⟩ := sx I37 h_p0.Tables R1
 refine yaa 104 6 Hx49 z (yg 4 1 [1] z (yaz Zx49 1 (rd_i S47.im) z (yg 6 1 [2] z (yj (rd_c m1 (S47.rd m1)) z (WO.tail z (ya 8 1 z (yb (yy R1 (fun G R1 => ?_) (fun G R1 => ?_)))))))))
 refine yf nL2 (y8 0 4 (.slice none 0 0) (ya 1 1 z (yb (yq (ym (yh (yu ?_)))))))
 obtain rfl := hext36 _ (sj R1).symm
 exact ym (yh (sj D ▸ yay ⟨I37, none, 0, rfl, L38, S47.d2, SlAt.nil⟩))
 exact W.skip (yk (ye (yag nL3 (ya 0 1 z (yam i39 z (ya 2 1 z (yp (yt ⟨(), (sj R1).symm, I37, rfl, L38, S47⟩))))))))
 rintro _ _ w57 ⟨I37, rfl, L38, S58⟩ he
 cases he
 refine W.seq (yf nL5 (yg 0 2 [1] z (yj (S58.rf m0) z (ya 3 2 z (yb (yas fun _ => W.exit (yn (yo (yr (ye (yf nL9 (yg 0 1 [2] z (yj (S58.rf m0) z (yg 2 1 [2] z (yj (S58.rf m1) z ?_)))))))))))))))
 obtain ⟨⟨r64, r65⟩, Xr59, D⟩ := bsm D
 refine yai (r18_Drop_ok (RSl.mono h_p0.Roles L38) S58 Xr59) ?_
 rintro _ w60 ⟨I61, a_r64, c_r64, rfl, L62, S63, h_r64⟩
 exact cv (ya 5 4 z (yb (yq (sj D ▸ yay ⟨I61, a_r64, c_r64, rfl, le, S63.d2, h_r64⟩))))
def r17_At (p0 : qC) (p1 : By8) : Option Int := (forN (fun (i8 : Nat) (_s : Unit) => (idx p0.Tables (i8 : Int)).bind (fun x15 => (bif (sEq x15.Name p1) then some (.inr (i8 : Int)) else some (.inl ())))) p0.Tables.length 0 ()).bind (fun (t : Unit ⊕ (Int)) => match t with | .inl _ => some (-1) | .inr s17 => some s17)
theorem r17_At_ok {p0 : qC} {p1 : By8} {w_p0 : W_qC} (h_p0 : ok_qC I p0 w_p0) (hS : St E w I Os) {r : Int} (D : r17_At p0 p1 = some r) :
    Calls P 61 #[(vC p0 w_p0), (.string p1)] w (RT E I Os (Iv r)) := by
 refine calls_W (fn := Tryz.f61) rfl rfl rfl ?_
 unfold r17_At at D
 refine yf nL2 (yz hS (cs_qC p0 w_p0) 33 z fun b1 w4 S3 => ya 1 1 z (yb (W.seq (yf [0] (ya 0 1 z (yb (yl (bsk D fun t5 hloop9 D => have hlt13 := (h_p0.Tables).len_lt; W.wk (yap (m := p0.Tables.length) hloop9 (fun (i8 : Nat) (_s : Unit) => JI E I [(1, .string p1), (2, Pt b1 0), (5, Nv i8)] (bC b1 p0 w_p0 :: Os)) ⟨I, rfl, lr, S3⟩ ?_ ?_)))))))))
 rintro i8 _ _ w10 hi14 ⟨I6, rfl, L7, S11⟩ x12 R1 hext5
 refine W.seq (yf nL5 (yg 0 2 [1] z (yj (S11.rf m0) z (ya 3 2 z (yb (yar fun _ => W.skip (ye (W.seq (yl (yf nL8 (yg 0 1 [1] z (yj (S11.rf m0) z (ya 2 1 z ?_)))))))))))))
 obtain ⟨x15, R1, Hx15, _, ⟨w_x15, rfl, h_x15⟩, Zx15⟩ := sx I6 h_p0.Tables R1
 refine yaa 104 6 Hx15 z (yg 4 1 [0] z (yao Zx15 S11.rm z (ya 6 2 z (yb (yy R1 (fun G R1 => ?_) (fun G R1 => ?_))))))
 refine yf nL2 (ya 0 2 z (yb (yq (ym (yh (yu ?_))))))
 obtain rfl := hext5 _ (sj R1).symm
 exact ym (yh (sj D ▸ yw ⟨I6, rfl, L7, S11.drop⟩))
 exact W.skip (yk (ye (yag nL3 (ya 0 1 z (yam i8 z (ya 2 1 z (yp (yt ⟨(), (sj R1).symm, I6, rfl, L7, S11⟩))))))))
 rintro _ _ w20 ⟨I6, rfl, L7, S21⟩ he
 cases he
 exact W.seq (yf nL5 (yg 0 2 [1] z (yj (S21.rf m0) z (ya 3 2 z (yb (yas fun _ => W.exit (yn (yo (yr (ye (yf [0] (ya 0 1 z (yb (yq (sj D ▸ yw ⟨I6, rfl, L7, S21.drop⟩)))))))))))))))
noncomputable def r19_Owns (p0 : qC) (p1 : By8) (p2 : By8) : Option Bool := (r17_At p0 p2).bind (fun r10 => ((bif (decide (r10 ≥ 0)) then (idx p0.Tables r10).bind (fun x17 => (r18_Is p0.Roles p1 x17.Owner).bind (fun r23 => some r23)) else some false)).bind (fun (j13 : Bool) => some j13))
theorem r19_Owns_ok {p0 : qC} {p1 : By8} {p2 : By8} {w_p0 : W_qC} (h_p0 : ok_qC I p0 w_p0) (hS : St E w I Os) {r : Bool} (D : r19_Owns p0 p1 p2 = some r) :
    Calls P 37 #[(vC p0 w_p0), (.string p1), (.string p2)] w (RT E I Os (.bool r)) := by
 refine calls_W (fn := Tryz.f37) rfl rfl rfl ?_
 unfold r19_Owns at D
 refine yf nL2 (yz hS (cs_qC p0 w_p0) 33 z fun b1 w4 S3 => ya 1 1 z (y0 nL4 (yx ((cs_qC p0 w_p0)) (S3.rf m0) z (ya 1 1 z (bsk D fun r10 Xr5 D => WO.c1 (r17_At_ok h_p0 S3 Xr5) z fun I7 w6 L8 S9 => ya 3 1 z (yb (W.seq (have S11 := S9.drew; yba nL15 14 (yv (S11.rd m0) (yad S11.im)) ?_))))))))
 generalize World.drew _ = w12 at *
 refine ya 0 3 z (bsk D fun j13 R1 D => yal (l1 := [3, 4, 5, 6, 7, 8, 9, 10, 11, 12, 13]) (J := JI E I7 [(24, .bool j13)] (bC b1 p0 w_p0 :: Os)) ?_ ?_)
 refine yak R1 (fun G R1 => ?_) (fun G R1 => ?_)
 refine y6 13 G (yg 3 1 [2] z (yj (rd_c m0 (S11.rd m0)) z (yg 5 2 [1] z (yj (rd_c m0 (S11.rd m0)) z (ya 8 1 z ?_)))))
 obtain ⟨x17, R1, Hx17, _, ⟨w_x17, rfl, h_x17⟩, Zx17⟩ := sx I7 h_p0.Tables R1
 refine yaa 104 6 Hx17 z (yg 10 1 [1] z (yaz Zx17 1 (rd_i S11.im) z (bsk R1 fun r23 Xr18 R1 => yai (r18_Is_ok (RSl.mono h_p0.Roles L8) S11 Xr18) ?_)))
 rintro _ w19 ⟨I20, rfl, L21, S22⟩
 refine ⟨_, rfl, (yv (S22.rd m0) (yad (S22.im.of_le L21))), ?_⟩
 exact ya 13 1 z (sj R1 ▸ y4 ⟨I20, rfl, L21, S22⟩)
 refine y6 13 G ?_
 iterate 10 refine yaj ?_
 exact ya 13 1 z (sj R1 ▸ y4 ⟨I7, rfl, lr, S11⟩)
 rintro _ w24 ⟨I15, rfl, L16, S25⟩
 exact WO.tail z (ya 14 1 z (yb (yq (sj D ▸ yw ⟨I15, rfl, le, S25.drop⟩))))
noncomputable def r19_has (p0 : qC) (p1 : List qG) (p2 : By8) (p3 : Int) (p4 : By8) (p5 : Bool) : Option Bool := (forN (fun (i8 : Nat) (_s : Unit) => (idx p1 (i8 : Int)).bind (fun x17 => ((bif (x17.Priv == p3) then (idx p1 (i8 : Int)).bind (fun x22 => some (sEq x22.Table p4)) else some false)).bind (fun (j18 : Bool) => ((bif j18 then (idx p1 (i8 : Int)).bind (fun x29 => some (x29.Option || (!p5))) else some false)).bind (fun (j25 : Bool) => ((bif j25 then (idx p1 (i8 : Int)).bind (fun x38 => (r18_Is p0.Roles p2 x38.To).bind (fun r44 => some r44)) else some false)).bind (fun (j34 : Bool) => (bif j34 then some (.inr true) else some (.inl ()))))))) p1.length 0 ()).bind (fun (t : Unit ⊕ (Bool)) => match t with | .inl _ => some false | .inr s48 => some s48)
theorem r19_has_ok {p0 : qC} {p1 : List qG} {p2 : By8} {p3 : Int} {p4 : By8} {p5 : Bool} {w_p0 : W_qC} {a_p1 : Option Addr} {c_p1 : Nat} (h_p0 : ok_qC I p0 w_p0) (h_p1 : RSl 5 R_qG I a_p1 c_p1 p1) (hS : St E w I Os) {r : Bool} (D : r19_has p0 p1 p2 p3 p4 p5 = some r) :
    Calls P 123 #[(vC p0 w_p0), (Sl a_p1 p1 c_p1), (.string p2), (Iv p3), (.string p4), (.bool p5)] w (RT E I Os (.bool r)) := by
 refine calls_W (fn := Tryz.f123) rfl rfl rfl ?_
 unfold r19_has at D
 refine yf nL2 (yz hS (cs_qC p0 w_p0) 33 z fun b1 w4 S3 => ya 1 1 z (yb (W.seq (yf [0] (ya 0 1 z (yb (yl (bsk D fun t5 hloop9 D => have hlt13 := (h_p1).len_lt; W.wk (yap (m := p1.length) hloop9 (fun (i8 : Nat) (_s : Unit) => JI E I [(1, Sl a_p1 p1 c_p1), (2, .string p2), (3, Iv p3), (4, .string p4), (5, .bool p5), (6, Pt b1 0), (13, Nv i8)] (bC b1 p0 w_p0 :: Os)) ⟨I, rfl, lr, S3⟩ ?_ ?_)))))))))
 rintro i8 _ _ w10 hi14 ⟨I6, rfl, L7, S11⟩ x12 R1 hext5
 refine W.seq (yf nL4 (ya 0 4 z (yb (yar fun _ => W.skip (ye (W.seq (yl (W.seq (have S15 := S11.drew; yba nL38 38 (yv (S15.rd m0) (yad S15.im)) ?_)))))))))
 generalize World.drew _ = w16 at *
 refine ya 0 2 z ?_
 obtain ⟨x17, R1, Hx17, _, rfl, Zx17⟩ := sx I6 h_p1 R1
 refine yaa 50 5 Hx17 z (yg 3 1 [3] z (yaz Zx17 3 (rd_i S15.im) z (ya 5 3 z (bsk R1 fun j18 R2 R1 => yal (l1 := [8, 9, 10, 11, 12, 13, 14, 15]) (J := JI E I6 [(1, Sl a_p1 p1 c_p1), (2, .string p2), (3, Iv p3), (4, .string p4), (5, .bool p5), (6, Pt b1 0), (13, Nv i8), (35, .bool j18)] (bC b1 p0 w_p0 :: Os)) ?_ ?_))))
 refine yak R2 (fun G R2 => ?_) (fun G R2 => ?_)
 refine y6 27 G (ya 8 2 z ?_)
 obtain ⟨x22, R2, Hx22, _, rfl, Zx22⟩ := sx I6 h_p1 R2
 exact yaa 50 5 Hx22 z (yg 11 1 [2] z (yaz Zx22 2 (rd_i S15.im) z (ya 13 3 z (sj R2 ▸ y4 ⟨I6, rfl, lr, S15⟩))))
 refine y6 27 G ?_
 iterate 7 refine yaj ?_
 exact ya 15 1 z (sj R2 ▸ y4 ⟨I6, rfl, lr, S15⟩)
 rintro _ w23 ⟨I20, rfl, L21, S24⟩
 refine ya 16 1 z (bsk R1 fun j25 R2 R1 => yal (l1 := [17, 18, 19, 20, 21, 22, 23, 24, 25, 26]) (J := JI E I20 [(1, Sl a_p1 p1 c_p1), (2, .string p2), (3, Iv p3), (4, .string p4), (5, .bool p5), (6, Pt b1 0), (13, Nv i8), (46, .bool j25)] (bC b1 p0 w_p0 :: Os)) ?_ ?_)
 refine yak R2 (fun G R2 => ?_) (fun G R2 => ?_)
 refine y6 36 G (ya 17 2 z ?_)
 obtain ⟨x29, R2, Hx29, _, rfl, Zx29⟩ := sx I6 h_p1 R2
 exact yaa 50 5 Hx29 z (yg 20 1 [4] z (yaz Zx29 4 (rd_i (S24.im.of_le L21)) z (ya 22 1 z (ya2 [23, 24] 25 42 45 (.refl (x29.Option || (!p5))) (fun _ => ya 23 3 z yah) (ya 26 1 z (sj R2 ▸ y4 ⟨I20, rfl, lr, S24⟩))))))
 refine y6 36 G ?_
 iterate 9 refine yaj ?_
 exact ya 26 1 z (sj R2 ▸ y4 ⟨I20, rfl, lr, S24⟩)
 rintro _ w32 ⟨I27, rfl, L28, S33⟩
 refine ya 27 1 z (bsk R1 fun j34 R2 R1 => yal (l1 := [28, 29, 30, 31, 32, 33, 34, 35, 36, 37]) (J := JI E I27 [(1, Sl a_p1 p1 c_p1), (2, .string p2), (3, Iv p3), (4, .string p4), (5, .bool p5), (6, Pt b1 0), (13, Nv i8), (57, .bool j34)] (bC b1 p0 w_p0 :: Os)) ?_ ?_)
 refine yak R2 (fun G R2 => ?_) (fun G R2 => ?_)
 refine y6 47 G (yg 28 1 [2] z (yj (rd_c m0 (S33.rd m0)) z (ya 30 3 z ?_)))
 obtain ⟨x38, R2, Hx38, _, rfl, Zx38⟩ := sx I6 h_p1 R2
 refine yaa 50 5 Hx38 z (yg 34 1 [0] z (yao Zx38 (rd_i (S33.im.of_le le)) z (bsk R2 fun r44 Xr39 R2 => yai (r18_Is_ok (up h_p0.Roles) S33 Xr39) ?_)))
 rintro _ w40 ⟨I41, rfl, L42, S43⟩
 refine ⟨_, rfl, (yv (S43.rd m0) (yad (S43.im.of_le le))), ?_⟩
 exact ya 37 1 z (sj R2 ▸ y4 ⟨I41, rfl, L42, S43⟩)
 refine y6 47 G ?_
 iterate 9 refine yaj ?_
 exact ya 37 1 z (sj R2 ▸ y4 ⟨I27, rfl, lr, S33⟩)
 rintro _ w45 ⟨I36, rfl, L37, S46⟩
 refine yb (yy R1 (fun G R1 => ?_) (fun G R1 => ?_))
 refine yf [0] (ya 0 1 z (yb (yq (ym (yh (yu ?_))))))
 obtain rfl := hext5 _ (sj R1).symm
 exact ym (yh (sj D ▸ yw ⟨I36, rfl, le, S46.drop⟩))
 exact W.skip (yk (ye (yag nL3 (ya 0 1 z (yam i8 z (ya 2 1 z (yp (yt ⟨(), (sj R1).symm, I36, rfl, le, S46⟩))))))))
 rintro _ _ w51 ⟨I6, rfl, L7, S52⟩ he
 cases he
 exact W.seq (yf nL4 (ya 0 4 z (yb (yas fun _ => W.exit (yn (yo (yr (ye (yf [0] (ya 0 1 z (yb (yq (sj D ▸ yw ⟨I6, rfl, L7, S52.drop⟩)))))))))))))
noncomputable def r19_Held (p0 : qC) : Option (List qG) := (loopO (fun (s : (List qG) × Int) => match s with | (s8, s9) => (bif (decide (s9 ≤ (p0.Grants.length : Int))) then (forE (fun (i18 : Nat) (s17 : List qG) => ((idx p0.Grants (i18 : Int)).bind (fun x32 => (r17_At p0 x32.Table).bind (fun r44 => ((bif (decide (r44 < 0)) then some true else (r18_At p0.Roles x32.To).bind (fun r56 => some (decide (r56 < 0))))).bind (fun (j45 : Bool) => (bif j45 then some s17 else (r19_Owns p0 x32.By x32.Table).bind (fun r69 => ((bif r69 then some true else (r19_has p0 s8 x32.By x32.Priv x32.Table true).bind (fun r79 => some r79))).bind (fun (j70 : Bool) => ((bif j70 then (app 64 s17 ([x32] : List qG)).bind (fun x94 => some x94) else some s17)).bind (fun (j82 : List qG) => some j82)))))))).bind (fun (j28 : List qG) => some j28)) p0.Grants.length 0 ([] : List qG)).bind (fun s17 => some (.inl (s17, (w64 (s9 + 1))))) else some (.inr s8))) (([] : List qG), 0)).bind (fun (s120 : List qG) => some s120)
theorem r19_Held_ok {p0 : qC} {w_p0 : W_qC} (h_p0 : ok_qC I p0 w_p0) (hS : St E w I Os) {r : (List qG)} (D : r19_Held p0 = some r) :
    Calls P 87 #[(vC p0 w_p0)] w (fun e w' => ∃ (I' : Mem) (ra0 : Option Addr) (rc0 : Nat), e = .returned (Sl ra0 r rc0) ∧ I.Le I' ∧ St E w' I' Os ∧ RSl 5 R_qG I' ra0 rc0 r) := by
 refine calls_W (fn := Tryz.f87) rfl rfl rfl ?_
 unfold r19_Held at D
 refine yf nL2 (yz hS (cs_qC p0 w_p0) 33 z fun b1 w4 S3 => y8 1 2 (.slice none 0 0) (y0 [0] (y8 0 3 (.slice none 0 0) (yb (W.seq (yf [0] (ya 0 1 z (yb (yl (bsk D fun t5 hloop10 D => W.wk (ya6 hloop10 (fun (s : (List qG) × Int) fr w => match s with | (s8, s9) => ∃ I6 a_s8 c_s8, fr = [(1, Pt b1 0), (3, Sl a_s8 s8 c_s8), (4, Iv s9)] ∧ I.Le I6 ∧ St E w I6 (bC b1 p0 w_p0 :: Os) ∧ RSl 5 R_qG I6 a_s8 c_s8 s8) ⟨I, none, 0, rfl, lr, S3, SlAt.nil⟩ ?_)))))))))))
 rintro ⟨s8, s9⟩ _ w11 ⟨I6, a_s8, c_s8, rfl, L7, S12, h_s8⟩ x13 R1 hext5
 refine W.seq (yf nL5 (yg 0 2 [3] z (yj (S12.rf m0) z (ya 3 2 z (yb (yy R1 (fun G R1 => ?_) (fun G R1 => ?_)))))))
 refine W.skip (ye (W.seq (yl (yf [0] (y8 0 5 (.slice none 0 0) (yb (W.seq (yf [0] (ya 0 1 z (yb (yl (bsk R1 fun s17 hloop19 R1 => have hlt26 := ((RSl.mono h_p0.Grants L7)).len_lt; W.wk (yat (m := p0.Grants.length) hloop19 (fun (i18 : Nat) (s17 : List qG) fr w => ∃ I15 a_s17 c_s17 C_s17, fr = [(1, Pt b1 0), (3, Sl a_s8 s8 c_s8), (4, Iv s9), (5, Sl a_s17 s17 c_s17), (6, Nv i18)] ∧ I6.Le I15 ∧ St E w I15 (bC b1 p0 w_p0 :: (C_s17) :: Os) ∧ OwnSl 50 5 R_qG I15 C_s17 a_s17 c_s17 s17) ⟨I6, none, 0, Mem.no, rfl, lr, S12.no.front1, OwnSl.nil⟩ ?_ ?_)))))))))))))
 rintro i18 s17 _ w23 hi27 ⟨I15, a_s17, c_s17, C_s17, rfl, L16, S24, h_s17⟩ x25 R2
 refine W.seq (yf nL5 (yg 0 2 [3] z (yj (S24.rf m0) z (ya 3 2 z (yb (yar fun _ => W.skip (ye (W.seq (bsk R2 fun j28 R3 R2 => yav (J := (fun fr w => ∃ I30 a_j28 c_j28 C_j28, fr = [(1, Pt b1 0), (3, Sl a_s8 s8 c_s8), (4, Iv s9), (5, Sl a_j28 j28 c_j28), (6, Nv i18)] ∧ I15.Le I30 ∧ St E w I30 (bC b1 p0 w_p0 :: (C_j28) :: Os) ∧ OwnSl 50 5 R_qG I30 C_j28 a_j28 c_j28 j28)) ?_ ?_)))))))))
 refine yl (yf nL7 (yg 0 1 [3] z (yj (S24.rf m0) z (ya 2 1 z ?_))))
 obtain ⟨x32, R3, Hx32, _, rfl, Zx32⟩ := sx I15 h_p0.Grants R3
 refine yaa 50 5 Hx32 z (yau ((cs_qG x32)) Zx32 0 S24.rm z (yz S24 (cs_qG z_qG) 50 z fun b33 w36 S35 => y7 S35 0 (cs_qG x32) fun w38 S37 => yb (W.seq (yf nL13 (yx ((cs_qC p0 w_p0)) (S37.rf m1) z (yg 1 1 [2] z (yj (S37.rf m0) z (bsk R3 fun r44 Xr39 R3 => WO.c1 (r17_At_ok (h_p0.mono le) S37 Xr39) z fun I41 w40 L42 S43 => ya 4 2 z (bsk R3 fun j45 R4 R3 => yal (l1 := [6, 7, 8, 9, 10, 11, 12]) (J := JI E I41 [(1, Pt b1 0), (3, Sl a_s8 s8 c_s8), (4, Iv s9), (5, Sl a_s17 s17 c_s17), (6, Nv i18), (7, Pt b33 0), (39, .bool j45)] (bC b1 p0 w_p0 :: (C_s17) :: (bG b33 x32) :: Os)) ?_ ?_)))))))))
 refine yak R4 (fun G R4 => ?_) (fun G R4 => ?_)
 refine y6 32 G ?_
 iterate 6 refine yaj ?_
 exact ya 12 1 z (sj R4 ▸ y4 ⟨I41, rfl, lr, S43.front2.front2⟩)
 exact y6 32 G (yg 6 1 [2] z (yj (S43.rf m1) z (yg 8 1 [0] z (yj (S43.rf m0) z (bsk R4 fun r56 Xr51 R4 => WO.c1 (r18_At_ok (up h_p0.Roles) S43 Xr51) z fun I53 w52 L54 S55 => ya 11 2 z (sj R4 ▸ y4 ⟨I53, rfl, L54, S55.front2.front2⟩))))))
 rintro _ w59 ⟨I47, rfl, L48, S60⟩
 refine yb (yy R3 (fun G R3 => ?_) (fun G R3 => ?_))
 exact W.exit (yn (yr (sj R3 ▸ yt ⟨I47, a_s17, c_s17, C_s17, rfl, le, S60.front2.drop, (OwnSl.mono h_s17 le)⟩)))
 refine W.skip (ye (yf nL17 (yx ((cs_qC p0 w_p0)) (S60.rf m0) z (yg 1 1 [1] z (yj (S60.rf m2) z (yg 3 1 [2] z (yj (S60.rf m2) z (bsk R3 fun r69 Xr63 R3 => WO.c1 (r19_Owns_ok (h_p0.mono le) S60 Xr63) z fun I66 w65 L67 S68 => ya 6 1 z (bsk R3 fun j70 R4 R3 => yal (l1 := [7, 8, 9, 10, 11, 12, 13, 14, 15, 16]) (J := JI E I66 [(1, Pt b1 0), (3, Sl a_s8 s8 c_s8), (4, Iv s9), (5, Sl a_s17 s17 c_s17), (6, Nv i18), (7, Pt b33 0), (56, .bool j70)] (bC b1 p0 w_p0 :: (C_s17) :: (bG b33 x32) :: Os)) ?_ ?_)))))))))
 refine yak R4 (fun G R4 => ?_) (fun G R4 => ?_)
 refine y6 46 G ?_
 iterate 9 refine yaj ?_
 exact ya 16 1 z (sj R4 ▸ y4 ⟨I66, rfl, lr, S68⟩)
 exact y6 46 G (yx ((cs_qC p0 w_p0)) (S68.rf m0) z (yg 8 2 [1] z (yj (S68.rf m2) z (yg 11 1 [3] z (yj (S68.rf m2) z (yg 13 1 [2] z (yj (S68.rf m2) z (bsk R4 fun r79 Xr74 R4 => WO.c1 (r19_has_ok (h_p0.mono le) (up h_s8) S68 Xr74) z fun I76 w75 L77 S78 => ya 16 1 z (sj R4 ▸ y4 ⟨I76, rfl, L77, S78⟩)))))))))
 rintro _ w80 ⟨I72, rfl, L73, S81⟩
 refine yb (bsk R3 fun j82 R4 R3 => yav (J := (fun fr w => ∃ I84 a_j82 c_j82 C_j82, fr = [(1, Pt b1 0), (3, Sl a_s8 s8 c_s8), (4, Iv s9), (5, Sl a_j82 j82 c_j82), (6, Nv i18)] ∧ I72.Le I84 ∧ St E w I84 (bC b1 p0 w_p0 :: (C_j82) :: Os) ∧ OwnSl 50 5 R_qG I84 C_j82 a_j82 c_j82 j82)) ?_ ?_)
 refine yy R4 (fun G R4 => ?_) (fun G R4 => ?_)
 refine yag nL5 (ya 0 1 z (yx ((cs_qG x32)) (S81.rf m2) z (yab (rel := R_qG) (xs := ([x32] : List qG)) S81 z kr z 50 5 [(cs_qG x32)] kr z ((Elr.cons z Elr.nil)) tv ?_)))
 intro a89 C87 w91 S90 ho88
 have S93 := S90.front2
 exact apk R4 fun x94 h0_x94 he_x94 R4 => yax 50 64 (cs_qG z_qG) S93 (OwnSl.mono h_s17 le) ho88.sl (S93.rd m1) h0_x94 he_x94 z fun a95 c96 w97 C98 S99 ho100 => ya 4 1 z (yp (sj R4 ▸ yt ⟨I72, a95, c96, C98, rfl, lr, S99.front1.drop.front2.drop.front1, ho100⟩))
 exact W.skip (sj R4 ▸ yt ⟨I72, a_s17, c_s17, C_s17, rfl, lr, S81.front2.drop, (OwnSl.mono h_s17 le)⟩)
 rintro _ w108 ⟨I84, a_j82, c_j82, C_j82, rfl, L85, S109, h_j82⟩
 exact yk (sj R3 ▸ yt ⟨I84, a_j82, c_j82, C_j82, rfl, le, S109, h_j82⟩)
 rintro _ w110 ⟨I30, a_j28, c_j28, C_j28, rfl, L31, S111, h_j28⟩
 exact ye (yag nL3 (ya 0 1 z (yam i18 z (ya 2 1 z (yp (sj R2 ▸ yt ⟨I30, a_j28, c_j28, C_j28, rfl, le, S111, h_j28⟩))))))
 rintro _ w112 ⟨I15, a_s17, c_s17, C_s17, rfl, L16, S113, h_s17⟩
 refine W.seq (yf nL5 (yg 0 2 [3] z (yj (S113.rf m0) z (ya 3 2 z (yb (yas fun _ => W.exit (yn (yo (yr (ye (yag nL2 (ya 0 1 z ?_))))))))))))
 obtain ⟨I115, L116, S118, hp117⟩ := yac h_s17 S113.front1
 exact ya 1 1 z (yp (yk (ye (yag nL3 (ya 0 3 z (yp (yt ⟨(s17, (w64 (s9 + 1))), (sj R1).symm, I115, a_s17, c_s17, rfl, le, S118, hp117⟩)))))))
 refine W.exit (yn (yo ?_))
 obtain rfl := hext5 _ (sj R1).symm
 exact yr (ye (yf nL2 (ya 0 2 z (yb (yq (sj D ▸ yw ⟨I6, a_s8, c_s8, rfl, L7, S12.drop, h_s8⟩))))))
noncomputable def r19_Can (p0 : qC) (p1 : By8) (p2 : Int) (p3 : By8) : Option Bool := (r19_Owns p0 p1 p3).bind (fun r12 => ((bif r12 then some true else (r19_Held p0).bind (fun r22 => (r19_has p0 r22 p1 p2 p3 true).bind (fun r28 => some r28)))).bind (fun (j13 : Bool) => some j13))
theorem r19_Can_ok {p0 : qC} {p1 : By8} {p2 : Int} {p3 : By8} {w_p0 : W_qC} (h_p0 : ok_qC I p0 w_p0) (hS : St E w I Os) {r : Bool} (D : r19_Can p0 p1 p2 p3 = some r) :
    Calls P 122 #[(vC p0 w_p0), (.string p1), (Iv p2), (.string p3)] w (RT E I Os (.bool r)) := by
 refine calls_W (fn := Tryz.f122) rfl rfl rfl ?_
 unfold r19_Can at D
 refine yf nL2 (yz hS (cs_qC p0 w_p0) 33 z fun b1 w4 S3 => ya 1 1 z (yb (W.seq (have S5 := S3.drew; yba nL14 13 (yv (S5.rd m0) (yad S5.im)) ?_))))
 generalize World.drew _ = w6 at *
 refine yx ((cs_qC p0 w_p0)) (rd_c m0 (S5.rd m0)) z (ya 1 2 z (bsk D fun r12 Xr7 D => yai (r19_Owns_ok h_p0 S5 Xr7) ?_))
 rintro _ w8 ⟨I9, rfl, L10, S11⟩
 refine ⟨_, rfl, (yv (S11.rd m0) (yad (S11.im.of_le L10))), ?_⟩
 refine ya 4 1 z (bsk D fun j13 R1 D => yal (l1 := [5, 6, 7, 8, 9, 10, 11, 12]) (J := JI E I9 [(21, .bool j13)] (bC b1 p0 w_p0 :: Os)) ?_ ?_)
 refine yak R1 (fun G R1 => ?_) (fun G R1 => ?_)
 refine y6 13 G ?_
 iterate 7 refine yaj ?_
 exact ya 12 1 z (sj R1 ▸ y4 ⟨I9, rfl, lr, S11⟩)
 refine y6 13 G (yx ((cs_qC p0 w_p0)) (rd_c m0 (S11.rd m0)) z (yx ((cs_qC p0 w_p0)) (rd_c m0 (S11.rd m0)) z (bsk R1 fun r22 Xr17 R1 => yai (r19_Held_ok (h_p0.mono L10) S11 Xr17) ?_)))
 rintro _ w18 ⟨I19, a_r22, c_r22, rfl, L20, S21, h_r22⟩
 refine ⟨_, rfl, (yv (S21.rd m0) (yad (S21.im.of_le le))), ?_⟩
 refine ya 8 3 z (bsk R1 fun r28 Xr23 R1 => yai (r19_has_ok (h_p0.mono le) h_r22 S21 Xr23) ?_)
 rintro _ w24 ⟨I25, rfl, L26, S27⟩
 refine ⟨_, rfl, (yv (S27.rd m0) (yad (S27.im.of_le le))), ?_⟩
 exact ya 12 1 z (sj R1 ▸ y4 ⟨I25, rfl, le, S27⟩)
 rintro _ w29 ⟨I15, rfl, L16, S30⟩
 exact WO.tail z (ya 13 1 z (yb (yq (sj D ▸ yw ⟨I15, rfl, le, S30.drop⟩))))
def r19_place (p0 : qC) (p1 : qS) (p2 : By8) : Option Int := (forN (fun (i12 : Nat) (_s : Unit) => (idx p0.Grants (i12 : Int)).bind (fun x20 => (some (((sEq x20.To p1.Role) && (sEq x20.By p2)) && (sEq x20.Table p1.Table))).bind (fun (q29 : Bool) => (bif (q29 && (x20.Priv == p1.Priv)) then some (.inr (i12 : Int)) else some (.inl ()))))) p0.Grants.length 0 ()).bind (fun (t : Unit ⊕ (Int)) => match t with | .inl _ => some (-1) | .inr s35 => some s35)
theorem r19_place_ok {p0 : qC} {p1 : qS} {p2 : By8} {w_p0 : W_qC} {w_p1 : W_qS} (h_p0 : ok_qC I p0 w_p0) (h_p1 : ok_qS I p1 w_p1) (hS : St E w I Os) {r : Int} (D : r19_place p0 p1 p2 = some r) :
    Calls P 86 #[(vC p0 w_p0), (vS p1 w_p1), (.string p2)] w (RT E I Os (Iv r)) := by
 refine calls_W (fn := Tryz.f86) rfl rfl rfl ?_
 unfold r19_place at D
 refine yf nL3 (yz hS (cs_qC p0 w_p0) 33 z fun b1 w4 S3 => yz S3 (cs_qS p1 w_p1) 66 z fun b5 w8 S7 => ya 2 1 z (yb (W.seq (yf [0] (ya 0 1 z (yb (yl (bsk D fun t9 hloop13 D => have hlt18 := (h_p0.Grants).len_lt; W.wk (yap (m := p0.Grants.length) hloop13 (fun (i12 : Nat) (_s : Unit) => JI E I [(2, .string p2), (3, Pt b1 0), (4, Pt b5 0), (7, Nv i12)] (bC b1 p0 w_p0 :: (bS b5 p1 w_p1) :: Os)) ⟨I, rfl, lr, S7.front1⟩ ?_ ?_)))))))))
 rintro i12 _ _ w15 hi19 ⟨I10, rfl, L11, S16⟩ x17 R1 hext9
 refine W.seq (yf nL5 (yg 0 2 [3] z (yj (S16.rf m0) z (ya 3 2 z (yb (yar fun _ => W.skip (ye (W.seq (yl (yf nL7 (yg 0 1 [3] z (yj (S16.rf m0) z (ya 2 1 z ?_)))))))))))))
 obtain ⟨x20, R1, Hx20, _, rfl, Zx20⟩ := sx I10 h_p0.Grants R1
 refine yaa 50 5 Hx20 z (yau ((cs_qG x20)) Zx20 0 S16.rm z (yz S16 (cs_qG z_qG) 50 z fun b21 w24 S23 => y7 S23 0 (cs_qG x20) fun w26 S25 => y0 nL25 (yg 0 1 [0] z (yj (S25.rf m0) z (yg 2 1 [3] z (yj (S25.rf m2) z (ya 4 2 z (yaq [6, 7, 8, 9] 10 26 31 (.refl ((sEq x20.To p1.Role) && (sEq x20.By p2))) (fun _ => yg 6 1 [1] z (yj (S25.rf m0) z (ya 8 3 z yah))) (ya 11 1 z (bsq R1 fun q29 Xq29 R1 => yaq [12, 13, 14, 15, 16] 17 32 38 Xq29 (fun _ => yg 12 1 [2] z (yj (S25.rf m0) z (yg 14 1 [1] z (yj (S25.rf m2) z (ya 16 2 z yah))))) (ya 18 1 z (yaq [19, 20, 21, 22, 23] 24 39 45 (.refl (q29 && (x20.Priv == p1.Priv))) (fun _ => yg 19 1 [3] z (yj (S25.rf m0) z (yg 21 1 [18] z (yj (S25.rf m2) z (ya 23 2 z yah))))) (yb (yy R1 (fun G R1 => ?_) (fun G R1 => ?_)))))))))))))))
 refine yf nL2 (ya 0 2 z (yb (yq (ym (yh (yu ?_))))))
 obtain rfl := hext9 _ (sj R1).symm
 exact ym (yh (sj D ▸ yw ⟨I10, rfl, L11, S25.d3⟩))
 exact W.skip (yk (ye (yag nL3 (ya 0 1 z (yam i12 z (ya 2 1 z (yp (yt ⟨(), (sj R1).symm, I10, rfl, L11, S25.drop⟩))))))))
 rintro _ _ w42 ⟨I10, rfl, L11, S43⟩ he
 cases he
 exact W.seq (yf nL5 (yg 0 2 [3] z (yj (S43.rf m0) z (ya 3 2 z (yb (yas fun _ => W.exit (yn (yo (yr (ye (yf [0] (ya 0 1 z (yb (yq (sj D ▸ yw ⟨I10, rfl, L11, S43.d2⟩)))))))))))))))
noncomputable def r19_given (p0 : qC) (p1 : qS) (p2 : By8) : Option ((List qG) × Int) := (r17_At p0 p1.Table).bind (fun r14 => ((bif (decide (r14 < 0)) then some true else (r18_At p0.Roles p1.Role).bind (fun r25 => some (decide (r25 < 0))))).bind (fun (j15 : Bool) => (bif j15 then some (([] : List qG), 4) else (r19_Can p0 p2 p1.Priv p1.Table).bind (fun r36 => (bif (!r36) then some (([] : List qG), 36) else (r19_place p0 p1 p2).bind (fun r44 => (app 64 ([] : List qG) p0.Grants).bind (fun x47 => (bif (decide (r44 ≥ 0)) then (idx x47 r44).bind (fun x54 => (bif (x54.Option || (!p1.Option)) then some (([] : List qG), 19) else (idx x47 r44).bind (fun x60 => some ((x47.set (r44).toNat ({ x60 with Option := true })), 0)))) else (bif (decide ((x47.length : Int) ≥ 40)) then some (([] : List qG), 5) else (app 64 x47 ([(⟨p1.Role, p2, p1.Table, p1.Priv, p1.Option⟩ : qG)] : List qG)).bind (fun x82 => some (x82, 0)))))))))))
theorem r19_given_ok {p0 : qC} {p1 : qS} {p2 : By8} {w_p0 : W_qC} {w_p1 : W_qS} (h_p0 : ok_qC I p0 w_p0) (h_p1 : ok_qS I p1 w_p1) (hS : St E w I Os) {r : (List qG) × Int} (D : r19_given p0 p1 p2 = some r) :
    Calls P 85 #[(vC p0 w_p0), (vS p1 w_p1), (.string p2)] w (fun e w' => ∃ (I' : Mem) (ra0 : Option Addr) (rc0 : Nat), e = .returned (.tuple #[(Sl ra0 r.1 rc0), (Iv r.2)]) ∧ I.Le I' ∧ St E w' I' Os ∧ RSl 5 R_qG I' ra0 rc0 r.1) := by
 refine calls_W (fn := Tryz.f85) rfl rfl rfl ?_
 unfold r19_given at D
 refine yf nL4 (yz hS (cs_qC p0 w_p0) 33 z fun b1 w4 S3 => yz S3 (cs_qS p1 w_p1) 66 z fun b5 w8 S7 => y8 2 6 (.slice none 0 0) (ya 3 1 z (yb (W.seq (yf nL13 (yx ((cs_qC p0 w_p0)) (S7.rf m1) z (yg 1 1 [1] z (yj (S7.rf m0) z (bsk D fun r14 Xr9 D => WO.c1 (r17_At_ok h_p0 S7 Xr9) z fun I11 w10 L12 S13 => ya 4 2 z (bsk D fun j15 R1 D => yal (l1 := [6, 7, 8, 9, 10, 11, 12]) (J := JI E I11 [(2, .string p2), (3, Pt b1 0), (4, Pt b5 0), (22, .bool j15)] (bC b1 p0 w_p0 :: (bS b5 p1 w_p1) :: Os)) ?_ ?_))))))))))
 refine yak R1 (fun G R1 => ?_) (fun G R1 => ?_)
 refine y6 15 G ?_
 iterate 6 refine yaj ?_
 exact ya 12 1 z (sj R1 ▸ y4 ⟨I11, rfl, lr, S13.front1⟩)
 exact y6 15 G (yg 6 1 [2] z (yj (S13.rf m1) z (yg 8 1 [3] z (yj (S13.rf m0) z (bsk R1 fun r25 Xr20 R1 => WO.c1 (r18_At_ok (RSl.mono h_p0.Roles L12) S13 Xr20) z fun I22 w21 L23 S24 => ya 11 2 z (sj R1 ▸ y4 ⟨I22, rfl, L23, S24.front1⟩))))))
 rintro _ w27 ⟨I17, rfl, L18, S28⟩
 refine yb (yy D (fun G D => ?_) (fun G D => ?_))
 exact yf nL2 (y8 0 6 (.slice none 0 0) (ya 1 1 z (yb (yq (yh (sj D ▸ yay ⟨I17, none, 0, rfl, le, S28.d2, SlAt.nil⟩))))))
 refine W.skip (ye (W.seq (yf nL8 (yx ((cs_qC p0 w_p0)) (S28.rf m0) z (yg 1 2 [18] z (yj (S28.rf m1) z (yg 4 1 [1] z (yj (S28.rf m1) z (bsk D fun r36 Xr31 D => WO.c1 (r19_Can_ok (h_p0.mono le) S28 Xr31) z fun I33 w32 L34 S35 => ya 7 1 z (yb (yy D (fun G D => ?_) (fun G D => ?_))))))))))))
 exact yf nL2 (y8 0 6 (.slice none 0 0) (ya 1 1 z (yb (yq (yh (sj D ▸ yay ⟨I33, none, 0, rfl, le, S35.d2, SlAt.nil⟩))))))
 refine W.skip (ye (yf nL5 (yx ((cs_qC p0 w_p0)) (S35.rf m0) z (yx ((cs_qS p1 w_p1)) (S35.rf m1) z (ya 2 1 z (bsk D fun r44 Xr39 D => WO.c1 (r19_place_ok (h_p0.mono le) (h_p1.mono le) S35 Xr39) z fun I41 w40 L42 S43 => ya 4 1 z (y0 [0] (y8 0 9 (.slice none 0 0) (y0 nL5 (yg 0 2 [3] z (yj (S43.rf m0) z (have S46 := S43.no; apk D fun x47 h0_x47 he_x47 D => ya7 (e' := 50) (b := 64) (zs := (cs_qG z_qG).toArray) S46 (OwnSl.nil (T := 50) (rel := R_qG) (I := I41)) z kr z kr kr kr z z z z (up h_p0.Grants) S46.im h0_x47 he_x47 tv ?_))))))))))))
 intro a48 c49 w50 C51 S52 ho53
 refine ya 4 1 z (yb (W.seq (yf nL2 (ya 0 2 z (yb (yy D (fun G D => ?_) (fun G D => ?_)))))))
 refine W.seq (yf nL10 (ya 0 2 z ?_))
 obtain ⟨x54, D, Hx54, _, rfl, Zx54⟩ := sl_ix (ho53.sl) D
 refine yaa 50 5 Hx54 z (yg 3 1 [4] z (yaz Zx54 4 (S52.rf m0) z (ya 5 1 z (ya2 [6, 7, 8] 9 46 50 (.refl (x54.Option || (!p1.Option))) (fun _ => yg 6 1 [19] z (yj (S52.rf m2) z (ya 8 2 z yah))) (yb (yy D (fun G D => ?_) (fun G D => ?_)))))))
 exact yf nL2 (y8 0 6 (.slice none 0 0) (ya 1 1 z (yb (yq (yh (yh (sj D ▸ yay ⟨I41, none, 0, rfl, le, S52.d3, SlAt.nil⟩)))))))
 refine W.skip (ye (yf nL5 (ya 0 2 z ?_)))
 obtain ⟨x60, D, h0_x60, h1_x60, Xx60, ha_x60, _, _, rfl, Zx60⟩ := sl_at (ho53.sl) D
 refine ya5 50 5 ha_x60 h0_x60 h1_x60 ?_
 refine yg 3 1 [4] z (ya9 S52 ho53 z kr z Xx60 (u' := { x60 with Option := true }) 4 z z kr z z (fun cs hrel => (by obtain rfl := hrel; exact z)) tv ?_)
 intro w62 C63 S61 ho64
 refine yae 9 z (show Value.slice a48 x47.length c49 = Value.slice a48 (x47.set (r44).toNat ({ x60 with Option := true })).length c49 by simp only [List.length_set]) ?_
 refine y0 nL3 (ya 0 1 z ?_)
 obtain ⟨I65, L66, S68, hp67⟩ := yac ho64 S61
 exact ya 1 2 z (yb (yq (yh (sj D ▸ yay ⟨I65, a48, c49, rfl, le, S68.d2, hp67⟩))))
 refine W.skip (ye (W.seq (yf nL3 (ya 0 3 z (yb (yy D (fun G D => ?_) (fun G D => ?_)))))))
 exact yf nL2 (y8 0 6 (.slice none 0 0) (ya 1 1 z (yb (yq (yh (sj D ▸ yay ⟨I41, none, 0, rfl, le, S52.d3, SlAt.nil⟩))))))
 refine W.skip (ye (yf nL15 (yg 0 2 [3] z (yj (S52.rf m2) z (yg 3 2 [1] z (yj (S52.rf m2) z (yg 6 1 [18] z (yj (S52.rf m2) z (yg 8 1 [19] z (yj (S52.rf m2) z (y8 10 69 (.agg (cs_qG (⟨p1.Role, p2, p1.Table, p1.Priv, p1.Option⟩ : qG)).toArray) (yab (rel := R_qG) (xs := ([(⟨p1.Role, p2, p1.Table, p1.Priv, p1.Option⟩ : qG)] : List qG)) S52 z kr z 50 5 [(cs_qG (⟨p1.Role, p2, p1.Table, p1.Priv, p1.Option⟩ : qG))] kr z ((Elr.cons z Elr.nil)) tv ?_))))))))))))
 intro a77 C75 w79 S78 ho76
 have S81 := S78.front1
 refine apk D fun x82 h0_x82 he_x82 D => yax 50 64 (cs_qG z_qG) S81 ho53 ho76.sl (S81.rd m1) h0_x82 he_x82 z ?_
 intro a83 c84 w85 C86 S87 ho88
 obtain ⟨I91, L92, S94, hp93⟩ := yac ho88 S87.front1.drop
 exact ya 13 2 z (yb (yq (sj D ▸ yay ⟨I91, a83, c84, rfl, le, S94.d2, hp93⟩)))
noncomputable def r19_Make (p0 : qC) (p1 : qS) (p2 : By8) (p3 : Int) : Option (qC × Int) := (bif ((decide (p1.Kind < 10)) || (decide (p1.Kind > 15))) then some (z_qC, 2) else (r18_At p0.Roles p2).bind (fun r25 => (bif (decide (r25 < 0)) then some (z_qC, 4) else ((bif (decide (p1.Kind ≤ 13)) then (r18_Is p0.Roles p2 (⟨#[114, 111, 111, 116]⟩ : By8)).bind (fun r46 => some (!r46)) else some false)).bind (fun (j37 : Bool) => ((bif j37 then some (.inl ((36 : Int), z_qC, p0.Roles, p0.Grants)) else ((bif (decide (p1.Kind ≤ 13)) then (r19_roles p0 p1).bind (fun (r74, r75) => some (.inl (r75, z_qC, r74, p0.Grants))) else ((bif (p1.Kind == 14) then (r19_given p0 p1 p2).bind (fun (r96, r97) => some (.inl (r97, z_qC, r96))) else (r19_place p0 p1 p2).bind (fun r113 => (bif (decide (r113 < 0)) then some (.inr (4, z_qC)) else (sub p0.Grants 0 r113).bind (fun x147 => (app 64 ([] : List qG) x147).bind (fun x150 => (sub p0.Grants (w64 (r113 + 1)) (p0.Grants.length : Int)).bind (fun x162 => (app 64 x150 x162).bind (fun x164 => some (.inl ((0 : Int), z_qC, x164)))))))))).bind (fun (t : (Int × qC × (List qG)) ⊕ (Int × qC)) => match t with | (.inl (s101, s102, s103)) => some (.inl (s101, s102, p0.Roles, s103)) | (.inr (s118, s119)) => some (.inr (s118, s119))))).bind (fun (t : (Int × qC × (List qJ) × (List qG)) ⊕ (Int × qC)) => match t with | (.inl (s79, s80, s81, s82)) => some (.inl (s79, s80, s81, s82)) | (.inr (s121, s122)) => some (.inr (s121, s122))))).bind (fun (t : (Int × qC × (List qJ) × (List qG)) ⊕ (Int × qC)) => match t with | (.inl (s59, s60, s61, s62)) => ((bif ((s59 == 0) && (decide (p0.Version ≥ p3))) then some 52 else some s59)).bind (fun (j191 : Int) => (bif (j191 != 0) then some (z_qC, j191) else (r19_Held ({ p0 with Version := (w64 (p0.Version + 1)), Roles := s61, Grants := s62 })).bind (fun r212 => some ({ p0 with Version := (w64 (p0.Version + 1)), Roles := s61, Grants := r212 }, 0)))) | (.inr (s124, s125)) => some (s125, s124))))))
theorem r19_Make_ok {p0 : qC} {p1 : qS} {p2 : By8} {p3 : Int} {w_p0 : W_qC} {w_p1 : W_qS} (h_p0 : ok_qC I p0 w_p0) (h_p1 : ok_qS I p1 w_p1) (hS : St E w I Os) {r : qC × Int} (D : r19_Make p0 p1 p2 p3 = some r) :
    Calls P 58 #[(vC p0 w_p0), (vS p1 w_p1), (.string p2), (Iv p3)] w (fun e w' => ∃ I' w_rw0, e = .returned (.tuple #[(vC r.1 w_rw0), (Iv r.2)]) ∧ I.Le I' ∧ St E w' I' Os ∧ ok_qC I' r.1 w_rw0) := by
 refine calls_W (fn := Tryz.f58) rfl rfl rfl ?_
 unfold r19_Make at D
 refine yf nL4 (yz hS (cs_qC p0 w_p0) 33 z fun b1 w4 S3 => yz S3 (cs_qS p1 w_p1) 66 z fun b5 w8 S7 => yz S7 (cs_qC z_qC zw_qC) 33 z fun b9 w12 S11 => ya 3 1 z (yb (W.seq (yf nL8 (yg 0 1 [0] z (yj (S11.rf m1) z (ya 2 2 z (ya2 [4, 5, 6] 7 16 20 (.refl ((decide (p1.Kind < 10)) || (decide (p1.Kind > 15)))) (fun _ => yg 4 1 [0] z (yj (S11.rf m1) z (ya 6 2 z yah))) (yb (yy D (fun G D => ?_) (fun G D => ?_)))))))))))
 exact yf nL3 (y8 0 21 (vC z_qC zw_qC) (y7 S11 0 (cs_qC z_qC zw_qC) fun w16 S15 => ya 2 1 z (yb (yq (yh (sj D ▸ ya1 _ (S15.rd m0) ⟨I, zw_qC, rfl, lr, S15.d3, zok_qC⟩))))))
 refine W.skip (ye (W.seq (yf nL5 (yg 0 1 [2] z (yj (S11.rf m2) z (ya 2 1 z (bsk D fun r25 Xr20 D => WO.c1 (r18_At_ok h_p0.Roles S11 Xr20) z fun I22 w21 L23 S24 => ya 4 1 z (yb (yy D (fun G D => ?_) (fun G D => ?_))))))))))
 exact yf nL3 (y8 0 27 (vC z_qC zw_qC) (y7 S24 0 (cs_qC z_qC zw_qC) fun w27 S26 => ya 2 1 z (yb (yq (yh (sj D ▸ ya1 _ (S26.rd m0) ⟨I22, zw_qC, rfl, L23, S26.d3, zok_qC⟩))))))
 refine W.skip (ye (yf nL3 (yx ((cs_qC p0 w_p0)) (S24.rf m2) z (yz S24 (cs_qC z_qC zw_qC) 33 z fun b31 w34 S33 => y7 S33 0 (cs_qC p0 w_p0) fun w36 S35 => y0 [0] (ya 0 1 z (yb (W.seq (yl (yf nL11 (yg 0 1 [0] z (yj (S35.rf m2) z (ya 2 2 z (bsk D fun j37 R1 D => yal (l1 := [4, 5, 6, 7, 8, 9]) (J := JI E I22 [(2, .string p2), (3, Iv p3), (4, Pt b1 0), (5, Pt b5 0), (8, Pt b9 0), (10, Pt b31 0), (11, Iv 0), (64, .bool j37)] (bC b1 p0 w_p0 :: (bS b5 p1 w_p1) :: (bC b9 z_qC zw_qC) :: (bC b31 p0 w_p0) :: Os)) ?_ ?_)))))))))))))
 refine yak R1 (fun G R1 => ?_) (fun G R1 => ?_)
 exact y6 58 G (yg 4 1 [2] z (yj (S35.rf m3) z (ya 6 1 z (bsk R1 fun r46 Xr41 R1 => WO.c1 (r18_Is_ok (RSl.mono h_p0.Roles L23) S35 Xr41) z fun I43 w42 L44 S45 => ya 8 2 z (sj R1 ▸ y4 ⟨I43, rfl, L44, S45.front1.front2.front3⟩)))))
 refine y6 58 G ?_
 iterate 5 refine yaj ?_
 exact ya 9 1 z (sj R1 ▸ y4 ⟨I22, rfl, lr, S35.front1.front2.front3⟩)
 rintro _ w53 ⟨I39, rfl, L40, S54⟩
 refine ya 10 1 z (yb (bsk D fun j55 R1 D => yav (J := (fun fr w => ∃ (s59 : Int) (s60 : qC) (s61 : List qJ) (s62 : List qG), ∃ I57 w_s60 a_s61 c_s61 a_s62 c_s62, (.inl (s59, s60, s61, s62)) = j55 ∧ fr = [(3, Iv p3), (4, Pt b1 0), (8, Pt b9 0), (10, Pt b31 0), (11, Iv s59)] ∧ I39.Le I57 ∧ St E w I57 (bC b1 p0 w_p0 :: (bC b9 s60 w_s60) :: (Bx b31 (cs_qC ({ p0 with Roles := s61, Grants := s62 }) ({ w_p0 with Roles := ⟨a_s61, c_s61⟩, Grants := ⟨a_s62, c_s62⟩ })) 33) :: Os) ∧ ok_qC I57 s60 w_s60 ∧ RSl 2 R_qJ I57 a_s61 c_s61 s61 ∧ RSl 5 R_qG I57 a_s62 c_s62 s62)) ?_ ?_))
 refine yy R1 (fun G R1 => ?_) (fun G R1 => ?_)
 exact yag [0] (ya 0 1 z (yp (yt ⟨36, z_qC, p0.Roles, p0.Grants, I39, zw_qC, w_p0.Roles.a, w_p0.Roles.c, w_p0.Grants.a, w_p0.Grants.c, sj R1, rfl, lr, S54.front1.drop, zok_qC, (up h_p0.Roles), (up h_p0.Grants)⟩)))
 refine yf nL4 (yg 0 1 [0] z (yj (S54.rf m1) z (ya 2 2 z (yb (bsk R1 fun j65 R2 R1 => yav (J := (fun fr w => ∃ (s79 : Int) (s80 : qC) (s81 : List qJ) (s82 : List qG), ∃ I67 w_s80 a_s81 c_s81 a_s82 c_s82, (.inl (s79, s80, s81, s82)) = j65 ∧ fr = [(3, Iv p3), (4, Pt b1 0), (8, Pt b9 0), (10, Pt b31 0), (11, Iv s79)] ∧ I39.Le I67 ∧ St E w I67 (bC b1 p0 w_p0 :: (bC b9 s80 w_s80) :: (Bx b31 (cs_qC ({ p0 with Roles := s81, Grants := s82 }) ({ w_p0 with Roles := ⟨a_s81, c_s81⟩, Grants := ⟨a_s82, c_s82⟩ })) 33) :: Os) ∧ ok_qC I67 s80 w_s80 ∧ RSl 2 R_qJ I67 a_s81 c_s81 s81 ∧ RSl 5 R_qG I67 a_s82 c_s82 s82)) ?_ ?_)))))
 refine yy R2 (fun G R2 => ?_) (fun G R2 => ?_)
 refine yag nL9 (yx ((cs_qC p0 w_p0)) (S54.rf m0) z (yx ((cs_qS p1 w_p1)) (S54.rf m1) z ?_))
 obtain ⟨⟨r74, r75⟩, Xr69, R2⟩ := bsm R2
 refine yai (r19_roles_ok (h_p0.mono le) (h_p1.mono le) S54 Xr69) ?_
 rintro _ w70 ⟨I71, a_r74, c_r74, rfl, L72, S73, h_r74⟩
 exact cv (yg 3 4 [2] z (y7 S73.front3 2 (cs_qC ({ p0 with Roles := r74 }) ({ w_p0 with Roles := ⟨a_r74, c_r74⟩ })) fun w78 S77 => ya 8 1 z (yp (yt ⟨r75, z_qC, r74, p0.Grants, I71, zw_qC, a_r74, c_r74, w_p0.Grants.a, w_p0.Grants.c, sj R2, rfl, L72, S77.front2.drop.front2.front2, zok_qC, h_r74, (up h_p0.Grants)⟩))))
 refine yf nL4 (yg 0 1 [0] z (yj (S54.rf m1) z (ya 2 2 z (yb (bsk R2 fun j87 R3 R2 => yav (J := (fun fr w => ∃ (s101 : Int) (s102 : qC) (s103 : List qG), ∃ I89 w_s102 a_s103 c_s103, (.inl (s101, s102, s103)) = j87 ∧ fr = [(3, Iv p3), (4, Pt b1 0), (8, Pt b9 0), (10, Pt b31 0), (11, Iv s101)] ∧ I39.Le I89 ∧ St E w I89 (bC b1 p0 w_p0 :: (bC b9 s102 w_s102) :: (Bx b31 (cs_qC ({ p0 with Grants := s103 }) ({ w_p0 with Grants := ⟨a_s103, c_s103⟩ })) 33) :: Os) ∧ ok_qC I89 s102 w_s102 ∧ RSl 5 R_qG I89 a_s103 c_s103 s103)) ?_ ?_)))))
 refine yy R3 (fun G R3 => ?_) (fun G R3 => ?_)
 refine yag nL10 (yx ((cs_qC p0 w_p0)) (S54.rf m0) z (yx ((cs_qS p1 w_p1)) (S54.rf m1) z (ya 2 1 z ?_)))
 obtain ⟨⟨r96, r97⟩, Xr91, R3⟩ := bsm R3
 refine yai (r19_given_ok (h_p0.mono le) (h_p1.mono le) S54 Xr91) ?_
 rintro _ w92 ⟨I93, a_r96, c_r96, rfl, L94, S95, h_r96⟩
 exact cv (yg 4 4 [3] z (y7 S95.front3 3 (cs_qC ({ p0 with Grants := r96 }) ({ w_p0 with Grants := ⟨a_r96, c_r96⟩ })) fun w100 S99 => ya 9 1 z (yp (yt ⟨r97, z_qC, r96, I93, zw_qC, a_r96, c_r96, sj R3, rfl, L94, S99.front2.drop.front2.front2, zok_qC, h_r96⟩))))
 refine yf nL5 (yx ((cs_qC p0 w_p0)) (S54.rf m0) z (yx ((cs_qS p1 w_p1)) (S54.rf m1) z (ya 2 1 z (bsk R3 fun r113 Xr108 R3 => WO.c1 (r19_place_ok (h_p0.mono le) (h_p1.mono le) S54 Xr108) z fun I110 w109 L111 S112 => ya 4 1 z (yb (W.seq (yf nL2 (ya 0 2 z (yb (yy R3 (fun G R3 => ?_) (fun G R3 => ?_)))))))))))
 refine yf nL3 (y8 0 35 (vC z_qC zw_qC) (y7 S112.front2 0 (cs_qC z_qC zw_qC) fun w116 S115 => ya 2 1 z (yb (yq (yh (yu ?_))))))
 obtain rfl := sj R3
 refine yu ?_
 obtain rfl := sj R2
 refine yu ?_
 obtain rfl := sj R1
 exact ym (yh (sj D ▸ ya1 _ (S115.rd m0) ⟨I110, zw_qC, rfl, le, S115.d4, zok_qC⟩))
 refine W.skip (ye (yf nL2 (yg 0 1 [3] z (y7 S112.front3 3 (cs_qC ({ p0 with Grants := ([] : List qG) }) ({ w_p0 with Grants := ⟨none, 0⟩ })) fun w144 S143 => yb (W.seq (have S145 := S143.drew; yba nL9 6 (yv (S145.rd m0) (yv (S145.rd m1) (yad S145.im))) ?_))))))
 generalize World.drew _ = w146 at *
 refine yg 0 1 [3] z (yj (rd_c m0 (S145.rd m0)) z (yg 2 1 [3] z (yj (rd_c m1 (S145.rd m1)) z (ya 4 1 z ?_))))
 obtain ⟨x147, Xx147, R3⟩ := bsm R3
 obtain ⟨h0_x147, h1_x147, h2_x147, he_x147⟩ := sub_some Xx147
 have hl_x147 : (r113 : Int) ≤ (w_p0.Grants.c : Int) := Int.le_trans h2_x147 (Int.ofNat_le.2 ((RSl.mono h_p0.Grants ((L23.trans L40).trans L111))).le)
 refine ya3 (e := 50) (sz := 5) z kr kr kr z (0 : Int) (r113 : Int) h0_x147 (.inl ⟨rfl, rfl⟩) (.inr ⟨_, _, rfl, rfl⟩) h1_x147 hl_x147 ?_
 obtain ⟨a_x147, c_x147, h_x147, ev_x147⟩ := sub_ok ((RSl.mono h_p0.Grants ((L23.trans L40).trans L111))) h0_x147 h1_x147 h2_x147 he_x147
 refine yae 42 z ev_x147 ?_
 refine WO.tail z (have S149 := S145.no; apk R3 fun x150 h0_x150 he_x150 R3 => ya7 (e' := 50) (b := 64) (zs := (cs_qG z_qG).toArray) S149 (OwnSl.nil (T := 50) (rel := R_qG) (I := I110)) z kr z kr kr kr z z z z h_x147 S149.im h0_x150 he_x150 tv ?_)
 intro a151 c152 w153 C154 S155 ho156
 refine yg 7 1 [3] z (y7 S155.front1 3 (cs_qC ({ p0 with Grants := x150 }) ({ w_p0 with Grants := ⟨a151, c152⟩ })) fun w159 S158 => yb (have S160 := S158.drew; yba nL10 7 (yv (S160.rd m0) (yv (S160.rd m2) (yad S160.im))) ?_))
 generalize World.drew _ = w161 at *
 refine yg 0 1 [3] z (yj (rd_c m0 (S160.rd m0)) z (yg 2 1 [3] z (yj (rd_c m1 (S160.rd m2)) z (ya 4 2 z ?_))))
 obtain ⟨x162, Xx162, R3⟩ := bsm R3
 obtain ⟨h0_x162, h1_x162, h2_x162, he_x162⟩ := sub_some Xx162
 have hl_x162 : ((p0.Grants.length : Int) : Int) ≤ (w_p0.Grants.c : Int) := Int.le_trans h2_x162 (Int.ofNat_le.2 ((RSl.mono h_p0.Grants ((L23.trans L40).trans L111))).le)
 refine ya3 (e := 50) (sz := 5) z kr kr kr z ((w64 (r113 + 1)) : Int) ((p0.Grants.length : Int) : Int) h0_x162 (.inr ⟨_, _, rfl, rfl⟩) (.inl ⟨rfl, rfl⟩) h1_x162 hl_x162 ?_
 obtain ⟨a_x162, c_x162, h_x162, ev_x162⟩ := sub_ok ((RSl.mono h_p0.Grants ((L23.trans L40).trans L111))) h0_x162 h1_x162 h2_x162 he_x162
 refine yae 51 z ev_x162 ?_
 refine WO.tail z (have S163 := S160.front1; apk R3 fun x164 h0_x164 he_x164 R3 => yax 50 64 (cs_qG z_qG) S163 ho156 h_x162 S163.im h0_x164 he_x164 z fun a165 c166 w167 C168 S169 ho170 => yg 8 1 [3] z (y7 S169.front1 3 (cs_qC ({ p0 with Grants := x164 }) ({ w_p0 with Grants := ⟨a165, c166⟩ })) fun w173 S172 => yp ?_))
 obtain ⟨I175, L176, S178, hp177⟩ := yac ho170 S172.front1
 exact yt ⟨0, z_qC, x164, I175, zw_qC, a165, c166, sj R3, rfl, le, S178.front2.drop.front2.front2, zok_qC, hp177⟩
 rintro _ w183 ⟨s101, s102, s103, I89, w_s102, a_s103, c_s103, rfl, rfl, L90, S184, h_s102, h_s103⟩
 exact yt ⟨s101, s102, p0.Roles, s103, I89, w_s102, w_p0.Roles.a, w_p0.Roles.c, a_s103, c_s103, sj R2, rfl, L90, S184, h_s102, (up h_p0.Roles), h_s103⟩
 rintro _ w185 ⟨s79, s80, s81, s82, I67, w_s80, a_s81, c_s81, a_s82, c_s82, rfl, rfl, L68, S186, h_s80, h_s81, h_s82⟩
 exact yt ⟨s79, s80, s81, s82, I67, w_s80, a_s81, c_s81, a_s82, c_s82, sj R1, rfl, L68, S186, h_s80, h_s81, h_s82⟩
 rintro _ w187 ⟨s59, s60, s61, s62, I57, w_s60, a_s61, c_s61, a_s62, c_s62, rfl, rfl, L58, S188, h_s60, h_s61, h_s62⟩
 refine yk (ye (W.seq (yf nL8 (ya 0 3 z (yaq [3, 4, 5, 6] 7 90 95 (.refl ((s59 == 0) && (decide (p0.Version ≥ p3)))) (fun _ => yg 3 1 [0] z (yj (S188.rf m0) z (ya 5 3 z yah))) (yb (bsk D fun j191 R1 D => yav (J := JI E I57 [(4, Pt b1 0), (8, Pt b9 0), (10, Pt b31 0), (11, Iv j191)] (bC b1 p0 w_p0 :: (bC b9 s60 w_s60) :: (Bx b31 (cs_qC ({ p0 with Roles := s61, Grants := s62 }) ({ w_p0 with Roles := ⟨a_s61, c_s61⟩, Grants := ⟨a_s62, c_s62⟩ })) 33) :: Os)) ?_ ?_)))))))
 refine yy R1 (fun G R1 => ?_) (fun G R1 => ?_)
 exact yag [0] (ya 0 1 z (yp (sj R1 ▸ yt ⟨I57, rfl, lr, S188⟩)))
 exact W.skip (sj R1 ▸ yt ⟨I57, rfl, lr, S188⟩)
 rintro _ w195 ⟨I193, rfl, L194, S196⟩
 refine ye (W.seq (yf nL2 (ya 0 2 z (yb (yy D (fun G D => ?_) (fun G D => ?_))))))
 exact yf nL4 (y8 0 98 (vC z_qC zw_qC) (ya 1 1 z (y7 S196.front1 0 (cs_qC z_qC zw_qC) fun w199 S198 => ya 3 1 z (yb (yq (yh (sj D ▸ ya1 _ (S198.rd m0) ⟨I193, zw_qC, rfl, le, S198.d3, zok_qC⟩)))))))
 refine W.skip (ye (yf nL5 (yg 0 1 [0] z (yj (S196.rf m0) z (yg 2 2 [0] z (y7 S196.front2 0 (cs_qC ({ p0 with Version := (w64 (p0.Version + 1)), Roles := s61, Grants := s62 }) ({ w_p0 with Roles := ⟨a_s61, c_s61⟩, Grants := ⟨a_s62, c_s62⟩ })) fun w205 S204 => y0 nL4 (yx ((cs_qC ({ p0 with Version := (w64 (p0.Version + 1)), Roles := s61, Grants := s62 }) ({ w_p0 with Roles := ⟨a_s61, c_s61⟩, Grants := ⟨a_s62, c_s62⟩ }))) (S204.rf m0) z ?_)))))))
 have hk206 : ok_qC I193 ({ p0 with Version := (w64 (p0.Version + 1)), Roles := s61, Grants := s62 }) ({ w_p0 with Roles := ⟨a_s61, c_s61⟩, Grants := ⟨a_s62, c_s62⟩ }) := ⟨(RSl.mono h_p0.Tables (((L23.trans L40).trans L58).trans L194)), (RSl.mono h_s61 L194), (RSl.mono h_s62 L194)⟩
 refine bsk D fun r212 Xr207 D => yai (r19_Held_ok hk206 S204 Xr207) ?_
 rintro _ w208 ⟨I209, a_r212, c_r212, rfl, L210, S211, h_r212⟩
 refine cv (yg 2 1 [3] z (y7 S211 3 (cs_qC ({ p0 with Version := (w64 (p0.Version + 1)), Roles := s61, Grants := r212 }) ({ w_p0 with Roles := ⟨a_s61, c_s61⟩, Grants := ⟨a_r212, c_r212⟩ })) fun w214 S213 => y0 nL3 (yx ((cs_qC ({ p0 with Version := (w64 (p0.Version + 1)), Roles := s61, Grants := r212 }) ({ w_p0 with Roles := ⟨a_s61, c_s61⟩, Grants := ⟨a_r212, c_r212⟩ }))) (S213.rf m0) z (y7 S213.front2 0 (cs_qC ({ p0 with Version := (w64 (p0.Version + 1)), Roles := s61, Grants := r212 }) ({ w_p0 with Roles := ⟨a_s61, c_s61⟩, Grants := ⟨a_r212, c_r212⟩ })) fun w217 S216 => ya 2 1 z (yb (yq ?_))))))
 have hk221 : ok_qC I209 ({ p0 with Version := (w64 (p0.Version + 1)), Roles := s61, Grants := r212 }) ({ w_p0 with Roles := ⟨a_s61, c_s61⟩, Grants := ⟨a_r212, c_r212⟩ }) := ⟨(RSl.mono h_p0.Tables ((((L23.trans L40).trans L58).trans L194).trans L210)), (RSl.mono h_s61 (L194.trans L210)), h_r212⟩
 exact sj D ▸ ya1 _ (S216.rd m0) ⟨I209, ({ w_p0 with Roles := ⟨a_s61, c_s61⟩, Grants := ⟨a_r212, c_r212⟩ }), rfl, le, S216.d3, hk221⟩
def r17_without (p0 : qC) (p1 : By8) : Option qC := (forE (fun (i21 : Nat) (s20 : List qT) => (idx p0.Tables (i21 : Int)).bind (fun x33 => ((bif (!sEq x33.Name p1) then (idx p0.Tables (i21 : Int)).bind (fun x40 => (app 112 s20 ([x40] : List qT)).bind (fun x49 => some x49)) else some s20)).bind (fun (j34 : List qT) => some j34))) p0.Tables.length 0 ([] : List qT)).bind (fun s20 => some { p0 with Tables := s20 })
theorem r17_without_ok {p0 : qC} {p1 : By8} {w_p0 : W_qC} (h_p0 : ok_qC I p0 w_p0) (hS : St E w I Os) {r : qC} (D : r17_without p0 p1 = some r) :
    Calls P 88 #[(vC p0 w_p0), (.string p1)] w (fun e w' => ∃ I' w_rw0, e = .returned (vC r w_rw0) ∧ I.Le I' ∧ St E w' I' Os ∧ ok_qC I' r w_rw0) := by
 refine calls_W (fn := Tryz.f88) rfl rfl rfl ?_
 unfold r17_without at D
 refine yf nL2 (yz hS (cs_qC p0 w_p0) 33 z fun b1 w4 S3 => yz S3 (cs_qC z_qC zw_qC) 33 z fun b5 w8 S7 => y0 nL3 (yx ((cs_qC p0 w_p0)) (S7.rf m1) z (yz S7 (cs_qC z_qC zw_qC) 33 z fun b9 w12 S11 => y7 S11 0 (cs_qC p0 w_p0) fun w14 S13 => y0 nL2 (yg 0 1 [1] z (y7 S13 1 (cs_qC ({ p0 with Tables := ([] : List qT) }) ({ w_p0 with Tables := ⟨none, 0⟩ })) fun w16 S15 => yb (W.seq (yf [0] (ya 0 1 z (yb (yl (bsk D fun s20 hloop22 D => have hlt31 := (h_p0.Tables).len_lt; W.wk (yat (m := p0.Tables.length) hloop22 (fun (i21 : Nat) (s20 : List qT) fr w => ∃ I18 a_s20 c_s20 C_s20, fr = [(1, .string p1), (2, Pt b1 0), (4, Pt b5 0), (5, Pt b9 0), (6, Nv i21)] ∧ I.Le I18 ∧ St E w I18 (bC b1 p0 w_p0 :: (bC b5 z_qC zw_qC) :: (Bx b9 (cs_qC ({ p0 with Tables := s20 }) ({ w_p0 with Tables := ⟨a_s20, c_s20⟩ })) 33) :: (C_s20) :: Os) ∧ OwnSl 104 6 R_qT I18 C_s20 a_s20 c_s20 s20) ⟨I, none, 0, Mem.no, rfl, lr, S15.no.front1.front2.front3, OwnSl.nil⟩ ?_ ?_))))))))))))
 rintro i21 s20 _ w28 hi32 ⟨I18, a_s20, c_s20, C_s20, rfl, L19, S29, h_s20⟩ x30 R1
 refine W.seq (yf nL5 (yg 0 2 [1] z (yj (S29.rf m0) z (ya 3 2 z (yb (yar fun _ => W.skip (ye (W.seq (yl (yf nL8 (yg 0 1 [1] z (yj (S29.rf m0) z (ya 2 1 z ?_)))))))))))))
 obtain ⟨x33, R1, Hx33, _, ⟨w_x33, rfl, h_x33⟩, Zx33⟩ := sx I18 h_p0.Tables R1
 refine yaa 104 6 Hx33 z (yg 4 1 [0] z (yao Zx33 S29.rm z (ya 6 2 z (yb (bsk R1 fun j34 R2 R1 => yav (J := (fun fr w => ∃ I36 a_j34 c_j34 C_j34, fr = [(1, .string p1), (2, Pt b1 0), (4, Pt b5 0), (5, Pt b9 0), (6, Nv i21)] ∧ I18.Le I36 ∧ St E w I36 (bC b1 p0 w_p0 :: (bC b5 z_qC zw_qC) :: (Bx b9 (cs_qC ({ p0 with Tables := j34 }) ({ w_p0 with Tables := ⟨a_j34, c_j34⟩ })) 33) :: (C_j34) :: Os) ∧ OwnSl 104 6 R_qT I36 C_j34 a_j34 c_j34 j34)) ?_ ?_)))))
 refine yy R2 (fun G R2 => ?_) (fun G R2 => ?_)
 have S38 := S29.drew
 refine yba nL11 8 (yv (S38.rd m0) (yv (S38.rd m2) (yad S38.im))) ?_
 generalize World.drew _ = w39 at *
 refine yg 0 1 [1] z (yj (rd_c m1 (S38.rd m2)) z (yg 2 1 [1] z (yj (rd_c m0 (S38.rd m0)) z (ya 4 1 z ?_))))
 obtain ⟨x40, R2, Hx40, _, ⟨w_x40, rfl, h_x40⟩, Zx40⟩ := sx I18 h_p0.Tables R2
 refine yaa 104 6 Hx40 z (yau ((cs_qT x40 w_x40)) Zx40 0 (rd_i S38.im) z (yab (rel := R_qT) (xs := ([x40] : List qT)) S38 z kr z 104 6 [(cs_qT x40 w_x40)] kr z ((Elr.cons ⟨w_x40, rfl, h_x40⟩ Elr.nil)) (fun C42 w46 S45 => (yv (S45.rd m1) (yv (S45.rd m3) (yad S45.im)))) ?_))
 intro a44 C42 w46 S45 ho43
 exact WO.tail z (have S48 := S45.front4; apk R2 fun x49 h0_x49 he_x49 R2 => yax 104 112 (cs_qT z_qT zw_qT) S48 h_s20 ho43.sl (S48.rd m1) h0_x49 he_x49 z fun a50 c51 w52 C53 S54 ho55 => yg 9 1 [1] z (y7 S54.front1.drop.front3 1 (cs_qC ({ p0 with Tables := x49 }) ({ w_p0 with Tables := ⟨a50, c51⟩ })) fun w60 S59 => yp (sj R2 ▸ yt ⟨I18, a50, c51, C53, rfl, lr, S59.front1.front1.front3.front3, ho55⟩)))
 exact W.skip (sj R2 ▸ yt ⟨I18, a_s20, c_s20, C_s20, rfl, lr, S29, h_s20⟩)
 rintro _ w65 ⟨I36, a_j34, c_j34, C_j34, rfl, L37, S66, h_j34⟩
 exact yk (ye (yag nL3 (ya 0 1 z (yam i21 z (ya 2 1 z (yp (sj R1 ▸ yt ⟨I36, a_j34, c_j34, C_j34, rfl, le, S66, h_j34⟩)))))))
 rintro _ w67 ⟨I18, a_s20, c_s20, C_s20, rfl, L19, S68, h_s20⟩
 refine W.seq (yf nL5 (yg 0 2 [1] z (yj (S68.rf m0) z (ya 3 2 z (yb (yas fun _ => W.exit (yn (yo (yr (ye (yf nL2 (yx ((cs_qC ({ p0 with Tables := s20 }) ({ w_p0 with Tables := ⟨a_s20, c_s20⟩ }))) (S68.rf m2) z ?_))))))))))))
 obtain ⟨I70, L71, S73, hp72⟩ := yac h_s20 S68.front3
 refine y7 S73.front1 0 (cs_qC ({ p0 with Tables := s20 }) ({ w_p0 with Tables := ⟨a_s20, c_s20⟩ })) fun w76 S75 => yb (yq ?_)
 have hk80 : ok_qC I70 ({ p0 with Tables := s20 }) ({ w_p0 with Tables := ⟨a_s20, c_s20⟩ }) := ⟨hp72, (RSl.mono h_p0.Roles (L19.trans L71)), (RSl.mono h_p0.Grants (L19.trans L71))⟩
 exact sj D ▸ En.c1 _ (S75.rd m0) ⟨I70, ({ w_p0 with Tables := ⟨a_s20, c_s20⟩ }), rfl, le, S75.d3, hk80⟩
end Go.Proofs.YtlfphpegelclpaaGreat
