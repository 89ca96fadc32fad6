/- What functions of the program come to, each by a plain one. Conditions: none. -/
import Derived.Test.YtpgmbifboopfmaaProg
import Derived.Test.YtpgmbifboopfmaaShelf
set_option maxRecDepth 100000
namespace Go.Proofs.Ytpgmbifboopfmaa
open Go.Gv
set_option maxHeartbeats 1000000
variable {E w : World} {I : Mem} {Os : List Mem}
noncomputable abbrev P := Try.prog
structure qL where
  Name : By8
  Type_ : Int
  NotNull : Bool
def cs_qL (x : qL) : List Value := [.string x.Name, .int .i64 x.Type_, .bool x.NotNull]
abbrev vL (x : qL) : Value := .agg (cs_qL x).toArray
def R_qL (I : Mem) (cs : List Value) (x : qL) : Prop := cs = cs_qL x
instance : Mono R_qL := ⟨fun hl h => (by obtain rfl := h; exact rfl), fun h c hv => (by obtain rfl := h; exact (by simp only [cs_qL, List.mem_cons, List.not_mem_nil, or_false] at hv; rcases hv with rfl | rfl | rfl <;> first | rfl | rfl))⟩
def z_qL : qL := ⟨eB, 0, false⟩
structure qV where
  Kind : Int
  N : Int
  S : By8
def cs_qV (x : qV) : List Value := [.int .i64 x.Kind, .int .i64 x.N, .string x.S]
abbrev vV (x : qV) : Value := .agg (cs_qV x).toArray
def R_qV (I : Mem) (cs : List Value) (x : qV) : Prop := cs = cs_qV x
instance : Mono R_qV := ⟨fun hl h => (by obtain rfl := h; exact rfl), fun h c hv => (by obtain rfl := h; exact (by simp only [cs_qV, List.mem_cons, List.not_mem_nil, or_false] at hv; rcases hv with rfl | rfl | rfl <;> first | rfl | rfl))⟩
def z_qV : qV := ⟨0, 0, eB⟩
structure qE where
  Kind : Int
  Op : Int
  V : qV
  Name : By8
  Kids : List qE
structure W_qE where
  Kids : SW
def cs_qE (x : qE) (v : W_qE) : List Value := [.int .i64 x.Kind, .int .i64 x.Op, .int .i64 x.V.Kind, .int .i64 x.V.N, .string x.V.S, .string x.Name, .slice v.Kids.a x.Kids.length v.Kids.c]
abbrev vE (x : qE) (v : W_qE) : Value := .agg (cs_qE x v).toArray
structure okF_qE (R : Mem → List Value → qE → Prop) (I : Mem) (x : qE) (v : W_qE) : Prop where
  Kids : RSl 7 R I v.Kids.a v.Kids.c x.Kids
theorem okF_qE.mono {R : Mem → List Value → qE → Prop} [Mono R] {I J : Mem} {x : qE} {v : W_qE} (h : okF_qE R I x v) (hl : I.Le J) : okF_qE R J x v := ⟨RSl.mono h.Kids hl⟩
theorem okF_qE.map {R S : Mem → List Value → qE → Prop} (hm : ∀ I cs x, R I cs x → S I cs x) {I : Mem} {x : qE} {v : W_qE} (h : okF_qE R I x v) : okF_qE S I x v := ⟨SlAt.map (hm I) h.Kids⟩
def RF_qE : Nat → Mem → List Value → qE → Prop
  | 0, _, _, _ => False
  | k + 1, I, cs, x => ∃ v : W_qE, cs = cs_qE x v ∧ okF_qE (RF_qE k) I x v
def Q_qE (I : Mem) (cs : List Value) (x : qE) : Prop := ∃ k, RF_qE k I cs x
abbrev ok_qE (I : Mem) (x : qE) (v : W_qE) : Prop := okF_qE Q_qE I x v
theorem RF_qE_up : ∀ (k : Nat) (I : Mem) (cs : List Value) (x : qE), RF_qE k I cs x → RF_qE (k + 1) I cs x
  | 0, _, _, _, h => h.elim
  | k + 1, I, cs, x, ⟨v, e, h⟩ => ⟨v, e, h.map (RF_qE_up k)⟩
theorem Q_qE_iff {I : Mem} {cs : List Value} {x : qE} : Q_qE I cs x ↔ ∃ v : W_qE, cs = cs_qE x v ∧ ok_qE I x v := by
  constructor
  · rintro ⟨k, h⟩
    cases k with
    | zero => exact h.elim
    | succ k =>
      obtain ⟨v, e, h⟩ := h
      exact ⟨v, e, h.map fun _ _ _ h => ⟨k, h⟩⟩
  · rintro ⟨v, e, h⟩
    obtain ⟨k, b⟩ := SlAt.bound (R := RF_qE) (fun k cs x => RF_qE_up k I cs x) h.Kids
    exact ⟨k + 1, v, e, ⟨b⟩⟩
theorem RF_qE_mono : ∀ k : Nat, Mono (RF_qE k)
  | 0 => ⟨fun _ h => h.elim, fun h => h.elim⟩
  | k + 1 => by
    haveI := RF_qE_mono k
    exact ⟨fun hl h => (by obtain ⟨v, rfl, h⟩ := h; exact ⟨v, rfl, h.mono hl⟩), fun h c hv => (by obtain ⟨v, rfl, h⟩ := h; exact (by simp only [cs_qE, List.mem_cons, List.not_mem_nil, or_false] at hv; rcases hv with rfl | rfl | rfl | rfl | rfl | rfl | rfl <;> first | rfl | rfl))⟩
instance : Mono Q_qE := ⟨fun hl h => (by obtain ⟨k, h⟩ := h; exact ⟨k, (RF_qE_mono k).mono hl h⟩), fun h c hv => (by obtain ⟨k, h⟩ := h; exact (RF_qE_mono k).one h c hv)⟩
theorem ok_qE.mono {I J : Mem} {x : qE} {v : W_qE} (h : ok_qE I x v) (hl : I.Le J) : ok_qE J x v := okF_qE.mono h hl
def R_qE (I : Mem) (cs : List Value) (x : qE) : Prop := ∃ v : W_qE, cs = cs_qE x v ∧ ok_qE I x v
instance : Mono R_qE := ⟨fun hl h => (by obtain ⟨v, rfl, h⟩ := h; exact ⟨v, rfl, h.mono hl⟩), fun h c hv => (by obtain ⟨v, rfl, h⟩ := h; exact (by simp only [cs_qE, List.mem_cons, List.not_mem_nil, or_false] at hv; rcases hv with rfl | rfl | rfl | rfl | rfl | rfl | rfl <;> first | rfl | rfl))⟩
def z_qE : qE := ⟨0, 0, z_qV, eB, []⟩
def zw_qE : W_qE := ⟨⟨none, 0⟩⟩
theorem zok_qE {I : Mem} : ok_qE I z_qE zw_qE := ⟨SlAt.nil⟩
structure qK where
  Name : By8
  Kind : Int
  Cols : List By8
  Check : qE
  Table : By8
  Refs : List By8
structure W_qK where
  Cols : SW
  Check : W_qE
  Refs : SW
def cs_qK (x : qK) (v : W_qK) : List Value := [.string x.Name, .int .i64 x.Kind, .slice v.Cols.a x.Cols.length v.Cols.c, .int .i64 x.Check.Kind, .int .i64 x.Check.Op, .int .i64 x.Check.V.Kind, .int .i64 x.Check.V.N, .string x.Check.V.S, .string x.Check.Name, .slice v.Check.Kids.a x.Check.Kids.length v.Check.Kids.c, .string x.Table, .slice v.Refs.a x.Refs.length v.Refs.c]
abbrev vK (x : qK) (v : W_qK) : Value := .agg (cs_qK x v).toArray
structure ok_qK (I : Mem) (x : qK) (v : W_qK) : Prop where
  Cols : RSl 1 RStr I v.Cols.a v.Cols.c x.Cols
  Check : ok_qE I x.Check v.Check
  Refs : RSl 1 RStr I v.Refs.a v.Refs.c x.Refs
theorem ok_qK.mono {I J : Mem} {x : qK} {v : W_qK} (h : ok_qK I x v) (hl : I.Le J) : ok_qK J x v := ⟨RSl.mono h.Cols hl, h.Check.mono hl, RSl.mono h.Refs hl⟩
def R_qK (I : Mem) (cs : List Value) (x : qK) : Prop := ∃ v : W_qK, cs = cs_qK x v ∧ ok_qK I x v
instance : Mono R_qK := ⟨fun hl h => (by obtain ⟨v, rfl, h⟩ := h; exact ⟨v, rfl, h.mono hl⟩), fun h c hv => (by obtain ⟨v, rfl, h⟩ := h; exact (by simp only [cs_qK, List.mem_cons, List.not_mem_nil, or_false] at hv; rcases hv with rfl | rfl | rfl | rfl | rfl | rfl | rfl | rfl | rfl | rfl | rfl | rfl <;> first | rfl | rfl))⟩
def z_qK : qK := ⟨eB, 0, [], z_qE, eB, []⟩
def zw_qK : W_qK := ⟨⟨none, 0⟩, zw_qE, ⟨none, 0⟩⟩
theorem zok_qK {I : Mem} : ok_qK I z_qK zw_qK := ⟨SlAt.nil, zok_qE, SlAt.nil⟩
structure qI where
  Name : By8
  Cols : List By8
structure W_qI where
  Cols : SW
def cs_qI (x : qI) (v : W_qI) : List Value := [.string x.Name, .slice v.Cols.a x.Cols.length v.Cols.c]
abbrev vI (x : qI) (v : W_qI) : Value := .agg (cs_qI x v).toArray
structure ok_qI (I : Mem) (x : qI) (v : W_qI) : Prop where
  Cols : RSl 1 RStr I v.Cols.a v.Cols.c x.Cols
theorem ok_qI.mono {I J : Mem} {x : qI} {v : W_qI} (h : ok_qI I x v) (hl : I.Le J) : ok_qI J x v := ⟨RSl.mono h.Cols hl⟩
def R_qI (I : Mem) (cs : List Value) (x : qI) : Prop := ∃ v : W_qI, cs = cs_qI x v ∧ ok_qI I x v
instance : Mono R_qI := ⟨fun hl h => (by obtain ⟨v, rfl, h⟩ := h; exact ⟨v, rfl, h.mono hl⟩), fun h c hv => (by obtain ⟨v, rfl, h⟩ := h; exact (by simp only [cs_qI, List.mem_cons, List.not_mem_nil, or_false] at hv; rcases hv with rfl | rfl <;> first | rfl | rfl))⟩
def z_qI : qI := ⟨eB, []⟩
def zw_qI : W_qI := ⟨⟨none, 0⟩⟩
theorem zok_qI {I : Mem} : ok_qI I z_qI zw_qI := ⟨SlAt.nil⟩
structure qT where
  Name : By8
  Owner : By8
  Version : Int
  Cols : List qL
  Cons : List qK
  Idx : List qI
structure W_qT where
  Cols : SW
  Cons : SW
  Idx : SW
def cs_qT (x : qT) (v : W_qT) : List Value := [.string x.Name, .string x.Owner, .int .i64 x.Version, .slice v.Cols.a x.Cols.length v.Cols.c, .slice v.Cons.a x.Cons.length v.Cons.c, .slice v.Idx.a x.Idx.length v.Idx.c]
abbrev vT (x : qT) (v : W_qT) : Value := .agg (cs_qT x v).toArray
structure ok_qT (I : Mem) (x : qT) (v : W_qT) : Prop where
  Cols : RSl 3 R_qL I v.Cols.a v.Cols.c x.Cols
  Cons : RSl 12 R_qK I v.Cons.a v.Cons.c x.Cons
  Idx : RSl 2 R_qI I v.Idx.a v.Idx.c x.Idx
theorem ok_qT.mono {I J : Mem} {x : qT} {v : W_qT} (h : ok_qT I x v) (hl : I.Le J) : ok_qT J x v := ⟨RSl.mono h.Cols hl, RSl.mono h.Cons hl, RSl.mono h.Idx hl⟩
def R_qT (I : Mem) (cs : List Value) (x : qT) : Prop := ∃ v : W_qT, cs = cs_qT x v ∧ ok_qT I x v
instance : Mono R_qT := ⟨fun hl h => (by obtain ⟨v, rfl, h⟩ := h; exact ⟨v, rfl, h.mono hl⟩), fun h c hv => (by obtain ⟨v, rfl, h⟩ := h; exact (by simp only [cs_qT, List.mem_cons, List.not_mem_nil, or_false] at hv; rcases hv with rfl | rfl | rfl | rfl | rfl | rfl <;> first | rfl | rfl))⟩
def z_qT : qT := ⟨eB, eB, 0, [], [], []⟩
def zw_qT : W_qT := ⟨⟨none, 0⟩, ⟨none, 0⟩, ⟨none, 0⟩⟩
theorem zok_qT {I : Mem} : ok_qT I z_qT zw_qT := ⟨SlAt.nil, SlAt.nil, SlAt.nil⟩
structure qJ where
  Name : By8
  In : List By8
structure W_qJ where
  In : SW
def cs_qJ (x : qJ) (v : W_qJ) : List Value := [.string x.Name, .slice v.In.a x.In.length v.In.c]
abbrev vJ (x : qJ) (v : W_qJ) : Value := .agg (cs_qJ x v).toArray
structure ok_qJ (I : Mem) (x : qJ) (v : W_qJ) : Prop where
  In : RSl 1 RStr I v.In.a v.In.c x.In
theorem ok_qJ.mono {I J : Mem} {x : qJ} {v : W_qJ} (h : ok_qJ I x v) (hl : I.Le J) : ok_qJ J x v := ⟨RSl.mono h.In hl⟩
def R_qJ (I : Mem) (cs : List Value) (x : qJ) : Prop := ∃ v : W_qJ, cs = cs_qJ x v ∧ ok_qJ I x v
instance : Mono R_qJ := ⟨fun hl h => (by obtain ⟨v, rfl, h⟩ := h; exact ⟨v, rfl, h.mono hl⟩), fun h c hv => (by obtain ⟨v, rfl, h⟩ := h; exact (by simp only [cs_qJ, List.mem_cons, List.not_mem_nil, or_false] at hv; rcases hv with rfl | rfl <;> first | rfl | rfl))⟩
def z_qJ : qJ := ⟨eB, []⟩
def zw_qJ : W_qJ := ⟨⟨none, 0⟩⟩
theorem zok_qJ {I : Mem} : ok_qJ I z_qJ zw_qJ := ⟨SlAt.nil⟩
structure qG where
  To : By8
  By : By8
  Table : By8
  Priv : Int
  Option : Bool
def cs_qG (x : qG) : List Value := [.string x.To, .string x.By, .string x.Table, .int .i64 x.Priv, .bool x.Option]
abbrev vG (x : qG) : Value := .agg (cs_qG x).toArray
def R_qG (I : Mem) (cs : List Value) (x : qG) : Prop := cs = cs_qG x
instance : Mono R_qG := ⟨fun hl h => (by obtain rfl := h; exact rfl), fun h c hv => (by obtain rfl := h; exact (by simp only [cs_qG, List.mem_cons, List.not_mem_nil, or_false] at hv; rcases hv with rfl | rfl | rfl | rfl | rfl <;> first | rfl | rfl))⟩
def z_qG : qG := ⟨eB, eB, eB, 0, false⟩
structure qC where
  Version : Int
  Tables : List qT
  Roles : List qJ
  Grants : List qG
structure W_qC where
  Tables : SW
  Roles : SW
  Grants : SW
def cs_qC (x : qC) (v : W_qC) : List Value := [.int .i64 x.Version, .slice v.Tables.a x.Tables.length v.Tables.c, .slice v.Roles.a x.Roles.length v.Roles.c, .slice v.Grants.a x.Grants.length v.Grants.c]
abbrev vC (x : qC) (v : W_qC) : Value := .agg (cs_qC x v).toArray
abbrev bC (bb : Nat) (x : qC) (v : W_qC) : Mem := Bx bb (cs_qC x v) 36
structure ok_qC (I : Mem) (x : qC) (v : W_qC) : Prop where
  Tables : RSl 6 R_qT I v.Tables.a v.Tables.c x.Tables
  Roles : RSl 2 R_qJ I v.Roles.a v.Roles.c x.Roles
  Grants : RSl 5 R_qG I v.Grants.a v.Grants.c x.Grants
theorem ok_qC.mono {I J : Mem} {x : qC} {v : W_qC} (h : ok_qC I x v) (hl : I.Le J) : ok_qC J x v := ⟨RSl.mono h.Tables hl, RSl.mono h.Roles hl, RSl.mono h.Grants hl⟩
def R_qC (I : Mem) (cs : List Value) (x : qC) : Prop := ∃ v : W_qC, cs = cs_qC x v ∧ ok_qC I x v
instance : Mono R_qC := ⟨fun hl h => (by obtain ⟨v, rfl, h⟩ := h; exact ⟨v, rfl, h.mono hl⟩), fun h c hv => (by obtain ⟨v, rfl, h⟩ := h; exact (by simp only [cs_qC, List.mem_cons, List.not_mem_nil, or_false] at hv; rcases hv with rfl | rfl | rfl | rfl <;> first | rfl | rfl))⟩
def z_qC : qC := ⟨0, [], [], []⟩
def zw_qC : W_qC := ⟨⟨none, 0⟩, ⟨none, 0⟩, ⟨none, 0⟩⟩
theorem zok_qC {I : Mem} : ok_qC I z_qC zw_qC := ⟨SlAt.nil, SlAt.nil, SlAt.nil⟩
structure chain_kept where
  c : qC
  pins : Int
structure W_chain_kept where
  c : W_qC
def cs_chain_kept (x : chain_kept) (v : W_chain_kept) : List Value := [.int .i64 x.c.Version, .slice v.c.Tables.a x.c.Tables.length v.c.Tables.c, .slice v.c.Roles.a x.c.Roles.length v.c.Roles.c, .slice v.c.Grants.a x.c.Grants.length v.c.Grants.c, .int .i64 x.pins]
structure ok_chain_kept (I : Mem) (x : chain_kept) (v : W_chain_kept) : Prop where
  c : ok_qC I x.c v.c
theorem ok_chain_kept.mono {I J : Mem} {x : chain_kept} {v : W_chain_kept} (h : ok_chain_kept I x v) (hl : I.Le J) : ok_chain_kept J x v := ⟨h.c.mono hl⟩
def R_chain_kept (I : Mem) (cs : List Value) (x : chain_kept) : Prop := ∃ v : W_chain_kept, cs = cs_chain_kept x v ∧ ok_chain_kept I x v
instance : Mono R_chain_kept := ⟨fun hl h => (by obtain ⟨v, rfl, h⟩ := h; exact ⟨v, rfl, h.mono hl⟩), fun h c hv => (by obtain ⟨v, rfl, h⟩ := h; exact (by simp only [cs_chain_kept, List.mem_cons, List.not_mem_nil, or_false] at hv; rcases hv with rfl | rfl | rfl | rfl | rfl <;> first | rfl | rfl))⟩
def z_chain_kept : chain_kept := ⟨z_qC, 0⟩
def zw_chain_kept : W_chain_kept := ⟨zw_qC⟩
theorem zok_chain_kept {I : Mem} : ok_chain_kept I z_chain_kept zw_chain_kept := ⟨zok_qC⟩
structure chain_Chain where
  live : List (Int × chain_kept)
  now : Int
  pins : List (Int × Int)
  news : List (Int × (List By8))
structure W_chain_Chain where
  live : SM
  pins : SM
  news : SM
def cs_chain_Chain (x : chain_Chain) (v : W_chain_Chain) : List Value := [.map (some v.live.m), .int .i64 x.now, .map (some v.pins.m), .map (some v.news.m)]
structure ok_chain_Chain (I : Mem) (x : chain_Chain) (v : W_chain_Chain) : Prop where
  live : PMap (Value.int .i64) R_chain_kept 51 I v.live.C v.live.m x.live
  pins : OwnMap (Value.int .i64) (val1 (RInt .i64)) I v.pins.C v.pins.m x.pins
  news : SMap (Value.int .i64) 9 1 RStr I v.news.C v.news.m x.news
theorem ok_chain_Chain.mono {I J : Mem} {x : chain_Chain} {v : W_chain_Chain} (h : ok_chain_Chain I x v) (hl : I.Le J) : ok_chain_Chain J x v := ⟨PMap.mono h.live hl, OwnMap.mono h.pins hl, SMap.mono h.news hl⟩
def chain_Chain_dead (p0 : chain_Chain) : Option Bool := some false
theorem chain_Chain_dead_ok {p0 : chain_Chain} {b_p0 : Nat} {w_p0 : W_chain_Chain} (h_p0 : ok_chain_Chain I p0 w_p0) (hS : St E w I ((Gv.one b_p0 (.cells (cs_chain_Chain p0 w_p0).toArray 27 (0, 0))) :: (w_p0.live.C) :: (w_p0.pins.C) :: (w_p0.news.C) :: Os)) {r : Bool} (G : chain_Chain_dead p0 = some r) :
    Calls P 14 #[(.pointer (some ⟨b_p0, 0, none⟩))] w (fun e w' => ∃ (I' : Mem), e = .returned (.bool r) ∧ I.Le I' ∧ St E w' I' ((Gv.one b_p0 (.cells (cs_chain_Chain p0 w_p0).toArray 27 (0, 0))) :: w_p0.live.C :: w_p0.pins.C :: w_p0.news.C :: Os)) := by
  refine calls_W (args := [(.pointer (some ⟨b_p0, 0, none⟩))]) (fn := Try.f14) rfl rfl rfl ?_
  unfold chain_Chain_dead at G
  refine W.seq ?_
  refine W.region (l := [0]) kr ?_
  refine ya [(0, 2, (.bool false))] kr (fun _ => by kernel_rfl) ?_
  refine yc ?_
  refine yb ?_
  refine W.seq ?_
  refine W.region (l := [0, 1, 2, 3, 4, 5, 6, 7, 8, 9]) kr ?_
  refine ya [(0, 3, (.pointer (some ⟨b_p0, 0, none⟩))), (1, 4, (.bool false)), (2, 5, (.bool false)), (3, 6, (.pointer (some ⟨b_p0, 0, none⟩))), (4, 7, (.pointer (some ⟨b_p0, 0, none⟩))), (5, 8, (.pointer (some ⟨b_p0, 0, none⟩)))] kr (fun _ => by kernel_rfl) ?_
  refine yf z kr kr z (v := (.map (some w_p0.live.m))) (fun w' hw' => cell_one ((rd_f (hS.rd (List.Mem.head _))) w' hw') kr) ?_
  refine ya [(7, 10, (.bool false)), (8, 11, (.bool false)), (9, 2, (.bool false))] kr (fun _ => by kernel_rfl) ?_
  refine yc ?_
  refine yb ?_
  refine ym ?_
  have he := Option.some.inj G
  subst r
  exact yl z (.bool false) z ⟨I, rfl, Mem.Le.refl _, hS⟩
def chain_Chain_check (p0 : chain_Chain) (p1 : Int) : Option Int := (chain_Chain_dead p0).bind (fun (r10 : Bool) => (bif ((decide (p1 < 1)) || (decide (p1 > 8))) then some 2 else some 0))
theorem chain_Chain_check_ok {p0 : chain_Chain} {p1 : Int} {b_p0 : Nat} {w_p0 : W_chain_Chain} (h_p0 : ok_chain_Chain I p0 w_p0) (hS : St E w I ((Gv.one b_p0 (.cells (cs_chain_Chain p0 w_p0).toArray 27 (0, 0))) :: (w_p0.live.C) :: (w_p0.pins.C) :: (w_p0.news.C) :: Os)) {r : Int} (G : chain_Chain_check p0 p1 = some r) :
    Calls P 13 #[(.pointer (some ⟨b_p0, 0, none⟩)), (.int .i64 p1)] w (fun e w' => ∃ (I' : Mem), e = .returned (.int .i64 r) ∧ I.Le I' ∧ St E w' I' ((Gv.one b_p0 (.cells (cs_chain_Chain p0 w_p0).toArray 27 (0, 0))) :: w_p0.live.C :: w_p0.pins.C :: w_p0.news.C :: Os)) := by
  refine calls_W (args := [(.pointer (some ⟨b_p0, 0, none⟩)), (.int .i64 p1)]) (fn := Try.f13) rfl rfl rfl ?_
  unfold chain_Chain_check at G
  refine W.seq ?_
  refine W.region (l := [0]) kr ?_
  refine ya [(0, 4, (.int .i64 0))] kr (fun _ => by kernel_rfl) ?_
  refine yc ?_
  refine yb ?_
  refine W.seq ?_
  refine yq ?_
  refine W.seq ?_
  refine W.region (l := [0, 1, 2]) kr ?_
  refine ya [(0, 6, (.pointer (some ⟨b_p0, 0, none⟩)))] kr (fun _ => by kernel_rfl) ?_
  have S1 := hS.front3
  have S2 := S1.front3
  have S3 := S2.front3
  have S4 := S3.front3
  obtain ⟨r10, Xr5, G⟩ := bind_some G
  obtain rfl : false = r10 := Option.some.inj Xr5
  refine yj z kr z (f := 14) (args := #[(.pointer (some ⟨b_p0, 0, none⟩))]) kr (chain_Chain_dead_ok h_p0 S4 Xr5) ?_
  rintro _ w6 ⟨I7, rfl, L8, S9⟩
  refine ⟨_, rfl, trivial, ?_⟩
  refine ya [(2, 5, (.bool false))] kr (fun _ => by kernel_rfl) ?_
  refine yc ?_
  refine yb ?_
  refine W.cond (b := false) z z (fun K => ?_) (fun K => ?_)
  · cases K
  clear K
  refine W.seq ?_
  refine W.region (l := [0, 1, 2, 3, 4, 5, 6]) kr ?_
  refine ya [(0, 9, (.int .i64 p1)), (1, 10, (.bool (decide (p1 < 1)))), (2, 11, (.bool (decide (p1 < 1))))] kr (fun _ => by kernel_rfl) ?_
  refine WO.join (l1 := [3, 4, 5]) (l2 := [6]) (J := fun frx wx => frx = [(14, (.bool ((decide (p1 < 1)) || (decide (p1 > 8)))))] ∧ w6 = wx) ?restm11 ?waysm11
  case waysm11 =>
    refine yt (decide (p1 < 1)) (fun K => ?_) (fun K => ?_)
    · skip
      refine ye 11 z (show Value.bool (decide (p1 < 1)) = Value.bool true by rw [K]) ?_
      refine yd z kr z ?_
      refine yd z kr z ?_
      refine ya [(5, 14, (.bool true))] kr (fun _ => by kernel_rfl) ?_
      refine WO.weaken (fr' := [(14, (.bool ((decide (p1 < 1)) || (decide (p1 > 8)))))]) (yi ⟨rfl, rfl⟩) (Sub.cons (by rw [K]; rfl) Sub.nil)
    · skip
      refine ye 11 z (show Value.bool (decide (p1 < 1)) = Value.bool false by rw [K]) ?_
      refine ya [(3, 12, (.int .i64 p1)), (4, 13, (.bool (decide (p1 > 8)))), (5, 14, (.bool (decide (p1 > 8))))] kr (fun _ => by kernel_rfl) ?_
      refine WO.weaken (fr' := [(14, (.bool ((decide (p1 < 1)) || (decide (p1 > 8)))))]) (yi ⟨rfl, rfl⟩) (Sub.cons (by rw [K]; rfl) Sub.nil)
  case restm11 =>
    rintro _ _ ⟨rfl, rfl⟩
    refine ya [(6, 8, (.bool ((decide (p1 < 1)) || (decide (p1 > 8)))))] kr (fun _ => by kernel_rfl) ?_
    refine yc ?_
    refine yb ?_
    refine W.cond (b := ((decide (p1 < 1)) || (decide (p1 > 8)))) z z (fun K => ?_) (fun K => ?_)
    · replace G := cond_t K G
      refine W.seq ?_
      refine W.region (l := [0]) kr ?_
      refine ya [(0, 4, (.int .i64 2))] kr (fun _ => by kernel_rfl) ?_
      refine yc ?_
      refine yb ?_
      refine ym ?_
      refine yn ?_
      refine yg ?_
      have he := Option.some.inj G
      subst r
      exact yl z (.int .i64 2) z ⟨I7, rfl, L8, S9⟩
    · replace G := cond_f K G
      refine W.skip ?_
      refine yo ?_
      refine yb ?_
      refine W.seq ?_
      refine W.region (l := [0]) kr ?_
      refine ya [(0, 4, (.int .i64 0))] kr (fun _ => by kernel_rfl) ?_
      refine yc ?_
      refine yb ?_
      refine ym ?_
      have he := Option.some.inj G
      subst r
      exact yl z (.int .i64 0) z ⟨I7, rfl, L8, S9⟩
def chain_Chain_Pin (h : chain_Chain) (who : Int) : Option (Int × Int × chain_Chain) :=
  (chain_Chain_check h who).bind fun e => bif e != 0 then some (0, e, h) else bif mhas iEq h.pins who then some (0, 19, h) else
    (mget iEq h.live h.now).bind fun k => some (h.now, 0, { h with pins := mset iEq h.pins who h.now, live := mset iEq h.live h.now { k with pins := w64 (k.pins + 1) } })
theorem chain_Chain_Pin_ok {p0 : chain_Chain} {p1 : Int} {b_p0 : Nat} {w_p0 : W_chain_Chain} (h_p0 : ok_chain_Chain I p0 w_p0) (hS : St E w I (Bx b_p0 (cs_chain_Chain p0 w_p0) 27 :: w_p0.live.C :: w_p0.pins.C :: w_p0.news.C :: Os)) {r : Int × Int × chain_Chain} (G : chain_Chain_Pin p0 p1 = some r) :
    Calls P 4 #[Pt b_p0 0, Iv p1] w (fun e w' => ∃ (I' : Mem) (w_rp0 : W_chain_Chain), e = .returned (.tuple #[Iv r.1, Iv r.2.1]) ∧ I.Le I' ∧ St E w' I' (Bx b_p0 (cs_chain_Chain r.2.2 w_rp0) 27 :: w_rp0.live.C :: w_rp0.pins.C :: w_rp0.news.C :: Os) ∧ ok_chain_Chain I' r.2.2 w_rp0) := by
  refine calls_W (args := [Pt b_p0 0, Iv p1]) (fn := Try.f4) rfl rfl rfl ?_
  unfold chain_Chain_Pin at G
  obtain ⟨e, he, G⟩ := bind_some G
  obtain ⟨v1, hv1, hq1⟩ := h_p0.pins.lookup (P := P) (t := 24) (kt := 3) (et := 3) kr (keyLaw_int (kt := 3) kr) p1 (zv := Iv 0) (z0 := (0 : Int)) kr rfl
  obtain rfl : v1 = Iv ((mget iEq p0.pins p1).getD 0) := (List.cons.inj (show [v1] = [Iv _] from hv1)).1
  refine y8 nL2 (yv 0 2 z (yy (W.seq (y8 nL4 (yv 0 2 z (WO.c1 (chain_Chain_check_ok h_p0 hS he) z fun I2 w2 L2 S2 => yv 3 1 z (yy (y8 nL2 (yv 0 2 z (yy (W.cb G (fun K G => ?_) (fun K G => ?_))))))))))))
  · exact y8 nL3 (yv 0 3 rfl (yy (ym (yg (sj G ▸ En.r2 ⟨I2, w_p0, rfl, L2, S2, h_p0.mono L2⟩)))))
  refine W.skip (yb (W.seq (y8 nL11 (y7 0 3 [2] z (yaa (S2.rf m0) z (yv 4 1 z ?_))))))
  refine WO.lookup z kr z z hq1 (rd_f (S2.rd m2)) (.tuple #[Iv ((mget iEq p0.pins p1).getD 0), .bool (mhas iEq p0.pins p1)]) z ?_
  refine yv 6 5 z (yy (y8 [0] (yv 0 1 z (yy (W.cb G (fun K G => ?_) (fun K G => ?_))))))
  · exact y8 nL2 (yv 0 2 rfl (yy (ym (yg (sj G ▸ En.r2 ⟨I2, w_p0, rfl, L2, S2, h_p0.mono L2⟩)))))
  obtain ⟨k, hk, G⟩ := bind_some G
  obtain rfl := Option.some.inj G
  refine W.skip (yb (W.seq (have S3 := S2.drew; W.dr nL10 9 (yk (S3.rd m0) (yz S3.im)) ?_)))
  generalize World.drew _ = w3 at *
  refine y7 0 3 [2] z (yaa (rd_c m0 (S3.rd m0)) z (y7 4 4 [1] z (yaa (rd_c m0 (S3.rd m0)) z (WO.tail z ?_))))
  refine WO.update (OwnMap.mono h_p0.pins L2) S3.front2 (t := 24) (kt := 3) (et := 3) kr (keyLaw_int (kt := 3) kr) z kr z (.inl z) z p1 z z (xv := p0.now) z tv ?_
  intro w4 C4 S4 hm4
  refine yy (W.seq (have S5 := S4.drew; W.dr nL16 15 (yk (S5.rd m1) (yk (S5.rd m2) (yz S5.im))) ?_))
  generalize World.drew _ = w5 at *
  obtain ⟨Cm, lm, b, cs, hcm, hm, hg, hh, hC, K, ⟨wk, rfl, hok⟩, hput⟩ := (h_p0.live.mono L2).look ieqP hk
  obtain ⟨v, hv, hq⟩ := hm.lookup (P := P) (t := 23) (kt := 3) (et := 52) kr (keyLaw_int (kt := 3) kr) p0.now (zv := .pointer none) (z0 := (none : Option Nat)) kr rfl
  rw [hg] at hv
  obtain rfl : v = Pt b 0 := hv
  refine y7 0 3 [0] z (yaa (rd_c m0 (S5.rd m1)) z (y7 4 3 [1] z (yaa (rd_c m0 (S5.rd m1)) z ?_)))
  refine WO.lookup z kr z z hq (fun w' hw => hcm w' (rd_c m1 (S5.rd m2) w' hw)) (Pt b 0) z ?_
  refine y7 9 2 [4] z (WO.lw K 4 (rd_c m1 (S5.rd m2)) z (y7 12 3 [4] z (WO.tail z ?_)))
  refine yar S5.front2 z kr z (v := Iv (w64 (k.pins + 1))) z z kr (by intro u hu; simp [Value.cells] at hu; subst hu; rfl) hC (by show 4 + 1 ≤ 5; omega) tv ?_
  intro w6 S6
  have S7 : St E w6 I2 (w_p0.live.C.set b (.cells (cs_chain_kept { k with pins := w64 (k.pins + 1) } wk).toArray 51 (0, 0)) :: C4 :: Bx b_p0 (cs_chain_Chain p0 w_p0) 27 :: w_p0.news.C :: Os) := S6
  exact yy (y8 nL6 (y7 0 3 [1] z (yaa (S7.rf m2) z (yv 4 2 z (yy (ym (En.r2 ⟨I2, ⟨⟨w_p0.live.m, w_p0.live.C.set b (.cells (cs_chain_kept { k with pins := w64 (k.pins + 1) } wk).toArray 51 (0, 0))⟩, ⟨w_p0.pins.m, C4⟩, w_p0.news⟩, rfl, L2, S7.front2, ⟨hput I2 _ _ (Mem.Le.refl _) ⟨wk, rfl, ⟨hok.c⟩⟩, hm4, SMap.mono h_p0.news L2⟩⟩)))))))
def chain_Chain_At (h : chain_Chain) (who : Int) : Option (qC × Bool) :=
  bif !mhas iEq h.pins who then some (z_qC, false) else (mget iEq h.live ((mget iEq h.pins who).getD 0)).bind fun k => some (k.c, true)
theorem chain_Chain_At_ok {p0 : chain_Chain} {p1 : Int} {b_p0 : Nat} {w_p0 : W_chain_Chain} (h_p0 : ok_chain_Chain I p0 w_p0) (hS : St E w I (Bx b_p0 (cs_chain_Chain p0 w_p0) 27 :: w_p0.live.C :: w_p0.pins.C :: w_p0.news.C :: Os)) {r : qC × Bool} (G : chain_Chain_At p0 p1 = some r) :
    Calls P 5 #[Pt b_p0 0, Iv p1] w (fun e w' => ∃ (I' : Mem) (w_rw0 : W_qC), e = .returned (.tuple #[(vC r.1 w_rw0), (.bool r.2)]) ∧ I.Le I' ∧ St E w' I' (Bx b_p0 (cs_chain_Chain p0 w_p0) 27 :: w_p0.live.C :: w_p0.pins.C :: w_p0.news.C :: Os) ∧ ok_qC I' r.1 w_rw0) := by
  refine calls_W (args := [Pt b_p0 0, Iv p1]) (fn := Try.f5) rfl rfl rfl ?_
  unfold chain_Chain_At at G
  obtain ⟨v1, hv1, hq1⟩ := h_p0.pins.lookup (P := P) (t := 24) (kt := 3) (et := 3) kr (keyLaw_int (kt := 3) kr) p1 (zv := Iv 0) (z0 := (0 : Int)) kr rfl
  obtain rfl : v1 = Iv ((mget iEq p0.pins p1).getD 0) := (List.cons.inj (show [v1] = [Iv _] from hv1)).1
  refine y8 nL2 (WO.n1 hS (cs_qC z_qC zw_qC) 36 z fun b1 w1 S1 => yv 1 1 z (yy (W.seq (y8 nL2 (yv 0 1 z (WO.c1 (chain_Chain_dead_ok h_p0 S1.front4.front4.front4.front4 z) z fun I2 w2 L2 S2 => yy (W.cf fun _ => W.skip (yb (y8 nL11 (y7 0 3 [2] z (yaa (S2.rf m0) z (yv 4 1 z ?_))))))))))))
  refine WO.lookup z kr z z hq1 (rd_f (S2.rd m2)) (.tuple #[Iv ((mget iEq p0.pins p1).getD 0), .bool (mhas iEq p0.pins p1)]) z ?_
  refine yv 6 5 z (yy (W.seq (y8 nL2 (yv 0 2 z (yy (W.cb G (fun K G => ?_) (fun K G => ?_)))))))
  · exact y8 nL3 (WO.v1 0 22 (vC z_qC zw_qC) (WO.s1 S2.front4 0 (cs_qC z_qC zw_qC) fun w4 S4 => yv 2 1 rfl (yy (ym (yg (sj G ▸ En.c2 _ (S4.rd m0) ⟨I2, zw_qC, rfl, L2, S4.drop, zok_qC⟩))))))
  · obtain ⟨k, hk, G⟩ := bind_some G
    obtain ⟨Cm, lm, b, cs, hcm, hm, hg, hh, hC, K, ⟨wk, rfl, hok⟩, _⟩ := (h_p0.live.mono L2).look ieqP hk
    obtain ⟨v, hv, hq⟩ := hm.lookup (P := P) (t := 23) (kt := 3) (et := 52) kr (keyLaw_int (kt := 3) kr) ((mget iEq p0.pins p1).getD 0) (zv := .pointer none) (z0 := (none : Option Nat)) kr rfl
    rw [hg] at hv
    obtain rfl : v = Pt b 0 := hv
    refine W.skip (yb (y8 nL11 (y7 0 3 [0] z (yaa (S2.rf m0) z (yv 4 1 z ?_)))))
    refine WO.lookup z kr z z hq (fun w' hw => hcm w' (rd_f (S2.rd m1) w' hw)) (Pt b 0) z ?_
    refine y7 6 2 [0] z (WO.m2 (cs_qC k.c wk.c) K 0 (S2.rf m1) z ?_)
    exact WO.s1 S2.front4 0 (cs_qC k.c wk.c) fun w7 S7 => yv 10 1 z (yy (ym (sj G ▸ En.c2 _ (S7.rd m0) ⟨I2, wk.c, rfl, L2, S7.drop, hok.c⟩)))
def chain_Chain_trim (h : chain_Chain) : Option chain_Chain := if (h.live.map (·.1)).Nodup then some { h with live := h.live.filter fun p => !((p.1 != h.now) && (p.2.pins == 0)) } else none
theorem trim1_ok {E w : World} {I C : Mem} {Os : List Mem} {v now : Int} {kb bb hb : Nat} {m1 m2 m3 : Value} {x : chain_kept} {wx : W_chain_kept} (hbox : Bx bb [Pt hb 0] 22 ∈ Os) (hobj : Bx hb [m1, Iv now, m2, m3] 27 ∈ Os) (hC : C ∈ Os) (hk : CellsAt C kb 0 (cs_chain_kept x wx)) (hS : St E w I Os) :
    Calls P 23 #[Iv v, Pt kb 0, Pt bb 0] w (fun e w' => e = .returned (.bool ((v != now) && (x.pins == 0))) ∧ St E w' I Os) := by
  refine calls_W (args := [Iv v, Pt kb 0, Pt bb 0]) (fn := Try.f23) rfl rfl rfl ?_
  exact y8 [0] (yv 0 1 z (WO.ns nL14 (yv 0 1 z (yaa (hS.rf hbox) z (y7 2 2 [1] z (yaa (hS.rf hobj) z (yv 5 2 z (WO.ja [7, 8, 9, 10, 11] 12 12 18 (.refl ((v != now) && (x.pins == 0))) (fun _ => y7 7 3 [4] z (WO.lw hk 4 (hS.rf hC) z (yv 11 2 z WO.mx))) (yv 13 1 z (yy (ym (yap ⟨rfl, hS⟩))))))))))))
theorem delf_ok {E w : World} {I Cm : Mem} {Os : List Mem} {m g : Nat} {ks : List Value} {lm : List (Int × Option Nat)} {q : Int × Option Nat → Bool} (h : OwnMap (Value.int .i64) valP I Cm m lm) (hn : (lm.map (·.1)).Nodup) (hS : St E w I (Cm :: Os)) (hcall : Callable P g)
    (hg : ∀ {w : World} {D C' : Mem} (p : Int × Option Nat), p ∈ lm → St E w I (D :: C' :: Os) → Calls P g (([Iv p.1, ptr p.2] : List Value) ++ ks).toArray w (fun e w' => e = .returned (.bool (q p)) ∧ St E w' I (D :: C' :: Os))) :
    Calls P 22 #[.map (some m), .func (.func g) #[] ks.toArray] w (fun e w' => ∃ Cm', e = .returned (.tuple #[]) ∧ St E w' I (Cm' :: Os) ∧ OwnMap (Value.int .i64) valP I Cm' m (lm.filter fun p => !q p)) := by
  refine calls_W (args := [.map (some m), .func (.func g) #[] ks.toArray]) (fn := Try.f22) rfl rfl rfl ?_
  refine W.seq ?_
  refine W.region (l := [0, 1]) kr ?_
  refine ya [(0, 6, (.map (some m)))] kr (fun _ => by kernel_rfl) ?_
  refine WO.rangeMap h hS (t := 23) (kt := 3) (et := 52) kr z kr z z tv ?_
  intro ib w2 D2 S2 hit2
  refine yc ?_
  refine yb ?_
  refine yq ?_
  refine W.weaken (fr' := [(0, (.map (some m))), (1, (.func (.func g) #[] ks.toArray)), (7, Pt ib 0)]) (W.loopG (fun k fr w => ∃ (D' C' : Mem) (cur rem : List (Int × Option Nat)) (last : Option (Value × Value)), fr = [(0, (.map (some m))), (1, (.func (.func g) #[] ks.toArray)), (7, Pt ib 0)] ∧ k = rem.length ∧ St E w I (D' :: C' :: Os) ∧ IterSt (Value.int .i64) valP I C' m cur D' ib rem last ∧ Sift q lm cur rem) ⟨D2, Cm, lm, lm, none, rfl, rfl, S2, hit2, Sift.start⟩ ?_) (Sub.cons z (Sub.cons z (Sub.cons z Sub.nil)))
  rintro _ _ w3 ⟨D3, C3, cur3, rem3, last3, rfl, rfl, S3, hit3, hf3⟩
  refine W.seq ?_
  refine W.region (l := [0, 1]) kr ?_
  refine WO.next hit3 S3 z kr z z tv (fun he => ?_) ?_
  · subst he
    refine ya [(1, 9, (.bool false))] kr (fun _ => by kernel_rfl) ?_
    refine yy (W.seq (W.cf (fun _ => W.exit (yw (yx (y0 (En.toRet (En.ret0 z ⟨C3, rfl, S3.drop, ?_⟩))))))))
    have := hit3.own
    rwa [hf3.done hn] at this
  · intro k x rem4 v w4 D4 hp4 hv4 S4 hit4
    obtain rfl : v = ptr x := hv4
    have hm4 : (k, x) ∈ lm := hf3.sub.subset (hf3.mem _ (hp4.mem_iff.2 (List.mem_cons_self ..)))
    refine ya [(1, 9, (.bool true))] kr (fun _ => by kernel_rfl) ?_
    refine yy (W.seq (W.ct (fun _ => W.skip (yb (yq (W.seq (W.region (l := [0, 1, 2, 3, 4]) kr (WO.entry hit4 S4 z kr z z trivial ?_))))))))
    refine ya [(1, 11, Iv k), (2, 12, ptr x), (3, 4, Iv k), (4, 5, ptr x)] kr (fun _ => by kernel_rfl) ?_
    refine yy (W.seq (W.region (l := [0, 1, 2, 3]) kr ?_))
    refine ya [(0, 13, (.func (.func g) #[] ks.toArray)), (1, 14, Iv k), (2, 15, ptr x)] kr (fun _ => by kernel_rfl) ?_
    refine WO.callv z kr z (g := g) (kk := ks) (args := [Iv k, ptr x]) z kr hcall (hg (k, x) hm4 S4) ?_
    rintro _ w5 ⟨rfl, S5⟩
    refine ⟨_, rfl, trivial, yy ?_⟩
    have hlen4 := hp4.length_eq
    simp only [List.length_cons] at hlen4
    refine W.cond (b := q (k, x)) z z (fun K => ?_) (fun K => ?_)
    · refine W.region (l := [0, 1, 2]) kr ?_
      refine ya [(0, 17, (.map (some m))), (1, 18, Iv k)] kr (fun _ => by kernel_rfl) ?_
      refine WO.deleteIt2 hit4 S5.front1 (t := 23) (kt := 3) (et := 52) kr (keyLaw_int (kt := 3) kr) z kr z z k z tv ?_
      intro w7 C7 rem7 S7 R7 R8 hit7
      refine yc (yo ?_)
      exact En.weaken (fr' := [(0, (.map (some m))), (1, (.func (.func g) #[] ks.toArray)), (7, Pt ib 0)]) (En.round ⟨rem7.length, by omega, D4, C7, mdel iEq cur3 k, rem7, none, rfl, rfl, S7.front1, hit7, hf3.drop ieqP hn hp4 K R8 fun y hy => hit7.rem_mem hy⟩) (Sub.cons z (Sub.cons z (Sub.cons z Sub.nil)))
    · refine W.skip (yo ?_)
      exact En.weaken (fr' := [(0, (.map (some m))), (1, (.func (.func g) #[] ks.toArray)), (7, Pt ib 0)]) (En.round ⟨rem4.length, by omega, D4, C3, cur3, rem4, _, rfl, rfl, S5, hit4, hf3.keep hp4 K⟩) (Sub.cons z (Sub.cons z (Sub.cons z Sub.nil)))
theorem chain_Chain_trim_ok {h r : chain_Chain} {b : Nat} {v : W_chain_Chain} (h0 : PMap (Value.int .i64) R_chain_kept 51 I v.live.C v.live.m h.live) (hS : St E w I (Bx b (cs_chain_Chain h v) 27 :: v.live.C :: Os)) (G : chain_Chain_trim h = some r) :
    Calls P 15 #[Pt b 0] w (fun e w' => ∃ C', e = .returned (.tuple #[]) ∧ St E w' I (Bx b (cs_chain_Chain h v) 27 :: C' :: Os) ∧ PMap (Value.int .i64) R_chain_kept 51 I C' v.live.m r.live) := by
  refine calls_W (args := [Pt b 0]) (fn := Try.f15) rfl rfl rfl ?_
  unfold chain_Chain_trim at G
  split at G
  rotate_left
  · cases G
  rename_i hnd
  obtain rfl := Option.some.inj G
  refine y8 [0] (WO.n1 hS [Pt b 0] 22 z fun bb w1 S1 => yc (yb (W.rg nL6 (yaa (S1.rf m0) z (y7 1 2 [0] z (yaa (S1.rf m1) z (ya [(4, 6, (.func (.func 23) #[] #[Pt bb 0]))] kr (fun _ => by kernel_rfl) ?_)))))))
  obtain ⟨Cm, Co, H, S2, h3, hl⟩ := h0.open_ S1.front2
  have hnk : (H.map (·.1)).Nodup := by
    have := hnd
    rw [hl, List.map_map] at this
    exact this
  have hkeys : ∀ p : Int × chain_kept, p ∈ h.live → mget iEq h.live p.1 = some p.2 := fun p hp => mget_of_mem ieqP hnd hp
  refine yj z kr z (f := 22) (args := #[.map (some v.live.m), .func (.func 23) #[] #[Pt bb 0]]) kr
    (delf_ok (q := fun p => (p.1 != h.now) && (((mget iEq h.live p.1).map (·.pins)).getD 1 == 0)) (ks := [Pt bb 0]) h3.map (by rw [List.map_map]; exact hnk) S2 (fun _ _ => by kernel_rfl) (fun {w D C'} p hp hSc => ?_)) ?_
  · obtain ⟨⟨k, kb, x⟩, hq, rfl⟩ := List.mem_map.1 hp
    obtain ⟨cs, hc1, wx, rfl, hok⟩ := h3.objs.cell (kb, x) (List.mem_map.2 ⟨_, hq, rfl⟩)
    have hx : mget iEq h.live k = some x := hkeys (k, x) (by rw [hl]; exact List.mem_map.2 ⟨_, hq, rfl⟩)
    simp only [hx, Option.map_some, Option.getD_some]
    exact trim1_ok (C := Co) (m1 := .map (some v.live.m)) (m2 := .map (some v.pins.m)) (m3 := .map (some v.news.m)) m3 m4 m2 ⟨_, _, _, hc1, fun j u hj => by rw [Nat.zero_add]; simpa using hj⟩ hSc
  rintro _ w4 ⟨Cm', rfl, S4, hm4⟩
  refine ⟨_, rfl, trivial, yc (En.toRet (En.ret0 z ⟨Cm'.with Co, rfl, (S4.merge.back2).drop, Cm', Co, H.filter fun p => !((p.1 != h.now) && (p.2.2.pins == 0)), rfl, (List.pairwise_cons.1 S4.dj).1 Co m0, ⟨?_, h3.objs.sub (List.filter_sublist.map _)⟩, ?_⟩))⟩
  · have e : (H.filter fun p => !((p.1 != h.now) && (p.2.2.pins == 0))).map (fun p => (p.1, some p.2.1)) = (H.map fun p => (p.1, some p.2.1)).filter fun p => !((p.1 != h.now) && (((mget iEq h.live p.1).map (·.pins)).getD 1 == 0)) := by
      rw [List.filter_map]
      congr 1
      refine List.filter_congr fun p hp => ?_
      have hx : mget iEq h.live p.1 = some p.2.2 := hkeys (p.1, p.2.2) (by rw [hl]; exact List.mem_map.2 ⟨_, hp, rfl⟩)
      simp only [Function.comp, hx, Option.map_some, Option.getD_some]
    rw [e]
    exact hm4
  · simp only [hl, List.filter_map]
    rfl
theorem trim_eq {h r : chain_Chain} (ht : chain_Chain_trim h = some r) : r = { h with live := r.live } := by
  unfold chain_Chain_trim at ht
  split at ht
  · obtain rfl := Option.some.inj ht
    rfl
  · cases ht
def chain_Chain_Unpin (h : chain_Chain) (who : Int) : Option (Int × chain_Chain) :=
  (chain_Chain_check h who).bind fun e => bif e != 0 then some (e, h) else bif !mhas iEq h.pins who then some (4, h) else
    (mget iEq h.live ((mget iEq h.pins who).getD 0)).bind fun k => (chain_Chain_trim { h with pins := mdel iEq h.pins who, live := mset iEq h.live ((mget iEq h.pins who).getD 0) { k with pins := w64 (k.pins - 1) } }).bind fun h' => some (0, h')
theorem chain_Chain_Unpin_ok {p0 : chain_Chain} {p1 : Int} {b_p0 : Nat} {w_p0 : W_chain_Chain} (h_p0 : ok_chain_Chain I p0 w_p0) (hS : St E w I (Bx b_p0 (cs_chain_Chain p0 w_p0) 27 :: w_p0.live.C :: w_p0.pins.C :: w_p0.news.C :: Os)) {r : Int × chain_Chain} (G : chain_Chain_Unpin p0 p1 = some r) :
    Calls P 6 #[Pt b_p0 0, Iv p1] w (fun e w' => ∃ (I' : Mem) (w_rp0 : W_chain_Chain), e = .returned (Iv r.1) ∧ I.Le I' ∧ St E w' I' (Bx b_p0 (cs_chain_Chain r.2 w_rp0) 27 :: w_rp0.live.C :: w_rp0.pins.C :: w_rp0.news.C :: Os) ∧ ok_chain_Chain I' r.2 w_rp0) := by
  refine calls_W (args := [Pt b_p0 0, Iv p1]) (fn := Try.f6) rfl rfl rfl ?_
  unfold chain_Chain_Unpin at G
  obtain ⟨e, he, G⟩ := bind_some G
  obtain ⟨v1, hv1, hq1⟩ := h_p0.pins.lookup (P := P) (t := 24) (kt := 3) (et := 3) kr (keyLaw_int (kt := 3) kr) p1 (zv := Iv 0) (z0 := (0 : Int)) kr rfl
  obtain rfl : v1 = Iv ((mget iEq p0.pins p1).getD 0) := (List.cons.inj (show [v1] = [Iv _] from hv1)).1
  refine y8 [0] (yv 0 1 z (yy (W.seq (y8 nL4 (yv 0 2 z (WO.c1 (chain_Chain_check_ok h_p0 hS he) z fun I2 w2 L2 S2 => yv 3 1 z (yy (y8 nL2 (yv 0 2 z (yy (W.cb G (fun K G => ?_) (fun K G => ?_))))))))))))
  · exact y8 nL2 (yv 0 2 rfl (yy (ym (yg (sj G ▸ yap ⟨I2, w_p0, rfl, L2, S2, h_p0.mono L2⟩)))))
  refine W.skip (yb (y8 nL11 (y7 0 3 [2] z (yaa (S2.rf m0) z (yv 4 1 z ?_)))))
  refine WO.lookup z kr z z hq1 (rd_f (S2.rd m2)) (.tuple #[Iv ((mget iEq p0.pins p1).getD 0), .bool (mhas iEq p0.pins p1)]) z ?_
  refine yv 6 5 z (yy (W.seq (y8 nL2 (yv 0 2 z (yy (W.cb G (fun K G => ?_) (fun K G => ?_)))))))
  · exact y8 [0] (yv 0 1 rfl (yy (ym (yg (sj G ▸ yap ⟨I2, w_p0, rfl, L2, S2, h_p0.mono L2⟩)))))
  obtain ⟨k, hk, G⟩ := bind_some G
  obtain ⟨h', ht, G⟩ := bind_some G
  refine W.skip (yb (y8 nL6 (y7 0 3 [2] z (yaa (S2.rf m0) z (yv 4 1 z ?_)))))
  refine WO.delete (OwnMap.mono h_p0.pins L2) S2.front2 (t := 24) (kt := 3) (et := 3) kr (keyLaw_int (kt := 3) kr) z kr z z p1 z tv ?_
  intro w4 C4 S4 hm4
  obtain ⟨Cm, lm, b, cs, hcm, hm, hg, hh, hC, K, ⟨wk, rfl, hok⟩, hput⟩ := (h_p0.live.mono L2).look ieqP hk
  obtain ⟨v, hv, hq⟩ := hm.lookup (P := P) (t := 23) (kt := 3) (et := 52) kr (keyLaw_int (kt := 3) kr) ((mget iEq p0.pins p1).getD 0) (zv := .pointer none) (z0 := (none : Option Nat)) kr rfl
  rw [hg] at hv
  obtain rfl : v = Pt b 0 := hv
  refine yy (y8 nL13 (y7 0 3 [0] z (yaa (S4.rf m1) z (yv 4 1 z ?_))))
  refine WO.lookup z kr z z hq (fun w' hw => hcm w' (rd_f (S4.rd m2) w' hw)) (Pt b 0) z ?_
  refine y7 6 2 [4] z (WO.lw K 4 (S4.rf m2) z (y7 9 3 [4] z ?_))
  refine yar S4.front2 z kr z (v := Iv (w64 (k.pins - 1))) z z kr (by intro u hu; simp [Value.cells] at hu; subst hu; rfl) hC (by show 4 + 1 ≤ 5; omega) tv ?_
  intro w6 S6
  have S7 : St E w6 I2 (w_p0.live.C.set b (.cells (cs_chain_kept { k with pins := w64 (k.pins - 1) } wk).toArray 51 (0, 0)) :: C4 :: Bx b_p0 (cs_chain_Chain p0 w_p0) 27 :: w_p0.news.C :: Os) := S6
  refine yy (y8 nL2 (yv 0 1 z (WO.ca (chain_Chain_trim_ok (h := { p0 with pins := mdel iEq p0.pins p1, live := mset iEq p0.live ((mget iEq p0.pins p1).getD 0) { k with pins := w64 (k.pins - 1) } }) (v := ⟨⟨w_p0.live.m, w_p0.live.C.set b (.cells (cs_chain_kept { k with pins := w64 (k.pins - 1) } wk).toArray 51 (0, 0))⟩, ⟨w_p0.pins.m, C4⟩, w_p0.news⟩) (hput I2 _ _ (Mem.Le.refl _) ⟨wk, rfl, ⟨hok.c⟩⟩) S7.front2 ht) ?_)))
  rintro _ w8 ⟨C8, rfl, S8, hP8⟩
  have e8 := trim_eq ht
  obtain rfl := Option.some.inj G
  refine cv (yy (y8 [0] (yv 0 1 z (yy (ym (yap ⟨I2, ⟨⟨w_p0.live.m, C8⟩, ⟨w_p0.pins.m, C4⟩, w_p0.news⟩, rfl, L2, ?_, ?_⟩))))))
  · rw [e8]; exact S8
  · rw [e8]; exact ⟨hP8, hm4, SMap.mono h_p0.news L2⟩
def chain_Chain_Now (h : chain_Chain) : Option qC := (mget iEq h.live h.now).map (·.c)
theorem chain_Chain_Now_ok {p0 : chain_Chain} {b_p0 : Nat} {w_p0 : W_chain_Chain} (h_p0 : ok_chain_Chain I p0 w_p0) (hS : St E w I (Bx b_p0 (cs_chain_Chain p0 w_p0) 27 :: w_p0.live.C :: w_p0.pins.C :: w_p0.news.C :: Os)) {r : qC} (G : chain_Chain_Now p0 = some r) :
    Calls P 11 #[Pt b_p0 0] w (fun e w' => ∃ (I' : Mem) (w_rw0 : W_qC), e = .returned (vC r w_rw0) ∧ I.Le I' ∧ St E w' I' (Bx b_p0 (cs_chain_Chain p0 w_p0) 27 :: w_p0.live.C :: w_p0.pins.C :: w_p0.news.C :: Os) ∧ ok_qC I' r w_rw0) := by
  refine calls_W (args := [Pt b_p0 0]) (fn := Try.f11) rfl rfl rfl ?_
  unfold chain_Chain_Now at G
  obtain ⟨k, hk, rfl⟩ := Option.map_eq_some_iff.1 G
  refine y8 [0] (WO.n1 hS (cs_qC z_qC zw_qC) 36 z fun b1 w1 S1 => yy (W.seq (y8 nL2 (yv 0 1 z (WO.c1 (chain_Chain_dead_ok h_p0 S1.front4.front4.front4.front4 z) z fun I2 w2 L2 S2 => yy (W.cf fun _ => W.skip (yb (W.seq (have S3 := S2.drew; W.dr nL13 12 (yk (S3.rd m0) (yk (S3.rd m1) (yz S3.im))) ?_)))))))))
  generalize World.drew _ = w3 at *
  obtain ⟨Cm, lm, b, cs, hcm, hm, hg, hh, hC, K, ⟨wk, rfl, hok⟩, _⟩ := (h_p0.live.mono L2).look ieqP hk
  obtain ⟨v, hv, hq⟩ := hm.lookup (P := P) (t := 23) (kt := 3) (et := 52) kr (keyLaw_int (kt := 3) kr) p0.now (zv := .pointer none) (z0 := (none : Option Nat)) kr rfl
  rw [hg] at hv
  obtain rfl : v = Pt b 0 := hv
  refine y7 0 3 [0] z (yaa (rd_c m0 (S3.rd m0)) z (y7 4 3 [1] z (yaa (rd_c m0 (S3.rd m0)) z ?_)))
  refine WO.lookup z kr z z hq (fun w' hw => hcm w' (rd_c m1 (S3.rd m1) w' hw)) (Pt b 0) z ?_
  refine y7 9 2 [0] z (WO.m2 (cs_qC k.c wk.c) K 0 (rd_c m1 (S3.rd m1)) z (WO.tail z ?_))
  exact WO.s1 S3.front4 0 (cs_qC k.c wk.c) fun w7 S7 => yy (ym (En.c1 _ (S7.rd m0) ⟨I2, wk.c, rfl, L2, S7.drop, hok.c⟩))
def slices_IndexFunc_qT (p0 : List qT) (p1 : qT → Option Bool) : Option Int := (forN (fun (i4 : Nat) (_s : Unit) => (idx p0 (i4 : Int)).bind (fun (x11 : qT) => (p1 x11).bind (fun (r17 : Bool) => (bif r17 then some (.inr (i4 : Int)) else some (.inl ()))))) p0.length 0 ()).bind (fun (t : Unit ⊕ (Int)) => match t with | .inl _ => some (-1) | .inr s19 => some s19)
theorem slices_IndexFunc_qT_ok {p0 : List qT} {p1 : qT → Option Bool} {a_p0 : Option Addr} {c_p0 : Nat} {g_p1 : FuncId} {k_p1 : List Value} (h_p0 : RSl 6 R_qT I a_p0 c_p0 p0) (h_p1 : ∀ {F : List Mem} {I' : Mem} {w : World} {u0 : qT} {w_u0 : W_qT}, I.Le I' → St E w I' (F ++ Os) → ok_qT I' u0 w_u0 → ∀ {r : Bool}, p1 u0 = some r → Calls P g_p1 (([(vT u0 w_u0)] : List Value) ++ k_p1).toArray w (fun e w' => ∃ (I'' : Mem), e = .returned (.bool r) ∧ I'.Le I'' ∧ St E w' I'' (F ++ Os))) (hcall_p1 : Callable P g_p1) (hS : St E w I Os) {r : Int} (G : slices_IndexFunc_qT p0 p1 = some r) :
    Calls P 44 #[(.slice a_p0 p0.length c_p0), (.func (.func g_p1) #[] k_p1.toArray)] w (fun e w' => ∃ (I' : Mem), e = .returned (.int .i64 r) ∧ I.Le I' ∧ St E w' I' Os) := by
  refine calls_W (args := [(.slice a_p0 p0.length c_p0), (.func (.func g_p1) #[] k_p1.toArray)]) (fn := Try.f44) rfl rfl rfl ?_
  unfold slices_IndexFunc_qT at G
  refine W.seq ?_
  refine W.region (l := [0]) kr ?_
  refine ya [(0, 4, (.int .i64 0))] kr (fun _ => by kernel_rfl) ?_
  refine yc ?_
  refine yb ?_
  refine W.seq ?_
  refine W.seq ?_
  refine W.region (l := [0, 1, 2]) kr ?_
  refine ya [(0, 6, (.slice a_p0 p0.length c_p0)), (1, 7, (.int .i64 (p0.length : Int))), (2, 8, (.int .i64 0))] kr (fun _ => by kernel_rfl) ?_
  refine yc ?_
  refine yb ?_
  refine yq ?_
  obtain ⟨t1, hloop5, G⟩ := bind_some G
  have hlt9 := (h_p0).len_lt
  refine W.weaken (fr' := [(0, (.slice a_p0 p0.length c_p0)), (1, (.func (.func g_p1) #[] k_p1.toArray)), (7, (.int .i64 (p0.length : Int))), (8, (.int .i64 ((0 : Nat) : Int)))]) (yag (m := p0.length) hloop5 (fun (i4 : Nat) (_s : Unit) fr w => ∃ (I2 : Mem), fr = [(0, (.slice a_p0 p0.length c_p0)), (1, (.func (.func g_p1) #[] k_p1.toArray)), (7, (.int .i64 (p0.length : Int))), (8, (.int .i64 (i4 : Int)))] ∧ I.Le I2 ∧ St E w I2 Os) ⟨I, rfl, Mem.Le.refl _, hS⟩ ?roundt1 ?lastt1) (Sub.cons z (Sub.cons z (Sub.cons z (Sub.cons z Sub.nil))))
  case roundt1 =>
    rintro i4 _ _ w6 hi10 ⟨I2, rfl, L3, S7⟩ x8 R1 hext1
    refine W.seq ?_
    refine W.region (l := [0]) kr ?_
    refine ya [(0, 9, (.bool (decide ((i4 : Int) < (p0.length : Int)))))] kr (fun _ => by kernel_rfl) ?_
    refine yc ?_
    refine yb ?_
    refine W.seq ?_
    refine W.cond (b := (decide ((i4 : Int) < (p0.length : Int)))) z z (fun K => ?_) (fun K => ?_)
    rotate_left
    · exact absurd K (by first | (simp; done) | (simp; omega))
    clear K
    refine W.skip ?_
    refine yb ?_
    refine W.seq ?_
    refine yq ?_
    refine W.seq ?_
    refine W.region (l := [0, 1]) kr ?_
    refine ya [(0, 10, (.int .i64 (i4 : Int))), (1, 5, (.int .i64 (i4 : Int)))] kr (fun _ => by kernel_rfl) ?_
    refine yc ?_
    refine yb ?_
    refine W.seq ?_
    refine W.region (l := [0, 1, 2, 3, 4, 5]) kr ?_
    refine ya [(0, 11, (.func (.func g_p1) #[] k_p1.toArray)), (1, 12, (.slice a_p0 p0.length c_p0)), (2, 13, (.int .i64 (i4 : Int)))] kr (fun _ => by kernel_rfl) ?_
    obtain ⟨x11, Xx11, R1⟩ := bind_some R1
    obtain ⟨h0_x11, h1_x11, Xx11⟩ := idx_some Xx11
    obtain ⟨ha_x11, cs_x11, hn_x11, hr_x11, Zx11⟩ := ((RSl.mono h_p0 L3)).el _ _ Xx11
    obtain ⟨w_x11, rfl, h_x11⟩ := hr_x11
    refine yh (e := 64) (sz := 6) z kr kr kr z ha_x11 z h0_x11 h1_x11 ?_
    refine yp z kr kr z ((cs_qT x11 w_x11)) kr (fun w' hw' => Zx11.cells (k := 0) kr z ((rd_f S7.im) w' hw')) ?_
    obtain ⟨r17, Xr12, R1⟩ := bind_some R1
    refine WO.callv z kr z (g := g_p1) (kk := k_p1) (args := [(vT x11 w_x11)]) z kr hcall_p1 (h_p1 (F := []) L3 S7 h_x11 Xr12) ?_
    rintro _ w13 ⟨I14, rfl, L15, S16⟩
    refine ⟨_, rfl, trivial, ?_⟩
    refine yc ?_
    refine yb ?_
    refine W.cond (b := r17) z z (fun K => ?_) (fun K => ?_)
    · replace R1 := cond_t K R1
      refine W.seq ?_
      refine W.region (l := [0, 1]) kr ?_
      refine ya [(0, 17, (.int .i64 (i4 : Int))), (1, 4, (.int .i64 (i4 : Int)))] kr (fun _ => by kernel_rfl) ?_
      refine yc ?_
      refine yb ?_
      refine ym ?_
      refine yn ?_
      refine yg ?_
      refine y6 ?_
      have ht := hext1 _ (Option.some.inj R1).symm
      subst t1
      refine yn ?_
      refine yg ?_
      have he := Option.some.inj G
      subst r
      exact yl z (.int .i64 (i4 : Int)) z ⟨I14, rfl, (L3.trans L15), S16⟩
    · replace R1 := cond_f K R1
      refine W.skip ?_
      refine yo ?_
      refine yb ?_
      refine W.region (l := [0, 1]) kr ?_
      refine y9 (j := i4) z kr z (by first | omega | (dsimp only at *; omega) | (simp only [List.length_cons, List.length_nil] at *; omega)) ?_
      refine ya [(1, 8, (.int .i64 ((i4 + 1 : Nat) : Int)))] kr (fun _ => by kernel_rfl) ?_
      refine yc ?_
      refine En.weaken (fr' := [(0, (.slice a_p0 p0.length c_p0)), (1, (.func (.func g_p1) #[] k_p1.toArray)), (7, (.int .i64 (p0.length : Int))), (8, (.int .i64 ((i4 + 1 : Nat) : Int)))]) (En.round ⟨(), (Option.some.inj R1).symm, I14, rfl, (L3.trans L15), S16⟩) (Sub.cons z (Sub.cons z (Sub.cons z (Sub.cons z Sub.nil))))
  case lastt1 =>
    rintro _ _ w20 ⟨I2, rfl, L3, S21⟩ he
    cases he
    refine W.seq ?_
    refine W.region (l := [0]) kr ?_
    refine ya [(0, 9, (.bool (decide ((p0.length : Int) < (p0.length : Int)))))] kr (fun _ => by kernel_rfl) ?_
    refine yc ?_
    refine yb ?_
    refine W.seq ?_
    refine W.cond (b := (decide ((p0.length : Int) < (p0.length : Int)))) z z (fun K => ?_) (fun K => ?_)
    · exact absurd K (by first | (simp; done) | (simp; omega))
    clear K
    refine W.exit ?_
    refine yw ?_
    refine yx ?_
    refine y0 ?_
    refine yb ?_
    refine W.seq ?_
    refine W.region (l := [0]) kr ?_
    refine ya [(0, 4, (.int .i64 (-1)))] kr (fun _ => by kernel_rfl) ?_
    refine yc ?_
    refine yb ?_
    refine ym ?_
    have he := Option.some.inj G
    subst r
    exact yl z (.int .i64 (-1)) z ⟨I2, rfl, L3, S21⟩
def slices_Clone_qL (p0 : List qL) : Option (List qL) := (app 32 ([] : List qL) p0).bind (fun (x10 : List qL) => some x10)
theorem slices_Clone_qL_ok {p0 : List qL} {a_p0 : Option Addr} {c_p0 : Nat} (h_p0 : RSl 3 R_qL I a_p0 c_p0 p0) (hS : St E w I Os) {r : (List qL)} (G : slices_Clone_qL p0 = some r) :
    Calls P 68 #[(.slice a_p0 p0.length c_p0)] w (fun e w' => ∃ (I' : Mem) (ra0 : Option Addr) (rc0 : Nat) (rC0 : Mem), e = .returned (.slice ra0 r.length rc0) ∧ I.Le I' ∧ St E w' I' (rC0 :: Os) ∧ OwnSl 78 3 R_qL I' rC0 ra0 rc0 r) := by
  refine calls_W (args := [(.slice a_p0 p0.length c_p0)]) (fn := Try.f68) rfl rfl rfl ?_
  unfold slices_Clone_qL at G
  refine W.seq ?_
  refine W.region (l := [0]) kr ?_
  refine ya [(0, 2, (.slice none 0 0))] kr (fun _ => by kernel_rfl) ?_
  refine yc ?_
  refine yb ?_
  refine W.seq ?_
  refine W.seq ?_
  refine W.region (l := [0, 1]) kr ?_
  refine ya [(0, 3, (.slice a_p0 p0.length c_p0))] kr (fun _ => by kernel_rfl) ?_
  refine yas (e := 78) z kr kr z z ?_
  refine yc ?_
  refine yb ?_
  refine W.cond (b := (a_p0.isNone)) z z (fun K => ?_) (fun K => ?_)
  · have ha0 := Option.isNone_iff_eq_none.1 K
    subst ha0
    have hx0 := (h_p0).none_nil
    subst hx0
    replace G : some ([] : List qL) = some r := by simpa [app] using G
    refine W.seq ?_
    refine W.region (l := [0]) kr ?_
    refine ya [(0, 2, (.slice none 0 0))] kr (fun _ => by kernel_rfl) ?_
    refine yc ?_
    refine yb ?_
    refine ym ?_
    refine yg ?_
    have S2 := hS.no
    have he := Option.some.inj G
    subst r
    exact yl z (.slice none ([] : List qL).length 0) z ⟨I, none, 0, Mem.no, rfl, Mem.Le.refl _, S2, OwnSl.nil⟩
  · clear K
    refine W.skip ?_
    refine yb ?_
    refine W.seq ?_
    refine W.region (l := [0, 1, 2, 3]) kr ?_
    refine yac (rel := R_qL) (xs := ([] : List qL)) hS z kr z 78 3 [] kr z (Elr.nil) tv ?_
    intro a6 C4 w8 S7 ho5
    refine ya [(1, 6, (.slice a_p0 p0.length c_p0))] kr (fun _ => by kernel_rfl) ?_
    obtain ⟨x10, Xx10, G⟩ := bind_some G
    obtain ⟨h0_x10, he_x10⟩ := app_some Xx10
    refine yad (e' := 78) (b := 32) (zs := (cs_qL z_qL).toArray) S7 ho5 z kr z kr kr kr z z z z h_p0 S7.im h0_x10 he_x10 tv ?_
    intro a11 c12 w13 C14 S15 ho16
    refine ya [(3, 2, (.slice a11 x10.length c12))] kr (fun _ => by kernel_rfl) ?_
    refine yc ?_
    refine yb ?_
    refine ym ?_
    have he := Option.some.inj G
    subst r
    exact yl z (.slice a11 x10.length c12) z ⟨I, a11, c12, C14, rfl, Mem.Le.refl _, S15, ho16⟩
def slices_Clone_qK (p0 : List qK) : Option (List qK) := (app 176 ([] : List qK) p0).bind (fun (x10 : List qK) => some x10)
theorem slices_Clone_qK_ok {p0 : List qK} {a_p0 : Option Addr} {c_p0 : Nat} (h_p0 : RSl 12 R_qK I a_p0 c_p0 p0) (hS : St E w I Os) {r : (List qK)} (G : slices_Clone_qK p0 = some r) :
    Calls P 69 #[(.slice a_p0 p0.length c_p0)] w (fun e w' => ∃ (I' : Mem) (ra0 : Option Addr) (rc0 : Nat) (rC0 : Mem), e = .returned (.slice ra0 r.length rc0) ∧ I.Le I' ∧ St E w' I' (rC0 :: Os) ∧ OwnSl 86 12 R_qK I' rC0 ra0 rc0 r) := by
  refine calls_W (args := [(.slice a_p0 p0.length c_p0)]) (fn := Try.f69) rfl rfl rfl ?_
  unfold slices_Clone_qK at G
  refine W.seq ?_
  refine W.region (l := [0]) kr ?_
  refine ya [(0, 2, (.slice none 0 0))] kr (fun _ => by kernel_rfl) ?_
  refine yc ?_
  refine yb ?_
  refine W.seq ?_
  refine W.seq ?_
  refine W.region (l := [0, 1]) kr ?_
  refine ya [(0, 3, (.slice a_p0 p0.length c_p0))] kr (fun _ => by kernel_rfl) ?_
  refine yas (e := 86) z kr kr z z ?_
  refine yc ?_
  refine yb ?_
  refine W.cond (b := (a_p0.isNone)) z z (fun K => ?_) (fun K => ?_)
  · have ha0 := Option.isNone_iff_eq_none.1 K
    subst ha0
    have hx0 := (h_p0).none_nil
    subst hx0
    replace G : some ([] : List qK) = some r := by simpa [app] using G
    refine W.seq ?_
    refine W.region (l := [0]) kr ?_
    refine ya [(0, 2, (.slice none 0 0))] kr (fun _ => by kernel_rfl) ?_
    refine yc ?_
    refine yb ?_
    refine ym ?_
    refine yg ?_
    have S2 := hS.no
    have he := Option.some.inj G
    subst r
    exact yl z (.slice none ([] : List qK).length 0) z ⟨I, none, 0, Mem.no, rfl, Mem.Le.refl _, S2, OwnSl.nil⟩
  · clear K
    refine W.skip ?_
    refine yb ?_
    refine W.seq ?_
    refine W.region (l := [0, 1, 2, 3]) kr ?_
    refine yac (rel := R_qK) (xs := ([] : List qK)) hS z kr z 86 12 [] kr z (Elr.nil) tv ?_
    intro a6 C4 w8 S7 ho5
    refine ya [(1, 6, (.slice a_p0 p0.length c_p0))] kr (fun _ => by kernel_rfl) ?_
    obtain ⟨x10, Xx10, G⟩ := bind_some G
    obtain ⟨h0_x10, he_x10⟩ := app_some Xx10
    refine yad (e' := 86) (b := 176) (zs := (cs_qK z_qK zw_qK).toArray) S7 ho5 z kr z kr kr kr z z z z h_p0 S7.im h0_x10 he_x10 tv ?_
    intro a11 c12 w13 C14 S15 ho16
    refine ya [(3, 2, (.slice a11 x10.length c12))] kr (fun _ => by kernel_rfl) ?_
    refine yc ?_
    refine yb ?_
    refine ym ?_
    have he := Option.some.inj G
    subst r
    exact yl z (.slice a11 x10.length c12) z ⟨I, a11, c12, C14, rfl, Mem.Le.refl _, S15, ho16⟩
def slices_Clone_string (p0 : List By8) : Option (List By8) := (app 16 ([] : List By8) p0).bind (fun (x10 : List By8) => some x10)
theorem slices_Clone_string_ok {p0 : List By8} {a_p0 : Option Addr} {c_p0 : Nat} (h_p0 : RSl 1 RStr I a_p0 c_p0 p0) (hS : St E w I Os) {r : (List By8)} (G : slices_Clone_string p0 = some r) :
    Calls P 27 #[(.slice a_p0 p0.length c_p0)] w (fun e w' => ∃ (I' : Mem) (ra0 : Option Addr) (rc0 : Nat) (rC0 : Mem), e = .returned (.slice ra0 r.length rc0) ∧ I.Le I' ∧ St E w' I' (rC0 :: Os) ∧ OwnSl 9 1 RStr I' rC0 ra0 rc0 r) := by
  refine calls_W (args := [(.slice a_p0 p0.length c_p0)]) (fn := Try.f27) rfl rfl rfl ?_
  unfold slices_Clone_string at G
  refine W.seq ?_
  refine W.region (l := [0]) kr ?_
  refine ya [(0, 2, (.slice none 0 0))] kr (fun _ => by kernel_rfl) ?_
  refine yc ?_
  refine yb ?_
  refine W.seq ?_
  refine W.seq ?_
  refine W.region (l := [0, 1]) kr ?_
  refine ya [(0, 3, (.slice a_p0 p0.length c_p0))] kr (fun _ => by kernel_rfl) ?_
  refine yas (e := 9) z kr kr z z ?_
  refine yc ?_
  refine yb ?_
  refine W.cond (b := (a_p0.isNone)) z z (fun K => ?_) (fun K => ?_)
  · have ha0 := Option.isNone_iff_eq_none.1 K
    subst ha0
    have hx0 := (h_p0).none_nil
    subst hx0
    replace G : some ([] : List By8) = some r := by simpa [app] using G
    refine W.seq ?_
    refine W.region (l := [0]) kr ?_
    refine ya [(0, 2, (.slice none 0 0))] kr (fun _ => by kernel_rfl) ?_
    refine yc ?_
    refine yb ?_
    refine ym ?_
    refine yg ?_
    have S2 := hS.no
    have he := Option.some.inj G
    subst r
    exact yl z (.slice none ([] : List By8).length 0) z ⟨I, none, 0, Mem.no, rfl, Mem.Le.refl _, S2, OwnSl.nil⟩
  · clear K
    refine W.skip ?_
    refine yb ?_
    refine W.seq ?_
    refine W.region (l := [0, 1, 2, 3]) kr ?_
    refine yac (rel := RStr) (xs := ([] : List By8)) hS z kr z 9 1 [] kr z (Elr.nil) tv ?_
    intro a6 C4 w8 S7 ho5
    refine ya [(1, 6, (.slice a_p0 p0.length c_p0))] kr (fun _ => by kernel_rfl) ?_
    obtain ⟨x10, Xx10, G⟩ := bind_some G
    obtain ⟨h0_x10, he_x10⟩ := app_some Xx10
    refine yad (e' := 9) (b := 16) (zs := #[(.string eB)]) S7 ho5 z kr z kr kr kr z z z z h_p0 S7.im h0_x10 he_x10 tv ?_
    intro a11 c12 w13 C14 S15 ho16
    refine ya [(3, 2, (.slice a11 x10.length c12))] kr (fun _ => by kernel_rfl) ?_
    refine yc ?_
    refine yb ?_
    refine ym ?_
    have he := Option.some.inj G
    subst r
    exact yl z (.slice a11 x10.length c12) z ⟨I, a11, c12, C14, rfl, Mem.Le.refl _, S15, ho16⟩
def expr_Clone_fu : Nat → qE → Option qE
  | 0, _ => none
  | fu + 1, p0 => (forE (fun (i13 : Nat) (s12 : List qE) => (idx p0.Kids (i13 : Int)).bind (fun (x24 : qE) => (expr_Clone_fu fu x24).bind (fun (r36 : qE) => (app 88 s12 ([r36] : List qE)).bind (fun (x45 : List qE) => some x45)))) p0.Kids.length 0 ([] : List qE)).bind (fun (s12 : (List qE)) => some { p0 with Kids := s12 })
noncomputable def expr_Clone (p0 : qE) : Option qE := anyFuel (fun fu => expr_Clone_fu fu p0)
theorem expr_Clone_fu_ok : ∀ (fu : Nat) {E w : World} {I : Mem} {Os : List Mem} {p0 : qE} {w_p0 : W_qE} (h_p0 : ok_qE I p0 w_p0) (hS : St E w I Os) {r : qE} (G : expr_Clone_fu fu p0 = some r),
    Calls P 70 #[(vE p0 w_p0)] w (fun e w' => ∃ (I' : Mem) (w_rw0 : W_qE), e = .returned (vE r w_rw0) ∧ I.Le I' ∧ St E w' I' Os ∧ ok_qE I' r w_rw0) := by
  intro fu
  induction fu with
  | zero => intro E w I Os p0 w_p0 h_p0 hS r G; cases G
  | succ fu ih =>
  intro E w I Os p0 w_p0 h_p0 hS r G
  refine calls_W (args := [(vE p0 w_p0)]) (fn := Try.f70) rfl rfl rfl ?_
  unfold expr_Clone_fu at G
  refine W.seq ?_
  refine W.region (l := [0, 1]) kr ?_
  refine yu hS z kr z (.cells (cs_qE p0 w_p0).toArray 84 (0, 0)) (fun b => .pointer (some ⟨b, 0, none⟩)) kr tv ?_
  intro b1 w4 S3
  refine yu S3 z kr z (.cells (cs_qE z_qE zw_qE).toArray 84 (0, 0)) (fun b => .pointer (some ⟨b, 0, none⟩)) kr tv ?_
  intro b5 w8 S7
  refine yc ?_
  refine yb ?_
  refine W.seq ?_
  refine W.region (l := [0]) kr ?_
  refine ya [(0, 3, (.slice none 0 0))] kr (fun _ => by kernel_rfl) ?_
  refine yc ?_
  refine yb ?_
  refine W.seq ?_
  refine W.seq ?_
  refine W.region (l := [0, 1, 2, 3]) kr ?_
  refine ya [(0, 6, (.pointer (some ⟨b1, 6, none⟩)))] kr (fun _ => by kernel_rfl) ?_
  refine yf z kr kr z (v := (.slice w_p0.Kids.a p0.Kids.length w_p0.Kids.c)) (fun w' hw' => cell_one ((rd_f (S7.rd (List.Mem.tail _ (List.Mem.head _)))) w' hw') kr) ?_
  refine ya [(2, 8, (.int .i64 (p0.Kids.length : Int))), (3, 9, (.int .i64 0))] kr (fun _ => by kernel_rfl) ?_
  refine yc ?_
  refine yb ?_
  refine yq ?_
  obtain ⟨s12, hloop14, G⟩ := bind_some G
  have S16 := S7.no
  have S17 := S16.front1
  have S18 := S17.front2
  have hlt22 := (h_p0.Kids).len_lt
  refine W.weaken (fr' := [(1, (.pointer (some ⟨b1, 0, none⟩))), (2, (.pointer (some ⟨b5, 0, none⟩))), (3, (.slice none ([] : List qE).length 0)), (7, (.slice w_p0.Kids.a p0.Kids.length w_p0.Kids.c)), (8, (.int .i64 (p0.Kids.length : Int))), (9, (.int .i64 ((0 : Nat) : Int)))]) (W.forE (m := p0.Kids.length) hloop14 (fun (i13 : Nat) (s12 : List qE) fr w => ∃ (I10 : Mem), ∃ (a_s12 : Option Addr), ∃ (c_s12 : Nat), ∃ (C_s12 : Mem), fr = [(1, (.pointer (some ⟨b1, 0, none⟩))), (2, (.pointer (some ⟨b5, 0, none⟩))), (3, (.slice a_s12 s12.length c_s12)), (7, (.slice w_p0.Kids.a p0.Kids.length w_p0.Kids.c)), (8, (.int .i64 (p0.Kids.length : Int))), (9, (.int .i64 (i13 : Int)))] ∧ I.Le I10 ∧ St E w I10 ((Gv.one b1 (.cells (cs_qE p0 w_p0).toArray 84 (0, 0))) :: (Gv.one b5 (.cells (cs_qE z_qE zw_qE).toArray 84 (0, 0))) :: (C_s12) :: Os) ∧ OwnSl 84 7 Q_qE I10 C_s12 a_s12 c_s12 s12) ⟨I, none, 0, Mem.no, rfl, Mem.Le.refl _, S18, OwnSl.nil⟩ ?roundt9 ?lastt9) (Sub.cons z (Sub.cons z (Sub.cons z (Sub.cons z (Sub.cons z (Sub.cons z Sub.nil))))))
  case roundt9 =>
    rintro i13 s12 _ w19 hi23 ⟨I10, a_s12, c_s12, C_s12, rfl, L11, S20, h_s12⟩ x21 R1
    refine W.seq ?_
    refine W.region (l := [0]) kr ?_
    refine ya [(0, 10, (.bool (decide ((i13 : Int) < (p0.Kids.length : Int)))))] kr (fun _ => by kernel_rfl) ?_
    refine yc ?_
    refine yb ?_
    refine W.seq ?_
    refine W.cond (b := (decide ((i13 : Int) < (p0.Kids.length : Int)))) z z (fun K => ?_) (fun K => ?_)
    rotate_left
    · exact absurd K (by first | (simp; done) | (simp; omega))
    clear K
    refine W.skip ?_
    refine yb ?_
    refine W.seq ?_
    refine yq ?_
    refine W.seq ?_
    refine W.region (l := [0, 1, 2, 3]) kr ?_
    obtain ⟨x24, Xx24, R1⟩ := bind_some R1
    obtain ⟨h0_x24, h1_x24, Xx24⟩ := idx_some Xx24
    obtain ⟨ha_x24, cs_x24, hn_x24, hr_x24, Zx24⟩ := ((RSl.mono h_p0.Kids L11)).el _ _ Xx24
    obtain ⟨w_x24, rfl, h_x24⟩ := Q_qE_iff.1 hr_x24
    refine yh (e := 84) (sz := 7) z kr kr kr z ha_x24 z h0_x24 h1_x24 ?_
    refine yp z kr kr z ((cs_qE x24 w_x24)) kr (fun w' hw' => Zx24.cells (k := 0) kr z ((rd_f S20.im) w' hw')) ?_
    refine yu S20 z kr z (.cells (cs_qE z_qE zw_qE).toArray 84 (0, 0)) (fun b => .pointer (some ⟨b, 0, none⟩)) kr tv ?_
    intro b25 w28 S27
    refine yr S27 z kr z 0 z z kr kr kr ((cs_qE x24 w_x24).toArray) kr tv ?_
    intro w30 S29
    refine yc ?_
    refine yb ?_
    refine W.region (l := [0, 1, 2, 3, 4, 5]) kr ?_
    refine ya [(0, 13, (.slice a_s12 s12.length c_s12))] kr (fun _ => by kernel_rfl) ?_
    refine yp z kr kr z ((cs_qE x24 w_x24)) kr (fun w' hw' => cells_one ((rd_f (S29.rd (List.Mem.head _))) w' hw') kr) ?_
    obtain ⟨r36, Xr31, R1⟩ := bind_some R1
    refine yj z kr z (f := 70) (args := #[(vE x24 w_x24)]) kr (ih h_x24 S29 Xr31) ?_
    rintro _ w32 ⟨I33, w_r36, rfl, L34, S35, h_r36⟩
    refine ⟨_, rfl, trivial, ?_⟩
    refine yac (rel := Q_qE) (xs := ([r36] : List qE)) S35 z kr z 84 7 [(cs_qE r36 w_r36)] kr z ((Elr.cons (Q_qE_iff.2 ⟨w_r36, rfl, h_r36⟩) Elr.nil)) tv ?_
    intro a40 C38 w42 S41 ho39
    have S44 := S41.front4
    obtain ⟨x45, Xx45, R1⟩ := bind_some R1
    obtain ⟨h0_x45, he_x45⟩ := app_some Xx45
    refine yad (e' := 84) (b := 88) (zs := (cs_qE z_qE zw_qE).toArray) S44 (OwnSl.mono h_s12 L34) z kr z kr kr kr z z z z ho39.sl (S44.rd (List.Mem.tail _ (List.Mem.head _))) h0_x45 he_x45 tv ?_
    intro a46 c47 w48 C49 S50 ho51
    have S52 := S50.front1
    have S53 := S52.drop
    refine ya [(5, 3, (.slice a46 x45.length c47))] kr (fun _ => by kernel_rfl) ?_
    refine yc ?_
    refine yo ?_
    refine yb ?_
    refine W.region (l := [0, 1]) kr ?_
    refine y9 (j := i13) z kr z (by first | omega | (dsimp only at *; omega) | (simp only [List.length_cons, List.length_nil] at *; omega)) ?_
    refine ya [(1, 9, (.int .i64 ((i13 + 1 : Nat) : Int)))] kr (fun _ => by kernel_rfl) ?_
    refine yc ?_
    have S54 := S53.front1
    have S55 := S54.drop
    have S56 := S55.front2
    have S57 := S56.front2
    have he := Option.some.inj R1
    subst x21
    refine En.weaken (fr' := [(1, (.pointer (some ⟨b1, 0, none⟩))), (2, (.pointer (some ⟨b5, 0, none⟩))), (3, (.slice a46 x45.length c47)), (7, (.slice w_p0.Kids.a p0.Kids.length w_p0.Kids.c)), (8, (.int .i64 (p0.Kids.length : Int))), (9, (.int .i64 ((i13 + 1 : Nat) : Int)))]) (En.round ⟨I33, a46, c47, C49, rfl, (L11.trans L34), S57, ho51⟩) (Sub.cons z (Sub.cons z (Sub.cons z (Sub.cons z (Sub.cons z (Sub.cons z Sub.nil))))))
  case lastt9 =>
    rintro _ w58 ⟨I10, a_s12, c_s12, C_s12, rfl, L11, S59, h_s12⟩
    refine W.seq ?_
    refine W.region (l := [0]) kr ?_
    refine ya [(0, 10, (.bool (decide ((p0.Kids.length : Int) < (p0.Kids.length : Int)))))] kr (fun _ => by kernel_rfl) ?_
    refine yc ?_
    refine yb ?_
    refine W.seq ?_
    refine W.cond (b := (decide ((p0.Kids.length : Int) < (p0.Kids.length : Int)))) z z (fun K => ?_) (fun K => ?_)
    · exact absurd K (by first | (simp; done) | (simp; omega))
    clear K
    refine W.exit ?_
    refine yw ?_
    refine yx ?_
    refine y0 ?_
    refine yb ?_
    refine W.seq ?_
    refine W.region (l := [0, 1, 2]) kr ?_
    refine ya [(0, 19, (.slice a_s12 s12.length c_s12)), (1, 20, (.pointer (some ⟨b1, 6, none⟩)))] kr (fun _ => by kernel_rfl) ?_
    have S60 := S59.front2
    obtain ⟨I61, L62, S64, hp63⟩ := yab h_s12 S60
    refine yr S64 z kr z 6 z z kr kr kr ((cs_qE ({ p0 with Kids := s12 }) (⟨⟨a_s12, c_s12⟩⟩ : W_qE)).toArray) kr tv ?_
    intro w66 S65
    refine yc ?_
    refine yb ?_
    refine W.seq ?_
    refine W.region (l := [0, 1]) kr ?_
    refine yp z kr kr z ((cs_qE ({ p0 with Kids := s12 }) (⟨⟨a_s12, c_s12⟩⟩ : W_qE))) kr (fun w' hw' => cells_one ((rd_f (S65.rd (List.Mem.head _))) w' hw') kr) ?_
    have S67 := S65.front1
    refine yr S67 z kr z 0 z z kr kr kr ((cs_qE ({ p0 with Kids := s12 }) (⟨⟨a_s12, c_s12⟩⟩ : W_qE)).toArray) kr tv ?_
    intro w69 S68
    refine yc ?_
    refine yb ?_
    refine ym ?_
    have S70 := S68.drop
    have S71 := S70.drop
    have hk72 : ok_qE I61 ({ p0 with Kids := s12 }) (⟨⟨a_s12, c_s12⟩⟩ : W_qE) := ⟨hp63⟩
    have he := Option.some.inj G
    subst r
    exact yan z (.agg (cs_qE ({ p0 with Kids := s12 }) (⟨⟨a_s12, c_s12⟩⟩ : W_qE)).toArray) ⟨_, _, rfl, run_loadVarN (cs := (cs_qE ({ p0 with Kids := s12 }) (⟨⟨a_s12, c_s12⟩⟩ : W_qE))) kr kr (cells_one (S68.rd (List.Mem.head _)) kr)⟩ ⟨I61, (⟨⟨a_s12, c_s12⟩⟩ : W_qE), rfl, (L11.trans L62), S71, hk72⟩
theorem expr_Clone_ok {p0 : qE} {w_p0 : W_qE} (h_p0 : ok_qE I p0 w_p0) (hS : St E w I Os) {r : qE} (G : expr_Clone p0 = some r) :
    Calls P 70 #[(vE p0 w_p0)] w (fun e w' => ∃ (I' : Mem) (w_rw0 : W_qE), e = .returned (vE r w_rw0) ∧ I.Le I' ∧ St E w' I' Os ∧ ok_qE I' r w_rw0) := by
  obtain ⟨fu, hf⟩ := anyFuel_some G
  exact expr_Clone_fu_ok fu h_p0 hS hf
def slices_Clone_qI (p0 : List qI) : Option (List qI) := (app 40 ([] : List qI) p0).bind (fun (x10 : List qI) => some x10)
theorem slices_Clone_qI_ok {p0 : List qI} {a_p0 : Option Addr} {c_p0 : Nat} (h_p0 : RSl 2 R_qI I a_p0 c_p0 p0) (hS : St E w I Os) {r : (List qI)} (G : slices_Clone_qI p0 = some r) :
    Calls P 71 #[(.slice a_p0 p0.length c_p0)] w (fun e w' => ∃ (I' : Mem) (ra0 : Option Addr) (rc0 : Nat) (rC0 : Mem), e = .returned (.slice ra0 r.length rc0) ∧ I.Le I' ∧ St E w' I' (rC0 :: Os) ∧ OwnSl 88 2 R_qI I' rC0 ra0 rc0 r) := by
  refine calls_W (args := [(.slice a_p0 p0.length c_p0)]) (fn := Try.f71) rfl rfl rfl ?_
  unfold slices_Clone_qI at G
  refine W.seq ?_
  refine W.region (l := [0]) kr ?_
  refine ya [(0, 2, (.slice none 0 0))] kr (fun _ => by kernel_rfl) ?_
  refine yc ?_
  refine yb ?_
  refine W.seq ?_
  refine W.seq ?_
  refine W.region (l := [0, 1]) kr ?_
  refine ya [(0, 3, (.slice a_p0 p0.length c_p0))] kr (fun _ => by kernel_rfl) ?_
  refine yas (e := 88) z kr kr z z ?_
  refine yc ?_
  refine yb ?_
  refine W.cond (b := (a_p0.isNone)) z z (fun K => ?_) (fun K => ?_)
  · have ha0 := Option.isNone_iff_eq_none.1 K
    subst ha0
    have hx0 := (h_p0).none_nil
    subst hx0
    replace G : some ([] : List qI) = some r := by simpa [app] using G
    refine W.seq ?_
    refine W.region (l := [0]) kr ?_
    refine ya [(0, 2, (.slice none 0 0))] kr (fun _ => by kernel_rfl) ?_
    refine yc ?_
    refine yb ?_
    refine ym ?_
    refine yg ?_
    have S2 := hS.no
    have he := Option.some.inj G
    subst r
    exact yl z (.slice none ([] : List qI).length 0) z ⟨I, none, 0, Mem.no, rfl, Mem.Le.refl _, S2, OwnSl.nil⟩
  · clear K
    refine W.skip ?_
    refine yb ?_
    refine W.seq ?_
    refine W.region (l := [0, 1, 2, 3]) kr ?_
    refine yac (rel := R_qI) (xs := ([] : List qI)) hS z kr z 88 2 [] kr z (Elr.nil) tv ?_
    intro a6 C4 w8 S7 ho5
    refine ya [(1, 6, (.slice a_p0 p0.length c_p0))] kr (fun _ => by kernel_rfl) ?_
    obtain ⟨x10, Xx10, G⟩ := bind_some G
    obtain ⟨h0_x10, he_x10⟩ := app_some Xx10
    refine yad (e' := 88) (b := 40) (zs := (cs_qI z_qI zw_qI).toArray) S7 ho5 z kr z kr kr kr z z z z h_p0 S7.im h0_x10 he_x10 tv ?_
    intro a11 c12 w13 C14 S15 ho16
    refine ya [(3, 2, (.slice a11 x10.length c12))] kr (fun _ => by kernel_rfl) ?_
    refine yc ?_
    refine yb ?_
    refine ym ?_
    have he := Option.some.inj G
    subst r
    exact yl z (.slice a11 x10.length c12) z ⟨I, a11, c12, C14, rfl, Mem.Le.refl _, S15, ho16⟩
noncomputable def table_Clone (p0 : qT) : Option qT := (slices_Clone_qL p0.Cols).bind (fun (r14 : List qL) => (slices_Clone_qK p0.Cons).bind (fun (r27 : List qK) => (forE (fun (i35 : Nat) (s34 : List qK) => (idx s34 (i35 : Int)).bind (fun (x45 : qK) => (slices_Clone_string x45.Cols).bind (fun (r59 : List By8) => (slices_Clone_string x45.Refs).bind (fun (r65 : List By8) => (expr_Clone x45.Check).bind (fun (r71 : qE) => (idx s34 (i35 : Int)).bind (fun (x72 : qK) => (idx (s34.set ((i35 : Int)).toNat ({ x72 with Cols := r59 })) (i35 : Int)).bind (fun (x85 : qK) => (idx ((s34.set ((i35 : Int)).toNat ({ x72 with Cols := r59 })).set ((i35 : Int)).toNat ({ x85 with Refs := r65 })) (i35 : Int)).bind (fun (x97 : qK) => some (((s34.set ((i35 : Int)).toNat ({ x72 with Cols := r59 })).set ((i35 : Int)).toNat ({ x85 with Refs := r65 })).set ((i35 : Int)).toNat ({ x97 with Check := r71 })))))))))) r27.length 0 r27).bind (fun (s34 : (List qK)) => (slices_Clone_qI p0.Idx).bind (fun (r115 : List qI) => (forE (fun (i123 : Nat) (s122 : List qI) => (idx s122 (i123 : Int)).bind (fun (x134 : qI) => (slices_Clone_string x134.Cols).bind (fun (r148 : List By8) => (idx s122 (i123 : Int)).bind (fun (x149 : qI) => some (s122.set ((i123 : Int)).toNat ({ x149 with Cols := r148 })))))) r115.length 0 r115).bind (fun (s122 : (List qI)) => some { p0 with Cols := r14, Cons := s34, Idx := s122 })))))
theorem table_Clone_ok {p0 : qT} {w_p0 : W_qT} (h_p0 : ok_qT I p0 w_p0) (hS : St E w I Os) {r : qT} (G : table_Clone p0 = some r) :
    Calls P 46 #[(vT p0 w_p0)] w (fun e w' => ∃ (I' : Mem) (w_rw0 : W_qT), e = .returned (vT r w_rw0) ∧ I.Le I' ∧ St E w' I' Os ∧ ok_qT I' r w_rw0) := by
  refine calls_W (args := [(vT p0 w_p0)]) (fn := Try.f46) rfl rfl rfl ?_
  unfold table_Clone at G
  refine W.seq ?_
  refine W.region (l := [0, 1]) kr ?_
  refine yu hS z kr z (.cells (cs_qT p0 w_p0).toArray 64 (0, 0)) (fun b => .pointer (some ⟨b, 0, none⟩)) kr tv ?_
  intro b1 w4 S3
  refine yu S3 z kr z (.cells (cs_qT z_qT zw_qT).toArray 64 (0, 0)) (fun b => .pointer (some ⟨b, 0, none⟩)) kr tv ?_
  intro b5 w8 S7
  refine yc ?_
  refine yb ?_
  refine W.seq ?_
  refine W.region (l := [0, 1, 2, 3, 4]) kr ?_
  refine ya [(0, 7, (.pointer (some ⟨b1, 3, none⟩)))] kr (fun _ => by kernel_rfl) ?_
  refine yf z kr kr z (v := (.slice w_p0.Cols.a p0.Cols.length w_p0.Cols.c)) (fun w' hw' => cell_one ((rd_f (S7.rd (List.Mem.tail _ (List.Mem.head _)))) w' hw') kr) ?_
  obtain ⟨r14, Xr9, G⟩ := bind_some G
  refine yj z kr z (f := 68) (args := #[(.slice w_p0.Cols.a p0.Cols.length w_p0.Cols.c)]) kr (slices_Clone_qL_ok h_p0.Cols S7 Xr9) ?_
  rintro _ w10 ⟨I11, a_r14, c_r14, C_r14, rfl, L12, S13, h_r14⟩
  refine ⟨_, rfl, trivial, ?_⟩
  refine ya [(3, 10, (.pointer (some ⟨b1, 3, none⟩)))] kr (fun _ => by kernel_rfl) ?_
  obtain ⟨I15, L16, S18, hp17⟩ := yab h_r14 S13
  have S19 := S18.front1
  refine yr S19 z kr z 3 z z kr kr kr ((cs_qT ({ p0 with Cols := r14 }) ({ w_p0 with Cols := ⟨a_r14, c_r14⟩ })).toArray) kr tv ?_
  intro w21 S20
  refine yc ?_
  refine yb ?_
  refine W.seq ?_
  refine W.region (l := [0, 1, 2, 3, 4]) kr ?_
  refine ya [(0, 11, (.pointer (some ⟨b1, 4, none⟩)))] kr (fun _ => by kernel_rfl) ?_
  refine yf z kr kr z (v := (.slice w_p0.Cons.a p0.Cons.length w_p0.Cons.c)) (fun w' hw' => cell_one ((rd_f (S20.rd (List.Mem.head _))) w' hw') kr) ?_
  obtain ⟨r27, Xr22, G⟩ := bind_some G
  refine yj z kr z (f := 69) (args := #[(.slice w_p0.Cons.a p0.Cons.length w_p0.Cons.c)]) kr (slices_Clone_qK_ok (RSl.mono h_p0.Cons (L12.trans L16)) S20 Xr22) ?_
  rintro _ w23 ⟨I24, a_r27, c_r27, C_r27, rfl, L25, S26, h_r27⟩
  refine ⟨_, rfl, trivial, ?_⟩
  refine ya [(3, 14, (.pointer (some ⟨b1, 4, none⟩)))] kr (fun _ => by kernel_rfl) ?_
  have S28 := S26.front1
  refine yr S28 z kr z 4 z z kr kr kr ((cs_qT ({ p0 with Cols := r14, Cons := r27 }) ({ w_p0 with Cols := ⟨a_r14, c_r14⟩, Cons := ⟨a_r27, c_r27⟩ })).toArray) kr tv ?_
  intro w30 S29
  refine yc ?_
  refine yb ?_
  refine W.seq ?_
  refine W.seq ?_
  refine W.region (l := [0, 1, 2, 3]) kr ?_
  refine ya [(0, 15, (.pointer (some ⟨b1, 4, none⟩)))] kr (fun _ => by kernel_rfl) ?_
  refine yf z kr kr z (v := (.slice a_r27 r27.length c_r27)) (fun w' hw' => cell_one ((rd_f (S29.rd (List.Mem.head _))) w' hw') kr) ?_
  refine ya [(2, 17, (.int .i64 (r27.length : Int))), (3, 18, (.int .i64 0))] kr (fun _ => by kernel_rfl) ?_
  refine yc ?_
  refine yb ?_
  refine yq ?_
  obtain ⟨s34, hloop36, G⟩ := bind_some G
  have S37 := S29.front1
  have S38 := S37.front2
  have S39 := S38.front2
  have hlt43 := (h_r27.sl).len_lt
  refine W.weaken (fr' := [(1, (.pointer (some ⟨b1, 0, none⟩))), (2, (.pointer (some ⟨b5, 0, none⟩))), (16, (.slice a_r27 r27.length c_r27)), (17, (.int .i64 (r27.length : Int))), (18, (.int .i64 ((0 : Nat) : Int)))]) (W.forE (m := r27.length) hloop36 (fun (i35 : Nat) (s34 : List qK) fr w => ∃ (I32 : Mem), ∃ (C_s34 : Mem), fr = [(1, (.pointer (some ⟨b1, 0, none⟩))), (2, (.pointer (some ⟨b5, 0, none⟩))), (16, (.slice a_r27 s34.length c_r27)), (17, (.int .i64 (r27.length : Int))), (18, (.int .i64 (i35 : Int)))] ∧ I24.Le I32 ∧ St E w I32 ((Gv.one b1 (.cells (cs_qT ({ p0 with Cols := r14, Cons := s34 }) ({ w_p0 with Cols := ⟨a_r14, c_r14⟩, Cons := ⟨a_r27, c_r27⟩ })).toArray 64 (0, 0))) :: (Gv.one b5 (.cells (cs_qT z_qT zw_qT).toArray 64 (0, 0))) :: (C_s34) :: Os) ∧ OwnSl 86 12 R_qK I32 C_s34 a_r27 c_r27 s34) ⟨I24, C_r27, rfl, Mem.Le.refl _, S39, h_r27⟩ ?roundt31 ?lastt31) (Sub.cons z (Sub.cons z (Sub.cons z (Sub.cons z (Sub.cons z Sub.nil)))))
  case roundt31 =>
    rintro i35 s34 _ w40 hi44 ⟨I32, C_s34, rfl, L33, S41, h_s34⟩ x42 R1
    refine W.seq ?_
    refine W.region (l := [0]) kr ?_
    refine ya [(0, 19, (.bool (decide ((i35 : Int) < (r27.length : Int)))))] kr (fun _ => by kernel_rfl) ?_
    refine yc ?_
    refine yb ?_
    refine W.seq ?_
    refine W.cond (b := (decide ((i35 : Int) < (r27.length : Int)))) z z (fun K => ?_) (fun K => ?_)
    rotate_left
    · exact absurd K (by first | (simp; done) | (simp; omega))
    clear K
    refine W.skip ?_
    refine yb ?_
    refine W.seq ?_
    refine yq ?_
    refine W.seq ?_
    refine W.region (l := [0, 1, 2, 3, 4, 5]) kr ?_
    refine ya [(0, 20, (.int .i64 (i35 : Int)))] kr (fun _ => by kernel_rfl) ?_
    obtain ⟨x45, Xx45, R1⟩ := bind_some R1
    obtain ⟨h0_x45, h1_x45, Xx45⟩ := idx_some Xx45
    obtain ⟨ha_x45, cs_x45, hn_x45, hr_x45, Zx45⟩ := (h_s34.sl).el _ _ Xx45
    obtain ⟨w_x45, rfl, h_x45⟩ := hr_x45
    refine yh (e := 86) (sz := 12) z kr kr kr z ha_x45 z h0_x45 h1_x45 ?_
    refine yp z kr kr z ((cs_qK x45 w_x45)) kr (fun w' hw' => Zx45.cells (k := 0) kr z ((rd_f (S41.rd (List.Mem.tail _ (List.Mem.tail _ (List.Mem.head _))))) w' hw')) ?_
    refine yu S41 z kr z (.cells (cs_qK z_qK zw_qK).toArray 86 (0, 0)) (fun b => .pointer (some ⟨b, 0, none⟩)) kr tv ?_
    intro b46 w49 S48
    refine ya [(4, 3, (.int .i64 (i35 : Int)))] kr (fun _ => by kernel_rfl) ?_
    refine yr S48 z kr z 0 z z kr kr kr ((cs_qK x45 w_x45).toArray) kr tv ?_
    intro w51 S50
    refine yc ?_
    refine yb ?_
    have S52 := S50.drew
    refine yaf (l := [0, 1, 2, 3, 4, 5, 6, 7, 8, 9, 10, 11, 12, 13, 14, 15, 16, 17, 18, 19, 20, 21, 22, 23, 24, 25, 26]) kr 24 (KR I32 [Gv.one b46 (.cells (cs_qK x45 w_x45).toArray 86 (0, 0)), Gv.one b1 (.cells (cs_qT ({ p0 with Cols := r14, Cons := s34 }) ({ w_p0 with Cols := ⟨a_r14, c_r14⟩, Cons := ⟨a_r27, c_r27⟩ })).toArray 64 (0, 0))]) qR (.ords [0, 1, 2, 3, 4, 5, 6, 7, 8, 9, 10, 11, 12, 13, 14, 15, 16, 17, 18, 19, 20, 21, 22, 23, 24, 25, 26] [0, 1, 2, 9, 10, 11, 12, 13, 14, 15, 16, 17, 18, 19, 20, 3, 4, 5, 21, 22, 23, 6, 7, 8, 24, 25, 26] kr kr kr kr kr) kr (yk (S52.rd (List.Mem.head _)) (yk (S52.rd (List.Mem.tail _ (List.Mem.head _))) (yz S52.im))) ?_
    generalize World.drew _ = w53 at *
    refine ya [(0, 23, (.pointer (some ⟨b1, 4, none⟩)))] kr (fun _ => by kernel_rfl) ?_
    refine yf z kr kr z (v := (.slice a_r27 s34.length c_r27)) (fun w' hw' => cell_one ((rd_c (List.Mem.tail _ (List.Mem.head _)) (S52.rd (List.Mem.tail _ (List.Mem.head _)))) w' hw') kr) ?_
    refine ya [(2, 25, (.int .i64 (i35 : Int))), (3, 26, (.pointer (some ⟨b1, 4, none⟩)))] kr (fun _ => by kernel_rfl) ?_
    refine yf z kr kr z (v := (.slice a_r27 s34.length c_r27)) (fun w' hw' => cell_one ((rd_c (List.Mem.tail _ (List.Mem.head _)) (S52.rd (List.Mem.tail _ (List.Mem.head _)))) w' hw') kr) ?_
    refine ya [(5, 28, (.int .i64 (i35 : Int))), (6, 29, (.pointer (some ⟨b1, 4, none⟩)))] kr (fun _ => by kernel_rfl) ?_
    refine yf z kr kr z (v := (.slice a_r27 s34.length c_r27)) (fun w' hw' => cell_one ((rd_c (List.Mem.tail _ (List.Mem.head _)) (S52.rd (List.Mem.tail _ (List.Mem.head _)))) w' hw') kr) ?_
    refine ya [(8, 31, (.int .i64 (i35 : Int))), (9, 32, (.pointer (some ⟨b46, 2, none⟩)))] kr (fun _ => by kernel_rfl) ?_
    refine yf z kr kr z (v := (.slice w_x45.Cols.a x45.Cols.length w_x45.Cols.c)) (fun w' hw' => cell_one ((rd_c (List.Mem.head _) (S52.rd (List.Mem.head _))) w' hw') kr) ?_
    obtain ⟨r59, Xr54, R1⟩ := bind_some R1
    refine yj z kr z (f := 27) (args := #[(.slice w_x45.Cols.a x45.Cols.length w_x45.Cols.c)]) kr (slices_Clone_string_ok h_x45.Cols S52 Xr54) ?_
    rintro _ w55 ⟨I56, a_r59, c_r59, C_r59, rfl, L57, S58, h_r59⟩
    refine ⟨_, rfl, (yk (S58.rd (List.Mem.tail _ (List.Mem.head _))) (yk (S58.rd (List.Mem.tail _ (List.Mem.tail _ (List.Mem.head _)))) (yz (S58.im.of_le L57)))), ?_⟩
    refine ya [(12, 35, (.pointer (some ⟨b46, 11, none⟩)))] kr (fun _ => by kernel_rfl) ?_
    refine yf z kr kr z (v := (.slice w_x45.Refs.a x45.Refs.length w_x45.Refs.c)) (fun w' hw' => cell_one ((rd_c (List.Mem.head _) (S58.rd (List.Mem.tail _ (List.Mem.head _)))) w' hw') kr) ?_
    obtain ⟨r65, Xr60, R1⟩ := bind_some R1
    refine yj z kr z (f := 27) (args := #[(.slice w_x45.Refs.a x45.Refs.length w_x45.Refs.c)]) kr (slices_Clone_string_ok (RSl.mono h_x45.Refs L57) S58 Xr60) ?_
    rintro _ w61 ⟨I62, a_r65, c_r65, C_r65, rfl, L63, S64, h_r65⟩
    refine ⟨_, rfl, (yk (S64.rd (List.Mem.tail _ (List.Mem.tail _ (List.Mem.head _)))) (yk (S64.rd (List.Mem.tail _ (List.Mem.tail _ (List.Mem.tail _ (List.Mem.head _))))) (yz (S64.im.of_le (L57.trans L63))))), ?_⟩
    refine ya [(15, 38, (.pointer (some ⟨b46, 3, none⟩)))] kr (fun _ => by kernel_rfl) ?_
    refine yp z kr kr z ((cs_qE x45.Check w_x45.Check)) kr (fun w' hw' => cells_one ((rd_c (List.Mem.head _) (S64.rd (List.Mem.tail _ (List.Mem.tail _ (List.Mem.head _))))) w' hw') kr) ?_
    obtain ⟨r71, Xr66, R1⟩ := bind_some R1
    refine yj z kr z (f := 70) (args := #[(vE x45.Check w_x45.Check)]) kr (expr_Clone_ok (h_x45.Check.mono (L57.trans L63)) S64 Xr66) ?_
    rintro _ w67 ⟨I68, w_r71, rfl, L69, S70, h_r71⟩
    refine ⟨_, rfl, (yk (S70.rd (List.Mem.tail _ (List.Mem.tail _ (List.Mem.head _)))) (yk (S70.rd (List.Mem.tail _ (List.Mem.tail _ (List.Mem.tail _ (List.Mem.head _))))) (yz (S70.im.of_le ((L57.trans L63).trans L69))))), ?_⟩
    obtain ⟨x72, Xx72, R1⟩ := bind_some R1
    obtain ⟨h0_x72, h1_x72, Xx72⟩ := idx_some Xx72
    obtain ⟨ha_x72, cs_x72, hn_x72, hr_x72, Zx72⟩ := (h_s34.sl).el _ _ Xx72
    obtain ⟨w_x72, rfl, h_x72⟩ := hr_x72
    refine yh (e := 86) (sz := 12) z kr kr kr z ha_x72 z h0_x72 h1_x72 ?_
    refine ya [(19, 42, (.pointer (some ⟨bl a_r27, of a_r27 + ((i35 : Int)).toNat * 12 + 2, none⟩)))] kr (fun _ => by kernel_rfl) ?_
    have S73 := S70.front1
    obtain ⟨I74, L75, S77, hp76⟩ := yab (h_r59.mono (L63.trans L69)) S73
    have S78 := S77.front4
    have hk83 : ok_qK I74 ({ x72 with Cols := r59 }) ({ w_x72 with Cols := ⟨a_r59, c_r59⟩ }) := ⟨hp76, (h_x72.Check.mono (((L57.trans L63).trans L69).trans L75)), (RSl.mono h_x72.Refs (((L57.trans L63).trans L69).trans L75))⟩
    refine yaj S78 (OwnSl.mono h_s34 (((L57.trans L63).trans L69).trans L75)) z kr z Xx72 (u' := { x72 with Cols := r59 }) 2 z z kr z z (fun cs hrel => (by obtain ⟨w_zz, rfl, h_zz⟩ := hrel; exact ⟨{ w_zz with Cols := ⟨a_r59, c_r59⟩ }, rfl, { h_zz with Cols := hp76 }⟩)) (fun w80 C81 S79 => (yk (S79.rd (List.Mem.tail _ (List.Mem.tail _ (List.Mem.head _)))) (yk (S79.rd (List.Mem.tail _ (List.Mem.tail _ (List.Mem.tail _ (List.Mem.head _))))) (yz (S79.im.of_le (((L57.trans L63).trans L69).trans L75)))))) ?_
    intro w80 C81 S79 ho82
    refine ye 16 z (show Value.slice a_r27 s34.length c_r27 = Value.slice a_r27 (s34.set ((i35 : Int)).toNat ({ x72 with Cols := r59 })).length c_r27 by simp only [List.length_set]) ?_
    refine ye 24 z (show Value.slice a_r27 s34.length c_r27 = Value.slice a_r27 (s34.set ((i35 : Int)).toNat ({ x72 with Cols := r59 })).length c_r27 by simp only [List.length_set]) ?_
    refine ye 27 z (show Value.slice a_r27 s34.length c_r27 = Value.slice a_r27 (s34.set ((i35 : Int)).toNat ({ x72 with Cols := r59 })).length c_r27 by simp only [List.length_set]) ?_
    refine ye 30 z (show Value.slice a_r27 s34.length c_r27 = Value.slice a_r27 (s34.set ((i35 : Int)).toNat ({ x72 with Cols := r59 })).length c_r27 by simp only [List.length_set]) ?_
    have S84 : St E w80 I74 ((C81) :: (C_r65) :: (Gv.one b46 (.cells (cs_qK x45 w_x45).toArray 86 (0, 0))) :: (Gv.one b1 (.cells (cs_qT ({ p0 with Cols := r14, Cons := (s34.set ((i35 : Int)).toNat ({ x72 with Cols := r59 })) }) ({ w_p0 with Cols := ⟨a_r14, c_r14⟩, Cons := ⟨a_r27, c_r27⟩ })).toArray 64 (0, 0))) :: (Gv.one b5 (.cells (cs_qT z_qT zw_qT).toArray 64 (0, 0))) :: Os) := by have hq := S79; simp only [cs_qT, List.length_set] at hq ⊢; exact hq
    obtain ⟨x85, Xx85, R1⟩ := bind_some R1
    obtain ⟨h0_x85, h1_x85, Xx85⟩ := idx_some Xx85
    obtain ⟨ha_x85, cs_x85, hn_x85, hr_x85, Zx85⟩ := (ho82.sl).el _ _ Xx85
    obtain ⟨w_x85, rfl, h_x85⟩ := hr_x85
    refine yh (e := 86) (sz := 12) z kr kr kr z ha_x85 z h0_x85 h1_x85 ?_
    refine ya [(22, 44, (.pointer (some ⟨bl a_r27, of a_r27 + ((i35 : Int)).toNat * 12 + 11, none⟩)))] kr (fun _ => by kernel_rfl) ?_
    have S86 := S84.front1
    obtain ⟨I87, L88, S90, hp89⟩ := yab (h_r65.mono (L69.trans L75)) S86
    have hk95 : ok_qK I87 ({ x85 with Refs := r65 }) ({ w_x85 with Refs := ⟨a_r65, c_r65⟩ }) := ⟨(RSl.mono h_x85.Cols L88), (h_x85.Check.mono L88), hp89⟩
    refine yaj S90 (OwnSl.mono ho82 L88) z kr z Xx85 (u' := { x85 with Refs := r65 }) 11 z z kr z z (fun cs hrel => (by obtain ⟨w_zz, rfl, h_zz⟩ := hrel; exact ⟨{ w_zz with Refs := ⟨a_r65, c_r65⟩ }, rfl, { h_zz with Refs := hp89 }⟩)) (fun w92 C93 S91 => (yk (S91.rd (List.Mem.tail _ (List.Mem.head _))) (yk (Rdb.eq (by simp only [cs_qT, List.length_set]) (S91.rd (List.Mem.tail _ (List.Mem.tail _ (List.Mem.head _))))) (yz (S91.im.of_le ((((L57.trans L63).trans L69).trans L75).trans L88)))))) ?_
    intro w92 C93 S91 ho94
    refine ye 16 z (show Value.slice a_r27 (s34.set ((i35 : Int)).toNat ({ x72 with Cols := r59 })).length c_r27 = Value.slice a_r27 ((s34.set ((i35 : Int)).toNat ({ x72 with Cols := r59 })).set ((i35 : Int)).toNat ({ x85 with Refs := r65 })).length c_r27 by simp only [List.length_set]) ?_
    refine ye 24 z (show Value.slice a_r27 (s34.set ((i35 : Int)).toNat ({ x72 with Cols := r59 })).length c_r27 = Value.slice a_r27 ((s34.set ((i35 : Int)).toNat ({ x72 with Cols := r59 })).set ((i35 : Int)).toNat ({ x85 with Refs := r65 })).length c_r27 by simp only [List.length_set]) ?_
    refine ye 27 z (show Value.slice a_r27 (s34.set ((i35 : Int)).toNat ({ x72 with Cols := r59 })).length c_r27 = Value.slice a_r27 ((s34.set ((i35 : Int)).toNat ({ x72 with Cols := r59 })).set ((i35 : Int)).toNat ({ x85 with Refs := r65 })).length c_r27 by simp only [List.length_set]) ?_
    refine ye 30 z (show Value.slice a_r27 (s34.set ((i35 : Int)).toNat ({ x72 with Cols := r59 })).length c_r27 = Value.slice a_r27 ((s34.set ((i35 : Int)).toNat ({ x72 with Cols := r59 })).set ((i35 : Int)).toNat ({ x85 with Refs := r65 })).length c_r27 by simp only [List.length_set]) ?_
    have S96 : St E w92 I87 ((C93) :: (Gv.one b46 (.cells (cs_qK x45 w_x45).toArray 86 (0, 0))) :: (Gv.one b1 (.cells (cs_qT ({ p0 with Cols := r14, Cons := ((s34.set ((i35 : Int)).toNat ({ x72 with Cols := r59 })).set ((i35 : Int)).toNat ({ x85 with Refs := r65 })) }) ({ w_p0 with Cols := ⟨a_r14, c_r14⟩, Cons := ⟨a_r27, c_r27⟩ })).toArray 64 (0, 0))) :: (Gv.one b5 (.cells (cs_qT z_qT zw_qT).toArray 64 (0, 0))) :: Os) := by have hq := S91; simp only [cs_qT, List.length_set] at hq ⊢; exact hq
    refine WO.tail z ?_
    obtain ⟨x97, Xx97, R1⟩ := bind_some R1
    obtain ⟨h0_x97, h1_x97, Xx97⟩ := idx_some Xx97
    obtain ⟨ha_x97, cs_x97, hn_x97, hr_x97, Zx97⟩ := (ho94.sl).el _ _ Xx97
    obtain ⟨w_x97, rfl, h_x97⟩ := hr_x97
    refine yh (e := 86) (sz := 12) z kr kr kr z ha_x97 z h0_x97 h1_x97 ?_
    refine ya [(25, 46, (.pointer (some ⟨bl a_r27, of a_r27 + ((i35 : Int)).toNat * 12 + 3, none⟩)))] kr (fun _ => by kernel_rfl) ?_
    have hk102 : ok_qK I87 ({ x97 with Check := r71 }) ({ w_x97 with Check := w_r71 }) := ⟨h_x97.Cols, (h_r71.mono (L75.trans L88)), h_x97.Refs⟩
    refine yaj S96 ho94 z kr z Xx97 (u' := { x97 with Check := r71 }) 3 z z kr z z (fun cs hrel => (by obtain ⟨w_zz, rfl, h_zz⟩ := hrel; exact ⟨{ w_zz with Check := w_r71 }, rfl, { h_zz with Check := (h_r71.mono (L75.trans L88)) }⟩)) tv ?_
    intro w99 C100 S98 ho101
    refine ye 16 z (show Value.slice a_r27 ((s34.set ((i35 : Int)).toNat ({ x72 with Cols := r59 })).set ((i35 : Int)).toNat ({ x85 with Refs := r65 })).length c_r27 = Value.slice a_r27 (((s34.set ((i35 : Int)).toNat ({ x72 with Cols := r59 })).set ((i35 : Int)).toNat ({ x85 with Refs := r65 })).set ((i35 : Int)).toNat ({ x97 with Check := r71 })).length c_r27 by simp only [List.length_set]) ?_
    refine ye 24 z (show Value.slice a_r27 ((s34.set ((i35 : Int)).toNat ({ x72 with Cols := r59 })).set ((i35 : Int)).toNat ({ x85 with Refs := r65 })).length c_r27 = Value.slice a_r27 (((s34.set ((i35 : Int)).toNat ({ x72 with Cols := r59 })).set ((i35 : Int)).toNat ({ x85 with Refs := r65 })).set ((i35 : Int)).toNat ({ x97 with Check := r71 })).length c_r27 by simp only [List.length_set]) ?_
    refine ye 27 z (show Value.slice a_r27 ((s34.set ((i35 : Int)).toNat ({ x72 with Cols := r59 })).set ((i35 : Int)).toNat ({ x85 with Refs := r65 })).length c_r27 = Value.slice a_r27 (((s34.set ((i35 : Int)).toNat ({ x72 with Cols := r59 })).set ((i35 : Int)).toNat ({ x85 with Refs := r65 })).set ((i35 : Int)).toNat ({ x97 with Check := r71 })).length c_r27 by simp only [List.length_set]) ?_
    refine ye 30 z (show Value.slice a_r27 ((s34.set ((i35 : Int)).toNat ({ x72 with Cols := r59 })).set ((i35 : Int)).toNat ({ x85 with Refs := r65 })).length c_r27 = Value.slice a_r27 (((s34.set ((i35 : Int)).toNat ({ x72 with Cols := r59 })).set ((i35 : Int)).toNat ({ x85 with Refs := r65 })).set ((i35 : Int)).toNat ({ x97 with Check := r71 })).length c_r27 by simp only [List.length_set]) ?_
    have S103 : St E w99 I87 ((C100) :: (Gv.one b46 (.cells (cs_qK x45 w_x45).toArray 86 (0, 0))) :: (Gv.one b1 (.cells (cs_qT ({ p0 with Cols := r14, Cons := (((s34.set ((i35 : Int)).toNat ({ x72 with Cols := r59 })).set ((i35 : Int)).toNat ({ x85 with Refs := r65 })).set ((i35 : Int)).toNat ({ x97 with Check := r71 })) }) ({ w_p0 with Cols := ⟨a_r14, c_r14⟩, Cons := ⟨a_r27, c_r27⟩ })).toArray 64 (0, 0))) :: (Gv.one b5 (.cells (cs_qT z_qT zw_qT).toArray 64 (0, 0))) :: Os) := by have hq := S98; simp only [cs_qT, List.length_set] at hq ⊢; exact hq
    refine yc ?_
    refine yo ?_
    refine yb ?_
    refine W.region (l := [0, 1]) kr ?_
    refine y9 (j := i35) z kr z (by first | omega | (dsimp only at *; omega) | (simp only [List.length_cons, List.length_nil] at *; omega)) ?_
    refine ya [(1, 18, (.int .i64 ((i35 + 1 : Nat) : Int)))] kr (fun _ => by kernel_rfl) ?_
    refine yc ?_
    have S104 := S103.front1
    have S105 := S104.drop
    have S106 := S105.front2
    have S107 := S106.front2
    have he := Option.some.inj R1
    subst x42
    refine En.weaken (fr' := [(1, (.pointer (some ⟨b1, 0, none⟩))), (2, (.pointer (some ⟨b5, 0, none⟩))), (16, (.slice a_r27 (((s34.set ((i35 : Int)).toNat ({ x72 with Cols := r59 })).set ((i35 : Int)).toNat ({ x85 with Refs := r65 })).set ((i35 : Int)).toNat ({ x97 with Check := r71 })).length c_r27)), (17, (.int .i64 (r27.length : Int))), (18, (.int .i64 ((i35 + 1 : Nat) : Int)))]) (En.round ⟨I87, C100, rfl, (((((L33.trans L57).trans L63).trans L69).trans L75).trans L88), S107, ho101⟩) (Sub.cons z (Sub.cons z (Sub.cons z (Sub.cons z (Sub.cons z Sub.nil)))))
  case lastt31 =>
    rintro _ w108 ⟨I32, C_s34, rfl, L33, S109, h_s34⟩
    refine W.seq ?_
    refine W.region (l := [0]) kr ?_
    refine ya [(0, 19, (.bool (decide ((r27.length : Int) < (r27.length : Int)))))] kr (fun _ => by kernel_rfl) ?_
    refine yc ?_
    refine yb ?_
    refine W.seq ?_
    refine W.cond (b := (decide ((r27.length : Int) < (r27.length : Int)))) z z (fun K => ?_) (fun K => ?_)
    · exact absurd K (by first | (simp; done) | (simp; omega))
    clear K
    refine W.exit ?_
    refine yw ?_
    refine yx ?_
    refine y0 ?_
    refine yb ?_
    refine W.seq ?_
    refine W.region (l := [0, 1, 2, 3, 4]) kr ?_
    refine ya [(0, 48, (.pointer (some ⟨b1, 5, none⟩)))] kr (fun _ => by kernel_rfl) ?_
    refine yf z kr kr z (v := (.slice w_p0.Idx.a p0.Idx.length w_p0.Idx.c)) (fun w' hw' => cell_one ((rd_f (S109.rd (List.Mem.head _))) w' hw') kr) ?_
    obtain ⟨r115, Xr110, G⟩ := bind_some G
    refine yj z kr z (f := 71) (args := #[(.slice w_p0.Idx.a p0.Idx.length w_p0.Idx.c)]) kr (slices_Clone_qI_ok (RSl.mono h_p0.Idx (((L12.trans L16).trans L25).trans L33)) S109 Xr110) ?_
    rintro _ w111 ⟨I112, a_r115, c_r115, C_r115, rfl, L113, S114, h_r115⟩
    refine ⟨_, rfl, trivial, ?_⟩
    refine ya [(3, 51, (.pointer (some ⟨b1, 5, none⟩)))] kr (fun _ => by kernel_rfl) ?_
    have S116 := S114.front1
    refine yr S116 z kr z 5 z z kr kr kr ((cs_qT ({ p0 with Cols := r14, Cons := s34, Idx := r115 }) (⟨⟨a_r14, c_r14⟩, ⟨a_r27, c_r27⟩, ⟨a_r115, c_r115⟩⟩ : W_qT)).toArray) kr tv ?_
    intro w118 S117
    refine yc ?_
    refine yb ?_
    refine W.seq ?_
    refine W.seq ?_
    refine W.region (l := [0, 1, 2, 3]) kr ?_
    refine ya [(0, 52, (.pointer (some ⟨b1, 5, none⟩)))] kr (fun _ => by kernel_rfl) ?_
    refine yf z kr kr z (v := (.slice a_r115 r115.length c_r115)) (fun w' hw' => cell_one ((rd_f (S117.rd (List.Mem.head _))) w' hw') kr) ?_
    refine ya [(2, 54, (.int .i64 (r115.length : Int))), (3, 55, (.int .i64 0))] kr (fun _ => by kernel_rfl) ?_
    refine yc ?_
    refine yb ?_
    refine yq ?_
    obtain ⟨s122, hloop124, G⟩ := bind_some G
    have S125 := S117.front3
    have S126 := S125.front2
    have S127 := S126.front3
    have S128 := S127.front3
    have hlt132 := (h_r115.sl).len_lt
    refine W.weaken (fr' := [(1, (.pointer (some ⟨b1, 0, none⟩))), (2, (.pointer (some ⟨b5, 0, none⟩))), (53, (.slice a_r115 r115.length c_r115)), (54, (.int .i64 (r115.length : Int))), (55, (.int .i64 ((0 : Nat) : Int)))]) (W.forE (m := r115.length) hloop124 (fun (i123 : Nat) (s122 : List qI) fr w => ∃ (I120 : Mem), ∃ (C_s122 : Mem), fr = [(1, (.pointer (some ⟨b1, 0, none⟩))), (2, (.pointer (some ⟨b5, 0, none⟩))), (53, (.slice a_r115 s122.length c_r115)), (54, (.int .i64 (r115.length : Int))), (55, (.int .i64 (i123 : Int)))] ∧ I112.Le I120 ∧ St E w I120 ((Gv.one b1 (.cells (cs_qT ({ p0 with Cols := r14, Cons := s34, Idx := s122 }) (⟨⟨a_r14, c_r14⟩, ⟨a_r27, c_r27⟩, ⟨a_r115, c_r115⟩⟩ : W_qT)).toArray 64 (0, 0))) :: (Gv.one b5 (.cells (cs_qT z_qT zw_qT).toArray 64 (0, 0))) :: (C_s122) :: (C_s34) :: Os) ∧ OwnSl 88 2 R_qI I120 C_s122 a_r115 c_r115 s122) ⟨I112, C_r115, rfl, Mem.Le.refl _, S128, h_r115⟩ ?roundt119 ?lastt119) (Sub.cons z (Sub.cons z (Sub.cons z (Sub.cons z (Sub.cons z Sub.nil)))))
    case roundt119 =>
      rintro i123 s122 _ w129 hi133 ⟨I120, C_s122, rfl, L121, S130, h_s122⟩ x131 R1
      refine W.seq ?_
      refine W.region (l := [0]) kr ?_
      refine ya [(0, 56, (.bool (decide ((i123 : Int) < (r115.length : Int)))))] kr (fun _ => by kernel_rfl) ?_
      refine yc ?_
      refine yb ?_
      refine W.seq ?_
      refine W.cond (b := (decide ((i123 : Int) < (r115.length : Int)))) z z (fun K => ?_) (fun K => ?_)
      rotate_left
      · exact absurd K (by first | (simp; done) | (simp; omega))
      clear K
      refine W.skip ?_
      refine yb ?_
      refine W.seq ?_
      refine yq ?_
      refine W.seq ?_
      refine W.region (l := [0, 1, 2, 3, 4, 5]) kr ?_
      refine ya [(0, 57, (.int .i64 (i123 : Int)))] kr (fun _ => by kernel_rfl) ?_
      obtain ⟨x134, Xx134, R1⟩ := bind_some R1
      obtain ⟨h0_x134, h1_x134, Xx134⟩ := idx_some Xx134
      obtain ⟨ha_x134, cs_x134, hn_x134, hr_x134, Zx134⟩ := (h_s122.sl).el _ _ Xx134
      obtain ⟨w_x134, rfl, h_x134⟩ := hr_x134
      refine yh (e := 88) (sz := 2) z kr kr kr z ha_x134 z h0_x134 h1_x134 ?_
      refine yp z kr kr z ((cs_qI x134 w_x134)) kr (fun w' hw' => Zx134.cells (k := 0) kr z ((rd_f (S130.rd (List.Mem.tail _ (List.Mem.tail _ (List.Mem.head _))))) w' hw')) ?_
      refine yu S130 z kr z (.cells (cs_qI z_qI zw_qI).toArray 88 (0, 0)) (fun b => .pointer (some ⟨b, 0, none⟩)) kr tv ?_
      intro b135 w138 S137
      refine ya [(4, 5, (.int .i64 (i123 : Int)))] kr (fun _ => by kernel_rfl) ?_
      refine yr S137 z kr z 0 z z kr kr kr ((cs_qI x134 w_x134).toArray) kr tv ?_
      intro w140 S139
      refine yc ?_
      refine yb ?_
      have S141 := S139.drew
      refine yaf (l := [0, 1, 2, 3, 4, 5, 6, 7, 8]) kr 6 (KR I120 [Gv.one b135 (.cells (cs_qI x134 w_x134).toArray 88 (0, 0)), Gv.one b1 (.cells (cs_qT ({ p0 with Cols := r14, Cons := s34, Idx := s122 }) (⟨⟨a_r14, c_r14⟩, ⟨a_r27, c_r27⟩, ⟨a_r115, c_r115⟩⟩ : W_qT)).toArray 64 (0, 0))]) qR (.back kr) kr (yk (S141.rd (List.Mem.head _)) (yk (S141.rd (List.Mem.tail _ (List.Mem.head _))) (yz S141.im))) ?_
      generalize World.drew _ = w142 at *
      refine ya [(0, 60, (.pointer (some ⟨b1, 5, none⟩)))] kr (fun _ => by kernel_rfl) ?_
      refine yf z kr kr z (v := (.slice a_r115 s122.length c_r115)) (fun w' hw' => cell_one ((rd_c (List.Mem.tail _ (List.Mem.head _)) (S141.rd (List.Mem.tail _ (List.Mem.head _)))) w' hw') kr) ?_
      refine ya [(2, 62, (.int .i64 (i123 : Int))), (3, 63, (.pointer (some ⟨b135, 1, none⟩)))] kr (fun _ => by kernel_rfl) ?_
      refine yf z kr kr z (v := (.slice w_x134.Cols.a x134.Cols.length w_x134.Cols.c)) (fun w' hw' => cell_one ((rd_c (List.Mem.head _) (S141.rd (List.Mem.head _))) w' hw') kr) ?_
      obtain ⟨r148, Xr143, R1⟩ := bind_some R1
      refine yj z kr z (f := 27) (args := #[(.slice w_x134.Cols.a x134.Cols.length w_x134.Cols.c)]) kr (slices_Clone_string_ok h_x134.Cols S141 Xr143) ?_
      rintro _ w144 ⟨I145, a_r148, c_r148, C_r148, rfl, L146, S147, h_r148⟩
      refine ⟨_, rfl, (yk (S147.rd (List.Mem.tail _ (List.Mem.head _))) (yk (S147.rd (List.Mem.tail _ (List.Mem.tail _ (List.Mem.head _)))) (yz (S147.im.of_le L146)))), ?_⟩
      refine WO.tail z ?_
      obtain ⟨x149, Xx149, R1⟩ := bind_some R1
      obtain ⟨h0_x149, h1_x149, Xx149⟩ := idx_some Xx149
      obtain ⟨ha_x149, cs_x149, hn_x149, hr_x149, Zx149⟩ := ((h_s122.mono L146).sl).el _ _ Xx149
      obtain ⟨w_x149, rfl, h_x149⟩ := hr_x149
      refine yh (e := 88) (sz := 2) z kr kr kr z ha_x149 z h0_x149 h1_x149 ?_
      refine ya [(7, 67, (.pointer (some ⟨bl a_r115, of a_r115 + ((i123 : Int)).toNat * 2 + 1, none⟩)))] kr (fun _ => by kernel_rfl) ?_
      obtain ⟨I150, L151, S153, hp152⟩ := yab h_r148 S147
      have S154 := S153.front3
      have hk159 : ok_qI I150 ({ x149 with Cols := r148 }) (⟨⟨a_r148, c_r148⟩⟩ : W_qI) := ⟨hp152⟩
      refine yaj S154 (OwnSl.mono h_s122 (L146.trans L151)) z kr z Xx149 (u' := { x149 with Cols := r148 }) 1 z z kr z z (fun cs hrel => (by obtain ⟨w_zz, rfl, h_zz⟩ := hrel; exact ⟨{ w_zz with Cols := ⟨a_r148, c_r148⟩ }, rfl, { h_zz with Cols := hp152 }⟩)) tv ?_
      intro w156 C157 S155 ho158
      refine ye 53 z (show Value.slice a_r115 s122.length c_r115 = Value.slice a_r115 (s122.set ((i123 : Int)).toNat ({ x149 with Cols := r148 })).length c_r115 by simp only [List.length_set]) ?_
      refine ye 61 z (show Value.slice a_r115 s122.length c_r115 = Value.slice a_r115 (s122.set ((i123 : Int)).toNat ({ x149 with Cols := r148 })).length c_r115 by simp only [List.length_set]) ?_
      have S160 : St E w156 I150 ((C157) :: (Gv.one b135 (.cells (cs_qI x134 w_x134).toArray 88 (0, 0))) :: (Gv.one b1 (.cells (cs_qT ({ p0 with Cols := r14, Cons := s34, Idx := (s122.set ((i123 : Int)).toNat ({ x149 with Cols := r148 })) }) (⟨⟨a_r14, c_r14⟩, ⟨a_r27, c_r27⟩, ⟨a_r115, c_r115⟩⟩ : W_qT)).toArray 64 (0, 0))) :: (Gv.one b5 (.cells (cs_qT z_qT zw_qT).toArray 64 (0, 0))) :: (C_s34) :: Os) := by have hq := S155; simp only [cs_qT, List.length_set] at hq ⊢; exact hq
      refine yc ?_
      refine yo ?_
      refine yb ?_
      refine W.region (l := [0, 1]) kr ?_
      refine y9 (j := i123) z kr z (by first | omega | (dsimp only at *; omega) | (simp only [List.length_cons, List.length_nil] at *; omega)) ?_
      refine ya [(1, 55, (.int .i64 ((i123 + 1 : Nat) : Int)))] kr (fun _ => by kernel_rfl) ?_
      refine yc ?_
      have S161 := S160.front1
      have S162 := S161.drop
      have S163 := S162.front3
      have S164 := S163.front1
      have S165 := S164.front3
      have S166 := S165.front3
      have he := Option.some.inj R1
      subst x131
      refine En.weaken (fr' := [(1, (.pointer (some ⟨b1, 0, none⟩))), (2, (.pointer (some ⟨b5, 0, none⟩))), (53, (.slice a_r115 (s122.set ((i123 : Int)).toNat ({ x149 with Cols := r148 })).length c_r115)), (54, (.int .i64 (r115.length : Int))), (55, (.int .i64 ((i123 + 1 : Nat) : Int)))]) (En.round ⟨I150, C157, rfl, ((L121.trans L146).trans L151), S166, ho158⟩) (Sub.cons z (Sub.cons z (Sub.cons z (Sub.cons z (Sub.cons z Sub.nil)))))
    case lastt119 =>
      rintro _ w167 ⟨I120, C_s122, rfl, L121, S168, h_s122⟩
      refine W.seq ?_
      refine W.region (l := [0]) kr ?_
      refine ya [(0, 56, (.bool (decide ((r115.length : Int) < (r115.length : Int)))))] kr (fun _ => by kernel_rfl) ?_
      refine yc ?_
      refine yb ?_
      refine W.seq ?_
      refine W.cond (b := (decide ((r115.length : Int) < (r115.length : Int)))) z z (fun K => ?_) (fun K => ?_)
      · exact absurd K (by first | (simp; done) | (simp; omega))
      clear K
      refine W.exit ?_
      refine yw ?_
      refine yx ?_
      refine y0 ?_
      refine yb ?_
      refine W.seq ?_
      refine W.region (l := [0, 1]) kr ?_
      refine yp z kr kr z ((cs_qT ({ p0 with Cols := r14, Cons := s34, Idx := s122 }) (⟨⟨a_r14, c_r14⟩, ⟨a_r27, c_r27⟩, ⟨a_r115, c_r115⟩⟩ : W_qT))) kr (fun w' hw' => cells_one ((rd_f (S168.rd (List.Mem.head _))) w' hw') kr) ?_
      have S169 := S168.front3
      obtain ⟨I170, L171, S173, hp172⟩ := yab (h_s34.mono (L113.trans L121)) S169
      have S174 := S173.front2
      obtain ⟨I175, L176, S178, hp177⟩ := yab (h_s122.mono L171) S174
      have S179 := S178.front1
      refine yr S179 z kr z 0 z z kr kr kr ((cs_qT ({ p0 with Cols := r14, Cons := s34, Idx := s122 }) (⟨⟨a_r14, c_r14⟩, ⟨a_r27, c_r27⟩, ⟨a_r115, c_r115⟩⟩ : W_qT)).toArray) kr tv ?_
      intro w181 S180
      refine yc ?_
      refine yb ?_
      refine ym ?_
      have S182 := S180.drop
      have S183 := S182.drop
      have hk184 : ok_qT I175 ({ p0 with Cols := r14, Cons := s34, Idx := s122 }) (⟨⟨a_r14, c_r14⟩, ⟨a_r27, c_r27⟩, ⟨a_r115, c_r115⟩⟩ : W_qT) := ⟨(RSl.mono hp17 (((((L25.trans L33).trans L113).trans L121).trans L171).trans L176)), (RSl.mono hp172 L176), hp177⟩
      have he := Option.some.inj G
      subst r
      exact yan z (.agg (cs_qT ({ p0 with Cols := r14, Cons := s34, Idx := s122 }) (⟨⟨a_r14, c_r14⟩, ⟨a_r27, c_r27⟩, ⟨a_r115, c_r115⟩⟩ : W_qT)).toArray) ⟨_, _, rfl, run_loadVarN (cs := (cs_qT ({ p0 with Cols := r14, Cons := s34, Idx := s122 }) (⟨⟨a_r14, c_r14⟩, ⟨a_r27, c_r27⟩, ⟨a_r115, c_r115⟩⟩ : W_qT))) kr kr (cells_one (S180.rd (List.Mem.head _)) kr)⟩ ⟨I175, (⟨⟨a_r14, c_r14⟩, ⟨a_r27, c_r27⟩, ⟨a_r115, c_r115⟩⟩ : W_qT), rfl, (((((((L12.trans L16).trans L25).trans L33).trans L113).trans L121).trans L171).trans L176), S183, hk184⟩
def catalog_Find_1 (p0 : qT) (q1 : By8) : Option Bool := some (sEq p0.Name q1)
theorem catalog_Find_1_ok {p0 : qT} {q1 : By8} {w_p0 : W_qT} {kb1 : Nat} (h_p0 : ok_qT I p0 w_p0) (hm1 : (Gv.one kb1 (.cells #[(.string q1)] 9 (0, 0))) ∈ Os) (hS : St E w I Os) {r : Bool} (G : catalog_Find_1 p0 q1 = some r) :
    Calls P 45 #[(vT p0 w_p0), (.pointer (some ⟨kb1, 0, none⟩))] w (fun e w' => ∃ (I' : Mem), e = .returned (.bool r) ∧ I.Le I' ∧ St E w' I' Os) := by
  refine calls_W (args := [(vT p0 w_p0), (.pointer (some ⟨kb1, 0, none⟩))]) (fn := Try.f45) rfl rfl rfl ?_
  unfold catalog_Find_1 at G
  refine W.seq ?_
  refine W.region (l := [0, 1]) kr ?_
  refine yu hS z kr z (.cells (cs_qT p0 w_p0).toArray 64 (0, 0)) (fun b => .pointer (some ⟨b, 0, none⟩)) kr tv ?_
  intro b1 w4 S3
  refine ya [(1, 3, (.bool false))] kr (fun _ => by kernel_rfl) ?_
  refine yc ?_
  refine yb ?_
  refine W.seq ?_
  refine W.region (l := [0, 1, 2, 3, 4]) kr ?_
  refine ya [(0, 4, (.pointer (some ⟨b1, 0, none⟩)))] kr (fun _ => by kernel_rfl) ?_
  refine yf z kr kr z (v := (.string p0.Name)) (fun w' hw' => cell_one ((rd_f (S3.rd (List.Mem.head _))) w' hw') kr) ?_
  refine yf z kr kr z (v := (.string q1)) (fun w' hw' => cell_one ((rd_f (S3.rd (List.Mem.tail _ hm1))) w' hw') kr) ?_
  refine ya [(3, 7, (.bool (sEq p0.Name q1))), (4, 3, (.bool (sEq p0.Name q1)))] kr (fun _ => by kernel_rfl) ?_
  refine yc ?_
  refine yb ?_
  refine ym ?_
  have S5 := S3.drop
  have he := Option.some.inj G
  subst r
  exact yl z (.bool (sEq p0.Name q1)) z ⟨I, rfl, Mem.Le.refl _, S5⟩
noncomputable def catalog_Find (p0 : qC) (p1 : By8) : Option (qT × Bool) := (slices_IndexFunc_qT p0.Tables (fun (u0 : qT) => catalog_Find_1 u0 p1)).bind (fun (r18 : Int) => (bif (decide (r18 ≥ 0)) then (idx p0.Tables r18).bind (fun (x19 : qT) => (table_Clone x19).bind (fun (r25 : qT) => some (r25, true))) else some (z_qT, false)))
theorem catalog_Find_ok {p0 : qC} {p1 : By8} {w_p0 : W_qC} (h_p0 : ok_qC I p0 w_p0) (hS : St E w I Os) {r : qT × Bool} (G : catalog_Find p0 p1 = some r) :
    Calls P 35 #[(vC p0 w_p0), (.string p1)] w (fun e w' => ∃ (I' : Mem) (w_rw0 : W_qT), e = .returned (.tuple #[(vT r.1 w_rw0), (.bool r.2)]) ∧ I.Le I' ∧ St E w' I' Os ∧ ok_qT I' r.1 w_rw0) := by
  refine calls_W (args := [(vC p0 w_p0), (.string p1)]) (fn := Try.f35) rfl rfl rfl ?_
  unfold catalog_Find at G
  refine W.seq ?_
  refine W.region (l := [0, 1, 2, 3]) kr ?_
  refine yu hS z kr z (.cells (cs_qC p0 w_p0).toArray 36 (0, 0)) (fun b => .pointer (some ⟨b, 0, none⟩)) kr tv ?_
  intro b1 w4 S3
  refine yu S3 z kr z (.cells #[(.string p1)] 9 (0, 0)) (fun b => .pointer (some ⟨b, 0, none⟩)) kr tv ?_
  intro b5 w8 S7
  refine yu S7 z kr z (.cells (cs_qT z_qT zw_qT).toArray 64 (0, 0)) (fun b => .pointer (some ⟨b, 0, none⟩)) kr tv ?_
  intro b9 w12 S11
  refine ya [(3, 5, (.bool false))] kr (fun _ => by kernel_rfl) ?_
  refine yc ?_
  refine yb ?_
  refine W.seq ?_
  refine W.seq ?_
  refine W.region (l := [0, 1, 2, 3, 4]) kr ?_
  refine ya [(0, 7, (.pointer (some ⟨b1, 1, none⟩)))] kr (fun _ => by kernel_rfl) ?_
  refine yf z kr kr z (v := (.slice w_p0.Tables.a p0.Tables.length w_p0.Tables.c)) (fun w' hw' => cell_one ((rd_f (S11.rd (List.Mem.tail _ (List.Mem.tail _ (List.Mem.head _))))) w' hw') kr) ?_
  refine ya [(2, 9, (.func (.func 45) #[] #[(.pointer (some ⟨b5, 0, none⟩))]))] kr (fun _ => by kernel_rfl) ?_
  obtain ⟨r18, Xr13, G⟩ := bind_some G
  refine yj z kr z (f := 44) (args := #[(.slice w_p0.Tables.a p0.Tables.length w_p0.Tables.c), (.func (.func 45) #[] #[(.pointer (some ⟨b5, 0, none⟩))])]) kr (slices_IndexFunc_qT_ok h_p0.Tables (fun {F Ic wc} {_} {_} hlc hSc h_u0 {rc} hrc => catalog_Find_1_ok h_u0 (List.mem_append_right _ (List.Mem.tail _ (List.Mem.head _))) hSc hrc) (fun _ _ => by kernel_rfl) S11 Xr13) ?_
  rintro _ w14 ⟨I15, rfl, L16, S17⟩
  refine ⟨_, rfl, trivial, ?_⟩
  refine ya [(4, 6, (.int .i64 r18))] kr (fun _ => by kernel_rfl) ?_
  refine yc ?_
  refine yb ?_
  refine W.seq ?_
  refine W.region (l := [0, 1]) kr ?_
  refine ya [(0, 11, (.int .i64 r18)), (1, 12, (.bool (decide (r18 ≥ 0))))] kr (fun _ => by kernel_rfl) ?_
  refine yc ?_
  refine yb ?_
  refine W.cond (b := (decide (r18 ≥ 0))) z z (fun K => ?_) (fun K => ?_)
  · replace G := cond_t K G
    refine W.seq ?_
    refine W.region (l := [0, 1, 2, 3, 4, 5, 6, 7]) kr ?_
    refine ya [(0, 13, (.pointer (some ⟨b1, 1, none⟩)))] kr (fun _ => by kernel_rfl) ?_
    refine yf z kr kr z (v := (.slice w_p0.Tables.a p0.Tables.length w_p0.Tables.c)) (fun w' hw' => cell_one ((rd_f (S17.rd (List.Mem.tail _ (List.Mem.tail _ (List.Mem.head _))))) w' hw') kr) ?_
    refine ya [(2, 15, (.int .i64 r18))] kr (fun _ => by kernel_rfl) ?_
    obtain ⟨x19, Xx19, G⟩ := bind_some G
    obtain ⟨h0_x19, h1_x19, Xx19⟩ := idx_some Xx19
    obtain ⟨ha_x19, cs_x19, hn_x19, hr_x19, Zx19⟩ := ((RSl.mono h_p0.Tables L16)).el _ _ Xx19
    obtain ⟨w_x19, rfl, h_x19⟩ := hr_x19
    refine yh (e := 64) (sz := 6) z kr kr kr z ha_x19 z h0_x19 h1_x19 ?_
    refine yp z kr kr z ((cs_qT x19 w_x19)) kr (fun w' hw' => Zx19.cells (k := 0) kr z ((rd_f S17.im) w' hw')) ?_
    obtain ⟨r25, Xr20, G⟩ := bind_some G
    refine yj z kr z (f := 46) (args := #[(vT x19 w_x19)]) kr (table_Clone_ok h_x19 S17 Xr20) ?_
    rintro _ w21 ⟨I22, w_r25, rfl, L23, S24, h_r25⟩
    refine ⟨_, rfl, trivial, ?_⟩
    refine yr S24 z kr z 0 z z kr kr kr ((cs_qT r25 w_r25).toArray) kr tv ?_
    intro w27 S26
    refine ya [(7, 5, (.bool true))] kr (fun _ => by kernel_rfl) ?_
    refine yc ?_
    refine yb ?_
    refine ym ?_
    refine yg ?_
    have S28 := S26.drop
    have S29 := S28.drop
    have S30 := S29.drop
    have he := Option.some.inj G
    subst r
    exact yao z (vT r25 w_r25) (.bool true) ⟨_, _, rfl, run_loadVarN (cs := (cs_qT r25 w_r25)) kr kr (cells_one (S26.rd (List.Mem.head _)) kr)⟩ rfl ⟨I22, w_r25, rfl, (L16.trans L23), S30, h_r25⟩
  · replace G := cond_f K G
    refine W.skip ?_
    refine yb ?_
    refine W.seq ?_
    refine W.region (l := [0, 1, 2]) kr ?_
    refine ya [(0, 19, (vT z_qT zw_qT))] kr (fun _ => by kernel_rfl) ?_
    refine yr S17 z kr z 0 z z kr kr kr ((cs_qT z_qT zw_qT).toArray) kr tv ?_
    intro w32 S31
    refine ya [(2, 5, (.bool false))] kr (fun _ => by kernel_rfl) ?_
    refine yc ?_
    refine yb ?_
    refine ym ?_
    have S33 := S31.drop
    have S34 := S33.drop
    have S35 := S34.drop
    have he := Option.some.inj G
    subst r
    exact yao z (vT z_qT zw_qT) (.bool false) ⟨_, _, rfl, run_loadVarN (cs := (cs_qT z_qT zw_qT)) kr kr (cells_one (S31.rd (List.Mem.head _)) kr)⟩ rfl ⟨I15, zw_qT, rfl, L16, S35, zok_qT⟩
noncomputable def chain_missing (p0 : qC) (p1 : qC) : Option (List By8) := (forE (fun (i13 : Nat) (s12 : List By8) => (idx p0.Tables (i13 : Int)).bind (fun (x25 : qT) => (catalog_Find p1 x25.Name).bind (fun ((r37, r38) : qT × Bool) => ((bif (((!r38) || (r37.Version != x25.Version)) || (!sEq r37.Owner x25.Owner)) then (app 16 s12 ([x25.Name] : List By8)).bind (fun (x61 : List By8) => some x61) else some s12)).bind (fun (j49 : List By8) => some j49)))) p0.Tables.length 0 ([] : List By8)).bind (fun (s12 : (List By8)) => some s12)
theorem chain_missing_ok {p0 : qC} {p1 : qC} {w_p0 : W_qC} {w_p1 : W_qC} (h_p0 : ok_qC I p0 w_p0) (h_p1 : ok_qC I p1 w_p1) (hS : St E w I Os) {r : (List By8)} (G : chain_missing p0 p1 = some r) :
    Calls P 24 #[(vC p0 w_p0), (vC p1 w_p1)] w (fun e w' => ∃ (I' : Mem) (ra0 : Option Addr) (rc0 : Nat) (rC0 : Mem), e = .returned (.slice ra0 r.length rc0) ∧ I.Le I' ∧ St E w' I' (rC0 :: Os) ∧ OwnSl 9 1 RStr I' rC0 ra0 rc0 r) := by
  refine calls_W (args := [(vC p0 w_p0), (vC p1 w_p1)]) (fn := Try.f24) rfl rfl rfl ?_
  unfold chain_missing at G
  refine W.seq ?_
  refine W.region (l := [0, 1, 2]) kr ?_
  refine yu hS z kr z (.cells (cs_qC p0 w_p0).toArray 36 (0, 0)) (fun b => .pointer (some ⟨b, 0, none⟩)) kr tv ?_
  intro b1 w4 S3
  refine yu S3 z kr z (.cells (cs_qC p1 w_p1).toArray 36 (0, 0)) (fun b => .pointer (some ⟨b, 0, none⟩)) kr tv ?_
  intro b5 w8 S7
  refine ya [(2, 4, (.slice none 0 0))] kr (fun _ => by kernel_rfl) ?_
  refine yc ?_
  refine yb ?_
  refine W.seq ?_
  refine W.region (l := [0]) kr ?_
  refine ya [(0, 5, (.slice none 0 0))] kr (fun _ => by kernel_rfl) ?_
  refine yc ?_
  refine yb ?_
  refine W.seq ?_
  refine W.seq ?_
  refine W.region (l := [0, 1, 2, 3]) kr ?_
  refine ya [(0, 10, (.pointer (some ⟨b1, 1, none⟩)))] kr (fun _ => by kernel_rfl) ?_
  refine yf z kr kr z (v := (.slice w_p0.Tables.a p0.Tables.length w_p0.Tables.c)) (fun w' hw' => cell_one ((rd_f (S7.rd (List.Mem.tail _ (List.Mem.head _)))) w' hw') kr) ?_
  refine ya [(2, 12, (.int .i64 (p0.Tables.length : Int))), (3, 13, (.int .i64 0))] kr (fun _ => by kernel_rfl) ?_
  refine yc ?_
  refine yb ?_
  refine yq ?_
  obtain ⟨s12, hloop14, G⟩ := bind_some G
  have S16 := S7.no
  have S17 := S16.front2
  have S18 := S17.drop
  have S19 := S18.front1
  have hlt23 := (h_p0.Tables).len_lt
  refine W.weaken (fr' := [(3, (.pointer (some ⟨b5, 0, none⟩))), (5, (.slice none ([] : List By8).length 0)), (11, (.slice w_p0.Tables.a p0.Tables.length w_p0.Tables.c)), (12, (.int .i64 (p0.Tables.length : Int))), (13, (.int .i64 ((0 : Nat) : Int)))]) (W.forE (m := p0.Tables.length) hloop14 (fun (i13 : Nat) (s12 : List By8) fr w => ∃ (I10 : Mem), ∃ (a_s12 : Option Addr), ∃ (c_s12 : Nat), ∃ (C_s12 : Mem), fr = [(3, (.pointer (some ⟨b5, 0, none⟩))), (5, (.slice a_s12 s12.length c_s12)), (11, (.slice w_p0.Tables.a p0.Tables.length w_p0.Tables.c)), (12, (.int .i64 (p0.Tables.length : Int))), (13, (.int .i64 (i13 : Int)))] ∧ I.Le I10 ∧ St E w I10 ((Gv.one b5 (.cells (cs_qC p1 w_p1).toArray 36 (0, 0))) :: (C_s12) :: Os) ∧ OwnSl 9 1 RStr I10 C_s12 a_s12 c_s12 s12) ⟨I, none, 0, Mem.no, rfl, Mem.Le.refl _, S19, OwnSl.nil⟩ ?roundt9 ?lastt9) (Sub.cons z (Sub.cons z (Sub.cons z (Sub.cons z (Sub.cons z Sub.nil)))))
  case roundt9 =>
    rintro i13 s12 _ w20 hi24 ⟨I10, a_s12, c_s12, C_s12, rfl, L11, S21, h_s12⟩ x22 R1
    refine W.seq ?_
    refine W.region (l := [0]) kr ?_
    refine ya [(0, 14, (.bool (decide ((i13 : Int) < (p0.Tables.length : Int)))))] kr (fun _ => by kernel_rfl) ?_
    refine yc ?_
    refine yb ?_
    refine W.seq ?_
    refine W.cond (b := (decide ((i13 : Int) < (p0.Tables.length : Int)))) z z (fun K => ?_) (fun K => ?_)
    rotate_left
    · exact absurd K (by first | (simp; done) | (simp; omega))
    clear K
    refine W.skip ?_
    refine yb ?_
    refine W.seq ?_
    refine yq ?_
    refine W.seq ?_
    refine W.region (l := [0, 1, 2, 3]) kr ?_
    obtain ⟨x25, Xx25, R1⟩ := bind_some R1
    obtain ⟨h0_x25, h1_x25, Xx25⟩ := idx_some Xx25
    obtain ⟨ha_x25, cs_x25, hn_x25, hr_x25, Zx25⟩ := ((RSl.mono h_p0.Tables L11)).el _ _ Xx25
    obtain ⟨w_x25, rfl, h_x25⟩ := hr_x25
    refine yh (e := 64) (sz := 6) z kr kr kr z ha_x25 z h0_x25 h1_x25 ?_
    refine yp z kr kr z ((cs_qT x25 w_x25)) kr (fun w' hw' => Zx25.cells (k := 0) kr z ((rd_f S21.im) w' hw')) ?_
    refine yu S21 z kr z (.cells (cs_qT z_qT zw_qT).toArray 64 (0, 0)) (fun b => .pointer (some ⟨b, 0, none⟩)) kr tv ?_
    intro b26 w29 S28
    refine yr S28 z kr z 0 z z kr kr kr ((cs_qT x25 w_x25).toArray) kr tv ?_
    intro w31 S30
    refine yc ?_
    refine yb ?_
    refine W.seq ?_
    refine W.region (l := [0, 1, 2, 3, 4, 5, 6, 7, 8, 9]) kr ?_
    refine yp z kr kr z ((cs_qC p1 w_p1)) kr (fun w' hw' => cells_one ((rd_f (S30.rd (List.Mem.tail _ (List.Mem.head _)))) w' hw') kr) ?_
    refine ya [(1, 19, (.pointer (some ⟨b26, 0, none⟩)))] kr (fun _ => by kernel_rfl) ?_
    refine yf z kr kr z (v := (.string x25.Name)) (fun w' hw' => cell_one ((rd_f (S30.rd (List.Mem.head _))) w' hw') kr) ?_
    obtain ⟨⟨r37, r38⟩, Xr32, R1⟩ := bind_some R1
    refine yj z kr z (f := 35) (args := #[(vC p1 w_p1), (.string x25.Name)]) kr (catalog_Find_ok (h_p1.mono L11) S30 Xr32) ?_
    rintro _ w33 ⟨I34, w_r37, rfl, L35, S36, h_r37⟩
    refine ⟨_, rfl, trivial, ?_⟩
    refine ya [(4, 17, (.tuple #[(vT r37 w_r37), (.bool r38)])), (5, 22, (vT r37 w_r37)), (6, 23, (.bool r38))] kr (fun _ => by kernel_rfl) ?_
    refine yu S36 z kr z (.cells (cs_qT z_qT zw_qT).toArray 64 (0, 0)) (fun b => .pointer (some ⟨b, 0, none⟩)) kr tv ?_
    intro b39 w42 S41
    refine yr S41 z kr z 0 z z kr kr kr ((cs_qT r37 w_r37).toArray) kr tv ?_
    intro w44 S43
    refine ya [(9, 9, (.bool r38))] kr (fun _ => by kernel_rfl) ?_
    refine yc ?_
    refine yb ?_
    refine W.seq ?_
    refine W.region (l := [0, 1, 2, 3, 4, 5, 6, 7, 8, 9, 10, 11, 12, 13, 14, 15]) kr ?_
    refine ya [(0, 24, (.bool r38)), (1, 25, (.bool (!r38))), (2, 26, (.bool (!r38)))] kr (fun _ => by kernel_rfl) ?_
    refine WO.join (l1 := [3, 4, 5, 6, 7, 8]) (l2 := [9, 10, 11, 12, 13, 14, 15]) (J := fun frx wx => frx = [(32, (.bool ((!r38) || (r37.Version != x25.Version)))), (3, (.pointer (some ⟨b5, 0, none⟩))), (5, (.slice a_s12 s12.length c_s12)), (7, (.pointer (some ⟨b26, 0, none⟩))), (8, (.pointer (some ⟨b39, 0, none⟩))), (11, (.slice w_p0.Tables.a p0.Tables.length w_p0.Tables.c)), (12, (.int .i64 (p0.Tables.length : Int))), (13, (.int .i64 (i13 : Int)))] ∧ w44 = wx) ?restm45 ?waysm45
    case waysm45 =>
      refine yt (!r38) (fun K => ?_) (fun K => ?_)
      · skip
        refine ye 26 z (show Value.bool (!r38) = Value.bool true by rw [K]) ?_
        refine yd z kr z ?_
        refine yd z kr z ?_
        refine yd z kr z ?_
        refine yd z kr z ?_
        refine yd z kr z ?_
        refine ya [(8, 32, (.bool true))] kr (fun _ => by kernel_rfl) ?_
        refine WO.weaken (fr' := [(32, (.bool ((!r38) || (r37.Version != x25.Version)))), (3, (.pointer (some ⟨b5, 0, none⟩))), (5, (.slice a_s12 s12.length c_s12)), (7, (.pointer (some ⟨b26, 0, none⟩))), (8, (.pointer (some ⟨b39, 0, none⟩))), (11, (.slice w_p0.Tables.a p0.Tables.length w_p0.Tables.c)), (12, (.int .i64 (p0.Tables.length : Int))), (13, (.int .i64 (i13 : Int)))]) (yi ⟨rfl, rfl⟩) (Sub.cons (by rw [K]; rfl) (Sub.cons z (Sub.cons z (Sub.cons z (Sub.cons z (Sub.cons z (Sub.cons z (Sub.cons z Sub.nil))))))))
      · skip
        refine ye 26 z (show Value.bool (!r38) = Value.bool false by rw [K]) ?_
        refine ya [(3, 27, (.pointer (some ⟨b39, 2, none⟩)))] kr (fun _ => by kernel_rfl) ?_
        refine yf z kr kr z (v := (.int .i64 r37.Version)) (fun w' hw' => cell_one ((rd_f (S43.rd (List.Mem.head _))) w' hw') kr) ?_
        refine ya [(5, 29, (.pointer (some ⟨b26, 2, none⟩)))] kr (fun _ => by kernel_rfl) ?_
        refine yf z kr kr z (v := (.int .i64 x25.Version)) (fun w' hw' => cell_one ((rd_f (S43.rd (List.Mem.tail _ (List.Mem.head _)))) w' hw') kr) ?_
        refine ya [(7, 31, (.bool (r37.Version != x25.Version))), (8, 32, (.bool (r37.Version != x25.Version)))] kr (fun _ => by kernel_rfl) ?_
        refine WO.weaken (fr' := [(32, (.bool ((!r38) || (r37.Version != x25.Version)))), (3, (.pointer (some ⟨b5, 0, none⟩))), (5, (.slice a_s12 s12.length c_s12)), (7, (.pointer (some ⟨b26, 0, none⟩))), (8, (.pointer (some ⟨b39, 0, none⟩))), (11, (.slice w_p0.Tables.a p0.Tables.length w_p0.Tables.c)), (12, (.int .i64 (p0.Tables.length : Int))), (13, (.int .i64 (i13 : Int)))]) (yi ⟨rfl, rfl⟩) (Sub.cons (by rw [K]; rfl) (Sub.cons z (Sub.cons z (Sub.cons z (Sub.cons z (Sub.cons z (Sub.cons z (Sub.cons z Sub.nil))))))))
    case restm45 =>
      rintro _ _ ⟨rfl, rfl⟩
      refine ya [(9, 33, (.bool ((!r38) || (r37.Version != x25.Version))))] kr (fun _ => by kernel_rfl) ?_
      refine WO.join (l1 := [10, 11, 12, 13, 14, 15]) (l2 := []) (J := fun frx wx => frx = [(39, (.bool (((!r38) || (r37.Version != x25.Version)) || (!sEq r37.Owner x25.Owner)))), (3, (.pointer (some ⟨b5, 0, none⟩))), (5, (.slice a_s12 s12.length c_s12)), (7, (.pointer (some ⟨b26, 0, none⟩))), (11, (.slice w_p0.Tables.a p0.Tables.length w_p0.Tables.c)), (12, (.int .i64 (p0.Tables.length : Int))), (13, (.int .i64 (i13 : Int)))] ∧ w44 = wx) ?restm47 ?waysm47
      case waysm47 =>
        refine yt ((!r38) || (r37.Version != x25.Version)) (fun K => ?_) (fun K => ?_)
        · skip
          refine ye 33 z (show Value.bool ((!r38) || (r37.Version != x25.Version)) = Value.bool true by rw [K]) ?_
          refine yd z kr z ?_
          refine yd z kr z ?_
          refine yd z kr z ?_
          refine yd z kr z ?_
          refine yd z kr z ?_
          refine ya [(15, 39, (.bool true))] kr (fun _ => by kernel_rfl) ?_
          refine WO.weaken (fr' := [(39, (.bool (((!r38) || (r37.Version != x25.Version)) || (!sEq r37.Owner x25.Owner)))), (3, (.pointer (some ⟨b5, 0, none⟩))), (5, (.slice a_s12 s12.length c_s12)), (7, (.pointer (some ⟨b26, 0, none⟩))), (11, (.slice w_p0.Tables.a p0.Tables.length w_p0.Tables.c)), (12, (.int .i64 (p0.Tables.length : Int))), (13, (.int .i64 (i13 : Int)))]) (yi ⟨rfl, rfl⟩) (Sub.cons (by rw [K]; rfl) (Sub.cons z (Sub.cons z (Sub.cons z (Sub.cons z (Sub.cons z (Sub.cons z Sub.nil)))))))
        · skip
          refine ye 33 z (show Value.bool ((!r38) || (r37.Version != x25.Version)) = Value.bool false by rw [K]) ?_
          refine ya [(10, 34, (.pointer (some ⟨b39, 1, none⟩)))] kr (fun _ => by kernel_rfl) ?_
          refine yf z kr kr z (v := (.string r37.Owner)) (fun w' hw' => cell_one ((rd_f (S43.rd (List.Mem.head _))) w' hw') kr) ?_
          refine ya [(12, 36, (.pointer (some ⟨b26, 1, none⟩)))] kr (fun _ => by kernel_rfl) ?_
          refine yf z kr kr z (v := (.string x25.Owner)) (fun w' hw' => cell_one ((rd_f (S43.rd (List.Mem.tail _ (List.Mem.head _)))) w' hw') kr) ?_
          refine ya [(14, 38, (.bool (!sEq r37.Owner x25.Owner))), (15, 39, (.bool (!sEq r37.Owner x25.Owner)))] kr (fun _ => by kernel_rfl) ?_
          refine WO.weaken (fr' := [(39, (.bool (((!r38) || (r37.Version != x25.Version)) || (!sEq r37.Owner x25.Owner)))), (3, (.pointer (some ⟨b5, 0, none⟩))), (5, (.slice a_s12 s12.length c_s12)), (7, (.pointer (some ⟨b26, 0, none⟩))), (11, (.slice w_p0.Tables.a p0.Tables.length w_p0.Tables.c)), (12, (.int .i64 (p0.Tables.length : Int))), (13, (.int .i64 (i13 : Int)))]) (yi ⟨rfl, rfl⟩) (Sub.cons (by rw [K]; rfl) (Sub.cons z (Sub.cons z (Sub.cons z (Sub.cons z (Sub.cons z (Sub.cons z Sub.nil)))))))
      case restm47 =>
        rintro _ _ ⟨rfl, rfl⟩
        refine yc ?_
        refine yb ?_
        obtain ⟨j49, R2, R1⟩ := bind_some R1
        refine W.join (J := (fun fr w => ∃ (I51 : Mem), ∃ (a_j49 : Option Addr), ∃ (c_j49 : Nat), ∃ (C_j49 : Mem), fr = [(3, (.pointer (some ⟨b5, 0, none⟩))), (5, (.slice a_j49 j49.length c_j49)), (11, (.slice w_p0.Tables.a p0.Tables.length w_p0.Tables.c)), (12, (.int .i64 (p0.Tables.length : Int))), (13, (.int .i64 (i13 : Int)))] ∧ I34.Le I51 ∧ St E w I51 ((Gv.one b5 (.cells (cs_qC p1 w_p1).toArray 36 (0, 0))) :: (C_j49) :: Os) ∧ OwnSl 9 1 RStr I51 C_j49 a_j49 c_j49 j49)) ?restj49 ?waysj49
        case waysj49 =>
          refine W.cond (b := (((!r38) || (r37.Version != x25.Version)) || (!sEq r37.Owner x25.Owner))) z z (fun K => ?_) (fun K => ?_)
          · replace R2 := cond_t K R2
            refine W.region (l := [0, 1, 2, 3, 4, 5]) kr ?_
            refine ya [(0, 40, (.slice a_s12 s12.length c_s12)), (1, 41, (.pointer (some ⟨b26, 0, none⟩)))] kr (fun _ => by kernel_rfl) ?_
            refine yf z kr kr z (v := (.string x25.Name)) (fun w' hw' => cell_one ((rd_f (S43.rd (List.Mem.tail _ (List.Mem.head _)))) w' hw') kr) ?_
            refine yac (rel := RStr) (xs := ([x25.Name] : List By8)) S43 z kr z 9 1 [[(.string x25.Name)]] kr z ((Elr.cons z Elr.nil)) tv ?_
            intro a56 C54 w58 S57 ho55
            have S60 := S57.front4
            obtain ⟨x61, Xx61, R2⟩ := bind_some R2
            obtain ⟨h0_x61, he_x61⟩ := app_some Xx61
            refine yad (e' := 9) (b := 16) (zs := #[(.string eB)]) S60 (OwnSl.mono h_s12 L35) z kr z kr kr kr z z z z ho55.sl (S60.rd (List.Mem.tail _ (List.Mem.head _))) h0_x61 he_x61 tv ?_
            intro a62 c63 w65 C66 S67 ho68
            have S69 := S67.front1
            have S70 := S69.drop
            refine ya [(5, 5, (.slice a62 x61.length c63))] kr (fun _ => by kernel_rfl) ?_
            refine yc ?_
            have S71 := S70.front1
            have S72 := S71.drop
            have S73 := S72.front1
            have S74 := S73.drop
            have S75 := S74.front1
            have he := Option.some.inj R2
            subst j49
            refine En.weaken (fr' := [(3, (.pointer (some ⟨b5, 0, none⟩))), (5, (.slice a62 x61.length c63)), (11, (.slice w_p0.Tables.a p0.Tables.length w_p0.Tables.c)), (12, (.int .i64 (p0.Tables.length : Int))), (13, (.int .i64 (i13 : Int)))]) (En.round ⟨I34, a62, c63, C66, rfl, Mem.Le.refl _, S75, ho68⟩) (Sub.cons z (Sub.cons z (Sub.cons z (Sub.cons z (Sub.cons z Sub.nil)))))
          · replace R2 := cond_f K R2
            refine W.skip ?_
            have S76 := S43.drop
            have S77 := S76.drop
            have he := Option.some.inj R2
            subst j49
            refine En.weaken (fr' := [(3, (.pointer (some ⟨b5, 0, none⟩))), (5, (.slice a_s12 s12.length c_s12)), (11, (.slice w_p0.Tables.a p0.Tables.length w_p0.Tables.c)), (12, (.int .i64 (p0.Tables.length : Int))), (13, (.int .i64 (i13 : Int)))]) (En.round ⟨I34, a_s12, c_s12, C_s12, rfl, Mem.Le.refl _, S77, (OwnSl.mono h_s12 L35)⟩) (Sub.cons z (Sub.cons z (Sub.cons z (Sub.cons z (Sub.cons z Sub.nil)))))
        case restj49 =>
          rintro _ w78 ⟨I51, a_j49, c_j49, C_j49, rfl, L52, S79, h_j49⟩
          refine yo ?_
          refine yb ?_
          refine W.region (l := [0, 1]) kr ?_
          refine y9 (j := i13) z kr z (by first | omega | (dsimp only at *; omega) | (simp only [List.length_cons, List.length_nil] at *; omega)) ?_
          refine ya [(1, 13, (.int .i64 ((i13 + 1 : Nat) : Int)))] kr (fun _ => by kernel_rfl) ?_
          refine yc ?_
          have he := Option.some.inj R1
          subst x22
          refine En.weaken (fr' := [(3, (.pointer (some ⟨b5, 0, none⟩))), (5, (.slice a_j49 j49.length c_j49)), (11, (.slice w_p0.Tables.a p0.Tables.length w_p0.Tables.c)), (12, (.int .i64 (p0.Tables.length : Int))), (13, (.int .i64 ((i13 + 1 : Nat) : Int)))]) (En.round ⟨I51, a_j49, c_j49, C_j49, rfl, ((L11.trans L35).trans L52), S79, h_j49⟩) (Sub.cons z (Sub.cons z (Sub.cons z (Sub.cons z (Sub.cons z Sub.nil)))))
  case lastt9 =>
    rintro _ w80 ⟨I10, a_s12, c_s12, C_s12, rfl, L11, S81, h_s12⟩
    refine W.seq ?_
    refine W.region (l := [0]) kr ?_
    refine ya [(0, 14, (.bool (decide ((p0.Tables.length : Int) < (p0.Tables.length : Int)))))] kr (fun _ => by kernel_rfl) ?_
    refine yc ?_
    refine yb ?_
    refine W.seq ?_
    refine W.cond (b := (decide ((p0.Tables.length : Int) < (p0.Tables.length : Int)))) z z (fun K => ?_) (fun K => ?_)
    · exact absurd K (by first | (simp; done) | (simp; omega))
    clear K
    refine W.exit ?_
    refine yw ?_
    refine yx ?_
    refine y0 ?_
    refine yb ?_
    refine W.seq ?_
    refine W.region (l := [0, 1]) kr ?_
    refine ya [(0, 46, (.slice a_s12 s12.length c_s12)), (1, 4, (.slice a_s12 s12.length c_s12))] kr (fun _ => by kernel_rfl) ?_
    refine yc ?_
    refine yb ?_
    refine ym ?_
    have S82 := S81.drop
    have he := Option.some.inj G
    subst r
    exact yl z (.slice a_s12 s12.length c_s12) z ⟨I10, a_s12, c_s12, C_s12, rfl, L11, S82, h_s12⟩
def slices_EqualFunc_qJ_l (p0 : List qJ) (p1 : List qJ) (p2 : qJ → qJ → Option Bool) : Option Bool := (bif ((p0.length : Int) != (p1.length : Int)) then some false else (forN (fun (i4 : Nat) (_s : Unit) => (idx p0 (i4 : Int)).bind (fun (x11 : qJ) => (idx p1 (i4 : Int)).bind (fun (x18 : qJ) => (p2 x11 x18).bind (fun (r30 : Bool) => (bif (!r30) then some (.inr false) else some (.inl ())))))) p0.length 0 ()).bind (fun (t : Unit ⊕ (Bool)) => match t with | .inl _ => some true | .inr s32 => some s32))
theorem slices_EqualFunc_qJ_l_ok {p0 : List qJ} {p1 : List qJ} {p2 : qJ → qJ → Option Bool} {a_p0 : Option Addr} {c_p0 : Nat} {a_p1 : Option Addr} {c_p1 : Nat} {g_p2 : FuncId} {k_p2 : List Value} (h_p0 : RSl 2 R_qJ I a_p0 c_p0 p0) (h_p1 : RSl 2 R_qJ I a_p1 c_p1 p1) (h_p2 : ∀ {F : List Mem} {I' : Mem} {w : World} {u0 : qJ} {w_u0 : W_qJ} {u1 : qJ} {w_u1 : W_qJ}, I.Le I' → St E w I' (F ++ Os) → ok_qJ I' u0 w_u0 → ok_qJ I' u1 w_u1 → ∀ {r : Bool}, p2 u0 u1 = some r → Calls P g_p2 (([(vJ u0 w_u0), (vJ u1 w_u1)] : List Value) ++ k_p2).toArray w (fun e w' => ∃ (I'' : Mem), e = .returned (.bool r) ∧ I'.Le I'' ∧ St E w' I'' (F ++ Os))) (hcall_p2 : Callable P g_p2) (hS : St E w I Os) {r : Bool} (G : slices_EqualFunc_qJ_l p0 p1 p2 = some r) :
    Calls P 36 #[(.slice a_p0 p0.length c_p0), (.slice a_p1 p1.length c_p1), (.func (.func g_p2) #[] k_p2.toArray)] w (fun e w' => ∃ (I' : Mem), e = .returned (.bool r) ∧ I.Le I' ∧ St E w' I' Os) := by
  refine calls_W (args := [(.slice a_p0 p0.length c_p0), (.slice a_p1 p1.length c_p1), (.func (.func g_p2) #[] k_p2.toArray)]) (fn := Try.f36) rfl rfl rfl ?_
  unfold slices_EqualFunc_qJ_l at G
  refine W.seq ?_
  refine W.region (l := [0]) kr ?_
  refine ya [(0, 6, (.bool false))] kr (fun _ => by kernel_rfl) ?_
  refine yc ?_
  refine yb ?_
  refine W.seq ?_
  refine W.seq ?_
  refine W.region (l := [0, 1, 2, 3, 4]) kr ?_
  refine ya [(0, 10, (.slice a_p0 p0.length c_p0)), (1, 11, (.int .i64 (p0.length : Int))), (2, 12, (.slice a_p1 p1.length c_p1)), (3, 13, (.int .i64 (p1.length : Int))), (4, 14, (.bool ((p0.length : Int) != (p1.length : Int))))] kr (fun _ => by kernel_rfl) ?_
  refine yc ?_
  refine yb ?_
  refine W.cond (b := ((p0.length : Int) != (p1.length : Int))) z z (fun K => ?_) (fun K => ?_)
  · replace G := cond_t K G
    refine W.seq ?_
    refine W.region (l := [0]) kr ?_
    refine ya [(0, 6, (.bool false))] kr (fun _ => by kernel_rfl) ?_
    refine yc ?_
    refine yb ?_
    refine ym ?_
    refine yg ?_
    have he := Option.some.inj G
    subst r
    exact yl z (.bool false) z ⟨I, rfl, Mem.Le.refl _, hS⟩
  · replace G := cond_f K G
    refine W.skip ?_
    refine yb ?_
    refine W.seq ?_
    refine W.seq ?_
    refine W.region (l := [0, 1, 2]) kr ?_
    refine ya [(0, 15, (.slice a_p0 p0.length c_p0)), (1, 16, (.int .i64 (p0.length : Int))), (2, 17, (.int .i64 0))] kr (fun _ => by kernel_rfl) ?_
    refine yc ?_
    refine yb ?_
    refine yq ?_
    obtain ⟨t1, hloop5, G⟩ := bind_some G
    have hlt9 := (h_p0).len_lt
    refine W.weaken (fr' := [(1, (.slice a_p1 p1.length c_p1)), (2, (.func (.func g_p2) #[] k_p2.toArray)), (15, (.slice a_p0 p0.length c_p0)), (16, (.int .i64 (p0.length : Int))), (17, (.int .i64 ((0 : Nat) : Int)))]) (yag (m := p0.length) hloop5 (fun (i4 : Nat) (_s : Unit) fr w => ∃ (I2 : Mem), fr = [(1, (.slice a_p1 p1.length c_p1)), (2, (.func (.func g_p2) #[] k_p2.toArray)), (15, (.slice a_p0 p0.length c_p0)), (16, (.int .i64 (p0.length : Int))), (17, (.int .i64 (i4 : Int)))] ∧ I.Le I2 ∧ St E w I2 Os) ⟨I, rfl, Mem.Le.refl _, hS⟩ ?roundt1 ?lastt1) (Sub.cons z (Sub.cons z (Sub.cons z (Sub.cons z (Sub.cons z Sub.nil)))))
    case roundt1 =>
      rintro i4 _ _ w6 hi10 ⟨I2, rfl, L3, S7⟩ x8 R1 hext1
      refine W.seq ?_
      refine W.region (l := [0]) kr ?_
      refine ya [(0, 18, (.bool (decide ((i4 : Int) < (p0.length : Int)))))] kr (fun _ => by kernel_rfl) ?_
      refine yc ?_
      refine yb ?_
      refine W.seq ?_
      refine W.cond (b := (decide ((i4 : Int) < (p0.length : Int)))) z z (fun K => ?_) (fun K => ?_)
      rotate_left
      · exact absurd K (by first | (simp; done) | (simp; omega))
      clear K
      refine W.skip ?_
      refine yb ?_
      refine W.seq ?_
      refine yq ?_
      refine W.seq ?_
      refine W.region (l := [0, 1, 2, 3, 4, 5]) kr ?_
      refine ya [(0, 19, (.int .i64 (i4 : Int)))] kr (fun _ => by kernel_rfl) ?_
      obtain ⟨x11, Xx11, R1⟩ := bind_some R1
      obtain ⟨h0_x11, h1_x11, Xx11⟩ := idx_some Xx11
      obtain ⟨ha_x11, cs_x11, hn_x11, hr_x11, Zx11⟩ := ((RSl.mono h_p0 L3)).el _ _ Xx11
      obtain ⟨w_x11, rfl, h_x11⟩ := hr_x11
      refine yh (e := 66) (sz := 2) z kr kr kr z ha_x11 z h0_x11 h1_x11 ?_
      refine yp z kr kr z ((cs_qJ x11 w_x11)) kr (fun w' hw' => Zx11.cells (k := 0) kr z ((rd_f S7.im) w' hw')) ?_
      refine yu S7 z kr z (.cells (cs_qJ z_qJ zw_qJ).toArray 66 (0, 0)) (fun b => .pointer (some ⟨b, 0, none⟩)) kr tv ?_
      intro b12 w15 S14
      refine ya [(4, 7, (.int .i64 (i4 : Int)))] kr (fun _ => by kernel_rfl) ?_
      refine yr S14 z kr z 0 z z kr kr kr ((cs_qJ x11 w_x11).toArray) kr tv ?_
      intro w17 S16
      refine yc ?_
      refine yb ?_
      refine W.seq ?_
      refine W.region (l := [0, 1, 2, 3, 4, 5]) kr ?_
      refine ya [(0, 22, (.slice a_p1 p1.length c_p1)), (1, 23, (.int .i64 (i4 : Int)))] kr (fun _ => by kernel_rfl) ?_
      obtain ⟨x18, Xx18, R1⟩ := bind_some R1
      obtain ⟨h0_x18, h1_x18, Xx18⟩ := idx_some Xx18
      obtain ⟨ha_x18, cs_x18, hn_x18, hr_x18, Zx18⟩ := ((RSl.mono h_p1 L3)).el _ _ Xx18
      obtain ⟨w_x18, rfl, h_x18⟩ := hr_x18
      refine yh (e := 66) (sz := 2) z kr kr kr z ha_x18 z h0_x18 h1_x18 ?_
      refine yp z kr kr z ((cs_qJ x18 w_x18)) kr (fun w' hw' => Zx18.cells (k := 0) kr z ((rd_f S16.im) w' hw')) ?_
      refine yu S16 z kr z (.cells (cs_qJ z_qJ zw_qJ).toArray 66 (0, 0)) (fun b => .pointer (some ⟨b, 0, none⟩)) kr tv ?_
      intro b19 w22 S21
      refine yr S21 z kr z 0 z z kr kr kr ((cs_qJ x18 w_x18).toArray) kr tv ?_
      intro w24 S23
      refine yc ?_
      refine yb ?_
      refine W.seq ?_
      refine W.region (l := [0, 1, 2, 3, 4]) kr ?_
      refine ya [(0, 26, (.func (.func g_p2) #[] k_p2.toArray))] kr (fun _ => by kernel_rfl) ?_
      refine yp z kr kr z ((cs_qJ x11 w_x11)) kr (fun w' hw' => cells_one ((rd_f (S23.rd (List.Mem.tail _ (List.Mem.head _)))) w' hw') kr) ?_
      refine yp z kr kr z ((cs_qJ x18 w_x18)) kr (fun w' hw' => cells_one ((rd_f (S23.rd (List.Mem.head _))) w' hw') kr) ?_
      obtain ⟨r30, Xr25, R1⟩ := bind_some R1
      refine WO.callv z kr z (g := g_p2) (kk := k_p2) (args := [(vJ x11 w_x11), (vJ x18 w_x18)]) z kr hcall_p2 (h_p2 (F := [Gv.one b19 (.cells (cs_qJ x18 w_x18).toArray 66 (0, 0)), Gv.one b12 (.cells (cs_qJ x11 w_x11).toArray 66 (0, 0))]) L3 S23 h_x11 h_x18 Xr25) ?_
      rintro _ w26 ⟨I27, rfl, L28, S29⟩
      refine ⟨_, rfl, trivial, ?_⟩
      refine ya [(4, 30, (.bool (!r30)))] kr (fun _ => by kernel_rfl) ?_
      refine yc ?_
      refine yb ?_
      refine W.cond (b := (!r30)) z z (fun K => ?_) (fun K => ?_)
      · replace R1 := cond_t K R1
        refine W.seq ?_
        refine W.region (l := [0]) kr ?_
        refine ya [(0, 6, (.bool false))] kr (fun _ => by kernel_rfl) ?_
        refine yc ?_
        refine yb ?_
        refine ym ?_
        refine yn ?_
        refine yg ?_
        refine y6 ?_
        have ht := hext1 _ (Option.some.inj R1).symm
        subst t1
        refine yn ?_
        refine yg ?_
        have S33 := S29.drop
        have S34 := S33.drop
        have he := Option.some.inj G
        subst r
        exact yl z (.bool false) z ⟨I27, rfl, (L3.trans L28), S34⟩
      · replace R1 := cond_f K R1
        refine W.skip ?_
        refine yo ?_
        refine yb ?_
        refine W.region (l := [0, 1]) kr ?_
        refine y9 (j := i4) z kr z (by first | omega | (dsimp only at *; omega) | (simp only [List.length_cons, List.length_nil] at *; omega)) ?_
        refine ya [(1, 17, (.int .i64 ((i4 + 1 : Nat) : Int)))] kr (fun _ => by kernel_rfl) ?_
        refine yc ?_
        have S35 := S29.drop
        have S36 := S35.drop
        refine En.weaken (fr' := [(1, (.slice a_p1 p1.length c_p1)), (2, (.func (.func g_p2) #[] k_p2.toArray)), (15, (.slice a_p0 p0.length c_p0)), (16, (.int .i64 (p0.length : Int))), (17, (.int .i64 ((i4 + 1 : Nat) : Int)))]) (En.round ⟨(), (Option.some.inj R1).symm, I27, rfl, (L3.trans L28), S36⟩) (Sub.cons z (Sub.cons z (Sub.cons z (Sub.cons z (Sub.cons z Sub.nil)))))
    case lastt1 =>
      rintro _ _ w37 ⟨I2, rfl, L3, S38⟩ he
      cases he
      refine W.seq ?_
      refine W.region (l := [0]) kr ?_
      refine ya [(0, 18, (.bool (decide ((p0.length : Int) < (p0.length : Int)))))] kr (fun _ => by kernel_rfl) ?_
      refine yc ?_
      refine yb ?_
      refine W.seq ?_
      refine W.cond (b := (decide ((p0.length : Int) < (p0.length : Int)))) z z (fun K => ?_) (fun K => ?_)
      · exact absurd K (by first | (simp; done) | (simp; omega))
      clear K
      refine W.exit ?_
      refine yw ?_
      refine yx ?_
      refine y0 ?_
      refine yb ?_
      refine W.seq ?_
      refine W.region (l := [0]) kr ?_
      refine ya [(0, 6, (.bool true))] kr (fun _ => by kernel_rfl) ?_
      refine yc ?_
      refine yb ?_
      refine ym ?_
      have he := Option.some.inj G
      subst r
      exact yl z (.bool true) z ⟨I2, rfl, L3, S38⟩
def slices_Equal_string (p0 : List By8) (p1 : List By8) : Option Bool := (bif ((p0.length : Int) != (p1.length : Int)) then some false else (forN (fun (i4 : Nat) (_s : Unit) => (idx p0 (i4 : Int)).bind (fun (x13 : By8) => (idx p1 (i4 : Int)).bind (fun (x14 : By8) => (bif (!sEq x13 x14) then some (.inr false) else some (.inl ()))))) p0.length 0 ()).bind (fun (t : Unit ⊕ (Bool)) => match t with | .inl _ => some true | .inr s16 => some s16))
theorem slices_Equal_string_ok {p0 : List By8} {p1 : List By8} {a_p0 : Option Addr} {c_p0 : Nat} {a_p1 : Option Addr} {c_p1 : Nat} (h_p0 : RSl 1 RStr I a_p0 c_p0 p0) (h_p1 : RSl 1 RStr I a_p1 c_p1 p1) (hS : St E w I Os) {r : Bool} (G : slices_Equal_string p0 p1 = some r) :
    Calls P 38 #[(.slice a_p0 p0.length c_p0), (.slice a_p1 p1.length c_p1)] w (fun e w' => ∃ (I' : Mem), e = .returned (.bool r) ∧ I.Le I' ∧ St E w' I' Os) := by
  refine calls_W (args := [(.slice a_p0 p0.length c_p0), (.slice a_p1 p1.length c_p1)]) (fn := Try.f38) rfl rfl rfl ?_
  unfold slices_Equal_string at G
  refine W.seq ?_
  refine W.region (l := [0]) kr ?_
  refine ya [(0, 4, (.bool false))] kr (fun _ => by kernel_rfl) ?_
  refine yc ?_
  refine yb ?_
  refine W.seq ?_
  refine W.seq ?_
  refine W.region (l := [0, 1, 2, 3, 4]) kr ?_
  refine ya [(0, 6, (.slice a_p0 p0.length c_p0)), (1, 7, (.int .i64 (p0.length : Int))), (2, 8, (.slice a_p1 p1.length c_p1)), (3, 9, (.int .i64 (p1.length : Int))), (4, 10, (.bool ((p0.length : Int) != (p1.length : Int))))] kr (fun _ => by kernel_rfl) ?_
  refine yc ?_
  refine yb ?_
  refine W.cond (b := ((p0.length : Int) != (p1.length : Int))) z z (fun K => ?_) (fun K => ?_)
  · replace G := cond_t K G
    refine W.seq ?_
    refine W.region (l := [0]) kr ?_
    refine ya [(0, 4, (.bool false))] kr (fun _ => by kernel_rfl) ?_
    refine yc ?_
    refine yb ?_
    refine ym ?_
    refine yg ?_
    have he := Option.some.inj G
    subst r
    exact yl z (.bool false) z ⟨I, rfl, Mem.Le.refl _, hS⟩
  · replace G := cond_f K G
    refine W.skip ?_
    refine yb ?_
    refine W.seq ?_
    refine W.seq ?_
    refine W.region (l := [0, 1, 2]) kr ?_
    refine ya [(0, 11, (.slice a_p0 p0.length c_p0)), (1, 12, (.int .i64 (p0.length : Int))), (2, 13, (.int .i64 0))] kr (fun _ => by kernel_rfl) ?_
    refine yc ?_
    refine yb ?_
    refine yq ?_
    obtain ⟨t1, hloop5, G⟩ := bind_some G
    have hlt9 := (h_p0).len_lt
    refine W.weaken (fr' := [(0, (.slice a_p0 p0.length c_p0)), (1, (.slice a_p1 p1.length c_p1)), (12, (.int .i64 (p0.length : Int))), (13, (.int .i64 ((0 : Nat) : Int)))]) (yag (m := p0.length) hloop5 (fun (i4 : Nat) (_s : Unit) fr w => ∃ (I2 : Mem), fr = [(0, (.slice a_p0 p0.length c_p0)), (1, (.slice a_p1 p1.length c_p1)), (12, (.int .i64 (p0.length : Int))), (13, (.int .i64 (i4 : Int)))] ∧ I.Le I2 ∧ St E w I2 Os) ⟨I, rfl, Mem.Le.refl _, hS⟩ ?roundt1 ?lastt1) (Sub.cons z (Sub.cons z (Sub.cons z (Sub.cons z Sub.nil))))
    case roundt1 =>
      rintro i4 _ _ w6 hi10 ⟨I2, rfl, L3, S7⟩ x8 R1 hext1
      refine W.seq ?_
      refine W.region (l := [0]) kr ?_
      refine ya [(0, 14, (.bool (decide ((i4 : Int) < (p0.length : Int)))))] kr (fun _ => by kernel_rfl) ?_
      refine yc ?_
      refine yb ?_
      refine W.seq ?_
      refine W.cond (b := (decide ((i4 : Int) < (p0.length : Int)))) z z (fun K => ?_) (fun K => ?_)
      rotate_left
      · exact absurd K (by first | (simp; done) | (simp; omega))
      clear K
      refine W.skip ?_
      refine yb ?_
      refine W.seq ?_
      refine yq ?_
      refine W.seq ?_
      refine W.region (l := [0, 1]) kr ?_
      refine ya [(0, 15, (.int .i64 (i4 : Int))), (1, 5, (.int .i64 (i4 : Int)))] kr (fun _ => by kernel_rfl) ?_
      refine yc ?_
      refine yb ?_
      refine W.seq ?_
      have S11 := S7.drew
      refine yaf (l := [0, 1, 2, 3, 4, 5, 6, 7, 8]) kr 8 (KR I2 []) qR (.back kr) kr (yz S11.im) ?_
      generalize World.drew _ = w12 at *
      refine ya [(0, 16, (.slice a_p0 p0.length c_p0)), (1, 17, (.int .i64 (i4 : Int)))] kr (fun _ => by kernel_rfl) ?_
      obtain ⟨x13, Xx13, R1⟩ := bind_some R1
      obtain ⟨h0_x13, h1_x13, Xx13⟩ := idx_some Xx13
      obtain ⟨ha_x13, cs_x13, hn_x13, hr_x13, Zx13⟩ := ((RSl.mono h_p0 L3)).el _ _ Xx13
      obtain rfl := hr_x13
      refine yh (e := 9) (sz := 1) z kr kr kr z ha_x13 z h0_x13 h1_x13 ?_
      refine yf z kr kr z (v := (.string x13)) (fun w' hw' => Zx13.cell0 kr ((rd_i S11.im) w' hw')) ?_
      refine ya [(4, 20, (.slice a_p1 p1.length c_p1)), (5, 21, (.int .i64 (i4 : Int)))] kr (fun _ => by kernel_rfl) ?_
      obtain ⟨x14, Xx14, R1⟩ := bind_some R1
      obtain ⟨h0_x14, h1_x14, Xx14⟩ := idx_some Xx14
      obtain ⟨ha_x14, cs_x14, hn_x14, hr_x14, Zx14⟩ := ((RSl.mono h_p1 L3)).el _ _ Xx14
      obtain rfl := hr_x14
      refine yh (e := 9) (sz := 1) z kr kr kr z ha_x14 z h0_x14 h1_x14 ?_
      refine yf z kr kr z (v := (.string x14)) (fun w' hw' => Zx14.cell0 kr ((rd_i S11.im) w' hw')) ?_
      refine WO.tail z ?_
      refine ya [(8, 24, (.bool (!sEq x13 x14)))] kr (fun _ => by kernel_rfl) ?_
      refine yc ?_
      refine yb ?_
      refine W.cond (b := (!sEq x13 x14)) z z (fun K => ?_) (fun K => ?_)
      · replace R1 := cond_t K R1
        refine W.seq ?_
        refine W.region (l := [0]) kr ?_
        refine ya [(0, 4, (.bool false))] kr (fun _ => by kernel_rfl) ?_
        refine yc ?_
        refine yb ?_
        refine ym ?_
        refine yn ?_
        refine yg ?_
        refine y6 ?_
        have ht := hext1 _ (Option.some.inj R1).symm
        subst t1
        refine yn ?_
        refine yg ?_
        have he := Option.some.inj G
        subst r
        exact yl z (.bool false) z ⟨I2, rfl, L3, S11⟩
      · replace R1 := cond_f K R1
        refine W.skip ?_
        refine yo ?_
        refine yb ?_
        refine W.region (l := [0, 1]) kr ?_
        refine y9 (j := i4) z kr z (by first | omega | (dsimp only at *; omega) | (simp only [List.length_cons, List.length_nil] at *; omega)) ?_
        refine ya [(1, 13, (.int .i64 ((i4 + 1 : Nat) : Int)))] kr (fun _ => by kernel_rfl) ?_
        refine yc ?_
        refine En.weaken (fr' := [(0, (.slice a_p0 p0.length c_p0)), (1, (.slice a_p1 p1.length c_p1)), (12, (.int .i64 (p0.length : Int))), (13, (.int .i64 ((i4 + 1 : Nat) : Int)))]) (En.round ⟨(), (Option.some.inj R1).symm, I2, rfl, L3, S11⟩) (Sub.cons z (Sub.cons z (Sub.cons z (Sub.cons z Sub.nil))))
    case lastt1 =>
      rintro _ _ w17 ⟨I2, rfl, L3, S18⟩ he
      cases he
      refine W.seq ?_
      refine W.region (l := [0]) kr ?_
      refine ya [(0, 14, (.bool (decide ((p0.length : Int) < (p0.length : Int)))))] kr (fun _ => by kernel_rfl) ?_
      refine yc ?_
      refine yb ?_
      refine W.seq ?_
      refine W.cond (b := (decide ((p0.length : Int) < (p0.length : Int)))) z z (fun K => ?_) (fun K => ?_)
      · exact absurd K (by first | (simp; done) | (simp; omega))
      clear K
      refine W.exit ?_
      refine yw ?_
      refine yx ?_
      refine y0 ?_
      refine yb ?_
      refine W.seq ?_
      refine W.region (l := [0]) kr ?_
      refine ya [(0, 4, (.bool true))] kr (fun _ => by kernel_rfl) ?_
      refine yc ?_
      refine yb ?_
      refine ym ?_
      have he := Option.some.inj G
      subst r
      exact yl z (.bool true) z ⟨I2, rfl, L3, S18⟩
def chain_sameRoles_1 (p0 : qJ) (p1 : qJ) : Option Bool := ((bif (sEq p0.Name p1.Name) then (slices_Equal_string p0.In p1.In).bind (fun (r18 : Bool) => some r18) else some false)).bind (fun (j9 : Bool) => some j9)
theorem chain_sameRoles_1_ok {p0 : qJ} {p1 : qJ} {w_p0 : W_qJ} {w_p1 : W_qJ} (h_p0 : ok_qJ I p0 w_p0) (h_p1 : ok_qJ I p1 w_p1) (hS : St E w I Os) {r : Bool} (G : chain_sameRoles_1 p0 p1 = some r) :
    Calls P 37 #[(vJ p0 w_p0), (vJ p1 w_p1)] w (fun e w' => ∃ (I' : Mem), e = .returned (.bool r) ∧ I.Le I' ∧ St E w' I' Os) := by
  refine calls_W (args := [(vJ p0 w_p0), (vJ p1 w_p1)]) (fn := Try.f37) rfl rfl rfl ?_
  unfold chain_sameRoles_1 at G
  refine W.seq ?_
  refine W.region (l := [0, 1, 2]) kr ?_
  refine yu hS z kr z (.cells (cs_qJ p0 w_p0).toArray 66 (0, 0)) (fun b => .pointer (some ⟨b, 0, none⟩)) kr tv ?_
  intro b1 w4 S3
  refine yu S3 z kr z (.cells (cs_qJ p1 w_p1).toArray 66 (0, 0)) (fun b => .pointer (some ⟨b, 0, none⟩)) kr tv ?_
  intro b5 w8 S7
  refine ya [(2, 4, (.bool false))] kr (fun _ => by kernel_rfl) ?_
  refine yc ?_
  refine yb ?_
  refine W.seq ?_
  refine W.region (l := [0, 1, 2, 3, 4, 5, 6, 7, 8, 9, 10, 11, 12]) kr ?_
  refine ya [(0, 5, (.pointer (some ⟨b1, 0, none⟩)))] kr (fun _ => by kernel_rfl) ?_
  refine yf z kr kr z (v := (.string p0.Name)) (fun w' hw' => cell_one ((rd_f (S7.rd (List.Mem.tail _ (List.Mem.head _)))) w' hw') kr) ?_
  refine ya [(2, 7, (.pointer (some ⟨b5, 0, none⟩)))] kr (fun _ => by kernel_rfl) ?_
  refine yf z kr kr z (v := (.string p1.Name)) (fun w' hw' => cell_one ((rd_f (S7.rd (List.Mem.head _))) w' hw') kr) ?_
  refine ya [(4, 9, (.bool (sEq p0.Name p1.Name))), (5, 10, (.bool (sEq p0.Name p1.Name)))] kr (fun _ => by kernel_rfl) ?_
  obtain ⟨j9, R1, G⟩ := bind_some G
  refine WO.join (l1 := [6, 7, 8, 9, 10, 11]) (l2 := [12]) (J := (fun fr w => ∃ (I11 : Mem), fr = [(16, (.bool j9))] ∧ I.Le I11 ∧ St E w I11 Os)) ?restj9 ?waysj9
  case waysj9 =>
    refine yt (sEq p0.Name p1.Name) (fun K => ?_) (fun K => ?_)
    · replace R1 := cond_t K R1
      refine ye 10 z (show Value.bool (sEq p0.Name p1.Name) = Value.bool true by rw [K]) ?_
      refine ya [(6, 11, (.pointer (some ⟨b1, 1, none⟩)))] kr (fun _ => by kernel_rfl) ?_
      refine yf z kr kr z (v := (.slice w_p0.In.a p0.In.length w_p0.In.c)) (fun w' hw' => cell_one ((rd_f (S7.rd (List.Mem.tail _ (List.Mem.head _)))) w' hw') kr) ?_
      refine ya [(8, 13, (.pointer (some ⟨b5, 1, none⟩)))] kr (fun _ => by kernel_rfl) ?_
      refine yf z kr kr z (v := (.slice w_p1.In.a p1.In.length w_p1.In.c)) (fun w' hw' => cell_one ((rd_f (S7.rd (List.Mem.head _))) w' hw') kr) ?_
      obtain ⟨r18, Xr13, R1⟩ := bind_some R1
      refine yj z kr z (f := 38) (args := #[(.slice w_p0.In.a p0.In.length w_p0.In.c), (.slice w_p1.In.a p1.In.length w_p1.In.c)]) kr (slices_Equal_string_ok h_p0.In h_p1.In S7 Xr13) ?_
      rintro _ w14 ⟨I15, rfl, L16, S17⟩
      refine ⟨_, rfl, trivial, ?_⟩
      refine ya [(11, 16, (.bool r18))] kr (fun _ => by kernel_rfl) ?_
      have S19 := S17.drop
      have S20 := S19.drop
      have he := Option.some.inj R1
      subst j9
      refine WO.weaken (fr' := [(16, (.bool r18))]) (yi ⟨I15, rfl, L16, S20⟩) (Sub.cons z Sub.nil)
    · replace R1 := cond_f K R1
      refine ye 10 z (show Value.bool (sEq p0.Name p1.Name) = Value.bool false by rw [K]) ?_
      refine yd z kr z ?_
      refine yd z kr z ?_
      refine yd z kr z ?_
      refine yd z kr z ?_
      refine yd z kr z ?_
      refine ya [(11, 16, (.bool false))] kr (fun _ => by kernel_rfl) ?_
      have S21 := S7.drop
      have S22 := S21.drop
      have he := Option.some.inj R1
      subst j9
      refine WO.weaken (fr' := [(16, (.bool false))]) (yi ⟨I, rfl, Mem.Le.refl _, S22⟩) (Sub.cons z Sub.nil)
  case restj9 =>
    rintro _ w23 ⟨I11, rfl, L12, S24⟩
    refine ya [(12, 4, (.bool j9))] kr (fun _ => by kernel_rfl) ?_
    refine yc ?_
    refine yb ?_
    refine ym ?_
    have he := Option.some.inj G
    subst r
    exact yl z (.bool j9) z ⟨I11, rfl, L12, S24⟩
def chain_sameRoles (p0 : List qJ) (p1 : List qJ) : Option Bool := (slices_EqualFunc_qJ_l p0 p1 (fun (u0 : qJ) (u1 : qJ) => chain_sameRoles_1 u0 u1)).bind (fun (r6 : Bool) => some r6)
theorem chain_sameRoles_ok {p0 : List qJ} {p1 : List qJ} {a_p0 : Option Addr} {c_p0 : Nat} {a_p1 : Option Addr} {c_p1 : Nat} (h_p0 : RSl 2 R_qJ I a_p0 c_p0 p0) (h_p1 : RSl 2 R_qJ I a_p1 c_p1 p1) (hS : St E w I Os) {r : Bool} (G : chain_sameRoles p0 p1 = some r) :
    Calls P 25 #[(.slice a_p0 p0.length c_p0), (.slice a_p1 p1.length c_p1)] w (fun e w' => ∃ (I' : Mem), e = .returned (.bool r) ∧ I.Le I' ∧ St E w' I' Os) := by
  refine calls_W (args := [(.slice a_p0 p0.length c_p0), (.slice a_p1 p1.length c_p1)]) (fn := Try.f25) rfl rfl rfl ?_
  unfold chain_sameRoles at G
  refine W.seq ?_
  refine W.region (l := [0]) kr ?_
  refine ya [(0, 4, (.bool false))] kr (fun _ => by kernel_rfl) ?_
  refine yc ?_
  refine yb ?_
  refine W.seq ?_
  refine W.region (l := [0, 1, 2, 3]) kr ?_
  refine ya [(0, 5, (.slice a_p0 p0.length c_p0)), (1, 6, (.slice a_p1 p1.length c_p1))] kr (fun _ => by kernel_rfl) ?_
  obtain ⟨r6, Xr1, G⟩ := bind_some G
  refine yj z kr z (f := 36) (args := #[(.slice a_p0 p0.length c_p0), (.slice a_p1 p1.length c_p1), (.func (.func 37) #[] #[])]) kr (slices_EqualFunc_qJ_l_ok h_p0 h_p1 (fun {F Ic wc} {_} {_} {_} {_} hlc hSc h_u0 h_u1 {rc} hrc => chain_sameRoles_1_ok h_u0 h_u1  hSc hrc) (fun _ _ => by kernel_rfl) hS Xr1) ?_
  rintro _ w2 ⟨I3, rfl, L4, S5⟩
  refine ⟨_, rfl, trivial, ?_⟩
  refine ya [(3, 4, (.bool r6))] kr (fun _ => by kernel_rfl) ?_
  refine yc ?_
  refine yb ?_
  refine ym ?_
  have he := Option.some.inj G
  subst r
  exact yl z (.bool r6) z ⟨I3, rfl, L4, S5⟩
def slices_Equal_qG (p0 : List qG) (p1 : List qG) : Option Bool := (bif ((p0.length : Int) != (p1.length : Int)) then some false else (forN (fun (i4 : Nat) (_s : Unit) => (idx p0 (i4 : Int)).bind (fun (x13 : qG) => (idx p1 (i4 : Int)).bind (fun (x14 : qG) => (bif (!(sEq x13.To x14.To && (sEq x13.By x14.By && (sEq x13.Table x14.Table && ((x13.Priv == x14.Priv) && (x13.Option == x14.Option)))))) then some (.inr false) else some (.inl ()))))) p0.length 0 ()).bind (fun (t : Unit ⊕ (Bool)) => match t with | .inl _ => some true | .inr s16 => some s16))
theorem slices_Equal_qG_ok {p0 : List qG} {p1 : List qG} {a_p0 : Option Addr} {c_p0 : Nat} {a_p1 : Option Addr} {c_p1 : Nat} (h_p0 : RSl 5 R_qG I a_p0 c_p0 p0) (h_p1 : RSl 5 R_qG I a_p1 c_p1 p1) (hS : St E w I Os) {r : Bool} (G : slices_Equal_qG p0 p1 = some r) :
    Calls P 26 #[(.slice a_p0 p0.length c_p0), (.slice a_p1 p1.length c_p1)] w (fun e w' => ∃ (I' : Mem), e = .returned (.bool r) ∧ I.Le I' ∧ St E w' I' Os) := by
  refine calls_W (args := [(.slice a_p0 p0.length c_p0), (.slice a_p1 p1.length c_p1)]) (fn := Try.f26) rfl rfl rfl ?_
  unfold slices_Equal_qG at G
  refine W.seq ?_
  refine W.region (l := [0]) kr ?_
  refine ya [(0, 4, (.bool false))] kr (fun _ => by kernel_rfl) ?_
  refine yc ?_
  refine yb ?_
  refine W.seq ?_
  refine W.seq ?_
  refine W.region (l := [0, 1, 2, 3, 4]) kr ?_
  refine ya [(0, 6, (.slice a_p0 p0.length c_p0)), (1, 7, (.int .i64 (p0.length : Int))), (2, 8, (.slice a_p1 p1.length c_p1)), (3, 9, (.int .i64 (p1.length : Int))), (4, 10, (.bool ((p0.length : Int) != (p1.length : Int))))] kr (fun _ => by kernel_rfl) ?_
  refine yc ?_
  refine yb ?_
  refine W.cond (b := ((p0.length : Int) != (p1.length : Int))) z z (fun K => ?_) (fun K => ?_)
  · replace G := cond_t K G
    refine W.seq ?_
    refine W.region (l := [0]) kr ?_
    refine ya [(0, 4, (.bool false))] kr (fun _ => by kernel_rfl) ?_
    refine yc ?_
    refine yb ?_
    refine ym ?_
    refine yg ?_
    have he := Option.some.inj G
    subst r
    exact yl z (.bool false) z ⟨I, rfl, Mem.Le.refl _, hS⟩
  · replace G := cond_f K G
    refine W.skip ?_
    refine yb ?_
    refine W.seq ?_
    refine W.seq ?_
    refine W.region (l := [0, 1, 2]) kr ?_
    refine ya [(0, 11, (.slice a_p0 p0.length c_p0)), (1, 12, (.int .i64 (p0.length : Int))), (2, 13, (.int .i64 0))] kr (fun _ => by kernel_rfl) ?_
    refine yc ?_
    refine yb ?_
    refine yq ?_
    obtain ⟨t1, hloop5, G⟩ := bind_some G
    have hlt9 := (h_p0).len_lt
    refine W.weaken (fr' := [(0, (.slice a_p0 p0.length c_p0)), (1, (.slice a_p1 p1.length c_p1)), (12, (.int .i64 (p0.length : Int))), (13, (.int .i64 ((0 : Nat) : Int)))]) (yag (m := p0.length) hloop5 (fun (i4 : Nat) (_s : Unit) fr w => ∃ (I2 : Mem), fr = [(0, (.slice a_p0 p0.length c_p0)), (1, (.slice a_p1 p1.length c_p1)), (12, (.int .i64 (p0.length : Int))), (13, (.int .i64 (i4 : Int)))] ∧ I.Le I2 ∧ St E w I2 Os) ⟨I, rfl, Mem.Le.refl _, hS⟩ ?roundt1 ?lastt1) (Sub.cons z (Sub.cons z (Sub.cons z (Sub.cons z Sub.nil))))
    case roundt1 =>
      rintro i4 _ _ w6 hi10 ⟨I2, rfl, L3, S7⟩ x8 R1 hext1
      refine W.seq ?_
      refine W.region (l := [0]) kr ?_
      refine ya [(0, 14, (.bool (decide ((i4 : Int) < (p0.length : Int)))))] kr (fun _ => by kernel_rfl) ?_
      refine yc ?_
      refine yb ?_
      refine W.seq ?_
      refine W.cond (b := (decide ((i4 : Int) < (p0.length : Int)))) z z (fun K => ?_) (fun K => ?_)
      rotate_left
      · exact absurd K (by first | (simp; done) | (simp; omega))
      clear K
      refine W.skip ?_
      refine yb ?_
      refine W.seq ?_
      refine yq ?_
      refine W.seq ?_
      refine W.region (l := [0, 1]) kr ?_
      refine ya [(0, 15, (.int .i64 (i4 : Int))), (1, 5, (.int .i64 (i4 : Int)))] kr (fun _ => by kernel_rfl) ?_
      refine yc ?_
      refine yb ?_
      refine W.seq ?_
      have S11 := S7.drew
      refine yaf (l := [0, 1, 2, 3, 4, 5, 6, 7, 8]) kr 8 (KR I2 []) qR (.back kr) kr (yz S11.im) ?_
      generalize World.drew _ = w12 at *
      refine ya [(0, 16, (.slice a_p0 p0.length c_p0)), (1, 17, (.int .i64 (i4 : Int)))] kr (fun _ => by kernel_rfl) ?_
      obtain ⟨x13, Xx13, R1⟩ := bind_some R1
      obtain ⟨h0_x13, h1_x13, Xx13⟩ := idx_some Xx13
      obtain ⟨ha_x13, cs_x13, hn_x13, hr_x13, Zx13⟩ := ((RSl.mono h_p0 L3)).el _ _ Xx13
      obtain rfl := hr_x13
      refine yh (e := 68) (sz := 5) z kr kr kr z ha_x13 z h0_x13 h1_x13 ?_
      refine yp z kr kr z ((cs_qG x13)) kr (fun w' hw' => Zx13.cells (k := 0) kr z ((rd_i S11.im) w' hw')) ?_
      refine ya [(4, 20, (.slice a_p1 p1.length c_p1)), (5, 21, (.int .i64 (i4 : Int)))] kr (fun _ => by kernel_rfl) ?_
      obtain ⟨x14, Xx14, R1⟩ := bind_some R1
      obtain ⟨h0_x14, h1_x14, Xx14⟩ := idx_some Xx14
      obtain ⟨ha_x14, cs_x14, hn_x14, hr_x14, Zx14⟩ := ((RSl.mono h_p1 L3)).el _ _ Xx14
      obtain rfl := hr_x14
      refine yh (e := 68) (sz := 5) z kr kr kr z ha_x14 z h0_x14 h1_x14 ?_
      refine yp z kr kr z ((cs_qG x14)) kr (fun w' hw' => Zx14.cells (k := 0) kr z ((rd_i S11.im) w' hw')) ?_
      refine WO.tail z ?_
      refine yal z kr z z kr 50 z (b := (sEq x13.To x14.To && (sEq x13.By x14.By && (sEq x13.Table x14.Table && ((x13.Priv == x14.Priv) && ((x13.Option == x14.Option) && true)))))) kr (!(sEq x13.To x14.To && (sEq x13.By x14.By && (sEq x13.Table x14.Table && ((x13.Priv == x14.Priv) && (x13.Option == x14.Option)))))) (.inr ⟨rfl, by simp only [Bool.and_true]⟩) ?_
      refine yc ?_
      refine yb ?_
      refine W.cond (b := (!(sEq x13.To x14.To && (sEq x13.By x14.By && (sEq x13.Table x14.Table && ((x13.Priv == x14.Priv) && (x13.Option == x14.Option))))))) z z (fun K => ?_) (fun K => ?_)
      · replace R1 := cond_t K R1
        refine W.seq ?_
        refine W.region (l := [0]) kr ?_
        refine ya [(0, 4, (.bool false))] kr (fun _ => by kernel_rfl) ?_
        refine yc ?_
        refine yb ?_
        refine ym ?_
        refine yn ?_
        refine yg ?_
        refine y6 ?_
        have ht := hext1 _ (Option.some.inj R1).symm
        subst t1
        refine yn ?_
        refine yg ?_
        have he := Option.some.inj G
        subst r
        exact yl z (.bool false) z ⟨I2, rfl, L3, S11⟩
      · replace R1 := cond_f K R1
        refine W.skip ?_
        refine yo ?_
        refine yb ?_
        refine W.region (l := [0, 1]) kr ?_
        refine y9 (j := i4) z kr z (by first | omega | (dsimp only at *; omega) | (simp only [List.length_cons, List.length_nil] at *; omega)) ?_
        refine ya [(1, 13, (.int .i64 ((i4 + 1 : Nat) : Int)))] kr (fun _ => by kernel_rfl) ?_
        refine yc ?_
        refine En.weaken (fr' := [(0, (.slice a_p0 p0.length c_p0)), (1, (.slice a_p1 p1.length c_p1)), (12, (.int .i64 (p0.length : Int))), (13, (.int .i64 ((i4 + 1 : Nat) : Int)))]) (En.round ⟨(), (Option.some.inj R1).symm, I2, rfl, L3, S11⟩) (Sub.cons z (Sub.cons z (Sub.cons z (Sub.cons z Sub.nil))))
    case lastt1 =>
      rintro _ _ w17 ⟨I2, rfl, L3, S18⟩ he
      cases he
      refine W.seq ?_
      refine W.region (l := [0]) kr ?_
      refine ya [(0, 14, (.bool (decide ((p0.length : Int) < (p0.length : Int)))))] kr (fun _ => by kernel_rfl) ?_
      refine yc ?_
      refine yb ?_
      refine W.seq ?_
      refine W.cond (b := (decide ((p0.length : Int) < (p0.length : Int)))) z z (fun K => ?_) (fun K => ?_)
      · exact absurd K (by first | (simp; done) | (simp; omega))
      clear K
      refine W.exit ?_
      refine yw ?_
      refine yx ?_
      refine y0 ?_
      refine yb ?_
      refine W.seq ?_
      refine W.region (l := [0]) kr ?_
      refine ya [(0, 4, (.bool true))] kr (fun _ => by kernel_rfl) ?_
      refine yc ?_
      refine yb ?_
      refine ym ?_
      have he := Option.some.inj G
      subst r
      exact yl z (.bool true) z ⟨I2, rfl, L3, S18⟩
theorem sort28_ok {p0 : List By8} {a_p0 : Option Addr} {c_p0 : Nat} {C_p0 : Mem} (h_p0 : OwnSl 9 1 RStr I C_p0 a_p0 c_p0 p0) (hS : St E w I (C_p0 :: Os)) {r : List By8} (G : sortSO p0 = some r) :
    Calls P 28 #[.slice a_p0 p0.length c_p0] w (fun e w' => ∃ (I' : Mem) (rD0 : Mem), e = .returned (.tuple #[]) ∧ I.Le I' ∧ St E w' I' (rD0 :: Os) ∧ OwnSl 9 1 RStr I' rD0 a_p0 c_p0 r ∧ r.length = p0.length) := by
  unfold sortSO at G
  split at G
  · rename_i hlen
    injection G with G
    subst G
    refine (sort_own (P := P) (f := 28) (enc := Go.Proofs.encStr) (g := bs) (gi := ub) (rel := RStr) (fun zs => zs.mergeSort fun x y => decide (x ≤ y)) (fun zs => by simp) (fun I cs x => by cases x; simp [RStr, Go.Proofs.encStr, bs]) (fun z => by rw [bs_ub]) (fun blk off cap zs w h1 h2 h3 => AnyM.slices_Sort_string Try.sort28 blk off cap zs w h1 h2 h3) (fun p cap w => AnyM.slices_Sort_string_none Try.sort28 p cap w) h_p0 hS hlen).mono ?_
    rintro e w' ⟨C', rfl, hS', ho⟩
    exact ⟨I, C', rfl, Mem.Le.refl _, hS', ho, sortS_len _⟩
  · cases G
noncomputable def slices_Compact_string (p0 : List By8) : Option (List By8) := (bif (decide ((p0.length : Int) < 2)) then some p0 else (loopO (fun (s : Int × (List By8)) => match s with | (s4, s5) => (bif (decide (s4 < (s5.length : Int))) then (idx s5 s4).bind (fun (x12 : By8) => (idx s5 (w64 (s4 - 1))).bind (fun (x13 : By8) => (bif (sEq x12 x13) then (sub s5 s4 (s5.length : Int)).bind (fun (x14 : List By8) => (loopO (fun (s : Int × Int × (List By8)) => match s with | (s18, s19, s20) => (bif (decide (s19 < ((s20.length - (s4).toNat : Nat) : Int))) then (vidx s20 (s4).toNat s19).bind (fun (x27 : By8) => (vidx s20 (s4).toNat (w64 (s19 - 1))).bind (fun (x28 : By8) => ((bif (!sEq x27 x28) then (vidx s20 (s4).toNat s19).bind (fun (x33 : By8) => (idx s20 s18).bind (fun (x34 : By8) => some ((w64 (s18 + 1)), (s20.set (s18).toNat x33)))) else some (s18, s20))).bind (fun ((s39, s40) : Int × (List By8)) => some (.inl (s39, (w64 (s19 + 1)), s40))))) else some (.inr (s18, s20)))) (s4, 1, s5)).bind (fun ((s44, s45) : Int × (List By8)) => (sub s45 s44 (s45.length : Int)).bind (fun (x46 : List By8) => (sub (s45.take (s44).toNat ++ List.replicate (s45.length - (s44).toNat) eB) 0 s44).bind (fun (x51 : List By8) => some (.inr (.inl x51)))))) else some (.inl ((w64 (s4 + 1)), s5))))) else some (.inr (.inr s5)))) (1, p0)).bind (fun (t : (List By8) ⊕ (List By8)) => match t with | (.inl s54) => some s54 | (.inr s64) => some s64))
theorem slices_Compact_string_ok {p0 : List By8} {a_p0 : Option Addr} {c_p0 : Nat} {C_p0 : Mem} (h_p0 : OwnSl 9 1 RStr I C_p0 a_p0 c_p0 p0) (hS : St E w I ((C_p0) :: Os)) {r : (List By8)} (G : slices_Compact_string p0 = some r) :
    Calls P 29 #[(.slice a_p0 p0.length c_p0)] w (fun e w' => ∃ (I' : Mem) (ra0 : Option Addr) (rc0 : Nat) (rC0 : Mem), e = .returned (.slice ra0 r.length rc0) ∧ I.Le I' ∧ St E w' I' (rC0 :: Os) ∧ OwnSl 9 1 RStr I' rC0 ra0 rc0 r) := by
  refine calls_W (args := [(.slice a_p0 p0.length c_p0)]) (fn := Try.f29) rfl rfl rfl ?_
  unfold slices_Compact_string at G
  refine W.seq ?_
  refine W.region (l := [0]) kr ?_
  refine ya [(0, 2, (.slice none 0 0))] kr (fun _ => by kernel_rfl) ?_
  refine yc ?_
  refine yb ?_
  refine W.seq ?_
  refine W.seq ?_
  refine W.region (l := [0, 1, 2]) kr ?_
  refine ya [(0, 6, (.slice a_p0 p0.length c_p0)), (1, 7, (.int .i64 (p0.length : Int))), (2, 8, (.bool (decide ((p0.length : Int) < 2))))] kr (fun _ => by kernel_rfl) ?_
  refine yc ?_
  refine yb ?_
  refine W.cond (b := (decide ((p0.length : Int) < 2))) z z (fun K => ?_) (fun K => ?_)
  · replace G := cond_t K G
    refine W.seq ?_
    refine W.region (l := [0, 1]) kr ?_
    refine ya [(0, 9, (.slice a_p0 p0.length c_p0)), (1, 2, (.slice a_p0 p0.length c_p0))] kr (fun _ => by kernel_rfl) ?_
    refine yc ?_
    refine yb ?_
    refine ym ?_
    refine yg ?_
    have he := Option.some.inj G
    subst r
    exact yl z (.slice a_p0 p0.length c_p0) z ⟨I, a_p0, c_p0, C_p0, rfl, Mem.Le.refl _, hS, h_p0⟩
  · replace G := cond_f K G
    refine W.skip ?_
    refine yb ?_
    refine W.seq ?_
    refine W.seq ?_
    refine W.region (l := [0]) kr ?_
    refine ya [(0, 3, (.int .i64 1))] kr (fun _ => by kernel_rfl) ?_
    refine yc ?_
    refine yb ?_
    refine yq ?_
    obtain ⟨t1, hloop6, G⟩ := bind_some G
    refine W.weaken (fr' := [(0, (.slice a_p0 p0.length c_p0)), (3, (.int .i64 1))]) (W.loopO hloop6 (fun (s : Int × (List By8)) fr w => match s with | (s4, s5) => ∃ (I2 : Mem), ∃ (C_s5 : Mem), fr = [(0, (.slice a_p0 s5.length c_p0)), (3, (.int .i64 s4))] ∧ I.Le I2 ∧ St E w I2 ((C_s5) :: Os) ∧ OwnSl 9 1 RStr I2 C_s5 a_p0 c_p0 s5) ⟨I, C_p0, rfl, Mem.Le.refl _, hS, h_p0⟩ ?_) (Sub.cons z (Sub.cons z Sub.nil))
    rintro ⟨s4, s5⟩ _ w7 ⟨I2, C_s5, rfl, L3, S8, h_s5⟩ x9 R1 hext1
    refine W.seq ?_
    refine W.seq ?_
    refine W.region (l := [0, 1, 2, 3]) kr ?_
    refine ya [(0, 10, (.int .i64 s4)), (1, 11, (.slice a_p0 s5.length c_p0)), (2, 12, (.int .i64 (s5.length : Int))), (3, 13, (.bool (decide (s4 < (s5.length : Int)))))] kr (fun _ => by kernel_rfl) ?_
    refine yc ?_
    refine yb ?_
    refine W.cond (b := (decide (s4 < (s5.length : Int)))) z z (fun K => ?_) (fun K => ?_)
    · replace R1 := cond_t K R1
      refine W.skip ?_
      refine yb ?_
      refine W.seq ?_
      refine yq ?_
      refine W.seq ?_
      have S10 := S8.drew
      refine yaf (l := [0, 1, 2, 3, 4, 5, 6, 7, 8, 9]) kr 9 (KR I2 [C_s5]) qR (.back kr) kr (yk (S10.rd (List.Mem.head _)) (yz S10.im)) ?_
      generalize World.drew _ = w11 at *
      refine ya [(0, 16, (.slice a_p0 s5.length c_p0)), (1, 17, (.int .i64 s4))] kr (fun _ => by kernel_rfl) ?_
      obtain ⟨x12, Xx12, R1⟩ := bind_some R1
      obtain ⟨h0_x12, h1_x12, Xx12⟩ := idx_some Xx12
      obtain ⟨ha_x12, cs_x12, hn_x12, hr_x12, Zx12⟩ := (h_s5.sl).el _ _ Xx12
      obtain rfl := hr_x12
      refine yh (e := 9) (sz := 1) z kr kr kr z ha_x12 z h0_x12 h1_x12 ?_
      refine yf z kr kr z (v := (.string x12)) (fun w' hw' => Zx12.cell0 kr ((rd_c (List.Mem.head _) (S10.rd (List.Mem.head _))) w' hw')) ?_
      refine ya [(4, 20, (.slice a_p0 s5.length c_p0)), (5, 21, (.int .i64 s4)), (6, 22, (.int .i64 (w64 (s4 - 1))))] kr (fun _ => by kernel_rfl) ?_
      obtain ⟨x13, Xx13, R1⟩ := bind_some R1
      obtain ⟨h0_x13, h1_x13, Xx13⟩ := idx_some Xx13
      obtain ⟨ha_x13, cs_x13, hn_x13, hr_x13, Zx13⟩ := (h_s5.sl).el _ _ Xx13
      obtain rfl := hr_x13
      refine yh (e := 9) (sz := 1) z kr kr kr z ha_x13 z h0_x13 h1_x13 ?_
      refine yf z kr kr z (v := (.string x13)) (fun w' hw' => Zx13.cell0 kr ((rd_c (List.Mem.head _) (S10.rd (List.Mem.head _))) w' hw')) ?_
      refine WO.tail z ?_
      refine ya [(9, 25, (.bool (sEq x12 x13)))] kr (fun _ => by kernel_rfl) ?_
      refine yc ?_
      refine yb ?_
      refine W.cond (b := (sEq x12 x13)) z z (fun K => ?_) (fun K => ?_)
      · replace R1 := cond_t K R1
        refine W.seq ?_
        refine W.region (l := [0, 1, 2, 3]) kr ?_
        refine ya [(0, 26, (.slice a_p0 s5.length c_p0)), (1, 27, (.int .i64 s4))] kr (fun _ => by kernel_rfl) ?_
        obtain ⟨x14, Xx14, R1⟩ := bind_some R1
        obtain ⟨h0_x14, h1_x14, h2_x14, he_x14⟩ := sub_some Xx14
        have hl_x14 : ((s5.length : Int) : Int) ≤ (c_p0 : Int) := Int.le_trans h2_x14 (Int.ofNat_le.2 (h_s5).sl.le)
        refine WO.slice (e := 9) (sz := 1) z kr kr kr z (s4 : Int) ((s5.length : Int) : Int) h0_x14 (.inr ⟨_, _, rfl, rfl⟩) (.inl ⟨rfl, rfl⟩) h1_x14 hl_x14 ?_
        refine ye 28 z (show _ = Value.slice (subA a_p0 c_p0 (s4).toNat 1) (s5.length - (s4).toNat) (c_p0 - (s4).toNat) from z) ?_
        refine ya [(3, 4, (.slice (subA a_p0 c_p0 (s4).toNat 1) (s5.length - (s4).toNat) (c_p0 - (s4).toNat)))] kr (fun _ => by kernel_rfl) ?_
        refine yc ?_
        refine yb ?_
        refine W.seq ?_
        refine W.seq ?_
        refine W.region (l := [0]) kr ?_
        refine ya [(0, 5, (.int .i64 1))] kr (fun _ => by kernel_rfl) ?_
        refine yc ?_
        refine yb ?_
        refine yq ?_
        obtain ⟨t15, hloop21, R1⟩ := bind_some R1
        refine W.weaken (fr' := [(0, (.slice a_p0 s5.length c_p0)), (3, (.int .i64 s4)), (4, (.slice (subA a_p0 c_p0 (s4).toNat 1) (s5.length - (s4).toNat) (c_p0 - (s4).toNat))), (5, (.int .i64 1))]) (W.loopO hloop21 (fun (s : Int × Int × (List By8)) fr w => match s with | (s18, s19, s20) => ∃ (I16 : Mem), ∃ (C_s20 : Mem), fr = [(0, (.slice a_p0 s20.length c_p0)), (3, (.int .i64 s18)), (4, (.slice (subA a_p0 c_p0 (s4).toNat 1) (s20.length - (s4).toNat) (c_p0 - (s4).toNat))), (5, (.int .i64 s19))] ∧ I2.Le I16 ∧ St E w I16 ((C_s20) :: Os) ∧ OwnSl 9 1 RStr I16 C_s20 a_p0 c_p0 s20) ⟨I2, C_s5, rfl, Mem.Le.refl _, S10, h_s5⟩ ?_) (Sub.cons z (Sub.cons z (Sub.cons z (Sub.cons z Sub.nil))))
        rintro ⟨s18, s19, s20⟩ _ w22 ⟨I16, C_s20, rfl, L17, S23, h_s20⟩ x24 R2 hext15
        refine W.seq ?_
        refine W.seq ?_
        refine W.region (l := [0, 1, 2, 3]) kr ?_
        refine ya [(0, 29, (.int .i64 s19)), (1, 30, (.slice (subA a_p0 c_p0 (s4).toNat 1) (s20.length - (s4).toNat) (c_p0 - (s4).toNat))), (2, 31, (.int .i64 ((s20.length - (s4).toNat : Nat) : Int))), (3, 32, (.bool (decide (s19 < ((s20.length - (s4).toNat : Nat) : Int)))))] kr (fun _ => by kernel_rfl) ?_
        refine yc ?_
        refine yb ?_
        refine W.cond (b := (decide (s19 < ((s20.length - (s4).toNat : Nat) : Int)))) z z (fun K => ?_) (fun K => ?_)
        · replace R2 := cond_t K R2
          refine W.skip ?_
          refine yb ?_
          refine W.seq ?_
          refine yq ?_
          refine W.seq ?_
          have S25 := S23.drew
          refine yaf (l := [0, 1, 2, 3, 4, 5, 6, 7, 8, 9]) kr 9 (KR I16 [C_s20]) qR (.back kr) kr (yk (S25.rd (List.Mem.head _)) (yz S25.im)) ?_
          generalize World.drew _ = w26 at *
          refine ya [(0, 35, (.slice (subA a_p0 c_p0 (s4).toNat 1) (s20.length - (s4).toNat) (c_p0 - (s4).toNat))), (1, 36, (.int .i64 s19))] kr (fun _ => by kernel_rfl) ?_
          obtain ⟨x27, Xx27, R2⟩ := bind_some R2
          obtain ⟨hg_x27, Xx27⟩ := vidx_some Xx27
          have hw_x27 := yaq h_s20 hg_x27 Xx27
          obtain ⟨h0_x27, h1_x27, Xx27⟩ := idx_some Xx27
          obtain ⟨ha_x27, cs_x27, hn_x27, hr_x27, Zx27⟩ := (h_s20.sl).el _ _ Xx27
          obtain rfl := hr_x27
          refine yh (e := 9) (sz := 1) z kr kr kr z hw_x27.1 z hg_x27 hw_x27.2.1 ?_
          refine ye 37 z hw_x27.2.2 ?_
          refine yf z kr kr z (v := (.string x27)) (fun w' hw' => Zx27.cell0 kr ((rd_c (List.Mem.head _) (S25.rd (List.Mem.head _))) w' hw')) ?_
          refine ya [(4, 39, (.slice (subA a_p0 c_p0 (s4).toNat 1) (s20.length - (s4).toNat) (c_p0 - (s4).toNat))), (5, 40, (.int .i64 s19)), (6, 41, (.int .i64 (w64 (s19 - 1))))] kr (fun _ => by kernel_rfl) ?_
          obtain ⟨x28, Xx28, R2⟩ := bind_some R2
          obtain ⟨hg_x28, Xx28⟩ := vidx_some Xx28
          have hw_x28 := yaq h_s20 hg_x28 Xx28
          obtain ⟨h0_x28, h1_x28, Xx28⟩ := idx_some Xx28
          obtain ⟨ha_x28, cs_x28, hn_x28, hr_x28, Zx28⟩ := (h_s20.sl).el _ _ Xx28
          obtain rfl := hr_x28
          refine yh (e := 9) (sz := 1) z kr kr kr z hw_x28.1 z hg_x28 hw_x28.2.1 ?_
          refine ye 42 z hw_x28.2.2 ?_
          refine yf z kr kr z (v := (.string x28)) (fun w' hw' => Zx28.cell0 kr ((rd_c (List.Mem.head _) (S25.rd (List.Mem.head _))) w' hw')) ?_
          refine WO.tail z ?_
          refine ya [(9, 44, (.bool (!sEq x27 x28)))] kr (fun _ => by kernel_rfl) ?_
          refine yc ?_
          refine yb ?_
          obtain ⟨j29, R3, R2⟩ := bind_some R2
          refine W.join (J := (fun fr w => ∃ (s39 : Int), ∃ (s40 : List By8), ∃ (I31 : Mem), ∃ (C_s40 : Mem), (s39, s40) = j29 ∧ fr = [(0, (.slice a_p0 s40.length c_p0)), (3, (.int .i64 s39)), (4, (.slice (subA a_p0 c_p0 (s4).toNat 1) (s40.length - (s4).toNat) (c_p0 - (s4).toNat))), (5, (.int .i64 s19))] ∧ I16.Le I31 ∧ St E w I31 ((C_s40) :: Os) ∧ OwnSl 9 1 RStr I31 C_s40 a_p0 c_p0 s40)) ?restj29 ?waysj29
          case waysj29 =>
            refine W.cond (b := (!sEq x27 x28)) z z (fun K => ?_) (fun K => ?_)
            · replace R3 := cond_t K R3
              refine W.seq ?_
              refine W.region (l := [0, 1, 2, 3, 4, 5, 6, 7]) kr ?_
              refine ya [(0, 45, (.slice a_p0 s20.length c_p0)), (1, 46, (.int .i64 s18)), (2, 47, (.slice (subA a_p0 c_p0 (s4).toNat 1) (s20.length - (s4).toNat) (c_p0 - (s4).toNat))), (3, 48, (.int .i64 s19))] kr (fun _ => by kernel_rfl) ?_
              obtain ⟨x33, Xx33, R3⟩ := bind_some R3
              obtain ⟨hg_x33, Xx33⟩ := vidx_some Xx33
              have hw_x33 := yaq h_s20 hg_x33 Xx33
              obtain ⟨h0_x33, h1_x33, Xx33⟩ := idx_some Xx33
              obtain ⟨ha_x33, cs_x33, hn_x33, hr_x33, Zx33⟩ := (h_s20.sl).el _ _ Xx33
              obtain rfl := hr_x33
              refine yh (e := 9) (sz := 1) z kr kr kr z hw_x33.1 z hg_x33 hw_x33.2.1 ?_
              refine ye 49 z hw_x33.2.2 ?_
              refine yf z kr kr z (v := (.string x33)) (fun w' hw' => Zx33.cell0 kr ((rd_f (S25.rd (List.Mem.head _))) w' hw')) ?_
              obtain ⟨x34, Xx34, R3⟩ := bind_some R3
              obtain ⟨h0_x34, h1_x34, Xx34⟩ := idx_some Xx34
              obtain ⟨ha_x34, cs_x34, hn_x34, hr_x34, Zx34⟩ := (h_s20.sl).el _ _ Xx34
              obtain rfl := hr_x34
              refine yh (e := 9) (sz := 1) z kr kr kr z ha_x34 z h0_x34 h1_x34 ?_
              refine yaj S25 h_s20 z kr z Xx34 (u' := x33) 0 z z kr z z (fun cs hrel => (by obtain rfl := hrel; exact z)) tv ?_
              intro w36 C37 S35 ho38
              refine ye 0 z (show Value.slice a_p0 s20.length c_p0 = Value.slice a_p0 (s20.set (s18).toNat x33).length c_p0 by simp only [List.length_set]) ?_
              refine ye 4 z (show Value.slice (subA a_p0 c_p0 (s4).toNat 1) (s20.length - (s4).toNat) (c_p0 - (s4).toNat) = Value.slice (subA a_p0 c_p0 (s4).toNat 1) ((s20.set (s18).toNat x33).length - (s4).toNat) (c_p0 - (s4).toNat) by simp only [List.length_set]) ?_
              refine ye 30 z (show Value.slice (subA a_p0 c_p0 (s4).toNat 1) (s20.length - (s4).toNat) (c_p0 - (s4).toNat) = Value.slice (subA a_p0 c_p0 (s4).toNat 1) ((s20.set (s18).toNat x33).length - (s4).toNat) (c_p0 - (s4).toNat) by simp only [List.length_set]) ?_
              refine ye 35 z (show Value.slice (subA a_p0 c_p0 (s4).toNat 1) (s20.length - (s4).toNat) (c_p0 - (s4).toNat) = Value.slice (subA a_p0 c_p0 (s4).toNat 1) ((s20.set (s18).toNat x33).length - (s4).toNat) (c_p0 - (s4).toNat) by simp only [List.length_set]) ?_
              refine ye 39 z (show Value.slice (subA a_p0 c_p0 (s4).toNat 1) (s20.length - (s4).toNat) (c_p0 - (s4).toNat) = Value.slice (subA a_p0 c_p0 (s4).toNat 1) ((s20.set (s18).toNat x33).length - (s4).toNat) (c_p0 - (s4).toNat) by simp only [List.length_set]) ?_
              refine ye 47 z (show Value.slice (subA a_p0 c_p0 (s4).toNat 1) (s20.length - (s4).toNat) (c_p0 - (s4).toNat) = Value.slice (subA a_p0 c_p0 (s4).toNat 1) ((s20.set (s18).toNat x33).length - (s4).toNat) (c_p0 - (s4).toNat) by simp only [List.length_set]) ?_
              refine yc ?_
              refine yb ?_
              refine W.region (l := [0, 1, 2]) kr ?_
              refine ya [(0, 52, (.int .i64 s18)), (1, 53, (.int .i64 (w64 (s18 + 1)))), (2, 3, (.int .i64 (w64 (s18 + 1))))] kr (fun _ => by kernel_rfl) ?_
              refine yc ?_
              refine En.weaken (fr' := [(0, (.slice a_p0 (s20.set (s18).toNat x33).length c_p0)), (3, (.int .i64 (w64 (s18 + 1)))), (4, (.slice (subA a_p0 c_p0 (s4).toNat 1) ((s20.set (s18).toNat x33).length - (s4).toNat) (c_p0 - (s4).toNat))), (5, (.int .i64 s19))]) (En.round ⟨(w64 (s18 + 1)), (s20.set (s18).toNat x33), I16, C37, Option.some.inj R3, rfl, Mem.Le.refl _, S35, ho38⟩) (Sub.cons z (Sub.cons z (Sub.cons z (Sub.cons z Sub.nil))))
            · replace R3 := cond_f K R3
              refine W.skip ?_
              refine En.weaken (fr' := [(0, (.slice a_p0 s20.length c_p0)), (3, (.int .i64 s18)), (4, (.slice (subA a_p0 c_p0 (s4).toNat 1) (s20.length - (s4).toNat) (c_p0 - (s4).toNat))), (5, (.int .i64 s19))]) (En.round ⟨s18, s20, I16, C_s20, Option.some.inj R3, rfl, Mem.Le.refl _, S25, h_s20⟩) (Sub.cons z (Sub.cons z (Sub.cons z (Sub.cons z Sub.nil))))
          case restj29 =>
            rintro _ w41 ⟨s39, s40, I31, C_s40, rfl, rfl, L32, S42, h_s40⟩
            refine yo ?_
            refine yb ?_
            refine W.region (l := [0, 1, 2]) kr ?_
            refine ya [(0, 33, (.int .i64 s19)), (1, 34, (.int .i64 (w64 (s19 + 1)))), (2, 5, (.int .i64 (w64 (s19 + 1))))] kr (fun _ => by kernel_rfl) ?_
            refine yc ?_
            refine En.weaken (fr' := [(0, (.slice a_p0 s40.length c_p0)), (3, (.int .i64 s39)), (4, (.slice (subA a_p0 c_p0 (s4).toNat 1) (s40.length - (s4).toNat) (c_p0 - (s4).toNat))), (5, (.int .i64 (w64 (s19 + 1))))]) (En.round ⟨(s39, (w64 (s19 + 1)), s40), (Option.some.inj R2).symm, I31, C_s40, rfl, (L17.trans L32), S42, h_s40⟩) (Sub.cons z (Sub.cons z (Sub.cons z (Sub.cons z Sub.nil))))
        · replace R2 := cond_f K R2
          refine W.exit ?_
          refine yw ?_
          refine yx ?_
          have ht := hext15 _ (Option.some.inj R2).symm
          subst t15
          refine y0 ?_
          refine yb ?_
          refine W.seq ?_
          refine W.region (l := [0, 1, 2, 3]) kr ?_
          refine ya [(0, 54, (.slice a_p0 s20.length c_p0)), (1, 55, (.int .i64 s18))] kr (fun _ => by kernel_rfl) ?_
          obtain ⟨x56, Xx56, R1⟩ := bind_some R1
          obtain ⟨h0_x56, h1_x56, h2_x56, he_x56⟩ := sub_some Xx56
          have hl_x56 : ((s20.length : Int) : Int) ≤ (c_p0 : Int) := Int.le_trans h2_x56 (Int.ofNat_le.2 (h_s20).sl.le)
          refine WO.slice (e := 9) (sz := 1) z kr kr kr z (s18 : Int) ((s20.length : Int) : Int) h0_x56 (.inr ⟨_, _, rfl, rfl⟩) (.inl ⟨rfl, rfl⟩) h1_x56 hl_x56 ?_
          refine ye 56 z (show _ = Value.slice (subA a_p0 c_p0 (s18).toNat 1) (s20.length - (s18).toNat) (c_p0 - (s18).toNat) from z) ?_
          have hlo_C57 : (s18).toNat ≤ s20.length := by first | omega | (simp only [List.length_set]; omega)
          refine WO.clear S23 h_s20 (t := 43) (e := 9) kr (zs := [(.string eB)]) kr (z0 := eB) z kr kr kr z kr z (lo := (s18).toNat) hlo_C57 z tv ?_
          intro w59 C57 S58 ho60
          refine ye 0 z (show Value.slice a_p0 s20.length c_p0 = Value.slice a_p0 (s20.take (s18).toNat ++ List.replicate (s20.length - (s18).toNat) eB).length c_p0 by congr 1; simp only [List.length_append, List.length_take, List.length_replicate]; omega) ?_
          refine ye 54 z (show Value.slice a_p0 s20.length c_p0 = Value.slice a_p0 (s20.take (s18).toNat ++ List.replicate (s20.length - (s18).toNat) eB).length c_p0 by congr 1; simp only [List.length_append, List.length_take, List.length_replicate]; omega) ?_
          refine yc ?_
          refine yb ?_
          refine W.seq ?_
          refine W.region (l := [0, 1, 2, 3]) kr ?_
          refine ya [(0, 57, (.slice a_p0 (s20.take (s18).toNat ++ List.replicate (s20.length - (s18).toNat) eB).length c_p0)), (1, 58, (.int .i64 s18))] kr (fun _ => by kernel_rfl) ?_
          obtain ⟨x61, Xx61, R1⟩ := bind_some R1
          obtain ⟨h0_x61, h1_x61, h2_x61, he_x61⟩ := sub_some Xx61
          have hl_x61 : (s18 : Int) ≤ (c_p0 : Int) := Int.le_trans h2_x61 (Int.ofNat_le.2 (ho60).sl.le)
          refine WO.slice (e := 9) (sz := 1) z kr kr kr z (0 : Int) (s18 : Int) h0_x61 (.inl ⟨rfl, rfl⟩) (.inr ⟨_, _, rfl, rfl⟩) h1_x61 hl_x61 ?_
          obtain ⟨ho62, ev_x61⟩ := OwnSl.pre ho60 (Int.le_trans h0_x61 h1_x61) h2_x61 he_x61
          refine ye 59 z ev_x61 ?_
          refine ya [(3, 2, (.slice a_p0 x61.length c_p0))] kr (fun _ => by kernel_rfl) ?_
          refine yc ?_
          refine yb ?_
          refine ym ?_
          refine yn ?_
          refine yg ?_
          refine y6 ?_
          have ht := hext1 _ (Option.some.inj R1).symm
          subst t1
          refine yn ?_
          refine yg ?_
          have he := Option.some.inj G
          subst r
          exact yl z (.slice a_p0 x61.length c_p0) z ⟨I16, a_p0, c_p0, C57, rfl, (L3.trans L17), S58, ho62⟩
      · replace R1 := cond_f K R1
        refine W.skip ?_
        refine yo ?_
        refine yb ?_
        refine W.region (l := [0, 1, 2]) kr ?_
        refine ya [(0, 14, (.int .i64 s4)), (1, 15, (.int .i64 (w64 (s4 + 1)))), (2, 3, (.int .i64 (w64 (s4 + 1))))] kr (fun _ => by kernel_rfl) ?_
        refine yc ?_
        refine En.weaken (fr' := [(0, (.slice a_p0 s5.length c_p0)), (3, (.int .i64 (w64 (s4 + 1))))]) (En.round ⟨((w64 (s4 + 1)), s5), (Option.some.inj R1).symm, I2, C_s5, rfl, L3, S10, h_s5⟩) (Sub.cons z (Sub.cons z Sub.nil))
    · replace R1 := cond_f K R1
      refine W.exit ?_
      refine yw ?_
      refine yx ?_
      have ht := hext1 _ (Option.some.inj R1).symm
      subst t1
      refine y0 ?_
      refine yb ?_
      refine W.seq ?_
      refine W.region (l := [0, 1]) kr ?_
      refine ya [(0, 60, (.slice a_p0 s5.length c_p0)), (1, 2, (.slice a_p0 s5.length c_p0))] kr (fun _ => by kernel_rfl) ?_
      refine yc ?_
      refine yb ?_
      refine ym ?_
      have he := Option.some.inj G
      subst r
      exact yl z (.slice a_p0 s5.length c_p0) z ⟨I2, a_p0, c_p0, C_s5, rfl, L3, S8, h_s5⟩
noncomputable def chain_sorted (p0 : List By8) : Option (List By8) := (slices_Clone_string p0).bind (fun (r6 : List By8) => (sortSO r6).bind (fun (r12 : List By8) => (slices_Compact_string r12).bind (fun (r18 : List By8) => some r18)))
theorem chain_sorted_ok {p0 : List By8} {a_p0 : Option Addr} {c_p0 : Nat} (h_p0 : RSl 1 RStr I a_p0 c_p0 p0) (hS : St E w I Os) {r : (List By8)} (G : chain_sorted p0 = some r) :
    Calls P 17 #[(.slice a_p0 p0.length c_p0)] w (fun e w' => ∃ (I' : Mem) (ra0 : Option Addr) (rc0 : Nat) (rC0 : Mem), e = .returned (.slice ra0 r.length rc0) ∧ I.Le I' ∧ St E w' I' (rC0 :: Os) ∧ OwnSl 9 1 RStr I' rC0 ra0 rc0 r) := by
  refine calls_W (args := [(.slice a_p0 p0.length c_p0)]) (fn := Try.f17) rfl rfl rfl ?_
  unfold chain_sorted at G
  refine W.seq ?_
  refine W.region (l := [0]) kr ?_
  refine ya [(0, 2, (.slice none 0 0))] kr (fun _ => by kernel_rfl) ?_
  refine yc ?_
  refine yb ?_
  refine W.seq ?_
  refine W.region (l := [0, 1, 2]) kr ?_
  refine ya [(0, 4, (.slice a_p0 p0.length c_p0))] kr (fun _ => by kernel_rfl) ?_
  obtain ⟨r6, Xr1, G⟩ := bind_some G
  refine yj z kr z (f := 27) (args := #[(.slice a_p0 p0.length c_p0)]) kr (slices_Clone_string_ok h_p0 hS Xr1) ?_
  rintro _ w2 ⟨I3, a_r6, c_r6, C_r6, rfl, L4, S5, h_r6⟩
  refine ⟨_, rfl, trivial, ?_⟩
  refine ya [(2, 3, (.slice a_r6 r6.length c_r6))] kr (fun _ => by kernel_rfl) ?_
  refine yc ?_
  refine yb ?_
  refine W.seq ?_
  refine W.region (l := [0, 1]) kr ?_
  refine ya [(0, 6, (.slice a_r6 r6.length c_r6))] kr (fun _ => by kernel_rfl) ?_
  obtain ⟨r12, Xr7, G⟩ := bind_some G
  refine yj z kr z (f := 28) (args := #[(.slice a_r6 r6.length c_r6)]) kr (sort28_ok h_r6 S5 Xr7) ?_
  rintro _ w8 ⟨I9, C_r12, rfl, L10, S11, h_r12, hn_r12⟩
  refine ⟨_, rfl, trivial, ?_⟩
  refine ye 3 z (show Value.slice a_r6 r6.length c_r6 = Value.slice a_r6 r12.length c_r6 by rw [hn_r12]) ?_
  refine ye 5 z (show Value.slice a_r6 r6.length c_r6 = Value.slice a_r6 r12.length c_r6 by rw [hn_r12]) ?_
  refine ye 6 z (show Value.slice a_r6 r6.length c_r6 = Value.slice a_r6 r12.length c_r6 by rw [hn_r12]) ?_
  refine yc ?_
  refine yb ?_
  refine W.seq ?_
  refine W.region (l := [0, 1, 2]) kr ?_
  refine ya [(0, 8, (.slice a_r6 r12.length c_r6))] kr (fun _ => by kernel_rfl) ?_
  obtain ⟨r18, Xr13, G⟩ := bind_some G
  refine yj z kr z (f := 29) (args := #[(.slice a_r6 r12.length c_r6)]) kr (slices_Compact_string_ok h_r12 S11 Xr13) ?_
  rintro _ w14 ⟨I15, a_r18, c_r18, C_r18, rfl, L16, S17, h_r18⟩
  refine ⟨_, rfl, trivial, ?_⟩
  refine ya [(2, 2, (.slice a_r18 r18.length c_r18))] kr (fun _ => by kernel_rfl) ?_
  refine yc ?_
  refine yb ?_
  refine ym ?_
  have he := Option.some.inj G
  subst r
  exact yl z (.slice a_r18 r18.length c_r18) z ⟨I15, a_r18, c_r18, C_r18, rfl, ((L4.trans L10).trans L16), S17, h_r18⟩
end Go.Proofs.Ytpgmbifboopfmaa
