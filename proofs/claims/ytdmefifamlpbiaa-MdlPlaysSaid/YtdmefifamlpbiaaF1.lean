/- What functions of the program come to, each by a plain one. Conditions: none. -/
import Derived.Test.YtdmefifamlpbiaaGv21
import Derived.Test.YtdmefifamlpbiaaProg
import Derived.Test.YtdmefifamlpbiaaGvS
import Derived.Test.YtdmefifamlpbiaaShelf
set_option maxRecDepth 100000
namespace Go.Proofs.Ytdmefifamlpbiaa
open Go.Gv
noncomputable abbrev P := Try.prog
structure mdl_one where
  who : Int
  mode : Int
def cs_mdl_one (x : mdl_one) : List Value := [.int .i64 x.who, .int .i64 x.mode]
def R_mdl_one (I : Mem) (cs : List Value) (x : mdl_one) : Prop := cs = cs_mdl_one x
instance : Mono R_mdl_one := ⟨fun hl h => (by obtain rfl := h; exact rfl), fun h c hv => (by obtain rfl := h; exact (by simp only [cs_mdl_one, List.mem_cons, List.not_mem_nil, or_false] at hv; rcases hv with rfl | rfl <;> first | rfl | rfl))⟩
def z_mdl_one : mdl_one := ⟨0, 0⟩
structure mdl_place where
  held : List mdl_one
  queue : List mdl_one
structure W_mdl_place where
  held : SW
  queue : SW
def cs_mdl_place (x : mdl_place) (v : W_mdl_place) : List Value := [.slice v.held.a x.held.length v.held.c, .slice v.queue.a x.queue.length v.queue.c]
structure ok_mdl_place (I : Mem) (x : mdl_place) (v : W_mdl_place) : Prop where
  held : RSl 2 R_mdl_one I v.held.a v.held.c x.held
  queue : RSl 2 R_mdl_one I v.queue.a v.queue.c x.queue
theorem ok_mdl_place.mono {I J : Mem} {x : mdl_place} {v : W_mdl_place} (h : ok_mdl_place I x v) (hl : I.Le J) : ok_mdl_place J x v := ⟨RSl.mono h.held hl, RSl.mono h.queue hl⟩
def R_mdl_place (I : Mem) (cs : List Value) (x : mdl_place) : Prop := ∃ v : W_mdl_place, cs = cs_mdl_place x v ∧ ok_mdl_place I x v
instance : Mono R_mdl_place := ⟨fun hl h => (by obtain ⟨v, rfl, h⟩ := h; exact ⟨v, rfl, h.mono hl⟩), fun h c hv => (by obtain ⟨v, rfl, h⟩ := h; exact (by simp only [cs_mdl_place, List.mem_cons, List.not_mem_nil, or_false] at hv; rcases hv with rfl | rfl <;> first | rfl | rfl))⟩
def z_mdl_place : mdl_place := ⟨[], []⟩
def zw_mdl_place : W_mdl_place := ⟨⟨none, 0⟩, ⟨none, 0⟩⟩
theorem zok_mdl_place {I : Mem} : ok_mdl_place I z_mdl_place zw_mdl_place := ⟨SlAt.nil, SlAt.nil⟩
structure mdl_Locks where
  at_ : List (ByteArray × mdl_place)
structure registrarlaw21_Act where
  Do : Int
  Who : Int
  Mode : Int
  Path : ByteArray
def cs_registrarlaw21_Act (x : registrarlaw21_Act) : List Value := [.int .i64 x.Do, .int .i64 x.Who, .int .i64 x.Mode, .string x.Path]
def R_registrarlaw21_Act (I : Mem) (cs : List Value) (x : registrarlaw21_Act) : Prop := cs = cs_registrarlaw21_Act x
instance : Mono R_registrarlaw21_Act := ⟨fun hl h => (by obtain rfl := h; exact rfl), fun h c hv => (by obtain rfl := h; exact (by simp only [cs_registrarlaw21_Act, List.mem_cons, List.not_mem_nil, or_false] at hv; rcases hv with rfl | rfl | rfl | rfl <;> first | rfl | rfl))⟩
def z_registrarlaw21_Act : registrarlaw21_Act := ⟨0, 0, 0, (⟨#[]⟩ : ByteArray)⟩
structure api_Need where
  Path : ByteArray
  Mode : Int
def cs_api_Need (x : api_Need) : List Value := [.string x.Path, .int .i64 x.Mode]
def R_api_Need (I : Mem) (cs : List Value) (x : api_Need) : Prop := cs = cs_api_Need x
instance : Mono R_api_Need := ⟨fun hl h => (by obtain rfl := h; exact rfl), fun h c hv => (by obtain rfl := h; exact (by simp only [cs_api_Need, List.mem_cons, List.not_mem_nil, or_false] at hv; rcases hv with rfl | rfl <;> first | rfl | rfl))⟩
def z_api_Need : api_Need := ⟨(⟨#[]⟩ : ByteArray), 0⟩
structure registrarref21_One where
  Who : Int
  Mode : Int
  Path : ByteArray
  Held : Bool
def cs_registrarref21_One (x : registrarref21_One) : List Value := [.int .i64 x.Who, .int .i64 x.Mode, .string x.Path, .bool x.Held]
def R_registrarref21_One (I : Mem) (cs : List Value) (x : registrarref21_One) : Prop := cs = cs_registrarref21_One x
instance : Mono R_registrarref21_One := ⟨fun hl h => (by obtain rfl := h; exact rfl), fun h c hv => (by obtain rfl := h; exact (by simp only [cs_registrarref21_One, List.mem_cons, List.not_mem_nil, or_false] at hv; rcases hv with rfl | rfl | rfl | rfl <;> first | rfl | rfl))⟩
def z_registrarref21_One : registrarref21_One := ⟨0, 0, (⟨#[]⟩ : ByteArray), false⟩
structure registrarref21_Locks where
  L : List registrarref21_One
structure W_mdl_Locks where
  at_ : SM
def cs_mdl_Locks (x : mdl_Locks) (v : W_mdl_Locks) : List Value := [.map (some v.at_.m)]
structure ok_mdl_Locks (I : Mem) (x : mdl_Locks) (v : W_mdl_Locks) : Prop where
  at_ : OwnMap Value.string (valA R_mdl_place) I v.at_.C v.at_.m x.at_
theorem ok_mdl_Locks.mono {I J : Mem} {x : mdl_Locks} {v : W_mdl_Locks} (h : ok_mdl_Locks I x v) (hl : I.Le J) : ok_mdl_Locks J x v := ⟨OwnMap.mono h.at_ hl⟩
structure W_registrarref21_Locks where
  L : SO
def cs_registrarref21_Locks (x : registrarref21_Locks) (v : W_registrarref21_Locks) : List Value := [.slice v.L.a x.L.length v.L.c]
structure ok_registrarref21_Locks (I : Mem) (x : registrarref21_Locks) (v : W_registrarref21_Locks) : Prop where
  L : OwnSl 98 4 R_registrarref21_One I v.L.C v.L.a v.L.c x.L
theorem ok_registrarref21_Locks.mono {I J : Mem} {x : registrarref21_Locks} {v : W_registrarref21_Locks} (h : ok_registrarref21_Locks I x v) (hl : I.Le J) : ok_registrarref21_Locks J x v := ⟨OwnSl.mono h.L hl⟩
def mdl_New  : Option mdl_Locks := some (⟨([] : List (ByteArray × mdl_place))⟩ : mdl_Locks)
set_option maxHeartbeats 1000000 in
theorem mdl_New_ok {E w : World} {I : Mem} {Os : List Mem} (hS : St E w I Os) {r : mdl_Locks} (hr : mdl_New = some r) :
    Calls P 8 #[] w (fun e w' => ∃ (I' : Mem) (rb0 : Nat) (w_ro0 : W_mdl_Locks), e = .returned (.pointer (some ⟨rb0, 0, none⟩)) ∧ I.Le I' ∧ St E w' I' ((Gv.one rb0 (.cells (cs_mdl_Locks r w_ro0).toArray 56 (0, 0))) :: w_ro0.at_.C :: Os) ∧ ok_mdl_Locks I' r w_ro0) := by
  refine calls_W (args := []) (fn := Try.f8) rfl rfl rfl ?_
  unfold mdl_New at hr
  refine W.seq ?_
  refine W.region (l := [0]) (by kernel_rfl) ?_
  refine WO.vals [(0, 0, (.pointer none))] (by kernel_rfl) (fun _ => by kernel_rfl) ?_
  refine WO.nil ?_
  refine En.next ?_
  refine W.seq ?_
  refine W.region (l := [0, 1, 2, 3]) (by kernel_rfl) ?_
  refine WO.new hS rfl (by kernel_rfl) rfl (.map #[] 0) (fun b => .map (some b)) (by kernel_rfl) (fun _ _ _ => trivial) ?_
  intro b1 w4 hS3
  refine WO.vals [(1, 2, (.agg (cs_mdl_Locks (⟨([] : List (ByteArray × mdl_place))⟩ : mdl_Locks) (⟨⟨b1, Gv.one b1 (.map #[] 0)⟩⟩ : W_mdl_Locks)).toArray))] (by kernel_rfl) (fun _ => by kernel_rfl) ?_
  refine WO.new hS3 rfl (by kernel_rfl) rfl (.cells (cs_mdl_Locks (⟨([] : List (ByteArray × mdl_place))⟩ : mdl_Locks) (⟨⟨b1, Gv.one b1 (.map #[] 0)⟩⟩ : W_mdl_Locks)).toArray 56 (0, 0)) (fun b => .pointer (some ⟨b, 0, none⟩)) (by kernel_rfl) (fun _ _ _ => trivial) ?_
  intro b5 w8 hS7
  refine WO.vals [(3, 0, (.pointer (some ⟨b5, 0, none⟩)))] (by kernel_rfl) (fun _ => by kernel_rfl) ?_
  refine WO.nil ?_
  refine En.next ?_
  refine W.ret ?_
  have hk9 : ok_mdl_Locks I (⟨([] : List (ByteArray × mdl_place))⟩ : mdl_Locks) (⟨⟨b1, Gv.one b1 (.map #[] 0)⟩⟩ : W_mdl_Locks) := ⟨(OwnMap.nil (enc := Value.string) (val := (valA R_mdl_place)) (I := I) (m := b1))⟩
  have he := Option.some.inj hr
  subst r
  exact En.ret1 rfl (.pointer (some ⟨b5, 0, none⟩)) rfl ⟨I, b5, (⟨⟨b1, Gv.one b1 (.map #[] 0)⟩⟩ : W_mdl_Locks), rfl, Mem.Le.refl _, hS7, hk9⟩
def registrarlaw21_long (p0 : registrarlaw21_Act) : Option Bool := some (decide ((p0.Path.size : Int) > 100))
set_option maxHeartbeats 1000000 in
theorem registrarlaw21_long_ok {E w : World} {I : Mem} {Os : List Mem} {p0 : registrarlaw21_Act} (hS : St E w I Os) {r : Bool} (hr : registrarlaw21_long p0 = some r) :
    Calls P 9 #[(.agg (cs_registrarlaw21_Act p0).toArray)] w (fun e w' => ∃ (I' : Mem), e = .returned (.bool r) ∧ I.Le I' ∧ St E w' I' Os) := by
  refine calls_W (args := [(.agg (cs_registrarlaw21_Act p0).toArray)]) (fn := Try.f9) rfl rfl rfl ?_
  unfold registrarlaw21_long at hr
  refine W.seq ?_
  refine W.region (l := [0, 1]) (by kernel_rfl) ?_
  refine WO.new hS rfl (by kernel_rfl) rfl (.cells (cs_registrarlaw21_Act p0).toArray 27 (0, 0)) (fun b => .pointer (some ⟨b, 0, none⟩)) (by kernel_rfl) (fun _ _ _ => trivial) ?_
  intro b1 w4 hS3
  refine WO.vals [(1, 2, (.bool false))] (by kernel_rfl) (fun _ => by kernel_rfl) ?_
  refine WO.nil ?_
  refine En.next ?_
  refine W.seq ?_
  refine W.region (l := [0, 1, 2, 3, 4]) (by kernel_rfl) ?_
  refine WO.vals [(0, 3, (.pointer (some ⟨b1, 3, none⟩)))] (by kernel_rfl) (fun _ => by kernel_rfl) ?_
  refine WO.load rfl (by kernel_rfl) (by kernel_rfl) rfl (v := (.string p0.Path)) (fun w' hw' => cell_one ((rd_f (hS3.rd (List.Mem.head _))) w' hw') (by kernel_rfl)) ?_
  refine WO.vals [(2, 5, (.int .i64 (p0.Path.size : Int))), (3, 6, (.bool (decide ((p0.Path.size : Int) > 100)))), (4, 2, (.bool (decide ((p0.Path.size : Int) > 100))))] (by kernel_rfl) (fun _ => by kernel_rfl) ?_
  refine WO.nil ?_
  refine En.next ?_
  refine W.ret ?_
  have hS5 := hS3.drop
  have he := Option.some.inj hr
  subst r
  exact En.ret1 rfl (.bool (decide ((p0.Path.size : Int) > 100))) rfl ⟨I, rfl, Mem.Le.refl _, hS5⟩
def mdl_Locks_dead (p0 : mdl_Locks) : Option Bool := some false
set_option maxHeartbeats 1000000 in
theorem mdl_Locks_dead_ok {E w : World} {I : Mem} {Os : List Mem} {p0 : mdl_Locks} {b_p0 : Nat} {w_p0 : W_mdl_Locks} (h_p0 : ok_mdl_Locks I p0 w_p0) (hS : St E w I ((Gv.one b_p0 (.cells (cs_mdl_Locks p0 w_p0).toArray 56 (0, 0))) :: (w_p0.at_.C) :: Os)) {r : Bool} (hr : mdl_Locks_dead p0 = some r) :
    Calls P 28 #[(.pointer (some ⟨b_p0, 0, none⟩))] w (fun e w' => ∃ (I' : Mem), e = .returned (.bool r) ∧ I.Le I' ∧ St E w' I' ((Gv.one b_p0 (.cells (cs_mdl_Locks p0 w_p0).toArray 56 (0, 0))) :: w_p0.at_.C :: Os)) := by
  refine calls_W (args := [(.pointer (some ⟨b_p0, 0, none⟩))]) (fn := Try.f28) rfl rfl rfl ?_
  unfold mdl_Locks_dead at hr
  refine W.seq ?_
  refine W.region (l := [0]) (by kernel_rfl) ?_
  refine WO.vals [(0, 2, (.bool false))] (by kernel_rfl) (fun _ => by kernel_rfl) ?_
  refine WO.nil ?_
  refine En.next ?_
  refine W.seq ?_
  refine W.region (l := [0, 1, 2, 3, 4, 5, 6, 7, 8, 9]) (by kernel_rfl) ?_
  refine WO.vals [(0, 3, (.pointer (some ⟨b_p0, 0, none⟩))), (1, 4, (.bool false)), (2, 5, (.bool false)), (3, 6, (.pointer (some ⟨b_p0, 0, none⟩))), (4, 7, (.pointer (some ⟨b_p0, 0, none⟩))), (5, 8, (.pointer (some ⟨b_p0, 0, none⟩)))] (by kernel_rfl) (fun _ => by kernel_rfl) ?_
  refine WO.load rfl (by kernel_rfl) (by kernel_rfl) rfl (v := (.map (some w_p0.at_.m))) (fun w' hw' => cell_one ((rd_f (hS.rd (List.Mem.head _))) w' hw') (by kernel_rfl)) ?_
  refine WO.vals [(7, 10, (.bool false)), (8, 11, (.bool false)), (9, 2, (.bool false))] (by kernel_rfl) (fun _ => by kernel_rfl) ?_
  refine WO.nil ?_
  refine En.next ?_
  refine W.ret ?_
  have he := Option.some.inj hr
  subst r
  exact En.ret1 rfl (.bool false) rfl ⟨I, rfl, Mem.Le.refl _, hS⟩
def mdl_Locks_check (p0 : mdl_Locks) (p1 : Int) : Option Int := (mdl_Locks_dead p0).bind (fun (r8 : Bool) => (bif ((decide (p1 < 1)) || (decide (p1 > 8))) then some 2 else some 0))
set_option maxHeartbeats 1000000 in
theorem mdl_Locks_check_ok {E w : World} {I : Mem} {Os : List Mem} {p0 : mdl_Locks} {p1 : Int} {b_p0 : Nat} {w_p0 : W_mdl_Locks} (h_p0 : ok_mdl_Locks I p0 w_p0) (hS : St E w I ((Gv.one b_p0 (.cells (cs_mdl_Locks p0 w_p0).toArray 56 (0, 0))) :: (w_p0.at_.C) :: Os)) {r : Int} (hr : mdl_Locks_check p0 p1 = some r) :
    Calls P 37 #[(.pointer (some ⟨b_p0, 0, none⟩)), (.int .i64 p1)] w (fun e w' => ∃ (I' : Mem), e = .returned (.int .i64 r) ∧ I.Le I' ∧ St E w' I' ((Gv.one b_p0 (.cells (cs_mdl_Locks p0 w_p0).toArray 56 (0, 0))) :: w_p0.at_.C :: Os)) := by
  refine calls_W (args := [(.pointer (some ⟨b_p0, 0, none⟩)), (.int .i64 p1)]) (fn := Try.f37) rfl rfl rfl ?_
  unfold mdl_Locks_check at hr
  refine W.seq ?_
  refine W.region (l := [0]) (by kernel_rfl) ?_
  refine WO.vals [(0, 4, (.int .i64 0))] (by kernel_rfl) (fun _ => by kernel_rfl) ?_
  refine WO.nil ?_
  refine En.next ?_
  refine W.seq ?_
  refine W.block ?_
  refine W.seq ?_
  refine W.region (l := [0, 1, 2]) (by kernel_rfl) ?_
  refine WO.vals [(0, 6, (.pointer (some ⟨b_p0, 0, none⟩)))] (by kernel_rfl) (fun _ => by kernel_rfl) ?_
  have hS1 := hS.front1
  have hS2 := hS1.front1
  obtain ⟨r8, hx_r3, hr⟩ := bind_some hr
  obtain rfl : false = r8 := Option.some.inj hx_r3
  refine WO.call rfl (by kernel_rfl) rfl (f := 28) (args := #[(.pointer (some ⟨b_p0, 0, none⟩))]) (by kernel_rfl) (mdl_Locks_dead_ok h_p0 hS2 hx_r3) ?_
  rintro _ w4 ⟨I5, rfl, hl6, hS7⟩
  refine ⟨_, rfl, trivial, ?_⟩
  refine WO.vals [(2, 5, (.bool false))] (by kernel_rfl) (fun _ => by kernel_rfl) ?_
  refine WO.nil ?_
  refine En.next ?_
  refine W.cond (b := false) rfl rfl (fun hc => ?_) (fun hc => ?_)
  · cases hc
  clear hc
  refine W.seq ?_
  refine W.region (l := [0, 1, 2, 3, 4, 5, 6]) (by kernel_rfl) ?_
  refine WO.vals [(0, 9, (.int .i64 p1)), (1, 10, (.bool (decide (p1 < 1)))), (2, 11, (.bool (decide (p1 < 1))))] (by kernel_rfl) (fun _ => by kernel_rfl) ?_
  refine WO.join (l1 := [3, 4, 5]) (l2 := [6]) (J := fun frx wx => frx = [(14, (.bool ((decide (p1 < 1)) || (decide (p1 > 8)))))] ∧ w4 = wx) ?restm9 ?waysm9
  case waysm9 =>
    refine WO.caseb (decide (p1 < 1)) (fun hc => ?_) (fun hc => ?_)
    · skip
      refine WO.reslot 11 rfl (show Value.bool (decide (p1 < 1)) = Value.bool true by rw [hc]) ?_
      refine WO.pass rfl (by kernel_rfl) rfl ?_
      refine WO.pass rfl (by kernel_rfl) rfl ?_
      refine WO.vals [(5, 14, (.bool true))] (by kernel_rfl) (fun _ => by kernel_rfl) ?_
      refine WO.weaken (fr' := [(14, (.bool ((decide (p1 < 1)) || (decide (p1 > 8)))))]) (WO.meet ⟨rfl, rfl⟩) (Sub.cons (by rw [hc]; rfl) Sub.nil)
    · skip
      refine WO.reslot 11 rfl (show Value.bool (decide (p1 < 1)) = Value.bool false by rw [hc]) ?_
      refine WO.vals [(3, 12, (.int .i64 p1)), (4, 13, (.bool (decide (p1 > 8)))), (5, 14, (.bool (decide (p1 > 8))))] (by kernel_rfl) (fun _ => by kernel_rfl) ?_
      refine WO.weaken (fr' := [(14, (.bool ((decide (p1 < 1)) || (decide (p1 > 8)))))]) (WO.meet ⟨rfl, rfl⟩) (Sub.cons (by rw [hc]; rfl) Sub.nil)
  case restm9 =>
    rintro _ _ ⟨rfl, rfl⟩
    refine WO.vals [(6, 8, (.bool ((decide (p1 < 1)) || (decide (p1 > 8)))))] (by kernel_rfl) (fun _ => by kernel_rfl) ?_
    refine WO.nil ?_
    refine En.next ?_
    refine W.cond (b := ((decide (p1 < 1)) || (decide (p1 > 8)))) rfl rfl (fun hc => ?_) (fun hc => ?_)
    · replace hr := cond_t hc hr
      refine W.seq ?_
      refine W.region (l := [0]) (by kernel_rfl) ?_
      refine WO.vals [(0, 4, (.int .i64 2))] (by kernel_rfl) (fun _ => by kernel_rfl) ?_
      refine WO.nil ?_
      refine En.next ?_
      refine W.ret ?_
      refine En.in_ret ?_
      refine En.nx_ret ?_
      have he := Option.some.inj hr
      subst r
      exact En.ret1 rfl (.int .i64 2) rfl ⟨I5, rfl, hl6, hS7⟩
    · replace hr := cond_f hc hr
      refine W.skip ?_
      refine En.in_normal ?_
      refine En.next ?_
      refine W.seq ?_
      refine W.region (l := [0]) (by kernel_rfl) ?_
      refine WO.vals [(0, 4, (.int .i64 0))] (by kernel_rfl) (fun _ => by kernel_rfl) ?_
      refine WO.nil ?_
      refine En.next ?_
      refine W.ret ?_
      have he := Option.some.inj hr
      subst r
      exact En.ret1 rfl (.int .i64 0) rfl ⟨I5, rfl, hl6, hS7⟩
def slices_IndexFunc_mdl_one (p0 : List mdl_one) (p1 : mdl_one → Option Bool) : Option Int := (forN (fun (i4 : Nat) => fun (_s : Unit) => (idx p0 (i4 : Int)).bind (fun (x11 : mdl_one) => (p1 x11).bind (fun (r17 : Bool) => (bif r17 then some (.inr (i4 : Int)) else some (.inl ()))))) p0.length 0 ()).bind (fun (t : Unit ⊕ (Int)) => match t with | .inl _ => some (-1) | .inr s19 => some s19)
set_option maxHeartbeats 1000000 in
theorem slices_IndexFunc_mdl_one_ok {E w : World} {I : Mem} {Os : List Mem} {p0 : List mdl_one} {p1 : mdl_one → Option Bool} {a_p0 : Option Addr} {c_p0 : Nat} {g_p1 : FuncId} {k_p1 : List Value} (h_p0 : RSl 2 R_mdl_one I a_p0 c_p0 p0) (h_p1 : ∀ {F : List Mem} {I' : Mem} {w : World} {u0 : mdl_one}, I.Le I' → St E w I' (F ++ Os) → ∀ {r : Bool}, p1 u0 = some r → Calls P g_p1 (([(.agg (cs_mdl_one u0).toArray)] : List Value) ++ k_p1).toArray w (fun e w' => ∃ (I'' : Mem), e = .returned (.bool r) ∧ I'.Le I'' ∧ St E w' I'' (F ++ Os))) (hcall_p1 : Callable P g_p1) (hS : St E w I Os) {r : Int} (hr : slices_IndexFunc_mdl_one p0 p1 = some r) :
    Calls P 60 #[(.slice a_p0 p0.length c_p0), (.func (.func g_p1) #[] k_p1.toArray)] w (fun e w' => ∃ (I' : Mem), e = .returned (.int .i64 r) ∧ I.Le I' ∧ St E w' I' Os) := by
  refine calls_W (args := [(.slice a_p0 p0.length c_p0), (.func (.func g_p1) #[] k_p1.toArray)]) (fn := Try.f60) rfl rfl rfl ?_
  unfold slices_IndexFunc_mdl_one at hr
  refine W.seq ?_
  refine W.region (l := [0]) (by kernel_rfl) ?_
  refine WO.vals [(0, 4, (.int .i64 0))] (by kernel_rfl) (fun _ => by kernel_rfl) ?_
  refine WO.nil ?_
  refine En.next ?_
  refine W.seq ?_
  refine W.seq ?_
  refine W.region (l := [0, 1, 2]) (by kernel_rfl) ?_
  refine WO.vals [(0, 6, (.slice a_p0 p0.length c_p0)), (1, 7, (.int .i64 (p0.length : Int))), (2, 8, (.int .i64 0))] (by kernel_rfl) (fun _ => by kernel_rfl) ?_
  refine WO.nil ?_
  refine En.next ?_
  refine W.block ?_
  obtain ⟨t1, hloop5, hr⟩ := bind_some hr
  have hlt9 := (h_p0).len_lt
  refine W.weaken (fr' := [(0, (.slice a_p0 p0.length c_p0)), (1, (.func (.func g_p1) #[] k_p1.toArray)), (7, (.int .i64 (p0.length : Int))), (8, (.int .i64 ((0 : Nat) : Int)))]) (W.forN (m := p0.length) hloop5 (fun (i4 : Nat) => fun (_s : Unit) fr w => ∃ (I2 : Mem), fr = [(0, (.slice a_p0 p0.length c_p0)), (1, (.func (.func g_p1) #[] k_p1.toArray)), (7, (.int .i64 (p0.length : Int))), (8, (.int .i64 (i4 : Int)))] ∧ I.Le I2 ∧ St E w I2 Os) ⟨I, rfl, Mem.Le.refl _, hS⟩ ?roundt1 ?lastt1) (Sub.cons rfl (Sub.cons rfl (Sub.cons rfl (Sub.cons rfl Sub.nil))))
  case roundt1 =>
    rintro i4 _ _ w6 hi10 ⟨I2, rfl, hl3, hS7⟩ x8 hr1 hext1
    refine W.seq ?_
    refine W.region (l := [0]) (by kernel_rfl) ?_
    refine WO.vals [(0, 9, (.bool (decide ((i4 : Int) < (p0.length : Int)))))] (by kernel_rfl) (fun _ => by kernel_rfl) ?_
    refine WO.nil ?_
    refine En.next ?_
    refine W.seq ?_
    refine W.cond (b := (decide ((i4 : Int) < (p0.length : Int)))) rfl rfl (fun hc => ?_) (fun hc => ?_)
    rotate_left
    · exact absurd hc (by first | (simp; done) | (simp; omega))
    clear hc
    refine W.skip ?_
    refine En.next ?_
    refine W.seq ?_
    refine W.block ?_
    refine W.seq ?_
    refine W.region (l := [0, 1]) (by kernel_rfl) ?_
    refine WO.vals [(0, 10, (.int .i64 (i4 : Int))), (1, 5, (.int .i64 (i4 : Int)))] (by kernel_rfl) (fun _ => by kernel_rfl) ?_
    refine WO.nil ?_
    refine En.next ?_
    refine W.seq ?_
    refine W.region (l := [0, 1, 2, 3, 4, 5]) (by kernel_rfl) ?_
    refine WO.vals [(0, 11, (.func (.func g_p1) #[] k_p1.toArray)), (1, 12, (.slice a_p0 p0.length c_p0)), (2, 13, (.int .i64 (i4 : Int)))] (by kernel_rfl) (fun _ => by kernel_rfl) ?_
    obtain ⟨x11, hx_x11, hr1⟩ := bind_some hr1
    obtain ⟨h0_x11, h1_x11, hx_x11⟩ := idx_some hx_x11
    obtain ⟨ha_x11, cs_x11, hn_x11, hr_x11, hc_x11⟩ := ((RSl.mono h_p0 hl3)).el _ _ hx_x11
    obtain rfl := hr_x11
    refine WO.indexAddr (e := 70) (sz := 2) rfl (by kernel_rfl) (by kernel_rfl) (by kernel_rfl) rfl ha_x11 rfl h0_x11 h1_x11 ?_
    refine WO.loadN rfl (by kernel_rfl) (by kernel_rfl) rfl ((cs_mdl_one x11)) (by kernel_rfl) (fun w' hw' => hc_x11.cells (k := 0) (by kernel_rfl) rfl ((rd_f hS7.im) w' hw')) ?_
    obtain ⟨r17, hx_r12, hr1⟩ := bind_some hr1
    refine WO.callv rfl (by kernel_rfl) rfl (g := g_p1) (kk := k_p1) (args := [(.agg (cs_mdl_one x11).toArray)]) rfl (by kernel_rfl) hcall_p1 (h_p1 (F := []) hl3 hS7  hx_r12) ?_
    rintro _ w13 ⟨I14, rfl, hl15, hS16⟩
    refine ⟨_, rfl, trivial, ?_⟩
    refine WO.nil ?_
    refine En.next ?_
    refine W.cond (b := r17) rfl rfl (fun hc => ?_) (fun hc => ?_)
    · replace hr1 := cond_t hc hr1
      refine W.seq ?_
      refine W.region (l := [0, 1]) (by kernel_rfl) ?_
      refine WO.vals [(0, 17, (.int .i64 (i4 : Int))), (1, 4, (.int .i64 (i4 : Int)))] (by kernel_rfl) (fun _ => by kernel_rfl) ?_
      refine WO.nil ?_
      refine En.next ?_
      refine W.ret ?_
      refine En.in_ret ?_
      refine En.nx_ret ?_
      refine En.rd_ret ?_
      have ht := hext1 _ (Option.some.inj hr1).symm
      subst t1
      refine En.in_ret ?_
      refine En.nx_ret ?_
      have he := Option.some.inj hr
      subst r
      exact En.ret1 rfl (.int .i64 (i4 : Int)) rfl ⟨I14, rfl, (hl3.trans hl15), hS16⟩
    · replace hr1 := cond_f hc hr1
      refine W.skip ?_
      refine En.in_normal ?_
      refine En.next ?_
      refine W.region (l := [0, 1]) (by kernel_rfl) ?_
      refine WO.incr (j := i4) rfl (by kernel_rfl) rfl (by first | omega | (dsimp only at *; omega)) ?_
      refine WO.vals [(1, 8, (.int .i64 ((i4 + 1 : Nat) : Int)))] (by kernel_rfl) (fun _ => by kernel_rfl) ?_
      refine WO.nil ?_
      refine En.weaken (fr' := [(0, (.slice a_p0 p0.length c_p0)), (1, (.func (.func g_p1) #[] k_p1.toArray)), (7, (.int .i64 (p0.length : Int))), (8, (.int .i64 ((i4 + 1 : Nat) : Int)))]) (En.round ⟨(), (Option.some.inj hr1).symm, I14, rfl, (hl3.trans hl15), hS16⟩) (Sub.cons rfl (Sub.cons rfl (Sub.cons rfl (Sub.cons rfl Sub.nil))))
  case lastt1 =>
    rintro _ _ w20 ⟨I2, rfl, hl3, hS21⟩ he
    cases he
    refine W.seq ?_
    refine W.region (l := [0]) (by kernel_rfl) ?_
    refine WO.vals [(0, 9, (.bool (decide ((p0.length : Int) < (p0.length : Int)))))] (by kernel_rfl) (fun _ => by kernel_rfl) ?_
    refine WO.nil ?_
    refine En.next ?_
    refine W.seq ?_
    refine W.cond (b := (decide ((p0.length : Int) < (p0.length : Int)))) rfl rfl (fun hc => ?_) (fun hc => ?_)
    · exact absurd hc (by first | (simp; done) | (simp; omega))
    clear hc
    refine W.exit ?_
    refine En.nx_exit ?_
    refine En.rd_exit ?_
    refine En.in_hit ?_
    refine En.next ?_
    refine W.seq ?_
    refine W.region (l := [0]) (by kernel_rfl) ?_
    refine WO.vals [(0, 4, (.int .i64 (-1)))] (by kernel_rfl) (fun _ => by kernel_rfl) ?_
    refine WO.nil ?_
    refine En.next ?_
    refine W.ret ?_
    have he := Option.some.inj hr
    subst r
    exact En.ret1 rfl (.int .i64 (-1)) rfl ⟨I2, rfl, hl3, hS21⟩
def mdl_find_1 (p0 : mdl_one) (q1 : Int) : Option Bool := some (p0.who == q1)
set_option maxHeartbeats 1000000 in
theorem mdl_find_1_ok {E w : World} {I : Mem} {Os : List Mem} {p0 : mdl_one} {q1 : Int} {kb1 : Nat} (hm1 : (Gv.one kb1 (.cells #[(.int .i64 q1)] 3 (0, 0))) ∈ Os) (hS : St E w I Os) {r : Bool} (hr : mdl_find_1 p0 q1 = some r) :
    Calls P 61 #[(.agg (cs_mdl_one p0).toArray), (.pointer (some ⟨kb1, 0, none⟩))] w (fun e w' => ∃ (I' : Mem), e = .returned (.bool r) ∧ I.Le I' ∧ St E w' I' Os) := by
  refine calls_W (args := [(.agg (cs_mdl_one p0).toArray), (.pointer (some ⟨kb1, 0, none⟩))]) (fn := Try.f61) rfl rfl rfl ?_
  unfold mdl_find_1 at hr
  refine W.seq ?_
  refine W.region (l := [0, 1]) (by kernel_rfl) ?_
  refine WO.new hS rfl (by kernel_rfl) rfl (.cells (cs_mdl_one p0).toArray 70 (0, 0)) (fun b => .pointer (some ⟨b, 0, none⟩)) (by kernel_rfl) (fun _ _ _ => trivial) ?_
  intro b1 w4 hS3
  refine WO.vals [(1, 3, (.bool false))] (by kernel_rfl) (fun _ => by kernel_rfl) ?_
  refine WO.nil ?_
  refine En.next ?_
  refine W.seq ?_
  refine W.region (l := [0, 1, 2, 3, 4]) (by kernel_rfl) ?_
  refine WO.vals [(0, 4, (.pointer (some ⟨b1, 0, none⟩)))] (by kernel_rfl) (fun _ => by kernel_rfl) ?_
  refine WO.load rfl (by kernel_rfl) (by kernel_rfl) rfl (v := (.int .i64 p0.who)) (fun w' hw' => cell_one ((rd_f (hS3.rd (List.Mem.head _))) w' hw') (by kernel_rfl)) ?_
  refine WO.load rfl (by kernel_rfl) (by kernel_rfl) rfl (v := (.int .i64 q1)) (fun w' hw' => cell_one ((rd_f (hS3.rd (List.Mem.tail _ hm1))) w' hw') (by kernel_rfl)) ?_
  refine WO.vals [(3, 7, (.bool (p0.who == q1))), (4, 3, (.bool (p0.who == q1)))] (by kernel_rfl) (fun _ => by kernel_rfl) ?_
  refine WO.nil ?_
  refine En.next ?_
  refine W.ret ?_
  have hS5 := hS3.drop
  have he := Option.some.inj hr
  subst r
  exact En.ret1 rfl (.bool (p0.who == q1)) rfl ⟨I, rfl, Mem.Le.refl _, hS5⟩
def mdl_find (p0 : List mdl_one) (p1 : Int) : Option Int := (slices_IndexFunc_mdl_one p0 (fun (u0 : mdl_one) => mdl_find_1 u0 p1)).bind (fun (r10 : Int) => some r10)
set_option maxHeartbeats 1000000 in
theorem mdl_find_ok {E w : World} {I : Mem} {Os : List Mem} {p0 : List mdl_one} {p1 : Int} {a_p0 : Option Addr} {c_p0 : Nat} (h_p0 : RSl 2 R_mdl_one I a_p0 c_p0 p0) (hS : St E w I Os) {r : Int} (hr : mdl_find p0 p1 = some r) :
    Calls P 32 #[(.slice a_p0 p0.length c_p0), (.int .i64 p1)] w (fun e w' => ∃ (I' : Mem), e = .returned (.int .i64 r) ∧ I.Le I' ∧ St E w' I' Os) := by
  refine calls_W (args := [(.slice a_p0 p0.length c_p0), (.int .i64 p1)]) (fn := Try.f32) rfl rfl rfl ?_
  unfold mdl_find at hr
  refine W.seq ?_
  refine W.region (l := [0, 1]) (by kernel_rfl) ?_
  refine WO.new hS rfl (by kernel_rfl) rfl (.cells #[(.int .i64 p1)] 3 (0, 0)) (fun b => .pointer (some ⟨b, 0, none⟩)) (by kernel_rfl) (fun _ _ _ => trivial) ?_
  intro b1 w4 hS3
  refine WO.vals [(1, 4, (.int .i64 0))] (by kernel_rfl) (fun _ => by kernel_rfl) ?_
  refine WO.nil ?_
  refine En.next ?_
  refine W.seq ?_
  refine W.region (l := [0, 1, 2, 3]) (by kernel_rfl) ?_
  refine WO.vals [(0, 5, (.slice a_p0 p0.length c_p0)), (1, 6, (.func (.func 61) #[] #[(.pointer (some ⟨b1, 0, none⟩))]))] (by kernel_rfl) (fun _ => by kernel_rfl) ?_
  obtain ⟨r10, hx_r5, hr⟩ := bind_some hr
  refine WO.call rfl (by kernel_rfl) rfl (f := 60) (args := #[(.slice a_p0 p0.length c_p0), (.func (.func 61) #[] #[(.pointer (some ⟨b1, 0, none⟩))])]) (by kernel_rfl) (slices_IndexFunc_mdl_one_ok h_p0 (fun {F Ic wc} {_} hlc hSc  {rc} hrc => mdl_find_1_ok  (List.mem_append_right _ (List.Mem.head _)) hSc hrc) (fun _ _ => by kernel_rfl) hS3 hx_r5) ?_
  rintro _ w6 ⟨I7, rfl, hl8, hS9⟩
  refine ⟨_, rfl, trivial, ?_⟩
  refine WO.vals [(3, 4, (.int .i64 r10))] (by kernel_rfl) (fun _ => by kernel_rfl) ?_
  refine WO.nil ?_
  refine En.next ?_
  refine W.ret ?_
  have hS11 := hS9.drop
  have he := Option.some.inj hr
  subst r
  exact En.ret1 rfl (.int .i64 r10) rfl ⟨I7, rfl, hl8, hS11⟩
noncomputable def mdl_Locks_Waits (p0 : mdl_Locks) (p1 : Int) : Option (api_Need × Bool) := (mdl_Locks_dead p0).bind (fun (r12 : Bool) => (rangeO (fun (k45 : ByteArray) (x46 : mdl_place) => fun (s23 : api_Need) => (mdl_find x46.queue p1).bind (fun (r71 : Int) => (bif (decide (r71 ≥ 0)) then (idx x46.queue r71).bind (fun (x72 : mdl_one) => some (.inr (true, (⟨k45, x72.mode⟩ : api_Need)))) else some (.inl s23)))) p0.at_ z_api_Need).bind (fun (t : api_Need ⊕ ((Bool × api_Need))) => match t with | .inl s23 => some (z_api_Need, false) | .inr (s77, s78) => some (s78, s77)))
set_option maxHeartbeats 1000000 in
theorem mdl_Locks_Waits_ok {E w : World} {I : Mem} {Os : List Mem} {p0 : mdl_Locks} {p1 : Int} {b_p0 : Nat} {w_p0 : W_mdl_Locks} (h_p0 : ok_mdl_Locks I p0 w_p0) (hS : St E w I ((Gv.one b_p0 (.cells (cs_mdl_Locks p0 w_p0).toArray 56 (0, 0))) :: (w_p0.at_.C) :: Os)) {r : api_Need × Bool} (hr : mdl_Locks_Waits p0 p1 = some r) :
    Calls P 20 #[(.pointer (some ⟨b_p0, 0, none⟩)), (.int .i64 p1)] w (fun e w' => ∃ (I' : Mem), e = .returned (.tuple #[(.agg (cs_api_Need r.1).toArray), (.bool r.2)]) ∧ I.Le I' ∧ St E w' I' ((Gv.one b_p0 (.cells (cs_mdl_Locks p0 w_p0).toArray 56 (0, 0))) :: w_p0.at_.C :: Os)) := by
  refine calls_W (args := [(.pointer (some ⟨b_p0, 0, none⟩)), (.int .i64 p1)]) (fn := Try.f20) rfl rfl rfl ?_
  unfold mdl_Locks_Waits at hr
  refine W.seq ?_
  refine W.region (l := [0, 1]) (by kernel_rfl) ?_
  refine WO.new hS rfl (by kernel_rfl) rfl (.cells (cs_api_Need z_api_Need).toArray 43 (0, 0)) (fun b => .pointer (some ⟨b, 0, none⟩)) (by kernel_rfl) (fun _ _ _ => trivial) ?_
  intro b1 w4 hS3
  refine WO.vals [(1, 5, (.bool false))] (by kernel_rfl) (fun _ => by kernel_rfl) ?_
  refine WO.nil ?_
  refine En.next ?_
  refine W.seq ?_
  refine W.seq ?_
  refine W.region (l := [0, 1]) (by kernel_rfl) ?_
  refine WO.vals [(0, 9, (.pointer (some ⟨b_p0, 0, none⟩)))] (by kernel_rfl) (fun _ => by kernel_rfl) ?_
  have hS5 := hS3.front2
  have hS6 := hS5.front2
  obtain ⟨r12, hx_r7, hr⟩ := bind_some hr
  obtain rfl : false = r12 := Option.some.inj hx_r7
  refine WO.call rfl (by kernel_rfl) rfl (f := 28) (args := #[(.pointer (some ⟨b_p0, 0, none⟩))]) (by kernel_rfl) (mdl_Locks_dead_ok h_p0 hS6 hx_r7) ?_
  rintro _ w8 ⟨I9, rfl, hl10, hS11⟩
  refine ⟨_, rfl, trivial, ?_⟩
  refine WO.nil ?_
  refine En.next ?_
  refine W.cond (b := false) rfl rfl (fun hc => ?_) (fun hc => ?_)
  · cases hc
  clear hc
  refine W.skip ?_
  refine En.next ?_
  refine W.seq ?_
  refine W.seq ?_
  refine W.region (l := [0, 1, 2, 3, 4]) (by kernel_rfl) ?_
  refine WO.vals [(0, 12, (.pointer (some ⟨b_p0, 0, none⟩))), (1, 13, (.pointer (some ⟨b_p0, 0, none⟩))), (2, 14, (.pointer (some ⟨b_p0, 0, none⟩)))] (by kernel_rfl) (fun _ => by kernel_rfl) ?_
  refine WO.load rfl (by kernel_rfl) (by kernel_rfl) rfl (v := (.map (some w_p0.at_.m))) (fun w' hw' => cell_one ((rd_f (hS11.rd (List.Mem.head _))) w' hw') (by kernel_rfl)) ?_
  have hS13 := hS11.front1
  refine WO.rangeMap (OwnMap.mono h_p0.at_ hl10) hS13 (t := 54) (kt := 9) (et := 68) (by kernel_rfl) rfl (by kernel_rfl) rfl rfl (fun _ _ _ => trivial) ?_
  intro b14 w15 D16 hS17 hit18
  refine WO.nil ?_
  refine En.next ?_
  refine W.block ?_
  obtain ⟨t20, hloop28, hr⟩ := bind_some hr
  have hS29 := hS17.front3
  have hS30 := hS29.front2
  have hS31 := hS30.front3
  refine W.weaken (fr' := [(1, (.int .i64 p1)), (4, (.pointer (some ⟨b1, 0, none⟩))), (16, (.pointer (some ⟨b14, 0, none⟩)))]) (W.rangeO hloop28 (fun (rm24 : List (ByteArray × mdl_place)) => fun (s23 : api_Need) fr w => ∃ (I21 : Mem), ∃ (D25 : Mem), ∃ (lst27 : Option (Value × Value)), fr = [(1, (.int .i64 p1)), (4, (.pointer (some ⟨b1, 0, none⟩))), (16, (.pointer (some ⟨b14, 0, none⟩)))] ∧ I9.Le I21 ∧ St E w I21 ((Gv.one b_p0 (.cells (cs_mdl_Locks p0 w_p0).toArray 56 (0, 0))) :: (w_p0.at_.C) :: (Gv.one b1 (.cells (cs_api_Need s23).toArray 43 (0, 0))) :: (D25) :: Os) ∧ IterSt Value.string (valA R_mdl_place) I21 w_p0.at_.C w_p0.at_.m p0.at_ D25 b14 rm24 lst27) ⟨I9, D16, _, rfl, Mem.Le.refl _, hS31, hit18⟩ ?_) (Sub.cons rfl (Sub.cons rfl (Sub.cons rfl Sub.nil)))
  rintro rm24 s23 _ w32 ⟨I21, D25, lst27, rfl, hl22, hS33, hit26⟩ hst34 hend35
  refine W.seq ?_
  refine W.region (l := [0, 1]) (by kernel_rfl) ?_
  have hS36 := hS33.front1
  have hS37 := hS36.front3
  refine WO.next hit26 hS37 rfl (by kernel_rfl) rfl rfl (fun _ _ _ => trivial) (fun he38 => ?_) ?_
  · skip
    obtain rfl := hend35 he38
    refine WO.vals [(1, 18, (.bool false))] (by kernel_rfl) (fun _ => by kernel_rfl) ?_
    refine WO.nil ?_
    refine En.next ?_
    refine W.seq ?_
    refine W.cond (b := false) rfl rfl (fun hc => ?_) (fun hc => ?_)
    · cases hc
    clear hc
    refine W.exit ?_
    refine En.nx_exit ?_
    refine En.rd_exit ?_
    refine En.in_hit ?_
    refine En.next ?_
    refine W.seq ?_
    refine W.region (l := [0, 1, 2]) (by kernel_rfl) ?_
    refine WO.vals [(0, 36, (.agg (cs_api_Need z_api_Need).toArray))] (by kernel_rfl) (fun _ => by kernel_rfl) ?_
    have hS39 := hS37.front3
    refine WO.storeBox hS39 rfl (by kernel_rfl) rfl 0 rfl rfl (by kernel_rfl) (by kernel_rfl) (by kernel_rfl) ((cs_api_Need z_api_Need).toArray) (by kernel_rfl) (fun _ _ => trivial) ?_
    intro w41 hS40
    refine WO.vals [(2, 5, (.bool false))] (by kernel_rfl) (fun _ => by kernel_rfl) ?_
    refine WO.nil ?_
    refine En.next ?_
    refine W.ret ?_
    have hS42 := hS40.drop
    have hS43 := hS42.drop
    have hS44 := hS43.front1
    have he := Option.some.inj hr
    subst r
    exact En.retc2 rfl (.agg (cs_api_Need z_api_Need).toArray) (.bool false) ⟨_, _, rfl, run_loadVarN (cs := (cs_api_Need z_api_Need)) (by kernel_rfl) (by kernel_rfl) (cells_one (hS40.rd (List.Mem.head _)) (by kernel_rfl))⟩ rfl ⟨I21, rfl, (hl10.trans hl22), hS44⟩
  · skip
    intro k45 x46 rm47 v48 w49 D50 hp51 hv52 hS53 hit54
    obtain ⟨y55, hy56, hex57⟩ := hst34 k45 x46 rm47 hp51
    have hr1 := hy56
    obtain ⟨_, rfl, hv52⟩ := hv52
    obtain ⟨w_x46, rfl, h_x46⟩ := hv52
    refine WO.vals [(1, 18, (.bool true))] (by kernel_rfl) (fun _ => by kernel_rfl) ?_
    refine WO.nil ?_
    refine En.next ?_
    refine W.seq ?_
    refine W.cond (b := true) rfl rfl (fun hc => ?_) (fun hc => ?_)
    rotate_left
    · cases hc
    clear hc
    refine W.skip ?_
    refine En.next ?_
    refine W.block ?_
    refine W.seq ?_
    refine W.region (l := [0, 1, 2, 3, 4, 5]) (by kernel_rfl) ?_
    have hS58 := hS53.front1
    have hS59 := hS58.front1
    refine WO.entry hit54 hS59 rfl (by kernel_rfl) rfl rfl trivial ?_
    refine WO.vals [(1, 20, (.string k45)), (2, 21, (.agg (cs_mdl_place x46 w_x46).toArray))] (by kernel_rfl) (fun _ => by kernel_rfl) ?_
    refine WO.new hS59 rfl (by kernel_rfl) rfl (.cells (cs_mdl_place z_mdl_place zw_mdl_place).toArray 68 (0, 0)) (fun b => .pointer (some ⟨b, 0, none⟩)) (by kernel_rfl) (fun _ _ _ => trivial) ?_
    intro b60 w63 hS62
    refine WO.vals [(4, 6, (.string k45))] (by kernel_rfl) (fun _ => by kernel_rfl) ?_
    refine WO.storeBox hS62 rfl (by kernel_rfl) rfl 0 rfl rfl (by kernel_rfl) (by kernel_rfl) (by kernel_rfl) ((cs_mdl_place x46 w_x46).toArray) (by kernel_rfl) (fun _ _ => trivial) ?_
    intro w65 hS64
    refine WO.nil ?_
    refine En.next ?_
    refine W.seq ?_
    refine W.region (l := [0, 1, 2, 3, 4]) (by kernel_rfl) ?_
    refine WO.vals [(0, 22, (.pointer (some ⟨b60, 1, none⟩)))] (by kernel_rfl) (fun _ => by kernel_rfl) ?_
    refine WO.load rfl (by kernel_rfl) (by kernel_rfl) rfl (v := (.slice w_x46.queue.a x46.queue.length w_x46.queue.c)) (fun w' hw' => cell_one ((rd_f (hS64.rd (List.Mem.head _))) w' hw') (by kernel_rfl)) ?_
    refine WO.vals [(2, 24, (.int .i64 p1))] (by kernel_rfl) (fun _ => by kernel_rfl) ?_
    obtain ⟨r71, hx_r66, hr1⟩ := bind_some hr1
    refine WO.call rfl (by kernel_rfl) rfl (f := 32) (args := #[(.slice w_x46.queue.a x46.queue.length w_x46.queue.c), (.int .i64 p1)]) (by kernel_rfl) (mdl_find_ok h_x46.queue hS64 hx_r66) ?_
    rintro _ w67 ⟨I68, rfl, hl69, hS70⟩
    refine ⟨_, rfl, trivial, ?_⟩
    refine WO.vals [(4, 8, (.int .i64 r71))] (by kernel_rfl) (fun _ => by kernel_rfl) ?_
    refine WO.nil ?_
    refine En.next ?_
    refine W.seq ?_
    refine W.region (l := [0, 1]) (by kernel_rfl) ?_
    refine WO.vals [(0, 26, (.int .i64 r71)), (1, 27, (.bool (decide (r71 ≥ 0))))] (by kernel_rfl) (fun _ => by kernel_rfl) ?_
    refine WO.nil ?_
    refine En.next ?_
    refine W.cond (b := (decide (r71 ≥ 0))) rfl rfl (fun hc => ?_) (fun hc => ?_)
    · replace hr1 := cond_t hc hr1
      refine W.seq ?_
      refine W.region (l := [0, 1, 2, 3, 4, 5, 6, 7, 8, 9]) (by kernel_rfl) ?_
      refine WO.vals [(0, 28, (.string k45)), (1, 29, (.pointer (some ⟨b60, 1, none⟩)))] (by kernel_rfl) (fun _ => by kernel_rfl) ?_
      refine WO.load rfl (by kernel_rfl) (by kernel_rfl) rfl (v := (.slice w_x46.queue.a x46.queue.length w_x46.queue.c)) (fun w' hw' => cell_one ((rd_f (hS70.rd (List.Mem.head _))) w' hw') (by kernel_rfl)) ?_
      refine WO.vals [(3, 31, (.int .i64 r71))] (by kernel_rfl) (fun _ => by kernel_rfl) ?_
      obtain ⟨x72, hx_x72, hr1⟩ := bind_some hr1
      obtain ⟨h0_x72, h1_x72, hx_x72⟩ := idx_some hx_x72
      obtain ⟨ha_x72, cs_x72, hn_x72, hr_x72, hc_x72⟩ := ((RSl.mono h_x46.queue hl69)).el _ _ hx_x72
      obtain rfl := hr_x72
      refine WO.indexAddr (e := 70) (sz := 2) rfl (by kernel_rfl) (by kernel_rfl) (by kernel_rfl) rfl ha_x72 rfl h0_x72 h1_x72 ?_
      refine WO.vals [(5, 33, (.pointer (some ⟨bl w_x46.queue.a, of w_x46.queue.a + (r71).toNat * 2 + 1, none⟩)))] (by kernel_rfl) (fun _ => by kernel_rfl) ?_
      refine WO.load rfl (by kernel_rfl) (by kernel_rfl) rfl (v := (.int .i64 x72.mode)) (fun w' hw' => hc_x72.cellk 1 (by kernel_rfl) ((rd_f hS70.im) w' hw')) ?_
      refine WO.vals [(7, 35, (.agg (cs_api_Need (⟨k45, x72.mode⟩ : api_Need)).toArray))] (by kernel_rfl) (fun _ => by kernel_rfl) ?_
      have hS73 := hS70.front4
      refine WO.storeBox hS73 rfl (by kernel_rfl) rfl 0 rfl rfl (by kernel_rfl) (by kernel_rfl) (by kernel_rfl) ((cs_api_Need (⟨k45, x72.mode⟩ : api_Need)).toArray) (by kernel_rfl) (fun _ _ => trivial) ?_
      intro w75 hS74
      refine WO.vals [(9, 5, (.bool true))] (by kernel_rfl) (fun _ => by kernel_rfl) ?_
      refine WO.nil ?_
      refine En.next ?_
      refine W.ret ?_
      refine En.in_ret ?_
      refine En.rd_ret ?_
      have ht := hex57 _ (Option.some.inj hr1).symm
      subst t20
      refine En.in_ret ?_
      refine En.nx_ret ?_
      have hS83 := hS74.drop
      have hS84 := hS83.drop
      have hS85 := hS84.drop
      have hS86 := hS85.front1
      have he := Option.some.inj hr
      subst r
      exact En.retc2 rfl (.agg (cs_api_Need (⟨k45, x72.mode⟩ : api_Need)).toArray) (.bool true) ⟨_, _, rfl, run_loadVarN (cs := (cs_api_Need (⟨k45, x72.mode⟩ : api_Need))) (by kernel_rfl) (by kernel_rfl) (cells_one (hS74.rd (List.Mem.head _)) (by kernel_rfl))⟩ rfl ⟨I68, rfl, ((hl10.trans hl22).trans hl69), hS86⟩
    · replace hr1 := cond_f hc hr1
      refine W.skip ?_
      refine En.in_normal ?_
      have hS87 := hS70.drop
      have hS88 := hS87.front3
      have hS89 := hS88.front2
      have hS90 := hS89.front3
      refine En.weaken (fr' := [(1, (.int .i64 p1)), (4, (.pointer (some ⟨b1, 0, none⟩))), (16, (.pointer (some ⟨b14, 0, none⟩)))]) (En.round ⟨k45, x46, rm47, s23, hp51, hy56.trans (congrArg some (Option.some.inj hr1).symm), I68, D50, _, rfl, (hl22.trans hl69), hS90, (IterSt.mono hit54 hl69)⟩) (Sub.cons rfl (Sub.cons rfl (Sub.cons rfl Sub.nil)))
def mdl_Goes (p0 : Int) (p1 : Int) : Option Bool := some (decide (1 ≤ p0 ∧ p0 ≤ 3 ∧ 1 ≤ p1 ∧ p1 ≤ 3 ∧ (p0 = 1 ∨ p1 = 1 ∨ p0 = p1)))
set_option maxHeartbeats 1000000 in
theorem mdl_Goes_ok {E w : World} {I : Mem} {Os : List Mem} {p0 : Int} {p1 : Int} (hS : St E w I Os) {r : Bool} (hr : mdl_Goes p0 p1 = some r) :
    Calls P 15 #[(.int .i64 p0), (.int .i64 p1)] w (fun e w' => ∃ (I' : Mem), e = .returned (.bool r) ∧ I.Le I' ∧ St E w' I' Os) := by
  have hr := Option.some.inj hr
  by_cases h0 : p0 < 1
  · have e : r = false := by rw [← hr]; simp; omega
    subst e
    refine calls_W (args := [(.int .i64 p0), (.int .i64 p1)]) (fn := Try.f15) rfl rfl rfl ?_
    refine W.seq ?_
    refine W.region (l := [0]) (by kernel_rfl) ?_
    refine WO.vals [(0, 4, (.bool false))] (by kernel_rfl) (fun _ => by kernel_rfl) ?_
    refine WO.nil ?_
    refine En.next ?_
    refine W.seq ?_
    refine W.region (l := [0, 1, 2, 3, 4, 5, 6, 7]) (by kernel_rfl) ?_
    refine WO.vals [(0, 6, (.agg #[(.bool false), (.bool false), (.bool false), (.bool false), (.bool false)])), (1, 7, (.agg #[(.bool false), (.bool true), (.bool true), (.bool true), (.bool false)])), (2, 8, (.agg #[(.bool false), (.bool true), (.bool true), (.bool false), (.bool false)])), (3, 9, (.agg #[(.bool false), (.bool true), (.bool false), (.bool true), (.bool false)])), (4, 10, (.agg #[(.bool false), (.bool false), (.bool false), (.bool false), (.bool false)])), (5, 11, (.agg #[(.bool false), (.bool false), (.bool false), (.bool false), (.bool false), (.bool false), (.bool true), (.bool true), (.bool true), (.bool false), (.bool false), (.bool true), (.bool true), (.bool false), (.bool false), (.bool false), (.bool true), (.bool false), (.bool true), (.bool false), (.bool false), (.bool false), (.bool false), (.bool false), (.bool false)]))] (by kernel_rfl) (fun _ => by kernel_rfl) ?_
    refine WO.new hS rfl (by kernel_rfl) rfl (.cells #[(.bool false), (.bool false), (.bool false), (.bool false), (.bool false), (.bool false), (.bool false), (.bool false), (.bool false), (.bool false), (.bool false), (.bool false), (.bool false), (.bool false), (.bool false), (.bool false), (.bool false), (.bool false), (.bool false), (.bool false), (.bool false), (.bool false), (.bool false), (.bool false), (.bool false)] 73 (0, 0)) (fun b => .pointer (some ⟨b, 0, none⟩)) (by kernel_rfl) (fun _ _ _ => trivial) ?_
    intro b1 w1 hS1
    refine WO.storeBox hS1 rfl (by kernel_rfl) rfl 0 rfl rfl (by kernel_rfl) (by kernel_rfl) (by kernel_rfl) (#[(.bool false), (.bool false), (.bool false), (.bool false), (.bool false), (.bool false), (.bool true), (.bool true), (.bool true), (.bool false), (.bool false), (.bool true), (.bool true), (.bool false), (.bool false), (.bool false), (.bool true), (.bool false), (.bool true), (.bool false), (.bool false), (.bool false), (.bool false), (.bool false), (.bool false)]) (by kernel_rfl) (fun _ _ => trivial) ?_
    intro w2 hS2
    refine WO.nil ?_
    refine En.next ?_
    refine W.seq ?_
    refine W.region (l := [0, 1, 2, 3, 4, 5, 6, 7, 8, 9, 10, 11, 12, 13, 14, 15, 16, 17, 18, 19, 20, 21]) (by kernel_rfl) ?_
    refine WO.vals [(0, 12, (.int .i64 p0)), (1, 13, (.bool (decide (p0 ≥ 1))))] (by kernel_rfl) (fun _ => by kernel_rfl) ?_
    refine WO.reslot 13 rfl (show Value.bool (decide (p0 ≥ 1)) = Value.bool false by congr 1; simp; omega) ?_
    refine WO.vals [(2, 14, (.bool false))] (by kernel_rfl) (fun _ => by kernel_rfl) ?_
    refine WO.pass rfl (by kernel_rfl) rfl ?_
    refine WO.pass rfl (by kernel_rfl) rfl ?_
    refine WO.vals [(5, 17, (.bool false)), (6, 18, (.bool false))] (by kernel_rfl) (fun _ => by kernel_rfl) ?_
    refine WO.pass rfl (by kernel_rfl) rfl ?_
    refine WO.pass rfl (by kernel_rfl) rfl ?_
    refine WO.vals [(9, 21, (.bool false)), (10, 22, (.bool false))] (by kernel_rfl) (fun _ => by kernel_rfl) ?_
    refine WO.pass rfl (by kernel_rfl) rfl ?_
    refine WO.pass rfl (by kernel_rfl) rfl ?_
    refine WO.vals [(13, 25, (.bool false)), (14, 26, (.bool false))] (by kernel_rfl) (fun _ => by kernel_rfl) ?_
    refine WO.pass rfl (by kernel_rfl) rfl ?_
    refine WO.pass rfl (by kernel_rfl) rfl ?_
    refine WO.pass rfl (by kernel_rfl) rfl ?_
    refine WO.pass rfl (by kernel_rfl) rfl ?_
    refine WO.pass rfl (by kernel_rfl) rfl ?_
    refine WO.vals [(20, 32, (.bool false)), (21, 4, (.bool false))] (by kernel_rfl) (fun _ => by kernel_rfl) ?_
    refine WO.nil ?_
    refine En.next ?_
    refine W.ret ?_
    have hS3 := hS2.drop
    exact En.ret1 rfl (.bool false) rfl ⟨I, rfl, Mem.Le.refl _, hS3⟩
  by_cases h1 : 4 < p0
  · have e : r = false := by rw [← hr]; simp; omega
    subst e
    refine calls_W (args := [(.int .i64 p0), (.int .i64 p1)]) (fn := Try.f15) rfl rfl rfl ?_
    refine W.seq ?_
    refine W.region (l := [0]) (by kernel_rfl) ?_
    refine WO.vals [(0, 4, (.bool false))] (by kernel_rfl) (fun _ => by kernel_rfl) ?_
    refine WO.nil ?_
    refine En.next ?_
    refine W.seq ?_
    refine W.region (l := [0, 1, 2, 3, 4, 5, 6, 7]) (by kernel_rfl) ?_
    refine WO.vals [(0, 6, (.agg #[(.bool false), (.bool false), (.bool false), (.bool false), (.bool false)])), (1, 7, (.agg #[(.bool false), (.bool true), (.bool true), (.bool true), (.bool false)])), (2, 8, (.agg #[(.bool false), (.bool true), (.bool true), (.bool false), (.bool false)])), (3, 9, (.agg #[(.bool false), (.bool true), (.bool false), (.bool true), (.bool false)])), (4, 10, (.agg #[(.bool false), (.bool false), (.bool false), (.bool false), (.bool false)])), (5, 11, (.agg #[(.bool false), (.bool false), (.bool false), (.bool false), (.bool false), (.bool false), (.bool true), (.bool true), (.bool true), (.bool false), (.bool false), (.bool true), (.bool true), (.bool false), (.bool false), (.bool false), (.bool true), (.bool false), (.bool true), (.bool false), (.bool false), (.bool false), (.bool false), (.bool false), (.bool false)]))] (by kernel_rfl) (fun _ => by kernel_rfl) ?_
    refine WO.new hS rfl (by kernel_rfl) rfl (.cells #[(.bool false), (.bool false), (.bool false), (.bool false), (.bool false), (.bool false), (.bool false), (.bool false), (.bool false), (.bool false), (.bool false), (.bool false), (.bool false), (.bool false), (.bool false), (.bool false), (.bool false), (.bool false), (.bool false), (.bool false), (.bool false), (.bool false), (.bool false), (.bool false), (.bool false)] 73 (0, 0)) (fun b => .pointer (some ⟨b, 0, none⟩)) (by kernel_rfl) (fun _ _ _ => trivial) ?_
    intro b1 w1 hS1
    refine WO.storeBox hS1 rfl (by kernel_rfl) rfl 0 rfl rfl (by kernel_rfl) (by kernel_rfl) (by kernel_rfl) (#[(.bool false), (.bool false), (.bool false), (.bool false), (.bool false), (.bool false), (.bool true), (.bool true), (.bool true), (.bool false), (.bool false), (.bool true), (.bool true), (.bool false), (.bool false), (.bool false), (.bool true), (.bool false), (.bool true), (.bool false), (.bool false), (.bool false), (.bool false), (.bool false), (.bool false)]) (by kernel_rfl) (fun _ _ => trivial) ?_
    intro w2 hS2
    refine WO.nil ?_
    refine En.next ?_
    refine W.seq ?_
    refine W.region (l := [0, 1, 2, 3, 4, 5, 6, 7, 8, 9, 10, 11, 12, 13, 14, 15, 16, 17, 18, 19, 20, 21]) (by kernel_rfl) ?_
    refine WO.vals [(0, 12, (.int .i64 p0)), (1, 13, (.bool (decide (p0 ≥ 1))))] (by kernel_rfl) (fun _ => by kernel_rfl) ?_
    refine WO.reslot 13 rfl (show Value.bool (decide (p0 ≥ 1)) = Value.bool true by congr 1; simp; omega) ?_
    refine WO.vals [(2, 14, (.bool true))] (by kernel_rfl) (fun _ => by kernel_rfl) ?_
    refine WO.vals [(3, 15, (.int .i64 p0)), (4, 16, (.bool (decide (p0 ≤ 4))))] (by kernel_rfl) (fun _ => by kernel_rfl) ?_
    refine WO.reslot 16 rfl (show Value.bool (decide (p0 ≤ 4)) = Value.bool false by congr 1; simp; omega) ?_
    refine WO.vals [(5, 17, (.bool false)), (6, 18, (.bool false))] (by kernel_rfl) (fun _ => by kernel_rfl) ?_
    refine WO.pass rfl (by kernel_rfl) rfl ?_
    refine WO.pass rfl (by kernel_rfl) rfl ?_
    refine WO.vals [(9, 21, (.bool false)), (10, 22, (.bool false))] (by kernel_rfl) (fun _ => by kernel_rfl) ?_
    refine WO.pass rfl (by kernel_rfl) rfl ?_
    refine WO.pass rfl (by kernel_rfl) rfl ?_
    refine WO.vals [(13, 25, (.bool false)), (14, 26, (.bool false))] (by kernel_rfl) (fun _ => by kernel_rfl) ?_
    refine WO.pass rfl (by kernel_rfl) rfl ?_
    refine WO.pass rfl (by kernel_rfl) rfl ?_
    refine WO.pass rfl (by kernel_rfl) rfl ?_
    refine WO.pass rfl (by kernel_rfl) rfl ?_
    refine WO.pass rfl (by kernel_rfl) rfl ?_
    refine WO.vals [(20, 32, (.bool false)), (21, 4, (.bool false))] (by kernel_rfl) (fun _ => by kernel_rfl) ?_
    refine WO.nil ?_
    refine En.next ?_
    refine W.ret ?_
    have hS3 := hS2.drop
    exact En.ret1 rfl (.bool false) rfl ⟨I, rfl, Mem.Le.refl _, hS3⟩
  by_cases h2 : p1 < 1
  · have e : r = false := by rw [← hr]; simp; omega
    subst e
    refine calls_W (args := [(.int .i64 p0), (.int .i64 p1)]) (fn := Try.f15) rfl rfl rfl ?_
    refine W.seq ?_
    refine W.region (l := [0]) (by kernel_rfl) ?_
    refine WO.vals [(0, 4, (.bool false))] (by kernel_rfl) (fun _ => by kernel_rfl) ?_
    refine WO.nil ?_
    refine En.next ?_
    refine W.seq ?_
    refine W.region (l := [0, 1, 2, 3, 4, 5, 6, 7]) (by kernel_rfl) ?_
    refine WO.vals [(0, 6, (.agg #[(.bool false), (.bool false), (.bool false), (.bool false), (.bool false)])), (1, 7, (.agg #[(.bool false), (.bool true), (.bool true), (.bool true), (.bool false)])), (2, 8, (.agg #[(.bool false), (.bool true), (.bool true), (.bool false), (.bool false)])), (3, 9, (.agg #[(.bool false), (.bool true), (.bool false), (.bool true), (.bool false)])), (4, 10, (.agg #[(.bool false), (.bool false), (.bool false), (.bool false), (.bool false)])), (5, 11, (.agg #[(.bool false), (.bool false), (.bool false), (.bool false), (.bool false), (.bool false), (.bool true), (.bool true), (.bool true), (.bool false), (.bool false), (.bool true), (.bool true), (.bool false), (.bool false), (.bool false), (.bool true), (.bool false), (.bool true), (.bool false), (.bool false), (.bool false), (.bool false), (.bool false), (.bool false)]))] (by kernel_rfl) (fun _ => by kernel_rfl) ?_
    refine WO.new hS rfl (by kernel_rfl) rfl (.cells #[(.bool false), (.bool false), (.bool false), (.bool false), (.bool false), (.bool false), (.bool false), (.bool false), (.bool false), (.bool false), (.bool false), (.bool false), (.bool false), (.bool false), (.bool false), (.bool false), (.bool false), (.bool false), (.bool false), (.bool false), (.bool false), (.bool false), (.bool false), (.bool false), (.bool false)] 73 (0, 0)) (fun b => .pointer (some ⟨b, 0, none⟩)) (by kernel_rfl) (fun _ _ _ => trivial) ?_
    intro b1 w1 hS1
    refine WO.storeBox hS1 rfl (by kernel_rfl) rfl 0 rfl rfl (by kernel_rfl) (by kernel_rfl) (by kernel_rfl) (#[(.bool false), (.bool false), (.bool false), (.bool false), (.bool false), (.bool false), (.bool true), (.bool true), (.bool true), (.bool false), (.bool false), (.bool true), (.bool true), (.bool false), (.bool false), (.bool false), (.bool true), (.bool false), (.bool true), (.bool false), (.bool false), (.bool false), (.bool false), (.bool false), (.bool false)]) (by kernel_rfl) (fun _ _ => trivial) ?_
    intro w2 hS2
    refine WO.nil ?_
    refine En.next ?_
    refine W.seq ?_
    refine W.region (l := [0, 1, 2, 3, 4, 5, 6, 7, 8, 9, 10, 11, 12, 13, 14, 15, 16, 17, 18, 19, 20, 21]) (by kernel_rfl) ?_
    refine WO.vals [(0, 12, (.int .i64 p0)), (1, 13, (.bool (decide (p0 ≥ 1))))] (by kernel_rfl) (fun _ => by kernel_rfl) ?_
    refine WO.reslot 13 rfl (show Value.bool (decide (p0 ≥ 1)) = Value.bool true by congr 1; simp; omega) ?_
    refine WO.vals [(2, 14, (.bool true))] (by kernel_rfl) (fun _ => by kernel_rfl) ?_
    refine WO.vals [(3, 15, (.int .i64 p0)), (4, 16, (.bool (decide (p0 ≤ 4))))] (by kernel_rfl) (fun _ => by kernel_rfl) ?_
    refine WO.reslot 16 rfl (show Value.bool (decide (p0 ≤ 4)) = Value.bool true by congr 1; simp; omega) ?_
    refine WO.vals [(5, 17, (.bool true)), (6, 18, (.bool true))] (by kernel_rfl) (fun _ => by kernel_rfl) ?_
    refine WO.vals [(7, 19, (.int .i64 p1)), (8, 20, (.bool (decide (p1 ≥ 1))))] (by kernel_rfl) (fun _ => by kernel_rfl) ?_
    refine WO.reslot 20 rfl (show Value.bool (decide (p1 ≥ 1)) = Value.bool false by congr 1; simp; omega) ?_
    refine WO.vals [(9, 21, (.bool false)), (10, 22, (.bool false))] (by kernel_rfl) (fun _ => by kernel_rfl) ?_
    refine WO.pass rfl (by kernel_rfl) rfl ?_
    refine WO.pass rfl (by kernel_rfl) rfl ?_
    refine WO.vals [(13, 25, (.bool false)), (14, 26, (.bool false))] (by kernel_rfl) (fun _ => by kernel_rfl) ?_
    refine WO.pass rfl (by kernel_rfl) rfl ?_
    refine WO.pass rfl (by kernel_rfl) rfl ?_
    refine WO.pass rfl (by kernel_rfl) rfl ?_
    refine WO.pass rfl (by kernel_rfl) rfl ?_
    refine WO.pass rfl (by kernel_rfl) rfl ?_
    refine WO.vals [(20, 32, (.bool false)), (21, 4, (.bool false))] (by kernel_rfl) (fun _ => by kernel_rfl) ?_
    refine WO.nil ?_
    refine En.next ?_
    refine W.ret ?_
    have hS3 := hS2.drop
    exact En.ret1 rfl (.bool false) rfl ⟨I, rfl, Mem.Le.refl _, hS3⟩
  by_cases h3 : 4 < p1
  · have e : r = false := by rw [← hr]; simp; omega
    subst e
    refine calls_W (args := [(.int .i64 p0), (.int .i64 p1)]) (fn := Try.f15) rfl rfl rfl ?_
    refine W.seq ?_
    refine W.region (l := [0]) (by kernel_rfl) ?_
    refine WO.vals [(0, 4, (.bool false))] (by kernel_rfl) (fun _ => by kernel_rfl) ?_
    refine WO.nil ?_
    refine En.next ?_
    refine W.seq ?_
    refine W.region (l := [0, 1, 2, 3, 4, 5, 6, 7]) (by kernel_rfl) ?_
    refine WO.vals [(0, 6, (.agg #[(.bool false), (.bool false), (.bool false), (.bool false), (.bool false)])), (1, 7, (.agg #[(.bool false), (.bool true), (.bool true), (.bool true), (.bool false)])), (2, 8, (.agg #[(.bool false), (.bool true), (.bool true), (.bool false), (.bool false)])), (3, 9, (.agg #[(.bool false), (.bool true), (.bool false), (.bool true), (.bool false)])), (4, 10, (.agg #[(.bool false), (.bool false), (.bool false), (.bool false), (.bool false)])), (5, 11, (.agg #[(.bool false), (.bool false), (.bool false), (.bool false), (.bool false), (.bool false), (.bool true), (.bool true), (.bool true), (.bool false), (.bool false), (.bool true), (.bool true), (.bool false), (.bool false), (.bool false), (.bool true), (.bool false), (.bool true), (.bool false), (.bool false), (.bool false), (.bool false), (.bool false), (.bool false)]))] (by kernel_rfl) (fun _ => by kernel_rfl) ?_
    refine WO.new hS rfl (by kernel_rfl) rfl (.cells #[(.bool false), (.bool false), (.bool false), (.bool false), (.bool false), (.bool false), (.bool false), (.bool false), (.bool false), (.bool false), (.bool false), (.bool false), (.bool false), (.bool false), (.bool false), (.bool false), (.bool false), (.bool false), (.bool false), (.bool false), (.bool false), (.bool false), (.bool false), (.bool false), (.bool false)] 73 (0, 0)) (fun b => .pointer (some ⟨b, 0, none⟩)) (by kernel_rfl) (fun _ _ _ => trivial) ?_
    intro b1 w1 hS1
    refine WO.storeBox hS1 rfl (by kernel_rfl) rfl 0 rfl rfl (by kernel_rfl) (by kernel_rfl) (by kernel_rfl) (#[(.bool false), (.bool false), (.bool false), (.bool false), (.bool false), (.bool false), (.bool true), (.bool true), (.bool true), (.bool false), (.bool false), (.bool true), (.bool true), (.bool false), (.bool false), (.bool false), (.bool true), (.bool false), (.bool true), (.bool false), (.bool false), (.bool false), (.bool false), (.bool false), (.bool false)]) (by kernel_rfl) (fun _ _ => trivial) ?_
    intro w2 hS2
    refine WO.nil ?_
    refine En.next ?_
    refine W.seq ?_
    refine W.region (l := [0, 1, 2, 3, 4, 5, 6, 7, 8, 9, 10, 11, 12, 13, 14, 15, 16, 17, 18, 19, 20, 21]) (by kernel_rfl) ?_
    refine WO.vals [(0, 12, (.int .i64 p0)), (1, 13, (.bool (decide (p0 ≥ 1))))] (by kernel_rfl) (fun _ => by kernel_rfl) ?_
    refine WO.reslot 13 rfl (show Value.bool (decide (p0 ≥ 1)) = Value.bool true by congr 1; simp; omega) ?_
    refine WO.vals [(2, 14, (.bool true))] (by kernel_rfl) (fun _ => by kernel_rfl) ?_
    refine WO.vals [(3, 15, (.int .i64 p0)), (4, 16, (.bool (decide (p0 ≤ 4))))] (by kernel_rfl) (fun _ => by kernel_rfl) ?_
    refine WO.reslot 16 rfl (show Value.bool (decide (p0 ≤ 4)) = Value.bool true by congr 1; simp; omega) ?_
    refine WO.vals [(5, 17, (.bool true)), (6, 18, (.bool true))] (by kernel_rfl) (fun _ => by kernel_rfl) ?_
    refine WO.vals [(7, 19, (.int .i64 p1)), (8, 20, (.bool (decide (p1 ≥ 1))))] (by kernel_rfl) (fun _ => by kernel_rfl) ?_
    refine WO.reslot 20 rfl (show Value.bool (decide (p1 ≥ 1)) = Value.bool true by congr 1; simp; omega) ?_
    refine WO.vals [(9, 21, (.bool true)), (10, 22, (.bool true))] (by kernel_rfl) (fun _ => by kernel_rfl) ?_
    refine WO.vals [(11, 23, (.int .i64 p1)), (12, 24, (.bool (decide (p1 ≤ 4))))] (by kernel_rfl) (fun _ => by kernel_rfl) ?_
    refine WO.reslot 24 rfl (show Value.bool (decide (p1 ≤ 4)) = Value.bool false by congr 1; simp; omega) ?_
    refine WO.vals [(13, 25, (.bool false)), (14, 26, (.bool false))] (by kernel_rfl) (fun _ => by kernel_rfl) ?_
    refine WO.pass rfl (by kernel_rfl) rfl ?_
    refine WO.pass rfl (by kernel_rfl) rfl ?_
    refine WO.pass rfl (by kernel_rfl) rfl ?_
    refine WO.pass rfl (by kernel_rfl) rfl ?_
    refine WO.pass rfl (by kernel_rfl) rfl ?_
    refine WO.vals [(20, 32, (.bool false)), (21, 4, (.bool false))] (by kernel_rfl) (fun _ => by kernel_rfl) ?_
    refine WO.nil ?_
    refine En.next ?_
    refine W.ret ?_
    have hS3 := hS2.drop
    exact En.ret1 rfl (.bool false) rfl ⟨I, rfl, Mem.Le.refl _, hS3⟩
  rcases (by omega : p0 = 1 ∨ p0 = 2 ∨ p0 = 3 ∨ p0 = 4) with rfl | rfl | rfl | rfl <;> rcases (by omega : p1 = 1 ∨ p1 = 2 ∨ p1 = 3 ∨ p1 = 4) with rfl | rfl | rfl | rfl
  · have e : r = true := by rw [← hr]; decide
    subst e
    refine calls_W (args := [(.int .i64 1), (.int .i64 1)]) (fn := Try.f15) rfl rfl rfl ?_
    refine W.seq ?_
    refine W.region (l := [0]) (by kernel_rfl) ?_
    refine WO.vals [(0, 4, (.bool false))] (by kernel_rfl) (fun _ => by kernel_rfl) ?_
    refine WO.nil ?_
    refine En.next ?_
    refine W.seq ?_
    refine W.region (l := [0, 1, 2, 3, 4, 5, 6, 7]) (by kernel_rfl) ?_
    refine WO.vals [(0, 6, (.agg #[(.bool false), (.bool false), (.bool false), (.bool false), (.bool false)])), (1, 7, (.agg #[(.bool false), (.bool true), (.bool true), (.bool true), (.bool false)])), (2, 8, (.agg #[(.bool false), (.bool true), (.bool true), (.bool false), (.bool false)])), (3, 9, (.agg #[(.bool false), (.bool true), (.bool false), (.bool true), (.bool false)])), (4, 10, (.agg #[(.bool false), (.bool false), (.bool false), (.bool false), (.bool false)])), (5, 11, (.agg #[(.bool false), (.bool false), (.bool false), (.bool false), (.bool false), (.bool false), (.bool true), (.bool true), (.bool true), (.bool false), (.bool false), (.bool true), (.bool true), (.bool false), (.bool false), (.bool false), (.bool true), (.bool false), (.bool true), (.bool false), (.bool false), (.bool false), (.bool false), (.bool false), (.bool false)]))] (by kernel_rfl) (fun _ => by kernel_rfl) ?_
    refine WO.new hS rfl (by kernel_rfl) rfl (.cells #[(.bool false), (.bool false), (.bool false), (.bool false), (.bool false), (.bool false), (.bool false), (.bool false), (.bool false), (.bool false), (.bool false), (.bool false), (.bool false), (.bool false), (.bool false), (.bool false), (.bool false), (.bool false), (.bool false), (.bool false), (.bool false), (.bool false), (.bool false), (.bool false), (.bool false)] 73 (0, 0)) (fun b => .pointer (some ⟨b, 0, none⟩)) (by kernel_rfl) (fun _ _ _ => trivial) ?_
    intro b1 w1 hS1
    refine WO.storeBox hS1 rfl (by kernel_rfl) rfl 0 rfl rfl (by kernel_rfl) (by kernel_rfl) (by kernel_rfl) (#[(.bool false), (.bool false), (.bool false), (.bool false), (.bool false), (.bool false), (.bool true), (.bool true), (.bool true), (.bool false), (.bool false), (.bool true), (.bool true), (.bool false), (.bool false), (.bool false), (.bool true), (.bool false), (.bool true), (.bool false), (.bool false), (.bool false), (.bool false), (.bool false), (.bool false)]) (by kernel_rfl) (fun _ _ => trivial) ?_
    intro w2 hS2
    refine WO.nil ?_
    refine En.next ?_
    refine W.seq ?_
    refine W.region (l := [0, 1, 2, 3, 4, 5, 6, 7, 8, 9, 10, 11, 12, 13, 14, 15, 16, 17, 18, 19, 20, 21]) (by kernel_rfl) ?_
    refine WO.vals [(0, 12, (.int .i64 1)), (1, 13, (.bool true)), (2, 14, (.bool true)), (3, 15, (.int .i64 1)), (4, 16, (.bool true)), (5, 17, (.bool true)), (6, 18, (.bool true)), (7, 19, (.int .i64 1)), (8, 20, (.bool true)), (9, 21, (.bool true)), (10, 22, (.bool true)), (11, 23, (.int .i64 1)), (12, 24, (.bool true)), (13, 25, (.bool true)), (14, 26, (.bool true)), (15, 27, (.int .i64 1)), (16, 28, (.int .i64 1)), (17, 29, (.pointer (some ⟨b1, 5, none⟩))), (18, 30, (.pointer (some ⟨b1, 6, none⟩)))] (by kernel_rfl) (fun _ => by kernel_rfl) ?_
    refine WO.load rfl (by kernel_rfl) (by kernel_rfl) rfl (v := (.bool true)) (fun w' hw' => cell_one ((rd_f (hS2.rd (List.Mem.head _))) w' hw') (by kernel_rfl)) ?_
    refine WO.vals [(20, 32, (.bool true)), (21, 4, (.bool true))] (by kernel_rfl) (fun _ => by kernel_rfl) ?_
    refine WO.nil ?_
    refine En.next ?_
    refine W.ret ?_
    have hS3 := hS2.drop
    exact En.ret1 rfl (.bool true) rfl ⟨I, rfl, Mem.Le.refl _, hS3⟩
  · have e : r = true := by rw [← hr]; decide
    subst e
    refine calls_W (args := [(.int .i64 1), (.int .i64 2)]) (fn := Try.f15) rfl rfl rfl ?_
    refine W.seq ?_
    refine W.region (l := [0]) (by kernel_rfl) ?_
    refine WO.vals [(0, 4, (.bool false))] (by kernel_rfl) (fun _ => by kernel_rfl) ?_
    refine WO.nil ?_
    refine En.next ?_
    refine W.seq ?_
    refine W.region (l := [0, 1, 2, 3, 4, 5, 6, 7]) (by kernel_rfl) ?_
    refine WO.vals [(0, 6, (.agg #[(.bool false), (.bool false), (.bool false), (.bool false), (.bool false)])), (1, 7, (.agg #[(.bool false), (.bool true), (.bool true), (.bool true), (.bool false)])), (2, 8, (.agg #[(.bool false), (.bool true), (.bool true), (.bool false), (.bool false)])), (3, 9, (.agg #[(.bool false), (.bool true), (.bool false), (.bool true), (.bool false)])), (4, 10, (.agg #[(.bool false), (.bool false), (.bool false), (.bool false), (.bool false)])), (5, 11, (.agg #[(.bool false), (.bool false), (.bool false), (.bool false), (.bool false), (.bool false), (.bool true), (.bool true), (.bool true), (.bool false), (.bool false), (.bool true), (.bool true), (.bool false), (.bool false), (.bool false), (.bool true), (.bool false), (.bool true), (.bool false), (.bool false), (.bool false), (.bool false), (.bool false), (.bool false)]))] (by kernel_rfl) (fun _ => by kernel_rfl) ?_
    refine WO.new hS rfl (by kernel_rfl) rfl (.cells #[(.bool false), (.bool false), (.bool false), (.bool false), (.bool false), (.bool false), (.bool false), (.bool false), (.bool false), (.bool false), (.bool false), (.bool false), (.bool false), (.bool false), (.bool false), (.bool false), (.bool false), (.bool false), (.bool false), (.bool false), (.bool false), (.bool false), (.bool false), (.bool false), (.bool false)] 73 (0, 0)) (fun b => .pointer (some ⟨b, 0, none⟩)) (by kernel_rfl) (fun _ _ _ => trivial) ?_
    intro b1 w1 hS1
    refine WO.storeBox hS1 rfl (by kernel_rfl) rfl 0 rfl rfl (by kernel_rfl) (by kernel_rfl) (by kernel_rfl) (#[(.bool false), (.bool false), (.bool false), (.bool false), (.bool false), (.bool false), (.bool true), (.bool true), (.bool true), (.bool false), (.bool false), (.bool true), (.bool true), (.bool false), (.bool false), (.bool false), (.bool true), (.bool false), (.bool true), (.bool false), (.bool false), (.bool false), (.bool false), (.bool false), (.bool false)]) (by kernel_rfl) (fun _ _ => trivial) ?_
    intro w2 hS2
    refine WO.nil ?_
    refine En.next ?_
    refine W.seq ?_
    refine W.region (l := [0, 1, 2, 3, 4, 5, 6, 7, 8, 9, 10, 11, 12, 13, 14, 15, 16, 17, 18, 19, 20, 21]) (by kernel_rfl) ?_
    refine WO.vals [(0, 12, (.int .i64 1)), (1, 13, (.bool true)), (2, 14, (.bool true)), (3, 15, (.int .i64 1)), (4, 16, (.bool true)), (5, 17, (.bool true)), (6, 18, (.bool true)), (7, 19, (.int .i64 2)), (8, 20, (.bool true)), (9, 21, (.bool true)), (10, 22, (.bool true)), (11, 23, (.int .i64 2)), (12, 24, (.bool true)), (13, 25, (.bool true)), (14, 26, (.bool true)), (15, 27, (.int .i64 1)), (16, 28, (.int .i64 2)), (17, 29, (.pointer (some ⟨b1, 5, none⟩))), (18, 30, (.pointer (some ⟨b1, 7, none⟩)))] (by kernel_rfl) (fun _ => by kernel_rfl) ?_
    refine WO.load rfl (by kernel_rfl) (by kernel_rfl) rfl (v := (.bool true)) (fun w' hw' => cell_one ((rd_f (hS2.rd (List.Mem.head _))) w' hw') (by kernel_rfl)) ?_
    refine WO.vals [(20, 32, (.bool true)), (21, 4, (.bool true))] (by kernel_rfl) (fun _ => by kernel_rfl) ?_
    refine WO.nil ?_
    refine En.next ?_
    refine W.ret ?_
    have hS3 := hS2.drop
    exact En.ret1 rfl (.bool true) rfl ⟨I, rfl, Mem.Le.refl _, hS3⟩
  · have e : r = true := by rw [← hr]; decide
    subst e
    refine calls_W (args := [(.int .i64 1), (.int .i64 3)]) (fn := Try.f15) rfl rfl rfl ?_
    refine W.seq ?_
    refine W.region (l := [0]) (by kernel_rfl) ?_
    refine WO.vals [(0, 4, (.bool false))] (by kernel_rfl) (fun _ => by kernel_rfl) ?_
    refine WO.nil ?_
    refine En.next ?_
    refine W.seq ?_
    refine W.region (l := [0, 1, 2, 3, 4, 5, 6, 7]) (by kernel_rfl) ?_
    refine WO.vals [(0, 6, (.agg #[(.bool false), (.bool false), (.bool false), (.bool false), (.bool false)])), (1, 7, (.agg #[(.bool false), (.bool true), (.bool true), (.bool true), (.bool false)])), (2, 8, (.agg #[(.bool false), (.bool true), (.bool true), (.bool false), (.bool false)])), (3, 9, (.agg #[(.bool false), (.bool true), (.bool false), (.bool true), (.bool false)])), (4, 10, (.agg #[(.bool false), (.bool false), (.bool false), (.bool false), (.bool false)])), (5, 11, (.agg #[(.bool false), (.bool false), (.bool false), (.bool false), (.bool false), (.bool false), (.bool true), (.bool true), (.bool true), (.bool false), (.bool false), (.bool true), (.bool true), (.bool false), (.bool false), (.bool false), (.bool true), (.bool false), (.bool true), (.bool false), (.bool false), (.bool false), (.bool false), (.bool false), (.bool false)]))] (by kernel_rfl) (fun _ => by kernel_rfl) ?_
    refine WO.new hS rfl (by kernel_rfl) rfl (.cells #[(.bool false), (.bool false), (.bool false), (.bool false), (.bool false), (.bool false), (.bool false), (.bool false), (.bool false), (.bool false), (.bool false), (.bool false), (.bool false), (.bool false), (.bool false), (.bool false), (.bool false), (.bool false), (.bool false), (.bool false), (.bool false), (.bool false), (.bool false), (.bool false), (.bool false)] 73 (0, 0)) (fun b => .pointer (some ⟨b, 0, none⟩)) (by kernel_rfl) (fun _ _ _ => trivial) ?_
    intro b1 w1 hS1
    refine WO.storeBox hS1 rfl (by kernel_rfl) rfl 0 rfl rfl (by kernel_rfl) (by kernel_rfl) (by kernel_rfl) (#[(.bool false), (.bool false), (.bool false), (.bool false), (.bool false), (.bool false), (.bool true), (.bool true), (.bool true), (.bool false), (.bool false), (.bool true), (.bool true), (.bool false), (.bool false), (.bool false), (.bool true), (.bool false), (.bool true), (.bool false), (.bool false), (.bool false), (.bool false), (.bool false), (.bool false)]) (by kernel_rfl) (fun _ _ => trivial) ?_
    intro w2 hS2
    refine WO.nil ?_
    refine En.next ?_
    refine W.seq ?_
    refine W.region (l := [0, 1, 2, 3, 4, 5, 6, 7, 8, 9, 10, 11, 12, 13, 14, 15, 16, 17, 18, 19, 20, 21]) (by kernel_rfl) ?_
    refine WO.vals [(0, 12, (.int .i64 1)), (1, 13, (.bool true)), (2, 14, (.bool true)), (3, 15, (.int .i64 1)), (4, 16, (.bool true)), (5, 17, (.bool true)), (6, 18, (.bool true)), (7, 19, (.int .i64 3)), (8, 20, (.bool true)), (9, 21, (.bool true)), (10, 22, (.bool true)), (11, 23, (.int .i64 3)), (12, 24, (.bool true)), (13, 25, (.bool true)), (14, 26, (.bool true)), (15, 27, (.int .i64 1)), (16, 28, (.int .i64 3)), (17, 29, (.pointer (some ⟨b1, 5, none⟩))), (18, 30, (.pointer (some ⟨b1, 8, none⟩)))] (by kernel_rfl) (fun _ => by kernel_rfl) ?_
    refine WO.load rfl (by kernel_rfl) (by kernel_rfl) rfl (v := (.bool true)) (fun w' hw' => cell_one ((rd_f (hS2.rd (List.Mem.head _))) w' hw') (by kernel_rfl)) ?_
    refine WO.vals [(20, 32, (.bool true)), (21, 4, (.bool true))] (by kernel_rfl) (fun _ => by kernel_rfl) ?_
    refine WO.nil ?_
    refine En.next ?_
    refine W.ret ?_
    have hS3 := hS2.drop
    exact En.ret1 rfl (.bool true) rfl ⟨I, rfl, Mem.Le.refl _, hS3⟩
  · have e : r = false := by rw [← hr]; decide
    subst e
    refine calls_W (args := [(.int .i64 1), (.int .i64 4)]) (fn := Try.f15) rfl rfl rfl ?_
    refine W.seq ?_
    refine W.region (l := [0]) (by kernel_rfl) ?_
    refine WO.vals [(0, 4, (.bool false))] (by kernel_rfl) (fun _ => by kernel_rfl) ?_
    refine WO.nil ?_
    refine En.next ?_
    refine W.seq ?_
    refine W.region (l := [0, 1, 2, 3, 4, 5, 6, 7]) (by kernel_rfl) ?_
    refine WO.vals [(0, 6, (.agg #[(.bool false), (.bool false), (.bool false), (.bool false), (.bool false)])), (1, 7, (.agg #[(.bool false), (.bool true), (.bool true), (.bool true), (.bool false)])), (2, 8, (.agg #[(.bool false), (.bool true), (.bool true), (.bool false), (.bool false)])), (3, 9, (.agg #[(.bool false), (.bool true), (.bool false), (.bool true), (.bool false)])), (4, 10, (.agg #[(.bool false), (.bool false), (.bool false), (.bool false), (.bool false)])), (5, 11, (.agg #[(.bool false), (.bool false), (.bool false), (.bool false), (.bool false), (.bool false), (.bool true), (.bool true), (.bool true), (.bool false), (.bool false), (.bool true), (.bool true), (.bool false), (.bool false), (.bool false), (.bool true), (.bool false), (.bool true), (.bool false), (.bool false), (.bool false), (.bool false), (.bool false), (.bool false)]))] (by kernel_rfl) (fun _ => by kernel_rfl) ?_
    refine WO.new hS rfl (by kernel_rfl) rfl (.cells #[(.bool false), (.bool false), (.bool false), (.bool false), (.bool false), (.bool false), (.bool false), (.bool false), (.bool false), (.bool false), (.bool false), (.bool false), (.bool false), (.bool false), (.bool false), (.bool false), (.bool false), (.bool false), (.bool false), (.bool false), (.bool false), (.bool false), (.bool false), (.bool false), (.bool false)] 73 (0, 0)) (fun b => .pointer (some ⟨b, 0, none⟩)) (by kernel_rfl) (fun _ _ _ => trivial) ?_
    intro b1 w1 hS1
    refine WO.storeBox hS1 rfl (by kernel_rfl) rfl 0 rfl rfl (by kernel_rfl) (by kernel_rfl) (by kernel_rfl) (#[(.bool false), (.bool false), (.bool false), (.bool false), (.bool false), (.bool false), (.bool true), (.bool true), (.bool true), (.bool false), (.bool false), (.bool true), (.bool true), (.bool false), (.bool false), (.bool false), (.bool true), (.bool false), (.bool true), (.bool false), (.bool false), (.bool false), (.bool false), (.bool false), (.bool false)]) (by kernel_rfl) (fun _ _ => trivial) ?_
    intro w2 hS2
    refine WO.nil ?_
    refine En.next ?_
    refine W.seq ?_
    refine W.region (l := [0, 1, 2, 3, 4, 5, 6, 7, 8, 9, 10, 11, 12, 13, 14, 15, 16, 17, 18, 19, 20, 21]) (by kernel_rfl) ?_
    refine WO.vals [(0, 12, (.int .i64 1)), (1, 13, (.bool true)), (2, 14, (.bool true)), (3, 15, (.int .i64 1)), (4, 16, (.bool true)), (5, 17, (.bool true)), (6, 18, (.bool true)), (7, 19, (.int .i64 4)), (8, 20, (.bool true)), (9, 21, (.bool true)), (10, 22, (.bool true)), (11, 23, (.int .i64 4)), (12, 24, (.bool true)), (13, 25, (.bool true)), (14, 26, (.bool true)), (15, 27, (.int .i64 1)), (16, 28, (.int .i64 4)), (17, 29, (.pointer (some ⟨b1, 5, none⟩))), (18, 30, (.pointer (some ⟨b1, 9, none⟩)))] (by kernel_rfl) (fun _ => by kernel_rfl) ?_
    refine WO.load rfl (by kernel_rfl) (by kernel_rfl) rfl (v := (.bool false)) (fun w' hw' => cell_one ((rd_f (hS2.rd (List.Mem.head _))) w' hw') (by kernel_rfl)) ?_
    refine WO.vals [(20, 32, (.bool false)), (21, 4, (.bool false))] (by kernel_rfl) (fun _ => by kernel_rfl) ?_
    refine WO.nil ?_
    refine En.next ?_
    refine W.ret ?_
    have hS3 := hS2.drop
    exact En.ret1 rfl (.bool false) rfl ⟨I, rfl, Mem.Le.refl _, hS3⟩
  · have e : r = true := by rw [← hr]; decide
    subst e
    refine calls_W (args := [(.int .i64 2), (.int .i64 1)]) (fn := Try.f15) rfl rfl rfl ?_
    refine W.seq ?_
    refine W.region (l := [0]) (by kernel_rfl) ?_
    refine WO.vals [(0, 4, (.bool false))] (by kernel_rfl) (fun _ => by kernel_rfl) ?_
    refine WO.nil ?_
    refine En.next ?_
    refine W.seq ?_
    refine W.region (l := [0, 1, 2, 3, 4, 5, 6, 7]) (by kernel_rfl) ?_
    refine WO.vals [(0, 6, (.agg #[(.bool false), (.bool false), (.bool false), (.bool false), (.bool false)])), (1, 7, (.agg #[(.bool false), (.bool true), (.bool true), (.bool true), (.bool false)])), (2, 8, (.agg #[(.bool false), (.bool true), (.bool true), (.bool false), (.bool false)])), (3, 9, (.agg #[(.bool false), (.bool true), (.bool false), (.bool true), (.bool false)])), (4, 10, (.agg #[(.bool false), (.bool false), (.bool false), (.bool false), (.bool false)])), (5, 11, (.agg #[(.bool false), (.bool false), (.bool false), (.bool false), (.bool false), (.bool false), (.bool true), (.bool true), (.bool true), (.bool false), (.bool false), (.bool true), (.bool true), (.bool false), (.bool false), (.bool false), (.bool true), (.bool false), (.bool true), (.bool false), (.bool false), (.bool false), (.bool false), (.bool false), (.bool false)]))] (by kernel_rfl) (fun _ => by kernel_rfl) ?_
    refine WO.new hS rfl (by kernel_rfl) rfl (.cells #[(.bool false), (.bool false), (.bool false), (.bool false), (.bool false), (.bool false), (.bool false), (.bool false), (.bool false), (.bool false), (.bool false), (.bool false), (.bool false), (.bool false), (.bool false), (.bool false), (.bool false), (.bool false), (.bool false), (.bool false), (.bool false), (.bool false), (.bool false), (.bool false), (.bool false)] 73 (0, 0)) (fun b => .pointer (some ⟨b, 0, none⟩)) (by kernel_rfl) (fun _ _ _ => trivial) ?_
    intro b1 w1 hS1
    refine WO.storeBox hS1 rfl (by kernel_rfl) rfl 0 rfl rfl (by kernel_rfl) (by kernel_rfl) (by kernel_rfl) (#[(.bool false), (.bool false), (.bool false), (.bool false), (.bool false), (.bool false), (.bool true), (.bool true), (.bool true), (.bool false), (.bool false), (.bool true), (.bool true), (.bool false), (.bool false), (.bool false), (.bool true), (.bool false), (.bool true), (.bool false), (.bool false), (.bool false), (.bool false), (.bool false), (.bool false)]) (by kernel_rfl) (fun _ _ => trivial) ?_
    intro w2 hS2
    refine WO.nil ?_
    refine En.next ?_
    refine W.seq ?_
    refine W.region (l := [0, 1, 2, 3, 4, 5, 6, 7, 8, 9, 10, 11, 12, 13, 14, 15, 16, 17, 18, 19, 20, 21]) (by kernel_rfl) ?_
    refine WO.vals [(0, 12, (.int .i64 2)), (1, 13, (.bool true)), (2, 14, (.bool true)), (3, 15, (.int .i64 2)), (4, 16, (.bool true)), (5, 17, (.bool true)), (6, 18, (.bool true)), (7, 19, (.int .i64 1)), (8, 20, (.bool true)), (9, 21, (.bool true)), (10, 22, (.bool true)), (11, 23, (.int .i64 1)), (12, 24, (.bool true)), (13, 25, (.bool true)), (14, 26, (.bool true)), (15, 27, (.int .i64 2)), (16, 28, (.int .i64 1)), (17, 29, (.pointer (some ⟨b1, 10, none⟩))), (18, 30, (.pointer (some ⟨b1, 11, none⟩)))] (by kernel_rfl) (fun _ => by kernel_rfl) ?_
    refine WO.load rfl (by kernel_rfl) (by kernel_rfl) rfl (v := (.bool true)) (fun w' hw' => cell_one ((rd_f (hS2.rd (List.Mem.head _))) w' hw') (by kernel_rfl)) ?_
    refine WO.vals [(20, 32, (.bool true)), (21, 4, (.bool true))] (by kernel_rfl) (fun _ => by kernel_rfl) ?_
    refine WO.nil ?_
    refine En.next ?_
    refine W.ret ?_
    have hS3 := hS2.drop
    exact En.ret1 rfl (.bool true) rfl ⟨I, rfl, Mem.Le.refl _, hS3⟩
  · have e : r = true := by rw [← hr]; decide
    subst e
    refine calls_W (args := [(.int .i64 2), (.int .i64 2)]) (fn := Try.f15) rfl rfl rfl ?_
    refine W.seq ?_
    refine W.region (l := [0]) (by kernel_rfl) ?_
    refine WO.vals [(0, 4, (.bool false))] (by kernel_rfl) (fun _ => by kernel_rfl) ?_
    refine WO.nil ?_
    refine En.next ?_
    refine W.seq ?_
    refine W.region (l := [0, 1, 2, 3, 4, 5, 6, 7]) (by kernel_rfl) ?_
    refine WO.vals [(0, 6, (.agg #[(.bool false), (.bool false), (.bool false), (.bool false), (.bool false)])), (1, 7, (.agg #[(.bool false), (.bool true), (.bool true), (.bool true), (.bool false)])), (2, 8, (.agg #[(.bool false), (.bool true), (.bool true), (.bool false), (.bool false)])), (3, 9, (.agg #[(.bool false), (.bool true), (.bool false), (.bool true), (.bool false)])), (4, 10, (.agg #[(.bool false), (.bool false), (.bool false), (.bool false), (.bool false)])), (5, 11, (.agg #[(.bool false), (.bool false), (.bool false), (.bool false), (.bool false), (.bool false), (.bool true), (.bool true), (.bool true), (.bool false), (.bool false), (.bool true), (.bool true), (.bool false), (.bool false), (.bool false), (.bool true), (.bool false), (.bool true), (.bool false), (.bool false), (.bool false), (.bool false), (.bool false), (.bool false)]))] (by kernel_rfl) (fun _ => by kernel_rfl) ?_
    refine WO.new hS rfl (by kernel_rfl) rfl (.cells #[(.bool false), (.bool false), (.bool false), (.bool false), (.bool false), (.bool false), (.bool false), (.bool false), (.bool false), (.bool false), (.bool false), (.bool false), (.bool false), (.bool false), (.bool false), (.bool false), (.bool false), (.bool false), (.bool false), (.bool false), (.bool false), (.bool false), (.bool false), (.bool false), (.bool false)] 73 (0, 0)) (fun b => .pointer (some ⟨b, 0, none⟩)) (by kernel_rfl) (fun _ _ _ => trivial) ?_
    intro b1 w1 hS1
    refine WO.storeBox hS1 rfl (by kernel_rfl) rfl 0 rfl rfl (by kernel_rfl) (by kernel_rfl) (by kernel_rfl) (#[(.bool false), (.bool false), (.bool false), (.bool false), (.bool false), (.bool false), (.bool true), (.bool true), (.bool true), (.bool false), (.bool false), (.bool true), (.bool true), (.bool false), (.bool false), (.bool false), (.bool true), (.bool false), (.bool true), (.bool false), (.bool false), (.bool false), (.bool false), (.bool false), (.bool false)]) (by kernel_rfl) (fun _ _ => trivial) ?_
    intro w2 hS2
    refine WO.nil ?_
    refine En.next ?_
    refine W.seq ?_
    refine W.region (l := [0, 1, 2, 3, 4, 5, 6, 7, 8, 9, 10, 11, 12, 13, 14, 15, 16, 17, 18, 19, 20, 21]) (by kernel_rfl) ?_
    refine WO.vals [(0, 12, (.int .i64 2)), (1, 13, (.bool true)), (2, 14, (.bool true)), (3, 15, (.int .i64 2)), (4, 16, (.bool true)), (5, 17, (.bool true)), (6, 18, (.bool true)), (7, 19, (.int .i64 2)), (8, 20, (.bool true)), (9, 21, (.bool true)), (10, 22, (.bool true)), (11, 23, (.int .i64 2)), (12, 24, (.bool true)), (13, 25, (.bool true)), (14, 26, (.bool true)), (15, 27, (.int .i64 2)), (16, 28, (.int .i64 2)), (17, 29, (.pointer (some ⟨b1, 10, none⟩))), (18, 30, (.pointer (some ⟨b1, 12, none⟩)))] (by kernel_rfl) (fun _ => by kernel_rfl) ?_
    refine WO.load rfl (by kernel_rfl) (by kernel_rfl) rfl (v := (.bool true)) (fun w' hw' => cell_one ((rd_f (hS2.rd (List.Mem.head _))) w' hw') (by kernel_rfl)) ?_
    refine WO.vals [(20, 32, (.bool true)), (21, 4, (.bool true))] (by kernel_rfl) (fun _ => by kernel_rfl) ?_
    refine WO.nil ?_
    refine En.next ?_
    refine W.ret ?_
    have hS3 := hS2.drop
    exact En.ret1 rfl (.bool true) rfl ⟨I, rfl, Mem.Le.refl _, hS3⟩
  · have e : r = false := by rw [← hr]; decide
    subst e
    refine calls_W (args := [(.int .i64 2), (.int .i64 3)]) (fn := Try.f15) rfl rfl rfl ?_
    refine W.seq ?_
    refine W.region (l := [0]) (by kernel_rfl) ?_
    refine WO.vals [(0, 4, (.bool false))] (by kernel_rfl) (fun _ => by kernel_rfl) ?_
    refine WO.nil ?_
    refine En.next ?_
    refine W.seq ?_
    refine W.region (l := [0, 1, 2, 3, 4, 5, 6, 7]) (by kernel_rfl) ?_
    refine WO.vals [(0, 6, (.agg #[(.bool false), (.bool false), (.bool false), (.bool false), (.bool false)])), (1, 7, (.agg #[(.bool false), (.bool true), (.bool true), (.bool true), (.bool false)])), (2, 8, (.agg #[(.bool false), (.bool true), (.bool true), (.bool false), (.bool false)])), (3, 9, (.agg #[(.bool false), (.bool true), (.bool false), (.bool true), (.bool false)])), (4, 10, (.agg #[(.bool false), (.bool false), (.bool false), (.bool false), (.bool false)])), (5, 11, (.agg #[(.bool false), (.bool false), (.bool false), (.bool false), (.bool false), (.bool false), (.bool true), (.bool true), (.bool true), (.bool false), (.bool false), (.bool true), (.bool true), (.bool false), (.bool false), (.bool false), (.bool true), (.bool false), (.bool true), (.bool false), (.bool false), (.bool false), (.bool false), (.bool false), (.bool false)]))] (by kernel_rfl) (fun _ => by kernel_rfl) ?_
    refine WO.new hS rfl (by kernel_rfl) rfl (.cells #[(.bool false), (.bool false), (.bool false), (.bool false), (.bool false), (.bool false), (.bool false), (.bool false), (.bool false), (.bool false), (.bool false), (.bool false), (.bool false), (.bool false), (.bool false), (.bool false), (.bool false), (.bool false), (.bool false), (.bool false), (.bool false), (.bool false), (.bool false), (.bool false), (.bool false)] 73 (0, 0)) (fun b => .pointer (some ⟨b, 0, none⟩)) (by kernel_rfl) (fun _ _ _ => trivial) ?_
    intro b1 w1 hS1
    refine WO.storeBox hS1 rfl (by kernel_rfl) rfl 0 rfl rfl (by kernel_rfl) (by kernel_rfl) (by kernel_rfl) (#[(.bool false), (.bool false), (.bool false), (.bool false), (.bool false), (.bool false), (.bool true), (.bool true), (.bool true), (.bool false), (.bool false), (.bool true), (.bool true), (.bool false), (.bool false), (.bool false), (.bool true), (.bool false), (.bool true), (.bool false), (.bool false), (.bool false), (.bool false), (.bool false), (.bool false)]) (by kernel_rfl) (fun _ _ => trivial) ?_
    intro w2 hS2
    refine WO.nil ?_
    refine En.next ?_
    refine W.seq ?_
    refine W.region (l := [0, 1, 2, 3, 4, 5, 6, 7, 8, 9, 10, 11, 12, 13, 14, 15, 16, 17, 18, 19, 20, 21]) (by kernel_rfl) ?_
    refine WO.vals [(0, 12, (.int .i64 2)), (1, 13, (.bool true)), (2, 14, (.bool true)), (3, 15, (.int .i64 2)), (4, 16, (.bool true)), (5, 17, (.bool true)), (6, 18, (.bool true)), (7, 19, (.int .i64 3)), (8, 20, (.bool true)), (9, 21, (.bool true)), (10, 22, (.bool true)), (11, 23, (.int .i64 3)), (12, 24, (.bool true)), (13, 25, (.bool true)), (14, 26, (.bool true)), (15, 27, (.int .i64 2)), (16, 28, (.int .i64 3)), (17, 29, (.pointer (some ⟨b1, 10, none⟩))), (18, 30, (.pointer (some ⟨b1, 13, none⟩)))] (by kernel_rfl) (fun _ => by kernel_rfl) ?_
    refine WO.load rfl (by kernel_rfl) (by kernel_rfl) rfl (v := (.bool false)) (fun w' hw' => cell_one ((rd_f (hS2.rd (List.Mem.head _))) w' hw') (by kernel_rfl)) ?_
    refine WO.vals [(20, 32, (.bool false)), (21, 4, (.bool false))] (by kernel_rfl) (fun _ => by kernel_rfl) ?_
    refine WO.nil ?_
    refine En.next ?_
    refine W.ret ?_
    have hS3 := hS2.drop
    exact En.ret1 rfl (.bool false) rfl ⟨I, rfl, Mem.Le.refl _, hS3⟩
  · have e : r = false := by rw [← hr]; decide
    subst e
    refine calls_W (args := [(.int .i64 2), (.int .i64 4)]) (fn := Try.f15) rfl rfl rfl ?_
    refine W.seq ?_
    refine W.region (l := [0]) (by kernel_rfl) ?_
    refine WO.vals [(0, 4, (.bool false))] (by kernel_rfl) (fun _ => by kernel_rfl) ?_
    refine WO.nil ?_
    refine En.next ?_
    refine W.seq ?_
    refine W.region (l := [0, 1, 2, 3, 4, 5, 6, 7]) (by kernel_rfl) ?_
    refine WO.vals [(0, 6, (.agg #[(.bool false), (.bool false), (.bool false), (.bool false), (.bool false)])), (1, 7, (.agg #[(.bool false), (.bool true), (.bool true), (.bool true), (.bool false)])), (2, 8, (.agg #[(.bool false), (.bool true), (.bool true), (.bool false), (.bool false)])), (3, 9, (.agg #[(.bool false), (.bool true), (.bool false), (.bool true), (.bool false)])), (4, 10, (.agg #[(.bool false), (.bool false), (.bool false), (.bool false), (.bool false)])), (5, 11, (.agg #[(.bool false), (.bool false), (.bool false), (.bool false), (.bool false), (.bool false), (.bool true), (.bool true), (.bool true), (.bool false), (.bool false), (.bool true), (.bool true), (.bool false), (.bool false), (.bool false), (.bool true), (.bool false), (.bool true), (.bool false), (.bool false), (.bool false), (.bool false), (.bool false), (.bool false)]))] (by kernel_rfl) (fun _ => by kernel_rfl) ?_
    refine WO.new hS rfl (by kernel_rfl) rfl (.cells #[(.bool false), (.bool false), (.bool false), (.bool false), (.bool false), (.bool false), (.bool false), (.bool false), (.bool false), (.bool false), (.bool false), (.bool false), (.bool false), (.bool false), (.bool false), (.bool false), (.bool false), (.bool false), (.bool false), (.bool false), (.bool false), (.bool false), (.bool false), (.bool false), (.bool false)] 73 (0, 0)) (fun b => .pointer (some ⟨b, 0, none⟩)) (by kernel_rfl) (fun _ _ _ => trivial) ?_
    intro b1 w1 hS1
    refine WO.storeBox hS1 rfl (by kernel_rfl) rfl 0 rfl rfl (by kernel_rfl) (by kernel_rfl) (by kernel_rfl) (#[(.bool false), (.bool false), (.bool false), (.bool false), (.bool false), (.bool false), (.bool true), (.bool true), (.bool true), (.bool false), (.bool false), (.bool true), (.bool true), (.bool false), (.bool false), (.bool false), (.bool true), (.bool false), (.bool true), (.bool false), (.bool false), (.bool false), (.bool false), (.bool false), (.bool false)]) (by kernel_rfl) (fun _ _ => trivial) ?_
    intro w2 hS2
    refine WO.nil ?_
    refine En.next ?_
    refine W.seq ?_
    refine W.region (l := [0, 1, 2, 3, 4, 5, 6, 7, 8, 9, 10, 11, 12, 13, 14, 15, 16, 17, 18, 19, 20, 21]) (by kernel_rfl) ?_
    refine WO.vals [(0, 12, (.int .i64 2)), (1, 13, (.bool true)), (2, 14, (.bool true)), (3, 15, (.int .i64 2)), (4, 16, (.bool true)), (5, 17, (.bool true)), (6, 18, (.bool true)), (7, 19, (.int .i64 4)), (8, 20, (.bool true)), (9, 21, (.bool true)), (10, 22, (.bool true)), (11, 23, (.int .i64 4)), (12, 24, (.bool true)), (13, 25, (.bool true)), (14, 26, (.bool true)), (15, 27, (.int .i64 2)), (16, 28, (.int .i64 4)), (17, 29, (.pointer (some ⟨b1, 10, none⟩))), (18, 30, (.pointer (some ⟨b1, 14, none⟩)))] (by kernel_rfl) (fun _ => by kernel_rfl) ?_
    refine WO.load rfl (by kernel_rfl) (by kernel_rfl) rfl (v := (.bool false)) (fun w' hw' => cell_one ((rd_f (hS2.rd (List.Mem.head _))) w' hw') (by kernel_rfl)) ?_
    refine WO.vals [(20, 32, (.bool false)), (21, 4, (.bool false))] (by kernel_rfl) (fun _ => by kernel_rfl) ?_
    refine WO.nil ?_
    refine En.next ?_
    refine W.ret ?_
    have hS3 := hS2.drop
    exact En.ret1 rfl (.bool false) rfl ⟨I, rfl, Mem.Le.refl _, hS3⟩
  · have e : r = true := by rw [← hr]; decide
    subst e
    refine calls_W (args := [(.int .i64 3), (.int .i64 1)]) (fn := Try.f15) rfl rfl rfl ?_
    refine W.seq ?_
    refine W.region (l := [0]) (by kernel_rfl) ?_
    refine WO.vals [(0, 4, (.bool false))] (by kernel_rfl) (fun _ => by kernel_rfl) ?_
    refine WO.nil ?_
    refine En.next ?_
    refine W.seq ?_
    refine W.region (l := [0, 1, 2, 3, 4, 5, 6, 7]) (by kernel_rfl) ?_
    refine WO.vals [(0, 6, (.agg #[(.bool false), (.bool false), (.bool false), (.bool false), (.bool false)])), (1, 7, (.agg #[(.bool false), (.bool true), (.bool true), (.bool true), (.bool false)])), (2, 8, (.agg #[(.bool false), (.bool true), (.bool true), (.bool false), (.bool false)])), (3, 9, (.agg #[(.bool false), (.bool true), (.bool false), (.bool true), (.bool false)])), (4, 10, (.agg #[(.bool false), (.bool false), (.bool false), (.bool false), (.bool false)])), (5, 11, (.agg #[(.bool false), (.bool false), (.bool false), (.bool false), (.bool false), (.bool false), (.bool true), (.bool true), (.bool true), (.bool false), (.bool false), (.bool true), (.bool true), (.bool false), (.bool false), (.bool false), (.bool true), (.bool false), (.bool true), (.bool false), (.bool false), (.bool false), (.bool false), (.bool false), (.bool false)]))] (by kernel_rfl) (fun _ => by kernel_rfl) ?_
    refine WO.new hS rfl (by kernel_rfl) rfl (.cells #[(.bool false), (.bool false), (.bool false), (.bool false), (.bool false), (.bool false), (.bool false), (.bool false), (.bool false), (.bool false), (.bool false), (.bool false), (.bool false), (.bool false), (.bool false), (.bool false), (.bool false), (.bool false), (.bool false), (.bool false), (.bool false), (.bool false), (.bool false), (.bool false), (.bool false)] 73 (0, 0)) (fun b => .pointer (some ⟨b, 0, none⟩)) (by kernel_rfl) (fun _ _ _ => trivial) ?_
    intro b1 w1 hS1
    refine WO.storeBox hS1 rfl (by kernel_rfl) rfl 0 rfl rfl (by kernel_rfl) (by kernel_rfl) (by kernel_rfl) (#[(.bool false), (.bool false), (.bool false), (.bool false), (.bool false), (.bool false), (.bool true), (.bool true), (.bool true), (.bool false), (.bool false), (.bool true), (.bool true), (.bool false), (.bool false), (.bool false), (.bool true), (.bool false), (.bool true), (.bool false), (.bool false), (.bool false), (.bool false), (.bool false), (.bool false)]) (by kernel_rfl) (fun _ _ => trivial) ?_
    intro w2 hS2
    refine WO.nil ?_
    refine En.next ?_
    refine W.seq ?_
    refine W.region (l := [0, 1, 2, 3, 4, 5, 6, 7, 8, 9, 10, 11, 12, 13, 14, 15, 16, 17, 18, 19, 20, 21]) (by kernel_rfl) ?_
    refine WO.vals [(0, 12, (.int .i64 3)), (1, 13, (.bool true)), (2, 14, (.bool true)), (3, 15, (.int .i64 3)), (4, 16, (.bool true)), (5, 17, (.bool true)), (6, 18, (.bool true)), (7, 19, (.int .i64 1)), (8, 20, (.bool true)), (9, 21, (.bool true)), (10, 22, (.bool true)), (11, 23, (.int .i64 1)), (12, 24, (.bool true)), (13, 25, (.bool true)), (14, 26, (.bool true)), (15, 27, (.int .i64 3)), (16, 28, (.int .i64 1)), (17, 29, (.pointer (some ⟨b1, 15, none⟩))), (18, 30, (.pointer (some ⟨b1, 16, none⟩)))] (by kernel_rfl) (fun _ => by kernel_rfl) ?_
    refine WO.load rfl (by kernel_rfl) (by kernel_rfl) rfl (v := (.bool true)) (fun w' hw' => cell_one ((rd_f (hS2.rd (List.Mem.head _))) w' hw') (by kernel_rfl)) ?_
    refine WO.vals [(20, 32, (.bool true)), (21, 4, (.bool true))] (by kernel_rfl) (fun _ => by kernel_rfl) ?_
    refine WO.nil ?_
    refine En.next ?_
    refine W.ret ?_
    have hS3 := hS2.drop
    exact En.ret1 rfl (.bool true) rfl ⟨I, rfl, Mem.Le.refl _, hS3⟩
  · have e : r = false := by rw [← hr]; decide
    subst e
    refine calls_W (args := [(.int .i64 3), (.int .i64 2)]) (fn := Try.f15) rfl rfl rfl ?_
    refine W.seq ?_
    refine W.region (l := [0]) (by kernel_rfl) ?_
    refine WO.vals [(0, 4, (.bool false))] (by kernel_rfl) (fun _ => by kernel_rfl) ?_
    refine WO.nil ?_
    refine En.next ?_
    refine W.seq ?_
    refine W.region (l := [0, 1, 2, 3, 4, 5, 6, 7]) (by kernel_rfl) ?_
    refine WO.vals [(0, 6, (.agg #[(.bool false), (.bool false), (.bool false), (.bool false), (.bool false)])), (1, 7, (.agg #[(.bool false), (.bool true), (.bool true), (.bool true), (.bool false)])), (2, 8, (.agg #[(.bool false), (.bool true), (.bool true), (.bool false), (.bool false)])), (3, 9, (.agg #[(.bool false), (.bool true), (.bool false), (.bool true), (.bool false)])), (4, 10, (.agg #[(.bool false), (.bool false), (.bool false), (.bool false), (.bool false)])), (5, 11, (.agg #[(.bool false), (.bool false), (.bool false), (.bool false), (.bool false), (.bool false), (.bool true), (.bool true), (.bool true), (.bool false), (.bool false), (.bool true), (.bool true), (.bool false), (.bool false), (.bool false), (.bool true), (.bool false), (.bool true), (.bool false), (.bool false), (.bool false), (.bool false), (.bool false), (.bool false)]))] (by kernel_rfl) (fun _ => by kernel_rfl) ?_
    refine WO.new hS rfl (by kernel_rfl) rfl (.cells #[(.bool false), (.bool false), (.bool false), (.bool false), (.bool false), (.bool false), (.bool false), (.bool false), (.bool false), (.bool false), (.bool false), (.bool false), (.bool false), (.bool false), (.bool false), (.bool false), (.bool false), (.bool false), (.bool false), (.bool false), (.bool false), (.bool false), (.bool false), (.bool false), (.bool false)] 73 (0, 0)) (fun b => .pointer (some ⟨b, 0, none⟩)) (by kernel_rfl) (fun _ _ _ => trivial) ?_
    intro b1 w1 hS1
    refine WO.storeBox hS1 rfl (by kernel_rfl) rfl 0 rfl rfl (by kernel_rfl) (by kernel_rfl) (by kernel_rfl) (#[(.bool false), (.bool false), (.bool false), (.bool false), (.bool false), (.bool false), (.bool true), (.bool true), (.bool true), (.bool false), (.bool false), (.bool true), (.bool true), (.bool false), (.bool false), (.bool false), (.bool true), (.bool false), (.bool true), (.bool false), (.bool false), (.bool false), (.bool false), (.bool false), (.bool false)]) (by kernel_rfl) (fun _ _ => trivial) ?_
    intro w2 hS2
    refine WO.nil ?_
    refine En.next ?_
    refine W.seq ?_
    refine W.region (l := [0, 1, 2, 3, 4, 5, 6, 7, 8, 9, 10, 11, 12, 13, 14, 15, 16, 17, 18, 19, 20, 21]) (by kernel_rfl) ?_
    refine WO.vals [(0, 12, (.int .i64 3)), (1, 13, (.bool true)), (2, 14, (.bool true)), (3, 15, (.int .i64 3)), (4, 16, (.bool true)), (5, 17, (.bool true)), (6, 18, (.bool true)), (7, 19, (.int .i64 2)), (8, 20, (.bool true)), (9, 21, (.bool true)), (10, 22, (.bool true)), (11, 23, (.int .i64 2)), (12, 24, (.bool true)), (13, 25, (.bool true)), (14, 26, (.bool true)), (15, 27, (.int .i64 3)), (16, 28, (.int .i64 2)), (17, 29, (.pointer (some ⟨b1, 15, none⟩))), (18, 30, (.pointer (some ⟨b1, 17, none⟩)))] (by kernel_rfl) (fun _ => by kernel_rfl) ?_
    refine WO.load rfl (by kernel_rfl) (by kernel_rfl) rfl (v := (.bool false)) (fun w' hw' => cell_one ((rd_f (hS2.rd (List.Mem.head _))) w' hw') (by kernel_rfl)) ?_
    refine WO.vals [(20, 32, (.bool false)), (21, 4, (.bool false))] (by kernel_rfl) (fun _ => by kernel_rfl) ?_
    refine WO.nil ?_
    refine En.next ?_
    refine W.ret ?_
    have hS3 := hS2.drop
    exact En.ret1 rfl (.bool false) rfl ⟨I, rfl, Mem.Le.refl _, hS3⟩
  · have e : r = true := by rw [← hr]; decide
    subst e
    refine calls_W (args := [(.int .i64 3), (.int .i64 3)]) (fn := Try.f15) rfl rfl rfl ?_
    refine W.seq ?_
    refine W.region (l := [0]) (by kernel_rfl) ?_
    refine WO.vals [(0, 4, (.bool false))] (by kernel_rfl) (fun _ => by kernel_rfl) ?_
    refine WO.nil ?_
    refine En.next ?_
    refine W.seq ?_
    refine W.region (l := [0, 1, 2, 3, 4, 5, 6, 7]) (by kernel_rfl) ?_
    refine WO.vals [(0, 6, (.agg #[(.bool false), (.bool false), (.bool false), (.bool false), (.bool false)])), (1, 7, (.agg #[(.bool false), (.bool true), (.bool true), (.bool true), (.bool false)])), (2, 8, (.agg #[(.bool false), (.bool true), (.bool true), (.bool false), (.bool false)])), (3, 9, (.agg #[(.bool false), (.bool true), (.bool false), (.bool true), (.bool false)])), (4, 10, (.agg #[(.bool false), (.bool false), (.bool false), (.bool false), (.bool false)])), (5, 11, (.agg #[(.bool false), (.bool false), (.bool false), (.bool false), (.bool false), (.bool false), (.bool true), (.bool true), (.bool true), (.bool false), (.bool false), (.bool true), (.bool true), (.bool false), (.bool false), (.bool false), (.bool true), (.bool false), (.bool true), (.bool false), (.bool false), (.bool false), (.bool false), (.bool false), (.bool false)]))] (by kernel_rfl) (fun _ => by kernel_rfl) ?_
    refine WO.new hS rfl (by kernel_rfl) rfl (.cells #[(.bool false), (.bool false), (.bool false), (.bool false), (.bool false), (.bool false), (.bool false), (.bool false), (.bool false), (.bool false), (.bool false), (.bool false), (.bool false), (.bool false), (.bool false), (.bool false), (.bool false), (.bool false), (.bool false), (.bool false), (.bool false), (.bool false), (.bool false), (.bool false), (.bool false)] 73 (0, 0)) (fun b => .pointer (some ⟨b, 0, none⟩)) (by kernel_rfl) (fun _ _ _ => trivial) ?_
    intro b1 w1 hS1
    refine WO.storeBox hS1 rfl (by kernel_rfl) rfl 0 rfl rfl (by kernel_rfl) (by kernel_rfl) (by kernel_rfl) (#[(.bool false), (.bool false), (.bool false), (.bool false), (.bool false), (.bool false), (.bool true), (.bool true), (.bool true), (.bool false), (.bool false), (.bool true), (.bool true), (.bool false), (.bool false), (.bool false), (.bool true), (.bool false), (.bool true), (.bool false), (.bool false), (.bool false), (.bool false), (.bool false), (.bool false)]) (by kernel_rfl) (fun _ _ => trivial) ?_
    intro w2 hS2
    refine WO.nil ?_
    refine En.next ?_
    refine W.seq ?_
    refine W.region (l := [0, 1, 2, 3, 4, 5, 6, 7, 8, 9, 10, 11, 12, 13, 14, 15, 16, 17, 18, 19, 20, 21]) (by kernel_rfl) ?_
    refine WO.vals [(0, 12, (.int .i64 3)), (1, 13, (.bool true)), (2, 14, (.bool true)), (3, 15, (.int .i64 3)), (4, 16, (.bool true)), (5, 17, (.bool true)), (6, 18, (.bool true)), (7, 19, (.int .i64 3)), (8, 20, (.bool true)), (9, 21, (.bool true)), (10, 22, (.bool true)), (11, 23, (.int .i64 3)), (12, 24, (.bool true)), (13, 25, (.bool true)), (14, 26, (.bool true)), (15, 27, (.int .i64 3)), (16, 28, (.int .i64 3)), (17, 29, (.pointer (some ⟨b1, 15, none⟩))), (18, 30, (.pointer (some ⟨b1, 18, none⟩)))] (by kernel_rfl) (fun _ => by kernel_rfl) ?_
    refine WO.load rfl (by kernel_rfl) (by kernel_rfl) rfl (v := (.bool true)) (fun w' hw' => cell_one ((rd_f (hS2.rd (List.Mem.head _))) w' hw') (by kernel_rfl)) ?_
    refine WO.vals [(20, 32, (.bool true)), (21, 4, (.bool true))] (by kernel_rfl) (fun _ => by kernel_rfl) ?_
    refine WO.nil ?_
    refine En.next ?_
    refine W.ret ?_
    have hS3 := hS2.drop
    exact En.ret1 rfl (.bool true) rfl ⟨I, rfl, Mem.Le.refl _, hS3⟩
  · have e : r = false := by rw [← hr]; decide
    subst e
    refine calls_W (args := [(.int .i64 3), (.int .i64 4)]) (fn := Try.f15) rfl rfl rfl ?_
    refine W.seq ?_
    refine W.region (l := [0]) (by kernel_rfl) ?_
    refine WO.vals [(0, 4, (.bool false))] (by kernel_rfl) (fun _ => by kernel_rfl) ?_
    refine WO.nil ?_
    refine En.next ?_
    refine W.seq ?_
    refine W.region (l := [0, 1, 2, 3, 4, 5, 6, 7]) (by kernel_rfl) ?_
    refine WO.vals [(0, 6, (.agg #[(.bool false), (.bool false), (.bool false), (.bool false), (.bool false)])), (1, 7, (.agg #[(.bool false), (.bool true), (.bool true), (.bool true), (.bool false)])), (2, 8, (.agg #[(.bool false), (.bool true), (.bool true), (.bool false), (.bool false)])), (3, 9, (.agg #[(.bool false), (.bool true), (.bool false), (.bool true), (.bool false)])), (4, 10, (.agg #[(.bool false), (.bool false), (.bool false), (.bool false), (.bool false)])), (5, 11, (.agg #[(.bool false), (.bool false), (.bool false), (.bool false), (.bool false), (.bool false), (.bool true), (.bool true), (.bool true), (.bool false), (.bool false), (.bool true), (.bool true), (.bool false), (.bool false), (.bool false), (.bool true), (.bool false), (.bool true), (.bool false), (.bool false), (.bool false), (.bool false), (.bool false), (.bool false)]))] (by kernel_rfl) (fun _ => by kernel_rfl) ?_
    refine WO.new hS rfl (by kernel_rfl) rfl (.cells #[(.bool false), (.bool false), (.bool false), (.bool false), (.bool false), (.bool false), (.bool false), (.bool false), (.bool false), (.bool false), (.bool false), (.bool false), (.bool false), (.bool false), (.bool false), (.bool false), (.bool false), (.bool false), (.bool false), (.bool false), (.bool false), (.bool false), (.bool false), (.bool false), (.bool false)] 73 (0, 0)) (fun b => .pointer (some ⟨b, 0, none⟩)) (by kernel_rfl) (fun _ _ _ => trivial) ?_
    intro b1 w1 hS1
    refine WO.storeBox hS1 rfl (by kernel_rfl) rfl 0 rfl rfl (by kernel_rfl) (by kernel_rfl) (by kernel_rfl) (#[(.bool false), (.bool false), (.bool false), (.bool false), (.bool false), (.bool false), (.bool true), (.bool true), (.bool true), (.bool false), (.bool false), (.bool true), (.bool true), (.bool false), (.bool false), (.bool false), (.bool true), (.bool false), (.bool true), (.bool false), (.bool false), (.bool false), (.bool false), (.bool false), (.bool false)]) (by kernel_rfl) (fun _ _ => trivial) ?_
    intro w2 hS2
    refine WO.nil ?_
    refine En.next ?_
    refine W.seq ?_
    refine W.region (l := [0, 1, 2, 3, 4, 5, 6, 7, 8, 9, 10, 11, 12, 13, 14, 15, 16, 17, 18, 19, 20, 21]) (by kernel_rfl) ?_
    refine WO.vals [(0, 12, (.int .i64 3)), (1, 13, (.bool true)), (2, 14, (.bool true)), (3, 15, (.int .i64 3)), (4, 16, (.bool true)), (5, 17, (.bool true)), (6, 18, (.bool true)), (7, 19, (.int .i64 4)), (8, 20, (.bool true)), (9, 21, (.bool true)), (10, 22, (.bool true)), (11, 23, (.int .i64 4)), (12, 24, (.bool true)), (13, 25, (.bool true)), (14, 26, (.bool true)), (15, 27, (.int .i64 3)), (16, 28, (.int .i64 4)), (17, 29, (.pointer (some ⟨b1, 15, none⟩))), (18, 30, (.pointer (some ⟨b1, 19, none⟩)))] (by kernel_rfl) (fun _ => by kernel_rfl) ?_
    refine WO.load rfl (by kernel_rfl) (by kernel_rfl) rfl (v := (.bool false)) (fun w' hw' => cell_one ((rd_f (hS2.rd (List.Mem.head _))) w' hw') (by kernel_rfl)) ?_
    refine WO.vals [(20, 32, (.bool false)), (21, 4, (.bool false))] (by kernel_rfl) (fun _ => by kernel_rfl) ?_
    refine WO.nil ?_
    refine En.next ?_
    refine W.ret ?_
    have hS3 := hS2.drop
    exact En.ret1 rfl (.bool false) rfl ⟨I, rfl, Mem.Le.refl _, hS3⟩
  · have e : r = false := by rw [← hr]; decide
    subst e
    refine calls_W (args := [(.int .i64 4), (.int .i64 1)]) (fn := Try.f15) rfl rfl rfl ?_
    refine W.seq ?_
    refine W.region (l := [0]) (by kernel_rfl) ?_
    refine WO.vals [(0, 4, (.bool false))] (by kernel_rfl) (fun _ => by kernel_rfl) ?_
    refine WO.nil ?_
    refine En.next ?_
    refine W.seq ?_
    refine W.region (l := [0, 1, 2, 3, 4, 5, 6, 7]) (by kernel_rfl) ?_
    refine WO.vals [(0, 6, (.agg #[(.bool false), (.bool false), (.bool false), (.bool false), (.bool false)])), (1, 7, (.agg #[(.bool false), (.bool true), (.bool true), (.bool true), (.bool false)])), (2, 8, (.agg #[(.bool false), (.bool true), (.bool true), (.bool false), (.bool false)])), (3, 9, (.agg #[(.bool false), (.bool true), (.bool false), (.bool true), (.bool false)])), (4, 10, (.agg #[(.bool false), (.bool false), (.bool false), (.bool false), (.bool false)])), (5, 11, (.agg #[(.bool false), (.bool false), (.bool false), (.bool false), (.bool false), (.bool false), (.bool true), (.bool true), (.bool true), (.bool false), (.bool false), (.bool true), (.bool true), (.bool false), (.bool false), (.bool false), (.bool true), (.bool false), (.bool true), (.bool false), (.bool false), (.bool false), (.bool false), (.bool false), (.bool false)]))] (by kernel_rfl) (fun _ => by kernel_rfl) ?_
    refine WO.new hS rfl (by kernel_rfl) rfl (.cells #[(.bool false), (.bool false), (.bool false), (.bool false), (.bool false), (.bool false), (.bool false), (.bool false), (.bool false), (.bool false), (.bool false), (.bool false), (.bool false), (.bool false), (.bool false), (.bool false), (.bool false), (.bool false), (.bool false), (.bool false), (.bool false), (.bool false), (.bool false), (.bool false), (.bool false)] 73 (0, 0)) (fun b => .pointer (some ⟨b, 0, none⟩)) (by kernel_rfl) (fun _ _ _ => trivial) ?_
    intro b1 w1 hS1
    refine WO.storeBox hS1 rfl (by kernel_rfl) rfl 0 rfl rfl (by kernel_rfl) (by kernel_rfl) (by kernel_rfl) (#[(.bool false), (.bool false), (.bool false), (.bool false), (.bool false), (.bool false), (.bool true), (.bool true), (.bool true), (.bool false), (.bool false), (.bool true), (.bool true), (.bool false), (.bool false), (.bool false), (.bool true), (.bool false), (.bool true), (.bool false), (.bool false), (.bool false), (.bool false), (.bool false), (.bool false)]) (by kernel_rfl) (fun _ _ => trivial) ?_
    intro w2 hS2
    refine WO.nil ?_
    refine En.next ?_
    refine W.seq ?_
    refine W.region (l := [0, 1, 2, 3, 4, 5, 6, 7, 8, 9, 10, 11, 12, 13, 14, 15, 16, 17, 18, 19, 20, 21]) (by kernel_rfl) ?_
    refine WO.vals [(0, 12, (.int .i64 4)), (1, 13, (.bool true)), (2, 14, (.bool true)), (3, 15, (.int .i64 4)), (4, 16, (.bool true)), (5, 17, (.bool true)), (6, 18, (.bool true)), (7, 19, (.int .i64 1)), (8, 20, (.bool true)), (9, 21, (.bool true)), (10, 22, (.bool true)), (11, 23, (.int .i64 1)), (12, 24, (.bool true)), (13, 25, (.bool true)), (14, 26, (.bool true)), (15, 27, (.int .i64 4)), (16, 28, (.int .i64 1)), (17, 29, (.pointer (some ⟨b1, 20, none⟩))), (18, 30, (.pointer (some ⟨b1, 21, none⟩)))] (by kernel_rfl) (fun _ => by kernel_rfl) ?_
    refine WO.load rfl (by kernel_rfl) (by kernel_rfl) rfl (v := (.bool false)) (fun w' hw' => cell_one ((rd_f (hS2.rd (List.Mem.head _))) w' hw') (by kernel_rfl)) ?_
    refine WO.vals [(20, 32, (.bool false)), (21, 4, (.bool false))] (by kernel_rfl) (fun _ => by kernel_rfl) ?_
    refine WO.nil ?_
    refine En.next ?_
    refine W.ret ?_
    have hS3 := hS2.drop
    exact En.ret1 rfl (.bool false) rfl ⟨I, rfl, Mem.Le.refl _, hS3⟩
  · have e : r = false := by rw [← hr]; decide
    subst e
    refine calls_W (args := [(.int .i64 4), (.int .i64 2)]) (fn := Try.f15) rfl rfl rfl ?_
    refine W.seq ?_
    refine W.region (l := [0]) (by kernel_rfl) ?_
    refine WO.vals [(0, 4, (.bool false))] (by kernel_rfl) (fun _ => by kernel_rfl) ?_
    refine WO.nil ?_
    refine En.next ?_
    refine W.seq ?_
    refine W.region (l := [0, 1, 2, 3, 4, 5, 6, 7]) (by kernel_rfl) ?_
    refine WO.vals [(0, 6, (.agg #[(.bool false), (.bool false), (.bool false), (.bool false), (.bool false)])), (1, 7, (.agg #[(.bool false), (.bool true), (.bool true), (.bool true), (.bool false)])), (2, 8, (.agg #[(.bool false), (.bool true), (.bool true), (.bool false), (.bool false)])), (3, 9, (.agg #[(.bool false), (.bool true), (.bool false), (.bool true), (.bool false)])), (4, 10, (.agg #[(.bool false), (.bool false), (.bool false), (.bool false), (.bool false)])), (5, 11, (.agg #[(.bool false), (.bool false), (.bool false), (.bool false), (.bool false), (.bool false), (.bool true), (.bool true), (.bool true), (.bool false), (.bool false), (.bool true), (.bool true), (.bool false), (.bool false), (.bool false), (.bool true), (.bool false), (.bool true), (.bool false), (.bool false), (.bool false), (.bool false), (.bool false), (.bool false)]))] (by kernel_rfl) (fun _ => by kernel_rfl) ?_
    refine WO.new hS rfl (by kernel_rfl) rfl (.cells #[(.bool false), (.bool false), (.bool false), (.bool false), (.bool false), (.bool false), (.bool false), (.bool false), (.bool false), (.bool false), (.bool false), (.bool false), (.bool false), (.bool false), (.bool false), (.bool false), (.bool false), (.bool false), (.bool false), (.bool false), (.bool false), (.bool false), (.bool false), (.bool false), (.bool false)] 73 (0, 0)) (fun b => .pointer (some ⟨b, 0, none⟩)) (by kernel_rfl) (fun _ _ _ => trivial) ?_
    intro b1 w1 hS1
    refine WO.storeBox hS1 rfl (by kernel_rfl) rfl 0 rfl rfl (by kernel_rfl) (by kernel_rfl) (by kernel_rfl) (#[(.bool false), (.bool false), (.bool false), (.bool false), (.bool false), (.bool false), (.bool true), (.bool true), (.bool true), (.bool false), (.bool false), (.bool true), (.bool true), (.bool false), (.bool false), (.bool false), (.bool true), (.bool false), (.bool true), (.bool false), (.bool false), (.bool false), (.bool false), (.bool false), (.bool false)]) (by kernel_rfl) (fun _ _ => trivial) ?_
    intro w2 hS2
    refine WO.nil ?_
    refine En.next ?_
    refine W.seq ?_
    refine W.region (l := [0, 1, 2, 3, 4, 5, 6, 7, 8, 9, 10, 11, 12, 13, 14, 15, 16, 17, 18, 19, 20, 21]) (by kernel_rfl) ?_
    refine WO.vals [(0, 12, (.int .i64 4)), (1, 13, (.bool true)), (2, 14, (.bool true)), (3, 15, (.int .i64 4)), (4, 16, (.bool true)), (5, 17, (.bool true)), (6, 18, (.bool true)), (7, 19, (.int .i64 2)), (8, 20, (.bool true)), (9, 21, (.bool true)), (10, 22, (.bool true)), (11, 23, (.int .i64 2)), (12, 24, (.bool true)), (13, 25, (.bool true)), (14, 26, (.bool true)), (15, 27, (.int .i64 4)), (16, 28, (.int .i64 2)), (17, 29, (.pointer (some ⟨b1, 20, none⟩))), (18, 30, (.pointer (some ⟨b1, 22, none⟩)))] (by kernel_rfl) (fun _ => by kernel_rfl) ?_
    refine WO.load rfl (by kernel_rfl) (by kernel_rfl) rfl (v := (.bool false)) (fun w' hw' => cell_one ((rd_f (hS2.rd (List.Mem.head _))) w' hw') (by kernel_rfl)) ?_
    refine WO.vals [(20, 32, (.bool false)), (21, 4, (.bool false))] (by kernel_rfl) (fun _ => by kernel_rfl) ?_
    refine WO.nil ?_
    refine En.next ?_
    refine W.ret ?_
    have hS3 := hS2.drop
    exact En.ret1 rfl (.bool false) rfl ⟨I, rfl, Mem.Le.refl _, hS3⟩
  · have e : r = false := by rw [← hr]; decide
    subst e
    refine calls_W (args := [(.int .i64 4), (.int .i64 3)]) (fn := Try.f15) rfl rfl rfl ?_
    refine W.seq ?_
    refine W.region (l := [0]) (by kernel_rfl) ?_
    refine WO.vals [(0, 4, (.bool false))] (by kernel_rfl) (fun _ => by kernel_rfl) ?_
    refine WO.nil ?_
    refine En.next ?_
    refine W.seq ?_
    refine W.region (l := [0, 1, 2, 3, 4, 5, 6, 7]) (by kernel_rfl) ?_
    refine WO.vals [(0, 6, (.agg #[(.bool false), (.bool false), (.bool false), (.bool false), (.bool false)])), (1, 7, (.agg #[(.bool false), (.bool true), (.bool true), (.bool true), (.bool false)])), (2, 8, (.agg #[(.bool false), (.bool true), (.bool true), (.bool false), (.bool false)])), (3, 9, (.agg #[(.bool false), (.bool true), (.bool false), (.bool true), (.bool false)])), (4, 10, (.agg #[(.bool false), (.bool false), (.bool false), (.bool false), (.bool false)])), (5, 11, (.agg #[(.bool false), (.bool false), (.bool false), (.bool false), (.bool false), (.bool false), (.bool true), (.bool true), (.bool true), (.bool false), (.bool false), (.bool true), (.bool true), (.bool false), (.bool false), (.bool false), (.bool true), (.bool false), (.bool true), (.bool false), (.bool false), (.bool false), (.bool false), (.bool false), (.bool false)]))] (by kernel_rfl) (fun _ => by kernel_rfl) ?_
    refine WO.new hS rfl (by kernel_rfl) rfl (.cells #[(.bool false), (.bool false), (.bool false), (.bool false), (.bool false), (.bool false), (.bool false), (.bool false), (.bool false), (.bool false), (.bool false), (.bool false), (.bool false), (.bool false), (.bool false), (.bool false), (.bool false), (.bool false), (.bool false), (.bool false), (.bool false), (.bool false), (.bool false), (.bool false), (.bool false)] 73 (0, 0)) (fun b => .pointer (some ⟨b, 0, none⟩)) (by kernel_rfl) (fun _ _ _ => trivial) ?_
    intro b1 w1 hS1
    refine WO.storeBox hS1 rfl (by kernel_rfl) rfl 0 rfl rfl (by kernel_rfl) (by kernel_rfl) (by kernel_rfl) (#[(.bool false), (.bool false), (.bool false), (.bool false), (.bool false), (.bool false), (.bool true), (.bool true), (.bool true), (.bool false), (.bool false), (.bool true), (.bool true), (.bool false), (.bool false), (.bool false), (.bool true), (.bool false), (.bool true), (.bool false), (.bool false), (.bool false), (.bool false), (.bool false), (.bool false)]) (by kernel_rfl) (fun _ _ => trivial) ?_
    intro w2 hS2
    refine WO.nil ?_
    refine En.next ?_
    refine W.seq ?_
    refine W.region (l := [0, 1, 2, 3, 4, 5, 6, 7, 8, 9, 10, 11, 12, 13, 14, 15, 16, 17, 18, 19, 20, 21]) (by kernel_rfl) ?_
    refine WO.vals [(0, 12, (.int .i64 4)), (1, 13, (.bool true)), (2, 14, (.bool true)), (3, 15, (.int .i64 4)), (4, 16, (.bool true)), (5, 17, (.bool true)), (6, 18, (.bool true)), (7, 19, (.int .i64 3)), (8, 20, (.bool true)), (9, 21, (.bool true)), (10, 22, (.bool true)), (11, 23, (.int .i64 3)), (12, 24, (.bool true)), (13, 25, (.bool true)), (14, 26, (.bool true)), (15, 27, (.int .i64 4)), (16, 28, (.int .i64 3)), (17, 29, (.pointer (some ⟨b1, 20, none⟩))), (18, 30, (.pointer (some ⟨b1, 23, none⟩)))] (by kernel_rfl) (fun _ => by kernel_rfl) ?_
    refine WO.load rfl (by kernel_rfl) (by kernel_rfl) rfl (v := (.bool false)) (fun w' hw' => cell_one ((rd_f (hS2.rd (List.Mem.head _))) w' hw') (by kernel_rfl)) ?_
    refine WO.vals [(20, 32, (.bool false)), (21, 4, (.bool false))] (by kernel_rfl) (fun _ => by kernel_rfl) ?_
    refine WO.nil ?_
    refine En.next ?_
    refine W.ret ?_
    have hS3 := hS2.drop
    exact En.ret1 rfl (.bool false) rfl ⟨I, rfl, Mem.Le.refl _, hS3⟩
  · have e : r = false := by rw [← hr]; decide
    subst e
    refine calls_W (args := [(.int .i64 4), (.int .i64 4)]) (fn := Try.f15) rfl rfl rfl ?_
    refine W.seq ?_
    refine W.region (l := [0]) (by kernel_rfl) ?_
    refine WO.vals [(0, 4, (.bool false))] (by kernel_rfl) (fun _ => by kernel_rfl) ?_
    refine WO.nil ?_
    refine En.next ?_
    refine W.seq ?_
    refine W.region (l := [0, 1, 2, 3, 4, 5, 6, 7]) (by kernel_rfl) ?_
    refine WO.vals [(0, 6, (.agg #[(.bool false), (.bool false), (.bool false), (.bool false), (.bool false)])), (1, 7, (.agg #[(.bool false), (.bool true), (.bool true), (.bool true), (.bool false)])), (2, 8, (.agg #[(.bool false), (.bool true), (.bool true), (.bool false), (.bool false)])), (3, 9, (.agg #[(.bool false), (.bool true), (.bool false), (.bool true), (.bool false)])), (4, 10, (.agg #[(.bool false), (.bool false), (.bool false), (.bool false), (.bool false)])), (5, 11, (.agg #[(.bool false), (.bool false), (.bool false), (.bool false), (.bool false), (.bool false), (.bool true), (.bool true), (.bool true), (.bool false), (.bool false), (.bool true), (.bool true), (.bool false), (.bool false), (.bool false), (.bool true), (.bool false), (.bool true), (.bool false), (.bool false), (.bool false), (.bool false), (.bool false), (.bool false)]))] (by kernel_rfl) (fun _ => by kernel_rfl) ?_
    refine WO.new hS rfl (by kernel_rfl) rfl (.cells #[(.bool false), (.bool false), (.bool false), (.bool false), (.bool false), (.bool false), (.bool false), (.bool false), (.bool false), (.bool false), (.bool false), (.bool false), (.bool false), (.bool false), (.bool false), (.bool false), (.bool false), (.bool false), (.bool false), (.bool false), (.bool false), (.bool false), (.bool false), (.bool false), (.bool false)] 73 (0, 0)) (fun b => .pointer (some ⟨b, 0, none⟩)) (by kernel_rfl) (fun _ _ _ => trivial) ?_
    intro b1 w1 hS1
    refine WO.storeBox hS1 rfl (by kernel_rfl) rfl 0 rfl rfl (by kernel_rfl) (by kernel_rfl) (by kernel_rfl) (#[(.bool false), (.bool false), (.bool false), (.bool false), (.bool false), (.bool false), (.bool true), (.bool true), (.bool true), (.bool false), (.bool false), (.bool true), (.bool true), (.bool false), (.bool false), (.bool false), (.bool true), (.bool false), (.bool true), (.bool false), (.bool false), (.bool false), (.bool false), (.bool false), (.bool false)]) (by kernel_rfl) (fun _ _ => trivial) ?_
    intro w2 hS2
    refine WO.nil ?_
    refine En.next ?_
    refine W.seq ?_
    refine W.region (l := [0, 1, 2, 3, 4, 5, 6, 7, 8, 9, 10, 11, 12, 13, 14, 15, 16, 17, 18, 19, 20, 21]) (by kernel_rfl) ?_
    refine WO.vals [(0, 12, (.int .i64 4)), (1, 13, (.bool true)), (2, 14, (.bool true)), (3, 15, (.int .i64 4)), (4, 16, (.bool true)), (5, 17, (.bool true)), (6, 18, (.bool true)), (7, 19, (.int .i64 4)), (8, 20, (.bool true)), (9, 21, (.bool true)), (10, 22, (.bool true)), (11, 23, (.int .i64 4)), (12, 24, (.bool true)), (13, 25, (.bool true)), (14, 26, (.bool true)), (15, 27, (.int .i64 4)), (16, 28, (.int .i64 4)), (17, 29, (.pointer (some ⟨b1, 20, none⟩))), (18, 30, (.pointer (some ⟨b1, 24, none⟩)))] (by kernel_rfl) (fun _ => by kernel_rfl) ?_
    refine WO.load rfl (by kernel_rfl) (by kernel_rfl) rfl (v := (.bool false)) (fun w' hw' => cell_one ((rd_f (hS2.rd (List.Mem.head _))) w' hw') (by kernel_rfl)) ?_
    refine WO.vals [(20, 32, (.bool false)), (21, 4, (.bool false))] (by kernel_rfl) (fun _ => by kernel_rfl) ?_
    refine WO.nil ?_
    refine En.next ?_
    refine W.ret ?_
    have hS3 := hS2.drop
    exact En.ret1 rfl (.bool false) rfl ⟨I, rfl, Mem.Le.refl _, hS3⟩
def slices_ContainsFunc_mdl_one (p0 : List mdl_one) (p1 : mdl_one → Option Bool) : Option Bool := (slices_IndexFunc_mdl_one p0 p1).bind (fun (r6 : Int) => some (decide (r6 ≥ 0)))
set_option maxHeartbeats 1000000 in
theorem slices_ContainsFunc_mdl_one_ok {E w : World} {I : Mem} {Os : List Mem} {p0 : List mdl_one} {p1 : mdl_one → Option Bool} {a_p0 : Option Addr} {c_p0 : Nat} {g_p1 : FuncId} {k_p1 : List Value} (h_p0 : RSl 2 R_mdl_one I a_p0 c_p0 p0) (h_p1 : ∀ {F : List Mem} {I' : Mem} {w : World} {u0 : mdl_one}, I.Le I' → St E w I' (F ++ Os) → ∀ {r : Bool}, p1 u0 = some r → Calls P g_p1 (([(.agg (cs_mdl_one u0).toArray)] : List Value) ++ k_p1).toArray w (fun e w' => ∃ (I'' : Mem), e = .returned (.bool r) ∧ I'.Le I'' ∧ St E w' I'' (F ++ Os))) (hcall_p1 : Callable P g_p1) (hS : St E w I Os) {r : Bool} (hr : slices_ContainsFunc_mdl_one p0 p1 = some r) :
    Calls P 68 #[(.slice a_p0 p0.length c_p0), (.func (.func g_p1) #[] k_p1.toArray)] w (fun e w' => ∃ (I' : Mem), e = .returned (.bool r) ∧ I.Le I' ∧ St E w' I' Os) := by
  refine calls_W (args := [(.slice a_p0 p0.length c_p0), (.func (.func g_p1) #[] k_p1.toArray)]) (fn := Try.f68) rfl rfl rfl ?_
  unfold slices_ContainsFunc_mdl_one at hr
  refine W.seq ?_
  refine W.region (l := [0]) (by kernel_rfl) ?_
  refine WO.vals [(0, 4, (.bool false))] (by kernel_rfl) (fun _ => by kernel_rfl) ?_
  refine WO.nil ?_
  refine En.next ?_
  refine W.seq ?_
  refine W.region (l := [0, 1, 2, 3, 4]) (by kernel_rfl) ?_
  refine WO.vals [(0, 5, (.slice a_p0 p0.length c_p0)), (1, 6, (.func (.func g_p1) #[] k_p1.toArray))] (by kernel_rfl) (fun _ => by kernel_rfl) ?_
  obtain ⟨r6, hx_r1, hr⟩ := bind_some hr
  refine WO.call rfl (by kernel_rfl) rfl (f := 60) (args := #[(.slice a_p0 p0.length c_p0), (.func (.func g_p1) #[] k_p1.toArray)]) (by kernel_rfl) (slices_IndexFunc_mdl_one_ok h_p0 (fun {F Ic wc} {_} hlc hSc  {rc} hrc => h_p1 hlc hSc  hrc) hcall_p1 hS hx_r1) ?_
  rintro _ w2 ⟨I3, rfl, hl4, hS5⟩
  refine ⟨_, rfl, trivial, ?_⟩
  refine WO.vals [(3, 8, (.bool (decide (r6 ≥ 0)))), (4, 4, (.bool (decide (r6 ≥ 0))))] (by kernel_rfl) (fun _ => by kernel_rfl) ?_
  refine WO.nil ?_
  refine En.next ?_
  refine W.ret ?_
  have he := Option.some.inj hr
  subst r
  exact En.ret1 rfl (.bool (decide (r6 ≥ 0))) rfl ⟨I3, rfl, hl4, hS5⟩
def mdl_place_goes_1 (p0 : mdl_one) (q1 : Int) : Option Bool := (mdl_Goes p0.mode q1).bind (fun (r10 : Bool) => some (!r10))
set_option maxHeartbeats 1000000 in
theorem mdl_place_goes_1_ok {E w : World} {I : Mem} {Os : List Mem} {p0 : mdl_one} {q1 : Int} {kb1 : Nat} (hm1 : (Gv.one kb1 (.cells #[(.int .i64 q1)] 3 (0, 0))) ∈ Os) (hS : St E w I Os) {r : Bool} (hr : mdl_place_goes_1 p0 q1 = some r) :
    Calls P 69 #[(.agg (cs_mdl_one p0).toArray), (.pointer (some ⟨kb1, 0, none⟩))] w (fun e w' => ∃ (I' : Mem), e = .returned (.bool r) ∧ I.Le I' ∧ St E w' I' Os) := by
  refine calls_W (args := [(.agg (cs_mdl_one p0).toArray), (.pointer (some ⟨kb1, 0, none⟩))]) (fn := Try.f69) rfl rfl rfl ?_
  unfold mdl_place_goes_1 at hr
  refine W.seq ?_
  refine W.region (l := [0, 1]) (by kernel_rfl) ?_
  refine WO.new hS rfl (by kernel_rfl) rfl (.cells (cs_mdl_one p0).toArray 70 (0, 0)) (fun b => .pointer (some ⟨b, 0, none⟩)) (by kernel_rfl) (fun _ _ _ => trivial) ?_
  intro b1 w4 hS3
  refine WO.vals [(1, 3, (.bool false))] (by kernel_rfl) (fun _ => by kernel_rfl) ?_
  refine WO.nil ?_
  refine En.next ?_
  refine W.seq ?_
  refine W.region (l := [0, 1, 2, 3, 4, 5]) (by kernel_rfl) ?_
  refine WO.vals [(0, 4, (.pointer (some ⟨b1, 1, none⟩)))] (by kernel_rfl) (fun _ => by kernel_rfl) ?_
  refine WO.load rfl (by kernel_rfl) (by kernel_rfl) rfl (v := (.int .i64 p0.mode)) (fun w' hw' => cell_one ((rd_f (hS3.rd (List.Mem.head _))) w' hw') (by kernel_rfl)) ?_
  refine WO.load rfl (by kernel_rfl) (by kernel_rfl) rfl (v := (.int .i64 q1)) (fun w' hw' => cell_one ((rd_f (hS3.rd (List.Mem.tail _ hm1))) w' hw') (by kernel_rfl)) ?_
  obtain ⟨r10, hx_r5, hr⟩ := bind_some hr
  refine WO.call rfl (by kernel_rfl) rfl (f := 15) (args := #[(.int .i64 p0.mode), (.int .i64 q1)]) (by kernel_rfl) (mdl_Goes_ok  hS3 hx_r5) ?_
  rintro _ w6 ⟨I7, rfl, hl8, hS9⟩
  refine ⟨_, rfl, trivial, ?_⟩
  refine WO.vals [(4, 8, (.bool (!r10))), (5, 3, (.bool (!r10)))] (by kernel_rfl) (fun _ => by kernel_rfl) ?_
  refine WO.nil ?_
  refine En.next ?_
  refine W.ret ?_
  have hS11 := hS9.drop
  have he := Option.some.inj hr
  subst r
  exact En.ret1 rfl (.bool (!r10)) rfl ⟨I7, rfl, hl8, hS11⟩
def mdl_place_goes (p0 : mdl_place) (p1 : Int) : Option Bool := (slices_ContainsFunc_mdl_one p0.held (fun (u0 : mdl_one) => mdl_place_goes_1 u0 p1)).bind (fun (r14 : Bool) => some (!r14))
set_option maxHeartbeats 1000000 in
theorem mdl_place_goes_ok {E w : World} {I : Mem} {Os : List Mem} {p0 : mdl_place} {p1 : Int} {w_p0 : W_mdl_place} (h_p0 : ok_mdl_place I p0 w_p0) (hS : St E w I Os) {r : Bool} (hr : mdl_place_goes p0 p1 = some r) :
    Calls P 53 #[(.agg (cs_mdl_place p0 w_p0).toArray), (.int .i64 p1)] w (fun e w' => ∃ (I' : Mem), e = .returned (.bool r) ∧ I.Le I' ∧ St E w' I' Os) := by
  refine calls_W (args := [(.agg (cs_mdl_place p0 w_p0).toArray), (.int .i64 p1)]) (fn := Try.f53) rfl rfl rfl ?_
  unfold mdl_place_goes at hr
  refine W.seq ?_
  refine W.region (l := [0, 1, 2]) (by kernel_rfl) ?_
  refine WO.new hS rfl (by kernel_rfl) rfl (.cells (cs_mdl_place p0 w_p0).toArray 68 (0, 0)) (fun b => .pointer (some ⟨b, 0, none⟩)) (by kernel_rfl) (fun _ _ _ => trivial) ?_
  intro b1 w4 hS3
  refine WO.new hS3 rfl (by kernel_rfl) rfl (.cells #[(.int .i64 p1)] 3 (0, 0)) (fun b => .pointer (some ⟨b, 0, none⟩)) (by kernel_rfl) (fun _ _ _ => trivial) ?_
  intro b5 w8 hS7
  refine WO.vals [(2, 4, (.bool false))] (by kernel_rfl) (fun _ => by kernel_rfl) ?_
  refine WO.nil ?_
  refine En.next ?_
  refine W.seq ?_
  refine W.region (l := [0, 1, 2, 3, 4, 5]) (by kernel_rfl) ?_
  refine WO.vals [(0, 5, (.pointer (some ⟨b1, 0, none⟩)))] (by kernel_rfl) (fun _ => by kernel_rfl) ?_
  refine WO.load rfl (by kernel_rfl) (by kernel_rfl) rfl (v := (.slice w_p0.held.a p0.held.length w_p0.held.c)) (fun w' hw' => cell_one ((rd_f (hS7.rd (List.Mem.tail _ (List.Mem.head _)))) w' hw') (by kernel_rfl)) ?_
  refine WO.vals [(2, 7, (.func (.func 69) #[] #[(.pointer (some ⟨b5, 0, none⟩))]))] (by kernel_rfl) (fun _ => by kernel_rfl) ?_
  obtain ⟨r14, hx_r9, hr⟩ := bind_some hr
  refine WO.call rfl (by kernel_rfl) rfl (f := 68) (args := #[(.slice w_p0.held.a p0.held.length w_p0.held.c), (.func (.func 69) #[] #[(.pointer (some ⟨b5, 0, none⟩))])]) (by kernel_rfl) (slices_ContainsFunc_mdl_one_ok h_p0.held (fun {F Ic wc} {_} hlc hSc  {rc} hrc => mdl_place_goes_1_ok  (List.mem_append_right _ (List.Mem.head _)) hSc hrc) (fun _ _ => by kernel_rfl) hS7 hx_r9) ?_
  rintro _ w10 ⟨I11, rfl, hl12, hS13⟩
  refine ⟨_, rfl, trivial, ?_⟩
  refine WO.vals [(4, 9, (.bool (!r14))), (5, 4, (.bool (!r14)))] (by kernel_rfl) (fun _ => by kernel_rfl) ?_
  refine WO.nil ?_
  refine En.next ?_
  refine W.ret ?_
  have hS15 := hS13.drop
  have hS16 := hS15.drop
  have he := Option.some.inj hr
  subst r
  exact En.ret1 rfl (.bool (!r14)) rfl ⟨I11, rfl, hl12, hS16⟩
def slices_Clone_mdl_one (p0 : List mdl_one) : Option (List mdl_one) := (app 16 ([] : List mdl_one) p0).bind (fun (x10 : List mdl_one) => some x10)
set_option maxHeartbeats 1000000 in
theorem slices_Clone_mdl_one_ok {E w : World} {I : Mem} {Os : List Mem} {p0 : List mdl_one} {a_p0 : Option Addr} {c_p0 : Nat} (h_p0 : RSl 2 R_mdl_one I a_p0 c_p0 p0) (hS : St E w I Os) {r : (List mdl_one)} (hr : slices_Clone_mdl_one p0 = some r) :
    Calls P 54 #[(.slice a_p0 p0.length c_p0)] w (fun e w' => ∃ (I' : Mem) (ra0 : Option Addr) (rc0 : Nat) (rC0 : Mem), e = .returned (.slice ra0 r.length rc0) ∧ I.Le I' ∧ St E w' I' (rC0 :: Os) ∧ OwnSl 70 2 R_mdl_one I' rC0 ra0 rc0 r) := by
  refine calls_W (args := [(.slice a_p0 p0.length c_p0)]) (fn := Try.f54) rfl rfl rfl ?_
  unfold slices_Clone_mdl_one at hr
  refine W.seq ?_
  refine W.region (l := [0]) (by kernel_rfl) ?_
  refine WO.vals [(0, 2, (.slice none 0 0))] (by kernel_rfl) (fun _ => by kernel_rfl) ?_
  refine WO.nil ?_
  refine En.next ?_
  refine W.seq ?_
  refine W.seq ?_
  refine W.region (l := [0, 1]) (by kernel_rfl) ?_
  refine WO.vals [(0, 3, (.slice a_p0 p0.length c_p0))] (by kernel_rfl) (fun _ => by kernel_rfl) ?_
  refine WO.eqNil (e := 70) rfl (by kernel_rfl) (by kernel_rfl) rfl rfl ?_
  refine WO.nil ?_
  refine En.next ?_
  refine W.cond (b := (a_p0.isNone)) rfl rfl (fun hc => ?_) (fun hc => ?_)
  · have ha0 := Option.isNone_iff_eq_none.1 hc
    subst ha0
    have hx0 := (h_p0).none_nil
    subst hx0
    replace hr : some ([] : List mdl_one) = some r := by simpa [app] using hr
    refine W.seq ?_
    refine W.region (l := [0]) (by kernel_rfl) ?_
    refine WO.vals [(0, 2, (.slice none 0 0))] (by kernel_rfl) (fun _ => by kernel_rfl) ?_
    refine WO.nil ?_
    refine En.next ?_
    refine W.ret ?_
    refine En.nx_ret ?_
    have hS2 := hS.no
    have he := Option.some.inj hr
    subst r
    exact En.ret1 rfl (.slice none ([] : List mdl_one).length 0) rfl ⟨I, none, 0, Mem.no, rfl, Mem.Le.refl _, hS2, OwnSl.nil⟩
  · clear hc
    refine W.skip ?_
    refine En.next ?_
    refine W.seq ?_
    refine W.region (l := [0, 1, 2, 3]) (by kernel_rfl) ?_
    refine WO.newSlice (rel := R_mdl_one) (xs := ([] : List mdl_one)) hS rfl (by kernel_rfl) rfl 70 2 [] (by kernel_rfl) rfl (Elr.nil) (fun _ _ _ => trivial) ?_
    intro a6 C4 w8 hS7 ho5
    refine WO.vals [(1, 6, (.slice a_p0 p0.length c_p0))] (by kernel_rfl) (fun _ => by kernel_rfl) ?_
    obtain ⟨x10, hx_x10, hr⟩ := bind_some hr
    obtain ⟨h0_x10, he_x10⟩ := app_some hx_x10
    refine WO.append (e' := 70) (b := 16) (zs := (cs_mdl_one z_mdl_one).toArray) hS7 ho5 rfl (by kernel_rfl) rfl (by kernel_rfl) (by kernel_rfl) (by kernel_rfl) rfl rfl rfl rfl h_p0 hS7.im h0_x10 he_x10 (fun _ _ _ => trivial) ?_
    intro a11 c12 w13 C14 hS15 ho16
    refine WO.vals [(3, 2, (.slice a11 x10.length c12))] (by kernel_rfl) (fun _ => by kernel_rfl) ?_
    refine WO.nil ?_
    refine En.next ?_
    refine W.ret ?_
    have he := Option.some.inj hr
    subst r
    exact En.ret1 rfl (.slice a11 x10.length c12) rfl ⟨I, a11, c12, C14, rfl, Mem.Le.refl _, hS15, ho16⟩
end Go.Proofs.Ytdmefifamlpbiaa
