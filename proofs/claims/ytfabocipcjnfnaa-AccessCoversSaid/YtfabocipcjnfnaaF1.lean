/- What functions of the program come to, each by a plain one. Conditions: none. -/
import Derived.Test.YtfabocipcjnfnaaGv14
import Derived.Test.YtfabocipcjnfnaaProg
set_option maxRecDepth 100000
namespace Go.Proofs.Ytfabocipcjnfnaa
open Go.Gv
noncomputable abbrev P := Try.prog
structure api_Need where
  Path : ByteArray
  Mode : Int

def R_api_Need (I : Mem) (cs : List Value) (x : api_Need) : Prop := cs = [.string x.Path, .int .i64 x.Mode]
instance : Mono R_api_Need := ⟨fun hl h => (by obtain rfl := h; exact rfl), fun h v hv => (by obtain rfl := h; exact (by simp only [List.mem_cons, List.not_mem_nil, or_false] at hv; rcases hv with rfl | rfl <;> rfl))⟩
def registrarlaw20_few (p0 : List api_Need) : Option Bool := (bif (decide ((p0.length : Int) > 60)) then some false else (forN (fun (i4 : Nat) => fun (_s : Unit) => (idx p0 (i4 : Int)).bind (fun (x11 : api_Need) => (bif (decide ((x11.Path.size : Int) > 100)) then some (.inr false) else some (.inl ())))) p0.length 0 ()).bind (fun (t : Unit ⊕ (Bool)) => match t with | .inl _ => some true | .inr s13 => some s13))
set_option maxHeartbeats 1000000 in
theorem registrarlaw20_few_ok {E w : World} {I : Mem} {Os : List Mem} {p0 : List api_Need} {a_p0 : Option Addr} {c_p0 : Nat} (h_p0 : RSl 2 R_api_Need I a_p0 c_p0 p0) (hS : St E w I Os) {r : Bool} (hr : registrarlaw20_few p0 = some r) :
    Calls P 5 #[(.slice a_p0 p0.length c_p0)] w (fun e w' => ∃ (I' : Mem), e = .returned (.bool r) ∧ I.Le I' ∧ St E w' I' Os) := by
  refine calls_W (args := [(.slice a_p0 p0.length c_p0)]) (fn := Try.f5) rfl rfl rfl ?_
  unfold registrarlaw20_few at hr
  refine W.seq ?_
  refine W.region (l := [0]) (by kernel_rfl) ?_
  refine WO.vals [(0, 2, (.bool false))] (by kernel_rfl) (fun _ => by kernel_rfl) ?_
  refine WO.nil ?_
  refine En.next ?_
  refine W.seq ?_
  refine W.seq ?_
  refine W.region (l := [0, 1, 2]) (by kernel_rfl) ?_
  refine WO.vals [(0, 4, (.slice a_p0 p0.length c_p0)), (1, 5, (.int .i64 (p0.length : Int))), (2, 6, (.bool (decide ((p0.length : Int) > 60))))] (by kernel_rfl) (fun _ => by kernel_rfl) ?_
  refine WO.nil ?_
  refine En.next ?_
  refine W.cond (b := (decide ((p0.length : Int) > 60))) rfl rfl (fun hc => ?_) (fun hc => ?_)
  · replace hr := cond_t hc hr
    refine W.seq ?_
    refine W.region (l := [0]) (by kernel_rfl) ?_
    refine WO.vals [(0, 2, (.bool false))] (by kernel_rfl) (fun _ => by kernel_rfl) ?_
    refine WO.nil ?_
    refine En.next ?_
    refine W.ret ?_
    refine En.nx_ret ?_
    have he := Option.some.inj hr
    subst r
    exact En.ret1 rfl (.bool false) rfl ⟨I, rfl, Mem.Le.refl _, hS⟩
  · replace hr := cond_f hc hr
    refine W.skip ?_
    refine En.next ?_
    refine W.seq ?_
    refine W.seq ?_
    refine W.region (l := [0]) (by kernel_rfl) ?_
    refine WO.vals [(0, 3, (.int .i64 0))] (by kernel_rfl) (fun _ => by kernel_rfl) ?_
    refine WO.nil ?_
    refine En.next ?_
    refine W.block ?_
    obtain ⟨t1, hloop5, hr⟩ := bind_some hr
    have hlt9 := (h_p0).len_lt
    refine W.weaken (fr' := [(0, (.slice a_p0 p0.length c_p0)), (3, (.int .i64 ((0 : Nat) : Int)))]) (W.forN (m := p0.length) hloop5 (fun (i4 : Nat) => fun (_s : Unit) fr w => ∃ (I2 : Mem), fr = [(0, (.slice a_p0 p0.length c_p0)), (3, (.int .i64 (i4 : Int)))] ∧ I.Le I2 ∧ St E w I2 Os) ⟨I, rfl, Mem.Le.refl _, hS⟩ ?roundt1 ?lastt1) (Sub.cons rfl (Sub.cons rfl Sub.nil))
    case roundt1 =>
      rintro i4 _ _ w6 hi10 ⟨I2, rfl, hl3, hS7⟩ x8 hr1 hext1
      refine W.seq ?_
      refine W.seq ?_
      refine W.region (l := [0, 1, 2, 3]) (by kernel_rfl) ?_
      refine WO.vals [(0, 7, (.int .i64 (i4 : Int))), (1, 8, (.slice a_p0 p0.length c_p0)), (2, 9, (.int .i64 (p0.length : Int))), (3, 10, (.bool (decide ((i4 : Int) < (p0.length : Int)))))] (by kernel_rfl) (fun _ => by kernel_rfl) ?_
      refine WO.nil ?_
      refine En.next ?_
      refine W.cond (b := (decide ((i4 : Int) < (p0.length : Int)))) rfl rfl (fun hc => ?_) (fun hc => ?_)
      rotate_left
      · exact absurd hc (by first | (simp; done) | (simp; omega))
      clear hc
      refine W.skip ?_
      refine En.next ?_
      refine W.seq ?_
      refine W.block ?_
      refine W.seq ?_
      refine W.region (l := [0, 1, 2, 3, 4, 5, 6]) (by kernel_rfl) ?_
      refine WO.vals [(0, 13, (.slice a_p0 p0.length c_p0)), (1, 14, (.int .i64 (i4 : Int)))] (by kernel_rfl) (fun _ => by kernel_rfl) ?_
      obtain ⟨x11, hx_x11, hr1⟩ := bind_some hr1
      obtain ⟨h0_x11, h1_x11, hx_x11⟩ := idx_some hx_x11
      obtain ⟨ha_x11, cs_x11, hn_x11, hr_x11, hc_x11⟩ := ((RSl.mono h_p0 hl3)).el _ _ hx_x11
      obtain rfl := hr_x11
      refine WO.indexAddr (e := 28) (sz := 2) rfl (by kernel_rfl) (by kernel_rfl) (by kernel_rfl) rfl ha_x11 rfl h0_x11 h1_x11 ?_
      refine WO.vals [(3, 16, (.pointer (some ⟨bl a_p0, of a_p0 + ((i4 : Int)).toNat * 2, none⟩)))] (by kernel_rfl) (fun _ => by kernel_rfl) ?_
      refine WO.load rfl (by kernel_rfl) (by kernel_rfl) rfl (v := (.string x11.Path)) (fun w' hw' => hc_x11.cell0 rfl ((rd_f hS7.im) w' hw')) ?_
      refine WO.vals [(5, 18, (.int .i64 (x11.Path.size : Int))), (6, 19, (.bool (decide ((x11.Path.size : Int) > 100))))] (by kernel_rfl) (fun _ => by kernel_rfl) ?_
      refine WO.nil ?_
      refine En.next ?_
      refine W.cond (b := (decide ((x11.Path.size : Int) > 100))) rfl rfl (fun hc => ?_) (fun hc => ?_)
      · replace hr1 := cond_t hc hr1
        refine W.seq ?_
        refine W.region (l := [0]) (by kernel_rfl) ?_
        refine WO.vals [(0, 2, (.bool false))] (by kernel_rfl) (fun _ => by kernel_rfl) ?_
        refine WO.nil ?_
        refine En.next ?_
        refine W.ret ?_
        refine En.in_ret ?_
        refine En.nx_ret ?_
        refine En.rd_ret ?_
        have ht := hext1 _ (Option.some.inj hr1).symm
        subst t1
        refine En.in_ret ?_
        refine En.nx_ret ?_
        have he := Option.some.inj hr
        subst r
        exact En.ret1 rfl (.bool false) rfl ⟨I2, rfl, hl3, hS7⟩
      · replace hr1 := cond_f hc hr1
        refine W.skip ?_
        refine En.in_normal ?_
        refine En.next ?_
        refine W.region (l := [0, 1, 2]) (by kernel_rfl) ?_
        refine WO.vals [(0, 11, (.int .i64 (i4 : Int)))] (by kernel_rfl) (fun _ => by kernel_rfl) ?_
        refine WO.incr (j := i4) rfl (by kernel_rfl) rfl (by omega) ?_
        refine WO.vals [(2, 3, (.int .i64 ((i4 + 1 : Nat) : Int)))] (by kernel_rfl) (fun _ => by kernel_rfl) ?_
        refine WO.nil ?_
        refine En.weaken (fr' := [(0, (.slice a_p0 p0.length c_p0)), (3, (.int .i64 ((i4 + 1 : Nat) : Int)))]) (En.round ⟨(), (Option.some.inj hr1).symm, I2, rfl, hl3, hS7⟩) (Sub.cons rfl (Sub.cons rfl Sub.nil))
    case lastt1 =>
      rintro _ _ w14 ⟨I2, rfl, hl3, hS15⟩ he
      cases he
      refine W.seq ?_
      refine W.seq ?_
      refine W.region (l := [0, 1, 2, 3]) (by kernel_rfl) ?_
      refine WO.vals [(0, 7, (.int .i64 (p0.length : Int))), (1, 8, (.slice a_p0 p0.length c_p0)), (2, 9, (.int .i64 (p0.length : Int))), (3, 10, (.bool (decide ((p0.length : Int) < (p0.length : Int)))))] (by kernel_rfl) (fun _ => by kernel_rfl) ?_
      refine WO.nil ?_
      refine En.next ?_
      refine W.cond (b := (decide ((p0.length : Int) < (p0.length : Int)))) rfl rfl (fun hc => ?_) (fun hc => ?_)
      · exact absurd hc (by first | (simp; done) | (simp; omega))
      clear hc
      refine W.exit ?_
      refine En.nx_exit ?_
      refine En.rd_exit ?_
      refine En.in_hit ?_
      refine En.next ?_
      refine W.seq ?_
      refine W.region (l := [0]) (by kernel_rfl) ?_
      refine WO.vals [(0, 2, (.bool true))] (by kernel_rfl) (fun _ => by kernel_rfl) ?_
      refine WO.nil ?_
      refine En.next ?_
      refine W.ret ?_
      have he := Option.some.inj hr
      subst r
      exact En.ret1 rfl (.bool true) rfl ⟨I2, rfl, hl3, hS15⟩
def slices_Clone_api_Need (p0 : List api_Need) : Option (List api_Need) := (app 24 ([] : List api_Need) p0).bind (fun (x10 : List api_Need) => some x10)
set_option maxHeartbeats 1000000 in
theorem slices_Clone_api_Need_ok {E w : World} {I : Mem} {Os : List Mem} {p0 : List api_Need} {a_p0 : Option Addr} {c_p0 : Nat} (h_p0 : RSl 2 R_api_Need I a_p0 c_p0 p0) (hS : St E w I Os) {r : (List api_Need)} (hr : slices_Clone_api_Need p0 = some r) :
    Calls P 12 #[(.slice a_p0 p0.length c_p0)] w (fun e w' => ∃ (I' : Mem) (ra0 : Option Addr) (rc0 : Nat) (rC0 : Mem), e = .returned (.slice ra0 r.length rc0) ∧ I.Le I' ∧ St E w' I' (rC0 :: Os) ∧ OwnSl 28 2 R_api_Need I' rC0 ra0 rc0 r) := by
  refine calls_W (args := [(.slice a_p0 p0.length c_p0)]) (fn := Try.f12) rfl rfl rfl ?_
  unfold slices_Clone_api_Need at hr
  refine W.seq ?_
  refine W.region (l := [0]) (by kernel_rfl) ?_
  refine WO.vals [(0, 2, (.slice none 0 0))] (by kernel_rfl) (fun _ => by kernel_rfl) ?_
  refine WO.nil ?_
  refine En.next ?_
  refine W.seq ?_
  refine W.seq ?_
  refine W.region (l := [0, 1]) (by kernel_rfl) ?_
  refine WO.vals [(0, 3, (.slice a_p0 p0.length c_p0))] (by kernel_rfl) (fun _ => by kernel_rfl) ?_
  refine WO.eqNil (e := 28) rfl (by kernel_rfl) (by kernel_rfl) rfl rfl ?_
  refine WO.nil ?_
  refine En.next ?_
  refine W.cond (b := (a_p0.isNone)) rfl rfl (fun hc => ?_) (fun hc => ?_)
  · have ha0 := Option.isNone_iff_eq_none.1 hc
    subst ha0
    have hx0 := (h_p0).none_nil
    subst hx0
    replace hr : some ([] : List api_Need) = some r := by simpa [app] using hr
    refine W.seq ?_
    refine W.region (l := [0]) (by kernel_rfl) ?_
    refine WO.vals [(0, 2, (.slice none 0 0))] (by kernel_rfl) (fun _ => by kernel_rfl) ?_
    refine WO.nil ?_
    refine En.next ?_
    refine W.ret ?_
    refine En.nx_ret ?_
    have hS2 := hS.no
    have he := Option.some.inj hr
    subst r
    exact En.ret1 rfl (.slice none ([] : List api_Need).length 0) rfl ⟨I, none, 0, Mem.no, rfl, Mem.Le.refl _, hS2, OwnSl.nil⟩
  · clear hc
    refine W.skip ?_
    refine En.next ?_
    refine W.seq ?_
    refine W.region (l := [0, 1, 2, 3]) (by kernel_rfl) ?_
    refine WO.newSlice (rel := R_api_Need) (xs := ([] : List api_Need)) hS rfl (by kernel_rfl) rfl 28 2 [] (by kernel_rfl) rfl (Elr.nil) (fun _ _ _ => trivial) ?_
    intro a6 C4 w8 hS7 ho5
    refine WO.vals [(1, 6, (.slice a_p0 p0.length c_p0))] (by kernel_rfl) (fun _ => by kernel_rfl) ?_
    obtain ⟨x10, hx_x10, hr⟩ := bind_some hr
    obtain ⟨h0_x10, he_x10⟩ := app_some hx_x10
    refine WO.append (e' := 28) (b := 24) (zs := #[(.string (⟨#[]⟩ : ByteArray)), (.int .i64 0)]) hS7 ho5 rfl (by kernel_rfl) rfl (by kernel_rfl) (by kernel_rfl) (by kernel_rfl) rfl rfl rfl rfl h_p0 hS7.im h0_x10 he_x10 (fun _ _ _ => trivial) ?_
    intro a11 c12 w13 C14 hS15 ho16
    refine WO.vals [(3, 2, (.slice a11 x10.length c12))] (by kernel_rfl) (fun _ => by kernel_rfl) ?_
    refine WO.nil ?_
    refine En.next ?_
    refine W.ret ?_
    have he := Option.some.inj hr
    subst r
    exact En.ret1 rfl (.slice a11 x10.length c12) rfl ⟨I, a11, c12, C14, rfl, Mem.Le.refl _, hS15, ho16⟩
noncomputable def slices_insertionSortCmpFunc_registrar_api_Need (p0 : List api_Need) (p1 : Int) (p2 : Int) (p3 : api_Need → api_Need → Option Int) : Option (List api_Need) := (loopO (fun (s : Int × (List api_Need)) => match s with | (s4, s5) => (bif (decide (s4 < p2)) then (loopO (fun (s : Int × (List api_Need)) => match s with | (s13, s14) => ((bif (decide (s13 > p1)) then (idx s14 s13).bind (fun (x25 : api_Need) => (idx s14 (w64 (s13 - 1))).bind (fun (x26 : api_Need) => (p3 x25 x26).bind (fun (r32 : Int) => some (decide (r32 < 0))))) else some false)).bind (fun (j21 : Bool) => (bif j21 then (idx s14 (w64 (s13 - 1))).bind (fun (x37 : api_Need) => (idx s14 s13).bind (fun (x38 : api_Need) => (idx s14 s13).bind (fun (x39 : api_Need) => (idx (s14.set (s13).toNat (⟨x37.Path, x37.Mode⟩ : api_Need)) (w64 (s13 - 1))).bind (fun (x44 : api_Need) => some (.inl ((w64 (s13 - 1)), ((s14.set (s13).toNat (⟨x37.Path, x37.Mode⟩ : api_Need)).set ((w64 (s13 - 1))).toNat (⟨x38.Path, x38.Mode⟩ : api_Need)))))))) else some (.inr s14)))) (s4, s5)).bind (fun (s50 : List api_Need) => some (.inl ((w64 (s4 + 1)), s50))) else some (.inr s5))) ((w64 (p1 + 1)), p0)).bind (fun (s52 : List api_Need) => some s52)
set_option maxHeartbeats 1000000 in
theorem slices_insertionSortCmpFunc_registrar_api_Need_ok {E w : World} {I : Mem} {Os : List Mem} {p0 : List api_Need} {p1 : Int} {p2 : Int} {p3 : api_Need → api_Need → Option Int} {a_p0 : Option Addr} {c_p0 : Nat} {C_p0 : Mem} {g_p3 : FuncId} {k_p3 : List Value} (h_p0 : OwnSl 28 2 R_api_Need I C_p0 a_p0 c_p0 p0) (h_p3 : ∀ {F : List Mem} {I' : Mem} {w : World} {u0 : api_Need} {u1 : api_Need}, I.Le I' → St E w I' (F ++ Os) → ∀ {r : Int}, p3 u0 u1 = some r → Calls P g_p3 (([(.agg #[(.string u0.Path), (.int .i64 u0.Mode)]), (.agg #[(.string u1.Path), (.int .i64 u1.Mode)])] : List Value) ++ k_p3).toArray w (fun e w' => ∃ (I'' : Mem), e = .returned (.int .i64 r) ∧ I'.Le I'' ∧ St E w' I'' (F ++ Os))) (hcall_p3 : Callable P g_p3) (hS : St E w I ((C_p0) :: Os)) {r : (List api_Need)} (hr : slices_insertionSortCmpFunc_registrar_api_Need p0 p1 p2 p3 = some r) :
    Calls P 25 #[(.slice a_p0 p0.length c_p0), (.int .i64 p1), (.int .i64 p2), (.func (.func g_p3) #[] k_p3.toArray)] w (fun e w' => ∃ (I' : Mem) (rD0 : Mem), e = .returned (.tuple #[]) ∧ I.Le I' ∧ St E w' I' (rD0 :: Os) ∧ OwnSl 28 2 R_api_Need I' rD0 a_p0 c_p0 r ∧ r.length = p0.length) := by
  refine calls_W (args := [(.slice a_p0 p0.length c_p0), (.int .i64 p1), (.int .i64 p2), (.func (.func g_p3) #[] k_p3.toArray)]) (fn := Try.f25) rfl rfl rfl ?_
  unfold slices_insertionSortCmpFunc_registrar_api_Need at hr
  refine W.seq ?_
  refine W.region (l := [0, 1, 2]) (by kernel_rfl) ?_
  refine WO.vals [(0, 10, (.int .i64 p1)), (1, 11, (.int .i64 (w64 (p1 + 1)))), (2, 8, (.int .i64 (w64 (p1 + 1))))] (by kernel_rfl) (fun _ => by kernel_rfl) ?_
  refine WO.nil ?_
  refine En.next ?_
  refine W.block ?_
  obtain ⟨t1, hloop6, hr⟩ := bind_some hr
  refine W.weaken (fr' := [(0, (.slice a_p0 p0.length c_p0)), (1, (.int .i64 p1)), (2, (.int .i64 p2)), (3, (.func (.func g_p3) #[] k_p3.toArray)), (8, (.int .i64 (w64 (p1 + 1))))]) (W.loopO hloop6 (fun (s : Int × (List api_Need)) fr w => match s with | (s4, s5) => ∃ (I2 : Mem), ∃ (C_s5 : Mem), fr = [(0, (.slice a_p0 s5.length c_p0)), (1, (.int .i64 p1)), (2, (.int .i64 p2)), (3, (.func (.func g_p3) #[] k_p3.toArray)), (8, (.int .i64 s4))] ∧ I.Le I2 ∧ St E w I2 ((C_s5) :: Os) ∧ OwnSl 28 2 R_api_Need I2 C_s5 a_p0 c_p0 s5 ∧ s5.length = p0.length) ⟨I, C_p0, rfl, Mem.Le.refl _, hS, h_p0, rfl⟩ ?_) (Sub.cons rfl (Sub.cons rfl (Sub.cons rfl (Sub.cons rfl (Sub.cons rfl Sub.nil)))))
  rintro ⟨s4, s5⟩ _ w7 ⟨I2, C_s5, rfl, hl3, hS8, h_s5, hn_s5⟩ x9 hr1 hext1
  refine W.seq ?_
  refine W.seq ?_
  refine W.region (l := [0, 1, 2]) (by kernel_rfl) ?_
  refine WO.vals [(0, 12, (.int .i64 s4)), (1, 13, (.int .i64 p2)), (2, 14, (.bool (decide (s4 < p2))))] (by kernel_rfl) (fun _ => by kernel_rfl) ?_
  refine WO.nil ?_
  refine En.next ?_
  refine W.cond (b := (decide (s4 < p2))) rfl rfl (fun hc => ?_) (fun hc => ?_)
  · replace hr1 := cond_t hc hr1
    refine W.skip ?_
    refine En.next ?_
    refine W.seq ?_
    refine W.block ?_
    refine W.seq ?_
    refine W.region (l := [0, 1]) (by kernel_rfl) ?_
    refine WO.vals [(0, 17, (.int .i64 s4)), (1, 9, (.int .i64 s4))] (by kernel_rfl) (fun _ => by kernel_rfl) ?_
    refine WO.nil ?_
    refine En.next ?_
    refine W.block ?_
    obtain ⟨t10, hloop15, hr1⟩ := bind_some hr1
    refine W.weaken (fr' := [(0, (.slice a_p0 s5.length c_p0)), (1, (.int .i64 p1)), (2, (.int .i64 p2)), (3, (.func (.func g_p3) #[] k_p3.toArray)), (8, (.int .i64 s4)), (9, (.int .i64 s4))]) (W.loopO hloop15 (fun (s : Int × (List api_Need)) fr w => match s with | (s13, s14) => ∃ (I11 : Mem), ∃ (C_s14 : Mem), fr = [(0, (.slice a_p0 s14.length c_p0)), (1, (.int .i64 p1)), (2, (.int .i64 p2)), (3, (.func (.func g_p3) #[] k_p3.toArray)), (8, (.int .i64 s4)), (9, (.int .i64 s13))] ∧ I2.Le I11 ∧ St E w I11 ((C_s14) :: Os) ∧ OwnSl 28 2 R_api_Need I11 C_s14 a_p0 c_p0 s14 ∧ s14.length = p0.length) ⟨I2, C_s5, rfl, Mem.Le.refl _, hS8, h_s5, hn_s5⟩ ?_) (Sub.cons rfl (Sub.cons rfl (Sub.cons rfl (Sub.cons rfl (Sub.cons rfl (Sub.cons rfl Sub.nil))))))
    rintro ⟨s13, s14⟩ _ w16 ⟨I11, C_s14, rfl, hl12, hS17, h_s14, hn_s14⟩ x18 hr2 hext10
    refine W.seq ?_
    refine W.seq ?_
    have hS19 := hS17.drew
    refine W.draw (l := [0, 1, 2, 3, 4, 5, 6, 7, 8, 9, 10, 11, 12, 13, 14, 15, 16]) (by kernel_rfl) 17 (KR I11 [C_s14]) qR (.back (by kernel_rfl)) (by kernel_rfl) (KR.cons (hS19.rd (List.Mem.head _)) (KR.nil hS19.im)) ?_
    generalize World.drew _ = w20 at *
    refine WO.vals [(0, 18, (.int .i64 s13)), (1, 19, (.int .i64 p1)), (2, 20, (.bool (decide (s13 > p1)))), (3, 21, (.bool (decide (s13 > p1))))] (by kernel_rfl) (fun _ => by kernel_rfl) ?_
    obtain ⟨j21, hr3, hr2⟩ := bind_some hr2
    refine WO.join (l1 := [4, 5, 6, 7, 8, 9, 10, 11, 12, 13, 14, 15, 16]) (l2 := []) (J := (fun fr w => ∃ (I23 : Mem), fr = [(0, (.slice a_p0 s14.length c_p0)), (1, (.int .i64 p1)), (2, (.int .i64 p2)), (3, (.func (.func g_p3) #[] k_p3.toArray)), (8, (.int .i64 s4)), (9, (.int .i64 s13)), (34, (.bool j21))] ∧ I11.Le I23 ∧ St E w I23 ((C_s14) :: Os))) ?restj21 ?waysj21
    case waysj21 =>
      refine WO.caseb (decide (s13 > p1)) (fun hc => ?_) (fun hc => ?_)
      · replace hr3 := cond_t hc hr3
        refine WO.reslot 21 rfl (show Value.bool (decide (s13 > p1)) = Value.bool true by rw [hc]) ?_
        refine WO.vals [(4, 22, (.func (.func g_p3) #[] k_p3.toArray)), (5, 23, (.slice a_p0 s14.length c_p0)), (6, 24, (.int .i64 s13))] (by kernel_rfl) (fun _ => by kernel_rfl) ?_
        obtain ⟨x25, hx_x25, hr3⟩ := bind_some hr3
        obtain ⟨h0_x25, h1_x25, hx_x25⟩ := idx_some hx_x25
        obtain ⟨ha_x25, cs_x25, hn_x25, hr_x25, hc_x25⟩ := (h_s14.sl).el _ _ hx_x25
        obtain rfl := hr_x25
        refine WO.indexAddr (e := 28) (sz := 2) rfl (by kernel_rfl) (by kernel_rfl) (by kernel_rfl) rfl ha_x25 rfl h0_x25 h1_x25 ?_
        refine WO.loadN rfl (by kernel_rfl) (by kernel_rfl) rfl [(.string x25.Path), (.int .i64 x25.Mode)] (by kernel_rfl) (fun w' hw' => hc_x25.cells (k := 0) rfl rfl ((rd_c (List.Mem.head _) (hS19.rd (List.Mem.head _))) w' hw')) ?_
        refine WO.vals [(9, 27, (.slice a_p0 s14.length c_p0)), (10, 28, (.int .i64 s13)), (11, 29, (.int .i64 (w64 (s13 - 1))))] (by kernel_rfl) (fun _ => by kernel_rfl) ?_
        obtain ⟨x26, hx_x26, hr3⟩ := bind_some hr3
        obtain ⟨h0_x26, h1_x26, hx_x26⟩ := idx_some hx_x26
        obtain ⟨ha_x26, cs_x26, hn_x26, hr_x26, hc_x26⟩ := (h_s14.sl).el _ _ hx_x26
        obtain rfl := hr_x26
        refine WO.indexAddr (e := 28) (sz := 2) rfl (by kernel_rfl) (by kernel_rfl) (by kernel_rfl) rfl ha_x26 rfl h0_x26 h1_x26 ?_
        refine WO.loadN rfl (by kernel_rfl) (by kernel_rfl) rfl [(.string x26.Path), (.int .i64 x26.Mode)] (by kernel_rfl) (fun w' hw' => hc_x26.cells (k := 0) rfl rfl ((rd_c (List.Mem.head _) (hS19.rd (List.Mem.head _))) w' hw')) ?_
        obtain ⟨r32, hx_r27, hr3⟩ := bind_some hr3
        refine WO.callv rfl (by kernel_rfl) rfl (g := g_p3) (kk := k_p3) (args := [(.agg #[(.string x25.Path), (.int .i64 x25.Mode)]), (.agg #[(.string x26.Path), (.int .i64 x26.Mode)])]) rfl (by kernel_rfl) hcall_p3 (h_p3 (F := [C_s14]) (hl3.trans hl12) hS19  hx_r27) ?_
        rintro _ w28 ⟨I29, rfl, hl30, hS31⟩
        refine ⟨_, rfl, (KR.cons (hS31.rd (List.Mem.head _)) (KR.nil (hS31.im.of_le hl30))), ?_⟩
        refine WO.vals [(15, 33, (.bool (decide (r32 < 0)))), (16, 34, (.bool (decide (r32 < 0))))] (by kernel_rfl) (fun _ => by kernel_rfl) ?_
        have he := Option.some.inj hr3
        subst j21
        refine WO.weaken (fr' := [(0, (.slice a_p0 s14.length c_p0)), (1, (.int .i64 p1)), (2, (.int .i64 p2)), (3, (.func (.func g_p3) #[] k_p3.toArray)), (8, (.int .i64 s4)), (9, (.int .i64 s13)), (34, (.bool (decide (r32 < 0))))]) (WO.meet ⟨I29, rfl, hl30, hS31⟩) (Sub.cons rfl (Sub.cons rfl (Sub.cons rfl (Sub.cons rfl (Sub.cons rfl (Sub.cons rfl (Sub.cons rfl Sub.nil)))))))
      · replace hr3 := cond_f hc hr3
        refine WO.reslot 21 rfl (show Value.bool (decide (s13 > p1)) = Value.bool false by rw [hc]) ?_
        refine WO.pass rfl (by kernel_rfl) rfl ?_
        refine WO.pass rfl (by kernel_rfl) rfl ?_
        refine WO.pass rfl (by kernel_rfl) rfl ?_
        refine WO.pass rfl (by kernel_rfl) rfl ?_
        refine WO.pass rfl (by kernel_rfl) rfl ?_
        refine WO.pass rfl (by kernel_rfl) rfl ?_
        refine WO.pass rfl (by kernel_rfl) rfl ?_
        refine WO.pass rfl (by kernel_rfl) rfl ?_
        refine WO.pass rfl (by kernel_rfl) rfl ?_
        refine WO.pass rfl (by kernel_rfl) rfl ?_
        refine WO.pass rfl (by kernel_rfl) rfl ?_
        refine WO.pass rfl (by kernel_rfl) rfl ?_
        refine WO.vals [(16, 34, (.bool false))] (by kernel_rfl) (fun _ => by kernel_rfl) ?_
        have he := Option.some.inj hr3
        subst j21
        refine WO.weaken (fr' := [(0, (.slice a_p0 s14.length c_p0)), (1, (.int .i64 p1)), (2, (.int .i64 p2)), (3, (.func (.func g_p3) #[] k_p3.toArray)), (8, (.int .i64 s4)), (9, (.int .i64 s13)), (34, (.bool false))]) (WO.meet ⟨I11, rfl, Mem.Le.refl _, hS19⟩) (Sub.cons rfl (Sub.cons rfl (Sub.cons rfl (Sub.cons rfl (Sub.cons rfl (Sub.cons rfl (Sub.cons rfl Sub.nil)))))))
    case restj21 =>
      rintro _ w33 ⟨I23, rfl, hl24, hS34⟩
      refine WO.nil ?_
      refine En.next ?_
      refine W.cond (b := j21) rfl rfl (fun hc => ?_) (fun hc => ?_)
      · replace hr2 := cond_t hc hr2
        refine W.skip ?_
        refine En.next ?_
        refine W.seq ?_
        refine W.block ?_
        have hS35 := hS34.drew
        refine W.draw (l := [0, 1, 2, 3, 4, 5, 6, 7, 8, 9, 10, 11, 12, 13, 14, 15, 16, 17]) (by kernel_rfl) 14 (KR I23 [C_s14]) qR (.ords [0, 1, 2, 3, 4, 5, 6, 7, 8, 9, 10, 11, 12, 13, 14, 15, 16, 17] [0, 1, 5, 6, 7, 8, 9, 10, 11, 12, 13, 14, 15, 2, 3, 4, 16, 17] (by kernel_rfl) (by kernel_rfl) (by kernel_rfl) (by kernel_rfl) (by kernel_rfl)) (by kernel_rfl) (KR.cons (hS35.rd (List.Mem.head _)) (KR.nil hS35.im)) ?_
        generalize World.drew _ = w36 at *
        refine WO.vals [(0, 37, (.slice a_p0 s14.length c_p0)), (1, 38, (.int .i64 s13)), (2, 39, (.slice a_p0 s14.length c_p0)), (3, 40, (.int .i64 s13)), (4, 41, (.int .i64 (w64 (s13 - 1)))), (5, 42, (.slice a_p0 s14.length c_p0)), (6, 43, (.int .i64 s13)), (7, 44, (.int .i64 (w64 (s13 - 1))))] (by kernel_rfl) (fun _ => by kernel_rfl) ?_
        obtain ⟨x37, hx_x37, hr2⟩ := bind_some hr2
        obtain ⟨h0_x37, h1_x37, hx_x37⟩ := idx_some hx_x37
        obtain ⟨ha_x37, cs_x37, hn_x37, hr_x37, hc_x37⟩ := ((h_s14.mono hl24).sl).el _ _ hx_x37
        obtain rfl := hr_x37
        refine WO.indexAddr (e := 28) (sz := 2) rfl (by kernel_rfl) (by kernel_rfl) (by kernel_rfl) rfl ha_x37 rfl h0_x37 h1_x37 ?_
        refine WO.loadN rfl (by kernel_rfl) (by kernel_rfl) rfl [(.string x37.Path), (.int .i64 x37.Mode)] (by kernel_rfl) (fun w' hw' => hc_x37.cells (k := 0) rfl rfl ((rd_c (List.Mem.head _) (hS35.rd (List.Mem.head _))) w' hw')) ?_
        refine WO.vals [(10, 47, (.slice a_p0 s14.length c_p0)), (11, 48, (.int .i64 s13))] (by kernel_rfl) (fun _ => by kernel_rfl) ?_
        obtain ⟨x38, hx_x38, hr2⟩ := bind_some hr2
        obtain ⟨h0_x38, h1_x38, hx_x38⟩ := idx_some hx_x38
        obtain ⟨ha_x38, cs_x38, hn_x38, hr_x38, hc_x38⟩ := ((h_s14.mono hl24).sl).el _ _ hx_x38
        obtain rfl := hr_x38
        refine WO.indexAddr (e := 28) (sz := 2) rfl (by kernel_rfl) (by kernel_rfl) (by kernel_rfl) rfl ha_x38 rfl h0_x38 h1_x38 ?_
        refine WO.loadN rfl (by kernel_rfl) (by kernel_rfl) rfl [(.string x38.Path), (.int .i64 x38.Mode)] (by kernel_rfl) (fun w' hw' => hc_x38.cells (k := 0) rfl rfl ((rd_c (List.Mem.head _) (hS35.rd (List.Mem.head _))) w' hw')) ?_
        refine WO.tail rfl ?_
        obtain ⟨x39, hx_x39, hr2⟩ := bind_some hr2
        obtain ⟨h0_x39, h1_x39, hx_x39⟩ := idx_some hx_x39
        obtain ⟨ha_x39, cs_x39, hn_x39, hr_x39, hc_x39⟩ := ((h_s14.mono hl24).sl).el _ _ hx_x39
        obtain rfl := hr_x39
        refine WO.indexAddr (e := 28) (sz := 2) rfl (by kernel_rfl) (by kernel_rfl) (by kernel_rfl) rfl ha_x39 rfl h0_x39 h1_x39 ?_
        refine WO.storeOwn hS35 (OwnSl.mono h_s14 hl24) rfl (by kernel_rfl) rfl hx_x39 (u' := (⟨x37.Path, x37.Mode⟩ : api_Need)) 0 rfl rfl (by kernel_rfl) rfl rfl (fun cs hrel => (by obtain rfl := hrel; exact rfl)) (fun _ _ _ => trivial) ?_
        intro w41 C42 hS40 ho43
        refine WO.reslot 0 rfl (show Value.slice a_p0 s14.length c_p0 = Value.slice a_p0 (s14.set (s13).toNat (⟨x37.Path, x37.Mode⟩ : api_Need)).length c_p0 by simp only [List.length_set]) ?_
        refine WO.reslot 39 rfl (show Value.slice a_p0 s14.length c_p0 = Value.slice a_p0 (s14.set (s13).toNat (⟨x37.Path, x37.Mode⟩ : api_Need)).length c_p0 by simp only [List.length_set]) ?_
        obtain ⟨x44, hx_x44, hr2⟩ := bind_some hr2
        obtain ⟨h0_x44, h1_x44, hx_x44⟩ := idx_some hx_x44
        obtain ⟨ha_x44, cs_x44, hn_x44, hr_x44, hc_x44⟩ := (ho43.sl).el _ _ hx_x44
        obtain rfl := hr_x44
        refine WO.indexAddr (e := 28) (sz := 2) rfl (by kernel_rfl) (by kernel_rfl) (by kernel_rfl) rfl ha_x44 rfl h0_x44 h1_x44 ?_
        refine WO.storeOwn hS40 ho43 rfl (by kernel_rfl) rfl hx_x44 (u' := (⟨x38.Path, x38.Mode⟩ : api_Need)) 0 rfl rfl (by kernel_rfl) rfl rfl (fun cs hrel => (by obtain rfl := hrel; exact rfl)) (fun _ _ _ => trivial) ?_
        intro w46 C47 hS45 ho48
        refine WO.reslot 0 rfl (show Value.slice a_p0 (s14.set (s13).toNat (⟨x37.Path, x37.Mode⟩ : api_Need)).length c_p0 = Value.slice a_p0 ((s14.set (s13).toNat (⟨x37.Path, x37.Mode⟩ : api_Need)).set ((w64 (s13 - 1))).toNat (⟨x38.Path, x38.Mode⟩ : api_Need)).length c_p0 by simp only [List.length_set]) ?_
        refine WO.nil ?_
        refine En.in_normal ?_
        refine En.next ?_
        refine W.region (l := [0, 1, 2]) (by kernel_rfl) ?_
        refine WO.vals [(0, 35, (.int .i64 s13)), (1, 36, (.int .i64 (w64 (s13 - 1)))), (2, 9, (.int .i64 (w64 (s13 - 1))))] (by kernel_rfl) (fun _ => by kernel_rfl) ?_
        refine WO.nil ?_
        refine En.weaken (fr' := [(0, (.slice a_p0 ((s14.set (s13).toNat (⟨x37.Path, x37.Mode⟩ : api_Need)).set ((w64 (s13 - 1))).toNat (⟨x38.Path, x38.Mode⟩ : api_Need)).length c_p0)), (1, (.int .i64 p1)), (2, (.int .i64 p2)), (3, (.func (.func g_p3) #[] k_p3.toArray)), (8, (.int .i64 s4)), (9, (.int .i64 (w64 (s13 - 1))))]) (En.round ⟨((w64 (s13 - 1)), ((s14.set (s13).toNat (⟨x37.Path, x37.Mode⟩ : api_Need)).set ((w64 (s13 - 1))).toNat (⟨x38.Path, x38.Mode⟩ : api_Need))), (Option.some.inj hr2).symm, I23, C47, rfl, (hl12.trans hl24), hS45, ho48, (List.length_set.trans (List.length_set.trans hn_s14))⟩) (Sub.cons rfl (Sub.cons rfl (Sub.cons rfl (Sub.cons rfl (Sub.cons rfl (Sub.cons rfl Sub.nil))))))
      · replace hr2 := cond_f hc hr2
        refine W.exit ?_
        refine En.nx_exit ?_
        refine En.rd_exit ?_
        have ht := hext10 _ (Option.some.inj hr2).symm
        subst t10
        refine En.in_hit ?_
        refine En.in_normal ?_
        refine En.next ?_
        refine W.region (l := [0, 1, 2]) (by kernel_rfl) ?_
        refine WO.vals [(0, 15, (.int .i64 s4)), (1, 16, (.int .i64 (w64 (s4 + 1)))), (2, 8, (.int .i64 (w64 (s4 + 1))))] (by kernel_rfl) (fun _ => by kernel_rfl) ?_
        refine WO.nil ?_
        refine En.weaken (fr' := [(0, (.slice a_p0 s14.length c_p0)), (1, (.int .i64 p1)), (2, (.int .i64 p2)), (3, (.func (.func g_p3) #[] k_p3.toArray)), (8, (.int .i64 (w64 (s4 + 1))))]) (En.round ⟨((w64 (s4 + 1)), s14), (Option.some.inj hr1).symm, I23, C_s14, rfl, ((hl3.trans hl12).trans hl24), hS34, (OwnSl.mono h_s14 hl24), hn_s14⟩) (Sub.cons rfl (Sub.cons rfl (Sub.cons rfl (Sub.cons rfl (Sub.cons rfl Sub.nil)))))
  · replace hr1 := cond_f hc hr1
    refine W.exit ?_
    refine En.nx_exit ?_
    refine En.rd_exit ?_
    have ht := hext1 _ (Option.some.inj hr1).symm
    subst t1
    refine En.in_hit ?_
    refine En.toRet ?_
    have he := Option.some.inj hr
    subst r
    exact En.ret0 rfl ⟨I2, C_s5, rfl, hl3, hS8, h_s5, hn_s5⟩
noncomputable def slices_swapRangeCmpFunc_registrar_api_Need (p0 : List api_Need) (p1 : Int) (p2 : Int) (p3 : Int) (p4 : api_Need → api_Need → Option Int) : Option (List api_Need) := (loopO (fun (s : Int × (List api_Need)) => match s with | (s4, s5) => (bif (decide (s4 < p3)) then (idx s5 (w64 (p2 + s4))).bind (fun (x12 : api_Need) => (idx s5 (w64 (p1 + s4))).bind (fun (x13 : api_Need) => (idx s5 (w64 (p1 + s4))).bind (fun (x14 : api_Need) => (idx (s5.set ((w64 (p1 + s4))).toNat (⟨x12.Path, x12.Mode⟩ : api_Need)) (w64 (p2 + s4))).bind (fun (x19 : api_Need) => some (.inl ((w64 (s4 + 1)), ((s5.set ((w64 (p1 + s4))).toNat (⟨x12.Path, x12.Mode⟩ : api_Need)).set ((w64 (p2 + s4))).toNat (⟨x13.Path, x13.Mode⟩ : api_Need)))))))) else some (.inr s5))) (0, p0)).bind (fun (s25 : List api_Need) => some s25)
set_option maxHeartbeats 1000000 in
theorem slices_swapRangeCmpFunc_registrar_api_Need_ok {E w : World} {I : Mem} {Os : List Mem} {p0 : List api_Need} {p1 : Int} {p2 : Int} {p3 : Int} {p4 : api_Need → api_Need → Option Int} {a_p0 : Option Addr} {c_p0 : Nat} {C_p0 : Mem} {g_p4 : FuncId} {k_p4 : List Value} (h_p0 : OwnSl 28 2 R_api_Need I C_p0 a_p0 c_p0 p0) (h_p4 : ∀ {F : List Mem} {I' : Mem} {w : World} {u0 : api_Need} {u1 : api_Need}, I.Le I' → St E w I' (F ++ Os) → ∀ {r : Int}, p4 u0 u1 = some r → Calls P g_p4 (([(.agg #[(.string u0.Path), (.int .i64 u0.Mode)]), (.agg #[(.string u1.Path), (.int .i64 u1.Mode)])] : List Value) ++ k_p4).toArray w (fun e w' => ∃ (I'' : Mem), e = .returned (.int .i64 r) ∧ I'.Le I'' ∧ St E w' I'' (F ++ Os))) (hcall_p4 : Callable P g_p4) (hS : St E w I ((C_p0) :: Os)) {r : (List api_Need)} (hr : slices_swapRangeCmpFunc_registrar_api_Need p0 p1 p2 p3 p4 = some r) :
    Calls P 29 #[(.slice a_p0 p0.length c_p0), (.int .i64 p1), (.int .i64 p2), (.int .i64 p3), (.func (.func g_p4) #[] k_p4.toArray)] w (fun e w' => ∃ (I' : Mem) (rD0 : Mem), e = .returned (.tuple #[]) ∧ I.Le I' ∧ St E w' I' (rD0 :: Os) ∧ OwnSl 28 2 R_api_Need I' rD0 a_p0 c_p0 r ∧ r.length = p0.length) := by
  refine calls_W (args := [(.slice a_p0 p0.length c_p0), (.int .i64 p1), (.int .i64 p2), (.int .i64 p3), (.func (.func g_p4) #[] k_p4.toArray)]) (fn := Try.f29) rfl rfl rfl ?_
  unfold slices_swapRangeCmpFunc_registrar_api_Need at hr
  refine W.seq ?_
  refine W.region (l := [0]) (by kernel_rfl) ?_
  refine WO.vals [(0, 10, (.int .i64 0))] (by kernel_rfl) (fun _ => by kernel_rfl) ?_
  refine WO.nil ?_
  refine En.next ?_
  refine W.block ?_
  obtain ⟨t1, hloop6, hr⟩ := bind_some hr
  refine W.weaken (fr' := [(0, (.slice a_p0 p0.length c_p0)), (1, (.int .i64 p1)), (2, (.int .i64 p2)), (3, (.int .i64 p3)), (10, (.int .i64 0))]) (W.loopO hloop6 (fun (s : Int × (List api_Need)) fr w => match s with | (s4, s5) => ∃ (I2 : Mem), ∃ (C_s5 : Mem), fr = [(0, (.slice a_p0 s5.length c_p0)), (1, (.int .i64 p1)), (2, (.int .i64 p2)), (3, (.int .i64 p3)), (10, (.int .i64 s4))] ∧ I.Le I2 ∧ St E w I2 ((C_s5) :: Os) ∧ OwnSl 28 2 R_api_Need I2 C_s5 a_p0 c_p0 s5 ∧ s5.length = p0.length) ⟨I, C_p0, rfl, Mem.Le.refl _, hS, h_p0, rfl⟩ ?_) (Sub.cons rfl (Sub.cons rfl (Sub.cons rfl (Sub.cons rfl (Sub.cons rfl Sub.nil)))))
  rintro ⟨s4, s5⟩ _ w7 ⟨I2, C_s5, rfl, hl3, hS8, h_s5, hn_s5⟩ x9 hr1 hext1
  refine W.seq ?_
  refine W.seq ?_
  refine W.region (l := [0, 1, 2]) (by kernel_rfl) ?_
  refine WO.vals [(0, 11, (.int .i64 s4)), (1, 12, (.int .i64 p3)), (2, 13, (.bool (decide (s4 < p3))))] (by kernel_rfl) (fun _ => by kernel_rfl) ?_
  refine WO.nil ?_
  refine En.next ?_
  refine W.cond (b := (decide (s4 < p3))) rfl rfl (fun hc => ?_) (fun hc => ?_)
  · replace hr1 := cond_t hc hr1
    refine W.skip ?_
    refine En.next ?_
    refine W.seq ?_
    refine W.block ?_
    have hS10 := hS8.drew
    refine W.draw (l := [0, 1, 2, 3, 4, 5, 6, 7, 8, 9, 10, 11, 12, 13, 14, 15, 16, 17, 18, 19, 20, 21, 22, 23]) (by kernel_rfl) 20 (KR I2 [C_s5]) qR (.ords [0, 1, 2, 3, 4, 5, 6, 7, 8, 9, 10, 11, 12, 13, 14, 15, 16, 17, 18, 19, 20, 21, 22, 23] [0, 1, 2, 3, 8, 9, 10, 11, 12, 13, 14, 15, 16, 17, 18, 19, 20, 21, 4, 5, 6, 7, 22, 23] (by kernel_rfl) (by kernel_rfl) (by kernel_rfl) (by kernel_rfl) (by kernel_rfl)) (by kernel_rfl) (KR.cons (hS10.rd (List.Mem.head _)) (KR.nil hS10.im)) ?_
    generalize World.drew _ = w11 at *
    refine WO.vals [(0, 16, (.slice a_p0 s5.length c_p0)), (1, 17, (.int .i64 p1)), (2, 18, (.int .i64 s4)), (3, 19, (.int .i64 (w64 (p1 + s4)))), (4, 20, (.slice a_p0 s5.length c_p0)), (5, 21, (.int .i64 p2)), (6, 22, (.int .i64 s4)), (7, 23, (.int .i64 (w64 (p2 + s4)))), (8, 24, (.slice a_p0 s5.length c_p0)), (9, 25, (.int .i64 p2)), (10, 26, (.int .i64 s4)), (11, 27, (.int .i64 (w64 (p2 + s4))))] (by kernel_rfl) (fun _ => by kernel_rfl) ?_
    obtain ⟨x12, hx_x12, hr1⟩ := bind_some hr1
    obtain ⟨h0_x12, h1_x12, hx_x12⟩ := idx_some hx_x12
    obtain ⟨ha_x12, cs_x12, hn_x12, hr_x12, hc_x12⟩ := (h_s5.sl).el _ _ hx_x12
    obtain rfl := hr_x12
    refine WO.indexAddr (e := 28) (sz := 2) rfl (by kernel_rfl) (by kernel_rfl) (by kernel_rfl) rfl ha_x12 rfl h0_x12 h1_x12 ?_
    refine WO.loadN rfl (by kernel_rfl) (by kernel_rfl) rfl [(.string x12.Path), (.int .i64 x12.Mode)] (by kernel_rfl) (fun w' hw' => hc_x12.cells (k := 0) rfl rfl ((rd_c (List.Mem.head _) (hS10.rd (List.Mem.head _))) w' hw')) ?_
    refine WO.vals [(14, 30, (.slice a_p0 s5.length c_p0)), (15, 31, (.int .i64 p1)), (16, 32, (.int .i64 s4)), (17, 33, (.int .i64 (w64 (p1 + s4))))] (by kernel_rfl) (fun _ => by kernel_rfl) ?_
    obtain ⟨x13, hx_x13, hr1⟩ := bind_some hr1
    obtain ⟨h0_x13, h1_x13, hx_x13⟩ := idx_some hx_x13
    obtain ⟨ha_x13, cs_x13, hn_x13, hr_x13, hc_x13⟩ := (h_s5.sl).el _ _ hx_x13
    obtain rfl := hr_x13
    refine WO.indexAddr (e := 28) (sz := 2) rfl (by kernel_rfl) (by kernel_rfl) (by kernel_rfl) rfl ha_x13 rfl h0_x13 h1_x13 ?_
    refine WO.loadN rfl (by kernel_rfl) (by kernel_rfl) rfl [(.string x13.Path), (.int .i64 x13.Mode)] (by kernel_rfl) (fun w' hw' => hc_x13.cells (k := 0) rfl rfl ((rd_c (List.Mem.head _) (hS10.rd (List.Mem.head _))) w' hw')) ?_
    refine WO.tail rfl ?_
    obtain ⟨x14, hx_x14, hr1⟩ := bind_some hr1
    obtain ⟨h0_x14, h1_x14, hx_x14⟩ := idx_some hx_x14
    obtain ⟨ha_x14, cs_x14, hn_x14, hr_x14, hc_x14⟩ := (h_s5.sl).el _ _ hx_x14
    obtain rfl := hr_x14
    refine WO.indexAddr (e := 28) (sz := 2) rfl (by kernel_rfl) (by kernel_rfl) (by kernel_rfl) rfl ha_x14 rfl h0_x14 h1_x14 ?_
    refine WO.storeOwn hS10 h_s5 rfl (by kernel_rfl) rfl hx_x14 (u' := (⟨x12.Path, x12.Mode⟩ : api_Need)) 0 rfl rfl (by kernel_rfl) rfl rfl (fun cs hrel => (by obtain rfl := hrel; exact rfl)) (fun _ _ _ => trivial) ?_
    intro w16 C17 hS15 ho18
    refine WO.reslot 0 rfl (show Value.slice a_p0 s5.length c_p0 = Value.slice a_p0 (s5.set ((w64 (p1 + s4))).toNat (⟨x12.Path, x12.Mode⟩ : api_Need)).length c_p0 by simp only [List.length_set]) ?_
    refine WO.reslot 20 rfl (show Value.slice a_p0 s5.length c_p0 = Value.slice a_p0 (s5.set ((w64 (p1 + s4))).toNat (⟨x12.Path, x12.Mode⟩ : api_Need)).length c_p0 by simp only [List.length_set]) ?_
    obtain ⟨x19, hx_x19, hr1⟩ := bind_some hr1
    obtain ⟨h0_x19, h1_x19, hx_x19⟩ := idx_some hx_x19
    obtain ⟨ha_x19, cs_x19, hn_x19, hr_x19, hc_x19⟩ := (ho18.sl).el _ _ hx_x19
    obtain rfl := hr_x19
    refine WO.indexAddr (e := 28) (sz := 2) rfl (by kernel_rfl) (by kernel_rfl) (by kernel_rfl) rfl ha_x19 rfl h0_x19 h1_x19 ?_
    refine WO.storeOwn hS15 ho18 rfl (by kernel_rfl) rfl hx_x19 (u' := (⟨x13.Path, x13.Mode⟩ : api_Need)) 0 rfl rfl (by kernel_rfl) rfl rfl (fun cs hrel => (by obtain rfl := hrel; exact rfl)) (fun _ _ _ => trivial) ?_
    intro w21 C22 hS20 ho23
    refine WO.reslot 0 rfl (show Value.slice a_p0 (s5.set ((w64 (p1 + s4))).toNat (⟨x12.Path, x12.Mode⟩ : api_Need)).length c_p0 = Value.slice a_p0 ((s5.set ((w64 (p1 + s4))).toNat (⟨x12.Path, x12.Mode⟩ : api_Need)).set ((w64 (p2 + s4))).toNat (⟨x13.Path, x13.Mode⟩ : api_Need)).length c_p0 by simp only [List.length_set]) ?_
    refine WO.nil ?_
    refine En.in_normal ?_
    refine En.next ?_
    refine W.region (l := [0, 1, 2]) (by kernel_rfl) ?_
    refine WO.vals [(0, 14, (.int .i64 s4)), (1, 15, (.int .i64 (w64 (s4 + 1)))), (2, 10, (.int .i64 (w64 (s4 + 1))))] (by kernel_rfl) (fun _ => by kernel_rfl) ?_
    refine WO.nil ?_
    refine En.weaken (fr' := [(0, (.slice a_p0 ((s5.set ((w64 (p1 + s4))).toNat (⟨x12.Path, x12.Mode⟩ : api_Need)).set ((w64 (p2 + s4))).toNat (⟨x13.Path, x13.Mode⟩ : api_Need)).length c_p0)), (1, (.int .i64 p1)), (2, (.int .i64 p2)), (3, (.int .i64 p3)), (10, (.int .i64 (w64 (s4 + 1))))]) (En.round ⟨((w64 (s4 + 1)), ((s5.set ((w64 (p1 + s4))).toNat (⟨x12.Path, x12.Mode⟩ : api_Need)).set ((w64 (p2 + s4))).toNat (⟨x13.Path, x13.Mode⟩ : api_Need))), (Option.some.inj hr1).symm, I2, C22, rfl, hl3, hS20, ho23, (List.length_set.trans (List.length_set.trans hn_s5))⟩) (Sub.cons rfl (Sub.cons rfl (Sub.cons rfl (Sub.cons rfl (Sub.cons rfl Sub.nil)))))
  · replace hr1 := cond_f hc hr1
    refine W.exit ?_
    refine En.nx_exit ?_
    refine En.rd_exit ?_
    have ht := hext1 _ (Option.some.inj hr1).symm
    subst t1
    refine En.in_hit ?_
    refine En.toRet ?_
    have he := Option.some.inj hr
    subst r
    exact En.ret0 rfl ⟨I2, C_s5, rfl, hl3, hS8, h_s5, hn_s5⟩
noncomputable def slices_rotateCmpFunc_registrar_api_Need (p0 : List api_Need) (p1 : Int) (p2 : Int) (p3 : Int) (p4 : api_Need → api_Need → Option Int) : Option (List api_Need) := (loopO (fun (s : Int × Int × (List api_Need)) => match s with | (s4, s5, s6) => (bif (s4 != s5) then ((bif (decide (s4 > s5)) then (slices_swapRangeCmpFunc_registrar_api_Need s6 (w64 (p2 - s4)) p2 s5 p4).bind (fun (r20 : List api_Need) => some ((w64 (s4 - s5)), s5, r20)) else (slices_swapRangeCmpFunc_registrar_api_Need s6 (w64 (p2 - s4)) (w64 ((w64 (p2 + s5)) - s4)) s4 p4).bind (fun (r29 : List api_Need) => some (s4, (w64 (s5 - s4)), r29)))).bind (fun ((s21, s22, s23) : Int × Int × (List api_Need)) => some (.inl (s21, s22, s23))) else some (.inr (s4, s6)))) ((w64 (p2 - p1)), (w64 (p3 - p2)), p0)).bind (fun ((s33, s34) : Int × (List api_Need)) => (slices_swapRangeCmpFunc_registrar_api_Need s34 (w64 (p2 - s33)) p2 s33 p4).bind (fun (r40 : List api_Need) => some r40))
set_option maxHeartbeats 1000000 in
theorem slices_rotateCmpFunc_registrar_api_Need_ok {E w : World} {I : Mem} {Os : List Mem} {p0 : List api_Need} {p1 : Int} {p2 : Int} {p3 : Int} {p4 : api_Need → api_Need → Option Int} {a_p0 : Option Addr} {c_p0 : Nat} {C_p0 : Mem} {g_p4 : FuncId} {k_p4 : List Value} (h_p0 : OwnSl 28 2 R_api_Need I C_p0 a_p0 c_p0 p0) (h_p4 : ∀ {F : List Mem} {I' : Mem} {w : World} {u0 : api_Need} {u1 : api_Need}, I.Le I' → St E w I' (F ++ Os) → ∀ {r : Int}, p4 u0 u1 = some r → Calls P g_p4 (([(.agg #[(.string u0.Path), (.int .i64 u0.Mode)]), (.agg #[(.string u1.Path), (.int .i64 u1.Mode)])] : List Value) ++ k_p4).toArray w (fun e w' => ∃ (I'' : Mem), e = .returned (.int .i64 r) ∧ I'.Le I'' ∧ St E w' I'' (F ++ Os))) (hcall_p4 : Callable P g_p4) (hS : St E w I ((C_p0) :: Os)) {r : (List api_Need)} (hr : slices_rotateCmpFunc_registrar_api_Need p0 p1 p2 p3 p4 = some r) :
    Calls P 28 #[(.slice a_p0 p0.length c_p0), (.int .i64 p1), (.int .i64 p2), (.int .i64 p3), (.func (.func g_p4) #[] k_p4.toArray)] w (fun e w' => ∃ (I' : Mem) (rD0 : Mem), e = .returned (.tuple #[]) ∧ I.Le I' ∧ St E w' I' (rD0 :: Os) ∧ OwnSl 28 2 R_api_Need I' rD0 a_p0 c_p0 r ∧ r.length = p0.length) := by
  refine calls_W (args := [(.slice a_p0 p0.length c_p0), (.int .i64 p1), (.int .i64 p2), (.int .i64 p3), (.func (.func g_p4) #[] k_p4.toArray)]) (fn := Try.f28) rfl rfl rfl ?_
  unfold slices_rotateCmpFunc_registrar_api_Need at hr
  refine W.seq ?_
  refine W.region (l := [0, 1, 2, 3]) (by kernel_rfl) ?_
  refine WO.vals [(0, 12, (.int .i64 p2)), (1, 13, (.int .i64 p1)), (2, 14, (.int .i64 (w64 (p2 - p1)))), (3, 10, (.int .i64 (w64 (p2 - p1))))] (by kernel_rfl) (fun _ => by kernel_rfl) ?_
  refine WO.nil ?_
  refine En.next ?_
  refine W.seq ?_
  refine W.region (l := [0, 1, 2, 3]) (by kernel_rfl) ?_
  refine WO.vals [(0, 15, (.int .i64 p3)), (1, 16, (.int .i64 p2)), (2, 17, (.int .i64 (w64 (p3 - p2)))), (3, 11, (.int .i64 (w64 (p3 - p2))))] (by kernel_rfl) (fun _ => by kernel_rfl) ?_
  refine WO.nil ?_
  refine En.next ?_
  refine W.seq ?_
  refine W.block ?_
  obtain ⟨t1, hloop7, hr⟩ := bind_some hr
  refine W.weaken (fr' := [(0, (.slice a_p0 p0.length c_p0)), (2, (.int .i64 p2)), (4, (.func (.func g_p4) #[] k_p4.toArray)), (10, (.int .i64 (w64 (p2 - p1)))), (11, (.int .i64 (w64 (p3 - p2))))]) (W.loopO hloop7 (fun (s : Int × Int × (List api_Need)) fr w => match s with | (s4, s5, s6) => ∃ (I2 : Mem), ∃ (C_s6 : Mem), fr = [(0, (.slice a_p0 s6.length c_p0)), (2, (.int .i64 p2)), (4, (.func (.func g_p4) #[] k_p4.toArray)), (10, (.int .i64 s4)), (11, (.int .i64 s5))] ∧ I.Le I2 ∧ St E w I2 ((C_s6) :: Os) ∧ OwnSl 28 2 R_api_Need I2 C_s6 a_p0 c_p0 s6 ∧ s6.length = p0.length) ⟨I, C_p0, rfl, Mem.Le.refl _, hS, h_p0, rfl⟩ ?_) (Sub.cons rfl (Sub.cons rfl (Sub.cons rfl (Sub.cons rfl (Sub.cons rfl Sub.nil)))))
  rintro ⟨s4, s5, s6⟩ _ w8 ⟨I2, C_s6, rfl, hl3, hS9, h_s6, hn_s6⟩ x10 hr1 hext1
  refine W.seq ?_
  refine W.seq ?_
  refine W.region (l := [0, 1, 2]) (by kernel_rfl) ?_
  refine WO.vals [(0, 18, (.int .i64 s4)), (1, 19, (.int .i64 s5)), (2, 20, (.bool (s4 != s5)))] (by kernel_rfl) (fun _ => by kernel_rfl) ?_
  refine WO.nil ?_
  refine En.next ?_
  refine W.cond (b := (s4 != s5)) rfl rfl (fun hc => ?_) (fun hc => ?_)
  · replace hr1 := cond_t hc hr1
    refine W.skip ?_
    refine En.next ?_
    refine W.block ?_
    refine W.seq ?_
    refine W.region (l := [0, 1, 2]) (by kernel_rfl) ?_
    refine WO.vals [(0, 21, (.int .i64 s4)), (1, 22, (.int .i64 s5)), (2, 23, (.bool (decide (s4 > s5))))] (by kernel_rfl) (fun _ => by kernel_rfl) ?_
    refine WO.nil ?_
    refine En.next ?_
    obtain ⟨j11, hr2, hr1⟩ := bind_some hr1
    refine W.join (J := (fun fr w => ∃ (s21 : Int), ∃ (s22 : Int), ∃ (s23 : List api_Need), ∃ (I13 : Mem), ∃ (C_s23 : Mem), (s21, s22, s23) = j11 ∧ fr = [(0, (.slice a_p0 s23.length c_p0)), (2, (.int .i64 p2)), (4, (.func (.func g_p4) #[] k_p4.toArray)), (10, (.int .i64 s21)), (11, (.int .i64 s22))] ∧ I2.Le I13 ∧ St E w I13 ((C_s23) :: Os) ∧ OwnSl 28 2 R_api_Need I13 C_s23 a_p0 c_p0 s23 ∧ s23.length = p0.length)) ?restj11 ?waysj11
    case waysj11 =>
      refine W.cond (b := (decide (s4 > s5))) rfl rfl (fun hc => ?_) (fun hc => ?_)
      · replace hr2 := cond_t hc hr2
        refine W.seq ?_
        refine W.region (l := [0, 1, 2, 3, 4, 5, 6, 7]) (by kernel_rfl) ?_
        refine WO.vals [(0, 24, (.slice a_p0 s6.length c_p0)), (1, 25, (.int .i64 p2)), (2, 26, (.int .i64 s4)), (3, 27, (.int .i64 (w64 (p2 - s4)))), (4, 28, (.int .i64 p2)), (5, 29, (.int .i64 s5)), (6, 30, (.func (.func g_p4) #[] k_p4.toArray))] (by kernel_rfl) (fun _ => by kernel_rfl) ?_
        obtain ⟨r20, hx_r15, hr2⟩ := bind_some hr2
        refine WO.call rfl (by kernel_rfl) rfl (f := 29) (args := #[(.slice a_p0 s6.length c_p0), (.int .i64 (w64 (p2 - s4))), (.int .i64 p2), (.int .i64 s5), (.func (.func g_p4) #[] k_p4.toArray)]) (by kernel_rfl) (slices_swapRangeCmpFunc_registrar_api_Need_ok h_s6 (fun {F Ic wc} {_} {_} hlc hSc  {rc} hrc => h_p4 (hl3.trans hlc) hSc  hrc) hcall_p4 hS9 hx_r15) ?_
        rintro _ w16 ⟨I17, C_r20, rfl, hl18, hS19, h_r20, hn_r20⟩
        refine ⟨_, rfl, trivial, ?_⟩
        refine WO.reslot 0 rfl (show Value.slice a_p0 s6.length c_p0 = Value.slice a_p0 r20.length c_p0 by rw [hn_r20]) ?_
        refine WO.reslot 24 rfl (show Value.slice a_p0 s6.length c_p0 = Value.slice a_p0 r20.length c_p0 by rw [hn_r20]) ?_
        refine WO.nil ?_
        refine En.next ?_
        refine W.region (l := [0, 1, 2, 3]) (by kernel_rfl) ?_
        refine WO.vals [(0, 32, (.int .i64 s4)), (1, 33, (.int .i64 s5)), (2, 34, (.int .i64 (w64 (s4 - s5)))), (3, 10, (.int .i64 (w64 (s4 - s5))))] (by kernel_rfl) (fun _ => by kernel_rfl) ?_
        refine WO.nil ?_
        refine En.weaken (fr' := [(0, (.slice a_p0 r20.length c_p0)), (2, (.int .i64 p2)), (4, (.func (.func g_p4) #[] k_p4.toArray)), (10, (.int .i64 (w64 (s4 - s5)))), (11, (.int .i64 s5))]) (En.round ⟨(w64 (s4 - s5)), s5, r20, I17, C_r20, Option.some.inj hr2, rfl, hl18, hS19, h_r20, (hn_r20.trans hn_s6)⟩) (Sub.cons rfl (Sub.cons rfl (Sub.cons rfl (Sub.cons rfl (Sub.cons rfl Sub.nil)))))
      · replace hr2 := cond_f hc hr2
        refine W.seq ?_
        refine W.region (l := [0, 1, 2, 3, 4, 5, 6, 7, 8, 9, 10, 11]) (by kernel_rfl) ?_
        refine WO.vals [(0, 35, (.slice a_p0 s6.length c_p0)), (1, 36, (.int .i64 p2)), (2, 37, (.int .i64 s4)), (3, 38, (.int .i64 (w64 (p2 - s4)))), (4, 39, (.int .i64 p2)), (5, 40, (.int .i64 s5)), (6, 41, (.int .i64 (w64 (p2 + s5)))), (7, 42, (.int .i64 s4)), (8, 43, (.int .i64 (w64 ((w64 (p2 + s5)) - s4)))), (9, 44, (.int .i64 s4)), (10, 45, (.func (.func g_p4) #[] k_p4.toArray))] (by kernel_rfl) (fun _ => by kernel_rfl) ?_
        obtain ⟨r29, hx_r24, hr2⟩ := bind_some hr2
        refine WO.call rfl (by kernel_rfl) rfl (f := 29) (args := #[(.slice a_p0 s6.length c_p0), (.int .i64 (w64 (p2 - s4))), (.int .i64 (w64 ((w64 (p2 + s5)) - s4))), (.int .i64 s4), (.func (.func g_p4) #[] k_p4.toArray)]) (by kernel_rfl) (slices_swapRangeCmpFunc_registrar_api_Need_ok h_s6 (fun {F Ic wc} {_} {_} hlc hSc  {rc} hrc => h_p4 (hl3.trans hlc) hSc  hrc) hcall_p4 hS9 hx_r24) ?_
        rintro _ w25 ⟨I26, C_r29, rfl, hl27, hS28, h_r29, hn_r29⟩
        refine ⟨_, rfl, trivial, ?_⟩
        refine WO.reslot 0 rfl (show Value.slice a_p0 s6.length c_p0 = Value.slice a_p0 r29.length c_p0 by rw [hn_r29]) ?_
        refine WO.reslot 35 rfl (show Value.slice a_p0 s6.length c_p0 = Value.slice a_p0 r29.length c_p0 by rw [hn_r29]) ?_
        refine WO.nil ?_
        refine En.next ?_
        refine W.region (l := [0, 1, 2, 3]) (by kernel_rfl) ?_
        refine WO.vals [(0, 47, (.int .i64 s5)), (1, 48, (.int .i64 s4)), (2, 49, (.int .i64 (w64 (s5 - s4)))), (3, 11, (.int .i64 (w64 (s5 - s4))))] (by kernel_rfl) (fun _ => by kernel_rfl) ?_
        refine WO.nil ?_
        refine En.weaken (fr' := [(0, (.slice a_p0 r29.length c_p0)), (2, (.int .i64 p2)), (4, (.func (.func g_p4) #[] k_p4.toArray)), (10, (.int .i64 s4)), (11, (.int .i64 (w64 (s5 - s4))))]) (En.round ⟨s4, (w64 (s5 - s4)), r29, I26, C_r29, Option.some.inj hr2, rfl, hl27, hS28, h_r29, (hn_r29.trans hn_s6)⟩) (Sub.cons rfl (Sub.cons rfl (Sub.cons rfl (Sub.cons rfl (Sub.cons rfl Sub.nil)))))
    case restj11 =>
      rintro _ w30 ⟨s21, s22, s23, I13, C_s23, rfl, rfl, hl14, hS31, h_s23, hn_s23⟩
      refine En.in_normal ?_
      refine En.weaken (fr' := [(0, (.slice a_p0 s23.length c_p0)), (2, (.int .i64 p2)), (4, (.func (.func g_p4) #[] k_p4.toArray)), (10, (.int .i64 s21)), (11, (.int .i64 s22))]) (En.round ⟨(s21, s22, s23), (Option.some.inj hr1).symm, I13, C_s23, rfl, (hl3.trans hl14), hS31, h_s23, hn_s23⟩) (Sub.cons rfl (Sub.cons rfl (Sub.cons rfl (Sub.cons rfl (Sub.cons rfl Sub.nil)))))
  · replace hr1 := cond_f hc hr1
    refine W.exit ?_
    refine En.nx_exit ?_
    refine En.rd_exit ?_
    have ht := hext1 _ (Option.some.inj hr1).symm
    subst t1
    refine En.in_hit ?_
    refine En.next ?_
    refine W.region (l := [0, 1, 2, 3, 4, 5, 6, 7]) (by kernel_rfl) ?_
    refine WO.vals [(0, 50, (.slice a_p0 s6.length c_p0)), (1, 51, (.int .i64 p2)), (2, 52, (.int .i64 s4)), (3, 53, (.int .i64 (w64 (p2 - s4)))), (4, 54, (.int .i64 p2)), (5, 55, (.int .i64 s4)), (6, 56, (.func (.func g_p4) #[] k_p4.toArray))] (by kernel_rfl) (fun _ => by kernel_rfl) ?_
    obtain ⟨r46, hx_r41, hr⟩ := bind_some hr
    refine WO.call rfl (by kernel_rfl) rfl (f := 29) (args := #[(.slice a_p0 s6.length c_p0), (.int .i64 (w64 (p2 - s4))), (.int .i64 p2), (.int .i64 s4), (.func (.func g_p4) #[] k_p4.toArray)]) (by kernel_rfl) (slices_swapRangeCmpFunc_registrar_api_Need_ok h_s6 (fun {F Ic wc} {_} {_} hlc hSc  {rc} hrc => h_p4 (hl3.trans hlc) hSc  hrc) hcall_p4 hS9 hx_r41) ?_
    rintro _ w42 ⟨I43, C_r46, rfl, hl44, hS45, h_r46, hn_r46⟩
    refine ⟨_, rfl, trivial, ?_⟩
    refine WO.reslot 0 rfl (show Value.slice a_p0 s6.length c_p0 = Value.slice a_p0 r46.length c_p0 by rw [hn_r46]) ?_
    refine WO.reslot 50 rfl (show Value.slice a_p0 s6.length c_p0 = Value.slice a_p0 r46.length c_p0 by rw [hn_r46]) ?_
    refine WO.nil ?_
    refine En.toRet ?_
    have he := Option.some.inj hr
    subst r
    exact En.ret0 rfl ⟨I43, C_r46, rfl, (hl3.trans hl44), hS45, h_r46, (hn_r46.trans hn_s6)⟩
end Go.Proofs.Ytfabocipcjnfnaa
