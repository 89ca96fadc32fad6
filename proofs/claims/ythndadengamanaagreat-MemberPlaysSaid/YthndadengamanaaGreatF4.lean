/- What functions of the program come to, each by a plain one. Conditions: none. -/
import Derived.Test.YthndadengamanaaGreatF3
set_option maxRecDepth 100000
namespace Go.Proofs.YthndadengamanaaGreat
open Go.Gv
def registrarref18_without (p0 : List ByteArray) (p1 : ByteArray) : Option (List ByteArray) := (forE (fun (i5 : Nat) => fun (s4 : List ByteArray) => (idx p0 (i5 : Int)).bind (fun (x14 : ByteArray) => ((bif (!sEq x14 p1) then (idx p0 (i5 : Int)).bind (fun (x19 : ByteArray) => (app 16 s4 ([x19] : List ByteArray)).bind (fun (x28 : List ByteArray) => some x28)) else some s4)).bind (fun (j15 : List ByteArray) => some j15))) p0.length 0 ([] : List ByteArray)).bind (fun (s4 : (List ByteArray)) => some s4)
set_option maxHeartbeats 1000000 in
theorem registrarref18_without_ok {E w : World} {I : Mem} {Os : List Mem} {p0 : List ByteArray} {p1 : ByteArray} {a_p0 : Option Addr} {c_p0 : Nat} (h_p0 : RSl 1 RStr I a_p0 c_p0 p0) (hS : St E w I Os) {r : (List ByteArray)} (hr : registrarref18_without p0 p1 = some r) :
    Calls P 46 #[(.slice a_p0 p0.length c_p0), (.string p1)] w (fun e w' => ∃ (I' : Mem) (ra0 : Option Addr) (rc0 : Nat), e = .returned (.slice ra0 r.length rc0) ∧ I.Le I' ∧ St E w' I' Os ∧ RSl 1 RStr I' ra0 rc0 r) := by
  refine calls_W (args := [(.slice a_p0 p0.length c_p0), (.string p1)]) (fn := Tryz.f46) rfl rfl rfl ?_
  unfold registrarref18_without at hr
  refine W.seq ?_
  refine W.region (l := [0]) (by kernel_rfl) ?_
  refine WO.vals [(0, 4, (.slice none 0 0))] (by kernel_rfl) (fun _ => by kernel_rfl) ?_
  refine WO.nil ?_
  refine En.next ?_
  refine W.seq ?_
  refine W.region (l := [0]) (by kernel_rfl) ?_
  refine WO.vals [(0, 5, (.slice none 0 0))] (by kernel_rfl) (fun _ => by kernel_rfl) ?_
  refine WO.nil ?_
  refine En.next ?_
  refine W.seq ?_
  refine W.seq ?_
  refine W.region (l := [0]) (by kernel_rfl) ?_
  refine WO.vals [(0, 6, (.int .i64 0))] (by kernel_rfl) (fun _ => by kernel_rfl) ?_
  refine WO.nil ?_
  refine En.next ?_
  refine W.block ?_
  obtain ⟨s4, hloop6, hr⟩ := bind_some hr
  have hS8 := hS.no
  have hlt12 := (h_p0).len_lt
  refine W.weaken (fr' := [(0, (.slice a_p0 p0.length c_p0)), (1, (.string p1)), (5, (.slice none ([] : List ByteArray).length 0)), (6, (.int .i64 ((0 : Nat) : Int)))]) (W.forE (m := p0.length) hloop6 (fun (i5 : Nat) => fun (s4 : List ByteArray) fr w => ∃ (I2 : Mem), ∃ (a_s4 : Option Addr), ∃ (c_s4 : Nat), ∃ (C_s4 : Mem), fr = [(0, (.slice a_p0 p0.length c_p0)), (1, (.string p1)), (5, (.slice a_s4 s4.length c_s4)), (6, (.int .i64 (i5 : Int)))] ∧ I.Le I2 ∧ St E w I2 ((C_s4) :: Os) ∧ OwnSl 9 1 RStr I2 C_s4 a_s4 c_s4 s4) ⟨I, none, 0, Mem.no, rfl, Mem.Le.refl _, hS8, OwnSl.nil⟩ ?roundt1 ?lastt1) (Sub.cons rfl (Sub.cons rfl (Sub.cons rfl (Sub.cons rfl Sub.nil))))
  case roundt1 =>
    rintro i5 s4 _ w9 hi13 ⟨I2, a_s4, c_s4, C_s4, rfl, hl3, hS10, h_s4⟩ x11 hr1
    refine W.seq ?_
    refine W.seq ?_
    refine W.region (l := [0, 1, 2, 3]) (by kernel_rfl) ?_
    refine WO.vals [(0, 7, (.int .i64 (i5 : Int))), (1, 8, (.slice a_p0 p0.length c_p0)), (2, 9, (.int .i64 (p0.length : Int))), (3, 10, (.bool (decide ((i5 : Int) < (p0.length : Int)))))] (by kernel_rfl) (fun _ => by kernel_rfl) ?_
    refine WO.nil ?_
    refine En.next ?_
    refine W.cond (b := (decide ((i5 : Int) < (p0.length : Int)))) rfl rfl (fun hc => ?_) (fun hc => ?_)
    rotate_left
    · exact absurd hc (by first | (simp; done) | (simp; omega))
    clear hc
    refine W.skip ?_
    refine En.next ?_
    refine W.seq ?_
    refine W.block ?_
    refine W.seq ?_
    refine W.region (l := [0, 1, 2, 3, 4, 5]) (by kernel_rfl) ?_
    refine WO.vals [(0, 13, (.slice a_p0 p0.length c_p0)), (1, 14, (.int .i64 (i5 : Int)))] (by kernel_rfl) (fun _ => by kernel_rfl) ?_
    obtain ⟨x14, hx_x14, hr1⟩ := bind_some hr1
    obtain ⟨h0_x14, h1_x14, hx_x14⟩ := idx_some hx_x14
    obtain ⟨ha_x14, cs_x14, hn_x14, hr_x14, hc_x14⟩ := ((RSl.mono h_p0 hl3)).el _ _ hx_x14
    obtain rfl := hr_x14
    refine WO.indexAddr (e := 9) (sz := 1) rfl (by kernel_rfl) (by kernel_rfl) (by kernel_rfl) rfl ha_x14 rfl h0_x14 h1_x14 ?_
    refine WO.load rfl (by kernel_rfl) (by kernel_rfl) rfl (v := (.string x14)) (fun w' hw' => hc_x14.cell0 (by kernel_rfl) ((rd_f hS10.im) w' hw')) ?_
    refine WO.vals [(4, 17, (.string p1)), (5, 18, (.bool (!sEq x14 p1)))] (by kernel_rfl) (fun _ => by kernel_rfl) ?_
    refine WO.nil ?_
    refine En.next ?_
    obtain ⟨j15, hr2, hr1⟩ := bind_some hr1
    refine W.join (J := (fun fr w => ∃ (I17 : Mem), ∃ (a_j15 : Option Addr), ∃ (c_j15 : Nat), ∃ (C_j15 : Mem), fr = [(0, (.slice a_p0 p0.length c_p0)), (1, (.string p1)), (5, (.slice a_j15 j15.length c_j15)), (6, (.int .i64 (i5 : Int)))] ∧ I2.Le I17 ∧ St E w I17 ((C_j15) :: Os) ∧ OwnSl 9 1 RStr I17 C_j15 a_j15 c_j15 j15)) ?restj15 ?waysj15
    case waysj15 =>
      refine W.cond (b := (!sEq x14 p1)) rfl rfl (fun hc => ?_) (fun hc => ?_)
      · replace hr2 := cond_t hc hr2
        refine W.region (l := [0, 1, 2, 3, 4, 5, 6, 7]) (by kernel_rfl) ?_
        refine WO.vals [(0, 19, (.slice a_s4 s4.length c_s4)), (1, 20, (.slice a_p0 p0.length c_p0)), (2, 21, (.int .i64 (i5 : Int)))] (by kernel_rfl) (fun _ => by kernel_rfl) ?_
        obtain ⟨x19, hx_x19, hr2⟩ := bind_some hr2
        obtain ⟨h0_x19, h1_x19, hx_x19⟩ := idx_some hx_x19
        obtain ⟨ha_x19, cs_x19, hn_x19, hr_x19, hc_x19⟩ := ((RSl.mono h_p0 hl3)).el _ _ hx_x19
        obtain rfl := hr_x19
        refine WO.indexAddr (e := 9) (sz := 1) rfl (by kernel_rfl) (by kernel_rfl) (by kernel_rfl) rfl ha_x19 rfl h0_x19 h1_x19 ?_
        refine WO.load rfl (by kernel_rfl) (by kernel_rfl) rfl (v := (.string x19)) (fun w' hw' => hc_x19.cell0 (by kernel_rfl) ((rd_f hS10.im) w' hw')) ?_
        refine WO.newSlice (rel := RStr) (xs := ([x19] : List ByteArray)) hS10 rfl (by kernel_rfl) rfl 9 1 [[(.string x19)]] (by kernel_rfl) rfl ((Elr.cons rfl Elr.nil)) (fun _ _ _ => trivial) ?_
        intro a23 C21 w25 hS24 ho22
        have hS27 := hS24.front1
        obtain ⟨x28, hx_x28, hr2⟩ := bind_some hr2
        obtain ⟨h0_x28, he_x28⟩ := app_some hx_x28
        refine WO.append (e' := 9) (b := 16) (zs := #[(.string (⟨#[]⟩ : ByteArray))]) hS27 h_s4 rfl (by kernel_rfl) rfl (by kernel_rfl) (by kernel_rfl) (by kernel_rfl) rfl rfl rfl rfl ho22.sl (hS27.rd (List.Mem.tail _ (List.Mem.head _))) h0_x28 he_x28 (fun _ _ _ => trivial) ?_
        intro a29 c30 w31 C32 hS33 ho34
        have hS35 := hS33.front1
        have hS36 := hS35.drop
        refine WO.vals [(7, 5, (.slice a29 x28.length c30))] (by kernel_rfl) (fun _ => by kernel_rfl) ?_
        refine WO.nil ?_
        have he := Option.some.inj hr2
        subst j15
        refine En.weaken (fr' := [(0, (.slice a_p0 p0.length c_p0)), (1, (.string p1)), (5, (.slice a29 x28.length c30)), (6, (.int .i64 (i5 : Int)))]) (En.round ⟨I2, a29, c30, C32, rfl, Mem.Le.refl _, hS36, ho34⟩) (Sub.cons rfl (Sub.cons rfl (Sub.cons rfl (Sub.cons rfl Sub.nil))))
      · replace hr2 := cond_f hc hr2
        refine W.skip ?_
        have he := Option.some.inj hr2
        subst j15
        refine En.weaken (fr' := [(0, (.slice a_p0 p0.length c_p0)), (1, (.string p1)), (5, (.slice a_s4 s4.length c_s4)), (6, (.int .i64 (i5 : Int)))]) (En.round ⟨I2, a_s4, c_s4, C_s4, rfl, Mem.Le.refl _, hS10, h_s4⟩) (Sub.cons rfl (Sub.cons rfl (Sub.cons rfl (Sub.cons rfl Sub.nil))))
    case restj15 =>
      rintro _ w37 ⟨I17, a_j15, c_j15, C_j15, rfl, hl18, hS38, h_j15⟩
      refine En.in_normal ?_
      refine En.next ?_
      refine W.region (l := [0, 1, 2]) (by kernel_rfl) ?_
      refine WO.vals [(0, 11, (.int .i64 (i5 : Int)))] (by kernel_rfl) (fun _ => by kernel_rfl) ?_
      refine WO.incr (j := i5) rfl (by kernel_rfl) rfl (by first | omega | (dsimp only at *; omega)) ?_
      refine WO.vals [(2, 6, (.int .i64 ((i5 + 1 : Nat) : Int)))] (by kernel_rfl) (fun _ => by kernel_rfl) ?_
      refine WO.nil ?_
      have he := Option.some.inj hr1
      subst x11
      refine En.weaken (fr' := [(0, (.slice a_p0 p0.length c_p0)), (1, (.string p1)), (5, (.slice a_j15 j15.length c_j15)), (6, (.int .i64 ((i5 + 1 : Nat) : Int)))]) (En.round ⟨I17, a_j15, c_j15, C_j15, rfl, (hl3.trans hl18), hS38, h_j15⟩) (Sub.cons rfl (Sub.cons rfl (Sub.cons rfl (Sub.cons rfl Sub.nil))))
  case lastt1 =>
    rintro _ w39 ⟨I2, a_s4, c_s4, C_s4, rfl, hl3, hS40, h_s4⟩
    refine W.seq ?_
    refine W.seq ?_
    refine W.region (l := [0, 1, 2, 3]) (by kernel_rfl) ?_
    refine WO.vals [(0, 7, (.int .i64 (p0.length : Int))), (1, 8, (.slice a_p0 p0.length c_p0)), (2, 9, (.int .i64 (p0.length : Int))), (3, 10, (.bool (decide ((p0.length : Int) < (p0.length : Int)))))] (by kernel_rfl) (fun _ => by kernel_rfl) ?_
    refine WO.nil ?_
    refine En.next ?_
    refine W.cond (b := (decide ((p0.length : Int) < (p0.length : Int)))) rfl rfl (fun hc => ?_) (fun hc => ?_)
    · exact absurd hc (by first | (simp; done) | (simp; omega))
    clear hc
    refine W.exit ?_
    refine En.nx_exit ?_
    refine En.rd_exit ?_
    refine En.in_hit ?_
    refine En.next ?_
    refine W.seq ?_
    refine W.region (l := [0, 1]) (by kernel_rfl) ?_
    refine WO.vals [(0, 26, (.slice a_s4 s4.length c_s4))] (by kernel_rfl) (fun _ => by kernel_rfl) ?_
    obtain ⟨I41, hl42, hS44, hp43⟩ := OwnSl.pub h_s4 hS40
    refine WO.vals [(1, 4, (.slice a_s4 s4.length c_s4))] (by kernel_rfl) (fun _ => by kernel_rfl) ?_
    refine WO.nil ?_
    refine En.next ?_
    refine W.ret ?_
    have he := Option.some.inj hr
    subst r
    exact En.ret1 rfl (.slice a_s4 s4.length c_s4) rfl ⟨I41, a_s4, c_s4, rfl, (hl3.trans hl42), hS44, hp43⟩
noncomputable def registrarref18_Drop (p0 : List api_Role) (p1 : ByteArray) : Option ((List api_Role) × Int) := (registrarref18_Check p0).bind (fun (r6 : Int) => (bif (r6 != 0) then some (([] : List api_Role), r6) else (registrarref18_At p0 p1).bind (fun (r12 : Int) => (bif (decide (r12 < 0)) then some (([] : List api_Role), 4) else (bif (sEq p1 (⟨#[114, 111, 111, 116]⟩ : ByteArray)) then some (([] : List api_Role), 34) else (forE (fun (i17 : Nat) => fun (s16 : List api_Role) => (idx p0 (i17 : Int)).bind (fun (x26 : api_Role) => ((bif (!sEq x26.Name p1) then (idx p0 (i17 : Int)).bind (fun (x33 : api_Role) => (idx p0 (i17 : Int)).bind (fun (x34 : api_Role) => (registrarref18_without x34.In p1).bind (fun (r40 : List ByteArray) => (app 40 s16 ([{ x33 with In := r40 }] : List api_Role)).bind (fun (x50 : List api_Role) => some x50)))) else some s16)).bind (fun (j27 : List api_Role) => some j27))) p0.length 0 ([] : List api_Role)).bind (fun (s16 : (List api_Role)) => some (s16, 0)))))))
set_option maxHeartbeats 1000000 in
theorem registrarref18_Drop_ok {E w : World} {I : Mem} {Os : List Mem} {p0 : List api_Role} {p1 : ByteArray} {a_p0 : Option Addr} {c_p0 : Nat} (h_p0 : RSl 2 R_api_Role I a_p0 c_p0 p0) (hS : St E w I Os) {r : (List api_Role) × Int} (hr : registrarref18_Drop p0 p1 = some r) :
    Calls P 19 #[(.slice a_p0 p0.length c_p0), (.string p1)] w (fun e w' => ∃ (I' : Mem) (ra0 : Option Addr) (rc0 : Nat), e = .returned (.tuple #[(.slice ra0 r.1.length rc0), (.int .i64 r.2)]) ∧ I.Le I' ∧ St E w' I' Os ∧ RSl 2 R_api_Role I' ra0 rc0 r.1) := by
  refine calls_W (args := [(.slice a_p0 p0.length c_p0), (.string p1)]) (fn := Tryz.f19) rfl rfl rfl ?_
  unfold registrarref18_Drop at hr
  refine W.seq ?_
  refine W.region (l := [0, 1]) (by kernel_rfl) ?_
  refine WO.vals [(0, 4, (.slice none 0 0)), (1, 5, (.int .i64 0))] (by kernel_rfl) (fun _ => by kernel_rfl) ?_
  refine WO.nil ?_
  refine En.next ?_
  refine W.seq ?_
  refine W.region (l := [0, 1, 2]) (by kernel_rfl) ?_
  refine WO.vals [(0, 9, (.slice a_p0 p0.length c_p0))] (by kernel_rfl) (fun _ => by kernel_rfl) ?_
  obtain ⟨r6, hx_r1, hr⟩ := bind_some hr
  refine WO.call rfl (by kernel_rfl) rfl (f := 11) (args := #[(.slice a_p0 p0.length c_p0)]) (by kernel_rfl) (registrarref18_Check_ok h_p0 hS hx_r1) ?_
  rintro _ w2 ⟨I3, rfl, hl4, hS5⟩
  refine ⟨_, rfl, trivial, ?_⟩
  refine WO.vals [(2, 6, (.int .i64 r6))] (by kernel_rfl) (fun _ => by kernel_rfl) ?_
  refine WO.nil ?_
  refine En.next ?_
  refine W.seq ?_
  refine W.seq ?_
  refine W.region (l := [0, 1]) (by kernel_rfl) ?_
  refine WO.vals [(0, 11, (.int .i64 r6)), (1, 12, (.bool (r6 != 0)))] (by kernel_rfl) (fun _ => by kernel_rfl) ?_
  refine WO.nil ?_
  refine En.next ?_
  refine W.cond (b := (r6 != 0)) rfl rfl (fun hc => ?_) (fun hc => ?_)
  · replace hr := cond_t hc hr
    refine W.seq ?_
    refine W.region (l := [0, 1, 2]) (by kernel_rfl) ?_
    refine WO.vals [(0, 13, (.int .i64 r6)), (1, 4, (.slice none 0 0)), (2, 5, (.int .i64 r6))] (by kernel_rfl) (fun _ => by kernel_rfl) ?_
    refine WO.nil ?_
    refine En.next ?_
    refine W.ret ?_
    refine En.nx_ret ?_
    have he := Option.some.inj hr
    subst r
    exact En.ret2 rfl (.slice none 0 0) (.int .i64 r6) rfl rfl ⟨I3, none, 0, rfl, hl4, hS5, SlAt.nil⟩
  · replace hr := cond_f hc hr
    refine W.skip ?_
    refine En.next ?_
    refine W.seq ?_
    refine W.seq ?_
    refine W.region (l := [0, 1, 2, 3]) (by kernel_rfl) ?_
    refine WO.vals [(0, 14, (.slice a_p0 p0.length c_p0)), (1, 15, (.string p1))] (by kernel_rfl) (fun _ => by kernel_rfl) ?_
    obtain ⟨r12, hx_r7, hr⟩ := bind_some hr
    refine WO.call rfl (by kernel_rfl) rfl (f := 32) (args := #[(.slice a_p0 p0.length c_p0), (.string p1)]) (by kernel_rfl) (registrarref18_At_ok (RSl.mono h_p0 hl4) hS5 hx_r7) ?_
    rintro _ w8 ⟨I9, rfl, hl10, hS11⟩
    refine ⟨_, rfl, trivial, ?_⟩
    refine WO.vals [(3, 17, (.bool (decide (r12 < 0))))] (by kernel_rfl) (fun _ => by kernel_rfl) ?_
    refine WO.nil ?_
    refine En.next ?_
    refine W.cond (b := (decide (r12 < 0))) rfl rfl (fun hc => ?_) (fun hc => ?_)
    · replace hr := cond_t hc hr
      refine W.seq ?_
      refine W.region (l := [0, 1]) (by kernel_rfl) ?_
      refine WO.vals [(0, 4, (.slice none 0 0)), (1, 5, (.int .i64 4))] (by kernel_rfl) (fun _ => by kernel_rfl) ?_
      refine WO.nil ?_
      refine En.next ?_
      refine W.ret ?_
      refine En.nx_ret ?_
      have he := Option.some.inj hr
      subst r
      exact En.ret2 rfl (.slice none 0 0) (.int .i64 4) rfl rfl ⟨I9, none, 0, rfl, (hl4.trans hl10), hS11, SlAt.nil⟩
    · replace hr := cond_f hc hr
      refine W.skip ?_
      refine En.next ?_
      refine W.seq ?_
      refine W.seq ?_
      refine W.region (l := [0, 1]) (by kernel_rfl) ?_
      refine WO.vals [(0, 18, (.string p1)), (1, 19, (.bool (sEq p1 (⟨#[114, 111, 111, 116]⟩ : ByteArray))))] (by kernel_rfl) (fun _ => by kernel_rfl) ?_
      refine WO.nil ?_
      refine En.next ?_
      refine W.cond (b := (sEq p1 (⟨#[114, 111, 111, 116]⟩ : ByteArray))) rfl rfl (fun hc => ?_) (fun hc => ?_)
      · replace hr := cond_t hc hr
        refine W.seq ?_
        refine W.region (l := [0, 1]) (by kernel_rfl) ?_
        refine WO.vals [(0, 4, (.slice none 0 0)), (1, 5, (.int .i64 34))] (by kernel_rfl) (fun _ => by kernel_rfl) ?_
        refine WO.nil ?_
        refine En.next ?_
        refine W.ret ?_
        refine En.nx_ret ?_
        have he := Option.some.inj hr
        subst r
        exact En.ret2 rfl (.slice none 0 0) (.int .i64 34) rfl rfl ⟨I9, none, 0, rfl, (hl4.trans hl10), hS11, SlAt.nil⟩
      · replace hr := cond_f hc hr
        refine W.skip ?_
        refine En.next ?_
        refine W.seq ?_
        refine W.region (l := [0]) (by kernel_rfl) ?_
        refine WO.vals [(0, 7, (.slice none 0 0))] (by kernel_rfl) (fun _ => by kernel_rfl) ?_
        refine WO.nil ?_
        refine En.next ?_
        refine W.seq ?_
        refine W.seq ?_
        refine W.region (l := [0]) (by kernel_rfl) ?_
        refine WO.vals [(0, 8, (.int .i64 0))] (by kernel_rfl) (fun _ => by kernel_rfl) ?_
        refine WO.nil ?_
        refine En.next ?_
        refine W.block ?_
        obtain ⟨s16, hloop18, hr⟩ := bind_some hr
        have hS20 := hS11.no
        have hlt24 := ((RSl.mono h_p0 (hl4.trans hl10))).len_lt
        refine W.weaken (fr' := [(0, (.slice a_p0 p0.length c_p0)), (1, (.string p1)), (7, (.slice none ([] : List api_Role).length 0)), (8, (.int .i64 ((0 : Nat) : Int)))]) (W.forE (m := p0.length) hloop18 (fun (i17 : Nat) => fun (s16 : List api_Role) fr w => ∃ (I14 : Mem), ∃ (a_s16 : Option Addr), ∃ (c_s16 : Nat), ∃ (C_s16 : Mem), fr = [(0, (.slice a_p0 p0.length c_p0)), (1, (.string p1)), (7, (.slice a_s16 s16.length c_s16)), (8, (.int .i64 (i17 : Int)))] ∧ I9.Le I14 ∧ St E w I14 ((C_s16) :: Os) ∧ OwnSl 28 2 R_api_Role I14 C_s16 a_s16 c_s16 s16) ⟨I9, none, 0, Mem.no, rfl, Mem.Le.refl _, hS20, OwnSl.nil⟩ ?roundt13 ?lastt13) (Sub.cons rfl (Sub.cons rfl (Sub.cons rfl (Sub.cons rfl Sub.nil))))
        case roundt13 =>
          rintro i17 s16 _ w21 hi25 ⟨I14, a_s16, c_s16, C_s16, rfl, hl15, hS22, h_s16⟩ x23 hr1
          refine W.seq ?_
          refine W.seq ?_
          refine W.region (l := [0, 1, 2, 3]) (by kernel_rfl) ?_
          refine WO.vals [(0, 20, (.int .i64 (i17 : Int))), (1, 21, (.slice a_p0 p0.length c_p0)), (2, 22, (.int .i64 (p0.length : Int))), (3, 23, (.bool (decide ((i17 : Int) < (p0.length : Int)))))] (by kernel_rfl) (fun _ => by kernel_rfl) ?_
          refine WO.nil ?_
          refine En.next ?_
          refine W.cond (b := (decide ((i17 : Int) < (p0.length : Int)))) rfl rfl (fun hc => ?_) (fun hc => ?_)
          rotate_left
          · exact absurd hc (by first | (simp; done) | (simp; omega))
          clear hc
          refine W.skip ?_
          refine En.next ?_
          refine W.seq ?_
          refine W.block ?_
          refine W.seq ?_
          refine W.region (l := [0, 1, 2, 3, 4, 5, 6]) (by kernel_rfl) ?_
          refine WO.vals [(0, 26, (.slice a_p0 p0.length c_p0)), (1, 27, (.int .i64 (i17 : Int)))] (by kernel_rfl) (fun _ => by kernel_rfl) ?_
          obtain ⟨x26, hx_x26, hr1⟩ := bind_some hr1
          obtain ⟨h0_x26, h1_x26, hx_x26⟩ := idx_some hx_x26
          obtain ⟨ha_x26, cs_x26, hn_x26, hr_x26, hc_x26⟩ := ((RSl.mono h_p0 ((hl4.trans hl10).trans hl15))).el _ _ hx_x26
          obtain ⟨w_x26, rfl, h_x26⟩ := hr_x26
          refine WO.indexAddr (e := 28) (sz := 2) rfl (by kernel_rfl) (by kernel_rfl) (by kernel_rfl) rfl ha_x26 rfl h0_x26 h1_x26 ?_
          refine WO.vals [(3, 29, (.pointer (some ⟨bl a_p0, of a_p0 + ((i17 : Int)).toNat * 2, none⟩)))] (by kernel_rfl) (fun _ => by kernel_rfl) ?_
          refine WO.load rfl (by kernel_rfl) (by kernel_rfl) rfl (v := (.string x26.Name)) (fun w' hw' => hc_x26.cell0 (by kernel_rfl) ((rd_f hS22.im) w' hw')) ?_
          refine WO.vals [(5, 31, (.string p1)), (6, 32, (.bool (!sEq x26.Name p1)))] (by kernel_rfl) (fun _ => by kernel_rfl) ?_
          refine WO.nil ?_
          refine En.next ?_
          obtain ⟨j27, hr2, hr1⟩ := bind_some hr1
          refine W.join (J := (fun fr w => ∃ (I29 : Mem), ∃ (a_j27 : Option Addr), ∃ (c_j27 : Nat), ∃ (C_j27 : Mem), fr = [(0, (.slice a_p0 p0.length c_p0)), (1, (.string p1)), (7, (.slice a_j27 j27.length c_j27)), (8, (.int .i64 (i17 : Int)))] ∧ I14.Le I29 ∧ St E w I29 ((C_j27) :: Os) ∧ OwnSl 28 2 R_api_Role I29 C_j27 a_j27 c_j27 j27)) ?restj27 ?waysj27
          case waysj27 =>
            refine W.cond (b := (!sEq x26.Name p1)) rfl rfl (fun hc => ?_) (fun hc => ?_)
            · replace hr2 := cond_t hc hr2
              have hS31 := hS22.drew
              refine W.draw (l := [0, 1, 2, 3, 4, 5, 6, 7, 8, 9, 10, 11, 12, 13, 14, 15, 16]) (by kernel_rfl) 13 (KR I14 []) qR (.back (by kernel_rfl)) (by kernel_rfl) (KR.nil hS31.im) ?_
              generalize World.drew _ = w32 at *
              refine WO.vals [(0, 33, (.slice a_s16 s16.length c_s16)), (1, 34, (.slice a_p0 p0.length c_p0)), (2, 35, (.int .i64 (i17 : Int)))] (by kernel_rfl) (fun _ => by kernel_rfl) ?_
              obtain ⟨x33, hx_x33, hr2⟩ := bind_some hr2
              obtain ⟨h0_x33, h1_x33, hx_x33⟩ := idx_some hx_x33
              obtain ⟨ha_x33, cs_x33, hn_x33, hr_x33, hc_x33⟩ := ((RSl.mono h_p0 ((hl4.trans hl10).trans hl15))).el _ _ hx_x33
              obtain ⟨w_x33, rfl, h_x33⟩ := hr_x33
              refine WO.indexAddr (e := 28) (sz := 2) rfl (by kernel_rfl) (by kernel_rfl) (by kernel_rfl) rfl ha_x33 rfl h0_x33 h1_x33 ?_
              refine WO.vals [(4, 37, (.pointer (some ⟨bl a_p0, of a_p0 + ((i17 : Int)).toNat * 2, none⟩)))] (by kernel_rfl) (fun _ => by kernel_rfl) ?_
              refine WO.load rfl (by kernel_rfl) (by kernel_rfl) rfl (v := (.string x33.Name)) (fun w' hw' => hc_x33.cell0 (by kernel_rfl) ((rd_i hS31.im) w' hw')) ?_
              refine WO.vals [(6, 39, (.slice a_p0 p0.length c_p0)), (7, 40, (.int .i64 (i17 : Int)))] (by kernel_rfl) (fun _ => by kernel_rfl) ?_
              obtain ⟨x34, hx_x34, hr2⟩ := bind_some hr2
              obtain ⟨h0_x34, h1_x34, hx_x34⟩ := idx_some hx_x34
              obtain ⟨ha_x34, cs_x34, hn_x34, hr_x34, hc_x34⟩ := ((RSl.mono h_p0 ((hl4.trans hl10).trans hl15))).el _ _ hx_x34
              obtain ⟨w_x34, rfl, h_x34⟩ := hr_x34
              refine WO.indexAddr (e := 28) (sz := 2) rfl (by kernel_rfl) (by kernel_rfl) (by kernel_rfl) rfl ha_x34 rfl h0_x34 h1_x34 ?_
              refine WO.vals [(9, 42, (.pointer (some ⟨bl a_p0, of a_p0 + ((i17 : Int)).toNat * 2 + 1, none⟩)))] (by kernel_rfl) (fun _ => by kernel_rfl) ?_
              refine WO.load rfl (by kernel_rfl) (by kernel_rfl) rfl (v := (.slice w_x34.In.a x34.In.length w_x34.In.c)) (fun w' hw' => hc_x34.cellk 1 (by kernel_rfl) ((rd_i hS31.im) w' hw')) ?_
              refine WO.vals [(11, 44, (.string p1))] (by kernel_rfl) (fun _ => by kernel_rfl) ?_
              obtain ⟨r40, hx_r35, hr2⟩ := bind_some hr2
              refine WO.call rfl (by kernel_rfl) rfl (f := 46) (args := #[(.slice w_x34.In.a x34.In.length w_x34.In.c), (.string p1)]) (by kernel_rfl) (registrarref18_without_ok h_x34.In hS31 hx_r35) ?_
              rintro _ w36 ⟨I37, a_r40, c_r40, rfl, hl38, hS39, h_r40⟩
              refine ⟨_, rfl, (KR.nil (hS39.im.of_le hl38)), ?_⟩
              refine WO.tail rfl ?_
              refine WO.vals [(13, 46, (.agg (cs_api_Role ({ x33 with In := r40 }) (⟨⟨a_r40, c_r40⟩⟩ : W_api_Role)).toArray))] (by kernel_rfl) (fun _ => by kernel_rfl) ?_
              have hk48 : ok_api_Role I37 ({ x33 with In := r40 }) (⟨⟨a_r40, c_r40⟩⟩ : W_api_Role) := ⟨h_r40⟩
              refine WO.newSlice (rel := R_api_Role) (xs := ([{ x33 with In := r40 }] : List api_Role)) hS39 rfl (by kernel_rfl) rfl 28 2 [(cs_api_Role ({ x33 with In := r40 }) (⟨⟨a_r40, c_r40⟩⟩ : W_api_Role))] (by kernel_rfl) rfl ((Elr.cons ⟨(⟨⟨a_r40, c_r40⟩⟩ : W_api_Role), rfl, hk48⟩ Elr.nil)) (fun _ _ _ => trivial) ?_
              intro a44 C42 w46 hS45 ho43
              have hS49 := hS45.front1
              obtain ⟨x50, hx_x50, hr2⟩ := bind_some hr2
              obtain ⟨h0_x50, he_x50⟩ := app_some hx_x50
              refine WO.append (e' := 28) (b := 40) (zs := (cs_api_Role z_api_Role zw_api_Role).toArray) hS49 (OwnSl.mono h_s16 hl38) rfl (by kernel_rfl) rfl (by kernel_rfl) (by kernel_rfl) (by kernel_rfl) rfl rfl rfl rfl ho43.sl (hS49.rd (List.Mem.tail _ (List.Mem.head _))) h0_x50 he_x50 (fun _ _ _ => trivial) ?_
              intro a51 c52 w53 C54 hS55 ho56
              have hS57 := hS55.front1
              have hS58 := hS57.drop
              refine WO.vals [(16, 7, (.slice a51 x50.length c52))] (by kernel_rfl) (fun _ => by kernel_rfl) ?_
              refine WO.nil ?_
              have he := Option.some.inj hr2
              subst j27
              refine En.weaken (fr' := [(0, (.slice a_p0 p0.length c_p0)), (1, (.string p1)), (7, (.slice a51 x50.length c52)), (8, (.int .i64 (i17 : Int)))]) (En.round ⟨I37, a51, c52, C54, rfl, hl38, hS58, ho56⟩) (Sub.cons rfl (Sub.cons rfl (Sub.cons rfl (Sub.cons rfl Sub.nil))))
            · replace hr2 := cond_f hc hr2
              refine W.skip ?_
              have he := Option.some.inj hr2
              subst j27
              refine En.weaken (fr' := [(0, (.slice a_p0 p0.length c_p0)), (1, (.string p1)), (7, (.slice a_s16 s16.length c_s16)), (8, (.int .i64 (i17 : Int)))]) (En.round ⟨I14, a_s16, c_s16, C_s16, rfl, Mem.Le.refl _, hS22, h_s16⟩) (Sub.cons rfl (Sub.cons rfl (Sub.cons rfl (Sub.cons rfl Sub.nil))))
          case restj27 =>
            rintro _ w59 ⟨I29, a_j27, c_j27, C_j27, rfl, hl30, hS60, h_j27⟩
            refine En.in_normal ?_
            refine En.next ?_
            refine W.region (l := [0, 1, 2]) (by kernel_rfl) ?_
            refine WO.vals [(0, 24, (.int .i64 (i17 : Int)))] (by kernel_rfl) (fun _ => by kernel_rfl) ?_
            refine WO.incr (j := i17) rfl (by kernel_rfl) rfl (by first | omega | (dsimp only at *; omega)) ?_
            refine WO.vals [(2, 8, (.int .i64 ((i17 + 1 : Nat) : Int)))] (by kernel_rfl) (fun _ => by kernel_rfl) ?_
            refine WO.nil ?_
            have he := Option.some.inj hr1
            subst x23
            refine En.weaken (fr' := [(0, (.slice a_p0 p0.length c_p0)), (1, (.string p1)), (7, (.slice a_j27 j27.length c_j27)), (8, (.int .i64 ((i17 + 1 : Nat) : Int)))]) (En.round ⟨I29, a_j27, c_j27, C_j27, rfl, (hl15.trans hl30), hS60, h_j27⟩) (Sub.cons rfl (Sub.cons rfl (Sub.cons rfl (Sub.cons rfl Sub.nil))))
        case lastt13 =>
          rintro _ w61 ⟨I14, a_s16, c_s16, C_s16, rfl, hl15, hS62, h_s16⟩
          refine W.seq ?_
          refine W.seq ?_
          refine W.region (l := [0, 1, 2, 3]) (by kernel_rfl) ?_
          refine WO.vals [(0, 20, (.int .i64 (p0.length : Int))), (1, 21, (.slice a_p0 p0.length c_p0)), (2, 22, (.int .i64 (p0.length : Int))), (3, 23, (.bool (decide ((p0.length : Int) < (p0.length : Int)))))] (by kernel_rfl) (fun _ => by kernel_rfl) ?_
          refine WO.nil ?_
          refine En.next ?_
          refine W.cond (b := (decide ((p0.length : Int) < (p0.length : Int)))) rfl rfl (fun hc => ?_) (fun hc => ?_)
          · exact absurd hc (by first | (simp; done) | (simp; omega))
          clear hc
          refine W.exit ?_
          refine En.nx_exit ?_
          refine En.rd_exit ?_
          refine En.in_hit ?_
          refine En.next ?_
          refine W.seq ?_
          refine W.region (l := [0, 1, 2]) (by kernel_rfl) ?_
          refine WO.vals [(0, 49, (.slice a_s16 s16.length c_s16))] (by kernel_rfl) (fun _ => by kernel_rfl) ?_
          obtain ⟨I63, hl64, hS66, hp65⟩ := OwnSl.pub h_s16 hS62
          refine WO.vals [(1, 4, (.slice a_s16 s16.length c_s16)), (2, 5, (.int .i64 0))] (by kernel_rfl) (fun _ => by kernel_rfl) ?_
          refine WO.nil ?_
          refine En.next ?_
          refine W.ret ?_
          have he := Option.some.inj hr
          subst r
          exact En.ret2 rfl (.slice a_s16 s16.length c_s16) (.int .i64 0) rfl rfl ⟨I63, a_s16, c_s16, rfl, (((hl4.trans hl10).trans hl15).trans hl64), hS66, hp65⟩
def registrarref18_turned (p0 : List api_Role) (p1 : Int) (p2 : List ByteArray) : Option (List api_Role) := (app 40 ([] : List api_Role) p0).bind (fun (x3 : List api_Role) => (idx x3 p1).bind (fun (x10 : api_Role) => some (x3.set (p1).toNat ({ x10 with In := p2 }))))
set_option maxHeartbeats 1000000 in
theorem registrarref18_turned_ok {E w : World} {I : Mem} {Os : List Mem} {p0 : List api_Role} {p1 : Int} {p2 : List ByteArray} {a_p0 : Option Addr} {c_p0 : Nat} {a_p2 : Option Addr} {c_p2 : Nat} (h_p0 : RSl 2 R_api_Role I a_p0 c_p0 p0) (h_p2 : RSl 1 RStr I a_p2 c_p2 p2) (hS : St E w I Os) {r : (List api_Role)} (hr : registrarref18_turned p0 p1 p2 = some r) :
    Calls P 48 #[(.slice a_p0 p0.length c_p0), (.int .i64 p1), (.slice a_p2 p2.length c_p2)] w (fun e w' => ∃ (I' : Mem) (ra0 : Option Addr) (rc0 : Nat), e = .returned (.slice ra0 r.length rc0) ∧ I.Le I' ∧ St E w' I' Os ∧ RSl 2 R_api_Role I' ra0 rc0 r) := by
  refine calls_W (args := [(.slice a_p0 p0.length c_p0), (.int .i64 p1), (.slice a_p2 p2.length c_p2)]) (fn := Tryz.f48) rfl rfl rfl ?_
  unfold registrarref18_turned at hr
  refine W.seq ?_
  refine W.region (l := [0]) (by kernel_rfl) ?_
  refine WO.vals [(0, 6, (.slice none 0 0))] (by kernel_rfl) (fun _ => by kernel_rfl) ?_
  refine WO.nil ?_
  refine En.next ?_
  refine W.seq ?_
  refine W.region (l := [0]) (by kernel_rfl) ?_
  refine WO.vals [(0, 7, (.slice none 0 0))] (by kernel_rfl) (fun _ => by kernel_rfl) ?_
  refine WO.nil ?_
  refine En.next ?_
  refine W.seq ?_
  refine W.region (l := [0, 1, 2, 3]) (by kernel_rfl) ?_
  refine WO.vals [(0, 8, (.slice none 0 0)), (1, 9, (.slice a_p0 p0.length c_p0))] (by kernel_rfl) (fun _ => by kernel_rfl) ?_
  have hS2 := hS.no
  obtain ⟨x3, hx_x3, hr⟩ := bind_some hr
  obtain ⟨h0_x3, he_x3⟩ := app_some hx_x3
  refine WO.append (e' := 28) (b := 40) (zs := (cs_api_Role z_api_Role zw_api_Role).toArray) hS2 (OwnSl.nil (T := 28) (rel := R_api_Role) (I := I)) rfl (by kernel_rfl) rfl (by kernel_rfl) (by kernel_rfl) (by kernel_rfl) rfl rfl rfl rfl h_p0 hS2.im h0_x3 he_x3 (fun _ _ _ => trivial) ?_
  intro a4 c5 w6 C7 hS8 ho9
  refine WO.vals [(3, 7, (.slice a4 x3.length c5))] (by kernel_rfl) (fun _ => by kernel_rfl) ?_
  refine WO.nil ?_
  refine En.next ?_
  refine W.seq ?_
  refine W.region (l := [0, 1, 2, 3, 4, 5]) (by kernel_rfl) ?_
  refine WO.vals [(0, 11, (.slice a4 x3.length c5)), (1, 12, (.int .i64 p1)), (2, 13, (.slice a_p2 p2.length c_p2))] (by kernel_rfl) (fun _ => by kernel_rfl) ?_
  obtain ⟨x10, hx_x10, hr⟩ := bind_some hr
  obtain ⟨h0_x10, h1_x10, hx_x10⟩ := idx_some hx_x10
  obtain ⟨ha_x10, cs_x10, hn_x10, hr_x10, hc_x10⟩ := (ho9.sl).el _ _ hx_x10
  obtain ⟨w_x10, rfl, h_x10⟩ := hr_x10
  refine WO.indexAddr (e := 28) (sz := 2) rfl (by kernel_rfl) (by kernel_rfl) (by kernel_rfl) rfl ha_x10 rfl h0_x10 h1_x10 ?_
  refine WO.vals [(4, 15, (.pointer (some ⟨bl a4, of a4 + (p1).toNat * 2 + 1, none⟩)))] (by kernel_rfl) (fun _ => by kernel_rfl) ?_
  have hk15 : ok_api_Role I ({ x10 with In := p2 }) (⟨⟨a_p2, c_p2⟩⟩ : W_api_Role) := ⟨h_p2⟩
  refine WO.storeOwn hS8 ho9 rfl (by kernel_rfl) rfl hx_x10 (u' := { x10 with In := p2 }) 1 rfl rfl (by kernel_rfl) rfl rfl (fun cs hrel => (by obtain ⟨w_zz, rfl, h_zz⟩ := hrel; exact ⟨{ w_zz with In := ⟨a_p2, c_p2⟩ }, rfl, { h_zz with In := h_p2 }⟩)) (fun _ _ _ => trivial) ?_
  intro w12 C13 hS11 ho14
  refine WO.reslot 7 rfl (show Value.slice a4 x3.length c5 = Value.slice a4 (x3.set (p1).toNat ({ x10 with In := p2 })).length c5 by simp only [List.length_set]) ?_
  refine WO.nil ?_
  refine En.next ?_
  refine W.seq ?_
  refine W.region (l := [0, 1]) (by kernel_rfl) ?_
  refine WO.vals [(0, 16, (.slice a4 (x3.set (p1).toNat ({ x10 with In := p2 })).length c5))] (by kernel_rfl) (fun _ => by kernel_rfl) ?_
  obtain ⟨I16, hl17, hS19, hp18⟩ := OwnSl.pub ho14 hS11
  refine WO.vals [(1, 6, (.slice a4 (x3.set (p1).toNat ({ x10 with In := p2 })).length c5))] (by kernel_rfl) (fun _ => by kernel_rfl) ?_
  refine WO.nil ?_
  refine En.next ?_
  refine W.ret ?_
  have he := Option.some.inj hr
  subst r
  exact En.ret1 rfl (.slice a4 (x3.set (p1).toNat ({ x10 with In := p2 })).length c5) rfl ⟨I16, a4, c5, rfl, hl17, hS19, hp18⟩
noncomputable def registrarref18_Grant (p0 : List api_Role) (p1 : ByteArray) (p2 : ByteArray) : Option ((List api_Role) × Int) := (registrarref18_Check p0).bind (fun (r6 : Int) => (bif (r6 != 0) then some (([] : List api_Role), r6) else (registrarref18_At p0 p2).bind (fun (r12 : Int) => ((bif (decide (r12 < 0)) then some true else (registrarref18_At p0 p1).bind (fun (r22 : Int) => some (decide (r22 < 0))))).bind (fun (j13 : Bool) => (bif j13 then some (([] : List api_Role), 4) else (idx p0 r12).bind (fun (x25 : api_Role) => (registrarref14_Has x25.In p1).bind (fun (r31 : Bool) => (bif r31 then some (([] : List api_Role), 19) else (registrarref18_Is p0 p1 p2).bind (fun (r37 : Bool) => (bif r37 then some (([] : List api_Role), 35) else (idx p0 r12).bind (fun (x38 : api_Role) => (registrarref18_into x38.In p1).bind (fun (r44 : List ByteArray) => (registrarref18_turned p0 r12 r44).bind (fun (r50 : List api_Role) => some (r50, 0))))))))))))))
set_option maxHeartbeats 1000000 in
theorem registrarref18_Grant_ok {E w : World} {I : Mem} {Os : List Mem} {p0 : List api_Role} {p1 : ByteArray} {p2 : ByteArray} {a_p0 : Option Addr} {c_p0 : Nat} (h_p0 : RSl 2 R_api_Role I a_p0 c_p0 p0) (hS : St E w I Os) {r : (List api_Role) × Int} (hr : registrarref18_Grant p0 p1 p2 = some r) :
    Calls P 20 #[(.slice a_p0 p0.length c_p0), (.string p1), (.string p2)] w (fun e w' => ∃ (I' : Mem) (ra0 : Option Addr) (rc0 : Nat), e = .returned (.tuple #[(.slice ra0 r.1.length rc0), (.int .i64 r.2)]) ∧ I.Le I' ∧ St E w' I' Os ∧ RSl 2 R_api_Role I' ra0 rc0 r.1) := by
  refine calls_W (args := [(.slice a_p0 p0.length c_p0), (.string p1), (.string p2)]) (fn := Tryz.f20) rfl rfl rfl ?_
  unfold registrarref18_Grant at hr
  refine W.seq ?_
  refine W.region (l := [0, 1]) (by kernel_rfl) ?_
  refine WO.vals [(0, 6, (.slice none 0 0)), (1, 7, (.int .i64 0))] (by kernel_rfl) (fun _ => by kernel_rfl) ?_
  refine WO.nil ?_
  refine En.next ?_
  refine W.seq ?_
  refine W.region (l := [0, 1, 2]) (by kernel_rfl) ?_
  refine WO.vals [(0, 10, (.slice a_p0 p0.length c_p0))] (by kernel_rfl) (fun _ => by kernel_rfl) ?_
  obtain ⟨r6, hx_r1, hr⟩ := bind_some hr
  refine WO.call rfl (by kernel_rfl) rfl (f := 11) (args := #[(.slice a_p0 p0.length c_p0)]) (by kernel_rfl) (registrarref18_Check_ok h_p0 hS hx_r1) ?_
  rintro _ w2 ⟨I3, rfl, hl4, hS5⟩
  refine ⟨_, rfl, trivial, ?_⟩
  refine WO.vals [(2, 8, (.int .i64 r6))] (by kernel_rfl) (fun _ => by kernel_rfl) ?_
  refine WO.nil ?_
  refine En.next ?_
  refine W.seq ?_
  refine W.seq ?_
  refine W.region (l := [0, 1]) (by kernel_rfl) ?_
  refine WO.vals [(0, 12, (.int .i64 r6)), (1, 13, (.bool (r6 != 0)))] (by kernel_rfl) (fun _ => by kernel_rfl) ?_
  refine WO.nil ?_
  refine En.next ?_
  refine W.cond (b := (r6 != 0)) rfl rfl (fun hc => ?_) (fun hc => ?_)
  · replace hr := cond_t hc hr
    refine W.seq ?_
    refine W.region (l := [0, 1, 2]) (by kernel_rfl) ?_
    refine WO.vals [(0, 14, (.int .i64 r6)), (1, 6, (.slice none 0 0)), (2, 7, (.int .i64 r6))] (by kernel_rfl) (fun _ => by kernel_rfl) ?_
    refine WO.nil ?_
    refine En.next ?_
    refine W.ret ?_
    refine En.nx_ret ?_
    have he := Option.some.inj hr
    subst r
    exact En.ret2 rfl (.slice none 0 0) (.int .i64 r6) rfl rfl ⟨I3, none, 0, rfl, hl4, hS5, SlAt.nil⟩
  · replace hr := cond_f hc hr
    refine W.skip ?_
    refine En.next ?_
    refine W.seq ?_
    refine W.region (l := [0, 1, 2, 3]) (by kernel_rfl) ?_
    refine WO.vals [(0, 15, (.slice a_p0 p0.length c_p0)), (1, 16, (.string p2))] (by kernel_rfl) (fun _ => by kernel_rfl) ?_
    obtain ⟨r12, hx_r7, hr⟩ := bind_some hr
    refine WO.call rfl (by kernel_rfl) rfl (f := 32) (args := #[(.slice a_p0 p0.length c_p0), (.string p2)]) (by kernel_rfl) (registrarref18_At_ok (RSl.mono h_p0 hl4) hS5 hx_r7) ?_
    rintro _ w8 ⟨I9, rfl, hl10, hS11⟩
    refine ⟨_, rfl, trivial, ?_⟩
    refine WO.vals [(3, 9, (.int .i64 r12))] (by kernel_rfl) (fun _ => by kernel_rfl) ?_
    refine WO.nil ?_
    refine En.next ?_
    refine W.seq ?_
    refine W.seq ?_
    refine W.region (l := [0, 1, 2, 3, 4, 5, 6, 7]) (by kernel_rfl) ?_
    refine WO.vals [(0, 18, (.int .i64 r12)), (1, 19, (.bool (decide (r12 < 0)))), (2, 20, (.bool (decide (r12 < 0))))] (by kernel_rfl) (fun _ => by kernel_rfl) ?_
    obtain ⟨j13, hr1, hr⟩ := bind_some hr
    refine WO.join (l1 := [3, 4, 5, 6, 7]) (l2 := []) (J := (fun fr w => ∃ (I15 : Mem), fr = [(0, (.slice a_p0 p0.length c_p0)), (1, (.string p1)), (2, (.string p2)), (9, (.int .i64 r12)), (25, (.bool j13))] ∧ I9.Le I15 ∧ St E w I15 Os)) ?restj13 ?waysj13
    case waysj13 =>
      refine WO.caseb (decide (r12 < 0)) (fun hc => ?_) (fun hc => ?_)
      · replace hr1 := cond_t hc hr1
        refine WO.reslot 20 rfl (show Value.bool (decide (r12 < 0)) = Value.bool true by rw [hc]) ?_
        refine WO.pass rfl (by kernel_rfl) rfl ?_
        refine WO.pass rfl (by kernel_rfl) rfl ?_
        refine WO.pass rfl (by kernel_rfl) rfl ?_
        refine WO.pass rfl (by kernel_rfl) rfl ?_
        refine WO.vals [(7, 25, (.bool true))] (by kernel_rfl) (fun _ => by kernel_rfl) ?_
        have he := Option.some.inj hr1
        subst j13
        refine WO.weaken (fr' := [(0, (.slice a_p0 p0.length c_p0)), (1, (.string p1)), (2, (.string p2)), (9, (.int .i64 r12)), (25, (.bool true))]) (WO.meet ⟨I9, rfl, Mem.Le.refl _, hS11⟩) (Sub.cons rfl (Sub.cons rfl (Sub.cons rfl (Sub.cons rfl (Sub.cons rfl Sub.nil)))))
      · replace hr1 := cond_f hc hr1
        refine WO.reslot 20 rfl (show Value.bool (decide (r12 < 0)) = Value.bool false by rw [hc]) ?_
        refine WO.vals [(3, 21, (.slice a_p0 p0.length c_p0)), (4, 22, (.string p1))] (by kernel_rfl) (fun _ => by kernel_rfl) ?_
        obtain ⟨r22, hx_r17, hr1⟩ := bind_some hr1
        refine WO.call rfl (by kernel_rfl) rfl (f := 32) (args := #[(.slice a_p0 p0.length c_p0), (.string p1)]) (by kernel_rfl) (registrarref18_At_ok (RSl.mono h_p0 (hl4.trans hl10)) hS11 hx_r17) ?_
        rintro _ w18 ⟨I19, rfl, hl20, hS21⟩
        refine ⟨_, rfl, trivial, ?_⟩
        refine WO.vals [(6, 24, (.bool (decide (r22 < 0)))), (7, 25, (.bool (decide (r22 < 0))))] (by kernel_rfl) (fun _ => by kernel_rfl) ?_
        have he := Option.some.inj hr1
        subst j13
        refine WO.weaken (fr' := [(0, (.slice a_p0 p0.length c_p0)), (1, (.string p1)), (2, (.string p2)), (9, (.int .i64 r12)), (25, (.bool (decide (r22 < 0))))]) (WO.meet ⟨I19, rfl, hl20, hS21⟩) (Sub.cons rfl (Sub.cons rfl (Sub.cons rfl (Sub.cons rfl (Sub.cons rfl Sub.nil)))))
    case restj13 =>
      rintro _ w23 ⟨I15, rfl, hl16, hS24⟩
      refine WO.nil ?_
      refine En.next ?_
      refine W.cond (b := j13) rfl rfl (fun hc => ?_) (fun hc => ?_)
      · replace hr := cond_t hc hr
        refine W.seq ?_
        refine W.region (l := [0, 1]) (by kernel_rfl) ?_
        refine WO.vals [(0, 6, (.slice none 0 0)), (1, 7, (.int .i64 4))] (by kernel_rfl) (fun _ => by kernel_rfl) ?_
        refine WO.nil ?_
        refine En.next ?_
        refine W.ret ?_
        refine En.nx_ret ?_
        have he := Option.some.inj hr
        subst r
        exact En.ret2 rfl (.slice none 0 0) (.int .i64 4) rfl rfl ⟨I15, none, 0, rfl, ((hl4.trans hl10).trans hl16), hS24, SlAt.nil⟩
      · replace hr := cond_f hc hr
        refine W.skip ?_
        refine En.next ?_
        refine W.seq ?_
        refine W.seq ?_
        refine W.region (l := [0, 1, 2, 3, 4, 5, 6]) (by kernel_rfl) ?_
        refine WO.vals [(0, 26, (.slice a_p0 p0.length c_p0)), (1, 27, (.int .i64 r12))] (by kernel_rfl) (fun _ => by kernel_rfl) ?_
        obtain ⟨x25, hx_x25, hr⟩ := bind_some hr
        obtain ⟨h0_x25, h1_x25, hx_x25⟩ := idx_some hx_x25
        obtain ⟨ha_x25, cs_x25, hn_x25, hr_x25, hc_x25⟩ := ((RSl.mono h_p0 ((hl4.trans hl10).trans hl16))).el _ _ hx_x25
        obtain ⟨w_x25, rfl, h_x25⟩ := hr_x25
        refine WO.indexAddr (e := 28) (sz := 2) rfl (by kernel_rfl) (by kernel_rfl) (by kernel_rfl) rfl ha_x25 rfl h0_x25 h1_x25 ?_
        refine WO.vals [(3, 29, (.pointer (some ⟨bl a_p0, of a_p0 + (r12).toNat * 2 + 1, none⟩)))] (by kernel_rfl) (fun _ => by kernel_rfl) ?_
        refine WO.load rfl (by kernel_rfl) (by kernel_rfl) rfl (v := (.slice w_x25.In.a x25.In.length w_x25.In.c)) (fun w' hw' => hc_x25.cellk 1 (by kernel_rfl) ((rd_f hS24.im) w' hw')) ?_
        refine WO.vals [(5, 31, (.string p1))] (by kernel_rfl) (fun _ => by kernel_rfl) ?_
        obtain ⟨r31, hx_r26, hr⟩ := bind_some hr
        refine WO.call rfl (by kernel_rfl) rfl (f := 47) (args := #[(.slice w_x25.In.a x25.In.length w_x25.In.c), (.string p1)]) (by kernel_rfl) (registrarref14_Has_ok h_x25.In hS24 hx_r26) ?_
        rintro _ w27 ⟨I28, rfl, hl29, hS30⟩
        refine ⟨_, rfl, trivial, ?_⟩
        refine WO.nil ?_
        refine En.next ?_
        refine W.cond (b := r31) rfl rfl (fun hc => ?_) (fun hc => ?_)
        · replace hr := cond_t hc hr
          refine W.seq ?_
          refine W.region (l := [0, 1]) (by kernel_rfl) ?_
          refine WO.vals [(0, 6, (.slice none 0 0)), (1, 7, (.int .i64 19))] (by kernel_rfl) (fun _ => by kernel_rfl) ?_
          refine WO.nil ?_
          refine En.next ?_
          refine W.ret ?_
          refine En.nx_ret ?_
          have he := Option.some.inj hr
          subst r
          exact En.ret2 rfl (.slice none 0 0) (.int .i64 19) rfl rfl ⟨I28, none, 0, rfl, (((hl4.trans hl10).trans hl16).trans hl29), hS30, SlAt.nil⟩
        · replace hr := cond_f hc hr
          refine W.skip ?_
          refine En.next ?_
          refine W.seq ?_
          refine W.seq ?_
          refine W.region (l := [0, 1, 2, 3]) (by kernel_rfl) ?_
          refine WO.vals [(0, 33, (.slice a_p0 p0.length c_p0)), (1, 34, (.string p1)), (2, 35, (.string p2))] (by kernel_rfl) (fun _ => by kernel_rfl) ?_
          obtain ⟨r37, hx_r32, hr⟩ := bind_some hr
          refine WO.call rfl (by kernel_rfl) rfl (f := 33) (args := #[(.slice a_p0 p0.length c_p0), (.string p1), (.string p2)]) (by kernel_rfl) (registrarref18_Is_ok (RSl.mono h_p0 (((hl4.trans hl10).trans hl16).trans hl29)) hS30 hx_r32) ?_
          rintro _ w33 ⟨I34, rfl, hl35, hS36⟩
          refine ⟨_, rfl, trivial, ?_⟩
          refine WO.nil ?_
          refine En.next ?_
          refine W.cond (b := r37) rfl rfl (fun hc => ?_) (fun hc => ?_)
          · replace hr := cond_t hc hr
            refine W.seq ?_
            refine W.region (l := [0, 1]) (by kernel_rfl) ?_
            refine WO.vals [(0, 6, (.slice none 0 0)), (1, 7, (.int .i64 35))] (by kernel_rfl) (fun _ => by kernel_rfl) ?_
            refine WO.nil ?_
            refine En.next ?_
            refine W.ret ?_
            refine En.nx_ret ?_
            have he := Option.some.inj hr
            subst r
            exact En.ret2 rfl (.slice none 0 0) (.int .i64 35) rfl rfl ⟨I34, none, 0, rfl, ((((hl4.trans hl10).trans hl16).trans hl29).trans hl35), hS36, SlAt.nil⟩
          · replace hr := cond_f hc hr
            refine W.skip ?_
            refine En.next ?_
            refine W.seq ?_
            refine W.region (l := [0, 1, 2, 3, 4, 5, 6, 7, 8, 9, 10, 11]) (by kernel_rfl) ?_
            refine WO.vals [(0, 37, (.slice a_p0 p0.length c_p0)), (1, 38, (.int .i64 r12)), (2, 39, (.slice a_p0 p0.length c_p0)), (3, 40, (.int .i64 r12))] (by kernel_rfl) (fun _ => by kernel_rfl) ?_
            obtain ⟨x38, hx_x38, hr⟩ := bind_some hr
            obtain ⟨h0_x38, h1_x38, hx_x38⟩ := idx_some hx_x38
            obtain ⟨ha_x38, cs_x38, hn_x38, hr_x38, hc_x38⟩ := ((RSl.mono h_p0 ((((hl4.trans hl10).trans hl16).trans hl29).trans hl35))).el _ _ hx_x38
            obtain ⟨w_x38, rfl, h_x38⟩ := hr_x38
            refine WO.indexAddr (e := 28) (sz := 2) rfl (by kernel_rfl) (by kernel_rfl) (by kernel_rfl) rfl ha_x38 rfl h0_x38 h1_x38 ?_
            refine WO.vals [(5, 42, (.pointer (some ⟨bl a_p0, of a_p0 + (r12).toNat * 2 + 1, none⟩)))] (by kernel_rfl) (fun _ => by kernel_rfl) ?_
            refine WO.load rfl (by kernel_rfl) (by kernel_rfl) rfl (v := (.slice w_x38.In.a x38.In.length w_x38.In.c)) (fun w' hw' => hc_x38.cellk 1 (by kernel_rfl) ((rd_f hS36.im) w' hw')) ?_
            refine WO.vals [(7, 44, (.string p1))] (by kernel_rfl) (fun _ => by kernel_rfl) ?_
            obtain ⟨r44, hx_r39, hr⟩ := bind_some hr
            refine WO.call rfl (by kernel_rfl) rfl (f := 49) (args := #[(.slice w_x38.In.a x38.In.length w_x38.In.c), (.string p1)]) (by kernel_rfl) (registrarref18_into_ok h_x38.In hS36 hx_r39) ?_
            rintro _ w40 ⟨I41, a_r44, c_r44, rfl, hl42, hS43, h_r44⟩
            refine ⟨_, rfl, trivial, ?_⟩
            obtain ⟨r50, hx_r45, hr⟩ := bind_some hr
            refine WO.call rfl (by kernel_rfl) rfl (f := 48) (args := #[(.slice a_p0 p0.length c_p0), (.int .i64 r12), (.slice a_r44 r44.length c_r44)]) (by kernel_rfl) (registrarref18_turned_ok (RSl.mono h_p0 (((((hl4.trans hl10).trans hl16).trans hl29).trans hl35).trans hl42)) h_r44 hS43 hx_r45) ?_
            rintro _ w46 ⟨I47, a_r50, c_r50, rfl, hl48, hS49, h_r50⟩
            refine ⟨_, rfl, trivial, ?_⟩
            refine WO.vals [(10, 6, (.slice a_r50 r50.length c_r50)), (11, 7, (.int .i64 0))] (by kernel_rfl) (fun _ => by kernel_rfl) ?_
            refine WO.nil ?_
            refine En.next ?_
            refine W.ret ?_
            have he := Option.some.inj hr
            subst r
            exact En.ret2 rfl (.slice a_r50 r50.length c_r50) (.int .i64 0) rfl rfl ⟨I47, a_r50, c_r50, rfl, ((((((hl4.trans hl10).trans hl16).trans hl29).trans hl35).trans hl42).trans hl48), hS49, h_r50⟩
noncomputable def registrarref18_Revoke (p0 : List api_Role) (p1 : ByteArray) (p2 : ByteArray) : Option ((List api_Role) × Int) := (registrarref18_Check p0).bind (fun (r6 : Int) => (bif (r6 != 0) then some (([] : List api_Role), r6) else (registrarref18_At p0 p2).bind (fun (r12 : Int) => ((bif (decide (r12 < 0)) then some true else (idx p0 r12).bind (fun (x17 : api_Role) => (registrarref14_Has x17.In p1).bind (fun (r23 : Bool) => some (!r23))))).bind (fun (j13 : Bool) => (bif j13 then some (([] : List api_Role), 4) else (idx p0 r12).bind (fun (x26 : api_Role) => (registrarref18_without x26.In p1).bind (fun (r32 : List ByteArray) => (registrarref18_turned p0 r12 r32).bind (fun (r38 : List api_Role) => some (r38, 0)))))))))
set_option maxHeartbeats 1000000 in
theorem registrarref18_Revoke_ok {E w : World} {I : Mem} {Os : List Mem} {p0 : List api_Role} {p1 : ByteArray} {p2 : ByteArray} {a_p0 : Option Addr} {c_p0 : Nat} (h_p0 : RSl 2 R_api_Role I a_p0 c_p0 p0) (hS : St E w I Os) {r : (List api_Role) × Int} (hr : registrarref18_Revoke p0 p1 p2 = some r) :
    Calls P 21 #[(.slice a_p0 p0.length c_p0), (.string p1), (.string p2)] w (fun e w' => ∃ (I' : Mem) (ra0 : Option Addr) (rc0 : Nat), e = .returned (.tuple #[(.slice ra0 r.1.length rc0), (.int .i64 r.2)]) ∧ I.Le I' ∧ St E w' I' Os ∧ RSl 2 R_api_Role I' ra0 rc0 r.1) := by
  refine calls_W (args := [(.slice a_p0 p0.length c_p0), (.string p1), (.string p2)]) (fn := Tryz.f21) rfl rfl rfl ?_
  unfold registrarref18_Revoke at hr
  refine W.seq ?_
  refine W.region (l := [0, 1]) (by kernel_rfl) ?_
  refine WO.vals [(0, 6, (.slice none 0 0)), (1, 7, (.int .i64 0))] (by kernel_rfl) (fun _ => by kernel_rfl) ?_
  refine WO.nil ?_
  refine En.next ?_
  refine W.seq ?_
  refine W.region (l := [0, 1, 2]) (by kernel_rfl) ?_
  refine WO.vals [(0, 10, (.slice a_p0 p0.length c_p0))] (by kernel_rfl) (fun _ => by kernel_rfl) ?_
  obtain ⟨r6, hx_r1, hr⟩ := bind_some hr
  refine WO.call rfl (by kernel_rfl) rfl (f := 11) (args := #[(.slice a_p0 p0.length c_p0)]) (by kernel_rfl) (registrarref18_Check_ok h_p0 hS hx_r1) ?_
  rintro _ w2 ⟨I3, rfl, hl4, hS5⟩
  refine ⟨_, rfl, trivial, ?_⟩
  refine WO.vals [(2, 8, (.int .i64 r6))] (by kernel_rfl) (fun _ => by kernel_rfl) ?_
  refine WO.nil ?_
  refine En.next ?_
  refine W.seq ?_
  refine W.seq ?_
  refine W.region (l := [0, 1]) (by kernel_rfl) ?_
  refine WO.vals [(0, 12, (.int .i64 r6)), (1, 13, (.bool (r6 != 0)))] (by kernel_rfl) (fun _ => by kernel_rfl) ?_
  refine WO.nil ?_
  refine En.next ?_
  refine W.cond (b := (r6 != 0)) rfl rfl (fun hc => ?_) (fun hc => ?_)
  · replace hr := cond_t hc hr
    refine W.seq ?_
    refine W.region (l := [0, 1, 2]) (by kernel_rfl) ?_
    refine WO.vals [(0, 14, (.int .i64 r6)), (1, 6, (.slice none 0 0)), (2, 7, (.int .i64 r6))] (by kernel_rfl) (fun _ => by kernel_rfl) ?_
    refine WO.nil ?_
    refine En.next ?_
    refine W.ret ?_
    refine En.nx_ret ?_
    have he := Option.some.inj hr
    subst r
    exact En.ret2 rfl (.slice none 0 0) (.int .i64 r6) rfl rfl ⟨I3, none, 0, rfl, hl4, hS5, SlAt.nil⟩
  · replace hr := cond_f hc hr
    refine W.skip ?_
    refine En.next ?_
    refine W.seq ?_
    refine W.region (l := [0, 1, 2, 3]) (by kernel_rfl) ?_
    refine WO.vals [(0, 15, (.slice a_p0 p0.length c_p0)), (1, 16, (.string p2))] (by kernel_rfl) (fun _ => by kernel_rfl) ?_
    obtain ⟨r12, hx_r7, hr⟩ := bind_some hr
    refine WO.call rfl (by kernel_rfl) rfl (f := 32) (args := #[(.slice a_p0 p0.length c_p0), (.string p2)]) (by kernel_rfl) (registrarref18_At_ok (RSl.mono h_p0 hl4) hS5 hx_r7) ?_
    rintro _ w8 ⟨I9, rfl, hl10, hS11⟩
    refine ⟨_, rfl, trivial, ?_⟩
    refine WO.vals [(3, 9, (.int .i64 r12))] (by kernel_rfl) (fun _ => by kernel_rfl) ?_
    refine WO.nil ?_
    refine En.next ?_
    refine W.seq ?_
    refine W.seq ?_
    refine W.region (l := [0, 1, 2, 3, 4, 5, 6, 7, 8, 9, 10, 11]) (by kernel_rfl) ?_
    refine WO.vals [(0, 18, (.int .i64 r12)), (1, 19, (.bool (decide (r12 < 0)))), (2, 20, (.bool (decide (r12 < 0))))] (by kernel_rfl) (fun _ => by kernel_rfl) ?_
    obtain ⟨j13, hr1, hr⟩ := bind_some hr
    refine WO.join (l1 := [3, 4, 5, 6, 7, 8, 9, 10, 11]) (l2 := []) (J := (fun fr w => ∃ (I15 : Mem), fr = [(0, (.slice a_p0 p0.length c_p0)), (1, (.string p1)), (9, (.int .i64 r12)), (29, (.bool j13))] ∧ I9.Le I15 ∧ St E w I15 Os)) ?restj13 ?waysj13
    case waysj13 =>
      refine WO.caseb (decide (r12 < 0)) (fun hc => ?_) (fun hc => ?_)
      · replace hr1 := cond_t hc hr1
        refine WO.reslot 20 rfl (show Value.bool (decide (r12 < 0)) = Value.bool true by rw [hc]) ?_
        refine WO.pass rfl (by kernel_rfl) rfl ?_
        refine WO.pass rfl (by kernel_rfl) rfl ?_
        refine WO.pass rfl (by kernel_rfl) rfl ?_
        refine WO.pass rfl (by kernel_rfl) rfl ?_
        refine WO.pass rfl (by kernel_rfl) rfl ?_
        refine WO.pass rfl (by kernel_rfl) rfl ?_
        refine WO.pass rfl (by kernel_rfl) rfl ?_
        refine WO.pass rfl (by kernel_rfl) rfl ?_
        refine WO.vals [(11, 29, (.bool true))] (by kernel_rfl) (fun _ => by kernel_rfl) ?_
        have he := Option.some.inj hr1
        subst j13
        refine WO.weaken (fr' := [(0, (.slice a_p0 p0.length c_p0)), (1, (.string p1)), (9, (.int .i64 r12)), (29, (.bool true))]) (WO.meet ⟨I9, rfl, Mem.Le.refl _, hS11⟩) (Sub.cons rfl (Sub.cons rfl (Sub.cons rfl (Sub.cons rfl Sub.nil))))
      · replace hr1 := cond_f hc hr1
        refine WO.reslot 20 rfl (show Value.bool (decide (r12 < 0)) = Value.bool false by rw [hc]) ?_
        refine WO.vals [(3, 21, (.slice a_p0 p0.length c_p0)), (4, 22, (.int .i64 r12))] (by kernel_rfl) (fun _ => by kernel_rfl) ?_
        obtain ⟨x17, hx_x17, hr1⟩ := bind_some hr1
        obtain ⟨h0_x17, h1_x17, hx_x17⟩ := idx_some hx_x17
        obtain ⟨ha_x17, cs_x17, hn_x17, hr_x17, hc_x17⟩ := ((RSl.mono h_p0 (hl4.trans hl10))).el _ _ hx_x17
        obtain ⟨w_x17, rfl, h_x17⟩ := hr_x17
        refine WO.indexAddr (e := 28) (sz := 2) rfl (by kernel_rfl) (by kernel_rfl) (by kernel_rfl) rfl ha_x17 rfl h0_x17 h1_x17 ?_
        refine WO.vals [(6, 24, (.pointer (some ⟨bl a_p0, of a_p0 + (r12).toNat * 2 + 1, none⟩)))] (by kernel_rfl) (fun _ => by kernel_rfl) ?_
        refine WO.load rfl (by kernel_rfl) (by kernel_rfl) rfl (v := (.slice w_x17.In.a x17.In.length w_x17.In.c)) (fun w' hw' => hc_x17.cellk 1 (by kernel_rfl) ((rd_f hS11.im) w' hw')) ?_
        refine WO.vals [(8, 26, (.string p1))] (by kernel_rfl) (fun _ => by kernel_rfl) ?_
        obtain ⟨r23, hx_r18, hr1⟩ := bind_some hr1
        refine WO.call rfl (by kernel_rfl) rfl (f := 47) (args := #[(.slice w_x17.In.a x17.In.length w_x17.In.c), (.string p1)]) (by kernel_rfl) (registrarref14_Has_ok h_x17.In hS11 hx_r18) ?_
        rintro _ w19 ⟨I20, rfl, hl21, hS22⟩
        refine ⟨_, rfl, trivial, ?_⟩
        refine WO.vals [(10, 28, (.bool (!r23))), (11, 29, (.bool (!r23)))] (by kernel_rfl) (fun _ => by kernel_rfl) ?_
        have he := Option.some.inj hr1
        subst j13
        refine WO.weaken (fr' := [(0, (.slice a_p0 p0.length c_p0)), (1, (.string p1)), (9, (.int .i64 r12)), (29, (.bool (!r23)))]) (WO.meet ⟨I20, rfl, hl21, hS22⟩) (Sub.cons rfl (Sub.cons rfl (Sub.cons rfl (Sub.cons rfl Sub.nil))))
    case restj13 =>
      rintro _ w24 ⟨I15, rfl, hl16, hS25⟩
      refine WO.nil ?_
      refine En.next ?_
      refine W.cond (b := j13) rfl rfl (fun hc => ?_) (fun hc => ?_)
      · replace hr := cond_t hc hr
        refine W.seq ?_
        refine W.region (l := [0, 1]) (by kernel_rfl) ?_
        refine WO.vals [(0, 6, (.slice none 0 0)), (1, 7, (.int .i64 4))] (by kernel_rfl) (fun _ => by kernel_rfl) ?_
        refine WO.nil ?_
        refine En.next ?_
        refine W.ret ?_
        refine En.nx_ret ?_
        have he := Option.some.inj hr
        subst r
        exact En.ret2 rfl (.slice none 0 0) (.int .i64 4) rfl rfl ⟨I15, none, 0, rfl, ((hl4.trans hl10).trans hl16), hS25, SlAt.nil⟩
      · replace hr := cond_f hc hr
        refine W.skip ?_
        refine En.next ?_
        refine W.seq ?_
        refine W.region (l := [0, 1, 2, 3, 4, 5, 6, 7, 8, 9, 10, 11]) (by kernel_rfl) ?_
        refine WO.vals [(0, 30, (.slice a_p0 p0.length c_p0)), (1, 31, (.int .i64 r12)), (2, 32, (.slice a_p0 p0.length c_p0)), (3, 33, (.int .i64 r12))] (by kernel_rfl) (fun _ => by kernel_rfl) ?_
        obtain ⟨x26, hx_x26, hr⟩ := bind_some hr
        obtain ⟨h0_x26, h1_x26, hx_x26⟩ := idx_some hx_x26
        obtain ⟨ha_x26, cs_x26, hn_x26, hr_x26, hc_x26⟩ := ((RSl.mono h_p0 ((hl4.trans hl10).trans hl16))).el _ _ hx_x26
        obtain ⟨w_x26, rfl, h_x26⟩ := hr_x26
        refine WO.indexAddr (e := 28) (sz := 2) rfl (by kernel_rfl) (by kernel_rfl) (by kernel_rfl) rfl ha_x26 rfl h0_x26 h1_x26 ?_
        refine WO.vals [(5, 35, (.pointer (some ⟨bl a_p0, of a_p0 + (r12).toNat * 2 + 1, none⟩)))] (by kernel_rfl) (fun _ => by kernel_rfl) ?_
        refine WO.load rfl (by kernel_rfl) (by kernel_rfl) rfl (v := (.slice w_x26.In.a x26.In.length w_x26.In.c)) (fun w' hw' => hc_x26.cellk 1 (by kernel_rfl) ((rd_f hS25.im) w' hw')) ?_
        refine WO.vals [(7, 37, (.string p1))] (by kernel_rfl) (fun _ => by kernel_rfl) ?_
        obtain ⟨r32, hx_r27, hr⟩ := bind_some hr
        refine WO.call rfl (by kernel_rfl) rfl (f := 46) (args := #[(.slice w_x26.In.a x26.In.length w_x26.In.c), (.string p1)]) (by kernel_rfl) (registrarref18_without_ok h_x26.In hS25 hx_r27) ?_
        rintro _ w28 ⟨I29, a_r32, c_r32, rfl, hl30, hS31, h_r32⟩
        refine ⟨_, rfl, trivial, ?_⟩
        obtain ⟨r38, hx_r33, hr⟩ := bind_some hr
        refine WO.call rfl (by kernel_rfl) rfl (f := 48) (args := #[(.slice a_p0 p0.length c_p0), (.int .i64 r12), (.slice a_r32 r32.length c_r32)]) (by kernel_rfl) (registrarref18_turned_ok (RSl.mono h_p0 (((hl4.trans hl10).trans hl16).trans hl30)) h_r32 hS31 hx_r33) ?_
        rintro _ w34 ⟨I35, a_r38, c_r38, rfl, hl36, hS37, h_r38⟩
        refine ⟨_, rfl, trivial, ?_⟩
        refine WO.vals [(10, 6, (.slice a_r38 r38.length c_r38)), (11, 7, (.int .i64 0))] (by kernel_rfl) (fun _ => by kernel_rfl) ?_
        refine WO.nil ?_
        refine En.next ?_
        refine W.ret ?_
        have he := Option.some.inj hr
        subst r
        exact En.ret2 rfl (.slice a_r38 r38.length c_r38) (.int .i64 0) rfl rfl ⟨I35, a_r38, c_r38, rfl, ((((hl4.trans hl10).trans hl16).trans hl30).trans hl36), hS37, h_r38⟩
noncomputable def registrarlaw18_said (p0 : List api_Role) (p1 : registrarlaw18_Act) : Option ((List api_Role) × Int) := (bif (p1.Do == 0) then (registrarref18_Create p0 p1.Name).bind (fun ((r10, r11) : (List api_Role) × Int) => some (r10, r11)) else (bif (p1.Do == 1) then (registrarref18_Drop p0 p1.Name).bind (fun ((r18, r19) : (List api_Role) × Int) => some (r18, r19)) else (bif (p1.Do == 2) then (registrarref18_Grant p0 p1.Name p1.Role).bind (fun ((r26, r27) : (List api_Role) × Int) => some (r26, r27)) else (registrarref18_Revoke p0 p1.Name p1.Role).bind (fun ((r34, r35) : (List api_Role) × Int) => some (r34, r35)))))
set_option maxHeartbeats 1000000 in
theorem registrarlaw18_said_ok {E w : World} {I : Mem} {Os : List Mem} {p0 : List api_Role} {p1 : registrarlaw18_Act} {a_p0 : Option Addr} {c_p0 : Nat} (h_p0 : RSl 2 R_api_Role I a_p0 c_p0 p0) (hS : St E w I Os) {r : (List api_Role) × Int} (hr : registrarlaw18_said p0 p1 = some r) :
    Calls P 8 #[(.slice a_p0 p0.length c_p0), (.agg (cs_registrarlaw18_Act p1).toArray)] w (fun e w' => ∃ (I' : Mem) (ra0 : Option Addr) (rc0 : Nat), e = .returned (.tuple #[(.slice ra0 r.1.length rc0), (.int .i64 r.2)]) ∧ I.Le I' ∧ St E w' I' Os ∧ RSl 2 R_api_Role I' ra0 rc0 r.1) := by
  refine calls_W (args := [(.slice a_p0 p0.length c_p0), (.agg (cs_registrarlaw18_Act p1).toArray)]) (fn := Tryz.f8) rfl rfl rfl ?_
  unfold registrarlaw18_said at hr
  refine W.seq ?_
  refine W.region (l := [0, 1, 2]) (by kernel_rfl) ?_
  refine WO.new hS rfl (by kernel_rfl) rfl (.cells (cs_registrarlaw18_Act p1).toArray 31 (0, 0)) (fun b => .pointer (some ⟨b, 0, none⟩)) (by kernel_rfl) (fun _ _ _ => trivial) ?_
  intro b1 w4 hS3
  refine WO.vals [(1, 4, (.slice none 0 0)), (2, 5, (.int .i64 0))] (by kernel_rfl) (fun _ => by kernel_rfl) ?_
  refine WO.nil ?_
  refine En.next ?_
  refine W.seq ?_
  refine W.seq ?_
  refine W.region (l := [0, 1]) (by kernel_rfl) ?_
  refine WO.vals [(0, 6, (.pointer (some ⟨b1, 0, none⟩)))] (by kernel_rfl) (fun _ => by kernel_rfl) ?_
  refine WO.load rfl (by kernel_rfl) (by kernel_rfl) rfl (v := (.int .i64 p1.Do)) (fun w' hw' => cell_one ((rd_f (hS3.rd (List.Mem.head _))) w' hw') (by kernel_rfl)) ?_
  refine WO.nil ?_
  refine En.next ?_
  refine W.block ?_
  refine W.seq ?_
  refine W.region (l := [0, 1]) (by kernel_rfl) ?_
  refine WO.vals [(0, 9, (.bool (p1.Do == 0))), (1, 8, (.bool (p1.Do == 0)))] (by kernel_rfl) (fun _ => by kernel_rfl) ?_
  refine WO.nil ?_
  refine En.next ?_
  refine W.cond (b := (p1.Do == 0)) rfl rfl (fun hc => ?_) (fun hc => ?_)
  · replace hr := cond_t hc hr
    refine W.seq ?_
    refine W.region (l := [0, 1, 2, 3, 4, 5, 6, 7]) (by kernel_rfl) ?_
    refine WO.vals [(0, 10, (.slice a_p0 p0.length c_p0)), (1, 11, (.pointer (some ⟨b1, 1, none⟩)))] (by kernel_rfl) (fun _ => by kernel_rfl) ?_
    refine WO.load rfl (by kernel_rfl) (by kernel_rfl) rfl (v := (.string p1.Name)) (fun w' hw' => cell_one ((rd_f (hS3.rd (List.Mem.head _))) w' hw') (by kernel_rfl)) ?_
    obtain ⟨⟨r10, r11⟩, hx_r5, hr⟩ := bind_some hr
    refine WO.call rfl (by kernel_rfl) rfl (f := 18) (args := #[(.slice a_p0 p0.length c_p0), (.string p1.Name)]) (by kernel_rfl) (registrarref18_Create_ok h_p0 hS3 hx_r5) ?_
    rintro _ w6 ⟨I7, a_r10, c_r10, rfl, hl8, hS9, h_r10⟩
    refine ⟨_, rfl, trivial, ?_⟩
    refine WO.vals [(4, 14, (.slice a_r10 r10.length c_r10)), (5, 15, (.int .i64 r11)), (6, 4, (.slice a_r10 r10.length c_r10)), (7, 5, (.int .i64 r11))] (by kernel_rfl) (fun _ => by kernel_rfl) ?_
    refine WO.nil ?_
    refine En.next ?_
    refine W.ret ?_
    refine En.in_ret ?_
    refine En.nx_ret ?_
    have hS12 := hS9.drop
    have he := Option.some.inj hr
    subst r
    exact En.ret2 rfl (.slice a_r10 r10.length c_r10) (.int .i64 r11) rfl rfl ⟨I7, a_r10, c_r10, rfl, hl8, hS12, h_r10⟩
  · replace hr := cond_f hc hr
    refine W.seq ?_
    refine W.region (l := [0, 1]) (by kernel_rfl) ?_
    refine WO.vals [(0, 17, (.bool (p1.Do == 1))), (1, 16, (.bool (p1.Do == 1)))] (by kernel_rfl) (fun _ => by kernel_rfl) ?_
    refine WO.nil ?_
    refine En.next ?_
    refine W.cond (b := (p1.Do == 1)) rfl rfl (fun hc => ?_) (fun hc => ?_)
    · replace hr := cond_t hc hr
      refine W.seq ?_
      refine W.region (l := [0, 1, 2, 3, 4, 5, 6, 7]) (by kernel_rfl) ?_
      refine WO.vals [(0, 18, (.slice a_p0 p0.length c_p0)), (1, 19, (.pointer (some ⟨b1, 1, none⟩)))] (by kernel_rfl) (fun _ => by kernel_rfl) ?_
      refine WO.load rfl (by kernel_rfl) (by kernel_rfl) rfl (v := (.string p1.Name)) (fun w' hw' => cell_one ((rd_f (hS3.rd (List.Mem.head _))) w' hw') (by kernel_rfl)) ?_
      obtain ⟨⟨r18, r19⟩, hx_r13, hr⟩ := bind_some hr
      refine WO.call rfl (by kernel_rfl) rfl (f := 19) (args := #[(.slice a_p0 p0.length c_p0), (.string p1.Name)]) (by kernel_rfl) (registrarref18_Drop_ok h_p0 hS3 hx_r13) ?_
      rintro _ w14 ⟨I15, a_r18, c_r18, rfl, hl16, hS17, h_r18⟩
      refine ⟨_, rfl, trivial, ?_⟩
      refine WO.vals [(4, 22, (.slice a_r18 r18.length c_r18)), (5, 23, (.int .i64 r19)), (6, 4, (.slice a_r18 r18.length c_r18)), (7, 5, (.int .i64 r19))] (by kernel_rfl) (fun _ => by kernel_rfl) ?_
      refine WO.nil ?_
      refine En.next ?_
      refine W.ret ?_
      refine En.in_ret ?_
      refine En.nx_ret ?_
      have hS20 := hS17.drop
      have he := Option.some.inj hr
      subst r
      exact En.ret2 rfl (.slice a_r18 r18.length c_r18) (.int .i64 r19) rfl rfl ⟨I15, a_r18, c_r18, rfl, hl16, hS20, h_r18⟩
    · replace hr := cond_f hc hr
      refine W.seq ?_
      refine W.region (l := [0, 1]) (by kernel_rfl) ?_
      refine WO.vals [(0, 25, (.bool (p1.Do == 2))), (1, 24, (.bool (p1.Do == 2)))] (by kernel_rfl) (fun _ => by kernel_rfl) ?_
      refine WO.nil ?_
      refine En.next ?_
      refine W.cond (b := (p1.Do == 2)) rfl rfl (fun hc => ?_) (fun hc => ?_)
      · replace hr := cond_t hc hr
        refine W.seq ?_
        refine W.region (l := [0, 1, 2, 3, 4, 5, 6, 7, 8, 9]) (by kernel_rfl) ?_
        refine WO.vals [(0, 26, (.slice a_p0 p0.length c_p0)), (1, 27, (.pointer (some ⟨b1, 1, none⟩)))] (by kernel_rfl) (fun _ => by kernel_rfl) ?_
        refine WO.load rfl (by kernel_rfl) (by kernel_rfl) rfl (v := (.string p1.Name)) (fun w' hw' => cell_one ((rd_f (hS3.rd (List.Mem.head _))) w' hw') (by kernel_rfl)) ?_
        refine WO.vals [(3, 29, (.pointer (some ⟨b1, 2, none⟩)))] (by kernel_rfl) (fun _ => by kernel_rfl) ?_
        refine WO.load rfl (by kernel_rfl) (by kernel_rfl) rfl (v := (.string p1.Role)) (fun w' hw' => cell_one ((rd_f (hS3.rd (List.Mem.head _))) w' hw') (by kernel_rfl)) ?_
        obtain ⟨⟨r26, r27⟩, hx_r21, hr⟩ := bind_some hr
        refine WO.call rfl (by kernel_rfl) rfl (f := 20) (args := #[(.slice a_p0 p0.length c_p0), (.string p1.Name), (.string p1.Role)]) (by kernel_rfl) (registrarref18_Grant_ok h_p0 hS3 hx_r21) ?_
        rintro _ w22 ⟨I23, a_r26, c_r26, rfl, hl24, hS25, h_r26⟩
        refine ⟨_, rfl, trivial, ?_⟩
        refine WO.vals [(6, 32, (.slice a_r26 r26.length c_r26)), (7, 33, (.int .i64 r27)), (8, 4, (.slice a_r26 r26.length c_r26)), (9, 5, (.int .i64 r27))] (by kernel_rfl) (fun _ => by kernel_rfl) ?_
        refine WO.nil ?_
        refine En.next ?_
        refine W.ret ?_
        refine En.in_ret ?_
        refine En.nx_ret ?_
        have hS28 := hS25.drop
        have he := Option.some.inj hr
        subst r
        exact En.ret2 rfl (.slice a_r26 r26.length c_r26) (.int .i64 r27) rfl rfl ⟨I23, a_r26, c_r26, rfl, hl24, hS28, h_r26⟩
      · replace hr := cond_f hc hr
        refine W.skip ?_
        refine En.in_normal ?_
        refine En.next ?_
        refine W.seq ?_
        refine W.region (l := [0, 1, 2, 3, 4, 5, 6, 7, 8, 9]) (by kernel_rfl) ?_
        refine WO.vals [(0, 34, (.slice a_p0 p0.length c_p0)), (1, 35, (.pointer (some ⟨b1, 1, none⟩)))] (by kernel_rfl) (fun _ => by kernel_rfl) ?_
        refine WO.load rfl (by kernel_rfl) (by kernel_rfl) rfl (v := (.string p1.Name)) (fun w' hw' => cell_one ((rd_f (hS3.rd (List.Mem.head _))) w' hw') (by kernel_rfl)) ?_
        refine WO.vals [(3, 37, (.pointer (some ⟨b1, 2, none⟩)))] (by kernel_rfl) (fun _ => by kernel_rfl) ?_
        refine WO.load rfl (by kernel_rfl) (by kernel_rfl) rfl (v := (.string p1.Role)) (fun w' hw' => cell_one ((rd_f (hS3.rd (List.Mem.head _))) w' hw') (by kernel_rfl)) ?_
        obtain ⟨⟨r34, r35⟩, hx_r29, hr⟩ := bind_some hr
        refine WO.call rfl (by kernel_rfl) rfl (f := 21) (args := #[(.slice a_p0 p0.length c_p0), (.string p1.Name), (.string p1.Role)]) (by kernel_rfl) (registrarref18_Revoke_ok h_p0 hS3 hx_r29) ?_
        rintro _ w30 ⟨I31, a_r34, c_r34, rfl, hl32, hS33, h_r34⟩
        refine ⟨_, rfl, trivial, ?_⟩
        refine WO.vals [(6, 40, (.slice a_r34 r34.length c_r34)), (7, 41, (.int .i64 r35)), (8, 4, (.slice a_r34 r34.length c_r34)), (9, 5, (.int .i64 r35))] (by kernel_rfl) (fun _ => by kernel_rfl) ?_
        refine WO.nil ?_
        refine En.next ?_
        refine W.ret ?_
        have hS36 := hS33.drop
        have he := Option.some.inj hr
        subst r
        exact En.ret2 rfl (.slice a_r34 r34.length c_r34) (.int .i64 r35) rfl rfl ⟨I31, a_r34, c_r34, rfl, hl32, hS36, h_r34⟩
noncomputable def registrarref18_Same (p0 : List api_Role) (p1 : List api_Role) : Option Bool := (bif ((p0.length : Int) != (p1.length : Int)) then some false else (forN (fun (i4 : Nat) => fun (_s : Unit) => (idx p0 (i4 : Int)).bind (fun (x13 : api_Role) => (idx p1 (i4 : Int)).bind (fun (x14 : api_Role) => ((bif (!sEq x13.Name x14.Name) then some true else (idx p0 (i4 : Int)).bind (fun (x19 : api_Role) => (idx p1 (i4 : Int)).bind (fun (x20 : api_Role) => some ((x19.In.length : Int) != (x20.In.length : Int)))))).bind (fun (j15 : Bool) => (bif j15 then some (.inr false) else (loopO (fun (s28 : Int) => (idx p0 (i4 : Int)).bind (fun (x33 : api_Role) => (bif (decide (s28 < (x33.In.length : Int))) then (idx p0 (i4 : Int)).bind (fun (x36 : api_Role) => (idx x36.In s28).bind (fun (x37 : ByteArray) => (idx p1 (i4 : Int)).bind (fun (x38 : api_Role) => (idx x38.In s28).bind (fun (x39 : ByteArray) => (bif (!sEq x37 x39) then some (.inr (.inl false)) else some (.inl (w64 (s28 + 1)))))))) else some (.inr (.inr ()))))) 0).bind (fun (t : Bool ⊕ Unit) => match t with | (.inl s41) => some (.inr s41) | (.inr ()) => some (.inl ()))))))) p0.length 0 ()).bind (fun (t : Unit ⊕ (Bool)) => match t with | .inl _ => some true | .inr s24 => some s24))
set_option maxHeartbeats 1000000 in
theorem registrarref18_Same_ok {E w : World} {I : Mem} {Os : List Mem} {p0 : List api_Role} {p1 : List api_Role} {a_p0 : Option Addr} {c_p0 : Nat} {a_p1 : Option Addr} {c_p1 : Nat} (h_p0 : RSl 2 R_api_Role I a_p0 c_p0 p0) (h_p1 : RSl 2 R_api_Role I a_p1 c_p1 p1) (hS : St E w I Os) {r : Bool} (hr : registrarref18_Same p0 p1 = some r) :
    Calls P 9 #[(.slice a_p0 p0.length c_p0), (.slice a_p1 p1.length c_p1)] w (fun e w' => ∃ (I' : Mem), e = .returned (.bool r) ∧ I.Le I' ∧ St E w' I' Os) := by
  refine calls_W (args := [(.slice a_p0 p0.length c_p0), (.slice a_p1 p1.length c_p1)]) (fn := Tryz.f9) rfl rfl rfl ?_
  unfold registrarref18_Same at hr
  refine W.seq ?_
  refine W.region (l := [0]) (by kernel_rfl) ?_
  refine WO.vals [(0, 4, (.bool false))] (by kernel_rfl) (fun _ => by kernel_rfl) ?_
  refine WO.nil ?_
  refine En.next ?_
  refine W.seq ?_
  refine W.seq ?_
  refine W.region (l := [0, 1, 2, 3, 4]) (by kernel_rfl) ?_
  refine WO.vals [(0, 7, (.slice a_p0 p0.length c_p0)), (1, 8, (.int .i64 (p0.length : Int))), (2, 9, (.slice a_p1 p1.length c_p1)), (3, 10, (.int .i64 (p1.length : Int))), (4, 11, (.bool ((p0.length : Int) != (p1.length : Int))))] (by kernel_rfl) (fun _ => by kernel_rfl) ?_
  refine WO.nil ?_
  refine En.next ?_
  refine W.cond (b := ((p0.length : Int) != (p1.length : Int))) rfl rfl (fun hc => ?_) (fun hc => ?_)
  · replace hr := cond_t hc hr
    refine W.seq ?_
    refine W.region (l := [0]) (by kernel_rfl) ?_
    refine WO.vals [(0, 4, (.bool false))] (by kernel_rfl) (fun _ => by kernel_rfl) ?_
    refine WO.nil ?_
    refine En.next ?_
    refine W.ret ?_
    refine En.nx_ret ?_
    have he := Option.some.inj hr
    subst r
    exact En.ret1 rfl (.bool false) rfl ⟨I, rfl, Mem.Le.refl _, hS⟩
  · replace hr := cond_f hc hr
    refine W.skip ?_
    refine En.next ?_
    refine W.seq ?_
    refine W.seq ?_
    refine W.region (l := [0]) (by kernel_rfl) ?_
    refine WO.vals [(0, 5, (.int .i64 0))] (by kernel_rfl) (fun _ => by kernel_rfl) ?_
    refine WO.nil ?_
    refine En.next ?_
    refine W.block ?_
    obtain ⟨t1, hloop5, hr⟩ := bind_some hr
    have hlt9 := (h_p0).len_lt
    refine W.weaken (fr' := [(0, (.slice a_p0 p0.length c_p0)), (1, (.slice a_p1 p1.length c_p1)), (5, (.int .i64 ((0 : Nat) : Int)))]) (W.forN (m := p0.length) hloop5 (fun (i4 : Nat) => fun (_s : Unit) fr w => ∃ (I2 : Mem), fr = [(0, (.slice a_p0 p0.length c_p0)), (1, (.slice a_p1 p1.length c_p1)), (5, (.int .i64 (i4 : Int)))] ∧ I.Le I2 ∧ St E w I2 Os) ⟨I, rfl, Mem.Le.refl _, hS⟩ ?roundt1 ?lastt1) (Sub.cons rfl (Sub.cons rfl (Sub.cons rfl Sub.nil)))
    case roundt1 =>
      rintro i4 _ _ w6 hi10 ⟨I2, rfl, hl3, hS7⟩ x8 hr1 hext1
      refine W.seq ?_
      refine W.seq ?_
      refine W.region (l := [0, 1, 2, 3]) (by kernel_rfl) ?_
      refine WO.vals [(0, 12, (.int .i64 (i4 : Int))), (1, 13, (.slice a_p0 p0.length c_p0)), (2, 14, (.int .i64 (p0.length : Int))), (3, 15, (.bool (decide ((i4 : Int) < (p0.length : Int)))))] (by kernel_rfl) (fun _ => by kernel_rfl) ?_
      refine WO.nil ?_
      refine En.next ?_
      refine W.cond (b := (decide ((i4 : Int) < (p0.length : Int)))) rfl rfl (fun hc => ?_) (fun hc => ?_)
      rotate_left
      · exact absurd hc (by first | (simp; done) | (simp; omega))
      clear hc
      refine W.skip ?_
      refine En.next ?_
      refine W.seq ?_
      refine W.block ?_
      refine W.seq ?_
      refine W.seq ?_
      have hS11 := hS7.drew
      refine W.draw (l := [0, 1, 2, 3, 4, 5, 6, 7, 8, 9, 10, 11, 12, 13, 14, 15, 16, 17, 18, 19, 20, 21, 22, 23, 24, 25]) (by kernel_rfl) 26 (KR I2 []) qR (.back (by kernel_rfl)) (by kernel_rfl) (KR.nil hS11.im) ?_
      generalize World.drew _ = w12 at *
      refine WO.vals [(0, 18, (.slice a_p0 p0.length c_p0)), (1, 19, (.int .i64 (i4 : Int)))] (by kernel_rfl) (fun _ => by kernel_rfl) ?_
      obtain ⟨x13, hx_x13, hr1⟩ := bind_some hr1
      obtain ⟨h0_x13, h1_x13, hx_x13⟩ := idx_some hx_x13
      obtain ⟨ha_x13, cs_x13, hn_x13, hr_x13, hc_x13⟩ := ((RSl.mono h_p0 hl3)).el _ _ hx_x13
      obtain ⟨w_x13, rfl, h_x13⟩ := hr_x13
      refine WO.indexAddr (e := 28) (sz := 2) rfl (by kernel_rfl) (by kernel_rfl) (by kernel_rfl) rfl ha_x13 rfl h0_x13 h1_x13 ?_
      refine WO.vals [(3, 21, (.pointer (some ⟨bl a_p0, of a_p0 + ((i4 : Int)).toNat * 2, none⟩)))] (by kernel_rfl) (fun _ => by kernel_rfl) ?_
      refine WO.load rfl (by kernel_rfl) (by kernel_rfl) rfl (v := (.string x13.Name)) (fun w' hw' => hc_x13.cell0 (by kernel_rfl) ((rd_i hS11.im) w' hw')) ?_
      refine WO.vals [(5, 23, (.slice a_p1 p1.length c_p1)), (6, 24, (.int .i64 (i4 : Int)))] (by kernel_rfl) (fun _ => by kernel_rfl) ?_
      obtain ⟨x14, hx_x14, hr1⟩ := bind_some hr1
      obtain ⟨h0_x14, h1_x14, hx_x14⟩ := idx_some hx_x14
      obtain ⟨ha_x14, cs_x14, hn_x14, hr_x14, hc_x14⟩ := ((RSl.mono h_p1 hl3)).el _ _ hx_x14
      obtain ⟨w_x14, rfl, h_x14⟩ := hr_x14
      refine WO.indexAddr (e := 28) (sz := 2) rfl (by kernel_rfl) (by kernel_rfl) (by kernel_rfl) rfl ha_x14 rfl h0_x14 h1_x14 ?_
      refine WO.vals [(8, 26, (.pointer (some ⟨bl a_p1, of a_p1 + ((i4 : Int)).toNat * 2, none⟩)))] (by kernel_rfl) (fun _ => by kernel_rfl) ?_
      refine WO.load rfl (by kernel_rfl) (by kernel_rfl) rfl (v := (.string x14.Name)) (fun w' hw' => hc_x14.cell0 (by kernel_rfl) ((rd_i hS11.im) w' hw')) ?_
      refine WO.vals [(10, 28, (.bool (!sEq x13.Name x14.Name))), (11, 29, (.bool (!sEq x13.Name x14.Name)))] (by kernel_rfl) (fun _ => by kernel_rfl) ?_
      obtain ⟨j15, hr2, hr1⟩ := bind_some hr1
      refine WO.join (l1 := [12, 13, 14, 15, 16, 17, 18, 19, 20, 21, 22, 23, 24, 25]) (l2 := []) (J := (fun fr w => ∃ (I17 : Mem), fr = [(0, (.slice a_p0 p0.length c_p0)), (1, (.slice a_p1 p1.length c_p1)), (5, (.int .i64 (i4 : Int))), (43, (.bool j15))] ∧ I2.Le I17 ∧ St E w I17 Os)) ?restj15 ?waysj15
      case waysj15 =>
        refine WO.caseb (!sEq x13.Name x14.Name) (fun hc => ?_) (fun hc => ?_)
        · replace hr2 := cond_t hc hr2
          refine WO.reslot 29 rfl (show Value.bool (!sEq x13.Name x14.Name) = Value.bool true by rw [hc]) ?_
          refine WO.pass rfl (by kernel_rfl) rfl ?_
          refine WO.pass rfl (by kernel_rfl) rfl ?_
          refine WO.pass rfl (by kernel_rfl) rfl ?_
          refine WO.pass rfl (by kernel_rfl) rfl ?_
          refine WO.pass rfl (by kernel_rfl) rfl ?_
          refine WO.pass rfl (by kernel_rfl) rfl ?_
          refine WO.pass rfl (by kernel_rfl) rfl ?_
          refine WO.pass rfl (by kernel_rfl) rfl ?_
          refine WO.pass rfl (by kernel_rfl) rfl ?_
          refine WO.pass rfl (by kernel_rfl) rfl ?_
          refine WO.pass rfl (by kernel_rfl) rfl ?_
          refine WO.pass rfl (by kernel_rfl) rfl ?_
          refine WO.pass rfl (by kernel_rfl) rfl ?_
          refine WO.vals [(25, 43, (.bool true))] (by kernel_rfl) (fun _ => by kernel_rfl) ?_
          have he := Option.some.inj hr2
          subst j15
          refine WO.weaken (fr' := [(0, (.slice a_p0 p0.length c_p0)), (1, (.slice a_p1 p1.length c_p1)), (5, (.int .i64 (i4 : Int))), (43, (.bool true))]) (WO.meet ⟨I2, rfl, Mem.Le.refl _, hS11⟩) (Sub.cons rfl (Sub.cons rfl (Sub.cons rfl (Sub.cons rfl Sub.nil))))
        · replace hr2 := cond_f hc hr2
          refine WO.reslot 29 rfl (show Value.bool (!sEq x13.Name x14.Name) = Value.bool false by rw [hc]) ?_
          refine WO.vals [(12, 30, (.slice a_p0 p0.length c_p0)), (13, 31, (.int .i64 (i4 : Int)))] (by kernel_rfl) (fun _ => by kernel_rfl) ?_
          obtain ⟨x19, hx_x19, hr2⟩ := bind_some hr2
          obtain ⟨h0_x19, h1_x19, hx_x19⟩ := idx_some hx_x19
          obtain ⟨ha_x19, cs_x19, hn_x19, hr_x19, hc_x19⟩ := ((RSl.mono h_p0 hl3)).el _ _ hx_x19
          obtain ⟨w_x19, rfl, h_x19⟩ := hr_x19
          refine WO.indexAddr (e := 28) (sz := 2) rfl (by kernel_rfl) (by kernel_rfl) (by kernel_rfl) rfl ha_x19 rfl h0_x19 h1_x19 ?_
          refine WO.vals [(15, 33, (.pointer (some ⟨bl a_p0, of a_p0 + ((i4 : Int)).toNat * 2 + 1, none⟩)))] (by kernel_rfl) (fun _ => by kernel_rfl) ?_
          refine WO.load rfl (by kernel_rfl) (by kernel_rfl) rfl (v := (.slice w_x19.In.a x19.In.length w_x19.In.c)) (fun w' hw' => hc_x19.cellk 1 (by kernel_rfl) ((rd_i hS11.im) w' hw')) ?_
          refine WO.vals [(17, 35, (.int .i64 (x19.In.length : Int))), (18, 36, (.slice a_p1 p1.length c_p1)), (19, 37, (.int .i64 (i4 : Int)))] (by kernel_rfl) (fun _ => by kernel_rfl) ?_
          obtain ⟨x20, hx_x20, hr2⟩ := bind_some hr2
          obtain ⟨h0_x20, h1_x20, hx_x20⟩ := idx_some hx_x20
          obtain ⟨ha_x20, cs_x20, hn_x20, hr_x20, hc_x20⟩ := ((RSl.mono h_p1 hl3)).el _ _ hx_x20
          obtain ⟨w_x20, rfl, h_x20⟩ := hr_x20
          refine WO.indexAddr (e := 28) (sz := 2) rfl (by kernel_rfl) (by kernel_rfl) (by kernel_rfl) rfl ha_x20 rfl h0_x20 h1_x20 ?_
          refine WO.vals [(21, 39, (.pointer (some ⟨bl a_p1, of a_p1 + ((i4 : Int)).toNat * 2 + 1, none⟩)))] (by kernel_rfl) (fun _ => by kernel_rfl) ?_
          refine WO.load rfl (by kernel_rfl) (by kernel_rfl) rfl (v := (.slice w_x20.In.a x20.In.length w_x20.In.c)) (fun w' hw' => hc_x20.cellk 1 (by kernel_rfl) ((rd_i hS11.im) w' hw')) ?_
          refine WO.vals [(23, 41, (.int .i64 (x20.In.length : Int))), (24, 42, (.bool ((x19.In.length : Int) != (x20.In.length : Int)))), (25, 43, (.bool ((x19.In.length : Int) != (x20.In.length : Int))))] (by kernel_rfl) (fun _ => by kernel_rfl) ?_
          have he := Option.some.inj hr2
          subst j15
          refine WO.weaken (fr' := [(0, (.slice a_p0 p0.length c_p0)), (1, (.slice a_p1 p1.length c_p1)), (5, (.int .i64 (i4 : Int))), (43, (.bool ((x19.In.length : Int) != (x20.In.length : Int))))]) (WO.meet ⟨I2, rfl, Mem.Le.refl _, hS11⟩) (Sub.cons rfl (Sub.cons rfl (Sub.cons rfl (Sub.cons rfl Sub.nil))))
      case restj15 =>
        rintro _ w21 ⟨I17, rfl, hl18, hS22⟩
        refine WO.nil ?_
        refine En.next ?_
        refine W.cond (b := j15) rfl rfl (fun hc => ?_) (fun hc => ?_)
        · replace hr1 := cond_t hc hr1
          refine W.seq ?_
          refine W.region (l := [0]) (by kernel_rfl) ?_
          refine WO.vals [(0, 4, (.bool false))] (by kernel_rfl) (fun _ => by kernel_rfl) ?_
          refine WO.nil ?_
          refine En.next ?_
          refine W.ret ?_
          refine En.nx_ret ?_
          refine En.in_ret ?_
          refine En.nx_ret ?_
          refine En.rd_ret ?_
          have ht := hext1 _ (Option.some.inj hr1).symm
          subst t1
          refine En.in_ret ?_
          refine En.nx_ret ?_
          have he := Option.some.inj hr
          subst r
          exact En.ret1 rfl (.bool false) rfl ⟨I17, rfl, (hl3.trans hl18), hS22⟩
        · replace hr1 := cond_f hc hr1
          refine W.skip ?_
          refine En.next ?_
          refine W.seq ?_
          refine W.region (l := [0]) (by kernel_rfl) ?_
          refine WO.vals [(0, 6, (.int .i64 0))] (by kernel_rfl) (fun _ => by kernel_rfl) ?_
          refine WO.nil ?_
          refine En.next ?_
          refine W.block ?_
          obtain ⟨t25, hloop29, hr1⟩ := bind_some hr1
          refine W.weaken (fr' := [(0, (.slice a_p0 p0.length c_p0)), (1, (.slice a_p1 p1.length c_p1)), (5, (.int .i64 (i4 : Int))), (6, (.int .i64 0))]) (W.loopO hloop29 (fun (s28 : Int) fr w => ∃ (I26 : Mem), fr = [(0, (.slice a_p0 p0.length c_p0)), (1, (.slice a_p1 p1.length c_p1)), (5, (.int .i64 (i4 : Int))), (6, (.int .i64 s28))] ∧ I17.Le I26 ∧ St E w I26 Os) ⟨I17, rfl, Mem.Le.refl _, hS22⟩ ?_) (Sub.cons rfl (Sub.cons rfl (Sub.cons rfl (Sub.cons rfl Sub.nil))))
          rintro s28 _ w30 ⟨I26, rfl, hl27, hS31⟩ x32 hr2 hext25
          refine W.seq ?_
          refine W.seq ?_
          refine W.region (l := [0, 1, 2, 3, 4, 5, 6, 7]) (by kernel_rfl) ?_
          refine WO.vals [(0, 44, (.int .i64 s28)), (1, 45, (.slice a_p0 p0.length c_p0)), (2, 46, (.int .i64 (i4 : Int)))] (by kernel_rfl) (fun _ => by kernel_rfl) ?_
          obtain ⟨x33, hx_x33, hr2⟩ := bind_some hr2
          obtain ⟨h0_x33, h1_x33, hx_x33⟩ := idx_some hx_x33
          obtain ⟨ha_x33, cs_x33, hn_x33, hr_x33, hc_x33⟩ := ((RSl.mono h_p0 ((hl3.trans hl18).trans hl27))).el _ _ hx_x33
          obtain ⟨w_x33, rfl, h_x33⟩ := hr_x33
          refine WO.indexAddr (e := 28) (sz := 2) rfl (by kernel_rfl) (by kernel_rfl) (by kernel_rfl) rfl ha_x33 rfl h0_x33 h1_x33 ?_
          refine WO.vals [(4, 48, (.pointer (some ⟨bl a_p0, of a_p0 + ((i4 : Int)).toNat * 2 + 1, none⟩)))] (by kernel_rfl) (fun _ => by kernel_rfl) ?_
          refine WO.load rfl (by kernel_rfl) (by kernel_rfl) rfl (v := (.slice w_x33.In.a x33.In.length w_x33.In.c)) (fun w' hw' => hc_x33.cellk 1 (by kernel_rfl) ((rd_f hS31.im) w' hw')) ?_
          refine WO.vals [(6, 50, (.int .i64 (x33.In.length : Int))), (7, 51, (.bool (decide (s28 < (x33.In.length : Int)))))] (by kernel_rfl) (fun _ => by kernel_rfl) ?_
          refine WO.nil ?_
          refine En.next ?_
          refine W.cond (b := (decide (s28 < (x33.In.length : Int)))) rfl rfl (fun hc => ?_) (fun hc => ?_)
          · replace hr2 := cond_t hc hr2
            refine W.skip ?_
            refine En.next ?_
            refine W.seq ?_
            refine W.block ?_
            refine W.seq ?_
            have hS34 := hS31.drew
            refine W.draw (l := [0, 1, 2, 3, 4, 5, 6, 7, 8, 9, 10, 11, 12, 13, 14, 15, 16]) (by kernel_rfl) 16 (KR I26 []) qR (.back (by kernel_rfl)) (by kernel_rfl) (KR.nil hS34.im) ?_
            generalize World.drew _ = w35 at *
            refine WO.vals [(0, 54, (.slice a_p0 p0.length c_p0)), (1, 55, (.int .i64 (i4 : Int)))] (by kernel_rfl) (fun _ => by kernel_rfl) ?_
            obtain ⟨x36, hx_x36, hr2⟩ := bind_some hr2
            obtain ⟨h0_x36, h1_x36, hx_x36⟩ := idx_some hx_x36
            obtain ⟨ha_x36, cs_x36, hn_x36, hr_x36, hc_x36⟩ := ((RSl.mono h_p0 ((hl3.trans hl18).trans hl27))).el _ _ hx_x36
            obtain ⟨w_x36, rfl, h_x36⟩ := hr_x36
            refine WO.indexAddr (e := 28) (sz := 2) rfl (by kernel_rfl) (by kernel_rfl) (by kernel_rfl) rfl ha_x36 rfl h0_x36 h1_x36 ?_
            refine WO.vals [(3, 57, (.pointer (some ⟨bl a_p0, of a_p0 + ((i4 : Int)).toNat * 2 + 1, none⟩)))] (by kernel_rfl) (fun _ => by kernel_rfl) ?_
            refine WO.load rfl (by kernel_rfl) (by kernel_rfl) rfl (v := (.slice w_x36.In.a x36.In.length w_x36.In.c)) (fun w' hw' => hc_x36.cellk 1 (by kernel_rfl) ((rd_i hS34.im) w' hw')) ?_
            refine WO.vals [(5, 59, (.int .i64 s28))] (by kernel_rfl) (fun _ => by kernel_rfl) ?_
            obtain ⟨x37, hx_x37, hr2⟩ := bind_some hr2
            obtain ⟨h0_x37, h1_x37, hx_x37⟩ := idx_some hx_x37
            obtain ⟨ha_x37, cs_x37, hn_x37, hr_x37, hc_x37⟩ := (h_x36.In).el _ _ hx_x37
            obtain rfl := hr_x37
            refine WO.indexAddr (e := 9) (sz := 1) rfl (by kernel_rfl) (by kernel_rfl) (by kernel_rfl) rfl ha_x37 rfl h0_x37 h1_x37 ?_
            refine WO.load rfl (by kernel_rfl) (by kernel_rfl) rfl (v := (.string x37)) (fun w' hw' => hc_x37.cell0 (by kernel_rfl) ((rd_i hS34.im) w' hw')) ?_
            refine WO.vals [(8, 62, (.slice a_p1 p1.length c_p1)), (9, 63, (.int .i64 (i4 : Int)))] (by kernel_rfl) (fun _ => by kernel_rfl) ?_
            obtain ⟨x38, hx_x38, hr2⟩ := bind_some hr2
            obtain ⟨h0_x38, h1_x38, hx_x38⟩ := idx_some hx_x38
            obtain ⟨ha_x38, cs_x38, hn_x38, hr_x38, hc_x38⟩ := ((RSl.mono h_p1 ((hl3.trans hl18).trans hl27))).el _ _ hx_x38
            obtain ⟨w_x38, rfl, h_x38⟩ := hr_x38
            refine WO.indexAddr (e := 28) (sz := 2) rfl (by kernel_rfl) (by kernel_rfl) (by kernel_rfl) rfl ha_x38 rfl h0_x38 h1_x38 ?_
            refine WO.vals [(11, 65, (.pointer (some ⟨bl a_p1, of a_p1 + ((i4 : Int)).toNat * 2 + 1, none⟩)))] (by kernel_rfl) (fun _ => by kernel_rfl) ?_
            refine WO.load rfl (by kernel_rfl) (by kernel_rfl) rfl (v := (.slice w_x38.In.a x38.In.length w_x38.In.c)) (fun w' hw' => hc_x38.cellk 1 (by kernel_rfl) ((rd_i hS34.im) w' hw')) ?_
            refine WO.vals [(13, 67, (.int .i64 s28))] (by kernel_rfl) (fun _ => by kernel_rfl) ?_
            obtain ⟨x39, hx_x39, hr2⟩ := bind_some hr2
            obtain ⟨h0_x39, h1_x39, hx_x39⟩ := idx_some hx_x39
            obtain ⟨ha_x39, cs_x39, hn_x39, hr_x39, hc_x39⟩ := (h_x38.In).el _ _ hx_x39
            obtain rfl := hr_x39
            refine WO.indexAddr (e := 9) (sz := 1) rfl (by kernel_rfl) (by kernel_rfl) (by kernel_rfl) rfl ha_x39 rfl h0_x39 h1_x39 ?_
            refine WO.load rfl (by kernel_rfl) (by kernel_rfl) rfl (v := (.string x39)) (fun w' hw' => hc_x39.cell0 (by kernel_rfl) ((rd_i hS34.im) w' hw')) ?_
            refine WO.tail rfl ?_
            refine WO.vals [(16, 70, (.bool (!sEq x37 x39)))] (by kernel_rfl) (fun _ => by kernel_rfl) ?_
            refine WO.nil ?_
            refine En.next ?_
            refine W.cond (b := (!sEq x37 x39)) rfl rfl (fun hc => ?_) (fun hc => ?_)
            · replace hr2 := cond_t hc hr2
              refine W.seq ?_
              refine W.region (l := [0]) (by kernel_rfl) ?_
              refine WO.vals [(0, 4, (.bool false))] (by kernel_rfl) (fun _ => by kernel_rfl) ?_
              refine WO.nil ?_
              refine En.next ?_
              refine W.ret ?_
              refine En.in_ret ?_
              refine En.nx_ret ?_
              refine En.rd_ret ?_
              have ht := hext25 _ (Option.some.inj hr2).symm
              subst t25
              refine En.in_ret ?_
              refine En.in_ret ?_
              refine En.nx_ret ?_
              refine En.rd_ret ?_
              have ht := hext1 _ (Option.some.inj hr1).symm
              subst t1
              refine En.in_ret ?_
              refine En.nx_ret ?_
              have he := Option.some.inj hr
              subst r
              exact En.ret1 rfl (.bool false) rfl ⟨I26, rfl, ((hl3.trans hl18).trans hl27), hS34⟩
            · replace hr2 := cond_f hc hr2
              refine W.skip ?_
              refine En.in_normal ?_
              refine En.next ?_
              refine W.region (l := [0, 1, 2]) (by kernel_rfl) ?_
              refine WO.vals [(0, 52, (.int .i64 s28)), (1, 53, (.int .i64 (w64 (s28 + 1)))), (2, 6, (.int .i64 (w64 (s28 + 1))))] (by kernel_rfl) (fun _ => by kernel_rfl) ?_
              refine WO.nil ?_
              refine En.weaken (fr' := [(0, (.slice a_p0 p0.length c_p0)), (1, (.slice a_p1 p1.length c_p1)), (5, (.int .i64 (i4 : Int))), (6, (.int .i64 (w64 (s28 + 1))))]) (En.round ⟨(w64 (s28 + 1)), (Option.some.inj hr2).symm, I26, rfl, hl27, hS34⟩) (Sub.cons rfl (Sub.cons rfl (Sub.cons rfl (Sub.cons rfl Sub.nil))))
          · replace hr2 := cond_f hc hr2
            refine W.exit ?_
            refine En.nx_exit ?_
            refine En.rd_exit ?_
            have ht := hext25 _ (Option.some.inj hr2).symm
            subst t25
            refine En.in_hit ?_
            refine En.in_normal ?_
            refine En.next ?_
            refine W.region (l := [0, 1, 2]) (by kernel_rfl) ?_
            refine WO.vals [(0, 16, (.int .i64 (i4 : Int)))] (by kernel_rfl) (fun _ => by kernel_rfl) ?_
            refine WO.incr (j := i4) rfl (by kernel_rfl) rfl (by first | omega | (dsimp only at *; omega)) ?_
            refine WO.vals [(2, 5, (.int .i64 ((i4 + 1 : Nat) : Int)))] (by kernel_rfl) (fun _ => by kernel_rfl) ?_
            refine WO.nil ?_
            refine En.weaken (fr' := [(0, (.slice a_p0 p0.length c_p0)), (1, (.slice a_p1 p1.length c_p1)), (5, (.int .i64 ((i4 + 1 : Nat) : Int)))]) (En.round ⟨(), (Option.some.inj hr1).symm, I26, rfl, ((hl3.trans hl18).trans hl27), hS31⟩) (Sub.cons rfl (Sub.cons rfl (Sub.cons rfl Sub.nil)))
    case lastt1 =>
      rintro _ _ w43 ⟨I2, rfl, hl3, hS44⟩ he
      cases he
      refine W.seq ?_
      refine W.seq ?_
      refine W.region (l := [0, 1, 2, 3]) (by kernel_rfl) ?_
      refine WO.vals [(0, 12, (.int .i64 (p0.length : Int))), (1, 13, (.slice a_p0 p0.length c_p0)), (2, 14, (.int .i64 (p0.length : Int))), (3, 15, (.bool (decide ((p0.length : Int) < (p0.length : Int)))))] (by kernel_rfl) (fun _ => by kernel_rfl) ?_
      refine WO.nil ?_
      refine En.next ?_
      refine W.cond (b := (decide ((p0.length : Int) < (p0.length : Int)))) rfl rfl (fun hc => ?_) (fun hc => ?_)
      · exact absurd hc (by first | (simp; done) | (simp; omega))
      clear hc
      refine W.exit ?_
      refine En.nx_exit ?_
      refine En.rd_exit ?_
      refine En.in_hit ?_
      refine En.next ?_
      refine W.seq ?_
      refine W.region (l := [0]) (by kernel_rfl) ?_
      refine WO.vals [(0, 4, (.bool true))] (by kernel_rfl) (fun _ => by kernel_rfl) ?_
      refine WO.nil ?_
      refine En.next ?_
      refine W.ret ?_
      have he := Option.some.inj hr
      subst r
      exact En.ret1 rfl (.bool true) rfl ⟨I2, rfl, hl3, hS44⟩
noncomputable def registrarlaw18_MemberPlays (p0 : List api_Role) (p1 : List registrarlaw18_Act) : Option Bool := (registrarref18_Few p0).bind (fun (r6 : Bool) => (bif (!r6) then (registrarlaw18_works).bind (fun (r12 : Bool) => some r12) else (forE (fun (i17 : Nat) => fun (s16 : List api_Role) => (idx p0 (i17 : Int)).bind (fun (x28 : api_Role) => (idx p0 (i17 : Int)).bind (fun (x36 : api_Role) => (app 16 ([] : List ByteArray) x36.In).bind (fun (x37 : List ByteArray) => (app 40 s16 ([{ x28 with In := x37 }] : List api_Role)).bind (fun (x57 : List api_Role) => some x57))))) p0.length 0 ([] : List api_Role)).bind (fun (s16 : (List api_Role)) => (loopO (fun (s : (List api_Role) × Int) => match s with | (s71, s72) => (bif ((decide (s72 < (p1.length : Int))) && (decide (s72 < 40))) then (idx p1 s72).bind (fun (x79 : registrarlaw18_Act) => (registrarlaw18_long x79).bind (fun (r85 : Bool) => (bif r85 then (registrarlaw18_works).bind (fun (r91 : Bool) => some (.inr (.inl r91))) else (idx p1 s72).bind (fun (x96 : registrarlaw18_Act) => (registrarlaw18_done s71 x96).bind (fun ((r102, r103) : (List api_Role) × Int) => (idx p1 s72).bind (fun (x104 : registrarlaw18_Act) => (registrarlaw18_said s71 x104).bind (fun ((r110, r111) : (List api_Role) × Int) => (registrarref18_Same r102 r110).bind (fun (r117 : Bool) => ((bif ((!r117) || (r103 != r111)) then some true else (member_Check s71).bind (fun (r129 : Int) => (registrarref18_Check s71).bind (fun (r135 : Int) => some (r129 != r135))))).bind (fun (j120 : Bool) => (bif j120 then some (.inr (.inl false)) else ((bif (r103 == 0) then some r102 else some s71)).bind (fun (j139 : List api_Role) => some (.inl (j139, (w64 (s72 + 1))))))))))))))) else some (.inr (.inr s71)))) (p0, 0)).bind (fun (t : Bool ⊕ (List api_Role)) => match t with | (.inl s93) => some s93 | (.inr s146) => (member_Check s146).bind (fun (r152 : Int) => (registrarref18_Check s146).bind (fun (r158 : Int) => ((bif (r152 == r158) then (registrarref18_Same p0 s16).bind (fun (r170 : Bool) => some r170) else some false)).bind (fun (j159 : Bool) => ((bif j159 then (registrarlaw18_works).bind (fun (r185 : Bool) => some r185) else some false)).bind (fun (j176 : Bool) => some j176))))))))
set_option maxHeartbeats 1000000 in
theorem registrarlaw18_MemberPlays_ok {E w : World} {I : Mem} {Os : List Mem} {p0 : List api_Role} {p1 : List registrarlaw18_Act} {a_p0 : Option Addr} {c_p0 : Nat} {a_p1 : Option Addr} {c_p1 : Nat} (h_p0 : RSl 2 R_api_Role I a_p0 c_p0 p0) (h_p1 : RSl 3 R_registrarlaw18_Act I a_p1 c_p1 p1) (hS : St E w I Os) {r : Bool} (hr : registrarlaw18_MemberPlays p0 p1 = some r) :
    Calls P 3 #[(.slice a_p0 p0.length c_p0), (.slice a_p1 p1.length c_p1)] w (fun e w' => ∃ (I' : Mem), e = .returned (.bool r) ∧ I.Le I' ∧ St E w' I' Os) := by
  refine calls_W (args := [(.slice a_p0 p0.length c_p0), (.slice a_p1 p1.length c_p1)]) (fn := Tryz.f3) rfl rfl rfl ?_
  unfold registrarlaw18_MemberPlays at hr
  refine W.seq ?_
  refine W.region (l := [0]) (by kernel_rfl) ?_
  refine WO.vals [(0, 4, (.bool false))] (by kernel_rfl) (fun _ => by kernel_rfl) ?_
  refine WO.nil ?_
  refine En.next ?_
  refine W.seq ?_
  refine W.seq ?_
  refine W.region (l := [0, 1, 2]) (by kernel_rfl) ?_
  refine WO.vals [(0, 13, (.slice a_p0 p0.length c_p0))] (by kernel_rfl) (fun _ => by kernel_rfl) ?_
  obtain ⟨r6, hx_r1, hr⟩ := bind_some hr
  refine WO.call rfl (by kernel_rfl) rfl (f := 4) (args := #[(.slice a_p0 p0.length c_p0)]) (by kernel_rfl) (registrarref18_Few_ok h_p0 hS hx_r1) ?_
  rintro _ w2 ⟨I3, rfl, hl4, hS5⟩
  refine ⟨_, rfl, trivial, ?_⟩
  refine WO.vals [(2, 15, (.bool (!r6)))] (by kernel_rfl) (fun _ => by kernel_rfl) ?_
  refine WO.nil ?_
  refine En.next ?_
  refine W.cond (b := (!r6)) rfl rfl (fun hc => ?_) (fun hc => ?_)
  · replace hr := cond_t hc hr
    refine W.seq ?_
    refine W.region (l := [0, 1]) (by kernel_rfl) ?_
    obtain ⟨r12, hx_r7, hr⟩ := bind_some hr
    refine WO.call rfl (by kernel_rfl) rfl (f := 5) (args := #[]) (by kernel_rfl) (registrarlaw18_works_ok  hS5 hx_r7) ?_
    rintro _ w8 ⟨I9, rfl, hl10, hS11⟩
    refine ⟨_, rfl, trivial, ?_⟩
    refine WO.vals [(1, 4, (.bool r12))] (by kernel_rfl) (fun _ => by kernel_rfl) ?_
    refine WO.nil ?_
    refine En.next ?_
    refine W.ret ?_
    refine En.nx_ret ?_
    have he := Option.some.inj hr
    subst r
    exact En.ret1 rfl (.bool r12) rfl ⟨I9, rfl, (hl4.trans hl10), hS11⟩
  · replace hr := cond_f hc hr
    refine W.skip ?_
    refine En.next ?_
    refine W.seq ?_
    refine W.region (l := [0]) (by kernel_rfl) ?_
    refine WO.vals [(0, 5, (.slice none 0 0))] (by kernel_rfl) (fun _ => by kernel_rfl) ?_
    refine WO.nil ?_
    refine En.next ?_
    refine W.seq ?_
    refine W.seq ?_
    refine W.region (l := [0]) (by kernel_rfl) ?_
    refine WO.vals [(0, 6, (.int .i64 0))] (by kernel_rfl) (fun _ => by kernel_rfl) ?_
    refine WO.nil ?_
    refine En.next ?_
    refine W.block ?_
    obtain ⟨s16, hloop18, hr⟩ := bind_some hr
    have hS20 := hS5.no
    have hlt24 := ((RSl.mono h_p0 hl4)).len_lt
    refine W.weaken (fr' := [(0, (.slice a_p0 p0.length c_p0)), (1, (.slice a_p1 p1.length c_p1)), (5, (.slice none ([] : List api_Role).length 0)), (6, (.int .i64 ((0 : Nat) : Int)))]) (W.forE (m := p0.length) hloop18 (fun (i17 : Nat) => fun (s16 : List api_Role) fr w => ∃ (I14 : Mem), ∃ (a_s16 : Option Addr), ∃ (c_s16 : Nat), ∃ (C_s16 : Mem), fr = [(0, (.slice a_p0 p0.length c_p0)), (1, (.slice a_p1 p1.length c_p1)), (5, (.slice a_s16 s16.length c_s16)), (6, (.int .i64 (i17 : Int)))] ∧ I3.Le I14 ∧ St E w I14 ((C_s16) :: Os) ∧ OwnSl 28 2 R_api_Role I14 C_s16 a_s16 c_s16 s16) ⟨I3, none, 0, Mem.no, rfl, Mem.Le.refl _, hS20, OwnSl.nil⟩ ?roundt13 ?lastt13) (Sub.cons rfl (Sub.cons rfl (Sub.cons rfl (Sub.cons rfl Sub.nil))))
    case roundt13 =>
      rintro i17 s16 _ w21 hi25 ⟨I14, a_s16, c_s16, C_s16, rfl, hl15, hS22, h_s16⟩ x23 hr1
      refine W.seq ?_
      refine W.seq ?_
      refine W.region (l := [0, 1, 2, 3]) (by kernel_rfl) ?_
      refine WO.vals [(0, 17, (.int .i64 (i17 : Int))), (1, 18, (.slice a_p0 p0.length c_p0)), (2, 19, (.int .i64 (p0.length : Int))), (3, 20, (.bool (decide ((i17 : Int) < (p0.length : Int)))))] (by kernel_rfl) (fun _ => by kernel_rfl) ?_
      refine WO.nil ?_
      refine En.next ?_
      refine W.cond (b := (decide ((i17 : Int) < (p0.length : Int)))) rfl rfl (fun hc => ?_) (fun hc => ?_)
      rotate_left
      · exact absurd hc (by first | (simp; done) | (simp; omega))
      clear hc
      refine W.skip ?_
      refine En.next ?_
      refine W.seq ?_
      refine W.block ?_
      have hS26 := hS22.drew
      refine W.draw (l := [0, 1, 2, 3, 4, 5, 6, 7, 8, 9, 10, 11, 12, 13, 14, 15, 16]) (by kernel_rfl) 13 (KR I14 []) qR (.back (by kernel_rfl)) (by kernel_rfl) (KR.nil hS26.im) ?_
      generalize World.drew _ = w27 at *
      refine WO.vals [(0, 23, (.slice a_s16 s16.length c_s16)), (1, 24, (.slice a_p0 p0.length c_p0)), (2, 25, (.int .i64 (i17 : Int)))] (by kernel_rfl) (fun _ => by kernel_rfl) ?_
      obtain ⟨x28, hx_x28, hr1⟩ := bind_some hr1
      obtain ⟨h0_x28, h1_x28, hx_x28⟩ := idx_some hx_x28
      obtain ⟨ha_x28, cs_x28, hn_x28, hr_x28, hc_x28⟩ := ((RSl.mono h_p0 (hl4.trans hl15))).el _ _ hx_x28
      obtain ⟨w_x28, rfl, h_x28⟩ := hr_x28
      refine WO.indexAddr (e := 28) (sz := 2) rfl (by kernel_rfl) (by kernel_rfl) (by kernel_rfl) rfl ha_x28 rfl h0_x28 h1_x28 ?_
      refine WO.vals [(4, 27, (.pointer (some ⟨bl a_p0, of a_p0 + ((i17 : Int)).toNat * 2, none⟩)))] (by kernel_rfl) (fun _ => by kernel_rfl) ?_
      refine WO.load rfl (by kernel_rfl) (by kernel_rfl) rfl (v := (.string x28.Name)) (fun w' hw' => hc_x28.cell0 (by kernel_rfl) ((rd_i hS26.im) w' hw')) ?_
      refine WO.newSlice (rel := RStr) (xs := ([] : List ByteArray)) hS26 rfl (by kernel_rfl) rfl 9 1 [] (by kernel_rfl) rfl (Elr.nil) (fun C30 w34 hS33 => (KR.nil hS33.im)) ?_
      intro a32 C30 w34 hS33 ho31
      refine WO.vals [(7, 30, (.slice a_p0 p0.length c_p0)), (8, 31, (.int .i64 (i17 : Int)))] (by kernel_rfl) (fun _ => by kernel_rfl) ?_
      obtain ⟨x36, hx_x36, hr1⟩ := bind_some hr1
      obtain ⟨h0_x36, h1_x36, hx_x36⟩ := idx_some hx_x36
      obtain ⟨ha_x36, cs_x36, hn_x36, hr_x36, hc_x36⟩ := ((RSl.mono h_p0 (hl4.trans hl15))).el _ _ hx_x36
      obtain ⟨w_x36, rfl, h_x36⟩ := hr_x36
      refine WO.indexAddr (e := 28) (sz := 2) rfl (by kernel_rfl) (by kernel_rfl) (by kernel_rfl) rfl ha_x36 rfl h0_x36 h1_x36 ?_
      refine WO.vals [(10, 33, (.pointer (some ⟨bl a_p0, of a_p0 + ((i17 : Int)).toNat * 2 + 1, none⟩)))] (by kernel_rfl) (fun _ => by kernel_rfl) ?_
      refine WO.load rfl (by kernel_rfl) (by kernel_rfl) rfl (v := (.slice w_x36.In.a x36.In.length w_x36.In.c)) (fun w' hw' => hc_x36.cellk 1 (by kernel_rfl) ((rd_i hS33.im) w' hw')) ?_
      obtain ⟨x37, hx_x37, hr1⟩ := bind_some hr1
      obtain ⟨h0_x37, he_x37⟩ := app_some hx_x37
      refine WO.append (e' := 9) (b := 16) (zs := #[(.string (⟨#[]⟩ : ByteArray))]) hS33 ho31 rfl (by kernel_rfl) rfl (by kernel_rfl) (by kernel_rfl) (by kernel_rfl) rfl rfl rfl rfl h_x36.In hS33.im h0_x37 he_x37 (fun w40 C41 hS42 => (KR.nil hS42.im)) ?_
      intro a38 c39 w40 C41 hS42 ho43
      refine WO.tail rfl ?_
      obtain ⟨I44, hl45, hS47, hp46⟩ := OwnSl.pub ho43 hS42
      refine WO.vals [(13, 36, (.agg (cs_api_Role ({ x28 with In := x37 }) (⟨⟨a38, c39⟩⟩ : W_api_Role)).toArray))] (by kernel_rfl) (fun _ => by kernel_rfl) ?_
      have hk55 : ok_api_Role I44 ({ x28 with In := x37 }) (⟨⟨a38, c39⟩⟩ : W_api_Role) := ⟨hp46⟩
      refine WO.newSlice (rel := R_api_Role) (xs := ([{ x28 with In := x37 }] : List api_Role)) hS47 rfl (by kernel_rfl) rfl 28 2 [(cs_api_Role ({ x28 with In := x37 }) (⟨⟨a38, c39⟩⟩ : W_api_Role))] (by kernel_rfl) rfl ((Elr.cons ⟨(⟨⟨a38, c39⟩⟩ : W_api_Role), rfl, hk55⟩ Elr.nil)) (fun _ _ _ => trivial) ?_
      intro a51 C49 w53 hS52 ho50
      have hS56 := hS52.front1
      obtain ⟨x57, hx_x57, hr1⟩ := bind_some hr1
      obtain ⟨h0_x57, he_x57⟩ := app_some hx_x57
      refine WO.append (e' := 28) (b := 40) (zs := (cs_api_Role z_api_Role zw_api_Role).toArray) hS56 (OwnSl.mono h_s16 hl45) rfl (by kernel_rfl) rfl (by kernel_rfl) (by kernel_rfl) (by kernel_rfl) rfl rfl rfl rfl ho50.sl (hS56.rd (List.Mem.tail _ (List.Mem.head _))) h0_x57 he_x57 (fun _ _ _ => trivial) ?_
      intro a58 c59 w60 C61 hS62 ho63
      have hS64 := hS62.front1
      have hS65 := hS64.drop
      refine WO.vals [(16, 5, (.slice a58 x57.length c59))] (by kernel_rfl) (fun _ => by kernel_rfl) ?_
      refine WO.nil ?_
      refine En.in_normal ?_
      refine En.next ?_
      refine W.region (l := [0, 1, 2]) (by kernel_rfl) ?_
      refine WO.vals [(0, 21, (.int .i64 (i17 : Int)))] (by kernel_rfl) (fun _ => by kernel_rfl) ?_
      refine WO.incr (j := i17) rfl (by kernel_rfl) rfl (by first | omega | (dsimp only at *; omega)) ?_
      refine WO.vals [(2, 6, (.int .i64 ((i17 + 1 : Nat) : Int)))] (by kernel_rfl) (fun _ => by kernel_rfl) ?_
      refine WO.nil ?_
      have he := Option.some.inj hr1
      subst x23
      refine En.weaken (fr' := [(0, (.slice a_p0 p0.length c_p0)), (1, (.slice a_p1 p1.length c_p1)), (5, (.slice a58 x57.length c59)), (6, (.int .i64 ((i17 + 1 : Nat) : Int)))]) (En.round ⟨I44, a58, c59, C61, rfl, (hl15.trans hl45), hS65, ho63⟩) (Sub.cons rfl (Sub.cons rfl (Sub.cons rfl (Sub.cons rfl Sub.nil))))
    case lastt13 =>
      rintro _ w66 ⟨I14, a_s16, c_s16, C_s16, rfl, hl15, hS67, h_s16⟩
      refine W.seq ?_
      refine W.seq ?_
      refine W.region (l := [0, 1, 2, 3]) (by kernel_rfl) ?_
      refine WO.vals [(0, 17, (.int .i64 (p0.length : Int))), (1, 18, (.slice a_p0 p0.length c_p0)), (2, 19, (.int .i64 (p0.length : Int))), (3, 20, (.bool (decide ((p0.length : Int) < (p0.length : Int)))))] (by kernel_rfl) (fun _ => by kernel_rfl) ?_
      refine WO.nil ?_
      refine En.next ?_
      refine W.cond (b := (decide ((p0.length : Int) < (p0.length : Int)))) rfl rfl (fun hc => ?_) (fun hc => ?_)
      · exact absurd hc (by first | (simp; done) | (simp; omega))
      clear hc
      refine W.exit ?_
      refine En.nx_exit ?_
      refine En.rd_exit ?_
      refine En.in_hit ?_
      refine En.next ?_
      refine W.seq ?_
      refine W.region (l := [0, 1]) (by kernel_rfl) ?_
      refine WO.vals [(0, 39, (.slice a_p0 p0.length c_p0)), (1, 7, (.slice a_p0 p0.length c_p0))] (by kernel_rfl) (fun _ => by kernel_rfl) ?_
      refine WO.nil ?_
      refine En.next ?_
      refine W.seq ?_
      refine W.seq ?_
      refine W.region (l := [0]) (by kernel_rfl) ?_
      refine WO.vals [(0, 8, (.int .i64 0))] (by kernel_rfl) (fun _ => by kernel_rfl) ?_
      refine WO.nil ?_
      refine En.next ?_
      refine W.block ?_
      obtain ⟨t68, hloop73, hr⟩ := bind_some hr
      refine W.weaken (fr' := [(0, (.slice a_p0 p0.length c_p0)), (1, (.slice a_p1 p1.length c_p1)), (5, (.slice a_s16 s16.length c_s16)), (7, (.slice a_p0 p0.length c_p0)), (8, (.int .i64 0))]) (W.loopO hloop73 (fun (s : (List api_Role) × Int) fr w => match s with | (s71, s72) => ∃ (I69 : Mem), ∃ (a_s71 : Option Addr), ∃ (c_s71 : Nat), fr = [(0, (.slice a_s71 s71.length c_s71)), (1, (.slice a_p1 p1.length c_p1)), (5, (.slice a_s16 s16.length c_s16)), (7, (.slice a_p0 p0.length c_p0)), (8, (.int .i64 s72))] ∧ I14.Le I69 ∧ St E w I69 ((C_s16) :: Os) ∧ RSl 2 R_api_Role I69 a_s71 c_s71 s71) ⟨I14, a_p0, c_p0, rfl, Mem.Le.refl _, hS67, (RSl.mono h_p0 (hl4.trans hl15))⟩ ?_) (Sub.cons rfl (Sub.cons rfl (Sub.cons rfl (Sub.cons rfl (Sub.cons rfl Sub.nil)))))
      rintro ⟨s71, s72⟩ _ w74 ⟨I69, a_s71, c_s71, rfl, hl70, hS75, h_s71⟩ x76 hr1 hext68
      refine W.seq ?_
      refine W.seq ?_
      refine W.region (l := [0, 1, 2, 3, 4, 5, 6, 7]) (by kernel_rfl) ?_
      refine WO.vals [(0, 40, (.int .i64 s72)), (1, 41, (.slice a_p1 p1.length c_p1)), (2, 42, (.int .i64 (p1.length : Int))), (3, 43, (.bool (decide (s72 < (p1.length : Int))))), (4, 44, (.bool (decide (s72 < (p1.length : Int)))))] (by kernel_rfl) (fun _ => by kernel_rfl) ?_
      refine WO.join (l1 := [5, 6, 7]) (l2 := []) (J := fun frx wx => frx = [(47, (.bool ((decide (s72 < (p1.length : Int))) && (decide (s72 < 40))))), (0, (.slice a_s71 s71.length c_s71)), (1, (.slice a_p1 p1.length c_p1)), (5, (.slice a_s16 s16.length c_s16)), (7, (.slice a_p0 p0.length c_p0)), (8, (.int .i64 s72))] ∧ w74 = wx) ?restm77 ?waysm77
      case waysm77 =>
        refine WO.caseb (decide (s72 < (p1.length : Int))) (fun hc => ?_) (fun hc => ?_)
        · skip
          refine WO.reslot 44 rfl (show Value.bool (decide (s72 < (p1.length : Int))) = Value.bool true by rw [hc]) ?_
          refine WO.vals [(5, 45, (.int .i64 s72)), (6, 46, (.bool (decide (s72 < 40)))), (7, 47, (.bool (decide (s72 < 40))))] (by kernel_rfl) (fun _ => by kernel_rfl) ?_
          refine WO.weaken (fr' := [(47, (.bool ((decide (s72 < (p1.length : Int))) && (decide (s72 < 40))))), (0, (.slice a_s71 s71.length c_s71)), (1, (.slice a_p1 p1.length c_p1)), (5, (.slice a_s16 s16.length c_s16)), (7, (.slice a_p0 p0.length c_p0)), (8, (.int .i64 s72))]) (WO.meet ⟨rfl, rfl⟩) (Sub.cons (by rw [hc]; rfl) (Sub.cons rfl (Sub.cons rfl (Sub.cons rfl (Sub.cons rfl (Sub.cons rfl Sub.nil))))))
        · skip
          refine WO.reslot 44 rfl (show Value.bool (decide (s72 < (p1.length : Int))) = Value.bool false by rw [hc]) ?_
          refine WO.pass rfl (by kernel_rfl) rfl ?_
          refine WO.pass rfl (by kernel_rfl) rfl ?_
          refine WO.vals [(7, 47, (.bool false))] (by kernel_rfl) (fun _ => by kernel_rfl) ?_
          refine WO.weaken (fr' := [(47, (.bool ((decide (s72 < (p1.length : Int))) && (decide (s72 < 40))))), (0, (.slice a_s71 s71.length c_s71)), (1, (.slice a_p1 p1.length c_p1)), (5, (.slice a_s16 s16.length c_s16)), (7, (.slice a_p0 p0.length c_p0)), (8, (.int .i64 s72))]) (WO.meet ⟨rfl, rfl⟩) (Sub.cons (by rw [hc]; rfl) (Sub.cons rfl (Sub.cons rfl (Sub.cons rfl (Sub.cons rfl (Sub.cons rfl Sub.nil))))))
      case restm77 =>
        rintro _ _ ⟨rfl, rfl⟩
        refine WO.nil ?_
        refine En.next ?_
        refine W.cond (b := ((decide (s72 < (p1.length : Int))) && (decide (s72 < 40)))) rfl rfl (fun hc => ?_) (fun hc => ?_)
        · replace hr1 := cond_t hc hr1
          refine W.skip ?_
          refine En.next ?_
          refine W.seq ?_
          refine W.block ?_
          refine W.seq ?_
          refine W.seq ?_
          refine W.region (l := [0, 1, 2, 3, 4]) (by kernel_rfl) ?_
          refine WO.vals [(0, 50, (.slice a_p1 p1.length c_p1)), (1, 51, (.int .i64 s72))] (by kernel_rfl) (fun _ => by kernel_rfl) ?_
          obtain ⟨x79, hx_x79, hr1⟩ := bind_some hr1
          obtain ⟨h0_x79, h1_x79, hx_x79⟩ := idx_some hx_x79
          obtain ⟨ha_x79, cs_x79, hn_x79, hr_x79, hc_x79⟩ := ((RSl.mono h_p1 ((hl4.trans hl15).trans hl70))).el _ _ hx_x79
          obtain rfl := hr_x79
          refine WO.indexAddr (e := 31) (sz := 3) rfl (by kernel_rfl) (by kernel_rfl) (by kernel_rfl) rfl ha_x79 rfl h0_x79 h1_x79 ?_
          refine WO.loadN rfl (by kernel_rfl) (by kernel_rfl) rfl ((cs_registrarlaw18_Act x79)) (by kernel_rfl) (fun w' hw' => hc_x79.cells (k := 0) (by kernel_rfl) rfl ((rd_f hS75.im) w' hw')) ?_
          obtain ⟨r85, hx_r80, hr1⟩ := bind_some hr1
          refine WO.call rfl (by kernel_rfl) rfl (f := 6) (args := #[(.agg (cs_registrarlaw18_Act x79).toArray)]) (by kernel_rfl) (registrarlaw18_long_ok  hS75 hx_r80) ?_
          rintro _ w81 ⟨I82, rfl, hl83, hS84⟩
          refine ⟨_, rfl, trivial, ?_⟩
          refine WO.nil ?_
          refine En.next ?_
          refine W.cond (b := r85) rfl rfl (fun hc => ?_) (fun hc => ?_)
          · replace hr1 := cond_t hc hr1
            refine W.seq ?_
            refine W.region (l := [0, 1]) (by kernel_rfl) ?_
            obtain ⟨r91, hx_r86, hr1⟩ := bind_some hr1
            refine WO.call rfl (by kernel_rfl) rfl (f := 5) (args := #[]) (by kernel_rfl) (registrarlaw18_works_ok  hS84 hx_r86) ?_
            rintro _ w87 ⟨I88, rfl, hl89, hS90⟩
            refine ⟨_, rfl, trivial, ?_⟩
            refine WO.vals [(1, 4, (.bool r91))] (by kernel_rfl) (fun _ => by kernel_rfl) ?_
            refine WO.nil ?_
            refine En.next ?_
            refine W.ret ?_
            refine En.nx_ret ?_
            refine En.in_ret ?_
            refine En.nx_ret ?_
            refine En.rd_ret ?_
            have ht := hext68 _ (Option.some.inj hr1).symm
            subst t68
            refine En.in_ret ?_
            refine En.nx_ret ?_
            have hS95 := hS90.drop
            have he := Option.some.inj hr
            subst r
            exact En.ret1 rfl (.bool r91) rfl ⟨I88, rfl, ((((hl4.trans hl15).trans hl70).trans hl83).trans hl89), hS95⟩
          · replace hr1 := cond_f hc hr1
            refine W.skip ?_
            refine En.next ?_
            refine W.seq ?_
            refine W.region (l := [0, 1, 2, 3, 4, 5, 6, 7, 8, 9, 10]) (by kernel_rfl) ?_
            refine WO.vals [(0, 57, (.slice a_s71 s71.length c_s71)), (1, 58, (.slice a_p1 p1.length c_p1)), (2, 59, (.int .i64 s72))] (by kernel_rfl) (fun _ => by kernel_rfl) ?_
            obtain ⟨x96, hx_x96, hr1⟩ := bind_some hr1
            obtain ⟨h0_x96, h1_x96, hx_x96⟩ := idx_some hx_x96
            obtain ⟨ha_x96, cs_x96, hn_x96, hr_x96, hc_x96⟩ := ((RSl.mono h_p1 (((hl4.trans hl15).trans hl70).trans hl83))).el _ _ hx_x96
            obtain rfl := hr_x96
            refine WO.indexAddr (e := 31) (sz := 3) rfl (by kernel_rfl) (by kernel_rfl) (by kernel_rfl) rfl ha_x96 rfl h0_x96 h1_x96 ?_
            refine WO.loadN rfl (by kernel_rfl) (by kernel_rfl) rfl ((cs_registrarlaw18_Act x96)) (by kernel_rfl) (fun w' hw' => hc_x96.cells (k := 0) (by kernel_rfl) rfl ((rd_f hS84.im) w' hw')) ?_
            obtain ⟨⟨r102, r103⟩, hx_r97, hr1⟩ := bind_some hr1
            refine WO.call rfl (by kernel_rfl) rfl (f := 7) (args := #[(.slice a_s71 s71.length c_s71), (.agg (cs_registrarlaw18_Act x96).toArray)]) (by kernel_rfl) (registrarlaw18_done_ok (RSl.mono h_s71 hl83) hS84 hx_r97) ?_
            rintro _ w98 ⟨I99, a_r102, c_r102, rfl, hl100, hS101, h_r102⟩
            refine ⟨_, rfl, trivial, ?_⟩
            refine WO.vals [(6, 56, (.tuple #[(.slice a_r102 r102.length c_r102), (.int .i64 r103)])), (7, 63, (.slice a_r102 r102.length c_r102)), (8, 64, (.int .i64 r103)), (9, 9, (.slice a_r102 r102.length c_r102)), (10, 10, (.int .i64 r103))] (by kernel_rfl) (fun _ => by kernel_rfl) ?_
            refine WO.nil ?_
            refine En.next ?_
            refine W.seq ?_
            refine W.region (l := [0, 1, 2, 3, 4, 5, 6, 7, 8, 9, 10]) (by kernel_rfl) ?_
            refine WO.vals [(0, 66, (.slice a_s71 s71.length c_s71)), (1, 67, (.slice a_p1 p1.length c_p1)), (2, 68, (.int .i64 s72))] (by kernel_rfl) (fun _ => by kernel_rfl) ?_
            obtain ⟨x104, hx_x104, hr1⟩ := bind_some hr1
            obtain ⟨h0_x104, h1_x104, hx_x104⟩ := idx_some hx_x104
            obtain ⟨ha_x104, cs_x104, hn_x104, hr_x104, hc_x104⟩ := ((RSl.mono h_p1 ((((hl4.trans hl15).trans hl70).trans hl83).trans hl100))).el _ _ hx_x104
            obtain rfl := hr_x104
            refine WO.indexAddr (e := 31) (sz := 3) rfl (by kernel_rfl) (by kernel_rfl) (by kernel_rfl) rfl ha_x104 rfl h0_x104 h1_x104 ?_
            refine WO.loadN rfl (by kernel_rfl) (by kernel_rfl) rfl ((cs_registrarlaw18_Act x104)) (by kernel_rfl) (fun w' hw' => hc_x104.cells (k := 0) (by kernel_rfl) rfl ((rd_f hS101.im) w' hw')) ?_
            obtain ⟨⟨r110, r111⟩, hx_r105, hr1⟩ := bind_some hr1
            refine WO.call rfl (by kernel_rfl) rfl (f := 8) (args := #[(.slice a_s71 s71.length c_s71), (.agg (cs_registrarlaw18_Act x104).toArray)]) (by kernel_rfl) (registrarlaw18_said_ok (RSl.mono h_s71 (hl83.trans hl100)) hS101 hx_r105) ?_
            rintro _ w106 ⟨I107, a_r110, c_r110, rfl, hl108, hS109, h_r110⟩
            refine ⟨_, rfl, trivial, ?_⟩
            refine WO.vals [(6, 65, (.tuple #[(.slice a_r110 r110.length c_r110), (.int .i64 r111)])), (7, 72, (.slice a_r110 r110.length c_r110)), (8, 73, (.int .i64 r111)), (9, 11, (.slice a_r110 r110.length c_r110)), (10, 12, (.int .i64 r111))] (by kernel_rfl) (fun _ => by kernel_rfl) ?_
            refine WO.nil ?_
            refine En.next ?_
            refine W.seq ?_
            refine W.seq ?_
            refine W.region (l := [0, 1, 2, 3, 4, 5, 6, 7, 8, 9, 10, 11, 12, 13, 14, 15]) (by kernel_rfl) ?_
            refine WO.vals [(0, 74, (.slice a_r102 r102.length c_r102)), (1, 75, (.slice a_r110 r110.length c_r110))] (by kernel_rfl) (fun _ => by kernel_rfl) ?_
            obtain ⟨r117, hx_r112, hr1⟩ := bind_some hr1
            refine WO.call rfl (by kernel_rfl) rfl (f := 9) (args := #[(.slice a_r102 r102.length c_r102), (.slice a_r110 r110.length c_r110)]) (by kernel_rfl) (registrarref18_Same_ok (RSl.mono h_r102 hl108) h_r110 hS109 hx_r112) ?_
            rintro _ w113 ⟨I114, rfl, hl115, hS116⟩
            refine ⟨_, rfl, trivial, ?_⟩
            refine WO.vals [(3, 77, (.bool (!r117))), (4, 78, (.bool (!r117)))] (by kernel_rfl) (fun _ => by kernel_rfl) ?_
            refine WO.join (l1 := [5, 6, 7, 8]) (l2 := [9, 10, 11, 12, 13, 14, 15]) (J := fun frx wx => frx = [(82, (.bool ((!r117) || (r103 != r111)))), (0, (.slice a_s71 s71.length c_s71)), (1, (.slice a_p1 p1.length c_p1)), (5, (.slice a_s16 s16.length c_s16)), (7, (.slice a_p0 p0.length c_p0)), (8, (.int .i64 s72)), (9, (.slice a_r102 r102.length c_r102)), (10, (.int .i64 r103))] ∧ w113 = wx) ?restm118 ?waysm118
            case waysm118 =>
              refine WO.caseb (!r117) (fun hc => ?_) (fun hc => ?_)
              · skip
                refine WO.reslot 78 rfl (show Value.bool (!r117) = Value.bool true by rw [hc]) ?_
                refine WO.pass rfl (by kernel_rfl) rfl ?_
                refine WO.pass rfl (by kernel_rfl) rfl ?_
                refine WO.pass rfl (by kernel_rfl) rfl ?_
                refine WO.vals [(8, 82, (.bool true))] (by kernel_rfl) (fun _ => by kernel_rfl) ?_
                refine WO.weaken (fr' := [(82, (.bool ((!r117) || (r103 != r111)))), (0, (.slice a_s71 s71.length c_s71)), (1, (.slice a_p1 p1.length c_p1)), (5, (.slice a_s16 s16.length c_s16)), (7, (.slice a_p0 p0.length c_p0)), (8, (.int .i64 s72)), (9, (.slice a_r102 r102.length c_r102)), (10, (.int .i64 r103))]) (WO.meet ⟨rfl, rfl⟩) (Sub.cons (by rw [hc]; rfl) (Sub.cons rfl (Sub.cons rfl (Sub.cons rfl (Sub.cons rfl (Sub.cons rfl (Sub.cons rfl (Sub.cons rfl Sub.nil))))))))
              · skip
                refine WO.reslot 78 rfl (show Value.bool (!r117) = Value.bool false by rw [hc]) ?_
                refine WO.vals [(5, 79, (.int .i64 r103)), (6, 80, (.int .i64 r111)), (7, 81, (.bool (r103 != r111))), (8, 82, (.bool (r103 != r111)))] (by kernel_rfl) (fun _ => by kernel_rfl) ?_
                refine WO.weaken (fr' := [(82, (.bool ((!r117) || (r103 != r111)))), (0, (.slice a_s71 s71.length c_s71)), (1, (.slice a_p1 p1.length c_p1)), (5, (.slice a_s16 s16.length c_s16)), (7, (.slice a_p0 p0.length c_p0)), (8, (.int .i64 s72)), (9, (.slice a_r102 r102.length c_r102)), (10, (.int .i64 r103))]) (WO.meet ⟨rfl, rfl⟩) (Sub.cons (by rw [hc]; rfl) (Sub.cons rfl (Sub.cons rfl (Sub.cons rfl (Sub.cons rfl (Sub.cons rfl (Sub.cons rfl (Sub.cons rfl Sub.nil))))))))
            case restm118 =>
              rintro _ _ ⟨rfl, rfl⟩
              refine WO.vals [(9, 83, (.bool ((!r117) || (r103 != r111))))] (by kernel_rfl) (fun _ => by kernel_rfl) ?_
              obtain ⟨j120, hr2, hr1⟩ := bind_some hr1
              refine WO.join (l1 := [10, 11, 12, 13, 14, 15]) (l2 := []) (J := (fun fr w => ∃ (I122 : Mem), fr = [(0, (.slice a_s71 s71.length c_s71)), (1, (.slice a_p1 p1.length c_p1)), (5, (.slice a_s16 s16.length c_s16)), (7, (.slice a_p0 p0.length c_p0)), (8, (.int .i64 s72)), (9, (.slice a_r102 r102.length c_r102)), (10, (.int .i64 r103)), (89, (.bool j120))] ∧ I114.Le I122 ∧ St E w I122 ((C_s16) :: Os))) ?restj120 ?waysj120
              case waysj120 =>
                refine WO.caseb ((!r117) || (r103 != r111)) (fun hc => ?_) (fun hc => ?_)
                · replace hr2 := cond_t hc hr2
                  refine WO.reslot 83 rfl (show Value.bool ((!r117) || (r103 != r111)) = Value.bool true by rw [hc]) ?_
                  refine WO.pass rfl (by kernel_rfl) rfl ?_
                  refine WO.pass rfl (by kernel_rfl) rfl ?_
                  refine WO.pass rfl (by kernel_rfl) rfl ?_
                  refine WO.pass rfl (by kernel_rfl) rfl ?_
                  refine WO.pass rfl (by kernel_rfl) rfl ?_
                  refine WO.vals [(15, 89, (.bool true))] (by kernel_rfl) (fun _ => by kernel_rfl) ?_
                  have he := Option.some.inj hr2
                  subst j120
                  refine WO.weaken (fr' := [(0, (.slice a_s71 s71.length c_s71)), (1, (.slice a_p1 p1.length c_p1)), (5, (.slice a_s16 s16.length c_s16)), (7, (.slice a_p0 p0.length c_p0)), (8, (.int .i64 s72)), (9, (.slice a_r102 r102.length c_r102)), (10, (.int .i64 r103)), (89, (.bool true))]) (WO.meet ⟨I114, rfl, Mem.Le.refl _, hS116⟩) (Sub.cons rfl (Sub.cons rfl (Sub.cons rfl (Sub.cons rfl (Sub.cons rfl (Sub.cons rfl (Sub.cons rfl (Sub.cons rfl Sub.nil))))))))
                · replace hr2 := cond_f hc hr2
                  refine WO.reslot 83 rfl (show Value.bool ((!r117) || (r103 != r111)) = Value.bool false by rw [hc]) ?_
                  refine WO.vals [(10, 84, (.slice a_s71 s71.length c_s71))] (by kernel_rfl) (fun _ => by kernel_rfl) ?_
                  obtain ⟨r129, hx_r124, hr2⟩ := bind_some hr2
                  refine WO.call rfl (by kernel_rfl) rfl (f := 10) (args := #[(.slice a_s71 s71.length c_s71)]) (by kernel_rfl) (member_Check_ok (RSl.mono h_s71 (((hl83.trans hl100).trans hl108).trans hl115)) hS116 hx_r124) ?_
                  rintro _ w125 ⟨I126, rfl, hl127, hS128⟩
                  refine ⟨_, rfl, trivial, ?_⟩
                  refine WO.vals [(12, 86, (.slice a_s71 s71.length c_s71))] (by kernel_rfl) (fun _ => by kernel_rfl) ?_
                  obtain ⟨r135, hx_r130, hr2⟩ := bind_some hr2
                  refine WO.call rfl (by kernel_rfl) rfl (f := 11) (args := #[(.slice a_s71 s71.length c_s71)]) (by kernel_rfl) (registrarref18_Check_ok (RSl.mono h_s71 ((((hl83.trans hl100).trans hl108).trans hl115).trans hl127)) hS128 hx_r130) ?_
                  rintro _ w131 ⟨I132, rfl, hl133, hS134⟩
                  refine ⟨_, rfl, trivial, ?_⟩
                  refine WO.vals [(14, 88, (.bool (r129 != r135))), (15, 89, (.bool (r129 != r135)))] (by kernel_rfl) (fun _ => by kernel_rfl) ?_
                  have he := Option.some.inj hr2
                  subst j120
                  refine WO.weaken (fr' := [(0, (.slice a_s71 s71.length c_s71)), (1, (.slice a_p1 p1.length c_p1)), (5, (.slice a_s16 s16.length c_s16)), (7, (.slice a_p0 p0.length c_p0)), (8, (.int .i64 s72)), (9, (.slice a_r102 r102.length c_r102)), (10, (.int .i64 r103)), (89, (.bool (r129 != r135)))]) (WO.meet ⟨I132, rfl, (hl127.trans hl133), hS134⟩) (Sub.cons rfl (Sub.cons rfl (Sub.cons rfl (Sub.cons rfl (Sub.cons rfl (Sub.cons rfl (Sub.cons rfl (Sub.cons rfl Sub.nil))))))))
              case restj120 =>
                rintro _ w136 ⟨I122, rfl, hl123, hS137⟩
                refine WO.nil ?_
                refine En.next ?_
                refine W.cond (b := j120) rfl rfl (fun hc => ?_) (fun hc => ?_)
                · replace hr1 := cond_t hc hr1
                  refine W.seq ?_
                  refine W.region (l := [0]) (by kernel_rfl) ?_
                  refine WO.vals [(0, 4, (.bool false))] (by kernel_rfl) (fun _ => by kernel_rfl) ?_
                  refine WO.nil ?_
                  refine En.next ?_
                  refine W.ret ?_
                  refine En.nx_ret ?_
                  refine En.in_ret ?_
                  refine En.nx_ret ?_
                  refine En.rd_ret ?_
                  have ht := hext68 _ (Option.some.inj hr1).symm
                  subst t68
                  refine En.in_ret ?_
                  refine En.nx_ret ?_
                  have hS138 := hS137.drop
                  have he := Option.some.inj hr
                  subst r
                  exact En.ret1 rfl (.bool false) rfl ⟨I122, rfl, (((((((hl4.trans hl15).trans hl70).trans hl83).trans hl100).trans hl108).trans hl115).trans hl123), hS138⟩
                · replace hr1 := cond_f hc hr1
                  refine W.skip ?_
                  refine En.next ?_
                  refine W.seq ?_
                  refine W.region (l := [0, 1]) (by kernel_rfl) ?_
                  refine WO.vals [(0, 90, (.int .i64 r103)), (1, 91, (.bool (r103 == 0)))] (by kernel_rfl) (fun _ => by kernel_rfl) ?_
                  refine WO.nil ?_
                  refine En.next ?_
                  obtain ⟨j139, hr2, hr1⟩ := bind_some hr1
                  refine W.join (J := (fun fr w => ∃ (I141 : Mem), ∃ (a_j139 : Option Addr), ∃ (c_j139 : Nat), fr = [(0, (.slice a_j139 j139.length c_j139)), (1, (.slice a_p1 p1.length c_p1)), (5, (.slice a_s16 s16.length c_s16)), (7, (.slice a_p0 p0.length c_p0)), (8, (.int .i64 s72))] ∧ I122.Le I141 ∧ St E w I141 ((C_s16) :: Os) ∧ RSl 2 R_api_Role I141 a_j139 c_j139 j139)) ?restj139 ?waysj139
                  case waysj139 =>
                    refine W.cond (b := (r103 == 0)) rfl rfl (fun hc => ?_) (fun hc => ?_)
                    · replace hr2 := cond_t hc hr2
                      refine W.region (l := [0, 1]) (by kernel_rfl) ?_
                      refine WO.vals [(0, 92, (.slice a_r102 r102.length c_r102)), (1, 0, (.slice a_r102 r102.length c_r102))] (by kernel_rfl) (fun _ => by kernel_rfl) ?_
                      refine WO.nil ?_
                      have he := Option.some.inj hr2
                      subst j139
                      refine En.weaken (fr' := [(0, (.slice a_r102 r102.length c_r102)), (1, (.slice a_p1 p1.length c_p1)), (5, (.slice a_s16 s16.length c_s16)), (7, (.slice a_p0 p0.length c_p0)), (8, (.int .i64 s72))]) (En.round ⟨I122, a_r102, c_r102, rfl, Mem.Le.refl _, hS137, (RSl.mono h_r102 ((hl108.trans hl115).trans hl123))⟩) (Sub.cons rfl (Sub.cons rfl (Sub.cons rfl (Sub.cons rfl (Sub.cons rfl Sub.nil)))))
                    · replace hr2 := cond_f hc hr2
                      refine W.skip ?_
                      have he := Option.some.inj hr2
                      subst j139
                      refine En.weaken (fr' := [(0, (.slice a_s71 s71.length c_s71)), (1, (.slice a_p1 p1.length c_p1)), (5, (.slice a_s16 s16.length c_s16)), (7, (.slice a_p0 p0.length c_p0)), (8, (.int .i64 s72))]) (En.round ⟨I122, a_s71, c_s71, rfl, Mem.Le.refl _, hS137, (RSl.mono h_s71 ((((hl83.trans hl100).trans hl108).trans hl115).trans hl123))⟩) (Sub.cons rfl (Sub.cons rfl (Sub.cons rfl (Sub.cons rfl (Sub.cons rfl Sub.nil)))))
                  case restj139 =>
                    rintro _ w143 ⟨I141, a_j139, c_j139, rfl, hl142, hS144, h_j139⟩
                    refine En.in_normal ?_
                    refine En.next ?_
                    refine W.region (l := [0, 1, 2]) (by kernel_rfl) ?_
                    refine WO.vals [(0, 48, (.int .i64 s72)), (1, 49, (.int .i64 (w64 (s72 + 1)))), (2, 8, (.int .i64 (w64 (s72 + 1))))] (by kernel_rfl) (fun _ => by kernel_rfl) ?_
                    refine WO.nil ?_
                    refine En.weaken (fr' := [(0, (.slice a_j139 j139.length c_j139)), (1, (.slice a_p1 p1.length c_p1)), (5, (.slice a_s16 s16.length c_s16)), (7, (.slice a_p0 p0.length c_p0)), (8, (.int .i64 (w64 (s72 + 1))))]) (En.round ⟨(j139, (w64 (s72 + 1))), (Option.some.inj hr1).symm, I141, a_j139, c_j139, rfl, ((((((hl70.trans hl83).trans hl100).trans hl108).trans hl115).trans hl123).trans hl142), hS144, h_j139⟩) (Sub.cons rfl (Sub.cons rfl (Sub.cons rfl (Sub.cons rfl (Sub.cons rfl Sub.nil)))))
        · replace hr1 := cond_f hc hr1
          refine W.exit ?_
          refine En.nx_exit ?_
          refine En.rd_exit ?_
          have ht := hext68 _ (Option.some.inj hr1).symm
          subst t68
          refine En.in_hit ?_
          refine En.next ?_
          refine W.seq ?_
          refine W.region (l := [0, 1, 2, 3, 4, 5, 6, 7, 8, 9, 10, 11, 12, 13]) (by kernel_rfl) ?_
          refine WO.vals [(0, 93, (.slice a_s71 s71.length c_s71))] (by kernel_rfl) (fun _ => by kernel_rfl) ?_
          obtain ⟨r193, hx_r188, hr⟩ := bind_some hr
          refine WO.call rfl (by kernel_rfl) rfl (f := 10) (args := #[(.slice a_s71 s71.length c_s71)]) (by kernel_rfl) (member_Check_ok h_s71 hS75 hx_r188) ?_
          rintro _ w189 ⟨I190, rfl, hl191, hS192⟩
          refine ⟨_, rfl, trivial, ?_⟩
          refine WO.vals [(2, 95, (.slice a_s71 s71.length c_s71))] (by kernel_rfl) (fun _ => by kernel_rfl) ?_
          obtain ⟨r199, hx_r194, hr⟩ := bind_some hr
          refine WO.call rfl (by kernel_rfl) rfl (f := 11) (args := #[(.slice a_s71 s71.length c_s71)]) (by kernel_rfl) (registrarref18_Check_ok (RSl.mono h_s71 hl191) hS192 hx_r194) ?_
          rintro _ w195 ⟨I196, rfl, hl197, hS198⟩
          refine ⟨_, rfl, trivial, ?_⟩
          refine WO.vals [(4, 97, (.bool (r193 == r199))), (5, 98, (.bool (r193 == r199)))] (by kernel_rfl) (fun _ => by kernel_rfl) ?_
          obtain ⟨j200, hr1, hr⟩ := bind_some hr
          refine WO.join (l1 := [6, 7, 8, 9]) (l2 := [10, 11, 12, 13]) (J := (fun fr w => ∃ (I202 : Mem), fr = [(102, (.bool j200))] ∧ I196.Le I202 ∧ St E w I202 Os)) ?restj200 ?waysj200
          case waysj200 =>
            refine WO.caseb (r193 == r199) (fun hc => ?_) (fun hc => ?_)
            · replace hr1 := cond_t hc hr1
              refine WO.reslot 98 rfl (show Value.bool (r193 == r199) = Value.bool true by rw [hc]) ?_
              refine WO.vals [(6, 99, (.slice a_p0 p0.length c_p0)), (7, 100, (.slice a_s16 s16.length c_s16))] (by kernel_rfl) (fun _ => by kernel_rfl) ?_
              have hS204 := hS198.publish
              have hp205 := ((OwnSl.mono h_s16 ((hl70.trans hl191).trans hl197))).publish hS198
              obtain ⟨r211, hx_r206, hr1⟩ := bind_some hr1
              refine WO.call rfl (by kernel_rfl) rfl (f := 9) (args := #[(.slice a_p0 p0.length c_p0), (.slice a_s16 s16.length c_s16)]) (by kernel_rfl) (registrarref18_Same_ok (RSl.mono h_p0 (((((hl4.trans hl15).trans hl70).trans hl191).trans hl197).trans (Mem.le_with I196 C_s16))) hp205 hS204 hx_r206) ?_
              rintro _ w207 ⟨I208, rfl, hl209, hS210⟩
              have hS212 := St.back hS198 hl209 hS210
              refine ⟨_, rfl, trivial, ?_⟩
              refine WO.vals [(9, 102, (.bool r211))] (by kernel_rfl) (fun _ => by kernel_rfl) ?_
              have hS213 := hS212.drop
              have he := Option.some.inj hr1
              subst j200
              refine WO.weaken (fr' := [(102, (.bool r211))]) (WO.meet ⟨I196, rfl, Mem.Le.refl _, hS213⟩) (Sub.cons rfl Sub.nil)
            · replace hr1 := cond_f hc hr1
              refine WO.reslot 98 rfl (show Value.bool (r193 == r199) = Value.bool false by rw [hc]) ?_
              refine WO.pass rfl (by kernel_rfl) rfl ?_
              refine WO.pass rfl (by kernel_rfl) rfl ?_
              refine WO.pass rfl (by kernel_rfl) rfl ?_
              refine WO.vals [(9, 102, (.bool false))] (by kernel_rfl) (fun _ => by kernel_rfl) ?_
              have hS214 := hS198.drop
              have he := Option.some.inj hr1
              subst j200
              refine WO.weaken (fr' := [(102, (.bool false))]) (WO.meet ⟨I196, rfl, Mem.Le.refl _, hS214⟩) (Sub.cons rfl Sub.nil)
          case restj200 =>
            rintro _ w215 ⟨I202, rfl, hl203, hS216⟩
            refine WO.vals [(10, 103, (.bool j200))] (by kernel_rfl) (fun _ => by kernel_rfl) ?_
            obtain ⟨j217, hr1, hr⟩ := bind_some hr
            refine WO.join (l1 := [11, 12]) (l2 := [13]) (J := (fun fr w => ∃ (I219 : Mem), fr = [(105, (.bool j217))] ∧ I202.Le I219 ∧ St E w I219 Os)) ?restj217 ?waysj217
            case waysj217 =>
              refine WO.caseb j200 (fun hc => ?_) (fun hc => ?_)
              · replace hr1 := cond_t hc hr1
                refine WO.reslot 103 rfl (show Value.bool j200 = Value.bool true by rw [hc]) ?_
                obtain ⟨r226, hx_r221, hr1⟩ := bind_some hr1
                refine WO.call rfl (by kernel_rfl) rfl (f := 5) (args := #[]) (by kernel_rfl) (registrarlaw18_works_ok  hS216 hx_r221) ?_
                rintro _ w222 ⟨I223, rfl, hl224, hS225⟩
                refine ⟨_, rfl, trivial, ?_⟩
                refine WO.vals [(12, 105, (.bool r226))] (by kernel_rfl) (fun _ => by kernel_rfl) ?_
                have he := Option.some.inj hr1
                subst j217
                refine WO.weaken (fr' := [(105, (.bool r226))]) (WO.meet ⟨I223, rfl, hl224, hS225⟩) (Sub.cons rfl Sub.nil)
              · replace hr1 := cond_f hc hr1
                refine WO.reslot 103 rfl (show Value.bool j200 = Value.bool false by rw [hc]) ?_
                refine WO.pass rfl (by kernel_rfl) rfl ?_
                refine WO.vals [(12, 105, (.bool false))] (by kernel_rfl) (fun _ => by kernel_rfl) ?_
                have he := Option.some.inj hr1
                subst j217
                refine WO.weaken (fr' := [(105, (.bool false))]) (WO.meet ⟨I202, rfl, Mem.Le.refl _, hS216⟩) (Sub.cons rfl Sub.nil)
            case restj217 =>
              rintro _ w227 ⟨I219, rfl, hl220, hS228⟩
              refine WO.vals [(13, 4, (.bool j217))] (by kernel_rfl) (fun _ => by kernel_rfl) ?_
              refine WO.nil ?_
              refine En.next ?_
              refine W.ret ?_
              have he := Option.some.inj hr
              subst r
              exact En.ret1 rfl (.bool j217) rfl ⟨I219, rfl, ((((((hl4.trans hl15).trans hl70).trans hl191).trans hl197).trans hl203).trans hl220), hS228⟩
end Go.Proofs.YthndadengamanaaGreat
