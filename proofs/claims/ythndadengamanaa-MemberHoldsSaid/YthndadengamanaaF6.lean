/- What functions of the program come to, each by a plain one. Conditions: none. -/
import Derived.Test.YthndadengamanaaF5
set_option maxRecDepth 100000
namespace Go.Proofs.Ythndadengamanaa
open Go.Gv
noncomputable def registrarlaw18_MemberHolds (p0 : List registrarlaw18_Act) : Option Bool := (loopO (fun (s : (List api_Role) × Int) => match s with | (s16, s17) => (bif ((decide (s17 < (p0.length : Int))) && (decide (s17 < 40))) then (idx p0 s17).bind (fun (x24 : registrarlaw18_Act) => (registrarlaw18_long x24).bind (fun (r30 : Bool) => (bif r30 then (registrarlaw18_works).bind (fun (r36 : Bool) => some (.inr (.inl r36))) else (idx p0 s17).bind (fun (x39 : registrarlaw18_Act) => (registrarlaw18_done s16 x39).bind (fun ((r45, r46) : (List api_Role) × Int) => ((bif (r46 == 0) then some r45 else some s16)).bind (fun (j47 : List api_Role) => (member_Check j47).bind (fun (r58 : Int) => (bif (r58 != 0) then some (.inr (.inl false)) else some (.inl (j47, (w64 (s17 + 1)))))))))))) else some (.inr (.inr s16)))) (([{ z_api_Role with Name := (⟨#[114, 111, 111, 116]⟩ : ByteArray) }] : List api_Role), 0)).bind (fun (t : Bool ⊕ (List api_Role)) => match t with | (.inl s38) => some s38 | (.inr s60) => (forN (fun (i64 : Nat) => fun (_s : Unit) => (idx s60 (i64 : Int)).bind (fun (x73 : api_Role) => (idx s60 (i64 : Int)).bind (fun (x74 : api_Role) => (member_Is s60 x73.Name x74.Name).bind (fun (r80 : Bool) => (bif (!r80) then some (.inr false) else (forN (fun (i86 : Nat) => fun (_s : Unit) => ((bif ((i86 : Int) != (i64 : Int)) then (idx s60 (i64 : Int)).bind (fun (x99 : api_Role) => (idx s60 (i86 : Int)).bind (fun (x100 : api_Role) => (member_Is s60 x99.Name x100.Name).bind (fun (r106 : Bool) => some r106))) else some false)).bind (fun (j95 : Bool) => ((bif j95 then (idx s60 (i86 : Int)).bind (fun (x113 : api_Role) => (idx s60 (i64 : Int)).bind (fun (x114 : api_Role) => (member_Is s60 x113.Name x114.Name).bind (fun (r120 : Bool) => some r120))) else some false)).bind (fun (j109 : Bool) => (bif j109 then some (.inr false) else (forN (fun (i128 : Nat) => fun (_s : Unit) => (idx s60 (i64 : Int)).bind (fun (x137 : api_Role) => (idx s60 (i86 : Int)).bind (fun (x138 : api_Role) => (member_Is s60 x137.Name x138.Name).bind (fun (r144 : Bool) => ((bif r144 then (idx s60 (i86 : Int)).bind (fun (x149 : api_Role) => (idx s60 (i128 : Int)).bind (fun (x150 : api_Role) => (member_Is s60 x149.Name x150.Name).bind (fun (r156 : Bool) => some r156))) else some false)).bind (fun (j145 : Bool) => ((bif j145 then (idx s60 (i64 : Int)).bind (fun (x163 : api_Role) => (idx s60 (i128 : Int)).bind (fun (x164 : api_Role) => (member_Is s60 x163.Name x164.Name).bind (fun (r170 : Bool) => some (!r170)))) else some false)).bind (fun (j159 : Bool) => (bif j159 then some (.inr false) else some (.inl ())))))))) s60.length 0 ()).bind (fun (t : Unit ⊕ (Bool)) => match t with | .inl _ => some (.inl ()) | .inr s174 => some (.inr s174)))))) s60.length 0 ()).bind (fun (t : Unit ⊕ (Bool)) => match t with | .inl _ => some (.inl ()) | .inr s124 => some (.inr s124))))))) s60.length 0 ()).bind (fun (t : Unit ⊕ (Bool)) => match t with | .inl _ => ((bif (decide ((s60.length : Int) > 0)) then (registrarlaw18_works).bind (fun (r190 : Bool) => some r190) else some false)).bind (fun (j181 : Bool) => some j181) | .inr s82 => some s82))
set_option maxHeartbeats 1000000 in
theorem registrarlaw18_MemberHolds_ok {E w : World} {I : Mem} {Os : List Mem} {p0 : List registrarlaw18_Act} {a_p0 : Option Addr} {c_p0 : Nat} (h_p0 : RSl 3 R_registrarlaw18_Act I a_p0 c_p0 p0) (hS : St E w I Os) {r : Bool} (hr : registrarlaw18_MemberHolds p0 = some r) :
    Calls P 4 #[(.slice a_p0 p0.length c_p0)] w (fun e w' => ∃ (I' : Mem), e = .returned (.bool r) ∧ I.Le I' ∧ St E w' I' Os) := by
  refine calls_W (args := [(.slice a_p0 p0.length c_p0)]) (fn := Try.f4) rfl rfl rfl ?_
  unfold registrarlaw18_MemberHolds at hr
  refine W.seq ?_
  refine W.region (l := [0]) (by kernel_rfl) ?_
  refine WO.vals [(0, 2, (.bool false))] (by kernel_rfl) (fun _ => by kernel_rfl) ?_
  refine WO.nil ?_
  refine En.next ?_
  refine W.seq ?_
  refine W.region (l := [0, 1, 2]) (by kernel_rfl) ?_
  refine WO.vals [(0, 10, (.agg (cs_api_Role ({ z_api_Role with Name := (⟨#[114, 111, 111, 116]⟩ : ByteArray) }) zw_api_Role).toArray))] (by kernel_rfl) (fun _ => by kernel_rfl) ?_
  have hk8 : ok_api_Role I ({ z_api_Role with Name := (⟨#[114, 111, 111, 116]⟩ : ByteArray) }) zw_api_Role := ⟨SlAt.nil⟩
  refine WO.newSlice (rel := R_api_Role) (xs := ([{ z_api_Role with Name := (⟨#[114, 111, 111, 116]⟩ : ByteArray) }] : List api_Role)) hS rfl (by kernel_rfl) rfl 27 2 [(cs_api_Role ({ z_api_Role with Name := (⟨#[114, 111, 111, 116]⟩ : ByteArray) }) zw_api_Role)] (by kernel_rfl) rfl ((Elr.cons ⟨zw_api_Role, rfl, hk8⟩ Elr.nil)) (fun _ _ _ => trivial) ?_
  intro a4 C2 w6 hS5 ho3
  obtain ⟨I9, hl10, hS12, hp11⟩ := OwnSl.pub ho3 hS5
  refine WO.vals [(2, 3, (.slice a4 1 1))] (by kernel_rfl) (fun _ => by kernel_rfl) ?_
  refine WO.nil ?_
  refine En.next ?_
  refine W.seq ?_
  refine W.seq ?_
  refine W.region (l := [0]) (by kernel_rfl) ?_
  refine WO.vals [(0, 4, (.int .i64 0))] (by kernel_rfl) (fun _ => by kernel_rfl) ?_
  refine WO.nil ?_
  refine En.next ?_
  refine W.block ?_
  obtain ⟨t13, hloop18, hr⟩ := bind_some hr
  refine W.weaken (fr' := [(0, (.slice a_p0 p0.length c_p0)), (3, (.slice a4 1 1)), (4, (.int .i64 0))]) (W.loopO hloop18 (fun (s : (List api_Role) × Int) fr w => match s with | (s16, s17) => ∃ (I14 : Mem), ∃ (a_s16 : Option Addr), ∃ (c_s16 : Nat), fr = [(0, (.slice a_p0 p0.length c_p0)), (3, (.slice a_s16 s16.length c_s16)), (4, (.int .i64 s17))] ∧ I9.Le I14 ∧ St E w I14 Os ∧ RSl 2 R_api_Role I14 a_s16 c_s16 s16) ⟨I9, a4, 1, rfl, Mem.Le.refl _, hS12, hp11⟩ ?_) (Sub.cons rfl (Sub.cons rfl (Sub.cons rfl Sub.nil)))
  rintro ⟨s16, s17⟩ _ w19 ⟨I14, a_s16, c_s16, rfl, hl15, hS20, h_s16⟩ x21 hr1 hext13
  refine W.seq ?_
  refine W.seq ?_
  refine W.region (l := [0, 1, 2, 3, 4, 5, 6, 7]) (by kernel_rfl) ?_
  refine WO.vals [(0, 12, (.int .i64 s17)), (1, 13, (.slice a_p0 p0.length c_p0)), (2, 14, (.int .i64 (p0.length : Int))), (3, 15, (.bool (decide (s17 < (p0.length : Int))))), (4, 16, (.bool (decide (s17 < (p0.length : Int)))))] (by kernel_rfl) (fun _ => by kernel_rfl) ?_
  refine WO.join (l1 := [5, 6, 7]) (l2 := []) (J := fun frx wx => frx = [(19, (.bool ((decide (s17 < (p0.length : Int))) && (decide (s17 < 40))))), (0, (.slice a_p0 p0.length c_p0)), (3, (.slice a_s16 s16.length c_s16)), (4, (.int .i64 s17))] ∧ w19 = wx) ?restm22 ?waysm22
  case waysm22 =>
    refine WO.caseb (decide (s17 < (p0.length : Int))) (fun hc => ?_) (fun hc => ?_)
    · skip
      refine WO.reslot 16 rfl (show Value.bool (decide (s17 < (p0.length : Int))) = Value.bool true by rw [hc]) ?_
      refine WO.vals [(5, 17, (.int .i64 s17)), (6, 18, (.bool (decide (s17 < 40)))), (7, 19, (.bool (decide (s17 < 40))))] (by kernel_rfl) (fun _ => by kernel_rfl) ?_
      refine WO.weaken (fr' := [(19, (.bool ((decide (s17 < (p0.length : Int))) && (decide (s17 < 40))))), (0, (.slice a_p0 p0.length c_p0)), (3, (.slice a_s16 s16.length c_s16)), (4, (.int .i64 s17))]) (WO.meet ⟨rfl, rfl⟩) (Sub.cons (by rw [hc]; rfl) (Sub.cons rfl (Sub.cons rfl (Sub.cons rfl Sub.nil))))
    · skip
      refine WO.reslot 16 rfl (show Value.bool (decide (s17 < (p0.length : Int))) = Value.bool false by rw [hc]) ?_
      refine WO.pass rfl (by kernel_rfl) rfl ?_
      refine WO.pass rfl (by kernel_rfl) rfl ?_
      refine WO.vals [(7, 19, (.bool false))] (by kernel_rfl) (fun _ => by kernel_rfl) ?_
      refine WO.weaken (fr' := [(19, (.bool ((decide (s17 < (p0.length : Int))) && (decide (s17 < 40))))), (0, (.slice a_p0 p0.length c_p0)), (3, (.slice a_s16 s16.length c_s16)), (4, (.int .i64 s17))]) (WO.meet ⟨rfl, rfl⟩) (Sub.cons (by rw [hc]; rfl) (Sub.cons rfl (Sub.cons rfl (Sub.cons rfl Sub.nil))))
  case restm22 =>
    rintro _ _ ⟨rfl, rfl⟩
    refine WO.nil ?_
    refine En.next ?_
    refine W.cond (b := ((decide (s17 < (p0.length : Int))) && (decide (s17 < 40)))) rfl rfl (fun hc => ?_) (fun hc => ?_)
    · replace hr1 := cond_t hc hr1
      refine W.skip ?_
      refine En.next ?_
      refine W.seq ?_
      refine W.block ?_
      refine W.seq ?_
      refine W.seq ?_
      refine W.region (l := [0, 1, 2, 3, 4]) (by kernel_rfl) ?_
      refine WO.vals [(0, 22, (.slice a_p0 p0.length c_p0)), (1, 23, (.int .i64 s17))] (by kernel_rfl) (fun _ => by kernel_rfl) ?_
      obtain ⟨x24, hx_x24, hr1⟩ := bind_some hr1
      obtain ⟨h0_x24, h1_x24, hx_x24⟩ := idx_some hx_x24
      obtain ⟨ha_x24, cs_x24, hn_x24, hr_x24, hc_x24⟩ := ((RSl.mono h_p0 (hl10.trans hl15))).el _ _ hx_x24
      obtain rfl := hr_x24
      refine WO.indexAddr (e := 38) (sz := 3) rfl (by kernel_rfl) (by kernel_rfl) (by kernel_rfl) rfl ha_x24 rfl h0_x24 h1_x24 ?_
      refine WO.loadN rfl (by kernel_rfl) (by kernel_rfl) rfl ((cs_registrarlaw18_Act x24)) (by kernel_rfl) (fun w' hw' => hc_x24.cells (k := 0) (by kernel_rfl) rfl ((rd_f hS20.im) w' hw')) ?_
      obtain ⟨r30, hx_r25, hr1⟩ := bind_some hr1
      refine WO.call rfl (by kernel_rfl) rfl (f := 16) (args := #[(.agg (cs_registrarlaw18_Act x24).toArray)]) (by kernel_rfl) (registrarlaw18_long_ok  hS20 hx_r25) ?_
      rintro _ w26 ⟨I27, rfl, hl28, hS29⟩
      refine ⟨_, rfl, trivial, ?_⟩
      refine WO.nil ?_
      refine En.next ?_
      refine W.cond (b := r30) rfl rfl (fun hc => ?_) (fun hc => ?_)
      · replace hr1 := cond_t hc hr1
        refine W.seq ?_
        refine W.region (l := [0, 1]) (by kernel_rfl) ?_
        obtain ⟨r36, hx_r31, hr1⟩ := bind_some hr1
        refine WO.call rfl (by kernel_rfl) rfl (f := 7) (args := #[]) (by kernel_rfl) (registrarlaw18_works_ok  hS29 hx_r31) ?_
        rintro _ w32 ⟨I33, rfl, hl34, hS35⟩
        refine ⟨_, rfl, trivial, ?_⟩
        refine WO.vals [(1, 2, (.bool r36))] (by kernel_rfl) (fun _ => by kernel_rfl) ?_
        refine WO.nil ?_
        refine En.next ?_
        refine W.ret ?_
        refine En.nx_ret ?_
        refine En.in_ret ?_
        refine En.nx_ret ?_
        refine En.rd_ret ?_
        have ht := hext13 _ (Option.some.inj hr1).symm
        subst t13
        refine En.in_ret ?_
        refine En.nx_ret ?_
        have he := Option.some.inj hr
        subst r
        exact En.ret1 rfl (.bool r36) rfl ⟨I33, rfl, (((hl10.trans hl15).trans hl28).trans hl34), hS35⟩
      · replace hr1 := cond_f hc hr1
        refine W.skip ?_
        refine En.next ?_
        refine W.seq ?_
        refine W.region (l := [0, 1, 2, 3, 4, 5, 6, 7, 8, 9, 10]) (by kernel_rfl) ?_
        refine WO.vals [(0, 29, (.slice a_s16 s16.length c_s16)), (1, 30, (.slice a_p0 p0.length c_p0)), (2, 31, (.int .i64 s17))] (by kernel_rfl) (fun _ => by kernel_rfl) ?_
        obtain ⟨x39, hx_x39, hr1⟩ := bind_some hr1
        obtain ⟨h0_x39, h1_x39, hx_x39⟩ := idx_some hx_x39
        obtain ⟨ha_x39, cs_x39, hn_x39, hr_x39, hc_x39⟩ := ((RSl.mono h_p0 ((hl10.trans hl15).trans hl28))).el _ _ hx_x39
        obtain rfl := hr_x39
        refine WO.indexAddr (e := 38) (sz := 3) rfl (by kernel_rfl) (by kernel_rfl) (by kernel_rfl) rfl ha_x39 rfl h0_x39 h1_x39 ?_
        refine WO.loadN rfl (by kernel_rfl) (by kernel_rfl) rfl ((cs_registrarlaw18_Act x39)) (by kernel_rfl) (fun w' hw' => hc_x39.cells (k := 0) (by kernel_rfl) rfl ((rd_f hS29.im) w' hw')) ?_
        obtain ⟨⟨r45, r46⟩, hx_r40, hr1⟩ := bind_some hr1
        refine WO.call rfl (by kernel_rfl) rfl (f := 17) (args := #[(.slice a_s16 s16.length c_s16), (.agg (cs_registrarlaw18_Act x39).toArray)]) (by kernel_rfl) (registrarlaw18_done_ok (RSl.mono h_s16 hl28) hS29 hx_r40) ?_
        rintro _ w41 ⟨I42, a_r45, c_r45, rfl, hl43, hS44, h_r45⟩
        refine ⟨_, rfl, trivial, ?_⟩
        refine WO.vals [(6, 28, (.tuple #[(.slice a_r45 r45.length c_r45), (.int .i64 r46)])), (7, 35, (.slice a_r45 r45.length c_r45)), (8, 36, (.int .i64 r46)), (9, 5, (.slice a_r45 r45.length c_r45)), (10, 6, (.int .i64 r46))] (by kernel_rfl) (fun _ => by kernel_rfl) ?_
        refine WO.nil ?_
        refine En.next ?_
        refine W.seq ?_
        refine W.seq ?_
        refine W.region (l := [0, 1]) (by kernel_rfl) ?_
        refine WO.vals [(0, 37, (.int .i64 r46)), (1, 38, (.bool (r46 == 0)))] (by kernel_rfl) (fun _ => by kernel_rfl) ?_
        refine WO.nil ?_
        refine En.next ?_
        obtain ⟨j47, hr2, hr1⟩ := bind_some hr1
        refine W.join (J := (fun fr w => ∃ (I49 : Mem), ∃ (a_j47 : Option Addr), ∃ (c_j47 : Nat), fr = [(0, (.slice a_p0 p0.length c_p0)), (3, (.slice a_j47 j47.length c_j47)), (4, (.int .i64 s17))] ∧ I42.Le I49 ∧ St E w I49 Os ∧ RSl 2 R_api_Role I49 a_j47 c_j47 j47)) ?restj47 ?waysj47
        case waysj47 =>
          refine W.cond (b := (r46 == 0)) rfl rfl (fun hc => ?_) (fun hc => ?_)
          · replace hr2 := cond_t hc hr2
            refine W.region (l := [0, 1]) (by kernel_rfl) ?_
            refine WO.vals [(0, 39, (.slice a_r45 r45.length c_r45)), (1, 3, (.slice a_r45 r45.length c_r45))] (by kernel_rfl) (fun _ => by kernel_rfl) ?_
            refine WO.nil ?_
            have he := Option.some.inj hr2
            subst j47
            refine En.weaken (fr' := [(0, (.slice a_p0 p0.length c_p0)), (3, (.slice a_r45 r45.length c_r45)), (4, (.int .i64 s17))]) (En.round ⟨I42, a_r45, c_r45, rfl, Mem.Le.refl _, hS44, h_r45⟩) (Sub.cons rfl (Sub.cons rfl (Sub.cons rfl Sub.nil)))
          · replace hr2 := cond_f hc hr2
            refine W.skip ?_
            have he := Option.some.inj hr2
            subst j47
            refine En.weaken (fr' := [(0, (.slice a_p0 p0.length c_p0)), (3, (.slice a_s16 s16.length c_s16)), (4, (.int .i64 s17))]) (En.round ⟨I42, a_s16, c_s16, rfl, Mem.Le.refl _, hS44, (RSl.mono h_s16 (hl28.trans hl43))⟩) (Sub.cons rfl (Sub.cons rfl (Sub.cons rfl Sub.nil)))
        case restj47 =>
          rintro _ w51 ⟨I49, a_j47, c_j47, rfl, hl50, hS52, h_j47⟩
          refine En.next ?_
          refine W.seq ?_
          refine W.region (l := [0, 1, 2]) (by kernel_rfl) ?_
          refine WO.vals [(0, 40, (.slice a_j47 j47.length c_j47))] (by kernel_rfl) (fun _ => by kernel_rfl) ?_
          obtain ⟨r58, hx_r53, hr1⟩ := bind_some hr1
          refine WO.call rfl (by kernel_rfl) rfl (f := 18) (args := #[(.slice a_j47 j47.length c_j47)]) (by kernel_rfl) (member_Check_ok h_j47 hS52 hx_r53) ?_
          rintro _ w54 ⟨I55, rfl, hl56, hS57⟩
          refine ⟨_, rfl, trivial, ?_⟩
          refine WO.vals [(2, 42, (.bool (r58 != 0)))] (by kernel_rfl) (fun _ => by kernel_rfl) ?_
          refine WO.nil ?_
          refine En.next ?_
          refine W.cond (b := (r58 != 0)) rfl rfl (fun hc => ?_) (fun hc => ?_)
          · replace hr1 := cond_t hc hr1
            refine W.seq ?_
            refine W.region (l := [0]) (by kernel_rfl) ?_
            refine WO.vals [(0, 2, (.bool false))] (by kernel_rfl) (fun _ => by kernel_rfl) ?_
            refine WO.nil ?_
            refine En.next ?_
            refine W.ret ?_
            refine En.in_ret ?_
            refine En.nx_ret ?_
            refine En.rd_ret ?_
            have ht := hext13 _ (Option.some.inj hr1).symm
            subst t13
            refine En.in_ret ?_
            refine En.nx_ret ?_
            have he := Option.some.inj hr
            subst r
            exact En.ret1 rfl (.bool false) rfl ⟨I55, rfl, (((((hl10.trans hl15).trans hl28).trans hl43).trans hl50).trans hl56), hS57⟩
          · replace hr1 := cond_f hc hr1
            refine W.skip ?_
            refine En.in_normal ?_
            refine En.next ?_
            refine W.region (l := [0, 1, 2]) (by kernel_rfl) ?_
            refine WO.vals [(0, 20, (.int .i64 s17)), (1, 21, (.int .i64 (w64 (s17 + 1)))), (2, 4, (.int .i64 (w64 (s17 + 1))))] (by kernel_rfl) (fun _ => by kernel_rfl) ?_
            refine WO.nil ?_
            refine En.weaken (fr' := [(0, (.slice a_p0 p0.length c_p0)), (3, (.slice a_j47 j47.length c_j47)), (4, (.int .i64 (w64 (s17 + 1))))]) (En.round ⟨(j47, (w64 (s17 + 1))), (Option.some.inj hr1).symm, I55, a_j47, c_j47, rfl, ((((hl15.trans hl28).trans hl43).trans hl50).trans hl56), hS57, (RSl.mono h_j47 hl56)⟩) (Sub.cons rfl (Sub.cons rfl (Sub.cons rfl Sub.nil)))
    · replace hr1 := cond_f hc hr1
      refine W.exit ?_
      refine En.nx_exit ?_
      refine En.rd_exit ?_
      have ht := hext13 _ (Option.some.inj hr1).symm
      subst t13
      refine En.in_hit ?_
      refine En.next ?_
      refine W.seq ?_
      refine W.seq ?_
      refine W.region (l := [0]) (by kernel_rfl) ?_
      refine WO.vals [(0, 7, (.int .i64 0))] (by kernel_rfl) (fun _ => by kernel_rfl) ?_
      refine WO.nil ?_
      refine En.next ?_
      refine W.block ?_
      obtain ⟨t193, hloop197, hr⟩ := bind_some hr
      have hlt201 := (h_s16).len_lt
      refine W.weaken (fr' := [(3, (.slice a_s16 s16.length c_s16)), (7, (.int .i64 ((0 : Nat) : Int)))]) (W.forN (m := s16.length) hloop197 (fun (i196 : Nat) => fun (_s : Unit) fr w => ∃ (I194 : Mem), fr = [(3, (.slice a_s16 s16.length c_s16)), (7, (.int .i64 (i196 : Int)))] ∧ I14.Le I194 ∧ St E w I194 Os) ⟨I14, rfl, Mem.Le.refl _, hS20⟩ ?roundt193 ?lastt193) (Sub.cons rfl (Sub.cons rfl Sub.nil))
      case roundt193 =>
        rintro i196 _ _ w198 hi202 ⟨I194, rfl, hl195, hS199⟩ x200 hr1 hext193
        refine W.seq ?_
        refine W.seq ?_
        refine W.region (l := [0, 1, 2, 3]) (by kernel_rfl) ?_
        refine WO.vals [(0, 43, (.int .i64 (i196 : Int))), (1, 44, (.slice a_s16 s16.length c_s16)), (2, 45, (.int .i64 (s16.length : Int))), (3, 46, (.bool (decide ((i196 : Int) < (s16.length : Int)))))] (by kernel_rfl) (fun _ => by kernel_rfl) ?_
        refine WO.nil ?_
        refine En.next ?_
        refine W.cond (b := (decide ((i196 : Int) < (s16.length : Int)))) rfl rfl (fun hc => ?_) (fun hc => ?_)
        rotate_left
        · exact absurd hc (by first | (simp; done) | (simp; omega))
        clear hc
        refine W.skip ?_
        refine En.next ?_
        refine W.seq ?_
        refine W.block ?_
        refine W.seq ?_
        refine W.seq ?_
        have hS203 := hS199.drew
        refine W.draw (l := [0, 1, 2, 3, 4, 5, 6, 7, 8, 9, 10, 11, 12]) (by kernel_rfl) 11 (KR I194 []) qR (.back (by kernel_rfl)) (by kernel_rfl) (KR.nil hS203.im) ?_
        generalize World.drew _ = w204 at *
        refine WO.vals [(0, 49, (.slice a_s16 s16.length c_s16)), (1, 50, (.slice a_s16 s16.length c_s16)), (2, 51, (.int .i64 (i196 : Int)))] (by kernel_rfl) (fun _ => by kernel_rfl) ?_
        obtain ⟨x205, hx_x205, hr1⟩ := bind_some hr1
        obtain ⟨h0_x205, h1_x205, hx_x205⟩ := idx_some hx_x205
        obtain ⟨ha_x205, cs_x205, hn_x205, hr_x205, hc_x205⟩ := ((RSl.mono h_s16 hl195)).el _ _ hx_x205
        obtain ⟨w_x205, rfl, h_x205⟩ := hr_x205
        refine WO.indexAddr (e := 27) (sz := 2) rfl (by kernel_rfl) (by kernel_rfl) (by kernel_rfl) rfl ha_x205 rfl h0_x205 h1_x205 ?_
        refine WO.vals [(4, 53, (.pointer (some ⟨bl a_s16, of a_s16 + ((i196 : Int)).toNat * 2, none⟩)))] (by kernel_rfl) (fun _ => by kernel_rfl) ?_
        refine WO.load rfl (by kernel_rfl) (by kernel_rfl) rfl (v := (.string x205.Name)) (fun w' hw' => hc_x205.cell0 (by kernel_rfl) ((rd_i hS203.im) w' hw')) ?_
        refine WO.vals [(6, 55, (.slice a_s16 s16.length c_s16)), (7, 56, (.int .i64 (i196 : Int)))] (by kernel_rfl) (fun _ => by kernel_rfl) ?_
        obtain ⟨x206, hx_x206, hr1⟩ := bind_some hr1
        obtain ⟨h0_x206, h1_x206, hx_x206⟩ := idx_some hx_x206
        obtain ⟨ha_x206, cs_x206, hn_x206, hr_x206, hc_x206⟩ := ((RSl.mono h_s16 hl195)).el _ _ hx_x206
        obtain ⟨w_x206, rfl, h_x206⟩ := hr_x206
        refine WO.indexAddr (e := 27) (sz := 2) rfl (by kernel_rfl) (by kernel_rfl) (by kernel_rfl) rfl ha_x206 rfl h0_x206 h1_x206 ?_
        refine WO.vals [(9, 58, (.pointer (some ⟨bl a_s16, of a_s16 + ((i196 : Int)).toNat * 2, none⟩)))] (by kernel_rfl) (fun _ => by kernel_rfl) ?_
        refine WO.load rfl (by kernel_rfl) (by kernel_rfl) rfl (v := (.string x206.Name)) (fun w' hw' => hc_x206.cell0 (by kernel_rfl) ((rd_i hS203.im) w' hw')) ?_
        refine WO.tail rfl ?_
        obtain ⟨r212, hx_r207, hr1⟩ := bind_some hr1
        refine WO.call rfl (by kernel_rfl) rfl (f := 14) (args := #[(.slice a_s16 s16.length c_s16), (.string x205.Name), (.string x206.Name)]) (by kernel_rfl) (member_Is_ok (RSl.mono h_s16 hl195) hS203 hx_r207) ?_
        rintro _ w208 ⟨I209, rfl, hl210, hS211⟩
        refine ⟨_, rfl, trivial, ?_⟩
        refine WO.vals [(12, 61, (.bool (!r212)))] (by kernel_rfl) (fun _ => by kernel_rfl) ?_
        refine WO.nil ?_
        refine En.next ?_
        refine W.cond (b := (!r212)) rfl rfl (fun hc => ?_) (fun hc => ?_)
        · replace hr1 := cond_t hc hr1
          refine W.seq ?_
          refine W.region (l := [0]) (by kernel_rfl) ?_
          refine WO.vals [(0, 2, (.bool false))] (by kernel_rfl) (fun _ => by kernel_rfl) ?_
          refine WO.nil ?_
          refine En.next ?_
          refine W.ret ?_
          refine En.nx_ret ?_
          refine En.in_ret ?_
          refine En.nx_ret ?_
          refine En.rd_ret ?_
          have ht := hext193 _ (Option.some.inj hr1).symm
          subst t193
          refine En.in_ret ?_
          refine En.nx_ret ?_
          have he := Option.some.inj hr
          subst r
          exact En.ret1 rfl (.bool false) rfl ⟨I209, rfl, (((hl10.trans hl15).trans hl195).trans hl210), hS211⟩
        · replace hr1 := cond_f hc hr1
          refine W.skip ?_
          refine En.next ?_
          refine W.seq ?_
          refine W.region (l := [0]) (by kernel_rfl) ?_
          refine WO.vals [(0, 8, (.int .i64 0))] (by kernel_rfl) (fun _ => by kernel_rfl) ?_
          refine WO.nil ?_
          refine En.next ?_
          refine W.block ?_
          obtain ⟨t215, hloop219, hr1⟩ := bind_some hr1
          have hlt223 := ((RSl.mono h_s16 (hl195.trans hl210))).len_lt
          refine W.weaken (fr' := [(3, (.slice a_s16 s16.length c_s16)), (7, (.int .i64 (i196 : Int))), (8, (.int .i64 ((0 : Nat) : Int)))]) (W.forN (m := s16.length) hloop219 (fun (i218 : Nat) => fun (_s : Unit) fr w => ∃ (I216 : Mem), fr = [(3, (.slice a_s16 s16.length c_s16)), (7, (.int .i64 (i196 : Int))), (8, (.int .i64 (i218 : Int)))] ∧ I209.Le I216 ∧ St E w I216 Os) ⟨I209, rfl, Mem.Le.refl _, hS211⟩ ?roundt215 ?lastt215) (Sub.cons rfl (Sub.cons rfl (Sub.cons rfl Sub.nil)))
          case roundt215 =>
            rintro i218 _ _ w220 hi224 ⟨I216, rfl, hl217, hS221⟩ x222 hr2 hext215
            refine W.seq ?_
            refine W.seq ?_
            refine W.region (l := [0, 1, 2, 3]) (by kernel_rfl) ?_
            refine WO.vals [(0, 62, (.int .i64 (i218 : Int))), (1, 63, (.slice a_s16 s16.length c_s16)), (2, 64, (.int .i64 (s16.length : Int))), (3, 65, (.bool (decide ((i218 : Int) < (s16.length : Int)))))] (by kernel_rfl) (fun _ => by kernel_rfl) ?_
            refine WO.nil ?_
            refine En.next ?_
            refine W.cond (b := (decide ((i218 : Int) < (s16.length : Int)))) rfl rfl (fun hc => ?_) (fun hc => ?_)
            rotate_left
            · exact absurd hc (by first | (simp; done) | (simp; omega))
            clear hc
            refine W.skip ?_
            refine En.next ?_
            refine W.seq ?_
            refine W.block ?_
            refine W.seq ?_
            refine W.seq ?_
            have hS225 := hS221.drew
            refine W.draw (l := [0, 1, 2, 3, 4, 5, 6, 7, 8, 9, 10, 11, 12, 13, 14, 15, 16, 17, 18, 19, 20, 21, 22, 23, 24, 25, 26, 27, 28, 29, 30]) (by kernel_rfl) 31 (KR I216 []) qR (.back (by kernel_rfl)) (by kernel_rfl) (KR.nil hS225.im) ?_
            generalize World.drew _ = w226 at *
            refine WO.vals [(0, 68, (.int .i64 (i218 : Int))), (1, 69, (.int .i64 (i196 : Int))), (2, 70, (.bool ((i218 : Int) != (i196 : Int)))), (3, 71, (.bool ((i218 : Int) != (i196 : Int))))] (by kernel_rfl) (fun _ => by kernel_rfl) ?_
            obtain ⟨j227, hr3, hr2⟩ := bind_some hr2
            refine WO.join (l1 := [4, 5, 6, 7, 8, 9, 10, 11, 12, 13, 14, 15, 16]) (l2 := [17, 18, 19, 20, 21, 22, 23, 24, 25, 26, 27, 28, 29, 30]) (J := (fun fr w => ∃ (I229 : Mem), fr = [(3, (.slice a_s16 s16.length c_s16)), (7, (.int .i64 (i196 : Int))), (8, (.int .i64 (i218 : Int))), (84, (.bool j227))] ∧ I216.Le I229 ∧ St E w I229 Os)) ?restj227 ?waysj227
            case waysj227 =>
              refine WO.caseb ((i218 : Int) != (i196 : Int)) (fun hc => ?_) (fun hc => ?_)
              · replace hr3 := cond_t hc hr3
                refine WO.reslot 71 rfl (show Value.bool ((i218 : Int) != (i196 : Int)) = Value.bool true by rw [hc]) ?_
                refine WO.vals [(4, 72, (.slice a_s16 s16.length c_s16)), (5, 73, (.slice a_s16 s16.length c_s16)), (6, 74, (.int .i64 (i196 : Int)))] (by kernel_rfl) (fun _ => by kernel_rfl) ?_
                obtain ⟨x231, hx_x231, hr3⟩ := bind_some hr3
                obtain ⟨h0_x231, h1_x231, hx_x231⟩ := idx_some hx_x231
                obtain ⟨ha_x231, cs_x231, hn_x231, hr_x231, hc_x231⟩ := ((RSl.mono h_s16 ((hl195.trans hl210).trans hl217))).el _ _ hx_x231
                obtain ⟨w_x231, rfl, h_x231⟩ := hr_x231
                refine WO.indexAddr (e := 27) (sz := 2) rfl (by kernel_rfl) (by kernel_rfl) (by kernel_rfl) rfl ha_x231 rfl h0_x231 h1_x231 ?_
                refine WO.vals [(8, 76, (.pointer (some ⟨bl a_s16, of a_s16 + ((i196 : Int)).toNat * 2, none⟩)))] (by kernel_rfl) (fun _ => by kernel_rfl) ?_
                refine WO.load rfl (by kernel_rfl) (by kernel_rfl) rfl (v := (.string x231.Name)) (fun w' hw' => hc_x231.cell0 (by kernel_rfl) ((rd_i hS225.im) w' hw')) ?_
                refine WO.vals [(10, 78, (.slice a_s16 s16.length c_s16)), (11, 79, (.int .i64 (i218 : Int)))] (by kernel_rfl) (fun _ => by kernel_rfl) ?_
                obtain ⟨x232, hx_x232, hr3⟩ := bind_some hr3
                obtain ⟨h0_x232, h1_x232, hx_x232⟩ := idx_some hx_x232
                obtain ⟨ha_x232, cs_x232, hn_x232, hr_x232, hc_x232⟩ := ((RSl.mono h_s16 ((hl195.trans hl210).trans hl217))).el _ _ hx_x232
                obtain ⟨w_x232, rfl, h_x232⟩ := hr_x232
                refine WO.indexAddr (e := 27) (sz := 2) rfl (by kernel_rfl) (by kernel_rfl) (by kernel_rfl) rfl ha_x232 rfl h0_x232 h1_x232 ?_
                refine WO.vals [(13, 81, (.pointer (some ⟨bl a_s16, of a_s16 + ((i218 : Int)).toNat * 2, none⟩)))] (by kernel_rfl) (fun _ => by kernel_rfl) ?_
                refine WO.load rfl (by kernel_rfl) (by kernel_rfl) rfl (v := (.string x232.Name)) (fun w' hw' => hc_x232.cell0 (by kernel_rfl) ((rd_i hS225.im) w' hw')) ?_
                obtain ⟨r238, hx_r233, hr3⟩ := bind_some hr3
                refine WO.call rfl (by kernel_rfl) rfl (f := 14) (args := #[(.slice a_s16 s16.length c_s16), (.string x231.Name), (.string x232.Name)]) (by kernel_rfl) (member_Is_ok (RSl.mono h_s16 ((hl195.trans hl210).trans hl217)) hS225 hx_r233) ?_
                rintro _ w234 ⟨I235, rfl, hl236, hS237⟩
                refine ⟨_, rfl, (KR.nil (hS237.im.of_le hl236)), ?_⟩
                refine WO.vals [(16, 84, (.bool r238))] (by kernel_rfl) (fun _ => by kernel_rfl) ?_
                have he := Option.some.inj hr3
                subst j227
                refine WO.weaken (fr' := [(3, (.slice a_s16 s16.length c_s16)), (7, (.int .i64 (i196 : Int))), (8, (.int .i64 (i218 : Int))), (84, (.bool r238))]) (WO.meet ⟨I235, rfl, hl236, hS237⟩) (Sub.cons rfl (Sub.cons rfl (Sub.cons rfl (Sub.cons rfl Sub.nil))))
              · replace hr3 := cond_f hc hr3
                refine WO.reslot 71 rfl (show Value.bool ((i218 : Int) != (i196 : Int)) = Value.bool false by rw [hc]) ?_
                refine WO.pass rfl (by kernel_rfl) rfl ?_
                refine WO.pass rfl (by kernel_rfl) rfl ?_
                refine WO.pass rfl (by kernel_rfl) rfl ?_
                refine WO.pass rfl (by kernel_rfl) rfl ?_
                refine WO.pass rfl (by kernel_rfl) rfl ?_
                refine WO.pass rfl (by kernel_rfl) rfl ?_
                refine WO.pass rfl (by kernel_rfl) rfl ?_
                refine WO.pass rfl (by kernel_rfl) rfl ?_
                refine WO.pass rfl (by kernel_rfl) rfl ?_
                refine WO.pass rfl (by kernel_rfl) rfl ?_
                refine WO.pass rfl (by kernel_rfl) rfl ?_
                refine WO.pass rfl (by kernel_rfl) rfl ?_
                refine WO.vals [(16, 84, (.bool false))] (by kernel_rfl) (fun _ => by kernel_rfl) ?_
                have he := Option.some.inj hr3
                subst j227
                refine WO.weaken (fr' := [(3, (.slice a_s16 s16.length c_s16)), (7, (.int .i64 (i196 : Int))), (8, (.int .i64 (i218 : Int))), (84, (.bool false))]) (WO.meet ⟨I216, rfl, Mem.Le.refl _, hS225⟩) (Sub.cons rfl (Sub.cons rfl (Sub.cons rfl (Sub.cons rfl Sub.nil))))
            case restj227 =>
              rintro _ w239 ⟨I229, rfl, hl230, hS240⟩
              refine WO.vals [(17, 85, (.bool j227))] (by kernel_rfl) (fun _ => by kernel_rfl) ?_
              obtain ⟨j241, hr3, hr2⟩ := bind_some hr2
              refine WO.join (l1 := [18, 19, 20, 21, 22, 23, 24, 25, 26, 27, 28, 29, 30]) (l2 := []) (J := (fun fr w => ∃ (I243 : Mem), fr = [(3, (.slice a_s16 s16.length c_s16)), (7, (.int .i64 (i196 : Int))), (8, (.int .i64 (i218 : Int))), (98, (.bool j241))] ∧ I229.Le I243 ∧ St E w I243 Os)) ?restj241 ?waysj241
              case waysj241 =>
                refine WO.caseb j227 (fun hc => ?_) (fun hc => ?_)
                · replace hr3 := cond_t hc hr3
                  refine WO.reslot 85 rfl (show Value.bool j227 = Value.bool true by rw [hc]) ?_
                  refine WO.vals [(18, 86, (.slice a_s16 s16.length c_s16)), (19, 87, (.slice a_s16 s16.length c_s16)), (20, 88, (.int .i64 (i218 : Int)))] (by kernel_rfl) (fun _ => by kernel_rfl) ?_
                  obtain ⟨x245, hx_x245, hr3⟩ := bind_some hr3
                  obtain ⟨h0_x245, h1_x245, hx_x245⟩ := idx_some hx_x245
                  obtain ⟨ha_x245, cs_x245, hn_x245, hr_x245, hc_x245⟩ := ((RSl.mono h_s16 ((hl195.trans hl210).trans hl217))).el _ _ hx_x245
                  obtain ⟨w_x245, rfl, h_x245⟩ := hr_x245
                  refine WO.indexAddr (e := 27) (sz := 2) rfl (by kernel_rfl) (by kernel_rfl) (by kernel_rfl) rfl ha_x245 rfl h0_x245 h1_x245 ?_
                  refine WO.vals [(22, 90, (.pointer (some ⟨bl a_s16, of a_s16 + ((i218 : Int)).toNat * 2, none⟩)))] (by kernel_rfl) (fun _ => by kernel_rfl) ?_
                  refine WO.load rfl (by kernel_rfl) (by kernel_rfl) rfl (v := (.string x245.Name)) (fun w' hw' => hc_x245.cell0 (by kernel_rfl) ((rd_i (hS240.im.of_le hl230)) w' hw')) ?_
                  refine WO.vals [(24, 92, (.slice a_s16 s16.length c_s16)), (25, 93, (.int .i64 (i196 : Int)))] (by kernel_rfl) (fun _ => by kernel_rfl) ?_
                  obtain ⟨x246, hx_x246, hr3⟩ := bind_some hr3
                  obtain ⟨h0_x246, h1_x246, hx_x246⟩ := idx_some hx_x246
                  obtain ⟨ha_x246, cs_x246, hn_x246, hr_x246, hc_x246⟩ := ((RSl.mono h_s16 ((hl195.trans hl210).trans hl217))).el _ _ hx_x246
                  obtain ⟨w_x246, rfl, h_x246⟩ := hr_x246
                  refine WO.indexAddr (e := 27) (sz := 2) rfl (by kernel_rfl) (by kernel_rfl) (by kernel_rfl) rfl ha_x246 rfl h0_x246 h1_x246 ?_
                  refine WO.vals [(27, 95, (.pointer (some ⟨bl a_s16, of a_s16 + ((i196 : Int)).toNat * 2, none⟩)))] (by kernel_rfl) (fun _ => by kernel_rfl) ?_
                  refine WO.load rfl (by kernel_rfl) (by kernel_rfl) rfl (v := (.string x246.Name)) (fun w' hw' => hc_x246.cell0 (by kernel_rfl) ((rd_i (hS240.im.of_le hl230)) w' hw')) ?_
                  obtain ⟨r252, hx_r247, hr3⟩ := bind_some hr3
                  refine WO.call rfl (by kernel_rfl) rfl (f := 14) (args := #[(.slice a_s16 s16.length c_s16), (.string x245.Name), (.string x246.Name)]) (by kernel_rfl) (member_Is_ok (RSl.mono h_s16 (((hl195.trans hl210).trans hl217).trans hl230)) hS240 hx_r247) ?_
                  rintro _ w248 ⟨I249, rfl, hl250, hS251⟩
                  refine ⟨_, rfl, (KR.nil (hS251.im.of_le (hl230.trans hl250))), ?_⟩
                  refine WO.vals [(30, 98, (.bool r252))] (by kernel_rfl) (fun _ => by kernel_rfl) ?_
                  have he := Option.some.inj hr3
                  subst j241
                  refine WO.weaken (fr' := [(3, (.slice a_s16 s16.length c_s16)), (7, (.int .i64 (i196 : Int))), (8, (.int .i64 (i218 : Int))), (98, (.bool r252))]) (WO.meet ⟨I249, rfl, hl250, hS251⟩) (Sub.cons rfl (Sub.cons rfl (Sub.cons rfl (Sub.cons rfl Sub.nil))))
                · replace hr3 := cond_f hc hr3
                  refine WO.reslot 85 rfl (show Value.bool j227 = Value.bool false by rw [hc]) ?_
                  refine WO.pass rfl (by kernel_rfl) rfl ?_
                  refine WO.pass rfl (by kernel_rfl) rfl ?_
                  refine WO.pass rfl (by kernel_rfl) rfl ?_
                  refine WO.pass rfl (by kernel_rfl) rfl ?_
                  refine WO.pass rfl (by kernel_rfl) rfl ?_
                  refine WO.pass rfl (by kernel_rfl) rfl ?_
                  refine WO.pass rfl (by kernel_rfl) rfl ?_
                  refine WO.pass rfl (by kernel_rfl) rfl ?_
                  refine WO.pass rfl (by kernel_rfl) rfl ?_
                  refine WO.pass rfl (by kernel_rfl) rfl ?_
                  refine WO.pass rfl (by kernel_rfl) rfl ?_
                  refine WO.pass rfl (by kernel_rfl) rfl ?_
                  refine WO.vals [(30, 98, (.bool false))] (by kernel_rfl) (fun _ => by kernel_rfl) ?_
                  have he := Option.some.inj hr3
                  subst j241
                  refine WO.weaken (fr' := [(3, (.slice a_s16 s16.length c_s16)), (7, (.int .i64 (i196 : Int))), (8, (.int .i64 (i218 : Int))), (98, (.bool false))]) (WO.meet ⟨I229, rfl, Mem.Le.refl _, hS240⟩) (Sub.cons rfl (Sub.cons rfl (Sub.cons rfl (Sub.cons rfl Sub.nil))))
              case restj241 =>
                rintro _ w253 ⟨I243, rfl, hl244, hS254⟩
                refine WO.nil ?_
                refine En.next ?_
                refine W.cond (b := j241) rfl rfl (fun hc => ?_) (fun hc => ?_)
                · replace hr2 := cond_t hc hr2
                  refine W.seq ?_
                  refine W.region (l := [0]) (by kernel_rfl) ?_
                  refine WO.vals [(0, 2, (.bool false))] (by kernel_rfl) (fun _ => by kernel_rfl) ?_
                  refine WO.nil ?_
                  refine En.next ?_
                  refine W.ret ?_
                  refine En.nx_ret ?_
                  refine En.in_ret ?_
                  refine En.nx_ret ?_
                  refine En.rd_ret ?_
                  have ht := hext215 _ (Option.some.inj hr2).symm
                  subst t215
                  refine En.in_ret ?_
                  refine En.in_ret ?_
                  refine En.nx_ret ?_
                  refine En.rd_ret ?_
                  have ht := hext193 _ (Option.some.inj hr1).symm
                  subst t193
                  refine En.in_ret ?_
                  refine En.nx_ret ?_
                  have he := Option.some.inj hr
                  subst r
                  exact En.ret1 rfl (.bool false) rfl ⟨I243, rfl, ((((((hl10.trans hl15).trans hl195).trans hl210).trans hl217).trans hl230).trans hl244), hS254⟩
                · replace hr2 := cond_f hc hr2
                  refine W.skip ?_
                  refine En.next ?_
                  refine W.seq ?_
                  refine W.region (l := [0]) (by kernel_rfl) ?_
                  refine WO.vals [(0, 9, (.int .i64 0))] (by kernel_rfl) (fun _ => by kernel_rfl) ?_
                  refine WO.nil ?_
                  refine En.next ?_
                  refine W.block ?_
                  obtain ⟨t257, hloop261, hr2⟩ := bind_some hr2
                  have hlt265 := ((RSl.mono h_s16 ((((hl195.trans hl210).trans hl217).trans hl230).trans hl244))).len_lt
                  refine W.weaken (fr' := [(3, (.slice a_s16 s16.length c_s16)), (7, (.int .i64 (i196 : Int))), (8, (.int .i64 (i218 : Int))), (9, (.int .i64 ((0 : Nat) : Int)))]) (W.forN (m := s16.length) hloop261 (fun (i260 : Nat) => fun (_s : Unit) fr w => ∃ (I258 : Mem), fr = [(3, (.slice a_s16 s16.length c_s16)), (7, (.int .i64 (i196 : Int))), (8, (.int .i64 (i218 : Int))), (9, (.int .i64 (i260 : Int)))] ∧ I243.Le I258 ∧ St E w I258 Os) ⟨I243, rfl, Mem.Le.refl _, hS254⟩ ?roundt257 ?lastt257) (Sub.cons rfl (Sub.cons rfl (Sub.cons rfl (Sub.cons rfl Sub.nil))))
                  case roundt257 =>
                    rintro i260 _ _ w262 hi266 ⟨I258, rfl, hl259, hS263⟩ x264 hr3 hext257
                    refine W.seq ?_
                    refine W.seq ?_
                    refine W.region (l := [0, 1, 2, 3]) (by kernel_rfl) ?_
                    refine WO.vals [(0, 99, (.int .i64 (i260 : Int))), (1, 100, (.slice a_s16 s16.length c_s16)), (2, 101, (.int .i64 (s16.length : Int))), (3, 102, (.bool (decide ((i260 : Int) < (s16.length : Int)))))] (by kernel_rfl) (fun _ => by kernel_rfl) ?_
                    refine WO.nil ?_
                    refine En.next ?_
                    refine W.cond (b := (decide ((i260 : Int) < (s16.length : Int)))) rfl rfl (fun hc => ?_) (fun hc => ?_)
                    rotate_left
                    · exact absurd hc (by first | (simp; done) | (simp; omega))
                    clear hc
                    refine W.skip ?_
                    refine En.next ?_
                    refine W.seq ?_
                    refine W.block ?_
                    refine W.seq ?_
                    have hS267 := hS263.drew
                    refine W.draw (l := [0, 1, 2, 3, 4, 5, 6, 7, 8, 9, 10, 11, 12, 13, 14, 15, 16, 17, 18, 19, 20, 21, 22, 23, 24, 25, 26, 27, 28, 29, 30, 31, 32, 33, 34, 35, 36, 37, 38, 39, 40]) (by kernel_rfl) 41 (KR I258 []) qR (.back (by kernel_rfl)) (by kernel_rfl) (KR.nil hS267.im) ?_
                    generalize World.drew _ = w268 at *
                    refine WO.vals [(0, 105, (.slice a_s16 s16.length c_s16)), (1, 106, (.slice a_s16 s16.length c_s16)), (2, 107, (.int .i64 (i196 : Int)))] (by kernel_rfl) (fun _ => by kernel_rfl) ?_
                    obtain ⟨x269, hx_x269, hr3⟩ := bind_some hr3
                    obtain ⟨h0_x269, h1_x269, hx_x269⟩ := idx_some hx_x269
                    obtain ⟨ha_x269, cs_x269, hn_x269, hr_x269, hc_x269⟩ := ((RSl.mono h_s16 (((((hl195.trans hl210).trans hl217).trans hl230).trans hl244).trans hl259))).el _ _ hx_x269
                    obtain ⟨w_x269, rfl, h_x269⟩ := hr_x269
                    refine WO.indexAddr (e := 27) (sz := 2) rfl (by kernel_rfl) (by kernel_rfl) (by kernel_rfl) rfl ha_x269 rfl h0_x269 h1_x269 ?_
                    refine WO.vals [(4, 109, (.pointer (some ⟨bl a_s16, of a_s16 + ((i196 : Int)).toNat * 2, none⟩)))] (by kernel_rfl) (fun _ => by kernel_rfl) ?_
                    refine WO.load rfl (by kernel_rfl) (by kernel_rfl) rfl (v := (.string x269.Name)) (fun w' hw' => hc_x269.cell0 (by kernel_rfl) ((rd_i hS267.im) w' hw')) ?_
                    refine WO.vals [(6, 111, (.slice a_s16 s16.length c_s16)), (7, 112, (.int .i64 (i218 : Int)))] (by kernel_rfl) (fun _ => by kernel_rfl) ?_
                    obtain ⟨x270, hx_x270, hr3⟩ := bind_some hr3
                    obtain ⟨h0_x270, h1_x270, hx_x270⟩ := idx_some hx_x270
                    obtain ⟨ha_x270, cs_x270, hn_x270, hr_x270, hc_x270⟩ := ((RSl.mono h_s16 (((((hl195.trans hl210).trans hl217).trans hl230).trans hl244).trans hl259))).el _ _ hx_x270
                    obtain ⟨w_x270, rfl, h_x270⟩ := hr_x270
                    refine WO.indexAddr (e := 27) (sz := 2) rfl (by kernel_rfl) (by kernel_rfl) (by kernel_rfl) rfl ha_x270 rfl h0_x270 h1_x270 ?_
                    refine WO.vals [(9, 114, (.pointer (some ⟨bl a_s16, of a_s16 + ((i218 : Int)).toNat * 2, none⟩)))] (by kernel_rfl) (fun _ => by kernel_rfl) ?_
                    refine WO.load rfl (by kernel_rfl) (by kernel_rfl) rfl (v := (.string x270.Name)) (fun w' hw' => hc_x270.cell0 (by kernel_rfl) ((rd_i hS267.im) w' hw')) ?_
                    obtain ⟨r276, hx_r271, hr3⟩ := bind_some hr3
                    refine WO.call rfl (by kernel_rfl) rfl (f := 14) (args := #[(.slice a_s16 s16.length c_s16), (.string x269.Name), (.string x270.Name)]) (by kernel_rfl) (member_Is_ok (RSl.mono h_s16 (((((hl195.trans hl210).trans hl217).trans hl230).trans hl244).trans hl259)) hS267 hx_r271) ?_
                    rintro _ w272 ⟨I273, rfl, hl274, hS275⟩
                    refine ⟨_, rfl, (KR.nil (hS275.im.of_le hl274)), ?_⟩
                    refine WO.vals [(12, 117, (.bool r276))] (by kernel_rfl) (fun _ => by kernel_rfl) ?_
                    obtain ⟨j277, hr4, hr3⟩ := bind_some hr3
                    refine WO.join (l1 := [13, 14, 15, 16, 17, 18, 19, 20, 21, 22, 23, 24, 25]) (l2 := [26, 27, 28, 29, 30, 31, 32, 33, 34, 35, 36, 37, 38, 39, 40]) (J := (fun fr w => ∃ (I279 : Mem), fr = [(3, (.slice a_s16 s16.length c_s16)), (7, (.int .i64 (i196 : Int))), (8, (.int .i64 (i218 : Int))), (9, (.int .i64 (i260 : Int))), (130, (.bool j277))] ∧ I273.Le I279 ∧ St E w I279 Os)) ?restj277 ?waysj277
                    case waysj277 =>
                      refine WO.caseb r276 (fun hc => ?_) (fun hc => ?_)
                      · replace hr4 := cond_t hc hr4
                        refine WO.reslot 117 rfl (show Value.bool r276 = Value.bool true by rw [hc]) ?_
                        refine WO.vals [(13, 118, (.slice a_s16 s16.length c_s16)), (14, 119, (.slice a_s16 s16.length c_s16)), (15, 120, (.int .i64 (i218 : Int)))] (by kernel_rfl) (fun _ => by kernel_rfl) ?_
                        obtain ⟨x281, hx_x281, hr4⟩ := bind_some hr4
                        obtain ⟨h0_x281, h1_x281, hx_x281⟩ := idx_some hx_x281
                        obtain ⟨ha_x281, cs_x281, hn_x281, hr_x281, hc_x281⟩ := ((RSl.mono h_s16 (((((hl195.trans hl210).trans hl217).trans hl230).trans hl244).trans hl259))).el _ _ hx_x281
                        obtain ⟨w_x281, rfl, h_x281⟩ := hr_x281
                        refine WO.indexAddr (e := 27) (sz := 2) rfl (by kernel_rfl) (by kernel_rfl) (by kernel_rfl) rfl ha_x281 rfl h0_x281 h1_x281 ?_
                        refine WO.vals [(17, 122, (.pointer (some ⟨bl a_s16, of a_s16 + ((i218 : Int)).toNat * 2, none⟩)))] (by kernel_rfl) (fun _ => by kernel_rfl) ?_
                        refine WO.load rfl (by kernel_rfl) (by kernel_rfl) rfl (v := (.string x281.Name)) (fun w' hw' => hc_x281.cell0 (by kernel_rfl) ((rd_i (hS275.im.of_le hl274)) w' hw')) ?_
                        refine WO.vals [(19, 124, (.slice a_s16 s16.length c_s16)), (20, 125, (.int .i64 (i260 : Int)))] (by kernel_rfl) (fun _ => by kernel_rfl) ?_
                        obtain ⟨x282, hx_x282, hr4⟩ := bind_some hr4
                        obtain ⟨h0_x282, h1_x282, hx_x282⟩ := idx_some hx_x282
                        obtain ⟨ha_x282, cs_x282, hn_x282, hr_x282, hc_x282⟩ := ((RSl.mono h_s16 (((((hl195.trans hl210).trans hl217).trans hl230).trans hl244).trans hl259))).el _ _ hx_x282
                        obtain ⟨w_x282, rfl, h_x282⟩ := hr_x282
                        refine WO.indexAddr (e := 27) (sz := 2) rfl (by kernel_rfl) (by kernel_rfl) (by kernel_rfl) rfl ha_x282 rfl h0_x282 h1_x282 ?_
                        refine WO.vals [(22, 127, (.pointer (some ⟨bl a_s16, of a_s16 + ((i260 : Int)).toNat * 2, none⟩)))] (by kernel_rfl) (fun _ => by kernel_rfl) ?_
                        refine WO.load rfl (by kernel_rfl) (by kernel_rfl) rfl (v := (.string x282.Name)) (fun w' hw' => hc_x282.cell0 (by kernel_rfl) ((rd_i (hS275.im.of_le hl274)) w' hw')) ?_
                        obtain ⟨r288, hx_r283, hr4⟩ := bind_some hr4
                        refine WO.call rfl (by kernel_rfl) rfl (f := 14) (args := #[(.slice a_s16 s16.length c_s16), (.string x281.Name), (.string x282.Name)]) (by kernel_rfl) (member_Is_ok (RSl.mono h_s16 ((((((hl195.trans hl210).trans hl217).trans hl230).trans hl244).trans hl259).trans hl274)) hS275 hx_r283) ?_
                        rintro _ w284 ⟨I285, rfl, hl286, hS287⟩
                        refine ⟨_, rfl, (KR.nil (hS287.im.of_le (hl274.trans hl286))), ?_⟩
                        refine WO.vals [(25, 130, (.bool r288))] (by kernel_rfl) (fun _ => by kernel_rfl) ?_
                        have he := Option.some.inj hr4
                        subst j277
                        refine WO.weaken (fr' := [(3, (.slice a_s16 s16.length c_s16)), (7, (.int .i64 (i196 : Int))), (8, (.int .i64 (i218 : Int))), (9, (.int .i64 (i260 : Int))), (130, (.bool r288))]) (WO.meet ⟨I285, rfl, hl286, hS287⟩) (Sub.cons rfl (Sub.cons rfl (Sub.cons rfl (Sub.cons rfl (Sub.cons rfl Sub.nil)))))
                      · replace hr4 := cond_f hc hr4
                        refine WO.reslot 117 rfl (show Value.bool r276 = Value.bool false by rw [hc]) ?_
                        refine WO.pass rfl (by kernel_rfl) rfl ?_
                        refine WO.pass rfl (by kernel_rfl) rfl ?_
                        refine WO.pass rfl (by kernel_rfl) rfl ?_
                        refine WO.pass rfl (by kernel_rfl) rfl ?_
                        refine WO.pass rfl (by kernel_rfl) rfl ?_
                        refine WO.pass rfl (by kernel_rfl) rfl ?_
                        refine WO.pass rfl (by kernel_rfl) rfl ?_
                        refine WO.pass rfl (by kernel_rfl) rfl ?_
                        refine WO.pass rfl (by kernel_rfl) rfl ?_
                        refine WO.pass rfl (by kernel_rfl) rfl ?_
                        refine WO.pass rfl (by kernel_rfl) rfl ?_
                        refine WO.pass rfl (by kernel_rfl) rfl ?_
                        refine WO.vals [(25, 130, (.bool false))] (by kernel_rfl) (fun _ => by kernel_rfl) ?_
                        have he := Option.some.inj hr4
                        subst j277
                        refine WO.weaken (fr' := [(3, (.slice a_s16 s16.length c_s16)), (7, (.int .i64 (i196 : Int))), (8, (.int .i64 (i218 : Int))), (9, (.int .i64 (i260 : Int))), (130, (.bool false))]) (WO.meet ⟨I273, rfl, Mem.Le.refl _, hS275⟩) (Sub.cons rfl (Sub.cons rfl (Sub.cons rfl (Sub.cons rfl (Sub.cons rfl Sub.nil)))))
                    case restj277 =>
                      rintro _ w289 ⟨I279, rfl, hl280, hS290⟩
                      refine WO.vals [(26, 131, (.bool j277))] (by kernel_rfl) (fun _ => by kernel_rfl) ?_
                      obtain ⟨j291, hr4, hr3⟩ := bind_some hr3
                      refine WO.join (l1 := [27, 28, 29, 30, 31, 32, 33, 34, 35, 36, 37, 38, 39, 40]) (l2 := []) (J := (fun fr w => ∃ (I293 : Mem), fr = [(3, (.slice a_s16 s16.length c_s16)), (7, (.int .i64 (i196 : Int))), (8, (.int .i64 (i218 : Int))), (9, (.int .i64 (i260 : Int))), (145, (.bool j291))] ∧ I279.Le I293 ∧ St E w I293 Os)) ?restj291 ?waysj291
                      case waysj291 =>
                        refine WO.caseb j277 (fun hc => ?_) (fun hc => ?_)
                        · replace hr4 := cond_t hc hr4
                          refine WO.reslot 131 rfl (show Value.bool j277 = Value.bool true by rw [hc]) ?_
                          refine WO.vals [(27, 132, (.slice a_s16 s16.length c_s16)), (28, 133, (.slice a_s16 s16.length c_s16)), (29, 134, (.int .i64 (i196 : Int)))] (by kernel_rfl) (fun _ => by kernel_rfl) ?_
                          obtain ⟨x295, hx_x295, hr4⟩ := bind_some hr4
                          obtain ⟨h0_x295, h1_x295, hx_x295⟩ := idx_some hx_x295
                          obtain ⟨ha_x295, cs_x295, hn_x295, hr_x295, hc_x295⟩ := ((RSl.mono h_s16 (((((hl195.trans hl210).trans hl217).trans hl230).trans hl244).trans hl259))).el _ _ hx_x295
                          obtain ⟨w_x295, rfl, h_x295⟩ := hr_x295
                          refine WO.indexAddr (e := 27) (sz := 2) rfl (by kernel_rfl) (by kernel_rfl) (by kernel_rfl) rfl ha_x295 rfl h0_x295 h1_x295 ?_
                          refine WO.vals [(31, 136, (.pointer (some ⟨bl a_s16, of a_s16 + ((i196 : Int)).toNat * 2, none⟩)))] (by kernel_rfl) (fun _ => by kernel_rfl) ?_
                          refine WO.load rfl (by kernel_rfl) (by kernel_rfl) rfl (v := (.string x295.Name)) (fun w' hw' => hc_x295.cell0 (by kernel_rfl) ((rd_i (hS290.im.of_le (hl274.trans hl280))) w' hw')) ?_
                          refine WO.vals [(33, 138, (.slice a_s16 s16.length c_s16)), (34, 139, (.int .i64 (i260 : Int)))] (by kernel_rfl) (fun _ => by kernel_rfl) ?_
                          obtain ⟨x296, hx_x296, hr4⟩ := bind_some hr4
                          obtain ⟨h0_x296, h1_x296, hx_x296⟩ := idx_some hx_x296
                          obtain ⟨ha_x296, cs_x296, hn_x296, hr_x296, hc_x296⟩ := ((RSl.mono h_s16 (((((hl195.trans hl210).trans hl217).trans hl230).trans hl244).trans hl259))).el _ _ hx_x296
                          obtain ⟨w_x296, rfl, h_x296⟩ := hr_x296
                          refine WO.indexAddr (e := 27) (sz := 2) rfl (by kernel_rfl) (by kernel_rfl) (by kernel_rfl) rfl ha_x296 rfl h0_x296 h1_x296 ?_
                          refine WO.vals [(36, 141, (.pointer (some ⟨bl a_s16, of a_s16 + ((i260 : Int)).toNat * 2, none⟩)))] (by kernel_rfl) (fun _ => by kernel_rfl) ?_
                          refine WO.load rfl (by kernel_rfl) (by kernel_rfl) rfl (v := (.string x296.Name)) (fun w' hw' => hc_x296.cell0 (by kernel_rfl) ((rd_i (hS290.im.of_le (hl274.trans hl280))) w' hw')) ?_
                          obtain ⟨r302, hx_r297, hr4⟩ := bind_some hr4
                          refine WO.call rfl (by kernel_rfl) rfl (f := 14) (args := #[(.slice a_s16 s16.length c_s16), (.string x295.Name), (.string x296.Name)]) (by kernel_rfl) (member_Is_ok (RSl.mono h_s16 (((((((hl195.trans hl210).trans hl217).trans hl230).trans hl244).trans hl259).trans hl274).trans hl280)) hS290 hx_r297) ?_
                          rintro _ w298 ⟨I299, rfl, hl300, hS301⟩
                          refine ⟨_, rfl, (KR.nil (hS301.im.of_le ((hl274.trans hl280).trans hl300))), ?_⟩
                          refine WO.vals [(39, 144, (.bool (!r302))), (40, 145, (.bool (!r302)))] (by kernel_rfl) (fun _ => by kernel_rfl) ?_
                          have he := Option.some.inj hr4
                          subst j291
                          refine WO.weaken (fr' := [(3, (.slice a_s16 s16.length c_s16)), (7, (.int .i64 (i196 : Int))), (8, (.int .i64 (i218 : Int))), (9, (.int .i64 (i260 : Int))), (145, (.bool (!r302)))]) (WO.meet ⟨I299, rfl, hl300, hS301⟩) (Sub.cons rfl (Sub.cons rfl (Sub.cons rfl (Sub.cons rfl (Sub.cons rfl Sub.nil)))))
                        · replace hr4 := cond_f hc hr4
                          refine WO.reslot 131 rfl (show Value.bool j277 = Value.bool false by rw [hc]) ?_
                          refine WO.pass rfl (by kernel_rfl) rfl ?_
                          refine WO.pass rfl (by kernel_rfl) rfl ?_
                          refine WO.pass rfl (by kernel_rfl) rfl ?_
                          refine WO.pass rfl (by kernel_rfl) rfl ?_
                          refine WO.pass rfl (by kernel_rfl) rfl ?_
                          refine WO.pass rfl (by kernel_rfl) rfl ?_
                          refine WO.pass rfl (by kernel_rfl) rfl ?_
                          refine WO.pass rfl (by kernel_rfl) rfl ?_
                          refine WO.pass rfl (by kernel_rfl) rfl ?_
                          refine WO.pass rfl (by kernel_rfl) rfl ?_
                          refine WO.pass rfl (by kernel_rfl) rfl ?_
                          refine WO.pass rfl (by kernel_rfl) rfl ?_
                          refine WO.pass rfl (by kernel_rfl) rfl ?_
                          refine WO.vals [(40, 145, (.bool false))] (by kernel_rfl) (fun _ => by kernel_rfl) ?_
                          have he := Option.some.inj hr4
                          subst j291
                          refine WO.weaken (fr' := [(3, (.slice a_s16 s16.length c_s16)), (7, (.int .i64 (i196 : Int))), (8, (.int .i64 (i218 : Int))), (9, (.int .i64 (i260 : Int))), (145, (.bool false))]) (WO.meet ⟨I279, rfl, Mem.Le.refl _, hS290⟩) (Sub.cons rfl (Sub.cons rfl (Sub.cons rfl (Sub.cons rfl (Sub.cons rfl Sub.nil)))))
                      case restj291 =>
                        rintro _ w303 ⟨I293, rfl, hl294, hS304⟩
                        refine WO.nil ?_
                        refine En.next ?_
                        refine W.cond (b := j291) rfl rfl (fun hc => ?_) (fun hc => ?_)
                        · replace hr3 := cond_t hc hr3
                          refine W.seq ?_
                          refine W.region (l := [0]) (by kernel_rfl) ?_
                          refine WO.vals [(0, 2, (.bool false))] (by kernel_rfl) (fun _ => by kernel_rfl) ?_
                          refine WO.nil ?_
                          refine En.next ?_
                          refine W.ret ?_
                          refine En.in_ret ?_
                          refine En.nx_ret ?_
                          refine En.rd_ret ?_
                          have ht := hext257 _ (Option.some.inj hr3).symm
                          subst t257
                          refine En.in_ret ?_
                          refine En.in_ret ?_
                          refine En.nx_ret ?_
                          refine En.rd_ret ?_
                          have ht := hext215 _ (Option.some.inj hr2).symm
                          subst t215
                          refine En.in_ret ?_
                          refine En.in_ret ?_
                          refine En.nx_ret ?_
                          refine En.rd_ret ?_
                          have ht := hext193 _ (Option.some.inj hr1).symm
                          subst t193
                          refine En.in_ret ?_
                          refine En.nx_ret ?_
                          have he := Option.some.inj hr
                          subst r
                          exact En.ret1 rfl (.bool false) rfl ⟨I293, rfl, ((((((((((hl10.trans hl15).trans hl195).trans hl210).trans hl217).trans hl230).trans hl244).trans hl259).trans hl274).trans hl280).trans hl294), hS304⟩
                        · replace hr3 := cond_f hc hr3
                          refine W.skip ?_
                          refine En.in_normal ?_
                          refine En.next ?_
                          refine W.region (l := [0, 1, 2]) (by kernel_rfl) ?_
                          refine WO.vals [(0, 103, (.int .i64 (i260 : Int)))] (by kernel_rfl) (fun _ => by kernel_rfl) ?_
                          refine WO.incr (j := i260) rfl (by kernel_rfl) rfl (by first | omega | (dsimp only at *; omega)) ?_
                          refine WO.vals [(2, 9, (.int .i64 ((i260 + 1 : Nat) : Int)))] (by kernel_rfl) (fun _ => by kernel_rfl) ?_
                          refine WO.nil ?_
                          refine En.weaken (fr' := [(3, (.slice a_s16 s16.length c_s16)), (7, (.int .i64 (i196 : Int))), (8, (.int .i64 (i218 : Int))), (9, (.int .i64 ((i260 + 1 : Nat) : Int)))]) (En.round ⟨(), (Option.some.inj hr3).symm, I293, rfl, (((hl259.trans hl274).trans hl280).trans hl294), hS304⟩) (Sub.cons rfl (Sub.cons rfl (Sub.cons rfl (Sub.cons rfl Sub.nil))))
                  case lastt257 =>
                    rintro _ _ w307 ⟨I258, rfl, hl259, hS308⟩ he
                    cases he
                    refine W.seq ?_
                    refine W.seq ?_
                    refine W.region (l := [0, 1, 2, 3]) (by kernel_rfl) ?_
                    refine WO.vals [(0, 99, (.int .i64 (s16.length : Int))), (1, 100, (.slice a_s16 s16.length c_s16)), (2, 101, (.int .i64 (s16.length : Int))), (3, 102, (.bool (decide ((s16.length : Int) < (s16.length : Int)))))] (by kernel_rfl) (fun _ => by kernel_rfl) ?_
                    refine WO.nil ?_
                    refine En.next ?_
                    refine W.cond (b := (decide ((s16.length : Int) < (s16.length : Int)))) rfl rfl (fun hc => ?_) (fun hc => ?_)
                    · exact absurd hc (by first | (simp; done) | (simp; omega))
                    clear hc
                    refine W.exit ?_
                    refine En.nx_exit ?_
                    refine En.rd_exit ?_
                    refine En.in_hit ?_
                    refine En.in_normal ?_
                    refine En.next ?_
                    refine W.region (l := [0, 1, 2]) (by kernel_rfl) ?_
                    refine WO.vals [(0, 66, (.int .i64 (i218 : Int)))] (by kernel_rfl) (fun _ => by kernel_rfl) ?_
                    refine WO.incr (j := i218) rfl (by kernel_rfl) rfl (by first | omega | (dsimp only at *; omega)) ?_
                    refine WO.vals [(2, 8, (.int .i64 ((i218 + 1 : Nat) : Int)))] (by kernel_rfl) (fun _ => by kernel_rfl) ?_
                    refine WO.nil ?_
                    refine En.weaken (fr' := [(3, (.slice a_s16 s16.length c_s16)), (7, (.int .i64 (i196 : Int))), (8, (.int .i64 ((i218 + 1 : Nat) : Int)))]) (En.round ⟨(), (Option.some.inj hr2).symm, I258, rfl, (((hl217.trans hl230).trans hl244).trans hl259), hS308⟩) (Sub.cons rfl (Sub.cons rfl (Sub.cons rfl Sub.nil)))
          case lastt215 =>
            rintro _ _ w309 ⟨I216, rfl, hl217, hS310⟩ he
            cases he
            refine W.seq ?_
            refine W.seq ?_
            refine W.region (l := [0, 1, 2, 3]) (by kernel_rfl) ?_
            refine WO.vals [(0, 62, (.int .i64 (s16.length : Int))), (1, 63, (.slice a_s16 s16.length c_s16)), (2, 64, (.int .i64 (s16.length : Int))), (3, 65, (.bool (decide ((s16.length : Int) < (s16.length : Int)))))] (by kernel_rfl) (fun _ => by kernel_rfl) ?_
            refine WO.nil ?_
            refine En.next ?_
            refine W.cond (b := (decide ((s16.length : Int) < (s16.length : Int)))) rfl rfl (fun hc => ?_) (fun hc => ?_)
            · exact absurd hc (by first | (simp; done) | (simp; omega))
            clear hc
            refine W.exit ?_
            refine En.nx_exit ?_
            refine En.rd_exit ?_
            refine En.in_hit ?_
            refine En.in_normal ?_
            refine En.next ?_
            refine W.region (l := [0, 1, 2]) (by kernel_rfl) ?_
            refine WO.vals [(0, 47, (.int .i64 (i196 : Int)))] (by kernel_rfl) (fun _ => by kernel_rfl) ?_
            refine WO.incr (j := i196) rfl (by kernel_rfl) rfl (by first | omega | (dsimp only at *; omega)) ?_
            refine WO.vals [(2, 7, (.int .i64 ((i196 + 1 : Nat) : Int)))] (by kernel_rfl) (fun _ => by kernel_rfl) ?_
            refine WO.nil ?_
            refine En.weaken (fr' := [(3, (.slice a_s16 s16.length c_s16)), (7, (.int .i64 ((i196 + 1 : Nat) : Int)))]) (En.round ⟨(), (Option.some.inj hr1).symm, I216, rfl, ((hl195.trans hl210).trans hl217), hS310⟩) (Sub.cons rfl (Sub.cons rfl Sub.nil))
      case lastt193 =>
        rintro _ _ w311 ⟨I194, rfl, hl195, hS312⟩ he
        cases he
        refine W.seq ?_
        refine W.seq ?_
        refine W.region (l := [0, 1, 2, 3]) (by kernel_rfl) ?_
        refine WO.vals [(0, 43, (.int .i64 (s16.length : Int))), (1, 44, (.slice a_s16 s16.length c_s16)), (2, 45, (.int .i64 (s16.length : Int))), (3, 46, (.bool (decide ((s16.length : Int) < (s16.length : Int)))))] (by kernel_rfl) (fun _ => by kernel_rfl) ?_
        refine WO.nil ?_
        refine En.next ?_
        refine W.cond (b := (decide ((s16.length : Int) < (s16.length : Int)))) rfl rfl (fun hc => ?_) (fun hc => ?_)
        · exact absurd hc (by first | (simp; done) | (simp; omega))
        clear hc
        refine W.exit ?_
        refine En.nx_exit ?_
        refine En.rd_exit ?_
        refine En.in_hit ?_
        refine En.next ?_
        refine W.seq ?_
        refine W.region (l := [0, 1, 2, 3, 4, 5, 6]) (by kernel_rfl) ?_
        refine WO.vals [(0, 146, (.slice a_s16 s16.length c_s16)), (1, 147, (.int .i64 (s16.length : Int))), (2, 148, (.bool (decide ((s16.length : Int) > 0)))), (3, 149, (.bool (decide ((s16.length : Int) > 0))))] (by kernel_rfl) (fun _ => by kernel_rfl) ?_
        obtain ⟨j313, hr1, hr⟩ := bind_some hr
        refine WO.join (l1 := [4, 5]) (l2 := [6]) (J := (fun fr w => ∃ (I315 : Mem), fr = [(151, (.bool j313))] ∧ I194.Le I315 ∧ St E w I315 Os)) ?restj313 ?waysj313
        case waysj313 =>
          refine WO.caseb (decide ((s16.length : Int) > 0)) (fun hc => ?_) (fun hc => ?_)
          · replace hr1 := cond_t hc hr1
            refine WO.reslot 149 rfl (show Value.bool (decide ((s16.length : Int) > 0)) = Value.bool true by rw [hc]) ?_
            obtain ⟨r322, hx_r317, hr1⟩ := bind_some hr1
            refine WO.call rfl (by kernel_rfl) rfl (f := 7) (args := #[]) (by kernel_rfl) (registrarlaw18_works_ok  hS312 hx_r317) ?_
            rintro _ w318 ⟨I319, rfl, hl320, hS321⟩
            refine ⟨_, rfl, trivial, ?_⟩
            refine WO.vals [(5, 151, (.bool r322))] (by kernel_rfl) (fun _ => by kernel_rfl) ?_
            have he := Option.some.inj hr1
            subst j313
            refine WO.weaken (fr' := [(151, (.bool r322))]) (WO.meet ⟨I319, rfl, hl320, hS321⟩) (Sub.cons rfl Sub.nil)
          · replace hr1 := cond_f hc hr1
            refine WO.reslot 149 rfl (show Value.bool (decide ((s16.length : Int) > 0)) = Value.bool false by rw [hc]) ?_
            refine WO.pass rfl (by kernel_rfl) rfl ?_
            refine WO.vals [(5, 151, (.bool false))] (by kernel_rfl) (fun _ => by kernel_rfl) ?_
            have he := Option.some.inj hr1
            subst j313
            refine WO.weaken (fr' := [(151, (.bool false))]) (WO.meet ⟨I194, rfl, Mem.Le.refl _, hS312⟩) (Sub.cons rfl Sub.nil)
        case restj313 =>
          rintro _ w323 ⟨I315, rfl, hl316, hS324⟩
          refine WO.vals [(6, 2, (.bool j313))] (by kernel_rfl) (fun _ => by kernel_rfl) ?_
          refine WO.nil ?_
          refine En.next ?_
          refine W.ret ?_
          have he := Option.some.inj hr
          subst r
          exact En.ret1 rfl (.bool j313) rfl ⟨I315, rfl, (((hl10.trans hl15).trans hl195).trans hl316), hS324⟩
noncomputable def registrarref18_Same (p0 : List api_Role) (p1 : List api_Role) : Option Bool := (bif ((p0.length : Int) != (p1.length : Int)) then some false else (forN (fun (i4 : Nat) => fun (_s : Unit) => (idx p0 (i4 : Int)).bind (fun (x13 : api_Role) => (idx p1 (i4 : Int)).bind (fun (x14 : api_Role) => ((bif (!sEq x13.Name x14.Name) then some true else (idx p0 (i4 : Int)).bind (fun (x19 : api_Role) => (idx p1 (i4 : Int)).bind (fun (x20 : api_Role) => some ((x19.In.length : Int) != (x20.In.length : Int)))))).bind (fun (j15 : Bool) => (bif j15 then some (.inr false) else (loopO (fun (s28 : Int) => (idx p0 (i4 : Int)).bind (fun (x33 : api_Role) => (bif (decide (s28 < (x33.In.length : Int))) then (idx p0 (i4 : Int)).bind (fun (x36 : api_Role) => (idx x36.In s28).bind (fun (x37 : ByteArray) => (idx p1 (i4 : Int)).bind (fun (x38 : api_Role) => (idx x38.In s28).bind (fun (x39 : ByteArray) => (bif (!sEq x37 x39) then some (.inr (.inl false)) else some (.inl (w64 (s28 + 1)))))))) else some (.inr (.inr ()))))) 0).bind (fun (t : Bool ⊕ Unit) => match t with | (.inl s41) => some (.inr s41) | (.inr ()) => some (.inl ()))))))) p0.length 0 ()).bind (fun (t : Unit ⊕ (Bool)) => match t with | .inl _ => some true | .inr s24 => some s24))
set_option maxHeartbeats 1000000 in
theorem registrarref18_Same_ok {E w : World} {I : Mem} {Os : List Mem} {p0 : List api_Role} {p1 : List api_Role} {a_p0 : Option Addr} {c_p0 : Nat} {a_p1 : Option Addr} {c_p1 : Nat} (h_p0 : RSl 2 R_api_Role I a_p0 c_p0 p0) (h_p1 : RSl 2 R_api_Role I a_p1 c_p1 p1) (hS : St E w I Os) {r : Bool} (hr : registrarref18_Same p0 p1 = some r) :
    Calls P 10 #[(.slice a_p0 p0.length c_p0), (.slice a_p1 p1.length c_p1)] w (fun e w' => ∃ (I' : Mem), e = .returned (.bool r) ∧ I.Le I' ∧ St E w' I' Os) := by
  refine calls_W (args := [(.slice a_p0 p0.length c_p0), (.slice a_p1 p1.length c_p1)]) (fn := Try.f10) rfl rfl rfl ?_
  unfold registrarref18_Same at hr
  refine W.seq ?_
  refine W.region (l := [0]) (by kernel_rfl) ?_
  refine WO.vals [(0, 4, (.bool false))] (by kernel_rfl) (fun _ => by kernel_rfl) ?_
  refine WO.nil ?_
  refine En.next ?_
  refine W.seq ?_
  refine W.seq ?_
  refine W.region (l := [0, 1, 2, 3, 4]) (by kernel_rfl) ?_
  refine WO.vals [(0, 7, (.slice a_p0 p0.length c_p0)), (1, 8, (.int .i64 (p0.length : Int))), (2, 9, (.slice a_p1 p1.length c_p1)), (3, 10, (.int .i64 (p1.length : Int))), (4, 11, (.bool ((p0.length : Int) != (p1.length : Int))))] (by kernel_rfl) (fun _ => by kernel_rfl) ?_
  refine WO.nil ?_
  refine En.next ?_
  refine W.cond (b := ((p0.length : Int) != (p1.length : Int))) rfl rfl (fun hc => ?_) (fun hc => ?_)
  · replace hr := cond_t hc hr
    refine W.seq ?_
    refine W.region (l := [0]) (by kernel_rfl) ?_
    refine WO.vals [(0, 4, (.bool false))] (by kernel_rfl) (fun _ => by kernel_rfl) ?_
    refine WO.nil ?_
    refine En.next ?_
    refine W.ret ?_
    refine En.nx_ret ?_
    have he := Option.some.inj hr
    subst r
    exact En.ret1 rfl (.bool false) rfl ⟨I, rfl, Mem.Le.refl _, hS⟩
  · replace hr := cond_f hc hr
    refine W.skip ?_
    refine En.next ?_
    refine W.seq ?_
    refine W.seq ?_
    refine W.region (l := [0]) (by kernel_rfl) ?_
    refine WO.vals [(0, 5, (.int .i64 0))] (by kernel_rfl) (fun _ => by kernel_rfl) ?_
    refine WO.nil ?_
    refine En.next ?_
    refine W.block ?_
    obtain ⟨t1, hloop5, hr⟩ := bind_some hr
    have hlt9 := (h_p0).len_lt
    refine W.weaken (fr' := [(0, (.slice a_p0 p0.length c_p0)), (1, (.slice a_p1 p1.length c_p1)), (5, (.int .i64 ((0 : Nat) : Int)))]) (W.forN (m := p0.length) hloop5 (fun (i4 : Nat) => fun (_s : Unit) fr w => ∃ (I2 : Mem), fr = [(0, (.slice a_p0 p0.length c_p0)), (1, (.slice a_p1 p1.length c_p1)), (5, (.int .i64 (i4 : Int)))] ∧ I.Le I2 ∧ St E w I2 Os) ⟨I, rfl, Mem.Le.refl _, hS⟩ ?roundt1 ?lastt1) (Sub.cons rfl (Sub.cons rfl (Sub.cons rfl Sub.nil)))
    case roundt1 =>
      rintro i4 _ _ w6 hi10 ⟨I2, rfl, hl3, hS7⟩ x8 hr1 hext1
      refine W.seq ?_
      refine W.seq ?_
      refine W.region (l := [0, 1, 2, 3]) (by kernel_rfl) ?_
      refine WO.vals [(0, 12, (.int .i64 (i4 : Int))), (1, 13, (.slice a_p0 p0.length c_p0)), (2, 14, (.int .i64 (p0.length : Int))), (3, 15, (.bool (decide ((i4 : Int) < (p0.length : Int)))))] (by kernel_rfl) (fun _ => by kernel_rfl) ?_
      refine WO.nil ?_
      refine En.next ?_
      refine W.cond (b := (decide ((i4 : Int) < (p0.length : Int)))) rfl rfl (fun hc => ?_) (fun hc => ?_)
      rotate_left
      · exact absurd hc (by first | (simp; done) | (simp; omega))
      clear hc
      refine W.skip ?_
      refine En.next ?_
      refine W.seq ?_
      refine W.block ?_
      refine W.seq ?_
      refine W.seq ?_
      have hS11 := hS7.drew
      refine W.draw (l := [0, 1, 2, 3, 4, 5, 6, 7, 8, 9, 10, 11, 12, 13, 14, 15, 16, 17, 18, 19, 20, 21, 22, 23, 24, 25]) (by kernel_rfl) 26 (KR I2 []) qR (.back (by kernel_rfl)) (by kernel_rfl) (KR.nil hS11.im) ?_
      generalize World.drew _ = w12 at *
      refine WO.vals [(0, 18, (.slice a_p0 p0.length c_p0)), (1, 19, (.int .i64 (i4 : Int)))] (by kernel_rfl) (fun _ => by kernel_rfl) ?_
      obtain ⟨x13, hx_x13, hr1⟩ := bind_some hr1
      obtain ⟨h0_x13, h1_x13, hx_x13⟩ := idx_some hx_x13
      obtain ⟨ha_x13, cs_x13, hn_x13, hr_x13, hc_x13⟩ := ((RSl.mono h_p0 hl3)).el _ _ hx_x13
      obtain ⟨w_x13, rfl, h_x13⟩ := hr_x13
      refine WO.indexAddr (e := 27) (sz := 2) rfl (by kernel_rfl) (by kernel_rfl) (by kernel_rfl) rfl ha_x13 rfl h0_x13 h1_x13 ?_
      refine WO.vals [(3, 21, (.pointer (some ⟨bl a_p0, of a_p0 + ((i4 : Int)).toNat * 2, none⟩)))] (by kernel_rfl) (fun _ => by kernel_rfl) ?_
      refine WO.load rfl (by kernel_rfl) (by kernel_rfl) rfl (v := (.string x13.Name)) (fun w' hw' => hc_x13.cell0 (by kernel_rfl) ((rd_i hS11.im) w' hw')) ?_
      refine WO.vals [(5, 23, (.slice a_p1 p1.length c_p1)), (6, 24, (.int .i64 (i4 : Int)))] (by kernel_rfl) (fun _ => by kernel_rfl) ?_
      obtain ⟨x14, hx_x14, hr1⟩ := bind_some hr1
      obtain ⟨h0_x14, h1_x14, hx_x14⟩ := idx_some hx_x14
      obtain ⟨ha_x14, cs_x14, hn_x14, hr_x14, hc_x14⟩ := ((RSl.mono h_p1 hl3)).el _ _ hx_x14
      obtain ⟨w_x14, rfl, h_x14⟩ := hr_x14
      refine WO.indexAddr (e := 27) (sz := 2) rfl (by kernel_rfl) (by kernel_rfl) (by kernel_rfl) rfl ha_x14 rfl h0_x14 h1_x14 ?_
      refine WO.vals [(8, 26, (.pointer (some ⟨bl a_p1, of a_p1 + ((i4 : Int)).toNat * 2, none⟩)))] (by kernel_rfl) (fun _ => by kernel_rfl) ?_
      refine WO.load rfl (by kernel_rfl) (by kernel_rfl) rfl (v := (.string x14.Name)) (fun w' hw' => hc_x14.cell0 (by kernel_rfl) ((rd_i hS11.im) w' hw')) ?_
      refine WO.vals [(10, 28, (.bool (!sEq x13.Name x14.Name))), (11, 29, (.bool (!sEq x13.Name x14.Name)))] (by kernel_rfl) (fun _ => by kernel_rfl) ?_
      obtain ⟨j15, hr2, hr1⟩ := bind_some hr1
      refine WO.join (l1 := [12, 13, 14, 15, 16, 17, 18, 19, 20, 21, 22, 23, 24, 25]) (l2 := []) (J := (fun fr w => ∃ (I17 : Mem), fr = [(0, (.slice a_p0 p0.length c_p0)), (1, (.slice a_p1 p1.length c_p1)), (5, (.int .i64 (i4 : Int))), (43, (.bool j15))] ∧ I2.Le I17 ∧ St E w I17 Os)) ?restj15 ?waysj15
      case waysj15 =>
        refine WO.caseb (!sEq x13.Name x14.Name) (fun hc => ?_) (fun hc => ?_)
        · replace hr2 := cond_t hc hr2
          refine WO.reslot 29 rfl (show Value.bool (!sEq x13.Name x14.Name) = Value.bool true by rw [hc]) ?_
          refine WO.pass rfl (by kernel_rfl) rfl ?_
          refine WO.pass rfl (by kernel_rfl) rfl ?_
          refine WO.pass rfl (by kernel_rfl) rfl ?_
          refine WO.pass rfl (by kernel_rfl) rfl ?_
          refine WO.pass rfl (by kernel_rfl) rfl ?_
          refine WO.pass rfl (by kernel_rfl) rfl ?_
          refine WO.pass rfl (by kernel_rfl) rfl ?_
          refine WO.pass rfl (by kernel_rfl) rfl ?_
          refine WO.pass rfl (by kernel_rfl) rfl ?_
          refine WO.pass rfl (by kernel_rfl) rfl ?_
          refine WO.pass rfl (by kernel_rfl) rfl ?_
          refine WO.pass rfl (by kernel_rfl) rfl ?_
          refine WO.pass rfl (by kernel_rfl) rfl ?_
          refine WO.vals [(25, 43, (.bool true))] (by kernel_rfl) (fun _ => by kernel_rfl) ?_
          have he := Option.some.inj hr2
          subst j15
          refine WO.weaken (fr' := [(0, (.slice a_p0 p0.length c_p0)), (1, (.slice a_p1 p1.length c_p1)), (5, (.int .i64 (i4 : Int))), (43, (.bool true))]) (WO.meet ⟨I2, rfl, Mem.Le.refl _, hS11⟩) (Sub.cons rfl (Sub.cons rfl (Sub.cons rfl (Sub.cons rfl Sub.nil))))
        · replace hr2 := cond_f hc hr2
          refine WO.reslot 29 rfl (show Value.bool (!sEq x13.Name x14.Name) = Value.bool false by rw [hc]) ?_
          refine WO.vals [(12, 30, (.slice a_p0 p0.length c_p0)), (13, 31, (.int .i64 (i4 : Int)))] (by kernel_rfl) (fun _ => by kernel_rfl) ?_
          obtain ⟨x19, hx_x19, hr2⟩ := bind_some hr2
          obtain ⟨h0_x19, h1_x19, hx_x19⟩ := idx_some hx_x19
          obtain ⟨ha_x19, cs_x19, hn_x19, hr_x19, hc_x19⟩ := ((RSl.mono h_p0 hl3)).el _ _ hx_x19
          obtain ⟨w_x19, rfl, h_x19⟩ := hr_x19
          refine WO.indexAddr (e := 27) (sz := 2) rfl (by kernel_rfl) (by kernel_rfl) (by kernel_rfl) rfl ha_x19 rfl h0_x19 h1_x19 ?_
          refine WO.vals [(15, 33, (.pointer (some ⟨bl a_p0, of a_p0 + ((i4 : Int)).toNat * 2 + 1, none⟩)))] (by kernel_rfl) (fun _ => by kernel_rfl) ?_
          refine WO.load rfl (by kernel_rfl) (by kernel_rfl) rfl (v := (.slice w_x19.In.a x19.In.length w_x19.In.c)) (fun w' hw' => hc_x19.cellk 1 (by kernel_rfl) ((rd_i hS11.im) w' hw')) ?_
          refine WO.vals [(17, 35, (.int .i64 (x19.In.length : Int))), (18, 36, (.slice a_p1 p1.length c_p1)), (19, 37, (.int .i64 (i4 : Int)))] (by kernel_rfl) (fun _ => by kernel_rfl) ?_
          obtain ⟨x20, hx_x20, hr2⟩ := bind_some hr2
          obtain ⟨h0_x20, h1_x20, hx_x20⟩ := idx_some hx_x20
          obtain ⟨ha_x20, cs_x20, hn_x20, hr_x20, hc_x20⟩ := ((RSl.mono h_p1 hl3)).el _ _ hx_x20
          obtain ⟨w_x20, rfl, h_x20⟩ := hr_x20
          refine WO.indexAddr (e := 27) (sz := 2) rfl (by kernel_rfl) (by kernel_rfl) (by kernel_rfl) rfl ha_x20 rfl h0_x20 h1_x20 ?_
          refine WO.vals [(21, 39, (.pointer (some ⟨bl a_p1, of a_p1 + ((i4 : Int)).toNat * 2 + 1, none⟩)))] (by kernel_rfl) (fun _ => by kernel_rfl) ?_
          refine WO.load rfl (by kernel_rfl) (by kernel_rfl) rfl (v := (.slice w_x20.In.a x20.In.length w_x20.In.c)) (fun w' hw' => hc_x20.cellk 1 (by kernel_rfl) ((rd_i hS11.im) w' hw')) ?_
          refine WO.vals [(23, 41, (.int .i64 (x20.In.length : Int))), (24, 42, (.bool ((x19.In.length : Int) != (x20.In.length : Int)))), (25, 43, (.bool ((x19.In.length : Int) != (x20.In.length : Int))))] (by kernel_rfl) (fun _ => by kernel_rfl) ?_
          have he := Option.some.inj hr2
          subst j15
          refine WO.weaken (fr' := [(0, (.slice a_p0 p0.length c_p0)), (1, (.slice a_p1 p1.length c_p1)), (5, (.int .i64 (i4 : Int))), (43, (.bool ((x19.In.length : Int) != (x20.In.length : Int))))]) (WO.meet ⟨I2, rfl, Mem.Le.refl _, hS11⟩) (Sub.cons rfl (Sub.cons rfl (Sub.cons rfl (Sub.cons rfl Sub.nil))))
      case restj15 =>
        rintro _ w21 ⟨I17, rfl, hl18, hS22⟩
        refine WO.nil ?_
        refine En.next ?_
        refine W.cond (b := j15) rfl rfl (fun hc => ?_) (fun hc => ?_)
        · replace hr1 := cond_t hc hr1
          refine W.seq ?_
          refine W.region (l := [0]) (by kernel_rfl) ?_
          refine WO.vals [(0, 4, (.bool false))] (by kernel_rfl) (fun _ => by kernel_rfl) ?_
          refine WO.nil ?_
          refine En.next ?_
          refine W.ret ?_
          refine En.nx_ret ?_
          refine En.in_ret ?_
          refine En.nx_ret ?_
          refine En.rd_ret ?_
          have ht := hext1 _ (Option.some.inj hr1).symm
          subst t1
          refine En.in_ret ?_
          refine En.nx_ret ?_
          have he := Option.some.inj hr
          subst r
          exact En.ret1 rfl (.bool false) rfl ⟨I17, rfl, (hl3.trans hl18), hS22⟩
        · replace hr1 := cond_f hc hr1
          refine W.skip ?_
          refine En.next ?_
          refine W.seq ?_
          refine W.region (l := [0]) (by kernel_rfl) ?_
          refine WO.vals [(0, 6, (.int .i64 0))] (by kernel_rfl) (fun _ => by kernel_rfl) ?_
          refine WO.nil ?_
          refine En.next ?_
          refine W.block ?_
          obtain ⟨t25, hloop29, hr1⟩ := bind_some hr1
          refine W.weaken (fr' := [(0, (.slice a_p0 p0.length c_p0)), (1, (.slice a_p1 p1.length c_p1)), (5, (.int .i64 (i4 : Int))), (6, (.int .i64 0))]) (W.loopO hloop29 (fun (s28 : Int) fr w => ∃ (I26 : Mem), fr = [(0, (.slice a_p0 p0.length c_p0)), (1, (.slice a_p1 p1.length c_p1)), (5, (.int .i64 (i4 : Int))), (6, (.int .i64 s28))] ∧ I17.Le I26 ∧ St E w I26 Os) ⟨I17, rfl, Mem.Le.refl _, hS22⟩ ?_) (Sub.cons rfl (Sub.cons rfl (Sub.cons rfl (Sub.cons rfl Sub.nil))))
          rintro s28 _ w30 ⟨I26, rfl, hl27, hS31⟩ x32 hr2 hext25
          refine W.seq ?_
          refine W.seq ?_
          refine W.region (l := [0, 1, 2, 3, 4, 5, 6, 7]) (by kernel_rfl) ?_
          refine WO.vals [(0, 44, (.int .i64 s28)), (1, 45, (.slice a_p0 p0.length c_p0)), (2, 46, (.int .i64 (i4 : Int)))] (by kernel_rfl) (fun _ => by kernel_rfl) ?_
          obtain ⟨x33, hx_x33, hr2⟩ := bind_some hr2
          obtain ⟨h0_x33, h1_x33, hx_x33⟩ := idx_some hx_x33
          obtain ⟨ha_x33, cs_x33, hn_x33, hr_x33, hc_x33⟩ := ((RSl.mono h_p0 ((hl3.trans hl18).trans hl27))).el _ _ hx_x33
          obtain ⟨w_x33, rfl, h_x33⟩ := hr_x33
          refine WO.indexAddr (e := 27) (sz := 2) rfl (by kernel_rfl) (by kernel_rfl) (by kernel_rfl) rfl ha_x33 rfl h0_x33 h1_x33 ?_
          refine WO.vals [(4, 48, (.pointer (some ⟨bl a_p0, of a_p0 + ((i4 : Int)).toNat * 2 + 1, none⟩)))] (by kernel_rfl) (fun _ => by kernel_rfl) ?_
          refine WO.load rfl (by kernel_rfl) (by kernel_rfl) rfl (v := (.slice w_x33.In.a x33.In.length w_x33.In.c)) (fun w' hw' => hc_x33.cellk 1 (by kernel_rfl) ((rd_f hS31.im) w' hw')) ?_
          refine WO.vals [(6, 50, (.int .i64 (x33.In.length : Int))), (7, 51, (.bool (decide (s28 < (x33.In.length : Int)))))] (by kernel_rfl) (fun _ => by kernel_rfl) ?_
          refine WO.nil ?_
          refine En.next ?_
          refine W.cond (b := (decide (s28 < (x33.In.length : Int)))) rfl rfl (fun hc => ?_) (fun hc => ?_)
          · replace hr2 := cond_t hc hr2
            refine W.skip ?_
            refine En.next ?_
            refine W.seq ?_
            refine W.block ?_
            refine W.seq ?_
            have hS34 := hS31.drew
            refine W.draw (l := [0, 1, 2, 3, 4, 5, 6, 7, 8, 9, 10, 11, 12, 13, 14, 15, 16]) (by kernel_rfl) 16 (KR I26 []) qR (.back (by kernel_rfl)) (by kernel_rfl) (KR.nil hS34.im) ?_
            generalize World.drew _ = w35 at *
            refine WO.vals [(0, 54, (.slice a_p0 p0.length c_p0)), (1, 55, (.int .i64 (i4 : Int)))] (by kernel_rfl) (fun _ => by kernel_rfl) ?_
            obtain ⟨x36, hx_x36, hr2⟩ := bind_some hr2
            obtain ⟨h0_x36, h1_x36, hx_x36⟩ := idx_some hx_x36
            obtain ⟨ha_x36, cs_x36, hn_x36, hr_x36, hc_x36⟩ := ((RSl.mono h_p0 ((hl3.trans hl18).trans hl27))).el _ _ hx_x36
            obtain ⟨w_x36, rfl, h_x36⟩ := hr_x36
            refine WO.indexAddr (e := 27) (sz := 2) rfl (by kernel_rfl) (by kernel_rfl) (by kernel_rfl) rfl ha_x36 rfl h0_x36 h1_x36 ?_
            refine WO.vals [(3, 57, (.pointer (some ⟨bl a_p0, of a_p0 + ((i4 : Int)).toNat * 2 + 1, none⟩)))] (by kernel_rfl) (fun _ => by kernel_rfl) ?_
            refine WO.load rfl (by kernel_rfl) (by kernel_rfl) rfl (v := (.slice w_x36.In.a x36.In.length w_x36.In.c)) (fun w' hw' => hc_x36.cellk 1 (by kernel_rfl) ((rd_i hS34.im) w' hw')) ?_
            refine WO.vals [(5, 59, (.int .i64 s28))] (by kernel_rfl) (fun _ => by kernel_rfl) ?_
            obtain ⟨x37, hx_x37, hr2⟩ := bind_some hr2
            obtain ⟨h0_x37, h1_x37, hx_x37⟩ := idx_some hx_x37
            obtain ⟨ha_x37, cs_x37, hn_x37, hr_x37, hc_x37⟩ := (h_x36.In).el _ _ hx_x37
            obtain rfl := hr_x37
            refine WO.indexAddr (e := 9) (sz := 1) rfl (by kernel_rfl) (by kernel_rfl) (by kernel_rfl) rfl ha_x37 rfl h0_x37 h1_x37 ?_
            refine WO.load rfl (by kernel_rfl) (by kernel_rfl) rfl (v := (.string x37)) (fun w' hw' => hc_x37.cell0 (by kernel_rfl) ((rd_i hS34.im) w' hw')) ?_
            refine WO.vals [(8, 62, (.slice a_p1 p1.length c_p1)), (9, 63, (.int .i64 (i4 : Int)))] (by kernel_rfl) (fun _ => by kernel_rfl) ?_
            obtain ⟨x38, hx_x38, hr2⟩ := bind_some hr2
            obtain ⟨h0_x38, h1_x38, hx_x38⟩ := idx_some hx_x38
            obtain ⟨ha_x38, cs_x38, hn_x38, hr_x38, hc_x38⟩ := ((RSl.mono h_p1 ((hl3.trans hl18).trans hl27))).el _ _ hx_x38
            obtain ⟨w_x38, rfl, h_x38⟩ := hr_x38
            refine WO.indexAddr (e := 27) (sz := 2) rfl (by kernel_rfl) (by kernel_rfl) (by kernel_rfl) rfl ha_x38 rfl h0_x38 h1_x38 ?_
            refine WO.vals [(11, 65, (.pointer (some ⟨bl a_p1, of a_p1 + ((i4 : Int)).toNat * 2 + 1, none⟩)))] (by kernel_rfl) (fun _ => by kernel_rfl) ?_
            refine WO.load rfl (by kernel_rfl) (by kernel_rfl) rfl (v := (.slice w_x38.In.a x38.In.length w_x38.In.c)) (fun w' hw' => hc_x38.cellk 1 (by kernel_rfl) ((rd_i hS34.im) w' hw')) ?_
            refine WO.vals [(13, 67, (.int .i64 s28))] (by kernel_rfl) (fun _ => by kernel_rfl) ?_
            obtain ⟨x39, hx_x39, hr2⟩ := bind_some hr2
            obtain ⟨h0_x39, h1_x39, hx_x39⟩ := idx_some hx_x39
            obtain ⟨ha_x39, cs_x39, hn_x39, hr_x39, hc_x39⟩ := (h_x38.In).el _ _ hx_x39
            obtain rfl := hr_x39
            refine WO.indexAddr (e := 9) (sz := 1) rfl (by kernel_rfl) (by kernel_rfl) (by kernel_rfl) rfl ha_x39 rfl h0_x39 h1_x39 ?_
            refine WO.load rfl (by kernel_rfl) (by kernel_rfl) rfl (v := (.string x39)) (fun w' hw' => hc_x39.cell0 (by kernel_rfl) ((rd_i hS34.im) w' hw')) ?_
            refine WO.tail rfl ?_
            refine WO.vals [(16, 70, (.bool (!sEq x37 x39)))] (by kernel_rfl) (fun _ => by kernel_rfl) ?_
            refine WO.nil ?_
            refine En.next ?_
            refine W.cond (b := (!sEq x37 x39)) rfl rfl (fun hc => ?_) (fun hc => ?_)
            · replace hr2 := cond_t hc hr2
              refine W.seq ?_
              refine W.region (l := [0]) (by kernel_rfl) ?_
              refine WO.vals [(0, 4, (.bool false))] (by kernel_rfl) (fun _ => by kernel_rfl) ?_
              refine WO.nil ?_
              refine En.next ?_
              refine W.ret ?_
              refine En.in_ret ?_
              refine En.nx_ret ?_
              refine En.rd_ret ?_
              have ht := hext25 _ (Option.some.inj hr2).symm
              subst t25
              refine En.in_ret ?_
              refine En.in_ret ?_
              refine En.nx_ret ?_
              refine En.rd_ret ?_
              have ht := hext1 _ (Option.some.inj hr1).symm
              subst t1
              refine En.in_ret ?_
              refine En.nx_ret ?_
              have he := Option.some.inj hr
              subst r
              exact En.ret1 rfl (.bool false) rfl ⟨I26, rfl, ((hl3.trans hl18).trans hl27), hS34⟩
            · replace hr2 := cond_f hc hr2
              refine W.skip ?_
              refine En.in_normal ?_
              refine En.next ?_
              refine W.region (l := [0, 1, 2]) (by kernel_rfl) ?_
              refine WO.vals [(0, 52, (.int .i64 s28)), (1, 53, (.int .i64 (w64 (s28 + 1)))), (2, 6, (.int .i64 (w64 (s28 + 1))))] (by kernel_rfl) (fun _ => by kernel_rfl) ?_
              refine WO.nil ?_
              refine En.weaken (fr' := [(0, (.slice a_p0 p0.length c_p0)), (1, (.slice a_p1 p1.length c_p1)), (5, (.int .i64 (i4 : Int))), (6, (.int .i64 (w64 (s28 + 1))))]) (En.round ⟨(w64 (s28 + 1)), (Option.some.inj hr2).symm, I26, rfl, hl27, hS34⟩) (Sub.cons rfl (Sub.cons rfl (Sub.cons rfl (Sub.cons rfl Sub.nil))))
          · replace hr2 := cond_f hc hr2
            refine W.exit ?_
            refine En.nx_exit ?_
            refine En.rd_exit ?_
            have ht := hext25 _ (Option.some.inj hr2).symm
            subst t25
            refine En.in_hit ?_
            refine En.in_normal ?_
            refine En.next ?_
            refine W.region (l := [0, 1, 2]) (by kernel_rfl) ?_
            refine WO.vals [(0, 16, (.int .i64 (i4 : Int)))] (by kernel_rfl) (fun _ => by kernel_rfl) ?_
            refine WO.incr (j := i4) rfl (by kernel_rfl) rfl (by first | omega | (dsimp only at *; omega)) ?_
            refine WO.vals [(2, 5, (.int .i64 ((i4 + 1 : Nat) : Int)))] (by kernel_rfl) (fun _ => by kernel_rfl) ?_
            refine WO.nil ?_
            refine En.weaken (fr' := [(0, (.slice a_p0 p0.length c_p0)), (1, (.slice a_p1 p1.length c_p1)), (5, (.int .i64 ((i4 + 1 : Nat) : Int)))]) (En.round ⟨(), (Option.some.inj hr1).symm, I26, rfl, ((hl3.trans hl18).trans hl27), hS31⟩) (Sub.cons rfl (Sub.cons rfl (Sub.cons rfl Sub.nil)))
    case lastt1 =>
      rintro _ _ w43 ⟨I2, rfl, hl3, hS44⟩ he
      cases he
      refine W.seq ?_
      refine W.seq ?_
      refine W.region (l := [0, 1, 2, 3]) (by kernel_rfl) ?_
      refine WO.vals [(0, 12, (.int .i64 (p0.length : Int))), (1, 13, (.slice a_p0 p0.length c_p0)), (2, 14, (.int .i64 (p0.length : Int))), (3, 15, (.bool (decide ((p0.length : Int) < (p0.length : Int)))))] (by kernel_rfl) (fun _ => by kernel_rfl) ?_
      refine WO.nil ?_
      refine En.next ?_
      refine W.cond (b := (decide ((p0.length : Int) < (p0.length : Int)))) rfl rfl (fun hc => ?_) (fun hc => ?_)
      · exact absurd hc (by first | (simp; done) | (simp; omega))
      clear hc
      refine W.exit ?_
      refine En.nx_exit ?_
      refine En.rd_exit ?_
      refine En.in_hit ?_
      refine En.next ?_
      refine W.seq ?_
      refine W.region (l := [0]) (by kernel_rfl) ?_
      refine WO.vals [(0, 4, (.bool true))] (by kernel_rfl) (fun _ => by kernel_rfl) ?_
      refine WO.nil ?_
      refine En.next ?_
      refine W.ret ?_
      have he := Option.some.inj hr
      subst r
      exact En.ret1 rfl (.bool true) rfl ⟨I2, rfl, hl3, hS44⟩
def registrarref14_Has (p0 : List ByteArray) (p1 : ByteArray) : Option Bool := (forN (fun (i4 : Nat) => fun (_s : Unit) => (idx p0 (i4 : Int)).bind (fun (x11 : ByteArray) => (bif (sEq x11 p1) then some (.inr true) else some (.inl ())))) p0.length 0 ()).bind (fun (t : Unit ⊕ (Bool)) => match t with | .inl _ => some false | .inr s13 => some s13)
set_option maxHeartbeats 1000000 in
theorem registrarref14_Has_ok {E w : World} {I : Mem} {Os : List Mem} {p0 : List ByteArray} {p1 : ByteArray} {a_p0 : Option Addr} {c_p0 : Nat} (h_p0 : RSl 1 RStr I a_p0 c_p0 p0) (hS : St E w I Os) {r : Bool} (hr : registrarref14_Has p0 p1 = some r) :
    Calls P 22 #[(.slice a_p0 p0.length c_p0), (.string p1)] w (fun e w' => ∃ (I' : Mem), e = .returned (.bool r) ∧ I.Le I' ∧ St E w' I' Os) := by
  refine calls_W (args := [(.slice a_p0 p0.length c_p0), (.string p1)]) (fn := Try.f22) rfl rfl rfl ?_
  unfold registrarref14_Has at hr
  refine W.seq ?_
  refine W.region (l := [0]) (by kernel_rfl) ?_
  refine WO.vals [(0, 4, (.bool false))] (by kernel_rfl) (fun _ => by kernel_rfl) ?_
  refine WO.nil ?_
  refine En.next ?_
  refine W.seq ?_
  refine W.seq ?_
  refine W.region (l := [0]) (by kernel_rfl) ?_
  refine WO.vals [(0, 5, (.int .i64 0))] (by kernel_rfl) (fun _ => by kernel_rfl) ?_
  refine WO.nil ?_
  refine En.next ?_
  refine W.block ?_
  obtain ⟨t1, hloop5, hr⟩ := bind_some hr
  have hlt9 := (h_p0).len_lt
  refine W.weaken (fr' := [(0, (.slice a_p0 p0.length c_p0)), (1, (.string p1)), (5, (.int .i64 ((0 : Nat) : Int)))]) (W.forN (m := p0.length) hloop5 (fun (i4 : Nat) => fun (_s : Unit) fr w => ∃ (I2 : Mem), fr = [(0, (.slice a_p0 p0.length c_p0)), (1, (.string p1)), (5, (.int .i64 (i4 : Int)))] ∧ I.Le I2 ∧ St E w I2 Os) ⟨I, rfl, Mem.Le.refl _, hS⟩ ?roundt1 ?lastt1) (Sub.cons rfl (Sub.cons rfl (Sub.cons rfl Sub.nil)))
  case roundt1 =>
    rintro i4 _ _ w6 hi10 ⟨I2, rfl, hl3, hS7⟩ x8 hr1 hext1
    refine W.seq ?_
    refine W.seq ?_
    refine W.region (l := [0, 1, 2, 3]) (by kernel_rfl) ?_
    refine WO.vals [(0, 6, (.int .i64 (i4 : Int))), (1, 7, (.slice a_p0 p0.length c_p0)), (2, 8, (.int .i64 (p0.length : Int))), (3, 9, (.bool (decide ((i4 : Int) < (p0.length : Int)))))] (by kernel_rfl) (fun _ => by kernel_rfl) ?_
    refine WO.nil ?_
    refine En.next ?_
    refine W.cond (b := (decide ((i4 : Int) < (p0.length : Int)))) rfl rfl (fun hc => ?_) (fun hc => ?_)
    rotate_left
    · exact absurd hc (by first | (simp; done) | (simp; omega))
    clear hc
    refine W.skip ?_
    refine En.next ?_
    refine W.seq ?_
    refine W.block ?_
    refine W.seq ?_
    refine W.region (l := [0, 1, 2, 3, 4, 5]) (by kernel_rfl) ?_
    refine WO.vals [(0, 12, (.slice a_p0 p0.length c_p0)), (1, 13, (.int .i64 (i4 : Int)))] (by kernel_rfl) (fun _ => by kernel_rfl) ?_
    obtain ⟨x11, hx_x11, hr1⟩ := bind_some hr1
    obtain ⟨h0_x11, h1_x11, hx_x11⟩ := idx_some hx_x11
    obtain ⟨ha_x11, cs_x11, hn_x11, hr_x11, hc_x11⟩ := ((RSl.mono h_p0 hl3)).el _ _ hx_x11
    obtain rfl := hr_x11
    refine WO.indexAddr (e := 9) (sz := 1) rfl (by kernel_rfl) (by kernel_rfl) (by kernel_rfl) rfl ha_x11 rfl h0_x11 h1_x11 ?_
    refine WO.load rfl (by kernel_rfl) (by kernel_rfl) rfl (v := (.string x11)) (fun w' hw' => hc_x11.cell0 (by kernel_rfl) ((rd_f hS7.im) w' hw')) ?_
    refine WO.vals [(4, 16, (.string p1)), (5, 17, (.bool (sEq x11 p1)))] (by kernel_rfl) (fun _ => by kernel_rfl) ?_
    refine WO.nil ?_
    refine En.next ?_
    refine W.cond (b := (sEq x11 p1)) rfl rfl (fun hc => ?_) (fun hc => ?_)
    · replace hr1 := cond_t hc hr1
      refine W.seq ?_
      refine W.region (l := [0]) (by kernel_rfl) ?_
      refine WO.vals [(0, 4, (.bool true))] (by kernel_rfl) (fun _ => by kernel_rfl) ?_
      refine WO.nil ?_
      refine En.next ?_
      refine W.ret ?_
      refine En.in_ret ?_
      refine En.nx_ret ?_
      refine En.rd_ret ?_
      have ht := hext1 _ (Option.some.inj hr1).symm
      subst t1
      refine En.in_ret ?_
      refine En.nx_ret ?_
      have he := Option.some.inj hr
      subst r
      exact En.ret1 rfl (.bool true) rfl ⟨I2, rfl, hl3, hS7⟩
    · replace hr1 := cond_f hc hr1
      refine W.skip ?_
      refine En.in_normal ?_
      refine En.next ?_
      refine W.region (l := [0, 1, 2]) (by kernel_rfl) ?_
      refine WO.vals [(0, 10, (.int .i64 (i4 : Int)))] (by kernel_rfl) (fun _ => by kernel_rfl) ?_
      refine WO.incr (j := i4) rfl (by kernel_rfl) rfl (by first | omega | (dsimp only at *; omega)) ?_
      refine WO.vals [(2, 5, (.int .i64 ((i4 + 1 : Nat) : Int)))] (by kernel_rfl) (fun _ => by kernel_rfl) ?_
      refine WO.nil ?_
      refine En.weaken (fr' := [(0, (.slice a_p0 p0.length c_p0)), (1, (.string p1)), (5, (.int .i64 ((i4 + 1 : Nat) : Int)))]) (En.round ⟨(), (Option.some.inj hr1).symm, I2, rfl, hl3, hS7⟩) (Sub.cons rfl (Sub.cons rfl (Sub.cons rfl Sub.nil)))
  case lastt1 =>
    rintro _ _ w14 ⟨I2, rfl, hl3, hS15⟩ he
    cases he
    refine W.seq ?_
    refine W.seq ?_
    refine W.region (l := [0, 1, 2, 3]) (by kernel_rfl) ?_
    refine WO.vals [(0, 6, (.int .i64 (p0.length : Int))), (1, 7, (.slice a_p0 p0.length c_p0)), (2, 8, (.int .i64 (p0.length : Int))), (3, 9, (.bool (decide ((p0.length : Int) < (p0.length : Int)))))] (by kernel_rfl) (fun _ => by kernel_rfl) ?_
    refine WO.nil ?_
    refine En.next ?_
    refine W.cond (b := (decide ((p0.length : Int) < (p0.length : Int)))) rfl rfl (fun hc => ?_) (fun hc => ?_)
    · exact absurd hc (by first | (simp; done) | (simp; omega))
    clear hc
    refine W.exit ?_
    refine En.nx_exit ?_
    refine En.rd_exit ?_
    refine En.in_hit ?_
    refine En.next ?_
    refine W.seq ?_
    refine W.region (l := [0]) (by kernel_rfl) ?_
    refine WO.vals [(0, 4, (.bool false))] (by kernel_rfl) (fun _ => by kernel_rfl) ?_
    refine WO.nil ?_
    refine En.next ?_
    refine W.ret ?_
    have he := Option.some.inj hr
    subst r
    exact En.ret1 rfl (.bool false) rfl ⟨I2, rfl, hl3, hS15⟩
end Go.Proofs.Ythndadengamanaa
