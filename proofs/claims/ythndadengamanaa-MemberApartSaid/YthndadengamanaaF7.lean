/- What functions of the program come to, each by a plain one. Conditions: none. -/
import Derived.Test.YthndadengamanaaF6
set_option maxRecDepth 100000
namespace Go.Proofs.Ythndadengamanaa
open Go.Gv
noncomputable def registrarlaw18_MemberApart (p0 : List registrarlaw18_Act) (p1 : ByteArray) (p2 : ByteArray) : Option Bool := (loopO (fun (s : (List api_Role) × Int) => match s with | (s16, s17) => (bif ((decide (s17 < (p0.length : Int))) && (decide (s17 < 40))) then (idx p0 s17).bind (fun (x24 : registrarlaw18_Act) => (registrarlaw18_long x24).bind (fun (r30 : Bool) => (bif r30 then (registrarlaw18_works).bind (fun (r36 : Bool) => some (.inr (.inl r36))) else (idx p0 s17).bind (fun (x39 : registrarlaw18_Act) => (registrarlaw18_done s16 x39).bind (fun ((r45, r46) : (List api_Role) × Int) => ((bif (r46 == 0) then some r45 else some s16)).bind (fun (j47 : List api_Role) => some (.inl (j47, (w64 (s17 + 1)))))))))) else some (.inr (.inr s16)))) (([{ z_api_Role with Name := (⟨#[114, 111, 111, 116]⟩ : ByteArray) }] : List api_Role), 0)).bind (fun (t : Bool ⊕ (List api_Role)) => match t with | (.inl s38) => some s38 | (.inr s54) => (bif ((decide ((p1.size : Int) > 100)) || (decide ((p2.size : Int) > 100))) then (registrarlaw18_works).bind (fun (r62 : Bool) => some r62) else (member_Grant s54 p1 p2).bind (fun ((r69, r70) : (List api_Role) × Int) => ((bif (r70 == 0) then (member_Revoke r69 p1 p2).bind (fun ((r80, r81) : (List api_Role) × Int) => ((bif (r81 != 0) then some true else (member_Is r69 p2 p1).bind (fun (r91 : Bool) => some (!r91)))).bind (fun (j82 : Bool) => ((bif j82 then some true else (registrarref18_Same r80 s54).bind (fun (r103 : Bool) => some (!r103)))).bind (fun (j94 : Bool) => (bif j94 then some (.inl false) else some (.inr ()))))) else some (.inr ()))).bind (fun (t : Bool ⊕ Unit) => match t with | (.inl s107) => some s107 | (.inr ()) => (member_Drop s54 p1).bind (fun ((r115, r116) : (List api_Role) × Int) => (loopO (fun (s120 : Int) => (bif ((decide (s120 < (r115.length : Int))) && (r116 == 0)) then (idx r115 s120).bind (fun (x127 : api_Role) => (member_All r115 x127.Name).bind (fun (r133 : List ByteArray) => (registrarref14_Has r133 p1).bind (fun (r139 : Bool) => (bif r139 then some (.inr (.inl false)) else some (.inl (w64 (s120 + 1))))))) else some (.inr (.inr ())))) 0).bind (fun (t : Bool ⊕ Unit) => match t with | (.inl s141) => some s141 | (.inr ()) => (registrarlaw18_works).bind (fun (r148 : Bool) => some r148)))))))
set_option maxHeartbeats 1000000 in
theorem registrarlaw18_MemberApart_ok {E w : World} {I : Mem} {Os : List Mem} {p0 : List registrarlaw18_Act} {p1 : ByteArray} {p2 : ByteArray} {a_p0 : Option Addr} {c_p0 : Nat} (h_p0 : RSl 3 R_registrarlaw18_Act I a_p0 c_p0 p0) (hS : St E w I Os) {r : Bool} (hr : registrarlaw18_MemberApart p0 p1 p2 = some r) :
    Calls P 5 #[(.slice a_p0 p0.length c_p0), (.string p1), (.string p2)] w (fun e w' => ∃ (I' : Mem), e = .returned (.bool r) ∧ I.Le I' ∧ St E w' I' Os) := by
  refine calls_W (args := [(.slice a_p0 p0.length c_p0), (.string p1), (.string p2)]) (fn := Try.f5) rfl rfl rfl ?_
  unfold registrarlaw18_MemberApart at hr
  refine W.seq ?_
  refine W.region (l := [0]) (by kernel_rfl) ?_
  refine WO.vals [(0, 6, (.bool false))] (by kernel_rfl) (fun _ => by kernel_rfl) ?_
  refine WO.nil ?_
  refine En.next ?_
  refine W.seq ?_
  refine W.region (l := [0, 1, 2]) (by kernel_rfl) ?_
  refine WO.vals [(0, 18, (.agg (cs_api_Role ({ z_api_Role with Name := (⟨#[114, 111, 111, 116]⟩ : ByteArray) }) zw_api_Role).toArray))] (by kernel_rfl) (fun _ => by kernel_rfl) ?_
  have hk8 : ok_api_Role I ({ z_api_Role with Name := (⟨#[114, 111, 111, 116]⟩ : ByteArray) }) zw_api_Role := ⟨SlAt.nil⟩
  refine WO.newSlice (rel := R_api_Role) (xs := ([{ z_api_Role with Name := (⟨#[114, 111, 111, 116]⟩ : ByteArray) }] : List api_Role)) hS rfl (by kernel_rfl) rfl 27 2 [(cs_api_Role ({ z_api_Role with Name := (⟨#[114, 111, 111, 116]⟩ : ByteArray) }) zw_api_Role)] (by kernel_rfl) rfl ((Elr.cons ⟨zw_api_Role, rfl, hk8⟩ Elr.nil)) (fun _ _ _ => trivial) ?_
  intro a4 C2 w6 hS5 ho3
  obtain ⟨I9, hl10, hS12, hp11⟩ := OwnSl.pub ho3 hS5
  refine WO.vals [(2, 7, (.slice a4 1 1))] (by kernel_rfl) (fun _ => by kernel_rfl) ?_
  refine WO.nil ?_
  refine En.next ?_
  refine W.seq ?_
  refine W.seq ?_
  refine W.region (l := [0]) (by kernel_rfl) ?_
  refine WO.vals [(0, 8, (.int .i64 0))] (by kernel_rfl) (fun _ => by kernel_rfl) ?_
  refine WO.nil ?_
  refine En.next ?_
  refine W.block ?_
  obtain ⟨t13, hloop18, hr⟩ := bind_some hr
  refine W.weaken (fr' := [(0, (.slice a_p0 p0.length c_p0)), (1, (.string p1)), (2, (.string p2)), (7, (.slice a4 1 1)), (8, (.int .i64 0))]) (W.loopO hloop18 (fun (s : (List api_Role) × Int) fr w => match s with | (s16, s17) => ∃ (I14 : Mem), ∃ (a_s16 : Option Addr), ∃ (c_s16 : Nat), fr = [(0, (.slice a_p0 p0.length c_p0)), (1, (.string p1)), (2, (.string p2)), (7, (.slice a_s16 s16.length c_s16)), (8, (.int .i64 s17))] ∧ I9.Le I14 ∧ St E w I14 Os ∧ RSl 2 R_api_Role I14 a_s16 c_s16 s16) ⟨I9, a4, 1, rfl, Mem.Le.refl _, hS12, hp11⟩ ?_) (Sub.cons rfl (Sub.cons rfl (Sub.cons rfl (Sub.cons rfl (Sub.cons rfl Sub.nil)))))
  rintro ⟨s16, s17⟩ _ w19 ⟨I14, a_s16, c_s16, rfl, hl15, hS20, h_s16⟩ x21 hr1 hext13
  refine W.seq ?_
  refine W.seq ?_
  refine W.region (l := [0, 1, 2, 3, 4, 5, 6, 7]) (by kernel_rfl) ?_
  refine WO.vals [(0, 20, (.int .i64 s17)), (1, 21, (.slice a_p0 p0.length c_p0)), (2, 22, (.int .i64 (p0.length : Int))), (3, 23, (.bool (decide (s17 < (p0.length : Int))))), (4, 24, (.bool (decide (s17 < (p0.length : Int)))))] (by kernel_rfl) (fun _ => by kernel_rfl) ?_
  refine WO.join (l1 := [5, 6, 7]) (l2 := []) (J := fun frx wx => frx = [(27, (.bool ((decide (s17 < (p0.length : Int))) && (decide (s17 < 40))))), (0, (.slice a_p0 p0.length c_p0)), (1, (.string p1)), (2, (.string p2)), (7, (.slice a_s16 s16.length c_s16)), (8, (.int .i64 s17))] ∧ w19 = wx) ?restm22 ?waysm22
  case waysm22 =>
    refine WO.caseb (decide (s17 < (p0.length : Int))) (fun hc => ?_) (fun hc => ?_)
    · skip
      refine WO.reslot 24 rfl (show Value.bool (decide (s17 < (p0.length : Int))) = Value.bool true by rw [hc]) ?_
      refine WO.vals [(5, 25, (.int .i64 s17)), (6, 26, (.bool (decide (s17 < 40)))), (7, 27, (.bool (decide (s17 < 40))))] (by kernel_rfl) (fun _ => by kernel_rfl) ?_
      refine WO.weaken (fr' := [(27, (.bool ((decide (s17 < (p0.length : Int))) && (decide (s17 < 40))))), (0, (.slice a_p0 p0.length c_p0)), (1, (.string p1)), (2, (.string p2)), (7, (.slice a_s16 s16.length c_s16)), (8, (.int .i64 s17))]) (WO.meet ⟨rfl, rfl⟩) (Sub.cons (by rw [hc]; rfl) (Sub.cons rfl (Sub.cons rfl (Sub.cons rfl (Sub.cons rfl (Sub.cons rfl Sub.nil))))))
    · skip
      refine WO.reslot 24 rfl (show Value.bool (decide (s17 < (p0.length : Int))) = Value.bool false by rw [hc]) ?_
      refine WO.pass rfl (by kernel_rfl) rfl ?_
      refine WO.pass rfl (by kernel_rfl) rfl ?_
      refine WO.vals [(7, 27, (.bool false))] (by kernel_rfl) (fun _ => by kernel_rfl) ?_
      refine WO.weaken (fr' := [(27, (.bool ((decide (s17 < (p0.length : Int))) && (decide (s17 < 40))))), (0, (.slice a_p0 p0.length c_p0)), (1, (.string p1)), (2, (.string p2)), (7, (.slice a_s16 s16.length c_s16)), (8, (.int .i64 s17))]) (WO.meet ⟨rfl, rfl⟩) (Sub.cons (by rw [hc]; rfl) (Sub.cons rfl (Sub.cons rfl (Sub.cons rfl (Sub.cons rfl (Sub.cons rfl Sub.nil))))))
  case restm22 =>
    rintro _ _ ⟨rfl, rfl⟩
    refine WO.nil ?_
    refine En.next ?_
    refine W.cond (b := ((decide (s17 < (p0.length : Int))) && (decide (s17 < 40)))) rfl rfl (fun hc => ?_) (fun hc => ?_)
    · replace hr1 := cond_t hc hr1
      refine W.skip ?_
      refine En.next ?_
      refine W.seq ?_
      refine W.block ?_
      refine W.seq ?_
      refine W.seq ?_
      refine W.region (l := [0, 1, 2, 3, 4]) (by kernel_rfl) ?_
      refine WO.vals [(0, 30, (.slice a_p0 p0.length c_p0)), (1, 31, (.int .i64 s17))] (by kernel_rfl) (fun _ => by kernel_rfl) ?_
      obtain ⟨x24, hx_x24, hr1⟩ := bind_some hr1
      obtain ⟨h0_x24, h1_x24, hx_x24⟩ := idx_some hx_x24
      obtain ⟨ha_x24, cs_x24, hn_x24, hr_x24, hc_x24⟩ := ((RSl.mono h_p0 (hl10.trans hl15))).el _ _ hx_x24
      obtain rfl := hr_x24
      refine WO.indexAddr (e := 38) (sz := 3) rfl (by kernel_rfl) (by kernel_rfl) (by kernel_rfl) rfl ha_x24 rfl h0_x24 h1_x24 ?_
      refine WO.loadN rfl (by kernel_rfl) (by kernel_rfl) rfl ((cs_registrarlaw18_Act x24)) (by kernel_rfl) (fun w' hw' => hc_x24.cells (k := 0) (by kernel_rfl) rfl ((rd_f hS20.im) w' hw')) ?_
      obtain ⟨r30, hx_r25, hr1⟩ := bind_some hr1
      refine WO.call rfl (by kernel_rfl) rfl (f := 16) (args := #[(.agg (cs_registrarlaw18_Act x24).toArray)]) (by kernel_rfl) (registrarlaw18_long_ok  hS20 hx_r25) ?_
      rintro _ w26 ⟨I27, rfl, hl28, hS29⟩
      refine ⟨_, rfl, trivial, ?_⟩
      refine WO.nil ?_
      refine En.next ?_
      refine W.cond (b := r30) rfl rfl (fun hc => ?_) (fun hc => ?_)
      · replace hr1 := cond_t hc hr1
        refine W.seq ?_
        refine W.region (l := [0, 1]) (by kernel_rfl) ?_
        obtain ⟨r36, hx_r31, hr1⟩ := bind_some hr1
        refine WO.call rfl (by kernel_rfl) rfl (f := 7) (args := #[]) (by kernel_rfl) (registrarlaw18_works_ok  hS29 hx_r31) ?_
        rintro _ w32 ⟨I33, rfl, hl34, hS35⟩
        refine ⟨_, rfl, trivial, ?_⟩
        refine WO.vals [(1, 6, (.bool r36))] (by kernel_rfl) (fun _ => by kernel_rfl) ?_
        refine WO.nil ?_
        refine En.next ?_
        refine W.ret ?_
        refine En.nx_ret ?_
        refine En.in_ret ?_
        refine En.nx_ret ?_
        refine En.rd_ret ?_
        have ht := hext13 _ (Option.some.inj hr1).symm
        subst t13
        refine En.in_ret ?_
        refine En.nx_ret ?_
        have he := Option.some.inj hr
        subst r
        exact En.ret1 rfl (.bool r36) rfl ⟨I33, rfl, (((hl10.trans hl15).trans hl28).trans hl34), hS35⟩
      · replace hr1 := cond_f hc hr1
        refine W.skip ?_
        refine En.next ?_
        refine W.seq ?_
        refine W.region (l := [0, 1, 2, 3, 4, 5, 6, 7, 8, 9, 10]) (by kernel_rfl) ?_
        refine WO.vals [(0, 37, (.slice a_s16 s16.length c_s16)), (1, 38, (.slice a_p0 p0.length c_p0)), (2, 39, (.int .i64 s17))] (by kernel_rfl) (fun _ => by kernel_rfl) ?_
        obtain ⟨x39, hx_x39, hr1⟩ := bind_some hr1
        obtain ⟨h0_x39, h1_x39, hx_x39⟩ := idx_some hx_x39
        obtain ⟨ha_x39, cs_x39, hn_x39, hr_x39, hc_x39⟩ := ((RSl.mono h_p0 ((hl10.trans hl15).trans hl28))).el _ _ hx_x39
        obtain rfl := hr_x39
        refine WO.indexAddr (e := 38) (sz := 3) rfl (by kernel_rfl) (by kernel_rfl) (by kernel_rfl) rfl ha_x39 rfl h0_x39 h1_x39 ?_
        refine WO.loadN rfl (by kernel_rfl) (by kernel_rfl) rfl ((cs_registrarlaw18_Act x39)) (by kernel_rfl) (fun w' hw' => hc_x39.cells (k := 0) (by kernel_rfl) rfl ((rd_f hS29.im) w' hw')) ?_
        obtain ⟨⟨r45, r46⟩, hx_r40, hr1⟩ := bind_some hr1
        refine WO.call rfl (by kernel_rfl) rfl (f := 17) (args := #[(.slice a_s16 s16.length c_s16), (.agg (cs_registrarlaw18_Act x39).toArray)]) (by kernel_rfl) (registrarlaw18_done_ok (RSl.mono h_s16 hl28) hS29 hx_r40) ?_
        rintro _ w41 ⟨I42, a_r45, c_r45, rfl, hl43, hS44, h_r45⟩
        refine ⟨_, rfl, trivial, ?_⟩
        refine WO.vals [(6, 36, (.tuple #[(.slice a_r45 r45.length c_r45), (.int .i64 r46)])), (7, 43, (.slice a_r45 r45.length c_r45)), (8, 44, (.int .i64 r46)), (9, 9, (.slice a_r45 r45.length c_r45)), (10, 10, (.int .i64 r46))] (by kernel_rfl) (fun _ => by kernel_rfl) ?_
        refine WO.nil ?_
        refine En.next ?_
        refine W.seq ?_
        refine W.region (l := [0, 1]) (by kernel_rfl) ?_
        refine WO.vals [(0, 45, (.int .i64 r46)), (1, 46, (.bool (r46 == 0)))] (by kernel_rfl) (fun _ => by kernel_rfl) ?_
        refine WO.nil ?_
        refine En.next ?_
        obtain ⟨j47, hr2, hr1⟩ := bind_some hr1
        refine W.join (J := (fun fr w => ∃ (I49 : Mem), ∃ (a_j47 : Option Addr), ∃ (c_j47 : Nat), fr = [(0, (.slice a_p0 p0.length c_p0)), (1, (.string p1)), (2, (.string p2)), (7, (.slice a_j47 j47.length c_j47)), (8, (.int .i64 s17))] ∧ I42.Le I49 ∧ St E w I49 Os ∧ RSl 2 R_api_Role I49 a_j47 c_j47 j47)) ?restj47 ?waysj47
        case waysj47 =>
          refine W.cond (b := (r46 == 0)) rfl rfl (fun hc => ?_) (fun hc => ?_)
          · replace hr2 := cond_t hc hr2
            refine W.region (l := [0, 1]) (by kernel_rfl) ?_
            refine WO.vals [(0, 47, (.slice a_r45 r45.length c_r45)), (1, 7, (.slice a_r45 r45.length c_r45))] (by kernel_rfl) (fun _ => by kernel_rfl) ?_
            refine WO.nil ?_
            have he := Option.some.inj hr2
            subst j47
            refine En.weaken (fr' := [(0, (.slice a_p0 p0.length c_p0)), (1, (.string p1)), (2, (.string p2)), (7, (.slice a_r45 r45.length c_r45)), (8, (.int .i64 s17))]) (En.round ⟨I42, a_r45, c_r45, rfl, Mem.Le.refl _, hS44, h_r45⟩) (Sub.cons rfl (Sub.cons rfl (Sub.cons rfl (Sub.cons rfl (Sub.cons rfl Sub.nil)))))
          · replace hr2 := cond_f hc hr2
            refine W.skip ?_
            have he := Option.some.inj hr2
            subst j47
            refine En.weaken (fr' := [(0, (.slice a_p0 p0.length c_p0)), (1, (.string p1)), (2, (.string p2)), (7, (.slice a_s16 s16.length c_s16)), (8, (.int .i64 s17))]) (En.round ⟨I42, a_s16, c_s16, rfl, Mem.Le.refl _, hS44, (RSl.mono h_s16 (hl28.trans hl43))⟩) (Sub.cons rfl (Sub.cons rfl (Sub.cons rfl (Sub.cons rfl (Sub.cons rfl Sub.nil)))))
        case restj47 =>
          rintro _ w51 ⟨I49, a_j47, c_j47, rfl, hl50, hS52, h_j47⟩
          refine En.in_normal ?_
          refine En.next ?_
          refine W.region (l := [0, 1, 2]) (by kernel_rfl) ?_
          refine WO.vals [(0, 28, (.int .i64 s17)), (1, 29, (.int .i64 (w64 (s17 + 1)))), (2, 8, (.int .i64 (w64 (s17 + 1))))] (by kernel_rfl) (fun _ => by kernel_rfl) ?_
          refine WO.nil ?_
          refine En.weaken (fr' := [(0, (.slice a_p0 p0.length c_p0)), (1, (.string p1)), (2, (.string p2)), (7, (.slice a_j47 j47.length c_j47)), (8, (.int .i64 (w64 (s17 + 1))))]) (En.round ⟨(j47, (w64 (s17 + 1))), (Option.some.inj hr1).symm, I49, a_j47, c_j47, rfl, (((hl15.trans hl28).trans hl43).trans hl50), hS52, h_j47⟩) (Sub.cons rfl (Sub.cons rfl (Sub.cons rfl (Sub.cons rfl (Sub.cons rfl Sub.nil)))))
    · replace hr1 := cond_f hc hr1
      refine W.exit ?_
      refine En.nx_exit ?_
      refine En.rd_exit ?_
      have ht := hext13 _ (Option.some.inj hr1).symm
      subst t13
      refine En.in_hit ?_
      refine En.next ?_
      refine W.seq ?_
      refine W.seq ?_
      refine W.region (l := [0, 1, 2, 3, 4, 5, 6, 7]) (by kernel_rfl) ?_
      refine WO.vals [(0, 48, (.string p1)), (1, 49, (.int .i64 (p1.size : Int))), (2, 50, (.bool (decide ((p1.size : Int) > 100)))), (3, 51, (.bool (decide ((p1.size : Int) > 100))))] (by kernel_rfl) (fun _ => by kernel_rfl) ?_
      refine WO.join (l1 := [4, 5, 6, 7]) (l2 := []) (J := fun frx wx => frx = [(55, (.bool ((decide ((p1.size : Int) > 100)) || (decide ((p2.size : Int) > 100))))), (1, (.string p1)), (2, (.string p2)), (7, (.slice a_s16 s16.length c_s16))] ∧ w19 = wx) ?restm155 ?waysm155
      case waysm155 =>
        refine WO.caseb (decide ((p1.size : Int) > 100)) (fun hc => ?_) (fun hc => ?_)
        · skip
          refine WO.reslot 51 rfl (show Value.bool (decide ((p1.size : Int) > 100)) = Value.bool true by rw [hc]) ?_
          refine WO.pass rfl (by kernel_rfl) rfl ?_
          refine WO.pass rfl (by kernel_rfl) rfl ?_
          refine WO.pass rfl (by kernel_rfl) rfl ?_
          refine WO.vals [(7, 55, (.bool true))] (by kernel_rfl) (fun _ => by kernel_rfl) ?_
          refine WO.weaken (fr' := [(55, (.bool ((decide ((p1.size : Int) > 100)) || (decide ((p2.size : Int) > 100))))), (1, (.string p1)), (2, (.string p2)), (7, (.slice a_s16 s16.length c_s16))]) (WO.meet ⟨rfl, rfl⟩) (Sub.cons (by rw [hc]; rfl) (Sub.cons rfl (Sub.cons rfl (Sub.cons rfl Sub.nil))))
        · skip
          refine WO.reslot 51 rfl (show Value.bool (decide ((p1.size : Int) > 100)) = Value.bool false by rw [hc]) ?_
          refine WO.vals [(4, 52, (.string p2)), (5, 53, (.int .i64 (p2.size : Int))), (6, 54, (.bool (decide ((p2.size : Int) > 100)))), (7, 55, (.bool (decide ((p2.size : Int) > 100))))] (by kernel_rfl) (fun _ => by kernel_rfl) ?_
          refine WO.weaken (fr' := [(55, (.bool ((decide ((p1.size : Int) > 100)) || (decide ((p2.size : Int) > 100))))), (1, (.string p1)), (2, (.string p2)), (7, (.slice a_s16 s16.length c_s16))]) (WO.meet ⟨rfl, rfl⟩) (Sub.cons (by rw [hc]; rfl) (Sub.cons rfl (Sub.cons rfl (Sub.cons rfl Sub.nil))))
      case restm155 =>
        rintro _ _ ⟨rfl, rfl⟩
        refine WO.nil ?_
        refine En.next ?_
        refine W.cond (b := ((decide ((p1.size : Int) > 100)) || (decide ((p2.size : Int) > 100)))) rfl rfl (fun hc => ?_) (fun hc => ?_)
        · replace hr := cond_t hc hr
          refine W.seq ?_
          refine W.region (l := [0, 1]) (by kernel_rfl) ?_
          obtain ⟨r162, hx_r157, hr⟩ := bind_some hr
          refine WO.call rfl (by kernel_rfl) rfl (f := 7) (args := #[]) (by kernel_rfl) (registrarlaw18_works_ok  hS20 hx_r157) ?_
          rintro _ w158 ⟨I159, rfl, hl160, hS161⟩
          refine ⟨_, rfl, trivial, ?_⟩
          refine WO.vals [(1, 6, (.bool r162))] (by kernel_rfl) (fun _ => by kernel_rfl) ?_
          refine WO.nil ?_
          refine En.next ?_
          refine W.ret ?_
          refine En.nx_ret ?_
          have he := Option.some.inj hr
          subst r
          exact En.ret1 rfl (.bool r162) rfl ⟨I159, rfl, ((hl10.trans hl15).trans hl160), hS161⟩
        · replace hr := cond_f hc hr
          refine W.skip ?_
          refine En.next ?_
          refine W.seq ?_
          refine W.region (l := [0, 1, 2, 3, 4, 5, 6, 7, 8]) (by kernel_rfl) ?_
          refine WO.vals [(0, 58, (.slice a_s16 s16.length c_s16)), (1, 59, (.string p1)), (2, 60, (.string p2))] (by kernel_rfl) (fun _ => by kernel_rfl) ?_
          obtain ⟨⟨r168, r169⟩, hx_r163, hr⟩ := bind_some hr
          refine WO.call rfl (by kernel_rfl) rfl (f := 19) (args := #[(.slice a_s16 s16.length c_s16), (.string p1), (.string p2)]) (by kernel_rfl) (member_Grant_ok h_s16 hS20 hx_r163) ?_
          rintro _ w164 ⟨I165, a_r168, c_r168, rfl, hl166, hS167, h_r168⟩
          refine ⟨_, rfl, trivial, ?_⟩
          refine WO.vals [(4, 57, (.tuple #[(.slice a_r168 r168.length c_r168), (.int .i64 r169)])), (5, 62, (.slice a_r168 r168.length c_r168)), (6, 63, (.int .i64 r169)), (7, 11, (.slice a_r168 r168.length c_r168)), (8, 12, (.int .i64 r169))] (by kernel_rfl) (fun _ => by kernel_rfl) ?_
          refine WO.nil ?_
          refine En.next ?_
          refine W.seq ?_
          refine W.seq ?_
          refine W.region (l := [0, 1]) (by kernel_rfl) ?_
          refine WO.vals [(0, 64, (.int .i64 r169)), (1, 65, (.bool (r169 == 0)))] (by kernel_rfl) (fun _ => by kernel_rfl) ?_
          refine WO.nil ?_
          refine En.next ?_
          obtain ⟨j170, hr1, hr⟩ := bind_some hr
          refine W.join (J := (fun fr w => ∃ (I172 : Mem), (.inr ()) = j170 ∧ fr = [(1, (.string p1)), (7, (.slice a_s16 s16.length c_s16))] ∧ I165.Le I172 ∧ St E w I172 Os)) ?restj170 ?waysj170
          case waysj170 =>
            refine W.cond (b := (r169 == 0)) rfl rfl (fun hc => ?_) (fun hc => ?_)
            · replace hr1 := cond_t hc hr1
              refine W.seq ?_
              refine W.region (l := [0, 1, 2, 3, 4, 5, 6, 7, 8]) (by kernel_rfl) ?_
              refine WO.vals [(0, 67, (.slice a_r168 r168.length c_r168)), (1, 68, (.string p1)), (2, 69, (.string p2))] (by kernel_rfl) (fun _ => by kernel_rfl) ?_
              obtain ⟨⟨r179, r180⟩, hx_r174, hr1⟩ := bind_some hr1
              refine WO.call rfl (by kernel_rfl) rfl (f := 20) (args := #[(.slice a_r168 r168.length c_r168), (.string p1), (.string p2)]) (by kernel_rfl) (member_Revoke_ok h_r168 hS167 hx_r174) ?_
              rintro _ w175 ⟨I176, a_r179, c_r179, rfl, hl177, hS178, h_r179⟩
              refine ⟨_, rfl, trivial, ?_⟩
              refine WO.vals [(4, 66, (.tuple #[(.slice a_r179 r179.length c_r179), (.int .i64 r180)])), (5, 71, (.slice a_r179 r179.length c_r179)), (6, 72, (.int .i64 r180)), (7, 13, (.slice a_r179 r179.length c_r179)), (8, 14, (.int .i64 r180))] (by kernel_rfl) (fun _ => by kernel_rfl) ?_
              refine WO.nil ?_
              refine En.next ?_
              refine W.seq ?_
              refine W.region (l := [0, 1, 2, 3, 4, 5, 6, 7, 8, 9, 10, 11, 12, 13, 14]) (by kernel_rfl) ?_
              refine WO.vals [(0, 73, (.int .i64 r180)), (1, 74, (.bool (r180 != 0))), (2, 75, (.bool (r180 != 0)))] (by kernel_rfl) (fun _ => by kernel_rfl) ?_
              obtain ⟨j181, hr2, hr1⟩ := bind_some hr1
              refine WO.join (l1 := [3, 4, 5, 6, 7, 8]) (l2 := [9, 10, 11, 12, 13, 14]) (J := (fun fr w => ∃ (I183 : Mem), fr = [(1, (.string p1)), (7, (.slice a_s16 s16.length c_s16)), (13, (.slice a_r179 r179.length c_r179)), (81, (.bool j181))] ∧ I176.Le I183 ∧ St E w I183 Os)) ?restj181 ?waysj181
              case waysj181 =>
                refine WO.caseb (r180 != 0) (fun hc => ?_) (fun hc => ?_)
                · replace hr2 := cond_t hc hr2
                  refine WO.reslot 75 rfl (show Value.bool (r180 != 0) = Value.bool true by rw [hc]) ?_
                  refine WO.pass rfl (by kernel_rfl) rfl ?_
                  refine WO.pass rfl (by kernel_rfl) rfl ?_
                  refine WO.pass rfl (by kernel_rfl) rfl ?_
                  refine WO.pass rfl (by kernel_rfl) rfl ?_
                  refine WO.pass rfl (by kernel_rfl) rfl ?_
                  refine WO.vals [(8, 81, (.bool true))] (by kernel_rfl) (fun _ => by kernel_rfl) ?_
                  have he := Option.some.inj hr2
                  subst j181
                  refine WO.weaken (fr' := [(1, (.string p1)), (7, (.slice a_s16 s16.length c_s16)), (13, (.slice a_r179 r179.length c_r179)), (81, (.bool true))]) (WO.meet ⟨I176, rfl, Mem.Le.refl _, hS178⟩) (Sub.cons rfl (Sub.cons rfl (Sub.cons rfl (Sub.cons rfl Sub.nil))))
                · replace hr2 := cond_f hc hr2
                  refine WO.reslot 75 rfl (show Value.bool (r180 != 0) = Value.bool false by rw [hc]) ?_
                  refine WO.vals [(3, 76, (.slice a_r168 r168.length c_r168)), (4, 77, (.string p2)), (5, 78, (.string p1))] (by kernel_rfl) (fun _ => by kernel_rfl) ?_
                  obtain ⟨r190, hx_r185, hr2⟩ := bind_some hr2
                  refine WO.call rfl (by kernel_rfl) rfl (f := 14) (args := #[(.slice a_r168 r168.length c_r168), (.string p2), (.string p1)]) (by kernel_rfl) (member_Is_ok (RSl.mono h_r168 hl177) hS178 hx_r185) ?_
                  rintro _ w186 ⟨I187, rfl, hl188, hS189⟩
                  refine ⟨_, rfl, trivial, ?_⟩
                  refine WO.vals [(7, 80, (.bool (!r190))), (8, 81, (.bool (!r190)))] (by kernel_rfl) (fun _ => by kernel_rfl) ?_
                  have he := Option.some.inj hr2
                  subst j181
                  refine WO.weaken (fr' := [(1, (.string p1)), (7, (.slice a_s16 s16.length c_s16)), (13, (.slice a_r179 r179.length c_r179)), (81, (.bool (!r190)))]) (WO.meet ⟨I187, rfl, hl188, hS189⟩) (Sub.cons rfl (Sub.cons rfl (Sub.cons rfl (Sub.cons rfl Sub.nil))))
              case restj181 =>
                rintro _ w191 ⟨I183, rfl, hl184, hS192⟩
                refine WO.vals [(9, 82, (.bool j181))] (by kernel_rfl) (fun _ => by kernel_rfl) ?_
                obtain ⟨j193, hr2, hr1⟩ := bind_some hr1
                refine WO.join (l1 := [10, 11, 12, 13, 14]) (l2 := []) (J := (fun fr w => ∃ (I195 : Mem), fr = [(1, (.string p1)), (7, (.slice a_s16 s16.length c_s16)), (87, (.bool j193))] ∧ I183.Le I195 ∧ St E w I195 Os)) ?restj193 ?waysj193
                case waysj193 =>
                  refine WO.caseb j181 (fun hc => ?_) (fun hc => ?_)
                  · replace hr2 := cond_t hc hr2
                    refine WO.reslot 82 rfl (show Value.bool j181 = Value.bool true by rw [hc]) ?_
                    refine WO.pass rfl (by kernel_rfl) rfl ?_
                    refine WO.pass rfl (by kernel_rfl) rfl ?_
                    refine WO.pass rfl (by kernel_rfl) rfl ?_
                    refine WO.pass rfl (by kernel_rfl) rfl ?_
                    refine WO.vals [(14, 87, (.bool true))] (by kernel_rfl) (fun _ => by kernel_rfl) ?_
                    have he := Option.some.inj hr2
                    subst j193
                    refine WO.weaken (fr' := [(1, (.string p1)), (7, (.slice a_s16 s16.length c_s16)), (87, (.bool true))]) (WO.meet ⟨I183, rfl, Mem.Le.refl _, hS192⟩) (Sub.cons rfl (Sub.cons rfl (Sub.cons rfl Sub.nil)))
                  · replace hr2 := cond_f hc hr2
                    refine WO.reslot 82 rfl (show Value.bool j181 = Value.bool false by rw [hc]) ?_
                    refine WO.vals [(10, 83, (.slice a_r179 r179.length c_r179)), (11, 84, (.slice a_s16 s16.length c_s16))] (by kernel_rfl) (fun _ => by kernel_rfl) ?_
                    obtain ⟨r202, hx_r197, hr2⟩ := bind_some hr2
                    refine WO.call rfl (by kernel_rfl) rfl (f := 10) (args := #[(.slice a_r179 r179.length c_r179), (.slice a_s16 s16.length c_s16)]) (by kernel_rfl) (registrarref18_Same_ok (RSl.mono h_r179 hl184) (RSl.mono h_s16 ((hl166.trans hl177).trans hl184)) hS192 hx_r197) ?_
                    rintro _ w198 ⟨I199, rfl, hl200, hS201⟩
                    refine ⟨_, rfl, trivial, ?_⟩
                    refine WO.vals [(13, 86, (.bool (!r202))), (14, 87, (.bool (!r202)))] (by kernel_rfl) (fun _ => by kernel_rfl) ?_
                    have he := Option.some.inj hr2
                    subst j193
                    refine WO.weaken (fr' := [(1, (.string p1)), (7, (.slice a_s16 s16.length c_s16)), (87, (.bool (!r202)))]) (WO.meet ⟨I199, rfl, hl200, hS201⟩) (Sub.cons rfl (Sub.cons rfl (Sub.cons rfl Sub.nil)))
                case restj193 =>
                  rintro _ w203 ⟨I195, rfl, hl196, hS204⟩
                  refine WO.nil ?_
                  refine En.next ?_
                  refine W.cond (b := j193) rfl rfl (fun hc => ?_) (fun hc => ?_)
                  · replace hr1 := cond_t hc hr1
                    refine W.seq ?_
                    refine W.region (l := [0]) (by kernel_rfl) ?_
                    refine WO.vals [(0, 6, (.bool false))] (by kernel_rfl) (fun _ => by kernel_rfl) ?_
                    refine WO.nil ?_
                    refine En.next ?_
                    refine W.ret ?_
                    refine En.rd_ret ?_
                    have ht := Option.some.inj hr1
                    subst j170
                    refine En.nx_ret ?_
                    have he := Option.some.inj hr
                    subst r
                    exact En.ret1 rfl (.bool false) rfl ⟨I195, rfl, (((((hl10.trans hl15).trans hl166).trans hl177).trans hl184).trans hl196), hS204⟩
                  · replace hr1 := cond_f hc hr1
                    refine W.skip ?_
                    refine En.weaken (fr' := [(1, (.string p1)), (7, (.slice a_s16 s16.length c_s16))]) (En.round ⟨I195, Option.some.inj hr1, rfl, ((hl177.trans hl184).trans hl196), hS204⟩) (Sub.cons rfl (Sub.cons rfl Sub.nil))
            · replace hr1 := cond_f hc hr1
              refine W.skip ?_
              refine En.weaken (fr' := [(1, (.string p1)), (7, (.slice a_s16 s16.length c_s16))]) (En.round ⟨I165, Option.some.inj hr1, rfl, Mem.Le.refl _, hS167⟩) (Sub.cons rfl (Sub.cons rfl Sub.nil))
          case restj170 =>
            rintro _ w207 ⟨I172, rfl, rfl, hl173, hS208⟩
            refine En.next ?_
            refine W.seq ?_
            refine W.region (l := [0, 1, 2, 3, 4, 5, 6, 7]) (by kernel_rfl) ?_
            refine WO.vals [(0, 89, (.slice a_s16 s16.length c_s16)), (1, 90, (.string p1))] (by kernel_rfl) (fun _ => by kernel_rfl) ?_
            obtain ⟨⟨r214, r215⟩, hx_r209, hr⟩ := bind_some hr
            refine WO.call rfl (by kernel_rfl) rfl (f := 21) (args := #[(.slice a_s16 s16.length c_s16), (.string p1)]) (by kernel_rfl) (member_Drop_ok (RSl.mono h_s16 (hl166.trans hl173)) hS208 hx_r209) ?_
            rintro _ w210 ⟨I211, a_r214, c_r214, rfl, hl212, hS213, h_r214⟩
            refine ⟨_, rfl, trivial, ?_⟩
            refine WO.vals [(3, 88, (.tuple #[(.slice a_r214 r214.length c_r214), (.int .i64 r215)])), (4, 92, (.slice a_r214 r214.length c_r214)), (5, 93, (.int .i64 r215)), (6, 15, (.slice a_r214 r214.length c_r214)), (7, 16, (.int .i64 r215))] (by kernel_rfl) (fun _ => by kernel_rfl) ?_
            refine WO.nil ?_
            refine En.next ?_
            refine W.seq ?_
            refine W.seq ?_
            refine W.region (l := [0]) (by kernel_rfl) ?_
            refine WO.vals [(0, 17, (.int .i64 0))] (by kernel_rfl) (fun _ => by kernel_rfl) ?_
            refine WO.nil ?_
            refine En.next ?_
            refine W.block ?_
            obtain ⟨t216, hloop220, hr⟩ := bind_some hr
            refine W.weaken (fr' := [(1, (.string p1)), (15, (.slice a_r214 r214.length c_r214)), (16, (.int .i64 r215)), (17, (.int .i64 0))]) (W.loopO hloop220 (fun (s219 : Int) fr w => ∃ (I217 : Mem), fr = [(1, (.string p1)), (15, (.slice a_r214 r214.length c_r214)), (16, (.int .i64 r215)), (17, (.int .i64 s219))] ∧ I211.Le I217 ∧ St E w I217 Os) ⟨I211, rfl, Mem.Le.refl _, hS213⟩ ?_) (Sub.cons rfl (Sub.cons rfl (Sub.cons rfl (Sub.cons rfl Sub.nil))))
            rintro s219 _ w221 ⟨I217, rfl, hl218, hS222⟩ x223 hr1 hext216
            refine W.seq ?_
            refine W.seq ?_
            refine W.region (l := [0, 1, 2, 3, 4, 5, 6, 7]) (by kernel_rfl) ?_
            refine WO.vals [(0, 94, (.int .i64 s219)), (1, 95, (.slice a_r214 r214.length c_r214)), (2, 96, (.int .i64 (r214.length : Int))), (3, 97, (.bool (decide (s219 < (r214.length : Int))))), (4, 98, (.bool (decide (s219 < (r214.length : Int)))))] (by kernel_rfl) (fun _ => by kernel_rfl) ?_
            refine WO.join (l1 := [5, 6, 7]) (l2 := []) (J := fun frx wx => frx = [(101, (.bool ((decide (s219 < (r214.length : Int))) && (r215 == 0)))), (1, (.string p1)), (15, (.slice a_r214 r214.length c_r214)), (16, (.int .i64 r215)), (17, (.int .i64 s219))] ∧ w221 = wx) ?restm224 ?waysm224
            case waysm224 =>
              refine WO.caseb (decide (s219 < (r214.length : Int))) (fun hc => ?_) (fun hc => ?_)
              · skip
                refine WO.reslot 98 rfl (show Value.bool (decide (s219 < (r214.length : Int))) = Value.bool true by rw [hc]) ?_
                refine WO.vals [(5, 99, (.int .i64 r215)), (6, 100, (.bool (r215 == 0))), (7, 101, (.bool (r215 == 0)))] (by kernel_rfl) (fun _ => by kernel_rfl) ?_
                refine WO.weaken (fr' := [(101, (.bool ((decide (s219 < (r214.length : Int))) && (r215 == 0)))), (1, (.string p1)), (15, (.slice a_r214 r214.length c_r214)), (16, (.int .i64 r215)), (17, (.int .i64 s219))]) (WO.meet ⟨rfl, rfl⟩) (Sub.cons (by rw [hc]; rfl) (Sub.cons rfl (Sub.cons rfl (Sub.cons rfl (Sub.cons rfl Sub.nil)))))
              · skip
                refine WO.reslot 98 rfl (show Value.bool (decide (s219 < (r214.length : Int))) = Value.bool false by rw [hc]) ?_
                refine WO.pass rfl (by kernel_rfl) rfl ?_
                refine WO.pass rfl (by kernel_rfl) rfl ?_
                refine WO.vals [(7, 101, (.bool false))] (by kernel_rfl) (fun _ => by kernel_rfl) ?_
                refine WO.weaken (fr' := [(101, (.bool ((decide (s219 < (r214.length : Int))) && (r215 == 0)))), (1, (.string p1)), (15, (.slice a_r214 r214.length c_r214)), (16, (.int .i64 r215)), (17, (.int .i64 s219))]) (WO.meet ⟨rfl, rfl⟩) (Sub.cons (by rw [hc]; rfl) (Sub.cons rfl (Sub.cons rfl (Sub.cons rfl (Sub.cons rfl Sub.nil)))))
            case restm224 =>
              rintro _ _ ⟨rfl, rfl⟩
              refine WO.nil ?_
              refine En.next ?_
              refine W.cond (b := ((decide (s219 < (r214.length : Int))) && (r215 == 0))) rfl rfl (fun hc => ?_) (fun hc => ?_)
              · replace hr1 := cond_t hc hr1
                refine W.skip ?_
                refine En.next ?_
                refine W.seq ?_
                refine W.block ?_
                refine W.seq ?_
                refine W.region (l := [0, 1, 2, 3, 4, 5, 6, 7, 8]) (by kernel_rfl) ?_
                refine WO.vals [(0, 104, (.slice a_r214 r214.length c_r214)), (1, 105, (.slice a_r214 r214.length c_r214)), (2, 106, (.int .i64 s219))] (by kernel_rfl) (fun _ => by kernel_rfl) ?_
                obtain ⟨x226, hx_x226, hr1⟩ := bind_some hr1
                obtain ⟨h0_x226, h1_x226, hx_x226⟩ := idx_some hx_x226
                obtain ⟨ha_x226, cs_x226, hn_x226, hr_x226, hc_x226⟩ := ((RSl.mono h_r214 hl218)).el _ _ hx_x226
                obtain ⟨w_x226, rfl, h_x226⟩ := hr_x226
                refine WO.indexAddr (e := 27) (sz := 2) rfl (by kernel_rfl) (by kernel_rfl) (by kernel_rfl) rfl ha_x226 rfl h0_x226 h1_x226 ?_
                refine WO.vals [(4, 108, (.pointer (some ⟨bl a_r214, of a_r214 + (s219).toNat * 2, none⟩)))] (by kernel_rfl) (fun _ => by kernel_rfl) ?_
                refine WO.load rfl (by kernel_rfl) (by kernel_rfl) rfl (v := (.string x226.Name)) (fun w' hw' => hc_x226.cell0 (by kernel_rfl) ((rd_f hS222.im) w' hw')) ?_
                obtain ⟨r232, hx_r227, hr1⟩ := bind_some hr1
                refine WO.call rfl (by kernel_rfl) rfl (f := 12) (args := #[(.slice a_r214 r214.length c_r214), (.string x226.Name)]) (by kernel_rfl) (member_All_ok (RSl.mono h_r214 hl218) hS222 hx_r227) ?_
                rintro _ w228 ⟨I229, a_r232, c_r232, rfl, hl230, hS231, h_r232⟩
                refine ⟨_, rfl, trivial, ?_⟩
                refine WO.vals [(7, 111, (.string p1))] (by kernel_rfl) (fun _ => by kernel_rfl) ?_
                obtain ⟨r238, hx_r233, hr1⟩ := bind_some hr1
                refine WO.call rfl (by kernel_rfl) rfl (f := 22) (args := #[(.slice a_r232 r232.length c_r232), (.string p1)]) (by kernel_rfl) (registrarref14_Has_ok h_r232 hS231 hx_r233) ?_
                rintro _ w234 ⟨I235, rfl, hl236, hS237⟩
                refine ⟨_, rfl, trivial, ?_⟩
                refine WO.nil ?_
                refine En.next ?_
                refine W.cond (b := r238) rfl rfl (fun hc => ?_) (fun hc => ?_)
                · replace hr1 := cond_t hc hr1
                  refine W.seq ?_
                  refine W.region (l := [0]) (by kernel_rfl) ?_
                  refine WO.vals [(0, 6, (.bool false))] (by kernel_rfl) (fun _ => by kernel_rfl) ?_
                  refine WO.nil ?_
                  refine En.next ?_
                  refine W.ret ?_
                  refine En.in_ret ?_
                  refine En.nx_ret ?_
                  refine En.rd_ret ?_
                  have ht := hext216 _ (Option.some.inj hr1).symm
                  subst t216
                  refine En.in_ret ?_
                  refine En.nx_ret ?_
                  have he := Option.some.inj hr
                  subst r
                  exact En.ret1 rfl (.bool false) rfl ⟨I235, rfl, (((((((hl10.trans hl15).trans hl166).trans hl173).trans hl212).trans hl218).trans hl230).trans hl236), hS237⟩
                · replace hr1 := cond_f hc hr1
                  refine W.skip ?_
                  refine En.in_normal ?_
                  refine En.next ?_
                  refine W.region (l := [0, 1, 2]) (by kernel_rfl) ?_
                  refine WO.vals [(0, 102, (.int .i64 s219)), (1, 103, (.int .i64 (w64 (s219 + 1)))), (2, 17, (.int .i64 (w64 (s219 + 1))))] (by kernel_rfl) (fun _ => by kernel_rfl) ?_
                  refine WO.nil ?_
                  refine En.weaken (fr' := [(1, (.string p1)), (15, (.slice a_r214 r214.length c_r214)), (16, (.int .i64 r215)), (17, (.int .i64 (w64 (s219 + 1))))]) (En.round ⟨(w64 (s219 + 1)), (Option.some.inj hr1).symm, I235, rfl, ((hl218.trans hl230).trans hl236), hS237⟩) (Sub.cons rfl (Sub.cons rfl (Sub.cons rfl (Sub.cons rfl Sub.nil))))
              · replace hr1 := cond_f hc hr1
                refine W.exit ?_
                refine En.nx_exit ?_
                refine En.rd_exit ?_
                have ht := hext216 _ (Option.some.inj hr1).symm
                subst t216
                refine En.in_hit ?_
                refine En.next ?_
                refine W.seq ?_
                refine W.region (l := [0, 1]) (by kernel_rfl) ?_
                obtain ⟨r253, hx_r248, hr⟩ := bind_some hr
                refine WO.call rfl (by kernel_rfl) rfl (f := 7) (args := #[]) (by kernel_rfl) (registrarlaw18_works_ok  hS222 hx_r248) ?_
                rintro _ w249 ⟨I250, rfl, hl251, hS252⟩
                refine ⟨_, rfl, trivial, ?_⟩
                refine WO.vals [(1, 6, (.bool r253))] (by kernel_rfl) (fun _ => by kernel_rfl) ?_
                refine WO.nil ?_
                refine En.next ?_
                refine W.ret ?_
                have he := Option.some.inj hr
                subst r
                exact En.ret1 rfl (.bool r253) rfl ⟨I250, rfl, ((((((hl10.trans hl15).trans hl166).trans hl173).trans hl212).trans hl218).trans hl251), hS252⟩
end Go.Proofs.Ythndadengamanaa
