/- What functions of the program come to, each by a plain one. Conditions: none. -/
import Derived.Test.YthndadengamanaaF2
set_option maxRecDepth 100000
namespace Go.Proofs.Ythndadengamanaa
open Go.Gv
noncomputable def member_Check (p0 : List api_Role) : Option Int := (member_names p0).bind (fun (r10 : List ByteArray) => ((bif (decide ((p0.length : Int) > 8)) then some true else (member_rising r10).bind (fun (r27 : Bool) => some (!r27)))).bind (fun (j17 : Bool) => (bif j17 then some 2 else (forN (fun (i36 : Nat) => fun (_s : Unit) => (idx p0 (i36 : Int)).bind (fun (x43 : api_Role) => (lex_IsName x43.Name).bind (fun (r55 : Bool) => ((bif (!r55) then some true else (member_rising x43.In).bind (fun (r67 : Bool) => some (!r67)))).bind (fun (j56 : Bool) => ((bif j56 then some true else (slices_ContainsFunc_string x43.In (fun (u0 : ByteArray) => member_Check_1 u0 r10)).bind (fun (r83 : Bool) => some r83))).bind (fun (j72 : Bool) => (bif j72 then some (.inr 2) else some (.inl ()))))))) p0.length 0 ()).bind (fun (t : Unit ⊕ (Int)) => match t with | .inl _ => (slices_ContainsFunc_api_Role p0 (fun (u0 : api_Role) => member_Check_2 u0 p0)).bind (fun (r101 : Bool) => (bif r101 then some 2 else some 0)) | .inr s89 => some s89))))
set_option maxHeartbeats 1000000 in
theorem member_Check_ok {E w : World} {I : Mem} {Os : List Mem} {p0 : List api_Role} {a_p0 : Option Addr} {c_p0 : Nat} (h_p0 : RSl 2 R_api_Role I a_p0 c_p0 p0) (hS : St E w I Os) {r : Int} (hr : member_Check p0 = some r) :
    Calls P 18 #[(.slice a_p0 p0.length c_p0)] w (fun e w' => ∃ (I' : Mem), e = .returned (.int .i64 r) ∧ I.Le I' ∧ St E w' I' Os) := by
  refine calls_W (args := [(.slice a_p0 p0.length c_p0)]) (fn := Try.f18) rfl rfl rfl ?_
  unfold member_Check at hr
  refine W.seq ?_
  refine W.region (l := [0, 1]) (by kernel_rfl) ?_
  refine WO.new hS rfl (by kernel_rfl) rfl (.cells #[(.slice a_p0 p0.length c_p0)] 22 (0, 0)) (fun b => .pointer (some ⟨b, 0, none⟩)) (by kernel_rfl) (fun _ _ _ => trivial) ?_
  intro b1 w4 hS3
  refine WO.vals [(1, 2, (.int .i64 0))] (by kernel_rfl) (fun _ => by kernel_rfl) ?_
  refine WO.nil ?_
  refine En.next ?_
  refine W.seq ?_
  refine W.region (l := [0, 1, 2, 3]) (by kernel_rfl) ?_
  refine WO.load rfl (by kernel_rfl) (by kernel_rfl) rfl (v := (.slice a_p0 p0.length c_p0)) (fun w' hw' => cell_one ((rd_f (hS3.rd (List.Mem.head _))) w' hw') (by kernel_rfl)) ?_
  obtain ⟨r10, hx_r5, hr⟩ := bind_some hr
  refine WO.call rfl (by kernel_rfl) rfl (f := 31) (args := #[(.slice a_p0 p0.length c_p0)]) (by kernel_rfl) (member_names_ok h_p0 hS3 hx_r5) ?_
  rintro _ w6 ⟨I7, a_r10, c_r10, rfl, hl8, hS9, h_r10⟩
  refine ⟨_, rfl, trivial, ?_⟩
  refine WO.new hS9 rfl (by kernel_rfl) rfl (.cells #[(.slice none 0 0)] 25 (0, 0)) (fun b => .pointer (some ⟨b, 0, none⟩)) (by kernel_rfl) (fun _ _ _ => trivial) ?_
  intro b11 w14 hS13
  refine WO.storeBox hS13 rfl (by kernel_rfl) rfl 0 rfl rfl (by kernel_rfl) (by kernel_rfl) (by kernel_rfl) (#[(.slice a_r10 r10.length c_r10)]) (by kernel_rfl) (fun _ _ => trivial) ?_
  intro w16 hS15
  refine WO.nil ?_
  refine En.next ?_
  refine W.seq ?_
  refine W.seq ?_
  refine W.region (l := [0, 1, 2, 3, 4, 5, 6, 7]) (by kernel_rfl) ?_
  refine WO.load rfl (by kernel_rfl) (by kernel_rfl) rfl (v := (.slice a_p0 p0.length c_p0)) (fun w' hw' => cell_one ((rd_f (hS15.rd (List.Mem.tail _ (List.Mem.head _)))) w' hw') (by kernel_rfl)) ?_
  refine WO.vals [(1, 9, (.int .i64 (p0.length : Int))), (2, 10, (.bool (decide ((p0.length : Int) > 8)))), (3, 11, (.bool (decide ((p0.length : Int) > 8))))] (by kernel_rfl) (fun _ => by kernel_rfl) ?_
  obtain ⟨j17, hr1, hr⟩ := bind_some hr
  refine WO.join (l1 := [4, 5, 6, 7]) (l2 := []) (J := (fun fr w => ∃ (I19 : Mem), fr = [(1, (.pointer (some ⟨b1, 0, none⟩))), (3, (.pointer (some ⟨b11, 0, none⟩))), (15, (.bool j17))] ∧ I7.Le I19 ∧ St E w I19 ((Gv.one b1 (.cells #[(.slice a_p0 p0.length c_p0)] 22 (0, 0))) :: (Gv.one b11 (.cells #[(.slice a_r10 r10.length c_r10)] 25 (0, 0))) :: Os))) ?restj17 ?waysj17
  case waysj17 =>
    refine WO.caseb (decide ((p0.length : Int) > 8)) (fun hc => ?_) (fun hc => ?_)
    · replace hr1 := cond_t hc hr1
      refine WO.reslot 11 rfl (show Value.bool (decide ((p0.length : Int) > 8)) = Value.bool true by rw [hc]) ?_
      refine WO.pass rfl (by kernel_rfl) rfl ?_
      refine WO.pass rfl (by kernel_rfl) rfl ?_
      refine WO.pass rfl (by kernel_rfl) rfl ?_
      refine WO.vals [(7, 15, (.bool true))] (by kernel_rfl) (fun _ => by kernel_rfl) ?_
      have hS21 := hS15.front1
      have he := Option.some.inj hr1
      subst j17
      refine WO.weaken (fr' := [(1, (.pointer (some ⟨b1, 0, none⟩))), (3, (.pointer (some ⟨b11, 0, none⟩))), (15, (.bool true))]) (WO.meet ⟨I7, rfl, Mem.Le.refl _, hS21⟩) (Sub.cons rfl (Sub.cons rfl (Sub.cons rfl Sub.nil)))
    · replace hr1 := cond_f hc hr1
      refine WO.reslot 11 rfl (show Value.bool (decide ((p0.length : Int) > 8)) = Value.bool false by rw [hc]) ?_
      refine WO.load rfl (by kernel_rfl) (by kernel_rfl) rfl (v := (.slice a_r10 r10.length c_r10)) (fun w' hw' => cell_one ((rd_f (hS15.rd (List.Mem.head _))) w' hw') (by kernel_rfl)) ?_
      obtain ⟨r27, hx_r22, hr1⟩ := bind_some hr1
      refine WO.call rfl (by kernel_rfl) rfl (f := 32) (args := #[(.slice a_r10 r10.length c_r10)]) (by kernel_rfl) (member_rising_ok h_r10 hS15 hx_r22) ?_
      rintro _ w23 ⟨I24, rfl, hl25, hS26⟩
      refine ⟨_, rfl, trivial, ?_⟩
      refine WO.vals [(6, 14, (.bool (!r27))), (7, 15, (.bool (!r27)))] (by kernel_rfl) (fun _ => by kernel_rfl) ?_
      have hS28 := hS26.front1
      have he := Option.some.inj hr1
      subst j17
      refine WO.weaken (fr' := [(1, (.pointer (some ⟨b1, 0, none⟩))), (3, (.pointer (some ⟨b11, 0, none⟩))), (15, (.bool (!r27)))]) (WO.meet ⟨I24, rfl, hl25, hS28⟩) (Sub.cons rfl (Sub.cons rfl (Sub.cons rfl Sub.nil)))
  case restj17 =>
    rintro _ w29 ⟨I19, rfl, hl20, hS30⟩
    refine WO.nil ?_
    refine En.next ?_
    refine W.cond (b := j17) rfl rfl (fun hc => ?_) (fun hc => ?_)
    · replace hr := cond_t hc hr
      refine W.seq ?_
      refine W.region (l := [0]) (by kernel_rfl) ?_
      refine WO.vals [(0, 2, (.int .i64 2))] (by kernel_rfl) (fun _ => by kernel_rfl) ?_
      refine WO.nil ?_
      refine En.next ?_
      refine W.ret ?_
      refine En.nx_ret ?_
      have hS31 := hS30.drop
      have hS32 := hS31.drop
      have he := Option.some.inj hr
      subst r
      exact En.ret1 rfl (.int .i64 2) rfl ⟨I19, rfl, (hl8.trans hl20), hS32⟩
    · replace hr := cond_f hc hr
      refine W.skip ?_
      refine En.next ?_
      refine W.seq ?_
      refine W.seq ?_
      refine W.region (l := [0, 1, 2]) (by kernel_rfl) ?_
      refine WO.load rfl (by kernel_rfl) (by kernel_rfl) rfl (v := (.slice a_p0 p0.length c_p0)) (fun w' hw' => cell_one ((rd_f (hS30.rd (List.Mem.head _))) w' hw') (by kernel_rfl)) ?_
      refine WO.vals [(1, 17, (.int .i64 (p0.length : Int))), (2, 18, (.int .i64 0))] (by kernel_rfl) (fun _ => by kernel_rfl) ?_
      refine WO.nil ?_
      refine En.next ?_
      refine W.block ?_
      obtain ⟨t33, hloop37, hr⟩ := bind_some hr
      have hlt41 := ((RSl.mono h_p0 (hl8.trans hl20))).len_lt
      refine W.weaken (fr' := [(1, (.pointer (some ⟨b1, 0, none⟩))), (3, (.pointer (some ⟨b11, 0, none⟩))), (16, (.slice a_p0 p0.length c_p0)), (17, (.int .i64 (p0.length : Int))), (18, (.int .i64 ((0 : Nat) : Int)))]) (W.forN (m := p0.length) hloop37 (fun (i36 : Nat) => fun (_s : Unit) fr w => ∃ (I34 : Mem), fr = [(1, (.pointer (some ⟨b1, 0, none⟩))), (3, (.pointer (some ⟨b11, 0, none⟩))), (16, (.slice a_p0 p0.length c_p0)), (17, (.int .i64 (p0.length : Int))), (18, (.int .i64 (i36 : Int)))] ∧ I19.Le I34 ∧ St E w I34 ((Gv.one b1 (.cells #[(.slice a_p0 p0.length c_p0)] 22 (0, 0))) :: (Gv.one b11 (.cells #[(.slice a_r10 r10.length c_r10)] 25 (0, 0))) :: Os)) ⟨I19, rfl, Mem.Le.refl _, hS30⟩ ?roundt33 ?lastt33) (Sub.cons rfl (Sub.cons rfl (Sub.cons rfl (Sub.cons rfl (Sub.cons rfl Sub.nil)))))
      case roundt33 =>
        rintro i36 _ _ w38 hi42 ⟨I34, rfl, hl35, hS39⟩ x40 hr1 hext33
        refine W.seq ?_
        refine W.region (l := [0]) (by kernel_rfl) ?_
        refine WO.vals [(0, 19, (.bool (decide ((i36 : Int) < (p0.length : Int)))))] (by kernel_rfl) (fun _ => by kernel_rfl) ?_
        refine WO.nil ?_
        refine En.next ?_
        refine W.seq ?_
        refine W.cond (b := (decide ((i36 : Int) < (p0.length : Int)))) rfl rfl (fun hc => ?_) (fun hc => ?_)
        rotate_left
        · exact absurd hc (by first | (simp; done) | (simp; omega))
        clear hc
        refine W.skip ?_
        refine En.next ?_
        refine W.seq ?_
        refine W.block ?_
        refine W.seq ?_
        refine W.region (l := [0, 1, 2, 3]) (by kernel_rfl) ?_
        obtain ⟨x43, hx_x43, hr1⟩ := bind_some hr1
        obtain ⟨h0_x43, h1_x43, hx_x43⟩ := idx_some hx_x43
        obtain ⟨ha_x43, cs_x43, hn_x43, hr_x43, hc_x43⟩ := ((RSl.mono h_p0 ((hl8.trans hl20).trans hl35))).el _ _ hx_x43
        obtain ⟨w_x43, rfl, h_x43⟩ := hr_x43
        refine WO.indexAddr (e := 27) (sz := 2) rfl (by kernel_rfl) (by kernel_rfl) (by kernel_rfl) rfl ha_x43 rfl h0_x43 h1_x43 ?_
        refine WO.loadN rfl (by kernel_rfl) (by kernel_rfl) rfl ((cs_api_Role x43 w_x43)) (by kernel_rfl) (fun w' hw' => hc_x43.cells (k := 0) (by kernel_rfl) rfl ((rd_f hS39.im) w' hw')) ?_
        refine WO.new hS39 rfl (by kernel_rfl) rfl (.cells (cs_api_Role z_api_Role zw_api_Role).toArray 27 (0, 0)) (fun b => .pointer (some ⟨b, 0, none⟩)) (by kernel_rfl) (fun _ _ _ => trivial) ?_
        intro b44 w47 hS46
        refine WO.storeBox hS46 rfl (by kernel_rfl) rfl 0 rfl rfl (by kernel_rfl) (by kernel_rfl) (by kernel_rfl) ((cs_api_Role x43 w_x43).toArray) (by kernel_rfl) (fun _ _ => trivial) ?_
        intro w49 hS48
        refine WO.nil ?_
        refine En.next ?_
        refine W.seq ?_
        refine W.region (l := [0, 1, 2, 3, 4, 5, 6, 7, 8, 9, 10, 11, 12, 13, 14, 15]) (by kernel_rfl) ?_
        refine WO.vals [(0, 22, (.pointer (some ⟨b44, 0, none⟩)))] (by kernel_rfl) (fun _ => by kernel_rfl) ?_
        refine WO.load rfl (by kernel_rfl) (by kernel_rfl) rfl (v := (.string x43.Name)) (fun w' hw' => cell_one ((rd_f (hS48.rd (List.Mem.head _))) w' hw') (by kernel_rfl)) ?_
        obtain ⟨r55, hx_r50, hr1⟩ := bind_some hr1
        refine WO.call rfl (by kernel_rfl) rfl (f := 33) (args := #[(.string x43.Name)]) (by kernel_rfl) (lex_IsName_ok  hS48 hx_r50) ?_
        rintro _ w51 ⟨I52, rfl, hl53, hS54⟩
        refine ⟨_, rfl, trivial, ?_⟩
        refine WO.vals [(3, 25, (.bool (!r55))), (4, 26, (.bool (!r55)))] (by kernel_rfl) (fun _ => by kernel_rfl) ?_
        obtain ⟨j56, hr2, hr1⟩ := bind_some hr1
        refine WO.join (l1 := [5, 6, 7, 8, 9]) (l2 := [10, 11, 12, 13, 14, 15]) (J := (fun fr w => ∃ (I58 : Mem), fr = [(1, (.pointer (some ⟨b1, 0, none⟩))), (3, (.pointer (some ⟨b11, 0, none⟩))), (5, (.pointer (some ⟨b44, 0, none⟩))), (16, (.slice a_p0 p0.length c_p0)), (17, (.int .i64 (p0.length : Int))), (18, (.int .i64 (i36 : Int))), (31, (.bool j56))] ∧ I52.Le I58 ∧ St E w I58 ((Gv.one b1 (.cells #[(.slice a_p0 p0.length c_p0)] 22 (0, 0))) :: (Gv.one b11 (.cells #[(.slice a_r10 r10.length c_r10)] 25 (0, 0))) :: (Gv.one b44 (.cells (cs_api_Role x43 w_x43).toArray 27 (0, 0))) :: Os))) ?restj56 ?waysj56
        case waysj56 =>
          refine WO.caseb (!r55) (fun hc => ?_) (fun hc => ?_)
          · replace hr2 := cond_t hc hr2
            refine WO.reslot 26 rfl (show Value.bool (!r55) = Value.bool true by rw [hc]) ?_
            refine WO.pass rfl (by kernel_rfl) rfl ?_
            refine WO.pass rfl (by kernel_rfl) rfl ?_
            refine WO.pass rfl (by kernel_rfl) rfl ?_
            refine WO.pass rfl (by kernel_rfl) rfl ?_
            refine WO.vals [(9, 31, (.bool true))] (by kernel_rfl) (fun _ => by kernel_rfl) ?_
            have hS60 := hS54.front2
            have hS61 := hS60.front2
            have he := Option.some.inj hr2
            subst j56
            refine WO.weaken (fr' := [(1, (.pointer (some ⟨b1, 0, none⟩))), (3, (.pointer (some ⟨b11, 0, none⟩))), (5, (.pointer (some ⟨b44, 0, none⟩))), (16, (.slice a_p0 p0.length c_p0)), (17, (.int .i64 (p0.length : Int))), (18, (.int .i64 (i36 : Int))), (31, (.bool true))]) (WO.meet ⟨I52, rfl, Mem.Le.refl _, hS61⟩) (Sub.cons rfl (Sub.cons rfl (Sub.cons rfl (Sub.cons rfl (Sub.cons rfl (Sub.cons rfl (Sub.cons rfl Sub.nil)))))))
          · replace hr2 := cond_f hc hr2
            refine WO.reslot 26 rfl (show Value.bool (!r55) = Value.bool false by rw [hc]) ?_
            refine WO.vals [(5, 27, (.pointer (some ⟨b44, 1, none⟩)))] (by kernel_rfl) (fun _ => by kernel_rfl) ?_
            refine WO.load rfl (by kernel_rfl) (by kernel_rfl) rfl (v := (.slice w_x43.In.a x43.In.length w_x43.In.c)) (fun w' hw' => cell_one ((rd_f (hS54.rd (List.Mem.head _))) w' hw') (by kernel_rfl)) ?_
            obtain ⟨r67, hx_r62, hr2⟩ := bind_some hr2
            refine WO.call rfl (by kernel_rfl) rfl (f := 32) (args := #[(.slice w_x43.In.a x43.In.length w_x43.In.c)]) (by kernel_rfl) (member_rising_ok (RSl.mono h_x43.In hl53) hS54 hx_r62) ?_
            rintro _ w63 ⟨I64, rfl, hl65, hS66⟩
            refine ⟨_, rfl, trivial, ?_⟩
            refine WO.vals [(8, 30, (.bool (!r67))), (9, 31, (.bool (!r67)))] (by kernel_rfl) (fun _ => by kernel_rfl) ?_
            have hS68 := hS66.front2
            have hS69 := hS68.front2
            have he := Option.some.inj hr2
            subst j56
            refine WO.weaken (fr' := [(1, (.pointer (some ⟨b1, 0, none⟩))), (3, (.pointer (some ⟨b11, 0, none⟩))), (5, (.pointer (some ⟨b44, 0, none⟩))), (16, (.slice a_p0 p0.length c_p0)), (17, (.int .i64 (p0.length : Int))), (18, (.int .i64 (i36 : Int))), (31, (.bool (!r67)))]) (WO.meet ⟨I64, rfl, hl65, hS69⟩) (Sub.cons rfl (Sub.cons rfl (Sub.cons rfl (Sub.cons rfl (Sub.cons rfl (Sub.cons rfl (Sub.cons rfl Sub.nil)))))))
        case restj56 =>
          rintro _ w70 ⟨I58, rfl, hl59, hS71⟩
          refine WO.vals [(10, 32, (.bool j56))] (by kernel_rfl) (fun _ => by kernel_rfl) ?_
          obtain ⟨j72, hr2, hr1⟩ := bind_some hr1
          refine WO.join (l1 := [11, 12, 13, 14, 15]) (l2 := []) (J := (fun fr w => ∃ (I74 : Mem), fr = [(1, (.pointer (some ⟨b1, 0, none⟩))), (3, (.pointer (some ⟨b11, 0, none⟩))), (16, (.slice a_p0 p0.length c_p0)), (17, (.int .i64 (p0.length : Int))), (18, (.int .i64 (i36 : Int))), (37, (.bool j72))] ∧ I58.Le I74 ∧ St E w I74 ((Gv.one b1 (.cells #[(.slice a_p0 p0.length c_p0)] 22 (0, 0))) :: (Gv.one b11 (.cells #[(.slice a_r10 r10.length c_r10)] 25 (0, 0))) :: Os))) ?restj72 ?waysj72
          case waysj72 =>
            refine WO.caseb j56 (fun hc => ?_) (fun hc => ?_)
            · replace hr2 := cond_t hc hr2
              refine WO.reslot 32 rfl (show Value.bool j56 = Value.bool true by rw [hc]) ?_
              refine WO.pass rfl (by kernel_rfl) rfl ?_
              refine WO.pass rfl (by kernel_rfl) rfl ?_
              refine WO.pass rfl (by kernel_rfl) rfl ?_
              refine WO.pass rfl (by kernel_rfl) rfl ?_
              refine WO.vals [(15, 37, (.bool true))] (by kernel_rfl) (fun _ => by kernel_rfl) ?_
              have hS76 := hS71.front2
              have hS77 := hS76.drop
              have he := Option.some.inj hr2
              subst j72
              refine WO.weaken (fr' := [(1, (.pointer (some ⟨b1, 0, none⟩))), (3, (.pointer (some ⟨b11, 0, none⟩))), (16, (.slice a_p0 p0.length c_p0)), (17, (.int .i64 (p0.length : Int))), (18, (.int .i64 (i36 : Int))), (37, (.bool true))]) (WO.meet ⟨I58, rfl, Mem.Le.refl _, hS77⟩) (Sub.cons rfl (Sub.cons rfl (Sub.cons rfl (Sub.cons rfl (Sub.cons rfl (Sub.cons rfl Sub.nil))))))
            · replace hr2 := cond_f hc hr2
              refine WO.reslot 32 rfl (show Value.bool j56 = Value.bool false by rw [hc]) ?_
              refine WO.vals [(11, 33, (.pointer (some ⟨b44, 1, none⟩)))] (by kernel_rfl) (fun _ => by kernel_rfl) ?_
              refine WO.load rfl (by kernel_rfl) (by kernel_rfl) rfl (v := (.slice w_x43.In.a x43.In.length w_x43.In.c)) (fun w' hw' => cell_one ((rd_f (hS71.rd (List.Mem.tail _ (List.Mem.tail _ (List.Mem.head _))))) w' hw') (by kernel_rfl)) ?_
              refine WO.vals [(13, 35, (.func (.func 35) #[] #[(.pointer (some ⟨b11, 0, none⟩))]))] (by kernel_rfl) (fun _ => by kernel_rfl) ?_
              obtain ⟨r83, hx_r78, hr2⟩ := bind_some hr2
              refine WO.call rfl (by kernel_rfl) rfl (f := 34) (args := #[(.slice w_x43.In.a x43.In.length w_x43.In.c), (.func (.func 35) #[] #[(.pointer (some ⟨b11, 0, none⟩))])]) (by kernel_rfl) (slices_ContainsFunc_string_ok (RSl.mono h_x43.In (hl53.trans hl59)) (fun {F Ic wc} {_} hlc hSc  {rc} hrc => member_Check_1_ok (RSl.mono (RSl.mono h_r10 (((hl20.trans hl35).trans hl53).trans hl59)) hlc) (List.mem_append_right _ (List.Mem.tail _ (List.Mem.head _))) hSc hrc) (fun _ _ => by kernel_rfl) hS71 hx_r78) ?_
              rintro _ w79 ⟨I80, rfl, hl81, hS82⟩
              refine ⟨_, rfl, trivial, ?_⟩
              refine WO.vals [(15, 37, (.bool r83))] (by kernel_rfl) (fun _ => by kernel_rfl) ?_
              have hS84 := hS82.front2
              have hS85 := hS84.drop
              have he := Option.some.inj hr2
              subst j72
              refine WO.weaken (fr' := [(1, (.pointer (some ⟨b1, 0, none⟩))), (3, (.pointer (some ⟨b11, 0, none⟩))), (16, (.slice a_p0 p0.length c_p0)), (17, (.int .i64 (p0.length : Int))), (18, (.int .i64 (i36 : Int))), (37, (.bool r83))]) (WO.meet ⟨I80, rfl, hl81, hS85⟩) (Sub.cons rfl (Sub.cons rfl (Sub.cons rfl (Sub.cons rfl (Sub.cons rfl (Sub.cons rfl Sub.nil))))))
          case restj72 =>
            rintro _ w86 ⟨I74, rfl, hl75, hS87⟩
            refine WO.nil ?_
            refine En.next ?_
            refine W.cond (b := j72) rfl rfl (fun hc => ?_) (fun hc => ?_)
            · replace hr1 := cond_t hc hr1
              refine W.seq ?_
              refine W.region (l := [0]) (by kernel_rfl) ?_
              refine WO.vals [(0, 2, (.int .i64 2))] (by kernel_rfl) (fun _ => by kernel_rfl) ?_
              refine WO.nil ?_
              refine En.next ?_
              refine W.ret ?_
              refine En.in_ret ?_
              refine En.nx_ret ?_
              refine En.rd_ret ?_
              have ht := hext33 _ (Option.some.inj hr1).symm
              subst t33
              refine En.in_ret ?_
              refine En.nx_ret ?_
              have hS92 := hS87.drop
              have hS93 := hS92.drop
              have he := Option.some.inj hr
              subst r
              exact En.ret1 rfl (.int .i64 2) rfl ⟨I74, rfl, (((((hl8.trans hl20).trans hl35).trans hl53).trans hl59).trans hl75), hS93⟩
            · replace hr1 := cond_f hc hr1
              refine W.skip ?_
              refine En.in_normal ?_
              refine En.next ?_
              refine W.region (l := [0, 1]) (by kernel_rfl) ?_
              refine WO.incr (j := i36) rfl (by kernel_rfl) rfl (by first | omega | (dsimp only at *; omega)) ?_
              refine WO.vals [(1, 18, (.int .i64 ((i36 + 1 : Nat) : Int)))] (by kernel_rfl) (fun _ => by kernel_rfl) ?_
              refine WO.nil ?_
              refine En.weaken (fr' := [(1, (.pointer (some ⟨b1, 0, none⟩))), (3, (.pointer (some ⟨b11, 0, none⟩))), (16, (.slice a_p0 p0.length c_p0)), (17, (.int .i64 (p0.length : Int))), (18, (.int .i64 ((i36 + 1 : Nat) : Int)))]) (En.round ⟨(), (Option.some.inj hr1).symm, I74, rfl, (((hl35.trans hl53).trans hl59).trans hl75), hS87⟩) (Sub.cons rfl (Sub.cons rfl (Sub.cons rfl (Sub.cons rfl (Sub.cons rfl Sub.nil)))))
      case lastt33 =>
        rintro _ _ w94 ⟨I34, rfl, hl35, hS95⟩ he
        cases he
        refine W.seq ?_
        refine W.region (l := [0]) (by kernel_rfl) ?_
        refine WO.vals [(0, 19, (.bool (decide ((p0.length : Int) < (p0.length : Int)))))] (by kernel_rfl) (fun _ => by kernel_rfl) ?_
        refine WO.nil ?_
        refine En.next ?_
        refine W.seq ?_
        refine W.cond (b := (decide ((p0.length : Int) < (p0.length : Int)))) rfl rfl (fun hc => ?_) (fun hc => ?_)
        · exact absurd hc (by first | (simp; done) | (simp; omega))
        clear hc
        refine W.exit ?_
        refine En.nx_exit ?_
        refine En.rd_exit ?_
        refine En.in_hit ?_
        refine En.next ?_
        refine W.seq ?_
        refine W.seq ?_
        refine W.region (l := [0, 1, 2]) (by kernel_rfl) ?_
        refine WO.load rfl (by kernel_rfl) (by kernel_rfl) rfl (v := (.slice a_p0 p0.length c_p0)) (fun w' hw' => cell_one ((rd_f (hS95.rd (List.Mem.head _))) w' hw') (by kernel_rfl)) ?_
        refine WO.vals [(1, 40, (.func (.func 37) #[] #[(.pointer (some ⟨b1, 0, none⟩))]))] (by kernel_rfl) (fun _ => by kernel_rfl) ?_
        obtain ⟨r101, hx_r96, hr⟩ := bind_some hr
        refine WO.call rfl (by kernel_rfl) rfl (f := 36) (args := #[(.slice a_p0 p0.length c_p0), (.func (.func 37) #[] #[(.pointer (some ⟨b1, 0, none⟩))])]) (by kernel_rfl) (slices_ContainsFunc_api_Role_ok (RSl.mono h_p0 ((hl8.trans hl20).trans hl35)) (fun {F Ic wc} {_} {_} hlc hSc h_u0 {rc} hrc => member_Check_2_ok h_u0 (RSl.mono (RSl.mono h_p0 ((hl8.trans hl20).trans hl35)) hlc) (List.mem_append_right _ (List.Mem.head _)) hSc hrc) (fun _ _ => by kernel_rfl) hS95 hx_r96) ?_
        rintro _ w97 ⟨I98, rfl, hl99, hS100⟩
        refine ⟨_, rfl, trivial, ?_⟩
        refine WO.nil ?_
        refine En.next ?_
        refine W.cond (b := r101) rfl rfl (fun hc => ?_) (fun hc => ?_)
        · replace hr := cond_t hc hr
          refine W.seq ?_
          refine W.region (l := [0]) (by kernel_rfl) ?_
          refine WO.vals [(0, 2, (.int .i64 2))] (by kernel_rfl) (fun _ => by kernel_rfl) ?_
          refine WO.nil ?_
          refine En.next ?_
          refine W.ret ?_
          refine En.nx_ret ?_
          have hS102 := hS100.drop
          have hS103 := hS102.drop
          have he := Option.some.inj hr
          subst r
          exact En.ret1 rfl (.int .i64 2) rfl ⟨I98, rfl, (((hl8.trans hl20).trans hl35).trans hl99), hS103⟩
        · replace hr := cond_f hc hr
          refine W.skip ?_
          refine En.next ?_
          refine W.seq ?_
          refine W.region (l := [0]) (by kernel_rfl) ?_
          refine WO.vals [(0, 2, (.int .i64 0))] (by kernel_rfl) (fun _ => by kernel_rfl) ?_
          refine WO.nil ?_
          refine En.next ?_
          refine W.ret ?_
          have hS104 := hS100.drop
          have hS105 := hS104.drop
          have he := Option.some.inj hr
          subst r
          exact En.ret1 rfl (.int .i64 0) rfl ⟨I98, rfl, (((hl8.trans hl20).trans hl35).trans hl99), hS105⟩
noncomputable def member_Grant (p0 : List api_Role) (p1 : ByteArray) (p2 : ByteArray) : Option ((List api_Role) × Int) := (member_Check p0).bind (fun (r6 : Int) => (bif (r6 != 0) then some (([] : List api_Role), r6) else (member_at p0 p2).bind (fun (r12 : Int) => ((bif (decide (r12 < 0)) then some true else (member_at p0 p1).bind (fun (r22 : Int) => some (decide (r22 < 0))))).bind (fun (j13 : Bool) => (bif j13 then some (([] : List api_Role), 4) else (idx p0 r12).bind (fun (x25 : api_Role) => (slices_Contains_string x25.In p1).bind (fun (r31 : Bool) => (bif r31 then some (([] : List api_Role), 19) else (member_Is p0 p1 p2).bind (fun (r37 : Bool) => (bif r37 then some (([] : List api_Role), 35) else none))))))))))
set_option maxHeartbeats 1000000 in
theorem member_Grant_ok {E w : World} {I : Mem} {Os : List Mem} {p0 : List api_Role} {p1 : ByteArray} {p2 : ByteArray} {a_p0 : Option Addr} {c_p0 : Nat} (h_p0 : RSl 2 R_api_Role I a_p0 c_p0 p0) (hS : St E w I Os) {r : (List api_Role) × Int} (hr : member_Grant p0 p1 p2 = some r) :
    Calls P 19 #[(.slice a_p0 p0.length c_p0), (.string p1), (.string p2)] w (fun e w' => ∃ (I' : Mem) (ra0 : Option Addr) (rc0 : Nat), e = .returned (.tuple #[(.slice ra0 r.1.length rc0), (.int .i64 r.2)]) ∧ I.Le I' ∧ St E w' I' Os ∧ RSl 2 R_api_Role I' ra0 rc0 r.1) := by
  refine calls_W (args := [(.slice a_p0 p0.length c_p0), (.string p1), (.string p2)]) (fn := Try.f19) rfl rfl rfl ?_
  unfold member_Grant at hr
  refine W.seq ?_
  refine W.region (l := [0, 1]) (by kernel_rfl) ?_
  refine WO.vals [(0, 6, (.slice none 0 0)), (1, 7, (.int .i64 0))] (by kernel_rfl) (fun _ => by kernel_rfl) ?_
  refine WO.nil ?_
  refine En.next ?_
  refine W.seq ?_
  refine W.seq ?_
  refine W.region (l := [0, 1, 2]) (by kernel_rfl) ?_
  refine WO.vals [(0, 13, (.slice a_p0 p0.length c_p0))] (by kernel_rfl) (fun _ => by kernel_rfl) ?_
  obtain ⟨r6, hx_r1, hr⟩ := bind_some hr
  refine WO.call rfl (by kernel_rfl) rfl (f := 18) (args := #[(.slice a_p0 p0.length c_p0)]) (by kernel_rfl) (member_Check_ok h_p0 hS hx_r1) ?_
  rintro _ w2 ⟨I3, rfl, hl4, hS5⟩
  refine ⟨_, rfl, trivial, ?_⟩
  refine WO.vals [(2, 8, (.int .i64 r6))] (by kernel_rfl) (fun _ => by kernel_rfl) ?_
  refine WO.nil ?_
  refine En.next ?_
  refine W.seq ?_
  refine W.region (l := [0, 1]) (by kernel_rfl) ?_
  refine WO.vals [(0, 15, (.int .i64 r6)), (1, 16, (.bool (r6 != 0)))] (by kernel_rfl) (fun _ => by kernel_rfl) ?_
  refine WO.nil ?_
  refine En.next ?_
  refine W.cond (b := (r6 != 0)) rfl rfl (fun hc => ?_) (fun hc => ?_)
  · replace hr := cond_t hc hr
    refine W.seq ?_
    refine W.region (l := [0, 1, 2]) (by kernel_rfl) ?_
    refine WO.vals [(0, 17, (.int .i64 r6)), (1, 6, (.slice none 0 0)), (2, 7, (.int .i64 r6))] (by kernel_rfl) (fun _ => by kernel_rfl) ?_
    refine WO.nil ?_
    refine En.next ?_
    refine W.ret ?_
    refine En.nx_ret ?_
    have he := Option.some.inj hr
    subst r
    exact En.ret2 rfl (.slice none 0 0) (.int .i64 r6) rfl rfl ⟨I3, none, 0, rfl, hl4, hS5, SlAt.nil⟩
  · replace hr := cond_f hc hr
    refine W.skip ?_
    refine En.next ?_
    refine W.seq ?_
    refine W.region (l := [0, 1, 2, 3]) (by kernel_rfl) ?_
    refine WO.vals [(0, 18, (.slice a_p0 p0.length c_p0)), (1, 19, (.string p2))] (by kernel_rfl) (fun _ => by kernel_rfl) ?_
    obtain ⟨r12, hx_r7, hr⟩ := bind_some hr
    refine WO.call rfl (by kernel_rfl) rfl (f := 23) (args := #[(.slice a_p0 p0.length c_p0), (.string p2)]) (by kernel_rfl) (member_at_ok (RSl.mono h_p0 hl4) hS5 hx_r7) ?_
    rintro _ w8 ⟨I9, rfl, hl10, hS11⟩
    refine ⟨_, rfl, trivial, ?_⟩
    refine WO.vals [(3, 9, (.int .i64 r12))] (by kernel_rfl) (fun _ => by kernel_rfl) ?_
    refine WO.nil ?_
    refine En.next ?_
    refine W.seq ?_
    refine W.block ?_
    refine W.seq ?_
    refine W.region (l := [0, 1, 2, 3, 4, 5, 6, 7, 8]) (by kernel_rfl) ?_
    refine WO.vals [(0, 22, (.int .i64 r12)), (1, 23, (.bool (decide (r12 < 0)))), (2, 24, (.bool (decide (r12 < 0))))] (by kernel_rfl) (fun _ => by kernel_rfl) ?_
    obtain ⟨j13, hr1, hr⟩ := bind_some hr
    refine WO.join (l1 := [3, 4, 5, 6, 7]) (l2 := [8]) (J := (fun fr w => ∃ (I15 : Mem), fr = [(0, (.slice a_p0 p0.length c_p0)), (1, (.string p1)), (2, (.string p2)), (9, (.int .i64 r12)), (29, (.bool j13))] ∧ I9.Le I15 ∧ St E w I15 Os)) ?restj13 ?waysj13
    case waysj13 =>
      refine WO.caseb (decide (r12 < 0)) (fun hc => ?_) (fun hc => ?_)
      · replace hr1 := cond_t hc hr1
        refine WO.reslot 24 rfl (show Value.bool (decide (r12 < 0)) = Value.bool true by rw [hc]) ?_
        refine WO.pass rfl (by kernel_rfl) rfl ?_
        refine WO.pass rfl (by kernel_rfl) rfl ?_
        refine WO.pass rfl (by kernel_rfl) rfl ?_
        refine WO.pass rfl (by kernel_rfl) rfl ?_
        refine WO.vals [(7, 29, (.bool true))] (by kernel_rfl) (fun _ => by kernel_rfl) ?_
        have he := Option.some.inj hr1
        subst j13
        refine WO.weaken (fr' := [(0, (.slice a_p0 p0.length c_p0)), (1, (.string p1)), (2, (.string p2)), (9, (.int .i64 r12)), (29, (.bool true))]) (WO.meet ⟨I9, rfl, Mem.Le.refl _, hS11⟩) (Sub.cons rfl (Sub.cons rfl (Sub.cons rfl (Sub.cons rfl (Sub.cons rfl Sub.nil)))))
      · replace hr1 := cond_f hc hr1
        refine WO.reslot 24 rfl (show Value.bool (decide (r12 < 0)) = Value.bool false by rw [hc]) ?_
        refine WO.vals [(3, 25, (.slice a_p0 p0.length c_p0)), (4, 26, (.string p1))] (by kernel_rfl) (fun _ => by kernel_rfl) ?_
        obtain ⟨r22, hx_r17, hr1⟩ := bind_some hr1
        refine WO.call rfl (by kernel_rfl) rfl (f := 23) (args := #[(.slice a_p0 p0.length c_p0), (.string p1)]) (by kernel_rfl) (member_at_ok (RSl.mono h_p0 (hl4.trans hl10)) hS11 hx_r17) ?_
        rintro _ w18 ⟨I19, rfl, hl20, hS21⟩
        refine ⟨_, rfl, trivial, ?_⟩
        refine WO.vals [(6, 28, (.bool (decide (r22 < 0)))), (7, 29, (.bool (decide (r22 < 0))))] (by kernel_rfl) (fun _ => by kernel_rfl) ?_
        have he := Option.some.inj hr1
        subst j13
        refine WO.weaken (fr' := [(0, (.slice a_p0 p0.length c_p0)), (1, (.string p1)), (2, (.string p2)), (9, (.int .i64 r12)), (29, (.bool (decide (r22 < 0))))]) (WO.meet ⟨I19, rfl, hl20, hS21⟩) (Sub.cons rfl (Sub.cons rfl (Sub.cons rfl (Sub.cons rfl (Sub.cons rfl Sub.nil)))))
    case restj13 =>
      rintro _ w23 ⟨I15, rfl, hl16, hS24⟩
      refine WO.vals [(8, 21, (.bool j13))] (by kernel_rfl) (fun _ => by kernel_rfl) ?_
      refine WO.nil ?_
      refine En.next ?_
      refine W.cond (b := j13) rfl rfl (fun hc => ?_) (fun hc => ?_)
      · replace hr := cond_t hc hr
        refine W.seq ?_
        refine W.region (l := [0, 1]) (by kernel_rfl) ?_
        refine WO.vals [(0, 6, (.slice none 0 0)), (1, 7, (.int .i64 4))] (by kernel_rfl) (fun _ => by kernel_rfl) ?_
        refine WO.nil ?_
        refine En.next ?_
        refine W.ret ?_
        refine En.in_ret ?_
        refine En.nx_ret ?_
        have he := Option.some.inj hr
        subst r
        exact En.ret2 rfl (.slice none 0 0) (.int .i64 4) rfl rfl ⟨I15, none, 0, rfl, ((hl4.trans hl10).trans hl16), hS24, SlAt.nil⟩
      · replace hr := cond_f hc hr
        refine W.seq ?_
        refine W.region (l := [0, 1, 2, 3, 4, 5, 6, 7]) (by kernel_rfl) ?_
        refine WO.vals [(0, 31, (.slice a_p0 p0.length c_p0)), (1, 32, (.int .i64 r12))] (by kernel_rfl) (fun _ => by kernel_rfl) ?_
        obtain ⟨x25, hx_x25, hr⟩ := bind_some hr
        obtain ⟨h0_x25, h1_x25, hx_x25⟩ := idx_some hx_x25
        obtain ⟨ha_x25, cs_x25, hn_x25, hr_x25, hc_x25⟩ := ((RSl.mono h_p0 ((hl4.trans hl10).trans hl16))).el _ _ hx_x25
        obtain ⟨w_x25, rfl, h_x25⟩ := hr_x25
        refine WO.indexAddr (e := 27) (sz := 2) rfl (by kernel_rfl) (by kernel_rfl) (by kernel_rfl) rfl ha_x25 rfl h0_x25 h1_x25 ?_
        refine WO.vals [(3, 34, (.pointer (some ⟨bl a_p0, of a_p0 + (r12).toNat * 2 + 1, none⟩)))] (by kernel_rfl) (fun _ => by kernel_rfl) ?_
        refine WO.load rfl (by kernel_rfl) (by kernel_rfl) rfl (v := (.slice w_x25.In.a x25.In.length w_x25.In.c)) (fun w' hw' => hc_x25.cellk 1 (by kernel_rfl) ((rd_f hS24.im) w' hw')) ?_
        refine WO.vals [(5, 36, (.string p1))] (by kernel_rfl) (fun _ => by kernel_rfl) ?_
        obtain ⟨r31, hx_r26, hr⟩ := bind_some hr
        refine WO.call rfl (by kernel_rfl) rfl (f := 29) (args := #[(.slice w_x25.In.a x25.In.length w_x25.In.c), (.string p1)]) (by kernel_rfl) (slices_Contains_string_ok h_x25.In hS24 hx_r26) ?_
        rintro _ w27 ⟨I28, rfl, hl29, hS30⟩
        refine ⟨_, rfl, trivial, ?_⟩
        refine WO.vals [(7, 30, (.bool r31))] (by kernel_rfl) (fun _ => by kernel_rfl) ?_
        refine WO.nil ?_
        refine En.next ?_
        refine W.cond (b := r31) rfl rfl (fun hc => ?_) (fun hc => ?_)
        · replace hr := cond_t hc hr
          refine W.seq ?_
          refine W.region (l := [0, 1]) (by kernel_rfl) ?_
          refine WO.vals [(0, 6, (.slice none 0 0)), (1, 7, (.int .i64 19))] (by kernel_rfl) (fun _ => by kernel_rfl) ?_
          refine WO.nil ?_
          refine En.next ?_
          refine W.ret ?_
          refine En.in_ret ?_
          refine En.nx_ret ?_
          have he := Option.some.inj hr
          subst r
          exact En.ret2 rfl (.slice none 0 0) (.int .i64 19) rfl rfl ⟨I28, none, 0, rfl, (((hl4.trans hl10).trans hl16).trans hl29), hS30, SlAt.nil⟩
        · replace hr := cond_f hc hr
          refine W.seq ?_
          refine W.region (l := [0, 1, 2, 3, 4]) (by kernel_rfl) ?_
          refine WO.vals [(0, 39, (.slice a_p0 p0.length c_p0)), (1, 40, (.string p1)), (2, 41, (.string p2))] (by kernel_rfl) (fun _ => by kernel_rfl) ?_
          obtain ⟨r37, hx_r32, hr⟩ := bind_some hr
          refine WO.call rfl (by kernel_rfl) rfl (f := 14) (args := #[(.slice a_p0 p0.length c_p0), (.string p1), (.string p2)]) (by kernel_rfl) (member_Is_ok (RSl.mono h_p0 (((hl4.trans hl10).trans hl16).trans hl29)) hS30 hx_r32) ?_
          rintro _ w33 ⟨I34, rfl, hl35, hS36⟩
          refine ⟨_, rfl, trivial, ?_⟩
          refine WO.vals [(4, 38, (.bool r37))] (by kernel_rfl) (fun _ => by kernel_rfl) ?_
          refine WO.nil ?_
          refine En.next ?_
          refine W.cond (b := r37) rfl rfl (fun hc => ?_) (fun hc => ?_)
          · replace hr := cond_t hc hr
            refine W.seq ?_
            refine W.region (l := [0, 1]) (by kernel_rfl) ?_
            refine WO.vals [(0, 6, (.slice none 0 0)), (1, 7, (.int .i64 35))] (by kernel_rfl) (fun _ => by kernel_rfl) ?_
            refine WO.nil ?_
            refine En.next ?_
            refine W.ret ?_
            refine En.in_ret ?_
            refine En.nx_ret ?_
            have he := Option.some.inj hr
            subst r
            exact En.ret2 rfl (.slice none 0 0) (.int .i64 35) rfl rfl ⟨I34, none, 0, rfl, ((((hl4.trans hl10).trans hl16).trans hl29).trans hl35), hS36, SlAt.nil⟩
          · replace hr := cond_f hc hr
            refine W.skip ?_
            refine En.in_normal ?_
            refine En.next ?_
            refine W.seq ?_
            refine W.region (l := [0, 1, 2]) (by kernel_rfl) ?_
            refine WO.vals [(0, 43, (.slice a_p0 p0.length c_p0))] (by kernel_rfl) (fun _ => by kernel_rfl) ?_
            cases hr
noncomputable def registrarlaw18_works  : Option Bool := (member_Grant ([(⟨(⟨#[97]⟩ : ByteArray), ([(⟨#[98]⟩ : ByteArray)] : List ByteArray)⟩ : api_Role), (⟨(⟨#[98]⟩ : ByteArray), ([(⟨#[99]⟩ : ByteArray)] : List ByteArray)⟩ : api_Role), { z_api_Role with Name := (⟨#[99]⟩ : ByteArray) }] : List api_Role) (⟨#[97]⟩ : ByteArray) (⟨#[99]⟩ : ByteArray)).bind (fun ((r42, r43) : (List api_Role) × Int) => (member_Check ([(⟨(⟨#[97]⟩ : ByteArray), ([(⟨#[98]⟩ : ByteArray)] : List ByteArray)⟩ : api_Role), (⟨(⟨#[98]⟩ : ByteArray), ([(⟨#[99]⟩ : ByteArray)] : List ByteArray)⟩ : api_Role), { z_api_Role with Name := (⟨#[99]⟩ : ByteArray) }] : List api_Role)).bind (fun (r49 : Int) => ((bif ((r49 == 0) && (r43 == 35)) then (member_All ([(⟨(⟨#[97]⟩ : ByteArray), ([(⟨#[98]⟩ : ByteArray)] : List ByteArray)⟩ : api_Role), (⟨(⟨#[98]⟩ : ByteArray), ([(⟨#[99]⟩ : ByteArray)] : List ByteArray)⟩ : api_Role), { z_api_Role with Name := (⟨#[99]⟩ : ByteArray) }] : List api_Role) (⟨#[97]⟩ : ByteArray)).bind (fun (r61 : List ByteArray) => some ((r61.length : Int) == 3)) else some false)).bind (fun (j52 : Bool) => ((bif j52 then (member_Is ([(⟨(⟨#[97]⟩ : ByteArray), ([(⟨#[98]⟩ : ByteArray)] : List ByteArray)⟩ : api_Role), (⟨(⟨#[98]⟩ : ByteArray), ([(⟨#[99]⟩ : ByteArray)] : List ByteArray)⟩ : api_Role), { z_api_Role with Name := (⟨#[99]⟩ : ByteArray) }] : List api_Role) (⟨#[97]⟩ : ByteArray) (⟨#[99]⟩ : ByteArray)).bind (fun (r73 : Bool) => some r73) else some false)).bind (fun (j64 : Bool) => ((bif j64 then (member_Is ([(⟨(⟨#[97]⟩ : ByteArray), ([(⟨#[98]⟩ : ByteArray)] : List ByteArray)⟩ : api_Role), (⟨(⟨#[98]⟩ : ByteArray), ([(⟨#[99]⟩ : ByteArray)] : List ByteArray)⟩ : api_Role), { z_api_Role with Name := (⟨#[99]⟩ : ByteArray) }] : List api_Role) (⟨#[99]⟩ : ByteArray) (⟨#[97]⟩ : ByteArray)).bind (fun (r85 : Bool) => some (!r85)) else some false)).bind (fun (j76 : Bool) => some j76)))))
set_option maxHeartbeats 1000000 in
theorem registrarlaw18_works_ok {E w : World} {I : Mem} {Os : List Mem} (hS : St E w I Os) {r : Bool} (hr : registrarlaw18_works = some r) :
    Calls P 7 #[] w (fun e w' => ∃ (I' : Mem), e = .returned (.bool r) ∧ I.Le I' ∧ St E w' I' Os) := by
  refine calls_W (args := []) (fn := Try.f7) rfl rfl rfl ?_
  unfold registrarlaw18_works at hr
  refine W.seq ?_
  refine W.region (l := [0]) (by kernel_rfl) ?_
  refine WO.vals [(0, 0, (.bool false))] (by kernel_rfl) (fun _ => by kernel_rfl) ?_
  refine WO.nil ?_
  refine En.next ?_
  refine W.seq ?_
  refine W.region (l := [0, 1, 2, 3, 4, 5, 6]) (by kernel_rfl) ?_
  refine WO.newSlice (rel := RStr) (xs := ([(⟨#[98]⟩ : ByteArray)] : List ByteArray)) hS rfl (by kernel_rfl) rfl 9 1 [[(.string (⟨#[98]⟩ : ByteArray))]] (by kernel_rfl) rfl ((Elr.cons rfl Elr.nil)) (fun _ _ _ => trivial) ?_
  intro a4 C2 w6 hS5 ho3
  obtain ⟨I8, hl9, hS11, hp10⟩ := OwnSl.pub ho3 hS5
  refine WO.vals [(1, 5, (.agg #[(.string (⟨#[97]⟩ : ByteArray)), (.slice a4 1 1)]))] (by kernel_rfl) (fun _ => by kernel_rfl) ?_
  refine WO.newSlice (rel := RStr) (xs := ([(⟨#[99]⟩ : ByteArray)] : List ByteArray)) hS11 rfl (by kernel_rfl) rfl 9 1 [[(.string (⟨#[99]⟩ : ByteArray))]] (by kernel_rfl) rfl ((Elr.cons rfl Elr.nil)) (fun _ _ _ => trivial) ?_
  intro a15 C13 w17 hS16 ho14
  obtain ⟨I19, hl20, hS22, hp21⟩ := OwnSl.pub ho14 hS16
  refine WO.vals [(3, 7, (.agg #[(.string (⟨#[98]⟩ : ByteArray)), (.slice a15 1 1)])), (4, 8, (.agg (cs_api_Role ({ z_api_Role with Name := (⟨#[99]⟩ : ByteArray) }) zw_api_Role).toArray))] (by kernel_rfl) (fun _ => by kernel_rfl) ?_
  have hk30 : ok_api_Role I19 (⟨(⟨#[97]⟩ : ByteArray), ([(⟨#[98]⟩ : ByteArray)] : List ByteArray)⟩ : api_Role) (⟨⟨a4, 1⟩⟩ : W_api_Role) := ⟨(RSl.mono hp10 hl20)⟩
  have hk31 : ok_api_Role I19 (⟨(⟨#[98]⟩ : ByteArray), ([(⟨#[99]⟩ : ByteArray)] : List ByteArray)⟩ : api_Role) (⟨⟨a15, 1⟩⟩ : W_api_Role) := ⟨hp21⟩
  have hk32 : ok_api_Role I19 ({ z_api_Role with Name := (⟨#[99]⟩ : ByteArray) }) zw_api_Role := ⟨SlAt.nil⟩
  refine WO.newSlice (rel := R_api_Role) (xs := ([(⟨(⟨#[97]⟩ : ByteArray), ([(⟨#[98]⟩ : ByteArray)] : List ByteArray)⟩ : api_Role), (⟨(⟨#[98]⟩ : ByteArray), ([(⟨#[99]⟩ : ByteArray)] : List ByteArray)⟩ : api_Role), { z_api_Role with Name := (⟨#[99]⟩ : ByteArray) }] : List api_Role)) hS22 rfl (by kernel_rfl) rfl 27 2 [[(.string (⟨#[97]⟩ : ByteArray)), (.slice a4 1 1)], [(.string (⟨#[98]⟩ : ByteArray)), (.slice a15 1 1)], (cs_api_Role ({ z_api_Role with Name := (⟨#[99]⟩ : ByteArray) }) zw_api_Role)] (by kernel_rfl) rfl ((Elr.cons ⟨(⟨⟨a4, 1⟩⟩ : W_api_Role), rfl, hk30⟩ (Elr.cons ⟨(⟨⟨a15, 1⟩⟩ : W_api_Role), rfl, hk31⟩ (Elr.cons ⟨zw_api_Role, rfl, hk32⟩ Elr.nil)))) (fun _ _ _ => trivial) ?_
  intro a26 C24 w28 hS27 ho25
  obtain ⟨I33, hl34, hS36, hp35⟩ := OwnSl.pub ho25 hS27
  refine WO.vals [(6, 1, (.slice a26 3 3))] (by kernel_rfl) (fun _ => by kernel_rfl) ?_
  refine WO.nil ?_
  refine En.next ?_
  refine W.seq ?_
  refine W.region (l := [0, 1, 2, 3, 4, 5, 6]) (by kernel_rfl) ?_
  refine WO.vals [(0, 11, (.slice a26 3 3))] (by kernel_rfl) (fun _ => by kernel_rfl) ?_
  obtain ⟨⟨r42, r43⟩, hx_r37, hr⟩ := bind_some hr
  refine WO.call rfl (by kernel_rfl) rfl (f := 19) (args := #[(.slice a26 3 3), (.string (⟨#[97]⟩ : ByteArray)), (.string (⟨#[99]⟩ : ByteArray))]) (by kernel_rfl) (member_Grant_ok hp35 hS36 hx_r37) ?_
  rintro _ w38 ⟨I39, a_r42, c_r42, rfl, hl40, hS41, h_r42⟩
  refine ⟨_, rfl, trivial, ?_⟩
  refine WO.vals [(2, 10, (.tuple #[(.slice a_r42 r42.length c_r42), (.int .i64 r43)])), (3, 13, (.slice a_r42 r42.length c_r42)), (4, 14, (.int .i64 r43)), (5, 2, (.slice a_r42 r42.length c_r42)), (6, 3, (.int .i64 r43))] (by kernel_rfl) (fun _ => by kernel_rfl) ?_
  refine WO.nil ?_
  refine En.next ?_
  refine W.seq ?_
  refine W.region (l := [0, 1, 2, 3, 4, 5, 6, 7, 8, 9, 10, 11, 12, 13, 14, 15, 16, 17, 18, 19, 20, 21, 22]) (by kernel_rfl) ?_
  refine WO.vals [(0, 15, (.slice a26 3 3))] (by kernel_rfl) (fun _ => by kernel_rfl) ?_
  obtain ⟨r49, hx_r44, hr⟩ := bind_some hr
  refine WO.call rfl (by kernel_rfl) rfl (f := 18) (args := #[(.slice a26 3 3)]) (by kernel_rfl) (member_Check_ok (RSl.mono hp35 hl40) hS41 hx_r44) ?_
  rintro _ w45 ⟨I46, rfl, hl47, hS48⟩
  refine ⟨_, rfl, trivial, ?_⟩
  refine WO.vals [(2, 17, (.bool (r49 == 0))), (3, 18, (.bool (r49 == 0)))] (by kernel_rfl) (fun _ => by kernel_rfl) ?_
  refine WO.join (l1 := [4, 5, 6]) (l2 := [7, 8, 9, 10, 11, 12, 13, 14, 15, 16, 17, 18, 19, 20, 21, 22]) (J := fun frx wx => frx = [(21, (.bool ((r49 == 0) && (r43 == 35)))), (1, (.slice a26 3 3))] ∧ w45 = wx) ?restm50 ?waysm50
  case waysm50 =>
    refine WO.caseb (r49 == 0) (fun hc => ?_) (fun hc => ?_)
    · skip
      refine WO.reslot 18 rfl (show Value.bool (r49 == 0) = Value.bool true by rw [hc]) ?_
      refine WO.vals [(4, 19, (.int .i64 r43)), (5, 20, (.bool (r43 == 35))), (6, 21, (.bool (r43 == 35)))] (by kernel_rfl) (fun _ => by kernel_rfl) ?_
      refine WO.weaken (fr' := [(21, (.bool ((r49 == 0) && (r43 == 35)))), (1, (.slice a26 3 3))]) (WO.meet ⟨rfl, rfl⟩) (Sub.cons (by rw [hc]; rfl) (Sub.cons rfl Sub.nil))
    · skip
      refine WO.reslot 18 rfl (show Value.bool (r49 == 0) = Value.bool false by rw [hc]) ?_
      refine WO.pass rfl (by kernel_rfl) rfl ?_
      refine WO.pass rfl (by kernel_rfl) rfl ?_
      refine WO.vals [(6, 21, (.bool false))] (by kernel_rfl) (fun _ => by kernel_rfl) ?_
      refine WO.weaken (fr' := [(21, (.bool ((r49 == 0) && (r43 == 35)))), (1, (.slice a26 3 3))]) (WO.meet ⟨rfl, rfl⟩) (Sub.cons (by rw [hc]; rfl) (Sub.cons rfl Sub.nil))
  case restm50 =>
    rintro _ _ ⟨rfl, rfl⟩
    refine WO.vals [(7, 22, (.bool ((r49 == 0) && (r43 == 35))))] (by kernel_rfl) (fun _ => by kernel_rfl) ?_
    obtain ⟨j52, hr1, hr⟩ := bind_some hr
    refine WO.join (l1 := [8, 9, 10, 11, 12]) (l2 := [13, 14, 15, 16, 17, 18, 19, 20, 21, 22]) (J := (fun fr w => ∃ (I54 : Mem), fr = [(1, (.slice a26 3 3)), (27, (.bool j52))] ∧ I46.Le I54 ∧ St E w I54 Os)) ?restj52 ?waysj52
    case waysj52 =>
      refine WO.caseb ((r49 == 0) && (r43 == 35)) (fun hc => ?_) (fun hc => ?_)
      · replace hr1 := cond_t hc hr1
        refine WO.reslot 22 rfl (show Value.bool ((r49 == 0) && (r43 == 35)) = Value.bool true by rw [hc]) ?_
        refine WO.vals [(8, 23, (.slice a26 3 3))] (by kernel_rfl) (fun _ => by kernel_rfl) ?_
        obtain ⟨r61, hx_r56, hr1⟩ := bind_some hr1
        refine WO.call rfl (by kernel_rfl) rfl (f := 12) (args := #[(.slice a26 3 3), (.string (⟨#[97]⟩ : ByteArray))]) (by kernel_rfl) (member_All_ok (RSl.mono hp35 (hl40.trans hl47)) hS48 hx_r56) ?_
        rintro _ w57 ⟨I58, a_r61, c_r61, rfl, hl59, hS60, h_r61⟩
        refine ⟨_, rfl, trivial, ?_⟩
        refine WO.vals [(10, 25, (.int .i64 (r61.length : Int))), (11, 26, (.bool ((r61.length : Int) == 3))), (12, 27, (.bool ((r61.length : Int) == 3)))] (by kernel_rfl) (fun _ => by kernel_rfl) ?_
        have he := Option.some.inj hr1
        subst j52
        refine WO.weaken (fr' := [(1, (.slice a26 3 3)), (27, (.bool ((r61.length : Int) == 3)))]) (WO.meet ⟨I58, rfl, hl59, hS60⟩) (Sub.cons rfl (Sub.cons rfl Sub.nil))
      · replace hr1 := cond_f hc hr1
        refine WO.reslot 22 rfl (show Value.bool ((r49 == 0) && (r43 == 35)) = Value.bool false by rw [hc]) ?_
        refine WO.pass rfl (by kernel_rfl) rfl ?_
        refine WO.pass rfl (by kernel_rfl) rfl ?_
        refine WO.pass rfl (by kernel_rfl) rfl ?_
        refine WO.pass rfl (by kernel_rfl) rfl ?_
        refine WO.vals [(12, 27, (.bool false))] (by kernel_rfl) (fun _ => by kernel_rfl) ?_
        have he := Option.some.inj hr1
        subst j52
        refine WO.weaken (fr' := [(1, (.slice a26 3 3)), (27, (.bool false))]) (WO.meet ⟨I46, rfl, Mem.Le.refl _, hS48⟩) (Sub.cons rfl (Sub.cons rfl Sub.nil))
    case restj52 =>
      rintro _ w62 ⟨I54, rfl, hl55, hS63⟩
      refine WO.vals [(13, 28, (.bool j52))] (by kernel_rfl) (fun _ => by kernel_rfl) ?_
      obtain ⟨j64, hr1, hr⟩ := bind_some hr
      refine WO.join (l1 := [14, 15, 16]) (l2 := [17, 18, 19, 20, 21, 22]) (J := (fun fr w => ∃ (I66 : Mem), fr = [(1, (.slice a26 3 3)), (31, (.bool j64))] ∧ I54.Le I66 ∧ St E w I66 Os)) ?restj64 ?waysj64
      case waysj64 =>
        refine WO.caseb j52 (fun hc => ?_) (fun hc => ?_)
        · replace hr1 := cond_t hc hr1
          refine WO.reslot 28 rfl (show Value.bool j52 = Value.bool true by rw [hc]) ?_
          refine WO.vals [(14, 29, (.slice a26 3 3))] (by kernel_rfl) (fun _ => by kernel_rfl) ?_
          obtain ⟨r73, hx_r68, hr1⟩ := bind_some hr1
          refine WO.call rfl (by kernel_rfl) rfl (f := 14) (args := #[(.slice a26 3 3), (.string (⟨#[97]⟩ : ByteArray)), (.string (⟨#[99]⟩ : ByteArray))]) (by kernel_rfl) (member_Is_ok (RSl.mono hp35 ((hl40.trans hl47).trans hl55)) hS63 hx_r68) ?_
          rintro _ w69 ⟨I70, rfl, hl71, hS72⟩
          refine ⟨_, rfl, trivial, ?_⟩
          refine WO.vals [(16, 31, (.bool r73))] (by kernel_rfl) (fun _ => by kernel_rfl) ?_
          have he := Option.some.inj hr1
          subst j64
          refine WO.weaken (fr' := [(1, (.slice a26 3 3)), (31, (.bool r73))]) (WO.meet ⟨I70, rfl, hl71, hS72⟩) (Sub.cons rfl (Sub.cons rfl Sub.nil))
        · replace hr1 := cond_f hc hr1
          refine WO.reslot 28 rfl (show Value.bool j52 = Value.bool false by rw [hc]) ?_
          refine WO.pass rfl (by kernel_rfl) rfl ?_
          refine WO.pass rfl (by kernel_rfl) rfl ?_
          refine WO.vals [(16, 31, (.bool false))] (by kernel_rfl) (fun _ => by kernel_rfl) ?_
          have he := Option.some.inj hr1
          subst j64
          refine WO.weaken (fr' := [(1, (.slice a26 3 3)), (31, (.bool false))]) (WO.meet ⟨I54, rfl, Mem.Le.refl _, hS63⟩) (Sub.cons rfl (Sub.cons rfl Sub.nil))
      case restj64 =>
        rintro _ w74 ⟨I66, rfl, hl67, hS75⟩
        refine WO.vals [(17, 32, (.bool j64))] (by kernel_rfl) (fun _ => by kernel_rfl) ?_
        obtain ⟨j76, hr1, hr⟩ := bind_some hr
        refine WO.join (l1 := [18, 19, 20, 21]) (l2 := [22]) (J := (fun fr w => ∃ (I78 : Mem), fr = [(36, (.bool j76))] ∧ I66.Le I78 ∧ St E w I78 Os)) ?restj76 ?waysj76
        case waysj76 =>
          refine WO.caseb j64 (fun hc => ?_) (fun hc => ?_)
          · replace hr1 := cond_t hc hr1
            refine WO.reslot 32 rfl (show Value.bool j64 = Value.bool true by rw [hc]) ?_
            refine WO.vals [(18, 33, (.slice a26 3 3))] (by kernel_rfl) (fun _ => by kernel_rfl) ?_
            obtain ⟨r85, hx_r80, hr1⟩ := bind_some hr1
            refine WO.call rfl (by kernel_rfl) rfl (f := 14) (args := #[(.slice a26 3 3), (.string (⟨#[99]⟩ : ByteArray)), (.string (⟨#[97]⟩ : ByteArray))]) (by kernel_rfl) (member_Is_ok (RSl.mono hp35 (((hl40.trans hl47).trans hl55).trans hl67)) hS75 hx_r80) ?_
            rintro _ w81 ⟨I82, rfl, hl83, hS84⟩
            refine ⟨_, rfl, trivial, ?_⟩
            refine WO.vals [(20, 35, (.bool (!r85))), (21, 36, (.bool (!r85)))] (by kernel_rfl) (fun _ => by kernel_rfl) ?_
            have he := Option.some.inj hr1
            subst j76
            refine WO.weaken (fr' := [(36, (.bool (!r85)))]) (WO.meet ⟨I82, rfl, hl83, hS84⟩) (Sub.cons rfl Sub.nil)
          · replace hr1 := cond_f hc hr1
            refine WO.reslot 32 rfl (show Value.bool j64 = Value.bool false by rw [hc]) ?_
            refine WO.pass rfl (by kernel_rfl) rfl ?_
            refine WO.pass rfl (by kernel_rfl) rfl ?_
            refine WO.pass rfl (by kernel_rfl) rfl ?_
            refine WO.vals [(21, 36, (.bool false))] (by kernel_rfl) (fun _ => by kernel_rfl) ?_
            have he := Option.some.inj hr1
            subst j76
            refine WO.weaken (fr' := [(36, (.bool false))]) (WO.meet ⟨I66, rfl, Mem.Le.refl _, hS75⟩) (Sub.cons rfl Sub.nil)
        case restj76 =>
          rintro _ w86 ⟨I78, rfl, hl79, hS87⟩
          refine WO.vals [(22, 0, (.bool j76))] (by kernel_rfl) (fun _ => by kernel_rfl) ?_
          refine WO.nil ?_
          refine En.next ?_
          refine W.ret ?_
          have he := Option.some.inj hr
          subst r
          exact En.ret1 rfl (.bool j76) rfl ⟨I78, rfl, (((((((hl9.trans hl20).trans hl34).trans hl40).trans hl47).trans hl55).trans hl67).trans hl79), hS87⟩
def registrarref18_At (p0 : List api_Role) (p1 : ByteArray) : Option Int := (forN (fun (i4 : Nat) => fun (_s : Unit) => (idx p0 (i4 : Int)).bind (fun (x11 : api_Role) => (bif (sEq x11.Name p1) then some (.inr (i4 : Int)) else some (.inl ())))) p0.length 0 ()).bind (fun (t : Unit ⊕ (Int)) => match t with | .inl _ => some (-1) | .inr s13 => some s13)
set_option maxHeartbeats 1000000 in
theorem registrarref18_At_ok {E w : World} {I : Mem} {Os : List Mem} {p0 : List api_Role} {p1 : ByteArray} {a_p0 : Option Addr} {c_p0 : Nat} (h_p0 : RSl 2 R_api_Role I a_p0 c_p0 p0) (hS : St E w I Os) {r : Int} (hr : registrarref18_At p0 p1 = some r) :
    Calls P 9 #[(.slice a_p0 p0.length c_p0), (.string p1)] w (fun e w' => ∃ (I' : Mem), e = .returned (.int .i64 r) ∧ I.Le I' ∧ St E w' I' Os) := by
  refine calls_W (args := [(.slice a_p0 p0.length c_p0), (.string p1)]) (fn := Try.f9) rfl rfl rfl ?_
  unfold registrarref18_At at hr
  refine W.seq ?_
  refine W.region (l := [0]) (by kernel_rfl) ?_
  refine WO.vals [(0, 4, (.int .i64 0))] (by kernel_rfl) (fun _ => by kernel_rfl) ?_
  refine WO.nil ?_
  refine En.next ?_
  refine W.seq ?_
  refine W.seq ?_
  refine W.region (l := [0]) (by kernel_rfl) ?_
  refine WO.vals [(0, 5, (.int .i64 0))] (by kernel_rfl) (fun _ => by kernel_rfl) ?_
  refine WO.nil ?_
  refine En.next ?_
  refine W.block ?_
  obtain ⟨t1, hloop5, hr⟩ := bind_some hr
  have hlt9 := (h_p0).len_lt
  refine W.weaken (fr' := [(0, (.slice a_p0 p0.length c_p0)), (1, (.string p1)), (5, (.int .i64 ((0 : Nat) : Int)))]) (W.forN (m := p0.length) hloop5 (fun (i4 : Nat) => fun (_s : Unit) fr w => ∃ (I2 : Mem), fr = [(0, (.slice a_p0 p0.length c_p0)), (1, (.string p1)), (5, (.int .i64 (i4 : Int)))] ∧ I.Le I2 ∧ St E w I2 Os) ⟨I, rfl, Mem.Le.refl _, hS⟩ ?roundt1 ?lastt1) (Sub.cons rfl (Sub.cons rfl (Sub.cons rfl Sub.nil)))
  case roundt1 =>
    rintro i4 _ _ w6 hi10 ⟨I2, rfl, hl3, hS7⟩ x8 hr1 hext1
    refine W.seq ?_
    refine W.seq ?_
    refine W.region (l := [0, 1, 2, 3]) (by kernel_rfl) ?_
    refine WO.vals [(0, 6, (.int .i64 (i4 : Int))), (1, 7, (.slice a_p0 p0.length c_p0)), (2, 8, (.int .i64 (p0.length : Int))), (3, 9, (.bool (decide ((i4 : Int) < (p0.length : Int)))))] (by kernel_rfl) (fun _ => by kernel_rfl) ?_
    refine WO.nil ?_
    refine En.next ?_
    refine W.cond (b := (decide ((i4 : Int) < (p0.length : Int)))) rfl rfl (fun hc => ?_) (fun hc => ?_)
    rotate_left
    · exact absurd hc (by first | (simp; done) | (simp; omega))
    clear hc
    refine W.skip ?_
    refine En.next ?_
    refine W.seq ?_
    refine W.block ?_
    refine W.seq ?_
    refine W.region (l := [0, 1, 2, 3, 4, 5, 6]) (by kernel_rfl) ?_
    refine WO.vals [(0, 12, (.slice a_p0 p0.length c_p0)), (1, 13, (.int .i64 (i4 : Int)))] (by kernel_rfl) (fun _ => by kernel_rfl) ?_
    obtain ⟨x11, hx_x11, hr1⟩ := bind_some hr1
    obtain ⟨h0_x11, h1_x11, hx_x11⟩ := idx_some hx_x11
    obtain ⟨ha_x11, cs_x11, hn_x11, hr_x11, hc_x11⟩ := ((RSl.mono h_p0 hl3)).el _ _ hx_x11
    obtain ⟨w_x11, rfl, h_x11⟩ := hr_x11
    refine WO.indexAddr (e := 27) (sz := 2) rfl (by kernel_rfl) (by kernel_rfl) (by kernel_rfl) rfl ha_x11 rfl h0_x11 h1_x11 ?_
    refine WO.vals [(3, 15, (.pointer (some ⟨bl a_p0, of a_p0 + ((i4 : Int)).toNat * 2, none⟩)))] (by kernel_rfl) (fun _ => by kernel_rfl) ?_
    refine WO.load rfl (by kernel_rfl) (by kernel_rfl) rfl (v := (.string x11.Name)) (fun w' hw' => hc_x11.cell0 (by kernel_rfl) ((rd_f hS7.im) w' hw')) ?_
    refine WO.vals [(5, 17, (.string p1)), (6, 18, (.bool (sEq x11.Name p1)))] (by kernel_rfl) (fun _ => by kernel_rfl) ?_
    refine WO.nil ?_
    refine En.next ?_
    refine W.cond (b := (sEq x11.Name p1)) rfl rfl (fun hc => ?_) (fun hc => ?_)
    · replace hr1 := cond_t hc hr1
      refine W.seq ?_
      refine W.region (l := [0, 1]) (by kernel_rfl) ?_
      refine WO.vals [(0, 19, (.int .i64 (i4 : Int))), (1, 4, (.int .i64 (i4 : Int)))] (by kernel_rfl) (fun _ => by kernel_rfl) ?_
      refine WO.nil ?_
      refine En.next ?_
      refine W.ret ?_
      refine En.in_ret ?_
      refine En.nx_ret ?_
      refine En.rd_ret ?_
      have ht := hext1 _ (Option.some.inj hr1).symm
      subst t1
      refine En.in_ret ?_
      refine En.nx_ret ?_
      have he := Option.some.inj hr
      subst r
      exact En.ret1 rfl (.int .i64 (i4 : Int)) rfl ⟨I2, rfl, hl3, hS7⟩
    · replace hr1 := cond_f hc hr1
      refine W.skip ?_
      refine En.in_normal ?_
      refine En.next ?_
      refine W.region (l := [0, 1, 2]) (by kernel_rfl) ?_
      refine WO.vals [(0, 10, (.int .i64 (i4 : Int)))] (by kernel_rfl) (fun _ => by kernel_rfl) ?_
      refine WO.incr (j := i4) rfl (by kernel_rfl) rfl (by first | omega | (dsimp only at *; omega)) ?_
      refine WO.vals [(2, 5, (.int .i64 ((i4 + 1 : Nat) : Int)))] (by kernel_rfl) (fun _ => by kernel_rfl) ?_
      refine WO.nil ?_
      refine En.weaken (fr' := [(0, (.slice a_p0 p0.length c_p0)), (1, (.string p1)), (5, (.int .i64 ((i4 + 1 : Nat) : Int)))]) (En.round ⟨(), (Option.some.inj hr1).symm, I2, rfl, hl3, hS7⟩) (Sub.cons rfl (Sub.cons rfl (Sub.cons rfl Sub.nil)))
  case lastt1 =>
    rintro _ _ w14 ⟨I2, rfl, hl3, hS15⟩ he
    cases he
    refine W.seq ?_
    refine W.seq ?_
    refine W.region (l := [0, 1, 2, 3]) (by kernel_rfl) ?_
    refine WO.vals [(0, 6, (.int .i64 (p0.length : Int))), (1, 7, (.slice a_p0 p0.length c_p0)), (2, 8, (.int .i64 (p0.length : Int))), (3, 9, (.bool (decide ((p0.length : Int) < (p0.length : Int)))))] (by kernel_rfl) (fun _ => by kernel_rfl) ?_
    refine WO.nil ?_
    refine En.next ?_
    refine W.cond (b := (decide ((p0.length : Int) < (p0.length : Int)))) rfl rfl (fun hc => ?_) (fun hc => ?_)
    · exact absurd hc (by first | (simp; done) | (simp; omega))
    clear hc
    refine W.exit ?_
    refine En.nx_exit ?_
    refine En.rd_exit ?_
    refine En.in_hit ?_
    refine En.next ?_
    refine W.seq ?_
    refine W.region (l := [0]) (by kernel_rfl) ?_
    refine WO.vals [(0, 4, (.int .i64 (-1)))] (by kernel_rfl) (fun _ => by kernel_rfl) ?_
    refine WO.nil ?_
    refine En.next ?_
    refine W.ret ?_
    have he := Option.some.inj hr
    subst r
    exact En.ret1 rfl (.int .i64 (-1)) rfl ⟨I2, rfl, hl3, hS15⟩
noncomputable def registrarref18_Same (p0 : List api_Role) (p1 : List api_Role) : Option Bool := (bif ((p0.length : Int) != (p1.length : Int)) then some false else (forN (fun (i4 : Nat) => fun (_s : Unit) => (idx p0 (i4 : Int)).bind (fun (x13 : api_Role) => (idx p1 (i4 : Int)).bind (fun (x14 : api_Role) => ((bif (!sEq x13.Name x14.Name) then some true else (idx p0 (i4 : Int)).bind (fun (x19 : api_Role) => (idx p1 (i4 : Int)).bind (fun (x20 : api_Role) => some ((x19.In.length : Int) != (x20.In.length : Int)))))).bind (fun (j15 : Bool) => (bif j15 then some (.inr false) else (loopO (fun (s28 : Int) => (idx p0 (i4 : Int)).bind (fun (x33 : api_Role) => (bif (decide (s28 < (x33.In.length : Int))) then (idx p0 (i4 : Int)).bind (fun (x36 : api_Role) => (idx x36.In s28).bind (fun (x37 : ByteArray) => (idx p1 (i4 : Int)).bind (fun (x38 : api_Role) => (idx x38.In s28).bind (fun (x39 : ByteArray) => (bif (!sEq x37 x39) then some (.inr (.inl false)) else some (.inl (w64 (s28 + 1)))))))) else some (.inr (.inr ()))))) 0).bind (fun (t : Bool ⊕ Unit) => match t with | (.inl s41) => some (.inr s41) | (.inr ()) => some (.inl ()))))))) p0.length 0 ()).bind (fun (t : Unit ⊕ (Bool)) => match t with | .inl _ => some true | .inr s24 => some s24))
set_option maxHeartbeats 1000000 in
theorem registrarref18_Same_ok {E w : World} {I : Mem} {Os : List Mem} {p0 : List api_Role} {p1 : List api_Role} {a_p0 : Option Addr} {c_p0 : Nat} {a_p1 : Option Addr} {c_p1 : Nat} (h_p0 : RSl 2 R_api_Role I a_p0 c_p0 p0) (h_p1 : RSl 2 R_api_Role I a_p1 c_p1 p1) (hS : St E w I Os) {r : Bool} (hr : registrarref18_Same p0 p1 = some r) :
    Calls P 10 #[(.slice a_p0 p0.length c_p0), (.slice a_p1 p1.length c_p1)] w (fun e w' => ∃ (I' : Mem), e = .returned (.bool r) ∧ I.Le I' ∧ St E w' I' Os) := by
  refine calls_W (args := [(.slice a_p0 p0.length c_p0), (.slice a_p1 p1.length c_p1)]) (fn := Try.f10) rfl rfl rfl ?_
  unfold registrarref18_Same at hr
  refine W.seq ?_
  refine W.region (l := [0]) (by kernel_rfl) ?_
  refine WO.vals [(0, 4, (.bool false))] (by kernel_rfl) (fun _ => by kernel_rfl) ?_
  refine WO.nil ?_
  refine En.next ?_
  refine W.seq ?_
  refine W.seq ?_
  refine W.region (l := [0, 1, 2, 3, 4]) (by kernel_rfl) ?_
  refine WO.vals [(0, 7, (.slice a_p0 p0.length c_p0)), (1, 8, (.int .i64 (p0.length : Int))), (2, 9, (.slice a_p1 p1.length c_p1)), (3, 10, (.int .i64 (p1.length : Int))), (4, 11, (.bool ((p0.length : Int) != (p1.length : Int))))] (by kernel_rfl) (fun _ => by kernel_rfl) ?_
  refine WO.nil ?_
  refine En.next ?_
  refine W.cond (b := ((p0.length : Int) != (p1.length : Int))) rfl rfl (fun hc => ?_) (fun hc => ?_)
  · replace hr := cond_t hc hr
    refine W.seq ?_
    refine W.region (l := [0]) (by kernel_rfl) ?_
    refine WO.vals [(0, 4, (.bool false))] (by kernel_rfl) (fun _ => by kernel_rfl) ?_
    refine WO.nil ?_
    refine En.next ?_
    refine W.ret ?_
    refine En.nx_ret ?_
    have he := Option.some.inj hr
    subst r
    exact En.ret1 rfl (.bool false) rfl ⟨I, rfl, Mem.Le.refl _, hS⟩
  · replace hr := cond_f hc hr
    refine W.skip ?_
    refine En.next ?_
    refine W.seq ?_
    refine W.seq ?_
    refine W.region (l := [0]) (by kernel_rfl) ?_
    refine WO.vals [(0, 5, (.int .i64 0))] (by kernel_rfl) (fun _ => by kernel_rfl) ?_
    refine WO.nil ?_
    refine En.next ?_
    refine W.block ?_
    obtain ⟨t1, hloop5, hr⟩ := bind_some hr
    have hlt9 := (h_p0).len_lt
    refine W.weaken (fr' := [(0, (.slice a_p0 p0.length c_p0)), (1, (.slice a_p1 p1.length c_p1)), (5, (.int .i64 ((0 : Nat) : Int)))]) (W.forN (m := p0.length) hloop5 (fun (i4 : Nat) => fun (_s : Unit) fr w => ∃ (I2 : Mem), fr = [(0, (.slice a_p0 p0.length c_p0)), (1, (.slice a_p1 p1.length c_p1)), (5, (.int .i64 (i4 : Int)))] ∧ I.Le I2 ∧ St E w I2 Os) ⟨I, rfl, Mem.Le.refl _, hS⟩ ?roundt1 ?lastt1) (Sub.cons rfl (Sub.cons rfl (Sub.cons rfl Sub.nil)))
    case roundt1 =>
      rintro i4 _ _ w6 hi10 ⟨I2, rfl, hl3, hS7⟩ x8 hr1 hext1
      refine W.seq ?_
      refine W.seq ?_
      refine W.region (l := [0, 1, 2, 3]) (by kernel_rfl) ?_
      refine WO.vals [(0, 12, (.int .i64 (i4 : Int))), (1, 13, (.slice a_p0 p0.length c_p0)), (2, 14, (.int .i64 (p0.length : Int))), (3, 15, (.bool (decide ((i4 : Int) < (p0.length : Int)))))] (by kernel_rfl) (fun _ => by kernel_rfl) ?_
      refine WO.nil ?_
      refine En.next ?_
      refine W.cond (b := (decide ((i4 : Int) < (p0.length : Int)))) rfl rfl (fun hc => ?_) (fun hc => ?_)
      rotate_left
      · exact absurd hc (by first | (simp; done) | (simp; omega))
      clear hc
      refine W.skip ?_
      refine En.next ?_
      refine W.seq ?_
      refine W.block ?_
      refine W.seq ?_
      refine W.seq ?_
      have hS11 := hS7.drew
      refine W.draw (l := [0, 1, 2, 3, 4, 5, 6, 7, 8, 9, 10, 11, 12, 13, 14, 15, 16, 17, 18, 19, 20, 21, 22, 23, 24, 25]) (by kernel_rfl) 26 (KR I2 []) qR (.back (by kernel_rfl)) (by kernel_rfl) (KR.nil hS11.im) ?_
      generalize World.drew _ = w12 at *
      refine WO.vals [(0, 18, (.slice a_p0 p0.length c_p0)), (1, 19, (.int .i64 (i4 : Int)))] (by kernel_rfl) (fun _ => by kernel_rfl) ?_
      obtain ⟨x13, hx_x13, hr1⟩ := bind_some hr1
      obtain ⟨h0_x13, h1_x13, hx_x13⟩ := idx_some hx_x13
      obtain ⟨ha_x13, cs_x13, hn_x13, hr_x13, hc_x13⟩ := ((RSl.mono h_p0 hl3)).el _ _ hx_x13
      obtain ⟨w_x13, rfl, h_x13⟩ := hr_x13
      refine WO.indexAddr (e := 27) (sz := 2) rfl (by kernel_rfl) (by kernel_rfl) (by kernel_rfl) rfl ha_x13 rfl h0_x13 h1_x13 ?_
      refine WO.vals [(3, 21, (.pointer (some ⟨bl a_p0, of a_p0 + ((i4 : Int)).toNat * 2, none⟩)))] (by kernel_rfl) (fun _ => by kernel_rfl) ?_
      refine WO.load rfl (by kernel_rfl) (by kernel_rfl) rfl (v := (.string x13.Name)) (fun w' hw' => hc_x13.cell0 (by kernel_rfl) ((rd_i hS11.im) w' hw')) ?_
      refine WO.vals [(5, 23, (.slice a_p1 p1.length c_p1)), (6, 24, (.int .i64 (i4 : Int)))] (by kernel_rfl) (fun _ => by kernel_rfl) ?_
      obtain ⟨x14, hx_x14, hr1⟩ := bind_some hr1
      obtain ⟨h0_x14, h1_x14, hx_x14⟩ := idx_some hx_x14
      obtain ⟨ha_x14, cs_x14, hn_x14, hr_x14, hc_x14⟩ := ((RSl.mono h_p1 hl3)).el _ _ hx_x14
      obtain ⟨w_x14, rfl, h_x14⟩ := hr_x14
      refine WO.indexAddr (e := 27) (sz := 2) rfl (by kernel_rfl) (by kernel_rfl) (by kernel_rfl) rfl ha_x14 rfl h0_x14 h1_x14 ?_
      refine WO.vals [(8, 26, (.pointer (some ⟨bl a_p1, of a_p1 + ((i4 : Int)).toNat * 2, none⟩)))] (by kernel_rfl) (fun _ => by kernel_rfl) ?_
      refine WO.load rfl (by kernel_rfl) (by kernel_rfl) rfl (v := (.string x14.Name)) (fun w' hw' => hc_x14.cell0 (by kernel_rfl) ((rd_i hS11.im) w' hw')) ?_
      refine WO.vals [(10, 28, (.bool (!sEq x13.Name x14.Name))), (11, 29, (.bool (!sEq x13.Name x14.Name)))] (by kernel_rfl) (fun _ => by kernel_rfl) ?_
      obtain ⟨j15, hr2, hr1⟩ := bind_some hr1
      refine WO.join (l1 := [12, 13, 14, 15, 16, 17, 18, 19, 20, 21, 22, 23, 24, 25]) (l2 := []) (J := (fun fr w => ∃ (I17 : Mem), fr = [(0, (.slice a_p0 p0.length c_p0)), (1, (.slice a_p1 p1.length c_p1)), (5, (.int .i64 (i4 : Int))), (43, (.bool j15))] ∧ I2.Le I17 ∧ St E w I17 Os)) ?restj15 ?waysj15
      case waysj15 =>
        refine WO.caseb (!sEq x13.Name x14.Name) (fun hc => ?_) (fun hc => ?_)
        · replace hr2 := cond_t hc hr2
          refine WO.reslot 29 rfl (show Value.bool (!sEq x13.Name x14.Name) = Value.bool true by rw [hc]) ?_
          refine WO.pass rfl (by kernel_rfl) rfl ?_
          refine WO.pass rfl (by kernel_rfl) rfl ?_
          refine WO.pass rfl (by kernel_rfl) rfl ?_
          refine WO.pass rfl (by kernel_rfl) rfl ?_
          refine WO.pass rfl (by kernel_rfl) rfl ?_
          refine WO.pass rfl (by kernel_rfl) rfl ?_
          refine WO.pass rfl (by kernel_rfl) rfl ?_
          refine WO.pass rfl (by kernel_rfl) rfl ?_
          refine WO.pass rfl (by kernel_rfl) rfl ?_
          refine WO.pass rfl (by kernel_rfl) rfl ?_
          refine WO.pass rfl (by kernel_rfl) rfl ?_
          refine WO.pass rfl (by kernel_rfl) rfl ?_
          refine WO.pass rfl (by kernel_rfl) rfl ?_
          refine WO.vals [(25, 43, (.bool true))] (by kernel_rfl) (fun _ => by kernel_rfl) ?_
          have he := Option.some.inj hr2
          subst j15
          refine WO.weaken (fr' := [(0, (.slice a_p0 p0.length c_p0)), (1, (.slice a_p1 p1.length c_p1)), (5, (.int .i64 (i4 : Int))), (43, (.bool true))]) (WO.meet ⟨I2, rfl, Mem.Le.refl _, hS11⟩) (Sub.cons rfl (Sub.cons rfl (Sub.cons rfl (Sub.cons rfl Sub.nil))))
        · replace hr2 := cond_f hc hr2
          refine WO.reslot 29 rfl (show Value.bool (!sEq x13.Name x14.Name) = Value.bool false by rw [hc]) ?_
          refine WO.vals [(12, 30, (.slice a_p0 p0.length c_p0)), (13, 31, (.int .i64 (i4 : Int)))] (by kernel_rfl) (fun _ => by kernel_rfl) ?_
          obtain ⟨x19, hx_x19, hr2⟩ := bind_some hr2
          obtain ⟨h0_x19, h1_x19, hx_x19⟩ := idx_some hx_x19
          obtain ⟨ha_x19, cs_x19, hn_x19, hr_x19, hc_x19⟩ := ((RSl.mono h_p0 hl3)).el _ _ hx_x19
          obtain ⟨w_x19, rfl, h_x19⟩ := hr_x19
          refine WO.indexAddr (e := 27) (sz := 2) rfl (by kernel_rfl) (by kernel_rfl) (by kernel_rfl) rfl ha_x19 rfl h0_x19 h1_x19 ?_
          refine WO.vals [(15, 33, (.pointer (some ⟨bl a_p0, of a_p0 + ((i4 : Int)).toNat * 2 + 1, none⟩)))] (by kernel_rfl) (fun _ => by kernel_rfl) ?_
          refine WO.load rfl (by kernel_rfl) (by kernel_rfl) rfl (v := (.slice w_x19.In.a x19.In.length w_x19.In.c)) (fun w' hw' => hc_x19.cellk 1 (by kernel_rfl) ((rd_i hS11.im) w' hw')) ?_
          refine WO.vals [(17, 35, (.int .i64 (x19.In.length : Int))), (18, 36, (.slice a_p1 p1.length c_p1)), (19, 37, (.int .i64 (i4 : Int)))] (by kernel_rfl) (fun _ => by kernel_rfl) ?_
          obtain ⟨x20, hx_x20, hr2⟩ := bind_some hr2
          obtain ⟨h0_x20, h1_x20, hx_x20⟩ := idx_some hx_x20
          obtain ⟨ha_x20, cs_x20, hn_x20, hr_x20, hc_x20⟩ := ((RSl.mono h_p1 hl3)).el _ _ hx_x20
          obtain ⟨w_x20, rfl, h_x20⟩ := hr_x20
          refine WO.indexAddr (e := 27) (sz := 2) rfl (by kernel_rfl) (by kernel_rfl) (by kernel_rfl) rfl ha_x20 rfl h0_x20 h1_x20 ?_
          refine WO.vals [(21, 39, (.pointer (some ⟨bl a_p1, of a_p1 + ((i4 : Int)).toNat * 2 + 1, none⟩)))] (by kernel_rfl) (fun _ => by kernel_rfl) ?_
          refine WO.load rfl (by kernel_rfl) (by kernel_rfl) rfl (v := (.slice w_x20.In.a x20.In.length w_x20.In.c)) (fun w' hw' => hc_x20.cellk 1 (by kernel_rfl) ((rd_i hS11.im) w' hw')) ?_
          refine WO.vals [(23, 41, (.int .i64 (x20.In.length : Int))), (24, 42, (.bool ((x19.In.length : Int) != (x20.In.length : Int)))), (25, 43, (.bool ((x19.In.length : Int) != (x20.In.length : Int))))] (by kernel_rfl) (fun _ => by kernel_rfl) ?_
          have he := Option.some.inj hr2
          subst j15
          refine WO.weaken (fr' := [(0, (.slice a_p0 p0.length c_p0)), (1, (.slice a_p1 p1.length c_p1)), (5, (.int .i64 (i4 : Int))), (43, (.bool ((x19.In.length : Int) != (x20.In.length : Int))))]) (WO.meet ⟨I2, rfl, Mem.Le.refl _, hS11⟩) (Sub.cons rfl (Sub.cons rfl (Sub.cons rfl (Sub.cons rfl Sub.nil))))
      case restj15 =>
        rintro _ w21 ⟨I17, rfl, hl18, hS22⟩
        refine WO.nil ?_
        refine En.next ?_
        refine W.cond (b := j15) rfl rfl (fun hc => ?_) (fun hc => ?_)
        · replace hr1 := cond_t hc hr1
          refine W.seq ?_
          refine W.region (l := [0]) (by kernel_rfl) ?_
          refine WO.vals [(0, 4, (.bool false))] (by kernel_rfl) (fun _ => by kernel_rfl) ?_
          refine WO.nil ?_
          refine En.next ?_
          refine W.ret ?_
          refine En.nx_ret ?_
          refine En.in_ret ?_
          refine En.nx_ret ?_
          refine En.rd_ret ?_
          have ht := hext1 _ (Option.some.inj hr1).symm
          subst t1
          refine En.in_ret ?_
          refine En.nx_ret ?_
          have he := Option.some.inj hr
          subst r
          exact En.ret1 rfl (.bool false) rfl ⟨I17, rfl, (hl3.trans hl18), hS22⟩
        · replace hr1 := cond_f hc hr1
          refine W.skip ?_
          refine En.next ?_
          refine W.seq ?_
          refine W.region (l := [0]) (by kernel_rfl) ?_
          refine WO.vals [(0, 6, (.int .i64 0))] (by kernel_rfl) (fun _ => by kernel_rfl) ?_
          refine WO.nil ?_
          refine En.next ?_
          refine W.block ?_
          obtain ⟨t25, hloop29, hr1⟩ := bind_some hr1
          refine W.weaken (fr' := [(0, (.slice a_p0 p0.length c_p0)), (1, (.slice a_p1 p1.length c_p1)), (5, (.int .i64 (i4 : Int))), (6, (.int .i64 0))]) (W.loopO hloop29 (fun (s28 : Int) fr w => ∃ (I26 : Mem), fr = [(0, (.slice a_p0 p0.length c_p0)), (1, (.slice a_p1 p1.length c_p1)), (5, (.int .i64 (i4 : Int))), (6, (.int .i64 s28))] ∧ I17.Le I26 ∧ St E w I26 Os) ⟨I17, rfl, Mem.Le.refl _, hS22⟩ ?_) (Sub.cons rfl (Sub.cons rfl (Sub.cons rfl (Sub.cons rfl Sub.nil))))
          rintro s28 _ w30 ⟨I26, rfl, hl27, hS31⟩ x32 hr2 hext25
          refine W.seq ?_
          refine W.seq ?_
          refine W.region (l := [0, 1, 2, 3, 4, 5, 6, 7]) (by kernel_rfl) ?_
          refine WO.vals [(0, 44, (.int .i64 s28)), (1, 45, (.slice a_p0 p0.length c_p0)), (2, 46, (.int .i64 (i4 : Int)))] (by kernel_rfl) (fun _ => by kernel_rfl) ?_
          obtain ⟨x33, hx_x33, hr2⟩ := bind_some hr2
          obtain ⟨h0_x33, h1_x33, hx_x33⟩ := idx_some hx_x33
          obtain ⟨ha_x33, cs_x33, hn_x33, hr_x33, hc_x33⟩ := ((RSl.mono h_p0 ((hl3.trans hl18).trans hl27))).el _ _ hx_x33
          obtain ⟨w_x33, rfl, h_x33⟩ := hr_x33
          refine WO.indexAddr (e := 27) (sz := 2) rfl (by kernel_rfl) (by kernel_rfl) (by kernel_rfl) rfl ha_x33 rfl h0_x33 h1_x33 ?_
          refine WO.vals [(4, 48, (.pointer (some ⟨bl a_p0, of a_p0 + ((i4 : Int)).toNat * 2 + 1, none⟩)))] (by kernel_rfl) (fun _ => by kernel_rfl) ?_
          refine WO.load rfl (by kernel_rfl) (by kernel_rfl) rfl (v := (.slice w_x33.In.a x33.In.length w_x33.In.c)) (fun w' hw' => hc_x33.cellk 1 (by kernel_rfl) ((rd_f hS31.im) w' hw')) ?_
          refine WO.vals [(6, 50, (.int .i64 (x33.In.length : Int))), (7, 51, (.bool (decide (s28 < (x33.In.length : Int)))))] (by kernel_rfl) (fun _ => by kernel_rfl) ?_
          refine WO.nil ?_
          refine En.next ?_
          refine W.cond (b := (decide (s28 < (x33.In.length : Int)))) rfl rfl (fun hc => ?_) (fun hc => ?_)
          · replace hr2 := cond_t hc hr2
            refine W.skip ?_
            refine En.next ?_
            refine W.seq ?_
            refine W.block ?_
            refine W.seq ?_
            have hS34 := hS31.drew
            refine W.draw (l := [0, 1, 2, 3, 4, 5, 6, 7, 8, 9, 10, 11, 12, 13, 14, 15, 16]) (by kernel_rfl) 16 (KR I26 []) qR (.back (by kernel_rfl)) (by kernel_rfl) (KR.nil hS34.im) ?_
            generalize World.drew _ = w35 at *
            refine WO.vals [(0, 54, (.slice a_p0 p0.length c_p0)), (1, 55, (.int .i64 (i4 : Int)))] (by kernel_rfl) (fun _ => by kernel_rfl) ?_
            obtain ⟨x36, hx_x36, hr2⟩ := bind_some hr2
            obtain ⟨h0_x36, h1_x36, hx_x36⟩ := idx_some hx_x36
            obtain ⟨ha_x36, cs_x36, hn_x36, hr_x36, hc_x36⟩ := ((RSl.mono h_p0 ((hl3.trans hl18).trans hl27))).el _ _ hx_x36
            obtain ⟨w_x36, rfl, h_x36⟩ := hr_x36
            refine WO.indexAddr (e := 27) (sz := 2) rfl (by kernel_rfl) (by kernel_rfl) (by kernel_rfl) rfl ha_x36 rfl h0_x36 h1_x36 ?_
            refine WO.vals [(3, 57, (.pointer (some ⟨bl a_p0, of a_p0 + ((i4 : Int)).toNat * 2 + 1, none⟩)))] (by kernel_rfl) (fun _ => by kernel_rfl) ?_
            refine WO.load rfl (by kernel_rfl) (by kernel_rfl) rfl (v := (.slice w_x36.In.a x36.In.length w_x36.In.c)) (fun w' hw' => hc_x36.cellk 1 (by kernel_rfl) ((rd_i hS34.im) w' hw')) ?_
            refine WO.vals [(5, 59, (.int .i64 s28))] (by kernel_rfl) (fun _ => by kernel_rfl) ?_
            obtain ⟨x37, hx_x37, hr2⟩ := bind_some hr2
            obtain ⟨h0_x37, h1_x37, hx_x37⟩ := idx_some hx_x37
            obtain ⟨ha_x37, cs_x37, hn_x37, hr_x37, hc_x37⟩ := (h_x36.In).el _ _ hx_x37
            obtain rfl := hr_x37
            refine WO.indexAddr (e := 9) (sz := 1) rfl (by kernel_rfl) (by kernel_rfl) (by kernel_rfl) rfl ha_x37 rfl h0_x37 h1_x37 ?_
            refine WO.load rfl (by kernel_rfl) (by kernel_rfl) rfl (v := (.string x37)) (fun w' hw' => hc_x37.cell0 (by kernel_rfl) ((rd_i hS34.im) w' hw')) ?_
            refine WO.vals [(8, 62, (.slice a_p1 p1.length c_p1)), (9, 63, (.int .i64 (i4 : Int)))] (by kernel_rfl) (fun _ => by kernel_rfl) ?_
            obtain ⟨x38, hx_x38, hr2⟩ := bind_some hr2
            obtain ⟨h0_x38, h1_x38, hx_x38⟩ := idx_some hx_x38
            obtain ⟨ha_x38, cs_x38, hn_x38, hr_x38, hc_x38⟩ := ((RSl.mono h_p1 ((hl3.trans hl18).trans hl27))).el _ _ hx_x38
            obtain ⟨w_x38, rfl, h_x38⟩ := hr_x38
            refine WO.indexAddr (e := 27) (sz := 2) rfl (by kernel_rfl) (by kernel_rfl) (by kernel_rfl) rfl ha_x38 rfl h0_x38 h1_x38 ?_
            refine WO.vals [(11, 65, (.pointer (some ⟨bl a_p1, of a_p1 + ((i4 : Int)).toNat * 2 + 1, none⟩)))] (by kernel_rfl) (fun _ => by kernel_rfl) ?_
            refine WO.load rfl (by kernel_rfl) (by kernel_rfl) rfl (v := (.slice w_x38.In.a x38.In.length w_x38.In.c)) (fun w' hw' => hc_x38.cellk 1 (by kernel_rfl) ((rd_i hS34.im) w' hw')) ?_
            refine WO.vals [(13, 67, (.int .i64 s28))] (by kernel_rfl) (fun _ => by kernel_rfl) ?_
            obtain ⟨x39, hx_x39, hr2⟩ := bind_some hr2
            obtain ⟨h0_x39, h1_x39, hx_x39⟩ := idx_some hx_x39
            obtain ⟨ha_x39, cs_x39, hn_x39, hr_x39, hc_x39⟩ := (h_x38.In).el _ _ hx_x39
            obtain rfl := hr_x39
            refine WO.indexAddr (e := 9) (sz := 1) rfl (by kernel_rfl) (by kernel_rfl) (by kernel_rfl) rfl ha_x39 rfl h0_x39 h1_x39 ?_
            refine WO.load rfl (by kernel_rfl) (by kernel_rfl) rfl (v := (.string x39)) (fun w' hw' => hc_x39.cell0 (by kernel_rfl) ((rd_i hS34.im) w' hw')) ?_
            refine WO.tail rfl ?_
            refine WO.vals [(16, 70, (.bool (!sEq x37 x39)))] (by kernel_rfl) (fun _ => by kernel_rfl) ?_
            refine WO.nil ?_
            refine En.next ?_
            refine W.cond (b := (!sEq x37 x39)) rfl rfl (fun hc => ?_) (fun hc => ?_)
            · replace hr2 := cond_t hc hr2
              refine W.seq ?_
              refine W.region (l := [0]) (by kernel_rfl) ?_
              refine WO.vals [(0, 4, (.bool false))] (by kernel_rfl) (fun _ => by kernel_rfl) ?_
              refine WO.nil ?_
              refine En.next ?_
              refine W.ret ?_
              refine En.in_ret ?_
              refine En.nx_ret ?_
              refine En.rd_ret ?_
              have ht := hext25 _ (Option.some.inj hr2).symm
              subst t25
              refine En.in_ret ?_
              refine En.in_ret ?_
              refine En.nx_ret ?_
              refine En.rd_ret ?_
              have ht := hext1 _ (Option.some.inj hr1).symm
              subst t1
              refine En.in_ret ?_
              refine En.nx_ret ?_
              have he := Option.some.inj hr
              subst r
              exact En.ret1 rfl (.bool false) rfl ⟨I26, rfl, ((hl3.trans hl18).trans hl27), hS34⟩
            · replace hr2 := cond_f hc hr2
              refine W.skip ?_
              refine En.in_normal ?_
              refine En.next ?_
              refine W.region (l := [0, 1, 2]) (by kernel_rfl) ?_
              refine WO.vals [(0, 52, (.int .i64 s28)), (1, 53, (.int .i64 (w64 (s28 + 1)))), (2, 6, (.int .i64 (w64 (s28 + 1))))] (by kernel_rfl) (fun _ => by kernel_rfl) ?_
              refine WO.nil ?_
              refine En.weaken (fr' := [(0, (.slice a_p0 p0.length c_p0)), (1, (.slice a_p1 p1.length c_p1)), (5, (.int .i64 (i4 : Int))), (6, (.int .i64 (w64 (s28 + 1))))]) (En.round ⟨(w64 (s28 + 1)), (Option.some.inj hr2).symm, I26, rfl, hl27, hS34⟩) (Sub.cons rfl (Sub.cons rfl (Sub.cons rfl (Sub.cons rfl Sub.nil))))
          · replace hr2 := cond_f hc hr2
            refine W.exit ?_
            refine En.nx_exit ?_
            refine En.rd_exit ?_
            have ht := hext25 _ (Option.some.inj hr2).symm
            subst t25
            refine En.in_hit ?_
            refine En.in_normal ?_
            refine En.next ?_
            refine W.region (l := [0, 1, 2]) (by kernel_rfl) ?_
            refine WO.vals [(0, 16, (.int .i64 (i4 : Int)))] (by kernel_rfl) (fun _ => by kernel_rfl) ?_
            refine WO.incr (j := i4) rfl (by kernel_rfl) rfl (by first | omega | (dsimp only at *; omega)) ?_
            refine WO.vals [(2, 5, (.int .i64 ((i4 + 1 : Nat) : Int)))] (by kernel_rfl) (fun _ => by kernel_rfl) ?_
            refine WO.nil ?_
            refine En.weaken (fr' := [(0, (.slice a_p0 p0.length c_p0)), (1, (.slice a_p1 p1.length c_p1)), (5, (.int .i64 ((i4 + 1 : Nat) : Int)))]) (En.round ⟨(), (Option.some.inj hr1).symm, I26, rfl, ((hl3.trans hl18).trans hl27), hS31⟩) (Sub.cons rfl (Sub.cons rfl (Sub.cons rfl Sub.nil)))
    case lastt1 =>
      rintro _ _ w43 ⟨I2, rfl, hl3, hS44⟩ he
      cases he
      refine W.seq ?_
      refine W.seq ?_
      refine W.region (l := [0, 1, 2, 3]) (by kernel_rfl) ?_
      refine WO.vals [(0, 12, (.int .i64 (p0.length : Int))), (1, 13, (.slice a_p0 p0.length c_p0)), (2, 14, (.int .i64 (p0.length : Int))), (3, 15, (.bool (decide ((p0.length : Int) < (p0.length : Int)))))] (by kernel_rfl) (fun _ => by kernel_rfl) ?_
      refine WO.nil ?_
      refine En.next ?_
      refine W.cond (b := (decide ((p0.length : Int) < (p0.length : Int)))) rfl rfl (fun hc => ?_) (fun hc => ?_)
      · exact absurd hc (by first | (simp; done) | (simp; omega))
      clear hc
      refine W.exit ?_
      refine En.nx_exit ?_
      refine En.rd_exit ?_
      refine En.in_hit ?_
      refine En.next ?_
      refine W.seq ?_
      refine W.region (l := [0]) (by kernel_rfl) ?_
      refine WO.vals [(0, 4, (.bool true))] (by kernel_rfl) (fun _ => by kernel_rfl) ?_
      refine WO.nil ?_
      refine En.next ?_
      refine W.ret ?_
      have he := Option.some.inj hr
      subst r
      exact En.ret1 rfl (.bool true) rfl ⟨I2, rfl, hl3, hS44⟩
noncomputable def registrarref18_Reach (p0 : List api_Role) (p1 : ByteArray) : Option (List Bool) := (mk 1 (p0.length : Int)).bind (fun (n1 : Nat) => (registrarref18_At p0 p1).bind (fun (r13 : Int) => ((bif (decide (r13 ≥ 0)) then (idx (List.replicate n1 false) r13).bind (fun (x18 : Bool) => some ((List.replicate n1 false).set (r13).toNat true)) else some (List.replicate n1 false))).bind (fun (j14 : List Bool) => (forE (fun (i29 : Nat) => fun (s28 : List Bool) => (forE (fun (i40 : Nat) => fun (s39 : List Bool) => (loopO (fun (s : Int × (List Bool)) => match s with | (s50, s51) => (idx s51 (i40 : Int)).bind (fun (x56 : Bool) => ((bif x56 then (idx p0 (i40 : Int)).bind (fun (x61 : api_Role) => some (decide (s50 < (x61.In.length : Int)))) else some false)).bind (fun (j57 : Bool) => (bif j57 then (idx p0 (i40 : Int)).bind (fun (x64 : api_Role) => (idx x64.In s50).bind (fun (x65 : ByteArray) => (registrarref18_At p0 x65).bind (fun (r71 : Int) => ((bif (decide (r71 ≥ 0)) then (idx s51 r71).bind (fun (x76 : Bool) => some (s51.set (r71).toNat true)) else some s51)).bind (fun (j72 : List Bool) => some (.inl ((w64 (s50 + 1)), j72)))))) else some (.inr s51))))) (0, s39)).bind (fun (s84 : List Bool) => some s84)) p0.length 0 s28).bind (fun (s39 : (List Bool)) => some s39)) p0.length 0 j14).bind (fun (s28 : (List Bool)) => some s28))))
set_option maxHeartbeats 1000000 in
theorem registrarref18_Reach_ok {E w : World} {I : Mem} {Os : List Mem} {p0 : List api_Role} {p1 : ByteArray} {a_p0 : Option Addr} {c_p0 : Nat} (h_p0 : RSl 2 R_api_Role I a_p0 c_p0 p0) (hS : St E w I Os) {r : (List Bool)} (hr : registrarref18_Reach p0 p1 = some r) :
    Calls P 27 #[(.slice a_p0 p0.length c_p0), (.string p1)] w (fun e w' => ∃ (I' : Mem) (ra0 : Option Addr) (rc0 : Nat), e = .returned (.slice ra0 r.length rc0) ∧ I.Le I' ∧ St E w' I' Os ∧ RSl 1 RBool I' ra0 rc0 r) := by
  refine calls_W (args := [(.slice a_p0 p0.length c_p0), (.string p1)]) (fn := Try.f27) rfl rfl rfl ?_
  unfold registrarref18_Reach at hr
  refine W.seq ?_
  refine W.region (l := [0]) (by kernel_rfl) ?_
  refine WO.vals [(0, 4, (.slice none 0 0))] (by kernel_rfl) (fun _ => by kernel_rfl) ?_
  refine WO.nil ?_
  refine En.next ?_
  refine W.seq ?_
  refine W.region (l := [0, 1, 2, 3]) (by kernel_rfl) ?_
  refine WO.vals [(0, 11, (.slice a_p0 p0.length c_p0)), (1, 12, (.int .i64 (p0.length : Int)))] (by kernel_rfl) (fun _ => by kernel_rfl) ?_
  obtain ⟨n1, hx_n1, hr⟩ := bind_some hr
  obtain ⟨h0_n1, he_n1⟩ := mk_some hx_n1
  refine WO.make (rel := RBool) hS rfl (by kernel_rfl) rfl (by kernel_rfl) (T := 4) (sz := 1) (b := 1) (zs := #[(.bool false)]) (by kernel_rfl) rfl rfl n1 (congrArg (Value.int .i64) he_n1) (congrArg (Value.int .i64) he_n1) h0_n1 rfl (z0 := false) rfl (fun _ _ _ => trivial) ?_
  intro a2 w6 C3 hS5 ho4
  refine WO.reslot 13 rfl (show Value.slice a2 n1 n1 = Value.slice a2 (List.replicate n1 false).length n1 by simp only [List.length_replicate]) ?_
  refine WO.vals [(3, 5, (.slice a2 (List.replicate n1 false).length n1))] (by kernel_rfl) (fun _ => by kernel_rfl) ?_
  refine WO.nil ?_
  refine En.next ?_
  refine W.seq ?_
  refine W.region (l := [0, 1, 2, 3]) (by kernel_rfl) ?_
  refine WO.vals [(0, 14, (.slice a_p0 p0.length c_p0)), (1, 15, (.string p1))] (by kernel_rfl) (fun _ => by kernel_rfl) ?_
  obtain ⟨r13, hx_r8, hr⟩ := bind_some hr
  refine WO.call rfl (by kernel_rfl) rfl (f := 9) (args := #[(.slice a_p0 p0.length c_p0), (.string p1)]) (by kernel_rfl) (registrarref18_At_ok h_p0 hS5 hx_r8) ?_
  rintro _ w9 ⟨I10, rfl, hl11, hS12⟩
  refine ⟨_, rfl, trivial, ?_⟩
  refine WO.vals [(3, 6, (.int .i64 r13))] (by kernel_rfl) (fun _ => by kernel_rfl) ?_
  refine WO.nil ?_
  refine En.next ?_
  refine W.seq ?_
  refine W.seq ?_
  refine W.region (l := [0, 1]) (by kernel_rfl) ?_
  refine WO.vals [(0, 17, (.int .i64 r13)), (1, 18, (.bool (decide (r13 ≥ 0))))] (by kernel_rfl) (fun _ => by kernel_rfl) ?_
  refine WO.nil ?_
  refine En.next ?_
  obtain ⟨j14, hr1, hr⟩ := bind_some hr
  refine W.join (J := (fun fr w => ∃ (I16 : Mem), ∃ (C_j14 : Mem), fr = [(0, (.slice a_p0 p0.length c_p0)), (5, (.slice a2 j14.length n1))] ∧ I10.Le I16 ∧ St E w I16 ((C_j14) :: Os) ∧ OwnSl 4 1 RBool I16 C_j14 a2 n1 j14)) ?restj14 ?waysj14
  case waysj14 =>
    refine W.cond (b := (decide (r13 ≥ 0))) rfl rfl (fun hc => ?_) (fun hc => ?_)
    · replace hr1 := cond_t hc hr1
      refine W.region (l := [0, 1, 2, 3]) (by kernel_rfl) ?_
      refine WO.vals [(0, 19, (.slice a2 (List.replicate n1 false).length n1)), (1, 20, (.int .i64 r13))] (by kernel_rfl) (fun _ => by kernel_rfl) ?_
      obtain ⟨x18, hx_x18, hr1⟩ := bind_some hr1
      obtain ⟨h0_x18, h1_x18, hx_x18⟩ := idx_some hx_x18
      obtain ⟨ha_x18, cs_x18, hn_x18, hr_x18, hc_x18⟩ := ((ho4.mono hl11).sl).el _ _ hx_x18
      obtain rfl := hr_x18
      refine WO.indexAddr (e := 4) (sz := 1) rfl (by kernel_rfl) (by kernel_rfl) (by kernel_rfl) rfl ha_x18 rfl h0_x18 h1_x18 ?_
      refine WO.storeOwn hS12 (OwnSl.mono ho4 hl11) rfl (by kernel_rfl) rfl hx_x18 (u' := true) 0 rfl rfl (by kernel_rfl) rfl rfl (fun cs hrel => (by obtain rfl := hrel; exact rfl)) (fun _ _ _ => trivial) ?_
      intro w20 C21 hS19 ho22
      refine WO.reslot 5 rfl (show Value.slice a2 (List.replicate n1 false).length n1 = Value.slice a2 ((List.replicate n1 false).set (r13).toNat true).length n1 by simp only [List.length_set]) ?_
      refine WO.nil ?_
      have he := Option.some.inj hr1
      subst j14
      refine En.weaken (fr' := [(0, (.slice a_p0 p0.length c_p0)), (5, (.slice a2 ((List.replicate n1 false).set (r13).toNat true).length n1))]) (En.round ⟨I10, C21, rfl, Mem.Le.refl _, hS19, ho22⟩) (Sub.cons rfl (Sub.cons rfl Sub.nil))
    · replace hr1 := cond_f hc hr1
      refine W.skip ?_
      have he := Option.some.inj hr1
      subst j14
      refine En.weaken (fr' := [(0, (.slice a_p0 p0.length c_p0)), (5, (.slice a2 (List.replicate n1 false).length n1))]) (En.round ⟨I10, C3, rfl, Mem.Le.refl _, hS12, (OwnSl.mono ho4 hl11)⟩) (Sub.cons rfl (Sub.cons rfl Sub.nil))
  case restj14 =>
    rintro _ w23 ⟨I16, C_j14, rfl, hl17, hS24, h_j14⟩
    refine En.next ?_
    refine W.seq ?_
    refine W.seq ?_
    refine W.region (l := [0]) (by kernel_rfl) ?_
    refine WO.vals [(0, 7, (.int .i64 0))] (by kernel_rfl) (fun _ => by kernel_rfl) ?_
    refine WO.nil ?_
    refine En.next ?_
    refine W.block ?_
    obtain ⟨s28, hloop30, hr⟩ := bind_some hr
    have hlt34 := ((RSl.mono h_p0 (hl11.trans hl17))).len_lt
    refine W.weaken (fr' := [(0, (.slice a_p0 p0.length c_p0)), (5, (.slice a2 j14.length n1)), (7, (.int .i64 ((0 : Nat) : Int)))]) (W.forE (m := p0.length) hloop30 (fun (i29 : Nat) => fun (s28 : List Bool) fr w => ∃ (I26 : Mem), ∃ (C_s28 : Mem), fr = [(0, (.slice a_p0 p0.length c_p0)), (5, (.slice a2 s28.length n1)), (7, (.int .i64 (i29 : Int)))] ∧ I16.Le I26 ∧ St E w I26 ((C_s28) :: Os) ∧ OwnSl 4 1 RBool I26 C_s28 a2 n1 s28) ⟨I16, C_j14, rfl, Mem.Le.refl _, hS24, h_j14⟩ ?roundt25 ?lastt25) (Sub.cons rfl (Sub.cons rfl (Sub.cons rfl Sub.nil)))
    case roundt25 =>
      rintro i29 s28 _ w31 hi35 ⟨I26, C_s28, rfl, hl27, hS32, h_s28⟩ x33 hr1
      refine W.seq ?_
      refine W.seq ?_
      refine W.region (l := [0, 1, 2, 3]) (by kernel_rfl) ?_
      refine WO.vals [(0, 22, (.int .i64 (i29 : Int))), (1, 23, (.slice a_p0 p0.length c_p0)), (2, 24, (.int .i64 (p0.length : Int))), (3, 25, (.bool (decide ((i29 : Int) < (p0.length : Int)))))] (by kernel_rfl) (fun _ => by kernel_rfl) ?_
      refine WO.nil ?_
      refine En.next ?_
      refine W.cond (b := (decide ((i29 : Int) < (p0.length : Int)))) rfl rfl (fun hc => ?_) (fun hc => ?_)
      rotate_left
      · exact absurd hc (by first | (simp; done) | (simp; omega))
      clear hc
      refine W.skip ?_
      refine En.next ?_
      refine W.seq ?_
      refine W.block ?_
      refine W.seq ?_
      refine W.region (l := [0]) (by kernel_rfl) ?_
      refine WO.vals [(0, 8, (.int .i64 0))] (by kernel_rfl) (fun _ => by kernel_rfl) ?_
      refine WO.nil ?_
      refine En.next ?_
      refine W.block ?_
      obtain ⟨s39, hloop41, hr1⟩ := bind_some hr1
      have hlt45 := ((RSl.mono h_p0 ((hl11.trans hl17).trans hl27))).len_lt
      refine W.weaken (fr' := [(0, (.slice a_p0 p0.length c_p0)), (5, (.slice a2 s28.length n1)), (7, (.int .i64 (i29 : Int))), (8, (.int .i64 ((0 : Nat) : Int)))]) (W.forE (m := p0.length) hloop41 (fun (i40 : Nat) => fun (s39 : List Bool) fr w => ∃ (I37 : Mem), ∃ (C_s39 : Mem), fr = [(0, (.slice a_p0 p0.length c_p0)), (5, (.slice a2 s39.length n1)), (7, (.int .i64 (i29 : Int))), (8, (.int .i64 (i40 : Int)))] ∧ I26.Le I37 ∧ St E w I37 ((C_s39) :: Os) ∧ OwnSl 4 1 RBool I37 C_s39 a2 n1 s39) ⟨I26, C_s28, rfl, Mem.Le.refl _, hS32, h_s28⟩ ?roundt36 ?lastt36) (Sub.cons rfl (Sub.cons rfl (Sub.cons rfl (Sub.cons rfl Sub.nil))))
      case roundt36 =>
        rintro i40 s39 _ w42 hi46 ⟨I37, C_s39, rfl, hl38, hS43, h_s39⟩ x44 hr2
        refine W.seq ?_
        refine W.seq ?_
        refine W.region (l := [0, 1, 2, 3]) (by kernel_rfl) ?_
        refine WO.vals [(0, 28, (.int .i64 (i40 : Int))), (1, 29, (.slice a_p0 p0.length c_p0)), (2, 30, (.int .i64 (p0.length : Int))), (3, 31, (.bool (decide ((i40 : Int) < (p0.length : Int)))))] (by kernel_rfl) (fun _ => by kernel_rfl) ?_
        refine WO.nil ?_
        refine En.next ?_
        refine W.cond (b := (decide ((i40 : Int) < (p0.length : Int)))) rfl rfl (fun hc => ?_) (fun hc => ?_)
        rotate_left
        · exact absurd hc (by first | (simp; done) | (simp; omega))
        clear hc
        refine W.skip ?_
        refine En.next ?_
        refine W.seq ?_
        refine W.block ?_
        refine W.seq ?_
        refine W.region (l := [0]) (by kernel_rfl) ?_
        refine WO.vals [(0, 9, (.int .i64 0))] (by kernel_rfl) (fun _ => by kernel_rfl) ?_
        refine WO.nil ?_
        refine En.next ?_
        refine W.block ?_
        obtain ⟨t47, hloop52, hr2⟩ := bind_some hr2
        refine W.weaken (fr' := [(0, (.slice a_p0 p0.length c_p0)), (5, (.slice a2 s39.length n1)), (7, (.int .i64 (i29 : Int))), (8, (.int .i64 (i40 : Int))), (9, (.int .i64 0))]) (W.loopO hloop52 (fun (s : Int × (List Bool)) fr w => match s with | (s50, s51) => ∃ (I48 : Mem), ∃ (C_s51 : Mem), fr = [(0, (.slice a_p0 p0.length c_p0)), (5, (.slice a2 s51.length n1)), (7, (.int .i64 (i29 : Int))), (8, (.int .i64 (i40 : Int))), (9, (.int .i64 s50))] ∧ I37.Le I48 ∧ St E w I48 ((C_s51) :: Os) ∧ OwnSl 4 1 RBool I48 C_s51 a2 n1 s51) ⟨I37, C_s39, rfl, Mem.Le.refl _, hS43, h_s39⟩ ?_) (Sub.cons rfl (Sub.cons rfl (Sub.cons rfl (Sub.cons rfl (Sub.cons rfl Sub.nil)))))
        rintro ⟨s50, s51⟩ _ w53 ⟨I48, C_s51, rfl, hl49, hS54, h_s51⟩ x55 hr3 hext47
        refine W.seq ?_
        refine W.seq ?_
        refine W.region (l := [0, 1, 2, 3, 4, 5, 6, 7, 8, 9, 10, 11, 12, 13]) (by kernel_rfl) ?_
        refine WO.vals [(0, 34, (.slice a2 s51.length n1)), (1, 35, (.int .i64 (i40 : Int)))] (by kernel_rfl) (fun _ => by kernel_rfl) ?_
        obtain ⟨x56, hx_x56, hr3⟩ := bind_some hr3
        obtain ⟨h0_x56, h1_x56, hx_x56⟩ := idx_some hx_x56
        obtain ⟨ha_x56, cs_x56, hn_x56, hr_x56, hc_x56⟩ := (h_s51.sl).el _ _ hx_x56
        obtain rfl := hr_x56
        refine WO.indexAddr (e := 4) (sz := 1) rfl (by kernel_rfl) (by kernel_rfl) (by kernel_rfl) rfl ha_x56 rfl h0_x56 h1_x56 ?_
        refine WO.load rfl (by kernel_rfl) (by kernel_rfl) rfl (v := (.bool x56)) (fun w' hw' => hc_x56.cell0 (by kernel_rfl) ((rd_f (hS54.rd (List.Mem.head _))) w' hw')) ?_
        refine WO.vals [(4, 38, (.bool x56))] (by kernel_rfl) (fun _ => by kernel_rfl) ?_
        obtain ⟨j57, hr4, hr3⟩ := bind_some hr3
        refine WO.join (l1 := [5, 6, 7, 8, 9, 10, 11, 12, 13]) (l2 := []) (J := (fun fr w => ∃ (I59 : Mem), fr = [(0, (.slice a_p0 p0.length c_p0)), (5, (.slice a2 s51.length n1)), (7, (.int .i64 (i29 : Int))), (8, (.int .i64 (i40 : Int))), (9, (.int .i64 s50)), (47, (.bool j57))] ∧ I48.Le I59 ∧ St E w I59 ((C_s51) :: Os))) ?restj57 ?waysj57
        case waysj57 =>
          refine WO.caseb x56 (fun hc => ?_) (fun hc => ?_)
          · replace hr4 := cond_t hc hr4
            refine WO.reslot 38 rfl (show Value.bool x56 = Value.bool true by rw [hc]) ?_
            refine WO.vals [(5, 39, (.int .i64 s50)), (6, 40, (.slice a_p0 p0.length c_p0)), (7, 41, (.int .i64 (i40 : Int)))] (by kernel_rfl) (fun _ => by kernel_rfl) ?_
            obtain ⟨x61, hx_x61, hr4⟩ := bind_some hr4
            obtain ⟨h0_x61, h1_x61, hx_x61⟩ := idx_some hx_x61
            obtain ⟨ha_x61, cs_x61, hn_x61, hr_x61, hc_x61⟩ := ((RSl.mono h_p0 ((((hl11.trans hl17).trans hl27).trans hl38).trans hl49))).el _ _ hx_x61
            obtain ⟨w_x61, rfl, h_x61⟩ := hr_x61
            refine WO.indexAddr (e := 27) (sz := 2) rfl (by kernel_rfl) (by kernel_rfl) (by kernel_rfl) rfl ha_x61 rfl h0_x61 h1_x61 ?_
            refine WO.vals [(9, 43, (.pointer (some ⟨bl a_p0, of a_p0 + ((i40 : Int)).toNat * 2 + 1, none⟩)))] (by kernel_rfl) (fun _ => by kernel_rfl) ?_
            refine WO.load rfl (by kernel_rfl) (by kernel_rfl) rfl (v := (.slice w_x61.In.a x61.In.length w_x61.In.c)) (fun w' hw' => hc_x61.cellk 1 (by kernel_rfl) ((rd_f hS54.im) w' hw')) ?_
            refine WO.vals [(11, 45, (.int .i64 (x61.In.length : Int))), (12, 46, (.bool (decide (s50 < (x61.In.length : Int))))), (13, 47, (.bool (decide (s50 < (x61.In.length : Int)))))] (by kernel_rfl) (fun _ => by kernel_rfl) ?_
            have he := Option.some.inj hr4
            subst j57
            refine WO.weaken (fr' := [(0, (.slice a_p0 p0.length c_p0)), (5, (.slice a2 s51.length n1)), (7, (.int .i64 (i29 : Int))), (8, (.int .i64 (i40 : Int))), (9, (.int .i64 s50)), (47, (.bool (decide (s50 < (x61.In.length : Int)))))]) (WO.meet ⟨I48, rfl, Mem.Le.refl _, hS54⟩) (Sub.cons rfl (Sub.cons rfl (Sub.cons rfl (Sub.cons rfl (Sub.cons rfl (Sub.cons rfl Sub.nil))))))
          · replace hr4 := cond_f hc hr4
            refine WO.reslot 38 rfl (show Value.bool x56 = Value.bool false by rw [hc]) ?_
            refine WO.pass rfl (by kernel_rfl) rfl ?_
            refine WO.pass rfl (by kernel_rfl) rfl ?_
            refine WO.pass rfl (by kernel_rfl) rfl ?_
            refine WO.pass rfl (by kernel_rfl) rfl ?_
            refine WO.pass rfl (by kernel_rfl) rfl ?_
            refine WO.pass rfl (by kernel_rfl) rfl ?_
            refine WO.pass rfl (by kernel_rfl) rfl ?_
            refine WO.pass rfl (by kernel_rfl) rfl ?_
            refine WO.vals [(13, 47, (.bool false))] (by kernel_rfl) (fun _ => by kernel_rfl) ?_
            have he := Option.some.inj hr4
            subst j57
            refine WO.weaken (fr' := [(0, (.slice a_p0 p0.length c_p0)), (5, (.slice a2 s51.length n1)), (7, (.int .i64 (i29 : Int))), (8, (.int .i64 (i40 : Int))), (9, (.int .i64 s50)), (47, (.bool false))]) (WO.meet ⟨I48, rfl, Mem.Le.refl _, hS54⟩) (Sub.cons rfl (Sub.cons rfl (Sub.cons rfl (Sub.cons rfl (Sub.cons rfl (Sub.cons rfl Sub.nil))))))
        case restj57 =>
          rintro _ w62 ⟨I59, rfl, hl60, hS63⟩
          refine WO.nil ?_
          refine En.next ?_
          refine W.cond (b := j57) rfl rfl (fun hc => ?_) (fun hc => ?_)
          · replace hr3 := cond_t hc hr3
            refine W.skip ?_
            refine En.next ?_
            refine W.seq ?_
            refine W.block ?_
            refine W.seq ?_
            refine W.region (l := [0, 1, 2, 3, 4, 5, 6, 7, 8, 9, 10]) (by kernel_rfl) ?_
            refine WO.vals [(0, 50, (.slice a_p0 p0.length c_p0)), (1, 51, (.slice a_p0 p0.length c_p0)), (2, 52, (.int .i64 (i40 : Int)))] (by kernel_rfl) (fun _ => by kernel_rfl) ?_
            obtain ⟨x64, hx_x64, hr3⟩ := bind_some hr3
            obtain ⟨h0_x64, h1_x64, hx_x64⟩ := idx_some hx_x64
            obtain ⟨ha_x64, cs_x64, hn_x64, hr_x64, hc_x64⟩ := ((RSl.mono h_p0 (((((hl11.trans hl17).trans hl27).trans hl38).trans hl49).trans hl60))).el _ _ hx_x64
            obtain ⟨w_x64, rfl, h_x64⟩ := hr_x64
            refine WO.indexAddr (e := 27) (sz := 2) rfl (by kernel_rfl) (by kernel_rfl) (by kernel_rfl) rfl ha_x64 rfl h0_x64 h1_x64 ?_
            refine WO.vals [(4, 54, (.pointer (some ⟨bl a_p0, of a_p0 + ((i40 : Int)).toNat * 2 + 1, none⟩)))] (by kernel_rfl) (fun _ => by kernel_rfl) ?_
            refine WO.load rfl (by kernel_rfl) (by kernel_rfl) rfl (v := (.slice w_x64.In.a x64.In.length w_x64.In.c)) (fun w' hw' => hc_x64.cellk 1 (by kernel_rfl) ((rd_f hS63.im) w' hw')) ?_
            refine WO.vals [(6, 56, (.int .i64 s50))] (by kernel_rfl) (fun _ => by kernel_rfl) ?_
            obtain ⟨x65, hx_x65, hr3⟩ := bind_some hr3
            obtain ⟨h0_x65, h1_x65, hx_x65⟩ := idx_some hx_x65
            obtain ⟨ha_x65, cs_x65, hn_x65, hr_x65, hc_x65⟩ := (h_x64.In).el _ _ hx_x65
            obtain rfl := hr_x65
            refine WO.indexAddr (e := 9) (sz := 1) rfl (by kernel_rfl) (by kernel_rfl) (by kernel_rfl) rfl ha_x65 rfl h0_x65 h1_x65 ?_
            refine WO.load rfl (by kernel_rfl) (by kernel_rfl) rfl (v := (.string x65)) (fun w' hw' => hc_x65.cell0 (by kernel_rfl) ((rd_f hS63.im) w' hw')) ?_
            obtain ⟨r71, hx_r66, hr3⟩ := bind_some hr3
            refine WO.call rfl (by kernel_rfl) rfl (f := 9) (args := #[(.slice a_p0 p0.length c_p0), (.string x65)]) (by kernel_rfl) (registrarref18_At_ok (RSl.mono h_p0 (((((hl11.trans hl17).trans hl27).trans hl38).trans hl49).trans hl60)) hS63 hx_r66) ?_
            rintro _ w67 ⟨I68, rfl, hl69, hS70⟩
            refine ⟨_, rfl, trivial, ?_⟩
            refine WO.vals [(10, 10, (.int .i64 r71))] (by kernel_rfl) (fun _ => by kernel_rfl) ?_
            refine WO.nil ?_
            refine En.next ?_
            refine W.seq ?_
            refine W.region (l := [0, 1]) (by kernel_rfl) ?_
            refine WO.vals [(0, 60, (.int .i64 r71)), (1, 61, (.bool (decide (r71 ≥ 0))))] (by kernel_rfl) (fun _ => by kernel_rfl) ?_
            refine WO.nil ?_
            refine En.next ?_
            obtain ⟨j72, hr4, hr3⟩ := bind_some hr3
            refine W.join (J := (fun fr w => ∃ (I74 : Mem), ∃ (C_j72 : Mem), fr = [(0, (.slice a_p0 p0.length c_p0)), (5, (.slice a2 j72.length n1)), (7, (.int .i64 (i29 : Int))), (8, (.int .i64 (i40 : Int))), (9, (.int .i64 s50))] ∧ I68.Le I74 ∧ St E w I74 ((C_j72) :: Os) ∧ OwnSl 4 1 RBool I74 C_j72 a2 n1 j72)) ?restj72 ?waysj72
            case waysj72 =>
              refine W.cond (b := (decide (r71 ≥ 0))) rfl rfl (fun hc => ?_) (fun hc => ?_)
              · replace hr4 := cond_t hc hr4
                refine W.region (l := [0, 1, 2, 3]) (by kernel_rfl) ?_
                refine WO.vals [(0, 62, (.slice a2 s51.length n1)), (1, 63, (.int .i64 r71))] (by kernel_rfl) (fun _ => by kernel_rfl) ?_
                obtain ⟨x76, hx_x76, hr4⟩ := bind_some hr4
                obtain ⟨h0_x76, h1_x76, hx_x76⟩ := idx_some hx_x76
                obtain ⟨ha_x76, cs_x76, hn_x76, hr_x76, hc_x76⟩ := ((h_s51.mono (hl60.trans hl69)).sl).el _ _ hx_x76
                obtain rfl := hr_x76
                refine WO.indexAddr (e := 4) (sz := 1) rfl (by kernel_rfl) (by kernel_rfl) (by kernel_rfl) rfl ha_x76 rfl h0_x76 h1_x76 ?_
                refine WO.storeOwn hS70 (OwnSl.mono h_s51 (hl60.trans hl69)) rfl (by kernel_rfl) rfl hx_x76 (u' := true) 0 rfl rfl (by kernel_rfl) rfl rfl (fun cs hrel => (by obtain rfl := hrel; exact rfl)) (fun _ _ _ => trivial) ?_
                intro w78 C79 hS77 ho80
                refine WO.reslot 5 rfl (show Value.slice a2 s51.length n1 = Value.slice a2 (s51.set (r71).toNat true).length n1 by simp only [List.length_set]) ?_
                refine WO.nil ?_
                have he := Option.some.inj hr4
                subst j72
                refine En.weaken (fr' := [(0, (.slice a_p0 p0.length c_p0)), (5, (.slice a2 (s51.set (r71).toNat true).length n1)), (7, (.int .i64 (i29 : Int))), (8, (.int .i64 (i40 : Int))), (9, (.int .i64 s50))]) (En.round ⟨I68, C79, rfl, Mem.Le.refl _, hS77, ho80⟩) (Sub.cons rfl (Sub.cons rfl (Sub.cons rfl (Sub.cons rfl (Sub.cons rfl Sub.nil)))))
              · replace hr4 := cond_f hc hr4
                refine W.skip ?_
                have he := Option.some.inj hr4
                subst j72
                refine En.weaken (fr' := [(0, (.slice a_p0 p0.length c_p0)), (5, (.slice a2 s51.length n1)), (7, (.int .i64 (i29 : Int))), (8, (.int .i64 (i40 : Int))), (9, (.int .i64 s50))]) (En.round ⟨I68, C_s51, rfl, Mem.Le.refl _, hS70, (OwnSl.mono h_s51 (hl60.trans hl69))⟩) (Sub.cons rfl (Sub.cons rfl (Sub.cons rfl (Sub.cons rfl (Sub.cons rfl Sub.nil)))))
            case restj72 =>
              rintro _ w81 ⟨I74, C_j72, rfl, hl75, hS82, h_j72⟩
              refine En.in_normal ?_
              refine En.next ?_
              refine W.region (l := [0, 1, 2]) (by kernel_rfl) ?_
              refine WO.vals [(0, 48, (.int .i64 s50)), (1, 49, (.int .i64 (w64 (s50 + 1)))), (2, 9, (.int .i64 (w64 (s50 + 1))))] (by kernel_rfl) (fun _ => by kernel_rfl) ?_
              refine WO.nil ?_
              refine En.weaken (fr' := [(0, (.slice a_p0 p0.length c_p0)), (5, (.slice a2 j72.length n1)), (7, (.int .i64 (i29 : Int))), (8, (.int .i64 (i40 : Int))), (9, (.int .i64 (w64 (s50 + 1))))]) (En.round ⟨((w64 (s50 + 1)), j72), (Option.some.inj hr3).symm, I74, C_j72, rfl, (((hl49.trans hl60).trans hl69).trans hl75), hS82, h_j72⟩) (Sub.cons rfl (Sub.cons rfl (Sub.cons rfl (Sub.cons rfl (Sub.cons rfl Sub.nil)))))
          · replace hr3 := cond_f hc hr3
            refine W.exit ?_
            refine En.nx_exit ?_
            refine En.rd_exit ?_
            have ht := hext47 _ (Option.some.inj hr3).symm
            subst t47
            refine En.in_hit ?_
            refine En.in_normal ?_
            refine En.next ?_
            refine W.region (l := [0, 1, 2]) (by kernel_rfl) ?_
            refine WO.vals [(0, 32, (.int .i64 (i40 : Int)))] (by kernel_rfl) (fun _ => by kernel_rfl) ?_
            refine WO.incr (j := i40) rfl (by kernel_rfl) rfl (by first | omega | (dsimp only at *; omega)) ?_
            refine WO.vals [(2, 8, (.int .i64 ((i40 + 1 : Nat) : Int)))] (by kernel_rfl) (fun _ => by kernel_rfl) ?_
            refine WO.nil ?_
            have he := Option.some.inj hr2
            subst x44
            refine En.weaken (fr' := [(0, (.slice a_p0 p0.length c_p0)), (5, (.slice a2 s51.length n1)), (7, (.int .i64 (i29 : Int))), (8, (.int .i64 ((i40 + 1 : Nat) : Int)))]) (En.round ⟨I59, C_s51, rfl, ((hl38.trans hl49).trans hl60), hS63, (OwnSl.mono h_s51 hl60)⟩) (Sub.cons rfl (Sub.cons rfl (Sub.cons rfl (Sub.cons rfl Sub.nil))))
      case lastt36 =>
        rintro _ w85 ⟨I37, C_s39, rfl, hl38, hS86, h_s39⟩
        refine W.seq ?_
        refine W.seq ?_
        refine W.region (l := [0, 1, 2, 3]) (by kernel_rfl) ?_
        refine WO.vals [(0, 28, (.int .i64 (p0.length : Int))), (1, 29, (.slice a_p0 p0.length c_p0)), (2, 30, (.int .i64 (p0.length : Int))), (3, 31, (.bool (decide ((p0.length : Int) < (p0.length : Int)))))] (by kernel_rfl) (fun _ => by kernel_rfl) ?_
        refine WO.nil ?_
        refine En.next ?_
        refine W.cond (b := (decide ((p0.length : Int) < (p0.length : Int)))) rfl rfl (fun hc => ?_) (fun hc => ?_)
        · exact absurd hc (by first | (simp; done) | (simp; omega))
        clear hc
        refine W.exit ?_
        refine En.nx_exit ?_
        refine En.rd_exit ?_
        refine En.in_hit ?_
        refine En.in_normal ?_
        refine En.next ?_
        refine W.region (l := [0, 1, 2]) (by kernel_rfl) ?_
        refine WO.vals [(0, 26, (.int .i64 (i29 : Int)))] (by kernel_rfl) (fun _ => by kernel_rfl) ?_
        refine WO.incr (j := i29) rfl (by kernel_rfl) rfl (by first | omega | (dsimp only at *; omega)) ?_
        refine WO.vals [(2, 7, (.int .i64 ((i29 + 1 : Nat) : Int)))] (by kernel_rfl) (fun _ => by kernel_rfl) ?_
        refine WO.nil ?_
        have he := Option.some.inj hr1
        subst x33
        refine En.weaken (fr' := [(0, (.slice a_p0 p0.length c_p0)), (5, (.slice a2 s39.length n1)), (7, (.int .i64 ((i29 + 1 : Nat) : Int)))]) (En.round ⟨I37, C_s39, rfl, (hl27.trans hl38), hS86, h_s39⟩) (Sub.cons rfl (Sub.cons rfl (Sub.cons rfl Sub.nil)))
    case lastt25 =>
      rintro _ w87 ⟨I26, C_s28, rfl, hl27, hS88, h_s28⟩
      refine W.seq ?_
      refine W.seq ?_
      refine W.region (l := [0, 1, 2, 3]) (by kernel_rfl) ?_
      refine WO.vals [(0, 22, (.int .i64 (p0.length : Int))), (1, 23, (.slice a_p0 p0.length c_p0)), (2, 24, (.int .i64 (p0.length : Int))), (3, 25, (.bool (decide ((p0.length : Int) < (p0.length : Int)))))] (by kernel_rfl) (fun _ => by kernel_rfl) ?_
      refine WO.nil ?_
      refine En.next ?_
      refine W.cond (b := (decide ((p0.length : Int) < (p0.length : Int)))) rfl rfl (fun hc => ?_) (fun hc => ?_)
      · exact absurd hc (by first | (simp; done) | (simp; omega))
      clear hc
      refine W.exit ?_
      refine En.nx_exit ?_
      refine En.rd_exit ?_
      refine En.in_hit ?_
      refine En.next ?_
      refine W.seq ?_
      refine W.region (l := [0, 1]) (by kernel_rfl) ?_
      refine WO.vals [(0, 65, (.slice a2 s28.length n1))] (by kernel_rfl) (fun _ => by kernel_rfl) ?_
      obtain ⟨I89, hl90, hS92, hp91⟩ := OwnSl.pub h_s28 hS88
      refine WO.vals [(1, 4, (.slice a2 s28.length n1))] (by kernel_rfl) (fun _ => by kernel_rfl) ?_
      refine WO.nil ?_
      refine En.next ?_
      refine W.ret ?_
      have he := Option.some.inj hr
      subst r
      exact En.ret1 rfl (.slice a2 s28.length n1) rfl ⟨I89, a2, n1, rfl, (((hl11.trans hl17).trans hl27).trans hl90), hS92, hp91⟩
noncomputable def registrarref18_into (p0 : List ByteArray) (p1 : ByteArray) : Option (List ByteArray) := (loopO (fun (s4 : Int) => ((bif (decide (s4 < (p0.length : Int))) then (idx p0 s4).bind (fun (x13 : ByteArray) => some (sLt x13 p1)) else some false)).bind (fun (j9 : Bool) => (bif j9 then some (.inl (w64 (s4 + 1))) else some (.inr s4)))) 0).bind (fun (s17 : Int) => (sub p0 0 s17).bind (fun (x18 : List ByteArray) => (app 16 ([] : List ByteArray) x18).bind (fun (x21 : List ByteArray) => (app 16 x21 ([p1] : List ByteArray)).bind (fun (x36 : List ByteArray) => (sub p0 s17 (p0.length : Int)).bind (fun (x45 : List ByteArray) => (app 16 x36 x45).bind (fun (x46 : List ByteArray) => some x46))))))
set_option maxHeartbeats 1000000 in
theorem registrarref18_into_ok {E w : World} {I : Mem} {Os : List Mem} {p0 : List ByteArray} {p1 : ByteArray} {a_p0 : Option Addr} {c_p0 : Nat} (h_p0 : RSl 1 RStr I a_p0 c_p0 p0) (hS : St E w I Os) {r : (List ByteArray)} (hr : registrarref18_into p0 p1 = some r) :
    Calls P 28 #[(.slice a_p0 p0.length c_p0), (.string p1)] w (fun e w' => ∃ (I' : Mem) (ra0 : Option Addr) (rc0 : Nat), e = .returned (.slice ra0 r.length rc0) ∧ I.Le I' ∧ St E w' I' Os ∧ RSl 1 RStr I' ra0 rc0 r) := by
  refine calls_W (args := [(.slice a_p0 p0.length c_p0), (.string p1)]) (fn := Try.f28) rfl rfl rfl ?_
  unfold registrarref18_into at hr
  refine W.seq ?_
  refine W.region (l := [0]) (by kernel_rfl) ?_
  refine WO.vals [(0, 4, (.slice none 0 0))] (by kernel_rfl) (fun _ => by kernel_rfl) ?_
  refine WO.nil ?_
  refine En.next ?_
  refine W.seq ?_
  refine W.region (l := [0]) (by kernel_rfl) ?_
  refine WO.vals [(0, 5, (.int .i64 0))] (by kernel_rfl) (fun _ => by kernel_rfl) ?_
  refine WO.nil ?_
  refine En.next ?_
  refine W.seq ?_
  refine W.block ?_
  obtain ⟨t1, hloop5, hr⟩ := bind_some hr
  refine W.weaken (fr' := [(0, (.slice a_p0 p0.length c_p0)), (1, (.string p1)), (5, (.int .i64 0))]) (W.loopO hloop5 (fun (s4 : Int) fr w => ∃ (I2 : Mem), fr = [(0, (.slice a_p0 p0.length c_p0)), (1, (.string p1)), (5, (.int .i64 s4))] ∧ I.Le I2 ∧ St E w I2 Os) ⟨I, rfl, Mem.Le.refl _, hS⟩ ?_) (Sub.cons rfl (Sub.cons rfl (Sub.cons rfl Sub.nil)))
  rintro s4 _ w6 ⟨I2, rfl, hl3, hS7⟩ x8 hr1 hext1
  refine W.seq ?_
  refine W.seq ?_
  refine W.region (l := [0, 1, 2, 3, 4, 5, 6, 7, 8, 9, 10, 11]) (by kernel_rfl) ?_
  refine WO.vals [(0, 7, (.int .i64 s4)), (1, 8, (.slice a_p0 p0.length c_p0)), (2, 9, (.int .i64 (p0.length : Int))), (3, 10, (.bool (decide (s4 < (p0.length : Int))))), (4, 11, (.bool (decide (s4 < (p0.length : Int)))))] (by kernel_rfl) (fun _ => by kernel_rfl) ?_
  obtain ⟨j9, hr2, hr1⟩ := bind_some hr1
  refine WO.join (l1 := [5, 6, 7, 8, 9, 10, 11]) (l2 := []) (J := (fun fr w => ∃ (I11 : Mem), fr = [(0, (.slice a_p0 p0.length c_p0)), (1, (.string p1)), (5, (.int .i64 s4)), (18, (.bool j9))] ∧ I2.Le I11 ∧ St E w I11 Os)) ?restj9 ?waysj9
  case waysj9 =>
    refine WO.caseb (decide (s4 < (p0.length : Int))) (fun hc => ?_) (fun hc => ?_)
    · replace hr2 := cond_t hc hr2
      refine WO.reslot 11 rfl (show Value.bool (decide (s4 < (p0.length : Int))) = Value.bool true by rw [hc]) ?_
      refine WO.vals [(5, 12, (.slice a_p0 p0.length c_p0)), (6, 13, (.int .i64 s4))] (by kernel_rfl) (fun _ => by kernel_rfl) ?_
      obtain ⟨x13, hx_x13, hr2⟩ := bind_some hr2
      obtain ⟨h0_x13, h1_x13, hx_x13⟩ := idx_some hx_x13
      obtain ⟨ha_x13, cs_x13, hn_x13, hr_x13, hc_x13⟩ := ((RSl.mono h_p0 hl3)).el _ _ hx_x13
      obtain rfl := hr_x13
      refine WO.indexAddr (e := 9) (sz := 1) rfl (by kernel_rfl) (by kernel_rfl) (by kernel_rfl) rfl ha_x13 rfl h0_x13 h1_x13 ?_
      refine WO.load rfl (by kernel_rfl) (by kernel_rfl) rfl (v := (.string x13)) (fun w' hw' => hc_x13.cell0 (by kernel_rfl) ((rd_f hS7.im) w' hw')) ?_
      refine WO.vals [(9, 16, (.string p1)), (10, 17, (.bool (sLt x13 p1))), (11, 18, (.bool (sLt x13 p1)))] (by kernel_rfl) (fun _ => by kernel_rfl) ?_
      have he := Option.some.inj hr2
      subst j9
      refine WO.weaken (fr' := [(0, (.slice a_p0 p0.length c_p0)), (1, (.string p1)), (5, (.int .i64 s4)), (18, (.bool (sLt x13 p1)))]) (WO.meet ⟨I2, rfl, Mem.Le.refl _, hS7⟩) (Sub.cons rfl (Sub.cons rfl (Sub.cons rfl (Sub.cons rfl Sub.nil))))
    · replace hr2 := cond_f hc hr2
      refine WO.reslot 11 rfl (show Value.bool (decide (s4 < (p0.length : Int))) = Value.bool false by rw [hc]) ?_
      refine WO.pass rfl (by kernel_rfl) rfl ?_
      refine WO.pass rfl (by kernel_rfl) rfl ?_
      refine WO.pass rfl (by kernel_rfl) rfl ?_
      refine WO.pass rfl (by kernel_rfl) rfl ?_
      refine WO.pass rfl (by kernel_rfl) rfl ?_
      refine WO.pass rfl (by kernel_rfl) rfl ?_
      refine WO.vals [(11, 18, (.bool false))] (by kernel_rfl) (fun _ => by kernel_rfl) ?_
      have he := Option.some.inj hr2
      subst j9
      refine WO.weaken (fr' := [(0, (.slice a_p0 p0.length c_p0)), (1, (.string p1)), (5, (.int .i64 s4)), (18, (.bool false))]) (WO.meet ⟨I2, rfl, Mem.Le.refl _, hS7⟩) (Sub.cons rfl (Sub.cons rfl (Sub.cons rfl (Sub.cons rfl Sub.nil))))
  case restj9 =>
    rintro _ w14 ⟨I11, rfl, hl12, hS15⟩
    refine WO.nil ?_
    refine En.next ?_
    refine W.cond (b := j9) rfl rfl (fun hc => ?_) (fun hc => ?_)
    · replace hr1 := cond_t hc hr1
      refine W.skip ?_
      refine En.next ?_
      refine W.block ?_
      refine W.region (l := [0, 1, 2]) (by kernel_rfl) ?_
      refine WO.vals [(0, 19, (.int .i64 s4)), (1, 20, (.int .i64 (w64 (s4 + 1)))), (2, 5, (.int .i64 (w64 (s4 + 1))))] (by kernel_rfl) (fun _ => by kernel_rfl) ?_
      refine WO.nil ?_
      refine En.in_normal ?_
      refine En.weaken (fr' := [(0, (.slice a_p0 p0.length c_p0)), (1, (.string p1)), (5, (.int .i64 (w64 (s4 + 1))))]) (En.round ⟨(w64 (s4 + 1)), (Option.some.inj hr1).symm, I11, rfl, (hl3.trans hl12), hS15⟩) (Sub.cons rfl (Sub.cons rfl (Sub.cons rfl Sub.nil)))
    · replace hr1 := cond_f hc hr1
      refine W.exit ?_
      refine En.nx_exit ?_
      refine En.rd_exit ?_
      have ht := hext1 _ (Option.some.inj hr1).symm
      subst t1
      refine En.in_hit ?_
      refine En.next ?_
      refine W.seq ?_
      refine W.region (l := [0]) (by kernel_rfl) ?_
      refine WO.vals [(0, 6, (.slice none 0 0))] (by kernel_rfl) (fun _ => by kernel_rfl) ?_
      refine WO.nil ?_
      refine En.next ?_
      refine W.seq ?_
      refine W.region (l := [0, 1, 2, 3, 4, 5]) (by kernel_rfl) ?_
      refine WO.vals [(0, 21, (.slice none 0 0)), (1, 22, (.slice a_p0 p0.length c_p0)), (2, 23, (.int .i64 s4))] (by kernel_rfl) (fun _ => by kernel_rfl) ?_
      obtain ⟨x57, hx_x57, hr⟩ := bind_some hr
      obtain ⟨h0_x57, h1_x57, h2_x57, he_x57⟩ := sub_some hx_x57
      have hl_x57 : (s4 : Int) ≤ (c_p0 : Int) := Int.le_trans h2_x57 (Int.ofNat_le.2 ((RSl.mono h_p0 (hl3.trans hl12))).le)
      refine WO.slice (e := 9) (sz := 1) rfl (by kernel_rfl) (by kernel_rfl) (by kernel_rfl) rfl (0 : Int) (s4 : Int) h0_x57 (.inl ⟨rfl, rfl⟩) (.inr ⟨_, _, rfl, rfl⟩) h1_x57 hl_x57 ?_
      obtain ⟨a_x57, c_x57, h_x57, ev_x57⟩ := sub_ok ((RSl.mono h_p0 (hl3.trans hl12))) h0_x57 h1_x57 h2_x57 he_x57
      refine WO.reslot 24 rfl ev_x57 ?_
      have hS59 := hS15.no
      obtain ⟨x60, hx_x60, hr⟩ := bind_some hr
      obtain ⟨h0_x60, he_x60⟩ := app_some hx_x60
      refine WO.append (e' := 9) (b := 16) (zs := #[(.string (⟨#[]⟩ : ByteArray))]) hS59 (OwnSl.nil (T := 9) (rel := RStr) (I := I11)) rfl (by kernel_rfl) rfl (by kernel_rfl) (by kernel_rfl) (by kernel_rfl) rfl rfl rfl rfl h_x57 hS59.im h0_x60 he_x60 (fun _ _ _ => trivial) ?_
      intro a61 c62 w63 C64 hS65 ho66
      refine WO.vals [(5, 6, (.slice a61 x60.length c62))] (by kernel_rfl) (fun _ => by kernel_rfl) ?_
      refine WO.nil ?_
      refine En.next ?_
      refine W.seq ?_
      refine W.region (l := [0, 1, 2, 3, 4]) (by kernel_rfl) ?_
      refine WO.vals [(0, 26, (.slice a61 x60.length c62)), (1, 27, (.string p1))] (by kernel_rfl) (fun _ => by kernel_rfl) ?_
      refine WO.newSlice (rel := RStr) (xs := ([p1] : List ByteArray)) hS65 rfl (by kernel_rfl) rfl 9 1 [[(.string p1)]] (by kernel_rfl) rfl ((Elr.cons rfl Elr.nil)) (fun _ _ _ => trivial) ?_
      intro a70 C68 w72 hS71 ho69
      have hS74 := hS71.front1
      obtain ⟨x75, hx_x75, hr⟩ := bind_some hr
      obtain ⟨h0_x75, he_x75⟩ := app_some hx_x75
      refine WO.append (e' := 9) (b := 16) (zs := #[(.string (⟨#[]⟩ : ByteArray))]) hS74 ho66 rfl (by kernel_rfl) rfl (by kernel_rfl) (by kernel_rfl) (by kernel_rfl) rfl rfl rfl rfl ho69.sl (hS74.rd (List.Mem.tail _ (List.Mem.head _))) h0_x75 he_x75 (fun _ _ _ => trivial) ?_
      intro a76 c77 w78 C79 hS80 ho81
      have hS82 := hS80.front1
      have hS83 := hS82.drop
      refine WO.vals [(4, 6, (.slice a76 x75.length c77))] (by kernel_rfl) (fun _ => by kernel_rfl) ?_
      refine WO.nil ?_
      refine En.next ?_
      refine W.seq ?_
      refine W.region (l := [0, 1, 2, 3, 4, 5]) (by kernel_rfl) ?_
      refine WO.vals [(0, 30, (.slice a76 x75.length c77)), (1, 31, (.slice a_p0 p0.length c_p0)), (2, 32, (.int .i64 s4))] (by kernel_rfl) (fun _ => by kernel_rfl) ?_
      obtain ⟨x84, hx_x84, hr⟩ := bind_some hr
      obtain ⟨h0_x84, h1_x84, h2_x84, he_x84⟩ := sub_some hx_x84
      have hl_x84 : ((p0.length : Int) : Int) ≤ (c_p0 : Int) := Int.le_trans h2_x84 (Int.ofNat_le.2 ((RSl.mono h_p0 (hl3.trans hl12))).le)
      refine WO.slice (e := 9) (sz := 1) rfl (by kernel_rfl) (by kernel_rfl) (by kernel_rfl) rfl (s4 : Int) ((p0.length : Int) : Int) h0_x84 (.inr ⟨_, _, rfl, rfl⟩) (.inl ⟨rfl, rfl⟩) h1_x84 hl_x84 ?_
      obtain ⟨a_x84, c_x84, h_x84, ev_x84⟩ := sub_ok ((RSl.mono h_p0 (hl3.trans hl12))) h0_x84 h1_x84 h2_x84 he_x84
      refine WO.reslot 33 rfl ev_x84 ?_
      obtain ⟨x85, hx_x85, hr⟩ := bind_some hr
      obtain ⟨h0_x85, he_x85⟩ := app_some hx_x85
      refine WO.append (e' := 9) (b := 16) (zs := #[(.string (⟨#[]⟩ : ByteArray))]) hS83 ho81 rfl (by kernel_rfl) rfl (by kernel_rfl) (by kernel_rfl) (by kernel_rfl) rfl rfl rfl rfl h_x84 hS83.im h0_x85 he_x85 (fun _ _ _ => trivial) ?_
      intro a86 c87 w88 C89 hS90 ho91
      obtain ⟨I92, hl93, hS95, hp94⟩ := OwnSl.pub ho91 hS90
      refine WO.vals [(5, 4, (.slice a86 x85.length c87))] (by kernel_rfl) (fun _ => by kernel_rfl) ?_
      refine WO.nil ?_
      refine En.next ?_
      refine W.ret ?_
      have he := Option.some.inj hr
      subst r
      exact En.ret1 rfl (.slice a86 x85.length c87) rfl ⟨I92, a86, c87, rfl, ((hl3.trans hl12).trans hl93), hS95, hp94⟩
end Go.Proofs.Ythndadengamanaa
