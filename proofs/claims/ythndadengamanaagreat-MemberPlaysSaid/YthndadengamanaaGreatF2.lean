/- What functions of the program come to, each by a plain one. Conditions: none. -/
import Derived.Test.YthndadengamanaaGreatF1
set_option maxRecDepth 100000
namespace Go.Proofs.YthndadengamanaaGreat
open Go.Gv
noncomputable def member_Check (p0 : List api_Role) : Option Int := (member_names p0).bind (fun (r10 : List ByteArray) => ((bif (decide ((p0.length : Int) > 8)) then some true else (member_rising r10).bind (fun (r32 : Bool) => some (!r32)))).bind (fun (j22 : Bool) => (bif j22 then some 2 else (forN (fun (i41 : Nat) => fun (_s : Unit) => (idx p0 (i41 : Int)).bind (fun (x48 : api_Role) => (lex_IsName x48.Name).bind (fun (r60 : Bool) => ((bif (!r60) then some true else (member_rising x48.In).bind (fun (r72 : Bool) => some (!r72)))).bind (fun (j61 : Bool) => ((bif j61 then some true else (slices_ContainsFunc_string x48.In (fun (u0 : ByteArray) => member_Check_1 u0 r10)).bind (fun (r88 : Bool) => some r88))).bind (fun (j77 : Bool) => (bif j77 then some (.inr 2) else some (.inl ()))))))) p0.length 0 ()).bind (fun (t : Unit ⊕ (Int)) => match t with | .inl _ => (slices_ContainsFunc_api_Role p0 (fun (u0 : api_Role) => member_Check_2 u0 p0)).bind (fun (r106 : Bool) => (bif r106 then some 2 else some 0)) | .inr s94 => some s94))))
set_option maxHeartbeats 1000000 in
theorem member_Check_ok {E w : World} {I : Mem} {Os : List Mem} {p0 : List api_Role} {a_p0 : Option Addr} {c_p0 : Nat} (h_p0 : RSl 2 R_api_Role I a_p0 c_p0 p0) (hS : St E w I Os) {r : Int} (hr : member_Check p0 = some r) :
    Calls P 10 #[(.slice a_p0 p0.length c_p0)] w (fun e w' => ∃ (I' : Mem), e = .returned (.int .i64 r) ∧ I.Le I' ∧ St E w' I' Os) := by
  refine calls_W (args := [(.slice a_p0 p0.length c_p0)]) (fn := Tryz.f10) rfl rfl rfl ?_
  unfold member_Check at hr
  refine W.seq ?_
  refine W.region (l := [0, 1]) (by kernel_rfl) ?_
  refine WO.new hS rfl (by kernel_rfl) rfl (.cells #[(.slice a_p0 p0.length c_p0)] 22 (0, 0)) (fun b => .pointer (some ⟨b, 0, none⟩)) (by kernel_rfl) (fun _ _ _ => trivial) ?_
  intro b1 w4 hS3
  refine WO.vals [(1, 2, (.int .i64 0))] (by kernel_rfl) (fun _ => by kernel_rfl) ?_
  refine WO.nil ?_
  refine En.next ?_
  refine W.seq ?_
  refine W.region (l := [0, 1, 2, 3]) (by kernel_rfl) ?_
  refine WO.load rfl (by kernel_rfl) (by kernel_rfl) rfl (v := (.slice a_p0 p0.length c_p0)) (fun w' hw' => cell_one ((rd_f (hS3.rd (List.Mem.head _))) w' hw') (by kernel_rfl)) ?_
  obtain ⟨r10, hx_r5, hr⟩ := bind_some hr
  refine WO.call rfl (by kernel_rfl) rfl (f := 22) (args := #[(.slice a_p0 p0.length c_p0)]) (by kernel_rfl) (member_names_ok h_p0 hS3 hx_r5) ?_
  rintro _ w6 ⟨I7, a_r10, c_r10, C_r10, rfl, hl8, hS9, h_r10⟩
  refine ⟨_, rfl, trivial, ?_⟩
  refine WO.new hS9 rfl (by kernel_rfl) rfl (.cells #[(.slice none 0 0)] 26 (0, 0)) (fun b => .pointer (some ⟨b, 0, none⟩)) (by kernel_rfl) (fun _ _ _ => trivial) ?_
  intro b11 w14 hS13
  have hS15 := hS13.front1
  obtain ⟨I16, hl17, hS19, hp18⟩ := OwnSl.pub h_r10 hS15
  refine WO.storeBox hS19 rfl (by kernel_rfl) rfl 0 rfl rfl (by kernel_rfl) (by kernel_rfl) (by kernel_rfl) (#[(.slice a_r10 r10.length c_r10)]) (by kernel_rfl) (fun _ _ => trivial) ?_
  intro w21 hS20
  refine WO.nil ?_
  refine En.next ?_
  refine W.seq ?_
  refine W.seq ?_
  refine W.region (l := [0, 1, 2, 3, 4, 5, 6, 7]) (by kernel_rfl) ?_
  refine WO.load rfl (by kernel_rfl) (by kernel_rfl) rfl (v := (.slice a_p0 p0.length c_p0)) (fun w' hw' => cell_one ((rd_f (hS20.rd (List.Mem.tail _ (List.Mem.head _)))) w' hw') (by kernel_rfl)) ?_
  refine WO.vals [(1, 9, (.int .i64 (p0.length : Int))), (2, 10, (.bool (decide ((p0.length : Int) > 8)))), (3, 11, (.bool (decide ((p0.length : Int) > 8))))] (by kernel_rfl) (fun _ => by kernel_rfl) ?_
  obtain ⟨j22, hr1, hr⟩ := bind_some hr
  refine WO.join (l1 := [4, 5, 6, 7]) (l2 := []) (J := (fun fr w => ∃ (I24 : Mem), fr = [(1, (.pointer (some ⟨b1, 0, none⟩))), (3, (.pointer (some ⟨b11, 0, none⟩))), (15, (.bool j22))] ∧ I16.Le I24 ∧ St E w I24 ((Gv.one b1 (.cells #[(.slice a_p0 p0.length c_p0)] 22 (0, 0))) :: (Gv.one b11 (.cells #[(.slice a_r10 r10.length c_r10)] 26 (0, 0))) :: Os))) ?restj22 ?waysj22
  case waysj22 =>
    refine WO.caseb (decide ((p0.length : Int) > 8)) (fun hc => ?_) (fun hc => ?_)
    · replace hr1 := cond_t hc hr1
      refine WO.reslot 11 rfl (show Value.bool (decide ((p0.length : Int) > 8)) = Value.bool true by rw [hc]) ?_
      refine WO.pass rfl (by kernel_rfl) rfl ?_
      refine WO.pass rfl (by kernel_rfl) rfl ?_
      refine WO.pass rfl (by kernel_rfl) rfl ?_
      refine WO.vals [(7, 15, (.bool true))] (by kernel_rfl) (fun _ => by kernel_rfl) ?_
      have hS26 := hS20.front1
      have he := Option.some.inj hr1
      subst j22
      refine WO.weaken (fr' := [(1, (.pointer (some ⟨b1, 0, none⟩))), (3, (.pointer (some ⟨b11, 0, none⟩))), (15, (.bool true))]) (WO.meet ⟨I16, rfl, Mem.Le.refl _, hS26⟩) (Sub.cons rfl (Sub.cons rfl (Sub.cons rfl Sub.nil)))
    · replace hr1 := cond_f hc hr1
      refine WO.reslot 11 rfl (show Value.bool (decide ((p0.length : Int) > 8)) = Value.bool false by rw [hc]) ?_
      refine WO.load rfl (by kernel_rfl) (by kernel_rfl) rfl (v := (.slice a_r10 r10.length c_r10)) (fun w' hw' => cell_one ((rd_f (hS20.rd (List.Mem.head _))) w' hw') (by kernel_rfl)) ?_
      obtain ⟨r32, hx_r27, hr1⟩ := bind_some hr1
      refine WO.call rfl (by kernel_rfl) rfl (f := 23) (args := #[(.slice a_r10 r10.length c_r10)]) (by kernel_rfl) (member_rising_ok hp18 hS20 hx_r27) ?_
      rintro _ w28 ⟨I29, rfl, hl30, hS31⟩
      refine ⟨_, rfl, trivial, ?_⟩
      refine WO.vals [(6, 14, (.bool (!r32))), (7, 15, (.bool (!r32)))] (by kernel_rfl) (fun _ => by kernel_rfl) ?_
      have hS33 := hS31.front1
      have he := Option.some.inj hr1
      subst j22
      refine WO.weaken (fr' := [(1, (.pointer (some ⟨b1, 0, none⟩))), (3, (.pointer (some ⟨b11, 0, none⟩))), (15, (.bool (!r32)))]) (WO.meet ⟨I29, rfl, hl30, hS33⟩) (Sub.cons rfl (Sub.cons rfl (Sub.cons rfl Sub.nil)))
  case restj22 =>
    rintro _ w34 ⟨I24, rfl, hl25, hS35⟩
    refine WO.nil ?_
    refine En.next ?_
    refine W.cond (b := j22) rfl rfl (fun hc => ?_) (fun hc => ?_)
    · replace hr := cond_t hc hr
      refine W.seq ?_
      refine W.region (l := [0]) (by kernel_rfl) ?_
      refine WO.vals [(0, 2, (.int .i64 2))] (by kernel_rfl) (fun _ => by kernel_rfl) ?_
      refine WO.nil ?_
      refine En.next ?_
      refine W.ret ?_
      refine En.nx_ret ?_
      have hS36 := hS35.drop
      have hS37 := hS36.drop
      have he := Option.some.inj hr
      subst r
      exact En.ret1 rfl (.int .i64 2) rfl ⟨I24, rfl, ((hl8.trans hl17).trans hl25), hS37⟩
    · replace hr := cond_f hc hr
      refine W.skip ?_
      refine En.next ?_
      refine W.seq ?_
      refine W.seq ?_
      refine W.region (l := [0, 1, 2]) (by kernel_rfl) ?_
      refine WO.load rfl (by kernel_rfl) (by kernel_rfl) rfl (v := (.slice a_p0 p0.length c_p0)) (fun w' hw' => cell_one ((rd_f (hS35.rd (List.Mem.head _))) w' hw') (by kernel_rfl)) ?_
      refine WO.vals [(1, 17, (.int .i64 (p0.length : Int))), (2, 18, (.int .i64 0))] (by kernel_rfl) (fun _ => by kernel_rfl) ?_
      refine WO.nil ?_
      refine En.next ?_
      refine W.block ?_
      obtain ⟨t38, hloop42, hr⟩ := bind_some hr
      have hlt46 := ((RSl.mono h_p0 ((hl8.trans hl17).trans hl25))).len_lt
      refine W.weaken (fr' := [(1, (.pointer (some ⟨b1, 0, none⟩))), (3, (.pointer (some ⟨b11, 0, none⟩))), (16, (.slice a_p0 p0.length c_p0)), (17, (.int .i64 (p0.length : Int))), (18, (.int .i64 ((0 : Nat) : Int)))]) (W.forN (m := p0.length) hloop42 (fun (i41 : Nat) => fun (_s : Unit) fr w => ∃ (I39 : Mem), fr = [(1, (.pointer (some ⟨b1, 0, none⟩))), (3, (.pointer (some ⟨b11, 0, none⟩))), (16, (.slice a_p0 p0.length c_p0)), (17, (.int .i64 (p0.length : Int))), (18, (.int .i64 (i41 : Int)))] ∧ I24.Le I39 ∧ St E w I39 ((Gv.one b1 (.cells #[(.slice a_p0 p0.length c_p0)] 22 (0, 0))) :: (Gv.one b11 (.cells #[(.slice a_r10 r10.length c_r10)] 26 (0, 0))) :: Os)) ⟨I24, rfl, Mem.Le.refl _, hS35⟩ ?roundt38 ?lastt38) (Sub.cons rfl (Sub.cons rfl (Sub.cons rfl (Sub.cons rfl (Sub.cons rfl Sub.nil)))))
      case roundt38 =>
        rintro i41 _ _ w43 hi47 ⟨I39, rfl, hl40, hS44⟩ x45 hr1 hext38
        refine W.seq ?_
        refine W.region (l := [0]) (by kernel_rfl) ?_
        refine WO.vals [(0, 19, (.bool (decide ((i41 : Int) < (p0.length : Int)))))] (by kernel_rfl) (fun _ => by kernel_rfl) ?_
        refine WO.nil ?_
        refine En.next ?_
        refine W.seq ?_
        refine W.cond (b := (decide ((i41 : Int) < (p0.length : Int)))) rfl rfl (fun hc => ?_) (fun hc => ?_)
        rotate_left
        · exact absurd hc (by first | (simp; done) | (simp; omega))
        clear hc
        refine W.skip ?_
        refine En.next ?_
        refine W.seq ?_
        refine W.block ?_
        refine W.seq ?_
        refine W.region (l := [0, 1, 2, 3]) (by kernel_rfl) ?_
        obtain ⟨x48, hx_x48, hr1⟩ := bind_some hr1
        obtain ⟨h0_x48, h1_x48, hx_x48⟩ := idx_some hx_x48
        obtain ⟨ha_x48, cs_x48, hn_x48, hr_x48, hc_x48⟩ := ((RSl.mono h_p0 (((hl8.trans hl17).trans hl25).trans hl40))).el _ _ hx_x48
        obtain ⟨w_x48, rfl, h_x48⟩ := hr_x48
        refine WO.indexAddr (e := 28) (sz := 2) rfl (by kernel_rfl) (by kernel_rfl) (by kernel_rfl) rfl ha_x48 rfl h0_x48 h1_x48 ?_
        refine WO.loadN rfl (by kernel_rfl) (by kernel_rfl) rfl ((cs_api_Role x48 w_x48)) (by kernel_rfl) (fun w' hw' => hc_x48.cells (k := 0) (by kernel_rfl) rfl ((rd_f hS44.im) w' hw')) ?_
        refine WO.new hS44 rfl (by kernel_rfl) rfl (.cells (cs_api_Role z_api_Role zw_api_Role).toArray 28 (0, 0)) (fun b => .pointer (some ⟨b, 0, none⟩)) (by kernel_rfl) (fun _ _ _ => trivial) ?_
        intro b49 w52 hS51
        refine WO.storeBox hS51 rfl (by kernel_rfl) rfl 0 rfl rfl (by kernel_rfl) (by kernel_rfl) (by kernel_rfl) ((cs_api_Role x48 w_x48).toArray) (by kernel_rfl) (fun _ _ => trivial) ?_
        intro w54 hS53
        refine WO.nil ?_
        refine En.next ?_
        refine W.seq ?_
        refine W.region (l := [0, 1, 2, 3, 4, 5, 6, 7, 8, 9, 10, 11, 12, 13, 14, 15]) (by kernel_rfl) ?_
        refine WO.vals [(0, 22, (.pointer (some ⟨b49, 0, none⟩)))] (by kernel_rfl) (fun _ => by kernel_rfl) ?_
        refine WO.load rfl (by kernel_rfl) (by kernel_rfl) rfl (v := (.string x48.Name)) (fun w' hw' => cell_one ((rd_f (hS53.rd (List.Mem.head _))) w' hw') (by kernel_rfl)) ?_
        obtain ⟨r60, hx_r55, hr1⟩ := bind_some hr1
        refine WO.call rfl (by kernel_rfl) rfl (f := 24) (args := #[(.string x48.Name)]) (by kernel_rfl) (lex_IsName_ok  hS53 hx_r55) ?_
        rintro _ w56 ⟨I57, rfl, hl58, hS59⟩
        refine ⟨_, rfl, trivial, ?_⟩
        refine WO.vals [(3, 25, (.bool (!r60))), (4, 26, (.bool (!r60)))] (by kernel_rfl) (fun _ => by kernel_rfl) ?_
        obtain ⟨j61, hr2, hr1⟩ := bind_some hr1
        refine WO.join (l1 := [5, 6, 7, 8, 9]) (l2 := [10, 11, 12, 13, 14, 15]) (J := (fun fr w => ∃ (I63 : Mem), fr = [(1, (.pointer (some ⟨b1, 0, none⟩))), (3, (.pointer (some ⟨b11, 0, none⟩))), (5, (.pointer (some ⟨b49, 0, none⟩))), (16, (.slice a_p0 p0.length c_p0)), (17, (.int .i64 (p0.length : Int))), (18, (.int .i64 (i41 : Int))), (31, (.bool j61))] ∧ I57.Le I63 ∧ St E w I63 ((Gv.one b1 (.cells #[(.slice a_p0 p0.length c_p0)] 22 (0, 0))) :: (Gv.one b11 (.cells #[(.slice a_r10 r10.length c_r10)] 26 (0, 0))) :: (Gv.one b49 (.cells (cs_api_Role x48 w_x48).toArray 28 (0, 0))) :: Os))) ?restj61 ?waysj61
        case waysj61 =>
          refine WO.caseb (!r60) (fun hc => ?_) (fun hc => ?_)
          · replace hr2 := cond_t hc hr2
            refine WO.reslot 26 rfl (show Value.bool (!r60) = Value.bool true by rw [hc]) ?_
            refine WO.pass rfl (by kernel_rfl) rfl ?_
            refine WO.pass rfl (by kernel_rfl) rfl ?_
            refine WO.pass rfl (by kernel_rfl) rfl ?_
            refine WO.pass rfl (by kernel_rfl) rfl ?_
            refine WO.vals [(9, 31, (.bool true))] (by kernel_rfl) (fun _ => by kernel_rfl) ?_
            have hS65 := hS59.front2
            have hS66 := hS65.front2
            have he := Option.some.inj hr2
            subst j61
            refine WO.weaken (fr' := [(1, (.pointer (some ⟨b1, 0, none⟩))), (3, (.pointer (some ⟨b11, 0, none⟩))), (5, (.pointer (some ⟨b49, 0, none⟩))), (16, (.slice a_p0 p0.length c_p0)), (17, (.int .i64 (p0.length : Int))), (18, (.int .i64 (i41 : Int))), (31, (.bool true))]) (WO.meet ⟨I57, rfl, Mem.Le.refl _, hS66⟩) (Sub.cons rfl (Sub.cons rfl (Sub.cons rfl (Sub.cons rfl (Sub.cons rfl (Sub.cons rfl (Sub.cons rfl Sub.nil)))))))
          · replace hr2 := cond_f hc hr2
            refine WO.reslot 26 rfl (show Value.bool (!r60) = Value.bool false by rw [hc]) ?_
            refine WO.vals [(5, 27, (.pointer (some ⟨b49, 1, none⟩)))] (by kernel_rfl) (fun _ => by kernel_rfl) ?_
            refine WO.load rfl (by kernel_rfl) (by kernel_rfl) rfl (v := (.slice w_x48.In.a x48.In.length w_x48.In.c)) (fun w' hw' => cell_one ((rd_f (hS59.rd (List.Mem.head _))) w' hw') (by kernel_rfl)) ?_
            obtain ⟨r72, hx_r67, hr2⟩ := bind_some hr2
            refine WO.call rfl (by kernel_rfl) rfl (f := 23) (args := #[(.slice w_x48.In.a x48.In.length w_x48.In.c)]) (by kernel_rfl) (member_rising_ok (RSl.mono h_x48.In hl58) hS59 hx_r67) ?_
            rintro _ w68 ⟨I69, rfl, hl70, hS71⟩
            refine ⟨_, rfl, trivial, ?_⟩
            refine WO.vals [(8, 30, (.bool (!r72))), (9, 31, (.bool (!r72)))] (by kernel_rfl) (fun _ => by kernel_rfl) ?_
            have hS73 := hS71.front2
            have hS74 := hS73.front2
            have he := Option.some.inj hr2
            subst j61
            refine WO.weaken (fr' := [(1, (.pointer (some ⟨b1, 0, none⟩))), (3, (.pointer (some ⟨b11, 0, none⟩))), (5, (.pointer (some ⟨b49, 0, none⟩))), (16, (.slice a_p0 p0.length c_p0)), (17, (.int .i64 (p0.length : Int))), (18, (.int .i64 (i41 : Int))), (31, (.bool (!r72)))]) (WO.meet ⟨I69, rfl, hl70, hS74⟩) (Sub.cons rfl (Sub.cons rfl (Sub.cons rfl (Sub.cons rfl (Sub.cons rfl (Sub.cons rfl (Sub.cons rfl Sub.nil)))))))
        case restj61 =>
          rintro _ w75 ⟨I63, rfl, hl64, hS76⟩
          refine WO.vals [(10, 32, (.bool j61))] (by kernel_rfl) (fun _ => by kernel_rfl) ?_
          obtain ⟨j77, hr2, hr1⟩ := bind_some hr1
          refine WO.join (l1 := [11, 12, 13, 14, 15]) (l2 := []) (J := (fun fr w => ∃ (I79 : Mem), fr = [(1, (.pointer (some ⟨b1, 0, none⟩))), (3, (.pointer (some ⟨b11, 0, none⟩))), (16, (.slice a_p0 p0.length c_p0)), (17, (.int .i64 (p0.length : Int))), (18, (.int .i64 (i41 : Int))), (37, (.bool j77))] ∧ I63.Le I79 ∧ St E w I79 ((Gv.one b1 (.cells #[(.slice a_p0 p0.length c_p0)] 22 (0, 0))) :: (Gv.one b11 (.cells #[(.slice a_r10 r10.length c_r10)] 26 (0, 0))) :: Os))) ?restj77 ?waysj77
          case waysj77 =>
            refine WO.caseb j61 (fun hc => ?_) (fun hc => ?_)
            · replace hr2 := cond_t hc hr2
              refine WO.reslot 32 rfl (show Value.bool j61 = Value.bool true by rw [hc]) ?_
              refine WO.pass rfl (by kernel_rfl) rfl ?_
              refine WO.pass rfl (by kernel_rfl) rfl ?_
              refine WO.pass rfl (by kernel_rfl) rfl ?_
              refine WO.pass rfl (by kernel_rfl) rfl ?_
              refine WO.vals [(15, 37, (.bool true))] (by kernel_rfl) (fun _ => by kernel_rfl) ?_
              have hS81 := hS76.front2
              have hS82 := hS81.drop
              have he := Option.some.inj hr2
              subst j77
              refine WO.weaken (fr' := [(1, (.pointer (some ⟨b1, 0, none⟩))), (3, (.pointer (some ⟨b11, 0, none⟩))), (16, (.slice a_p0 p0.length c_p0)), (17, (.int .i64 (p0.length : Int))), (18, (.int .i64 (i41 : Int))), (37, (.bool true))]) (WO.meet ⟨I63, rfl, Mem.Le.refl _, hS82⟩) (Sub.cons rfl (Sub.cons rfl (Sub.cons rfl (Sub.cons rfl (Sub.cons rfl (Sub.cons rfl Sub.nil))))))
            · replace hr2 := cond_f hc hr2
              refine WO.reslot 32 rfl (show Value.bool j61 = Value.bool false by rw [hc]) ?_
              refine WO.vals [(11, 33, (.pointer (some ⟨b49, 1, none⟩)))] (by kernel_rfl) (fun _ => by kernel_rfl) ?_
              refine WO.load rfl (by kernel_rfl) (by kernel_rfl) rfl (v := (.slice w_x48.In.a x48.In.length w_x48.In.c)) (fun w' hw' => cell_one ((rd_f (hS76.rd (List.Mem.tail _ (List.Mem.tail _ (List.Mem.head _))))) w' hw') (by kernel_rfl)) ?_
              refine WO.vals [(13, 35, (.func (.func 26) #[] #[(.pointer (some ⟨b11, 0, none⟩))]))] (by kernel_rfl) (fun _ => by kernel_rfl) ?_
              obtain ⟨r88, hx_r83, hr2⟩ := bind_some hr2
              refine WO.call rfl (by kernel_rfl) rfl (f := 25) (args := #[(.slice w_x48.In.a x48.In.length w_x48.In.c), (.func (.func 26) #[] #[(.pointer (some ⟨b11, 0, none⟩))])]) (by kernel_rfl) (slices_ContainsFunc_string_ok (RSl.mono h_x48.In (hl58.trans hl64)) (fun {F Ic wc} {_} hlc hSc  {rc} hrc => member_Check_1_ok (RSl.mono (RSl.mono hp18 (((hl25.trans hl40).trans hl58).trans hl64)) hlc) (List.mem_append_right _ (List.Mem.tail _ (List.Mem.head _))) hSc hrc) (fun _ _ => by kernel_rfl) hS76 hx_r83) ?_
              rintro _ w84 ⟨I85, rfl, hl86, hS87⟩
              refine ⟨_, rfl, trivial, ?_⟩
              refine WO.vals [(15, 37, (.bool r88))] (by kernel_rfl) (fun _ => by kernel_rfl) ?_
              have hS89 := hS87.front2
              have hS90 := hS89.drop
              have he := Option.some.inj hr2
              subst j77
              refine WO.weaken (fr' := [(1, (.pointer (some ⟨b1, 0, none⟩))), (3, (.pointer (some ⟨b11, 0, none⟩))), (16, (.slice a_p0 p0.length c_p0)), (17, (.int .i64 (p0.length : Int))), (18, (.int .i64 (i41 : Int))), (37, (.bool r88))]) (WO.meet ⟨I85, rfl, hl86, hS90⟩) (Sub.cons rfl (Sub.cons rfl (Sub.cons rfl (Sub.cons rfl (Sub.cons rfl (Sub.cons rfl Sub.nil))))))
          case restj77 =>
            rintro _ w91 ⟨I79, rfl, hl80, hS92⟩
            refine WO.nil ?_
            refine En.next ?_
            refine W.cond (b := j77) rfl rfl (fun hc => ?_) (fun hc => ?_)
            · replace hr1 := cond_t hc hr1
              refine W.seq ?_
              refine W.region (l := [0]) (by kernel_rfl) ?_
              refine WO.vals [(0, 2, (.int .i64 2))] (by kernel_rfl) (fun _ => by kernel_rfl) ?_
              refine WO.nil ?_
              refine En.next ?_
              refine W.ret ?_
              refine En.in_ret ?_
              refine En.nx_ret ?_
              refine En.rd_ret ?_
              have ht := hext38 _ (Option.some.inj hr1).symm
              subst t38
              refine En.in_ret ?_
              refine En.nx_ret ?_
              have hS97 := hS92.drop
              have hS98 := hS97.drop
              have he := Option.some.inj hr
              subst r
              exact En.ret1 rfl (.int .i64 2) rfl ⟨I79, rfl, ((((((hl8.trans hl17).trans hl25).trans hl40).trans hl58).trans hl64).trans hl80), hS98⟩
            · replace hr1 := cond_f hc hr1
              refine W.skip ?_
              refine En.in_normal ?_
              refine En.next ?_
              refine W.region (l := [0, 1]) (by kernel_rfl) ?_
              refine WO.incr (j := i41) rfl (by kernel_rfl) rfl (by first | omega | (dsimp only at *; omega)) ?_
              refine WO.vals [(1, 18, (.int .i64 ((i41 + 1 : Nat) : Int)))] (by kernel_rfl) (fun _ => by kernel_rfl) ?_
              refine WO.nil ?_
              refine En.weaken (fr' := [(1, (.pointer (some ⟨b1, 0, none⟩))), (3, (.pointer (some ⟨b11, 0, none⟩))), (16, (.slice a_p0 p0.length c_p0)), (17, (.int .i64 (p0.length : Int))), (18, (.int .i64 ((i41 + 1 : Nat) : Int)))]) (En.round ⟨(), (Option.some.inj hr1).symm, I79, rfl, (((hl40.trans hl58).trans hl64).trans hl80), hS92⟩) (Sub.cons rfl (Sub.cons rfl (Sub.cons rfl (Sub.cons rfl (Sub.cons rfl Sub.nil)))))
      case lastt38 =>
        rintro _ _ w99 ⟨I39, rfl, hl40, hS100⟩ he
        cases he
        refine W.seq ?_
        refine W.region (l := [0]) (by kernel_rfl) ?_
        refine WO.vals [(0, 19, (.bool (decide ((p0.length : Int) < (p0.length : Int)))))] (by kernel_rfl) (fun _ => by kernel_rfl) ?_
        refine WO.nil ?_
        refine En.next ?_
        refine W.seq ?_
        refine W.cond (b := (decide ((p0.length : Int) < (p0.length : Int)))) rfl rfl (fun hc => ?_) (fun hc => ?_)
        · exact absurd hc (by first | (simp; done) | (simp; omega))
        clear hc
        refine W.exit ?_
        refine En.nx_exit ?_
        refine En.rd_exit ?_
        refine En.in_hit ?_
        refine En.next ?_
        refine W.seq ?_
        refine W.seq ?_
        refine W.region (l := [0, 1, 2]) (by kernel_rfl) ?_
        refine WO.load rfl (by kernel_rfl) (by kernel_rfl) rfl (v := (.slice a_p0 p0.length c_p0)) (fun w' hw' => cell_one ((rd_f (hS100.rd (List.Mem.head _))) w' hw') (by kernel_rfl)) ?_
        refine WO.vals [(1, 40, (.func (.func 29) #[] #[(.pointer (some ⟨b1, 0, none⟩))]))] (by kernel_rfl) (fun _ => by kernel_rfl) ?_
        obtain ⟨r106, hx_r101, hr⟩ := bind_some hr
        refine WO.call rfl (by kernel_rfl) rfl (f := 28) (args := #[(.slice a_p0 p0.length c_p0), (.func (.func 29) #[] #[(.pointer (some ⟨b1, 0, none⟩))])]) (by kernel_rfl) (slices_ContainsFunc_api_Role_ok (RSl.mono h_p0 (((hl8.trans hl17).trans hl25).trans hl40)) (fun {F Ic wc} {_} {_} hlc hSc h_u0 {rc} hrc => member_Check_2_ok h_u0 (RSl.mono (RSl.mono h_p0 (((hl8.trans hl17).trans hl25).trans hl40)) hlc) (List.mem_append_right _ (List.Mem.head _)) hSc hrc) (fun _ _ => by kernel_rfl) hS100 hx_r101) ?_
        rintro _ w102 ⟨I103, rfl, hl104, hS105⟩
        refine ⟨_, rfl, trivial, ?_⟩
        refine WO.nil ?_
        refine En.next ?_
        refine W.cond (b := r106) rfl rfl (fun hc => ?_) (fun hc => ?_)
        · replace hr := cond_t hc hr
          refine W.seq ?_
          refine W.region (l := [0]) (by kernel_rfl) ?_
          refine WO.vals [(0, 2, (.int .i64 2))] (by kernel_rfl) (fun _ => by kernel_rfl) ?_
          refine WO.nil ?_
          refine En.next ?_
          refine W.ret ?_
          refine En.nx_ret ?_
          have hS107 := hS105.drop
          have hS108 := hS107.drop
          have he := Option.some.inj hr
          subst r
          exact En.ret1 rfl (.int .i64 2) rfl ⟨I103, rfl, ((((hl8.trans hl17).trans hl25).trans hl40).trans hl104), hS108⟩
        · replace hr := cond_f hc hr
          refine W.skip ?_
          refine En.next ?_
          refine W.seq ?_
          refine W.region (l := [0]) (by kernel_rfl) ?_
          refine WO.vals [(0, 2, (.int .i64 0))] (by kernel_rfl) (fun _ => by kernel_rfl) ?_
          refine WO.nil ?_
          refine En.next ?_
          refine W.ret ?_
          have hS109 := hS105.drop
          have hS110 := hS109.drop
          have he := Option.some.inj hr
          subst r
          exact En.ret1 rfl (.int .i64 0) rfl ⟨I103, rfl, ((((hl8.trans hl17).trans hl25).trans hl40).trans hl104), hS110⟩
def slices_Clone_api_Role (p0 : List api_Role) : Option (List api_Role) := (app 40 ([] : List api_Role) p0).bind (fun (x10 : List api_Role) => some x10)
set_option maxHeartbeats 1000000 in
theorem slices_Clone_api_Role_ok {E w : World} {I : Mem} {Os : List Mem} {p0 : List api_Role} {a_p0 : Option Addr} {c_p0 : Nat} (h_p0 : RSl 2 R_api_Role I a_p0 c_p0 p0) (hS : St E w I Os) {r : (List api_Role)} (hr : slices_Clone_api_Role p0 = some r) :
    Calls P 58 #[(.slice a_p0 p0.length c_p0)] w (fun e w' => ∃ (I' : Mem) (ra0 : Option Addr) (rc0 : Nat) (rC0 : Mem), e = .returned (.slice ra0 r.length rc0) ∧ I.Le I' ∧ St E w' I' (rC0 :: Os) ∧ OwnSl 28 2 R_api_Role I' rC0 ra0 rc0 r) := by
  refine calls_W (args := [(.slice a_p0 p0.length c_p0)]) (fn := Tryz.f58) rfl rfl rfl ?_
  unfold slices_Clone_api_Role at hr
  refine W.seq ?_
  refine W.region (l := [0]) (by kernel_rfl) ?_
  refine WO.vals [(0, 2, (.slice none 0 0))] (by kernel_rfl) (fun _ => by kernel_rfl) ?_
  refine WO.nil ?_
  refine En.next ?_
  refine W.seq ?_
  refine W.seq ?_
  refine W.region (l := [0, 1]) (by kernel_rfl) ?_
  refine WO.vals [(0, 3, (.slice a_p0 p0.length c_p0))] (by kernel_rfl) (fun _ => by kernel_rfl) ?_
  refine WO.eqNil (e := 28) rfl (by kernel_rfl) (by kernel_rfl) rfl rfl ?_
  refine WO.nil ?_
  refine En.next ?_
  refine W.cond (b := (a_p0.isNone)) rfl rfl (fun hc => ?_) (fun hc => ?_)
  · have ha0 := Option.isNone_iff_eq_none.1 hc
    subst ha0
    have hx0 := (h_p0).none_nil
    subst hx0
    replace hr : some ([] : List api_Role) = some r := by simpa [app] using hr
    refine W.seq ?_
    refine W.region (l := [0]) (by kernel_rfl) ?_
    refine WO.vals [(0, 2, (.slice none 0 0))] (by kernel_rfl) (fun _ => by kernel_rfl) ?_
    refine WO.nil ?_
    refine En.next ?_
    refine W.ret ?_
    refine En.nx_ret ?_
    have hS2 := hS.no
    have he := Option.some.inj hr
    subst r
    exact En.ret1 rfl (.slice none ([] : List api_Role).length 0) rfl ⟨I, none, 0, Mem.no, rfl, Mem.Le.refl _, hS2, OwnSl.nil⟩
  · clear hc
    refine W.skip ?_
    refine En.next ?_
    refine W.seq ?_
    refine W.region (l := [0, 1, 2, 3]) (by kernel_rfl) ?_
    refine WO.newSlice (rel := R_api_Role) (xs := ([] : List api_Role)) hS rfl (by kernel_rfl) rfl 28 2 [] (by kernel_rfl) rfl (Elr.nil) (fun _ _ _ => trivial) ?_
    intro a6 C4 w8 hS7 ho5
    refine WO.vals [(1, 6, (.slice a_p0 p0.length c_p0))] (by kernel_rfl) (fun _ => by kernel_rfl) ?_
    obtain ⟨x10, hx_x10, hr⟩ := bind_some hr
    obtain ⟨h0_x10, he_x10⟩ := app_some hx_x10
    refine WO.append (e' := 28) (b := 40) (zs := (cs_api_Role z_api_Role zw_api_Role).toArray) hS7 ho5 rfl (by kernel_rfl) rfl (by kernel_rfl) (by kernel_rfl) (by kernel_rfl) rfl rfl rfl rfl h_p0 hS7.im h0_x10 he_x10 (fun _ _ _ => trivial) ?_
    intro a11 c12 w13 C14 hS15 ho16
    refine WO.vals [(3, 2, (.slice a11 x10.length c12))] (by kernel_rfl) (fun _ => by kernel_rfl) ?_
    refine WO.nil ?_
    refine En.next ?_
    refine W.ret ?_
    have he := Option.some.inj hr
    subst r
    exact En.ret1 rfl (.slice a11 x10.length c12) rfl ⟨I, a11, c12, C14, rfl, Mem.Le.refl _, hS15, ho16⟩
/-- A role as words: where its list stands, its capacity and its length. -/
structure RawRole where
  Name : ByteArray
  a : Option Addr
  c : Nat
  n : Nat
def R_Raw (_ : Mem) (cs : List Value) (x : RawRole) : Prop := cs = [.string x.Name, .slice x.a x.n x.c]
instance : Mono R_Raw := ⟨fun _ h => h, fun h v hv => by rw [h] at hv; simp only [List.mem_cons, List.not_mem_nil, or_false] at hv; rcases hv with rfl | rfl <;> rfl⟩
/-- Roles whose lists are owned, each one by itself. -/
structure Nest (I : Mem) (rs : List RawRole) (Ds : List Mem) (xs : List api_Role) : Prop where
  l1 : rs.length = xs.length
  l2 : Ds.length = xs.length
  el : ∀ (k : Nat) (r : RawRole) (D : Mem) (x : api_Role), rs[k]? = some r → Ds[k]? = some D → xs[k]? = some x → r.Name = x.Name ∧ r.n = x.In.length ∧ OwnSl 9 1 RStr I D r.a r.c x.In
theorem Nest.mono {I J : Mem} {rs : List RawRole} {Ds : List Mem} {xs : List api_Role} (h : Nest I rs Ds xs) (hl : I.Le J) : Nest J rs Ds xs :=
  ⟨h.l1, h.l2, fun k r D x h1 h2 h3 => by obtain ⟨g1, g2, g3⟩ := h.el k r D x h1 h2 h3; exact ⟨g1, g2, g3.mono hl⟩⟩
theorem Nest.get {I : Mem} {rs : List RawRole} {Ds : List Mem} {xs : List api_Role} (h : Nest I rs Ds xs) {k : Nat} {x : api_Role} (hx : xs[k]? = some x) : ∃ r D, rs[k]? = some r ∧ Ds[k]? = some D ∧ r.Name = x.Name ∧ r.n = x.In.length ∧ OwnSl 9 1 RStr I D r.a r.c x.In := by
  have hk := (List.getElem?_eq_some_iff.1 hx).1
  have h1 : rs[k]? = some (rs[k]'(by rw [h.l1]; exact hk)) := List.getElem?_eq_getElem _
  have h2 : Ds[k]? = some (Ds[k]'(by rw [h.l2]; exact hk)) := List.getElem?_eq_getElem _
  exact ⟨_, _, h1, h2, h.el k _ _ x h1 h2 hx⟩
theorem Nest.set {I : Mem} {rs : List RawRole} {Ds : List Mem} {xs : List api_Role} (h : Nest I rs Ds xs) (k : Nat) {r : RawRole} {D : Mem} {x : api_Role} (h1 : r.Name = x.Name) (h2 : r.n = x.In.length) (h3 : OwnSl 9 1 RStr I D r.a r.c x.In) : Nest I (rs.set k r) (Ds.set k D) (xs.set k x) := by
  refine ⟨by simpa using h.l1, by simpa using h.l2, fun j r' D' x' g1 g2 g3 => ?_⟩
  rw [List.getElem?_set] at g1 g2 g3
  by_cases e : k = j
  · subst e
    rw [if_pos rfl] at g1 g2 g3
    split at g1
    · split at g2
      · split at g3
        · injection g1 with g1; injection g2 with g2; injection g3 with g3
          subst g1 g2 g3
          exact ⟨h1, h2, h3⟩
        · cases g3
      · cases g2
    · cases g1
  · rw [if_neg e] at g1 g2 g3
    exact h.el j r' D' x' g1 g2 g3
theorem Nest.del {I : Mem} {rs : List RawRole} {Ds : List Mem} {xs : List api_Role} (h : Nest I rs Ds xs) {p q : Nat} (hpq : p ≤ q) (hq : q ≤ xs.length) : Nest I (rs.take p ++ rs.drop q) (Ds.take p ++ Ds.drop q) (xs.take p ++ xs.drop q) := by
  have h1 := h.l1
  have h2 := h.l2
  refine ⟨by simp; omega, by simp; omega, fun j r D x g1 g2 g3 => ?_⟩
  by_cases hj : j < p
  · rw [List.getElem?_append_left (by simp; omega), List.getElem?_take, if_pos hj] at g1 g2 g3
    exact h.el j r D x g1 g2 g3
  · rw [List.getElem?_append_right (by simp; omega), List.getElem?_drop] at g1 g2 g3
    have e1 : (rs.take p).length = p := by simp; omega
    have e2 : (Ds.take p).length = p := by simp; omega
    have e3 : (xs.take p).length = p := by simp; omega
    rw [e1] at g1
    rw [e2] at g2
    rw [e3] at g3
    exact h.el _ r D x g1 g2 g3
theorem pick_perm {α : Type} : ∀ (Ds : List α) (k : Nat) (D : α), Ds[k]? = some D → Ds.Perm (D :: Ds.eraseIdx k)
  | [], k, D, h => by cases h
  | X :: Ds, 0, D, h => by
    simp only [List.getElem?_cons_zero, Option.some.injEq] at h
    subst h
    exact List.Perm.refl _
  | X :: Ds, k + 1, D, h => ((pick_perm Ds k D (by simpa using h)).cons X).trans (.swap ..)
theorem set_perm {α : Type} : ∀ (Ds : List α) (k : Nat) (D : α), k < Ds.length → (Ds.set k D).Perm (D :: Ds.eraseIdx k)
  | [], k, D, h => by simp at h
  | X :: Ds, 0, D, h => List.Perm.refl _
  | X :: Ds, k + 1, D, h => ((set_perm Ds k D (by simpa using h)).cons X).trans (.swap ..)
/-- One part is taken to the front, and put back as another one. -/
theorem st_pick {E w : World} {I C : Mem} {Ds Os : List Mem} (h : St E w I (C :: (Ds ++ Os))) {k : Nat} {D : Mem} (hk : Ds[k]? = some D) : St E w I (D :: C :: (Ds.eraseIdx k ++ Os)) := by
  refine h.perm ?_
  exact (((pick_perm Ds k D hk).append_right Os).cons C).trans (.swap ..)
theorem st_unpick {E w : World} {I C D : Mem} {Ds Os : List Mem} {k : Nat} (h : St E w I (D :: C :: (Ds.eraseIdx k ++ Os))) (hlt : k < Ds.length) : St E w I (C :: (Ds.set k D ++ Os)) := by
  refine h.perm ?_
  exact (List.Perm.swap ..).trans (((set_perm Ds k D hlt).symm.append_right Os).cons C)
theorem st_pubs {E w : World} {Os : List Mem} : ∀ {Ds : List Mem} {I : Mem}, St E w I (Ds ++ Os) → ∃ I', I.Le I' ∧ St E w I' Os ∧ ∀ D ∈ Ds, D.Le I'
  | [], I, h => ⟨I, Mem.Le.refl _, h, fun D hD => by cases hD⟩
  | D :: Ds, I, h => by
    obtain ⟨I', h1, h2, h3⟩ := st_pubs (Ds := Ds) (St.publish h)
    refine ⟨I', (Mem.le_with I D).trans h1, h2, fun X hX => ?_⟩
    rcases List.mem_cons.1 hX with rfl | hX
    · exact (St.with_right h).trans h1
    · exact h3 X hX
/-- All is handed on. -/
theorem Nest.pub {E w : World} {I C : Mem} {Ds Os : List Mem} {rs : List RawRole} {xs : List api_Role} {a : Option Addr} {c : Nat} (h : Nest I rs Ds xs) (ho : OwnSl 28 2 R_Raw I C a c rs) (hS : St E w I (C :: (Ds ++ Os))) : ∃ I', I.Le I' ∧ St E w I' Os ∧ RSl 2 R_api_Role I' a c xs := by
  obtain ⟨I', h1, h2, h3⟩ := st_pubs (Ds := C :: Ds) (Os := Os) hS
  have hm := (ho.sl.mono h1).moved (h3 C (by simp))
  refine ⟨I', h1, h2, by rw [← h.l1]; exact hm.le, hm.lt, fun i x hx => ?_⟩
  obtain ⟨r, D, e1, e2, g1, g2, g3⟩ := h.get hx
  obtain ⟨k1, cs, k2, k3, k4⟩ := hm.el i r e1
  refine ⟨k1, cs, k2, ⟨⟨⟨r.a, r.c⟩⟩, ?_, ⟨?_⟩⟩, k4⟩
  · rw [k3, g1, g2]; rfl
  · exact (g3.sl.mono h1).moved (h3 D (List.mem_cons_of_mem _ (List.mem_of_getElem? e2)))
theorem raw_of {I C : Mem} {a : Option Addr} {c : Nat} {l : List api_Role} (h : OwnSl 28 2 R_api_Role I C a c l) : ∃ rs : List RawRole, OwnSl 28 2 R_Raw I C a c rs ∧ rs.length = l.length ∧ ∀ (k : Nat) (r : RawRole) (x : api_Role), rs[k]? = some r → l[k]? = some x → r.Name = x.Name ∧ r.n = x.In.length ∧ RSl 1 RStr I r.a r.c x.In := by
  have key : ∀ i : Fin l.length, ∃ r : RawRole, (a = some ⟨bl a, of a, none⟩ ∧ ∃ cs, cs.length = 2 ∧ R_Raw I cs r ∧ CellsAt C (bl a) (of a + i.1 * 2) cs) ∧ r.Name = l[i].Name ∧ r.n = l[i].In.length ∧ RSl 1 RStr I r.a r.c l[i].In := by
    intro i
    obtain ⟨h1, cs, h2, h3, h4⟩ := h.sl.el i.1 l[i] (List.getElem?_eq_getElem i.2)
    obtain ⟨v, rfl, hv⟩ := h3
    exact ⟨⟨l[i].Name, v.In.a, v.In.c, l[i].In.length⟩, ⟨h1, _, h2, rfl, h4⟩, rfl, rfl, hv.In⟩
  obtain ⟨f, hf⟩ := Classical.axiomOfChoice key
  refine ⟨List.ofFn f, ⟨⟨by rw [List.length_ofFn]; exact h.sl.le, h.sl.lt, fun i r hr => ?_⟩, h.own⟩, List.length_ofFn, fun k r x hr hx => ?_⟩
  · rw [List.getElem?_ofFn] at hr
    split at hr
    · injection hr with hr
      subst hr
      exact (hf _).1
    · cases hr
  · rw [List.getElem?_ofFn] at hr
    split at hr
    · rename_i hk
      injection hr with hr
      subst hr
      rw [List.getElem?_eq_getElem hk] at hx
      injection hx with hx
      subst hx
      exact (hf ⟨k, hk⟩).2
    · cases hr
theorem forE_unit : ∀ n i, forE (fun _ (_ : Unit) => some ()) n i () = some ()
  | 0, _ => rfl
  | n + 1, i => by simp only [forE, Option.bind_some]; exact forE_unit n (i + 1)
def fits (l : List api_Role) : Prop := l.length * 40 ≤ 140737488355328 ∧ ∀ x ∈ l, x.In.length * 16 ≤ 140737488355328
set_option maxHeartbeats 1000000 in
theorem clone2_ok {E w : World} {I : Mem} {Os : List Mem} {p0 : List api_Role} {a_p0 : Option Addr} {c_p0 : Nat} (h_p0 : RSl 2 R_api_Role I a_p0 c_p0 p0) (hS : St E w I Os) (hf : fits p0) :
    Calls P 35 #[(.slice a_p0 p0.length c_p0)] w (fun e w' => ∃ (I' : Mem) (a : Option Addr) (c : Nat) (C : Mem) (rs : List RawRole) (Ds : List Mem), e = .returned (.slice a p0.length c) ∧ I.Le I' ∧ St E w' I' (C :: (Ds ++ Os)) ∧ OwnSl 28 2 R_Raw I' C a c rs ∧ Nest I' rs Ds p0) := by
  refine calls_W (args := [(.slice a_p0 p0.length c_p0)]) (fn := Tryz.f35) rfl rfl rfl ?_
  refine W.seq ?_
  refine W.region (l := [0]) (by kernel_rfl) ?_
  refine WO.vals [(0, 2, (.slice none 0 0))] (by kernel_rfl) (fun _ => by kernel_rfl) ?_
  refine WO.nil ?_
  refine En.next ?_
  refine W.seq ?_
  refine W.region (l := [0, 1, 2]) (by kernel_rfl) ?_
  refine WO.vals [(0, 5, (.slice a_p0 p0.length c_p0))] (by kernel_rfl) (fun _ => by kernel_rfl) ?_
  have hcl : slices_Clone_api_Role p0 = some p0 := by
    unfold slices_Clone_api_Role
    rw [app_le (by simpa using hf.1)]
    rfl
  refine WO.call rfl (by kernel_rfl) rfl (f := 58) (args := #[(.slice a_p0 p0.length c_p0)]) (by kernel_rfl) (slices_Clone_api_Role_ok h_p0 hS hcl) ?_
  rintro _ w2 ⟨I3, a, c, C, rfl, hl4, hS5, h_r6⟩
  refine ⟨_, rfl, trivial, ?_⟩
  refine WO.vals [(2, 3, (.slice a p0.length c))] (by kernel_rfl) (fun _ => by kernel_rfl) ?_
  refine WO.nil ?_
  refine En.next ?_
  refine W.seq ?_
  refine W.seq ?_
  refine W.region (l := [0, 1, 2]) (by kernel_rfl) ?_
  refine WO.vals [(0, 7, (.slice a p0.length c)), (1, 8, (.int .i64 (p0.length : Int))), (2, 9, (.int .i64 0))] (by kernel_rfl) (fun _ => by kernel_rfl) ?_
  refine WO.nil ?_
  refine En.next ?_
  refine W.block ?_
  have hlt16 := (h_r6.sl).len_lt
  obtain ⟨rs, hrs1, hrs2, hrs3⟩ := raw_of h_r6
  refine W.weaken (fr' := [(3, (.slice a p0.length c)), (8, (.int .i64 (p0.length : Int))), (9, (.int .i64 ((0 : Nat) : Int)))]) (W.forE (m := p0.length) (forE_unit p0.length 0) (fun (i : Nat) => fun (_ : Unit) fr w => ∃ (J C' : Mem) (rs : List RawRole) (Ds : List Mem), fr = [(3, (.slice a p0.length c)), (8, (.int .i64 (p0.length : Int))), (9, (.int .i64 (i : Int)))] ∧ I3.Le J ∧ St E w J (C' :: (Ds ++ Os)) ∧ OwnSl 28 2 R_Raw J C' a c rs ∧ rs.length = p0.length ∧ Ds.length = i ∧ ∀ (k : Nat) (r : RawRole) (x : api_Role), rs[k]? = some r → p0[k]? = some x → r.Name = x.Name ∧ r.n = x.In.length ∧ (i ≤ k → RSl 1 RStr J r.a r.c x.In) ∧ ∀ D, Ds[k]? = some D → OwnSl 9 1 RStr J D r.a r.c x.In) ⟨I3, C, rs, [], rfl, Mem.Le.refl _, hS5, hrs1, hrs2, rfl, fun k r x h1 h2 => ⟨(hrs3 k r x h1 h2).1, (hrs3 k r x h1 h2).2.1, fun _ => (hrs3 k r x h1 h2).2.2, fun D hD => by cases hD⟩⟩ ?roundt7 ?lastt7) (Sub.cons rfl (Sub.cons rfl (Sub.cons rfl Sub.nil)))
  case roundt7 =>
    rintro i _ _ w13 hi ⟨J, C', rs, Ds, rfl, hl9, hS14, ho, hn1, hn2, hel⟩ x15 hr1
    refine W.seq ?_
    refine W.region (l := [0]) (by kernel_rfl) ?_
    refine WO.vals [(0, 10, (.bool (decide ((i : Int) < (p0.length : Int)))))] (by kernel_rfl) (fun _ => by kernel_rfl) ?_
    refine WO.nil ?_
    refine En.next ?_
    refine W.seq ?_
    refine W.cond (b := (decide ((i : Int) < (p0.length : Int)))) rfl rfl (fun hc => ?_) (fun hc => ?_)
    rotate_left
    · exact absurd hc (by first | (simp; done) | (simp; omega))
    clear hc
    refine W.skip ?_
    refine En.next ?_
    refine W.seq ?_
    refine W.block ?_
    refine W.seq ?_
    refine W.region (l := [0, 1]) (by kernel_rfl) ?_
    refine WO.vals [(0, 11, (.int .i64 (i : Int))), (1, 4, (.int .i64 (i : Int)))] (by kernel_rfl) (fun _ => by kernel_rfl) ?_
    refine WO.nil ?_
    refine En.next ?_
    refine W.region (l := [0, 1, 2, 3, 4, 5, 6, 7, 8, 9, 10]) (by kernel_rfl) ?_
    refine WO.vals [(0, 12, (.slice a p0.length c)), (1, 13, (.int .i64 (i : Int))), (2, 14, (.slice a p0.length c)), (3, 15, (.int .i64 (i : Int)))] (by kernel_rfl) (fun _ => by kernel_rfl) ?_
    have hx : p0[i]? = some p0[i] := List.getElem?_eq_getElem hi
    have hr0 : rs[i]? = some (rs[i]'(by omega)) := List.getElem?_eq_getElem _
    generalize rs[i]'(by omega) = r0 at hr0
    obtain ⟨g1, g2, g3, _⟩ := hel i r0 _ hr0 hx
    obtain ⟨ha, cs, hn, hrr, hcc⟩ := ho.sl.el _ _ hr0
    obtain rfl := hrr
    refine WO.indexAddr (e := 28) (sz := 2) rfl (by kernel_rfl) (by kernel_rfl) (by kernel_rfl) rfl ha rfl (by omega) (by omega) ?_
    refine WO.vals [(5, 17, (.pointer (some ⟨bl a, of a + ((i : Int)).toNat * 2 + 1, none⟩)))] (by kernel_rfl) (fun _ => by kernel_rfl) ?_
    refine WO.load rfl (by kernel_rfl) (by kernel_rfl) rfl (v := (.slice r0.a r0.n r0.c)) (fun w' hw' => hcc.cellk 1 (by kernel_rfl) ((rd_f (hS14.rd (List.Mem.head _))) w' hw')) ?_
    rw [g2]
    have hcs : slices_Clone_string p0[i].In = some p0[i].In := by
      unfold slices_Clone_string
      rw [app_le (by simpa using hf.2 _ (List.getElem_mem hi))]
      rfl
    refine WO.call rfl (by kernel_rfl) rfl (f := 59) (args := #[(.slice r0.a p0[i].In.length r0.c)]) (by kernel_rfl) (slices_Clone_string_ok (g3 (Nat.le_refl _)) hS14 hcs) ?_
    rintro _ w20 ⟨J2, a2, c2, D, rfl, hl22, hS23, h_r24⟩
    refine ⟨_, rfl, trivial, ?_⟩
    refine WO.indexAddr (e := 28) (sz := 2) rfl (by kernel_rfl) (by kernel_rfl) (by kernel_rfl) rfl ha rfl (by omega) (by omega) ?_
    refine WO.vals [(9, 21, (.pointer (some ⟨bl a, of a + ((i : Int)).toNat * 2 + 1, none⟩)))] (by kernel_rfl) (fun _ => by kernel_rfl) ?_
    have hS24 : St E w20 J2 (C' :: ((Ds ++ [D]) ++ Os)) := hS23.perm ((List.Perm.swap ..).trans (List.Perm.cons _ (by rw [List.append_assoc]; exact List.perm_middle.symm)))
    refine WO.storeOwn (m := i) hS24 (OwnSl.mono ho hl22) rfl (by kernel_rfl) rfl hr0 (u' := { r0 with a := a2, c := c2 }) 1 rfl rfl (by kernel_rfl) rfl rfl (fun cs hrel => (by obtain rfl := hrel; show _ = _; rw [← g2]; rfl)) (fun _ _ _ => trivial) ?_
    intro w31 C32 hS30 ho33
    refine WO.nil ?_
    refine En.in_normal ?_
    refine En.next ?_
    refine W.region (l := [0, 1]) (by kernel_rfl) ?_
    refine WO.incr (j := i) rfl (by kernel_rfl) rfl (by first | omega | (dsimp only at *; omega)) ?_
    refine WO.vals [(1, 9, (.int .i64 ((i + 1 : Nat) : Int)))] (by kernel_rfl) (fun _ => by kernel_rfl) ?_
    refine WO.nil ?_
    refine En.weaken (fr' := [(3, (.slice a p0.length c)), (8, (.int .i64 (p0.length : Int))), (9, (.int .i64 ((i + 1 : Nat) : Int)))]) (En.round ⟨J2, C32, rs.set i { r0 with a := a2, c := c2 }, Ds ++ [D], rfl, hl9.trans hl22, hS30, ho33, by rw [List.length_set]; exact hn1, by rw [List.length_append, hn2]; rfl, fun k r x h1 h2 => ?_⟩) (Sub.cons rfl (Sub.cons rfl (Sub.cons rfl Sub.nil)))
    rw [List.getElem?_set] at h1
    by_cases e : i = k
    · subst e
      rw [if_pos rfl, if_pos (by omega)] at h1
      injection h1 with h1
      subst h1
      rw [hx] at h2
      injection h2 with h2
      subst h2
      refine ⟨g1, g2, fun h => by omega, fun D' hD' => ?_⟩
      rw [List.getElem?_append_right (by omega), hn2, Nat.sub_self] at hD'
      injection hD' with hD'
      subst hD'
      exact h_r24
    · rw [if_neg e] at h1
      obtain ⟨k1, k2, k3, k4⟩ := hel k r x h1 h2
      refine ⟨k1, k2, fun h => (k3 (by omega)).mono hl22, fun D' hD' => ?_⟩
      have hlt := (List.getElem?_eq_some_iff.1 hD').1
      rw [List.length_append, hn2] at hlt
      simp only [List.length_cons, List.length_nil] at hlt
      rw [List.getElem?_append_left (by omega)] at hD'
      exact (k4 D' hD').mono hl22
  case lastt7 =>
    rintro _ w35 ⟨J, C', rs, Ds, rfl, hl9, hS36, ho, hn1, hn2, hel⟩
    refine W.seq ?_
    refine W.region (l := [0]) (by kernel_rfl) ?_
    refine WO.vals [(0, 10, (.bool (decide ((p0.length : Int) < (p0.length : Int)))))] (by kernel_rfl) (fun _ => by kernel_rfl) ?_
    refine WO.nil ?_
    refine En.next ?_
    refine W.seq ?_
    refine W.cond (b := (decide ((p0.length : Int) < (p0.length : Int)))) rfl rfl (fun hc => ?_) (fun hc => ?_)
    · exact absurd hc (by first | (simp; done) | (simp; omega))
    clear hc
    refine W.exit ?_
    refine En.nx_exit ?_
    refine En.rd_exit ?_
    refine En.in_hit ?_
    refine En.next ?_
    refine W.seq ?_
    refine W.region (l := [0, 1]) (by kernel_rfl) ?_
    refine WO.vals [(0, 23, (.slice a p0.length c)), (1, 2, (.slice a p0.length c))] (by kernel_rfl) (fun _ => by kernel_rfl) ?_
    refine WO.nil ?_
    refine En.next ?_
    refine W.ret ?_
    exact En.ret1 rfl (.slice a p0.length c) rfl ⟨J, a, c, C', rs, Ds, rfl, hl4.trans hl9, hS36, ho, hn1, hn2, fun k r D x h1 h2 h3 => ⟨(hel k r x h1 h3).1, (hel k r x h1 h3).2.1, (hel k r x h1 h3).2.2.2 D h2⟩⟩
/-- The lists are handed on, the roles are kept. -/
theorem Nest.own {E w : World} {I C : Mem} {Ds Os : List Mem} {rs : List RawRole} {xs : List api_Role} {a : Option Addr} {c : Nat} (h : Nest I rs Ds xs) (ho : OwnSl 28 2 R_Raw I C a c rs) (hS : St E w I (C :: (Ds ++ Os))) : ∃ I', I.Le I' ∧ St E w I' (C :: Os) ∧ OwnSl 28 2 R_api_Role I' C a c xs := by
  obtain ⟨I', h1, h2, h3⟩ := st_pubs (Ds := Ds) (Os := C :: Os) (hS.perm List.perm_middle.symm)
  refine ⟨I', h1, h2, ⟨by rw [← h.l1]; exact ho.sl.le, ho.sl.lt, fun i x hx => ?_⟩, ho.own⟩
  obtain ⟨r, D, e1, e2, g1, g2, g3⟩ := h.get hx
  obtain ⟨k1, cs, k2, k3, k4⟩ := ho.sl.el i r e1
  refine ⟨k1, cs, k2, ⟨⟨⟨r.a, r.c⟩⟩, ?_, ⟨?_⟩⟩, k4⟩
  · rw [k3, g1, g2]; rfl
  · exact (g3.sl.mono h1).moved (h3 D (List.mem_of_getElem? e2))
/-- What was lent comes back, and what was made of it is kept. -/
theorem st_back1 {E w w' : World} {I I' C R : Mem} {Os : List Mem} (h0 : St E w I (C :: Os)) (hl : (I.with C).Le I') (h : St E w' I' (R :: Os)) : St E w' I (R :: C :: Os) := by
  have hb := St.back h0 hl h.drop
  have hR := h.ow R (by simp)
  have hp := List.pairwise_cons.1 h.dj
  have hno : ∀ b, R b = none ∨ (I.with C) b = none := fun b => by
    rcases hR.2 b with e | e
    · exact .inl e
    · right
      cases hx : (I.with C) b with
      | none => rfl
      | some o => rw [hl b o hx] at e; cases e
  refine ⟨hb.os, hb.tape, hb.output, hb.im, fun D hD => ?_, List.pairwise_cons.2 ⟨fun D hD => ?_, hb.dj⟩⟩
  · rcases List.mem_cons.1 hD with rfl | hD
    · refine ⟨hR.1, fun b => ?_⟩
      rcases hno b with e | e
      · exact .inl e
      · right
        cases hx : I b with
        | none => rfl
        | some o => rw [Mem.le_with I C b o hx] at e; cases e
    · exact hb.ow D hD
  · rcases List.mem_cons.1 hD with rfl | hD
    · intro b
      rcases hno b with e | e
      · exact .inl e
      · right
        cases hx : D b with
        | none => rfl
        | some o => rw [h0.with_right b o hx] at e; cases e
    · exact hp.1 D hD
theorem own_str {I J C : Mem} {a : Option Addr} {c : Nat} {xs : List ByteArray} (h : OwnSl 9 1 RStr I C a c xs) : OwnSl 9 1 RStr J C a c xs := ⟨⟨h.sl.le, h.sl.lt, h.sl.el⟩, h.own⟩

def cmp_isNaN_string (p0 : ByteArray) : Option Bool := some (!sEq p0 p0)
set_option maxHeartbeats 1000000 in
theorem cmp_isNaN_string_ok {E w : World} {I : Mem} {Os : List Mem} {p0 : ByteArray} (hS : St E w I Os) {r : Bool} (hr : cmp_isNaN_string p0 = some r) :
    Calls P 74 #[(.string p0)] w (fun e w' => ∃ (I' : Mem), e = .returned (.bool r) ∧ I.Le I' ∧ St E w' I' Os) := by
  refine calls_W (args := [(.string p0)]) (fn := Tryz.f74) rfl rfl rfl ?_
  unfold cmp_isNaN_string at hr
  refine W.seq ?_
  refine W.region (l := [0]) (by kernel_rfl) ?_
  refine WO.vals [(0, 2, (.bool false))] (by kernel_rfl) (fun _ => by kernel_rfl) ?_
  refine WO.nil ?_
  refine En.next ?_
  refine W.seq ?_
  refine W.region (l := [0, 1, 2, 3]) (by kernel_rfl) ?_
  refine WO.vals [(0, 3, (.string p0)), (1, 4, (.string p0)), (2, 5, (.bool (!sEq p0 p0))), (3, 2, (.bool (!sEq p0 p0)))] (by kernel_rfl) (fun _ => by kernel_rfl) ?_
  refine WO.nil ?_
  refine En.next ?_
  refine W.ret ?_
  have he := Option.some.inj hr
  subst r
  exact En.ret1 rfl (.bool (!sEq p0 p0)) rfl ⟨I, rfl, Mem.Le.refl _, hS⟩
def cmp_Less_string (p0 : ByteArray) (p1 : ByteArray) : Option Bool := (cmp_isNaN_string p0).bind (fun (r6 : Bool) => ((bif r6 then (cmp_isNaN_string p1).bind (fun (r16 : Bool) => some (!r16)) else some false)).bind (fun (j7 : Bool) => some (j7 || (sLt p0 p1))))
set_option maxHeartbeats 1000000 in
theorem cmp_Less_string_ok {E w : World} {I : Mem} {Os : List Mem} {p0 : ByteArray} {p1 : ByteArray} (hS : St E w I Os) {r : Bool} (hr : cmp_Less_string p0 p1 = some r) :
    Calls P 60 #[(.string p0), (.string p1)] w (fun e w' => ∃ (I' : Mem), e = .returned (.bool r) ∧ I.Le I' ∧ St E w' I' Os) := by
  refine calls_W (args := [(.string p0), (.string p1)]) (fn := Tryz.f60) rfl rfl rfl ?_
  unfold cmp_Less_string at hr
  refine W.seq ?_
  refine W.region (l := [0]) (by kernel_rfl) ?_
  refine WO.vals [(0, 4, (.bool false))] (by kernel_rfl) (fun _ => by kernel_rfl) ?_
  refine WO.nil ?_
  refine En.next ?_
  refine W.seq ?_
  refine W.region (l := [0, 1, 2, 3, 4, 5, 6, 7, 8, 9, 10, 11, 12]) (by kernel_rfl) ?_
  refine WO.vals [(0, 5, (.string p0))] (by kernel_rfl) (fun _ => by kernel_rfl) ?_
  obtain ⟨r6, hx_r1, hr⟩ := bind_some hr
  refine WO.call rfl (by kernel_rfl) rfl (f := 74) (args := #[(.string p0)]) (by kernel_rfl) (cmp_isNaN_string_ok  hS hx_r1) ?_
  rintro _ w2 ⟨I3, rfl, hl4, hS5⟩
  refine ⟨_, rfl, trivial, ?_⟩
  refine WO.vals [(2, 7, (.bool r6))] (by kernel_rfl) (fun _ => by kernel_rfl) ?_
  obtain ⟨j7, hr1, hr⟩ := bind_some hr
  refine WO.join (l1 := [3, 4, 5, 6]) (l2 := [7, 8, 9, 10, 11, 12]) (J := (fun fr w => ∃ (I9 : Mem), fr = [(0, (.string p0)), (1, (.string p1)), (11, (.bool j7))] ∧ I3.Le I9 ∧ St E w I9 Os)) ?restj7 ?waysj7
  case waysj7 =>
    refine WO.caseb r6 (fun hc => ?_) (fun hc => ?_)
    · replace hr1 := cond_t hc hr1
      refine WO.reslot 7 rfl (show Value.bool r6 = Value.bool true by rw [hc]) ?_
      refine WO.vals [(3, 8, (.string p1))] (by kernel_rfl) (fun _ => by kernel_rfl) ?_
      obtain ⟨r16, hx_r11, hr1⟩ := bind_some hr1
      refine WO.call rfl (by kernel_rfl) rfl (f := 74) (args := #[(.string p1)]) (by kernel_rfl) (cmp_isNaN_string_ok  hS5 hx_r11) ?_
      rintro _ w12 ⟨I13, rfl, hl14, hS15⟩
      refine ⟨_, rfl, trivial, ?_⟩
      refine WO.vals [(5, 10, (.bool (!r16))), (6, 11, (.bool (!r16)))] (by kernel_rfl) (fun _ => by kernel_rfl) ?_
      have he := Option.some.inj hr1
      subst j7
      refine WO.weaken (fr' := [(0, (.string p0)), (1, (.string p1)), (11, (.bool (!r16)))]) (WO.meet ⟨I13, rfl, hl14, hS15⟩) (Sub.cons rfl (Sub.cons rfl (Sub.cons rfl Sub.nil)))
    · replace hr1 := cond_f hc hr1
      refine WO.reslot 7 rfl (show Value.bool r6 = Value.bool false by rw [hc]) ?_
      refine WO.pass rfl (by kernel_rfl) rfl ?_
      refine WO.pass rfl (by kernel_rfl) rfl ?_
      refine WO.pass rfl (by kernel_rfl) rfl ?_
      refine WO.vals [(6, 11, (.bool false))] (by kernel_rfl) (fun _ => by kernel_rfl) ?_
      have he := Option.some.inj hr1
      subst j7
      refine WO.weaken (fr' := [(0, (.string p0)), (1, (.string p1)), (11, (.bool false))]) (WO.meet ⟨I3, rfl, Mem.Le.refl _, hS5⟩) (Sub.cons rfl (Sub.cons rfl (Sub.cons rfl Sub.nil)))
  case restj7 =>
    rintro _ w17 ⟨I9, rfl, hl10, hS18⟩
    refine WO.vals [(7, 12, (.bool j7))] (by kernel_rfl) (fun _ => by kernel_rfl) ?_
    refine WO.join (l1 := [8, 9, 10, 11]) (l2 := [12]) (J := fun frx wx => frx = [(16, (.bool (j7 || (sLt p0 p1))))] ∧ w17 = wx) ?restm19 ?waysm19
    case waysm19 =>
      refine WO.caseb j7 (fun hc => ?_) (fun hc => ?_)
      · skip
        refine WO.reslot 12 rfl (show Value.bool j7 = Value.bool true by rw [hc]) ?_
        refine WO.pass rfl (by kernel_rfl) rfl ?_
        refine WO.pass rfl (by kernel_rfl) rfl ?_
        refine WO.pass rfl (by kernel_rfl) rfl ?_
        refine WO.vals [(11, 16, (.bool true))] (by kernel_rfl) (fun _ => by kernel_rfl) ?_
        refine WO.weaken (fr' := [(16, (.bool (j7 || (sLt p0 p1))))]) (WO.meet ⟨rfl, rfl⟩) (Sub.cons (by rw [hc]; rfl) Sub.nil)
      · skip
        refine WO.reslot 12 rfl (show Value.bool j7 = Value.bool false by rw [hc]) ?_
        refine WO.vals [(8, 13, (.string p0)), (9, 14, (.string p1)), (10, 15, (.bool (sLt p0 p1))), (11, 16, (.bool (sLt p0 p1)))] (by kernel_rfl) (fun _ => by kernel_rfl) ?_
        refine WO.weaken (fr' := [(16, (.bool (j7 || (sLt p0 p1))))]) (WO.meet ⟨rfl, rfl⟩) (Sub.cons (by rw [hc]; rfl) Sub.nil)
    case restm19 =>
      rintro _ _ ⟨rfl, rfl⟩
      refine WO.vals [(12, 4, (.bool (j7 || (sLt p0 p1))))] (by kernel_rfl) (fun _ => by kernel_rfl) ?_
      refine WO.nil ?_
      refine En.next ?_
      refine W.ret ?_
      have he := Option.some.inj hr
      subst r
      exact En.ret1 rfl (.bool (j7 || (sLt p0 p1))) rfl ⟨I9, rfl, (hl4.trans hl10), hS18⟩
def slices_isNaN_string (p0 : ByteArray) : Option Bool := some (!sEq p0 p0)
set_option maxHeartbeats 1000000 in
theorem slices_isNaN_string_ok {E w : World} {I : Mem} {Os : List Mem} {p0 : ByteArray} (hS : St E w I Os) {r : Bool} (hr : slices_isNaN_string p0 = some r) :
    Calls P 61 #[(.string p0)] w (fun e w' => ∃ (I' : Mem), e = .returned (.bool r) ∧ I.Le I' ∧ St E w' I' Os) := by
  refine calls_W (args := [(.string p0)]) (fn := Tryz.f61) rfl rfl rfl ?_
  unfold slices_isNaN_string at hr
  refine W.seq ?_
  refine W.region (l := [0]) (by kernel_rfl) ?_
  refine WO.vals [(0, 2, (.bool false))] (by kernel_rfl) (fun _ => by kernel_rfl) ?_
  refine WO.nil ?_
  refine En.next ?_
  refine W.seq ?_
  refine W.region (l := [0, 1, 2, 3]) (by kernel_rfl) ?_
  refine WO.vals [(0, 3, (.string p0)), (1, 4, (.string p0)), (2, 5, (.bool (!sEq p0 p0))), (3, 2, (.bool (!sEq p0 p0)))] (by kernel_rfl) (fun _ => by kernel_rfl) ?_
  refine WO.nil ?_
  refine En.next ?_
  refine W.ret ?_
  have he := Option.some.inj hr
  subst r
  exact En.ret1 rfl (.bool (!sEq p0 p0)) rfl ⟨I, rfl, Mem.Le.refl _, hS⟩
noncomputable def slices_BinarySearch_string (p0 : List ByteArray) (p1 : ByteArray) : Option (Int × Bool) := (loopO (fun (s : Int × Int) => match s with | (s4, s5) => (bif (decide (s4 < s5)) then (idx p0 (w64 (Int.fdiv (IntKind.wrap .u64 (w64 (s4 + s5))) (2 ^ 1)))).bind (fun (x10 : ByteArray) => (cmp_Less_string x10 p1).bind (fun (r16 : Bool) => ((bif r16 then some ((w64 ((w64 (Int.fdiv (IntKind.wrap .u64 (w64 (s4 + s5))) (2 ^ 1))) + 1)), s5) else some (s4, (w64 (Int.fdiv (IntKind.wrap .u64 (w64 (s4 + s5))) (2 ^ 1)))))).bind (fun ((s21, s22) : Int × Int) => some (.inl (s21, s22))))) else some (.inr s4))) (0, (p0.length : Int))).bind (fun (s26 : Int) => ((bif (decide (s26 < (p0.length : Int))) then (idx p0 s26).bind (fun (x31 : ByteArray) => ((bif (sEq x31 p1) then some true else (idx p0 s26).bind (fun (x36 : ByteArray) => (slices_isNaN_string x36).bind (fun (r42 : Bool) => ((bif r42 then (slices_isNaN_string p1).bind (fun (r52 : Bool) => some r52) else some false)).bind (fun (j43 : Bool) => some j43))))).bind (fun (j32 : Bool) => some j32)) else some false)).bind (fun (j27 : Bool) => some (s26, j27)))
set_option maxHeartbeats 1000000 in
theorem slices_BinarySearch_string_ok {E w : World} {I : Mem} {Os : List Mem} {p0 : List ByteArray} {p1 : ByteArray} {a_p0 : Option Addr} {c_p0 : Nat} (h_p0 : RSl 1 RStr I a_p0 c_p0 p0) (hS : St E w I Os) {r : Int × Bool} (hr : slices_BinarySearch_string p0 p1 = some r) :
    Calls P 36 #[(.slice a_p0 p0.length c_p0), (.string p1)] w (fun e w' => ∃ (I' : Mem), e = .returned (.tuple #[(.int .i64 r.1), (.bool r.2)]) ∧ I.Le I' ∧ St E w' I' Os) := by
  refine calls_W (args := [(.slice a_p0 p0.length c_p0), (.string p1)]) (fn := Tryz.f36) rfl rfl rfl ?_
  unfold slices_BinarySearch_string at hr
  refine W.seq ?_
  refine W.region (l := [0, 1]) (by kernel_rfl) ?_
  refine WO.vals [(0, 4, (.int .i64 0)), (1, 5, (.bool false))] (by kernel_rfl) (fun _ => by kernel_rfl) ?_
  refine WO.nil ?_
  refine En.next ?_
  refine W.seq ?_
  refine W.region (l := [0, 1, 2]) (by kernel_rfl) ?_
  refine WO.vals [(0, 10, (.slice a_p0 p0.length c_p0)), (1, 11, (.int .i64 (p0.length : Int))), (2, 6, (.int .i64 (p0.length : Int)))] (by kernel_rfl) (fun _ => by kernel_rfl) ?_
  refine WO.nil ?_
  refine En.next ?_
  refine W.seq ?_
  refine W.region (l := [0, 1, 2]) (by kernel_rfl) ?_
  refine WO.vals [(0, 12, (.int .i64 (p0.length : Int))), (1, 7, (.int .i64 0)), (2, 8, (.int .i64 (p0.length : Int)))] (by kernel_rfl) (fun _ => by kernel_rfl) ?_
  refine WO.nil ?_
  refine En.next ?_
  refine W.seq ?_
  refine W.block ?_
  obtain ⟨t1, hloop6, hr⟩ := bind_some hr
  refine W.weaken (fr' := [(0, (.slice a_p0 p0.length c_p0)), (1, (.string p1)), (6, (.int .i64 (p0.length : Int))), (7, (.int .i64 0)), (8, (.int .i64 (p0.length : Int)))]) (W.loopO hloop6 (fun (s : Int × Int) fr w => match s with | (s4, s5) => ∃ (I2 : Mem), fr = [(0, (.slice a_p0 p0.length c_p0)), (1, (.string p1)), (6, (.int .i64 (p0.length : Int))), (7, (.int .i64 s4)), (8, (.int .i64 s5))] ∧ I.Le I2 ∧ St E w I2 Os) ⟨I, rfl, Mem.Le.refl _, hS⟩ ?_) (Sub.cons rfl (Sub.cons rfl (Sub.cons rfl (Sub.cons rfl (Sub.cons rfl Sub.nil)))))
  rintro ⟨s4, s5⟩ _ w7 ⟨I2, rfl, hl3, hS8⟩ x9 hr1 hext1
  refine W.seq ?_
  refine W.seq ?_
  refine W.region (l := [0, 1, 2]) (by kernel_rfl) ?_
  refine WO.vals [(0, 13, (.int .i64 s4)), (1, 14, (.int .i64 s5)), (2, 15, (.bool (decide (s4 < s5))))] (by kernel_rfl) (fun _ => by kernel_rfl) ?_
  refine WO.nil ?_
  refine En.next ?_
  refine W.cond (b := (decide (s4 < s5))) rfl rfl (fun hc => ?_) (fun hc => ?_)
  · replace hr1 := cond_t hc hr1
    refine W.skip ?_
    refine En.next ?_
    refine W.block ?_
    refine W.seq ?_
    refine W.region (l := [0, 1, 2, 3, 4, 5, 6]) (by kernel_rfl) ?_
    refine WO.vals [(0, 16, (.int .i64 s4)), (1, 17, (.int .i64 s5)), (2, 18, (.int .i64 (w64 (s4 + s5)))), (3, 19, (.int .u64 (IntKind.wrap .u64 (w64 (s4 + s5))))), (4, 20, (.int .u64 (Int.fdiv (IntKind.wrap .u64 (w64 (s4 + s5))) (2 ^ 1)))), (5, 21, (.int .i64 (w64 (Int.fdiv (IntKind.wrap .u64 (w64 (s4 + s5))) (2 ^ 1))))), (6, 9, (.int .i64 (w64 (Int.fdiv (IntKind.wrap .u64 (w64 (s4 + s5))) (2 ^ 1)))))] (by kernel_rfl) (fun _ => by kernel_rfl) ?_
    refine WO.nil ?_
    refine En.next ?_
    refine W.seq ?_
    refine W.region (l := [0, 1, 2, 3, 4, 5]) (by kernel_rfl) ?_
    refine WO.vals [(0, 22, (.slice a_p0 p0.length c_p0)), (1, 23, (.int .i64 (w64 (Int.fdiv (IntKind.wrap .u64 (w64 (s4 + s5))) (2 ^ 1)))))] (by kernel_rfl) (fun _ => by kernel_rfl) ?_
    obtain ⟨x10, hx_x10, hr1⟩ := bind_some hr1
    obtain ⟨h0_x10, h1_x10, hx_x10⟩ := idx_some hx_x10
    obtain ⟨ha_x10, cs_x10, hn_x10, hr_x10, hc_x10⟩ := ((RSl.mono h_p0 hl3)).el _ _ hx_x10
    obtain rfl := hr_x10
    refine WO.indexAddr (e := 9) (sz := 1) rfl (by kernel_rfl) (by kernel_rfl) (by kernel_rfl) rfl ha_x10 rfl h0_x10 h1_x10 ?_
    refine WO.load rfl (by kernel_rfl) (by kernel_rfl) rfl (v := (.string x10)) (fun w' hw' => hc_x10.cell0 (by kernel_rfl) ((rd_f hS8.im) w' hw')) ?_
    refine WO.vals [(4, 26, (.string p1))] (by kernel_rfl) (fun _ => by kernel_rfl) ?_
    obtain ⟨r16, hx_r11, hr1⟩ := bind_some hr1
    refine WO.call rfl (by kernel_rfl) rfl (f := 60) (args := #[(.string x10), (.string p1)]) (by kernel_rfl) (cmp_Less_string_ok  hS8 hx_r11) ?_
    rintro _ w12 ⟨I13, rfl, hl14, hS15⟩
    refine ⟨_, rfl, trivial, ?_⟩
    refine WO.nil ?_
    refine En.next ?_
    obtain ⟨j17, hr2, hr1⟩ := bind_some hr1
    refine W.join (J := (fun fr w => ∃ (s21 : Int), ∃ (s22 : Int), ∃ (I19 : Mem), (s21, s22) = j17 ∧ fr = [(0, (.slice a_p0 p0.length c_p0)), (1, (.string p1)), (6, (.int .i64 (p0.length : Int))), (7, (.int .i64 s21)), (8, (.int .i64 s22))] ∧ I13.Le I19 ∧ St E w I19 Os)) ?restj17 ?waysj17
    case waysj17 =>
      refine W.cond (b := r16) rfl rfl (fun hc => ?_) (fun hc => ?_)
      · replace hr2 := cond_t hc hr2
        refine W.region (l := [0, 1, 2]) (by kernel_rfl) ?_
        refine WO.vals [(0, 28, (.int .i64 (w64 (Int.fdiv (IntKind.wrap .u64 (w64 (s4 + s5))) (2 ^ 1))))), (1, 29, (.int .i64 (w64 ((w64 (Int.fdiv (IntKind.wrap .u64 (w64 (s4 + s5))) (2 ^ 1))) + 1)))), (2, 7, (.int .i64 (w64 ((w64 (Int.fdiv (IntKind.wrap .u64 (w64 (s4 + s5))) (2 ^ 1))) + 1))))] (by kernel_rfl) (fun _ => by kernel_rfl) ?_
        refine WO.nil ?_
        refine En.weaken (fr' := [(0, (.slice a_p0 p0.length c_p0)), (1, (.string p1)), (6, (.int .i64 (p0.length : Int))), (7, (.int .i64 (w64 ((w64 (Int.fdiv (IntKind.wrap .u64 (w64 (s4 + s5))) (2 ^ 1))) + 1)))), (8, (.int .i64 s5))]) (En.round ⟨(w64 ((w64 (Int.fdiv (IntKind.wrap .u64 (w64 (s4 + s5))) (2 ^ 1))) + 1)), s5, I13, Option.some.inj hr2, rfl, Mem.Le.refl _, hS15⟩) (Sub.cons rfl (Sub.cons rfl (Sub.cons rfl (Sub.cons rfl (Sub.cons rfl Sub.nil)))))
      · replace hr2 := cond_f hc hr2
        refine W.region (l := [0, 1]) (by kernel_rfl) ?_
        refine WO.vals [(0, 30, (.int .i64 (w64 (Int.fdiv (IntKind.wrap .u64 (w64 (s4 + s5))) (2 ^ 1))))), (1, 8, (.int .i64 (w64 (Int.fdiv (IntKind.wrap .u64 (w64 (s4 + s5))) (2 ^ 1)))))] (by kernel_rfl) (fun _ => by kernel_rfl) ?_
        refine WO.nil ?_
        refine En.weaken (fr' := [(0, (.slice a_p0 p0.length c_p0)), (1, (.string p1)), (6, (.int .i64 (p0.length : Int))), (7, (.int .i64 s4)), (8, (.int .i64 (w64 (Int.fdiv (IntKind.wrap .u64 (w64 (s4 + s5))) (2 ^ 1)))))]) (En.round ⟨s4, (w64 (Int.fdiv (IntKind.wrap .u64 (w64 (s4 + s5))) (2 ^ 1))), I13, Option.some.inj hr2, rfl, Mem.Le.refl _, hS15⟩) (Sub.cons rfl (Sub.cons rfl (Sub.cons rfl (Sub.cons rfl (Sub.cons rfl Sub.nil)))))
    case restj17 =>
      rintro _ w23 ⟨s21, s22, I19, rfl, rfl, hl20, hS24⟩
      refine En.in_normal ?_
      refine En.weaken (fr' := [(0, (.slice a_p0 p0.length c_p0)), (1, (.string p1)), (6, (.int .i64 (p0.length : Int))), (7, (.int .i64 s21)), (8, (.int .i64 s22))]) (En.round ⟨(s21, s22), (Option.some.inj hr1).symm, I19, rfl, ((hl3.trans hl14).trans hl20), hS24⟩) (Sub.cons rfl (Sub.cons rfl (Sub.cons rfl (Sub.cons rfl (Sub.cons rfl Sub.nil)))))
  · replace hr1 := cond_f hc hr1
    refine W.exit ?_
    refine En.nx_exit ?_
    refine En.rd_exit ?_
    have ht := hext1 _ (Option.some.inj hr1).symm
    subst t1
    refine En.in_hit ?_
    refine En.next ?_
    refine W.seq ?_
    refine W.region (l := [0, 1, 2, 3, 4, 5, 6, 7, 8, 9, 10, 11, 12, 13, 14, 15, 16, 17, 18, 19, 20, 21, 22, 23, 24]) (by kernel_rfl) ?_
    refine WO.vals [(0, 31, (.int .i64 s4)), (1, 32, (.int .i64 s4)), (2, 33, (.int .i64 (p0.length : Int))), (3, 34, (.bool (decide (s4 < (p0.length : Int))))), (4, 35, (.bool (decide (s4 < (p0.length : Int)))))] (by kernel_rfl) (fun _ => by kernel_rfl) ?_
    obtain ⟨j59, hr1, hr⟩ := bind_some hr
    refine WO.join (l1 := [5, 6, 7, 8, 9, 10, 11, 12, 13, 14, 15, 16, 17, 18, 19, 20, 21, 22]) (l2 := [23, 24]) (J := (fun fr w => ∃ (I61 : Mem), fr = [(31, (.int .i64 s4)), (53, (.bool j59))] ∧ I2.Le I61 ∧ St E w I61 Os)) ?restj59 ?waysj59
    case waysj59 =>
      refine WO.caseb (decide (s4 < (p0.length : Int))) (fun hc => ?_) (fun hc => ?_)
      · replace hr1 := cond_t hc hr1
        refine WO.reslot 35 rfl (show Value.bool (decide (s4 < (p0.length : Int))) = Value.bool true by rw [hc]) ?_
        refine WO.vals [(5, 36, (.slice a_p0 p0.length c_p0)), (6, 37, (.int .i64 s4))] (by kernel_rfl) (fun _ => by kernel_rfl) ?_
        obtain ⟨x63, hx_x63, hr1⟩ := bind_some hr1
        obtain ⟨h0_x63, h1_x63, hx_x63⟩ := idx_some hx_x63
        obtain ⟨ha_x63, cs_x63, hn_x63, hr_x63, hc_x63⟩ := ((RSl.mono h_p0 hl3)).el _ _ hx_x63
        obtain rfl := hr_x63
        refine WO.indexAddr (e := 9) (sz := 1) rfl (by kernel_rfl) (by kernel_rfl) (by kernel_rfl) rfl ha_x63 rfl h0_x63 h1_x63 ?_
        refine WO.load rfl (by kernel_rfl) (by kernel_rfl) rfl (v := (.string x63)) (fun w' hw' => hc_x63.cell0 (by kernel_rfl) ((rd_f hS8.im) w' hw')) ?_
        refine WO.vals [(9, 40, (.string p1)), (10, 41, (.bool (sEq x63 p1))), (11, 42, (.bool (sEq x63 p1)))] (by kernel_rfl) (fun _ => by kernel_rfl) ?_
        obtain ⟨j64, hr2, hr1⟩ := bind_some hr1
        refine WO.join (l1 := [12, 13, 14, 15, 16, 17, 18, 19, 20, 21]) (l2 := [22]) (J := (fun fr w => ∃ (I66 : Mem), fr = [(31, (.int .i64 s4)), (35, (.bool true)), (52, (.bool j64))] ∧ I2.Le I66 ∧ St E w I66 Os)) ?restj64 ?waysj64
        case waysj64 =>
          refine WO.caseb (sEq x63 p1) (fun hc => ?_) (fun hc => ?_)
          · replace hr2 := cond_t hc hr2
            refine WO.reslot 42 rfl (show Value.bool (sEq x63 p1) = Value.bool true by rw [hc]) ?_
            refine WO.pass rfl (by kernel_rfl) rfl ?_
            refine WO.pass rfl (by kernel_rfl) rfl ?_
            refine WO.pass rfl (by kernel_rfl) rfl ?_
            refine WO.pass rfl (by kernel_rfl) rfl ?_
            refine WO.pass rfl (by kernel_rfl) rfl ?_
            refine WO.pass rfl (by kernel_rfl) rfl ?_
            refine WO.pass rfl (by kernel_rfl) rfl ?_
            refine WO.pass rfl (by kernel_rfl) rfl ?_
            refine WO.pass rfl (by kernel_rfl) rfl ?_
            refine WO.vals [(21, 52, (.bool true))] (by kernel_rfl) (fun _ => by kernel_rfl) ?_
            have he := Option.some.inj hr2
            subst j64
            refine WO.weaken (fr' := [(31, (.int .i64 s4)), (35, (.bool true)), (52, (.bool true))]) (WO.meet ⟨I2, rfl, Mem.Le.refl _, hS8⟩) (Sub.cons rfl (Sub.cons rfl (Sub.cons rfl Sub.nil)))
          · replace hr2 := cond_f hc hr2
            refine WO.reslot 42 rfl (show Value.bool (sEq x63 p1) = Value.bool false by rw [hc]) ?_
            refine WO.vals [(12, 43, (.slice a_p0 p0.length c_p0)), (13, 44, (.int .i64 s4))] (by kernel_rfl) (fun _ => by kernel_rfl) ?_
            obtain ⟨x68, hx_x68, hr2⟩ := bind_some hr2
            obtain ⟨h0_x68, h1_x68, hx_x68⟩ := idx_some hx_x68
            obtain ⟨ha_x68, cs_x68, hn_x68, hr_x68, hc_x68⟩ := ((RSl.mono h_p0 hl3)).el _ _ hx_x68
            obtain rfl := hr_x68
            refine WO.indexAddr (e := 9) (sz := 1) rfl (by kernel_rfl) (by kernel_rfl) (by kernel_rfl) rfl ha_x68 rfl h0_x68 h1_x68 ?_
            refine WO.load rfl (by kernel_rfl) (by kernel_rfl) rfl (v := (.string x68)) (fun w' hw' => hc_x68.cell0 (by kernel_rfl) ((rd_f hS8.im) w' hw')) ?_
            obtain ⟨r74, hx_r69, hr2⟩ := bind_some hr2
            refine WO.call rfl (by kernel_rfl) rfl (f := 61) (args := #[(.string x68)]) (by kernel_rfl) (slices_isNaN_string_ok  hS8 hx_r69) ?_
            rintro _ w70 ⟨I71, rfl, hl72, hS73⟩
            refine ⟨_, rfl, trivial, ?_⟩
            refine WO.vals [(17, 48, (.bool r74))] (by kernel_rfl) (fun _ => by kernel_rfl) ?_
            obtain ⟨j75, hr3, hr2⟩ := bind_some hr2
            refine WO.join (l1 := [18, 19, 20]) (l2 := [21]) (J := (fun fr w => ∃ (I77 : Mem), fr = [(31, (.int .i64 s4)), (35, (.bool true)), (42, (.bool false)), (51, (.bool j75))] ∧ I71.Le I77 ∧ St E w I77 Os)) ?restj75 ?waysj75
            case waysj75 =>
              refine WO.caseb r74 (fun hc => ?_) (fun hc => ?_)
              · replace hr3 := cond_t hc hr3
                refine WO.reslot 48 rfl (show Value.bool r74 = Value.bool true by rw [hc]) ?_
                refine WO.vals [(18, 49, (.string p1))] (by kernel_rfl) (fun _ => by kernel_rfl) ?_
                obtain ⟨r84, hx_r79, hr3⟩ := bind_some hr3
                refine WO.call rfl (by kernel_rfl) rfl (f := 61) (args := #[(.string p1)]) (by kernel_rfl) (slices_isNaN_string_ok  hS73 hx_r79) ?_
                rintro _ w80 ⟨I81, rfl, hl82, hS83⟩
                refine ⟨_, rfl, trivial, ?_⟩
                refine WO.vals [(20, 51, (.bool r84))] (by kernel_rfl) (fun _ => by kernel_rfl) ?_
                have he := Option.some.inj hr3
                subst j75
                refine WO.weaken (fr' := [(31, (.int .i64 s4)), (35, (.bool true)), (42, (.bool false)), (51, (.bool r84))]) (WO.meet ⟨I81, rfl, hl82, hS83⟩) (Sub.cons rfl (Sub.cons rfl (Sub.cons rfl (Sub.cons rfl Sub.nil))))
              · replace hr3 := cond_f hc hr3
                refine WO.reslot 48 rfl (show Value.bool r74 = Value.bool false by rw [hc]) ?_
                refine WO.pass rfl (by kernel_rfl) rfl ?_
                refine WO.pass rfl (by kernel_rfl) rfl ?_
                refine WO.vals [(20, 51, (.bool false))] (by kernel_rfl) (fun _ => by kernel_rfl) ?_
                have he := Option.some.inj hr3
                subst j75
                refine WO.weaken (fr' := [(31, (.int .i64 s4)), (35, (.bool true)), (42, (.bool false)), (51, (.bool false))]) (WO.meet ⟨I71, rfl, Mem.Le.refl _, hS73⟩) (Sub.cons rfl (Sub.cons rfl (Sub.cons rfl (Sub.cons rfl Sub.nil))))
            case restj75 =>
              rintro _ w85 ⟨I77, rfl, hl78, hS86⟩
              refine WO.vals [(21, 52, (.bool j75))] (by kernel_rfl) (fun _ => by kernel_rfl) ?_
              have he := Option.some.inj hr2
              subst j64
              refine WO.weaken (fr' := [(31, (.int .i64 s4)), (35, (.bool true)), (52, (.bool j75))]) (WO.meet ⟨I77, rfl, (hl72.trans hl78), hS86⟩) (Sub.cons rfl (Sub.cons rfl (Sub.cons rfl Sub.nil)))
        case restj64 =>
          rintro _ w87 ⟨I66, rfl, hl67, hS88⟩
          refine WO.vals [(22, 53, (.bool j64))] (by kernel_rfl) (fun _ => by kernel_rfl) ?_
          have he := Option.some.inj hr1
          subst j59
          refine WO.weaken (fr' := [(31, (.int .i64 s4)), (53, (.bool j64))]) (WO.meet ⟨I66, rfl, hl67, hS88⟩) (Sub.cons rfl (Sub.cons rfl Sub.nil))
      · replace hr1 := cond_f hc hr1
        refine WO.reslot 35 rfl (show Value.bool (decide (s4 < (p0.length : Int))) = Value.bool false by rw [hc]) ?_
        refine WO.pass rfl (by kernel_rfl) rfl ?_
        refine WO.pass rfl (by kernel_rfl) rfl ?_
        refine WO.pass rfl (by kernel_rfl) rfl ?_
        refine WO.pass rfl (by kernel_rfl) rfl ?_
        refine WO.pass rfl (by kernel_rfl) rfl ?_
        refine WO.pass rfl (by kernel_rfl) rfl ?_
        refine WO.pass rfl (by kernel_rfl) rfl ?_
        refine WO.pass rfl (by kernel_rfl) rfl ?_
        refine WO.pass rfl (by kernel_rfl) rfl ?_
        refine WO.pass rfl (by kernel_rfl) rfl ?_
        refine WO.pass rfl (by kernel_rfl) rfl ?_
        refine WO.pass rfl (by kernel_rfl) rfl ?_
        refine WO.pass rfl (by kernel_rfl) rfl ?_
        refine WO.pass rfl (by kernel_rfl) rfl ?_
        refine WO.pass rfl (by kernel_rfl) rfl ?_
        refine WO.pass rfl (by kernel_rfl) rfl ?_
        refine WO.pass rfl (by kernel_rfl) rfl ?_
        refine WO.vals [(22, 53, (.bool false))] (by kernel_rfl) (fun _ => by kernel_rfl) ?_
        have he := Option.some.inj hr1
        subst j59
        refine WO.weaken (fr' := [(31, (.int .i64 s4)), (53, (.bool false))]) (WO.meet ⟨I2, rfl, Mem.Le.refl _, hS8⟩) (Sub.cons rfl (Sub.cons rfl Sub.nil))
    case restj59 =>
      rintro _ w89 ⟨I61, rfl, hl62, hS90⟩
      refine WO.vals [(23, 4, (.int .i64 s4)), (24, 5, (.bool j59))] (by kernel_rfl) (fun _ => by kernel_rfl) ?_
      refine WO.nil ?_
      refine En.next ?_
      refine W.ret ?_
      have he := Option.some.inj hr
      subst r
      exact En.ret2 rfl (.int .i64 s4) (.bool j59) rfl rfl ⟨I61, rfl, (hl3.trans hl62), hS90⟩
set_option maxHeartbeats 1000000 in
theorem ins37_ok {E w : World} {I C D : Mem} {Os : List Mem} {xs vs : List ByteArray} {a va : Option Addr} {cap vc : Nat} (h : OwnSl 9 1 RStr I C a cap xs) (hv : OwnSl 9 1 RStr I D va vc vs) (hS : St E w I (C :: D :: Os)) {i : Nat} (hi : i ≤ xs.length) (hm : vs ≠ []) (hfit : (xs.length + vs.length) * 16 ≤ 140737488355328) :
    Calls P 37 #[.slice a xs.length cap, .int .i64 (i : Int), .slice va vs.length vc] w (fun e w' => ∃ (a' : Option Addr) (c' : Nat) (C' : Mem), e = .returned (.slice a' (xs.take i ++ vs ++ xs.drop i).length c') ∧ St E w' I (C' :: D :: Os) ∧ OwnSl 9 1 RStr I C' a' c' (xs.take i ++ vs ++ xs.drop i)) := by
  have hxl := h.sl.le
  have hxc := h.sl.lt
  have hvl := List.length_pos_iff.2 hm
  have hlen : (xs.take i ++ vs ++ xs.drop i).length = xs.length + vs.length := by simp; omega
  refine calls_W (args := [.slice a xs.length cap, .int .i64 (i : Int), .slice va vs.length vc]) (fn := Tryz.f37) rfl rfl rfl ?_
  refine W.seq ?_
  refine W.region (l := [0]) (by kernel_rfl) ?_
  refine WO.vals [(0, 6, (.slice none 0 0))] (by kernel_rfl) (fun _ => by kernel_rfl) ?_
  refine WO.nil ?_
  refine En.next ?_
  refine W.seq ?_
  refine W.region (l := [0, 1, 2]) (by kernel_rfl) ?_
  refine WO.vals [(0, 10, (.slice a xs.length cap)), (1, 11, (.int .i64 (i : Int)))] (by kernel_rfl) (fun _ => by kernel_rfl) ?_
  refine WO.slice (e := 9) (sz := 1) rfl (by kernel_rfl) (by kernel_rfl) (by kernel_rfl) rfl (i : Int) (xs.length : Int) (by omega) (.inr ⟨_, _, rfl, rfl⟩) (.inl ⟨rfl, rfl⟩) (by omega) (by omega) ?_
  refine WO.nil ?_
  refine En.next ?_
  refine W.seq ?_
  refine W.region (l := [0, 1, 2]) (by kernel_rfl) ?_
  refine WO.vals [(0, 13, (.slice va vs.length vc)), (1, 14, (.int .i64 (vs.length : Int))), (2, 7, (.int .i64 (vs.length : Int)))] (by kernel_rfl) (fun _ => by kernel_rfl) ?_
  refine WO.nil ?_
  refine En.next ?_
  refine W.seq ?_
  refine W.seq ?_
  refine W.region (l := [0, 1]) (by kernel_rfl) ?_
  refine WO.vals [(0, 15, (.int .i64 (vs.length : Int))), (1, 16, (.bool ((vs.length : Int) == 0)))] (by kernel_rfl) (fun _ => by kernel_rfl) ?_
  refine WO.nil ?_
  refine En.next ?_
  refine W.cond (b := ((vs.length : Int) == 0)) rfl rfl (fun hc => ?_) (fun hc => ?_)
  · exfalso
    simp at hc
    exact hm hc
  clear hc
  refine W.skip ?_
  refine En.next ?_
  refine W.seq ?_
  refine W.region (l := [0, 1, 2]) (by kernel_rfl) ?_
  refine WO.vals [(0, 18, (.slice a xs.length cap)), (1, 19, (.int .i64 (xs.length : Int))), (2, 8, (.int .i64 (xs.length : Int)))] (by kernel_rfl) (fun _ => by kernel_rfl) ?_
  refine WO.nil ?_
  refine En.next ?_
  refine W.seq ?_
  refine W.seq ?_
  refine W.region (l := [0, 1, 2]) (by kernel_rfl) ?_
  refine WO.vals [(0, 20, (.int .i64 (i : Int))), (1, 21, (.int .i64 (xs.length : Int))), (2, 22, (.bool ((i : Int) == (xs.length : Int))))] (by kernel_rfl) (fun _ => by kernel_rfl) ?_
  refine WO.nil ?_
  refine En.next ?_
  refine W.cond (b := ((i : Int) == (xs.length : Int))) rfl rfl (fun hc => ?_) (fun hc => ?_)
  · have hin : i = xs.length := by simp at hc; omega
    refine W.seq ?_
    refine W.region (l := [0, 1, 2, 3]) (by kernel_rfl) ?_
    refine WO.vals [(0, 23, (.slice a xs.length cap)), (1, 24, (.slice va vs.length vc))] (by kernel_rfl) (fun _ => by kernel_rfl) ?_
    refine WO.append (e' := 9) (b := 16) (zs := #[(.string (⟨#[]⟩ : ByteArray))]) hS h rfl (by kernel_rfl) rfl (by kernel_rfl) (by kernel_rfl) (by kernel_rfl) rfl rfl rfl rfl hv.sl hS.drop.rd0 hfit rfl (fun _ _ _ => trivial) ?_
    intro a' c' w' C' hS' ho'
    refine WO.vals [(3, 6, (.slice a' (xs ++ vs).length c'))] (by kernel_rfl) (fun _ => by kernel_rfl) ?_
    refine WO.nil ?_
    refine En.next ?_
    refine W.ret ?_
    refine En.nx_ret ?_
    have e : xs.take i ++ vs ++ xs.drop i = xs ++ vs := by rw [hin, List.take_length, List.drop_length, List.append_nil]
    rw [e]
    exact En.ret1 rfl (.slice a' (xs ++ vs).length c') rfl ⟨a', c', C', rfl, hS', ho'⟩
  have hin : i < xs.length := by simp at hc; omega
  clear hc
  obtain ⟨b, off, c, rfl, rfl, hcs⟩ := h.block (h.ne (by rintro rfl; simp at hin))
  obtain ⟨b2, o2, c2, rfl, rfl, hcs2⟩ := hv.block (hv.ne hm)
  obtain ⟨csx, hcx, hrx⟩ := h.sl.cel
  obtain ⟨csv, hcv, hrv⟩ := hv.sl.cel
  have hxh : Hol c off csx := Hol.rd (T := 9) hrx hS.rd0
  have hcxl := hcx.len
  have hcvl := hcv.len
  have hbig : xs.length + vs.length < 9223372036854775808 := by omega
  have hw1 : w64 ((xs.length : Int) + (vs.length : Int)) = ((xs.length + vs.length : Nat) : Int) := by rw [w64_id (by omega) (by omega)]; omega
  have hw2 : w64 ((i : Int) + (vs.length : Int)) = ((i + vs.length : Nat) : Int) := by rw [w64_id (by omega) (by omega)]; omega
  refine W.skip ?_
  refine En.next ?_
  refine W.seq ?_
  refine W.seq ?_
  refine W.region (l := [0, 1, 2, 3, 4, 5]) (by kernel_rfl) ?_
  refine WO.vals [(0, 26, (.int .i64 (xs.length : Int))), (1, 27, (.int .i64 (vs.length : Int))), (2, 28, (.int .i64 (w64 ((xs.length : Int) + (vs.length : Int))))), (3, 29, (.slice (some ⟨b, off, none⟩) xs.length cap)), (4, 30, (.int .i64 (cap : Int))), (5, 31, (.bool (decide (w64 ((xs.length : Int) + (vs.length : Int)) > (cap : Int)))))] (by kernel_rfl) (fun _ => by kernel_rfl) ?_
  refine WO.nil ?_
  refine En.next ?_
  refine W.cond (b := decide (w64 ((xs.length : Int) + (vs.length : Int)) > (cap : Int))) rfl rfl (fun hc => ?_) (fun hc => ?_)
  · have hgr : cap < xs.length + vs.length := by rw [hw1] at hc; simp at hc; omega
    clear hc
    have hw3 : w64 ((xs.length + vs.length : Nat) - (i : Int)) = ((xs.length + vs.length - i : Nat) : Int) := by rw [w64_id (by omega) (by omega)]; omega
    have htl : (xs.take i).length = i := by rw [List.length_take]; omega
    refine W.seq ?_
    refine W.region (l := [0, 1, 2, 3, 4, 5, 6, 7, 8, 9]) (by kernel_rfl) ?_
    refine WO.vals [(0, 32, (.slice (some ⟨b, off, none⟩) xs.length cap)), (1, 33, (.int .i64 (i : Int)))] (by kernel_rfl) (fun _ => by kernel_rfl) ?_
    refine WO.sliceB (e := 9) (sz := 1) rfl (by kernel_rfl) (by kernel_rfl) (by kernel_rfl) rfl 0 i (.inl ⟨rfl, rfl⟩) (.inr ⟨_, _, rfl, rfl⟩) (by omega) (by omega) (by omega) ?_
    refine WO.vals [(3, 35, (.int .i64 (xs.length : Int))), (4, 36, (.int .i64 (vs.length : Int))), (5, 37, (.int .i64 (w64 ((xs.length : Int) + (vs.length : Int)))))] (by kernel_rfl) (fun _ => by kernel_rfl) ?_
    refine WO.reslot 37 rfl (congrArg (Value.int .i64) hw1) ?_
    refine WO.vals [(6, 38, (.int .i64 (i : Int))), (7, 39, (.int .i64 (w64 ((xs.length + vs.length : Nat) - (i : Int)))))] (by kernel_rfl) (fun _ => by kernel_rfl) ?_
    refine WO.reslot 39 rfl (congrArg (Value.int .i64) hw3) ?_
    refine WO.appendMake (T := 9) (b := 16) (zs := #[(.string (⟨#[]⟩ : ByteArray))]) (kn := .i64) hS hS.drew.rd0 (h.sl.take i) rfl (by kernel_rfl) rfl (by kernel_rfl) (by kernel_rfl) (by kernel_rfl) rfl rfl rfl (by rw [htl]; rfl) (k := xs.length + vs.length - i) rfl (by omega) (by rw [htl]; omega) (by rw [htl, show i + (xs.length + vs.length - i) = xs.length + vs.length by omega]; exact hfit) (fun _ _ _ => trivial) ?_
    intro w1 nb G d cs1 hS1 hc1 hh1 hG1 hG2 hG3
    have hc1l := hc1.len
    rw [htl] at hG1 hc1l
    refine WO.reslot 40 rfl (v := .slice (some ⟨nb, 0, none⟩) (xs.length + vs.length) G) (by rw [htl, show i + (xs.length + vs.length - i) = xs.length + vs.length by omega]) ?_
    refine WO.vals [(9, 9, (.slice (some ⟨nb, 0, none⟩) (xs.length + vs.length) G))] (by kernel_rfl) (fun _ => by kernel_rfl) ?_
    refine WO.nil ?_
    refine En.next ?_
    have hGn : (xs.length + vs.length) * 1 ≤ G * 1 := Nat.mul_le_mul_right _ (by omega)
    refine W.seq ?_
    refine W.region (l := [0, 1, 2, 3, 4]) (by kernel_rfl) ?_
    refine WO.vals [(0, 41, (.slice (some ⟨nb, 0, none⟩) (xs.length + vs.length) G)), (1, 42, (.int .i64 (i : Int)))] (by kernel_rfl) (fun _ => by kernel_rfl) ?_
    refine WO.sliceB (e := 9) (sz := 1) rfl (by kernel_rfl) (by kernel_rfl) (by kernel_rfl) rfl i (xs.length + vs.length) (.inr ⟨_, _, rfl, rfl⟩) (.inl ⟨rfl, rfl⟩) (by omega) (by omega) (by omega) ?_
    refine WO.vals [(3, 44, (.slice (some ⟨b2, o2, none⟩) vs.length vc))] (by kernel_rfl) (fun _ => by kernel_rfl) ?_
    refine WO.copyN (T := 9) (sz := 1) (e := 9) hS1 rfl (by kernel_rfl) rfl (by kernel_rfl) (by kernel_rfl) rfl rfl csv (by rw [hcvl]; congr 1; simp only [Nat.min_def]; split <;> omega) (fun x hx j v hj => by injection hx with hx; subst hx; rw [add_plain]; exact hrv w1 (hS1.rd (.tail _ (.tail _ (.head _)))) j v hj) (fun hx => by cases hx) hcv.one (by rw [hcvl]; omega) (fun _ _ => trivial) ?_
    intro w2 hS2
    refine WO.nil ?_
    refine En.next ?_
    refine W.seq ?_
    have hS3 := hS2.drew
    refine W.draw (l := [0, 1, 2, 3, 4, 5, 6, 7, 8]) (by kernel_rfl) 8 (KR I []) qR (.back (by kernel_rfl)) (by kernel_rfl) (KR.nil hS3.im) ?_
    generalize World.drew _ = w3 at *
    refine WO.vals [(0, 46, (.slice (some ⟨nb, 0, none⟩) (xs.length + vs.length) G)), (1, 47, (.int .i64 (i : Int))), (2, 48, (.int .i64 (vs.length : Int))), (3, 49, (.int .i64 (w64 ((i : Int) + (vs.length : Int)))))] (by kernel_rfl) (fun _ => by kernel_rfl) ?_
    refine WO.reslot 49 rfl (congrArg (Value.int .i64) hw2) ?_
    refine WO.sliceB (e := 9) (sz := 1) rfl (by kernel_rfl) (by kernel_rfl) (by kernel_rfl) rfl (i + vs.length) (xs.length + vs.length) (.inr ⟨_, _, rfl, rfl⟩) (.inl ⟨rfl, rfl⟩) (by omega) (by omega) (by omega) ?_
    refine WO.vals [(5, 51, (.slice (some ⟨b, off, none⟩) xs.length cap)), (6, 52, (.int .i64 (i : Int)))] (by kernel_rfl) (fun _ => by kernel_rfl) ?_
    refine WO.sliceB (e := 9) (sz := 1) rfl (by kernel_rfl) (by kernel_rfl) (by kernel_rfl) rfl i xs.length (.inr ⟨_, _, rfl, rfl⟩) (.inl ⟨rfl, rfl⟩) (by omega) (by omega) (by omega) ?_
    refine WO.tail rfl ?_
    have hdl : (csx.drop (i * 1)).length = (xs.length - i) * 1 := by rw [List.length_drop, hcxl, Nat.sub_mul]
    refine WO.copyN (T := 9) (sz := 1) (e := 9) hS3 rfl (by kernel_rfl) rfl (by kernel_rfl) (by kernel_rfl) rfl rfl (csx.drop (i * 1)) (by rw [hdl]; congr 1; simp only [Nat.min_def]; split <;> omega) (fun x hx j v hj => by
      injection hx with hx
      subst hx
      rw [List.getElem?_drop] at hj
      have := hrx w3 (hS3.rd (.tail _ (.head _))) _ v hj
      rw [add_plain, Nat.add_assoc]
      exact this) (fun hx => by cases hx) (fun v hv => hcx.one v (List.mem_of_mem_drop hv)) (by rw [hdl, wrt_size]; omega) (fun _ _ => trivial) ?_
    intro w4 hS4
    refine WO.nil ?_
    refine En.next ?_
    refine W.seq ?_
    refine W.region (l := [0, 1]) (by kernel_rfl) ?_
    refine WO.vals [(0, 55, (.slice (some ⟨nb, 0, none⟩) (xs.length + vs.length) G)), (1, 6, (.slice (some ⟨nb, 0, none⟩) (xs.length + vs.length) G))] (by kernel_rfl) (fun _ => by kernel_rfl) ?_
    refine WO.nil ?_
    refine En.next ?_
    refine W.ret ?_
    refine En.nx_ret ?_
    rw [hlen]
    refine En.ret1 rfl (.slice (some ⟨nb, 0, none⟩) (xs.length + vs.length) G) rfl ⟨_, G, _, rfl, hS4.front1.drop, ?_⟩
    refine Cel.own ((hc1.append hcv).append (hcx.drop i)) (Hol.append (Hol.append ((hh1.apart (.inl ?_)).apart (.inl ?_)) ((Hol.apart ?_ (.inl ?_)))) ?_) (by rw [hlen]; exact Nat.le_trans (by omega) hG1) hG2 (by rw [wrt_size, wrt_size]; omega)
    · rw [hc1l]; omega
    · rw [hc1l]; omega
    · rw [hc1l]; exact Hol.wrt _ (by rw [hcvl]; omega)
    · rw [hc1l, hcvl]; omega
    · have e : 0 + (cs1 ++ csv).length = 0 + (i + vs.length) * 1 := by rw [List.length_append, hc1l, hcvl, Nat.add_mul]
      rw [e]
      exact Hol.wrt _ (by rw [hdl, wrt_size]; omega)
  have hroom : xs.length + vs.length ≤ cap := by rw [hw1] at hc; simp at hc; omega
  clear hc
  have hcap : (xs.length + vs.length) * 1 ≤ cap * 1 := Nat.mul_le_mul_right _ hroom
  refine W.skip ?_
  refine En.next ?_
  refine W.seq ?_
  refine W.region (l := [0, 1, 2, 3, 4, 5]) (by kernel_rfl) ?_
  refine WO.vals [(0, 56, (.slice (some ⟨b, off, none⟩) xs.length cap)), (1, 57, (.int .i64 (xs.length : Int))), (2, 58, (.int .i64 (vs.length : Int))), (3, 59, (.int .i64 (w64 ((xs.length : Int) + (vs.length : Int)))))] (by kernel_rfl) (fun _ => by kernel_rfl) ?_
  refine WO.reslot 59 rfl (congrArg (Value.int .i64) hw1) ?_
  refine WO.sliceB (e := 9) (sz := 1) rfl (by kernel_rfl) (by kernel_rfl) (by kernel_rfl) rfl 0 (xs.length + vs.length) (.inl ⟨rfl, rfl⟩) (.inr ⟨_, _, rfl, rfl⟩) (by omega) (by omega) (by omega) ?_
  refine WO.reslot 60 rfl (v := .slice (some ⟨b, off, none⟩) (xs.length + vs.length) cap) (by rw [Nat.zero_mul, Nat.add_zero, Nat.sub_zero, Nat.sub_zero]) ?_
  refine WO.vals [(5, 0, (.slice (some ⟨b, off, none⟩) (xs.length + vs.length) cap))] (by kernel_rfl) (fun _ => by kernel_rfl) ?_
  refine WO.nil ?_
  refine En.next ?_
  refine W.seq ?_
  refine W.seq ?_
  refine W.region (l := [0, 1, 2, 3, 4, 5, 6, 7]) (by kernel_rfl) ?_
  refine WO.vals [(0, 61, (.slice (some ⟨b2, o2, none⟩) vs.length vc)), (1, 62, (.slice (some ⟨b, off, none⟩) (xs.length + vs.length) cap)), (2, 63, (.int .i64 (i : Int))), (3, 64, (.int .i64 (vs.length : Int))), (4, 65, (.int .i64 (w64 ((i : Int) + (vs.length : Int)))))] (by kernel_rfl) (fun _ => by kernel_rfl) ?_
  refine WO.reslot 65 rfl (congrArg (Value.int .i64) hw2) ?_
  refine WO.sliceB (e := 9) (sz := 1) rfl (by kernel_rfl) (by kernel_rfl) (by kernel_rfl) rfl (i + vs.length) (xs.length + vs.length) (.inr ⟨_, _, rfl, rfl⟩) (.inl ⟨rfl, rfl⟩) (by omega) (by omega) (by omega) ?_
  refine WO.extern (f := 62) (fn := Tryz.f62) (e := Extern.SlicesOverlaps.overlaps #[26, 26] #[4]) rfl (by kernel_rfl) rfl (by kernel_rfl) (by kernel_rfl) (by kernel_rfl) (by rfl) (args := #[.slice (some ⟨b2, o2, none⟩) vs.length vc, .slice (some ⟨b, off + (i + vs.length) * 1, none⟩) (xs.length + vs.length - (i + vs.length)) (cap - (i + vs.length))]) (by kernel_rfl) (.bool false) (fun w' hw' => ?_) ?_
  · rcases hw' with ⟨hw', _⟩ | rfl
    · cases hw'
    · exact run_over (sz := 1) (e := 9) (by kernel_rfl) (by kernel_rfl) hS (by omega) _ _ _ _
  refine WO.vals [(7, 68, (.bool true))] (by kernel_rfl) (fun _ => by kernel_rfl) ?_
  refine WO.nil ?_
  refine En.next ?_
  refine W.cond (b := true) rfl rfl (fun hc => ?_) (fun hc => ?_)
  rotate_left
  · cases hc
  clear hc
  refine W.seq ?_
  have hS1 := hS.drew
  refine W.draw (l := [0, 1, 2, 3, 4, 5, 6, 7, 8]) (by kernel_rfl) 8 (KR I []) qR (.back (by kernel_rfl)) (by kernel_rfl) (KR.nil hS1.im) ?_
  generalize World.drew _ = w1 at *
  refine WO.vals [(0, 69, (.slice (some ⟨b, off, none⟩) (xs.length + vs.length) cap)), (1, 70, (.int .i64 (i : Int))), (2, 71, (.int .i64 (vs.length : Int))), (3, 72, (.int .i64 (w64 ((i : Int) + (vs.length : Int)))))] (by kernel_rfl) (fun _ => by kernel_rfl) ?_
  refine WO.reslot 72 rfl (congrArg (Value.int .i64) hw2) ?_
  refine WO.sliceB (e := 9) (sz := 1) rfl (by kernel_rfl) (by kernel_rfl) (by kernel_rfl) rfl (i + vs.length) (xs.length + vs.length) (.inr ⟨_, _, rfl, rfl⟩) (.inl ⟨rfl, rfl⟩) (by omega) (by omega) (by omega) ?_
  refine WO.vals [(5, 74, (.slice (some ⟨b, off, none⟩) (xs.length + vs.length) cap)), (6, 75, (.int .i64 (i : Int)))] (by kernel_rfl) (fun _ => by kernel_rfl) ?_
  refine WO.sliceB (e := 9) (sz := 1) rfl (by kernel_rfl) (by kernel_rfl) (by kernel_rfl) rfl i (xs.length + vs.length) (.inr ⟨_, _, rfl, rfl⟩) (.inl ⟨rfl, rfl⟩) (by omega) (by omega) (by omega) ?_
  refine WO.tail rfl ?_
  have hdl : (csx.drop (i * 1)).length = (xs.length - i) * 1 := by rw [List.length_drop, hcxl, Nat.sub_mul]
  refine WO.copyN (T := 9) (sz := 1) (e := 9) hS1 rfl (by kernel_rfl) rfl (by kernel_rfl) (by kernel_rfl) rfl rfl (csx.drop (i * 1)) (by rw [hdl]; congr 1; simp only [Nat.min_def]; split <;> omega) (fun x hx j v hj => by
    injection hx with hx
    subst hx
    rw [List.getElem?_drop] at hj
    have := hrx w1 hS1.rd0 _ v hj
    rw [add_plain, Nat.add_assoc]
    exact this) (fun hx => by cases hx) (fun v hv => hcx.one v (List.mem_of_mem_drop hv)) (by rw [hdl]; omega) (fun _ _ => trivial) ?_
  intro w2 hS2
  refine WO.nil ?_
  refine En.next ?_
  refine W.seq ?_
  refine W.region (l := [0, 1, 2, 3, 4]) (by kernel_rfl) ?_
  refine WO.vals [(0, 78, (.slice (some ⟨b, off, none⟩) (xs.length + vs.length) cap)), (1, 79, (.int .i64 (i : Int)))] (by kernel_rfl) (fun _ => by kernel_rfl) ?_
  refine WO.sliceB (e := 9) (sz := 1) rfl (by kernel_rfl) (by kernel_rfl) (by kernel_rfl) rfl i (xs.length + vs.length) (.inr ⟨_, _, rfl, rfl⟩) (.inl ⟨rfl, rfl⟩) (by omega) (by omega) (by omega) ?_
  refine WO.vals [(3, 81, (.slice (some ⟨b2, o2, none⟩) vs.length vc))] (by kernel_rfl) (fun _ => by kernel_rfl) ?_
  refine WO.copyN (T := 9) (sz := 1) (e := 9) hS2 rfl (by kernel_rfl) rfl (by kernel_rfl) (by kernel_rfl) rfl rfl csv (by rw [hcvl]; congr 1; simp only [Nat.min_def]; split <;> omega) (fun x hx j v hj => by injection hx with hx; subst hx; rw [add_plain]; exact hrv w2 (hS2.rd (.tail _ (.head _))) j v hj) (fun hx => by cases hx) hcv.one (by rw [hcvl, wrt_size]; omega) (fun _ _ => trivial) ?_
  intro w3 hS3
  refine WO.nil ?_
  refine En.next ?_
  refine W.seq ?_
  refine W.region (l := [0, 1]) (by kernel_rfl) ?_
  refine WO.vals [(0, 83, (.slice (some ⟨b, off, none⟩) (xs.length + vs.length) cap)), (1, 6, (.slice (some ⟨b, off, none⟩) (xs.length + vs.length) cap))] (by kernel_rfl) (fun _ => by kernel_rfl) ?_
  refine WO.nil ?_
  refine En.next ?_
  refine W.ret ?_
  refine En.nx_ret ?_
  rw [hlen]
  refine En.ret1 rfl (.slice (some ⟨b, off, none⟩) (xs.length + vs.length) cap) rfl ⟨_, cap, _, rfl, hS3, ?_⟩
  have htl : (csx.take (i * 1)).length = i * 1 := by rw [List.length_take, hcxl]; omega
  refine Cel.own (((hcx.take i).append hcv).append (hcx.drop i)) (Hol.append (Hol.append (((hxh.take _).apart (.inl ?_)).apart (.inl ?_)) ?_) (Hol.apart ?_ (.inr ?_))) (by rw [hlen]; exact hroom) h.sl.lt (by rw [wrt_size, wrt_size]; exact hcs)
  · rw [htl]; omega
  · rw [htl]; omega
  · rw [htl]; exact Hol.wrt _ (by rw [hcvl, wrt_size]; omega)
  · have e : off + (csx.take (i * 1) ++ csv).length = off + (i + vs.length) * 1 := by rw [List.length_append, htl, hcvl, Nat.add_mul]
    rw [e]
    exact Hol.wrt _ (by rw [hdl]; omega)
  · rw [List.length_append, htl, hcvl]; omega

noncomputable def grantT (l : List api_Role) (i : Int) (n : ByteArray) : Option (List api_Role × Int) := open Classical in if fits l then (idx l i).bind fun x => (slices_BinarySearch_string x.In n).bind fun (k, _) => (insO 16 x.In k [n]).bind fun y => some (l.set i.toNat { x with In := y }, 0) else none
noncomputable def member_Grant (p0 : List api_Role) (p1 : ByteArray) (p2 : ByteArray) : Option ((List api_Role) × Int) := (member_Check p0).bind (fun (r6 : Int) => (bif (r6 != 0) then some (([] : List api_Role), r6) else (member_at p0 p2).bind (fun (r12 : Int) => ((bif (decide (r12 < 0)) then some true else (member_at p0 p1).bind (fun (r22 : Int) => some (decide (r22 < 0))))).bind (fun (j13 : Bool) => (bif j13 then some (([] : List api_Role), 4) else (idx p0 r12).bind (fun (x25 : api_Role) => (slices_Contains_string x25.In p1).bind (fun (r31 : Bool) => (bif r31 then some (([] : List api_Role), 19) else (member_Is p0 p1 p2).bind (fun (r37 : Bool) => (bif r37 then some (([] : List api_Role), 35) else (grantT p0 r12 p1)))))))))))
set_option maxHeartbeats 1000000 in
theorem member_Grant_ok {E w : World} {I : Mem} {Os : List Mem} {p0 : List api_Role} {p1 : ByteArray} {p2 : ByteArray} {a_p0 : Option Addr} {c_p0 : Nat} (h_p0 : RSl 2 R_api_Role I a_p0 c_p0 p0) (hS : St E w I Os) {r : (List api_Role) × Int} (hr : member_Grant p0 p1 p2 = some r) :
    Calls P 12 #[(.slice a_p0 p0.length c_p0), (.string p1), (.string p2)] w (fun e w' => ∃ (I' : Mem) (ra0 : Option Addr) (rc0 : Nat), e = .returned (.tuple #[(.slice ra0 r.1.length rc0), (.int .i64 r.2)]) ∧ I.Le I' ∧ St E w' I' Os ∧ RSl 2 R_api_Role I' ra0 rc0 r.1) := by
  refine calls_W (args := [(.slice a_p0 p0.length c_p0), (.string p1), (.string p2)]) (fn := Tryz.f12) rfl rfl rfl ?_
  unfold member_Grant at hr
  refine W.seq ?_
  refine W.region (l := [0, 1]) (by kernel_rfl) ?_
  refine WO.vals [(0, 6, (.slice none 0 0)), (1, 7, (.int .i64 0))] (by kernel_rfl) (fun _ => by kernel_rfl) ?_
  refine WO.nil ?_
  refine En.next ?_
  refine W.seq ?_
  refine W.seq ?_
  refine W.region (l := [0, 1, 2]) (by kernel_rfl) ?_
  refine WO.vals [(0, 13, (.slice a_p0 p0.length c_p0))] (by kernel_rfl) (fun _ => by kernel_rfl) ?_
  obtain ⟨r6, hx_r1, hr⟩ := bind_some hr
  refine WO.call rfl (by kernel_rfl) rfl (f := 10) (args := #[(.slice a_p0 p0.length c_p0)]) (by kernel_rfl) (member_Check_ok h_p0 hS hx_r1) ?_
  rintro _ w2 ⟨I3, rfl, hl4, hS5⟩
  refine ⟨_, rfl, trivial, ?_⟩
  refine WO.vals [(2, 8, (.int .i64 r6))] (by kernel_rfl) (fun _ => by kernel_rfl) ?_
  refine WO.nil ?_
  refine En.next ?_
  refine W.seq ?_
  refine W.region (l := [0, 1]) (by kernel_rfl) ?_
  refine WO.vals [(0, 15, (.int .i64 r6)), (1, 16, (.bool (r6 != 0)))] (by kernel_rfl) (fun _ => by kernel_rfl) ?_
  refine WO.nil ?_
  refine En.next ?_
  refine W.cond (b := (r6 != 0)) rfl rfl (fun hc => ?_) (fun hc => ?_)
  · replace hr := cond_t hc hr
    refine W.seq ?_
    refine W.region (l := [0, 1, 2]) (by kernel_rfl) ?_
    refine WO.vals [(0, 17, (.int .i64 r6)), (1, 6, (.slice none 0 0)), (2, 7, (.int .i64 r6))] (by kernel_rfl) (fun _ => by kernel_rfl) ?_
    refine WO.nil ?_
    refine En.next ?_
    refine W.ret ?_
    refine En.nx_ret ?_
    have he := Option.some.inj hr
    subst r
    exact En.ret2 rfl (.slice none 0 0) (.int .i64 r6) rfl rfl ⟨I3, none, 0, rfl, hl4, hS5, SlAt.nil⟩
  · replace hr := cond_f hc hr
    refine W.skip ?_
    refine En.next ?_
    refine W.seq ?_
    refine W.region (l := [0, 1, 2, 3]) (by kernel_rfl) ?_
    refine WO.vals [(0, 18, (.slice a_p0 p0.length c_p0)), (1, 19, (.string p2))] (by kernel_rfl) (fun _ => by kernel_rfl) ?_
    obtain ⟨r12, hx_r7, hr⟩ := bind_some hr
    refine WO.call rfl (by kernel_rfl) rfl (f := 34) (args := #[(.slice a_p0 p0.length c_p0), (.string p2)]) (by kernel_rfl) (member_at_ok (RSl.mono h_p0 hl4) hS5 hx_r7) ?_
    rintro _ w8 ⟨I9, rfl, hl10, hS11⟩
    refine ⟨_, rfl, trivial, ?_⟩
    refine WO.vals [(3, 9, (.int .i64 r12))] (by kernel_rfl) (fun _ => by kernel_rfl) ?_
    refine WO.nil ?_
    refine En.next ?_
    refine W.seq ?_
    refine W.block ?_
    refine W.seq ?_
    refine W.region (l := [0, 1, 2, 3, 4, 5, 6, 7, 8]) (by kernel_rfl) ?_
    refine WO.vals [(0, 22, (.int .i64 r12)), (1, 23, (.bool (decide (r12 < 0)))), (2, 24, (.bool (decide (r12 < 0))))] (by kernel_rfl) (fun _ => by kernel_rfl) ?_
    obtain ⟨j13, hr1, hr⟩ := bind_some hr
    refine WO.join (l1 := [3, 4, 5, 6, 7]) (l2 := [8]) (J := (fun fr w => ∃ (I15 : Mem), fr = [(0, (.slice a_p0 p0.length c_p0)), (1, (.string p1)), (2, (.string p2)), (9, (.int .i64 r12)), (29, (.bool j13))] ∧ I9.Le I15 ∧ St E w I15 Os)) ?restj13 ?waysj13
    case waysj13 =>
      refine WO.caseb (decide (r12 < 0)) (fun hc => ?_) (fun hc => ?_)
      · replace hr1 := cond_t hc hr1
        refine WO.reslot 24 rfl (show Value.bool (decide (r12 < 0)) = Value.bool true by rw [hc]) ?_
        refine WO.pass rfl (by kernel_rfl) rfl ?_
        refine WO.pass rfl (by kernel_rfl) rfl ?_
        refine WO.pass rfl (by kernel_rfl) rfl ?_
        refine WO.pass rfl (by kernel_rfl) rfl ?_
        refine WO.vals [(7, 29, (.bool true))] (by kernel_rfl) (fun _ => by kernel_rfl) ?_
        have he := Option.some.inj hr1
        subst j13
        refine WO.weaken (fr' := [(0, (.slice a_p0 p0.length c_p0)), (1, (.string p1)), (2, (.string p2)), (9, (.int .i64 r12)), (29, (.bool true))]) (WO.meet ⟨I9, rfl, Mem.Le.refl _, hS11⟩) (Sub.cons rfl (Sub.cons rfl (Sub.cons rfl (Sub.cons rfl (Sub.cons rfl Sub.nil)))))
      · replace hr1 := cond_f hc hr1
        refine WO.reslot 24 rfl (show Value.bool (decide (r12 < 0)) = Value.bool false by rw [hc]) ?_
        refine WO.vals [(3, 25, (.slice a_p0 p0.length c_p0)), (4, 26, (.string p1))] (by kernel_rfl) (fun _ => by kernel_rfl) ?_
        obtain ⟨r22, hx_r17, hr1⟩ := bind_some hr1
        refine WO.call rfl (by kernel_rfl) rfl (f := 34) (args := #[(.slice a_p0 p0.length c_p0), (.string p1)]) (by kernel_rfl) (member_at_ok (RSl.mono h_p0 (hl4.trans hl10)) hS11 hx_r17) ?_
        rintro _ w18 ⟨I19, rfl, hl20, hS21⟩
        refine ⟨_, rfl, trivial, ?_⟩
        refine WO.vals [(6, 28, (.bool (decide (r22 < 0)))), (7, 29, (.bool (decide (r22 < 0))))] (by kernel_rfl) (fun _ => by kernel_rfl) ?_
        have he := Option.some.inj hr1
        subst j13
        refine WO.weaken (fr' := [(0, (.slice a_p0 p0.length c_p0)), (1, (.string p1)), (2, (.string p2)), (9, (.int .i64 r12)), (29, (.bool (decide (r22 < 0))))]) (WO.meet ⟨I19, rfl, hl20, hS21⟩) (Sub.cons rfl (Sub.cons rfl (Sub.cons rfl (Sub.cons rfl (Sub.cons rfl Sub.nil)))))
    case restj13 =>
      rintro _ w23 ⟨I15, rfl, hl16, hS24⟩
      refine WO.vals [(8, 21, (.bool j13))] (by kernel_rfl) (fun _ => by kernel_rfl) ?_
      refine WO.nil ?_
      refine En.next ?_
      refine W.cond (b := j13) rfl rfl (fun hc => ?_) (fun hc => ?_)
      · replace hr := cond_t hc hr
        refine W.seq ?_
        refine W.region (l := [0, 1]) (by kernel_rfl) ?_
        refine WO.vals [(0, 6, (.slice none 0 0)), (1, 7, (.int .i64 4))] (by kernel_rfl) (fun _ => by kernel_rfl) ?_
        refine WO.nil ?_
        refine En.next ?_
        refine W.ret ?_
        refine En.in_ret ?_
        refine En.nx_ret ?_
        have he := Option.some.inj hr
        subst r
        exact En.ret2 rfl (.slice none 0 0) (.int .i64 4) rfl rfl ⟨I15, none, 0, rfl, ((hl4.trans hl10).trans hl16), hS24, SlAt.nil⟩
      · replace hr := cond_f hc hr
        refine W.seq ?_
        refine W.region (l := [0, 1, 2, 3, 4, 5, 6, 7]) (by kernel_rfl) ?_
        refine WO.vals [(0, 31, (.slice a_p0 p0.length c_p0)), (1, 32, (.int .i64 r12))] (by kernel_rfl) (fun _ => by kernel_rfl) ?_
        obtain ⟨x25, hx_x25, hr⟩ := bind_some hr
        obtain ⟨h0_x25, h1_x25, hx_x25⟩ := idx_some hx_x25
        obtain ⟨ha_x25, cs_x25, hn_x25, hr_x25, hc_x25⟩ := ((RSl.mono h_p0 ((hl4.trans hl10).trans hl16))).el _ _ hx_x25
        obtain ⟨w_x25, rfl, h_x25⟩ := hr_x25
        refine WO.indexAddr (e := 28) (sz := 2) rfl (by kernel_rfl) (by kernel_rfl) (by kernel_rfl) rfl ha_x25 rfl h0_x25 h1_x25 ?_
        refine WO.vals [(3, 34, (.pointer (some ⟨bl a_p0, of a_p0 + (r12).toNat * 2 + 1, none⟩)))] (by kernel_rfl) (fun _ => by kernel_rfl) ?_
        refine WO.load rfl (by kernel_rfl) (by kernel_rfl) rfl (v := (.slice w_x25.In.a x25.In.length w_x25.In.c)) (fun w' hw' => hc_x25.cellk 1 (by kernel_rfl) ((rd_f hS24.im) w' hw')) ?_
        refine WO.vals [(5, 36, (.string p1))] (by kernel_rfl) (fun _ => by kernel_rfl) ?_
        obtain ⟨r31, hx_r26, hr⟩ := bind_some hr
        refine WO.call rfl (by kernel_rfl) rfl (f := 27) (args := #[(.slice w_x25.In.a x25.In.length w_x25.In.c), (.string p1)]) (by kernel_rfl) (slices_Contains_string_ok h_x25.In hS24 hx_r26) ?_
        rintro _ w27 ⟨I28, rfl, hl29, hS30⟩
        refine ⟨_, rfl, trivial, ?_⟩
        refine WO.vals [(7, 30, (.bool r31))] (by kernel_rfl) (fun _ => by kernel_rfl) ?_
        refine WO.nil ?_
        refine En.next ?_
        refine W.cond (b := r31) rfl rfl (fun hc => ?_) (fun hc => ?_)
        · replace hr := cond_t hc hr
          refine W.seq ?_
          refine W.region (l := [0, 1]) (by kernel_rfl) ?_
          refine WO.vals [(0, 6, (.slice none 0 0)), (1, 7, (.int .i64 19))] (by kernel_rfl) (fun _ => by kernel_rfl) ?_
          refine WO.nil ?_
          refine En.next ?_
          refine W.ret ?_
          refine En.in_ret ?_
          refine En.nx_ret ?_
          have he := Option.some.inj hr
          subst r
          exact En.ret2 rfl (.slice none 0 0) (.int .i64 19) rfl rfl ⟨I28, none, 0, rfl, (((hl4.trans hl10).trans hl16).trans hl29), hS30, SlAt.nil⟩
        · replace hr := cond_f hc hr
          refine W.seq ?_
          refine W.region (l := [0, 1, 2, 3, 4]) (by kernel_rfl) ?_
          refine WO.vals [(0, 39, (.slice a_p0 p0.length c_p0)), (1, 40, (.string p1)), (2, 41, (.string p2))] (by kernel_rfl) (fun _ => by kernel_rfl) ?_
          obtain ⟨r37, hx_r32, hr⟩ := bind_some hr
          refine WO.call rfl (by kernel_rfl) rfl (f := 14) (args := #[(.slice a_p0 p0.length c_p0), (.string p1), (.string p2)]) (by kernel_rfl) (member_Is_ok (RSl.mono h_p0 (((hl4.trans hl10).trans hl16).trans hl29)) hS30 hx_r32) ?_
          rintro _ w33 ⟨I34, rfl, hl35, hS36⟩
          refine ⟨_, rfl, trivial, ?_⟩
          refine WO.vals [(4, 38, (.bool r37))] (by kernel_rfl) (fun _ => by kernel_rfl) ?_
          refine WO.nil ?_
          refine En.next ?_
          refine W.cond (b := r37) rfl rfl (fun hc => ?_) (fun hc => ?_)
          · replace hr := cond_t hc hr
            refine W.seq ?_
            refine W.region (l := [0, 1]) (by kernel_rfl) ?_
            refine WO.vals [(0, 6, (.slice none 0 0)), (1, 7, (.int .i64 35))] (by kernel_rfl) (fun _ => by kernel_rfl) ?_
            refine WO.nil ?_
            refine En.next ?_
            refine W.ret ?_
            refine En.in_ret ?_
            refine En.nx_ret ?_
            have he := Option.some.inj hr
            subst r
            exact En.ret2 rfl (.slice none 0 0) (.int .i64 35) rfl rfl ⟨I34, none, 0, rfl, ((((hl4.trans hl10).trans hl16).trans hl29).trans hl35), hS36, SlAt.nil⟩
          · replace hr := cond_f hc hr
            refine W.skip ?_
            refine En.in_normal ?_
            refine En.next ?_
            refine W.seq ?_
            refine W.region (l := [0, 1, 2]) (by kernel_rfl) ?_
            refine WO.vals [(0, 43, (.slice a_p0 p0.length c_p0))] (by kernel_rfl) (fun _ => by kernel_rfl) ?_
            have hr0 := hr
            unfold grantT at hr0
            split at hr0
            rotate_left
            · cases hr0
            rename_i hfit
            obtain ⟨x0, hx0, hr0⟩ := bind_some hr0
            obtain ⟨i0, i1, hx0⟩ := idx_some hx0
            obtain ⟨⟨k0, f0⟩, hk0, hr0⟩ := bind_some hr0
            obtain ⟨y0, hy0, hr0⟩ := bind_some hr0
            obtain ⟨kn, rfl, j1, j2, rfl⟩ := insO_some hy0
            have he := Option.some.inj hr0
            subst he
            refine WO.call rfl (by kernel_rfl) rfl (f := 35) (args := #[(.slice a_p0 p0.length c_p0)]) (by kernel_rfl) (clone2_ok (RSl.mono h_p0 ((((hl4.trans hl10).trans hl16).trans hl29).trans hl35)) hS36 hfit) ?_
            rintro _ qw1 ⟨QI1, a, c, C, rs, Ds, rfl, ql1, qS1, ho1, hn1⟩
            refine ⟨_, rfl, trivial, ?_⟩
            refine WO.vals [(2, 10, (.slice a p0.length c))] (by kernel_rfl) (fun _ => by kernel_rfl) ?_
            refine WO.nil ?_
            refine En.next ?_
            refine W.seq ?_
            obtain ⟨r1, D1, e1, e2, g1, g2, g3⟩ := hn1.get hx0
            have hlt := (List.getElem?_eq_some_iff.1 e2).1
            refine W.region (l := [0, 1, 2, 3, 4, 5, 6, 7, 8, 9, 10, 11]) (by kernel_rfl) ?_
            refine WO.vals [(0, 46, (.slice a p0.length c)), (1, 47, (.int .i64 r12))] (by kernel_rfl) (fun _ => by kernel_rfl) ?_
            obtain ⟨ha, cs, hcn, hrr, hcc⟩ := ho1.sl.el _ _ e1
            obtain rfl := hrr
            refine WO.indexAddr (e := 28) (sz := 2) rfl (by kernel_rfl) (by kernel_rfl) (by kernel_rfl) rfl ha rfl i0 i1 ?_
            refine WO.vals [(3, 49, (.pointer (some ⟨bl a, of a + (r12).toNat * 2 + 1, none⟩)))] (by kernel_rfl) (fun _ => by kernel_rfl) ?_
            refine WO.load rfl (by kernel_rfl) (by kernel_rfl) rfl (v := (.slice r1.a r1.n r1.c)) (fun w' hw' => hcc.cellk 1 (by kernel_rfl) ((rd_f (qS1.rd (List.Mem.head _))) w' hw')) ?_
            rw [g2]
            refine WO.vals [(5, 51, (.string p1))] (by kernel_rfl) (fun _ => by kernel_rfl) ?_
            have qS1p := st_pick qS1 e2
            refine WO.call rfl (by kernel_rfl) rfl (f := 36) (args := #[(.slice r1.a x0.In.length r1.c), (.string p1)]) (by kernel_rfl) (slices_BinarySearch_string_ok (g3.publish qS1p) qS1p.publish hk0) ?_
            rintro _ qw2 ⟨QI2, rfl, ql2, qS3⟩
            have qS4 := St.back qS1p ql2 qS3
            refine ⟨_, rfl, trivial, ?_⟩
            refine WO.vals [(7, 45, (.tuple #[(.int .i64 (kn : Int)), (.bool f0)])), (8, 53, (.int .i64 (kn : Int))), (9, 54, (.bool f0)), (10, 11, (.int .i64 (kn : Int))), (11, 12, (.bool f0))] (by kernel_rfl) (fun _ => by kernel_rfl) ?_
            refine WO.nil ?_
            refine En.next ?_
            refine W.seq ?_
            refine W.region (l := [0, 1, 2, 3, 4, 5, 6, 7, 8, 9, 10, 11, 12, 13]) (by kernel_rfl) ?_
            refine WO.vals [(0, 55, (.slice a p0.length c)), (1, 56, (.int .i64 r12)), (2, 57, (.slice a p0.length c)), (3, 58, (.int .i64 r12))] (by kernel_rfl) (fun _ => by kernel_rfl) ?_
            refine WO.indexAddr (e := 28) (sz := 2) rfl (by kernel_rfl) (by kernel_rfl) (by kernel_rfl) rfl ha rfl i0 i1 ?_
            refine WO.vals [(5, 60, (.pointer (some ⟨bl a, of a + (r12).toNat * 2 + 1, none⟩)))] (by kernel_rfl) (fun _ => by kernel_rfl) ?_
            refine WO.load rfl (by kernel_rfl) (by kernel_rfl) rfl (v := (.slice r1.a r1.n r1.c)) (fun w' hw' => hcc.cellk 1 (by kernel_rfl) ((rd_f (qS4.rd (List.Mem.tail _ (List.Mem.head _)))) w' hw')) ?_
            rw [g2]
            refine WO.vals [(7, 62, (.int .i64 (kn : Int))), (8, 63, (.string p1))] (by kernel_rfl) (fun _ => by kernel_rfl) ?_
            refine WO.newSlice (rel := RStr) (xs := ([p1] : List ByteArray)) qS4 rfl (by kernel_rfl) rfl 9 1 [[(.string p1)]] (by kernel_rfl) rfl (Elr.cons rfl Elr.nil) (fun _ _ _ => trivial) ?_
            intro va V qw3 qS5 hv
            refine WO.call rfl (by kernel_rfl) rfl (f := 37) (args := #[(.slice r1.a x0.In.length r1.c), (.int .i64 (kn : Int)), (.slice va ([p1] : List ByteArray).length 1)]) (by kernel_rfl) (ins37_ok g3 hv qS5.front1 (i := kn) j1 (by simp) j2) ?_
            rintro _ qw4 ⟨a2, c2, D2, rfl, qS6, h6⟩
            refine ⟨_, rfl, trivial, ?_⟩
            refine WO.indexAddr (e := 28) (sz := 2) rfl (by kernel_rfl) (by kernel_rfl) (by kernel_rfl) rfl ha rfl i0 i1 ?_
            refine WO.vals [(12, 67, (.pointer (some ⟨bl a, of a + (r12).toNat * 2 + 1, none⟩)))] (by kernel_rfl) (fun _ => by kernel_rfl) ?_
            have qS7 := st_unpick qS6.front1.drop hlt
            refine WO.storeOwn (m := (r12).toNat) qS7 ho1 rfl (by kernel_rfl) rfl e1 (u' := { r1 with a := a2, c := c2, n := (x0.In.take kn ++ [p1] ++ x0.In.drop kn).length }) 1 rfl rfl (by kernel_rfl) rfl rfl (fun cs hrel => (by obtain rfl := hrel; rfl)) (fun _ _ _ => trivial) ?_
            intro qw5 C5 qS8 ho8
            refine WO.nil ?_
            refine En.next ?_
            refine W.seq ?_
            refine W.region (l := [0, 1, 2]) (by kernel_rfl) ?_
            refine WO.vals [(0, 68, (.slice a p0.length c)), (1, 6, (.slice a p0.length c)), (2, 7, (.int .i64 0))] (by kernel_rfl) (fun _ => by kernel_rfl) ?_
            refine WO.nil ?_
            refine En.next ?_
            refine W.ret ?_
            obtain ⟨QI9, ql9, qS9, hp9⟩ := (hn1.set (r12).toNat (r := { r1 with a := a2, c := c2, n := (x0.In.take kn ++ [p1] ++ x0.In.drop kn).length }) (D := D2) (x := { x0 with In := x0.In.take kn ++ [p1] ++ x0.In.drop kn }) g1 rfl h6).pub ho8 qS8
            exact En.ret2 rfl (.slice a p0.length c) (.int .i64 0) rfl rfl ⟨QI9, a, c, by simp only [List.length_set], ((((hl4.trans hl10).trans hl16).trans hl29).trans hl35).trans (ql1.trans ql9), qS9, hp9⟩
noncomputable def registrarlaw18_works  : Option Bool := (member_Grant ([(⟨(⟨#[97]⟩ : ByteArray), ([(⟨#[98]⟩ : ByteArray)] : List ByteArray)⟩ : api_Role), (⟨(⟨#[98]⟩ : ByteArray), ([(⟨#[99]⟩ : ByteArray)] : List ByteArray)⟩ : api_Role), { z_api_Role with Name := (⟨#[99]⟩ : ByteArray) }] : List api_Role) (⟨#[97]⟩ : ByteArray) (⟨#[99]⟩ : ByteArray)).bind (fun ((r42, r43) : (List api_Role) × Int) => (member_Check ([(⟨(⟨#[97]⟩ : ByteArray), ([(⟨#[98]⟩ : ByteArray)] : List ByteArray)⟩ : api_Role), (⟨(⟨#[98]⟩ : ByteArray), ([(⟨#[99]⟩ : ByteArray)] : List ByteArray)⟩ : api_Role), { z_api_Role with Name := (⟨#[99]⟩ : ByteArray) }] : List api_Role)).bind (fun (r49 : Int) => ((bif ((r49 == 0) && (r43 == 35)) then (member_All ([(⟨(⟨#[97]⟩ : ByteArray), ([(⟨#[98]⟩ : ByteArray)] : List ByteArray)⟩ : api_Role), (⟨(⟨#[98]⟩ : ByteArray), ([(⟨#[99]⟩ : ByteArray)] : List ByteArray)⟩ : api_Role), { z_api_Role with Name := (⟨#[99]⟩ : ByteArray) }] : List api_Role) (⟨#[97]⟩ : ByteArray)).bind (fun (r61 : List ByteArray) => some ((r61.length : Int) == 3)) else some false)).bind (fun (j52 : Bool) => ((bif j52 then (member_Is ([(⟨(⟨#[97]⟩ : ByteArray), ([(⟨#[98]⟩ : ByteArray)] : List ByteArray)⟩ : api_Role), (⟨(⟨#[98]⟩ : ByteArray), ([(⟨#[99]⟩ : ByteArray)] : List ByteArray)⟩ : api_Role), { z_api_Role with Name := (⟨#[99]⟩ : ByteArray) }] : List api_Role) (⟨#[97]⟩ : ByteArray) (⟨#[99]⟩ : ByteArray)).bind (fun (r73 : Bool) => some r73) else some false)).bind (fun (j64 : Bool) => ((bif j64 then (member_Is ([(⟨(⟨#[97]⟩ : ByteArray), ([(⟨#[98]⟩ : ByteArray)] : List ByteArray)⟩ : api_Role), (⟨(⟨#[98]⟩ : ByteArray), ([(⟨#[99]⟩ : ByteArray)] : List ByteArray)⟩ : api_Role), { z_api_Role with Name := (⟨#[99]⟩ : ByteArray) }] : List api_Role) (⟨#[99]⟩ : ByteArray) (⟨#[97]⟩ : ByteArray)).bind (fun (r85 : Bool) => some (!r85)) else some false)).bind (fun (j76 : Bool) => some j76)))))
set_option maxHeartbeats 1000000 in
theorem registrarlaw18_works_ok {E w : World} {I : Mem} {Os : List Mem} (hS : St E w I Os) {r : Bool} (hr : registrarlaw18_works = some r) :
    Calls P 5 #[] w (fun e w' => ∃ (I' : Mem), e = .returned (.bool r) ∧ I.Le I' ∧ St E w' I' Os) := by
  refine calls_W (args := []) (fn := Tryz.f5) rfl rfl rfl ?_
  unfold registrarlaw18_works at hr
  refine W.seq ?_
  refine W.region (l := [0]) (by kernel_rfl) ?_
  refine WO.vals [(0, 0, (.bool false))] (by kernel_rfl) (fun _ => by kernel_rfl) ?_
  refine WO.nil ?_
  refine En.next ?_
  refine W.seq ?_
  refine W.region (l := [0, 1, 2, 3, 4, 5, 6]) (by kernel_rfl) ?_
  refine WO.newSlice (rel := RStr) (xs := ([(⟨#[98]⟩ : ByteArray)] : List ByteArray)) hS rfl (by kernel_rfl) rfl 9 1 [[(.string (⟨#[98]⟩ : ByteArray))]] (by kernel_rfl) rfl ((Elr.cons rfl Elr.nil)) (fun _ _ _ => trivial) ?_
  intro a4 C2 w6 hS5 ho3
  obtain ⟨I8, hl9, hS11, hp10⟩ := OwnSl.pub ho3 hS5
  refine WO.vals [(1, 5, (.agg #[(.string (⟨#[97]⟩ : ByteArray)), (.slice a4 1 1)]))] (by kernel_rfl) (fun _ => by kernel_rfl) ?_
  refine WO.newSlice (rel := RStr) (xs := ([(⟨#[99]⟩ : ByteArray)] : List ByteArray)) hS11 rfl (by kernel_rfl) rfl 9 1 [[(.string (⟨#[99]⟩ : ByteArray))]] (by kernel_rfl) rfl ((Elr.cons rfl Elr.nil)) (fun _ _ _ => trivial) ?_
  intro a15 C13 w17 hS16 ho14
  obtain ⟨I19, hl20, hS22, hp21⟩ := OwnSl.pub ho14 hS16
  refine WO.vals [(3, 7, (.agg #[(.string (⟨#[98]⟩ : ByteArray)), (.slice a15 1 1)])), (4, 8, (.agg (cs_api_Role ({ z_api_Role with Name := (⟨#[99]⟩ : ByteArray) }) zw_api_Role).toArray))] (by kernel_rfl) (fun _ => by kernel_rfl) ?_
  have hk30 : ok_api_Role I19 (⟨(⟨#[97]⟩ : ByteArray), ([(⟨#[98]⟩ : ByteArray)] : List ByteArray)⟩ : api_Role) (⟨⟨a4, 1⟩⟩ : W_api_Role) := ⟨(RSl.mono hp10 hl20)⟩
  have hk31 : ok_api_Role I19 (⟨(⟨#[98]⟩ : ByteArray), ([(⟨#[99]⟩ : ByteArray)] : List ByteArray)⟩ : api_Role) (⟨⟨a15, 1⟩⟩ : W_api_Role) := ⟨hp21⟩
  have hk32 : ok_api_Role I19 ({ z_api_Role with Name := (⟨#[99]⟩ : ByteArray) }) zw_api_Role := ⟨SlAt.nil⟩
  refine WO.newSlice (rel := R_api_Role) (xs := ([(⟨(⟨#[97]⟩ : ByteArray), ([(⟨#[98]⟩ : ByteArray)] : List ByteArray)⟩ : api_Role), (⟨(⟨#[98]⟩ : ByteArray), ([(⟨#[99]⟩ : ByteArray)] : List ByteArray)⟩ : api_Role), { z_api_Role with Name := (⟨#[99]⟩ : ByteArray) }] : List api_Role)) hS22 rfl (by kernel_rfl) rfl 28 2 [[(.string (⟨#[97]⟩ : ByteArray)), (.slice a4 1 1)], [(.string (⟨#[98]⟩ : ByteArray)), (.slice a15 1 1)], (cs_api_Role ({ z_api_Role with Name := (⟨#[99]⟩ : ByteArray) }) zw_api_Role)] (by kernel_rfl) rfl ((Elr.cons ⟨(⟨⟨a4, 1⟩⟩ : W_api_Role), rfl, hk30⟩ (Elr.cons ⟨(⟨⟨a15, 1⟩⟩ : W_api_Role), rfl, hk31⟩ (Elr.cons ⟨zw_api_Role, rfl, hk32⟩ Elr.nil)))) (fun _ _ _ => trivial) ?_
  intro a26 C24 w28 hS27 ho25
  obtain ⟨I33, hl34, hS36, hp35⟩ := OwnSl.pub ho25 hS27
  refine WO.vals [(6, 1, (.slice a26 3 3))] (by kernel_rfl) (fun _ => by kernel_rfl) ?_
  refine WO.nil ?_
  refine En.next ?_
  refine W.seq ?_
  refine W.region (l := [0, 1, 2, 3, 4, 5, 6]) (by kernel_rfl) ?_
  refine WO.vals [(0, 11, (.slice a26 3 3))] (by kernel_rfl) (fun _ => by kernel_rfl) ?_
  obtain ⟨⟨r42, r43⟩, hx_r37, hr⟩ := bind_some hr
  refine WO.call rfl (by kernel_rfl) rfl (f := 12) (args := #[(.slice a26 3 3), (.string (⟨#[97]⟩ : ByteArray)), (.string (⟨#[99]⟩ : ByteArray))]) (by kernel_rfl) (member_Grant_ok hp35 hS36 hx_r37) ?_
  rintro _ w38 ⟨I39, a_r42, c_r42, rfl, hl40, hS41, h_r42⟩
  refine ⟨_, rfl, trivial, ?_⟩
  refine WO.vals [(2, 10, (.tuple #[(.slice a_r42 r42.length c_r42), (.int .i64 r43)])), (3, 13, (.slice a_r42 r42.length c_r42)), (4, 14, (.int .i64 r43)), (5, 2, (.slice a_r42 r42.length c_r42)), (6, 3, (.int .i64 r43))] (by kernel_rfl) (fun _ => by kernel_rfl) ?_
  refine WO.nil ?_
  refine En.next ?_
  refine W.seq ?_
  refine W.region (l := [0, 1, 2, 3, 4, 5, 6, 7, 8, 9, 10, 11, 12, 13, 14, 15, 16, 17, 18, 19, 20, 21, 22]) (by kernel_rfl) ?_
  refine WO.vals [(0, 15, (.slice a26 3 3))] (by kernel_rfl) (fun _ => by kernel_rfl) ?_
  obtain ⟨r49, hx_r44, hr⟩ := bind_some hr
  refine WO.call rfl (by kernel_rfl) rfl (f := 10) (args := #[(.slice a26 3 3)]) (by kernel_rfl) (member_Check_ok (RSl.mono hp35 hl40) hS41 hx_r44) ?_
  rintro _ w45 ⟨I46, rfl, hl47, hS48⟩
  refine ⟨_, rfl, trivial, ?_⟩
  refine WO.vals [(2, 17, (.bool (r49 == 0))), (3, 18, (.bool (r49 == 0)))] (by kernel_rfl) (fun _ => by kernel_rfl) ?_
  refine WO.join (l1 := [4, 5, 6]) (l2 := [7, 8, 9, 10, 11, 12, 13, 14, 15, 16, 17, 18, 19, 20, 21, 22]) (J := fun frx wx => frx = [(21, (.bool ((r49 == 0) && (r43 == 35)))), (1, (.slice a26 3 3))] ∧ w45 = wx) ?restm50 ?waysm50
  case waysm50 =>
    refine WO.caseb (r49 == 0) (fun hc => ?_) (fun hc => ?_)
    · skip
      refine WO.reslot 18 rfl (show Value.bool (r49 == 0) = Value.bool true by rw [hc]) ?_
      refine WO.vals [(4, 19, (.int .i64 r43)), (5, 20, (.bool (r43 == 35))), (6, 21, (.bool (r43 == 35)))] (by kernel_rfl) (fun _ => by kernel_rfl) ?_
      refine WO.weaken (fr' := [(21, (.bool ((r49 == 0) && (r43 == 35)))), (1, (.slice a26 3 3))]) (WO.meet ⟨rfl, rfl⟩) (Sub.cons (by rw [hc]; rfl) (Sub.cons rfl Sub.nil))
    · skip
      refine WO.reslot 18 rfl (show Value.bool (r49 == 0) = Value.bool false by rw [hc]) ?_
      refine WO.pass rfl (by kernel_rfl) rfl ?_
      refine WO.pass rfl (by kernel_rfl) rfl ?_
      refine WO.vals [(6, 21, (.bool false))] (by kernel_rfl) (fun _ => by kernel_rfl) ?_
      refine WO.weaken (fr' := [(21, (.bool ((r49 == 0) && (r43 == 35)))), (1, (.slice a26 3 3))]) (WO.meet ⟨rfl, rfl⟩) (Sub.cons (by rw [hc]; rfl) (Sub.cons rfl Sub.nil))
  case restm50 =>
    rintro _ _ ⟨rfl, rfl⟩
    refine WO.vals [(7, 22, (.bool ((r49 == 0) && (r43 == 35))))] (by kernel_rfl) (fun _ => by kernel_rfl) ?_
    obtain ⟨j52, hr1, hr⟩ := bind_some hr
    refine WO.join (l1 := [8, 9, 10, 11, 12]) (l2 := [13, 14, 15, 16, 17, 18, 19, 20, 21, 22]) (J := (fun fr w => ∃ (I54 : Mem), fr = [(1, (.slice a26 3 3)), (27, (.bool j52))] ∧ I46.Le I54 ∧ St E w I54 Os)) ?restj52 ?waysj52
    case waysj52 =>
      refine WO.caseb ((r49 == 0) && (r43 == 35)) (fun hc => ?_) (fun hc => ?_)
      · replace hr1 := cond_t hc hr1
        refine WO.reslot 22 rfl (show Value.bool ((r49 == 0) && (r43 == 35)) = Value.bool true by rw [hc]) ?_
        refine WO.vals [(8, 23, (.slice a26 3 3))] (by kernel_rfl) (fun _ => by kernel_rfl) ?_
        obtain ⟨r61, hx_r56, hr1⟩ := bind_some hr1
        refine WO.call rfl (by kernel_rfl) rfl (f := 13) (args := #[(.slice a26 3 3), (.string (⟨#[97]⟩ : ByteArray))]) (by kernel_rfl) (member_All_ok (RSl.mono hp35 (hl40.trans hl47)) hS48 hx_r56) ?_
        rintro _ w57 ⟨I58, a_r61, c_r61, rfl, hl59, hS60, h_r61⟩
        refine ⟨_, rfl, trivial, ?_⟩
        refine WO.vals [(10, 25, (.int .i64 (r61.length : Int))), (11, 26, (.bool ((r61.length : Int) == 3))), (12, 27, (.bool ((r61.length : Int) == 3)))] (by kernel_rfl) (fun _ => by kernel_rfl) ?_
        have he := Option.some.inj hr1
        subst j52
        refine WO.weaken (fr' := [(1, (.slice a26 3 3)), (27, (.bool ((r61.length : Int) == 3)))]) (WO.meet ⟨I58, rfl, hl59, hS60⟩) (Sub.cons rfl (Sub.cons rfl Sub.nil))
      · replace hr1 := cond_f hc hr1
        refine WO.reslot 22 rfl (show Value.bool ((r49 == 0) && (r43 == 35)) = Value.bool false by rw [hc]) ?_
        refine WO.pass rfl (by kernel_rfl) rfl ?_
        refine WO.pass rfl (by kernel_rfl) rfl ?_
        refine WO.pass rfl (by kernel_rfl) rfl ?_
        refine WO.pass rfl (by kernel_rfl) rfl ?_
        refine WO.vals [(12, 27, (.bool false))] (by kernel_rfl) (fun _ => by kernel_rfl) ?_
        have he := Option.some.inj hr1
        subst j52
        refine WO.weaken (fr' := [(1, (.slice a26 3 3)), (27, (.bool false))]) (WO.meet ⟨I46, rfl, Mem.Le.refl _, hS48⟩) (Sub.cons rfl (Sub.cons rfl Sub.nil))
    case restj52 =>
      rintro _ w62 ⟨I54, rfl, hl55, hS63⟩
      refine WO.vals [(13, 28, (.bool j52))] (by kernel_rfl) (fun _ => by kernel_rfl) ?_
      obtain ⟨j64, hr1, hr⟩ := bind_some hr
      refine WO.join (l1 := [14, 15, 16]) (l2 := [17, 18, 19, 20, 21, 22]) (J := (fun fr w => ∃ (I66 : Mem), fr = [(1, (.slice a26 3 3)), (31, (.bool j64))] ∧ I54.Le I66 ∧ St E w I66 Os)) ?restj64 ?waysj64
      case waysj64 =>
        refine WO.caseb j52 (fun hc => ?_) (fun hc => ?_)
        · replace hr1 := cond_t hc hr1
          refine WO.reslot 28 rfl (show Value.bool j52 = Value.bool true by rw [hc]) ?_
          refine WO.vals [(14, 29, (.slice a26 3 3))] (by kernel_rfl) (fun _ => by kernel_rfl) ?_
          obtain ⟨r73, hx_r68, hr1⟩ := bind_some hr1
          refine WO.call rfl (by kernel_rfl) rfl (f := 14) (args := #[(.slice a26 3 3), (.string (⟨#[97]⟩ : ByteArray)), (.string (⟨#[99]⟩ : ByteArray))]) (by kernel_rfl) (member_Is_ok (RSl.mono hp35 ((hl40.trans hl47).trans hl55)) hS63 hx_r68) ?_
          rintro _ w69 ⟨I70, rfl, hl71, hS72⟩
          refine ⟨_, rfl, trivial, ?_⟩
          refine WO.vals [(16, 31, (.bool r73))] (by kernel_rfl) (fun _ => by kernel_rfl) ?_
          have he := Option.some.inj hr1
          subst j64
          refine WO.weaken (fr' := [(1, (.slice a26 3 3)), (31, (.bool r73))]) (WO.meet ⟨I70, rfl, hl71, hS72⟩) (Sub.cons rfl (Sub.cons rfl Sub.nil))
        · replace hr1 := cond_f hc hr1
          refine WO.reslot 28 rfl (show Value.bool j52 = Value.bool false by rw [hc]) ?_
          refine WO.pass rfl (by kernel_rfl) rfl ?_
          refine WO.pass rfl (by kernel_rfl) rfl ?_
          refine WO.vals [(16, 31, (.bool false))] (by kernel_rfl) (fun _ => by kernel_rfl) ?_
          have he := Option.some.inj hr1
          subst j64
          refine WO.weaken (fr' := [(1, (.slice a26 3 3)), (31, (.bool false))]) (WO.meet ⟨I54, rfl, Mem.Le.refl _, hS63⟩) (Sub.cons rfl (Sub.cons rfl Sub.nil))
      case restj64 =>
        rintro _ w74 ⟨I66, rfl, hl67, hS75⟩
        refine WO.vals [(17, 32, (.bool j64))] (by kernel_rfl) (fun _ => by kernel_rfl) ?_
        obtain ⟨j76, hr1, hr⟩ := bind_some hr
        refine WO.join (l1 := [18, 19, 20, 21]) (l2 := [22]) (J := (fun fr w => ∃ (I78 : Mem), fr = [(36, (.bool j76))] ∧ I66.Le I78 ∧ St E w I78 Os)) ?restj76 ?waysj76
        case waysj76 =>
          refine WO.caseb j64 (fun hc => ?_) (fun hc => ?_)
          · replace hr1 := cond_t hc hr1
            refine WO.reslot 32 rfl (show Value.bool j64 = Value.bool true by rw [hc]) ?_
            refine WO.vals [(18, 33, (.slice a26 3 3))] (by kernel_rfl) (fun _ => by kernel_rfl) ?_
            obtain ⟨r85, hx_r80, hr1⟩ := bind_some hr1
            refine WO.call rfl (by kernel_rfl) rfl (f := 14) (args := #[(.slice a26 3 3), (.string (⟨#[99]⟩ : ByteArray)), (.string (⟨#[97]⟩ : ByteArray))]) (by kernel_rfl) (member_Is_ok (RSl.mono hp35 (((hl40.trans hl47).trans hl55).trans hl67)) hS75 hx_r80) ?_
            rintro _ w81 ⟨I82, rfl, hl83, hS84⟩
            refine ⟨_, rfl, trivial, ?_⟩
            refine WO.vals [(20, 35, (.bool (!r85))), (21, 36, (.bool (!r85)))] (by kernel_rfl) (fun _ => by kernel_rfl) ?_
            have he := Option.some.inj hr1
            subst j76
            refine WO.weaken (fr' := [(36, (.bool (!r85)))]) (WO.meet ⟨I82, rfl, hl83, hS84⟩) (Sub.cons rfl Sub.nil)
          · replace hr1 := cond_f hc hr1
            refine WO.reslot 32 rfl (show Value.bool j64 = Value.bool false by rw [hc]) ?_
            refine WO.pass rfl (by kernel_rfl) rfl ?_
            refine WO.pass rfl (by kernel_rfl) rfl ?_
            refine WO.pass rfl (by kernel_rfl) rfl ?_
            refine WO.vals [(21, 36, (.bool false))] (by kernel_rfl) (fun _ => by kernel_rfl) ?_
            have he := Option.some.inj hr1
            subst j76
            refine WO.weaken (fr' := [(36, (.bool false))]) (WO.meet ⟨I66, rfl, Mem.Le.refl _, hS75⟩) (Sub.cons rfl Sub.nil)
        case restj76 =>
          rintro _ w86 ⟨I78, rfl, hl79, hS87⟩
          refine WO.vals [(22, 0, (.bool j76))] (by kernel_rfl) (fun _ => by kernel_rfl) ?_
          refine WO.nil ?_
          refine En.next ?_
          refine W.ret ?_
          have he := Option.some.inj hr
          subst r
          exact En.ret1 rfl (.bool j76) rfl ⟨I78, rfl, (((((((hl9.trans hl20).trans hl34).trans hl40).trans hl47).trans hl55).trans hl67).trans hl79), hS87⟩
def registrarlaw18_long (p0 : registrarlaw18_Act) : Option Bool := some ((decide ((p0.Name.size : Int) > 100)) || (decide ((p0.Role.size : Int) > 100)))
set_option maxHeartbeats 1000000 in
theorem registrarlaw18_long_ok {E w : World} {I : Mem} {Os : List Mem} {p0 : registrarlaw18_Act} (hS : St E w I Os) {r : Bool} (hr : registrarlaw18_long p0 = some r) :
    Calls P 6 #[(.agg (cs_registrarlaw18_Act p0).toArray)] w (fun e w' => ∃ (I' : Mem), e = .returned (.bool r) ∧ I.Le I' ∧ St E w' I' Os) := by
  refine calls_W (args := [(.agg (cs_registrarlaw18_Act p0).toArray)]) (fn := Tryz.f6) rfl rfl rfl ?_
  unfold registrarlaw18_long at hr
  refine W.seq ?_
  refine W.region (l := [0, 1]) (by kernel_rfl) ?_
  refine WO.new hS rfl (by kernel_rfl) rfl (.cells (cs_registrarlaw18_Act p0).toArray 31 (0, 0)) (fun b => .pointer (some ⟨b, 0, none⟩)) (by kernel_rfl) (fun _ _ _ => trivial) ?_
  intro b1 w4 hS3
  refine WO.vals [(1, 2, (.bool false))] (by kernel_rfl) (fun _ => by kernel_rfl) ?_
  refine WO.nil ?_
  refine En.next ?_
  refine W.seq ?_
  refine W.region (l := [0, 1, 2, 3, 4, 5, 6, 7, 8, 9, 10]) (by kernel_rfl) ?_
  refine WO.vals [(0, 3, (.pointer (some ⟨b1, 1, none⟩)))] (by kernel_rfl) (fun _ => by kernel_rfl) ?_
  refine WO.load rfl (by kernel_rfl) (by kernel_rfl) rfl (v := (.string p0.Name)) (fun w' hw' => cell_one ((rd_f (hS3.rd (List.Mem.head _))) w' hw') (by kernel_rfl)) ?_
  refine WO.vals [(2, 5, (.int .i64 (p0.Name.size : Int))), (3, 6, (.bool (decide ((p0.Name.size : Int) > 100)))), (4, 7, (.bool (decide ((p0.Name.size : Int) > 100))))] (by kernel_rfl) (fun _ => by kernel_rfl) ?_
  refine WO.join (l1 := [5, 6, 7, 8, 9]) (l2 := [10]) (J := fun frx wx => frx = [(12, (.bool ((decide ((p0.Name.size : Int) > 100)) || (decide ((p0.Role.size : Int) > 100)))))] ∧ w4 = wx) ?restm5 ?waysm5
  case waysm5 =>
    refine WO.caseb (decide ((p0.Name.size : Int) > 100)) (fun hc => ?_) (fun hc => ?_)
    · skip
      refine WO.reslot 7 rfl (show Value.bool (decide ((p0.Name.size : Int) > 100)) = Value.bool true by rw [hc]) ?_
      refine WO.pass rfl (by kernel_rfl) rfl ?_
      refine WO.pass rfl (by kernel_rfl) rfl ?_
      refine WO.pass rfl (by kernel_rfl) rfl ?_
      refine WO.pass rfl (by kernel_rfl) rfl ?_
      refine WO.vals [(9, 12, (.bool true))] (by kernel_rfl) (fun _ => by kernel_rfl) ?_
      refine WO.weaken (fr' := [(12, (.bool ((decide ((p0.Name.size : Int) > 100)) || (decide ((p0.Role.size : Int) > 100)))))]) (WO.meet ⟨rfl, rfl⟩) (Sub.cons (by rw [hc]; rfl) Sub.nil)
    · skip
      refine WO.reslot 7 rfl (show Value.bool (decide ((p0.Name.size : Int) > 100)) = Value.bool false by rw [hc]) ?_
      refine WO.vals [(5, 8, (.pointer (some ⟨b1, 2, none⟩)))] (by kernel_rfl) (fun _ => by kernel_rfl) ?_
      refine WO.load rfl (by kernel_rfl) (by kernel_rfl) rfl (v := (.string p0.Role)) (fun w' hw' => cell_one ((rd_f (hS3.rd (List.Mem.head _))) w' hw') (by kernel_rfl)) ?_
      refine WO.vals [(7, 10, (.int .i64 (p0.Role.size : Int))), (8, 11, (.bool (decide ((p0.Role.size : Int) > 100)))), (9, 12, (.bool (decide ((p0.Role.size : Int) > 100))))] (by kernel_rfl) (fun _ => by kernel_rfl) ?_
      refine WO.weaken (fr' := [(12, (.bool ((decide ((p0.Name.size : Int) > 100)) || (decide ((p0.Role.size : Int) > 100)))))]) (WO.meet ⟨rfl, rfl⟩) (Sub.cons (by rw [hc]; rfl) Sub.nil)
  case restm5 =>
    rintro _ _ ⟨rfl, rfl⟩
    refine WO.vals [(10, 2, (.bool ((decide ((p0.Name.size : Int) > 100)) || (decide ((p0.Role.size : Int) > 100)))))] (by kernel_rfl) (fun _ => by kernel_rfl) ?_
    refine WO.nil ?_
    refine En.next ?_
    refine W.ret ?_
    have hS7 := hS3.drop
    have he := Option.some.inj hr
    subst r
    exact En.ret1 rfl (.bool ((decide ((p0.Name.size : Int) > 100)) || (decide ((p0.Role.size : Int) > 100)))) rfl ⟨I, rfl, Mem.Le.refl _, hS7⟩
set_option maxHeartbeats 1000000 in
theorem ins41_ok {E w : World} {I C D : Mem} {Os : List Mem} {xs vs : List api_Role} {a va : Option Addr} {cap vc : Nat} (h : OwnSl 28 2 R_api_Role I C a cap xs) (hv : OwnSl 28 2 R_api_Role I D va vc vs) (hS : St E w I (C :: D :: Os)) {i : Nat} (hi : i ≤ xs.length) (hm : vs ≠ []) (hfit : (xs.length + vs.length) * 40 ≤ 140737488355328) :
    Calls P 41 #[.slice a xs.length cap, .int .i64 (i : Int), .slice va vs.length vc] w (fun e w' => ∃ (a' : Option Addr) (c' : Nat) (C' : Mem), e = .returned (.slice a' (xs.take i ++ vs ++ xs.drop i).length c') ∧ St E w' I (C' :: D :: Os) ∧ OwnSl 28 2 R_api_Role I C' a' c' (xs.take i ++ vs ++ xs.drop i)) := by
  have hxl := h.sl.le
  have hxc := h.sl.lt
  have hvl := List.length_pos_iff.2 hm
  have hlen : (xs.take i ++ vs ++ xs.drop i).length = xs.length + vs.length := by simp; omega
  refine calls_W (args := [.slice a xs.length cap, .int .i64 (i : Int), .slice va vs.length vc]) (fn := Tryz.f41) rfl rfl rfl ?_
  refine W.seq ?_
  refine W.region (l := [0]) (by kernel_rfl) ?_
  refine WO.vals [(0, 6, (.slice none 0 0))] (by kernel_rfl) (fun _ => by kernel_rfl) ?_
  refine WO.nil ?_
  refine En.next ?_
  refine W.seq ?_
  refine W.region (l := [0, 1, 2]) (by kernel_rfl) ?_
  refine WO.vals [(0, 10, (.slice a xs.length cap)), (1, 11, (.int .i64 (i : Int)))] (by kernel_rfl) (fun _ => by kernel_rfl) ?_
  refine WO.slice (e := 28) (sz := 2) rfl (by kernel_rfl) (by kernel_rfl) (by kernel_rfl) rfl (i : Int) (xs.length : Int) (by omega) (.inr ⟨_, _, rfl, rfl⟩) (.inl ⟨rfl, rfl⟩) (by omega) (by omega) ?_
  refine WO.nil ?_
  refine En.next ?_
  refine W.seq ?_
  refine W.region (l := [0, 1, 2]) (by kernel_rfl) ?_
  refine WO.vals [(0, 13, (.slice va vs.length vc)), (1, 14, (.int .i64 (vs.length : Int))), (2, 7, (.int .i64 (vs.length : Int)))] (by kernel_rfl) (fun _ => by kernel_rfl) ?_
  refine WO.nil ?_
  refine En.next ?_
  refine W.seq ?_
  refine W.seq ?_
  refine W.region (l := [0, 1]) (by kernel_rfl) ?_
  refine WO.vals [(0, 15, (.int .i64 (vs.length : Int))), (1, 16, (.bool ((vs.length : Int) == 0)))] (by kernel_rfl) (fun _ => by kernel_rfl) ?_
  refine WO.nil ?_
  refine En.next ?_
  refine W.cond (b := ((vs.length : Int) == 0)) rfl rfl (fun hc => ?_) (fun hc => ?_)
  · exfalso
    simp at hc
    exact hm hc
  clear hc
  refine W.skip ?_
  refine En.next ?_
  refine W.seq ?_
  refine W.region (l := [0, 1, 2]) (by kernel_rfl) ?_
  refine WO.vals [(0, 18, (.slice a xs.length cap)), (1, 19, (.int .i64 (xs.length : Int))), (2, 8, (.int .i64 (xs.length : Int)))] (by kernel_rfl) (fun _ => by kernel_rfl) ?_
  refine WO.nil ?_
  refine En.next ?_
  refine W.seq ?_
  refine W.seq ?_
  refine W.region (l := [0, 1, 2]) (by kernel_rfl) ?_
  refine WO.vals [(0, 20, (.int .i64 (i : Int))), (1, 21, (.int .i64 (xs.length : Int))), (2, 22, (.bool ((i : Int) == (xs.length : Int))))] (by kernel_rfl) (fun _ => by kernel_rfl) ?_
  refine WO.nil ?_
  refine En.next ?_
  refine W.cond (b := ((i : Int) == (xs.length : Int))) rfl rfl (fun hc => ?_) (fun hc => ?_)
  · have hin : i = xs.length := by simp at hc; omega
    refine W.seq ?_
    refine W.region (l := [0, 1, 2, 3]) (by kernel_rfl) ?_
    refine WO.vals [(0, 23, (.slice a xs.length cap)), (1, 24, (.slice va vs.length vc))] (by kernel_rfl) (fun _ => by kernel_rfl) ?_
    refine WO.append (e' := 28) (b := 40) (zs := #[(.string (⟨#[]⟩ : ByteArray)), (.slice none 0 0)]) hS h rfl (by kernel_rfl) rfl (by kernel_rfl) (by kernel_rfl) (by kernel_rfl) rfl rfl rfl rfl hv.sl hS.drop.rd0 hfit rfl (fun _ _ _ => trivial) ?_
    intro a' c' w' C' hS' ho'
    refine WO.vals [(3, 6, (.slice a' (xs ++ vs).length c'))] (by kernel_rfl) (fun _ => by kernel_rfl) ?_
    refine WO.nil ?_
    refine En.next ?_
    refine W.ret ?_
    refine En.nx_ret ?_
    have e : xs.take i ++ vs ++ xs.drop i = xs ++ vs := by rw [hin, List.take_length, List.drop_length, List.append_nil]
    rw [e]
    exact En.ret1 rfl (.slice a' (xs ++ vs).length c') rfl ⟨a', c', C', rfl, hS', ho'⟩
  have hin : i < xs.length := by simp at hc; omega
  clear hc
  obtain ⟨b, off, c, rfl, rfl, hcs⟩ := h.block (h.ne (by rintro rfl; simp at hin))
  obtain ⟨b2, o2, c2, rfl, rfl, hcs2⟩ := hv.block (hv.ne hm)
  obtain ⟨csx, hcx, hrx⟩ := h.sl.cel
  obtain ⟨csv, hcv, hrv⟩ := hv.sl.cel
  have hxh : Hol c off csx := Hol.rd (T := 28) hrx hS.rd0
  have hcxl := hcx.len
  have hcvl := hcv.len
  have hbig : xs.length + vs.length < 9223372036854775808 := by omega
  have hw1 : w64 ((xs.length : Int) + (vs.length : Int)) = ((xs.length + vs.length : Nat) : Int) := by rw [w64_id (by omega) (by omega)]; omega
  have hw2 : w64 ((i : Int) + (vs.length : Int)) = ((i + vs.length : Nat) : Int) := by rw [w64_id (by omega) (by omega)]; omega
  refine W.skip ?_
  refine En.next ?_
  refine W.seq ?_
  refine W.seq ?_
  refine W.region (l := [0, 1, 2, 3, 4, 5]) (by kernel_rfl) ?_
  refine WO.vals [(0, 26, (.int .i64 (xs.length : Int))), (1, 27, (.int .i64 (vs.length : Int))), (2, 28, (.int .i64 (w64 ((xs.length : Int) + (vs.length : Int))))), (3, 29, (.slice (some ⟨b, off, none⟩) xs.length cap)), (4, 30, (.int .i64 (cap : Int))), (5, 31, (.bool (decide (w64 ((xs.length : Int) + (vs.length : Int)) > (cap : Int)))))] (by kernel_rfl) (fun _ => by kernel_rfl) ?_
  refine WO.nil ?_
  refine En.next ?_
  refine W.cond (b := decide (w64 ((xs.length : Int) + (vs.length : Int)) > (cap : Int))) rfl rfl (fun hc => ?_) (fun hc => ?_)
  · have hgr : cap < xs.length + vs.length := by rw [hw1] at hc; simp at hc; omega
    clear hc
    have hw3 : w64 ((xs.length + vs.length : Nat) - (i : Int)) = ((xs.length + vs.length - i : Nat) : Int) := by rw [w64_id (by omega) (by omega)]; omega
    have htl : (xs.take i).length = i := by rw [List.length_take]; omega
    refine W.seq ?_
    refine W.region (l := [0, 1, 2, 3, 4, 5, 6, 7, 8, 9]) (by kernel_rfl) ?_
    refine WO.vals [(0, 32, (.slice (some ⟨b, off, none⟩) xs.length cap)), (1, 33, (.int .i64 (i : Int)))] (by kernel_rfl) (fun _ => by kernel_rfl) ?_
    refine WO.sliceB (e := 28) (sz := 2) rfl (by kernel_rfl) (by kernel_rfl) (by kernel_rfl) rfl 0 i (.inl ⟨rfl, rfl⟩) (.inr ⟨_, _, rfl, rfl⟩) (by omega) (by omega) (by omega) ?_
    refine WO.vals [(3, 35, (.int .i64 (xs.length : Int))), (4, 36, (.int .i64 (vs.length : Int))), (5, 37, (.int .i64 (w64 ((xs.length : Int) + (vs.length : Int)))))] (by kernel_rfl) (fun _ => by kernel_rfl) ?_
    refine WO.reslot 37 rfl (congrArg (Value.int .i64) hw1) ?_
    refine WO.vals [(6, 38, (.int .i64 (i : Int))), (7, 39, (.int .i64 (w64 ((xs.length + vs.length : Nat) - (i : Int)))))] (by kernel_rfl) (fun _ => by kernel_rfl) ?_
    refine WO.reslot 39 rfl (congrArg (Value.int .i64) hw3) ?_
    refine WO.appendMake (T := 28) (b := 40) (zs := #[(.string (⟨#[]⟩ : ByteArray)), (.slice none 0 0)]) (kn := .i64) hS hS.drew.rd0 (h.sl.take i) rfl (by kernel_rfl) rfl (by kernel_rfl) (by kernel_rfl) (by kernel_rfl) rfl rfl rfl (by rw [htl]; rfl) (k := xs.length + vs.length - i) rfl (by omega) (by rw [htl]; omega) (by rw [htl, show i + (xs.length + vs.length - i) = xs.length + vs.length by omega]; exact hfit) (fun _ _ _ => trivial) ?_
    intro w1 nb G d cs1 hS1 hc1 hh1 hG1 hG2 hG3
    have hc1l := hc1.len
    rw [htl] at hG1 hc1l
    refine WO.reslot 40 rfl (v := .slice (some ⟨nb, 0, none⟩) (xs.length + vs.length) G) (by rw [htl, show i + (xs.length + vs.length - i) = xs.length + vs.length by omega]) ?_
    refine WO.vals [(9, 9, (.slice (some ⟨nb, 0, none⟩) (xs.length + vs.length) G))] (by kernel_rfl) (fun _ => by kernel_rfl) ?_
    refine WO.nil ?_
    refine En.next ?_
    have hGn : (xs.length + vs.length) * 2 ≤ G * 2 := Nat.mul_le_mul_right _ (by omega)
    refine W.seq ?_
    refine W.region (l := [0, 1, 2, 3, 4]) (by kernel_rfl) ?_
    refine WO.vals [(0, 41, (.slice (some ⟨nb, 0, none⟩) (xs.length + vs.length) G)), (1, 42, (.int .i64 (i : Int)))] (by kernel_rfl) (fun _ => by kernel_rfl) ?_
    refine WO.sliceB (e := 28) (sz := 2) rfl (by kernel_rfl) (by kernel_rfl) (by kernel_rfl) rfl i (xs.length + vs.length) (.inr ⟨_, _, rfl, rfl⟩) (.inl ⟨rfl, rfl⟩) (by omega) (by omega) (by omega) ?_
    refine WO.vals [(3, 44, (.slice (some ⟨b2, o2, none⟩) vs.length vc))] (by kernel_rfl) (fun _ => by kernel_rfl) ?_
    refine WO.copyN (T := 28) (sz := 2) (e := 28) hS1 rfl (by kernel_rfl) rfl (by kernel_rfl) (by kernel_rfl) rfl rfl csv (by rw [hcvl]; congr 1; simp only [Nat.min_def]; split <;> omega) (fun x hx j v hj => by injection hx with hx; subst hx; rw [add_plain]; exact hrv w1 (hS1.rd (.tail _ (.tail _ (.head _)))) j v hj) (fun hx => by cases hx) hcv.one (by rw [hcvl]; omega) (fun _ _ => trivial) ?_
    intro w2 hS2
    refine WO.nil ?_
    refine En.next ?_
    refine W.seq ?_
    have hS3 := hS2.drew
    refine W.draw (l := [0, 1, 2, 3, 4, 5, 6, 7, 8]) (by kernel_rfl) 8 (KR I []) qR (.back (by kernel_rfl)) (by kernel_rfl) (KR.nil hS3.im) ?_
    generalize World.drew _ = w3 at *
    refine WO.vals [(0, 46, (.slice (some ⟨nb, 0, none⟩) (xs.length + vs.length) G)), (1, 47, (.int .i64 (i : Int))), (2, 48, (.int .i64 (vs.length : Int))), (3, 49, (.int .i64 (w64 ((i : Int) + (vs.length : Int)))))] (by kernel_rfl) (fun _ => by kernel_rfl) ?_
    refine WO.reslot 49 rfl (congrArg (Value.int .i64) hw2) ?_
    refine WO.sliceB (e := 28) (sz := 2) rfl (by kernel_rfl) (by kernel_rfl) (by kernel_rfl) rfl (i + vs.length) (xs.length + vs.length) (.inr ⟨_, _, rfl, rfl⟩) (.inl ⟨rfl, rfl⟩) (by omega) (by omega) (by omega) ?_
    refine WO.vals [(5, 51, (.slice (some ⟨b, off, none⟩) xs.length cap)), (6, 52, (.int .i64 (i : Int)))] (by kernel_rfl) (fun _ => by kernel_rfl) ?_
    refine WO.sliceB (e := 28) (sz := 2) rfl (by kernel_rfl) (by kernel_rfl) (by kernel_rfl) rfl i xs.length (.inr ⟨_, _, rfl, rfl⟩) (.inl ⟨rfl, rfl⟩) (by omega) (by omega) (by omega) ?_
    refine WO.tail rfl ?_
    have hdl : (csx.drop (i * 2)).length = (xs.length - i) * 2 := by rw [List.length_drop, hcxl, Nat.sub_mul]
    refine WO.copyN (T := 28) (sz := 2) (e := 28) hS3 rfl (by kernel_rfl) rfl (by kernel_rfl) (by kernel_rfl) rfl rfl (csx.drop (i * 2)) (by rw [hdl]; congr 1; simp only [Nat.min_def]; split <;> omega) (fun x hx j v hj => by
      injection hx with hx
      subst hx
      rw [List.getElem?_drop] at hj
      have := hrx w3 (hS3.rd (.tail _ (.head _))) _ v hj
      rw [add_plain, Nat.add_assoc]
      exact this) (fun hx => by cases hx) (fun v hv => hcx.one v (List.mem_of_mem_drop hv)) (by rw [hdl, wrt_size]; omega) (fun _ _ => trivial) ?_
    intro w4 hS4
    refine WO.nil ?_
    refine En.next ?_
    refine W.seq ?_
    refine W.region (l := [0, 1]) (by kernel_rfl) ?_
    refine WO.vals [(0, 55, (.slice (some ⟨nb, 0, none⟩) (xs.length + vs.length) G)), (1, 6, (.slice (some ⟨nb, 0, none⟩) (xs.length + vs.length) G))] (by kernel_rfl) (fun _ => by kernel_rfl) ?_
    refine WO.nil ?_
    refine En.next ?_
    refine W.ret ?_
    refine En.nx_ret ?_
    rw [hlen]
    refine En.ret1 rfl (.slice (some ⟨nb, 0, none⟩) (xs.length + vs.length) G) rfl ⟨_, G, _, rfl, hS4.front1.drop, ?_⟩
    refine Cel.own ((hc1.append hcv).append (hcx.drop i)) (Hol.append (Hol.append ((hh1.apart (.inl ?_)).apart (.inl ?_)) ((Hol.apart ?_ (.inl ?_)))) ?_) (by rw [hlen]; exact Nat.le_trans (by omega) hG1) hG2 (by rw [wrt_size, wrt_size]; omega)
    · rw [hc1l]; omega
    · rw [hc1l]; omega
    · rw [hc1l]; exact Hol.wrt _ (by rw [hcvl]; omega)
    · rw [hc1l, hcvl]; omega
    · have e : 0 + (cs1 ++ csv).length = 0 + (i + vs.length) * 2 := by rw [List.length_append, hc1l, hcvl, Nat.add_mul]
      rw [e]
      exact Hol.wrt _ (by rw [hdl, wrt_size]; omega)
  have hroom : xs.length + vs.length ≤ cap := by rw [hw1] at hc; simp at hc; omega
  clear hc
  have hcap : (xs.length + vs.length) * 2 ≤ cap * 2 := Nat.mul_le_mul_right _ hroom
  refine W.skip ?_
  refine En.next ?_
  refine W.seq ?_
  refine W.region (l := [0, 1, 2, 3, 4, 5]) (by kernel_rfl) ?_
  refine WO.vals [(0, 56, (.slice (some ⟨b, off, none⟩) xs.length cap)), (1, 57, (.int .i64 (xs.length : Int))), (2, 58, (.int .i64 (vs.length : Int))), (3, 59, (.int .i64 (w64 ((xs.length : Int) + (vs.length : Int)))))] (by kernel_rfl) (fun _ => by kernel_rfl) ?_
  refine WO.reslot 59 rfl (congrArg (Value.int .i64) hw1) ?_
  refine WO.sliceB (e := 28) (sz := 2) rfl (by kernel_rfl) (by kernel_rfl) (by kernel_rfl) rfl 0 (xs.length + vs.length) (.inl ⟨rfl, rfl⟩) (.inr ⟨_, _, rfl, rfl⟩) (by omega) (by omega) (by omega) ?_
  refine WO.reslot 60 rfl (v := .slice (some ⟨b, off, none⟩) (xs.length + vs.length) cap) (by rw [Nat.zero_mul, Nat.add_zero, Nat.sub_zero, Nat.sub_zero]) ?_
  refine WO.vals [(5, 0, (.slice (some ⟨b, off, none⟩) (xs.length + vs.length) cap))] (by kernel_rfl) (fun _ => by kernel_rfl) ?_
  refine WO.nil ?_
  refine En.next ?_
  refine W.seq ?_
  refine W.seq ?_
  refine W.region (l := [0, 1, 2, 3, 4, 5, 6, 7]) (by kernel_rfl) ?_
  refine WO.vals [(0, 61, (.slice (some ⟨b2, o2, none⟩) vs.length vc)), (1, 62, (.slice (some ⟨b, off, none⟩) (xs.length + vs.length) cap)), (2, 63, (.int .i64 (i : Int))), (3, 64, (.int .i64 (vs.length : Int))), (4, 65, (.int .i64 (w64 ((i : Int) + (vs.length : Int)))))] (by kernel_rfl) (fun _ => by kernel_rfl) ?_
  refine WO.reslot 65 rfl (congrArg (Value.int .i64) hw2) ?_
  refine WO.sliceB (e := 28) (sz := 2) rfl (by kernel_rfl) (by kernel_rfl) (by kernel_rfl) rfl (i + vs.length) (xs.length + vs.length) (.inr ⟨_, _, rfl, rfl⟩) (.inl ⟨rfl, rfl⟩) (by omega) (by omega) (by omega) ?_
  refine WO.extern (f := 67) (fn := Tryz.f67) (e := Extern.SlicesOverlaps.overlaps #[22, 22] #[4]) rfl (by kernel_rfl) rfl (by kernel_rfl) (by kernel_rfl) (by kernel_rfl) (by rfl) (args := #[.slice (some ⟨b2, o2, none⟩) vs.length vc, .slice (some ⟨b, off + (i + vs.length) * 2, none⟩) (xs.length + vs.length - (i + vs.length)) (cap - (i + vs.length))]) (by kernel_rfl) (.bool false) (fun w' hw' => ?_) ?_
  · rcases hw' with ⟨hw', _⟩ | rfl
    · cases hw'
    · exact run_over (sz := 2) (e := 28) (by kernel_rfl) (by kernel_rfl) hS (by omega) _ _ _ _
  refine WO.vals [(7, 68, (.bool true))] (by kernel_rfl) (fun _ => by kernel_rfl) ?_
  refine WO.nil ?_
  refine En.next ?_
  refine W.cond (b := true) rfl rfl (fun hc => ?_) (fun hc => ?_)
  rotate_left
  · cases hc
  clear hc
  refine W.seq ?_
  have hS1 := hS.drew
  refine W.draw (l := [0, 1, 2, 3, 4, 5, 6, 7, 8]) (by kernel_rfl) 8 (KR I []) qR (.back (by kernel_rfl)) (by kernel_rfl) (KR.nil hS1.im) ?_
  generalize World.drew _ = w1 at *
  refine WO.vals [(0, 69, (.slice (some ⟨b, off, none⟩) (xs.length + vs.length) cap)), (1, 70, (.int .i64 (i : Int))), (2, 71, (.int .i64 (vs.length : Int))), (3, 72, (.int .i64 (w64 ((i : Int) + (vs.length : Int)))))] (by kernel_rfl) (fun _ => by kernel_rfl) ?_
  refine WO.reslot 72 rfl (congrArg (Value.int .i64) hw2) ?_
  refine WO.sliceB (e := 28) (sz := 2) rfl (by kernel_rfl) (by kernel_rfl) (by kernel_rfl) rfl (i + vs.length) (xs.length + vs.length) (.inr ⟨_, _, rfl, rfl⟩) (.inl ⟨rfl, rfl⟩) (by omega) (by omega) (by omega) ?_
  refine WO.vals [(5, 74, (.slice (some ⟨b, off, none⟩) (xs.length + vs.length) cap)), (6, 75, (.int .i64 (i : Int)))] (by kernel_rfl) (fun _ => by kernel_rfl) ?_
  refine WO.sliceB (e := 28) (sz := 2) rfl (by kernel_rfl) (by kernel_rfl) (by kernel_rfl) rfl i (xs.length + vs.length) (.inr ⟨_, _, rfl, rfl⟩) (.inl ⟨rfl, rfl⟩) (by omega) (by omega) (by omega) ?_
  refine WO.tail rfl ?_
  have hdl : (csx.drop (i * 2)).length = (xs.length - i) * 2 := by rw [List.length_drop, hcxl, Nat.sub_mul]
  refine WO.copyN (T := 28) (sz := 2) (e := 28) hS1 rfl (by kernel_rfl) rfl (by kernel_rfl) (by kernel_rfl) rfl rfl (csx.drop (i * 2)) (by rw [hdl]; congr 1; simp only [Nat.min_def]; split <;> omega) (fun x hx j v hj => by
    injection hx with hx
    subst hx
    rw [List.getElem?_drop] at hj
    have := hrx w1 hS1.rd0 _ v hj
    rw [add_plain, Nat.add_assoc]
    exact this) (fun hx => by cases hx) (fun v hv => hcx.one v (List.mem_of_mem_drop hv)) (by rw [hdl]; omega) (fun _ _ => trivial) ?_
  intro w2 hS2
  refine WO.nil ?_
  refine En.next ?_
  refine W.seq ?_
  refine W.region (l := [0, 1, 2, 3, 4]) (by kernel_rfl) ?_
  refine WO.vals [(0, 78, (.slice (some ⟨b, off, none⟩) (xs.length + vs.length) cap)), (1, 79, (.int .i64 (i : Int)))] (by kernel_rfl) (fun _ => by kernel_rfl) ?_
  refine WO.sliceB (e := 28) (sz := 2) rfl (by kernel_rfl) (by kernel_rfl) (by kernel_rfl) rfl i (xs.length + vs.length) (.inr ⟨_, _, rfl, rfl⟩) (.inl ⟨rfl, rfl⟩) (by omega) (by omega) (by omega) ?_
  refine WO.vals [(3, 81, (.slice (some ⟨b2, o2, none⟩) vs.length vc))] (by kernel_rfl) (fun _ => by kernel_rfl) ?_
  refine WO.copyN (T := 28) (sz := 2) (e := 28) hS2 rfl (by kernel_rfl) rfl (by kernel_rfl) (by kernel_rfl) rfl rfl csv (by rw [hcvl]; congr 1; simp only [Nat.min_def]; split <;> omega) (fun x hx j v hj => by injection hx with hx; subst hx; rw [add_plain]; exact hrv w2 (hS2.rd (.tail _ (.head _))) j v hj) (fun hx => by cases hx) hcv.one (by rw [hcvl, wrt_size]; omega) (fun _ _ => trivial) ?_
  intro w3 hS3
  refine WO.nil ?_
  refine En.next ?_
  refine W.seq ?_
  refine W.region (l := [0, 1]) (by kernel_rfl) ?_
  refine WO.vals [(0, 83, (.slice (some ⟨b, off, none⟩) (xs.length + vs.length) cap)), (1, 6, (.slice (some ⟨b, off, none⟩) (xs.length + vs.length) cap))] (by kernel_rfl) (fun _ => by kernel_rfl) ?_
  refine WO.nil ?_
  refine En.next ?_
  refine W.ret ?_
  refine En.nx_ret ?_
  rw [hlen]
  refine En.ret1 rfl (.slice (some ⟨b, off, none⟩) (xs.length + vs.length) cap) rfl ⟨_, cap, _, rfl, hS3, ?_⟩
  have htl : (csx.take (i * 2)).length = i * 2 := by rw [List.length_take, hcxl]; omega
  refine Cel.own (((hcx.take i).append hcv).append (hcx.drop i)) (Hol.append (Hol.append (((hxh.take _).apart (.inl ?_)).apart (.inl ?_)) ?_) (Hol.apart ?_ (.inr ?_))) (by rw [hlen]; exact hroom) h.sl.lt (by rw [wrt_size, wrt_size]; exact hcs)
  · rw [htl]; omega
  · rw [htl]; omega
  · rw [htl]; exact Hol.wrt _ (by rw [hcvl, wrt_size]; omega)
  · have e : off + (csx.take (i * 2) ++ csv).length = off + (i + vs.length) * 2 := by rw [List.length_append, htl, hcvl, Nat.add_mul]
    rw [e]
    exact Hol.wrt _ (by rw [hdl]; omega)
  · rw [List.length_append, htl, hcvl]; omega

noncomputable def createT (l : List api_Role) (n : ByteArray) : Option (List api_Role × Int) := open Classical in if fits l then (member_names l).bind fun ns => (slices_BinarySearch_string ns n).bind fun (k, _) => (insO 40 l k [{ z_api_Role with Name := n }]).bind fun y => some (y, 0) else none
noncomputable def member_Create (p0 : List api_Role) (p1 : ByteArray) : Option ((List api_Role) × Int) := (member_Check p0).bind (fun (r6 : Int) => (bif (r6 != 0) then some (([] : List api_Role), r6) else (lex_IsName p1).bind (fun (r12 : Bool) => (bif (!r12) then some (([] : List api_Role), 18) else (member_at p0 p1).bind (fun (r18 : Int) => (bif (decide (r18 ≥ 0)) then some (([] : List api_Role), 19) else (bif ((p0.length : Int) == 8) then some (([] : List api_Role), 5) else (createT p0 p1))))))))
set_option maxHeartbeats 1000000 in
theorem member_Create_ok {E w : World} {I : Mem} {Os : List Mem} {p0 : List api_Role} {p1 : ByteArray} {a_p0 : Option Addr} {c_p0 : Nat} (h_p0 : RSl 2 R_api_Role I a_p0 c_p0 p0) (hS : St E w I Os) {r : (List api_Role) × Int} (hr : member_Create p0 p1 = some r) :
    Calls P 15 #[(.slice a_p0 p0.length c_p0), (.string p1)] w (fun e w' => ∃ (I' : Mem) (ra0 : Option Addr) (rc0 : Nat), e = .returned (.tuple #[(.slice ra0 r.1.length rc0), (.int .i64 r.2)]) ∧ I.Le I' ∧ St E w' I' Os ∧ RSl 2 R_api_Role I' ra0 rc0 r.1) := by
  refine calls_W (args := [(.slice a_p0 p0.length c_p0), (.string p1)]) (fn := Tryz.f15) rfl rfl rfl ?_
  unfold member_Create at hr
  refine W.seq ?_
  refine W.region (l := [0, 1]) (by kernel_rfl) ?_
  refine WO.vals [(0, 4, (.slice none 0 0)), (1, 5, (.int .i64 0))] (by kernel_rfl) (fun _ => by kernel_rfl) ?_
  refine WO.nil ?_
  refine En.next ?_
  refine W.seq ?_
  refine W.seq ?_
  refine W.region (l := [0, 1, 2]) (by kernel_rfl) ?_
  refine WO.vals [(0, 10, (.slice a_p0 p0.length c_p0))] (by kernel_rfl) (fun _ => by kernel_rfl) ?_
  obtain ⟨r6, hx_r1, hr⟩ := bind_some hr
  refine WO.call rfl (by kernel_rfl) rfl (f := 10) (args := #[(.slice a_p0 p0.length c_p0)]) (by kernel_rfl) (member_Check_ok h_p0 hS hx_r1) ?_
  rintro _ w2 ⟨I3, rfl, hl4, hS5⟩
  refine ⟨_, rfl, trivial, ?_⟩
  refine WO.vals [(2, 6, (.int .i64 r6))] (by kernel_rfl) (fun _ => by kernel_rfl) ?_
  refine WO.nil ?_
  refine En.next ?_
  refine W.seq ?_
  refine W.region (l := [0, 1]) (by kernel_rfl) ?_
  refine WO.vals [(0, 12, (.int .i64 r6)), (1, 13, (.bool (r6 != 0)))] (by kernel_rfl) (fun _ => by kernel_rfl) ?_
  refine WO.nil ?_
  refine En.next ?_
  refine W.cond (b := (r6 != 0)) rfl rfl (fun hc => ?_) (fun hc => ?_)
  · replace hr := cond_t hc hr
    refine W.seq ?_
    refine W.region (l := [0, 1, 2]) (by kernel_rfl) ?_
    refine WO.vals [(0, 14, (.int .i64 r6)), (1, 4, (.slice none 0 0)), (2, 5, (.int .i64 r6))] (by kernel_rfl) (fun _ => by kernel_rfl) ?_
    refine WO.nil ?_
    refine En.next ?_
    refine W.ret ?_
    refine En.nx_ret ?_
    have he := Option.some.inj hr
    subst r
    exact En.ret2 rfl (.slice none 0 0) (.int .i64 r6) rfl rfl ⟨I3, none, 0, rfl, hl4, hS5, SlAt.nil⟩
  · replace hr := cond_f hc hr
    refine W.skip ?_
    refine En.next ?_
    refine W.seq ?_
    refine W.block ?_
    refine W.seq ?_
    refine W.region (l := [0, 1, 2, 3]) (by kernel_rfl) ?_
    refine WO.vals [(0, 16, (.string p1))] (by kernel_rfl) (fun _ => by kernel_rfl) ?_
    obtain ⟨r12, hx_r7, hr⟩ := bind_some hr
    refine WO.call rfl (by kernel_rfl) rfl (f := 24) (args := #[(.string p1)]) (by kernel_rfl) (lex_IsName_ok  hS5 hx_r7) ?_
    rintro _ w8 ⟨I9, rfl, hl10, hS11⟩
    refine ⟨_, rfl, trivial, ?_⟩
    refine WO.vals [(2, 18, (.bool (!r12))), (3, 15, (.bool (!r12)))] (by kernel_rfl) (fun _ => by kernel_rfl) ?_
    refine WO.nil ?_
    refine En.next ?_
    refine W.cond (b := (!r12)) rfl rfl (fun hc => ?_) (fun hc => ?_)
    · replace hr := cond_t hc hr
      refine W.seq ?_
      refine W.region (l := [0, 1]) (by kernel_rfl) ?_
      refine WO.vals [(0, 4, (.slice none 0 0)), (1, 5, (.int .i64 18))] (by kernel_rfl) (fun _ => by kernel_rfl) ?_
      refine WO.nil ?_
      refine En.next ?_
      refine W.ret ?_
      refine En.in_ret ?_
      refine En.nx_ret ?_
      have he := Option.some.inj hr
      subst r
      exact En.ret2 rfl (.slice none 0 0) (.int .i64 18) rfl rfl ⟨I9, none, 0, rfl, (hl4.trans hl10), hS11, SlAt.nil⟩
    · replace hr := cond_f hc hr
      refine W.seq ?_
      refine W.region (l := [0, 1, 2, 3, 4]) (by kernel_rfl) ?_
      refine WO.vals [(0, 20, (.slice a_p0 p0.length c_p0)), (1, 21, (.string p1))] (by kernel_rfl) (fun _ => by kernel_rfl) ?_
      obtain ⟨r18, hx_r13, hr⟩ := bind_some hr
      refine WO.call rfl (by kernel_rfl) rfl (f := 34) (args := #[(.slice a_p0 p0.length c_p0), (.string p1)]) (by kernel_rfl) (member_at_ok (RSl.mono h_p0 (hl4.trans hl10)) hS11 hx_r13) ?_
      rintro _ w14 ⟨I15, rfl, hl16, hS17⟩
      refine ⟨_, rfl, trivial, ?_⟩
      refine WO.vals [(3, 23, (.bool (decide (r18 ≥ 0)))), (4, 19, (.bool (decide (r18 ≥ 0))))] (by kernel_rfl) (fun _ => by kernel_rfl) ?_
      refine WO.nil ?_
      refine En.next ?_
      refine W.cond (b := (decide (r18 ≥ 0))) rfl rfl (fun hc => ?_) (fun hc => ?_)
      · replace hr := cond_t hc hr
        refine W.seq ?_
        refine W.region (l := [0, 1]) (by kernel_rfl) ?_
        refine WO.vals [(0, 4, (.slice none 0 0)), (1, 5, (.int .i64 19))] (by kernel_rfl) (fun _ => by kernel_rfl) ?_
        refine WO.nil ?_
        refine En.next ?_
        refine W.ret ?_
        refine En.in_ret ?_
        refine En.nx_ret ?_
        have he := Option.some.inj hr
        subst r
        exact En.ret2 rfl (.slice none 0 0) (.int .i64 19) rfl rfl ⟨I15, none, 0, rfl, ((hl4.trans hl10).trans hl16), hS17, SlAt.nil⟩
      · replace hr := cond_f hc hr
        refine W.seq ?_
        refine W.region (l := [0, 1, 2, 3]) (by kernel_rfl) ?_
        refine WO.vals [(0, 25, (.slice a_p0 p0.length c_p0)), (1, 26, (.int .i64 (p0.length : Int))), (2, 27, (.bool ((p0.length : Int) == 8))), (3, 24, (.bool ((p0.length : Int) == 8)))] (by kernel_rfl) (fun _ => by kernel_rfl) ?_
        refine WO.nil ?_
        refine En.next ?_
        refine W.cond (b := ((p0.length : Int) == 8)) rfl rfl (fun hc => ?_) (fun hc => ?_)
        · replace hr := cond_t hc hr
          refine W.seq ?_
          refine W.region (l := [0, 1]) (by kernel_rfl) ?_
          refine WO.vals [(0, 4, (.slice none 0 0)), (1, 5, (.int .i64 5))] (by kernel_rfl) (fun _ => by kernel_rfl) ?_
          refine WO.nil ?_
          refine En.next ?_
          refine W.ret ?_
          refine En.in_ret ?_
          refine En.nx_ret ?_
          have he := Option.some.inj hr
          subst r
          exact En.ret2 rfl (.slice none 0 0) (.int .i64 5) rfl rfl ⟨I15, none, 0, rfl, ((hl4.trans hl10).trans hl16), hS17, SlAt.nil⟩
        · replace hr := cond_f hc hr
          refine W.skip ?_
          refine En.in_normal ?_
          refine En.next ?_
          refine W.seq ?_
          refine W.region (l := [0, 1, 2]) (by kernel_rfl) ?_
          refine WO.vals [(0, 28, (.slice a_p0 p0.length c_p0))] (by kernel_rfl) (fun _ => by kernel_rfl) ?_
          have hr0 := hr
          unfold createT at hr0
          split at hr0
          rotate_left
          · cases hr0
          rename_i hfit
          obtain ⟨ns, hns, hr0⟩ := bind_some hr0
          obtain ⟨⟨k0, f0⟩, hk0, hr0⟩ := bind_some hr0
          obtain ⟨y0, hy0, hr0⟩ := bind_some hr0
          obtain ⟨kn, rfl, j1, j2, rfl⟩ := insO_some hy0
          have he := Option.some.inj hr0
          subst he
          refine WO.call rfl (by kernel_rfl) rfl (f := 35) (args := #[(.slice a_p0 p0.length c_p0)]) (by kernel_rfl) (clone2_ok (RSl.mono h_p0 ((hl4.trans hl10).trans hl16)) hS17 hfit) ?_
          rintro _ qw1 ⟨QI0, a, c, C, rs, Ds, rfl, ql0, qS0, ho0, hn0⟩
          refine ⟨_, rfl, trivial, ?_⟩
          refine WO.vals [(2, 7, (.slice a p0.length c))] (by kernel_rfl) (fun _ => by kernel_rfl) ?_
          refine WO.nil ?_
          refine En.next ?_
          refine W.seq ?_
          obtain ⟨QI1, ql1, qS1, ho1⟩ := hn0.own ho0 qS0
          refine W.region (l := [0, 1, 2, 3, 4, 5, 6, 7, 8]) (by kernel_rfl) ?_
          refine WO.vals [(0, 31, (.slice a p0.length c))] (by kernel_rfl) (fun _ => by kernel_rfl) ?_
          refine WO.call rfl (by kernel_rfl) rfl (f := 22) (args := #[(.slice a p0.length c)]) (by kernel_rfl) (member_names_ok (ho1.publish qS1) qS1.publish hns) ?_
          rintro _ qw2 ⟨QI2, na, nc, R, rfl, ql2, qS2, hR⟩
          have qS3 := st_back1 qS1 ql2 qS2
          have hR3 : OwnSl 9 1 RStr QI1 R na nc ns := own_str hR
          refine ⟨_, rfl, trivial, ?_⟩
          obtain ⟨QI4, ql4, qS4, hp4⟩ := OwnSl.pub hR3 qS3
          refine WO.vals [(2, 33, (.string p1))] (by kernel_rfl) (fun _ => by kernel_rfl) ?_
          refine WO.call rfl (by kernel_rfl) rfl (f := 36) (args := #[(.slice na ns.length nc), (.string p1)]) (by kernel_rfl) (slices_BinarySearch_string_ok hp4 qS4 hk0) ?_
          rintro _ qw5 ⟨QI5, rfl, ql5, qS5⟩
          refine ⟨_, rfl, trivial, ?_⟩
          refine WO.vals [(4, 30, (.tuple #[(.int .i64 (kn : Int)), (.bool f0)])), (5, 35, (.int .i64 (kn : Int))), (6, 36, (.bool f0)), (7, 8, (.int .i64 (kn : Int))), (8, 9, (.bool f0))] (by kernel_rfl) (fun _ => by kernel_rfl) ?_
          refine WO.nil ?_
          refine En.next ?_
          refine W.seq ?_
          refine W.region (l := [0, 1, 2, 3, 4, 5, 6, 7]) (by kernel_rfl) ?_
          refine WO.vals [(0, 37, (.slice a p0.length c)), (1, 38, (.int .i64 (kn : Int))), (2, 39, (.string p1)), (3, 40, (.agg (cs_api_Role ({ z_api_Role with Name := p1 }) (⟨⟨none, 0⟩⟩ : W_api_Role)).toArray))] (by kernel_rfl) (fun _ => by kernel_rfl) ?_
          refine WO.newSlice (rel := R_api_Role) (xs := ([{ z_api_Role with Name := p1 }] : List api_Role)) qS5 rfl (by kernel_rfl) rfl 28 2 [(cs_api_Role ({ z_api_Role with Name := p1 }) (⟨⟨none, 0⟩⟩ : W_api_Role))] (by kernel_rfl) rfl (Elr.cons ⟨⟨⟨none, 0⟩⟩, rfl, ⟨SlAt.nil⟩⟩ Elr.nil) (fun _ _ _ => trivial) ?_
          intro va V qw6 qS6 hv
          refine WO.call rfl (by kernel_rfl) rfl (f := 41) (args := #[(.slice a p0.length c), (.int .i64 (kn : Int)), (.slice va ([{ z_api_Role with Name := p1 }] : List api_Role).length 1)]) (by kernel_rfl) (ins41_ok (ho1.mono (ql4.trans ql5)) hv qS6.front1 (i := kn) j1 (by simp) j2) ?_
          rintro _ qw7 ⟨a2, c2, C2, rfl, qS7, h7⟩
          refine ⟨_, rfl, trivial, ?_⟩
          obtain ⟨QI9, ql9, qS9, hp9⟩ := OwnSl.pub h7 qS7
          refine WO.vals [(6, 4, (.slice a2 (p0.take kn ++ [{ z_api_Role with Name := p1 }] ++ p0.drop kn).length c2)), (7, 5, (.int .i64 0))] (by kernel_rfl) (fun _ => by kernel_rfl) ?_
          refine WO.nil ?_
          refine En.next ?_
          refine W.ret ?_
          exact En.ret2 rfl (.slice a2 (p0.take kn ++ [{ z_api_Role with Name := p1 }] ++ p0.drop kn).length c2) (.int .i64 0) rfl rfl ⟨QI9, a2, c2, rfl, ((hl4.trans hl10).trans hl16).trans (ql0.trans (ql1.trans (ql4.trans (ql5.trans ql9)))), qS9.drop, hp9⟩
set_option maxHeartbeats 1000000 in
theorem del42_ok {E w : World} {I C : Mem} {Os : List Mem} {xs : List RawRole} {a : Option Addr} {cap : Nat} (h : OwnSl 28 2 R_Raw I C a cap xs) (hS : St E w I (C :: Os)) {p q : Nat} (hpq : p < q) (hq : q ≤ xs.length) :
    Calls P 42 #[.slice a xs.length cap, .int .i64 (p : Int), .int .i64 (q : Int)] w (fun e w' => ∃ (C' : Mem), e = .returned (.slice a (xs.take p ++ xs.drop q).length cap) ∧ St E w' I (C' :: Os) ∧ OwnSl 28 2 R_Raw I C' a cap (xs.take p ++ xs.drop q)) := by
  have hxl := h.sl.le
  have hxc := h.sl.lt
  have hlen : (xs.take p ++ xs.drop q).length = p + (xs.length - q) := by simp; omega
  refine calls_W (args := [.slice a xs.length cap, .int .i64 (p : Int), .int .i64 (q : Int)]) (fn := Tryz.f42) rfl rfl rfl ?_
  refine W.seq ?_
  refine W.region (l := [0]) (by kernel_rfl) ?_
  refine WO.vals [(0, 6, (.slice none 0 0))] (by kernel_rfl) (fun _ => by kernel_rfl) ?_
  refine WO.nil ?_
  refine En.next ?_
  refine W.seq ?_
  refine W.region (l := [0, 1, 2, 3, 4, 5]) (by kernel_rfl) ?_
  refine WO.vals [(0, 8, (.slice a xs.length cap)), (1, 9, (.int .i64 (p : Int))), (2, 10, (.int .i64 (q : Int))), (3, 11, (.slice a xs.length cap)), (4, 12, (.int .i64 (xs.length : Int)))] (by kernel_rfl) (fun _ => by kernel_rfl) ?_
  refine WO.slice3 (e := 28) (sz := 2) rfl (by kernel_rfl) (by kernel_rfl) (by kernel_rfl) rfl p q xs.length rfl rfl rfl (by omega) hq hxl ?_
  refine WO.nil ?_
  refine En.next ?_
  refine W.seq ?_
  refine W.seq ?_
  refine W.region (l := [0, 1, 2]) (by kernel_rfl) ?_
  refine WO.vals [(0, 14, (.int .i64 (p : Int))), (1, 15, (.int .i64 (q : Int))), (2, 16, (.bool ((p : Int) == (q : Int))))] (by kernel_rfl) (fun _ => by kernel_rfl) ?_
  refine WO.nil ?_
  refine En.next ?_
  refine W.cond (b := ((p : Int) == (q : Int))) rfl rfl (fun hc => ?_) (fun hc => ?_)
  · exfalso
    simp at hc
    omega
  clear hc
  refine W.skip ?_
  refine En.next ?_
  refine W.seq ?_
  refine W.region (l := [0, 1, 2]) (by kernel_rfl) ?_
  refine WO.vals [(0, 18, (.slice a xs.length cap)), (1, 19, (.int .i64 (xs.length : Int))), (2, 7, (.int .i64 (xs.length : Int)))] (by kernel_rfl) (fun _ => by kernel_rfl) ?_
  refine WO.nil ?_
  refine En.next ?_
  refine W.seq ?_
  have hS1 := hS.drew
  refine W.draw (l := [0, 1, 2, 3, 4, 5, 6, 7]) (by kernel_rfl) 6 (KR I []) qR (.back (by kernel_rfl)) (by kernel_rfl) (KR.nil hS1.im) ?_
  generalize World.drew _ = w1 at *
  refine WO.vals [(0, 20, (.slice a xs.length cap)), (1, 21, (.int .i64 (p : Int)))] (by kernel_rfl) (fun _ => by kernel_rfl) ?_
  refine WO.slice (e := 28) (sz := 2) rfl (by kernel_rfl) (by kernel_rfl) (by kernel_rfl) rfl (0 : Int) (p : Int) (by omega) (.inl ⟨rfl, rfl⟩) (.inr ⟨_, _, rfl, rfl⟩) (by omega) (by omega) ?_
  refine WO.vals [(3, 23, (.slice a xs.length cap)), (4, 24, (.int .i64 (q : Int)))] (by kernel_rfl) (fun _ => by kernel_rfl) ?_
  refine WO.slice (e := 28) (sz := 2) rfl (by kernel_rfl) (by kernel_rfl) (by kernel_rfl) rfl (q : Int) (xs.length : Int) (by omega) (.inr ⟨_, _, rfl, rfl⟩) (.inl ⟨rfl, rfl⟩) (by omega) (by omega) ?_
  refine WO.tail rfl ?_
  refine WO.appendSelf (T := 28) (e' := 28) (b := 40) (zs := #[(.string (⟨#[]⟩ : ByteArray)), (.slice none 0 0)]) hS1 h rfl (by kernel_rfl) rfl (by kernel_rfl) (by kernel_rfl) (by kernel_rfl) (Nat.le_of_lt hpq) hq rfl rfl (fun _ _ _ => trivial) ?_
  intro w2 C2 hS2 h2
  refine WO.vals [(7, 0, (.slice a (p + (xs.length - q)) cap))] (by kernel_rfl) (fun _ => by kernel_rfl) ?_
  refine WO.nil ?_
  refine En.next ?_
  have hfl : (xs.take p ++ xs.drop q ++ xs.drop (p + (xs.length - q))).length = xs.length := by simp; omega
  refine W.seq ?_
  refine W.region (l := [0, 1, 2, 3, 4, 5]) (by kernel_rfl) ?_
  refine WO.vals [(0, 27, (.slice a (p + (xs.length - q)) cap)), (1, 28, (.slice a (p + (xs.length - q)) cap)), (2, 29, (.int .i64 ((p + (xs.length - q) : Nat) : Int))), (3, 30, (.int .i64 (xs.length : Int)))] (by kernel_rfl) (fun _ => by kernel_rfl) ?_
  refine WO.slice (e := 28) (sz := 2) rfl (by kernel_rfl) (by kernel_rfl) (by kernel_rfl) rfl ((p + (xs.length - q) : Nat) : Int) (xs.length : Int) (by omega) (.inr ⟨_, _, rfl, rfl⟩) (.inr ⟨_, _, rfl, rfl⟩) (by omega) (by omega) ?_
  refine WO.clear hS2 h2 (e := 28) (by kernel_rfl) (zs := [(.string (⟨#[]⟩ : ByteArray)), (.slice none 0 0)]) (by kernel_rfl) (z0 := (⟨(⟨#[]⟩ : ByteArray), none, 0, 0⟩ : RawRole)) rfl (by kernel_rfl) (by kernel_rfl) (by kernel_rfl) rfl (by kernel_rfl) rfl (lo := p + (xs.length - q)) (by rw [hfl]; omega) (by rw [hfl]; rfl) (fun _ _ _ => trivial) ?_
  intro w3 C3 hS3 h3
  refine WO.nil ?_
  refine En.next ?_
  refine W.seq ?_
  refine W.region (l := [0, 1]) (by kernel_rfl) ?_
  refine WO.vals [(0, 32, (.slice a (p + (xs.length - q)) cap)), (1, 6, (.slice a (p + (xs.length - q)) cap))] (by kernel_rfl) (fun _ => by kernel_rfl) ?_
  refine WO.nil ?_
  refine En.next ?_
  refine W.ret ?_
  rw [hlen]
  refine En.ret1 rfl (.slice a (p + (xs.length - q)) cap) rfl ⟨C3, rfl, hS3, ?_⟩
  have h4 := h3.shorter (p + (xs.length - q))
  rwa [List.take_append_of_le_length (by rw [List.length_take, hfl]; omega), List.take_take, Nat.min_self, List.take_append_of_le_length (by rw [hlen]; exact Nat.le_refl _), List.take_of_length_le (by rw [hlen]; exact Nat.le_refl _)] at h4

noncomputable def slices_DeleteFunc_string (p0 : List ByteArray) (p1 : ByteArray → Option Bool) : Option (List ByteArray) := (slices_IndexFunc_string p0 p1).bind (fun (r8 : Int) => (bif (r8 == (-1)) then some p0 else (loopO (fun (s : Int × Int × (List ByteArray)) => match s with | (s13, s14, s15) => (bif (decide (s14 < (s15.length : Int))) then (idx s15 s14).bind (fun (x20 : ByteArray) => (p1 x20).bind (fun (r26 : Bool) => ((bif (!r26) then (idx s15 s13).bind (fun (x31 : ByteArray) => some ((w64 (s13 + 1)), (s15.set (s13).toNat x20))) else some (s13, s15))).bind (fun ((s36, s37) : Int × (List ByteArray)) => some (.inl (s36, (w64 (s14 + 1)), s37))))) else some (.inr (s13, s15)))) (r8, (w64 (r8 + 1)), p0)).bind (fun ((s41, s42) : Int × (List ByteArray)) => (sub s42 s41 (s42.length : Int)).bind (fun (x43 : List ByteArray) => (sub (s42.take (s41).toNat ++ List.replicate (s42.length - (s41).toNat) (⟨#[]⟩ : ByteArray)) 0 s41).bind (fun (x48 : List ByteArray) => some x48)))))
set_option maxHeartbeats 1000000 in
theorem slices_DeleteFunc_string_ok {E w : World} {I : Mem} {Os : List Mem} {p0 : List ByteArray} {p1 : ByteArray → Option Bool} {a_p0 : Option Addr} {c_p0 : Nat} {C_p0 : Mem} {g_p1 : FuncId} {k_p1 : List Value} (h_p0 : OwnSl 9 1 RStr I C_p0 a_p0 c_p0 p0) (h_p1 : ∀ {F : List Mem} {I' : Mem} {w : World} {u0 : ByteArray}, I.Le I' → St E w I' (F ++ Os) → ∀ {r : Bool}, p1 u0 = some r → Calls P g_p1 (([(.string u0)] : List Value) ++ k_p1).toArray w (fun e w' => ∃ (I'' : Mem), e = .returned (.bool r) ∧ I'.Le I'' ∧ St E w' I'' (F ++ Os))) (hcall_p1 : Callable P g_p1) (hS : St E w I ((C_p0) :: Os)) {r : (List ByteArray)} (hr : slices_DeleteFunc_string p0 p1 = some r) :
    Calls P 43 #[(.slice a_p0 p0.length c_p0), (.func (.func g_p1) #[] k_p1.toArray)] w (fun e w' => ∃ (I' : Mem) (ra0 : Option Addr) (rc0 : Nat) (rC0 : Mem), e = .returned (.slice ra0 r.length rc0) ∧ I.Le I' ∧ St E w' I' (rC0 :: Os) ∧ OwnSl 9 1 RStr I' rC0 ra0 rc0 r) := by
  refine calls_W (args := [(.slice a_p0 p0.length c_p0), (.func (.func g_p1) #[] k_p1.toArray)]) (fn := Tryz.f43) rfl rfl rfl ?_
  unfold slices_DeleteFunc_string at hr
  refine W.seq ?_
  refine W.region (l := [0]) (by kernel_rfl) ?_
  refine WO.vals [(0, 4, (.slice none 0 0))] (by kernel_rfl) (fun _ => by kernel_rfl) ?_
  refine WO.nil ?_
  refine En.next ?_
  refine W.seq ?_
  refine W.region (l := [0, 1, 2, 3]) (by kernel_rfl) ?_
  refine WO.vals [(0, 8, (.slice a_p0 p0.length c_p0)), (1, 9, (.func (.func g_p1) #[] k_p1.toArray))] (by kernel_rfl) (fun _ => by kernel_rfl) ?_
  have hS1 := hS.publish
  have hp2 := (h_p0).publish hS
  obtain ⟨r8, hx_r3, hr⟩ := bind_some hr
  refine WO.call rfl (by kernel_rfl) rfl (f := 51) (args := #[(.slice a_p0 p0.length c_p0), (.func (.func g_p1) #[] k_p1.toArray)]) (by kernel_rfl) (slices_IndexFunc_string_ok hp2 (fun {F Ic wc} {_} hlc hSc  {rc} hrc => h_p1 ((Mem.le_with I C_p0).trans hlc) hSc  hrc) hcall_p1 hS1 hx_r3) ?_
  rintro _ w4 ⟨I5, rfl, hl6, hS7⟩
  have hS9 := St.back hS hl6 hS7
  refine ⟨_, rfl, trivial, ?_⟩
  refine WO.vals [(3, 5, (.int .i64 r8))] (by kernel_rfl) (fun _ => by kernel_rfl) ?_
  refine WO.nil ?_
  refine En.next ?_
  refine W.seq ?_
  refine W.seq ?_
  refine W.region (l := [0, 1]) (by kernel_rfl) ?_
  refine WO.vals [(0, 11, (.int .i64 r8)), (1, 12, (.bool (r8 == (-1))))] (by kernel_rfl) (fun _ => by kernel_rfl) ?_
  refine WO.nil ?_
  refine En.next ?_
  refine W.cond (b := (r8 == (-1))) rfl rfl (fun hc => ?_) (fun hc => ?_)
  · replace hr := cond_t hc hr
    refine W.seq ?_
    refine W.region (l := [0, 1]) (by kernel_rfl) ?_
    refine WO.vals [(0, 13, (.slice a_p0 p0.length c_p0)), (1, 4, (.slice a_p0 p0.length c_p0))] (by kernel_rfl) (fun _ => by kernel_rfl) ?_
    refine WO.nil ?_
    refine En.next ?_
    refine W.ret ?_
    refine En.nx_ret ?_
    have he := Option.some.inj hr
    subst r
    exact En.ret1 rfl (.slice a_p0 p0.length c_p0) rfl ⟨I, a_p0, c_p0, C_p0, rfl, Mem.Le.refl _, hS9, h_p0⟩
  · replace hr := cond_f hc hr
    refine W.skip ?_
    refine En.next ?_
    refine W.seq ?_
    refine W.seq ?_
    refine W.region (l := [0, 1, 2]) (by kernel_rfl) ?_
    refine WO.vals [(0, 14, (.int .i64 r8)), (1, 15, (.int .i64 (w64 (r8 + 1)))), (2, 6, (.int .i64 (w64 (r8 + 1))))] (by kernel_rfl) (fun _ => by kernel_rfl) ?_
    refine WO.nil ?_
    refine En.next ?_
    refine W.block ?_
    obtain ⟨t10, hloop16, hr⟩ := bind_some hr
    refine W.weaken (fr' := [(0, (.slice a_p0 p0.length c_p0)), (1, (.func (.func g_p1) #[] k_p1.toArray)), (5, (.int .i64 r8)), (6, (.int .i64 (w64 (r8 + 1))))]) (W.loopO hloop16 (fun (s : Int × Int × (List ByteArray)) fr w => match s with | (s13, s14, s15) => ∃ (I11 : Mem), ∃ (C_s15 : Mem), fr = [(0, (.slice a_p0 s15.length c_p0)), (1, (.func (.func g_p1) #[] k_p1.toArray)), (5, (.int .i64 s13)), (6, (.int .i64 s14))] ∧ I.Le I11 ∧ St E w I11 ((C_s15) :: Os) ∧ OwnSl 9 1 RStr I11 C_s15 a_p0 c_p0 s15) ⟨I, C_p0, rfl, Mem.Le.refl _, hS9, h_p0⟩ ?_) (Sub.cons rfl (Sub.cons rfl (Sub.cons rfl (Sub.cons rfl Sub.nil))))
    rintro ⟨s13, s14, s15⟩ _ w17 ⟨I11, C_s15, rfl, hl12, hS18, h_s15⟩ x19 hr1 hext10
    refine W.seq ?_
    refine W.seq ?_
    refine W.region (l := [0, 1, 2, 3]) (by kernel_rfl) ?_
    refine WO.vals [(0, 16, (.int .i64 s14)), (1, 17, (.slice a_p0 s15.length c_p0)), (2, 18, (.int .i64 (s15.length : Int))), (3, 19, (.bool (decide (s14 < (s15.length : Int)))))] (by kernel_rfl) (fun _ => by kernel_rfl) ?_
    refine WO.nil ?_
    refine En.next ?_
    refine W.cond (b := (decide (s14 < (s15.length : Int)))) rfl rfl (fun hc => ?_) (fun hc => ?_)
    · replace hr1 := cond_t hc hr1
      refine W.skip ?_
      refine En.next ?_
      refine W.seq ?_
      refine W.block ?_
      refine W.seq ?_
      refine W.region (l := [0, 1, 2, 3, 4]) (by kernel_rfl) ?_
      refine WO.vals [(0, 22, (.slice a_p0 s15.length c_p0)), (1, 23, (.int .i64 s14))] (by kernel_rfl) (fun _ => by kernel_rfl) ?_
      obtain ⟨x20, hx_x20, hr1⟩ := bind_some hr1
      obtain ⟨h0_x20, h1_x20, hx_x20⟩ := idx_some hx_x20
      obtain ⟨ha_x20, cs_x20, hn_x20, hr_x20, hc_x20⟩ := (h_s15.sl).el _ _ hx_x20
      obtain rfl := hr_x20
      refine WO.indexAddr (e := 9) (sz := 1) rfl (by kernel_rfl) (by kernel_rfl) (by kernel_rfl) rfl ha_x20 rfl h0_x20 h1_x20 ?_
      refine WO.load rfl (by kernel_rfl) (by kernel_rfl) rfl (v := (.string x20)) (fun w' hw' => hc_x20.cell0 (by kernel_rfl) ((rd_f (hS18.rd (List.Mem.head _))) w' hw')) ?_
      refine WO.vals [(4, 7, (.string x20))] (by kernel_rfl) (fun _ => by kernel_rfl) ?_
      refine WO.nil ?_
      refine En.next ?_
      refine W.seq ?_
      refine W.region (l := [0, 1, 2, 3]) (by kernel_rfl) ?_
      refine WO.vals [(0, 26, (.func (.func g_p1) #[] k_p1.toArray)), (1, 27, (.string x20))] (by kernel_rfl) (fun _ => by kernel_rfl) ?_
      obtain ⟨r26, hx_r21, hr1⟩ := bind_some hr1
      refine WO.callv rfl (by kernel_rfl) rfl (g := g_p1) (kk := k_p1) (args := [(.string x20)]) rfl (by kernel_rfl) hcall_p1 (h_p1 (F := [C_s15]) hl12 hS18  hx_r21) ?_
      rintro _ w22 ⟨I23, rfl, hl24, hS25⟩
      refine ⟨_, rfl, trivial, ?_⟩
      refine WO.vals [(3, 29, (.bool (!r26)))] (by kernel_rfl) (fun _ => by kernel_rfl) ?_
      refine WO.nil ?_
      refine En.next ?_
      obtain ⟨j27, hr2, hr1⟩ := bind_some hr1
      refine W.join (J := (fun fr w => ∃ (s36 : Int), ∃ (s37 : List ByteArray), ∃ (I29 : Mem), ∃ (C_s37 : Mem), (s36, s37) = j27 ∧ fr = [(0, (.slice a_p0 s37.length c_p0)), (1, (.func (.func g_p1) #[] k_p1.toArray)), (5, (.int .i64 s36)), (6, (.int .i64 s14))] ∧ I23.Le I29 ∧ St E w I29 ((C_s37) :: Os) ∧ OwnSl 9 1 RStr I29 C_s37 a_p0 c_p0 s37)) ?restj27 ?waysj27
      case waysj27 =>
        refine W.cond (b := (!r26)) rfl rfl (fun hc => ?_) (fun hc => ?_)
        · replace hr2 := cond_t hc hr2
          refine W.seq ?_
          refine W.region (l := [0, 1, 2, 3, 4]) (by kernel_rfl) ?_
          refine WO.vals [(0, 30, (.slice a_p0 s15.length c_p0)), (1, 31, (.int .i64 s13)), (2, 32, (.string x20))] (by kernel_rfl) (fun _ => by kernel_rfl) ?_
          obtain ⟨x31, hx_x31, hr2⟩ := bind_some hr2
          obtain ⟨h0_x31, h1_x31, hx_x31⟩ := idx_some hx_x31
          obtain ⟨ha_x31, cs_x31, hn_x31, hr_x31, hc_x31⟩ := ((h_s15.mono hl24).sl).el _ _ hx_x31
          obtain rfl := hr_x31
          refine WO.indexAddr (e := 9) (sz := 1) rfl (by kernel_rfl) (by kernel_rfl) (by kernel_rfl) rfl ha_x31 rfl h0_x31 h1_x31 ?_
          refine WO.storeOwn hS25 (OwnSl.mono h_s15 hl24) rfl (by kernel_rfl) rfl hx_x31 (u' := x20) 0 rfl rfl (by kernel_rfl) rfl rfl (fun cs hrel => (by obtain rfl := hrel; exact rfl)) (fun _ _ _ => trivial) ?_
          intro w33 C34 hS32 ho35
          refine WO.reslot 0 rfl (show Value.slice a_p0 s15.length c_p0 = Value.slice a_p0 (s15.set (s13).toNat x20).length c_p0 by simp only [List.length_set]) ?_
          refine WO.nil ?_
          refine En.next ?_
          refine W.region (l := [0, 1, 2]) (by kernel_rfl) ?_
          refine WO.vals [(0, 34, (.int .i64 s13)), (1, 35, (.int .i64 (w64 (s13 + 1)))), (2, 5, (.int .i64 (w64 (s13 + 1))))] (by kernel_rfl) (fun _ => by kernel_rfl) ?_
          refine WO.nil ?_
          refine En.weaken (fr' := [(0, (.slice a_p0 (s15.set (s13).toNat x20).length c_p0)), (1, (.func (.func g_p1) #[] k_p1.toArray)), (5, (.int .i64 (w64 (s13 + 1)))), (6, (.int .i64 s14))]) (En.round ⟨(w64 (s13 + 1)), (s15.set (s13).toNat x20), I23, C34, Option.some.inj hr2, rfl, Mem.Le.refl _, hS32, ho35⟩) (Sub.cons rfl (Sub.cons rfl (Sub.cons rfl (Sub.cons rfl Sub.nil))))
        · replace hr2 := cond_f hc hr2
          refine W.skip ?_
          refine En.weaken (fr' := [(0, (.slice a_p0 s15.length c_p0)), (1, (.func (.func g_p1) #[] k_p1.toArray)), (5, (.int .i64 s13)), (6, (.int .i64 s14))]) (En.round ⟨s13, s15, I23, C_s15, Option.some.inj hr2, rfl, Mem.Le.refl _, hS25, (OwnSl.mono h_s15 hl24)⟩) (Sub.cons rfl (Sub.cons rfl (Sub.cons rfl (Sub.cons rfl Sub.nil))))
      case restj27 =>
        rintro _ w38 ⟨s36, s37, I29, C_s37, rfl, rfl, hl30, hS39, h_s37⟩
        refine En.in_normal ?_
        refine En.next ?_
        refine W.region (l := [0, 1, 2]) (by kernel_rfl) ?_
        refine WO.vals [(0, 20, (.int .i64 s14)), (1, 21, (.int .i64 (w64 (s14 + 1)))), (2, 6, (.int .i64 (w64 (s14 + 1))))] (by kernel_rfl) (fun _ => by kernel_rfl) ?_
        refine WO.nil ?_
        refine En.weaken (fr' := [(0, (.slice a_p0 s37.length c_p0)), (1, (.func (.func g_p1) #[] k_p1.toArray)), (5, (.int .i64 s36)), (6, (.int .i64 (w64 (s14 + 1))))]) (En.round ⟨(s36, (w64 (s14 + 1)), s37), (Option.some.inj hr1).symm, I29, C_s37, rfl, ((hl12.trans hl24).trans hl30), hS39, h_s37⟩) (Sub.cons rfl (Sub.cons rfl (Sub.cons rfl (Sub.cons rfl Sub.nil))))
    · replace hr1 := cond_f hc hr1
      refine W.exit ?_
      refine En.nx_exit ?_
      refine En.rd_exit ?_
      have ht := hext10 _ (Option.some.inj hr1).symm
      subst t10
      refine En.in_hit ?_
      refine En.next ?_
      refine W.seq ?_
      refine W.region (l := [0, 1, 2, 3]) (by kernel_rfl) ?_
      refine WO.vals [(0, 36, (.slice a_p0 s15.length c_p0)), (1, 37, (.int .i64 s13))] (by kernel_rfl) (fun _ => by kernel_rfl) ?_
      obtain ⟨x50, hx_x50, hr⟩ := bind_some hr
      obtain ⟨h0_x50, h1_x50, h2_x50, he_x50⟩ := sub_some hx_x50
      have hl_x50 : ((s15.length : Int) : Int) ≤ (c_p0 : Int) := Int.le_trans h2_x50 (Int.ofNat_le.2 (h_s15).sl.le)
      refine WO.slice (e := 9) (sz := 1) rfl (by kernel_rfl) (by kernel_rfl) (by kernel_rfl) rfl (s13 : Int) ((s15.length : Int) : Int) h0_x50 (.inr ⟨_, _, rfl, rfl⟩) (.inl ⟨rfl, rfl⟩) h1_x50 hl_x50 ?_
      refine WO.reslot 38 rfl (show _ = Value.slice (subA a_p0 c_p0 (s13).toNat 1) (s15.length - (s13).toNat) (c_p0 - (s13).toNat) from rfl) ?_
      have hlo_C51 : (s13).toNat ≤ s15.length := by first | omega | (simp only [List.length_set]; omega)
      refine WO.clear hS18 h_s15 (t := 26) (e := 9) (by kernel_rfl) (zs := [(.string (⟨#[]⟩ : ByteArray))]) (by kernel_rfl) (z0 := (⟨#[]⟩ : ByteArray)) rfl (by kernel_rfl) (by kernel_rfl) (by kernel_rfl) rfl (by kernel_rfl) rfl (lo := (s13).toNat) hlo_C51 rfl (fun _ _ _ => trivial) ?_
      intro w53 C51 hS52 ho54
      refine WO.reslot 0 rfl (show Value.slice a_p0 s15.length c_p0 = Value.slice a_p0 (s15.take (s13).toNat ++ List.replicate (s15.length - (s13).toNat) (⟨#[]⟩ : ByteArray)).length c_p0 by congr 1; simp only [List.length_append, List.length_take, List.length_replicate]; omega) ?_
      refine WO.reslot 17 rfl (show Value.slice a_p0 s15.length c_p0 = Value.slice a_p0 (s15.take (s13).toNat ++ List.replicate (s15.length - (s13).toNat) (⟨#[]⟩ : ByteArray)).length c_p0 by congr 1; simp only [List.length_append, List.length_take, List.length_replicate]; omega) ?_
      refine WO.reslot 36 rfl (show Value.slice a_p0 s15.length c_p0 = Value.slice a_p0 (s15.take (s13).toNat ++ List.replicate (s15.length - (s13).toNat) (⟨#[]⟩ : ByteArray)).length c_p0 by congr 1; simp only [List.length_append, List.length_take, List.length_replicate]; omega) ?_
      refine WO.nil ?_
      refine En.next ?_
      refine W.seq ?_
      refine W.region (l := [0, 1, 2, 3]) (by kernel_rfl) ?_
      refine WO.vals [(0, 39, (.slice a_p0 (s15.take (s13).toNat ++ List.replicate (s15.length - (s13).toNat) (⟨#[]⟩ : ByteArray)).length c_p0)), (1, 40, (.int .i64 s13))] (by kernel_rfl) (fun _ => by kernel_rfl) ?_
      obtain ⟨x55, hx_x55, hr⟩ := bind_some hr
      obtain ⟨h0_x55, h1_x55, h2_x55, he_x55⟩ := sub_some hx_x55
      have hl_x55 : (s13 : Int) ≤ (c_p0 : Int) := Int.le_trans h2_x55 (Int.ofNat_le.2 (ho54).sl.le)
      refine WO.slice (e := 9) (sz := 1) rfl (by kernel_rfl) (by kernel_rfl) (by kernel_rfl) rfl (0 : Int) (s13 : Int) h0_x55 (.inl ⟨rfl, rfl⟩) (.inr ⟨_, _, rfl, rfl⟩) h1_x55 hl_x55 ?_
      obtain ⟨ho56, ev_x55⟩ := OwnSl.pre ho54 (Int.le_trans h0_x55 h1_x55) h2_x55 he_x55
      refine WO.reslot 41 rfl ev_x55 ?_
      refine WO.vals [(3, 4, (.slice a_p0 x55.length c_p0))] (by kernel_rfl) (fun _ => by kernel_rfl) ?_
      refine WO.nil ?_
      refine En.next ?_
      refine W.ret ?_
      have he := Option.some.inj hr
      subst r
      exact En.ret1 rfl (.slice a_p0 x55.length c_p0) rfl ⟨I11, a_p0, c_p0, C51, rfl, hl12, hS52, ho56⟩
def member_Drop_1 (p0 : ByteArray) (q1 : ByteArray) : Option Bool := some (sEq p0 q1)
set_option maxHeartbeats 1000000 in
theorem member_Drop_1_ok {E w : World} {I : Mem} {Os : List Mem} {p0 : ByteArray} {q1 : ByteArray} {kb1 : Nat} (hm1 : (Gv.one kb1 (.cells #[(.string q1)] 9 (0, 0))) ∈ Os) (hS : St E w I Os) {r : Bool} (hr : member_Drop_1 p0 q1 = some r) :
    Calls P 44 #[(.string p0), (.pointer (some ⟨kb1, 0, none⟩))] w (fun e w' => ∃ (I' : Mem), e = .returned (.bool r) ∧ I.Le I' ∧ St E w' I' Os) := by
  refine calls_W (args := [(.string p0), (.pointer (some ⟨kb1, 0, none⟩))]) (fn := Tryz.f44) rfl rfl rfl ?_
  unfold member_Drop_1 at hr
  refine W.seq ?_
  refine W.region (l := [0]) (by kernel_rfl) ?_
  refine WO.vals [(0, 3, (.bool false))] (by kernel_rfl) (fun _ => by kernel_rfl) ?_
  refine WO.nil ?_
  refine En.next ?_
  refine W.seq ?_
  refine W.region (l := [0, 1, 2, 3]) (by kernel_rfl) ?_
  refine WO.vals [(0, 4, (.string p0))] (by kernel_rfl) (fun _ => by kernel_rfl) ?_
  refine WO.load rfl (by kernel_rfl) (by kernel_rfl) rfl (v := (.string q1)) (fun w' hw' => cell_one ((rd_f (hS.rd hm1)) w' hw') (by kernel_rfl)) ?_
  refine WO.vals [(2, 6, (.bool (sEq p0 q1))), (3, 3, (.bool (sEq p0 q1)))] (by kernel_rfl) (fun _ => by kernel_rfl) ?_
  refine WO.nil ?_
  refine En.next ?_
  refine W.ret ?_
  have he := Option.some.inj hr
  subst r
  exact En.ret1 rfl (.bool (sEq p0 q1)) rfl ⟨I, rfl, Mem.Le.refl _, hS⟩
noncomputable def dropAll (xs : List api_Role) (n : ByteArray) : Option (List api_Role) := forE (fun (i : Nat) => fun (s : List api_Role) => (idx s (i : Int)).bind fun x => (slices_DeleteFunc_string x.In (fun (u0 : ByteArray) => member_Drop_1 u0 n)).bind fun y => some (s.set i { x with In := y })) xs.length 0 xs
noncomputable def dropT (l : List api_Role) (i : Int) (n : ByteArray) : Option (List api_Role × Int) := open Classical in if fits l ∧ 0 ≤ i ∧ i < (l.length : Int) then (dropAll (l.take i.toNat ++ l.drop (i + 1).toNat) n).bind fun y => some (y, 0) else none
noncomputable def member_Drop (p0 : List api_Role) (p1 : ByteArray) : Option ((List api_Role) × Int) := (member_Check p0).bind (fun (r10 : Int) => (bif (r10 != 0) then some (([] : List api_Role), r10) else (member_at p0 p1).bind (fun (r17 : Int) => (bif (decide (r17 < 0)) then some (([] : List api_Role), 4) else (bif (sEq p1 (⟨#[114, 111, 111, 116]⟩ : ByteArray)) then some (([] : List api_Role), 34) else (dropT p0 r17 p1))))))
set_option maxHeartbeats 1000000 in
theorem member_Drop_ok {E w : World} {I : Mem} {Os : List Mem} {p0 : List api_Role} {p1 : ByteArray} {a_p0 : Option Addr} {c_p0 : Nat} (h_p0 : RSl 2 R_api_Role I a_p0 c_p0 p0) (hS : St E w I Os) {r : (List api_Role) × Int} (hr : member_Drop p0 p1 = some r) :
    Calls P 16 #[(.slice a_p0 p0.length c_p0), (.string p1)] w (fun e w' => ∃ (I' : Mem) (ra0 : Option Addr) (rc0 : Nat), e = .returned (.tuple #[(.slice ra0 r.1.length rc0), (.int .i64 r.2)]) ∧ I.Le I' ∧ St E w' I' Os ∧ RSl 2 R_api_Role I' ra0 rc0 r.1) := by
  refine calls_W (args := [(.slice a_p0 p0.length c_p0), (.string p1)]) (fn := Tryz.f16) rfl rfl rfl ?_
  unfold member_Drop at hr
  refine W.seq ?_
  refine W.region (l := [0, 1, 2]) (by kernel_rfl) ?_
  refine WO.new hS rfl (by kernel_rfl) rfl (.cells #[(.string p1)] 9 (0, 0)) (fun b => .pointer (some ⟨b, 0, none⟩)) (by kernel_rfl) (fun _ _ _ => trivial) ?_
  intro b1 w4 hS3
  refine WO.vals [(1, 4, (.slice none 0 0)), (2, 5, (.int .i64 0))] (by kernel_rfl) (fun _ => by kernel_rfl) ?_
  refine WO.nil ?_
  refine En.next ?_
  refine W.seq ?_
  refine W.seq ?_
  refine W.region (l := [0, 1, 2]) (by kernel_rfl) ?_
  refine WO.vals [(0, 10, (.slice a_p0 p0.length c_p0))] (by kernel_rfl) (fun _ => by kernel_rfl) ?_
  obtain ⟨r10, hx_r5, hr⟩ := bind_some hr
  refine WO.call rfl (by kernel_rfl) rfl (f := 10) (args := #[(.slice a_p0 p0.length c_p0)]) (by kernel_rfl) (member_Check_ok h_p0 hS3 hx_r5) ?_
  rintro _ w6 ⟨I7, rfl, hl8, hS9⟩
  refine ⟨_, rfl, trivial, ?_⟩
  refine WO.vals [(2, 6, (.int .i64 r10))] (by kernel_rfl) (fun _ => by kernel_rfl) ?_
  refine WO.nil ?_
  refine En.next ?_
  refine W.seq ?_
  refine W.region (l := [0, 1]) (by kernel_rfl) ?_
  refine WO.vals [(0, 12, (.int .i64 r10)), (1, 13, (.bool (r10 != 0)))] (by kernel_rfl) (fun _ => by kernel_rfl) ?_
  refine WO.nil ?_
  refine En.next ?_
  refine W.cond (b := (r10 != 0)) rfl rfl (fun hc => ?_) (fun hc => ?_)
  · replace hr := cond_t hc hr
    refine W.seq ?_
    refine W.region (l := [0, 1, 2]) (by kernel_rfl) ?_
    refine WO.vals [(0, 14, (.int .i64 r10)), (1, 4, (.slice none 0 0)), (2, 5, (.int .i64 r10))] (by kernel_rfl) (fun _ => by kernel_rfl) ?_
    refine WO.nil ?_
    refine En.next ?_
    refine W.ret ?_
    refine En.nx_ret ?_
    have hS11 := hS9.drop
    have he := Option.some.inj hr
    subst r
    exact En.ret2 rfl (.slice none 0 0) (.int .i64 r10) rfl rfl ⟨I7, none, 0, rfl, hl8, hS11, SlAt.nil⟩
  · replace hr := cond_f hc hr
    refine W.skip ?_
    refine En.next ?_
    refine W.seq ?_
    refine W.region (l := [0, 1, 2, 3]) (by kernel_rfl) ?_
    refine WO.vals [(0, 15, (.slice a_p0 p0.length c_p0))] (by kernel_rfl) (fun _ => by kernel_rfl) ?_
    refine WO.load rfl (by kernel_rfl) (by kernel_rfl) rfl (v := (.string p1)) (fun w' hw' => cell_one ((rd_f (hS9.rd (List.Mem.head _))) w' hw') (by kernel_rfl)) ?_
    obtain ⟨r17, hx_r12, hr⟩ := bind_some hr
    refine WO.call rfl (by kernel_rfl) rfl (f := 34) (args := #[(.slice a_p0 p0.length c_p0), (.string p1)]) (by kernel_rfl) (member_at_ok (RSl.mono h_p0 hl8) hS9 hx_r12) ?_
    rintro _ w13 ⟨I14, rfl, hl15, hS16⟩
    refine ⟨_, rfl, trivial, ?_⟩
    refine WO.vals [(3, 7, (.int .i64 r17))] (by kernel_rfl) (fun _ => by kernel_rfl) ?_
    refine WO.nil ?_
    refine En.next ?_
    refine W.seq ?_
    refine W.block ?_
    refine W.seq ?_
    refine W.region (l := [0, 1, 2]) (by kernel_rfl) ?_
    refine WO.vals [(0, 19, (.int .i64 r17)), (1, 20, (.bool (decide (r17 < 0)))), (2, 18, (.bool (decide (r17 < 0))))] (by kernel_rfl) (fun _ => by kernel_rfl) ?_
    refine WO.nil ?_
    refine En.next ?_
    refine W.cond (b := (decide (r17 < 0))) rfl rfl (fun hc => ?_) (fun hc => ?_)
    · replace hr := cond_t hc hr
      refine W.seq ?_
      refine W.region (l := [0, 1]) (by kernel_rfl) ?_
      refine WO.vals [(0, 4, (.slice none 0 0)), (1, 5, (.int .i64 4))] (by kernel_rfl) (fun _ => by kernel_rfl) ?_
      refine WO.nil ?_
      refine En.next ?_
      refine W.ret ?_
      refine En.in_ret ?_
      refine En.nx_ret ?_
      have hS18 := hS16.drop
      have he := Option.some.inj hr
      subst r
      exact En.ret2 rfl (.slice none 0 0) (.int .i64 4) rfl rfl ⟨I14, none, 0, rfl, (hl8.trans hl15), hS18, SlAt.nil⟩
    · replace hr := cond_f hc hr
      refine W.seq ?_
      refine W.region (l := [0, 1, 2]) (by kernel_rfl) ?_
      refine WO.load rfl (by kernel_rfl) (by kernel_rfl) rfl (v := (.string p1)) (fun w' hw' => cell_one ((rd_f (hS16.rd (List.Mem.head _))) w' hw') (by kernel_rfl)) ?_
      refine WO.vals [(1, 23, (.bool (sEq p1 (⟨#[114, 111, 111, 116]⟩ : ByteArray)))), (2, 21, (.bool (sEq p1 (⟨#[114, 111, 111, 116]⟩ : ByteArray))))] (by kernel_rfl) (fun _ => by kernel_rfl) ?_
      refine WO.nil ?_
      refine En.next ?_
      refine W.cond (b := (sEq p1 (⟨#[114, 111, 111, 116]⟩ : ByteArray))) rfl rfl (fun hc => ?_) (fun hc => ?_)
      · replace hr := cond_t hc hr
        refine W.seq ?_
        refine W.region (l := [0, 1]) (by kernel_rfl) ?_
        refine WO.vals [(0, 4, (.slice none 0 0)), (1, 5, (.int .i64 34))] (by kernel_rfl) (fun _ => by kernel_rfl) ?_
        refine WO.nil ?_
        refine En.next ?_
        refine W.ret ?_
        refine En.in_ret ?_
        refine En.nx_ret ?_
        have hS19 := hS16.drop
        have he := Option.some.inj hr
        subst r
        exact En.ret2 rfl (.slice none 0 0) (.int .i64 34) rfl rfl ⟨I14, none, 0, rfl, (hl8.trans hl15), hS19, SlAt.nil⟩
      · replace hr := cond_f hc hr
        refine W.skip ?_
        refine En.in_normal ?_
        refine En.next ?_
        refine W.seq ?_
        refine W.region (l := [0, 1, 2, 3, 4, 5, 6]) (by kernel_rfl) ?_
        refine WO.vals [(0, 24, (.slice a_p0 p0.length c_p0))] (by kernel_rfl) (fun _ => by kernel_rfl) ?_
        have hr0 := hr
        unfold dropT at hr0
        split at hr0
        rotate_left
        · cases hr0
        rename_i hfit
        obtain ⟨hfit, i0, i1⟩ := hfit
        obtain ⟨y0, hy0, hr0⟩ := bind_some hr0
        have he := Option.some.inj hr0
        subst he
        unfold dropAll at hy0
        obtain ⟨kn, hkn⟩ := Int.eq_ofNat_of_zero_le i0
        have hk1 : kn < p0.length := by omega
        refine WO.call rfl (by kernel_rfl) rfl (f := 35) (args := #[(.slice a_p0 p0.length c_p0)]) (by kernel_rfl) (clone2_ok (RSl.mono h_p0 (hl8.trans hl15)) hS16 hfit) ?_
        rintro _ qw1 ⟨QI1, a, c, C, rs, Ds, rfl, ql1, qS1, ho1, hn1⟩
        refine ⟨_, rfl, trivial, ?_⟩
        refine WO.vals [(2, 26, (.int .i64 r17)), (3, 27, (.int .i64 r17)), (4, 28, (.int .i64 (w64 (r17 + 1))))] (by kernel_rfl) (fun _ => by kernel_rfl) ?_
        have hxc := ho1.sl.lt
        have hxl := ho1.sl.le
        have hn1l := hn1.l1
        have hw1 : w64 (r17 + 1) = ((kn + 1 : Nat) : Int) := by rw [hkn, w64_id (by omega) (by unfold big at hxc; omega)]; rfl
        refine WO.reslot 28 rfl (congrArg (Value.int .i64) hw1) ?_
        refine WO.reslot 26 rfl (congrArg (Value.int .i64) hkn) ?_
        refine WO.call rfl (by kernel_rfl) rfl (f := 42) (args := #[(.slice a rs.length c), (.int .i64 (kn : Int)), (.int .i64 ((kn + 1 : Nat) : Int))]) (by rw [hn1l]; kernel_rfl) (del42_ok ho1 qS1 (p := kn) (q := kn + 1) (by omega) (by omega)) ?_
        rintro _ qw2 ⟨C2, rfl, qS2, ho2⟩
        refine ⟨_, rfl, trivial, ?_⟩
        rw [hkn, Int.toNat_natCast, show ((kn : Int) + 1).toNat = kn + 1 by omega] at hy0
        have hn2 := hn1.del (p := kn) (q := kn + 1) (by omega) (by omega)
        have hn2l := hn2.l1
        rw [hn2l]
        have qS2b : St E qw2 QI1 (C2 :: ((Ds.take kn ++ Ds.drop (kn + 1)) ++ ((Gv.one b1 (.cells #[(.string p1)] 9 (0, 0))) :: Os))) := qS2.sub ((List.Sublist.append (del_sub Ds (by omega)) (List.Sublist.refl _)).cons_cons C2)
        generalize Ds.take kn ++ Ds.drop (kn + 1) = Ds2 at *
        generalize rs.take kn ++ rs.drop (kn + 1) = rs2 at *
        generalize p0.take kn ++ p0.drop (kn + 1) = xs0 at *
        refine WO.vals [(6, 8, (.slice a xs0.length c))] (by kernel_rfl) (fun _ => by kernel_rfl) ?_
        refine WO.nil ?_
        refine En.next ?_
        refine W.seq ?_
        refine W.seq ?_
        refine W.region (l := [0, 1, 2]) (by kernel_rfl) ?_
        refine WO.vals [(0, 30, (.slice a xs0.length c)), (1, 31, (.int .i64 (xs0.length : Int))), (2, 32, (.int .i64 0))] (by kernel_rfl) (fun _ => by kernel_rfl) ?_
        refine WO.nil ?_
        refine En.next ?_
        refine W.block ?_
        have hlt16 := (ho2.sl).len_lt
        refine W.weaken (fr' := [(3, (.pointer (some ⟨b1, 0, none⟩))), (8, (.slice a xs0.length c)), (31, (.int .i64 (xs0.length : Int))), (32, (.int .i64 ((0 : Nat) : Int)))]) (W.forE (m := xs0.length) hy0 (fun (i : Nat) => fun (s : List api_Role) fr w => ∃ (J C' : Mem) (rs : List RawRole) (Ds : List Mem), fr = [(3, (.pointer (some ⟨b1, 0, none⟩))), (8, (.slice a xs0.length c)), (31, (.int .i64 (xs0.length : Int))), (32, (.int .i64 (i : Int)))] ∧ QI1.Le J ∧ St E w J (C' :: (Ds ++ ((Gv.one b1 (.cells #[(.string p1)] 9 (0, 0))) :: Os))) ∧ OwnSl 28 2 R_Raw J C' a c rs ∧ Nest J rs Ds s ∧ s.length = xs0.length) ⟨QI1, C2, rs2, Ds2, rfl, Mem.Le.refl _, qS2b, ho2, hn2, rfl⟩ ?roundt7 ?lastt7) (Sub.cons rfl (Sub.cons rfl (Sub.cons rfl (Sub.cons rfl Sub.nil))))
        case roundt7 =>
          rintro i s _ qw13 hi ⟨J, C', rs, Ds, rfl, ql9, qS14, ho, hn, hsl⟩ x15 hr1
          refine W.seq ?_
          refine W.region (l := [0]) (by kernel_rfl) ?_
          refine WO.vals [(0, 33, (.bool (decide ((i : Int) < (xs0.length : Int)))))] (by kernel_rfl) (fun _ => by kernel_rfl) ?_
          refine WO.nil ?_
          refine En.next ?_
          refine W.seq ?_
          refine W.cond (b := (decide ((i : Int) < (xs0.length : Int)))) rfl rfl (fun hc => ?_) (fun hc => ?_)
          rotate_left
          · exact absurd hc (by first | (simp; done) | (simp; omega))
          clear hc
          refine W.skip ?_
          refine En.next ?_
          refine W.seq ?_
          refine W.block ?_
          refine W.seq ?_
          refine W.region (l := [0, 1]) (by kernel_rfl) ?_
          refine WO.vals [(0, 34, (.int .i64 (i : Int))), (1, 9, (.int .i64 (i : Int)))] (by kernel_rfl) (fun _ => by kernel_rfl) ?_
          refine WO.nil ?_
          refine En.next ?_
          refine W.region (l := [0, 1, 2, 3, 4, 5, 6, 7, 8, 9, 10, 11]) (by kernel_rfl) ?_
          refine WO.vals [(0, 35, (.slice a xs0.length c)), (1, 36, (.int .i64 (i : Int))), (2, 37, (.slice a xs0.length c)), (3, 38, (.int .i64 (i : Int)))] (by kernel_rfl) (fun _ => by kernel_rfl) ?_
          obtain ⟨x0, hx0, hr1⟩ := bind_some hr1
          rw [idx_nat] at hx0
          obtain ⟨y1, hy1, hr1⟩ := bind_some hr1
          have he := Option.some.inj hr1
          subst he
          obtain ⟨r1, D1, e1, e2, g1, g2, g3⟩ := hn.get hx0
          have hlt := (List.getElem?_eq_some_iff.1 e2).1
          obtain ⟨ha, cs, hcn, hrr, hcc⟩ := ho.sl.el _ _ e1
          obtain rfl := hrr
          refine WO.indexAddr (e := 28) (sz := 2) rfl (by kernel_rfl) (by kernel_rfl) (by kernel_rfl) rfl ha rfl (by omega) (by omega) ?_
          refine WO.vals [(5, 40, (.pointer (some ⟨bl a, of a + ((i : Int)).toNat * 2 + 1, none⟩)))] (by kernel_rfl) (fun _ => by kernel_rfl) ?_
          refine WO.load rfl (by kernel_rfl) (by kernel_rfl) rfl (v := (.slice r1.a r1.n r1.c)) (fun w' hw' => hcc.cellk 1 (by kernel_rfl) ((rd_f (qS14.rd (List.Mem.head _))) w' hw')) ?_
          rw [g2]
          refine WO.vals [(7, 42, (.func (.func 44) #[] #[(.pointer (some ⟨b1, 0, none⟩))]))] (by kernel_rfl) (fun _ => by kernel_rfl) ?_
          have qS1p := st_pick qS14 e2
          refine WO.call rfl (by kernel_rfl) rfl (f := 43) (args := #[(.slice r1.a x0.In.length r1.c), (.func (.func 44) #[] #[(.pointer (some ⟨b1, 0, none⟩))])]) (by kernel_rfl) (slices_DeleteFunc_string_ok g3 (fun {F Ic wc} {_} hlc hSc {rc} hrc => member_Drop_1_ok (List.mem_append_right _ (List.Mem.tail _ (List.mem_append_right _ (List.Mem.head _)))) hSc hrc) (fun _ _ => by kernel_rfl) qS1p hy1) ?_
          rintro _ qw2 ⟨QI2, a2, c2, D2, rfl, ql2, qS3, h6⟩
          refine ⟨_, rfl, trivial, ?_⟩
          refine WO.indexAddr (e := 28) (sz := 2) rfl (by kernel_rfl) (by kernel_rfl) (by kernel_rfl) rfl ha rfl (by omega) (by omega) ?_
          refine WO.vals [(10, 45, (.pointer (some ⟨bl a, of a + ((i : Int)).toNat * 2 + 1, none⟩)))] (by kernel_rfl) (fun _ => by kernel_rfl) ?_
          have qS7 := st_unpick qS3 hlt
          refine WO.storeOwn (m := i) qS7 (ho.mono ql2) rfl (by kernel_rfl) rfl e1 (u' := { r1 with a := a2, c := c2, n := y1.length }) 1 rfl rfl (by kernel_rfl) rfl rfl (fun cs hrel => (by obtain rfl := hrel; rfl)) (fun _ _ _ => trivial) ?_
          intro qw5 C5 qS8 ho8
          refine WO.nil ?_
          refine En.in_normal ?_
          refine En.next ?_
          refine W.region (l := [0, 1]) (by kernel_rfl) ?_
          refine WO.incr (j := i) rfl (by kernel_rfl) rfl (by first | omega | (dsimp only at *; omega)) ?_
          refine WO.vals [(1, 32, (.int .i64 ((i + 1 : Nat) : Int)))] (by kernel_rfl) (fun _ => by kernel_rfl) ?_
          refine WO.nil ?_
          refine En.weaken (fr' := [(3, (.pointer (some ⟨b1, 0, none⟩))), (8, (.slice a xs0.length c)), (31, (.int .i64 (xs0.length : Int))), (32, (.int .i64 ((i + 1 : Nat) : Int)))]) (En.round ⟨QI2, C5, _, _, rfl, ql9.trans ql2, qS8, ho8, (hn.mono ql2).set i (r := { r1 with a := a2, c := c2, n := y1.length }) (D := D2) (x := { x0 with In := y1 }) g1 rfl h6, by rw [List.length_set]; exact hsl⟩) (Sub.cons rfl (Sub.cons rfl (Sub.cons rfl (Sub.cons rfl Sub.nil))))
        case lastt7 =>
          rintro _ qw35 ⟨J, C', rs, Ds, rfl, ql9, qS36, ho, hn, hsl⟩
          refine W.seq ?_
          refine W.region (l := [0]) (by kernel_rfl) ?_
          refine WO.vals [(0, 33, (.bool (decide ((xs0.length : Int) < (xs0.length : Int)))))] (by kernel_rfl) (fun _ => by kernel_rfl) ?_
          refine WO.nil ?_
          refine En.next ?_
          refine W.seq ?_
          refine W.cond (b := (decide ((xs0.length : Int) < (xs0.length : Int)))) rfl rfl (fun hc => ?_) (fun hc => ?_)
          · exact absurd hc (by first | (simp; done) | (simp; omega))
          clear hc
          refine W.exit ?_
          refine En.nx_exit ?_
          refine En.rd_exit ?_
          refine En.in_hit ?_
          refine En.next ?_
          refine W.seq ?_
          refine W.region (l := [0, 1, 2]) (by kernel_rfl) ?_
          refine WO.vals [(0, 47, (.slice a xs0.length c)), (1, 4, (.slice a xs0.length c)), (2, 5, (.int .i64 0))] (by kernel_rfl) (fun _ => by kernel_rfl) ?_
          refine WO.nil ?_
          refine En.next ?_
          refine W.ret ?_
          obtain ⟨QI9, ql9b, qS9, hp9⟩ := hn.pub ho qS36
          exact En.ret2 rfl (.slice a xs0.length c) (.int .i64 0) rfl rfl ⟨QI9, a, c, by simp only [hsl], (hl8.trans hl15).trans (ql1.trans (ql9.trans ql9b)), qS9.drop, hp9⟩
def member_Revoke_1 (p0 : ByteArray) (q1 : ByteArray) : Option Bool := some (sEq p0 q1)
set_option maxHeartbeats 1000000 in
theorem member_Revoke_1_ok {E w : World} {I : Mem} {Os : List Mem} {p0 : ByteArray} {q1 : ByteArray} {kb1 : Nat} (hm1 : (Gv.one kb1 (.cells #[(.string q1)] 9 (0, 0))) ∈ Os) (hS : St E w I Os) {r : Bool} (hr : member_Revoke_1 p0 q1 = some r) :
    Calls P 45 #[(.string p0), (.pointer (some ⟨kb1, 0, none⟩))] w (fun e w' => ∃ (I' : Mem), e = .returned (.bool r) ∧ I.Le I' ∧ St E w' I' Os) := by
  refine calls_W (args := [(.string p0), (.pointer (some ⟨kb1, 0, none⟩))]) (fn := Tryz.f45) rfl rfl rfl ?_
  unfold member_Revoke_1 at hr
  refine W.seq ?_
  refine W.region (l := [0]) (by kernel_rfl) ?_
  refine WO.vals [(0, 3, (.bool false))] (by kernel_rfl) (fun _ => by kernel_rfl) ?_
  refine WO.nil ?_
  refine En.next ?_
  refine W.seq ?_
  refine W.region (l := [0, 1, 2, 3]) (by kernel_rfl) ?_
  refine WO.vals [(0, 4, (.string p0))] (by kernel_rfl) (fun _ => by kernel_rfl) ?_
  refine WO.load rfl (by kernel_rfl) (by kernel_rfl) rfl (v := (.string q1)) (fun w' hw' => cell_one ((rd_f (hS.rd hm1)) w' hw') (by kernel_rfl)) ?_
  refine WO.vals [(2, 6, (.bool (sEq p0 q1))), (3, 3, (.bool (sEq p0 q1)))] (by kernel_rfl) (fun _ => by kernel_rfl) ?_
  refine WO.nil ?_
  refine En.next ?_
  refine W.ret ?_
  have he := Option.some.inj hr
  subst r
  exact En.ret1 rfl (.bool (sEq p0 q1)) rfl ⟨I, rfl, Mem.Le.refl _, hS⟩
noncomputable def revokeT (l : List api_Role) (i : Int) (n : ByteArray) : Option (List api_Role × Int) := open Classical in if fits l then (idx l i).bind fun x => (slices_DeleteFunc_string x.In (fun (u0 : ByteArray) => member_Revoke_1 u0 n)).bind fun y => some (l.set i.toNat { x with In := y }, 0) else none
noncomputable def member_Revoke (p0 : List api_Role) (p1 : ByteArray) (p2 : ByteArray) : Option ((List api_Role) × Int) := (member_Check p0).bind (fun (r10 : Int) => (bif (r10 != 0) then some (([] : List api_Role), r10) else (member_at p0 p2).bind (fun (r17 : Int) => ((bif (decide (r17 < 0)) then some true else (idx p0 r17).bind (fun (x24 : api_Role) => (slices_Contains_string x24.In p1).bind (fun (r30 : Bool) => some (!r30))))).bind (fun (j20 : Bool) => (bif j20 then some (([] : List api_Role), 4) else (revokeT p0 r17 p1))))))
set_option maxHeartbeats 1000000 in
theorem member_Revoke_ok {E w : World} {I : Mem} {Os : List Mem} {p0 : List api_Role} {p1 : ByteArray} {p2 : ByteArray} {a_p0 : Option Addr} {c_p0 : Nat} (h_p0 : RSl 2 R_api_Role I a_p0 c_p0 p0) (hS : St E w I Os) {r : (List api_Role) × Int} (hr : member_Revoke p0 p1 p2 = some r) :
    Calls P 17 #[(.slice a_p0 p0.length c_p0), (.string p1), (.string p2)] w (fun e w' => ∃ (I' : Mem) (ra0 : Option Addr) (rc0 : Nat), e = .returned (.tuple #[(.slice ra0 r.1.length rc0), (.int .i64 r.2)]) ∧ I.Le I' ∧ St E w' I' Os ∧ RSl 2 R_api_Role I' ra0 rc0 r.1) := by
  refine calls_W (args := [(.slice a_p0 p0.length c_p0), (.string p1), (.string p2)]) (fn := Tryz.f17) rfl rfl rfl ?_
  unfold member_Revoke at hr
  refine W.seq ?_
  refine W.region (l := [0, 1, 2]) (by kernel_rfl) ?_
  refine WO.new hS rfl (by kernel_rfl) rfl (.cells #[(.string p1)] 9 (0, 0)) (fun b => .pointer (some ⟨b, 0, none⟩)) (by kernel_rfl) (fun _ _ _ => trivial) ?_
  intro b1 w4 hS3
  refine WO.vals [(1, 6, (.slice none 0 0)), (2, 7, (.int .i64 0))] (by kernel_rfl) (fun _ => by kernel_rfl) ?_
  refine WO.nil ?_
  refine En.next ?_
  refine W.seq ?_
  refine W.seq ?_
  refine W.region (l := [0, 1, 2]) (by kernel_rfl) ?_
  refine WO.vals [(0, 11, (.slice a_p0 p0.length c_p0))] (by kernel_rfl) (fun _ => by kernel_rfl) ?_
  obtain ⟨r10, hx_r5, hr⟩ := bind_some hr
  refine WO.call rfl (by kernel_rfl) rfl (f := 10) (args := #[(.slice a_p0 p0.length c_p0)]) (by kernel_rfl) (member_Check_ok h_p0 hS3 hx_r5) ?_
  rintro _ w6 ⟨I7, rfl, hl8, hS9⟩
  refine ⟨_, rfl, trivial, ?_⟩
  refine WO.vals [(2, 8, (.int .i64 r10))] (by kernel_rfl) (fun _ => by kernel_rfl) ?_
  refine WO.nil ?_
  refine En.next ?_
  refine W.seq ?_
  refine W.region (l := [0, 1]) (by kernel_rfl) ?_
  refine WO.vals [(0, 13, (.int .i64 r10)), (1, 14, (.bool (r10 != 0)))] (by kernel_rfl) (fun _ => by kernel_rfl) ?_
  refine WO.nil ?_
  refine En.next ?_
  refine W.cond (b := (r10 != 0)) rfl rfl (fun hc => ?_) (fun hc => ?_)
  · replace hr := cond_t hc hr
    refine W.seq ?_
    refine W.region (l := [0, 1, 2]) (by kernel_rfl) ?_
    refine WO.vals [(0, 15, (.int .i64 r10)), (1, 6, (.slice none 0 0)), (2, 7, (.int .i64 r10))] (by kernel_rfl) (fun _ => by kernel_rfl) ?_
    refine WO.nil ?_
    refine En.next ?_
    refine W.ret ?_
    refine En.nx_ret ?_
    have hS11 := hS9.drop
    have he := Option.some.inj hr
    subst r
    exact En.ret2 rfl (.slice none 0 0) (.int .i64 r10) rfl rfl ⟨I7, none, 0, rfl, hl8, hS11, SlAt.nil⟩
  · replace hr := cond_f hc hr
    refine W.skip ?_
    refine En.next ?_
    refine W.seq ?_
    refine W.region (l := [0, 1, 2, 3]) (by kernel_rfl) ?_
    refine WO.vals [(0, 16, (.slice a_p0 p0.length c_p0)), (1, 17, (.string p2))] (by kernel_rfl) (fun _ => by kernel_rfl) ?_
    obtain ⟨r17, hx_r12, hr⟩ := bind_some hr
    refine WO.call rfl (by kernel_rfl) rfl (f := 34) (args := #[(.slice a_p0 p0.length c_p0), (.string p2)]) (by kernel_rfl) (member_at_ok (RSl.mono h_p0 hl8) hS9 hx_r12) ?_
    rintro _ w13 ⟨I14, rfl, hl15, hS16⟩
    refine ⟨_, rfl, trivial, ?_⟩
    refine WO.vals [(3, 9, (.int .i64 r17))] (by kernel_rfl) (fun _ => by kernel_rfl) ?_
    refine WO.nil ?_
    refine En.next ?_
    refine W.seq ?_
    refine W.seq ?_
    have hS18 := hS16.drew
    refine W.draw (l := [0, 1, 2, 3, 4, 5, 6, 7, 8, 9, 10, 11]) (by kernel_rfl) 12 (KR I14 [Gv.one b1 (.cells #[(.string p1)] 9 (0, 0))]) qR (.back (by kernel_rfl)) (by kernel_rfl) (KR.cons (hS18.rd (List.Mem.head _)) (KR.nil hS18.im)) ?_
    generalize World.drew _ = w19 at *
    refine WO.vals [(0, 19, (.int .i64 r17)), (1, 20, (.bool (decide (r17 < 0)))), (2, 21, (.bool (decide (r17 < 0))))] (by kernel_rfl) (fun _ => by kernel_rfl) ?_
    obtain ⟨j20, hr1, hr⟩ := bind_some hr
    refine WO.join (l1 := [3, 4, 5, 6, 7, 8, 9, 10, 11]) (l2 := []) (J := (fun fr w => ∃ (I22 : Mem), fr = [(0, (.slice a_p0 p0.length c_p0)), (4, (.pointer (some ⟨b1, 0, none⟩))), (9, (.int .i64 r17)), (30, (.bool j20))] ∧ I14.Le I22 ∧ St E w I22 ((Gv.one b1 (.cells #[(.string p1)] 9 (0, 0))) :: Os))) ?restj20 ?waysj20
    case waysj20 =>
      refine WO.caseb (decide (r17 < 0)) (fun hc => ?_) (fun hc => ?_)
      · replace hr1 := cond_t hc hr1
        refine WO.reslot 21 rfl (show Value.bool (decide (r17 < 0)) = Value.bool true by rw [hc]) ?_
        refine WO.pass rfl (by kernel_rfl) rfl ?_
        refine WO.pass rfl (by kernel_rfl) rfl ?_
        refine WO.pass rfl (by kernel_rfl) rfl ?_
        refine WO.pass rfl (by kernel_rfl) rfl ?_
        refine WO.pass rfl (by kernel_rfl) rfl ?_
        refine WO.pass rfl (by kernel_rfl) rfl ?_
        refine WO.pass rfl (by kernel_rfl) rfl ?_
        refine WO.pass rfl (by kernel_rfl) rfl ?_
        refine WO.vals [(11, 30, (.bool true))] (by kernel_rfl) (fun _ => by kernel_rfl) ?_
        have he := Option.some.inj hr1
        subst j20
        refine WO.weaken (fr' := [(0, (.slice a_p0 p0.length c_p0)), (4, (.pointer (some ⟨b1, 0, none⟩))), (9, (.int .i64 r17)), (30, (.bool true))]) (WO.meet ⟨I14, rfl, Mem.Le.refl _, hS18⟩) (Sub.cons rfl (Sub.cons rfl (Sub.cons rfl (Sub.cons rfl Sub.nil))))
      · replace hr1 := cond_f hc hr1
        refine WO.reslot 21 rfl (show Value.bool (decide (r17 < 0)) = Value.bool false by rw [hc]) ?_
        refine WO.vals [(3, 22, (.slice a_p0 p0.length c_p0)), (4, 23, (.int .i64 r17))] (by kernel_rfl) (fun _ => by kernel_rfl) ?_
        obtain ⟨x24, hx_x24, hr1⟩ := bind_some hr1
        obtain ⟨h0_x24, h1_x24, hx_x24⟩ := idx_some hx_x24
        obtain ⟨ha_x24, cs_x24, hn_x24, hr_x24, hc_x24⟩ := ((RSl.mono h_p0 (hl8.trans hl15))).el _ _ hx_x24
        obtain ⟨w_x24, rfl, h_x24⟩ := hr_x24
        refine WO.indexAddr (e := 28) (sz := 2) rfl (by kernel_rfl) (by kernel_rfl) (by kernel_rfl) rfl ha_x24 rfl h0_x24 h1_x24 ?_
        refine WO.vals [(6, 25, (.pointer (some ⟨bl a_p0, of a_p0 + (r17).toNat * 2 + 1, none⟩)))] (by kernel_rfl) (fun _ => by kernel_rfl) ?_
        refine WO.load rfl (by kernel_rfl) (by kernel_rfl) rfl (v := (.slice w_x24.In.a x24.In.length w_x24.In.c)) (fun w' hw' => hc_x24.cellk 1 (by kernel_rfl) ((rd_i hS18.im) w' hw')) ?_
        refine WO.load rfl (by kernel_rfl) (by kernel_rfl) rfl (v := (.string p1)) (fun w' hw' => cell_one ((rd_c (List.Mem.head _) (hS18.rd (List.Mem.head _))) w' hw') (by kernel_rfl)) ?_
        obtain ⟨r30, hx_r25, hr1⟩ := bind_some hr1
        refine WO.call rfl (by kernel_rfl) rfl (f := 27) (args := #[(.slice w_x24.In.a x24.In.length w_x24.In.c), (.string p1)]) (by kernel_rfl) (slices_Contains_string_ok h_x24.In hS18 hx_r25) ?_
        rintro _ w26 ⟨I27, rfl, hl28, hS29⟩
        refine ⟨_, rfl, (KR.cons (hS29.rd (List.Mem.head _)) (KR.nil (hS29.im.of_le hl28))), ?_⟩
        refine WO.vals [(10, 29, (.bool (!r30))), (11, 30, (.bool (!r30)))] (by kernel_rfl) (fun _ => by kernel_rfl) ?_
        have he := Option.some.inj hr1
        subst j20
        refine WO.weaken (fr' := [(0, (.slice a_p0 p0.length c_p0)), (4, (.pointer (some ⟨b1, 0, none⟩))), (9, (.int .i64 r17)), (30, (.bool (!r30)))]) (WO.meet ⟨I27, rfl, hl28, hS29⟩) (Sub.cons rfl (Sub.cons rfl (Sub.cons rfl (Sub.cons rfl Sub.nil))))
    case restj20 =>
      rintro _ w31 ⟨I22, rfl, hl23, hS32⟩
      refine WO.nil ?_
      refine En.next ?_
      refine W.cond (b := j20) rfl rfl (fun hc => ?_) (fun hc => ?_)
      · replace hr := cond_t hc hr
        refine W.seq ?_
        refine W.region (l := [0, 1]) (by kernel_rfl) ?_
        refine WO.vals [(0, 6, (.slice none 0 0)), (1, 7, (.int .i64 4))] (by kernel_rfl) (fun _ => by kernel_rfl) ?_
        refine WO.nil ?_
        refine En.next ?_
        refine W.ret ?_
        refine En.nx_ret ?_
        have hS33 := hS32.drop
        have he := Option.some.inj hr
        subst r
        exact En.ret2 rfl (.slice none 0 0) (.int .i64 4) rfl rfl ⟨I22, none, 0, rfl, ((hl8.trans hl15).trans hl23), hS33, SlAt.nil⟩
      · replace hr := cond_f hc hr
        refine W.skip ?_
        refine En.next ?_
        refine W.seq ?_
        refine W.region (l := [0, 1, 2]) (by kernel_rfl) ?_
        refine WO.vals [(0, 31, (.slice a_p0 p0.length c_p0))] (by kernel_rfl) (fun _ => by kernel_rfl) ?_
        have hr0 := hr
        unfold revokeT at hr0
        split at hr0
        rotate_left
        · cases hr0
        rename_i hfit
        obtain ⟨x0, hx0, hr0⟩ := bind_some hr0
        obtain ⟨i0, i1, hx0⟩ := idx_some hx0
        obtain ⟨y0, hy0, hr0⟩ := bind_some hr0
        have he := Option.some.inj hr0
        subst he
        refine WO.call rfl (by kernel_rfl) rfl (f := 35) (args := #[(.slice a_p0 p0.length c_p0)]) (by kernel_rfl) (clone2_ok (RSl.mono h_p0 ((hl8.trans hl15).trans hl23)) hS32 hfit) ?_
        rintro _ qw1 ⟨QI1, a, c, C, rs, Ds, rfl, ql1, qS1, ho1, hn1⟩
        refine ⟨_, rfl, trivial, ?_⟩
        refine WO.vals [(2, 10, (.slice a p0.length c))] (by kernel_rfl) (fun _ => by kernel_rfl) ?_
        refine WO.nil ?_
        refine En.next ?_
        refine W.seq ?_
        obtain ⟨r1, D1, e1, e2, g1, g2, g3⟩ := hn1.get hx0
        have hlt := (List.getElem?_eq_some_iff.1 e2).1
        refine W.region (l := [0, 1, 2, 3, 4, 5, 6, 7, 8, 9, 10, 11]) (by kernel_rfl) ?_
        refine WO.vals [(0, 33, (.slice a p0.length c)), (1, 34, (.int .i64 r17)), (2, 35, (.slice a p0.length c)), (3, 36, (.int .i64 r17))] (by kernel_rfl) (fun _ => by kernel_rfl) ?_
        obtain ⟨ha, cs, hcn, hrr, hcc⟩ := ho1.sl.el _ _ e1
        obtain rfl := hrr
        refine WO.indexAddr (e := 28) (sz := 2) rfl (by kernel_rfl) (by kernel_rfl) (by kernel_rfl) rfl ha rfl i0 i1 ?_
        refine WO.vals [(5, 38, (.pointer (some ⟨bl a, of a + (r17).toNat * 2 + 1, none⟩)))] (by kernel_rfl) (fun _ => by kernel_rfl) ?_
        refine WO.load rfl (by kernel_rfl) (by kernel_rfl) rfl (v := (.slice r1.a r1.n r1.c)) (fun w' hw' => hcc.cellk 1 (by kernel_rfl) ((rd_f (qS1.rd (List.Mem.head _))) w' hw')) ?_
        rw [g2]
        refine WO.vals [(7, 40, (.func (.func 45) #[] #[(.pointer (some ⟨b1, 0, none⟩))]))] (by kernel_rfl) (fun _ => by kernel_rfl) ?_
        have qS1p := st_pick qS1 e2
        refine WO.call rfl (by kernel_rfl) rfl (f := 43) (args := #[(.slice r1.a x0.In.length r1.c), (.func (.func 45) #[] #[(.pointer (some ⟨b1, 0, none⟩))])]) (by kernel_rfl) (slices_DeleteFunc_string_ok g3 (fun {F Ic wc} {_} hlc hSc {rc} hrc => member_Revoke_1_ok (List.mem_append_right _ (List.Mem.tail _ (List.mem_append_right _ (List.Mem.head _)))) hSc hrc) (fun _ _ => by kernel_rfl) qS1p hy0) ?_
        rintro _ qw2 ⟨QI2, a2, c2, D2, rfl, ql2, qS3, h6⟩
        refine ⟨_, rfl, trivial, ?_⟩
        refine WO.indexAddr (e := 28) (sz := 2) rfl (by kernel_rfl) (by kernel_rfl) (by kernel_rfl) rfl ha rfl i0 i1 ?_
        refine WO.vals [(10, 43, (.pointer (some ⟨bl a, of a + (r17).toNat * 2 + 1, none⟩)))] (by kernel_rfl) (fun _ => by kernel_rfl) ?_
        have qS7 := st_unpick qS3 hlt
        refine WO.storeOwn (m := (r17).toNat) qS7 (ho1.mono ql2) rfl (by kernel_rfl) rfl e1 (u' := { r1 with a := a2, c := c2, n := y0.length }) 1 rfl rfl (by kernel_rfl) rfl rfl (fun cs hrel => (by obtain rfl := hrel; rfl)) (fun _ _ _ => trivial) ?_
        intro qw5 C5 qS8 ho8
        refine WO.nil ?_
        refine En.next ?_
        refine W.seq ?_
        refine W.region (l := [0, 1, 2]) (by kernel_rfl) ?_
        refine WO.vals [(0, 44, (.slice a p0.length c)), (1, 6, (.slice a p0.length c)), (2, 7, (.int .i64 0))] (by kernel_rfl) (fun _ => by kernel_rfl) ?_
        refine WO.nil ?_
        refine En.next ?_
        refine W.ret ?_
        obtain ⟨QI9, ql9, qS9, hp9⟩ := ((hn1.mono ql2).set (r17).toNat (r := { r1 with a := a2, c := c2, n := y0.length }) (D := D2) (x := { x0 with In := y0 }) g1 rfl h6).pub ho8 qS8
        exact En.ret2 rfl (.slice a p0.length c) (.int .i64 0) rfl rfl ⟨QI9, a, c, by simp only [List.length_set], ((hl8.trans hl15).trans hl23).trans (ql1.trans (ql2.trans ql9)), qS9.drop, hp9⟩
noncomputable def registrarlaw18_done (p0 : List api_Role) (p1 : registrarlaw18_Act) : Option ((List api_Role) × Int) := (bif (p1.Do == 0) then (member_Create p0 p1.Name).bind (fun ((r10, r11) : (List api_Role) × Int) => some (r10, r11)) else (bif (p1.Do == 1) then (member_Drop p0 p1.Name).bind (fun ((r18, r19) : (List api_Role) × Int) => some (r18, r19)) else (bif (p1.Do == 2) then (member_Grant p0 p1.Name p1.Role).bind (fun ((r26, r27) : (List api_Role) × Int) => some (r26, r27)) else (member_Revoke p0 p1.Name p1.Role).bind (fun ((r34, r35) : (List api_Role) × Int) => some (r34, r35)))))
set_option maxHeartbeats 1000000 in
theorem registrarlaw18_done_ok {E w : World} {I : Mem} {Os : List Mem} {p0 : List api_Role} {p1 : registrarlaw18_Act} {a_p0 : Option Addr} {c_p0 : Nat} (h_p0 : RSl 2 R_api_Role I a_p0 c_p0 p0) (hS : St E w I Os) {r : (List api_Role) × Int} (hr : registrarlaw18_done p0 p1 = some r) :
    Calls P 7 #[(.slice a_p0 p0.length c_p0), (.agg (cs_registrarlaw18_Act p1).toArray)] w (fun e w' => ∃ (I' : Mem) (ra0 : Option Addr) (rc0 : Nat), e = .returned (.tuple #[(.slice ra0 r.1.length rc0), (.int .i64 r.2)]) ∧ I.Le I' ∧ St E w' I' Os ∧ RSl 2 R_api_Role I' ra0 rc0 r.1) := by
  refine calls_W (args := [(.slice a_p0 p0.length c_p0), (.agg (cs_registrarlaw18_Act p1).toArray)]) (fn := Tryz.f7) rfl rfl rfl ?_
  unfold registrarlaw18_done at hr
  refine W.seq ?_
  refine W.region (l := [0, 1, 2]) (by kernel_rfl) ?_
  refine WO.new hS rfl (by kernel_rfl) rfl (.cells (cs_registrarlaw18_Act p1).toArray 31 (0, 0)) (fun b => .pointer (some ⟨b, 0, none⟩)) (by kernel_rfl) (fun _ _ _ => trivial) ?_
  intro b1 w4 hS3
  refine WO.vals [(1, 4, (.slice none 0 0)), (2, 5, (.int .i64 0))] (by kernel_rfl) (fun _ => by kernel_rfl) ?_
  refine WO.nil ?_
  refine En.next ?_
  refine W.seq ?_
  refine W.seq ?_
  refine W.region (l := [0, 1]) (by kernel_rfl) ?_
  refine WO.vals [(0, 6, (.pointer (some ⟨b1, 0, none⟩)))] (by kernel_rfl) (fun _ => by kernel_rfl) ?_
  refine WO.load rfl (by kernel_rfl) (by kernel_rfl) rfl (v := (.int .i64 p1.Do)) (fun w' hw' => cell_one ((rd_f (hS3.rd (List.Mem.head _))) w' hw') (by kernel_rfl)) ?_
  refine WO.nil ?_
  refine En.next ?_
  refine W.block ?_
  refine W.seq ?_
  refine W.region (l := [0, 1]) (by kernel_rfl) ?_
  refine WO.vals [(0, 9, (.bool (p1.Do == 0))), (1, 8, (.bool (p1.Do == 0)))] (by kernel_rfl) (fun _ => by kernel_rfl) ?_
  refine WO.nil ?_
  refine En.next ?_
  refine W.cond (b := (p1.Do == 0)) rfl rfl (fun hc => ?_) (fun hc => ?_)
  · replace hr := cond_t hc hr
    refine W.seq ?_
    refine W.region (l := [0, 1, 2, 3, 4, 5, 6, 7]) (by kernel_rfl) ?_
    refine WO.vals [(0, 10, (.slice a_p0 p0.length c_p0)), (1, 11, (.pointer (some ⟨b1, 1, none⟩)))] (by kernel_rfl) (fun _ => by kernel_rfl) ?_
    refine WO.load rfl (by kernel_rfl) (by kernel_rfl) rfl (v := (.string p1.Name)) (fun w' hw' => cell_one ((rd_f (hS3.rd (List.Mem.head _))) w' hw') (by kernel_rfl)) ?_
    obtain ⟨⟨r10, r11⟩, hx_r5, hr⟩ := bind_some hr
    refine WO.call rfl (by kernel_rfl) rfl (f := 15) (args := #[(.slice a_p0 p0.length c_p0), (.string p1.Name)]) (by kernel_rfl) (member_Create_ok h_p0 hS3 hx_r5) ?_
    rintro _ w6 ⟨I7, a_r10, c_r10, rfl, hl8, hS9, h_r10⟩
    refine ⟨_, rfl, trivial, ?_⟩
    refine WO.vals [(4, 14, (.slice a_r10 r10.length c_r10)), (5, 15, (.int .i64 r11)), (6, 4, (.slice a_r10 r10.length c_r10)), (7, 5, (.int .i64 r11))] (by kernel_rfl) (fun _ => by kernel_rfl) ?_
    refine WO.nil ?_
    refine En.next ?_
    refine W.ret ?_
    refine En.in_ret ?_
    refine En.nx_ret ?_
    have hS12 := hS9.drop
    have he := Option.some.inj hr
    subst r
    exact En.ret2 rfl (.slice a_r10 r10.length c_r10) (.int .i64 r11) rfl rfl ⟨I7, a_r10, c_r10, rfl, hl8, hS12, h_r10⟩
  · replace hr := cond_f hc hr
    refine W.seq ?_
    refine W.region (l := [0, 1]) (by kernel_rfl) ?_
    refine WO.vals [(0, 17, (.bool (p1.Do == 1))), (1, 16, (.bool (p1.Do == 1)))] (by kernel_rfl) (fun _ => by kernel_rfl) ?_
    refine WO.nil ?_
    refine En.next ?_
    refine W.cond (b := (p1.Do == 1)) rfl rfl (fun hc => ?_) (fun hc => ?_)
    · replace hr := cond_t hc hr
      refine W.seq ?_
      refine W.region (l := [0, 1, 2, 3, 4, 5, 6, 7]) (by kernel_rfl) ?_
      refine WO.vals [(0, 18, (.slice a_p0 p0.length c_p0)), (1, 19, (.pointer (some ⟨b1, 1, none⟩)))] (by kernel_rfl) (fun _ => by kernel_rfl) ?_
      refine WO.load rfl (by kernel_rfl) (by kernel_rfl) rfl (v := (.string p1.Name)) (fun w' hw' => cell_one ((rd_f (hS3.rd (List.Mem.head _))) w' hw') (by kernel_rfl)) ?_
      obtain ⟨⟨r18, r19⟩, hx_r13, hr⟩ := bind_some hr
      refine WO.call rfl (by kernel_rfl) rfl (f := 16) (args := #[(.slice a_p0 p0.length c_p0), (.string p1.Name)]) (by kernel_rfl) (member_Drop_ok h_p0 hS3 hx_r13) ?_
      rintro _ w14 ⟨I15, a_r18, c_r18, rfl, hl16, hS17, h_r18⟩
      refine ⟨_, rfl, trivial, ?_⟩
      refine WO.vals [(4, 22, (.slice a_r18 r18.length c_r18)), (5, 23, (.int .i64 r19)), (6, 4, (.slice a_r18 r18.length c_r18)), (7, 5, (.int .i64 r19))] (by kernel_rfl) (fun _ => by kernel_rfl) ?_
      refine WO.nil ?_
      refine En.next ?_
      refine W.ret ?_
      refine En.in_ret ?_
      refine En.nx_ret ?_
      have hS20 := hS17.drop
      have he := Option.some.inj hr
      subst r
      exact En.ret2 rfl (.slice a_r18 r18.length c_r18) (.int .i64 r19) rfl rfl ⟨I15, a_r18, c_r18, rfl, hl16, hS20, h_r18⟩
    · replace hr := cond_f hc hr
      refine W.seq ?_
      refine W.region (l := [0, 1]) (by kernel_rfl) ?_
      refine WO.vals [(0, 25, (.bool (p1.Do == 2))), (1, 24, (.bool (p1.Do == 2)))] (by kernel_rfl) (fun _ => by kernel_rfl) ?_
      refine WO.nil ?_
      refine En.next ?_
      refine W.cond (b := (p1.Do == 2)) rfl rfl (fun hc => ?_) (fun hc => ?_)
      · replace hr := cond_t hc hr
        refine W.seq ?_
        refine W.region (l := [0, 1, 2, 3, 4, 5, 6, 7, 8, 9]) (by kernel_rfl) ?_
        refine WO.vals [(0, 26, (.slice a_p0 p0.length c_p0)), (1, 27, (.pointer (some ⟨b1, 1, none⟩)))] (by kernel_rfl) (fun _ => by kernel_rfl) ?_
        refine WO.load rfl (by kernel_rfl) (by kernel_rfl) rfl (v := (.string p1.Name)) (fun w' hw' => cell_one ((rd_f (hS3.rd (List.Mem.head _))) w' hw') (by kernel_rfl)) ?_
        refine WO.vals [(3, 29, (.pointer (some ⟨b1, 2, none⟩)))] (by kernel_rfl) (fun _ => by kernel_rfl) ?_
        refine WO.load rfl (by kernel_rfl) (by kernel_rfl) rfl (v := (.string p1.Role)) (fun w' hw' => cell_one ((rd_f (hS3.rd (List.Mem.head _))) w' hw') (by kernel_rfl)) ?_
        obtain ⟨⟨r26, r27⟩, hx_r21, hr⟩ := bind_some hr
        refine WO.call rfl (by kernel_rfl) rfl (f := 12) (args := #[(.slice a_p0 p0.length c_p0), (.string p1.Name), (.string p1.Role)]) (by kernel_rfl) (member_Grant_ok h_p0 hS3 hx_r21) ?_
        rintro _ w22 ⟨I23, a_r26, c_r26, rfl, hl24, hS25, h_r26⟩
        refine ⟨_, rfl, trivial, ?_⟩
        refine WO.vals [(6, 32, (.slice a_r26 r26.length c_r26)), (7, 33, (.int .i64 r27)), (8, 4, (.slice a_r26 r26.length c_r26)), (9, 5, (.int .i64 r27))] (by kernel_rfl) (fun _ => by kernel_rfl) ?_
        refine WO.nil ?_
        refine En.next ?_
        refine W.ret ?_
        refine En.in_ret ?_
        refine En.nx_ret ?_
        have hS28 := hS25.drop
        have he := Option.some.inj hr
        subst r
        exact En.ret2 rfl (.slice a_r26 r26.length c_r26) (.int .i64 r27) rfl rfl ⟨I23, a_r26, c_r26, rfl, hl24, hS28, h_r26⟩
      · replace hr := cond_f hc hr
        refine W.skip ?_
        refine En.in_normal ?_
        refine En.next ?_
        refine W.seq ?_
        refine W.region (l := [0, 1, 2, 3, 4, 5, 6, 7, 8, 9]) (by kernel_rfl) ?_
        refine WO.vals [(0, 34, (.slice a_p0 p0.length c_p0)), (1, 35, (.pointer (some ⟨b1, 1, none⟩)))] (by kernel_rfl) (fun _ => by kernel_rfl) ?_
        refine WO.load rfl (by kernel_rfl) (by kernel_rfl) rfl (v := (.string p1.Name)) (fun w' hw' => cell_one ((rd_f (hS3.rd (List.Mem.head _))) w' hw') (by kernel_rfl)) ?_
        refine WO.vals [(3, 37, (.pointer (some ⟨b1, 2, none⟩)))] (by kernel_rfl) (fun _ => by kernel_rfl) ?_
        refine WO.load rfl (by kernel_rfl) (by kernel_rfl) rfl (v := (.string p1.Role)) (fun w' hw' => cell_one ((rd_f (hS3.rd (List.Mem.head _))) w' hw') (by kernel_rfl)) ?_
        obtain ⟨⟨r34, r35⟩, hx_r29, hr⟩ := bind_some hr
        refine WO.call rfl (by kernel_rfl) rfl (f := 17) (args := #[(.slice a_p0 p0.length c_p0), (.string p1.Name), (.string p1.Role)]) (by kernel_rfl) (member_Revoke_ok h_p0 hS3 hx_r29) ?_
        rintro _ w30 ⟨I31, a_r34, c_r34, rfl, hl32, hS33, h_r34⟩
        refine ⟨_, rfl, trivial, ?_⟩
        refine WO.vals [(6, 40, (.slice a_r34 r34.length c_r34)), (7, 41, (.int .i64 r35)), (8, 4, (.slice a_r34 r34.length c_r34)), (9, 5, (.int .i64 r35))] (by kernel_rfl) (fun _ => by kernel_rfl) ?_
        refine WO.nil ?_
        refine En.next ?_
        refine W.ret ?_
        have hS36 := hS33.drop
        have he := Option.some.inj hr
        subst r
        exact En.ret2 rfl (.slice a_r34 r34.length c_r34) (.int .i64 r35) rfl rfl ⟨I31, a_r34, c_r34, rfl, hl32, hS36, h_r34⟩
end Go.Proofs.YthndadengamanaaGreat
