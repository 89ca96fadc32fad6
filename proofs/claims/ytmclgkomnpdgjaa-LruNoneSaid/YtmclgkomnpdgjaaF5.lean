/- What functions of the program come to, each by a plain one. Conditions: none. -/
import Derived.Test.YtmclgkomnpdgjaaF4
set_option maxRecDepth 100000
namespace Go.Proofs.Ytmclgkomnpdgjaa
open Go.Gv
def lru_Cache_Leave_zero (p1 : Int) : Option Int := (lru_Cache_sweep_zero (fun (u0 : lru_Entry) (u1 : plan_Plan) => lru_Cache_Leave_1 u0 u1 p1)).bind (fun (r11 : Int) => some r11)
set_option maxHeartbeats 1000000 in
theorem lru_Cache_Leave_zero_ok {E w : World} {I : Mem} {Os : List Mem} {p1 : Int} {b_p0 : Nat} (hS : St E w I ((one b_p0 (.cells #[(.map none), (.int .i64 0)] 68 (0, 0))) :: Os)) {r : Int} (hr : lru_Cache_Leave_zero p1 = some r) :
    Calls P 18 #[(.pointer (some ⟨b_p0, 0, none⟩)), (.int .i64 p1)] w (fun e w' => ∃ (I' : Mem), e = .returned (.int .i64 r) ∧ I.Le I' ∧ St E w' I' ((one b_p0 (.cells #[(.map none), (.int .i64 0)] 68 (0, 0))) :: Os)) := by
  refine calls_W (args := [(.pointer (some ⟨b_p0, 0, none⟩)), (.int .i64 p1)]) (fn := Try.f18) rfl rfl rfl ?_
  unfold lru_Cache_Leave_zero at hr
  refine W.seq ?_
  refine W.region (l := [0, 1]) (by kernel_rfl) ?_
  refine WO.new hS rfl (by kernel_rfl) rfl (.cells #[(.int .i64 p1)] 3 (0, 0)) (fun b => .pointer (some ⟨b, 0, none⟩)) (by kernel_rfl) (fun _ _ _ => trivial) ?_
  intro b1 w4 hS3
  refine WO.vals [(1, 4, (.int .i64 0))] (by kernel_rfl) (fun _ => by kernel_rfl) ?_
  refine WO.nil ?_
  refine En.next ?_
  refine W.seq ?_
  refine W.region (l := [0, 1, 2, 3]) (by kernel_rfl) ?_
  refine WO.vals [(0, 5, (.pointer (some ⟨b_p0, 0, none⟩))), (1, 6, (.func (.func 30) #[] #[(.pointer (some ⟨b1, 0, none⟩))]))] (by kernel_rfl) (fun _ => by kernel_rfl) ?_
  have hS5 := hS3.front1
  obtain ⟨r11, hx_r6, hr⟩ := bind_some hr
  refine WO.call rfl (by kernel_rfl) rfl (f := 29) (args := #[(.pointer (some ⟨b_p0, 0, none⟩)), (.func (.func 30) #[] #[(.pointer (some ⟨b1, 0, none⟩))])]) (by kernel_rfl) (lru_Cache_sweep_zero_ok (fun {F Ic wc} {_} {_} {_} hlc hSc h_u1 {rc} hrc => lru_Cache_Leave_1_ok h_u1 (List.mem_append_right _ (List.Mem.head _)) hSc hrc) (fun _ _ => by kernel_rfl) hS5 hx_r6) ?_
  rintro _ w7 ⟨I8, rfl, hl9, hS10⟩
  refine ⟨_, rfl, trivial, ?_⟩
  refine WO.vals [(3, 4, (.int .i64 r11))] (by kernel_rfl) (fun _ => by kernel_rfl) ?_
  refine WO.nil ?_
  refine En.next ?_
  refine W.ret ?_
  have hS12 := hS10.front1
  have hS13 := hS12.drop
  have he := Option.some.inj hr
  subst r
  exact En.ret1 rfl (.int .i64 r11) rfl ⟨I8, rfl, hl9, hS13⟩
def lru_Cache_Forget_zero (p1 : ByteArray) : Option Int := (lru_Cache_sweep_zero (fun (u0 : lru_Entry) (u1 : plan_Plan) => lru_Cache_Forget_1 u0 u1 p1)).bind (fun (r11 : Int) => some r11)
set_option maxHeartbeats 1000000 in
theorem lru_Cache_Forget_zero_ok {E w : World} {I : Mem} {Os : List Mem} {p1 : ByteArray} {b_p0 : Nat} (hS : St E w I ((one b_p0 (.cells #[(.map none), (.int .i64 0)] 68 (0, 0))) :: Os)) {r : Int} (hr : lru_Cache_Forget_zero p1 = some r) :
    Calls P 19 #[(.pointer (some ⟨b_p0, 0, none⟩)), (.string p1)] w (fun e w' => ∃ (I' : Mem), e = .returned (.int .i64 r) ∧ I.Le I' ∧ St E w' I' ((one b_p0 (.cells #[(.map none), (.int .i64 0)] 68 (0, 0))) :: Os)) := by
  refine calls_W (args := [(.pointer (some ⟨b_p0, 0, none⟩)), (.string p1)]) (fn := Try.f19) rfl rfl rfl ?_
  unfold lru_Cache_Forget_zero at hr
  refine W.seq ?_
  refine W.region (l := [0, 1]) (by kernel_rfl) ?_
  refine WO.new hS rfl (by kernel_rfl) rfl (.cells #[(.string p1)] 9 (0, 0)) (fun b => .pointer (some ⟨b, 0, none⟩)) (by kernel_rfl) (fun _ _ _ => trivial) ?_
  intro b1 w4 hS3
  refine WO.vals [(1, 4, (.int .i64 0))] (by kernel_rfl) (fun _ => by kernel_rfl) ?_
  refine WO.nil ?_
  refine En.next ?_
  refine W.seq ?_
  refine W.region (l := [0, 1, 2, 3]) (by kernel_rfl) ?_
  refine WO.vals [(0, 5, (.pointer (some ⟨b_p0, 0, none⟩))), (1, 6, (.func (.func 31) #[] #[(.pointer (some ⟨b1, 0, none⟩))]))] (by kernel_rfl) (fun _ => by kernel_rfl) ?_
  have hS5 := hS3.front1
  obtain ⟨r11, hx_r6, hr⟩ := bind_some hr
  refine WO.call rfl (by kernel_rfl) rfl (f := 29) (args := #[(.pointer (some ⟨b_p0, 0, none⟩)), (.func (.func 31) #[] #[(.pointer (some ⟨b1, 0, none⟩))])]) (by kernel_rfl) (lru_Cache_sweep_zero_ok (fun {F Ic wc} {_} {_} {_} hlc hSc h_u1 {rc} hrc => lru_Cache_Forget_1_ok h_u1 (List.mem_append_right _ (List.Mem.head _)) hSc hrc) (fun _ _ => by kernel_rfl) hS5 hx_r6) ?_
  rintro _ w7 ⟨I8, rfl, hl9, hS10⟩
  refine ⟨_, rfl, trivial, ?_⟩
  refine WO.vals [(3, 4, (.int .i64 r11))] (by kernel_rfl) (fun _ => by kernel_rfl) ?_
  refine WO.nil ?_
  refine En.next ?_
  refine W.ret ?_
  have hS12 := hS10.front1
  have hS13 := hS12.drop
  have he := Option.some.inj hr
  subst r
  exact En.ret1 rfl (.int .i64 r11) rfl ⟨I8, rfl, hl9, hS13⟩
noncomputable def registrarlaw26_LruNone (p0 : registrarlaw26_Act) : Option Bool := (lru_Cache_Get_nil p0.Who p0.Name).bind (fun ((r18, r19) : plan_Plan × Bool) => ((bif r19 then some true else (registrarlaw26_made p0.Table 1).bind (fun (r41 : plan_Plan) => (lru_Cache_Put_nil p0.Who p0.Name r41).bind (fun (r47 : Int) => some (r47 != 1))))).bind (fun (j28 : Bool) => ((bif j28 then some true else (lru_Cache_Drop_nil p0.Who p0.Name).bind (fun (r63 : Bool) => some r63))).bind (fun (j54 : Bool) => ((bif j54 then some true else (lru_Cache_Leave_nil p0.Who).bind (fun (r76 : Int) => some (r76 != 0)))).bind (fun (j67 : Bool) => ((bif j67 then some true else (lru_Cache_Forget_nil p0.Table).bind (fun (r88 : Int) => some (r88 != 0)))).bind (fun (j79 : Bool) => ((bif j79 then some true else (lru_Cache_All_nil).bind (fun (r100 : List lru_Entry) => some ((([] : List lru_Entry).length : Int) != 0)))).bind (fun (j91 : Bool) => (bif j91 then some false else (lru_Cache_Get_zero p0.Who p0.Name).bind (fun ((r112, r113) : plan_Plan × Bool) => ((bif r113 then some true else (registrarlaw26_made p0.Table 1).bind (fun (r135 : plan_Plan) => (lru_Cache_Put_zero p0.Who p0.Name r135).bind (fun (r142 : Int) => some (r142 != 1))))).bind (fun (j122 : Bool) => ((bif j122 then some true else (lru_Cache_Drop_zero p0.Who p0.Name).bind (fun (r160 : Bool) => some r160))).bind (fun (j150 : Bool) => ((bif j150 then some true else (lru_Cache_Leave_zero p0.Who).bind (fun (r176 : Int) => some (r176 != 0)))).bind (fun (j166 : Bool) => ((bif j166 then some true else (lru_Cache_Forget_zero p0.Table).bind (fun (r192 : Int) => some (r192 != 0)))).bind (fun (j182 : Bool) => ((bif j182 then some true else (lru_Cache_All_zero).bind (fun (r211 : List lru_Entry) => some ((([] : List lru_Entry).length : Int) != 0)))).bind (fun (j198 : Bool) => (bif j198 then some false else (registrarlaw26_works).bind (fun (r224 : Bool) => some r224)))))))))))))))
set_option maxHeartbeats 1000000 in
theorem registrarlaw26_LruNone_ok {E w : World} {I : Mem} {Os : List Mem} {p0 : registrarlaw26_Act} (hS : St E w I Os) {r : Bool} (hr : registrarlaw26_LruNone p0 = some r) :
    Calls P 5 #[(.agg (cs_registrarlaw26_Act p0).toArray)] w (fun e w' => ∃ (I' : Mem), e = .returned (.bool r) ∧ I.Le I' ∧ St E w' I' Os) := by
  refine calls_W (args := [(.agg (cs_registrarlaw26_Act p0).toArray)]) (fn := Try.f5) rfl rfl rfl ?_
  unfold registrarlaw26_LruNone at hr
  refine W.seq ?_
  refine W.region (l := [0, 1]) (by kernel_rfl) ?_
  refine WO.new hS rfl (by kernel_rfl) rfl (.cells (cs_registrarlaw26_Act p0).toArray 29 (0, 0)) (fun b => .pointer (some ⟨b, 0, none⟩)) (by kernel_rfl) (fun _ _ _ => trivial) ?_
  intro b1 w4 hS3
  refine WO.vals [(1, 2, (.bool false))] (by kernel_rfl) (fun _ => by kernel_rfl) ?_
  refine WO.nil ?_
  refine En.next ?_
  refine W.seq ?_
  refine W.region (l := [0]) (by kernel_rfl) ?_
  refine WO.vals [(0, 3, (.pointer none))] (by kernel_rfl) (fun _ => by kernel_rfl) ?_
  refine WO.nil ?_
  refine En.next ?_
  refine W.seq ?_
  refine W.region (l := [0, 1, 2, 3, 4]) (by kernel_rfl) ?_
  refine WO.vals [(0, 9, (.pointer none)), (1, 10, (.agg #[(.map none), (.int .i64 0)]))] (by kernel_rfl) (fun _ => by kernel_rfl) ?_
  refine WO.new hS3 rfl (by kernel_rfl) rfl (.cells #[(.map none), (.int .i64 0)] 68 (0, 0)) (fun b => .pointer (some ⟨b, 0, none⟩)) (by kernel_rfl) (fun _ _ _ => trivial) ?_
  intro b5 w8 hS7
  refine WO.new hS7 rfl (by kernel_rfl) rfl (.cells #[(.pointer none), (.pointer (some ⟨b5, 0, none⟩))] 23 (0, 0)) (fun b => .slice (some ⟨b, 0, none⟩) 2 2) (by kernel_rfl) (fun _ _ _ => trivial) ?_
  intro b9 w12 hS11
  refine WO.vals [(4, 4, (.slice (some ⟨b9, 0, none⟩) 2 2))] (by kernel_rfl) (fun _ => by kernel_rfl) ?_
  refine WO.nil ?_
  refine En.next ?_
  refine W.seq ?_
  refine W.seq ?_
  refine W.region (l := [0]) (by kernel_rfl) ?_
  refine WO.vals [(0, 5, (.int .i64 0))] (by kernel_rfl) (fun _ => by kernel_rfl) ?_
  refine WO.nil ?_
  refine En.next ?_
  refine W.block ?_
  refine W.unroll 2 ?_
  refine W.seq ?_
  refine W.seq ?_
  refine W.region (l := [0, 1, 2, 3]) (by kernel_rfl) ?_
  refine WO.vals [(0, 13, (.int .i64 0)), (1, 14, (.slice (some ⟨b9, 0, none⟩) 2 2)), (2, 15, (.int .i64 2)), (3, 16, (.bool true))] (by kernel_rfl) (fun _ => by kernel_rfl) ?_
  refine WO.nil ?_
  refine En.next ?_
  refine W.cond (b := true) rfl rfl (fun hc => ?_) (fun hc => ?_)
  rotate_left
  · cases hc
  clear hc
  refine W.skip ?_
  refine En.next ?_
  refine W.seq ?_
  refine W.block ?_
  refine W.seq ?_
  refine W.region (l := [0, 1, 2, 3, 4]) (by kernel_rfl) ?_
  refine WO.vals [(0, 19, (.slice (some ⟨b9, 0, none⟩) 2 2)), (1, 20, (.int .i64 0))] (by kernel_rfl) (fun _ => by kernel_rfl) ?_
  refine WO.indexAddr (e := 23) (sz := 1) rfl (by kernel_rfl) (by kernel_rfl) (by kernel_rfl) rfl (rfl : ((some ⟨b9, 0, none⟩) : Option Addr) = _) rfl (by decide) (by decide) ?_
  refine WO.reslot 21 rfl (show _ = Value.pointer (some ⟨b9, 0, none⟩) by kernel_rfl) ?_
  refine WO.load rfl (by kernel_rfl) (by kernel_rfl) rfl (v := (.pointer none)) (fun w' hw' => cell_one ((rd_f (hS11.rd (List.Mem.head _))) w' hw') (by kernel_rfl)) ?_
  refine WO.vals [(4, 6, (.pointer none))] (by kernel_rfl) (fun _ => by kernel_rfl) ?_
  refine WO.nil ?_
  refine En.next ?_
  refine W.seq ?_
  refine W.region (l := [0, 1, 2, 3, 4, 5, 6, 7, 8, 9, 10, 11]) (by kernel_rfl) ?_
  refine WO.vals [(0, 24, (.pointer none)), (1, 25, (.pointer (some ⟨b1, 1, none⟩)))] (by kernel_rfl) (fun _ => by kernel_rfl) ?_
  refine WO.load rfl (by kernel_rfl) (by kernel_rfl) rfl (v := (.int .i64 p0.Who)) (fun w' hw' => cell_one ((rd_f (hS11.rd (List.Mem.tail _ (List.Mem.tail _ (List.Mem.head _))))) w' hw') (by kernel_rfl)) ?_
  refine WO.vals [(3, 27, (.pointer (some ⟨b1, 2, none⟩)))] (by kernel_rfl) (fun _ => by kernel_rfl) ?_
  refine WO.load rfl (by kernel_rfl) (by kernel_rfl) rfl (v := (.string p0.Name)) (fun w' hw' => cell_one ((rd_f (hS11.rd (List.Mem.tail _ (List.Mem.tail _ (List.Mem.head _))))) w' hw') (by kernel_rfl)) ?_
  obtain ⟨⟨r18, r19⟩, hx_r13, hr⟩ := bind_some hr
  refine WO.call rfl (by kernel_rfl) rfl (f := 14) (args := #[(.pointer none), (.int .i64 p0.Who), (.string p0.Name)]) (by kernel_rfl) (lru_Cache_Get_nil_ok  hS11 hx_r13) ?_
  rintro _ w14 ⟨I15, w_r18, rfl, hl16, hS17, h_r18⟩
  refine ⟨_, rfl, trivial, ?_⟩
  refine WO.vals [(6, 23, (.tuple #[(.agg (cs_plan_Plan r18 w_r18).toArray), (.bool r19)])), (7, 30, (.agg (cs_plan_Plan r18 w_r18).toArray)), (8, 31, (.bool r19))] (by kernel_rfl) (fun _ => by kernel_rfl) ?_
  refine WO.new hS17 rfl (by kernel_rfl) rfl (.cells (cs_plan_Plan z_plan_Plan zw_plan_Plan).toArray 55 (0, 0)) (fun b => .pointer (some ⟨b, 0, none⟩)) (by kernel_rfl) (fun _ _ _ => trivial) ?_
  intro b20 w23 hS22
  refine WO.storeBox hS22 rfl (by kernel_rfl) rfl 0 rfl rfl (by kernel_rfl) (all_one (rel := R_plan_Plan) (I := I15) (x := r18) ⟨w_r18, rfl, h_r18⟩) (by kernel_rfl) ((cs_plan_Plan r18 w_r18).toArray) (by kernel_rfl) (fun _ _ => trivial) ?_
  intro w25 hS24
  refine WO.vals [(11, 8, (.bool r19))] (by kernel_rfl) (fun _ => by kernel_rfl) ?_
  refine WO.nil ?_
  refine En.next ?_
  refine W.seq ?_
  have hS26 := hS24.drew
  refine W.draw (l := [0, 1, 2, 3, 4, 5, 6, 7, 8, 9, 10, 11, 12, 13, 14, 15, 16, 17, 18, 19, 20, 21, 22, 23, 24, 25, 26, 27, 28, 29, 30, 31, 32, 33, 34, 35, 36, 37, 38, 39, 40]) (by kernel_rfl) 35 (KR I15 [one b1 (.cells (cs_registrarlaw26_Act p0).toArray 29 (0, 0))]) qR (.back (by kernel_rfl)) (by kernel_rfl) (KR.cons (hS26.rd (List.Mem.tail _ (List.Mem.tail _ (List.Mem.tail _ (List.Mem.head _))))) (KR.nil hS26.im)) ?_
  generalize World.drew _ = w27 at *
  refine WO.vals [(0, 32, (.bool r19)), (1, 33, (.bool r19))] (by kernel_rfl) (fun _ => by kernel_rfl) ?_
  obtain ⟨j28, hr1, hr⟩ := bind_some hr
  refine WO.join (l1 := [2, 3, 4, 5, 6, 7, 8, 9, 10, 11, 12]) (l2 := [13, 14, 15, 16, 17, 18, 19, 20, 21, 22, 23, 24, 25, 26, 27, 28, 29, 30, 31, 32, 33, 34, 35, 36, 37, 38, 39, 40]) (J := (fun fr w => ∃ (I30 : Mem), fr = [(1, (.pointer (some ⟨b1, 0, none⟩))), (4, (.slice (some ⟨b9, 0, none⟩) 2 2)), (5, (.int .i64 0)), (6, (.pointer none)), (44, (.bool j28))] ∧ I15.Le I30 ∧ St E w I30 ((one b1 (.cells (cs_registrarlaw26_Act p0).toArray 29 (0, 0))) :: (one b9 (.cells #[(.pointer none), (.pointer (some ⟨b5, 0, none⟩))] 23 (0, 0))) :: (one b5 (.cells #[(.map none), (.int .i64 0)] 68 (0, 0))) :: Os))) ?restj28 ?waysj28
  case waysj28 =>
    refine WO.caseb r19 (fun hc => ?_) (fun hc => ?_)
    · replace hr1 := cond_t hc hr1
      refine WO.reslot 33 rfl (show Value.bool r19 = Value.bool true by rw [hc]) ?_
      refine WO.pass rfl (by kernel_rfl) rfl ?_
      refine WO.pass rfl (by kernel_rfl) rfl ?_
      refine WO.pass rfl (by kernel_rfl) rfl ?_
      refine WO.pass rfl (by kernel_rfl) rfl ?_
      refine WO.pass rfl (by kernel_rfl) rfl ?_
      refine WO.pass rfl (by kernel_rfl) rfl ?_
      refine WO.pass rfl (by kernel_rfl) rfl ?_
      refine WO.pass rfl (by kernel_rfl) rfl ?_
      refine WO.pass rfl (by kernel_rfl) rfl ?_
      refine WO.pass rfl (by kernel_rfl) rfl ?_
      refine WO.vals [(12, 44, (.bool true))] (by kernel_rfl) (fun _ => by kernel_rfl) ?_
      have hS32 := hS26.drop
      have hS33 := hS32.front1
      have hS34 := hS33.front1
      have hS35 := hS34.front2
      have he := Option.some.inj hr1
      subst j28
      refine WO.weaken (fr' := [(1, (.pointer (some ⟨b1, 0, none⟩))), (4, (.slice (some ⟨b9, 0, none⟩) 2 2)), (5, (.int .i64 0)), (6, (.pointer none)), (44, (.bool true))]) (WO.meet ⟨I15, rfl, Mem.Le.refl _, hS35⟩) (Sub.cons rfl (Sub.cons rfl (Sub.cons rfl (Sub.cons rfl (Sub.cons rfl Sub.nil)))))
    · replace hr1 := cond_f hc hr1
      refine WO.reslot 33 rfl (show Value.bool r19 = Value.bool false by rw [hc]) ?_
      refine WO.vals [(2, 34, (.pointer none)), (3, 35, (.pointer (some ⟨b1, 1, none⟩)))] (by kernel_rfl) (fun _ => by kernel_rfl) ?_
      refine WO.load rfl (by kernel_rfl) (by kernel_rfl) rfl (v := (.int .i64 p0.Who)) (fun w' hw' => cell_one ((rd_c (List.Mem.head _) (hS26.rd (List.Mem.tail _ (List.Mem.tail _ (List.Mem.tail _ (List.Mem.head _)))))) w' hw') (by kernel_rfl)) ?_
      refine WO.vals [(5, 37, (.pointer (some ⟨b1, 2, none⟩)))] (by kernel_rfl) (fun _ => by kernel_rfl) ?_
      refine WO.load rfl (by kernel_rfl) (by kernel_rfl) rfl (v := (.string p0.Name)) (fun w' hw' => cell_one ((rd_c (List.Mem.head _) (hS26.rd (List.Mem.tail _ (List.Mem.tail _ (List.Mem.tail _ (List.Mem.head _)))))) w' hw') (by kernel_rfl)) ?_
      refine WO.vals [(7, 39, (.pointer (some ⟨b1, 3, none⟩)))] (by kernel_rfl) (fun _ => by kernel_rfl) ?_
      refine WO.load rfl (by kernel_rfl) (by kernel_rfl) rfl (v := (.string p0.Table)) (fun w' hw' => cell_one ((rd_c (List.Mem.head _) (hS26.rd (List.Mem.tail _ (List.Mem.tail _ (List.Mem.tail _ (List.Mem.head _)))))) w' hw') (by kernel_rfl)) ?_
      obtain ⟨r41, hx_r36, hr1⟩ := bind_some hr1
      refine WO.call rfl (by kernel_rfl) rfl (f := 13) (args := #[(.string p0.Table), (.int .i64 1)]) (by kernel_rfl) (registrarlaw26_made_ok  hS26 hx_r36) ?_
      rintro _ w37 ⟨I38, w_r41, rfl, hl39, hS40, h_r41⟩
      refine ⟨_, rfl, (KR.cons (hS40.rd (List.Mem.tail _ (List.Mem.tail _ (List.Mem.tail _ (List.Mem.head _))))) (KR.nil (hS40.im.of_le hl39))), ?_⟩
      obtain ⟨r47, hx_r42, hr1⟩ := bind_some hr1
      refine WO.call rfl (by kernel_rfl) rfl (f := 12) (args := #[(.pointer none), (.int .i64 p0.Who), (.string p0.Name), (.agg (cs_plan_Plan r41 w_r41).toArray)]) (by kernel_rfl) (lru_Cache_Put_nil_ok h_r41 hS40 hx_r42) ?_
      rintro _ w43 ⟨I44, rfl, hl45, hS46⟩
      refine ⟨_, rfl, (KR.cons (hS46.rd (List.Mem.tail _ (List.Mem.tail _ (List.Mem.tail _ (List.Mem.head _))))) (KR.nil (hS46.im.of_le (hl39.trans hl45)))), ?_⟩
      refine WO.vals [(11, 43, (.bool (r47 != 1))), (12, 44, (.bool (r47 != 1)))] (by kernel_rfl) (fun _ => by kernel_rfl) ?_
      have hS48 := hS46.drop
      have hS49 := hS48.front1
      have hS50 := hS49.front1
      have hS51 := hS50.front2
      have he := Option.some.inj hr1
      subst j28
      refine WO.weaken (fr' := [(1, (.pointer (some ⟨b1, 0, none⟩))), (4, (.slice (some ⟨b9, 0, none⟩) 2 2)), (5, (.int .i64 0)), (6, (.pointer none)), (44, (.bool (r47 != 1)))]) (WO.meet ⟨I44, rfl, (hl39.trans hl45), hS51⟩) (Sub.cons rfl (Sub.cons rfl (Sub.cons rfl (Sub.cons rfl (Sub.cons rfl Sub.nil)))))
  case restj28 =>
    rintro _ w52 ⟨I30, rfl, hl31, hS53⟩
    refine WO.vals [(13, 45, (.bool j28))] (by kernel_rfl) (fun _ => by kernel_rfl) ?_
    obtain ⟨j54, hr1, hr⟩ := bind_some hr
    refine WO.join (l1 := [14, 15, 16, 17, 18, 19, 20]) (l2 := [21, 22, 23, 24, 25, 26, 27, 28, 29, 30, 31, 32, 33, 34, 35, 36, 37, 38, 39, 40]) (J := (fun fr w => ∃ (I56 : Mem), fr = [(1, (.pointer (some ⟨b1, 0, none⟩))), (4, (.slice (some ⟨b9, 0, none⟩) 2 2)), (5, (.int .i64 0)), (6, (.pointer none)), (52, (.bool j54))] ∧ I30.Le I56 ∧ St E w I56 ((one b1 (.cells (cs_registrarlaw26_Act p0).toArray 29 (0, 0))) :: (one b9 (.cells #[(.pointer none), (.pointer (some ⟨b5, 0, none⟩))] 23 (0, 0))) :: (one b5 (.cells #[(.map none), (.int .i64 0)] 68 (0, 0))) :: Os))) ?restj54 ?waysj54
    case waysj54 =>
      refine WO.caseb j28 (fun hc => ?_) (fun hc => ?_)
      · replace hr1 := cond_t hc hr1
        refine WO.reslot 45 rfl (show Value.bool j28 = Value.bool true by rw [hc]) ?_
        refine WO.pass rfl (by kernel_rfl) rfl ?_
        refine WO.pass rfl (by kernel_rfl) rfl ?_
        refine WO.pass rfl (by kernel_rfl) rfl ?_
        refine WO.pass rfl (by kernel_rfl) rfl ?_
        refine WO.pass rfl (by kernel_rfl) rfl ?_
        refine WO.pass rfl (by kernel_rfl) rfl ?_
        refine WO.vals [(20, 52, (.bool true))] (by kernel_rfl) (fun _ => by kernel_rfl) ?_
        have he := Option.some.inj hr1
        subst j54
        refine WO.weaken (fr' := [(1, (.pointer (some ⟨b1, 0, none⟩))), (4, (.slice (some ⟨b9, 0, none⟩) 2 2)), (5, (.int .i64 0)), (6, (.pointer none)), (52, (.bool true))]) (WO.meet ⟨I30, rfl, Mem.Le.refl _, hS53⟩) (Sub.cons rfl (Sub.cons rfl (Sub.cons rfl (Sub.cons rfl (Sub.cons rfl Sub.nil)))))
      · replace hr1 := cond_f hc hr1
        refine WO.reslot 45 rfl (show Value.bool j28 = Value.bool false by rw [hc]) ?_
        refine WO.vals [(14, 46, (.pointer none)), (15, 47, (.pointer (some ⟨b1, 1, none⟩)))] (by kernel_rfl) (fun _ => by kernel_rfl) ?_
        refine WO.load rfl (by kernel_rfl) (by kernel_rfl) rfl (v := (.int .i64 p0.Who)) (fun w' hw' => cell_one ((rd_c (List.Mem.head _) (hS53.rd (List.Mem.head _))) w' hw') (by kernel_rfl)) ?_
        refine WO.vals [(17, 49, (.pointer (some ⟨b1, 2, none⟩)))] (by kernel_rfl) (fun _ => by kernel_rfl) ?_
        refine WO.load rfl (by kernel_rfl) (by kernel_rfl) rfl (v := (.string p0.Name)) (fun w' hw' => cell_one ((rd_c (List.Mem.head _) (hS53.rd (List.Mem.head _))) w' hw') (by kernel_rfl)) ?_
        obtain ⟨r63, hx_r58, hr1⟩ := bind_some hr1
        refine WO.call rfl (by kernel_rfl) rfl (f := 17) (args := #[(.pointer none), (.int .i64 p0.Who), (.string p0.Name)]) (by kernel_rfl) (lru_Cache_Drop_nil_ok  hS53 hx_r58) ?_
        rintro _ w59 ⟨I60, rfl, hl61, hS62⟩
        refine ⟨_, rfl, (KR.cons (hS62.rd (List.Mem.head _)) (KR.nil (hS62.im.of_le (hl31.trans hl61)))), ?_⟩
        refine WO.vals [(20, 52, (.bool r63))] (by kernel_rfl) (fun _ => by kernel_rfl) ?_
        have he := Option.some.inj hr1
        subst j54
        refine WO.weaken (fr' := [(1, (.pointer (some ⟨b1, 0, none⟩))), (4, (.slice (some ⟨b9, 0, none⟩) 2 2)), (5, (.int .i64 0)), (6, (.pointer none)), (52, (.bool r63))]) (WO.meet ⟨I60, rfl, hl61, hS62⟩) (Sub.cons rfl (Sub.cons rfl (Sub.cons rfl (Sub.cons rfl (Sub.cons rfl Sub.nil)))))
    case restj54 =>
      rintro _ w65 ⟨I56, rfl, hl57, hS66⟩
      refine WO.vals [(21, 53, (.bool j54))] (by kernel_rfl) (fun _ => by kernel_rfl) ?_
      obtain ⟨j67, hr1, hr⟩ := bind_some hr
      refine WO.join (l1 := [22, 23, 24, 25, 26, 27]) (l2 := [28, 29, 30, 31, 32, 33, 34, 35, 36, 37, 38, 39, 40]) (J := (fun fr w => ∃ (I69 : Mem), fr = [(1, (.pointer (some ⟨b1, 0, none⟩))), (4, (.slice (some ⟨b9, 0, none⟩) 2 2)), (5, (.int .i64 0)), (6, (.pointer none)), (59, (.bool j67))] ∧ I56.Le I69 ∧ St E w I69 ((one b1 (.cells (cs_registrarlaw26_Act p0).toArray 29 (0, 0))) :: (one b9 (.cells #[(.pointer none), (.pointer (some ⟨b5, 0, none⟩))] 23 (0, 0))) :: (one b5 (.cells #[(.map none), (.int .i64 0)] 68 (0, 0))) :: Os))) ?restj67 ?waysj67
      case waysj67 =>
        refine WO.caseb j54 (fun hc => ?_) (fun hc => ?_)
        · replace hr1 := cond_t hc hr1
          refine WO.reslot 53 rfl (show Value.bool j54 = Value.bool true by rw [hc]) ?_
          refine WO.pass rfl (by kernel_rfl) rfl ?_
          refine WO.pass rfl (by kernel_rfl) rfl ?_
          refine WO.pass rfl (by kernel_rfl) rfl ?_
          refine WO.pass rfl (by kernel_rfl) rfl ?_
          refine WO.pass rfl (by kernel_rfl) rfl ?_
          refine WO.vals [(27, 59, (.bool true))] (by kernel_rfl) (fun _ => by kernel_rfl) ?_
          have he := Option.some.inj hr1
          subst j67
          refine WO.weaken (fr' := [(1, (.pointer (some ⟨b1, 0, none⟩))), (4, (.slice (some ⟨b9, 0, none⟩) 2 2)), (5, (.int .i64 0)), (6, (.pointer none)), (59, (.bool true))]) (WO.meet ⟨I56, rfl, Mem.Le.refl _, hS66⟩) (Sub.cons rfl (Sub.cons rfl (Sub.cons rfl (Sub.cons rfl (Sub.cons rfl Sub.nil)))))
        · replace hr1 := cond_f hc hr1
          refine WO.reslot 53 rfl (show Value.bool j54 = Value.bool false by rw [hc]) ?_
          refine WO.vals [(22, 54, (.pointer none)), (23, 55, (.pointer (some ⟨b1, 1, none⟩)))] (by kernel_rfl) (fun _ => by kernel_rfl) ?_
          refine WO.load rfl (by kernel_rfl) (by kernel_rfl) rfl (v := (.int .i64 p0.Who)) (fun w' hw' => cell_one ((rd_c (List.Mem.head _) (hS66.rd (List.Mem.head _))) w' hw') (by kernel_rfl)) ?_
          obtain ⟨r76, hx_r71, hr1⟩ := bind_some hr1
          refine WO.call rfl (by kernel_rfl) rfl (f := 18) (args := #[(.pointer none), (.int .i64 p0.Who)]) (by kernel_rfl) (lru_Cache_Leave_nil_ok  hS66 hx_r71) ?_
          rintro _ w72 ⟨I73, rfl, hl74, hS75⟩
          refine ⟨_, rfl, (KR.cons (hS75.rd (List.Mem.head _)) (KR.nil (hS75.im.of_le ((hl31.trans hl57).trans hl74)))), ?_⟩
          refine WO.vals [(26, 58, (.bool (r76 != 0))), (27, 59, (.bool (r76 != 0)))] (by kernel_rfl) (fun _ => by kernel_rfl) ?_
          have he := Option.some.inj hr1
          subst j67
          refine WO.weaken (fr' := [(1, (.pointer (some ⟨b1, 0, none⟩))), (4, (.slice (some ⟨b9, 0, none⟩) 2 2)), (5, (.int .i64 0)), (6, (.pointer none)), (59, (.bool (r76 != 0)))]) (WO.meet ⟨I73, rfl, hl74, hS75⟩) (Sub.cons rfl (Sub.cons rfl (Sub.cons rfl (Sub.cons rfl (Sub.cons rfl Sub.nil)))))
      case restj67 =>
        rintro _ w77 ⟨I69, rfl, hl70, hS78⟩
        refine WO.vals [(28, 60, (.bool j67))] (by kernel_rfl) (fun _ => by kernel_rfl) ?_
        obtain ⟨j79, hr1, hr⟩ := bind_some hr
        refine WO.join (l1 := [29, 30, 31, 32, 33, 34]) (l2 := [35, 36, 37, 38, 39, 40]) (J := (fun fr w => ∃ (I81 : Mem), fr = [(1, (.pointer (some ⟨b1, 0, none⟩))), (4, (.slice (some ⟨b9, 0, none⟩) 2 2)), (5, (.int .i64 0)), (6, (.pointer none)), (66, (.bool j79))] ∧ I69.Le I81 ∧ St E w I81 ((one b1 (.cells (cs_registrarlaw26_Act p0).toArray 29 (0, 0))) :: (one b9 (.cells #[(.pointer none), (.pointer (some ⟨b5, 0, none⟩))] 23 (0, 0))) :: (one b5 (.cells #[(.map none), (.int .i64 0)] 68 (0, 0))) :: Os))) ?restj79 ?waysj79
        case waysj79 =>
          refine WO.caseb j67 (fun hc => ?_) (fun hc => ?_)
          · replace hr1 := cond_t hc hr1
            refine WO.reslot 60 rfl (show Value.bool j67 = Value.bool true by rw [hc]) ?_
            refine WO.pass rfl (by kernel_rfl) rfl ?_
            refine WO.pass rfl (by kernel_rfl) rfl ?_
            refine WO.pass rfl (by kernel_rfl) rfl ?_
            refine WO.pass rfl (by kernel_rfl) rfl ?_
            refine WO.pass rfl (by kernel_rfl) rfl ?_
            refine WO.vals [(34, 66, (.bool true))] (by kernel_rfl) (fun _ => by kernel_rfl) ?_
            have he := Option.some.inj hr1
            subst j79
            refine WO.weaken (fr' := [(1, (.pointer (some ⟨b1, 0, none⟩))), (4, (.slice (some ⟨b9, 0, none⟩) 2 2)), (5, (.int .i64 0)), (6, (.pointer none)), (66, (.bool true))]) (WO.meet ⟨I69, rfl, Mem.Le.refl _, hS78⟩) (Sub.cons rfl (Sub.cons rfl (Sub.cons rfl (Sub.cons rfl (Sub.cons rfl Sub.nil)))))
          · replace hr1 := cond_f hc hr1
            refine WO.reslot 60 rfl (show Value.bool j67 = Value.bool false by rw [hc]) ?_
            refine WO.vals [(29, 61, (.pointer none)), (30, 62, (.pointer (some ⟨b1, 3, none⟩)))] (by kernel_rfl) (fun _ => by kernel_rfl) ?_
            refine WO.load rfl (by kernel_rfl) (by kernel_rfl) rfl (v := (.string p0.Table)) (fun w' hw' => cell_one ((rd_c (List.Mem.head _) (hS78.rd (List.Mem.head _))) w' hw') (by kernel_rfl)) ?_
            obtain ⟨r88, hx_r83, hr1⟩ := bind_some hr1
            refine WO.call rfl (by kernel_rfl) rfl (f := 19) (args := #[(.pointer none), (.string p0.Table)]) (by kernel_rfl) (lru_Cache_Forget_nil_ok  hS78 hx_r83) ?_
            rintro _ w84 ⟨I85, rfl, hl86, hS87⟩
            refine ⟨_, rfl, (KR.cons (hS87.rd (List.Mem.head _)) (KR.nil (hS87.im.of_le (((hl31.trans hl57).trans hl70).trans hl86)))), ?_⟩
            refine WO.vals [(33, 65, (.bool (r88 != 0))), (34, 66, (.bool (r88 != 0)))] (by kernel_rfl) (fun _ => by kernel_rfl) ?_
            have he := Option.some.inj hr1
            subst j79
            refine WO.weaken (fr' := [(1, (.pointer (some ⟨b1, 0, none⟩))), (4, (.slice (some ⟨b9, 0, none⟩) 2 2)), (5, (.int .i64 0)), (6, (.pointer none)), (66, (.bool (r88 != 0)))]) (WO.meet ⟨I85, rfl, hl86, hS87⟩) (Sub.cons rfl (Sub.cons rfl (Sub.cons rfl (Sub.cons rfl (Sub.cons rfl Sub.nil)))))
        case restj79 =>
          rintro _ w89 ⟨I81, rfl, hl82, hS90⟩
          refine WO.tail rfl ?_
          refine WO.vals [(35, 67, (.bool j79))] (by kernel_rfl) (fun _ => by kernel_rfl) ?_
          obtain ⟨j91, hr1, hr⟩ := bind_some hr
          refine WO.join (l1 := [36, 37, 38, 39, 40]) (l2 := []) (J := (fun fr w => ∃ (I93 : Mem), fr = [(1, (.pointer (some ⟨b1, 0, none⟩))), (4, (.slice (some ⟨b9, 0, none⟩) 2 2)), (5, (.int .i64 0)), (72, (.bool j91))] ∧ I81.Le I93 ∧ St E w I93 ((one b1 (.cells (cs_registrarlaw26_Act p0).toArray 29 (0, 0))) :: (one b9 (.cells #[(.pointer none), (.pointer (some ⟨b5, 0, none⟩))] 23 (0, 0))) :: (one b5 (.cells #[(.map none), (.int .i64 0)] 68 (0, 0))) :: Os))) ?restj91 ?waysj91
          case waysj91 =>
            refine WO.caseb j79 (fun hc => ?_) (fun hc => ?_)
            · replace hr1 := cond_t hc hr1
              refine WO.reslot 67 rfl (show Value.bool j79 = Value.bool true by rw [hc]) ?_
              refine WO.pass rfl (by kernel_rfl) rfl ?_
              refine WO.pass rfl (by kernel_rfl) rfl ?_
              refine WO.pass rfl (by kernel_rfl) rfl ?_
              refine WO.pass rfl (by kernel_rfl) rfl ?_
              refine WO.vals [(40, 72, (.bool true))] (by kernel_rfl) (fun _ => by kernel_rfl) ?_
              have he := Option.some.inj hr1
              subst j91
              refine WO.weaken (fr' := [(1, (.pointer (some ⟨b1, 0, none⟩))), (4, (.slice (some ⟨b9, 0, none⟩) 2 2)), (5, (.int .i64 0)), (72, (.bool true))]) (WO.meet ⟨I81, rfl, Mem.Le.refl _, hS90⟩) (Sub.cons rfl (Sub.cons rfl (Sub.cons rfl (Sub.cons rfl Sub.nil))))
            · replace hr1 := cond_f hc hr1
              refine WO.reslot 67 rfl (show Value.bool j79 = Value.bool false by rw [hc]) ?_
              refine WO.vals [(36, 68, (.pointer none))] (by kernel_rfl) (fun _ => by kernel_rfl) ?_
              obtain ⟨r100, hx_r95, hr1⟩ := bind_some hr1
              obtain rfl : ([] : List lru_Entry) = r100 := Option.some.inj hx_r95
              refine WO.call rfl (by kernel_rfl) rfl (f := 16) (args := #[(.pointer none)]) (by kernel_rfl) (lru_Cache_All_nil_ok  hS90 hx_r95) ?_
              rintro _ w96 ⟨I97, a_r100, c_r100, rfl, hl98, hS99, h_r100⟩
              refine ⟨_, rfl, trivial, ?_⟩
              refine WO.vals [(38, 70, (.int .i64 (([] : List lru_Entry).length : Int))), (39, 71, (.bool ((([] : List lru_Entry).length : Int) != 0))), (40, 72, (.bool ((([] : List lru_Entry).length : Int) != 0)))] (by kernel_rfl) (fun _ => by kernel_rfl) ?_
              have he := Option.some.inj hr1
              subst j91
              refine WO.weaken (fr' := [(1, (.pointer (some ⟨b1, 0, none⟩))), (4, (.slice (some ⟨b9, 0, none⟩) 2 2)), (5, (.int .i64 0)), (72, (.bool ((([] : List lru_Entry).length : Int) != 0)))]) (WO.meet ⟨I97, rfl, hl98, hS99⟩) (Sub.cons rfl (Sub.cons rfl (Sub.cons rfl (Sub.cons rfl Sub.nil))))
          case restj91 =>
            rintro _ w101 ⟨I93, rfl, hl94, hS102⟩
            refine WO.nil ?_
            refine En.next ?_
            refine W.cond (b := j91) rfl rfl (fun hc => ?_) (fun hc => ?_)
            · replace hr := cond_t hc hr
              refine W.seq ?_
              refine W.region (l := [0]) (by kernel_rfl) ?_
              refine WO.vals [(0, 2, (.bool false))] (by kernel_rfl) (fun _ => by kernel_rfl) ?_
              refine WO.nil ?_
              refine En.next ?_
              refine W.ret ?_
              refine En.in_ret ?_
              refine En.nx_ret ?_
              refine En.un_ret ?_
              refine En.in_ret ?_
              refine En.nx_ret ?_
              have hS103 := hS102.drop
              have hS104 := hS103.drop
              have hS105 := hS104.drop
              have he := Option.some.inj hr
              subst r
              exact En.ret1 rfl (.bool false) rfl ⟨I93, rfl, (((((hl16.trans hl31).trans hl57).trans hl70).trans hl82).trans hl94), hS105⟩
            · replace hr := cond_f hc hr
              refine W.skip ?_
              refine En.in_normal ?_
              refine En.next ?_
              refine W.region (l := [0, 1, 2]) (by kernel_rfl) ?_
              refine WO.vals [(0, 17, (.int .i64 0)), (1, 18, (.int .i64 1)), (2, 5, (.int .i64 1))] (by kernel_rfl) (fun _ => by kernel_rfl) ?_
              refine WO.nil ?_
              refine En.again ?_
              show W _ _ _ _ _ _
              refine W.seq ?_
              refine W.seq ?_
              refine W.region (l := [0, 1, 2, 3]) (by kernel_rfl) ?_
              refine WO.vals [(0, 13, (.int .i64 1)), (1, 14, (.slice (some ⟨b9, 0, none⟩) 2 2)), (2, 15, (.int .i64 2)), (3, 16, (.bool true))] (by kernel_rfl) (fun _ => by kernel_rfl) ?_
              refine WO.nil ?_
              refine En.next ?_
              refine W.cond (b := true) rfl rfl (fun hc => ?_) (fun hc => ?_)
              rotate_left
              · cases hc
              clear hc
              refine W.skip ?_
              refine En.next ?_
              refine W.seq ?_
              refine W.block ?_
              refine W.seq ?_
              refine W.region (l := [0, 1, 2, 3, 4]) (by kernel_rfl) ?_
              refine WO.vals [(0, 19, (.slice (some ⟨b9, 0, none⟩) 2 2)), (1, 20, (.int .i64 1))] (by kernel_rfl) (fun _ => by kernel_rfl) ?_
              refine WO.indexAddr (e := 23) (sz := 1) rfl (by kernel_rfl) (by kernel_rfl) (by kernel_rfl) rfl (rfl : ((some ⟨b9, 0, none⟩) : Option Addr) = _) rfl (by decide) (by decide) ?_
              refine WO.reslot 21 rfl (show _ = Value.pointer (some ⟨b9, 1, none⟩) by kernel_rfl) ?_
              refine WO.load rfl (by kernel_rfl) (by kernel_rfl) rfl (v := (.pointer (some ⟨b5, 0, none⟩))) (fun w' hw' => cell_one ((rd_f (hS102.rd (List.Mem.tail _ (List.Mem.head _)))) w' hw') (by kernel_rfl)) ?_
              refine WO.vals [(4, 6, (.pointer (some ⟨b5, 0, none⟩)))] (by kernel_rfl) (fun _ => by kernel_rfl) ?_
              refine WO.nil ?_
              refine En.next ?_
              refine W.seq ?_
              refine W.region (l := [0, 1, 2, 3, 4, 5, 6, 7, 8, 9, 10, 11]) (by kernel_rfl) ?_
              refine WO.vals [(0, 24, (.pointer (some ⟨b5, 0, none⟩))), (1, 25, (.pointer (some ⟨b1, 1, none⟩)))] (by kernel_rfl) (fun _ => by kernel_rfl) ?_
              refine WO.load rfl (by kernel_rfl) (by kernel_rfl) rfl (v := (.int .i64 p0.Who)) (fun w' hw' => cell_one ((rd_f (hS102.rd (List.Mem.head _))) w' hw') (by kernel_rfl)) ?_
              refine WO.vals [(3, 27, (.pointer (some ⟨b1, 2, none⟩)))] (by kernel_rfl) (fun _ => by kernel_rfl) ?_
              refine WO.load rfl (by kernel_rfl) (by kernel_rfl) rfl (v := (.string p0.Name)) (fun w' hw' => cell_one ((rd_f (hS102.rd (List.Mem.head _))) w' hw') (by kernel_rfl)) ?_
              have hS106 := hS102.front2
              obtain ⟨⟨r112, r113⟩, hx_r107, hr⟩ := bind_some hr
              refine WO.call rfl (by kernel_rfl) rfl (f := 14) (args := #[(.pointer (some ⟨b5, 0, none⟩)), (.int .i64 p0.Who), (.string p0.Name)]) (by kernel_rfl) (lru_Cache_Get_zero_ok  hS106 hx_r107) ?_
              rintro _ w108 ⟨I109, w_r112, rfl, hl110, hS111, h_r112⟩
              refine ⟨_, rfl, trivial, ?_⟩
              refine WO.vals [(6, 23, (.tuple #[(.agg (cs_plan_Plan r112 w_r112).toArray), (.bool r113)])), (7, 30, (.agg (cs_plan_Plan r112 w_r112).toArray)), (8, 31, (.bool r113))] (by kernel_rfl) (fun _ => by kernel_rfl) ?_
              refine WO.new hS111 rfl (by kernel_rfl) rfl (.cells (cs_plan_Plan z_plan_Plan zw_plan_Plan).toArray 55 (0, 0)) (fun b => .pointer (some ⟨b, 0, none⟩)) (by kernel_rfl) (fun _ _ _ => trivial) ?_
              intro b114 w117 hS116
              refine WO.storeBox hS116 rfl (by kernel_rfl) rfl 0 rfl rfl (by kernel_rfl) (all_one (rel := R_plan_Plan) (I := I109) (x := r112) ⟨w_r112, rfl, h_r112⟩) (by kernel_rfl) ((cs_plan_Plan r112 w_r112).toArray) (by kernel_rfl) (fun _ _ => trivial) ?_
              intro w119 hS118
              refine WO.vals [(11, 8, (.bool r113))] (by kernel_rfl) (fun _ => by kernel_rfl) ?_
              refine WO.nil ?_
              refine En.next ?_
              refine W.seq ?_
              have hS120 := hS118.drew
              refine W.draw (l := [0, 1, 2, 3, 4, 5, 6, 7, 8, 9, 10, 11, 12, 13, 14, 15, 16, 17, 18, 19, 20, 21, 22, 23, 24, 25, 26, 27, 28, 29, 30, 31, 32, 33, 34, 35, 36, 37, 38, 39, 40]) (by kernel_rfl) 35 (KR I109 [one b1 (.cells (cs_registrarlaw26_Act p0).toArray 29 (0, 0))]) qR (.back (by kernel_rfl)) (by kernel_rfl) (KR.cons (hS120.rd (List.Mem.tail _ (List.Mem.tail _ (List.Mem.head _)))) (KR.nil hS120.im)) ?_
              generalize World.drew _ = w121 at *
              refine WO.vals [(0, 32, (.bool r113)), (1, 33, (.bool r113))] (by kernel_rfl) (fun _ => by kernel_rfl) ?_
              obtain ⟨j122, hr1, hr⟩ := bind_some hr
              refine WO.join (l1 := [2, 3, 4, 5, 6, 7, 8, 9, 10, 11, 12]) (l2 := [13, 14, 15, 16, 17, 18, 19, 20, 21, 22, 23, 24, 25, 26, 27, 28, 29, 30, 31, 32, 33, 34, 35, 36, 37, 38, 39, 40]) (J := (fun fr w => ∃ (I124 : Mem), fr = [(1, (.pointer (some ⟨b1, 0, none⟩))), (4, (.slice (some ⟨b9, 0, none⟩) 2 2)), (5, (.int .i64 1)), (6, (.pointer (some ⟨b5, 0, none⟩))), (44, (.bool j122))] ∧ I109.Le I124 ∧ St E w I124 ((one b1 (.cells (cs_registrarlaw26_Act p0).toArray 29 (0, 0))) :: (one b5 (.cells #[(.map none), (.int .i64 0)] 68 (0, 0))) :: (one b9 (.cells #[(.pointer none), (.pointer (some ⟨b5, 0, none⟩))] 23 (0, 0))) :: Os))) ?restj122 ?waysj122
              case waysj122 =>
                refine WO.caseb r113 (fun hc => ?_) (fun hc => ?_)
                · replace hr1 := cond_t hc hr1
                  refine WO.reslot 33 rfl (show Value.bool r113 = Value.bool true by rw [hc]) ?_
                  refine WO.pass rfl (by kernel_rfl) rfl ?_
                  refine WO.pass rfl (by kernel_rfl) rfl ?_
                  refine WO.pass rfl (by kernel_rfl) rfl ?_
                  refine WO.pass rfl (by kernel_rfl) rfl ?_
                  refine WO.pass rfl (by kernel_rfl) rfl ?_
                  refine WO.pass rfl (by kernel_rfl) rfl ?_
                  refine WO.pass rfl (by kernel_rfl) rfl ?_
                  refine WO.pass rfl (by kernel_rfl) rfl ?_
                  refine WO.pass rfl (by kernel_rfl) rfl ?_
                  refine WO.pass rfl (by kernel_rfl) rfl ?_
                  refine WO.vals [(12, 44, (.bool true))] (by kernel_rfl) (fun _ => by kernel_rfl) ?_
                  have hS126 := hS120.drop
                  have hS127 := hS126.front2
                  have hS128 := hS127.front1
                  have hS129 := hS128.front2
                  have he := Option.some.inj hr1
                  subst j122
                  refine WO.weaken (fr' := [(1, (.pointer (some ⟨b1, 0, none⟩))), (4, (.slice (some ⟨b9, 0, none⟩) 2 2)), (5, (.int .i64 1)), (6, (.pointer (some ⟨b5, 0, none⟩))), (44, (.bool true))]) (WO.meet ⟨I109, rfl, Mem.Le.refl _, hS129⟩) (Sub.cons rfl (Sub.cons rfl (Sub.cons rfl (Sub.cons rfl (Sub.cons rfl Sub.nil)))))
                · replace hr1 := cond_f hc hr1
                  refine WO.reslot 33 rfl (show Value.bool r113 = Value.bool false by rw [hc]) ?_
                  refine WO.vals [(2, 34, (.pointer (some ⟨b5, 0, none⟩))), (3, 35, (.pointer (some ⟨b1, 1, none⟩)))] (by kernel_rfl) (fun _ => by kernel_rfl) ?_
                  refine WO.load rfl (by kernel_rfl) (by kernel_rfl) rfl (v := (.int .i64 p0.Who)) (fun w' hw' => cell_one ((rd_c (List.Mem.head _) (hS120.rd (List.Mem.tail _ (List.Mem.tail _ (List.Mem.head _))))) w' hw') (by kernel_rfl)) ?_
                  refine WO.vals [(5, 37, (.pointer (some ⟨b1, 2, none⟩)))] (by kernel_rfl) (fun _ => by kernel_rfl) ?_
                  refine WO.load rfl (by kernel_rfl) (by kernel_rfl) rfl (v := (.string p0.Name)) (fun w' hw' => cell_one ((rd_c (List.Mem.head _) (hS120.rd (List.Mem.tail _ (List.Mem.tail _ (List.Mem.head _))))) w' hw') (by kernel_rfl)) ?_
                  refine WO.vals [(7, 39, (.pointer (some ⟨b1, 3, none⟩)))] (by kernel_rfl) (fun _ => by kernel_rfl) ?_
                  refine WO.load rfl (by kernel_rfl) (by kernel_rfl) rfl (v := (.string p0.Table)) (fun w' hw' => cell_one ((rd_c (List.Mem.head _) (hS120.rd (List.Mem.tail _ (List.Mem.tail _ (List.Mem.head _))))) w' hw') (by kernel_rfl)) ?_
                  obtain ⟨r135, hx_r130, hr1⟩ := bind_some hr1
                  refine WO.call rfl (by kernel_rfl) rfl (f := 13) (args := #[(.string p0.Table), (.int .i64 1)]) (by kernel_rfl) (registrarlaw26_made_ok  hS120 hx_r130) ?_
                  rintro _ w131 ⟨I132, w_r135, rfl, hl133, hS134, h_r135⟩
                  refine ⟨_, rfl, (KR.cons (hS134.rd (List.Mem.tail _ (List.Mem.tail _ (List.Mem.head _)))) (KR.nil (hS134.im.of_le hl133))), ?_⟩
                  have hS136 := hS134.front1
                  obtain ⟨r142, hx_r137, hr1⟩ := bind_some hr1
                  refine WO.call rfl (by kernel_rfl) rfl (f := 12) (args := #[(.pointer (some ⟨b5, 0, none⟩)), (.int .i64 p0.Who), (.string p0.Name), (.agg (cs_plan_Plan r135 w_r135).toArray)]) (by kernel_rfl) (lru_Cache_Put_zero_ok h_r135 hS136 hx_r137) ?_
                  rintro _ w138 ⟨I139, rfl, hl140, hS141⟩
                  refine ⟨_, rfl, (KR.cons (hS141.rd (List.Mem.tail _ (List.Mem.tail _ (List.Mem.head _)))) (KR.nil (hS141.im.of_le (hl133.trans hl140)))), ?_⟩
                  refine WO.vals [(11, 43, (.bool (r142 != 1))), (12, 44, (.bool (r142 != 1)))] (by kernel_rfl) (fun _ => by kernel_rfl) ?_
                  have hS143 := hS141.front1
                  have hS144 := hS143.drop
                  have hS145 := hS144.front2
                  have hS146 := hS145.front1
                  have hS147 := hS146.front2
                  have he := Option.some.inj hr1
                  subst j122
                  refine WO.weaken (fr' := [(1, (.pointer (some ⟨b1, 0, none⟩))), (4, (.slice (some ⟨b9, 0, none⟩) 2 2)), (5, (.int .i64 1)), (6, (.pointer (some ⟨b5, 0, none⟩))), (44, (.bool (r142 != 1)))]) (WO.meet ⟨I139, rfl, (hl133.trans hl140), hS147⟩) (Sub.cons rfl (Sub.cons rfl (Sub.cons rfl (Sub.cons rfl (Sub.cons rfl Sub.nil)))))
              case restj122 =>
                rintro _ w148 ⟨I124, rfl, hl125, hS149⟩
                refine WO.vals [(13, 45, (.bool j122))] (by kernel_rfl) (fun _ => by kernel_rfl) ?_
                obtain ⟨j150, hr1, hr⟩ := bind_some hr
                refine WO.join (l1 := [14, 15, 16, 17, 18, 19, 20]) (l2 := [21, 22, 23, 24, 25, 26, 27, 28, 29, 30, 31, 32, 33, 34, 35, 36, 37, 38, 39, 40]) (J := (fun fr w => ∃ (I152 : Mem), fr = [(1, (.pointer (some ⟨b1, 0, none⟩))), (4, (.slice (some ⟨b9, 0, none⟩) 2 2)), (5, (.int .i64 1)), (6, (.pointer (some ⟨b5, 0, none⟩))), (52, (.bool j150))] ∧ I124.Le I152 ∧ St E w I152 ((one b1 (.cells (cs_registrarlaw26_Act p0).toArray 29 (0, 0))) :: (one b5 (.cells #[(.map none), (.int .i64 0)] 68 (0, 0))) :: (one b9 (.cells #[(.pointer none), (.pointer (some ⟨b5, 0, none⟩))] 23 (0, 0))) :: Os))) ?restj150 ?waysj150
                case waysj150 =>
                  refine WO.caseb j122 (fun hc => ?_) (fun hc => ?_)
                  · replace hr1 := cond_t hc hr1
                    refine WO.reslot 45 rfl (show Value.bool j122 = Value.bool true by rw [hc]) ?_
                    refine WO.pass rfl (by kernel_rfl) rfl ?_
                    refine WO.pass rfl (by kernel_rfl) rfl ?_
                    refine WO.pass rfl (by kernel_rfl) rfl ?_
                    refine WO.pass rfl (by kernel_rfl) rfl ?_
                    refine WO.pass rfl (by kernel_rfl) rfl ?_
                    refine WO.pass rfl (by kernel_rfl) rfl ?_
                    refine WO.vals [(20, 52, (.bool true))] (by kernel_rfl) (fun _ => by kernel_rfl) ?_
                    have he := Option.some.inj hr1
                    subst j150
                    refine WO.weaken (fr' := [(1, (.pointer (some ⟨b1, 0, none⟩))), (4, (.slice (some ⟨b9, 0, none⟩) 2 2)), (5, (.int .i64 1)), (6, (.pointer (some ⟨b5, 0, none⟩))), (52, (.bool true))]) (WO.meet ⟨I124, rfl, Mem.Le.refl _, hS149⟩) (Sub.cons rfl (Sub.cons rfl (Sub.cons rfl (Sub.cons rfl (Sub.cons rfl Sub.nil)))))
                  · replace hr1 := cond_f hc hr1
                    refine WO.reslot 45 rfl (show Value.bool j122 = Value.bool false by rw [hc]) ?_
                    refine WO.vals [(14, 46, (.pointer (some ⟨b5, 0, none⟩))), (15, 47, (.pointer (some ⟨b1, 1, none⟩)))] (by kernel_rfl) (fun _ => by kernel_rfl) ?_
                    refine WO.load rfl (by kernel_rfl) (by kernel_rfl) rfl (v := (.int .i64 p0.Who)) (fun w' hw' => cell_one ((rd_c (List.Mem.head _) (hS149.rd (List.Mem.head _))) w' hw') (by kernel_rfl)) ?_
                    refine WO.vals [(17, 49, (.pointer (some ⟨b1, 2, none⟩)))] (by kernel_rfl) (fun _ => by kernel_rfl) ?_
                    refine WO.load rfl (by kernel_rfl) (by kernel_rfl) rfl (v := (.string p0.Name)) (fun w' hw' => cell_one ((rd_c (List.Mem.head _) (hS149.rd (List.Mem.head _))) w' hw') (by kernel_rfl)) ?_
                    have hS154 := hS149.front1
                    obtain ⟨r160, hx_r155, hr1⟩ := bind_some hr1
                    refine WO.call rfl (by kernel_rfl) rfl (f := 17) (args := #[(.pointer (some ⟨b5, 0, none⟩)), (.int .i64 p0.Who), (.string p0.Name)]) (by kernel_rfl) (lru_Cache_Drop_zero_ok  hS154 hx_r155) ?_
                    rintro _ w156 ⟨I157, rfl, hl158, hS159⟩
                    refine ⟨_, rfl, (KR.cons (hS159.rd (List.Mem.tail _ (List.Mem.head _))) (KR.nil (hS159.im.of_le (hl125.trans hl158)))), ?_⟩
                    refine WO.vals [(20, 52, (.bool r160))] (by kernel_rfl) (fun _ => by kernel_rfl) ?_
                    have hS161 := hS159.front2
                    have hS162 := hS161.front1
                    have hS163 := hS162.front2
                    have he := Option.some.inj hr1
                    subst j150
                    refine WO.weaken (fr' := [(1, (.pointer (some ⟨b1, 0, none⟩))), (4, (.slice (some ⟨b9, 0, none⟩) 2 2)), (5, (.int .i64 1)), (6, (.pointer (some ⟨b5, 0, none⟩))), (52, (.bool r160))]) (WO.meet ⟨I157, rfl, hl158, hS163⟩) (Sub.cons rfl (Sub.cons rfl (Sub.cons rfl (Sub.cons rfl (Sub.cons rfl Sub.nil)))))
                case restj150 =>
                  rintro _ w164 ⟨I152, rfl, hl153, hS165⟩
                  refine WO.vals [(21, 53, (.bool j150))] (by kernel_rfl) (fun _ => by kernel_rfl) ?_
                  obtain ⟨j166, hr1, hr⟩ := bind_some hr
                  refine WO.join (l1 := [22, 23, 24, 25, 26, 27]) (l2 := [28, 29, 30, 31, 32, 33, 34, 35, 36, 37, 38, 39, 40]) (J := (fun fr w => ∃ (I168 : Mem), fr = [(1, (.pointer (some ⟨b1, 0, none⟩))), (4, (.slice (some ⟨b9, 0, none⟩) 2 2)), (5, (.int .i64 1)), (6, (.pointer (some ⟨b5, 0, none⟩))), (59, (.bool j166))] ∧ I152.Le I168 ∧ St E w I168 ((one b1 (.cells (cs_registrarlaw26_Act p0).toArray 29 (0, 0))) :: (one b5 (.cells #[(.map none), (.int .i64 0)] 68 (0, 0))) :: (one b9 (.cells #[(.pointer none), (.pointer (some ⟨b5, 0, none⟩))] 23 (0, 0))) :: Os))) ?restj166 ?waysj166
                  case waysj166 =>
                    refine WO.caseb j150 (fun hc => ?_) (fun hc => ?_)
                    · replace hr1 := cond_t hc hr1
                      refine WO.reslot 53 rfl (show Value.bool j150 = Value.bool true by rw [hc]) ?_
                      refine WO.pass rfl (by kernel_rfl) rfl ?_
                      refine WO.pass rfl (by kernel_rfl) rfl ?_
                      refine WO.pass rfl (by kernel_rfl) rfl ?_
                      refine WO.pass rfl (by kernel_rfl) rfl ?_
                      refine WO.pass rfl (by kernel_rfl) rfl ?_
                      refine WO.vals [(27, 59, (.bool true))] (by kernel_rfl) (fun _ => by kernel_rfl) ?_
                      have he := Option.some.inj hr1
                      subst j166
                      refine WO.weaken (fr' := [(1, (.pointer (some ⟨b1, 0, none⟩))), (4, (.slice (some ⟨b9, 0, none⟩) 2 2)), (5, (.int .i64 1)), (6, (.pointer (some ⟨b5, 0, none⟩))), (59, (.bool true))]) (WO.meet ⟨I152, rfl, Mem.Le.refl _, hS165⟩) (Sub.cons rfl (Sub.cons rfl (Sub.cons rfl (Sub.cons rfl (Sub.cons rfl Sub.nil)))))
                    · replace hr1 := cond_f hc hr1
                      refine WO.reslot 53 rfl (show Value.bool j150 = Value.bool false by rw [hc]) ?_
                      refine WO.vals [(22, 54, (.pointer (some ⟨b5, 0, none⟩))), (23, 55, (.pointer (some ⟨b1, 1, none⟩)))] (by kernel_rfl) (fun _ => by kernel_rfl) ?_
                      refine WO.load rfl (by kernel_rfl) (by kernel_rfl) rfl (v := (.int .i64 p0.Who)) (fun w' hw' => cell_one ((rd_c (List.Mem.head _) (hS165.rd (List.Mem.head _))) w' hw') (by kernel_rfl)) ?_
                      have hS170 := hS165.front1
                      obtain ⟨r176, hx_r171, hr1⟩ := bind_some hr1
                      refine WO.call rfl (by kernel_rfl) rfl (f := 18) (args := #[(.pointer (some ⟨b5, 0, none⟩)), (.int .i64 p0.Who)]) (by kernel_rfl) (lru_Cache_Leave_zero_ok  hS170 hx_r171) ?_
                      rintro _ w172 ⟨I173, rfl, hl174, hS175⟩
                      refine ⟨_, rfl, (KR.cons (hS175.rd (List.Mem.tail _ (List.Mem.head _))) (KR.nil (hS175.im.of_le ((hl125.trans hl153).trans hl174)))), ?_⟩
                      refine WO.vals [(26, 58, (.bool (r176 != 0))), (27, 59, (.bool (r176 != 0)))] (by kernel_rfl) (fun _ => by kernel_rfl) ?_
                      have hS177 := hS175.front2
                      have hS178 := hS177.front1
                      have hS179 := hS178.front2
                      have he := Option.some.inj hr1
                      subst j166
                      refine WO.weaken (fr' := [(1, (.pointer (some ⟨b1, 0, none⟩))), (4, (.slice (some ⟨b9, 0, none⟩) 2 2)), (5, (.int .i64 1)), (6, (.pointer (some ⟨b5, 0, none⟩))), (59, (.bool (r176 != 0)))]) (WO.meet ⟨I173, rfl, hl174, hS179⟩) (Sub.cons rfl (Sub.cons rfl (Sub.cons rfl (Sub.cons rfl (Sub.cons rfl Sub.nil)))))
                  case restj166 =>
                    rintro _ w180 ⟨I168, rfl, hl169, hS181⟩
                    refine WO.vals [(28, 60, (.bool j166))] (by kernel_rfl) (fun _ => by kernel_rfl) ?_
                    obtain ⟨j182, hr1, hr⟩ := bind_some hr
                    refine WO.join (l1 := [29, 30, 31, 32, 33, 34]) (l2 := [35, 36, 37, 38, 39, 40]) (J := (fun fr w => ∃ (I184 : Mem), fr = [(1, (.pointer (some ⟨b1, 0, none⟩))), (4, (.slice (some ⟨b9, 0, none⟩) 2 2)), (5, (.int .i64 1)), (6, (.pointer (some ⟨b5, 0, none⟩))), (66, (.bool j182))] ∧ I168.Le I184 ∧ St E w I184 ((one b1 (.cells (cs_registrarlaw26_Act p0).toArray 29 (0, 0))) :: (one b5 (.cells #[(.map none), (.int .i64 0)] 68 (0, 0))) :: (one b9 (.cells #[(.pointer none), (.pointer (some ⟨b5, 0, none⟩))] 23 (0, 0))) :: Os))) ?restj182 ?waysj182
                    case waysj182 =>
                      refine WO.caseb j166 (fun hc => ?_) (fun hc => ?_)
                      · replace hr1 := cond_t hc hr1
                        refine WO.reslot 60 rfl (show Value.bool j166 = Value.bool true by rw [hc]) ?_
                        refine WO.pass rfl (by kernel_rfl) rfl ?_
                        refine WO.pass rfl (by kernel_rfl) rfl ?_
                        refine WO.pass rfl (by kernel_rfl) rfl ?_
                        refine WO.pass rfl (by kernel_rfl) rfl ?_
                        refine WO.pass rfl (by kernel_rfl) rfl ?_
                        refine WO.vals [(34, 66, (.bool true))] (by kernel_rfl) (fun _ => by kernel_rfl) ?_
                        have he := Option.some.inj hr1
                        subst j182
                        refine WO.weaken (fr' := [(1, (.pointer (some ⟨b1, 0, none⟩))), (4, (.slice (some ⟨b9, 0, none⟩) 2 2)), (5, (.int .i64 1)), (6, (.pointer (some ⟨b5, 0, none⟩))), (66, (.bool true))]) (WO.meet ⟨I168, rfl, Mem.Le.refl _, hS181⟩) (Sub.cons rfl (Sub.cons rfl (Sub.cons rfl (Sub.cons rfl (Sub.cons rfl Sub.nil)))))
                      · replace hr1 := cond_f hc hr1
                        refine WO.reslot 60 rfl (show Value.bool j166 = Value.bool false by rw [hc]) ?_
                        refine WO.vals [(29, 61, (.pointer (some ⟨b5, 0, none⟩))), (30, 62, (.pointer (some ⟨b1, 3, none⟩)))] (by kernel_rfl) (fun _ => by kernel_rfl) ?_
                        refine WO.load rfl (by kernel_rfl) (by kernel_rfl) rfl (v := (.string p0.Table)) (fun w' hw' => cell_one ((rd_c (List.Mem.head _) (hS181.rd (List.Mem.head _))) w' hw') (by kernel_rfl)) ?_
                        have hS186 := hS181.front1
                        obtain ⟨r192, hx_r187, hr1⟩ := bind_some hr1
                        refine WO.call rfl (by kernel_rfl) rfl (f := 19) (args := #[(.pointer (some ⟨b5, 0, none⟩)), (.string p0.Table)]) (by kernel_rfl) (lru_Cache_Forget_zero_ok  hS186 hx_r187) ?_
                        rintro _ w188 ⟨I189, rfl, hl190, hS191⟩
                        refine ⟨_, rfl, (KR.cons (hS191.rd (List.Mem.tail _ (List.Mem.head _))) (KR.nil (hS191.im.of_le (((hl125.trans hl153).trans hl169).trans hl190)))), ?_⟩
                        refine WO.vals [(33, 65, (.bool (r192 != 0))), (34, 66, (.bool (r192 != 0)))] (by kernel_rfl) (fun _ => by kernel_rfl) ?_
                        have hS193 := hS191.front2
                        have hS194 := hS193.front1
                        have hS195 := hS194.front2
                        have he := Option.some.inj hr1
                        subst j182
                        refine WO.weaken (fr' := [(1, (.pointer (some ⟨b1, 0, none⟩))), (4, (.slice (some ⟨b9, 0, none⟩) 2 2)), (5, (.int .i64 1)), (6, (.pointer (some ⟨b5, 0, none⟩))), (66, (.bool (r192 != 0)))]) (WO.meet ⟨I189, rfl, hl190, hS195⟩) (Sub.cons rfl (Sub.cons rfl (Sub.cons rfl (Sub.cons rfl (Sub.cons rfl Sub.nil)))))
                    case restj182 =>
                      rintro _ w196 ⟨I184, rfl, hl185, hS197⟩
                      refine WO.tail rfl ?_
                      refine WO.vals [(35, 67, (.bool j182))] (by kernel_rfl) (fun _ => by kernel_rfl) ?_
                      obtain ⟨j198, hr1, hr⟩ := bind_some hr
                      refine WO.join (l1 := [36, 37, 38, 39, 40]) (l2 := []) (J := (fun fr w => ∃ (I200 : Mem), fr = [(1, (.pointer (some ⟨b1, 0, none⟩))), (4, (.slice (some ⟨b9, 0, none⟩) 2 2)), (5, (.int .i64 1)), (72, (.bool j198))] ∧ I184.Le I200 ∧ St E w I200 ((one b1 (.cells (cs_registrarlaw26_Act p0).toArray 29 (0, 0))) :: (one b9 (.cells #[(.pointer none), (.pointer (some ⟨b5, 0, none⟩))] 23 (0, 0))) :: (one b5 (.cells #[(.map none), (.int .i64 0)] 68 (0, 0))) :: Os))) ?restj198 ?waysj198
                      case waysj198 =>
                        refine WO.caseb j182 (fun hc => ?_) (fun hc => ?_)
                        · replace hr1 := cond_t hc hr1
                          refine WO.reslot 67 rfl (show Value.bool j182 = Value.bool true by rw [hc]) ?_
                          refine WO.pass rfl (by kernel_rfl) rfl ?_
                          refine WO.pass rfl (by kernel_rfl) rfl ?_
                          refine WO.pass rfl (by kernel_rfl) rfl ?_
                          refine WO.pass rfl (by kernel_rfl) rfl ?_
                          refine WO.vals [(40, 72, (.bool true))] (by kernel_rfl) (fun _ => by kernel_rfl) ?_
                          have hS202 := hS197.front1
                          have hS203 := hS202.front2
                          have hS204 := hS203.front2
                          have he := Option.some.inj hr1
                          subst j198
                          refine WO.weaken (fr' := [(1, (.pointer (some ⟨b1, 0, none⟩))), (4, (.slice (some ⟨b9, 0, none⟩) 2 2)), (5, (.int .i64 1)), (72, (.bool true))]) (WO.meet ⟨I184, rfl, Mem.Le.refl _, hS204⟩) (Sub.cons rfl (Sub.cons rfl (Sub.cons rfl (Sub.cons rfl Sub.nil))))
                        · replace hr1 := cond_f hc hr1
                          refine WO.reslot 67 rfl (show Value.bool j182 = Value.bool false by rw [hc]) ?_
                          refine WO.vals [(36, 68, (.pointer (some ⟨b5, 0, none⟩)))] (by kernel_rfl) (fun _ => by kernel_rfl) ?_
                          have hS205 := hS197.front1
                          obtain ⟨r211, hx_r206, hr1⟩ := bind_some hr1
                          obtain rfl : ([] : List lru_Entry) = r211 := Option.some.inj hx_r206
                          refine WO.call rfl (by kernel_rfl) rfl (f := 16) (args := #[(.pointer (some ⟨b5, 0, none⟩))]) (by kernel_rfl) (lru_Cache_All_zero_ok  hS205 hx_r206) ?_
                          rintro _ w207 ⟨I208, a_r211, c_r211, rfl, hl209, hS210, h_r211⟩
                          refine ⟨_, rfl, trivial, ?_⟩
                          refine WO.vals [(38, 70, (.int .i64 (([] : List lru_Entry).length : Int))), (39, 71, (.bool ((([] : List lru_Entry).length : Int) != 0))), (40, 72, (.bool ((([] : List lru_Entry).length : Int) != 0)))] (by kernel_rfl) (fun _ => by kernel_rfl) ?_
                          have hS212 := hS210.front2
                          have hS213 := hS212.front2
                          have he := Option.some.inj hr1
                          subst j198
                          refine WO.weaken (fr' := [(1, (.pointer (some ⟨b1, 0, none⟩))), (4, (.slice (some ⟨b9, 0, none⟩) 2 2)), (5, (.int .i64 1)), (72, (.bool ((([] : List lru_Entry).length : Int) != 0)))]) (WO.meet ⟨I208, rfl, hl209, hS213⟩) (Sub.cons rfl (Sub.cons rfl (Sub.cons rfl (Sub.cons rfl Sub.nil))))
                      case restj198 =>
                        rintro _ w214 ⟨I200, rfl, hl201, hS215⟩
                        refine WO.nil ?_
                        refine En.next ?_
                        refine W.cond (b := j198) rfl rfl (fun hc => ?_) (fun hc => ?_)
                        · replace hr := cond_t hc hr
                          refine W.seq ?_
                          refine W.region (l := [0]) (by kernel_rfl) ?_
                          refine WO.vals [(0, 2, (.bool false))] (by kernel_rfl) (fun _ => by kernel_rfl) ?_
                          refine WO.nil ?_
                          refine En.next ?_
                          refine W.ret ?_
                          refine En.in_ret ?_
                          refine En.nx_ret ?_
                          refine En.un_ret ?_
                          refine En.in_ret ?_
                          refine En.nx_ret ?_
                          have hS216 := hS215.drop
                          have hS217 := hS216.drop
                          have hS218 := hS217.drop
                          have he := Option.some.inj hr
                          subst r
                          exact En.ret1 rfl (.bool false) rfl ⟨I200, rfl, (((((((((((hl16.trans hl31).trans hl57).trans hl70).trans hl82).trans hl94).trans hl110).trans hl125).trans hl153).trans hl169).trans hl185).trans hl201), hS218⟩
                        · replace hr := cond_f hc hr
                          refine W.skip ?_
                          refine En.in_normal ?_
                          refine En.next ?_
                          refine W.region (l := [0, 1, 2]) (by kernel_rfl) ?_
                          refine WO.vals [(0, 17, (.int .i64 1)), (1, 18, (.int .i64 2)), (2, 5, (.int .i64 2))] (by kernel_rfl) (fun _ => by kernel_rfl) ?_
                          refine WO.nil ?_
                          refine En.again ?_
                          show W _ _ _ _ _ _
                          refine W.seq ?_
                          refine W.seq ?_
                          refine W.region (l := [0, 1, 2, 3]) (by kernel_rfl) ?_
                          refine WO.vals [(0, 13, (.int .i64 2)), (1, 14, (.slice (some ⟨b9, 0, none⟩) 2 2)), (2, 15, (.int .i64 2)), (3, 16, (.bool false))] (by kernel_rfl) (fun _ => by kernel_rfl) ?_
                          refine WO.nil ?_
                          refine En.next ?_
                          refine W.cond (b := false) rfl rfl (fun hc => ?_) (fun hc => ?_)
                          · cases hc
                          clear hc
                          refine W.exit ?_
                          refine En.nx_exit ?_
                          refine En.un_exit ?_
                          refine En.in_hit ?_
                          refine En.next ?_
                          refine W.seq ?_
                          refine W.region (l := [0, 1]) (by kernel_rfl) ?_
                          obtain ⟨r224, hx_r219, hr⟩ := bind_some hr
                          refine WO.call rfl (by kernel_rfl) rfl (f := 9) (args := #[]) (by kernel_rfl) (registrarlaw26_works_ok  hS215 hx_r219) ?_
                          rintro _ w220 ⟨I221, rfl, hl222, hS223⟩
                          refine ⟨_, rfl, trivial, ?_⟩
                          refine WO.vals [(1, 2, (.bool r224))] (by kernel_rfl) (fun _ => by kernel_rfl) ?_
                          refine WO.nil ?_
                          refine En.next ?_
                          refine W.ret ?_
                          have hS225 := hS223.drop
                          have hS226 := hS225.drop
                          have hS227 := hS226.drop
                          have he := Option.some.inj hr
                          subst r
                          exact En.ret1 rfl (.bool r224) rfl ⟨I221, rfl, ((((((((((((hl16.trans hl31).trans hl57).trans hl70).trans hl82).trans hl94).trans hl110).trans hl125).trans hl153).trans hl169).trans hl185).trans hl201).trans hl222), hS227⟩
end Go.Proofs.Ytmclgkomnpdgjaa
