/- What functions of the program come to, each by a plain one. Conditions: none. -/
import Derived.Test.YtmclgkomnpdgjaaF2
set_option maxRecDepth 100000
namespace Go.Proofs.Ytmclgkomnpdgjaa
open Go.Gv
def lru_Cache_Forget_1 (p0 : lru_Entry) (p1 : plan_Plan) (q2 : ByteArray) : Option Bool := some (sEq p1.Table.Name q2)
set_option maxHeartbeats 1000000 in
theorem lru_Cache_Forget_1_ok {E w : World} {I : Mem} {Os : List Mem} {p0 : lru_Entry} {p1 : plan_Plan} {q2 : ByteArray} {w_p1 : W_plan_Plan} {kb2 : Nat} (h_p1 : ok_plan_Plan I p1 w_p1) (hm2 : (one kb2 (.cells #[(.string q2)] 9 (0, 0))) ∈ Os) (hS : St E w I Os) {r : Bool} (hr : lru_Cache_Forget_1 p0 p1 q2 = some r) :
    Calls P 31 #[(.agg (cs_lru_Entry p0).toArray), (.agg (cs_plan_Plan p1 w_p1).toArray), (.pointer (some ⟨kb2, 0, none⟩))] w (fun e w' => ∃ (I' : Mem), e = .returned (.bool r) ∧ I.Le I' ∧ St E w' I' Os) := by
  refine calls_W (args := [(.agg (cs_lru_Entry p0).toArray), (.agg (cs_plan_Plan p1 w_p1).toArray), (.pointer (some ⟨kb2, 0, none⟩))]) (fn := Try.f31) rfl rfl rfl ?_
  unfold lru_Cache_Forget_1 at hr
  refine W.seq ?_
  refine W.region (l := [0, 1, 2]) (by kernel_rfl) ?_
  refine WO.new hS rfl (by kernel_rfl) rfl (.cells (cs_lru_Entry p0).toArray 74 (0, 0)) (fun b => .pointer (some ⟨b, 0, none⟩)) (by kernel_rfl) (fun _ _ _ => trivial) ?_
  intro b1 w4 hS3
  refine WO.new hS3 rfl (by kernel_rfl) rfl (.cells (cs_plan_Plan p1 w_p1).toArray 55 (0, 0)) (fun b => .pointer (some ⟨b, 0, none⟩)) (by kernel_rfl) (fun _ _ _ => trivial) ?_
  intro b5 w8 hS7
  refine WO.vals [(2, 5, (.bool false))] (by kernel_rfl) (fun _ => by kernel_rfl) ?_
  refine WO.nil ?_
  refine En.next ?_
  refine W.seq ?_
  refine W.region (l := [0, 1, 2, 3, 4, 5]) (by kernel_rfl) ?_
  refine WO.vals [(0, 6, (.pointer (some ⟨b5, 21, none⟩))), (1, 7, (.pointer (some ⟨b5, 21, none⟩)))] (by kernel_rfl) (fun _ => by kernel_rfl) ?_
  refine WO.load rfl (by kernel_rfl) (by kernel_rfl) rfl (v := (.string p1.Table.Name)) (fun w' hw' => cell_one ((rd_f (hS7.rd (List.Mem.head _))) w' hw') (by kernel_rfl)) ?_
  refine WO.load rfl (by kernel_rfl) (by kernel_rfl) rfl (v := (.string q2)) (fun w' hw' => cell_one ((rd_f (hS7.rd (List.Mem.tail _ (List.Mem.tail _ hm2)))) w' hw') (by kernel_rfl)) ?_
  refine WO.vals [(4, 10, (.bool (sEq p1.Table.Name q2))), (5, 5, (.bool (sEq p1.Table.Name q2)))] (by kernel_rfl) (fun _ => by kernel_rfl) ?_
  refine WO.nil ?_
  refine En.next ?_
  refine W.ret ?_
  have hS9 := hS7.drop
  have hS10 := hS9.drop
  have he := Option.some.inj hr
  subst r
  exact En.ret1 rfl (.bool (sEq p1.Table.Name q2)) rfl ⟨I, rfl, Mem.Le.refl _, hS10⟩
noncomputable def lru_Cache_Forget (p0 : lru_Cache) (p1 : ByteArray) : Option (Int × lru_Cache) := (lru_Cache_sweep p0 (fun (u0 : lru_Entry) (u1 : plan_Plan) => lru_Cache_Forget_1 u0 u1 p1)).bind (fun ((r12, r13) : Int × lru_Cache) => some (r12, r13))
set_option maxHeartbeats 1000000 in
theorem lru_Cache_Forget_ok {E w : World} {I : Mem} {Os : List Mem} {p0 : lru_Cache} {p1 : ByteArray} {b_p0 : Nat} {w_p0 : W_lru_Cache} (h_p0 : ok_lru_Cache I p0 w_p0) (hS : St E w I ((one b_p0 (.cells (cs_lru_Cache p0 w_p0).toArray 68 (0, 0))) :: (w_p0.at_.C) :: Os)) {r : Int × lru_Cache} (hr : lru_Cache_Forget p0 p1 = some r) :
    Calls P 19 #[(.pointer (some ⟨b_p0, 0, none⟩)), (.string p1)] w (fun e w' => ∃ (I' : Mem) (w_rp0 : W_lru_Cache), e = .returned (.int .i64 r.1) ∧ I.Le I' ∧ St E w' I' ((one b_p0 (.cells (cs_lru_Cache r.2 w_rp0).toArray 68 (0, 0))) :: w_rp0.at_.C :: Os) ∧ ok_lru_Cache I' r.2 w_rp0) := by
  refine calls_W (args := [(.pointer (some ⟨b_p0, 0, none⟩)), (.string p1)]) (fn := Try.f19) rfl rfl rfl ?_
  unfold lru_Cache_Forget at hr
  refine W.seq ?_
  refine W.region (l := [0, 1]) (by kernel_rfl) ?_
  refine WO.new hS rfl (by kernel_rfl) rfl (.cells #[(.string p1)] 9 (0, 0)) (fun b => .pointer (some ⟨b, 0, none⟩)) (by kernel_rfl) (fun _ _ _ => trivial) ?_
  intro b1 w4 hS3
  refine WO.vals [(1, 4, (.int .i64 0))] (by kernel_rfl) (fun _ => by kernel_rfl) ?_
  refine WO.nil ?_
  refine En.next ?_
  refine W.seq ?_
  refine W.region (l := [0, 1, 2, 3]) (by kernel_rfl) ?_
  refine WO.vals [(0, 5, (.pointer (some ⟨b_p0, 0, none⟩))), (1, 6, (.func (.func 31) #[] #[(.pointer (some ⟨b1, 0, none⟩))]))] (by kernel_rfl) (fun _ => by kernel_rfl) ?_
  have hS5 := hS3.front2
  have hS6 := hS5.front2
  obtain ⟨⟨r12, r13⟩, hx_r7, hr⟩ := bind_some hr
  refine WO.call rfl (by kernel_rfl) rfl (f := 29) (args := #[(.pointer (some ⟨b_p0, 0, none⟩)), (.func (.func 31) #[] #[(.pointer (some ⟨b1, 0, none⟩))])]) (by kernel_rfl) (lru_Cache_sweep_ok h_p0 (fun {F Ic wc} {_} {_} {_} hlc hSc h_u1 {rc} hrc => lru_Cache_Forget_1_ok h_u1 (List.mem_append_right _ (List.Mem.head _)) hSc hrc) (fun _ _ => by kernel_rfl) hS6 hx_r7) ?_
  rintro _ w8 ⟨I9, w_r13, rfl, hl10, hS11, h_r13⟩
  refine ⟨_, rfl, trivial, ?_⟩
  refine WO.vals [(3, 4, (.int .i64 r12))] (by kernel_rfl) (fun _ => by kernel_rfl) ?_
  refine WO.nil ?_
  refine En.next ?_
  refine W.ret ?_
  have hS14 := hS11.front2
  have hS15 := hS14.drop
  have he := Option.some.inj hr
  subst r
  exact En.ret1 rfl (.int .i64 r12) rfl ⟨I9, w_r13, rfl, hl10, hS15, h_r13⟩
def registrarref26_Cache_Forget (p0 : registrarref26_Cache) (p1 : ByteArray) : Option (Int × registrarref26_Cache) := (registrarref26_Cache_sweep p0 0 p1 true).bind (fun ((r6, r7) : Int × registrarref26_Cache) => some (r6, r7))
set_option maxHeartbeats 1000000 in
theorem registrarref26_Cache_Forget_ok {E w : World} {I : Mem} {Os : List Mem} {p0 : registrarref26_Cache} {p1 : ByteArray} {b_p0 : Nat} {w_p0 : W_registrarref26_Cache} (h_p0 : ok_registrarref26_Cache I p0 w_p0) (hS : St E w I ((one b_p0 (.cells (cs_registrarref26_Cache p0 w_p0).toArray 59 (0, 0))) :: Os)) {r : Int × registrarref26_Cache} (hr : registrarref26_Cache_Forget p0 p1 = some r) :
    Calls P 24 #[(.pointer (some ⟨b_p0, 0, none⟩)), (.string p1)] w (fun e w' => ∃ (I' : Mem) (w_rp0 : W_registrarref26_Cache), e = .returned (.int .i64 r.1) ∧ I.Le I' ∧ St E w' I' ((one b_p0 (.cells (cs_registrarref26_Cache r.2 w_rp0).toArray 59 (0, 0))) :: Os) ∧ ok_registrarref26_Cache I' r.2 w_rp0) := by
  refine calls_W (args := [(.pointer (some ⟨b_p0, 0, none⟩)), (.string p1)]) (fn := Try.f24) rfl rfl rfl ?_
  unfold registrarref26_Cache_Forget at hr
  refine W.seq ?_
  refine W.region (l := [0]) (by kernel_rfl) ?_
  refine WO.vals [(0, 4, (.int .i64 0))] (by kernel_rfl) (fun _ => by kernel_rfl) ?_
  refine WO.nil ?_
  refine En.next ?_
  refine W.seq ?_
  refine W.region (l := [0, 1, 2, 3]) (by kernel_rfl) ?_
  refine WO.vals [(0, 5, (.pointer (some ⟨b_p0, 0, none⟩))), (1, 6, (.string p1))] (by kernel_rfl) (fun _ => by kernel_rfl) ?_
  obtain ⟨⟨r6, r7⟩, hx_r1, hr⟩ := bind_some hr
  refine WO.call rfl (by kernel_rfl) rfl (f := 34) (args := #[(.pointer (some ⟨b_p0, 0, none⟩)), (.int .i64 0), (.string p1), (.bool true)]) (by kernel_rfl) (registrarref26_Cache_sweep_ok h_p0 hS hx_r1) ?_
  rintro _ w2 ⟨I3, w_r7, rfl, hl4, hS5, h_r7⟩
  refine ⟨_, rfl, trivial, ?_⟩
  refine WO.vals [(3, 4, (.int .i64 r6))] (by kernel_rfl) (fun _ => by kernel_rfl) ?_
  refine WO.nil ?_
  refine En.next ?_
  refine W.ret ?_
  have he := Option.some.inj hr
  subst r
  exact En.ret1 rfl (.int .i64 r6) rfl ⟨I3, w_r7, rfl, hl4, hS5, h_r7⟩
noncomputable def registrarlaw26_done (p0 : lru_Cache) (p1 : registrarref26_Cache) (p2 : registrarlaw26_Act) (p3 : Int) : Option (Bool × lru_Cache × registrarref26_Cache) := (bif (p2.Do == 0) then ((registrarlaw26_made p2.Table p3).bind (fun (r16 : plan_Plan) => (lru_Cache_Put p0 p2.Who p2.Name r16).bind (fun ((r24, r25) : Int × lru_Cache) => (registrarref26_Cache_Put p1 (⟨p2.Who, p2.Name, p2.Table, p3⟩ : registrarref26_Entry)).bind (fun ((r32, r33) : Int × registrarref26_Cache) => some ((r24 == r32), r25, r33))))).bind (fun ((s34, s35, s36) : Bool × lru_Cache × registrarref26_Cache) => some (s34, s35, s36)) else (bif (p2.Do == 1) then (lru_Cache_Get p0 p2.Who p2.Name).bind (fun ((r104, r105, r106) : plan_Plan × Bool × lru_Cache) => (registrarref26_Cache_Get p1 p2.Who p2.Name).bind (fun ((r119, r120, r121) : registrarref26_Entry × Bool × registrarref26_Cache) => ((bif (r105 == r120) then ((bif (!r105) then some true else (registrarlaw26_mark r104).bind (fun (r149 : Int) => some ((r149 == r119.Mark) && (sEq r104.Table.Name r119.Table))))).bind (fun (j134 : Bool) => some j134) else some false)).bind (fun (j130 : Bool) => ((bif j130 then ((bif r105 then some true else (registrarlaw26_mark r104).bind (fun (r181 : Int) => some (r181 == (-1))))).bind (fun (j172 : Bool) => some j172) else some false)).bind (fun (j168 : Bool) => some (j168, r106, r121))))) else (bif (p2.Do == 2) then (lru_Cache_Drop p0 p2.Who p2.Name).bind (fun ((r199, r200) : Bool × lru_Cache) => (registrarref26_Cache_Drop p1 p2.Who p2.Name).bind (fun ((r207, r208) : Bool × registrarref26_Cache) => some ((r199 == r207), r200, r208))) else (bif (p2.Do == 3) then (lru_Cache_Leave p0 p2.Who).bind (fun ((r222, r223) : Int × lru_Cache) => (registrarref26_Cache_Leave p1 p2.Who).bind (fun ((r230, r231) : Int × registrarref26_Cache) => some ((r222 == r230), r223, r231))) else (lru_Cache_Forget p0 p2.Table).bind (fun ((r245, r246) : Int × lru_Cache) => (registrarref26_Cache_Forget p1 p2.Table).bind (fun ((r253, r254) : Int × registrarref26_Cache) => some ((r245 == r253), r246, r254)))))))
set_option maxHeartbeats 1000000 in
theorem registrarlaw26_done_ok {E w : World} {I : Mem} {Os : List Mem} {p0 : lru_Cache} {p1 : registrarref26_Cache} {p2 : registrarlaw26_Act} {p3 : Int} {b_p0 : Nat} {w_p0 : W_lru_Cache} {b_p1 : Nat} {w_p1 : W_registrarref26_Cache} (h_p0 : ok_lru_Cache I p0 w_p0) (h_p1 : ok_registrarref26_Cache I p1 w_p1) (hS : St E w I ((one b_p0 (.cells (cs_lru_Cache p0 w_p0).toArray 68 (0, 0))) :: (w_p0.at_.C) :: (one b_p1 (.cells (cs_registrarref26_Cache p1 w_p1).toArray 59 (0, 0))) :: Os)) {r : Bool × lru_Cache × registrarref26_Cache} (hr : registrarlaw26_done p0 p1 p2 p3 = some r) :
    Calls P 10 #[(.pointer (some ⟨b_p0, 0, none⟩)), (.pointer (some ⟨b_p1, 0, none⟩)), (.agg (cs_registrarlaw26_Act p2).toArray), (.int .i64 p3)] w (fun e w' => ∃ (I' : Mem) (w_rp0 : W_lru_Cache) (w_rp1 : W_registrarref26_Cache), e = .returned (.bool r.1) ∧ I.Le I' ∧ St E w' I' ((one b_p0 (.cells (cs_lru_Cache r.2.1 w_rp0).toArray 68 (0, 0))) :: w_rp0.at_.C :: (one b_p1 (.cells (cs_registrarref26_Cache r.2.2 w_rp1).toArray 59 (0, 0))) :: Os) ∧ ok_lru_Cache I' r.2.1 w_rp0 ∧ ok_registrarref26_Cache I' r.2.2 w_rp1) := by
  refine calls_W (args := [(.pointer (some ⟨b_p0, 0, none⟩)), (.pointer (some ⟨b_p1, 0, none⟩)), (.agg (cs_registrarlaw26_Act p2).toArray), (.int .i64 p3)]) (fn := Try.f10) rfl rfl rfl ?_
  unfold registrarlaw26_done at hr
  refine W.seq ?_
  refine W.region (l := [0, 1]) (by kernel_rfl) ?_
  refine WO.new hS rfl (by kernel_rfl) rfl (.cells (cs_registrarlaw26_Act p2).toArray 29 (0, 0)) (fun b => .pointer (some ⟨b, 0, none⟩)) (by kernel_rfl) (fun _ _ _ => trivial) ?_
  intro b1 w4 hS3
  refine WO.vals [(1, 8, (.bool false))] (by kernel_rfl) (fun _ => by kernel_rfl) ?_
  refine WO.nil ?_
  refine En.next ?_
  refine W.seq ?_
  refine W.seq ?_
  refine W.region (l := [0, 1]) (by kernel_rfl) ?_
  refine WO.vals [(0, 13, (.pointer (some ⟨b1, 0, none⟩)))] (by kernel_rfl) (fun _ => by kernel_rfl) ?_
  refine WO.load rfl (by kernel_rfl) (by kernel_rfl) rfl (v := (.int .i64 p2.Do)) (fun w' hw' => cell_one ((rd_f (hS3.rd (List.Mem.head _))) w' hw') (by kernel_rfl)) ?_
  refine WO.nil ?_
  refine En.next ?_
  refine W.block ?_
  refine W.seq ?_
  refine W.region (l := [0, 1]) (by kernel_rfl) ?_
  refine WO.vals [(0, 16, (.bool (p2.Do == 0))), (1, 15, (.bool (p2.Do == 0)))] (by kernel_rfl) (fun _ => by kernel_rfl) ?_
  refine WO.nil ?_
  refine En.next ?_
  refine W.cond (b := (p2.Do == 0)) rfl rfl (fun hc => ?_) (fun hc => ?_)
  · replace hr := cond_t hc hr
    refine W.seq ?_
    obtain ⟨j5, hr1, hr⟩ := bind_some hr
    refine W.join (J := (fun fr w => ∃ (s34 : Bool), ∃ (s35 : lru_Cache), ∃ (s36 : registrarref26_Cache), ∃ (I7 : Mem), ∃ (w_s35 : W_lru_Cache), ∃ (w_s36 : W_registrarref26_Cache), (s34, s35, s36) = j5 ∧ fr = [(8, (.bool s34))] ∧ I.Le I7 ∧ St E w I7 ((one b_p0 (.cells (cs_lru_Cache s35 w_s35).toArray 68 (0, 0))) :: (w_s35.at_.C) :: (one b_p1 (.cells (cs_registrarref26_Cache s36 w_s36).toArray 59 (0, 0))) :: Os) ∧ ok_lru_Cache I7 s35 w_s35 ∧ ok_registrarref26_Cache I7 s36 w_s36)) ?restj5 ?waysj5
    case waysj5 =>
      have hS9 := hS3.drew
      refine W.draws (.split 18 8 (.leaf [0, 1, 2, 3, 4, 5, 6, 7, 10, 11, 12, 13, 14, 15, 16, 17, 18, 8, 9, 19, 20, 21]) (.split 18 9 (.leaf [0, 1, 2, 3, 4, 5, 6, 7, 8, 10, 11, 12, 13, 14, 15, 16, 17, 18, 9, 19, 20, 21]) (.leaf [0, 1, 2, 3, 4, 5, 6, 7, 8, 9, 10, 11, 12, 13, 14, 15, 16, 17, 18, 19, 20, 21]))) 19 (KR I [one b1 (.cells (cs_registrarlaw26_Act p2).toArray 29 (0, 0))]) qR (.back (by kernel_rfl)) (by kernel_rfl) (KR.cons (hS9.rd (List.Mem.head _)) (KR.nil hS9.im)) ?_
      generalize World.drew _ = w10 at *
      refine ⟨?_, ?_⟩
      · skip
        show WO _ _ _ _ _ _ _ [0, 1, 2, 3, 4, 5, 6, 7, 10, 11, 12, 13, 14, 15, 16, 17, 18, 8, 9, 19, 20, 21] _ _
        refine WO.vals [(0, 17, (.pointer (some ⟨b_p0, 0, none⟩))), (1, 18, (.pointer (some ⟨b1, 1, none⟩)))] (by kernel_rfl) (fun _ => by kernel_rfl) ?_
        refine WO.load rfl (by kernel_rfl) (by kernel_rfl) rfl (v := (.int .i64 p2.Who)) (fun w' hw' => cell_one ((rd_c (List.Mem.head _) (hS9.rd (List.Mem.head _))) w' hw') (by kernel_rfl)) ?_
        refine WO.vals [(3, 20, (.pointer (some ⟨b1, 2, none⟩)))] (by kernel_rfl) (fun _ => by kernel_rfl) ?_
        refine WO.load rfl (by kernel_rfl) (by kernel_rfl) rfl (v := (.string p2.Name)) (fun w' hw' => cell_one ((rd_c (List.Mem.head _) (hS9.rd (List.Mem.head _))) w' hw') (by kernel_rfl)) ?_
        refine WO.vals [(5, 22, (.pointer (some ⟨b1, 3, none⟩)))] (by kernel_rfl) (fun _ => by kernel_rfl) ?_
        refine WO.load rfl (by kernel_rfl) (by kernel_rfl) rfl (v := (.string p2.Table)) (fun w' hw' => cell_one ((rd_c (List.Mem.head _) (hS9.rd (List.Mem.head _))) w' hw') (by kernel_rfl)) ?_
        refine WO.vals [(7, 24, (.int .i64 p3)), (10, 27, (.pointer (some ⟨b_p1, 0, none⟩))), (11, 28, (.pointer (some ⟨b1, 1, none⟩)))] (by kernel_rfl) (fun _ => by kernel_rfl) ?_
        refine WO.load rfl (by kernel_rfl) (by kernel_rfl) rfl (v := (.int .i64 p2.Who)) (fun w' hw' => cell_one ((rd_c (List.Mem.head _) (hS9.rd (List.Mem.head _))) w' hw') (by kernel_rfl)) ?_
        refine WO.vals [(13, 30, (.pointer (some ⟨b1, 2, none⟩)))] (by kernel_rfl) (fun _ => by kernel_rfl) ?_
        refine WO.load rfl (by kernel_rfl) (by kernel_rfl) rfl (v := (.string p2.Name)) (fun w' hw' => cell_one ((rd_c (List.Mem.head _) (hS9.rd (List.Mem.head _))) w' hw') (by kernel_rfl)) ?_
        refine WO.vals [(15, 32, (.pointer (some ⟨b1, 3, none⟩)))] (by kernel_rfl) (fun _ => by kernel_rfl) ?_
        refine WO.load rfl (by kernel_rfl) (by kernel_rfl) rfl (v := (.string p2.Table)) (fun w' hw' => cell_one ((rd_c (List.Mem.head _) (hS9.rd (List.Mem.head _))) w' hw') (by kernel_rfl)) ?_
        refine WO.vals [(17, 34, (.int .i64 p3)), (18, 35, (.agg (cs_registrarref26_Entry (⟨p2.Who, p2.Name, p2.Table, p3⟩ : registrarref26_Entry)).toArray))] (by kernel_rfl) (fun _ => by kernel_rfl) ?_
        obtain ⟨r16, hx_r11, hr1⟩ := bind_some hr1
        refine WO.call rfl (by kernel_rfl) rfl (f := 13) (args := #[(.string p2.Table), (.int .i64 p3)]) (by kernel_rfl) (registrarlaw26_made_ok  hS9 hx_r11) ?_
        rintro _ w12 ⟨I13, w_r16, rfl, hl14, hS15, h_r16⟩
        refine ⟨_, rfl, (KR.cons (hS15.rd (List.Mem.head _)) (KR.nil (hS15.im.of_le hl14))), ?_⟩
        have hS17 := hS15.front2
        have hS18 := hS17.front2
        obtain ⟨⟨r24, r25⟩, hx_r19, hr1⟩ := bind_some hr1
        refine WO.call rfl (by kernel_rfl) rfl (f := 12) (args := #[(.pointer (some ⟨b_p0, 0, none⟩)), (.int .i64 p2.Who), (.string p2.Name), (.agg (cs_plan_Plan r16 w_r16).toArray)]) (by kernel_rfl) (lru_Cache_Put_ok (h_p0.mono hl14) h_r16 hS18 hx_r19) ?_
        rintro _ w20 ⟨I21, w_r25, rfl, hl22, hS23, h_r25⟩
        refine ⟨_, rfl, (KR.cons (hS23.rd (List.Mem.tail _ (List.Mem.tail _ (List.Mem.head _)))) (KR.nil (hS23.im.of_le (hl14.trans hl22)))), ?_⟩
        refine WO.tail rfl ?_
        have hS26 := hS23.front3
        obtain ⟨⟨r32, r33⟩, hx_r27, hr1⟩ := bind_some hr1
        refine WO.call rfl (by kernel_rfl) rfl (f := 20) (args := #[(.pointer (some ⟨b_p1, 0, none⟩)), (.agg (cs_registrarref26_Entry (⟨p2.Who, p2.Name, p2.Table, p3⟩ : registrarref26_Entry)).toArray)]) (by kernel_rfl) (registrarref26_Cache_Put_ok (h_p1.mono (hl14.trans hl22)) hS26 hx_r27) ?_
        rintro _ w28 ⟨I29, w_r33, rfl, hl30, hS31, h_r33⟩
        refine ⟨_, rfl, trivial, ?_⟩
        refine WO.vals [(20, 37, (.bool (r24 == r32))), (21, 8, (.bool (r24 == r32)))] (by kernel_rfl) (fun _ => by kernel_rfl) ?_
        refine WO.nil ?_
        have hS37 := hS31.front3
        have hS38 := hS37.drop
        have hS39 := hS38.front2
        have hS40 := hS39.front2
        refine En.weaken (fr' := [(8, (.bool (r24 == r32)))]) (En.round ⟨(r24 == r32), r25, r33, I29, w_r25, w_r33, Option.some.inj hr1, rfl, ((hl14.trans hl22).trans hl30), hS40, (h_r25.mono hl30), h_r33⟩) (Sub.cons rfl Sub.nil)
      · skip
        refine ⟨?_, ?_⟩
        · skip
          show WO _ _ _ _ _ _ _ [0, 1, 2, 3, 4, 5, 6, 7, 8, 10, 11, 12, 13, 14, 15, 16, 17, 18, 9, 19, 20, 21] _ _
          refine WO.vals [(0, 17, (.pointer (some ⟨b_p0, 0, none⟩))), (1, 18, (.pointer (some ⟨b1, 1, none⟩)))] (by kernel_rfl) (fun _ => by kernel_rfl) ?_
          refine WO.load rfl (by kernel_rfl) (by kernel_rfl) rfl (v := (.int .i64 p2.Who)) (fun w' hw' => cell_one ((rd_c (List.Mem.head _) (hS9.rd (List.Mem.head _))) w' hw') (by kernel_rfl)) ?_
          refine WO.vals [(3, 20, (.pointer (some ⟨b1, 2, none⟩)))] (by kernel_rfl) (fun _ => by kernel_rfl) ?_
          refine WO.load rfl (by kernel_rfl) (by kernel_rfl) rfl (v := (.string p2.Name)) (fun w' hw' => cell_one ((rd_c (List.Mem.head _) (hS9.rd (List.Mem.head _))) w' hw') (by kernel_rfl)) ?_
          refine WO.vals [(5, 22, (.pointer (some ⟨b1, 3, none⟩)))] (by kernel_rfl) (fun _ => by kernel_rfl) ?_
          refine WO.load rfl (by kernel_rfl) (by kernel_rfl) rfl (v := (.string p2.Table)) (fun w' hw' => cell_one ((rd_c (List.Mem.head _) (hS9.rd (List.Mem.head _))) w' hw') (by kernel_rfl)) ?_
          refine WO.vals [(7, 24, (.int .i64 p3))] (by kernel_rfl) (fun _ => by kernel_rfl) ?_
          obtain ⟨r46, hx_r41, hr1⟩ := bind_some hr1
          refine WO.call rfl (by kernel_rfl) rfl (f := 13) (args := #[(.string p2.Table), (.int .i64 p3)]) (by kernel_rfl) (registrarlaw26_made_ok  hS9 hx_r41) ?_
          rintro _ w42 ⟨I43, w_r46, rfl, hl44, hS45, h_r46⟩
          refine ⟨_, rfl, (KR.cons (hS45.rd (List.Mem.head _)) (KR.nil (hS45.im.of_le hl44))), ?_⟩
          refine WO.vals [(10, 27, (.pointer (some ⟨b_p1, 0, none⟩))), (11, 28, (.pointer (some ⟨b1, 1, none⟩)))] (by kernel_rfl) (fun _ => by kernel_rfl) ?_
          refine WO.load rfl (by kernel_rfl) (by kernel_rfl) rfl (v := (.int .i64 p2.Who)) (fun w' hw' => cell_one ((rd_c (List.Mem.head _) (hS45.rd (List.Mem.head _))) w' hw') (by kernel_rfl)) ?_
          refine WO.vals [(13, 30, (.pointer (some ⟨b1, 2, none⟩)))] (by kernel_rfl) (fun _ => by kernel_rfl) ?_
          refine WO.load rfl (by kernel_rfl) (by kernel_rfl) rfl (v := (.string p2.Name)) (fun w' hw' => cell_one ((rd_c (List.Mem.head _) (hS45.rd (List.Mem.head _))) w' hw') (by kernel_rfl)) ?_
          refine WO.vals [(15, 32, (.pointer (some ⟨b1, 3, none⟩)))] (by kernel_rfl) (fun _ => by kernel_rfl) ?_
          refine WO.load rfl (by kernel_rfl) (by kernel_rfl) rfl (v := (.string p2.Table)) (fun w' hw' => cell_one ((rd_c (List.Mem.head _) (hS45.rd (List.Mem.head _))) w' hw') (by kernel_rfl)) ?_
          refine WO.vals [(17, 34, (.int .i64 p3)), (18, 35, (.agg (cs_registrarref26_Entry (⟨p2.Who, p2.Name, p2.Table, p3⟩ : registrarref26_Entry)).toArray))] (by kernel_rfl) (fun _ => by kernel_rfl) ?_
          have hS47 := hS45.front2
          have hS48 := hS47.front2
          obtain ⟨⟨r54, r55⟩, hx_r49, hr1⟩ := bind_some hr1
          refine WO.call rfl (by kernel_rfl) rfl (f := 12) (args := #[(.pointer (some ⟨b_p0, 0, none⟩)), (.int .i64 p2.Who), (.string p2.Name), (.agg (cs_plan_Plan r46 w_r46).toArray)]) (by kernel_rfl) (lru_Cache_Put_ok (h_p0.mono hl44) h_r46 hS48 hx_r49) ?_
          rintro _ w50 ⟨I51, w_r55, rfl, hl52, hS53, h_r55⟩
          refine ⟨_, rfl, (KR.cons (hS53.rd (List.Mem.tail _ (List.Mem.tail _ (List.Mem.head _)))) (KR.nil (hS53.im.of_le (hl44.trans hl52)))), ?_⟩
          refine WO.tail rfl ?_
          have hS56 := hS53.front3
          obtain ⟨⟨r62, r63⟩, hx_r57, hr1⟩ := bind_some hr1
          refine WO.call rfl (by kernel_rfl) rfl (f := 20) (args := #[(.pointer (some ⟨b_p1, 0, none⟩)), (.agg (cs_registrarref26_Entry (⟨p2.Who, p2.Name, p2.Table, p3⟩ : registrarref26_Entry)).toArray)]) (by kernel_rfl) (registrarref26_Cache_Put_ok (h_p1.mono (hl44.trans hl52)) hS56 hx_r57) ?_
          rintro _ w58 ⟨I59, w_r63, rfl, hl60, hS61, h_r63⟩
          refine ⟨_, rfl, trivial, ?_⟩
          refine WO.vals [(20, 37, (.bool (r54 == r62))), (21, 8, (.bool (r54 == r62)))] (by kernel_rfl) (fun _ => by kernel_rfl) ?_
          refine WO.nil ?_
          have hS64 := hS61.front3
          have hS65 := hS64.drop
          have hS66 := hS65.front2
          have hS67 := hS66.front2
          refine En.weaken (fr' := [(8, (.bool (r54 == r62)))]) (En.round ⟨(r54 == r62), r55, r63, I59, w_r55, w_r63, Option.some.inj hr1, rfl, ((hl44.trans hl52).trans hl60), hS67, (h_r55.mono hl60), h_r63⟩) (Sub.cons rfl Sub.nil)
        · skip
          show WO _ _ _ _ _ _ _ [0, 1, 2, 3, 4, 5, 6, 7, 8, 9, 10, 11, 12, 13, 14, 15, 16, 17, 18, 19, 20, 21] _ _
          refine WO.vals [(0, 17, (.pointer (some ⟨b_p0, 0, none⟩))), (1, 18, (.pointer (some ⟨b1, 1, none⟩)))] (by kernel_rfl) (fun _ => by kernel_rfl) ?_
          refine WO.load rfl (by kernel_rfl) (by kernel_rfl) rfl (v := (.int .i64 p2.Who)) (fun w' hw' => cell_one ((rd_c (List.Mem.head _) (hS9.rd (List.Mem.head _))) w' hw') (by kernel_rfl)) ?_
          refine WO.vals [(3, 20, (.pointer (some ⟨b1, 2, none⟩)))] (by kernel_rfl) (fun _ => by kernel_rfl) ?_
          refine WO.load rfl (by kernel_rfl) (by kernel_rfl) rfl (v := (.string p2.Name)) (fun w' hw' => cell_one ((rd_c (List.Mem.head _) (hS9.rd (List.Mem.head _))) w' hw') (by kernel_rfl)) ?_
          refine WO.vals [(5, 22, (.pointer (some ⟨b1, 3, none⟩)))] (by kernel_rfl) (fun _ => by kernel_rfl) ?_
          refine WO.load rfl (by kernel_rfl) (by kernel_rfl) rfl (v := (.string p2.Table)) (fun w' hw' => cell_one ((rd_c (List.Mem.head _) (hS9.rd (List.Mem.head _))) w' hw') (by kernel_rfl)) ?_
          refine WO.vals [(7, 24, (.int .i64 p3))] (by kernel_rfl) (fun _ => by kernel_rfl) ?_
          obtain ⟨r73, hx_r68, hr1⟩ := bind_some hr1
          refine WO.call rfl (by kernel_rfl) rfl (f := 13) (args := #[(.string p2.Table), (.int .i64 p3)]) (by kernel_rfl) (registrarlaw26_made_ok  hS9 hx_r68) ?_
          rintro _ w69 ⟨I70, w_r73, rfl, hl71, hS72, h_r73⟩
          refine ⟨_, rfl, (KR.cons (hS72.rd (List.Mem.head _)) (KR.nil (hS72.im.of_le hl71))), ?_⟩
          have hS74 := hS72.front2
          have hS75 := hS74.front2
          obtain ⟨⟨r81, r82⟩, hx_r76, hr1⟩ := bind_some hr1
          refine WO.call rfl (by kernel_rfl) rfl (f := 12) (args := #[(.pointer (some ⟨b_p0, 0, none⟩)), (.int .i64 p2.Who), (.string p2.Name), (.agg (cs_plan_Plan r73 w_r73).toArray)]) (by kernel_rfl) (lru_Cache_Put_ok (h_p0.mono hl71) h_r73 hS75 hx_r76) ?_
          rintro _ w77 ⟨I78, w_r82, rfl, hl79, hS80, h_r82⟩
          refine ⟨_, rfl, (KR.cons (hS80.rd (List.Mem.tail _ (List.Mem.tail _ (List.Mem.head _)))) (KR.nil (hS80.im.of_le (hl71.trans hl79)))), ?_⟩
          refine WO.vals [(10, 27, (.pointer (some ⟨b_p1, 0, none⟩))), (11, 28, (.pointer (some ⟨b1, 1, none⟩)))] (by kernel_rfl) (fun _ => by kernel_rfl) ?_
          refine WO.load rfl (by kernel_rfl) (by kernel_rfl) rfl (v := (.int .i64 p2.Who)) (fun w' hw' => cell_one ((rd_c (List.Mem.head _) (hS80.rd (List.Mem.tail _ (List.Mem.tail _ (List.Mem.head _))))) w' hw') (by kernel_rfl)) ?_
          refine WO.vals [(13, 30, (.pointer (some ⟨b1, 2, none⟩)))] (by kernel_rfl) (fun _ => by kernel_rfl) ?_
          refine WO.load rfl (by kernel_rfl) (by kernel_rfl) rfl (v := (.string p2.Name)) (fun w' hw' => cell_one ((rd_c (List.Mem.head _) (hS80.rd (List.Mem.tail _ (List.Mem.tail _ (List.Mem.head _))))) w' hw') (by kernel_rfl)) ?_
          refine WO.vals [(15, 32, (.pointer (some ⟨b1, 3, none⟩)))] (by kernel_rfl) (fun _ => by kernel_rfl) ?_
          refine WO.load rfl (by kernel_rfl) (by kernel_rfl) rfl (v := (.string p2.Table)) (fun w' hw' => cell_one ((rd_c (List.Mem.head _) (hS80.rd (List.Mem.tail _ (List.Mem.tail _ (List.Mem.head _))))) w' hw') (by kernel_rfl)) ?_
          refine WO.vals [(17, 34, (.int .i64 p3)), (18, 35, (.agg (cs_registrarref26_Entry (⟨p2.Who, p2.Name, p2.Table, p3⟩ : registrarref26_Entry)).toArray))] (by kernel_rfl) (fun _ => by kernel_rfl) ?_
          refine WO.tail rfl ?_
          have hS83 := hS80.front3
          obtain ⟨⟨r89, r90⟩, hx_r84, hr1⟩ := bind_some hr1
          refine WO.call rfl (by kernel_rfl) rfl (f := 20) (args := #[(.pointer (some ⟨b_p1, 0, none⟩)), (.agg (cs_registrarref26_Entry (⟨p2.Who, p2.Name, p2.Table, p3⟩ : registrarref26_Entry)).toArray)]) (by kernel_rfl) (registrarref26_Cache_Put_ok (h_p1.mono (hl71.trans hl79)) hS83 hx_r84) ?_
          rintro _ w85 ⟨I86, w_r90, rfl, hl87, hS88, h_r90⟩
          refine ⟨_, rfl, trivial, ?_⟩
          refine WO.vals [(20, 37, (.bool (r81 == r89))), (21, 8, (.bool (r81 == r89)))] (by kernel_rfl) (fun _ => by kernel_rfl) ?_
          refine WO.nil ?_
          have hS91 := hS88.front3
          have hS92 := hS91.drop
          have hS93 := hS92.front2
          have hS94 := hS93.front2
          refine En.weaken (fr' := [(8, (.bool (r81 == r89)))]) (En.round ⟨(r81 == r89), r82, r90, I86, w_r82, w_r90, Option.some.inj hr1, rfl, ((hl71.trans hl79).trans hl87), hS94, (h_r82.mono hl87), h_r90⟩) (Sub.cons rfl Sub.nil)
    case restj5 =>
      rintro _ w95 ⟨s34, s35, s36, I7, w_s35, w_s36, rfl, rfl, hl8, hS96, h_s35, h_s36⟩
      refine En.next ?_
      refine W.ret ?_
      refine En.in_ret ?_
      refine En.nx_ret ?_
      have he := Option.some.inj hr
      subst r
      exact En.ret1 rfl (.bool s34) rfl ⟨I7, w_s35, w_s36, rfl, hl8, hS96, h_s35, h_s36⟩
  · replace hr := cond_f hc hr
    refine W.seq ?_
    refine W.region (l := [0, 1]) (by kernel_rfl) ?_
    refine WO.vals [(0, 39, (.bool (p2.Do == 1))), (1, 38, (.bool (p2.Do == 1)))] (by kernel_rfl) (fun _ => by kernel_rfl) ?_
    refine WO.nil ?_
    refine En.next ?_
    refine W.cond (b := (p2.Do == 1)) rfl rfl (fun hc => ?_) (fun hc => ?_)
    · replace hr := cond_t hc hr
      refine W.seq ?_
      refine W.region (l := [0, 1, 2, 3, 4, 5, 6, 7, 8, 9, 10, 11]) (by kernel_rfl) ?_
      refine WO.vals [(0, 41, (.pointer (some ⟨b_p0, 0, none⟩))), (1, 42, (.pointer (some ⟨b1, 1, none⟩)))] (by kernel_rfl) (fun _ => by kernel_rfl) ?_
      refine WO.load rfl (by kernel_rfl) (by kernel_rfl) rfl (v := (.int .i64 p2.Who)) (fun w' hw' => cell_one ((rd_f (hS3.rd (List.Mem.head _))) w' hw') (by kernel_rfl)) ?_
      refine WO.vals [(3, 44, (.pointer (some ⟨b1, 2, none⟩)))] (by kernel_rfl) (fun _ => by kernel_rfl) ?_
      refine WO.load rfl (by kernel_rfl) (by kernel_rfl) rfl (v := (.string p2.Name)) (fun w' hw' => cell_one ((rd_f (hS3.rd (List.Mem.head _))) w' hw') (by kernel_rfl)) ?_
      have hS97 := hS3.front2
      have hS98 := hS97.front2
      obtain ⟨⟨r104, r105, r106⟩, hx_r99, hr⟩ := bind_some hr
      refine WO.call rfl (by kernel_rfl) rfl (f := 14) (args := #[(.pointer (some ⟨b_p0, 0, none⟩)), (.int .i64 p2.Who), (.string p2.Name)]) (by kernel_rfl) (lru_Cache_Get_ok h_p0 hS98 hx_r99) ?_
      rintro _ w100 ⟨I101, w_r104, w_r106, rfl, hl102, hS103, h_r104, h_r106⟩
      refine ⟨_, rfl, trivial, ?_⟩
      refine WO.vals [(6, 40, (.tuple #[(.agg (cs_plan_Plan r104 w_r104).toArray), (.bool r105)])), (7, 47, (.agg (cs_plan_Plan r104 w_r104).toArray)), (8, 48, (.bool r105))] (by kernel_rfl) (fun _ => by kernel_rfl) ?_
      refine WO.new hS103 rfl (by kernel_rfl) rfl (.cells (cs_plan_Plan z_plan_Plan zw_plan_Plan).toArray 55 (0, 0)) (fun b => .pointer (some ⟨b, 0, none⟩)) (by kernel_rfl) (fun _ _ _ => trivial) ?_
      intro b107 w110 hS109
      refine WO.storeBox hS109 rfl (by kernel_rfl) rfl 0 rfl rfl (by kernel_rfl) (all_one (rel := R_plan_Plan) (I := I101) (x := r104) ⟨w_r104, rfl, h_r104⟩) (by kernel_rfl) ((cs_plan_Plan r104 w_r104).toArray) (by kernel_rfl) (fun _ _ => trivial) ?_
      intro w112 hS111
      refine WO.vals [(11, 10, (.bool r105))] (by kernel_rfl) (fun _ => by kernel_rfl) ?_
      refine WO.nil ?_
      refine En.next ?_
      refine W.seq ?_
      refine W.region (l := [0, 1, 2, 3, 4, 5, 6, 7, 8, 9, 10, 11]) (by kernel_rfl) ?_
      refine WO.vals [(0, 50, (.pointer (some ⟨b_p1, 0, none⟩))), (1, 51, (.pointer (some ⟨b1, 1, none⟩)))] (by kernel_rfl) (fun _ => by kernel_rfl) ?_
      refine WO.load rfl (by kernel_rfl) (by kernel_rfl) rfl (v := (.int .i64 p2.Who)) (fun w' hw' => cell_one ((rd_f (hS111.rd (List.Mem.tail _ (List.Mem.tail _ (List.Mem.tail _ (List.Mem.head _)))))) w' hw') (by kernel_rfl)) ?_
      refine WO.vals [(3, 53, (.pointer (some ⟨b1, 2, none⟩)))] (by kernel_rfl) (fun _ => by kernel_rfl) ?_
      refine WO.load rfl (by kernel_rfl) (by kernel_rfl) rfl (v := (.string p2.Name)) (fun w' hw' => cell_one ((rd_f (hS111.rd (List.Mem.tail _ (List.Mem.tail _ (List.Mem.tail _ (List.Mem.head _)))))) w' hw') (by kernel_rfl)) ?_
      have hS113 := hS111.front4
      obtain ⟨⟨r119, r120, r121⟩, hx_r114, hr⟩ := bind_some hr
      refine WO.call rfl (by kernel_rfl) rfl (f := 21) (args := #[(.pointer (some ⟨b_p1, 0, none⟩)), (.int .i64 p2.Who), (.string p2.Name)]) (by kernel_rfl) (registrarref26_Cache_Get_ok (h_p1.mono hl102) hS113 hx_r114) ?_
      rintro _ w115 ⟨I116, w_r121, rfl, hl117, hS118, h_r121⟩
      refine ⟨_, rfl, trivial, ?_⟩
      refine WO.vals [(6, 49, (.tuple #[(.agg (cs_registrarref26_Entry r119).toArray), (.bool r120)])), (7, 56, (.agg (cs_registrarref26_Entry r119).toArray)), (8, 57, (.bool r120))] (by kernel_rfl) (fun _ => by kernel_rfl) ?_
      refine WO.new hS118 rfl (by kernel_rfl) rfl (.cells (cs_registrarref26_Entry z_registrarref26_Entry).toArray 79 (0, 0)) (fun b => .pointer (some ⟨b, 0, none⟩)) (by kernel_rfl) (fun _ _ _ => trivial) ?_
      intro b122 w125 hS124
      refine WO.storeBox hS124 rfl (by kernel_rfl) rfl 0 rfl rfl (by kernel_rfl) (by kernel_rfl) (by kernel_rfl) ((cs_registrarref26_Entry r119).toArray) (by kernel_rfl) (fun _ _ => trivial) ?_
      intro w127 hS126
      refine WO.vals [(11, 12, (.bool r120))] (by kernel_rfl) (fun _ => by kernel_rfl) ?_
      refine WO.nil ?_
      refine En.next ?_
      refine W.seq ?_
      have hS128 := hS126.drew
      refine W.draw (l := [0, 1, 2, 3, 4, 5, 6, 7, 8, 9, 10, 11, 12, 13, 14, 15, 16, 17, 18, 19, 20, 21, 22, 23, 24, 25, 26, 27, 28, 29, 30]) (by kernel_rfl) 22 (KR I116 [one b122 (.cells (cs_registrarref26_Entry r119).toArray 79 (0, 0)), one b107 (.cells (cs_plan_Plan r104 w_r104).toArray 55 (0, 0))]) qR (.back (by kernel_rfl)) (by kernel_rfl) (KR.cons (hS128.rd (List.Mem.head _)) (KR.cons (hS128.rd (List.Mem.tail _ (List.Mem.tail _ (List.Mem.head _)))) (KR.nil hS128.im))) ?_
      generalize World.drew _ = w129 at *
      refine WO.vals [(0, 58, (.bool r105)), (1, 59, (.bool r120)), (2, 60, (.bool (r105 == r120))), (3, 61, (.bool (r105 == r120)))] (by kernel_rfl) (fun _ => by kernel_rfl) ?_
      obtain ⟨j130, hr1, hr⟩ := bind_some hr
      refine WO.join (l1 := [4, 5, 6, 7, 8, 9, 10, 11, 12, 13, 14, 15, 16, 17, 18, 19, 20, 21]) (l2 := [22, 23, 24, 25, 26, 27, 28, 29, 30]) (J := (fun fr w => ∃ (I132 : Mem), fr = [(9, (.pointer (some ⟨b107, 0, none⟩))), (10, (.bool r105)), (79, (.bool j130))] ∧ I116.Le I132 ∧ St E w I132 ((one b_p0 (.cells (cs_lru_Cache r106 w_r106).toArray 68 (0, 0))) :: (w_r106.at_.C) :: (one b_p1 (.cells (cs_registrarref26_Cache r121 w_r121).toArray 59 (0, 0))) :: (one b107 (.cells (cs_plan_Plan r104 w_r104).toArray 55 (0, 0))) :: (one b122 (.cells (cs_registrarref26_Entry r119).toArray 79 (0, 0))) :: Os))) ?restj130 ?waysj130
      case waysj130 =>
        refine WO.caseb (r105 == r120) (fun hc => ?_) (fun hc => ?_)
        · replace hr1 := cond_t hc hr1
          refine WO.reslot 61 rfl (show Value.bool (r105 == r120) = Value.bool true by rw [hc]) ?_
          refine WO.vals [(4, 62, (.bool r105)), (5, 63, (.bool (!r105))), (6, 64, (.bool (!r105)))] (by kernel_rfl) (fun _ => by kernel_rfl) ?_
          obtain ⟨j134, hr2, hr1⟩ := bind_some hr1
          refine WO.join (l1 := [7, 8, 9, 10, 11, 12, 13, 14, 15, 16, 17, 18, 19, 20]) (l2 := [21]) (J := (fun fr w => ∃ (I136 : Mem), fr = [(9, (.pointer (some ⟨b107, 0, none⟩))), (10, (.bool r105)), (61, (.bool true)), (78, (.bool j134))] ∧ I116.Le I136 ∧ St E w I136 ((one b_p0 (.cells (cs_lru_Cache r106 w_r106).toArray 68 (0, 0))) :: (w_r106.at_.C) :: (one b_p1 (.cells (cs_registrarref26_Cache r121 w_r121).toArray 59 (0, 0))) :: (one b107 (.cells (cs_plan_Plan r104 w_r104).toArray 55 (0, 0))) :: (one b122 (.cells (cs_registrarref26_Entry r119).toArray 79 (0, 0))) :: Os))) ?restj134 ?waysj134
          case waysj134 =>
            refine WO.caseb (!r105) (fun hc => ?_) (fun hc => ?_)
            · replace hr2 := cond_t hc hr2
              refine WO.reslot 64 rfl (show Value.bool (!r105) = Value.bool true by rw [hc]) ?_
              refine WO.pass rfl (by kernel_rfl) rfl ?_
              refine WO.pass rfl (by kernel_rfl) rfl ?_
              refine WO.pass rfl (by kernel_rfl) rfl ?_
              refine WO.pass rfl (by kernel_rfl) rfl ?_
              refine WO.pass rfl (by kernel_rfl) rfl ?_
              refine WO.pass rfl (by kernel_rfl) rfl ?_
              refine WO.pass rfl (by kernel_rfl) rfl ?_
              refine WO.pass rfl (by kernel_rfl) rfl ?_
              refine WO.pass rfl (by kernel_rfl) rfl ?_
              refine WO.pass rfl (by kernel_rfl) rfl ?_
              refine WO.pass rfl (by kernel_rfl) rfl ?_
              refine WO.pass rfl (by kernel_rfl) rfl ?_
              refine WO.pass rfl (by kernel_rfl) rfl ?_
              refine WO.vals [(20, 78, (.bool true))] (by kernel_rfl) (fun _ => by kernel_rfl) ?_
              have hS138 := hS128.front5
              have hS139 := hS138.drop
              have hS140 := hS139.front2
              have hS141 := hS140.front2
              have hS142 := hS141.front4
              have hS143 := hS142.front4
              have he := Option.some.inj hr2
              subst j134
              refine WO.weaken (fr' := [(9, (.pointer (some ⟨b107, 0, none⟩))), (10, (.bool r105)), (61, (.bool true)), (78, (.bool true))]) (WO.meet ⟨I116, rfl, Mem.Le.refl _, hS143⟩) (Sub.cons rfl (Sub.cons rfl (Sub.cons rfl (Sub.cons rfl Sub.nil))))
            · replace hr2 := cond_f hc hr2
              refine WO.reslot 64 rfl (show Value.bool (!r105) = Value.bool false by rw [hc]) ?_
              refine WO.loadN rfl (by kernel_rfl) (by kernel_rfl) rfl ((cs_plan_Plan r104 w_r104)) (by kernel_rfl) (fun w' hw' => cells_one ((rd_c (List.Mem.tail _ (List.Mem.head _)) (hS128.rd (List.Mem.tail _ (List.Mem.tail _ (List.Mem.head _))))) w' hw') (by kernel_rfl)) ?_
              obtain ⟨r149, hx_r144, hr2⟩ := bind_some hr2
              refine WO.call rfl (by kernel_rfl) rfl (f := 15) (args := #[(.agg (cs_plan_Plan r104 w_r104).toArray)]) (by kernel_rfl) (registrarlaw26_mark_ok (h_r104.mono hl117) hS128 hx_r144) ?_
              rintro _ w145 ⟨I146, rfl, hl147, hS148⟩
              refine ⟨_, rfl, (KR.cons (hS148.rd (List.Mem.head _)) (KR.cons (hS148.rd (List.Mem.tail _ (List.Mem.tail _ (List.Mem.head _)))) (KR.nil (hS148.im.of_le hl147)))), ?_⟩
              refine WO.vals [(9, 67, (.pointer (some ⟨b122, 3, none⟩)))] (by kernel_rfl) (fun _ => by kernel_rfl) ?_
              refine WO.load rfl (by kernel_rfl) (by kernel_rfl) rfl (v := (.int .i64 r119.Mark)) (fun w' hw' => cell_one ((rd_c (List.Mem.head _) (hS148.rd (List.Mem.head _))) w' hw') (by kernel_rfl)) ?_
              refine WO.vals [(11, 69, (.bool (r149 == r119.Mark))), (12, 70, (.bool (r149 == r119.Mark)))] (by kernel_rfl) (fun _ => by kernel_rfl) ?_
              refine WO.join (l1 := [13, 14, 15, 16, 17, 18, 19]) (l2 := [20]) (J := fun frx wx => frx = [(77, (.bool ((r149 == r119.Mark) && (sEq r104.Table.Name r119.Table)))), (9, (.pointer (some ⟨b107, 0, none⟩))), (10, (.bool r105)), (61, (.bool true)), (64, (.bool false))] ∧ w145 = wx) ?restm150 ?waysm150
              case waysm150 =>
                refine WO.caseb (r149 == r119.Mark) (fun hc => ?_) (fun hc => ?_)
                · skip
                  refine WO.reslot 70 rfl (show Value.bool (r149 == r119.Mark) = Value.bool true by rw [hc]) ?_
                  refine WO.vals [(13, 71, (.pointer (some ⟨b107, 21, none⟩))), (14, 72, (.pointer (some ⟨b107, 21, none⟩)))] (by kernel_rfl) (fun _ => by kernel_rfl) ?_
                  refine WO.load rfl (by kernel_rfl) (by kernel_rfl) rfl (v := (.string r104.Table.Name)) (fun w' hw' => cell_one ((rd_c (List.Mem.tail _ (List.Mem.head _)) (hS148.rd (List.Mem.tail _ (List.Mem.tail _ (List.Mem.head _))))) w' hw') (by kernel_rfl)) ?_
                  refine WO.vals [(16, 74, (.pointer (some ⟨b122, 2, none⟩)))] (by kernel_rfl) (fun _ => by kernel_rfl) ?_
                  refine WO.load rfl (by kernel_rfl) (by kernel_rfl) rfl (v := (.string r119.Table)) (fun w' hw' => cell_one ((rd_c (List.Mem.head _) (hS148.rd (List.Mem.head _))) w' hw') (by kernel_rfl)) ?_
                  refine WO.vals [(18, 76, (.bool (sEq r104.Table.Name r119.Table))), (19, 77, (.bool (sEq r104.Table.Name r119.Table)))] (by kernel_rfl) (fun _ => by kernel_rfl) ?_
                  refine WO.weaken (fr' := [(77, (.bool ((r149 == r119.Mark) && (sEq r104.Table.Name r119.Table)))), (9, (.pointer (some ⟨b107, 0, none⟩))), (10, (.bool r105)), (61, (.bool true)), (64, (.bool false))]) (WO.meet ⟨rfl, rfl⟩) (Sub.cons (by rw [hc]; rfl) (Sub.cons rfl (Sub.cons rfl (Sub.cons rfl (Sub.cons rfl Sub.nil)))))
                · skip
                  refine WO.reslot 70 rfl (show Value.bool (r149 == r119.Mark) = Value.bool false by rw [hc]) ?_
                  refine WO.pass rfl (by kernel_rfl) rfl ?_
                  refine WO.pass rfl (by kernel_rfl) rfl ?_
                  refine WO.pass rfl (by kernel_rfl) rfl ?_
                  refine WO.pass rfl (by kernel_rfl) rfl ?_
                  refine WO.pass rfl (by kernel_rfl) rfl ?_
                  refine WO.pass rfl (by kernel_rfl) rfl ?_
                  refine WO.vals [(19, 77, (.bool false))] (by kernel_rfl) (fun _ => by kernel_rfl) ?_
                  refine WO.weaken (fr' := [(77, (.bool ((r149 == r119.Mark) && (sEq r104.Table.Name r119.Table)))), (9, (.pointer (some ⟨b107, 0, none⟩))), (10, (.bool r105)), (61, (.bool true)), (64, (.bool false))]) (WO.meet ⟨rfl, rfl⟩) (Sub.cons (by rw [hc]; rfl) (Sub.cons rfl (Sub.cons rfl (Sub.cons rfl (Sub.cons rfl Sub.nil)))))
              case restm150 =>
                rintro _ _ ⟨rfl, rfl⟩
                refine WO.vals [(20, 78, (.bool ((r149 == r119.Mark) && (sEq r104.Table.Name r119.Table))))] (by kernel_rfl) (fun _ => by kernel_rfl) ?_
                have hS152 := hS148.front5
                have hS153 := hS152.drop
                have hS154 := hS153.front2
                have hS155 := hS154.front2
                have hS156 := hS155.front4
                have hS157 := hS156.front4
                have he := Option.some.inj hr2
                subst j134
                refine WO.weaken (fr' := [(9, (.pointer (some ⟨b107, 0, none⟩))), (10, (.bool r105)), (61, (.bool true)), (78, (.bool ((r149 == r119.Mark) && (sEq r104.Table.Name r119.Table))))]) (WO.meet ⟨I146, rfl, hl147, hS157⟩) (Sub.cons rfl (Sub.cons rfl (Sub.cons rfl (Sub.cons rfl Sub.nil))))
          case restj134 =>
            rintro _ w158 ⟨I136, rfl, hl137, hS159⟩
            refine WO.vals [(21, 79, (.bool j134))] (by kernel_rfl) (fun _ => by kernel_rfl) ?_
            have he := Option.some.inj hr1
            subst j130
            refine WO.weaken (fr' := [(9, (.pointer (some ⟨b107, 0, none⟩))), (10, (.bool r105)), (79, (.bool j134))]) (WO.meet ⟨I136, rfl, hl137, hS159⟩) (Sub.cons rfl (Sub.cons rfl (Sub.cons rfl Sub.nil)))
        · replace hr1 := cond_f hc hr1
          refine WO.reslot 61 rfl (show Value.bool (r105 == r120) = Value.bool false by rw [hc]) ?_
          refine WO.pass rfl (by kernel_rfl) rfl ?_
          refine WO.pass rfl (by kernel_rfl) rfl ?_
          refine WO.pass rfl (by kernel_rfl) rfl ?_
          refine WO.pass rfl (by kernel_rfl) rfl ?_
          refine WO.pass rfl (by kernel_rfl) rfl ?_
          refine WO.pass rfl (by kernel_rfl) rfl ?_
          refine WO.pass rfl (by kernel_rfl) rfl ?_
          refine WO.pass rfl (by kernel_rfl) rfl ?_
          refine WO.pass rfl (by kernel_rfl) rfl ?_
          refine WO.pass rfl (by kernel_rfl) rfl ?_
          refine WO.pass rfl (by kernel_rfl) rfl ?_
          refine WO.pass rfl (by kernel_rfl) rfl ?_
          refine WO.pass rfl (by kernel_rfl) rfl ?_
          refine WO.pass rfl (by kernel_rfl) rfl ?_
          refine WO.pass rfl (by kernel_rfl) rfl ?_
          refine WO.pass rfl (by kernel_rfl) rfl ?_
          refine WO.pass rfl (by kernel_rfl) rfl ?_
          refine WO.vals [(21, 79, (.bool false))] (by kernel_rfl) (fun _ => by kernel_rfl) ?_
          have hS160 := hS128.front5
          have hS161 := hS160.drop
          have hS162 := hS161.front2
          have hS163 := hS162.front2
          have hS164 := hS163.front4
          have hS165 := hS164.front4
          have he := Option.some.inj hr1
          subst j130
          refine WO.weaken (fr' := [(9, (.pointer (some ⟨b107, 0, none⟩))), (10, (.bool r105)), (79, (.bool false))]) (WO.meet ⟨I116, rfl, Mem.Le.refl _, hS165⟩) (Sub.cons rfl (Sub.cons rfl (Sub.cons rfl Sub.nil)))
      case restj130 =>
        rintro _ w166 ⟨I132, rfl, hl133, hS167⟩
        refine WO.tail rfl ?_
        refine WO.vals [(22, 80, (.bool j130))] (by kernel_rfl) (fun _ => by kernel_rfl) ?_
        obtain ⟨j168, hr1, hr⟩ := bind_some hr
        refine WO.join (l1 := [23, 24, 25, 26, 27, 28, 29]) (l2 := [30]) (J := (fun fr w => ∃ (I170 : Mem), fr = [(87, (.bool j168))] ∧ I132.Le I170 ∧ St E w I170 ((one b_p0 (.cells (cs_lru_Cache r106 w_r106).toArray 68 (0, 0))) :: (w_r106.at_.C) :: (one b_p1 (.cells (cs_registrarref26_Cache r121 w_r121).toArray 59 (0, 0))) :: (one b107 (.cells (cs_plan_Plan r104 w_r104).toArray 55 (0, 0))) :: (one b122 (.cells (cs_registrarref26_Entry r119).toArray 79 (0, 0))) :: Os))) ?restj168 ?waysj168
        case waysj168 =>
          refine WO.caseb j130 (fun hc => ?_) (fun hc => ?_)
          · replace hr1 := cond_t hc hr1
            refine WO.reslot 80 rfl (show Value.bool j130 = Value.bool true by rw [hc]) ?_
            refine WO.vals [(23, 81, (.bool r105)), (24, 82, (.bool r105))] (by kernel_rfl) (fun _ => by kernel_rfl) ?_
            obtain ⟨j172, hr2, hr1⟩ := bind_some hr1
            refine WO.join (l1 := [25, 26, 27, 28]) (l2 := [29]) (J := (fun fr w => ∃ (I174 : Mem), fr = [(80, (.bool true)), (86, (.bool j172))] ∧ I132.Le I174 ∧ St E w I174 ((one b_p0 (.cells (cs_lru_Cache r106 w_r106).toArray 68 (0, 0))) :: (w_r106.at_.C) :: (one b_p1 (.cells (cs_registrarref26_Cache r121 w_r121).toArray 59 (0, 0))) :: (one b107 (.cells (cs_plan_Plan r104 w_r104).toArray 55 (0, 0))) :: (one b122 (.cells (cs_registrarref26_Entry r119).toArray 79 (0, 0))) :: Os))) ?restj172 ?waysj172
            case waysj172 =>
              refine WO.caseb r105 (fun hc => ?_) (fun hc => ?_)
              · replace hr2 := cond_t hc hr2
                refine WO.reslot 82 rfl (show Value.bool r105 = Value.bool true by rw [hc]) ?_
                refine WO.pass rfl (by kernel_rfl) rfl ?_
                refine WO.pass rfl (by kernel_rfl) rfl ?_
                refine WO.pass rfl (by kernel_rfl) rfl ?_
                refine WO.vals [(28, 86, (.bool true))] (by kernel_rfl) (fun _ => by kernel_rfl) ?_
                have he := Option.some.inj hr2
                subst j172
                refine WO.weaken (fr' := [(80, (.bool true)), (86, (.bool true))]) (WO.meet ⟨I132, rfl, Mem.Le.refl _, hS167⟩) (Sub.cons rfl (Sub.cons rfl Sub.nil))
              · replace hr2 := cond_f hc hr2
                refine WO.reslot 82 rfl (show Value.bool r105 = Value.bool false by rw [hc]) ?_
                refine WO.loadN rfl (by kernel_rfl) (by kernel_rfl) rfl ((cs_plan_Plan r104 w_r104)) (by kernel_rfl) (fun w' hw' => cells_one ((rd_f (hS167.rd (List.Mem.tail _ (List.Mem.tail _ (List.Mem.tail _ (List.Mem.head _)))))) w' hw') (by kernel_rfl)) ?_
                obtain ⟨r181, hx_r176, hr2⟩ := bind_some hr2
                refine WO.call rfl (by kernel_rfl) rfl (f := 15) (args := #[(.agg (cs_plan_Plan r104 w_r104).toArray)]) (by kernel_rfl) (registrarlaw26_mark_ok (h_r104.mono (hl117.trans hl133)) hS167 hx_r176) ?_
                rintro _ w177 ⟨I178, rfl, hl179, hS180⟩
                refine ⟨_, rfl, trivial, ?_⟩
                refine WO.vals [(27, 85, (.bool (r181 == (-1)))), (28, 86, (.bool (r181 == (-1))))] (by kernel_rfl) (fun _ => by kernel_rfl) ?_
                have he := Option.some.inj hr2
                subst j172
                refine WO.weaken (fr' := [(80, (.bool true)), (86, (.bool (r181 == (-1))))]) (WO.meet ⟨I178, rfl, hl179, hS180⟩) (Sub.cons rfl (Sub.cons rfl Sub.nil))
            case restj172 =>
              rintro _ w182 ⟨I174, rfl, hl175, hS183⟩
              refine WO.vals [(29, 87, (.bool j172))] (by kernel_rfl) (fun _ => by kernel_rfl) ?_
              have he := Option.some.inj hr1
              subst j168
              refine WO.weaken (fr' := [(87, (.bool j172))]) (WO.meet ⟨I174, rfl, hl175, hS183⟩) (Sub.cons rfl Sub.nil)
          · replace hr1 := cond_f hc hr1
            refine WO.reslot 80 rfl (show Value.bool j130 = Value.bool false by rw [hc]) ?_
            refine WO.pass rfl (by kernel_rfl) rfl ?_
            refine WO.pass rfl (by kernel_rfl) rfl ?_
            refine WO.pass rfl (by kernel_rfl) rfl ?_
            refine WO.pass rfl (by kernel_rfl) rfl ?_
            refine WO.pass rfl (by kernel_rfl) rfl ?_
            refine WO.pass rfl (by kernel_rfl) rfl ?_
            refine WO.vals [(29, 87, (.bool false))] (by kernel_rfl) (fun _ => by kernel_rfl) ?_
            have he := Option.some.inj hr1
            subst j168
            refine WO.weaken (fr' := [(87, (.bool false))]) (WO.meet ⟨I132, rfl, Mem.Le.refl _, hS167⟩) (Sub.cons rfl Sub.nil)
        case restj168 =>
          rintro _ w184 ⟨I170, rfl, hl171, hS185⟩
          refine WO.vals [(30, 8, (.bool j168))] (by kernel_rfl) (fun _ => by kernel_rfl) ?_
          refine WO.nil ?_
          refine En.next ?_
          refine W.ret ?_
          refine En.in_ret ?_
          refine En.nx_ret ?_
          have hS186 := hS185.front3
          have hS187 := hS186.drop
          have hS188 := hS187.front3
          have hS189 := hS188.drop
          have he := Option.some.inj hr
          subst r
          exact En.ret1 rfl (.bool j168) rfl ⟨I170, w_r106, w_r121, rfl, (((hl102.trans hl117).trans hl133).trans hl171), hS189, (h_r106.mono ((hl117.trans hl133).trans hl171)), (h_r121.mono (hl133.trans hl171))⟩
    · replace hr := cond_f hc hr
      refine W.seq ?_
      refine W.region (l := [0, 1]) (by kernel_rfl) ?_
      refine WO.vals [(0, 89, (.bool (p2.Do == 2))), (1, 88, (.bool (p2.Do == 2)))] (by kernel_rfl) (fun _ => by kernel_rfl) ?_
      refine WO.nil ?_
      refine En.next ?_
      refine W.cond (b := (p2.Do == 2)) rfl rfl (fun hc => ?_) (fun hc => ?_)
      · replace hr := cond_t hc hr
        refine W.seq ?_
        have hS190 := hS3.drew
        refine W.draw (l := [0, 1, 2, 3, 4, 5, 6, 7, 8, 9, 10, 11, 12, 13]) (by kernel_rfl) 11 (KR I [one b1 (.cells (cs_registrarlaw26_Act p2).toArray 29 (0, 0))]) qR (.back (by kernel_rfl)) (by kernel_rfl) (KR.cons (hS190.rd (List.Mem.head _)) (KR.nil hS190.im)) ?_
        generalize World.drew _ = w191 at *
        refine WO.vals [(0, 90, (.pointer (some ⟨b_p0, 0, none⟩))), (1, 91, (.pointer (some ⟨b1, 1, none⟩)))] (by kernel_rfl) (fun _ => by kernel_rfl) ?_
        refine WO.load rfl (by kernel_rfl) (by kernel_rfl) rfl (v := (.int .i64 p2.Who)) (fun w' hw' => cell_one ((rd_c (List.Mem.head _) (hS190.rd (List.Mem.head _))) w' hw') (by kernel_rfl)) ?_
        refine WO.vals [(3, 93, (.pointer (some ⟨b1, 2, none⟩)))] (by kernel_rfl) (fun _ => by kernel_rfl) ?_
        refine WO.load rfl (by kernel_rfl) (by kernel_rfl) rfl (v := (.string p2.Name)) (fun w' hw' => cell_one ((rd_c (List.Mem.head _) (hS190.rd (List.Mem.head _))) w' hw') (by kernel_rfl)) ?_
        have hS192 := hS190.front2
        have hS193 := hS192.front2
        obtain ⟨⟨r199, r200⟩, hx_r194, hr⟩ := bind_some hr
        refine WO.call rfl (by kernel_rfl) rfl (f := 17) (args := #[(.pointer (some ⟨b_p0, 0, none⟩)), (.int .i64 p2.Who), (.string p2.Name)]) (by kernel_rfl) (lru_Cache_Drop_ok h_p0 hS193 hx_r194) ?_
        rintro _ w195 ⟨I196, w_r200, rfl, hl197, hS198, h_r200⟩
        refine ⟨_, rfl, (KR.cons (hS198.rd (List.Mem.tail _ (List.Mem.tail _ (List.Mem.head _)))) (KR.nil (hS198.im.of_le hl197))), ?_⟩
        refine WO.vals [(6, 96, (.pointer (some ⟨b_p1, 0, none⟩))), (7, 97, (.pointer (some ⟨b1, 1, none⟩)))] (by kernel_rfl) (fun _ => by kernel_rfl) ?_
        refine WO.load rfl (by kernel_rfl) (by kernel_rfl) rfl (v := (.int .i64 p2.Who)) (fun w' hw' => cell_one ((rd_c (List.Mem.head _) (hS198.rd (List.Mem.tail _ (List.Mem.tail _ (List.Mem.head _))))) w' hw') (by kernel_rfl)) ?_
        refine WO.vals [(9, 99, (.pointer (some ⟨b1, 2, none⟩)))] (by kernel_rfl) (fun _ => by kernel_rfl) ?_
        refine WO.load rfl (by kernel_rfl) (by kernel_rfl) rfl (v := (.string p2.Name)) (fun w' hw' => cell_one ((rd_c (List.Mem.head _) (hS198.rd (List.Mem.tail _ (List.Mem.tail _ (List.Mem.head _))))) w' hw') (by kernel_rfl)) ?_
        refine WO.tail rfl ?_
        have hS201 := hS198.front3
        obtain ⟨⟨r207, r208⟩, hx_r202, hr⟩ := bind_some hr
        refine WO.call rfl (by kernel_rfl) rfl (f := 22) (args := #[(.pointer (some ⟨b_p1, 0, none⟩)), (.int .i64 p2.Who), (.string p2.Name)]) (by kernel_rfl) (registrarref26_Cache_Drop_ok (h_p1.mono hl197) hS201 hx_r202) ?_
        rintro _ w203 ⟨I204, w_r208, rfl, hl205, hS206, h_r208⟩
        refine ⟨_, rfl, trivial, ?_⟩
        refine WO.vals [(12, 102, (.bool (r199 == r207))), (13, 8, (.bool (r199 == r207)))] (by kernel_rfl) (fun _ => by kernel_rfl) ?_
        refine WO.nil ?_
        refine En.next ?_
        refine W.ret ?_
        refine En.in_ret ?_
        refine En.nx_ret ?_
        have hS209 := hS206.front3
        have hS210 := hS209.drop
        have hS211 := hS210.front2
        have hS212 := hS211.front2
        have he := Option.some.inj hr
        subst r
        exact En.ret1 rfl (.bool (r199 == r207)) rfl ⟨I204, w_r200, w_r208, rfl, (hl197.trans hl205), hS212, (h_r200.mono hl205), h_r208⟩
      · replace hr := cond_f hc hr
        refine W.seq ?_
        refine W.region (l := [0, 1]) (by kernel_rfl) ?_
        refine WO.vals [(0, 104, (.bool (p2.Do == 3))), (1, 103, (.bool (p2.Do == 3)))] (by kernel_rfl) (fun _ => by kernel_rfl) ?_
        refine WO.nil ?_
        refine En.next ?_
        refine W.cond (b := (p2.Do == 3)) rfl rfl (fun hc => ?_) (fun hc => ?_)
        · replace hr := cond_t hc hr
          refine W.seq ?_
          have hS213 := hS3.drew
          refine W.draw (l := [0, 1, 2, 3, 4, 5, 6, 7, 8, 9]) (by kernel_rfl) 7 (KR I [one b1 (.cells (cs_registrarlaw26_Act p2).toArray 29 (0, 0))]) qR (.back (by kernel_rfl)) (by kernel_rfl) (KR.cons (hS213.rd (List.Mem.head _)) (KR.nil hS213.im)) ?_
          generalize World.drew _ = w214 at *
          refine WO.vals [(0, 105, (.pointer (some ⟨b_p0, 0, none⟩))), (1, 106, (.pointer (some ⟨b1, 1, none⟩)))] (by kernel_rfl) (fun _ => by kernel_rfl) ?_
          refine WO.load rfl (by kernel_rfl) (by kernel_rfl) rfl (v := (.int .i64 p2.Who)) (fun w' hw' => cell_one ((rd_c (List.Mem.head _) (hS213.rd (List.Mem.head _))) w' hw') (by kernel_rfl)) ?_
          have hS215 := hS213.front2
          have hS216 := hS215.front2
          obtain ⟨⟨r222, r223⟩, hx_r217, hr⟩ := bind_some hr
          refine WO.call rfl (by kernel_rfl) rfl (f := 18) (args := #[(.pointer (some ⟨b_p0, 0, none⟩)), (.int .i64 p2.Who)]) (by kernel_rfl) (lru_Cache_Leave_ok h_p0 hS216 hx_r217) ?_
          rintro _ w218 ⟨I219, w_r223, rfl, hl220, hS221, h_r223⟩
          refine ⟨_, rfl, (KR.cons (hS221.rd (List.Mem.tail _ (List.Mem.tail _ (List.Mem.head _)))) (KR.nil (hS221.im.of_le hl220))), ?_⟩
          refine WO.vals [(4, 109, (.pointer (some ⟨b_p1, 0, none⟩))), (5, 110, (.pointer (some ⟨b1, 1, none⟩)))] (by kernel_rfl) (fun _ => by kernel_rfl) ?_
          refine WO.load rfl (by kernel_rfl) (by kernel_rfl) rfl (v := (.int .i64 p2.Who)) (fun w' hw' => cell_one ((rd_c (List.Mem.head _) (hS221.rd (List.Mem.tail _ (List.Mem.tail _ (List.Mem.head _))))) w' hw') (by kernel_rfl)) ?_
          refine WO.tail rfl ?_
          have hS224 := hS221.front3
          obtain ⟨⟨r230, r231⟩, hx_r225, hr⟩ := bind_some hr
          refine WO.call rfl (by kernel_rfl) rfl (f := 23) (args := #[(.pointer (some ⟨b_p1, 0, none⟩)), (.int .i64 p2.Who)]) (by kernel_rfl) (registrarref26_Cache_Leave_ok (h_p1.mono hl220) hS224 hx_r225) ?_
          rintro _ w226 ⟨I227, w_r231, rfl, hl228, hS229, h_r231⟩
          refine ⟨_, rfl, trivial, ?_⟩
          refine WO.vals [(8, 113, (.bool (r222 == r230))), (9, 8, (.bool (r222 == r230)))] (by kernel_rfl) (fun _ => by kernel_rfl) ?_
          refine WO.nil ?_
          refine En.next ?_
          refine W.ret ?_
          refine En.in_ret ?_
          refine En.nx_ret ?_
          have hS232 := hS229.front3
          have hS233 := hS232.drop
          have hS234 := hS233.front2
          have hS235 := hS234.front2
          have he := Option.some.inj hr
          subst r
          exact En.ret1 rfl (.bool (r222 == r230)) rfl ⟨I227, w_r223, w_r231, rfl, (hl220.trans hl228), hS235, (h_r223.mono hl228), h_r231⟩
        · replace hr := cond_f hc hr
          refine W.skip ?_
          refine En.in_normal ?_
          refine En.next ?_
          refine W.seq ?_
          have hS236 := hS3.drew
          refine W.draw (l := [0, 1, 2, 3, 4, 5, 6, 7, 8, 9]) (by kernel_rfl) 7 (KR I [one b1 (.cells (cs_registrarlaw26_Act p2).toArray 29 (0, 0))]) qR (.back (by kernel_rfl)) (by kernel_rfl) (KR.cons (hS236.rd (List.Mem.head _)) (KR.nil hS236.im)) ?_
          generalize World.drew _ = w237 at *
          refine WO.vals [(0, 114, (.pointer (some ⟨b_p0, 0, none⟩))), (1, 115, (.pointer (some ⟨b1, 3, none⟩)))] (by kernel_rfl) (fun _ => by kernel_rfl) ?_
          refine WO.load rfl (by kernel_rfl) (by kernel_rfl) rfl (v := (.string p2.Table)) (fun w' hw' => cell_one ((rd_c (List.Mem.head _) (hS236.rd (List.Mem.head _))) w' hw') (by kernel_rfl)) ?_
          have hS238 := hS236.front2
          have hS239 := hS238.front2
          obtain ⟨⟨r245, r246⟩, hx_r240, hr⟩ := bind_some hr
          refine WO.call rfl (by kernel_rfl) rfl (f := 19) (args := #[(.pointer (some ⟨b_p0, 0, none⟩)), (.string p2.Table)]) (by kernel_rfl) (lru_Cache_Forget_ok h_p0 hS239 hx_r240) ?_
          rintro _ w241 ⟨I242, w_r246, rfl, hl243, hS244, h_r246⟩
          refine ⟨_, rfl, (KR.cons (hS244.rd (List.Mem.tail _ (List.Mem.tail _ (List.Mem.head _)))) (KR.nil (hS244.im.of_le hl243))), ?_⟩
          refine WO.vals [(4, 118, (.pointer (some ⟨b_p1, 0, none⟩))), (5, 119, (.pointer (some ⟨b1, 3, none⟩)))] (by kernel_rfl) (fun _ => by kernel_rfl) ?_
          refine WO.load rfl (by kernel_rfl) (by kernel_rfl) rfl (v := (.string p2.Table)) (fun w' hw' => cell_one ((rd_c (List.Mem.head _) (hS244.rd (List.Mem.tail _ (List.Mem.tail _ (List.Mem.head _))))) w' hw') (by kernel_rfl)) ?_
          refine WO.tail rfl ?_
          have hS247 := hS244.front3
          obtain ⟨⟨r253, r254⟩, hx_r248, hr⟩ := bind_some hr
          refine WO.call rfl (by kernel_rfl) rfl (f := 24) (args := #[(.pointer (some ⟨b_p1, 0, none⟩)), (.string p2.Table)]) (by kernel_rfl) (registrarref26_Cache_Forget_ok (h_p1.mono hl243) hS247 hx_r248) ?_
          rintro _ w249 ⟨I250, w_r254, rfl, hl251, hS252, h_r254⟩
          refine ⟨_, rfl, trivial, ?_⟩
          refine WO.vals [(8, 122, (.bool (r245 == r253))), (9, 8, (.bool (r245 == r253)))] (by kernel_rfl) (fun _ => by kernel_rfl) ?_
          refine WO.nil ?_
          refine En.next ?_
          refine W.ret ?_
          have hS255 := hS252.front3
          have hS256 := hS255.drop
          have hS257 := hS256.front2
          have hS258 := hS257.front2
          have he := Option.some.inj hr
          subst r
          exact En.ret1 rfl (.bool (r245 == r253)) rfl ⟨I250, w_r246, w_r254, rfl, (hl243.trans hl251), hS258, (h_r246.mono hl251), h_r254⟩
noncomputable def registrarlaw26_like (p0 : lru_Cache) (p1 : registrarref26_Cache) : Option Bool := (lru_Cache_All p0).bind (fun (r8 : List lru_Entry) => (bif ((r8.length : Int) != (p1.L.length : Int)) then some false else (forN (fun (i12 : Nat) => fun (_s : Unit) => (idx r8 (i12 : Int)).bind (fun (x21 : lru_Entry) => (idx p1.L (i12 : Int)).bind (fun (x22 : registrarref26_Entry) => ((bif (x21.Who != x22.Who) then some true else (idx r8 (i12 : Int)).bind (fun (x27 : lru_Entry) => (idx p1.L (i12 : Int)).bind (fun (x28 : registrarref26_Entry) => some (!sEq x27.Name x28.Name))))).bind (fun (j23 : Bool) => (bif j23 then some (.inr false) else some (.inl ())))))) r8.length 0 ()).bind (fun (t : Unit ⊕ (Bool)) => match t with | .inl _ => some true | .inr s32 => some s32)))
set_option maxHeartbeats 1000000 in
theorem registrarlaw26_like_ok {E w : World} {I : Mem} {Os : List Mem} {p0 : lru_Cache} {p1 : registrarref26_Cache} {b_p0 : Nat} {w_p0 : W_lru_Cache} {b_p1 : Nat} {w_p1 : W_registrarref26_Cache} (h_p0 : ok_lru_Cache I p0 w_p0) (h_p1 : ok_registrarref26_Cache I p1 w_p1) (hS : St E w I ((one b_p0 (.cells (cs_lru_Cache p0 w_p0).toArray 68 (0, 0))) :: (w_p0.at_.C) :: (one b_p1 (.cells (cs_registrarref26_Cache p1 w_p1).toArray 59 (0, 0))) :: Os)) {r : Bool} (hr : registrarlaw26_like p0 p1 = some r) :
    Calls P 11 #[(.pointer (some ⟨b_p0, 0, none⟩)), (.pointer (some ⟨b_p1, 0, none⟩))] w (fun e w' => ∃ (I' : Mem), e = .returned (.bool r) ∧ I.Le I' ∧ St E w' I' ((one b_p0 (.cells (cs_lru_Cache p0 w_p0).toArray 68 (0, 0))) :: w_p0.at_.C :: (one b_p1 (.cells (cs_registrarref26_Cache p1 w_p1).toArray 59 (0, 0))) :: Os)) := by
  refine calls_W (args := [(.pointer (some ⟨b_p0, 0, none⟩)), (.pointer (some ⟨b_p1, 0, none⟩))]) (fn := Try.f11) rfl rfl rfl ?_
  unfold registrarlaw26_like at hr
  refine W.seq ?_
  refine W.region (l := [0]) (by kernel_rfl) ?_
  refine WO.vals [(0, 4, (.bool false))] (by kernel_rfl) (fun _ => by kernel_rfl) ?_
  refine WO.nil ?_
  refine En.next ?_
  refine W.seq ?_
  refine W.region (l := [0, 1, 2]) (by kernel_rfl) ?_
  refine WO.vals [(0, 7, (.pointer (some ⟨b_p0, 0, none⟩)))] (by kernel_rfl) (fun _ => by kernel_rfl) ?_
  have hS1 := hS.front1
  have hS2 := hS1.front1
  obtain ⟨r8, hx_r3, hr⟩ := bind_some hr
  refine WO.call rfl (by kernel_rfl) rfl (f := 16) (args := #[(.pointer (some ⟨b_p0, 0, none⟩))]) (by kernel_rfl) (lru_Cache_All_ok h_p0 hS2 hx_r3) ?_
  rintro _ w4 ⟨I5, a_r8, c_r8, rfl, hl6, hS7, h_r8⟩
  refine ⟨_, rfl, trivial, ?_⟩
  refine WO.vals [(2, 5, (.slice a_r8 r8.length c_r8))] (by kernel_rfl) (fun _ => by kernel_rfl) ?_
  refine WO.nil ?_
  refine En.next ?_
  refine W.seq ?_
  refine W.seq ?_
  refine W.region (l := [0, 1, 2, 3, 4, 5, 6, 7]) (by kernel_rfl) ?_
  refine WO.vals [(0, 9, (.slice a_r8 r8.length c_r8)), (1, 10, (.int .i64 (r8.length : Int))), (2, 11, (.pointer (some ⟨b_p1, 0, none⟩))), (3, 12, (.pointer (some ⟨b_p1, 0, none⟩))), (4, 13, (.pointer (some ⟨b_p1, 0, none⟩)))] (by kernel_rfl) (fun _ => by kernel_rfl) ?_
  refine WO.load rfl (by kernel_rfl) (by kernel_rfl) rfl (v := (.slice w_p1.L.a p1.L.length w_p1.L.c)) (fun w' hw' => cell_one ((rd_f (hS7.rd (List.Mem.tail _ (List.Mem.tail _ (List.Mem.head _))))) w' hw') (by kernel_rfl)) ?_
  refine WO.vals [(6, 15, (.int .i64 (p1.L.length : Int))), (7, 16, (.bool ((r8.length : Int) != (p1.L.length : Int))))] (by kernel_rfl) (fun _ => by kernel_rfl) ?_
  refine WO.nil ?_
  refine En.next ?_
  refine W.cond (b := ((r8.length : Int) != (p1.L.length : Int))) rfl rfl (fun hc => ?_) (fun hc => ?_)
  · replace hr := cond_t hc hr
    refine W.seq ?_
    refine W.region (l := [0]) (by kernel_rfl) ?_
    refine WO.vals [(0, 4, (.bool false))] (by kernel_rfl) (fun _ => by kernel_rfl) ?_
    refine WO.nil ?_
    refine En.next ?_
    refine W.ret ?_
    refine En.nx_ret ?_
    have he := Option.some.inj hr
    subst r
    exact En.ret1 rfl (.bool false) rfl ⟨I5, rfl, hl6, hS7⟩
  · replace hr := cond_f hc hr
    refine W.skip ?_
    refine En.next ?_
    refine W.seq ?_
    refine W.seq ?_
    refine W.region (l := [0]) (by kernel_rfl) ?_
    refine WO.vals [(0, 6, (.int .i64 0))] (by kernel_rfl) (fun _ => by kernel_rfl) ?_
    refine WO.nil ?_
    refine En.next ?_
    refine W.block ?_
    obtain ⟨t9, hloop13, hr⟩ := bind_some hr
    have hlt17 := (h_r8).len_lt
    refine W.weaken (fr' := [(1, (.pointer (some ⟨b_p1, 0, none⟩))), (5, (.slice a_r8 r8.length c_r8)), (6, (.int .i64 ((0 : Nat) : Int)))]) (W.forN (m := r8.length) hloop13 (fun (i12 : Nat) => fun (_s : Unit) fr w => ∃ (I10 : Mem), fr = [(1, (.pointer (some ⟨b_p1, 0, none⟩))), (5, (.slice a_r8 r8.length c_r8)), (6, (.int .i64 (i12 : Int)))] ∧ I5.Le I10 ∧ St E w I10 ((one b_p0 (.cells (cs_lru_Cache p0 w_p0).toArray 68 (0, 0))) :: (w_p0.at_.C) :: (one b_p1 (.cells (cs_registrarref26_Cache p1 w_p1).toArray 59 (0, 0))) :: Os)) ⟨I5, rfl, Mem.Le.refl _, hS7⟩ ?roundt9 ?lastt9) (Sub.cons rfl (Sub.cons rfl (Sub.cons rfl Sub.nil)))
    case roundt9 =>
      rintro i12 _ _ w14 hi18 ⟨I10, rfl, hl11, hS15⟩ x16 hr1 hext9
      refine W.seq ?_
      refine W.seq ?_
      refine W.region (l := [0, 1, 2, 3]) (by kernel_rfl) ?_
      refine WO.vals [(0, 17, (.int .i64 (i12 : Int))), (1, 18, (.slice a_r8 r8.length c_r8)), (2, 19, (.int .i64 (r8.length : Int))), (3, 20, (.bool (decide ((i12 : Int) < (r8.length : Int)))))] (by kernel_rfl) (fun _ => by kernel_rfl) ?_
      refine WO.nil ?_
      refine En.next ?_
      refine W.cond (b := (decide ((i12 : Int) < (r8.length : Int)))) rfl rfl (fun hc => ?_) (fun hc => ?_)
      rotate_left
      · exact absurd hc (by first | (simp; done) | (simp; omega))
      clear hc
      refine W.skip ?_
      refine En.next ?_
      refine W.seq ?_
      refine W.block ?_
      refine W.seq ?_
      have hS19 := hS15.drew
      refine W.draw (l := [0, 1, 2, 3, 4, 5, 6, 7, 8, 9, 10, 11, 12, 13, 14, 15, 16, 17, 18, 19, 20, 21, 22, 23, 24, 25, 26, 27, 28, 29]) (by kernel_rfl) 30 (KR I10 [one b_p1 (.cells (cs_registrarref26_Cache p1 w_p1).toArray 59 (0, 0))]) qR (.back (by kernel_rfl)) (by kernel_rfl) (KR.cons (hS19.rd (List.Mem.tail _ (List.Mem.tail _ (List.Mem.head _)))) (KR.nil hS19.im)) ?_
      generalize World.drew _ = w20 at *
      refine WO.vals [(0, 23, (.slice a_r8 r8.length c_r8)), (1, 24, (.int .i64 (i12 : Int)))] (by kernel_rfl) (fun _ => by kernel_rfl) ?_
      obtain ⟨x21, hx_x21, hr1⟩ := bind_some hr1
      obtain ⟨h0_x21, h1_x21, hx_x21⟩ := idx_some hx_x21
      obtain ⟨ha_x21, cs_x21, hn_x21, hr_x21, hc_x21⟩ := ((RSl.mono h_r8 hl11)).el _ _ hx_x21
      obtain rfl := hr_x21
      refine WO.indexAddr (e := 74) (sz := 2) rfl (by kernel_rfl) (by kernel_rfl) (by kernel_rfl) rfl ha_x21 rfl h0_x21 h1_x21 ?_
      refine WO.vals [(3, 26, (.pointer (some ⟨bl a_r8, of a_r8 + ((i12 : Int)).toNat * 2, none⟩)))] (by kernel_rfl) (fun _ => by kernel_rfl) ?_
      refine WO.load rfl (by kernel_rfl) (by kernel_rfl) rfl (v := (.int .i64 x21.Who)) (fun w' hw' => hc_x21.cell0 (by kernel_rfl) ((rd_i hS19.im) w' hw')) ?_
      refine WO.vals [(5, 28, (.pointer (some ⟨b_p1, 0, none⟩))), (6, 29, (.pointer (some ⟨b_p1, 0, none⟩))), (7, 30, (.pointer (some ⟨b_p1, 0, none⟩)))] (by kernel_rfl) (fun _ => by kernel_rfl) ?_
      refine WO.load rfl (by kernel_rfl) (by kernel_rfl) rfl (v := (.slice w_p1.L.a p1.L.length w_p1.L.c)) (fun w' hw' => cell_one ((rd_c (List.Mem.head _) (hS19.rd (List.Mem.tail _ (List.Mem.tail _ (List.Mem.head _))))) w' hw') (by kernel_rfl)) ?_
      refine WO.vals [(9, 32, (.int .i64 (i12 : Int)))] (by kernel_rfl) (fun _ => by kernel_rfl) ?_
      obtain ⟨x22, hx_x22, hr1⟩ := bind_some hr1
      obtain ⟨h0_x22, h1_x22, hx_x22⟩ := idx_some hx_x22
      obtain ⟨ha_x22, cs_x22, hn_x22, hr_x22, hc_x22⟩ := ((RSl.mono h_p1.L (hl6.trans hl11))).el _ _ hx_x22
      obtain rfl := hr_x22
      refine WO.indexAddr (e := 79) (sz := 4) rfl (by kernel_rfl) (by kernel_rfl) (by kernel_rfl) rfl ha_x22 rfl h0_x22 h1_x22 ?_
      refine WO.vals [(11, 34, (.pointer (some ⟨bl w_p1.L.a, of w_p1.L.a + ((i12 : Int)).toNat * 4, none⟩)))] (by kernel_rfl) (fun _ => by kernel_rfl) ?_
      refine WO.load rfl (by kernel_rfl) (by kernel_rfl) rfl (v := (.int .i64 x22.Who)) (fun w' hw' => hc_x22.cell0 (by kernel_rfl) ((rd_i hS19.im) w' hw')) ?_
      refine WO.vals [(13, 36, (.bool (x21.Who != x22.Who))), (14, 37, (.bool (x21.Who != x22.Who)))] (by kernel_rfl) (fun _ => by kernel_rfl) ?_
      obtain ⟨j23, hr2, hr1⟩ := bind_some hr1
      refine WO.join (l1 := [15, 16, 17, 18, 19, 20, 21, 22, 23, 24, 25, 26, 27, 28, 29]) (l2 := []) (J := (fun fr w => ∃ (I25 : Mem), fr = [(1, (.pointer (some ⟨b_p1, 0, none⟩))), (5, (.slice a_r8 r8.length c_r8)), (6, (.int .i64 (i12 : Int))), (52, (.bool j23))] ∧ I10.Le I25 ∧ St E w I25 ((one b_p0 (.cells (cs_lru_Cache p0 w_p0).toArray 68 (0, 0))) :: (w_p0.at_.C) :: (one b_p1 (.cells (cs_registrarref26_Cache p1 w_p1).toArray 59 (0, 0))) :: Os))) ?restj23 ?waysj23
      case waysj23 =>
        refine WO.caseb (x21.Who != x22.Who) (fun hc => ?_) (fun hc => ?_)
        · replace hr2 := cond_t hc hr2
          refine WO.reslot 37 rfl (show Value.bool (x21.Who != x22.Who) = Value.bool true by rw [hc]) ?_
          refine WO.pass rfl (by kernel_rfl) rfl ?_
          refine WO.pass rfl (by kernel_rfl) rfl ?_
          refine WO.pass rfl (by kernel_rfl) rfl ?_
          refine WO.pass rfl (by kernel_rfl) rfl ?_
          refine WO.pass rfl (by kernel_rfl) rfl ?_
          refine WO.pass rfl (by kernel_rfl) rfl ?_
          refine WO.pass rfl (by kernel_rfl) rfl ?_
          refine WO.pass rfl (by kernel_rfl) rfl ?_
          refine WO.pass rfl (by kernel_rfl) rfl ?_
          refine WO.pass rfl (by kernel_rfl) rfl ?_
          refine WO.pass rfl (by kernel_rfl) rfl ?_
          refine WO.pass rfl (by kernel_rfl) rfl ?_
          refine WO.pass rfl (by kernel_rfl) rfl ?_
          refine WO.pass rfl (by kernel_rfl) rfl ?_
          refine WO.vals [(29, 52, (.bool true))] (by kernel_rfl) (fun _ => by kernel_rfl) ?_
          have he := Option.some.inj hr2
          subst j23
          refine WO.weaken (fr' := [(1, (.pointer (some ⟨b_p1, 0, none⟩))), (5, (.slice a_r8 r8.length c_r8)), (6, (.int .i64 (i12 : Int))), (52, (.bool true))]) (WO.meet ⟨I10, rfl, Mem.Le.refl _, hS19⟩) (Sub.cons rfl (Sub.cons rfl (Sub.cons rfl (Sub.cons rfl Sub.nil))))
        · replace hr2 := cond_f hc hr2
          refine WO.reslot 37 rfl (show Value.bool (x21.Who != x22.Who) = Value.bool false by rw [hc]) ?_
          refine WO.vals [(15, 38, (.slice a_r8 r8.length c_r8)), (16, 39, (.int .i64 (i12 : Int)))] (by kernel_rfl) (fun _ => by kernel_rfl) ?_
          obtain ⟨x27, hx_x27, hr2⟩ := bind_some hr2
          obtain ⟨h0_x27, h1_x27, hx_x27⟩ := idx_some hx_x27
          obtain ⟨ha_x27, cs_x27, hn_x27, hr_x27, hc_x27⟩ := ((RSl.mono h_r8 hl11)).el _ _ hx_x27
          obtain rfl := hr_x27
          refine WO.indexAddr (e := 74) (sz := 2) rfl (by kernel_rfl) (by kernel_rfl) (by kernel_rfl) rfl ha_x27 rfl h0_x27 h1_x27 ?_
          refine WO.vals [(18, 41, (.pointer (some ⟨bl a_r8, of a_r8 + ((i12 : Int)).toNat * 2 + 1, none⟩)))] (by kernel_rfl) (fun _ => by kernel_rfl) ?_
          refine WO.load rfl (by kernel_rfl) (by kernel_rfl) rfl (v := (.string x27.Name)) (fun w' hw' => hc_x27.cellk 1 (by kernel_rfl) ((rd_i hS19.im) w' hw')) ?_
          refine WO.vals [(20, 43, (.pointer (some ⟨b_p1, 0, none⟩))), (21, 44, (.pointer (some ⟨b_p1, 0, none⟩))), (22, 45, (.pointer (some ⟨b_p1, 0, none⟩)))] (by kernel_rfl) (fun _ => by kernel_rfl) ?_
          refine WO.load rfl (by kernel_rfl) (by kernel_rfl) rfl (v := (.slice w_p1.L.a p1.L.length w_p1.L.c)) (fun w' hw' => cell_one ((rd_c (List.Mem.head _) (hS19.rd (List.Mem.tail _ (List.Mem.tail _ (List.Mem.head _))))) w' hw') (by kernel_rfl)) ?_
          refine WO.vals [(24, 47, (.int .i64 (i12 : Int)))] (by kernel_rfl) (fun _ => by kernel_rfl) ?_
          obtain ⟨x28, hx_x28, hr2⟩ := bind_some hr2
          obtain ⟨h0_x28, h1_x28, hx_x28⟩ := idx_some hx_x28
          obtain ⟨ha_x28, cs_x28, hn_x28, hr_x28, hc_x28⟩ := ((RSl.mono h_p1.L (hl6.trans hl11))).el _ _ hx_x28
          obtain rfl := hr_x28
          refine WO.indexAddr (e := 79) (sz := 4) rfl (by kernel_rfl) (by kernel_rfl) (by kernel_rfl) rfl ha_x28 rfl h0_x28 h1_x28 ?_
          refine WO.vals [(26, 49, (.pointer (some ⟨bl w_p1.L.a, of w_p1.L.a + ((i12 : Int)).toNat * 4 + 1, none⟩)))] (by kernel_rfl) (fun _ => by kernel_rfl) ?_
          refine WO.load rfl (by kernel_rfl) (by kernel_rfl) rfl (v := (.string x28.Name)) (fun w' hw' => hc_x28.cellk 1 (by kernel_rfl) ((rd_i hS19.im) w' hw')) ?_
          refine WO.vals [(28, 51, (.bool (!sEq x27.Name x28.Name))), (29, 52, (.bool (!sEq x27.Name x28.Name)))] (by kernel_rfl) (fun _ => by kernel_rfl) ?_
          have he := Option.some.inj hr2
          subst j23
          refine WO.weaken (fr' := [(1, (.pointer (some ⟨b_p1, 0, none⟩))), (5, (.slice a_r8 r8.length c_r8)), (6, (.int .i64 (i12 : Int))), (52, (.bool (!sEq x27.Name x28.Name)))]) (WO.meet ⟨I10, rfl, Mem.Le.refl _, hS19⟩) (Sub.cons rfl (Sub.cons rfl (Sub.cons rfl (Sub.cons rfl Sub.nil))))
      case restj23 =>
        rintro _ w29 ⟨I25, rfl, hl26, hS30⟩
        refine WO.nil ?_
        refine En.next ?_
        refine W.cond (b := j23) rfl rfl (fun hc => ?_) (fun hc => ?_)
        · replace hr1 := cond_t hc hr1
          refine W.seq ?_
          refine W.region (l := [0]) (by kernel_rfl) ?_
          refine WO.vals [(0, 4, (.bool false))] (by kernel_rfl) (fun _ => by kernel_rfl) ?_
          refine WO.nil ?_
          refine En.next ?_
          refine W.ret ?_
          refine En.in_ret ?_
          refine En.nx_ret ?_
          refine En.rd_ret ?_
          have ht := hext9 _ (Option.some.inj hr1).symm
          subst t9
          refine En.in_ret ?_
          refine En.nx_ret ?_
          have he := Option.some.inj hr
          subst r
          exact En.ret1 rfl (.bool false) rfl ⟨I25, rfl, ((hl6.trans hl11).trans hl26), hS30⟩
        · replace hr1 := cond_f hc hr1
          refine W.skip ?_
          refine En.in_normal ?_
          refine En.next ?_
          refine W.region (l := [0, 1, 2]) (by kernel_rfl) ?_
          refine WO.vals [(0, 21, (.int .i64 (i12 : Int)))] (by kernel_rfl) (fun _ => by kernel_rfl) ?_
          refine WO.incr (j := i12) rfl (by kernel_rfl) rfl (by omega) ?_
          refine WO.vals [(2, 6, (.int .i64 ((i12 + 1 : Nat) : Int)))] (by kernel_rfl) (fun _ => by kernel_rfl) ?_
          refine WO.nil ?_
          refine En.weaken (fr' := [(1, (.pointer (some ⟨b_p1, 0, none⟩))), (5, (.slice a_r8 r8.length c_r8)), (6, (.int .i64 ((i12 + 1 : Nat) : Int)))]) (En.round ⟨(), (Option.some.inj hr1).symm, I25, rfl, (hl11.trans hl26), hS30⟩) (Sub.cons rfl (Sub.cons rfl (Sub.cons rfl Sub.nil)))
    case lastt9 =>
      rintro _ _ w33 ⟨I10, rfl, hl11, hS34⟩ he
      cases he
      refine W.seq ?_
      refine W.seq ?_
      refine W.region (l := [0, 1, 2, 3]) (by kernel_rfl) ?_
      refine WO.vals [(0, 17, (.int .i64 (r8.length : Int))), (1, 18, (.slice a_r8 r8.length c_r8)), (2, 19, (.int .i64 (r8.length : Int))), (3, 20, (.bool (decide ((r8.length : Int) < (r8.length : Int)))))] (by kernel_rfl) (fun _ => by kernel_rfl) ?_
      refine WO.nil ?_
      refine En.next ?_
      refine W.cond (b := (decide ((r8.length : Int) < (r8.length : Int)))) rfl rfl (fun hc => ?_) (fun hc => ?_)
      · exact absurd hc (by first | (simp; done) | (simp; omega))
      clear hc
      refine W.exit ?_
      refine En.nx_exit ?_
      refine En.rd_exit ?_
      refine En.in_hit ?_
      refine En.next ?_
      refine W.seq ?_
      refine W.region (l := [0]) (by kernel_rfl) ?_
      refine WO.vals [(0, 4, (.bool true))] (by kernel_rfl) (fun _ => by kernel_rfl) ?_
      refine WO.nil ?_
      refine En.next ?_
      refine W.ret ?_
      have he := Option.some.inj hr
      subst r
      exact En.ret1 rfl (.bool true) rfl ⟨I10, rfl, (hl6.trans hl11), hS34⟩
noncomputable def registrarlaw26_LruPlays (p0 : Int) (p1 : List registrarlaw26_Act) : Option Bool := (lru_New p0).bind (fun (r6 : lru_Cache) => (registrarref26_New p0).bind (fun (r12 : registrarref26_Cache) => (loopO (fun (s : Int × registrarref26_Cache × lru_Cache) => match s with | (s16, s17, s18) => (bif ((decide (s16 < (p1.length : Int))) && (decide (s16 < 80))) then (idx p1 s16).bind (fun (x28 : registrarlaw26_Act) => (registrarlaw26_long x28).bind (fun (r34 : Bool) => (bif r34 then (registrarlaw26_works).bind (fun (r40 : Bool) => some (.inr (.inl (r40, s17, s18)))) else (idx p1 s16).bind (fun (x51 : registrarlaw26_Act) => (registrarlaw26_done s18 s17 x51 s16).bind (fun ((r60, r61, r62) : Bool × lru_Cache × registrarref26_Cache) => ((bif (!r60) then some true else (registrarlaw26_like r61 r62).bind (fun (r78 : Bool) => some (!r78)))).bind (fun (j63 : Bool) => (bif j63 then some (.inr (.inl (false, r62, r61))) else some (.inl ((w64 (s16 + 1)), r62, r61))))))))) else some (.inr (.inr (s17, s18))))) (0, r12, r6)).bind (fun (t : (Bool × registrarref26_Cache × lru_Cache) ⊕ (registrarref26_Cache × lru_Cache)) => match t with | (.inl (s42, s43, s44)) => some s42 | (.inr (s88, s89)) => (registrarlaw26_works).bind (fun (r95 : Bool) => some r95))))
set_option maxHeartbeats 1000000 in
theorem registrarlaw26_LruPlays_ok {E w : World} {I : Mem} {Os : List Mem} {p0 : Int} {p1 : List registrarlaw26_Act} {a_p1 : Option Addr} {c_p1 : Nat} (h_p1 : RSl 4 R_registrarlaw26_Act I a_p1 c_p1 p1) (hS : St E w I Os) {r : Bool} (hr : registrarlaw26_LruPlays p0 p1 = some r) :
    Calls P 3 #[(.int .i64 p0), (.slice a_p1 p1.length c_p1)] w (fun e w' => ∃ (I' : Mem), e = .returned (.bool r) ∧ I.Le I' ∧ St E w' I' Os) := by
  refine calls_W (args := [(.int .i64 p0), (.slice a_p1 p1.length c_p1)]) (fn := Try.f3) rfl rfl rfl ?_
  unfold registrarlaw26_LruPlays at hr
  refine W.seq ?_
  refine W.region (l := [0]) (by kernel_rfl) ?_
  refine WO.vals [(0, 4, (.bool false))] (by kernel_rfl) (fun _ => by kernel_rfl) ?_
  refine WO.nil ?_
  refine En.next ?_
  refine W.seq ?_
  refine W.region (l := [0, 1, 2]) (by kernel_rfl) ?_
  refine WO.vals [(0, 8, (.int .i64 p0))] (by kernel_rfl) (fun _ => by kernel_rfl) ?_
  obtain ⟨r6, hx_r1, hr⟩ := bind_some hr
  refine WO.call rfl (by kernel_rfl) rfl (f := 6) (args := #[(.int .i64 p0)]) (by kernel_rfl) (lru_New_ok  hS hx_r1) ?_
  rintro _ w2 ⟨I3, b_r6, w_r6, rfl, hl4, hS5, h_r6⟩
  refine ⟨_, rfl, trivial, ?_⟩
  refine WO.vals [(2, 5, (.pointer (some ⟨b_r6, 0, none⟩)))] (by kernel_rfl) (fun _ => by kernel_rfl) ?_
  refine WO.nil ?_
  refine En.next ?_
  refine W.seq ?_
  refine W.region (l := [0, 1, 2]) (by kernel_rfl) ?_
  refine WO.vals [(0, 10, (.int .i64 p0))] (by kernel_rfl) (fun _ => by kernel_rfl) ?_
  obtain ⟨r12, hx_r7, hr⟩ := bind_some hr
  refine WO.call rfl (by kernel_rfl) rfl (f := 7) (args := #[(.int .i64 p0)]) (by kernel_rfl) (registrarref26_New_ok  hS5 hx_r7) ?_
  rintro _ w8 ⟨I9, b_r12, w_r12, rfl, hl10, hS11, h_r12⟩
  refine ⟨_, rfl, trivial, ?_⟩
  refine WO.vals [(2, 6, (.pointer (some ⟨b_r12, 0, none⟩)))] (by kernel_rfl) (fun _ => by kernel_rfl) ?_
  refine WO.nil ?_
  refine En.next ?_
  refine W.seq ?_
  refine W.seq ?_
  refine W.region (l := [0]) (by kernel_rfl) ?_
  refine WO.vals [(0, 7, (.int .i64 0))] (by kernel_rfl) (fun _ => by kernel_rfl) ?_
  refine WO.nil ?_
  refine En.next ?_
  refine W.block ?_
  obtain ⟨t13, hloop19, hr⟩ := bind_some hr
  have hS20 := hS11.front2
  have hS21 := hS20.front1
  have hS22 := hS21.front2
  refine W.weaken (fr' := [(1, (.slice a_p1 p1.length c_p1)), (5, (.pointer (some ⟨b_r6, 0, none⟩))), (6, (.pointer (some ⟨b_r12, 0, none⟩))), (7, (.int .i64 0))]) (W.loopO hloop19 (fun (s : Int × registrarref26_Cache × lru_Cache) fr w => match s with | (s16, s17, s18) => ∃ (I14 : Mem), ∃ (w_s17 : W_registrarref26_Cache), ∃ (w_s18 : W_lru_Cache), fr = [(1, (.slice a_p1 p1.length c_p1)), (5, (.pointer (some ⟨b_r6, 0, none⟩))), (6, (.pointer (some ⟨b_r12, 0, none⟩))), (7, (.int .i64 s16))] ∧ I9.Le I14 ∧ St E w I14 ((one b_r6 (.cells (cs_lru_Cache s18 w_s18).toArray 68 (0, 0))) :: (one b_r12 (.cells (cs_registrarref26_Cache s17 w_s17).toArray 59 (0, 0))) :: (w_s18.at_.C) :: Os) ∧ ok_registrarref26_Cache I14 s17 w_s17 ∧ ok_lru_Cache I14 s18 w_s18) ⟨I9, w_r12, w_r6, rfl, Mem.Le.refl _, hS22, h_r12, (h_r6.mono hl10)⟩ ?_) (Sub.cons rfl (Sub.cons rfl (Sub.cons rfl (Sub.cons rfl Sub.nil))))
  rintro ⟨s16, s17, s18⟩ _ w23 ⟨I14, w_s17, w_s18, rfl, hl15, hS24, h_s17, h_s18⟩ x25 hr1 hext13
  refine W.seq ?_
  refine W.seq ?_
  refine W.region (l := [0, 1, 2, 3, 4, 5, 6, 7]) (by kernel_rfl) ?_
  refine WO.vals [(0, 12, (.int .i64 s16)), (1, 13, (.slice a_p1 p1.length c_p1)), (2, 14, (.int .i64 (p1.length : Int))), (3, 15, (.bool (decide (s16 < (p1.length : Int))))), (4, 16, (.bool (decide (s16 < (p1.length : Int)))))] (by kernel_rfl) (fun _ => by kernel_rfl) ?_
  refine WO.join (l1 := [5, 6, 7]) (l2 := []) (J := fun frx wx => frx = [(19, (.bool ((decide (s16 < (p1.length : Int))) && (decide (s16 < 80))))), (1, (.slice a_p1 p1.length c_p1)), (5, (.pointer (some ⟨b_r6, 0, none⟩))), (6, (.pointer (some ⟨b_r12, 0, none⟩))), (7, (.int .i64 s16))] ∧ w23 = wx) ?restm26 ?waysm26
  case waysm26 =>
    refine WO.caseb (decide (s16 < (p1.length : Int))) (fun hc => ?_) (fun hc => ?_)
    · skip
      refine WO.reslot 16 rfl (show Value.bool (decide (s16 < (p1.length : Int))) = Value.bool true by rw [hc]) ?_
      refine WO.vals [(5, 17, (.int .i64 s16)), (6, 18, (.bool (decide (s16 < 80)))), (7, 19, (.bool (decide (s16 < 80))))] (by kernel_rfl) (fun _ => by kernel_rfl) ?_
      refine WO.weaken (fr' := [(19, (.bool ((decide (s16 < (p1.length : Int))) && (decide (s16 < 80))))), (1, (.slice a_p1 p1.length c_p1)), (5, (.pointer (some ⟨b_r6, 0, none⟩))), (6, (.pointer (some ⟨b_r12, 0, none⟩))), (7, (.int .i64 s16))]) (WO.meet ⟨rfl, rfl⟩) (Sub.cons (by rw [hc]; rfl) (Sub.cons rfl (Sub.cons rfl (Sub.cons rfl (Sub.cons rfl Sub.nil)))))
    · skip
      refine WO.reslot 16 rfl (show Value.bool (decide (s16 < (p1.length : Int))) = Value.bool false by rw [hc]) ?_
      refine WO.pass rfl (by kernel_rfl) rfl ?_
      refine WO.pass rfl (by kernel_rfl) rfl ?_
      refine WO.vals [(7, 19, (.bool false))] (by kernel_rfl) (fun _ => by kernel_rfl) ?_
      refine WO.weaken (fr' := [(19, (.bool ((decide (s16 < (p1.length : Int))) && (decide (s16 < 80))))), (1, (.slice a_p1 p1.length c_p1)), (5, (.pointer (some ⟨b_r6, 0, none⟩))), (6, (.pointer (some ⟨b_r12, 0, none⟩))), (7, (.int .i64 s16))]) (WO.meet ⟨rfl, rfl⟩) (Sub.cons (by rw [hc]; rfl) (Sub.cons rfl (Sub.cons rfl (Sub.cons rfl (Sub.cons rfl Sub.nil)))))
  case restm26 =>
    rintro _ _ ⟨rfl, rfl⟩
    refine WO.nil ?_
    refine En.next ?_
    refine W.cond (b := ((decide (s16 < (p1.length : Int))) && (decide (s16 < 80)))) rfl rfl (fun hc => ?_) (fun hc => ?_)
    · replace hr1 := cond_t hc hr1
      refine W.skip ?_
      refine En.next ?_
      refine W.seq ?_
      refine W.block ?_
      refine W.seq ?_
      refine W.seq ?_
      refine W.region (l := [0, 1, 2, 3, 4]) (by kernel_rfl) ?_
      refine WO.vals [(0, 22, (.slice a_p1 p1.length c_p1)), (1, 23, (.int .i64 s16))] (by kernel_rfl) (fun _ => by kernel_rfl) ?_
      obtain ⟨x28, hx_x28, hr1⟩ := bind_some hr1
      obtain ⟨h0_x28, h1_x28, hx_x28⟩ := idx_some hx_x28
      obtain ⟨ha_x28, cs_x28, hn_x28, hr_x28, hc_x28⟩ := ((RSl.mono h_p1 ((hl4.trans hl10).trans hl15))).el _ _ hx_x28
      obtain rfl := hr_x28
      refine WO.indexAddr (e := 29) (sz := 4) rfl (by kernel_rfl) (by kernel_rfl) (by kernel_rfl) rfl ha_x28 rfl h0_x28 h1_x28 ?_
      refine WO.loadN rfl (by kernel_rfl) (by kernel_rfl) rfl ((cs_registrarlaw26_Act x28)) (by kernel_rfl) (fun w' hw' => hc_x28.cells (k := 0) (by kernel_rfl) rfl ((rd_f hS24.im) w' hw')) ?_
      obtain ⟨r34, hx_r29, hr1⟩ := bind_some hr1
      refine WO.call rfl (by kernel_rfl) rfl (f := 8) (args := #[(.agg (cs_registrarlaw26_Act x28).toArray)]) (by kernel_rfl) (registrarlaw26_long_ok  hS24 hx_r29) ?_
      rintro _ w30 ⟨I31, rfl, hl32, hS33⟩
      refine ⟨_, rfl, trivial, ?_⟩
      refine WO.nil ?_
      refine En.next ?_
      refine W.cond (b := r34) rfl rfl (fun hc => ?_) (fun hc => ?_)
      · replace hr1 := cond_t hc hr1
        refine W.seq ?_
        refine W.region (l := [0, 1]) (by kernel_rfl) ?_
        obtain ⟨r40, hx_r35, hr1⟩ := bind_some hr1
        refine WO.call rfl (by kernel_rfl) rfl (f := 9) (args := #[]) (by kernel_rfl) (registrarlaw26_works_ok  hS33 hx_r35) ?_
        rintro _ w36 ⟨I37, rfl, hl38, hS39⟩
        refine ⟨_, rfl, trivial, ?_⟩
        refine WO.vals [(1, 4, (.bool r40))] (by kernel_rfl) (fun _ => by kernel_rfl) ?_
        refine WO.nil ?_
        refine En.next ?_
        refine W.ret ?_
        refine En.nx_ret ?_
        refine En.in_ret ?_
        refine En.nx_ret ?_
        refine En.rd_ret ?_
        have ht := hext13 _ (Option.some.inj hr1).symm
        subst t13
        refine En.in_ret ?_
        refine En.nx_ret ?_
        have hS48 := hS39.drop
        have hS49 := hS48.drop
        have hS50 := hS49.drop
        have he := Option.some.inj hr
        subst r
        exact En.ret1 rfl (.bool r40) rfl ⟨I37, rfl, ((((hl4.trans hl10).trans hl15).trans hl32).trans hl38), hS50⟩
      · replace hr1 := cond_f hc hr1
        refine W.skip ?_
        refine En.next ?_
        refine W.seq ?_
        refine W.region (l := [0, 1, 2, 3, 4, 5, 6, 7, 8, 9, 10, 11, 12, 13, 14]) (by kernel_rfl) ?_
        refine WO.vals [(0, 28, (.pointer (some ⟨b_r6, 0, none⟩))), (1, 29, (.pointer (some ⟨b_r12, 0, none⟩))), (2, 30, (.slice a_p1 p1.length c_p1)), (3, 31, (.int .i64 s16))] (by kernel_rfl) (fun _ => by kernel_rfl) ?_
        obtain ⟨x51, hx_x51, hr1⟩ := bind_some hr1
        obtain ⟨h0_x51, h1_x51, hx_x51⟩ := idx_some hx_x51
        obtain ⟨ha_x51, cs_x51, hn_x51, hr_x51, hc_x51⟩ := ((RSl.mono h_p1 (((hl4.trans hl10).trans hl15).trans hl32))).el _ _ hx_x51
        obtain rfl := hr_x51
        refine WO.indexAddr (e := 29) (sz := 4) rfl (by kernel_rfl) (by kernel_rfl) (by kernel_rfl) rfl ha_x51 rfl h0_x51 h1_x51 ?_
        refine WO.loadN rfl (by kernel_rfl) (by kernel_rfl) rfl ((cs_registrarlaw26_Act x51)) (by kernel_rfl) (fun w' hw' => hc_x51.cells (k := 0) (by kernel_rfl) rfl ((rd_f hS33.im) w' hw')) ?_
        refine WO.vals [(6, 34, (.int .i64 s16))] (by kernel_rfl) (fun _ => by kernel_rfl) ?_
        have hS52 := hS33.front1
        have hS53 := hS52.front2
        have hS54 := hS53.front2
        obtain ⟨⟨r60, r61, r62⟩, hx_r55, hr1⟩ := bind_some hr1
        refine WO.call rfl (by kernel_rfl) rfl (f := 10) (args := #[(.pointer (some ⟨b_r6, 0, none⟩)), (.pointer (some ⟨b_r12, 0, none⟩)), (.agg (cs_registrarlaw26_Act x51).toArray), (.int .i64 s16)]) (by kernel_rfl) (registrarlaw26_done_ok (h_s18.mono hl32) (h_s17.mono hl32) hS54 hx_r55) ?_
        rintro _ w56 ⟨I57, w_r61, w_r62, rfl, hl58, hS59, h_r61, h_r62⟩
        refine ⟨_, rfl, trivial, ?_⟩
        refine WO.vals [(8, 36, (.bool (!r60))), (9, 37, (.bool (!r60)))] (by kernel_rfl) (fun _ => by kernel_rfl) ?_
        obtain ⟨j63, hr2, hr1⟩ := bind_some hr1
        refine WO.join (l1 := [10, 11, 12, 13, 14]) (l2 := []) (J := (fun fr w => ∃ (I65 : Mem), fr = [(1, (.slice a_p1 p1.length c_p1)), (5, (.pointer (some ⟨b_r6, 0, none⟩))), (6, (.pointer (some ⟨b_r12, 0, none⟩))), (7, (.int .i64 s16)), (42, (.bool j63))] ∧ I57.Le I65 ∧ St E w I65 ((one b_r6 (.cells (cs_lru_Cache r61 w_r61).toArray 68 (0, 0))) :: (one b_r12 (.cells (cs_registrarref26_Cache r62 w_r62).toArray 59 (0, 0))) :: (w_r61.at_.C) :: Os))) ?restj63 ?waysj63
        case waysj63 =>
          refine WO.caseb (!r60) (fun hc => ?_) (fun hc => ?_)
          · replace hr2 := cond_t hc hr2
            refine WO.reslot 37 rfl (show Value.bool (!r60) = Value.bool true by rw [hc]) ?_
            refine WO.pass rfl (by kernel_rfl) rfl ?_
            refine WO.pass rfl (by kernel_rfl) rfl ?_
            refine WO.pass rfl (by kernel_rfl) rfl ?_
            refine WO.pass rfl (by kernel_rfl) rfl ?_
            refine WO.vals [(14, 42, (.bool true))] (by kernel_rfl) (fun _ => by kernel_rfl) ?_
            have hS67 := hS59.front1
            have hS68 := hS67.front2
            have hS69 := hS68.front2
            have he := Option.some.inj hr2
            subst j63
            refine WO.weaken (fr' := [(1, (.slice a_p1 p1.length c_p1)), (5, (.pointer (some ⟨b_r6, 0, none⟩))), (6, (.pointer (some ⟨b_r12, 0, none⟩))), (7, (.int .i64 s16)), (42, (.bool true))]) (WO.meet ⟨I57, rfl, Mem.Le.refl _, hS69⟩) (Sub.cons rfl (Sub.cons rfl (Sub.cons rfl (Sub.cons rfl (Sub.cons rfl Sub.nil)))))
          · replace hr2 := cond_f hc hr2
            refine WO.reslot 37 rfl (show Value.bool (!r60) = Value.bool false by rw [hc]) ?_
            refine WO.vals [(10, 38, (.pointer (some ⟨b_r6, 0, none⟩))), (11, 39, (.pointer (some ⟨b_r12, 0, none⟩)))] (by kernel_rfl) (fun _ => by kernel_rfl) ?_
            have hS70 := hS59.front2
            have hS71 := hS70.front2
            have hS72 := hS71.front2
            obtain ⟨r78, hx_r73, hr2⟩ := bind_some hr2
            refine WO.call rfl (by kernel_rfl) rfl (f := 11) (args := #[(.pointer (some ⟨b_r6, 0, none⟩)), (.pointer (some ⟨b_r12, 0, none⟩))]) (by kernel_rfl) (registrarlaw26_like_ok h_r61 h_r62 hS72 hx_r73) ?_
            rintro _ w74 ⟨I75, rfl, hl76, hS77⟩
            refine ⟨_, rfl, trivial, ?_⟩
            refine WO.vals [(13, 41, (.bool (!r78))), (14, 42, (.bool (!r78)))] (by kernel_rfl) (fun _ => by kernel_rfl) ?_
            have hS79 := hS77.front1
            have hS80 := hS79.front2
            have hS81 := hS80.front2
            have he := Option.some.inj hr2
            subst j63
            refine WO.weaken (fr' := [(1, (.slice a_p1 p1.length c_p1)), (5, (.pointer (some ⟨b_r6, 0, none⟩))), (6, (.pointer (some ⟨b_r12, 0, none⟩))), (7, (.int .i64 s16)), (42, (.bool (!r78)))]) (WO.meet ⟨I75, rfl, hl76, hS81⟩) (Sub.cons rfl (Sub.cons rfl (Sub.cons rfl (Sub.cons rfl (Sub.cons rfl Sub.nil)))))
        case restj63 =>
          rintro _ w82 ⟨I65, rfl, hl66, hS83⟩
          refine WO.nil ?_
          refine En.next ?_
          refine W.cond (b := j63) rfl rfl (fun hc => ?_) (fun hc => ?_)
          · replace hr1 := cond_t hc hr1
            refine W.seq ?_
            refine W.region (l := [0]) (by kernel_rfl) ?_
            refine WO.vals [(0, 4, (.bool false))] (by kernel_rfl) (fun _ => by kernel_rfl) ?_
            refine WO.nil ?_
            refine En.next ?_
            refine W.ret ?_
            refine En.in_ret ?_
            refine En.nx_ret ?_
            refine En.rd_ret ?_
            have ht := hext13 _ (Option.some.inj hr1).symm
            subst t13
            refine En.in_ret ?_
            refine En.nx_ret ?_
            have hS84 := hS83.drop
            have hS85 := hS84.drop
            have hS86 := hS85.drop
            have he := Option.some.inj hr
            subst r
            exact En.ret1 rfl (.bool false) rfl ⟨I65, rfl, (((((hl4.trans hl10).trans hl15).trans hl32).trans hl58).trans hl66), hS86⟩
          · replace hr1 := cond_f hc hr1
            refine W.skip ?_
            refine En.in_normal ?_
            refine En.next ?_
            refine W.region (l := [0, 1, 2]) (by kernel_rfl) ?_
            refine WO.vals [(0, 20, (.int .i64 s16)), (1, 21, (.int .i64 (w64 (s16 + 1)))), (2, 7, (.int .i64 (w64 (s16 + 1))))] (by kernel_rfl) (fun _ => by kernel_rfl) ?_
            refine WO.nil ?_
            refine En.weaken (fr' := [(1, (.slice a_p1 p1.length c_p1)), (5, (.pointer (some ⟨b_r6, 0, none⟩))), (6, (.pointer (some ⟨b_r12, 0, none⟩))), (7, (.int .i64 (w64 (s16 + 1))))]) (En.round ⟨((w64 (s16 + 1)), r62, r61), (Option.some.inj hr1).symm, I65, w_r62, w_r61, rfl, (((hl15.trans hl32).trans hl58).trans hl66), hS83, (h_r62.mono hl66), (h_r61.mono hl66)⟩) (Sub.cons rfl (Sub.cons rfl (Sub.cons rfl (Sub.cons rfl Sub.nil))))
    · replace hr1 := cond_f hc hr1
      refine W.exit ?_
      refine En.nx_exit ?_
      refine En.rd_exit ?_
      have ht := hext13 _ (Option.some.inj hr1).symm
      subst t13
      refine En.in_hit ?_
      refine En.next ?_
      refine W.seq ?_
      refine W.region (l := [0, 1]) (by kernel_rfl) ?_
      obtain ⟨r104, hx_r99, hr⟩ := bind_some hr
      refine WO.call rfl (by kernel_rfl) rfl (f := 9) (args := #[]) (by kernel_rfl) (registrarlaw26_works_ok  hS24 hx_r99) ?_
      rintro _ w100 ⟨I101, rfl, hl102, hS103⟩
      refine ⟨_, rfl, trivial, ?_⟩
      refine WO.vals [(1, 4, (.bool r104))] (by kernel_rfl) (fun _ => by kernel_rfl) ?_
      refine WO.nil ?_
      refine En.next ?_
      refine W.ret ?_
      have hS105 := hS103.drop
      have hS106 := hS105.drop
      have hS107 := hS106.drop
      have he := Option.some.inj hr
      subst r
      exact En.ret1 rfl (.bool r104) rfl ⟨I101, rfl, (((hl4.trans hl10).trans hl15).trans hl102), hS107⟩
end Go.Proofs.Ytmclgkomnpdgjaa
