/- What functions of the program come to, each by a plain one. Conditions: none. -/
import Derived.Test.YtmclgkomnpdgjaaF3
set_option maxRecDepth 100000
namespace Go.Proofs.Ytmclgkomnpdgjaa
open Go.Gv
noncomputable def registrarlaw26_LruKeeps (p0 : List registrarlaw26_Act) (p1 : List registrarlaw26_Act) (p2 : registrarlaw26_Act) : Option Bool := (lru_New (w64 (1 + (Int.tmod (p0.length : Int) 7)))).bind (fun (r10 : lru_Cache) => (registrarref26_New (w64 (1 + (Int.tmod (p0.length : Int) 7)))).bind (fun (r16 : registrarref26_Cache) => (loopO (fun (s : Int × lru_Cache × registrarref26_Cache) => match s with | (s20, s21, s22) => (bif ((decide (s20 < (p0.length : Int))) && (decide (s20 < 40))) then (idx p0 s20).bind (fun (x33 : registrarlaw26_Act) => (registrarlaw26_long x33).bind (fun (r39 : Bool) => (bif r39 then (registrarlaw26_works).bind (fun (r45 : Bool) => some (.inr (.inl (r45, s21, s22)))) else (idx p0 s20).bind (fun (x58 : registrarlaw26_Act) => (registrarlaw26_done s21 s22 x58 s20).bind (fun ((r67, r68, r69) : Bool × lru_Cache × registrarref26_Cache) => some (.inl ((w64 (s20 + 1)), r68, r69))))))) else some (.inr (.inr (s21, s22))))) (0, r10, r16)).bind (fun (t : (Bool × lru_Cache × registrarref26_Cache) ⊕ (lru_Cache × registrarref26_Cache)) => match t with | (.inl (s47, s48, s49)) => some s47 | (.inr (s75, s76)) => (registrarlaw26_long p2).bind (fun (r84 : Bool) => ((bif r84 then some (true, s75) else (registrarlaw26_made p2.Table 77).bind (fun (r100 : plan_Plan) => (lru_Cache_Put s75 p2.Who p2.Name r100).bind (fun ((r108, r109) : Int × lru_Cache) => some ((r108 != 0), r109))))).bind (fun ((s89, s90) : Bool × lru_Cache) => (bif s89 then (registrarlaw26_works).bind (fun (r121 : Bool) => some r121) else (loopO (fun (s : Int × Int × lru_Cache) => match s with | (s129, s130, s131) => (bif (((decide (s130 < (p1.length : Int))) && (decide ((w64 (s129 + 1)) < s76.Most))) && (decide (s129 < 6))) then ((idx p1 s130).bind (fun (x144 : registrarlaw26_Act) => (registrarlaw26_long x144).bind (fun (r150 : Bool) => (bif r150 then (registrarlaw26_works).bind (fun (r156 : Bool) => some (.inl (r156, s131))) else (idx p1 s130).bind (fun (x177 : registrarlaw26_Act) => ((bif (decide (x177.Do > 1)) then some true else (idx p1 s130).bind (fun (x182 : registrarlaw26_Act) => some (decide (x182.Do < 0))))).bind (fun (j178 : Bool) => ((bif j178 then some true else (idx p1 s130).bind (fun (x189 : registrarlaw26_Act) => ((bif (x189.Who == p2.Who) then (idx p1 s130).bind (fun (x194 : registrarlaw26_Act) => some (sEq x194.Name p2.Name)) else some false)).bind (fun (j190 : Bool) => some j190)))).bind (fun (j185 : Bool) => (bif j185 then some (.inr (s129, s131)) else (idx p1 s130).bind (fun (x201 : registrarlaw26_Act) => ((bif (x201.Do == 0) then (idx p1 s130).bind (fun (x208 : registrarlaw26_Act) => (idx p1 s130).bind (fun (x209 : registrarlaw26_Act) => (idx p1 s130).bind (fun (x210 : registrarlaw26_Act) => (registrarlaw26_made x210.Table s130).bind (fun (r216 : plan_Plan) => (lru_Cache_Put s131 x208.Who x209.Name r216).bind (fun ((r224, r225) : Int × lru_Cache) => some r225))))) else (idx p1 s130).bind (fun (x232 : registrarlaw26_Act) => (idx p1 s130).bind (fun (x233 : registrarlaw26_Act) => (lru_Cache_Get s131 x232.Who x233.Name).bind (fun ((r241, r242, r243) : plan_Plan × Bool × lru_Cache) => some r243))))).bind (fun (j202 : lru_Cache) => some (.inr ((w64 (s129 + 1)), j202)))))))))))).bind (fun (t : (Bool × lru_Cache) ⊕ (Int × lru_Cache)) => match t with | (.inl (s158, s159)) => some (.inr (.inl (s158, s159))) | (.inr (s199, s200)) => some (.inl (s199, (w64 (s130 + 1)), s200))) else some (.inr (.inr s131)))) (0, 0, s90)).bind (fun (t : (Bool × lru_Cache) ⊕ lru_Cache) => match t with | (.inl (s161, s162)) => some s161 | (.inr s253) => (lru_Cache_Get s253 p2.Who p2.Name).bind (fun ((r261, r262, r263) : plan_Plan × Bool × lru_Cache) => ((bif r262 then (registrarlaw26_mark r261).bind (fun (r281 : Int) => some (r281 == 77)) else some false)).bind (fun (j272 : Bool) => ((bif j272 then (lru_Cache_All r263).bind (fun (r307 : List lru_Entry) => some (decide ((r307.length : Int) ≤ s76.Most))) else some false)).bind (fun (j296 : Bool) => ((bif j296 then (registrarlaw26_works).bind (fun (r324 : Bool) => some r324) else some false)).bind (fun (j315 : Bool) => some j315)))))))))))
set_option maxHeartbeats 1000000 in
theorem registrarlaw26_LruKeeps_ok {E w : World} {I : Mem} {Os : List Mem} {p0 : List registrarlaw26_Act} {p1 : List registrarlaw26_Act} {p2 : registrarlaw26_Act} {a_p0 : Option Addr} {c_p0 : Nat} {a_p1 : Option Addr} {c_p1 : Nat} (h_p0 : RSl 4 R_registrarlaw26_Act I a_p0 c_p0 p0) (h_p1 : RSl 4 R_registrarlaw26_Act I a_p1 c_p1 p1) (hS : St E w I Os) {r : Bool} (hr : registrarlaw26_LruKeeps p0 p1 p2 = some r) :
    Calls P 4 #[(.slice a_p0 p0.length c_p0), (.slice a_p1 p1.length c_p1), (.agg (cs_registrarlaw26_Act p2).toArray)] w (fun e w' => ∃ (I' : Mem), e = .returned (.bool r) ∧ I.Le I' ∧ St E w' I' Os) := by
  refine calls_W (args := [(.slice a_p0 p0.length c_p0), (.slice a_p1 p1.length c_p1), (.agg (cs_registrarlaw26_Act p2).toArray)]) (fn := Try.f4) rfl rfl rfl ?_
  unfold registrarlaw26_LruKeeps at hr
  refine W.seq ?_
  refine W.region (l := [0, 1]) (by kernel_rfl) ?_
  refine WO.new hS rfl (by kernel_rfl) rfl (.cells (cs_registrarlaw26_Act p2).toArray 29 (0, 0)) (fun b => .pointer (some ⟨b, 0, none⟩)) (by kernel_rfl) (fun _ _ _ => trivial) ?_
  intro b1 w4 hS3
  refine WO.vals [(1, 6, (.bool false))] (by kernel_rfl) (fun _ => by kernel_rfl) ?_
  refine WO.nil ?_
  refine En.next ?_
  refine W.seq ?_
  refine W.region (l := [0, 1, 2, 3, 4]) (by kernel_rfl) ?_
  refine WO.vals [(0, 15, (.slice a_p0 p0.length c_p0)), (1, 16, (.int .i64 (p0.length : Int))), (2, 17, (.int .i64 (Int.tmod (p0.length : Int) 7))), (3, 18, (.int .i64 (w64 (1 + (Int.tmod (p0.length : Int) 7))))), (4, 7, (.int .i64 (w64 (1 + (Int.tmod (p0.length : Int) 7)))))] (by kernel_rfl) (fun _ => by kernel_rfl) ?_
  refine WO.nil ?_
  refine En.next ?_
  refine W.seq ?_
  refine W.region (l := [0, 1, 2]) (by kernel_rfl) ?_
  refine WO.vals [(0, 19, (.int .i64 (w64 (1 + (Int.tmod (p0.length : Int) 7)))))] (by kernel_rfl) (fun _ => by kernel_rfl) ?_
  obtain ⟨r10, hx_r5, hr⟩ := bind_some hr
  refine WO.call rfl (by kernel_rfl) rfl (f := 6) (args := #[(.int .i64 (w64 (1 + (Int.tmod (p0.length : Int) 7))))]) (by kernel_rfl) (lru_New_ok  hS3 hx_r5) ?_
  rintro _ w6 ⟨I7, b_r10, w_r10, rfl, hl8, hS9, h_r10⟩
  refine ⟨_, rfl, trivial, ?_⟩
  refine WO.vals [(2, 8, (.pointer (some ⟨b_r10, 0, none⟩)))] (by kernel_rfl) (fun _ => by kernel_rfl) ?_
  refine WO.nil ?_
  refine En.next ?_
  refine W.seq ?_
  refine W.region (l := [0, 1, 2]) (by kernel_rfl) ?_
  refine WO.vals [(0, 21, (.int .i64 (w64 (1 + (Int.tmod (p0.length : Int) 7)))))] (by kernel_rfl) (fun _ => by kernel_rfl) ?_
  obtain ⟨r16, hx_r11, hr⟩ := bind_some hr
  refine WO.call rfl (by kernel_rfl) rfl (f := 7) (args := #[(.int .i64 (w64 (1 + (Int.tmod (p0.length : Int) 7))))]) (by kernel_rfl) (registrarref26_New_ok  hS9 hx_r11) ?_
  rintro _ w12 ⟨I13, b_r16, w_r16, rfl, hl14, hS15, h_r16⟩
  refine ⟨_, rfl, trivial, ?_⟩
  refine WO.vals [(2, 9, (.pointer (some ⟨b_r16, 0, none⟩)))] (by kernel_rfl) (fun _ => by kernel_rfl) ?_
  refine WO.nil ?_
  refine En.next ?_
  refine W.seq ?_
  refine W.seq ?_
  refine W.region (l := [0]) (by kernel_rfl) ?_
  refine WO.vals [(0, 10, (.int .i64 0))] (by kernel_rfl) (fun _ => by kernel_rfl) ?_
  refine WO.nil ?_
  refine En.next ?_
  refine W.block ?_
  obtain ⟨t17, hloop23, hr⟩ := bind_some hr
  have hS24 := hS15.front2
  have hS25 := hS24.front1
  have hS26 := hS25.front2
  have hS27 := hS26.front3
  refine W.weaken (fr' := [(0, (.slice a_p0 p0.length c_p0)), (1, (.slice a_p1 p1.length c_p1)), (5, (.pointer (some ⟨b1, 0, none⟩))), (8, (.pointer (some ⟨b_r10, 0, none⟩))), (9, (.pointer (some ⟨b_r16, 0, none⟩))), (10, (.int .i64 0))]) (W.loopO hloop23 (fun (s : Int × lru_Cache × registrarref26_Cache) fr w => match s with | (s20, s21, s22) => ∃ (I18 : Mem), ∃ (w_s21 : W_lru_Cache), ∃ (w_s22 : W_registrarref26_Cache), fr = [(0, (.slice a_p0 p0.length c_p0)), (1, (.slice a_p1 p1.length c_p1)), (5, (.pointer (some ⟨b1, 0, none⟩))), (8, (.pointer (some ⟨b_r10, 0, none⟩))), (9, (.pointer (some ⟨b_r16, 0, none⟩))), (10, (.int .i64 s20))] ∧ I13.Le I18 ∧ St E w I18 ((one b1 (.cells (cs_registrarlaw26_Act p2).toArray 29 (0, 0))) :: (one b_r10 (.cells (cs_lru_Cache s21 w_s21).toArray 68 (0, 0))) :: (one b_r16 (.cells (cs_registrarref26_Cache s22 w_s22).toArray 59 (0, 0))) :: (w_s21.at_.C) :: Os) ∧ ok_lru_Cache I18 s21 w_s21 ∧ ok_registrarref26_Cache I18 s22 w_s22) ⟨I13, w_r10, w_r16, rfl, Mem.Le.refl _, hS27, (h_r10.mono hl14), h_r16⟩ ?_) (Sub.cons rfl (Sub.cons rfl (Sub.cons rfl (Sub.cons rfl (Sub.cons rfl (Sub.cons rfl Sub.nil))))))
  rintro ⟨s20, s21, s22⟩ _ w28 ⟨I18, w_s21, w_s22, rfl, hl19, hS29, h_s21, h_s22⟩ x30 hr1 hext17
  refine W.seq ?_
  refine W.seq ?_
  refine W.region (l := [0, 1, 2, 3, 4, 5, 6, 7]) (by kernel_rfl) ?_
  refine WO.vals [(0, 23, (.int .i64 s20)), (1, 24, (.slice a_p0 p0.length c_p0)), (2, 25, (.int .i64 (p0.length : Int))), (3, 26, (.bool (decide (s20 < (p0.length : Int))))), (4, 27, (.bool (decide (s20 < (p0.length : Int)))))] (by kernel_rfl) (fun _ => by kernel_rfl) ?_
  refine WO.join (l1 := [5, 6, 7]) (l2 := []) (J := fun frx wx => frx = [(30, (.bool ((decide (s20 < (p0.length : Int))) && (decide (s20 < 40))))), (0, (.slice a_p0 p0.length c_p0)), (1, (.slice a_p1 p1.length c_p1)), (5, (.pointer (some ⟨b1, 0, none⟩))), (8, (.pointer (some ⟨b_r10, 0, none⟩))), (9, (.pointer (some ⟨b_r16, 0, none⟩))), (10, (.int .i64 s20))] ∧ w28 = wx) ?restm31 ?waysm31
  case waysm31 =>
    refine WO.caseb (decide (s20 < (p0.length : Int))) (fun hc => ?_) (fun hc => ?_)
    · skip
      refine WO.reslot 27 rfl (show Value.bool (decide (s20 < (p0.length : Int))) = Value.bool true by rw [hc]) ?_
      refine WO.vals [(5, 28, (.int .i64 s20)), (6, 29, (.bool (decide (s20 < 40)))), (7, 30, (.bool (decide (s20 < 40))))] (by kernel_rfl) (fun _ => by kernel_rfl) ?_
      refine WO.weaken (fr' := [(30, (.bool ((decide (s20 < (p0.length : Int))) && (decide (s20 < 40))))), (0, (.slice a_p0 p0.length c_p0)), (1, (.slice a_p1 p1.length c_p1)), (5, (.pointer (some ⟨b1, 0, none⟩))), (8, (.pointer (some ⟨b_r10, 0, none⟩))), (9, (.pointer (some ⟨b_r16, 0, none⟩))), (10, (.int .i64 s20))]) (WO.meet ⟨rfl, rfl⟩) (Sub.cons (by rw [hc]; rfl) (Sub.cons rfl (Sub.cons rfl (Sub.cons rfl (Sub.cons rfl (Sub.cons rfl (Sub.cons rfl Sub.nil)))))))
    · skip
      refine WO.reslot 27 rfl (show Value.bool (decide (s20 < (p0.length : Int))) = Value.bool false by rw [hc]) ?_
      refine WO.pass rfl (by kernel_rfl) rfl ?_
      refine WO.pass rfl (by kernel_rfl) rfl ?_
      refine WO.vals [(7, 30, (.bool false))] (by kernel_rfl) (fun _ => by kernel_rfl) ?_
      refine WO.weaken (fr' := [(30, (.bool ((decide (s20 < (p0.length : Int))) && (decide (s20 < 40))))), (0, (.slice a_p0 p0.length c_p0)), (1, (.slice a_p1 p1.length c_p1)), (5, (.pointer (some ⟨b1, 0, none⟩))), (8, (.pointer (some ⟨b_r10, 0, none⟩))), (9, (.pointer (some ⟨b_r16, 0, none⟩))), (10, (.int .i64 s20))]) (WO.meet ⟨rfl, rfl⟩) (Sub.cons (by rw [hc]; rfl) (Sub.cons rfl (Sub.cons rfl (Sub.cons rfl (Sub.cons rfl (Sub.cons rfl (Sub.cons rfl Sub.nil)))))))
  case restm31 =>
    rintro _ _ ⟨rfl, rfl⟩
    refine WO.nil ?_
    refine En.next ?_
    refine W.cond (b := ((decide (s20 < (p0.length : Int))) && (decide (s20 < 40)))) rfl rfl (fun hc => ?_) (fun hc => ?_)
    · replace hr1 := cond_t hc hr1
      refine W.skip ?_
      refine En.next ?_
      refine W.seq ?_
      refine W.block ?_
      refine W.seq ?_
      refine W.seq ?_
      refine W.region (l := [0, 1, 2, 3, 4]) (by kernel_rfl) ?_
      refine WO.vals [(0, 33, (.slice a_p0 p0.length c_p0)), (1, 34, (.int .i64 s20))] (by kernel_rfl) (fun _ => by kernel_rfl) ?_
      obtain ⟨x33, hx_x33, hr1⟩ := bind_some hr1
      obtain ⟨h0_x33, h1_x33, hx_x33⟩ := idx_some hx_x33
      obtain ⟨ha_x33, cs_x33, hn_x33, hr_x33, hc_x33⟩ := ((RSl.mono h_p0 ((hl8.trans hl14).trans hl19))).el _ _ hx_x33
      obtain rfl := hr_x33
      refine WO.indexAddr (e := 29) (sz := 4) rfl (by kernel_rfl) (by kernel_rfl) (by kernel_rfl) rfl ha_x33 rfl h0_x33 h1_x33 ?_
      refine WO.loadN rfl (by kernel_rfl) (by kernel_rfl) rfl ((cs_registrarlaw26_Act x33)) (by kernel_rfl) (fun w' hw' => hc_x33.cells (k := 0) (by kernel_rfl) rfl ((rd_f hS29.im) w' hw')) ?_
      obtain ⟨r39, hx_r34, hr1⟩ := bind_some hr1
      refine WO.call rfl (by kernel_rfl) rfl (f := 8) (args := #[(.agg (cs_registrarlaw26_Act x33).toArray)]) (by kernel_rfl) (registrarlaw26_long_ok  hS29 hx_r34) ?_
      rintro _ w35 ⟨I36, rfl, hl37, hS38⟩
      refine ⟨_, rfl, trivial, ?_⟩
      refine WO.nil ?_
      refine En.next ?_
      refine W.cond (b := r39) rfl rfl (fun hc => ?_) (fun hc => ?_)
      · replace hr1 := cond_t hc hr1
        refine W.seq ?_
        refine W.region (l := [0, 1]) (by kernel_rfl) ?_
        obtain ⟨r45, hx_r40, hr1⟩ := bind_some hr1
        refine WO.call rfl (by kernel_rfl) rfl (f := 9) (args := #[]) (by kernel_rfl) (registrarlaw26_works_ok  hS38 hx_r40) ?_
        rintro _ w41 ⟨I42, rfl, hl43, hS44⟩
        refine ⟨_, rfl, trivial, ?_⟩
        refine WO.vals [(1, 6, (.bool r45))] (by kernel_rfl) (fun _ => by kernel_rfl) ?_
        refine WO.nil ?_
        refine En.next ?_
        refine W.ret ?_
        refine En.nx_ret ?_
        refine En.in_ret ?_
        refine En.nx_ret ?_
        refine En.rd_ret ?_
        have ht := hext17 _ (Option.some.inj hr1).symm
        subst t17
        refine En.in_ret ?_
        refine En.nx_ret ?_
        have hS54 := hS44.drop
        have hS55 := hS54.drop
        have hS56 := hS55.drop
        have hS57 := hS56.drop
        have he := Option.some.inj hr
        subst r
        exact En.ret1 rfl (.bool r45) rfl ⟨I42, rfl, ((((hl8.trans hl14).trans hl19).trans hl37).trans hl43), hS57⟩
      · replace hr1 := cond_f hc hr1
        refine W.skip ?_
        refine En.next ?_
        refine W.region (l := [0, 1, 2, 3, 4, 5, 6, 7]) (by kernel_rfl) ?_
        refine WO.vals [(0, 39, (.pointer (some ⟨b_r10, 0, none⟩))), (1, 40, (.pointer (some ⟨b_r16, 0, none⟩))), (2, 41, (.slice a_p0 p0.length c_p0)), (3, 42, (.int .i64 s20))] (by kernel_rfl) (fun _ => by kernel_rfl) ?_
        obtain ⟨x58, hx_x58, hr1⟩ := bind_some hr1
        obtain ⟨h0_x58, h1_x58, hx_x58⟩ := idx_some hx_x58
        obtain ⟨ha_x58, cs_x58, hn_x58, hr_x58, hc_x58⟩ := ((RSl.mono h_p0 (((hl8.trans hl14).trans hl19).trans hl37))).el _ _ hx_x58
        obtain rfl := hr_x58
        refine WO.indexAddr (e := 29) (sz := 4) rfl (by kernel_rfl) (by kernel_rfl) (by kernel_rfl) rfl ha_x58 rfl h0_x58 h1_x58 ?_
        refine WO.loadN rfl (by kernel_rfl) (by kernel_rfl) rfl ((cs_registrarlaw26_Act x58)) (by kernel_rfl) (fun w' hw' => hc_x58.cells (k := 0) (by kernel_rfl) rfl ((rd_f hS38.im) w' hw')) ?_
        refine WO.vals [(6, 45, (.int .i64 s20))] (by kernel_rfl) (fun _ => by kernel_rfl) ?_
        have hS59 := hS38.front2
        have hS60 := hS59.front3
        have hS61 := hS60.front3
        obtain ⟨⟨r67, r68, r69⟩, hx_r62, hr1⟩ := bind_some hr1
        refine WO.call rfl (by kernel_rfl) rfl (f := 10) (args := #[(.pointer (some ⟨b_r10, 0, none⟩)), (.pointer (some ⟨b_r16, 0, none⟩)), (.agg (cs_registrarlaw26_Act x58).toArray), (.int .i64 s20)]) (by kernel_rfl) (registrarlaw26_done_ok (h_s21.mono hl37) (h_s22.mono hl37) hS61 hx_r62) ?_
        rintro _ w63 ⟨I64, w_r68, w_r69, rfl, hl65, hS66, h_r68, h_r69⟩
        refine ⟨_, rfl, trivial, ?_⟩
        refine WO.nil ?_
        refine En.in_normal ?_
        refine En.next ?_
        refine W.region (l := [0, 1, 2]) (by kernel_rfl) ?_
        refine WO.vals [(0, 31, (.int .i64 s20)), (1, 32, (.int .i64 (w64 (s20 + 1)))), (2, 10, (.int .i64 (w64 (s20 + 1))))] (by kernel_rfl) (fun _ => by kernel_rfl) ?_
        refine WO.nil ?_
        have hS70 := hS66.front1
        have hS71 := hS70.front2
        have hS72 := hS71.front2
        have hS73 := hS72.front3
        refine En.weaken (fr' := [(0, (.slice a_p0 p0.length c_p0)), (1, (.slice a_p1 p1.length c_p1)), (5, (.pointer (some ⟨b1, 0, none⟩))), (8, (.pointer (some ⟨b_r10, 0, none⟩))), (9, (.pointer (some ⟨b_r16, 0, none⟩))), (10, (.int .i64 (w64 (s20 + 1))))]) (En.round ⟨((w64 (s20 + 1)), r68, r69), (Option.some.inj hr1).symm, I64, w_r68, w_r69, rfl, ((hl19.trans hl37).trans hl65), hS73, h_r68, h_r69⟩) (Sub.cons rfl (Sub.cons rfl (Sub.cons rfl (Sub.cons rfl (Sub.cons rfl (Sub.cons rfl Sub.nil))))))
    · replace hr1 := cond_f hc hr1
      refine W.exit ?_
      refine En.nx_exit ?_
      refine En.rd_exit ?_
      have ht := hext17 _ (Option.some.inj hr1).symm
      subst t17
      refine En.in_hit ?_
      refine En.next ?_
      refine W.seq ?_
      refine W.seq ?_
      have hS404 := hS29.drew
      refine W.draw (l := [0, 1, 2, 3, 4, 5, 6, 7, 8, 9, 10, 11, 12, 13]) (by kernel_rfl) 14 (KR I18 [one b1 (.cells (cs_registrarlaw26_Act p2).toArray 29 (0, 0))]) qR (.back (by kernel_rfl)) (by kernel_rfl) (KR.cons (hS404.rd (List.Mem.head _)) (KR.nil hS404.im)) ?_
      generalize World.drew _ = w405 at *
      refine WO.loadN rfl (by kernel_rfl) (by kernel_rfl) rfl ((cs_registrarlaw26_Act p2)) (by kernel_rfl) (fun w' hw' => cells_one ((rd_c (List.Mem.head _) (hS404.rd (List.Mem.head _))) w' hw') (by kernel_rfl)) ?_
      obtain ⟨r411, hx_r406, hr⟩ := bind_some hr
      refine WO.call rfl (by kernel_rfl) rfl (f := 8) (args := #[(.agg (cs_registrarlaw26_Act p2).toArray)]) (by kernel_rfl) (registrarlaw26_long_ok  hS404 hx_r406) ?_
      rintro _ w407 ⟨I408, rfl, hl409, hS410⟩
      refine ⟨_, rfl, (KR.cons (hS410.rd (List.Mem.head _)) (KR.nil (hS410.im.of_le hl409))), ?_⟩
      refine WO.vals [(2, 49, (.bool r411))] (by kernel_rfl) (fun _ => by kernel_rfl) ?_
      obtain ⟨j412, hr1, hr⟩ := bind_some hr
      refine WO.join (l1 := [3, 4, 5, 6, 7, 8, 9, 10, 11, 12, 13]) (l2 := []) (J := (fun fr w => ∃ (s416 : Bool), ∃ (s417 : lru_Cache), ∃ (I414 : Mem), ∃ (w_s417 : W_lru_Cache), (s416, s417) = j412 ∧ fr = [(1, (.slice a_p1 p1.length c_p1)), (5, (.pointer (some ⟨b1, 0, none⟩))), (8, (.pointer (some ⟨b_r10, 0, none⟩))), (9, (.pointer (some ⟨b_r16, 0, none⟩))), (60, (.bool s416))] ∧ I408.Le I414 ∧ St E w I414 ((one b1 (.cells (cs_registrarlaw26_Act p2).toArray 29 (0, 0))) :: (one b_r10 (.cells (cs_lru_Cache s417 w_s417).toArray 68 (0, 0))) :: (one b_r16 (.cells (cs_registrarref26_Cache s22 w_s22).toArray 59 (0, 0))) :: (w_s417.at_.C) :: Os) ∧ ok_lru_Cache I414 s417 w_s417)) ?restj412 ?waysj412
      case waysj412 =>
        refine WO.caseb r411 (fun hc => ?_) (fun hc => ?_)
        · replace hr1 := cond_t hc hr1
          refine WO.reslot 49 rfl (show Value.bool r411 = Value.bool true by rw [hc]) ?_
          refine WO.pass rfl (by kernel_rfl) rfl ?_
          refine WO.pass rfl (by kernel_rfl) rfl ?_
          refine WO.pass rfl (by kernel_rfl) rfl ?_
          refine WO.pass rfl (by kernel_rfl) rfl ?_
          refine WO.pass rfl (by kernel_rfl) rfl ?_
          refine WO.pass rfl (by kernel_rfl) rfl ?_
          refine WO.pass rfl (by kernel_rfl) rfl ?_
          refine WO.pass rfl (by kernel_rfl) rfl ?_
          refine WO.pass rfl (by kernel_rfl) rfl ?_
          refine WO.pass rfl (by kernel_rfl) rfl ?_
          refine WO.vals [(13, 60, (.bool true))] (by kernel_rfl) (fun _ => by kernel_rfl) ?_
          refine WO.weaken (fr' := [(1, (.slice a_p1 p1.length c_p1)), (5, (.pointer (some ⟨b1, 0, none⟩))), (8, (.pointer (some ⟨b_r10, 0, none⟩))), (9, (.pointer (some ⟨b_r16, 0, none⟩))), (60, (.bool true))]) (WO.meet ⟨true, s21, I408, w_s21, Option.some.inj hr1, rfl, Mem.Le.refl _, hS410, (h_s21.mono hl409)⟩) (Sub.cons rfl (Sub.cons rfl (Sub.cons rfl (Sub.cons rfl (Sub.cons rfl Sub.nil)))))
        · replace hr1 := cond_f hc hr1
          refine WO.reslot 49 rfl (show Value.bool r411 = Value.bool false by rw [hc]) ?_
          refine WO.vals [(3, 50, (.pointer (some ⟨b_r10, 0, none⟩))), (4, 51, (.pointer (some ⟨b1, 1, none⟩)))] (by kernel_rfl) (fun _ => by kernel_rfl) ?_
          refine WO.load rfl (by kernel_rfl) (by kernel_rfl) rfl (v := (.int .i64 p2.Who)) (fun w' hw' => cell_one ((rd_c (List.Mem.head _) (hS410.rd (List.Mem.head _))) w' hw') (by kernel_rfl)) ?_
          refine WO.vals [(6, 53, (.pointer (some ⟨b1, 2, none⟩)))] (by kernel_rfl) (fun _ => by kernel_rfl) ?_
          refine WO.load rfl (by kernel_rfl) (by kernel_rfl) rfl (v := (.string p2.Name)) (fun w' hw' => cell_one ((rd_c (List.Mem.head _) (hS410.rd (List.Mem.head _))) w' hw') (by kernel_rfl)) ?_
          refine WO.vals [(8, 55, (.pointer (some ⟨b1, 3, none⟩)))] (by kernel_rfl) (fun _ => by kernel_rfl) ?_
          refine WO.load rfl (by kernel_rfl) (by kernel_rfl) rfl (v := (.string p2.Table)) (fun w' hw' => cell_one ((rd_c (List.Mem.head _) (hS410.rd (List.Mem.head _))) w' hw') (by kernel_rfl)) ?_
          obtain ⟨r423, hx_r418, hr1⟩ := bind_some hr1
          refine WO.call rfl (by kernel_rfl) rfl (f := 13) (args := #[(.string p2.Table), (.int .i64 77)]) (by kernel_rfl) (registrarlaw26_made_ok  hS410 hx_r418) ?_
          rintro _ w419 ⟨I420, w_r423, rfl, hl421, hS422, h_r423⟩
          refine ⟨_, rfl, (KR.cons (hS422.rd (List.Mem.head _)) (KR.nil (hS422.im.of_le (hl409.trans hl421)))), ?_⟩
          have hS424 := hS422.front3
          have hS425 := hS424.front2
          obtain ⟨⟨r431, r432⟩, hx_r426, hr1⟩ := bind_some hr1
          refine WO.call rfl (by kernel_rfl) rfl (f := 12) (args := #[(.pointer (some ⟨b_r10, 0, none⟩)), (.int .i64 p2.Who), (.string p2.Name), (.agg (cs_plan_Plan r423 w_r423).toArray)]) (by kernel_rfl) (lru_Cache_Put_ok (h_s21.mono (hl409.trans hl421)) h_r423 hS425 hx_r426) ?_
          rintro _ w427 ⟨I428, w_r432, rfl, hl429, hS430, h_r432⟩
          refine ⟨_, rfl, (KR.cons (hS430.rd (List.Mem.tail _ (List.Mem.tail _ (List.Mem.head _)))) (KR.nil (hS430.im.of_le ((hl409.trans hl421).trans hl429)))), ?_⟩
          refine WO.vals [(12, 59, (.bool (r431 != 0))), (13, 60, (.bool (r431 != 0)))] (by kernel_rfl) (fun _ => by kernel_rfl) ?_
          have hS433 := hS430.front1
          have hS434 := hS433.front3
          have hS435 := hS434.front2
          have hS436 := hS435.front3
          refine WO.weaken (fr' := [(1, (.slice a_p1 p1.length c_p1)), (5, (.pointer (some ⟨b1, 0, none⟩))), (8, (.pointer (some ⟨b_r10, 0, none⟩))), (9, (.pointer (some ⟨b_r16, 0, none⟩))), (60, (.bool (r431 != 0)))]) (WO.meet ⟨(r431 != 0), r432, I428, w_r432, Option.some.inj hr1, rfl, (hl421.trans hl429), hS436, h_r432⟩) (Sub.cons rfl (Sub.cons rfl (Sub.cons rfl (Sub.cons rfl (Sub.cons rfl Sub.nil)))))
      case restj412 =>
        rintro _ w437 ⟨s416, s417, I414, w_s417, rfl, rfl, hl415, hS438, h_s417⟩
        refine WO.nil ?_
        refine En.next ?_
        refine W.cond (b := s416) rfl rfl (fun hc => ?_) (fun hc => ?_)
        · replace hr := cond_t hc hr
          refine W.seq ?_
          refine W.region (l := [0, 1]) (by kernel_rfl) ?_
          obtain ⟨r444, hx_r439, hr⟩ := bind_some hr
          refine WO.call rfl (by kernel_rfl) rfl (f := 9) (args := #[]) (by kernel_rfl) (registrarlaw26_works_ok  hS438 hx_r439) ?_
          rintro _ w440 ⟨I441, rfl, hl442, hS443⟩
          refine ⟨_, rfl, trivial, ?_⟩
          refine WO.vals [(1, 6, (.bool r444))] (by kernel_rfl) (fun _ => by kernel_rfl) ?_
          refine WO.nil ?_
          refine En.next ?_
          refine W.ret ?_
          refine En.nx_ret ?_
          have hS445 := hS443.drop
          have hS446 := hS445.drop
          have hS447 := hS446.drop
          have hS448 := hS447.drop
          have he := Option.some.inj hr
          subst r
          exact En.ret1 rfl (.bool r444) rfl ⟨I441, rfl, (((((hl8.trans hl14).trans hl19).trans hl409).trans hl415).trans hl442), hS448⟩
        · replace hr := cond_f hc hr
          refine W.skip ?_
          refine En.next ?_
          refine W.seq ?_
          refine W.region (l := [0]) (by kernel_rfl) ?_
          refine WO.vals [(0, 11, (.int .i64 0))] (by kernel_rfl) (fun _ => by kernel_rfl) ?_
          refine WO.nil ?_
          refine En.next ?_
          refine W.seq ?_
          refine W.seq ?_
          refine W.region (l := [0]) (by kernel_rfl) ?_
          refine WO.vals [(0, 12, (.int .i64 0))] (by kernel_rfl) (fun _ => by kernel_rfl) ?_
          refine WO.nil ?_
          refine En.next ?_
          refine W.block ?_
          obtain ⟨t449, hloop455, hr⟩ := bind_some hr
          refine W.weaken (fr' := [(1, (.slice a_p1 p1.length c_p1)), (5, (.pointer (some ⟨b1, 0, none⟩))), (8, (.pointer (some ⟨b_r10, 0, none⟩))), (9, (.pointer (some ⟨b_r16, 0, none⟩))), (11, (.int .i64 0)), (12, (.int .i64 0))]) (W.loopO hloop455 (fun (s : Int × Int × lru_Cache) fr w => match s with | (s452, s453, s454) => ∃ (I450 : Mem), ∃ (w_s454 : W_lru_Cache), fr = [(1, (.slice a_p1 p1.length c_p1)), (5, (.pointer (some ⟨b1, 0, none⟩))), (8, (.pointer (some ⟨b_r10, 0, none⟩))), (9, (.pointer (some ⟨b_r16, 0, none⟩))), (11, (.int .i64 s452)), (12, (.int .i64 s453))] ∧ I414.Le I450 ∧ St E w I450 ((one b1 (.cells (cs_registrarlaw26_Act p2).toArray 29 (0, 0))) :: (one b_r10 (.cells (cs_lru_Cache s454 w_s454).toArray 68 (0, 0))) :: (one b_r16 (.cells (cs_registrarref26_Cache s22 w_s22).toArray 59 (0, 0))) :: (w_s454.at_.C) :: Os) ∧ ok_lru_Cache I450 s454 w_s454) ⟨I414, w_s417, rfl, Mem.Le.refl _, hS438, h_s417⟩ ?_) (Sub.cons rfl (Sub.cons rfl (Sub.cons rfl (Sub.cons rfl (Sub.cons rfl (Sub.cons rfl Sub.nil))))))
          rintro ⟨s452, s453, s454⟩ _ w456 ⟨I450, w_s454, rfl, hl451, hS457, h_s454⟩ x458 hr1 hext449
          refine W.seq ?_
          refine W.seq ?_
          refine W.region (l := [0, 1, 2, 3, 4, 5, 6, 7, 8, 9, 10, 11, 12, 13, 14, 15, 16]) (by kernel_rfl) ?_
          refine WO.vals [(0, 62, (.int .i64 s453)), (1, 63, (.slice a_p1 p1.length c_p1)), (2, 64, (.int .i64 (p1.length : Int))), (3, 65, (.bool (decide (s453 < (p1.length : Int))))), (4, 66, (.bool (decide (s453 < (p1.length : Int)))))] (by kernel_rfl) (fun _ => by kernel_rfl) ?_
          refine WO.join (l1 := [5, 6, 7, 8, 9, 10, 11, 12]) (l2 := [13, 14, 15, 16]) (J := fun frx wx => frx = [(74, (.bool ((decide (s453 < (p1.length : Int))) && (decide ((w64 (s452 + 1)) < s22.Most))))), (1, (.slice a_p1 p1.length c_p1)), (5, (.pointer (some ⟨b1, 0, none⟩))), (8, (.pointer (some ⟨b_r10, 0, none⟩))), (9, (.pointer (some ⟨b_r16, 0, none⟩))), (11, (.int .i64 s452)), (12, (.int .i64 s453))] ∧ w456 = wx) ?restm459 ?waysm459
          case waysm459 =>
            refine WO.caseb (decide (s453 < (p1.length : Int))) (fun hc => ?_) (fun hc => ?_)
            · skip
              refine WO.reslot 66 rfl (show Value.bool (decide (s453 < (p1.length : Int))) = Value.bool true by rw [hc]) ?_
              refine WO.vals [(5, 67, (.int .i64 s452)), (6, 68, (.int .i64 (w64 (s452 + 1)))), (7, 69, (.pointer (some ⟨b_r16, 0, none⟩))), (8, 70, (.pointer (some ⟨b_r16, 0, none⟩))), (9, 71, (.pointer (some ⟨b_r16, 1, none⟩)))] (by kernel_rfl) (fun _ => by kernel_rfl) ?_
              refine WO.load rfl (by kernel_rfl) (by kernel_rfl) rfl (v := (.int .i64 s22.Most)) (fun w' hw' => cell_one ((rd_f (hS457.rd (List.Mem.tail _ (List.Mem.tail _ (List.Mem.head _))))) w' hw') (by kernel_rfl)) ?_
              refine WO.vals [(11, 73, (.bool (decide ((w64 (s452 + 1)) < s22.Most)))), (12, 74, (.bool (decide ((w64 (s452 + 1)) < s22.Most))))] (by kernel_rfl) (fun _ => by kernel_rfl) ?_
              refine WO.weaken (fr' := [(74, (.bool ((decide (s453 < (p1.length : Int))) && (decide ((w64 (s452 + 1)) < s22.Most))))), (1, (.slice a_p1 p1.length c_p1)), (5, (.pointer (some ⟨b1, 0, none⟩))), (8, (.pointer (some ⟨b_r10, 0, none⟩))), (9, (.pointer (some ⟨b_r16, 0, none⟩))), (11, (.int .i64 s452)), (12, (.int .i64 s453))]) (WO.meet ⟨rfl, rfl⟩) (Sub.cons (by rw [hc]; rfl) (Sub.cons rfl (Sub.cons rfl (Sub.cons rfl (Sub.cons rfl (Sub.cons rfl (Sub.cons rfl Sub.nil)))))))
            · skip
              refine WO.reslot 66 rfl (show Value.bool (decide (s453 < (p1.length : Int))) = Value.bool false by rw [hc]) ?_
              refine WO.pass rfl (by kernel_rfl) rfl ?_
              refine WO.pass rfl (by kernel_rfl) rfl ?_
              refine WO.pass rfl (by kernel_rfl) rfl ?_
              refine WO.pass rfl (by kernel_rfl) rfl ?_
              refine WO.pass rfl (by kernel_rfl) rfl ?_
              refine WO.pass rfl (by kernel_rfl) rfl ?_
              refine WO.pass rfl (by kernel_rfl) rfl ?_
              refine WO.vals [(12, 74, (.bool false))] (by kernel_rfl) (fun _ => by kernel_rfl) ?_
              refine WO.weaken (fr' := [(74, (.bool ((decide (s453 < (p1.length : Int))) && (decide ((w64 (s452 + 1)) < s22.Most))))), (1, (.slice a_p1 p1.length c_p1)), (5, (.pointer (some ⟨b1, 0, none⟩))), (8, (.pointer (some ⟨b_r10, 0, none⟩))), (9, (.pointer (some ⟨b_r16, 0, none⟩))), (11, (.int .i64 s452)), (12, (.int .i64 s453))]) (WO.meet ⟨rfl, rfl⟩) (Sub.cons (by rw [hc]; rfl) (Sub.cons rfl (Sub.cons rfl (Sub.cons rfl (Sub.cons rfl (Sub.cons rfl (Sub.cons rfl Sub.nil)))))))
          case restm459 =>
            rintro _ _ ⟨rfl, rfl⟩
            refine WO.vals [(13, 75, (.bool ((decide (s453 < (p1.length : Int))) && (decide ((w64 (s452 + 1)) < s22.Most)))))] (by kernel_rfl) (fun _ => by kernel_rfl) ?_
            refine WO.join (l1 := [14, 15, 16]) (l2 := []) (J := fun frx wx => frx = [(78, (.bool (((decide (s453 < (p1.length : Int))) && (decide ((w64 (s452 + 1)) < s22.Most))) && (decide (s452 < 6))))), (1, (.slice a_p1 p1.length c_p1)), (5, (.pointer (some ⟨b1, 0, none⟩))), (8, (.pointer (some ⟨b_r10, 0, none⟩))), (9, (.pointer (some ⟨b_r16, 0, none⟩))), (11, (.int .i64 s452)), (12, (.int .i64 s453))] ∧ w456 = wx) ?restm461 ?waysm461
            case waysm461 =>
              refine WO.caseb ((decide (s453 < (p1.length : Int))) && (decide ((w64 (s452 + 1)) < s22.Most))) (fun hc => ?_) (fun hc => ?_)
              · skip
                refine WO.reslot 75 rfl (show Value.bool ((decide (s453 < (p1.length : Int))) && (decide ((w64 (s452 + 1)) < s22.Most))) = Value.bool true by rw [hc]) ?_
                refine WO.vals [(14, 76, (.int .i64 s452)), (15, 77, (.bool (decide (s452 < 6)))), (16, 78, (.bool (decide (s452 < 6))))] (by kernel_rfl) (fun _ => by kernel_rfl) ?_
                refine WO.weaken (fr' := [(78, (.bool (((decide (s453 < (p1.length : Int))) && (decide ((w64 (s452 + 1)) < s22.Most))) && (decide (s452 < 6))))), (1, (.slice a_p1 p1.length c_p1)), (5, (.pointer (some ⟨b1, 0, none⟩))), (8, (.pointer (some ⟨b_r10, 0, none⟩))), (9, (.pointer (some ⟨b_r16, 0, none⟩))), (11, (.int .i64 s452)), (12, (.int .i64 s453))]) (WO.meet ⟨rfl, rfl⟩) (Sub.cons (by rw [hc]; rfl) (Sub.cons rfl (Sub.cons rfl (Sub.cons rfl (Sub.cons rfl (Sub.cons rfl (Sub.cons rfl Sub.nil)))))))
              · skip
                refine WO.reslot 75 rfl (show Value.bool ((decide (s453 < (p1.length : Int))) && (decide ((w64 (s452 + 1)) < s22.Most))) = Value.bool false by rw [hc]) ?_
                refine WO.pass rfl (by kernel_rfl) rfl ?_
                refine WO.pass rfl (by kernel_rfl) rfl ?_
                refine WO.vals [(16, 78, (.bool false))] (by kernel_rfl) (fun _ => by kernel_rfl) ?_
                refine WO.weaken (fr' := [(78, (.bool (((decide (s453 < (p1.length : Int))) && (decide ((w64 (s452 + 1)) < s22.Most))) && (decide (s452 < 6))))), (1, (.slice a_p1 p1.length c_p1)), (5, (.pointer (some ⟨b1, 0, none⟩))), (8, (.pointer (some ⟨b_r10, 0, none⟩))), (9, (.pointer (some ⟨b_r16, 0, none⟩))), (11, (.int .i64 s452)), (12, (.int .i64 s453))]) (WO.meet ⟨rfl, rfl⟩) (Sub.cons (by rw [hc]; rfl) (Sub.cons rfl (Sub.cons rfl (Sub.cons rfl (Sub.cons rfl (Sub.cons rfl (Sub.cons rfl Sub.nil)))))))
            case restm461 =>
              rintro _ _ ⟨rfl, rfl⟩
              refine WO.nil ?_
              refine En.next ?_
              refine W.cond (b := (((decide (s453 < (p1.length : Int))) && (decide ((w64 (s452 + 1)) < s22.Most))) && (decide (s452 < 6)))) rfl rfl (fun hc => ?_) (fun hc => ?_)
              · replace hr1 := cond_t hc hr1
                refine W.skip ?_
                refine En.next ?_
                refine W.seq ?_
                obtain ⟨j463, hr2, hr1⟩ := bind_some hr1
                refine W.join (J := (fun fr w => ∃ (s522 : Int), ∃ (s523 : lru_Cache), ∃ (I465 : Mem), ∃ (w_s523 : W_lru_Cache), (.inr (s522, s523)) = j463 ∧ fr = [(1, (.slice a_p1 p1.length c_p1)), (5, (.pointer (some ⟨b1, 0, none⟩))), (8, (.pointer (some ⟨b_r10, 0, none⟩))), (9, (.pointer (some ⟨b_r16, 0, none⟩))), (11, (.int .i64 s522)), (12, (.int .i64 s453))] ∧ I450.Le I465 ∧ St E w I465 ((one b1 (.cells (cs_registrarlaw26_Act p2).toArray 29 (0, 0))) :: (one b_r10 (.cells (cs_lru_Cache s523 w_s523).toArray 68 (0, 0))) :: (one b_r16 (.cells (cs_registrarref26_Cache s22 w_s22).toArray 59 (0, 0))) :: (w_s523.at_.C) :: Os) ∧ ok_lru_Cache I465 s523 w_s523)) ?restj463 ?waysj463
                case waysj463 =>
                  refine W.block ?_
                  refine W.seq ?_
                  refine W.seq ?_
                  refine W.region (l := [0, 1, 2, 3, 4]) (by kernel_rfl) ?_
                  refine WO.vals [(0, 81, (.slice a_p1 p1.length c_p1)), (1, 82, (.int .i64 s453))] (by kernel_rfl) (fun _ => by kernel_rfl) ?_
                  obtain ⟨x467, hx_x467, hr2⟩ := bind_some hr2
                  obtain ⟨h0_x467, h1_x467, hx_x467⟩ := idx_some hx_x467
                  obtain ⟨ha_x467, cs_x467, hn_x467, hr_x467, hc_x467⟩ := ((RSl.mono h_p1 (((((hl8.trans hl14).trans hl19).trans hl409).trans hl415).trans hl451))).el _ _ hx_x467
                  obtain rfl := hr_x467
                  refine WO.indexAddr (e := 29) (sz := 4) rfl (by kernel_rfl) (by kernel_rfl) (by kernel_rfl) rfl ha_x467 rfl h0_x467 h1_x467 ?_
                  refine WO.loadN rfl (by kernel_rfl) (by kernel_rfl) rfl ((cs_registrarlaw26_Act x467)) (by kernel_rfl) (fun w' hw' => hc_x467.cells (k := 0) (by kernel_rfl) rfl ((rd_f hS457.im) w' hw')) ?_
                  obtain ⟨r473, hx_r468, hr2⟩ := bind_some hr2
                  refine WO.call rfl (by kernel_rfl) rfl (f := 8) (args := #[(.agg (cs_registrarlaw26_Act x467).toArray)]) (by kernel_rfl) (registrarlaw26_long_ok  hS457 hx_r468) ?_
                  rintro _ w469 ⟨I470, rfl, hl471, hS472⟩
                  refine ⟨_, rfl, trivial, ?_⟩
                  refine WO.nil ?_
                  refine En.next ?_
                  refine W.cond (b := r473) rfl rfl (fun hc => ?_) (fun hc => ?_)
                  · replace hr2 := cond_t hc hr2
                    refine W.seq ?_
                    refine W.region (l := [0, 1]) (by kernel_rfl) ?_
                    obtain ⟨r479, hx_r474, hr2⟩ := bind_some hr2
                    refine WO.call rfl (by kernel_rfl) rfl (f := 9) (args := #[]) (by kernel_rfl) (registrarlaw26_works_ok  hS472 hx_r474) ?_
                    rintro _ w475 ⟨I476, rfl, hl477, hS478⟩
                    refine ⟨_, rfl, trivial, ?_⟩
                    refine WO.vals [(1, 6, (.bool r479))] (by kernel_rfl) (fun _ => by kernel_rfl) ?_
                    refine WO.nil ?_
                    refine En.next ?_
                    refine W.ret ?_
                    refine En.nx_ret ?_
                    refine En.in_ret ?_
                    refine En.rd_ret ?_
                    have ht := Option.some.inj hr2
                    subst j463
                    refine En.nx_ret ?_
                    refine En.rd_ret ?_
                    have ht := hext449 _ (Option.some.inj hr1).symm
                    subst t449
                    refine En.in_ret ?_
                    refine En.nx_ret ?_
                    have hS494 := hS478.drop
                    have hS495 := hS494.drop
                    have hS496 := hS495.drop
                    have hS497 := hS496.drop
                    have he := Option.some.inj hr
                    subst r
                    exact En.ret1 rfl (.bool r479) rfl ⟨I476, rfl, (((((((hl8.trans hl14).trans hl19).trans hl409).trans hl415).trans hl451).trans hl471).trans hl477), hS497⟩
                  · replace hr2 := cond_f hc hr2
                    refine W.skip ?_
                    refine En.next ?_
                    refine W.seq ?_
                    refine W.seq ?_
                    have hS498 := hS472.drew
                    refine W.draw (l := [0, 1, 2, 3, 4, 5, 6, 7, 8, 9, 10, 11, 12, 13, 14, 15, 16, 17, 18, 19, 20, 21, 22, 23, 24, 25, 26, 27, 28, 29, 30, 31, 32, 33]) (by kernel_rfl) 34 (KR I470 [one b1 (.cells (cs_registrarlaw26_Act p2).toArray 29 (0, 0))]) qR (.back (by kernel_rfl)) (by kernel_rfl) (KR.cons (hS498.rd (List.Mem.head _)) (KR.nil hS498.im)) ?_
                    generalize World.drew _ = w499 at *
                    refine WO.vals [(0, 87, (.slice a_p1 p1.length c_p1)), (1, 88, (.int .i64 s453))] (by kernel_rfl) (fun _ => by kernel_rfl) ?_
                    obtain ⟨x500, hx_x500, hr2⟩ := bind_some hr2
                    obtain ⟨h0_x500, h1_x500, hx_x500⟩ := idx_some hx_x500
                    obtain ⟨ha_x500, cs_x500, hn_x500, hr_x500, hc_x500⟩ := ((RSl.mono h_p1 ((((((hl8.trans hl14).trans hl19).trans hl409).trans hl415).trans hl451).trans hl471))).el _ _ hx_x500
                    obtain rfl := hr_x500
                    refine WO.indexAddr (e := 29) (sz := 4) rfl (by kernel_rfl) (by kernel_rfl) (by kernel_rfl) rfl ha_x500 rfl h0_x500 h1_x500 ?_
                    refine WO.vals [(3, 90, (.pointer (some ⟨bl a_p1, of a_p1 + (s453).toNat * 4, none⟩)))] (by kernel_rfl) (fun _ => by kernel_rfl) ?_
                    refine WO.load rfl (by kernel_rfl) (by kernel_rfl) rfl (v := (.int .i64 x500.Do)) (fun w' hw' => hc_x500.cell0 (by kernel_rfl) ((rd_i hS498.im) w' hw')) ?_
                    refine WO.vals [(5, 92, (.bool (decide (x500.Do > 1)))), (6, 93, (.bool (decide (x500.Do > 1))))] (by kernel_rfl) (fun _ => by kernel_rfl) ?_
                    obtain ⟨j501, hr3, hr2⟩ := bind_some hr2
                    refine WO.join (l1 := [7, 8, 9, 10, 11, 12, 13]) (l2 := [14, 15, 16, 17, 18, 19, 20, 21, 22, 23, 24, 25, 26, 27, 28, 29, 30, 31, 32, 33]) (J := (fun fr w => ∃ (I503 : Mem), fr = [(1, (.slice a_p1 p1.length c_p1)), (5, (.pointer (some ⟨b1, 0, none⟩))), (8, (.pointer (some ⟨b_r10, 0, none⟩))), (9, (.pointer (some ⟨b_r16, 0, none⟩))), (11, (.int .i64 s452)), (12, (.int .i64 s453)), (100, (.bool j501))] ∧ I470.Le I503 ∧ St E w I503 ((one b1 (.cells (cs_registrarlaw26_Act p2).toArray 29 (0, 0))) :: (one b_r10 (.cells (cs_lru_Cache s454 w_s454).toArray 68 (0, 0))) :: (one b_r16 (.cells (cs_registrarref26_Cache s22 w_s22).toArray 59 (0, 0))) :: (w_s454.at_.C) :: Os))) ?restj501 ?waysj501
                    case waysj501 =>
                      refine WO.caseb (decide (x500.Do > 1)) (fun hc => ?_) (fun hc => ?_)
                      · replace hr3 := cond_t hc hr3
                        refine WO.reslot 93 rfl (show Value.bool (decide (x500.Do > 1)) = Value.bool true by rw [hc]) ?_
                        refine WO.pass rfl (by kernel_rfl) rfl ?_
                        refine WO.pass rfl (by kernel_rfl) rfl ?_
                        refine WO.pass rfl (by kernel_rfl) rfl ?_
                        refine WO.pass rfl (by kernel_rfl) rfl ?_
                        refine WO.pass rfl (by kernel_rfl) rfl ?_
                        refine WO.pass rfl (by kernel_rfl) rfl ?_
                        refine WO.vals [(13, 100, (.bool true))] (by kernel_rfl) (fun _ => by kernel_rfl) ?_
                        have he := Option.some.inj hr3
                        subst j501
                        refine WO.weaken (fr' := [(1, (.slice a_p1 p1.length c_p1)), (5, (.pointer (some ⟨b1, 0, none⟩))), (8, (.pointer (some ⟨b_r10, 0, none⟩))), (9, (.pointer (some ⟨b_r16, 0, none⟩))), (11, (.int .i64 s452)), (12, (.int .i64 s453)), (100, (.bool true))]) (WO.meet ⟨I470, rfl, Mem.Le.refl _, hS498⟩) (Sub.cons rfl (Sub.cons rfl (Sub.cons rfl (Sub.cons rfl (Sub.cons rfl (Sub.cons rfl (Sub.cons rfl Sub.nil)))))))
                      · replace hr3 := cond_f hc hr3
                        refine WO.reslot 93 rfl (show Value.bool (decide (x500.Do > 1)) = Value.bool false by rw [hc]) ?_
                        refine WO.vals [(7, 94, (.slice a_p1 p1.length c_p1)), (8, 95, (.int .i64 s453))] (by kernel_rfl) (fun _ => by kernel_rfl) ?_
                        obtain ⟨x505, hx_x505, hr3⟩ := bind_some hr3
                        obtain ⟨h0_x505, h1_x505, hx_x505⟩ := idx_some hx_x505
                        obtain ⟨ha_x505, cs_x505, hn_x505, hr_x505, hc_x505⟩ := ((RSl.mono h_p1 ((((((hl8.trans hl14).trans hl19).trans hl409).trans hl415).trans hl451).trans hl471))).el _ _ hx_x505
                        obtain rfl := hr_x505
                        refine WO.indexAddr (e := 29) (sz := 4) rfl (by kernel_rfl) (by kernel_rfl) (by kernel_rfl) rfl ha_x505 rfl h0_x505 h1_x505 ?_
                        refine WO.vals [(10, 97, (.pointer (some ⟨bl a_p1, of a_p1 + (s453).toNat * 4, none⟩)))] (by kernel_rfl) (fun _ => by kernel_rfl) ?_
                        refine WO.load rfl (by kernel_rfl) (by kernel_rfl) rfl (v := (.int .i64 x505.Do)) (fun w' hw' => hc_x505.cell0 (by kernel_rfl) ((rd_i hS498.im) w' hw')) ?_
                        refine WO.vals [(12, 99, (.bool (decide (x505.Do < 0)))), (13, 100, (.bool (decide (x505.Do < 0))))] (by kernel_rfl) (fun _ => by kernel_rfl) ?_
                        have he := Option.some.inj hr3
                        subst j501
                        refine WO.weaken (fr' := [(1, (.slice a_p1 p1.length c_p1)), (5, (.pointer (some ⟨b1, 0, none⟩))), (8, (.pointer (some ⟨b_r10, 0, none⟩))), (9, (.pointer (some ⟨b_r16, 0, none⟩))), (11, (.int .i64 s452)), (12, (.int .i64 s453)), (100, (.bool (decide (x505.Do < 0))))]) (WO.meet ⟨I470, rfl, Mem.Le.refl _, hS498⟩) (Sub.cons rfl (Sub.cons rfl (Sub.cons rfl (Sub.cons rfl (Sub.cons rfl (Sub.cons rfl (Sub.cons rfl Sub.nil)))))))
                    case restj501 =>
                      rintro _ w506 ⟨I503, rfl, hl504, hS507⟩
                      refine WO.vals [(14, 101, (.bool j501))] (by kernel_rfl) (fun _ => by kernel_rfl) ?_
                      obtain ⟨j508, hr3, hr2⟩ := bind_some hr2
                      refine WO.join (l1 := [15, 16, 17, 18, 19, 20, 21, 22, 23, 24, 25, 26, 27, 28, 29, 30, 31, 32, 33]) (l2 := []) (J := (fun fr w => ∃ (I510 : Mem), fr = [(1, (.slice a_p1 p1.length c_p1)), (5, (.pointer (some ⟨b1, 0, none⟩))), (8, (.pointer (some ⟨b_r10, 0, none⟩))), (9, (.pointer (some ⟨b_r16, 0, none⟩))), (11, (.int .i64 s452)), (12, (.int .i64 s453)), (120, (.bool j508))] ∧ I503.Le I510 ∧ St E w I510 ((one b1 (.cells (cs_registrarlaw26_Act p2).toArray 29 (0, 0))) :: (one b_r10 (.cells (cs_lru_Cache s454 w_s454).toArray 68 (0, 0))) :: (one b_r16 (.cells (cs_registrarref26_Cache s22 w_s22).toArray 59 (0, 0))) :: (w_s454.at_.C) :: Os))) ?restj508 ?waysj508
                      case waysj508 =>
                        refine WO.caseb j501 (fun hc => ?_) (fun hc => ?_)
                        · replace hr3 := cond_t hc hr3
                          refine WO.reslot 101 rfl (show Value.bool j501 = Value.bool true by rw [hc]) ?_
                          refine WO.pass rfl (by kernel_rfl) rfl ?_
                          refine WO.pass rfl (by kernel_rfl) rfl ?_
                          refine WO.pass rfl (by kernel_rfl) rfl ?_
                          refine WO.pass rfl (by kernel_rfl) rfl ?_
                          refine WO.pass rfl (by kernel_rfl) rfl ?_
                          refine WO.pass rfl (by kernel_rfl) rfl ?_
                          refine WO.pass rfl (by kernel_rfl) rfl ?_
                          refine WO.pass rfl (by kernel_rfl) rfl ?_
                          refine WO.pass rfl (by kernel_rfl) rfl ?_
                          refine WO.pass rfl (by kernel_rfl) rfl ?_
                          refine WO.pass rfl (by kernel_rfl) rfl ?_
                          refine WO.pass rfl (by kernel_rfl) rfl ?_
                          refine WO.pass rfl (by kernel_rfl) rfl ?_
                          refine WO.pass rfl (by kernel_rfl) rfl ?_
                          refine WO.pass rfl (by kernel_rfl) rfl ?_
                          refine WO.pass rfl (by kernel_rfl) rfl ?_
                          refine WO.pass rfl (by kernel_rfl) rfl ?_
                          refine WO.pass rfl (by kernel_rfl) rfl ?_
                          refine WO.vals [(33, 120, (.bool true))] (by kernel_rfl) (fun _ => by kernel_rfl) ?_
                          have he := Option.some.inj hr3
                          subst j508
                          refine WO.weaken (fr' := [(1, (.slice a_p1 p1.length c_p1)), (5, (.pointer (some ⟨b1, 0, none⟩))), (8, (.pointer (some ⟨b_r10, 0, none⟩))), (9, (.pointer (some ⟨b_r16, 0, none⟩))), (11, (.int .i64 s452)), (12, (.int .i64 s453)), (120, (.bool true))]) (WO.meet ⟨I503, rfl, Mem.Le.refl _, hS507⟩) (Sub.cons rfl (Sub.cons rfl (Sub.cons rfl (Sub.cons rfl (Sub.cons rfl (Sub.cons rfl (Sub.cons rfl Sub.nil)))))))
                        · replace hr3 := cond_f hc hr3
                          refine WO.reslot 101 rfl (show Value.bool j501 = Value.bool false by rw [hc]) ?_
                          refine WO.vals [(15, 102, (.slice a_p1 p1.length c_p1)), (16, 103, (.int .i64 s453))] (by kernel_rfl) (fun _ => by kernel_rfl) ?_
                          obtain ⟨x512, hx_x512, hr3⟩ := bind_some hr3
                          obtain ⟨h0_x512, h1_x512, hx_x512⟩ := idx_some hx_x512
                          obtain ⟨ha_x512, cs_x512, hn_x512, hr_x512, hc_x512⟩ := ((RSl.mono h_p1 ((((((hl8.trans hl14).trans hl19).trans hl409).trans hl415).trans hl451).trans hl471))).el _ _ hx_x512
                          obtain rfl := hr_x512
                          refine WO.indexAddr (e := 29) (sz := 4) rfl (by kernel_rfl) (by kernel_rfl) (by kernel_rfl) rfl ha_x512 rfl h0_x512 h1_x512 ?_
                          refine WO.vals [(18, 105, (.pointer (some ⟨bl a_p1, of a_p1 + (s453).toNat * 4 + 1, none⟩)))] (by kernel_rfl) (fun _ => by kernel_rfl) ?_
                          refine WO.load rfl (by kernel_rfl) (by kernel_rfl) rfl (v := (.int .i64 x512.Who)) (fun w' hw' => hc_x512.cellk 1 (by kernel_rfl) ((rd_i (hS507.im.of_le hl504)) w' hw')) ?_
                          refine WO.vals [(20, 107, (.pointer (some ⟨b1, 1, none⟩)))] (by kernel_rfl) (fun _ => by kernel_rfl) ?_
                          refine WO.load rfl (by kernel_rfl) (by kernel_rfl) rfl (v := (.int .i64 p2.Who)) (fun w' hw' => cell_one ((rd_c (List.Mem.head _) (hS507.rd (List.Mem.head _))) w' hw') (by kernel_rfl)) ?_
                          refine WO.vals [(22, 109, (.bool (x512.Who == p2.Who))), (23, 110, (.bool (x512.Who == p2.Who)))] (by kernel_rfl) (fun _ => by kernel_rfl) ?_
                          obtain ⟨j513, hr4, hr3⟩ := bind_some hr3
                          refine WO.join (l1 := [24, 25, 26, 27, 28, 29, 30, 31, 32]) (l2 := [33]) (J := (fun fr w => ∃ (I515 : Mem), fr = [(1, (.slice a_p1 p1.length c_p1)), (5, (.pointer (some ⟨b1, 0, none⟩))), (8, (.pointer (some ⟨b_r10, 0, none⟩))), (9, (.pointer (some ⟨b_r16, 0, none⟩))), (11, (.int .i64 s452)), (12, (.int .i64 s453)), (101, (.bool false)), (119, (.bool j513))] ∧ I503.Le I515 ∧ St E w I515 ((one b1 (.cells (cs_registrarlaw26_Act p2).toArray 29 (0, 0))) :: (one b_r10 (.cells (cs_lru_Cache s454 w_s454).toArray 68 (0, 0))) :: (one b_r16 (.cells (cs_registrarref26_Cache s22 w_s22).toArray 59 (0, 0))) :: (w_s454.at_.C) :: Os))) ?restj513 ?waysj513
                          case waysj513 =>
                            refine WO.caseb (x512.Who == p2.Who) (fun hc => ?_) (fun hc => ?_)
                            · replace hr4 := cond_t hc hr4
                              refine WO.reslot 110 rfl (show Value.bool (x512.Who == p2.Who) = Value.bool true by rw [hc]) ?_
                              refine WO.vals [(24, 111, (.slice a_p1 p1.length c_p1)), (25, 112, (.int .i64 s453))] (by kernel_rfl) (fun _ => by kernel_rfl) ?_
                              obtain ⟨x517, hx_x517, hr4⟩ := bind_some hr4
                              obtain ⟨h0_x517, h1_x517, hx_x517⟩ := idx_some hx_x517
                              obtain ⟨ha_x517, cs_x517, hn_x517, hr_x517, hc_x517⟩ := ((RSl.mono h_p1 ((((((hl8.trans hl14).trans hl19).trans hl409).trans hl415).trans hl451).trans hl471))).el _ _ hx_x517
                              obtain rfl := hr_x517
                              refine WO.indexAddr (e := 29) (sz := 4) rfl (by kernel_rfl) (by kernel_rfl) (by kernel_rfl) rfl ha_x517 rfl h0_x517 h1_x517 ?_
                              refine WO.vals [(27, 114, (.pointer (some ⟨bl a_p1, of a_p1 + (s453).toNat * 4 + 2, none⟩)))] (by kernel_rfl) (fun _ => by kernel_rfl) ?_
                              refine WO.load rfl (by kernel_rfl) (by kernel_rfl) rfl (v := (.string x517.Name)) (fun w' hw' => hc_x517.cellk 2 (by kernel_rfl) ((rd_i (hS507.im.of_le hl504)) w' hw')) ?_
                              refine WO.vals [(29, 116, (.pointer (some ⟨b1, 2, none⟩)))] (by kernel_rfl) (fun _ => by kernel_rfl) ?_
                              refine WO.load rfl (by kernel_rfl) (by kernel_rfl) rfl (v := (.string p2.Name)) (fun w' hw' => cell_one ((rd_c (List.Mem.head _) (hS507.rd (List.Mem.head _))) w' hw') (by kernel_rfl)) ?_
                              refine WO.vals [(31, 118, (.bool (sEq x517.Name p2.Name))), (32, 119, (.bool (sEq x517.Name p2.Name)))] (by kernel_rfl) (fun _ => by kernel_rfl) ?_
                              have he := Option.some.inj hr4
                              subst j513
                              refine WO.weaken (fr' := [(1, (.slice a_p1 p1.length c_p1)), (5, (.pointer (some ⟨b1, 0, none⟩))), (8, (.pointer (some ⟨b_r10, 0, none⟩))), (9, (.pointer (some ⟨b_r16, 0, none⟩))), (11, (.int .i64 s452)), (12, (.int .i64 s453)), (101, (.bool false)), (119, (.bool (sEq x517.Name p2.Name)))]) (WO.meet ⟨I503, rfl, Mem.Le.refl _, hS507⟩) (Sub.cons rfl (Sub.cons rfl (Sub.cons rfl (Sub.cons rfl (Sub.cons rfl (Sub.cons rfl (Sub.cons rfl (Sub.cons rfl Sub.nil))))))))
                            · replace hr4 := cond_f hc hr4
                              refine WO.reslot 110 rfl (show Value.bool (x512.Who == p2.Who) = Value.bool false by rw [hc]) ?_
                              refine WO.pass rfl (by kernel_rfl) rfl ?_
                              refine WO.pass rfl (by kernel_rfl) rfl ?_
                              refine WO.pass rfl (by kernel_rfl) rfl ?_
                              refine WO.pass rfl (by kernel_rfl) rfl ?_
                              refine WO.pass rfl (by kernel_rfl) rfl ?_
                              refine WO.pass rfl (by kernel_rfl) rfl ?_
                              refine WO.pass rfl (by kernel_rfl) rfl ?_
                              refine WO.pass rfl (by kernel_rfl) rfl ?_
                              refine WO.vals [(32, 119, (.bool false))] (by kernel_rfl) (fun _ => by kernel_rfl) ?_
                              have he := Option.some.inj hr4
                              subst j513
                              refine WO.weaken (fr' := [(1, (.slice a_p1 p1.length c_p1)), (5, (.pointer (some ⟨b1, 0, none⟩))), (8, (.pointer (some ⟨b_r10, 0, none⟩))), (9, (.pointer (some ⟨b_r16, 0, none⟩))), (11, (.int .i64 s452)), (12, (.int .i64 s453)), (101, (.bool false)), (119, (.bool false))]) (WO.meet ⟨I503, rfl, Mem.Le.refl _, hS507⟩) (Sub.cons rfl (Sub.cons rfl (Sub.cons rfl (Sub.cons rfl (Sub.cons rfl (Sub.cons rfl (Sub.cons rfl (Sub.cons rfl Sub.nil))))))))
                          case restj513 =>
                            rintro _ w518 ⟨I515, rfl, hl516, hS519⟩
                            refine WO.vals [(33, 120, (.bool j513))] (by kernel_rfl) (fun _ => by kernel_rfl) ?_
                            have he := Option.some.inj hr3
                            subst j508
                            refine WO.weaken (fr' := [(1, (.slice a_p1 p1.length c_p1)), (5, (.pointer (some ⟨b1, 0, none⟩))), (8, (.pointer (some ⟨b_r10, 0, none⟩))), (9, (.pointer (some ⟨b_r16, 0, none⟩))), (11, (.int .i64 s452)), (12, (.int .i64 s453)), (120, (.bool j513))]) (WO.meet ⟨I515, rfl, hl516, hS519⟩) (Sub.cons rfl (Sub.cons rfl (Sub.cons rfl (Sub.cons rfl (Sub.cons rfl (Sub.cons rfl (Sub.cons rfl Sub.nil)))))))
                      case restj508 =>
                        rintro _ w520 ⟨I510, rfl, hl511, hS521⟩
                        refine WO.nil ?_
                        refine En.next ?_
                        refine W.cond (b := j508) rfl rfl (fun hc => ?_) (fun hc => ?_)
                        · replace hr2 := cond_t hc hr2
                          refine W.exit ?_
                          refine En.nx_exit ?_
                          refine En.in_hit ?_
                          refine En.weaken (fr' := [(1, (.slice a_p1 p1.length c_p1)), (5, (.pointer (some ⟨b1, 0, none⟩))), (8, (.pointer (some ⟨b_r10, 0, none⟩))), (9, (.pointer (some ⟨b_r16, 0, none⟩))), (11, (.int .i64 s452)), (12, (.int .i64 s453))]) (En.round ⟨s452, s454, I510, w_s454, Option.some.inj hr2, rfl, ((hl471.trans hl504).trans hl511), hS521, (h_s454.mono ((hl471.trans hl504).trans hl511))⟩) (Sub.cons rfl (Sub.cons rfl (Sub.cons rfl (Sub.cons rfl (Sub.cons rfl (Sub.cons rfl Sub.nil))))))
                        · replace hr2 := cond_f hc hr2
                          refine W.skip ?_
                          refine En.next ?_
                          refine W.seq ?_
                          refine W.region (l := [0, 1, 2]) (by kernel_rfl) ?_
                          refine WO.vals [(0, 121, (.int .i64 s452)), (1, 122, (.int .i64 (w64 (s452 + 1)))), (2, 11, (.int .i64 (w64 (s452 + 1))))] (by kernel_rfl) (fun _ => by kernel_rfl) ?_
                          refine WO.nil ?_
                          refine En.next ?_
                          refine W.seq ?_
                          refine W.region (l := [0, 1, 2, 3, 4, 5]) (by kernel_rfl) ?_
                          refine WO.vals [(0, 123, (.slice a_p1 p1.length c_p1)), (1, 124, (.int .i64 s453))] (by kernel_rfl) (fun _ => by kernel_rfl) ?_
                          obtain ⟨x524, hx_x524, hr2⟩ := bind_some hr2
                          obtain ⟨h0_x524, h1_x524, hx_x524⟩ := idx_some hx_x524
                          obtain ⟨ha_x524, cs_x524, hn_x524, hr_x524, hc_x524⟩ := ((RSl.mono h_p1 ((((((((hl8.trans hl14).trans hl19).trans hl409).trans hl415).trans hl451).trans hl471).trans hl504).trans hl511))).el _ _ hx_x524
                          obtain rfl := hr_x524
                          refine WO.indexAddr (e := 29) (sz := 4) rfl (by kernel_rfl) (by kernel_rfl) (by kernel_rfl) rfl ha_x524 rfl h0_x524 h1_x524 ?_
                          refine WO.vals [(3, 126, (.pointer (some ⟨bl a_p1, of a_p1 + (s453).toNat * 4, none⟩)))] (by kernel_rfl) (fun _ => by kernel_rfl) ?_
                          refine WO.load rfl (by kernel_rfl) (by kernel_rfl) rfl (v := (.int .i64 x524.Do)) (fun w' hw' => hc_x524.cell0 (by kernel_rfl) ((rd_f hS521.im) w' hw')) ?_
                          refine WO.vals [(5, 128, (.bool (x524.Do == 0)))] (by kernel_rfl) (fun _ => by kernel_rfl) ?_
                          refine WO.nil ?_
                          refine En.next ?_
                          obtain ⟨j525, hr3, hr2⟩ := bind_some hr2
                          refine W.join (J := (fun fr w => ∃ (I527 : Mem), ∃ (w_j525 : W_lru_Cache), fr = [(1, (.slice a_p1 p1.length c_p1)), (5, (.pointer (some ⟨b1, 0, none⟩))), (8, (.pointer (some ⟨b_r10, 0, none⟩))), (9, (.pointer (some ⟨b_r16, 0, none⟩))), (11, (.int .i64 (w64 (s452 + 1)))), (12, (.int .i64 s453))] ∧ I510.Le I527 ∧ St E w I527 ((one b1 (.cells (cs_registrarlaw26_Act p2).toArray 29 (0, 0))) :: (one b_r10 (.cells (cs_lru_Cache j525 w_j525).toArray 68 (0, 0))) :: (one b_r16 (.cells (cs_registrarref26_Cache s22 w_s22).toArray 59 (0, 0))) :: (w_j525.at_.C) :: Os) ∧ ok_lru_Cache I527 j525 w_j525)) ?restj525 ?waysj525
                          case waysj525 =>
                            refine W.cond (b := (x524.Do == 0)) rfl rfl (fun hc => ?_) (fun hc => ?_)
                            · replace hr3 := cond_t hc hr3
                              have hS529 := hS521.drew
                              refine W.draw (l := [0, 1, 2, 3, 4, 5, 6, 7, 8, 9, 10, 11, 12, 13, 14, 15, 16, 17, 18]) (by kernel_rfl) 18 (KR I510 []) qR (.back (by kernel_rfl)) (by kernel_rfl) (KR.nil hS529.im) ?_
                              generalize World.drew _ = w530 at *
                              refine WO.vals [(0, 129, (.pointer (some ⟨b_r10, 0, none⟩))), (1, 130, (.slice a_p1 p1.length c_p1)), (2, 131, (.int .i64 s453))] (by kernel_rfl) (fun _ => by kernel_rfl) ?_
                              obtain ⟨x531, hx_x531, hr3⟩ := bind_some hr3
                              obtain ⟨h0_x531, h1_x531, hx_x531⟩ := idx_some hx_x531
                              obtain ⟨ha_x531, cs_x531, hn_x531, hr_x531, hc_x531⟩ := ((RSl.mono h_p1 ((((((((hl8.trans hl14).trans hl19).trans hl409).trans hl415).trans hl451).trans hl471).trans hl504).trans hl511))).el _ _ hx_x531
                              obtain rfl := hr_x531
                              refine WO.indexAddr (e := 29) (sz := 4) rfl (by kernel_rfl) (by kernel_rfl) (by kernel_rfl) rfl ha_x531 rfl h0_x531 h1_x531 ?_
                              refine WO.vals [(4, 133, (.pointer (some ⟨bl a_p1, of a_p1 + (s453).toNat * 4 + 1, none⟩)))] (by kernel_rfl) (fun _ => by kernel_rfl) ?_
                              refine WO.load rfl (by kernel_rfl) (by kernel_rfl) rfl (v := (.int .i64 x531.Who)) (fun w' hw' => hc_x531.cellk 1 (by kernel_rfl) ((rd_i hS529.im) w' hw')) ?_
                              refine WO.vals [(6, 135, (.slice a_p1 p1.length c_p1)), (7, 136, (.int .i64 s453))] (by kernel_rfl) (fun _ => by kernel_rfl) ?_
                              obtain ⟨x532, hx_x532, hr3⟩ := bind_some hr3
                              obtain ⟨h0_x532, h1_x532, hx_x532⟩ := idx_some hx_x532
                              obtain ⟨ha_x532, cs_x532, hn_x532, hr_x532, hc_x532⟩ := ((RSl.mono h_p1 ((((((((hl8.trans hl14).trans hl19).trans hl409).trans hl415).trans hl451).trans hl471).trans hl504).trans hl511))).el _ _ hx_x532
                              obtain rfl := hr_x532
                              refine WO.indexAddr (e := 29) (sz := 4) rfl (by kernel_rfl) (by kernel_rfl) (by kernel_rfl) rfl ha_x532 rfl h0_x532 h1_x532 ?_
                              refine WO.vals [(9, 138, (.pointer (some ⟨bl a_p1, of a_p1 + (s453).toNat * 4 + 2, none⟩)))] (by kernel_rfl) (fun _ => by kernel_rfl) ?_
                              refine WO.load rfl (by kernel_rfl) (by kernel_rfl) rfl (v := (.string x532.Name)) (fun w' hw' => hc_x532.cellk 2 (by kernel_rfl) ((rd_i hS529.im) w' hw')) ?_
                              refine WO.vals [(11, 140, (.slice a_p1 p1.length c_p1)), (12, 141, (.int .i64 s453))] (by kernel_rfl) (fun _ => by kernel_rfl) ?_
                              obtain ⟨x533, hx_x533, hr3⟩ := bind_some hr3
                              obtain ⟨h0_x533, h1_x533, hx_x533⟩ := idx_some hx_x533
                              obtain ⟨ha_x533, cs_x533, hn_x533, hr_x533, hc_x533⟩ := ((RSl.mono h_p1 ((((((((hl8.trans hl14).trans hl19).trans hl409).trans hl415).trans hl451).trans hl471).trans hl504).trans hl511))).el _ _ hx_x533
                              obtain rfl := hr_x533
                              refine WO.indexAddr (e := 29) (sz := 4) rfl (by kernel_rfl) (by kernel_rfl) (by kernel_rfl) rfl ha_x533 rfl h0_x533 h1_x533 ?_
                              refine WO.vals [(14, 143, (.pointer (some ⟨bl a_p1, of a_p1 + (s453).toNat * 4 + 3, none⟩)))] (by kernel_rfl) (fun _ => by kernel_rfl) ?_
                              refine WO.load rfl (by kernel_rfl) (by kernel_rfl) rfl (v := (.string x533.Table)) (fun w' hw' => hc_x533.cellk 3 (by kernel_rfl) ((rd_i hS529.im) w' hw')) ?_
                              refine WO.vals [(16, 145, (.int .i64 s453))] (by kernel_rfl) (fun _ => by kernel_rfl) ?_
                              obtain ⟨r539, hx_r534, hr3⟩ := bind_some hr3
                              refine WO.call rfl (by kernel_rfl) rfl (f := 13) (args := #[(.string x533.Table), (.int .i64 s453)]) (by kernel_rfl) (registrarlaw26_made_ok  hS529 hx_r534) ?_
                              rintro _ w535 ⟨I536, w_r539, rfl, hl537, hS538, h_r539⟩
                              refine ⟨_, rfl, (KR.nil (hS538.im.of_le hl537)), ?_⟩
                              refine WO.tail rfl ?_
                              have hS540 := hS538.front3
                              have hS541 := hS540.front2
                              obtain ⟨⟨r547, r548⟩, hx_r542, hr3⟩ := bind_some hr3
                              refine WO.call rfl (by kernel_rfl) rfl (f := 12) (args := #[(.pointer (some ⟨b_r10, 0, none⟩)), (.int .i64 x531.Who), (.string x532.Name), (.agg (cs_plan_Plan r539 w_r539).toArray)]) (by kernel_rfl) (lru_Cache_Put_ok (h_s454.mono (((hl471.trans hl504).trans hl511).trans hl537)) h_r539 hS541 hx_r542) ?_
                              rintro _ w543 ⟨I544, w_r548, rfl, hl545, hS546, h_r548⟩
                              refine ⟨_, rfl, trivial, ?_⟩
                              refine WO.nil ?_
                              have hS549 := hS546.front1
                              have hS550 := hS549.front3
                              have hS551 := hS550.front2
                              have hS552 := hS551.front3
                              have he := Option.some.inj hr3
                              subst j525
                              refine En.weaken (fr' := [(1, (.slice a_p1 p1.length c_p1)), (5, (.pointer (some ⟨b1, 0, none⟩))), (8, (.pointer (some ⟨b_r10, 0, none⟩))), (9, (.pointer (some ⟨b_r16, 0, none⟩))), (11, (.int .i64 (w64 (s452 + 1)))), (12, (.int .i64 s453))]) (En.round ⟨I544, w_r548, rfl, (hl537.trans hl545), hS552, h_r548⟩) (Sub.cons rfl (Sub.cons rfl (Sub.cons rfl (Sub.cons rfl (Sub.cons rfl (Sub.cons rfl Sub.nil))))))
                            · replace hr3 := cond_f hc hr3
                              have hS553 := hS521.drew
                              refine W.draw (l := [0, 1, 2, 3, 4, 5, 6, 7, 8, 9, 10, 11]) (by kernel_rfl) 11 (KR I510 []) qR (.back (by kernel_rfl)) (by kernel_rfl) (KR.nil hS553.im) ?_
                              generalize World.drew _ = w554 at *
                              refine WO.vals [(0, 148, (.pointer (some ⟨b_r10, 0, none⟩))), (1, 149, (.slice a_p1 p1.length c_p1)), (2, 150, (.int .i64 s453))] (by kernel_rfl) (fun _ => by kernel_rfl) ?_
                              obtain ⟨x555, hx_x555, hr3⟩ := bind_some hr3
                              obtain ⟨h0_x555, h1_x555, hx_x555⟩ := idx_some hx_x555
                              obtain ⟨ha_x555, cs_x555, hn_x555, hr_x555, hc_x555⟩ := ((RSl.mono h_p1 ((((((((hl8.trans hl14).trans hl19).trans hl409).trans hl415).trans hl451).trans hl471).trans hl504).trans hl511))).el _ _ hx_x555
                              obtain rfl := hr_x555
                              refine WO.indexAddr (e := 29) (sz := 4) rfl (by kernel_rfl) (by kernel_rfl) (by kernel_rfl) rfl ha_x555 rfl h0_x555 h1_x555 ?_
                              refine WO.vals [(4, 152, (.pointer (some ⟨bl a_p1, of a_p1 + (s453).toNat * 4 + 1, none⟩)))] (by kernel_rfl) (fun _ => by kernel_rfl) ?_
                              refine WO.load rfl (by kernel_rfl) (by kernel_rfl) rfl (v := (.int .i64 x555.Who)) (fun w' hw' => hc_x555.cellk 1 (by kernel_rfl) ((rd_i hS553.im) w' hw')) ?_
                              refine WO.vals [(6, 154, (.slice a_p1 p1.length c_p1)), (7, 155, (.int .i64 s453))] (by kernel_rfl) (fun _ => by kernel_rfl) ?_
                              obtain ⟨x556, hx_x556, hr3⟩ := bind_some hr3
                              obtain ⟨h0_x556, h1_x556, hx_x556⟩ := idx_some hx_x556
                              obtain ⟨ha_x556, cs_x556, hn_x556, hr_x556, hc_x556⟩ := ((RSl.mono h_p1 ((((((((hl8.trans hl14).trans hl19).trans hl409).trans hl415).trans hl451).trans hl471).trans hl504).trans hl511))).el _ _ hx_x556
                              obtain rfl := hr_x556
                              refine WO.indexAddr (e := 29) (sz := 4) rfl (by kernel_rfl) (by kernel_rfl) (by kernel_rfl) rfl ha_x556 rfl h0_x556 h1_x556 ?_
                              refine WO.vals [(9, 157, (.pointer (some ⟨bl a_p1, of a_p1 + (s453).toNat * 4 + 2, none⟩)))] (by kernel_rfl) (fun _ => by kernel_rfl) ?_
                              refine WO.load rfl (by kernel_rfl) (by kernel_rfl) rfl (v := (.string x556.Name)) (fun w' hw' => hc_x556.cellk 2 (by kernel_rfl) ((rd_i hS553.im) w' hw')) ?_
                              refine WO.tail rfl ?_
                              have hS557 := hS553.front3
                              have hS558 := hS557.front2
                              obtain ⟨⟨r564, r565, r566⟩, hx_r559, hr3⟩ := bind_some hr3
                              refine WO.call rfl (by kernel_rfl) rfl (f := 14) (args := #[(.pointer (some ⟨b_r10, 0, none⟩)), (.int .i64 x555.Who), (.string x556.Name)]) (by kernel_rfl) (lru_Cache_Get_ok (h_s454.mono ((hl471.trans hl504).trans hl511)) hS558 hx_r559) ?_
                              rintro _ w560 ⟨I561, w_r564, w_r566, rfl, hl562, hS563, h_r564, h_r566⟩
                              refine ⟨_, rfl, trivial, ?_⟩
                              refine WO.nil ?_
                              have hS567 := hS563.front1
                              have hS568 := hS567.front3
                              have hS569 := hS568.front2
                              have hS570 := hS569.front3
                              have he := Option.some.inj hr3
                              subst j525
                              refine En.weaken (fr' := [(1, (.slice a_p1 p1.length c_p1)), (5, (.pointer (some ⟨b1, 0, none⟩))), (8, (.pointer (some ⟨b_r10, 0, none⟩))), (9, (.pointer (some ⟨b_r16, 0, none⟩))), (11, (.int .i64 (w64 (s452 + 1)))), (12, (.int .i64 s453))]) (En.round ⟨I561, w_r566, rfl, hl562, hS570, h_r566⟩) (Sub.cons rfl (Sub.cons rfl (Sub.cons rfl (Sub.cons rfl (Sub.cons rfl (Sub.cons rfl Sub.nil))))))
                          case restj525 =>
                            rintro _ w571 ⟨I527, w_j525, rfl, hl528, hS572, h_j525⟩
                            refine En.in_normal ?_
                            refine En.weaken (fr' := [(1, (.slice a_p1 p1.length c_p1)), (5, (.pointer (some ⟨b1, 0, none⟩))), (8, (.pointer (some ⟨b_r10, 0, none⟩))), (9, (.pointer (some ⟨b_r16, 0, none⟩))), (11, (.int .i64 (w64 (s452 + 1)))), (12, (.int .i64 s453))]) (En.round ⟨(w64 (s452 + 1)), j525, I527, w_j525, Option.some.inj hr2, rfl, (((hl471.trans hl504).trans hl511).trans hl528), hS572, h_j525⟩) (Sub.cons rfl (Sub.cons rfl (Sub.cons rfl (Sub.cons rfl (Sub.cons rfl (Sub.cons rfl Sub.nil))))))
                case restj463 =>
                  rintro _ w573 ⟨s522, s523, I465, w_s523, rfl, rfl, hl466, hS574, h_s523⟩
                  refine En.next ?_
                  refine W.region (l := [0, 1, 2]) (by kernel_rfl) ?_
                  refine WO.vals [(0, 79, (.int .i64 s453)), (1, 80, (.int .i64 (w64 (s453 + 1)))), (2, 12, (.int .i64 (w64 (s453 + 1))))] (by kernel_rfl) (fun _ => by kernel_rfl) ?_
                  refine WO.nil ?_
                  refine En.weaken (fr' := [(1, (.slice a_p1 p1.length c_p1)), (5, (.pointer (some ⟨b1, 0, none⟩))), (8, (.pointer (some ⟨b_r10, 0, none⟩))), (9, (.pointer (some ⟨b_r16, 0, none⟩))), (11, (.int .i64 s522)), (12, (.int .i64 (w64 (s453 + 1))))]) (En.round ⟨(s522, (w64 (s453 + 1)), s523), (Option.some.inj hr1).symm, I465, w_s523, rfl, (hl451.trans hl466), hS574, h_s523⟩) (Sub.cons rfl (Sub.cons rfl (Sub.cons rfl (Sub.cons rfl (Sub.cons rfl (Sub.cons rfl Sub.nil))))))
              · replace hr1 := cond_f hc hr1
                refine W.exit ?_
                refine En.nx_exit ?_
                refine En.rd_exit ?_
                have ht := hext449 _ (Option.some.inj hr1).symm
                subst t449
                refine En.in_hit ?_
                refine En.next ?_
                refine W.seq ?_
                refine W.region (l := [0, 1, 2, 3, 4, 5, 6, 7, 8, 9, 10, 11]) (by kernel_rfl) ?_
                refine WO.vals [(0, 161, (.pointer (some ⟨b_r10, 0, none⟩))), (1, 162, (.pointer (some ⟨b1, 1, none⟩)))] (by kernel_rfl) (fun _ => by kernel_rfl) ?_
                refine WO.load rfl (by kernel_rfl) (by kernel_rfl) rfl (v := (.int .i64 p2.Who)) (fun w' hw' => cell_one ((rd_f (hS457.rd (List.Mem.head _))) w' hw') (by kernel_rfl)) ?_
                refine WO.vals [(3, 164, (.pointer (some ⟨b1, 2, none⟩)))] (by kernel_rfl) (fun _ => by kernel_rfl) ?_
                refine WO.load rfl (by kernel_rfl) (by kernel_rfl) rfl (v := (.string p2.Name)) (fun w' hw' => cell_one ((rd_f (hS457.rd (List.Mem.head _))) w' hw') (by kernel_rfl)) ?_
                have hS652 := hS457.front3
                have hS653 := hS652.front2
                obtain ⟨⟨r659, r660, r661⟩, hx_r654, hr⟩ := bind_some hr
                refine WO.call rfl (by kernel_rfl) rfl (f := 14) (args := #[(.pointer (some ⟨b_r10, 0, none⟩)), (.int .i64 p2.Who), (.string p2.Name)]) (by kernel_rfl) (lru_Cache_Get_ok h_s454 hS653 hx_r654) ?_
                rintro _ w655 ⟨I656, w_r659, w_r661, rfl, hl657, hS658, h_r659, h_r661⟩
                refine ⟨_, rfl, trivial, ?_⟩
                refine WO.vals [(6, 160, (.tuple #[(.agg (cs_plan_Plan r659 w_r659).toArray), (.bool r660)])), (7, 167, (.agg (cs_plan_Plan r659 w_r659).toArray)), (8, 168, (.bool r660))] (by kernel_rfl) (fun _ => by kernel_rfl) ?_
                refine WO.new hS658 rfl (by kernel_rfl) rfl (.cells (cs_plan_Plan z_plan_Plan zw_plan_Plan).toArray 55 (0, 0)) (fun b => .pointer (some ⟨b, 0, none⟩)) (by kernel_rfl) (fun _ _ _ => trivial) ?_
                intro b662 w665 hS664
                refine WO.storeBox hS664 rfl (by kernel_rfl) rfl 0 rfl rfl (by kernel_rfl) (all_one (rel := R_plan_Plan) (I := I656) (x := r659) ⟨w_r659, rfl, h_r659⟩) (by kernel_rfl) ((cs_plan_Plan r659 w_r659).toArray) (by kernel_rfl) (fun _ _ => trivial) ?_
                intro w667 hS666
                refine WO.vals [(11, 14, (.bool r660))] (by kernel_rfl) (fun _ => by kernel_rfl) ?_
                refine WO.nil ?_
                refine En.next ?_
                refine W.seq ?_
                have hS668 := hS666.drew
                refine W.draw (l := [0, 1, 2, 3, 4, 5, 6, 7, 8, 9, 10, 11, 12, 13, 14, 15, 16, 17, 18, 19]) (by kernel_rfl) 16 (KR I656 [one b662 (.cells (cs_plan_Plan r659 w_r659).toArray 55 (0, 0)), one b_r16 (.cells (cs_registrarref26_Cache s22 w_s22).toArray 59 (0, 0))]) qR (.back (by kernel_rfl)) (by kernel_rfl) (KR.cons (hS668.rd (List.Mem.head _)) (KR.cons (hS668.rd (List.Mem.tail _ (List.Mem.tail _ (List.Mem.tail _ (List.Mem.tail _ (List.Mem.head _)))))) (KR.nil hS668.im))) ?_
                generalize World.drew _ = w669 at *
                refine WO.vals [(0, 169, (.bool r660)), (1, 170, (.bool r660))] (by kernel_rfl) (fun _ => by kernel_rfl) ?_
                obtain ⟨j670, hr1, hr⟩ := bind_some hr
                refine WO.join (l1 := [2, 3, 4, 5]) (l2 := [6, 7, 8, 9, 10, 11, 12, 13, 14, 15, 16, 17, 18, 19]) (J := (fun fr w => ∃ (I672 : Mem), fr = [(8, (.pointer (some ⟨b_r10, 0, none⟩))), (9, (.pointer (some ⟨b_r16, 0, none⟩))), (174, (.bool j670))] ∧ I656.Le I672 ∧ St E w I672 ((one b_r10 (.cells (cs_lru_Cache r661 w_r661).toArray 68 (0, 0))) :: (one b_r16 (.cells (cs_registrarref26_Cache s22 w_s22).toArray 59 (0, 0))) :: (one b662 (.cells (cs_plan_Plan r659 w_r659).toArray 55 (0, 0))) :: (w_r661.at_.C) :: Os))) ?restj670 ?waysj670
                case waysj670 =>
                  refine WO.caseb r660 (fun hc => ?_) (fun hc => ?_)
                  · replace hr1 := cond_t hc hr1
                    refine WO.reslot 170 rfl (show Value.bool r660 = Value.bool true by rw [hc]) ?_
                    refine WO.loadN rfl (by kernel_rfl) (by kernel_rfl) rfl ((cs_plan_Plan r659 w_r659)) (by kernel_rfl) (fun w' hw' => cells_one ((rd_c (List.Mem.head _) (hS668.rd (List.Mem.head _))) w' hw') (by kernel_rfl)) ?_
                    obtain ⟨r679, hx_r674, hr1⟩ := bind_some hr1
                    refine WO.call rfl (by kernel_rfl) rfl (f := 15) (args := #[(.agg (cs_plan_Plan r659 w_r659).toArray)]) (by kernel_rfl) (registrarlaw26_mark_ok h_r659 hS668 hx_r674) ?_
                    rintro _ w675 ⟨I676, rfl, hl677, hS678⟩
                    refine ⟨_, rfl, (KR.cons (hS678.rd (List.Mem.head _)) (KR.cons (hS678.rd (List.Mem.tail _ (List.Mem.tail _ (List.Mem.tail _ (List.Mem.tail _ (List.Mem.head _)))))) (KR.nil (hS678.im.of_le hl677)))), ?_⟩
                    refine WO.vals [(4, 173, (.bool (r679 == 77))), (5, 174, (.bool (r679 == 77)))] (by kernel_rfl) (fun _ => by kernel_rfl) ?_
                    have hS680 := hS678.front3
                    have hS681 := hS680.drop
                    have hS682 := hS681.front2
                    have hS683 := hS682.front1
                    have hS684 := hS683.front3
                    have hS685 := hS684.front3
                    have he := Option.some.inj hr1
                    subst j670
                    refine WO.weaken (fr' := [(8, (.pointer (some ⟨b_r10, 0, none⟩))), (9, (.pointer (some ⟨b_r16, 0, none⟩))), (174, (.bool (r679 == 77)))]) (WO.meet ⟨I676, rfl, hl677, hS685⟩) (Sub.cons rfl (Sub.cons rfl (Sub.cons rfl Sub.nil)))
                  · replace hr1 := cond_f hc hr1
                    refine WO.reslot 170 rfl (show Value.bool r660 = Value.bool false by rw [hc]) ?_
                    refine WO.pass rfl (by kernel_rfl) rfl ?_
                    refine WO.pass rfl (by kernel_rfl) rfl ?_
                    refine WO.pass rfl (by kernel_rfl) rfl ?_
                    refine WO.vals [(5, 174, (.bool false))] (by kernel_rfl) (fun _ => by kernel_rfl) ?_
                    have hS686 := hS668.front3
                    have hS687 := hS686.drop
                    have hS688 := hS687.front2
                    have hS689 := hS688.front1
                    have hS690 := hS689.front3
                    have hS691 := hS690.front3
                    have he := Option.some.inj hr1
                    subst j670
                    refine WO.weaken (fr' := [(8, (.pointer (some ⟨b_r10, 0, none⟩))), (9, (.pointer (some ⟨b_r16, 0, none⟩))), (174, (.bool false))]) (WO.meet ⟨I656, rfl, Mem.Le.refl _, hS691⟩) (Sub.cons rfl (Sub.cons rfl (Sub.cons rfl Sub.nil)))
                case restj670 =>
                  rintro _ w692 ⟨I672, rfl, hl673, hS693⟩
                  refine WO.vals [(6, 175, (.bool j670))] (by kernel_rfl) (fun _ => by kernel_rfl) ?_
                  obtain ⟨j694, hr1, hr⟩ := bind_some hr
                  refine WO.join (l1 := [7, 8, 9, 10, 11, 12, 13, 14, 15]) (l2 := [16, 17, 18, 19]) (J := (fun fr w => ∃ (I696 : Mem), fr = [(184, (.bool j694))] ∧ I672.Le I696 ∧ St E w I696 ((one b_r16 (.cells (cs_registrarref26_Cache s22 w_s22).toArray 59 (0, 0))) :: (one b662 (.cells (cs_plan_Plan r659 w_r659).toArray 55 (0, 0))) :: Os))) ?restj694 ?waysj694
                  case waysj694 =>
                    refine WO.caseb j670 (fun hc => ?_) (fun hc => ?_)
                    · replace hr1 := cond_t hc hr1
                      refine WO.reslot 175 rfl (show Value.bool j670 = Value.bool true by rw [hc]) ?_
                      refine WO.vals [(7, 176, (.pointer (some ⟨b_r10, 0, none⟩)))] (by kernel_rfl) (fun _ => by kernel_rfl) ?_
                      have hS698 := hS693.front3
                      have hS699 := hS698.front1
                      obtain ⟨r705, hx_r700, hr1⟩ := bind_some hr1
                      refine WO.call rfl (by kernel_rfl) rfl (f := 16) (args := #[(.pointer (some ⟨b_r10, 0, none⟩))]) (by kernel_rfl) (lru_Cache_All_ok (h_r661.mono hl673) hS699 hx_r700) ?_
                      rintro _ w701 ⟨I702, a_r705, c_r705, rfl, hl703, hS704, h_r705⟩
                      refine ⟨_, rfl, (KR.cons (hS704.rd (List.Mem.tail _ (List.Mem.tail _ (List.Mem.tail _ (List.Mem.head _))))) (KR.cons (hS704.rd (List.Mem.tail _ (List.Mem.tail _ (List.Mem.head _)))) (KR.nil (hS704.im.of_le (hl673.trans hl703))))), ?_⟩
                      refine WO.vals [(9, 178, (.int .i64 (r705.length : Int))), (10, 179, (.pointer (some ⟨b_r16, 0, none⟩))), (11, 180, (.pointer (some ⟨b_r16, 0, none⟩))), (12, 181, (.pointer (some ⟨b_r16, 1, none⟩)))] (by kernel_rfl) (fun _ => by kernel_rfl) ?_
                      refine WO.load rfl (by kernel_rfl) (by kernel_rfl) rfl (v := (.int .i64 s22.Most)) (fun w' hw' => cell_one ((rd_c (List.Mem.tail _ (List.Mem.head _)) (hS704.rd (List.Mem.tail _ (List.Mem.tail _ (List.Mem.head _))))) w' hw') (by kernel_rfl)) ?_
                      refine WO.vals [(14, 183, (.bool (decide ((r705.length : Int) ≤ s22.Most)))), (15, 184, (.bool (decide ((r705.length : Int) ≤ s22.Most))))] (by kernel_rfl) (fun _ => by kernel_rfl) ?_
                      have hS706 := hS704.drop
                      have hS707 := hS706.drop
                      have he := Option.some.inj hr1
                      subst j694
                      refine WO.weaken (fr' := [(184, (.bool (decide ((r705.length : Int) ≤ s22.Most))))]) (WO.meet ⟨I702, rfl, hl703, hS707⟩) (Sub.cons rfl Sub.nil)
                    · replace hr1 := cond_f hc hr1
                      refine WO.reslot 175 rfl (show Value.bool j670 = Value.bool false by rw [hc]) ?_
                      refine WO.pass rfl (by kernel_rfl) rfl ?_
                      refine WO.pass rfl (by kernel_rfl) rfl ?_
                      refine WO.pass rfl (by kernel_rfl) rfl ?_
                      refine WO.pass rfl (by kernel_rfl) rfl ?_
                      refine WO.pass rfl (by kernel_rfl) rfl ?_
                      refine WO.pass rfl (by kernel_rfl) rfl ?_
                      refine WO.pass rfl (by kernel_rfl) rfl ?_
                      refine WO.pass rfl (by kernel_rfl) rfl ?_
                      refine WO.vals [(15, 184, (.bool false))] (by kernel_rfl) (fun _ => by kernel_rfl) ?_
                      have hS708 := hS693.drop
                      have hS709 := hS708.front2
                      have hS710 := hS709.drop
                      have he := Option.some.inj hr1
                      subst j694
                      refine WO.weaken (fr' := [(184, (.bool false))]) (WO.meet ⟨I672, rfl, Mem.Le.refl _, hS710⟩) (Sub.cons rfl Sub.nil)
                  case restj694 =>
                    rintro _ w711 ⟨I696, rfl, hl697, hS712⟩
                    refine WO.tail rfl ?_
                    refine WO.vals [(16, 185, (.bool j694))] (by kernel_rfl) (fun _ => by kernel_rfl) ?_
                    obtain ⟨j713, hr1, hr⟩ := bind_some hr
                    refine WO.join (l1 := [17, 18]) (l2 := [19]) (J := (fun fr w => ∃ (I715 : Mem), fr = [(187, (.bool j713))] ∧ I696.Le I715 ∧ St E w I715 ((one b_r16 (.cells (cs_registrarref26_Cache s22 w_s22).toArray 59 (0, 0))) :: (one b662 (.cells (cs_plan_Plan r659 w_r659).toArray 55 (0, 0))) :: Os))) ?restj713 ?waysj713
                    case waysj713 =>
                      refine WO.caseb j694 (fun hc => ?_) (fun hc => ?_)
                      · replace hr1 := cond_t hc hr1
                        refine WO.reslot 185 rfl (show Value.bool j694 = Value.bool true by rw [hc]) ?_
                        obtain ⟨r722, hx_r717, hr1⟩ := bind_some hr1
                        refine WO.call rfl (by kernel_rfl) rfl (f := 9) (args := #[]) (by kernel_rfl) (registrarlaw26_works_ok  hS712 hx_r717) ?_
                        rintro _ w718 ⟨I719, rfl, hl720, hS721⟩
                        refine ⟨_, rfl, trivial, ?_⟩
                        refine WO.vals [(18, 187, (.bool r722))] (by kernel_rfl) (fun _ => by kernel_rfl) ?_
                        have he := Option.some.inj hr1
                        subst j713
                        refine WO.weaken (fr' := [(187, (.bool r722))]) (WO.meet ⟨I719, rfl, hl720, hS721⟩) (Sub.cons rfl Sub.nil)
                      · replace hr1 := cond_f hc hr1
                        refine WO.reslot 185 rfl (show Value.bool j694 = Value.bool false by rw [hc]) ?_
                        refine WO.pass rfl (by kernel_rfl) rfl ?_
                        refine WO.vals [(18, 187, (.bool false))] (by kernel_rfl) (fun _ => by kernel_rfl) ?_
                        have he := Option.some.inj hr1
                        subst j713
                        refine WO.weaken (fr' := [(187, (.bool false))]) (WO.meet ⟨I696, rfl, Mem.Le.refl _, hS712⟩) (Sub.cons rfl Sub.nil)
                    case restj713 =>
                      rintro _ w723 ⟨I715, rfl, hl716, hS724⟩
                      refine WO.vals [(19, 6, (.bool j713))] (by kernel_rfl) (fun _ => by kernel_rfl) ?_
                      refine WO.nil ?_
                      refine En.next ?_
                      refine W.ret ?_
                      have hS725 := hS724.drop
                      have hS726 := hS725.drop
                      have he := Option.some.inj hr
                      subst r
                      exact En.ret1 rfl (.bool j713) rfl ⟨I715, rfl, (((((((((hl8.trans hl14).trans hl19).trans hl409).trans hl415).trans hl451).trans hl657).trans hl673).trans hl697).trans hl716), hS726⟩
def lru_Cache_dead_nil  : Option Bool := some true
set_option maxHeartbeats 1000000 in
theorem lru_Cache_dead_nil_ok {E w : World} {I : Mem} {Os : List Mem} (hS : St E w I Os) {r : Bool} (hr : lru_Cache_dead_nil = some r) :
    Calls P 25 #[(.pointer none)] w (fun e w' => ∃ (I' : Mem), e = .returned (.bool r) ∧ I.Le I' ∧ St E w' I' Os) := by
  refine calls_W (args := [(.pointer none)]) (fn := Try.f25) rfl rfl rfl ?_
  unfold lru_Cache_dead_nil at hr
  refine W.seq ?_
  refine W.region (l := [0]) (by kernel_rfl) ?_
  refine WO.vals [(0, 2, (.bool false))] (by kernel_rfl) (fun _ => by kernel_rfl) ?_
  refine WO.nil ?_
  refine En.next ?_
  refine W.seq ?_
  refine W.region (l := [0, 1, 2, 3, 4, 5, 6, 7, 8, 9]) (by kernel_rfl) ?_
  refine WO.vals [(0, 3, (.pointer none)), (1, 4, (.bool true)), (2, 5, (.bool true))] (by kernel_rfl) (fun _ => by kernel_rfl) ?_
  refine WO.pass rfl (by kernel_rfl) rfl ?_
  refine WO.pass rfl (by kernel_rfl) rfl ?_
  refine WO.pass rfl (by kernel_rfl) rfl ?_
  refine WO.pass rfl (by kernel_rfl) rfl ?_
  refine WO.pass rfl (by kernel_rfl) rfl ?_
  refine WO.vals [(8, 11, (.bool true)), (9, 2, (.bool true))] (by kernel_rfl) (fun _ => by kernel_rfl) ?_
  refine WO.nil ?_
  refine En.next ?_
  refine W.ret ?_
  have he := Option.some.inj hr
  subst r
  exact En.ret1 rfl (.bool true) rfl ⟨I, rfl, Mem.Le.refl _, hS⟩
def lru_Cache_Get_nil (p1 : Int) (p2 : ByteArray) : Option (plan_Plan × Bool) := (lru_Cache_dead_nil).bind (fun (r16 : Bool) => some (z_plan_Plan, false))
set_option maxHeartbeats 1000000 in
theorem lru_Cache_Get_nil_ok {E w : World} {I : Mem} {Os : List Mem} {p1 : Int} {p2 : ByteArray} (hS : St E w I Os) {r : plan_Plan × Bool} (hr : lru_Cache_Get_nil p1 p2 = some r) :
    Calls P 14 #[(.pointer none), (.int .i64 p1), (.string p2)] w (fun e w' => ∃ (I' : Mem) (w_rw0 : W_plan_Plan), e = .returned (.tuple #[(.agg (cs_plan_Plan r.1 w_rw0).toArray), (.bool r.2)]) ∧ I.Le I' ∧ St E w' I' Os ∧ ok_plan_Plan I' r.1 w_rw0) := by
  refine calls_W (args := [(.pointer none), (.int .i64 p1), (.string p2)]) (fn := Try.f14) rfl rfl rfl ?_
  unfold lru_Cache_Get_nil at hr
  refine W.seq ?_
  refine W.region (l := [0, 1]) (by kernel_rfl) ?_
  refine WO.new hS rfl (by kernel_rfl) rfl (.cells (cs_plan_Plan z_plan_Plan zw_plan_Plan).toArray 55 (0, 0)) (fun b => .pointer (some ⟨b, 0, none⟩)) (by kernel_rfl) (fun _ _ _ => trivial) ?_
  intro b1 w4 hS3
  refine WO.vals [(1, 7, (.bool false))] (by kernel_rfl) (fun _ => by kernel_rfl) ?_
  refine WO.nil ?_
  refine En.next ?_
  refine W.seq ?_
  refine W.region (l := [0, 1, 2, 3, 4]) (by kernel_rfl) ?_
  refine WO.vals [(0, 11, (.int .i64 p1)), (1, 12, (.string p2)), (2, 13, (.agg (cs_lru_Entry (⟨p1, p2⟩ : lru_Entry)).toArray))] (by kernel_rfl) (fun _ => by kernel_rfl) ?_
  refine WO.new hS3 rfl (by kernel_rfl) rfl (.cells (cs_lru_Entry z_lru_Entry).toArray 74 (0, 0)) (fun b => .pointer (some ⟨b, 0, none⟩)) (by kernel_rfl) (fun _ _ _ => trivial) ?_
  intro b5 w8 hS7
  refine WO.storeBox hS7 rfl (by kernel_rfl) rfl 0 rfl rfl (by kernel_rfl) (by kernel_rfl) (by kernel_rfl) ((cs_lru_Entry (⟨p1, p2⟩ : lru_Entry)).toArray) (by kernel_rfl) (fun _ _ => trivial) ?_
  intro w10 hS9
  refine WO.nil ?_
  refine En.next ?_
  refine W.seq ?_
  refine W.seq ?_
  refine W.region (l := [0, 1, 2, 3, 4, 5]) (by kernel_rfl) ?_
  refine WO.vals [(0, 14, (.pointer none))] (by kernel_rfl) (fun _ => by kernel_rfl) ?_
  obtain ⟨r16, hx_r11, hr⟩ := bind_some hr
  obtain rfl : true = r16 := Option.some.inj hx_r11
  refine WO.call rfl (by kernel_rfl) rfl (f := 25) (args := #[(.pointer none)]) (by kernel_rfl) (lru_Cache_dead_nil_ok  hS9 hx_r11) ?_
  rintro _ w12 ⟨I13, rfl, hl14, hS15⟩
  refine ⟨_, rfl, trivial, ?_⟩
  refine WO.vals [(2, 16, (.bool true))] (by kernel_rfl) (fun _ => by kernel_rfl) ?_
  refine WO.pass rfl (by kernel_rfl) rfl ?_
  refine WO.pass rfl (by kernel_rfl) rfl ?_
  refine WO.vals [(5, 19, (.bool true))] (by kernel_rfl) (fun _ => by kernel_rfl) ?_
  refine WO.nil ?_
  refine En.next ?_
  refine W.cond (b := true) rfl rfl (fun hc => ?_) (fun hc => ?_)
  rotate_left
  · cases hc
  clear hc
  refine W.seq ?_
  refine W.region (l := [0, 1, 2]) (by kernel_rfl) ?_
  refine WO.vals [(0, 20, (.agg (cs_plan_Plan z_plan_Plan zw_plan_Plan).toArray))] (by kernel_rfl) (fun _ => by kernel_rfl) ?_
  have hS17 := hS15.front1
  refine WO.storeBox hS17 rfl (by kernel_rfl) rfl 0 rfl rfl (by kernel_rfl) (all_one (rel := R_plan_Plan) (I := I13) (x := z_plan_Plan) ⟨zw_plan_Plan, rfl, zok_plan_Plan⟩) (by kernel_rfl) ((cs_plan_Plan z_plan_Plan zw_plan_Plan).toArray) (by kernel_rfl) (fun _ _ => trivial) ?_
  intro w19 hS18
  refine WO.vals [(2, 7, (.bool false))] (by kernel_rfl) (fun _ => by kernel_rfl) ?_
  refine WO.nil ?_
  refine En.next ?_
  refine W.ret ?_
  refine En.nx_ret ?_
  have hS20 := hS18.drop
  have hS21 := hS20.drop
  have he := Option.some.inj hr
  subst r
  exact En.retc2 rfl (.agg (cs_plan_Plan z_plan_Plan zw_plan_Plan).toArray) (.bool false) ⟨_, _, rfl, run_loadVarN (cs := (cs_plan_Plan z_plan_Plan zw_plan_Plan)) (by kernel_rfl) (by kernel_rfl) (cells_one (hS18.rd (List.Mem.head _)) (by kernel_rfl))⟩ rfl ⟨I13, zw_plan_Plan, rfl, hl14, hS21, zok_plan_Plan⟩
def lru_Cache_Put_nil (p1 : Int) (p2 : ByteArray) (p3 : plan_Plan) : Option Int := (lru_Cache_dead_nil).bind (fun (r10 : Bool) => some 1)
set_option maxHeartbeats 1000000 in
theorem lru_Cache_Put_nil_ok {E w : World} {I : Mem} {Os : List Mem} {p1 : Int} {p2 : ByteArray} {p3 : plan_Plan} {w_p3 : W_plan_Plan} (h_p3 : ok_plan_Plan I p3 w_p3) (hS : St E w I Os) {r : Int} (hr : lru_Cache_Put_nil p1 p2 p3 = some r) :
    Calls P 12 #[(.pointer none), (.int .i64 p1), (.string p2), (.agg (cs_plan_Plan p3 w_p3).toArray)] w (fun e w' => ∃ (I' : Mem), e = .returned (.int .i64 r) ∧ I.Le I' ∧ St E w' I' Os) := by
  refine calls_W (args := [(.pointer none), (.int .i64 p1), (.string p2), (.agg (cs_plan_Plan p3 w_p3).toArray)]) (fn := Try.f12) rfl rfl rfl ?_
  unfold lru_Cache_Put_nil at hr
  refine W.seq ?_
  refine W.region (l := [0, 1]) (by kernel_rfl) ?_
  refine WO.new hS rfl (by kernel_rfl) rfl (.cells (cs_plan_Plan p3 w_p3).toArray 55 (0, 0)) (fun b => .pointer (some ⟨b, 0, none⟩)) (by kernel_rfl) (fun _ _ _ => trivial) ?_
  intro b1 w4 hS3
  refine WO.vals [(1, 8, (.int .i64 0))] (by kernel_rfl) (fun _ => by kernel_rfl) ?_
  refine WO.nil ?_
  refine En.next ?_
  refine W.seq ?_
  refine W.block ?_
  refine W.seq ?_
  refine W.region (l := [0, 1, 2]) (by kernel_rfl) ?_
  refine WO.vals [(0, 13, (.pointer none))] (by kernel_rfl) (fun _ => by kernel_rfl) ?_
  obtain ⟨r10, hx_r5, hr⟩ := bind_some hr
  obtain rfl : true = r10 := Option.some.inj hx_r5
  refine WO.call rfl (by kernel_rfl) rfl (f := 25) (args := #[(.pointer none)]) (by kernel_rfl) (lru_Cache_dead_nil_ok  hS3 hx_r5) ?_
  rintro _ w6 ⟨I7, rfl, hl8, hS9⟩
  refine ⟨_, rfl, trivial, ?_⟩
  refine WO.vals [(2, 12, (.bool true))] (by kernel_rfl) (fun _ => by kernel_rfl) ?_
  refine WO.nil ?_
  refine En.next ?_
  refine W.cond (b := true) rfl rfl (fun hc => ?_) (fun hc => ?_)
  rotate_left
  · cases hc
  clear hc
  refine W.seq ?_
  refine W.region (l := [0]) (by kernel_rfl) ?_
  refine WO.vals [(0, 8, (.int .i64 1))] (by kernel_rfl) (fun _ => by kernel_rfl) ?_
  refine WO.nil ?_
  refine En.next ?_
  refine W.ret ?_
  refine En.in_ret ?_
  refine En.nx_ret ?_
  have hS11 := hS9.drop
  have he := Option.some.inj hr
  subst r
  exact En.ret1 rfl (.int .i64 1) rfl ⟨I7, rfl, hl8, hS11⟩
def lru_Cache_Drop_nil (p1 : Int) (p2 : ByteArray) : Option Bool := (lru_Cache_dead_nil).bind (fun (r6 : Bool) => some false)
set_option maxHeartbeats 1000000 in
theorem lru_Cache_Drop_nil_ok {E w : World} {I : Mem} {Os : List Mem} {p1 : Int} {p2 : ByteArray} (hS : St E w I Os) {r : Bool} (hr : lru_Cache_Drop_nil p1 p2 = some r) :
    Calls P 17 #[(.pointer none), (.int .i64 p1), (.string p2)] w (fun e w' => ∃ (I' : Mem), e = .returned (.bool r) ∧ I.Le I' ∧ St E w' I' Os) := by
  refine calls_W (args := [(.pointer none), (.int .i64 p1), (.string p2)]) (fn := Try.f17) rfl rfl rfl ?_
  unfold lru_Cache_Drop_nil at hr
  refine W.seq ?_
  refine W.region (l := [0]) (by kernel_rfl) ?_
  refine WO.vals [(0, 6, (.bool false))] (by kernel_rfl) (fun _ => by kernel_rfl) ?_
  refine WO.nil ?_
  refine En.next ?_
  refine W.seq ?_
  refine W.seq ?_
  refine W.region (l := [0, 1, 2, 3, 4, 5]) (by kernel_rfl) ?_
  refine WO.vals [(0, 9, (.pointer none))] (by kernel_rfl) (fun _ => by kernel_rfl) ?_
  obtain ⟨r6, hx_r1, hr⟩ := bind_some hr
  obtain rfl : true = r6 := Option.some.inj hx_r1
  refine WO.call rfl (by kernel_rfl) rfl (f := 25) (args := #[(.pointer none)]) (by kernel_rfl) (lru_Cache_dead_nil_ok  hS hx_r1) ?_
  rintro _ w2 ⟨I3, rfl, hl4, hS5⟩
  refine ⟨_, rfl, trivial, ?_⟩
  refine WO.vals [(2, 11, (.bool true))] (by kernel_rfl) (fun _ => by kernel_rfl) ?_
  refine WO.pass rfl (by kernel_rfl) rfl ?_
  refine WO.pass rfl (by kernel_rfl) rfl ?_
  refine WO.vals [(5, 14, (.bool true))] (by kernel_rfl) (fun _ => by kernel_rfl) ?_
  refine WO.nil ?_
  refine En.next ?_
  refine W.cond (b := true) rfl rfl (fun hc => ?_) (fun hc => ?_)
  rotate_left
  · cases hc
  clear hc
  refine W.seq ?_
  refine W.region (l := [0]) (by kernel_rfl) ?_
  refine WO.vals [(0, 6, (.bool false))] (by kernel_rfl) (fun _ => by kernel_rfl) ?_
  refine WO.nil ?_
  refine En.next ?_
  refine W.ret ?_
  refine En.nx_ret ?_
  have he := Option.some.inj hr
  subst r
  exact En.ret1 rfl (.bool false) rfl ⟨I3, rfl, hl4, hS5⟩
def lru_Cache_All_nil  : Option (List lru_Entry) := (lru_Cache_dead_nil).bind (fun (r6 : Bool) => some ([] : List lru_Entry))
set_option maxHeartbeats 1000000 in
theorem lru_Cache_All_nil_ok {E w : World} {I : Mem} {Os : List Mem} (hS : St E w I Os) {r : (List lru_Entry)} (hr : lru_Cache_All_nil = some r) :
    Calls P 16 #[(.pointer none)] w (fun e w' => ∃ (I' : Mem) (ra0 : Option Addr) (rc0 : Nat), e = .returned (.slice ra0 r.length rc0) ∧ I.Le I' ∧ St E w' I' Os ∧ RSl 2 R_lru_Entry I' ra0 rc0 r) := by
  refine calls_W (args := [(.pointer none)]) (fn := Try.f16) rfl rfl rfl ?_
  unfold lru_Cache_All_nil at hr
  refine W.seq ?_
  refine W.region (l := [0]) (by kernel_rfl) ?_
  refine WO.vals [(0, 2, (.slice none 0 0))] (by kernel_rfl) (fun _ => by kernel_rfl) ?_
  refine WO.nil ?_
  refine En.next ?_
  refine W.seq ?_
  refine W.seq ?_
  refine W.region (l := [0, 1]) (by kernel_rfl) ?_
  refine WO.vals [(0, 5, (.pointer none))] (by kernel_rfl) (fun _ => by kernel_rfl) ?_
  obtain ⟨r6, hx_r1, hr⟩ := bind_some hr
  obtain rfl : true = r6 := Option.some.inj hx_r1
  refine WO.call rfl (by kernel_rfl) rfl (f := 25) (args := #[(.pointer none)]) (by kernel_rfl) (lru_Cache_dead_nil_ok  hS hx_r1) ?_
  rintro _ w2 ⟨I3, rfl, hl4, hS5⟩
  refine ⟨_, rfl, trivial, ?_⟩
  refine WO.nil ?_
  refine En.next ?_
  refine W.cond (b := true) rfl rfl (fun hc => ?_) (fun hc => ?_)
  rotate_left
  · cases hc
  clear hc
  refine W.seq ?_
  refine W.region (l := [0]) (by kernel_rfl) ?_
  refine WO.vals [(0, 2, (.slice none 0 0))] (by kernel_rfl) (fun _ => by kernel_rfl) ?_
  refine WO.nil ?_
  refine En.next ?_
  refine W.ret ?_
  refine En.nx_ret ?_
  have he := Option.some.inj hr
  subst r
  exact En.ret1 rfl (.slice none 0 0) rfl ⟨I3, none, 0, rfl, hl4, hS5, SlAt.nil⟩
def lru_Cache_sweep_nil (p1 : lru_Entry → plan_Plan → Option Bool) : Option Int := (lru_Cache_All_nil).bind (fun (r6 : List lru_Entry) => (forE (fun (i11 : Nat) => fun (s10 : Int) => none) (([] : List lru_Entry).length) 0 0).bind (fun (s10 : Int) => some s10))
set_option maxHeartbeats 1000000 in
theorem lru_Cache_sweep_nil_ok {E w : World} {I : Mem} {Os : List Mem} {p1 : lru_Entry → plan_Plan → Option Bool} {g_p1 : FuncId} {k_p1 : List Value} (h_p1 : ∀ {F : List Mem} {I' : Mem} {w : World} {u0 : lru_Entry} {u1 : plan_Plan} {w_u1 : W_plan_Plan}, I.Le I' → St E w I' (F ++ Os) → ok_plan_Plan I' u1 w_u1 → ∀ {r : Bool}, p1 u0 u1 = some r → Calls P g_p1 (([(.agg (cs_lru_Entry u0).toArray), (.agg (cs_plan_Plan u1 w_u1).toArray)] : List Value) ++ k_p1).toArray w (fun e w' => ∃ (I'' : Mem), e = .returned (.bool r) ∧ I'.Le I'' ∧ St E w' I'' (F ++ Os))) (hcall_p1 : Callable P g_p1) (hS : St E w I Os) {r : Int} (hr : lru_Cache_sweep_nil p1 = some r) :
    Calls P 29 #[(.pointer none), (.func (.func g_p1) #[] k_p1.toArray)] w (fun e w' => ∃ (I' : Mem), e = .returned (.int .i64 r) ∧ I.Le I' ∧ St E w' I' Os) := by
  refine calls_W (args := [(.pointer none), (.func (.func g_p1) #[] k_p1.toArray)]) (fn := Try.f29) rfl rfl rfl ?_
  unfold lru_Cache_sweep_nil at hr
  refine W.seq ?_
  refine W.region (l := [0]) (by kernel_rfl) ?_
  refine WO.vals [(0, 4, (.int .i64 0))] (by kernel_rfl) (fun _ => by kernel_rfl) ?_
  refine WO.nil ?_
  refine En.next ?_
  refine W.seq ?_
  refine W.region (l := [0]) (by kernel_rfl) ?_
  refine WO.vals [(0, 5, (.int .i64 0))] (by kernel_rfl) (fun _ => by kernel_rfl) ?_
  refine WO.nil ?_
  refine En.next ?_
  refine W.seq ?_
  refine W.seq ?_
  refine W.region (l := [0, 1, 2, 3]) (by kernel_rfl) ?_
  refine WO.vals [(0, 8, (.pointer none))] (by kernel_rfl) (fun _ => by kernel_rfl) ?_
  obtain ⟨r6, hx_r1, hr⟩ := bind_some hr
  obtain rfl : ([] : List lru_Entry) = r6 := Option.some.inj hx_r1
  refine WO.call rfl (by kernel_rfl) rfl (f := 16) (args := #[(.pointer none)]) (by kernel_rfl) (lru_Cache_All_nil_ok  hS hx_r1) ?_
  rintro _ w2 ⟨I3, a_r6, c_r6, rfl, hl4, hS5, h_r6⟩
  refine ⟨_, rfl, trivial, ?_⟩
  refine WO.vals [(2, 10, (.int .i64 (([] : List lru_Entry).length : Int))), (3, 11, (.int .i64 0))] (by kernel_rfl) (fun _ => by kernel_rfl) ?_
  refine WO.nil ?_
  refine En.next ?_
  refine W.block ?_
  obtain ⟨s10, hloop12, hr⟩ := bind_some hr
  have hlt16 := (h_r6).len_lt
  refine W.weaken (fr' := [(0, (.pointer none)), (1, (.func (.func g_p1) #[] k_p1.toArray)), (5, (.int .i64 0)), (9, (.slice a_r6 ([] : List lru_Entry).length c_r6)), (10, (.int .i64 (([] : List lru_Entry).length : Int))), (11, (.int .i64 ((0 : Nat) : Int)))]) (W.forE (m := ([] : List lru_Entry).length) hloop12 (fun (i11 : Nat) => fun (s10 : Int) fr w => ∃ (I8 : Mem), fr = [(0, (.pointer none)), (1, (.func (.func g_p1) #[] k_p1.toArray)), (5, (.int .i64 s10)), (9, (.slice a_r6 ([] : List lru_Entry).length c_r6)), (10, (.int .i64 (([] : List lru_Entry).length : Int))), (11, (.int .i64 (i11 : Int)))] ∧ I3.Le I8 ∧ St E w I8 Os) ⟨I3, rfl, Mem.Le.refl _, hS5⟩ ?roundt7 ?lastt7) (Sub.cons rfl (Sub.cons rfl (Sub.cons rfl (Sub.cons rfl (Sub.cons rfl (Sub.cons rfl Sub.nil))))))
  case roundt7 =>
    rintro i11 s10 _ w13 hi17 ⟨I8, rfl, hl9, hS14⟩ x15 hr1
    exact absurd hi17 (Nat.not_lt_zero _)
  case lastt7 =>
    rintro _ w18 ⟨I8, rfl, hl9, hS19⟩
    refine W.seq ?_
    refine W.region (l := [0]) (by kernel_rfl) ?_
    refine WO.vals [(0, 12, (.bool (decide ((([] : List lru_Entry).length : Int) < (([] : List lru_Entry).length : Int)))))] (by kernel_rfl) (fun _ => by kernel_rfl) ?_
    refine WO.nil ?_
    refine En.next ?_
    refine W.seq ?_
    refine W.cond (b := (decide ((([] : List lru_Entry).length : Int) < (([] : List lru_Entry).length : Int)))) rfl rfl (fun hc => ?_) (fun hc => ?_)
    · exact absurd hc (by first | (simp; done) | (simp; omega))
    clear hc
    refine W.exit ?_
    refine En.nx_exit ?_
    refine En.rd_exit ?_
    refine En.in_hit ?_
    refine En.next ?_
    refine W.seq ?_
    refine W.region (l := [0, 1]) (by kernel_rfl) ?_
    refine WO.vals [(0, 31, (.int .i64 s10)), (1, 4, (.int .i64 s10))] (by kernel_rfl) (fun _ => by kernel_rfl) ?_
    refine WO.nil ?_
    refine En.next ?_
    refine W.ret ?_
    have he := Option.some.inj hr
    subst r
    exact En.ret1 rfl (.int .i64 s10) rfl ⟨I8, rfl, (hl4.trans hl9), hS19⟩
def lru_Cache_Leave_nil (p1 : Int) : Option Int := (lru_Cache_sweep_nil (fun (u0 : lru_Entry) (u1 : plan_Plan) => lru_Cache_Leave_1 u0 u1 p1)).bind (fun (r10 : Int) => some r10)
set_option maxHeartbeats 1000000 in
theorem lru_Cache_Leave_nil_ok {E w : World} {I : Mem} {Os : List Mem} {p1 : Int} (hS : St E w I Os) {r : Int} (hr : lru_Cache_Leave_nil p1 = some r) :
    Calls P 18 #[(.pointer none), (.int .i64 p1)] w (fun e w' => ∃ (I' : Mem), e = .returned (.int .i64 r) ∧ I.Le I' ∧ St E w' I' Os) := by
  refine calls_W (args := [(.pointer none), (.int .i64 p1)]) (fn := Try.f18) rfl rfl rfl ?_
  unfold lru_Cache_Leave_nil at hr
  refine W.seq ?_
  refine W.region (l := [0, 1]) (by kernel_rfl) ?_
  refine WO.new hS rfl (by kernel_rfl) rfl (.cells #[(.int .i64 p1)] 3 (0, 0)) (fun b => .pointer (some ⟨b, 0, none⟩)) (by kernel_rfl) (fun _ _ _ => trivial) ?_
  intro b1 w4 hS3
  refine WO.vals [(1, 4, (.int .i64 0))] (by kernel_rfl) (fun _ => by kernel_rfl) ?_
  refine WO.nil ?_
  refine En.next ?_
  refine W.seq ?_
  refine W.region (l := [0, 1, 2, 3]) (by kernel_rfl) ?_
  refine WO.vals [(0, 5, (.pointer none)), (1, 6, (.func (.func 30) #[] #[(.pointer (some ⟨b1, 0, none⟩))]))] (by kernel_rfl) (fun _ => by kernel_rfl) ?_
  obtain ⟨r10, hx_r5, hr⟩ := bind_some hr
  refine WO.call rfl (by kernel_rfl) rfl (f := 29) (args := #[(.pointer none), (.func (.func 30) #[] #[(.pointer (some ⟨b1, 0, none⟩))])]) (by kernel_rfl) (lru_Cache_sweep_nil_ok (fun {F Ic wc} {_} {_} {_} hlc hSc h_u1 {rc} hrc => lru_Cache_Leave_1_ok h_u1 (List.mem_append_right _ (List.Mem.head _)) hSc hrc) (fun _ _ => by kernel_rfl) hS3 hx_r5) ?_
  rintro _ w6 ⟨I7, rfl, hl8, hS9⟩
  refine ⟨_, rfl, trivial, ?_⟩
  refine WO.vals [(3, 4, (.int .i64 r10))] (by kernel_rfl) (fun _ => by kernel_rfl) ?_
  refine WO.nil ?_
  refine En.next ?_
  refine W.ret ?_
  have hS11 := hS9.drop
  have he := Option.some.inj hr
  subst r
  exact En.ret1 rfl (.int .i64 r10) rfl ⟨I7, rfl, hl8, hS11⟩
def lru_Cache_Forget_nil (p1 : ByteArray) : Option Int := (lru_Cache_sweep_nil (fun (u0 : lru_Entry) (u1 : plan_Plan) => lru_Cache_Forget_1 u0 u1 p1)).bind (fun (r10 : Int) => some r10)
set_option maxHeartbeats 1000000 in
theorem lru_Cache_Forget_nil_ok {E w : World} {I : Mem} {Os : List Mem} {p1 : ByteArray} (hS : St E w I Os) {r : Int} (hr : lru_Cache_Forget_nil p1 = some r) :
    Calls P 19 #[(.pointer none), (.string p1)] w (fun e w' => ∃ (I' : Mem), e = .returned (.int .i64 r) ∧ I.Le I' ∧ St E w' I' Os) := by
  refine calls_W (args := [(.pointer none), (.string p1)]) (fn := Try.f19) rfl rfl rfl ?_
  unfold lru_Cache_Forget_nil at hr
  refine W.seq ?_
  refine W.region (l := [0, 1]) (by kernel_rfl) ?_
  refine WO.new hS rfl (by kernel_rfl) rfl (.cells #[(.string p1)] 9 (0, 0)) (fun b => .pointer (some ⟨b, 0, none⟩)) (by kernel_rfl) (fun _ _ _ => trivial) ?_
  intro b1 w4 hS3
  refine WO.vals [(1, 4, (.int .i64 0))] (by kernel_rfl) (fun _ => by kernel_rfl) ?_
  refine WO.nil ?_
  refine En.next ?_
  refine W.seq ?_
  refine W.region (l := [0, 1, 2, 3]) (by kernel_rfl) ?_
  refine WO.vals [(0, 5, (.pointer none)), (1, 6, (.func (.func 31) #[] #[(.pointer (some ⟨b1, 0, none⟩))]))] (by kernel_rfl) (fun _ => by kernel_rfl) ?_
  obtain ⟨r10, hx_r5, hr⟩ := bind_some hr
  refine WO.call rfl (by kernel_rfl) rfl (f := 29) (args := #[(.pointer none), (.func (.func 31) #[] #[(.pointer (some ⟨b1, 0, none⟩))])]) (by kernel_rfl) (lru_Cache_sweep_nil_ok (fun {F Ic wc} {_} {_} {_} hlc hSc h_u1 {rc} hrc => lru_Cache_Forget_1_ok h_u1 (List.mem_append_right _ (List.Mem.head _)) hSc hrc) (fun _ _ => by kernel_rfl) hS3 hx_r5) ?_
  rintro _ w6 ⟨I7, rfl, hl8, hS9⟩
  refine ⟨_, rfl, trivial, ?_⟩
  refine WO.vals [(3, 4, (.int .i64 r10))] (by kernel_rfl) (fun _ => by kernel_rfl) ?_
  refine WO.nil ?_
  refine En.next ?_
  refine W.ret ?_
  have hS11 := hS9.drop
  have he := Option.some.inj hr
  subst r
  exact En.ret1 rfl (.int .i64 r10) rfl ⟨I7, rfl, hl8, hS11⟩
def lru_Cache_dead_zero  : Option Bool := some true
set_option maxHeartbeats 1000000 in
theorem lru_Cache_dead_zero_ok {E w : World} {I : Mem} {Os : List Mem} {b_p0 : Nat} (hS : St E w I ((one b_p0 (.cells #[(.map none), (.int .i64 0)] 68 (0, 0))) :: Os)) {r : Bool} (hr : lru_Cache_dead_zero = some r) :
    Calls P 25 #[(.pointer (some ⟨b_p0, 0, none⟩))] w (fun e w' => ∃ (I' : Mem), e = .returned (.bool r) ∧ I.Le I' ∧ St E w' I' ((one b_p0 (.cells #[(.map none), (.int .i64 0)] 68 (0, 0))) :: Os)) := by
  refine calls_W (args := [(.pointer (some ⟨b_p0, 0, none⟩))]) (fn := Try.f25) rfl rfl rfl ?_
  unfold lru_Cache_dead_zero at hr
  refine W.seq ?_
  refine W.region (l := [0]) (by kernel_rfl) ?_
  refine WO.vals [(0, 2, (.bool false))] (by kernel_rfl) (fun _ => by kernel_rfl) ?_
  refine WO.nil ?_
  refine En.next ?_
  refine W.seq ?_
  refine W.region (l := [0, 1, 2, 3, 4, 5, 6, 7, 8, 9]) (by kernel_rfl) ?_
  refine WO.vals [(0, 3, (.pointer (some ⟨b_p0, 0, none⟩))), (1, 4, (.bool false)), (2, 5, (.bool false)), (3, 6, (.pointer (some ⟨b_p0, 0, none⟩))), (4, 7, (.pointer (some ⟨b_p0, 0, none⟩))), (5, 8, (.pointer (some ⟨b_p0, 0, none⟩)))] (by kernel_rfl) (fun _ => by kernel_rfl) ?_
  refine WO.load rfl (by kernel_rfl) (by kernel_rfl) rfl (v := (.map none)) (fun w' hw' => cell_one ((rd_f (hS.rd (List.Mem.head _))) w' hw') (by kernel_rfl)) ?_
  refine WO.vals [(7, 10, (.bool true)), (8, 11, (.bool true)), (9, 2, (.bool true))] (by kernel_rfl) (fun _ => by kernel_rfl) ?_
  refine WO.nil ?_
  refine En.next ?_
  refine W.ret ?_
  have he := Option.some.inj hr
  subst r
  exact En.ret1 rfl (.bool true) rfl ⟨I, rfl, Mem.Le.refl _, hS⟩
def lru_Cache_Get_zero (p1 : Int) (p2 : ByteArray) : Option (plan_Plan × Bool) := (lru_Cache_dead_zero).bind (fun (r17 : Bool) => some (z_plan_Plan, false))
set_option maxHeartbeats 1000000 in
theorem lru_Cache_Get_zero_ok {E w : World} {I : Mem} {Os : List Mem} {p1 : Int} {p2 : ByteArray} {b_p0 : Nat} (hS : St E w I ((one b_p0 (.cells #[(.map none), (.int .i64 0)] 68 (0, 0))) :: Os)) {r : plan_Plan × Bool} (hr : lru_Cache_Get_zero p1 p2 = some r) :
    Calls P 14 #[(.pointer (some ⟨b_p0, 0, none⟩)), (.int .i64 p1), (.string p2)] w (fun e w' => ∃ (I' : Mem) (w_rw0 : W_plan_Plan), e = .returned (.tuple #[(.agg (cs_plan_Plan r.1 w_rw0).toArray), (.bool r.2)]) ∧ I.Le I' ∧ St E w' I' ((one b_p0 (.cells #[(.map none), (.int .i64 0)] 68 (0, 0))) :: Os) ∧ ok_plan_Plan I' r.1 w_rw0) := by
  refine calls_W (args := [(.pointer (some ⟨b_p0, 0, none⟩)), (.int .i64 p1), (.string p2)]) (fn := Try.f14) rfl rfl rfl ?_
  unfold lru_Cache_Get_zero at hr
  refine W.seq ?_
  refine W.region (l := [0, 1]) (by kernel_rfl) ?_
  refine WO.new hS rfl (by kernel_rfl) rfl (.cells (cs_plan_Plan z_plan_Plan zw_plan_Plan).toArray 55 (0, 0)) (fun b => .pointer (some ⟨b, 0, none⟩)) (by kernel_rfl) (fun _ _ _ => trivial) ?_
  intro b1 w4 hS3
  refine WO.vals [(1, 7, (.bool false))] (by kernel_rfl) (fun _ => by kernel_rfl) ?_
  refine WO.nil ?_
  refine En.next ?_
  refine W.seq ?_
  refine W.region (l := [0, 1, 2, 3, 4]) (by kernel_rfl) ?_
  refine WO.vals [(0, 11, (.int .i64 p1)), (1, 12, (.string p2)), (2, 13, (.agg (cs_lru_Entry (⟨p1, p2⟩ : lru_Entry)).toArray))] (by kernel_rfl) (fun _ => by kernel_rfl) ?_
  refine WO.new hS3 rfl (by kernel_rfl) rfl (.cells (cs_lru_Entry z_lru_Entry).toArray 74 (0, 0)) (fun b => .pointer (some ⟨b, 0, none⟩)) (by kernel_rfl) (fun _ _ _ => trivial) ?_
  intro b5 w8 hS7
  refine WO.storeBox hS7 rfl (by kernel_rfl) rfl 0 rfl rfl (by kernel_rfl) (by kernel_rfl) (by kernel_rfl) ((cs_lru_Entry (⟨p1, p2⟩ : lru_Entry)).toArray) (by kernel_rfl) (fun _ _ => trivial) ?_
  intro w10 hS9
  refine WO.nil ?_
  refine En.next ?_
  refine W.seq ?_
  refine W.seq ?_
  refine W.region (l := [0, 1, 2, 3, 4, 5]) (by kernel_rfl) ?_
  refine WO.vals [(0, 14, (.pointer (some ⟨b_p0, 0, none⟩)))] (by kernel_rfl) (fun _ => by kernel_rfl) ?_
  have hS11 := hS9.front2
  obtain ⟨r17, hx_r12, hr⟩ := bind_some hr
  obtain rfl : true = r17 := Option.some.inj hx_r12
  refine WO.call rfl (by kernel_rfl) rfl (f := 25) (args := #[(.pointer (some ⟨b_p0, 0, none⟩))]) (by kernel_rfl) (lru_Cache_dead_zero_ok  hS11 hx_r12) ?_
  rintro _ w13 ⟨I14, rfl, hl15, hS16⟩
  refine ⟨_, rfl, trivial, ?_⟩
  refine WO.vals [(2, 16, (.bool true))] (by kernel_rfl) (fun _ => by kernel_rfl) ?_
  refine WO.pass rfl (by kernel_rfl) rfl ?_
  refine WO.pass rfl (by kernel_rfl) rfl ?_
  refine WO.vals [(5, 19, (.bool true))] (by kernel_rfl) (fun _ => by kernel_rfl) ?_
  refine WO.nil ?_
  refine En.next ?_
  refine W.cond (b := true) rfl rfl (fun hc => ?_) (fun hc => ?_)
  rotate_left
  · cases hc
  clear hc
  refine W.seq ?_
  refine W.region (l := [0, 1, 2]) (by kernel_rfl) ?_
  refine WO.vals [(0, 20, (.agg (cs_plan_Plan z_plan_Plan zw_plan_Plan).toArray))] (by kernel_rfl) (fun _ => by kernel_rfl) ?_
  have hS18 := hS16.front2
  refine WO.storeBox hS18 rfl (by kernel_rfl) rfl 0 rfl rfl (by kernel_rfl) (all_one (rel := R_plan_Plan) (I := I14) (x := z_plan_Plan) ⟨zw_plan_Plan, rfl, zok_plan_Plan⟩) (by kernel_rfl) ((cs_plan_Plan z_plan_Plan zw_plan_Plan).toArray) (by kernel_rfl) (fun _ _ => trivial) ?_
  intro w20 hS19
  refine WO.vals [(2, 7, (.bool false))] (by kernel_rfl) (fun _ => by kernel_rfl) ?_
  refine WO.nil ?_
  refine En.next ?_
  refine W.ret ?_
  refine En.nx_ret ?_
  have hS21 := hS19.drop
  have hS22 := hS21.front1
  have hS23 := hS22.drop
  have he := Option.some.inj hr
  subst r
  exact En.retc2 rfl (.agg (cs_plan_Plan z_plan_Plan zw_plan_Plan).toArray) (.bool false) ⟨_, _, rfl, run_loadVarN (cs := (cs_plan_Plan z_plan_Plan zw_plan_Plan)) (by kernel_rfl) (by kernel_rfl) (cells_one (hS19.rd (List.Mem.head _)) (by kernel_rfl))⟩ rfl ⟨I14, zw_plan_Plan, rfl, hl15, hS23, zok_plan_Plan⟩
def lru_Cache_Put_zero (p1 : Int) (p2 : ByteArray) (p3 : plan_Plan) : Option Int := (lru_Cache_dead_zero).bind (fun (r11 : Bool) => some 1)
set_option maxHeartbeats 1000000 in
theorem lru_Cache_Put_zero_ok {E w : World} {I : Mem} {Os : List Mem} {p1 : Int} {p2 : ByteArray} {p3 : plan_Plan} {b_p0 : Nat} {w_p3 : W_plan_Plan} (h_p3 : ok_plan_Plan I p3 w_p3) (hS : St E w I ((one b_p0 (.cells #[(.map none), (.int .i64 0)] 68 (0, 0))) :: Os)) {r : Int} (hr : lru_Cache_Put_zero p1 p2 p3 = some r) :
    Calls P 12 #[(.pointer (some ⟨b_p0, 0, none⟩)), (.int .i64 p1), (.string p2), (.agg (cs_plan_Plan p3 w_p3).toArray)] w (fun e w' => ∃ (I' : Mem), e = .returned (.int .i64 r) ∧ I.Le I' ∧ St E w' I' ((one b_p0 (.cells #[(.map none), (.int .i64 0)] 68 (0, 0))) :: Os)) := by
  refine calls_W (args := [(.pointer (some ⟨b_p0, 0, none⟩)), (.int .i64 p1), (.string p2), (.agg (cs_plan_Plan p3 w_p3).toArray)]) (fn := Try.f12) rfl rfl rfl ?_
  unfold lru_Cache_Put_zero at hr
  refine W.seq ?_
  refine W.region (l := [0, 1]) (by kernel_rfl) ?_
  refine WO.new hS rfl (by kernel_rfl) rfl (.cells (cs_plan_Plan p3 w_p3).toArray 55 (0, 0)) (fun b => .pointer (some ⟨b, 0, none⟩)) (by kernel_rfl) (fun _ _ _ => trivial) ?_
  intro b1 w4 hS3
  refine WO.vals [(1, 8, (.int .i64 0))] (by kernel_rfl) (fun _ => by kernel_rfl) ?_
  refine WO.nil ?_
  refine En.next ?_
  refine W.seq ?_
  refine W.block ?_
  refine W.seq ?_
  refine W.region (l := [0, 1, 2]) (by kernel_rfl) ?_
  refine WO.vals [(0, 13, (.pointer (some ⟨b_p0, 0, none⟩)))] (by kernel_rfl) (fun _ => by kernel_rfl) ?_
  have hS5 := hS3.front1
  obtain ⟨r11, hx_r6, hr⟩ := bind_some hr
  obtain rfl : true = r11 := Option.some.inj hx_r6
  refine WO.call rfl (by kernel_rfl) rfl (f := 25) (args := #[(.pointer (some ⟨b_p0, 0, none⟩))]) (by kernel_rfl) (lru_Cache_dead_zero_ok  hS5 hx_r6) ?_
  rintro _ w7 ⟨I8, rfl, hl9, hS10⟩
  refine ⟨_, rfl, trivial, ?_⟩
  refine WO.vals [(2, 12, (.bool true))] (by kernel_rfl) (fun _ => by kernel_rfl) ?_
  refine WO.nil ?_
  refine En.next ?_
  refine W.cond (b := true) rfl rfl (fun hc => ?_) (fun hc => ?_)
  rotate_left
  · cases hc
  clear hc
  refine W.seq ?_
  refine W.region (l := [0]) (by kernel_rfl) ?_
  refine WO.vals [(0, 8, (.int .i64 1))] (by kernel_rfl) (fun _ => by kernel_rfl) ?_
  refine WO.nil ?_
  refine En.next ?_
  refine W.ret ?_
  refine En.in_ret ?_
  refine En.nx_ret ?_
  have hS12 := hS10.front1
  have hS13 := hS12.drop
  have he := Option.some.inj hr
  subst r
  exact En.ret1 rfl (.int .i64 1) rfl ⟨I8, rfl, hl9, hS13⟩
def lru_Cache_Drop_zero (p1 : Int) (p2 : ByteArray) : Option Bool := (lru_Cache_dead_zero).bind (fun (r6 : Bool) => some false)
set_option maxHeartbeats 1000000 in
theorem lru_Cache_Drop_zero_ok {E w : World} {I : Mem} {Os : List Mem} {p1 : Int} {p2 : ByteArray} {b_p0 : Nat} (hS : St E w I ((one b_p0 (.cells #[(.map none), (.int .i64 0)] 68 (0, 0))) :: Os)) {r : Bool} (hr : lru_Cache_Drop_zero p1 p2 = some r) :
    Calls P 17 #[(.pointer (some ⟨b_p0, 0, none⟩)), (.int .i64 p1), (.string p2)] w (fun e w' => ∃ (I' : Mem), e = .returned (.bool r) ∧ I.Le I' ∧ St E w' I' ((one b_p0 (.cells #[(.map none), (.int .i64 0)] 68 (0, 0))) :: Os)) := by
  refine calls_W (args := [(.pointer (some ⟨b_p0, 0, none⟩)), (.int .i64 p1), (.string p2)]) (fn := Try.f17) rfl rfl rfl ?_
  unfold lru_Cache_Drop_zero at hr
  refine W.seq ?_
  refine W.region (l := [0]) (by kernel_rfl) ?_
  refine WO.vals [(0, 6, (.bool false))] (by kernel_rfl) (fun _ => by kernel_rfl) ?_
  refine WO.nil ?_
  refine En.next ?_
  refine W.seq ?_
  refine W.seq ?_
  refine W.region (l := [0, 1, 2, 3, 4, 5]) (by kernel_rfl) ?_
  refine WO.vals [(0, 9, (.pointer (some ⟨b_p0, 0, none⟩)))] (by kernel_rfl) (fun _ => by kernel_rfl) ?_
  obtain ⟨r6, hx_r1, hr⟩ := bind_some hr
  obtain rfl : true = r6 := Option.some.inj hx_r1
  refine WO.call rfl (by kernel_rfl) rfl (f := 25) (args := #[(.pointer (some ⟨b_p0, 0, none⟩))]) (by kernel_rfl) (lru_Cache_dead_zero_ok  hS hx_r1) ?_
  rintro _ w2 ⟨I3, rfl, hl4, hS5⟩
  refine ⟨_, rfl, trivial, ?_⟩
  refine WO.vals [(2, 11, (.bool true))] (by kernel_rfl) (fun _ => by kernel_rfl) ?_
  refine WO.pass rfl (by kernel_rfl) rfl ?_
  refine WO.pass rfl (by kernel_rfl) rfl ?_
  refine WO.vals [(5, 14, (.bool true))] (by kernel_rfl) (fun _ => by kernel_rfl) ?_
  refine WO.nil ?_
  refine En.next ?_
  refine W.cond (b := true) rfl rfl (fun hc => ?_) (fun hc => ?_)
  rotate_left
  · cases hc
  clear hc
  refine W.seq ?_
  refine W.region (l := [0]) (by kernel_rfl) ?_
  refine WO.vals [(0, 6, (.bool false))] (by kernel_rfl) (fun _ => by kernel_rfl) ?_
  refine WO.nil ?_
  refine En.next ?_
  refine W.ret ?_
  refine En.nx_ret ?_
  have he := Option.some.inj hr
  subst r
  exact En.ret1 rfl (.bool false) rfl ⟨I3, rfl, hl4, hS5⟩
def lru_Cache_All_zero  : Option (List lru_Entry) := (lru_Cache_dead_zero).bind (fun (r6 : Bool) => some ([] : List lru_Entry))
set_option maxHeartbeats 1000000 in
theorem lru_Cache_All_zero_ok {E w : World} {I : Mem} {Os : List Mem} {b_p0 : Nat} (hS : St E w I ((one b_p0 (.cells #[(.map none), (.int .i64 0)] 68 (0, 0))) :: Os)) {r : (List lru_Entry)} (hr : lru_Cache_All_zero = some r) :
    Calls P 16 #[(.pointer (some ⟨b_p0, 0, none⟩))] w (fun e w' => ∃ (I' : Mem) (ra0 : Option Addr) (rc0 : Nat), e = .returned (.slice ra0 r.length rc0) ∧ I.Le I' ∧ St E w' I' ((one b_p0 (.cells #[(.map none), (.int .i64 0)] 68 (0, 0))) :: Os) ∧ RSl 2 R_lru_Entry I' ra0 rc0 r) := by
  refine calls_W (args := [(.pointer (some ⟨b_p0, 0, none⟩))]) (fn := Try.f16) rfl rfl rfl ?_
  unfold lru_Cache_All_zero at hr
  refine W.seq ?_
  refine W.region (l := [0]) (by kernel_rfl) ?_
  refine WO.vals [(0, 2, (.slice none 0 0))] (by kernel_rfl) (fun _ => by kernel_rfl) ?_
  refine WO.nil ?_
  refine En.next ?_
  refine W.seq ?_
  refine W.seq ?_
  refine W.region (l := [0, 1]) (by kernel_rfl) ?_
  refine WO.vals [(0, 5, (.pointer (some ⟨b_p0, 0, none⟩)))] (by kernel_rfl) (fun _ => by kernel_rfl) ?_
  obtain ⟨r6, hx_r1, hr⟩ := bind_some hr
  obtain rfl : true = r6 := Option.some.inj hx_r1
  refine WO.call rfl (by kernel_rfl) rfl (f := 25) (args := #[(.pointer (some ⟨b_p0, 0, none⟩))]) (by kernel_rfl) (lru_Cache_dead_zero_ok  hS hx_r1) ?_
  rintro _ w2 ⟨I3, rfl, hl4, hS5⟩
  refine ⟨_, rfl, trivial, ?_⟩
  refine WO.nil ?_
  refine En.next ?_
  refine W.cond (b := true) rfl rfl (fun hc => ?_) (fun hc => ?_)
  rotate_left
  · cases hc
  clear hc
  refine W.seq ?_
  refine W.region (l := [0]) (by kernel_rfl) ?_
  refine WO.vals [(0, 2, (.slice none 0 0))] (by kernel_rfl) (fun _ => by kernel_rfl) ?_
  refine WO.nil ?_
  refine En.next ?_
  refine W.ret ?_
  refine En.nx_ret ?_
  have he := Option.some.inj hr
  subst r
  exact En.ret1 rfl (.slice none 0 0) rfl ⟨I3, none, 0, rfl, hl4, hS5, SlAt.nil⟩
def lru_Cache_sweep_zero (p1 : lru_Entry → plan_Plan → Option Bool) : Option Int := (lru_Cache_All_zero).bind (fun (r6 : List lru_Entry) => (forE (fun (i11 : Nat) => fun (s10 : Int) => none) (([] : List lru_Entry).length) 0 0).bind (fun (s10 : Int) => some s10))
set_option maxHeartbeats 1000000 in
theorem lru_Cache_sweep_zero_ok {E w : World} {I : Mem} {Os : List Mem} {p1 : lru_Entry → plan_Plan → Option Bool} {b_p0 : Nat} {g_p1 : FuncId} {k_p1 : List Value} (h_p1 : ∀ {F : List Mem} {I' : Mem} {w : World} {u0 : lru_Entry} {u1 : plan_Plan} {w_u1 : W_plan_Plan}, I.Le I' → St E w I' (F ++ Os) → ok_plan_Plan I' u1 w_u1 → ∀ {r : Bool}, p1 u0 u1 = some r → Calls P g_p1 (([(.agg (cs_lru_Entry u0).toArray), (.agg (cs_plan_Plan u1 w_u1).toArray)] : List Value) ++ k_p1).toArray w (fun e w' => ∃ (I'' : Mem), e = .returned (.bool r) ∧ I'.Le I'' ∧ St E w' I'' (F ++ Os))) (hcall_p1 : Callable P g_p1) (hS : St E w I ((one b_p0 (.cells #[(.map none), (.int .i64 0)] 68 (0, 0))) :: Os)) {r : Int} (hr : lru_Cache_sweep_zero p1 = some r) :
    Calls P 29 #[(.pointer (some ⟨b_p0, 0, none⟩)), (.func (.func g_p1) #[] k_p1.toArray)] w (fun e w' => ∃ (I' : Mem), e = .returned (.int .i64 r) ∧ I.Le I' ∧ St E w' I' ((one b_p0 (.cells #[(.map none), (.int .i64 0)] 68 (0, 0))) :: Os)) := by
  refine calls_W (args := [(.pointer (some ⟨b_p0, 0, none⟩)), (.func (.func g_p1) #[] k_p1.toArray)]) (fn := Try.f29) rfl rfl rfl ?_
  unfold lru_Cache_sweep_zero at hr
  refine W.seq ?_
  refine W.region (l := [0]) (by kernel_rfl) ?_
  refine WO.vals [(0, 4, (.int .i64 0))] (by kernel_rfl) (fun _ => by kernel_rfl) ?_
  refine WO.nil ?_
  refine En.next ?_
  refine W.seq ?_
  refine W.region (l := [0]) (by kernel_rfl) ?_
  refine WO.vals [(0, 5, (.int .i64 0))] (by kernel_rfl) (fun _ => by kernel_rfl) ?_
  refine WO.nil ?_
  refine En.next ?_
  refine W.seq ?_
  refine W.seq ?_
  refine W.region (l := [0, 1, 2, 3]) (by kernel_rfl) ?_
  refine WO.vals [(0, 8, (.pointer (some ⟨b_p0, 0, none⟩)))] (by kernel_rfl) (fun _ => by kernel_rfl) ?_
  obtain ⟨r6, hx_r1, hr⟩ := bind_some hr
  obtain rfl : ([] : List lru_Entry) = r6 := Option.some.inj hx_r1
  refine WO.call rfl (by kernel_rfl) rfl (f := 16) (args := #[(.pointer (some ⟨b_p0, 0, none⟩))]) (by kernel_rfl) (lru_Cache_All_zero_ok  hS hx_r1) ?_
  rintro _ w2 ⟨I3, a_r6, c_r6, rfl, hl4, hS5, h_r6⟩
  refine ⟨_, rfl, trivial, ?_⟩
  refine WO.vals [(2, 10, (.int .i64 (([] : List lru_Entry).length : Int))), (3, 11, (.int .i64 0))] (by kernel_rfl) (fun _ => by kernel_rfl) ?_
  refine WO.nil ?_
  refine En.next ?_
  refine W.block ?_
  obtain ⟨s10, hloop12, hr⟩ := bind_some hr
  have hlt16 := (h_r6).len_lt
  refine W.weaken (fr' := [(0, (.pointer (some ⟨b_p0, 0, none⟩))), (1, (.func (.func g_p1) #[] k_p1.toArray)), (5, (.int .i64 0)), (9, (.slice a_r6 ([] : List lru_Entry).length c_r6)), (10, (.int .i64 (([] : List lru_Entry).length : Int))), (11, (.int .i64 ((0 : Nat) : Int)))]) (W.forE (m := ([] : List lru_Entry).length) hloop12 (fun (i11 : Nat) => fun (s10 : Int) fr w => ∃ (I8 : Mem), fr = [(0, (.pointer (some ⟨b_p0, 0, none⟩))), (1, (.func (.func g_p1) #[] k_p1.toArray)), (5, (.int .i64 s10)), (9, (.slice a_r6 ([] : List lru_Entry).length c_r6)), (10, (.int .i64 (([] : List lru_Entry).length : Int))), (11, (.int .i64 (i11 : Int)))] ∧ I3.Le I8 ∧ St E w I8 ((one b_p0 (.cells #[(.map none), (.int .i64 0)] 68 (0, 0))) :: Os)) ⟨I3, rfl, Mem.Le.refl _, hS5⟩ ?roundt7 ?lastt7) (Sub.cons rfl (Sub.cons rfl (Sub.cons rfl (Sub.cons rfl (Sub.cons rfl (Sub.cons rfl Sub.nil))))))
  case roundt7 =>
    rintro i11 s10 _ w13 hi17 ⟨I8, rfl, hl9, hS14⟩ x15 hr1
    exact absurd hi17 (Nat.not_lt_zero _)
  case lastt7 =>
    rintro _ w18 ⟨I8, rfl, hl9, hS19⟩
    refine W.seq ?_
    refine W.region (l := [0]) (by kernel_rfl) ?_
    refine WO.vals [(0, 12, (.bool (decide ((([] : List lru_Entry).length : Int) < (([] : List lru_Entry).length : Int)))))] (by kernel_rfl) (fun _ => by kernel_rfl) ?_
    refine WO.nil ?_
    refine En.next ?_
    refine W.seq ?_
    refine W.cond (b := (decide ((([] : List lru_Entry).length : Int) < (([] : List lru_Entry).length : Int)))) rfl rfl (fun hc => ?_) (fun hc => ?_)
    · exact absurd hc (by first | (simp; done) | (simp; omega))
    clear hc
    refine W.exit ?_
    refine En.nx_exit ?_
    refine En.rd_exit ?_
    refine En.in_hit ?_
    refine En.next ?_
    refine W.seq ?_
    refine W.region (l := [0, 1]) (by kernel_rfl) ?_
    refine WO.vals [(0, 31, (.int .i64 s10)), (1, 4, (.int .i64 s10))] (by kernel_rfl) (fun _ => by kernel_rfl) ?_
    refine WO.nil ?_
    refine En.next ?_
    refine W.ret ?_
    have he := Option.some.inj hr
    subst r
    exact En.ret1 rfl (.int .i64 s10) rfl ⟨I8, rfl, (hl4.trans hl9), hS19⟩
end Go.Proofs.Ytmclgkomnpdgjaa
