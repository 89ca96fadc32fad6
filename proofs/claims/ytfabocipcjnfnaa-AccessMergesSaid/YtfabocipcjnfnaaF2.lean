/- What functions of the program come to, each by a plain one. Conditions: none. -/
import Derived.Test.YtfabocipcjnfnaaF1
set_option maxRecDepth 100000
namespace Go.Proofs.Ytfabocipcjnfnaa
open Go.Gv
noncomputable def slices_symMergeCmpFunc_registrar_api_Need_fu : Nat → (List api_Need) → Int → Int → Int → (api_Need → api_Need → Option Int) → Option (List api_Need)
  | 0, _, _, _, _, _ => none
  | fu + 1, p0, p1, p2, p3, p4 => (bif ((w64 (p2 - p1)) == 1) then (loopO (fun (s : Int × Int) => match s with | (s4, s5) => (bif (decide (s4 < s5)) then (idx p0 (w64 (Int.fdiv (IntKind.wrap .u64 (w64 (s4 + s5))) (2 ^ 1)))).bind (fun (x12 : api_Need) => (idx p0 p1).bind (fun (x13 : api_Need) => (p4 x12 x13).bind (fun (r19 : Int) => ((bif (decide (r19 < 0)) then some ((w64 ((w64 (Int.fdiv (IntKind.wrap .u64 (w64 (s4 + s5))) (2 ^ 1))) + 1)), s5) else some (s4, (w64 (Int.fdiv (IntKind.wrap .u64 (w64 (s4 + s5))) (2 ^ 1)))))).bind (fun ((s24, s25) : Int × Int) => some (.inl (s24, s25)))))) else some (.inr s4))) (p2, p3)).bind (fun (s29 : Int) => (loopO (fun (s : Int × (List api_Need)) => match s with | (s33, s34) => (bif (decide (s33 < (w64 (s29 - 1)))) then (idx s34 (w64 (s33 + 1))).bind (fun (x41 : api_Need) => (idx s34 s33).bind (fun (x42 : api_Need) => (idx s34 s33).bind (fun (x43 : api_Need) => (idx (s34.set (s33).toNat (⟨x41.Path, x41.Mode⟩ : api_Need)) (w64 (s33 + 1))).bind (fun (x48 : api_Need) => some (.inl ((w64 (s33 + 1)), ((s34.set (s33).toNat (⟨x41.Path, x41.Mode⟩ : api_Need)).set ((w64 (s33 + 1))).toNat (⟨x42.Path, x42.Mode⟩ : api_Need)))))))) else some (.inr s34))) (p1, p0)).bind (fun (s54 : List api_Need) => some s54)) else (bif ((w64 (p3 - p2)) == 1) then (loopO (fun (s : Int × Int) => match s with | (s83, s84) => (bif (decide (s83 < s84)) then (idx p0 p2).bind (fun (x91 : api_Need) => (idx p0 (w64 (Int.fdiv (IntKind.wrap .u64 (w64 (s83 + s84))) (2 ^ 1)))).bind (fun (x92 : api_Need) => (p4 x91 x92).bind (fun (r98 : Int) => ((bif (!(decide (r98 < 0))) then some ((w64 ((w64 (Int.fdiv (IntKind.wrap .u64 (w64 (s83 + s84))) (2 ^ 1))) + 1)), s84) else some (s83, (w64 (Int.fdiv (IntKind.wrap .u64 (w64 (s83 + s84))) (2 ^ 1)))))).bind (fun ((s103, s104) : Int × Int) => some (.inl (s103, s104)))))) else some (.inr s83))) (p1, p2)).bind (fun (s108 : Int) => (loopO (fun (s : Int × (List api_Need)) => match s with | (s112, s113) => (bif (decide (s112 > s108)) then (idx s113 (w64 (s112 - 1))).bind (fun (x120 : api_Need) => (idx s113 s112).bind (fun (x121 : api_Need) => (idx s113 s112).bind (fun (x122 : api_Need) => (idx (s113.set (s112).toNat (⟨x120.Path, x120.Mode⟩ : api_Need)) (w64 (s112 - 1))).bind (fun (x127 : api_Need) => some (.inl ((w64 (s112 - 1)), ((s113.set (s112).toNat (⟨x120.Path, x120.Mode⟩ : api_Need)).set ((w64 (s112 - 1))).toNat (⟨x121.Path, x121.Mode⟩ : api_Need)))))))) else some (.inr s113))) (p2, p0)).bind (fun (s133 : List api_Need) => some s133)) else ((bif (decide (p2 > (w64 (Int.fdiv (IntKind.wrap .u64 (w64 (p1 + p3))) (2 ^ 1))))) then some ((w64 ((w64 ((w64 (Int.fdiv (IntKind.wrap .u64 (w64 (p1 + p3))) (2 ^ 1))) + p2)) - p3)), (w64 (Int.fdiv (IntKind.wrap .u64 (w64 (p1 + p3))) (2 ^ 1)))) else some (p1, p2))).bind (fun ((s163, s164) : Int × Int) => (loopO (fun (s : Int × Int) => match s with | (s170, s171) => (bif (decide (s170 < s171)) then (idx p0 (w64 ((w64 ((w64 ((w64 (Int.fdiv (IntKind.wrap .u64 (w64 (p1 + p3))) (2 ^ 1))) + p2)) - 1)) - (w64 (Int.fdiv (IntKind.wrap .u64 (w64 (s170 + s171))) (2 ^ 1)))))).bind (fun (x178 : api_Need) => (idx p0 (w64 (Int.fdiv (IntKind.wrap .u64 (w64 (s170 + s171))) (2 ^ 1)))).bind (fun (x179 : api_Need) => (p4 x178 x179).bind (fun (r185 : Int) => ((bif (!(decide (r185 < 0))) then some ((w64 ((w64 (Int.fdiv (IntKind.wrap .u64 (w64 (s170 + s171))) (2 ^ 1))) + 1)), s171) else some (s170, (w64 (Int.fdiv (IntKind.wrap .u64 (w64 (s170 + s171))) (2 ^ 1)))))).bind (fun ((s190, s191) : Int × Int) => some (.inl (s190, s191)))))) else some (.inr s170))) (s163, s164)).bind (fun (s195 : Int) => ((bif ((decide (s195 < p2)) && (decide (p2 < (w64 ((w64 ((w64 (Int.fdiv (IntKind.wrap .u64 (w64 (p1 + p3))) (2 ^ 1))) + p2)) - s195))))) then (slices_rotateCmpFunc_registrar_api_Need p0 s195 p2 (w64 ((w64 ((w64 (Int.fdiv (IntKind.wrap .u64 (w64 (p1 + p3))) (2 ^ 1))) + p2)) - s195)) p4).bind (fun (r207 : List api_Need) => some r207) else some p0)).bind (fun (j198 : List api_Need) => ((bif ((decide (p1 < s195)) && (decide (s195 < (w64 (Int.fdiv (IntKind.wrap .u64 (w64 (p1 + p3))) (2 ^ 1)))))) then (slices_symMergeCmpFunc_registrar_api_Need_fu fu j198 p1 s195 (w64 (Int.fdiv (IntKind.wrap .u64 (w64 (p1 + p3))) (2 ^ 1))) p4).bind (fun (r221 : List api_Need) => some r221) else some j198)).bind (fun (j212 : List api_Need) => ((bif ((decide ((w64 (Int.fdiv (IntKind.wrap .u64 (w64 (p1 + p3))) (2 ^ 1))) < (w64 ((w64 ((w64 (Int.fdiv (IntKind.wrap .u64 (w64 (p1 + p3))) (2 ^ 1))) + p2)) - s195)))) && (decide ((w64 ((w64 ((w64 (Int.fdiv (IntKind.wrap .u64 (w64 (p1 + p3))) (2 ^ 1))) + p2)) - s195)) < p3))) then (slices_symMergeCmpFunc_registrar_api_Need_fu fu j212 (w64 (Int.fdiv (IntKind.wrap .u64 (w64 (p1 + p3))) (2 ^ 1))) (w64 ((w64 ((w64 (Int.fdiv (IntKind.wrap .u64 (w64 (p1 + p3))) (2 ^ 1))) + p2)) - s195)) p3 p4).bind (fun (r235 : List api_Need) => some r235) else some j212)).bind (fun (j226 : List api_Need) => some j226)))))))
noncomputable def slices_symMergeCmpFunc_registrar_api_Need (p0 : List api_Need) (p1 : Int) (p2 : Int) (p3 : Int) (p4 : api_Need → api_Need → Option Int) : Option (List api_Need) := anyFuel (fun fu => slices_symMergeCmpFunc_registrar_api_Need_fu fu p0 p1 p2 p3 p4)
set_option maxHeartbeats 1000000 in
theorem slices_symMergeCmpFunc_registrar_api_Need_fu_ok : ∀ (fu : Nat) {E w : World} {I : Mem} {Os : List Mem} {p0 : List api_Need} {p1 : Int} {p2 : Int} {p3 : Int} {p4 : api_Need → api_Need → Option Int} {a_p0 : Option Addr} {c_p0 : Nat} {C_p0 : Mem} {g_p4 : FuncId} {k_p4 : List Value} (h_p0 : OwnSl 28 2 R_api_Need I C_p0 a_p0 c_p0 p0) (h_p4 : ∀ {F : List Mem} {I' : Mem} {w : World} {u0 : api_Need} {u1 : api_Need}, I.Le I' → St E w I' (F ++ Os) → ∀ {r : Int}, p4 u0 u1 = some r → Calls P g_p4 (([(.agg #[(.string u0.Path), (.int .i64 u0.Mode)]), (.agg #[(.string u1.Path), (.int .i64 u1.Mode)])] : List Value) ++ k_p4).toArray w (fun e w' => ∃ (I'' : Mem), e = .returned (.int .i64 r) ∧ I'.Le I'' ∧ St E w' I'' (F ++ Os))) (hcall_p4 : Callable P g_p4) (hS : St E w I ((C_p0) :: Os)) {r : (List api_Need)} (hr : slices_symMergeCmpFunc_registrar_api_Need_fu fu p0 p1 p2 p3 p4 = some r),
    Calls P 26 #[(.slice a_p0 p0.length c_p0), (.int .i64 p1), (.int .i64 p2), (.int .i64 p3), (.func (.func g_p4) #[] k_p4.toArray)] w (fun e w' => ∃ (I' : Mem) (rD0 : Mem), e = .returned (.tuple #[]) ∧ I.Le I' ∧ St E w' I' (rD0 :: Os) ∧ OwnSl 28 2 R_api_Need I' rD0 a_p0 c_p0 r ∧ r.length = p0.length) := by
  intro fu
  induction fu with
  | zero => intro E w I Os p0 p1 p2 p3 p4 a_p0 c_p0 C_p0 g_p4 k_p4 h_p0 h_p4 hcall_p4 hS r hr; cases hr
  | succ fu ih =>
  intro E w I Os p0 p1 p2 p3 p4 a_p0 c_p0 C_p0 g_p4 k_p4 h_p0 h_p4 hcall_p4 hS r hr
  refine calls_W (args := [(.slice a_p0 p0.length c_p0), (.int .i64 p1), (.int .i64 p2), (.int .i64 p3), (.func (.func g_p4) #[] k_p4.toArray)]) (fn := Try.f26) rfl rfl rfl ?_
  unfold slices_symMergeCmpFunc_registrar_api_Need_fu at hr
  refine W.seq ?_
  refine W.seq ?_
  refine W.region (l := [0, 1, 2, 3]) (by kernel_rfl) ?_
  refine WO.vals [(0, 25, (.int .i64 p2)), (1, 26, (.int .i64 p1)), (2, 27, (.int .i64 (w64 (p2 - p1)))), (3, 28, (.bool ((w64 (p2 - p1)) == 1)))] (by kernel_rfl) (fun _ => by kernel_rfl) ?_
  refine WO.nil ?_
  refine En.next ?_
  refine W.cond (b := ((w64 (p2 - p1)) == 1)) rfl rfl (fun hc => ?_) (fun hc => ?_)
  · replace hr := cond_t hc hr
    refine W.seq ?_
    refine W.region (l := [0, 1]) (by kernel_rfl) ?_
    refine WO.vals [(0, 29, (.int .i64 p2)), (1, 10, (.int .i64 p2))] (by kernel_rfl) (fun _ => by kernel_rfl) ?_
    refine WO.nil ?_
    refine En.next ?_
    refine W.seq ?_
    refine W.region (l := [0, 1]) (by kernel_rfl) ?_
    refine WO.vals [(0, 30, (.int .i64 p3)), (1, 11, (.int .i64 p3))] (by kernel_rfl) (fun _ => by kernel_rfl) ?_
    refine WO.nil ?_
    refine En.next ?_
    refine W.seq ?_
    refine W.block ?_
    obtain ⟨t1, hloop6, hr⟩ := bind_some hr
    refine W.weaken (fr' := [(0, (.slice a_p0 p0.length c_p0)), (1, (.int .i64 p1)), (4, (.func (.func g_p4) #[] k_p4.toArray)), (10, (.int .i64 p2)), (11, (.int .i64 p3))]) (W.loopO hloop6 (fun (s : Int × Int) fr w => match s with | (s4, s5) => ∃ (I2 : Mem), fr = [(0, (.slice a_p0 p0.length c_p0)), (1, (.int .i64 p1)), (4, (.func (.func g_p4) #[] k_p4.toArray)), (10, (.int .i64 s4)), (11, (.int .i64 s5))] ∧ I.Le I2 ∧ St E w I2 ((C_p0) :: Os)) ⟨I, rfl, Mem.Le.refl _, hS⟩ ?_) (Sub.cons rfl (Sub.cons rfl (Sub.cons rfl (Sub.cons rfl (Sub.cons rfl Sub.nil)))))
    rintro ⟨s4, s5⟩ _ w7 ⟨I2, rfl, hl3, hS8⟩ x9 hr1 hext1
    refine W.seq ?_
    refine W.seq ?_
    refine W.region (l := [0, 1, 2]) (by kernel_rfl) ?_
    refine WO.vals [(0, 31, (.int .i64 s4)), (1, 32, (.int .i64 s5)), (2, 33, (.bool (decide (s4 < s5))))] (by kernel_rfl) (fun _ => by kernel_rfl) ?_
    refine WO.nil ?_
    refine En.next ?_
    refine W.cond (b := (decide (s4 < s5))) rfl rfl (fun hc => ?_) (fun hc => ?_)
    · replace hr1 := cond_t hc hr1
      refine W.skip ?_
      refine En.next ?_
      refine W.block ?_
      refine W.seq ?_
      refine W.region (l := [0, 1, 2, 3, 4, 5, 6]) (by kernel_rfl) ?_
      refine WO.vals [(0, 34, (.int .i64 s4)), (1, 35, (.int .i64 s5)), (2, 36, (.int .i64 (w64 (s4 + s5)))), (3, 37, (.int .u64 (IntKind.wrap .u64 (w64 (s4 + s5))))), (4, 38, (.int .u64 (Int.fdiv (IntKind.wrap .u64 (w64 (s4 + s5))) (2 ^ 1)))), (5, 39, (.int .i64 (w64 (Int.fdiv (IntKind.wrap .u64 (w64 (s4 + s5))) (2 ^ 1))))), (6, 12, (.int .i64 (w64 (Int.fdiv (IntKind.wrap .u64 (w64 (s4 + s5))) (2 ^ 1)))))] (by kernel_rfl) (fun _ => by kernel_rfl) ?_
      refine WO.nil ?_
      refine En.next ?_
      refine W.seq ?_
      have hS10 := hS8.drew
      refine W.draw (l := [0, 1, 2, 3, 4, 5, 6, 7, 8, 9, 10]) (by kernel_rfl) 9 (KR I2 [C_p0]) qR (.back (by kernel_rfl)) (by kernel_rfl) (KR.cons (hS10.rd (List.Mem.head _)) (KR.nil hS10.im)) ?_
      generalize World.drew _ = w11 at *
      refine WO.vals [(0, 40, (.func (.func g_p4) #[] k_p4.toArray)), (1, 41, (.slice a_p0 p0.length c_p0)), (2, 42, (.int .i64 (w64 (Int.fdiv (IntKind.wrap .u64 (w64 (s4 + s5))) (2 ^ 1)))))] (by kernel_rfl) (fun _ => by kernel_rfl) ?_
      obtain ⟨x12, hx_x12, hr1⟩ := bind_some hr1
      obtain ⟨h0_x12, h1_x12, hx_x12⟩ := idx_some hx_x12
      obtain ⟨ha_x12, cs_x12, hn_x12, hr_x12, hc_x12⟩ := ((h_p0.mono hl3).sl).el _ _ hx_x12
      obtain rfl := hr_x12
      refine WO.indexAddr (e := 28) (sz := 2) rfl (by kernel_rfl) (by kernel_rfl) (by kernel_rfl) rfl ha_x12 rfl h0_x12 h1_x12 ?_
      refine WO.loadN rfl (by kernel_rfl) (by kernel_rfl) rfl [(.string x12.Path), (.int .i64 x12.Mode)] (by kernel_rfl) (fun w' hw' => hc_x12.cells (k := 0) rfl rfl ((rd_c (List.Mem.head _) (hS10.rd (List.Mem.head _))) w' hw')) ?_
      refine WO.vals [(5, 45, (.slice a_p0 p0.length c_p0)), (6, 46, (.int .i64 p1))] (by kernel_rfl) (fun _ => by kernel_rfl) ?_
      obtain ⟨x13, hx_x13, hr1⟩ := bind_some hr1
      obtain ⟨h0_x13, h1_x13, hx_x13⟩ := idx_some hx_x13
      obtain ⟨ha_x13, cs_x13, hn_x13, hr_x13, hc_x13⟩ := ((h_p0.mono hl3).sl).el _ _ hx_x13
      obtain rfl := hr_x13
      refine WO.indexAddr (e := 28) (sz := 2) rfl (by kernel_rfl) (by kernel_rfl) (by kernel_rfl) rfl ha_x13 rfl h0_x13 h1_x13 ?_
      refine WO.loadN rfl (by kernel_rfl) (by kernel_rfl) rfl [(.string x13.Path), (.int .i64 x13.Mode)] (by kernel_rfl) (fun w' hw' => hc_x13.cells (k := 0) rfl rfl ((rd_c (List.Mem.head _) (hS10.rd (List.Mem.head _))) w' hw')) ?_
      refine WO.tail rfl ?_
      obtain ⟨r19, hx_r14, hr1⟩ := bind_some hr1
      refine WO.callv rfl (by kernel_rfl) rfl (g := g_p4) (kk := k_p4) (args := [(.agg #[(.string x12.Path), (.int .i64 x12.Mode)]), (.agg #[(.string x13.Path), (.int .i64 x13.Mode)])]) rfl (by kernel_rfl) hcall_p4 (h_p4 (F := [C_p0]) hl3 hS10  hx_r14) ?_
      rintro _ w15 ⟨I16, rfl, hl17, hS18⟩
      refine ⟨_, rfl, trivial, ?_⟩
      refine WO.vals [(10, 50, (.bool (decide (r19 < 0))))] (by kernel_rfl) (fun _ => by kernel_rfl) ?_
      refine WO.nil ?_
      refine En.next ?_
      obtain ⟨j20, hr2, hr1⟩ := bind_some hr1
      refine W.join (J := (fun fr w => ∃ (s24 : Int), ∃ (s25 : Int), ∃ (I22 : Mem), (s24, s25) = j20 ∧ fr = [(0, (.slice a_p0 p0.length c_p0)), (1, (.int .i64 p1)), (4, (.func (.func g_p4) #[] k_p4.toArray)), (10, (.int .i64 s24)), (11, (.int .i64 s25))] ∧ I16.Le I22 ∧ St E w I22 ((C_p0) :: Os))) ?restj20 ?waysj20
      case waysj20 =>
        refine W.cond (b := (decide (r19 < 0))) rfl rfl (fun hc => ?_) (fun hc => ?_)
        · replace hr2 := cond_t hc hr2
          refine W.region (l := [0, 1, 2]) (by kernel_rfl) ?_
          refine WO.vals [(0, 51, (.int .i64 (w64 (Int.fdiv (IntKind.wrap .u64 (w64 (s4 + s5))) (2 ^ 1))))), (1, 52, (.int .i64 (w64 ((w64 (Int.fdiv (IntKind.wrap .u64 (w64 (s4 + s5))) (2 ^ 1))) + 1)))), (2, 10, (.int .i64 (w64 ((w64 (Int.fdiv (IntKind.wrap .u64 (w64 (s4 + s5))) (2 ^ 1))) + 1))))] (by kernel_rfl) (fun _ => by kernel_rfl) ?_
          refine WO.nil ?_
          refine En.weaken (fr' := [(0, (.slice a_p0 p0.length c_p0)), (1, (.int .i64 p1)), (4, (.func (.func g_p4) #[] k_p4.toArray)), (10, (.int .i64 (w64 ((w64 (Int.fdiv (IntKind.wrap .u64 (w64 (s4 + s5))) (2 ^ 1))) + 1)))), (11, (.int .i64 s5))]) (En.round ⟨(w64 ((w64 (Int.fdiv (IntKind.wrap .u64 (w64 (s4 + s5))) (2 ^ 1))) + 1)), s5, I16, Option.some.inj hr2, rfl, Mem.Le.refl _, hS18⟩) (Sub.cons rfl (Sub.cons rfl (Sub.cons rfl (Sub.cons rfl (Sub.cons rfl Sub.nil)))))
        · replace hr2 := cond_f hc hr2
          refine W.region (l := [0, 1]) (by kernel_rfl) ?_
          refine WO.vals [(0, 53, (.int .i64 (w64 (Int.fdiv (IntKind.wrap .u64 (w64 (s4 + s5))) (2 ^ 1))))), (1, 11, (.int .i64 (w64 (Int.fdiv (IntKind.wrap .u64 (w64 (s4 + s5))) (2 ^ 1)))))] (by kernel_rfl) (fun _ => by kernel_rfl) ?_
          refine WO.nil ?_
          refine En.weaken (fr' := [(0, (.slice a_p0 p0.length c_p0)), (1, (.int .i64 p1)), (4, (.func (.func g_p4) #[] k_p4.toArray)), (10, (.int .i64 s4)), (11, (.int .i64 (w64 (Int.fdiv (IntKind.wrap .u64 (w64 (s4 + s5))) (2 ^ 1)))))]) (En.round ⟨s4, (w64 (Int.fdiv (IntKind.wrap .u64 (w64 (s4 + s5))) (2 ^ 1))), I16, Option.some.inj hr2, rfl, Mem.Le.refl _, hS18⟩) (Sub.cons rfl (Sub.cons rfl (Sub.cons rfl (Sub.cons rfl (Sub.cons rfl Sub.nil)))))
      case restj20 =>
        rintro _ w26 ⟨s24, s25, I22, rfl, rfl, hl23, hS27⟩
        refine En.in_normal ?_
        refine En.weaken (fr' := [(0, (.slice a_p0 p0.length c_p0)), (1, (.int .i64 p1)), (4, (.func (.func g_p4) #[] k_p4.toArray)), (10, (.int .i64 s24)), (11, (.int .i64 s25))]) (En.round ⟨(s24, s25), (Option.some.inj hr1).symm, I22, rfl, ((hl3.trans hl17).trans hl23), hS27⟩) (Sub.cons rfl (Sub.cons rfl (Sub.cons rfl (Sub.cons rfl (Sub.cons rfl Sub.nil)))))
    · replace hr1 := cond_f hc hr1
      refine W.exit ?_
      refine En.nx_exit ?_
      refine En.rd_exit ?_
      have ht := hext1 _ (Option.some.inj hr1).symm
      subst t1
      refine En.in_hit ?_
      refine En.next ?_
      refine W.seq ?_
      refine W.seq ?_
      refine W.region (l := [0, 1]) (by kernel_rfl) ?_
      refine WO.vals [(0, 54, (.int .i64 p1)), (1, 13, (.int .i64 p1))] (by kernel_rfl) (fun _ => by kernel_rfl) ?_
      refine WO.nil ?_
      refine En.next ?_
      refine W.block ?_
      obtain ⟨t55, hloop60, hr⟩ := bind_some hr
      refine W.weaken (fr' := [(0, (.slice a_p0 p0.length c_p0)), (10, (.int .i64 s4)), (13, (.int .i64 p1))]) (W.loopO hloop60 (fun (s : Int × (List api_Need)) fr w => match s with | (s58, s59) => ∃ (I56 : Mem), ∃ (C_s59 : Mem), fr = [(0, (.slice a_p0 s59.length c_p0)), (10, (.int .i64 s4)), (13, (.int .i64 s58))] ∧ I2.Le I56 ∧ St E w I56 ((C_s59) :: Os) ∧ OwnSl 28 2 R_api_Need I56 C_s59 a_p0 c_p0 s59 ∧ s59.length = p0.length) ⟨I2, C_p0, rfl, Mem.Le.refl _, hS8, (OwnSl.mono h_p0 hl3), rfl⟩ ?_) (Sub.cons rfl (Sub.cons rfl (Sub.cons rfl Sub.nil)))
      rintro ⟨s58, s59⟩ _ w61 ⟨I56, C_s59, rfl, hl57, hS62, h_s59, hn_s59⟩ x63 hr1 hext55
      refine W.seq ?_
      refine W.seq ?_
      refine W.region (l := [0, 1, 2, 3]) (by kernel_rfl) ?_
      refine WO.vals [(0, 55, (.int .i64 s58)), (1, 56, (.int .i64 s4)), (2, 57, (.int .i64 (w64 (s4 - 1)))), (3, 58, (.bool (decide (s58 < (w64 (s4 - 1))))))] (by kernel_rfl) (fun _ => by kernel_rfl) ?_
      refine WO.nil ?_
      refine En.next ?_
      refine W.cond (b := (decide (s58 < (w64 (s4 - 1))))) rfl rfl (fun hc => ?_) (fun hc => ?_)
      · replace hr1 := cond_t hc hr1
        refine W.skip ?_
        refine En.next ?_
        refine W.seq ?_
        refine W.block ?_
        have hS64 := hS62.drew
        refine W.draw (l := [0, 1, 2, 3, 4, 5, 6, 7, 8, 9, 10, 11, 12, 13, 14, 15, 16, 17]) (by kernel_rfl) 14 (KR I56 [C_s59]) qR (.ords [0, 1, 2, 3, 4, 5, 6, 7, 8, 9, 10, 11, 12, 13, 14, 15, 16, 17] [0, 1, 5, 6, 7, 8, 9, 10, 11, 12, 13, 14, 15, 2, 3, 4, 16, 17] (by kernel_rfl) (by kernel_rfl) (by kernel_rfl) (by kernel_rfl) (by kernel_rfl)) (by kernel_rfl) (KR.cons (hS64.rd (List.Mem.head _)) (KR.nil hS64.im)) ?_
        generalize World.drew _ = w65 at *
        refine WO.vals [(0, 61, (.slice a_p0 s59.length c_p0)), (1, 62, (.int .i64 s58)), (2, 63, (.slice a_p0 s59.length c_p0)), (3, 64, (.int .i64 s58)), (4, 65, (.int .i64 (w64 (s58 + 1)))), (5, 66, (.slice a_p0 s59.length c_p0)), (6, 67, (.int .i64 s58)), (7, 68, (.int .i64 (w64 (s58 + 1))))] (by kernel_rfl) (fun _ => by kernel_rfl) ?_
        obtain ⟨x66, hx_x66, hr1⟩ := bind_some hr1
        obtain ⟨h0_x66, h1_x66, hx_x66⟩ := idx_some hx_x66
        obtain ⟨ha_x66, cs_x66, hn_x66, hr_x66, hc_x66⟩ := (h_s59.sl).el _ _ hx_x66
        obtain rfl := hr_x66
        refine WO.indexAddr (e := 28) (sz := 2) rfl (by kernel_rfl) (by kernel_rfl) (by kernel_rfl) rfl ha_x66 rfl h0_x66 h1_x66 ?_
        refine WO.loadN rfl (by kernel_rfl) (by kernel_rfl) rfl [(.string x66.Path), (.int .i64 x66.Mode)] (by kernel_rfl) (fun w' hw' => hc_x66.cells (k := 0) rfl rfl ((rd_c (List.Mem.head _) (hS64.rd (List.Mem.head _))) w' hw')) ?_
        refine WO.vals [(10, 71, (.slice a_p0 s59.length c_p0)), (11, 72, (.int .i64 s58))] (by kernel_rfl) (fun _ => by kernel_rfl) ?_
        obtain ⟨x67, hx_x67, hr1⟩ := bind_some hr1
        obtain ⟨h0_x67, h1_x67, hx_x67⟩ := idx_some hx_x67
        obtain ⟨ha_x67, cs_x67, hn_x67, hr_x67, hc_x67⟩ := (h_s59.sl).el _ _ hx_x67
        obtain rfl := hr_x67
        refine WO.indexAddr (e := 28) (sz := 2) rfl (by kernel_rfl) (by kernel_rfl) (by kernel_rfl) rfl ha_x67 rfl h0_x67 h1_x67 ?_
        refine WO.loadN rfl (by kernel_rfl) (by kernel_rfl) rfl [(.string x67.Path), (.int .i64 x67.Mode)] (by kernel_rfl) (fun w' hw' => hc_x67.cells (k := 0) rfl rfl ((rd_c (List.Mem.head _) (hS64.rd (List.Mem.head _))) w' hw')) ?_
        refine WO.tail rfl ?_
        obtain ⟨x68, hx_x68, hr1⟩ := bind_some hr1
        obtain ⟨h0_x68, h1_x68, hx_x68⟩ := idx_some hx_x68
        obtain ⟨ha_x68, cs_x68, hn_x68, hr_x68, hc_x68⟩ := (h_s59.sl).el _ _ hx_x68
        obtain rfl := hr_x68
        refine WO.indexAddr (e := 28) (sz := 2) rfl (by kernel_rfl) (by kernel_rfl) (by kernel_rfl) rfl ha_x68 rfl h0_x68 h1_x68 ?_
        refine WO.storeOwn hS64 h_s59 rfl (by kernel_rfl) rfl hx_x68 (u' := (⟨x66.Path, x66.Mode⟩ : api_Need)) 0 rfl rfl (by kernel_rfl) rfl rfl (fun cs hrel => (by obtain rfl := hrel; exact rfl)) (fun _ _ _ => trivial) ?_
        intro w70 C71 hS69 ho72
        refine WO.reslot 0 rfl (show Value.slice a_p0 s59.length c_p0 = Value.slice a_p0 (s59.set (s58).toNat (⟨x66.Path, x66.Mode⟩ : api_Need)).length c_p0 by simp only [List.length_set]) ?_
        refine WO.reslot 63 rfl (show Value.slice a_p0 s59.length c_p0 = Value.slice a_p0 (s59.set (s58).toNat (⟨x66.Path, x66.Mode⟩ : api_Need)).length c_p0 by simp only [List.length_set]) ?_
        obtain ⟨x73, hx_x73, hr1⟩ := bind_some hr1
        obtain ⟨h0_x73, h1_x73, hx_x73⟩ := idx_some hx_x73
        obtain ⟨ha_x73, cs_x73, hn_x73, hr_x73, hc_x73⟩ := (ho72.sl).el _ _ hx_x73
        obtain rfl := hr_x73
        refine WO.indexAddr (e := 28) (sz := 2) rfl (by kernel_rfl) (by kernel_rfl) (by kernel_rfl) rfl ha_x73 rfl h0_x73 h1_x73 ?_
        refine WO.storeOwn hS69 ho72 rfl (by kernel_rfl) rfl hx_x73 (u' := (⟨x67.Path, x67.Mode⟩ : api_Need)) 0 rfl rfl (by kernel_rfl) rfl rfl (fun cs hrel => (by obtain rfl := hrel; exact rfl)) (fun _ _ _ => trivial) ?_
        intro w75 C76 hS74 ho77
        refine WO.reslot 0 rfl (show Value.slice a_p0 (s59.set (s58).toNat (⟨x66.Path, x66.Mode⟩ : api_Need)).length c_p0 = Value.slice a_p0 ((s59.set (s58).toNat (⟨x66.Path, x66.Mode⟩ : api_Need)).set ((w64 (s58 + 1))).toNat (⟨x67.Path, x67.Mode⟩ : api_Need)).length c_p0 by simp only [List.length_set]) ?_
        refine WO.nil ?_
        refine En.in_normal ?_
        refine En.next ?_
        refine W.region (l := [0, 1, 2]) (by kernel_rfl) ?_
        refine WO.vals [(0, 59, (.int .i64 s58)), (1, 60, (.int .i64 (w64 (s58 + 1)))), (2, 13, (.int .i64 (w64 (s58 + 1))))] (by kernel_rfl) (fun _ => by kernel_rfl) ?_
        refine WO.nil ?_
        refine En.weaken (fr' := [(0, (.slice a_p0 ((s59.set (s58).toNat (⟨x66.Path, x66.Mode⟩ : api_Need)).set ((w64 (s58 + 1))).toNat (⟨x67.Path, x67.Mode⟩ : api_Need)).length c_p0)), (10, (.int .i64 s4)), (13, (.int .i64 (w64 (s58 + 1))))]) (En.round ⟨((w64 (s58 + 1)), ((s59.set (s58).toNat (⟨x66.Path, x66.Mode⟩ : api_Need)).set ((w64 (s58 + 1))).toNat (⟨x67.Path, x67.Mode⟩ : api_Need))), (Option.some.inj hr1).symm, I56, C76, rfl, hl57, hS74, ho77, (List.length_set.trans (List.length_set.trans hn_s59))⟩) (Sub.cons rfl (Sub.cons rfl (Sub.cons rfl Sub.nil)))
      · replace hr1 := cond_f hc hr1
        refine W.exit ?_
        refine En.nx_exit ?_
        refine En.rd_exit ?_
        have ht := hext55 _ (Option.some.inj hr1).symm
        subst t55
        refine En.in_hit ?_
        refine En.next ?_
        refine W.ret ?_
        refine En.nx_ret ?_
        have he := Option.some.inj hr
        subst r
        exact En.ret0 rfl ⟨I56, C_s59, rfl, (hl3.trans hl57), hS62, h_s59, hn_s59⟩
  · replace hr := cond_f hc hr
    refine W.skip ?_
    refine En.next ?_
    refine W.seq ?_
    refine W.seq ?_
    refine W.region (l := [0, 1, 2, 3]) (by kernel_rfl) ?_
    refine WO.vals [(0, 77, (.int .i64 p3)), (1, 78, (.int .i64 p2)), (2, 79, (.int .i64 (w64 (p3 - p2)))), (3, 80, (.bool ((w64 (p3 - p2)) == 1)))] (by kernel_rfl) (fun _ => by kernel_rfl) ?_
    refine WO.nil ?_
    refine En.next ?_
    refine W.cond (b := ((w64 (p3 - p2)) == 1)) rfl rfl (fun hc => ?_) (fun hc => ?_)
    · replace hr := cond_t hc hr
      refine W.seq ?_
      refine W.region (l := [0, 1]) (by kernel_rfl) ?_
      refine WO.vals [(0, 81, (.int .i64 p1)), (1, 14, (.int .i64 p1))] (by kernel_rfl) (fun _ => by kernel_rfl) ?_
      refine WO.nil ?_
      refine En.next ?_
      refine W.seq ?_
      refine W.region (l := [0, 1]) (by kernel_rfl) ?_
      refine WO.vals [(0, 82, (.int .i64 p2)), (1, 15, (.int .i64 p2))] (by kernel_rfl) (fun _ => by kernel_rfl) ?_
      refine WO.nil ?_
      refine En.next ?_
      refine W.seq ?_
      refine W.block ?_
      obtain ⟨t80, hloop85, hr⟩ := bind_some hr
      refine W.weaken (fr' := [(0, (.slice a_p0 p0.length c_p0)), (2, (.int .i64 p2)), (4, (.func (.func g_p4) #[] k_p4.toArray)), (14, (.int .i64 p1)), (15, (.int .i64 p2))]) (W.loopO hloop85 (fun (s : Int × Int) fr w => match s with | (s83, s84) => ∃ (I81 : Mem), fr = [(0, (.slice a_p0 p0.length c_p0)), (2, (.int .i64 p2)), (4, (.func (.func g_p4) #[] k_p4.toArray)), (14, (.int .i64 s83)), (15, (.int .i64 s84))] ∧ I.Le I81 ∧ St E w I81 ((C_p0) :: Os)) ⟨I, rfl, Mem.Le.refl _, hS⟩ ?_) (Sub.cons rfl (Sub.cons rfl (Sub.cons rfl (Sub.cons rfl (Sub.cons rfl Sub.nil)))))
      rintro ⟨s83, s84⟩ _ w86 ⟨I81, rfl, hl82, hS87⟩ x88 hr1 hext80
      refine W.seq ?_
      refine W.seq ?_
      refine W.region (l := [0, 1, 2]) (by kernel_rfl) ?_
      refine WO.vals [(0, 83, (.int .i64 s83)), (1, 84, (.int .i64 s84)), (2, 85, (.bool (decide (s83 < s84))))] (by kernel_rfl) (fun _ => by kernel_rfl) ?_
      refine WO.nil ?_
      refine En.next ?_
      refine W.cond (b := (decide (s83 < s84))) rfl rfl (fun hc => ?_) (fun hc => ?_)
      · replace hr1 := cond_t hc hr1
        refine W.skip ?_
        refine En.next ?_
        refine W.block ?_
        refine W.seq ?_
        refine W.region (l := [0, 1, 2, 3, 4, 5, 6]) (by kernel_rfl) ?_
        refine WO.vals [(0, 86, (.int .i64 s83)), (1, 87, (.int .i64 s84)), (2, 88, (.int .i64 (w64 (s83 + s84)))), (3, 89, (.int .u64 (IntKind.wrap .u64 (w64 (s83 + s84))))), (4, 90, (.int .u64 (Int.fdiv (IntKind.wrap .u64 (w64 (s83 + s84))) (2 ^ 1)))), (5, 91, (.int .i64 (w64 (Int.fdiv (IntKind.wrap .u64 (w64 (s83 + s84))) (2 ^ 1))))), (6, 16, (.int .i64 (w64 (Int.fdiv (IntKind.wrap .u64 (w64 (s83 + s84))) (2 ^ 1)))))] (by kernel_rfl) (fun _ => by kernel_rfl) ?_
        refine WO.nil ?_
        refine En.next ?_
        refine W.seq ?_
        have hS89 := hS87.drew
        refine W.draw (l := [0, 1, 2, 3, 4, 5, 6, 7, 8, 9, 10, 11]) (by kernel_rfl) 9 (KR I81 [C_p0]) qR (.back (by kernel_rfl)) (by kernel_rfl) (KR.cons (hS89.rd (List.Mem.head _)) (KR.nil hS89.im)) ?_
        generalize World.drew _ = w90 at *
        refine WO.vals [(0, 92, (.func (.func g_p4) #[] k_p4.toArray)), (1, 93, (.slice a_p0 p0.length c_p0)), (2, 94, (.int .i64 p2))] (by kernel_rfl) (fun _ => by kernel_rfl) ?_
        obtain ⟨x91, hx_x91, hr1⟩ := bind_some hr1
        obtain ⟨h0_x91, h1_x91, hx_x91⟩ := idx_some hx_x91
        obtain ⟨ha_x91, cs_x91, hn_x91, hr_x91, hc_x91⟩ := ((h_p0.mono hl82).sl).el _ _ hx_x91
        obtain rfl := hr_x91
        refine WO.indexAddr (e := 28) (sz := 2) rfl (by kernel_rfl) (by kernel_rfl) (by kernel_rfl) rfl ha_x91 rfl h0_x91 h1_x91 ?_
        refine WO.loadN rfl (by kernel_rfl) (by kernel_rfl) rfl [(.string x91.Path), (.int .i64 x91.Mode)] (by kernel_rfl) (fun w' hw' => hc_x91.cells (k := 0) rfl rfl ((rd_c (List.Mem.head _) (hS89.rd (List.Mem.head _))) w' hw')) ?_
        refine WO.vals [(5, 97, (.slice a_p0 p0.length c_p0)), (6, 98, (.int .i64 (w64 (Int.fdiv (IntKind.wrap .u64 (w64 (s83 + s84))) (2 ^ 1)))))] (by kernel_rfl) (fun _ => by kernel_rfl) ?_
        obtain ⟨x92, hx_x92, hr1⟩ := bind_some hr1
        obtain ⟨h0_x92, h1_x92, hx_x92⟩ := idx_some hx_x92
        obtain ⟨ha_x92, cs_x92, hn_x92, hr_x92, hc_x92⟩ := ((h_p0.mono hl82).sl).el _ _ hx_x92
        obtain rfl := hr_x92
        refine WO.indexAddr (e := 28) (sz := 2) rfl (by kernel_rfl) (by kernel_rfl) (by kernel_rfl) rfl ha_x92 rfl h0_x92 h1_x92 ?_
        refine WO.loadN rfl (by kernel_rfl) (by kernel_rfl) rfl [(.string x92.Path), (.int .i64 x92.Mode)] (by kernel_rfl) (fun w' hw' => hc_x92.cells (k := 0) rfl rfl ((rd_c (List.Mem.head _) (hS89.rd (List.Mem.head _))) w' hw')) ?_
        refine WO.tail rfl ?_
        obtain ⟨r98, hx_r93, hr1⟩ := bind_some hr1
        refine WO.callv rfl (by kernel_rfl) rfl (g := g_p4) (kk := k_p4) (args := [(.agg #[(.string x91.Path), (.int .i64 x91.Mode)]), (.agg #[(.string x92.Path), (.int .i64 x92.Mode)])]) rfl (by kernel_rfl) hcall_p4 (h_p4 (F := [C_p0]) hl82 hS89  hx_r93) ?_
        rintro _ w94 ⟨I95, rfl, hl96, hS97⟩
        refine ⟨_, rfl, trivial, ?_⟩
        refine WO.vals [(10, 102, (.bool (decide (r98 < 0)))), (11, 103, (.bool (!(decide (r98 < 0)))))] (by kernel_rfl) (fun _ => by kernel_rfl) ?_
        refine WO.nil ?_
        refine En.next ?_
        obtain ⟨j99, hr2, hr1⟩ := bind_some hr1
        refine W.join (J := (fun fr w => ∃ (s103 : Int), ∃ (s104 : Int), ∃ (I101 : Mem), (s103, s104) = j99 ∧ fr = [(0, (.slice a_p0 p0.length c_p0)), (2, (.int .i64 p2)), (4, (.func (.func g_p4) #[] k_p4.toArray)), (14, (.int .i64 s103)), (15, (.int .i64 s104))] ∧ I95.Le I101 ∧ St E w I101 ((C_p0) :: Os))) ?restj99 ?waysj99
        case waysj99 =>
          refine W.cond (b := (!(decide (r98 < 0)))) rfl rfl (fun hc => ?_) (fun hc => ?_)
          · replace hr2 := cond_t hc hr2
            refine W.region (l := [0, 1, 2]) (by kernel_rfl) ?_
            refine WO.vals [(0, 104, (.int .i64 (w64 (Int.fdiv (IntKind.wrap .u64 (w64 (s83 + s84))) (2 ^ 1))))), (1, 105, (.int .i64 (w64 ((w64 (Int.fdiv (IntKind.wrap .u64 (w64 (s83 + s84))) (2 ^ 1))) + 1)))), (2, 14, (.int .i64 (w64 ((w64 (Int.fdiv (IntKind.wrap .u64 (w64 (s83 + s84))) (2 ^ 1))) + 1))))] (by kernel_rfl) (fun _ => by kernel_rfl) ?_
            refine WO.nil ?_
            refine En.weaken (fr' := [(0, (.slice a_p0 p0.length c_p0)), (2, (.int .i64 p2)), (4, (.func (.func g_p4) #[] k_p4.toArray)), (14, (.int .i64 (w64 ((w64 (Int.fdiv (IntKind.wrap .u64 (w64 (s83 + s84))) (2 ^ 1))) + 1)))), (15, (.int .i64 s84))]) (En.round ⟨(w64 ((w64 (Int.fdiv (IntKind.wrap .u64 (w64 (s83 + s84))) (2 ^ 1))) + 1)), s84, I95, Option.some.inj hr2, rfl, Mem.Le.refl _, hS97⟩) (Sub.cons rfl (Sub.cons rfl (Sub.cons rfl (Sub.cons rfl (Sub.cons rfl Sub.nil)))))
          · replace hr2 := cond_f hc hr2
            refine W.region (l := [0, 1]) (by kernel_rfl) ?_
            refine WO.vals [(0, 106, (.int .i64 (w64 (Int.fdiv (IntKind.wrap .u64 (w64 (s83 + s84))) (2 ^ 1))))), (1, 15, (.int .i64 (w64 (Int.fdiv (IntKind.wrap .u64 (w64 (s83 + s84))) (2 ^ 1)))))] (by kernel_rfl) (fun _ => by kernel_rfl) ?_
            refine WO.nil ?_
            refine En.weaken (fr' := [(0, (.slice a_p0 p0.length c_p0)), (2, (.int .i64 p2)), (4, (.func (.func g_p4) #[] k_p4.toArray)), (14, (.int .i64 s83)), (15, (.int .i64 (w64 (Int.fdiv (IntKind.wrap .u64 (w64 (s83 + s84))) (2 ^ 1)))))]) (En.round ⟨s83, (w64 (Int.fdiv (IntKind.wrap .u64 (w64 (s83 + s84))) (2 ^ 1))), I95, Option.some.inj hr2, rfl, Mem.Le.refl _, hS97⟩) (Sub.cons rfl (Sub.cons rfl (Sub.cons rfl (Sub.cons rfl (Sub.cons rfl Sub.nil)))))
        case restj99 =>
          rintro _ w105 ⟨s103, s104, I101, rfl, rfl, hl102, hS106⟩
          refine En.in_normal ?_
          refine En.weaken (fr' := [(0, (.slice a_p0 p0.length c_p0)), (2, (.int .i64 p2)), (4, (.func (.func g_p4) #[] k_p4.toArray)), (14, (.int .i64 s103)), (15, (.int .i64 s104))]) (En.round ⟨(s103, s104), (Option.some.inj hr1).symm, I101, rfl, ((hl82.trans hl96).trans hl102), hS106⟩) (Sub.cons rfl (Sub.cons rfl (Sub.cons rfl (Sub.cons rfl (Sub.cons rfl Sub.nil)))))
      · replace hr1 := cond_f hc hr1
        refine W.exit ?_
        refine En.nx_exit ?_
        refine En.rd_exit ?_
        have ht := hext80 _ (Option.some.inj hr1).symm
        subst t80
        refine En.in_hit ?_
        refine En.next ?_
        refine W.seq ?_
        refine W.seq ?_
        refine W.region (l := [0, 1]) (by kernel_rfl) ?_
        refine WO.vals [(0, 107, (.int .i64 p2)), (1, 17, (.int .i64 p2))] (by kernel_rfl) (fun _ => by kernel_rfl) ?_
        refine WO.nil ?_
        refine En.next ?_
        refine W.block ?_
        obtain ⟨t134, hloop139, hr⟩ := bind_some hr
        refine W.weaken (fr' := [(0, (.slice a_p0 p0.length c_p0)), (14, (.int .i64 s83)), (17, (.int .i64 p2))]) (W.loopO hloop139 (fun (s : Int × (List api_Need)) fr w => match s with | (s137, s138) => ∃ (I135 : Mem), ∃ (C_s138 : Mem), fr = [(0, (.slice a_p0 s138.length c_p0)), (14, (.int .i64 s83)), (17, (.int .i64 s137))] ∧ I81.Le I135 ∧ St E w I135 ((C_s138) :: Os) ∧ OwnSl 28 2 R_api_Need I135 C_s138 a_p0 c_p0 s138 ∧ s138.length = p0.length) ⟨I81, C_p0, rfl, Mem.Le.refl _, hS87, (OwnSl.mono h_p0 hl82), rfl⟩ ?_) (Sub.cons rfl (Sub.cons rfl (Sub.cons rfl Sub.nil)))
        rintro ⟨s137, s138⟩ _ w140 ⟨I135, C_s138, rfl, hl136, hS141, h_s138, hn_s138⟩ x142 hr1 hext134
        refine W.seq ?_
        refine W.seq ?_
        refine W.region (l := [0, 1, 2]) (by kernel_rfl) ?_
        refine WO.vals [(0, 108, (.int .i64 s137)), (1, 109, (.int .i64 s83)), (2, 110, (.bool (decide (s137 > s83))))] (by kernel_rfl) (fun _ => by kernel_rfl) ?_
        refine WO.nil ?_
        refine En.next ?_
        refine W.cond (b := (decide (s137 > s83))) rfl rfl (fun hc => ?_) (fun hc => ?_)
        · replace hr1 := cond_t hc hr1
          refine W.skip ?_
          refine En.next ?_
          refine W.seq ?_
          refine W.block ?_
          have hS143 := hS141.drew
          refine W.draw (l := [0, 1, 2, 3, 4, 5, 6, 7, 8, 9, 10, 11, 12, 13, 14, 15, 16, 17]) (by kernel_rfl) 14 (KR I135 [C_s138]) qR (.ords [0, 1, 2, 3, 4, 5, 6, 7, 8, 9, 10, 11, 12, 13, 14, 15, 16, 17] [0, 1, 5, 6, 7, 8, 9, 10, 11, 12, 13, 14, 15, 2, 3, 4, 16, 17] (by kernel_rfl) (by kernel_rfl) (by kernel_rfl) (by kernel_rfl) (by kernel_rfl)) (by kernel_rfl) (KR.cons (hS143.rd (List.Mem.head _)) (KR.nil hS143.im)) ?_
          generalize World.drew _ = w144 at *
          refine WO.vals [(0, 113, (.slice a_p0 s138.length c_p0)), (1, 114, (.int .i64 s137)), (2, 115, (.slice a_p0 s138.length c_p0)), (3, 116, (.int .i64 s137)), (4, 117, (.int .i64 (w64 (s137 - 1)))), (5, 118, (.slice a_p0 s138.length c_p0)), (6, 119, (.int .i64 s137)), (7, 120, (.int .i64 (w64 (s137 - 1))))] (by kernel_rfl) (fun _ => by kernel_rfl) ?_
          obtain ⟨x145, hx_x145, hr1⟩ := bind_some hr1
          obtain ⟨h0_x145, h1_x145, hx_x145⟩ := idx_some hx_x145
          obtain ⟨ha_x145, cs_x145, hn_x145, hr_x145, hc_x145⟩ := (h_s138.sl).el _ _ hx_x145
          obtain rfl := hr_x145
          refine WO.indexAddr (e := 28) (sz := 2) rfl (by kernel_rfl) (by kernel_rfl) (by kernel_rfl) rfl ha_x145 rfl h0_x145 h1_x145 ?_
          refine WO.loadN rfl (by kernel_rfl) (by kernel_rfl) rfl [(.string x145.Path), (.int .i64 x145.Mode)] (by kernel_rfl) (fun w' hw' => hc_x145.cells (k := 0) rfl rfl ((rd_c (List.Mem.head _) (hS143.rd (List.Mem.head _))) w' hw')) ?_
          refine WO.vals [(10, 123, (.slice a_p0 s138.length c_p0)), (11, 124, (.int .i64 s137))] (by kernel_rfl) (fun _ => by kernel_rfl) ?_
          obtain ⟨x146, hx_x146, hr1⟩ := bind_some hr1
          obtain ⟨h0_x146, h1_x146, hx_x146⟩ := idx_some hx_x146
          obtain ⟨ha_x146, cs_x146, hn_x146, hr_x146, hc_x146⟩ := (h_s138.sl).el _ _ hx_x146
          obtain rfl := hr_x146
          refine WO.indexAddr (e := 28) (sz := 2) rfl (by kernel_rfl) (by kernel_rfl) (by kernel_rfl) rfl ha_x146 rfl h0_x146 h1_x146 ?_
          refine WO.loadN rfl (by kernel_rfl) (by kernel_rfl) rfl [(.string x146.Path), (.int .i64 x146.Mode)] (by kernel_rfl) (fun w' hw' => hc_x146.cells (k := 0) rfl rfl ((rd_c (List.Mem.head _) (hS143.rd (List.Mem.head _))) w' hw')) ?_
          refine WO.tail rfl ?_
          obtain ⟨x147, hx_x147, hr1⟩ := bind_some hr1
          obtain ⟨h0_x147, h1_x147, hx_x147⟩ := idx_some hx_x147
          obtain ⟨ha_x147, cs_x147, hn_x147, hr_x147, hc_x147⟩ := (h_s138.sl).el _ _ hx_x147
          obtain rfl := hr_x147
          refine WO.indexAddr (e := 28) (sz := 2) rfl (by kernel_rfl) (by kernel_rfl) (by kernel_rfl) rfl ha_x147 rfl h0_x147 h1_x147 ?_
          refine WO.storeOwn hS143 h_s138 rfl (by kernel_rfl) rfl hx_x147 (u' := (⟨x145.Path, x145.Mode⟩ : api_Need)) 0 rfl rfl (by kernel_rfl) rfl rfl (fun cs hrel => (by obtain rfl := hrel; exact rfl)) (fun _ _ _ => trivial) ?_
          intro w149 C150 hS148 ho151
          refine WO.reslot 0 rfl (show Value.slice a_p0 s138.length c_p0 = Value.slice a_p0 (s138.set (s137).toNat (⟨x145.Path, x145.Mode⟩ : api_Need)).length c_p0 by simp only [List.length_set]) ?_
          refine WO.reslot 115 rfl (show Value.slice a_p0 s138.length c_p0 = Value.slice a_p0 (s138.set (s137).toNat (⟨x145.Path, x145.Mode⟩ : api_Need)).length c_p0 by simp only [List.length_set]) ?_
          obtain ⟨x152, hx_x152, hr1⟩ := bind_some hr1
          obtain ⟨h0_x152, h1_x152, hx_x152⟩ := idx_some hx_x152
          obtain ⟨ha_x152, cs_x152, hn_x152, hr_x152, hc_x152⟩ := (ho151.sl).el _ _ hx_x152
          obtain rfl := hr_x152
          refine WO.indexAddr (e := 28) (sz := 2) rfl (by kernel_rfl) (by kernel_rfl) (by kernel_rfl) rfl ha_x152 rfl h0_x152 h1_x152 ?_
          refine WO.storeOwn hS148 ho151 rfl (by kernel_rfl) rfl hx_x152 (u' := (⟨x146.Path, x146.Mode⟩ : api_Need)) 0 rfl rfl (by kernel_rfl) rfl rfl (fun cs hrel => (by obtain rfl := hrel; exact rfl)) (fun _ _ _ => trivial) ?_
          intro w154 C155 hS153 ho156
          refine WO.reslot 0 rfl (show Value.slice a_p0 (s138.set (s137).toNat (⟨x145.Path, x145.Mode⟩ : api_Need)).length c_p0 = Value.slice a_p0 ((s138.set (s137).toNat (⟨x145.Path, x145.Mode⟩ : api_Need)).set ((w64 (s137 - 1))).toNat (⟨x146.Path, x146.Mode⟩ : api_Need)).length c_p0 by simp only [List.length_set]) ?_
          refine WO.nil ?_
          refine En.in_normal ?_
          refine En.next ?_
          refine W.region (l := [0, 1, 2]) (by kernel_rfl) ?_
          refine WO.vals [(0, 111, (.int .i64 s137)), (1, 112, (.int .i64 (w64 (s137 - 1)))), (2, 17, (.int .i64 (w64 (s137 - 1))))] (by kernel_rfl) (fun _ => by kernel_rfl) ?_
          refine WO.nil ?_
          refine En.weaken (fr' := [(0, (.slice a_p0 ((s138.set (s137).toNat (⟨x145.Path, x145.Mode⟩ : api_Need)).set ((w64 (s137 - 1))).toNat (⟨x146.Path, x146.Mode⟩ : api_Need)).length c_p0)), (14, (.int .i64 s83)), (17, (.int .i64 (w64 (s137 - 1))))]) (En.round ⟨((w64 (s137 - 1)), ((s138.set (s137).toNat (⟨x145.Path, x145.Mode⟩ : api_Need)).set ((w64 (s137 - 1))).toNat (⟨x146.Path, x146.Mode⟩ : api_Need))), (Option.some.inj hr1).symm, I135, C155, rfl, hl136, hS153, ho156, (List.length_set.trans (List.length_set.trans hn_s138))⟩) (Sub.cons rfl (Sub.cons rfl (Sub.cons rfl Sub.nil)))
        · replace hr1 := cond_f hc hr1
          refine W.exit ?_
          refine En.nx_exit ?_
          refine En.rd_exit ?_
          have ht := hext134 _ (Option.some.inj hr1).symm
          subst t134
          refine En.in_hit ?_
          refine En.next ?_
          refine W.ret ?_
          refine En.nx_ret ?_
          have he := Option.some.inj hr
          subst r
          exact En.ret0 rfl ⟨I135, C_s138, rfl, (hl82.trans hl136), hS141, h_s138, hn_s138⟩
    · replace hr := cond_f hc hr
      refine W.skip ?_
      refine En.next ?_
      refine W.seq ?_
      refine W.region (l := [0, 1, 2, 3, 4, 5, 6]) (by kernel_rfl) ?_
      refine WO.vals [(0, 129, (.int .i64 p1)), (1, 130, (.int .i64 p3)), (2, 131, (.int .i64 (w64 (p1 + p3)))), (3, 132, (.int .u64 (IntKind.wrap .u64 (w64 (p1 + p3))))), (4, 133, (.int .u64 (Int.fdiv (IntKind.wrap .u64 (w64 (p1 + p3))) (2 ^ 1)))), (5, 134, (.int .i64 (w64 (Int.fdiv (IntKind.wrap .u64 (w64 (p1 + p3))) (2 ^ 1))))), (6, 18, (.int .i64 (w64 (Int.fdiv (IntKind.wrap .u64 (w64 (p1 + p3))) (2 ^ 1)))))] (by kernel_rfl) (fun _ => by kernel_rfl) ?_
      refine WO.nil ?_
      refine En.next ?_
      refine W.seq ?_
      refine W.region (l := [0, 1, 2, 3]) (by kernel_rfl) ?_
      refine WO.vals [(0, 135, (.int .i64 (w64 (Int.fdiv (IntKind.wrap .u64 (w64 (p1 + p3))) (2 ^ 1))))), (1, 136, (.int .i64 p2)), (2, 137, (.int .i64 (w64 ((w64 (Int.fdiv (IntKind.wrap .u64 (w64 (p1 + p3))) (2 ^ 1))) + p2)))), (3, 19, (.int .i64 (w64 ((w64 (Int.fdiv (IntKind.wrap .u64 (w64 (p1 + p3))) (2 ^ 1))) + p2))))] (by kernel_rfl) (fun _ => by kernel_rfl) ?_
      refine WO.nil ?_
      refine En.next ?_
      refine W.seq ?_
      refine W.region (l := [0, 1]) (by kernel_rfl) ?_
      refine WO.vals [(0, 20, (.int .i64 0)), (1, 21, (.int .i64 0))] (by kernel_rfl) (fun _ => by kernel_rfl) ?_
      refine WO.nil ?_
      refine En.next ?_
      refine W.seq ?_
      refine W.seq ?_
      refine W.region (l := [0, 1, 2]) (by kernel_rfl) ?_
      refine WO.vals [(0, 138, (.int .i64 p2)), (1, 139, (.int .i64 (w64 (Int.fdiv (IntKind.wrap .u64 (w64 (p1 + p3))) (2 ^ 1))))), (2, 140, (.bool (decide (p2 > (w64 (Int.fdiv (IntKind.wrap .u64 (w64 (p1 + p3))) (2 ^ 1)))))))] (by kernel_rfl) (fun _ => by kernel_rfl) ?_
      refine WO.nil ?_
      refine En.next ?_
      obtain ⟨j159, hr1, hr⟩ := bind_some hr
      refine W.join (J := (fun fr w => ∃ (s163 : Int), ∃ (s164 : Int), ∃ (I161 : Mem), (s163, s164) = j159 ∧ fr = [(0, (.slice a_p0 p0.length c_p0)), (1, (.int .i64 p1)), (2, (.int .i64 p2)), (3, (.int .i64 p3)), (4, (.func (.func g_p4) #[] k_p4.toArray)), (18, (.int .i64 (w64 (Int.fdiv (IntKind.wrap .u64 (w64 (p1 + p3))) (2 ^ 1))))), (19, (.int .i64 (w64 ((w64 (Int.fdiv (IntKind.wrap .u64 (w64 (p1 + p3))) (2 ^ 1))) + p2)))), (20, (.int .i64 s163)), (21, (.int .i64 s164))] ∧ I.Le I161 ∧ St E w I161 ((C_p0) :: Os))) ?restj159 ?waysj159
      case waysj159 =>
        refine W.cond (b := (decide (p2 > (w64 (Int.fdiv (IntKind.wrap .u64 (w64 (p1 + p3))) (2 ^ 1)))))) rfl rfl (fun hc => ?_) (fun hc => ?_)
        · replace hr1 := cond_t hc hr1
          refine W.seq ?_
          refine W.region (l := [0, 1, 2, 3]) (by kernel_rfl) ?_
          refine WO.vals [(0, 141, (.int .i64 (w64 ((w64 (Int.fdiv (IntKind.wrap .u64 (w64 (p1 + p3))) (2 ^ 1))) + p2)))), (1, 142, (.int .i64 p3)), (2, 143, (.int .i64 (w64 ((w64 ((w64 (Int.fdiv (IntKind.wrap .u64 (w64 (p1 + p3))) (2 ^ 1))) + p2)) - p3)))), (3, 20, (.int .i64 (w64 ((w64 ((w64 (Int.fdiv (IntKind.wrap .u64 (w64 (p1 + p3))) (2 ^ 1))) + p2)) - p3))))] (by kernel_rfl) (fun _ => by kernel_rfl) ?_
          refine WO.nil ?_
          refine En.next ?_
          refine W.region (l := [0, 1]) (by kernel_rfl) ?_
          refine WO.vals [(0, 144, (.int .i64 (w64 (Int.fdiv (IntKind.wrap .u64 (w64 (p1 + p3))) (2 ^ 1))))), (1, 21, (.int .i64 (w64 (Int.fdiv (IntKind.wrap .u64 (w64 (p1 + p3))) (2 ^ 1)))))] (by kernel_rfl) (fun _ => by kernel_rfl) ?_
          refine WO.nil ?_
          refine En.weaken (fr' := [(0, (.slice a_p0 p0.length c_p0)), (1, (.int .i64 p1)), (2, (.int .i64 p2)), (3, (.int .i64 p3)), (4, (.func (.func g_p4) #[] k_p4.toArray)), (18, (.int .i64 (w64 (Int.fdiv (IntKind.wrap .u64 (w64 (p1 + p3))) (2 ^ 1))))), (19, (.int .i64 (w64 ((w64 (Int.fdiv (IntKind.wrap .u64 (w64 (p1 + p3))) (2 ^ 1))) + p2)))), (20, (.int .i64 (w64 ((w64 ((w64 (Int.fdiv (IntKind.wrap .u64 (w64 (p1 + p3))) (2 ^ 1))) + p2)) - p3)))), (21, (.int .i64 (w64 (Int.fdiv (IntKind.wrap .u64 (w64 (p1 + p3))) (2 ^ 1)))))]) (En.round ⟨(w64 ((w64 ((w64 (Int.fdiv (IntKind.wrap .u64 (w64 (p1 + p3))) (2 ^ 1))) + p2)) - p3)), (w64 (Int.fdiv (IntKind.wrap .u64 (w64 (p1 + p3))) (2 ^ 1))), I, Option.some.inj hr1, rfl, Mem.Le.refl _, hS⟩) (Sub.cons rfl (Sub.cons rfl (Sub.cons rfl (Sub.cons rfl (Sub.cons rfl (Sub.cons rfl (Sub.cons rfl (Sub.cons rfl (Sub.cons rfl Sub.nil)))))))))
        · replace hr1 := cond_f hc hr1
          refine W.seq ?_
          refine W.region (l := [0, 1]) (by kernel_rfl) ?_
          refine WO.vals [(0, 145, (.int .i64 p1)), (1, 20, (.int .i64 p1))] (by kernel_rfl) (fun _ => by kernel_rfl) ?_
          refine WO.nil ?_
          refine En.next ?_
          refine W.region (l := [0, 1]) (by kernel_rfl) ?_
          refine WO.vals [(0, 146, (.int .i64 p2)), (1, 21, (.int .i64 p2))] (by kernel_rfl) (fun _ => by kernel_rfl) ?_
          refine WO.nil ?_
          refine En.weaken (fr' := [(0, (.slice a_p0 p0.length c_p0)), (1, (.int .i64 p1)), (2, (.int .i64 p2)), (3, (.int .i64 p3)), (4, (.func (.func g_p4) #[] k_p4.toArray)), (18, (.int .i64 (w64 (Int.fdiv (IntKind.wrap .u64 (w64 (p1 + p3))) (2 ^ 1))))), (19, (.int .i64 (w64 ((w64 (Int.fdiv (IntKind.wrap .u64 (w64 (p1 + p3))) (2 ^ 1))) + p2)))), (20, (.int .i64 p1)), (21, (.int .i64 p2))]) (En.round ⟨p1, p2, I, Option.some.inj hr1, rfl, Mem.Le.refl _, hS⟩) (Sub.cons rfl (Sub.cons rfl (Sub.cons rfl (Sub.cons rfl (Sub.cons rfl (Sub.cons rfl (Sub.cons rfl (Sub.cons rfl (Sub.cons rfl Sub.nil)))))))))
      case restj159 =>
        rintro _ w165 ⟨s163, s164, I161, rfl, rfl, hl162, hS166⟩
        refine En.next ?_
        refine W.seq ?_
        refine W.region (l := [0, 1, 2]) (by kernel_rfl) ?_
        refine WO.vals [(0, 147, (.int .i64 (w64 ((w64 (Int.fdiv (IntKind.wrap .u64 (w64 (p1 + p3))) (2 ^ 1))) + p2)))), (1, 148, (.int .i64 (w64 ((w64 ((w64 (Int.fdiv (IntKind.wrap .u64 (w64 (p1 + p3))) (2 ^ 1))) + p2)) - 1)))), (2, 22, (.int .i64 (w64 ((w64 ((w64 (Int.fdiv (IntKind.wrap .u64 (w64 (p1 + p3))) (2 ^ 1))) + p2)) - 1))))] (by kernel_rfl) (fun _ => by kernel_rfl) ?_
        refine WO.nil ?_
        refine En.next ?_
        refine W.seq ?_
        refine W.block ?_
        obtain ⟨t167, hloop172, hr⟩ := bind_some hr
        refine W.weaken (fr' := [(0, (.slice a_p0 p0.length c_p0)), (1, (.int .i64 p1)), (2, (.int .i64 p2)), (3, (.int .i64 p3)), (4, (.func (.func g_p4) #[] k_p4.toArray)), (18, (.int .i64 (w64 (Int.fdiv (IntKind.wrap .u64 (w64 (p1 + p3))) (2 ^ 1))))), (19, (.int .i64 (w64 ((w64 (Int.fdiv (IntKind.wrap .u64 (w64 (p1 + p3))) (2 ^ 1))) + p2)))), (20, (.int .i64 s163)), (21, (.int .i64 s164)), (22, (.int .i64 (w64 ((w64 ((w64 (Int.fdiv (IntKind.wrap .u64 (w64 (p1 + p3))) (2 ^ 1))) + p2)) - 1))))]) (W.loopO hloop172 (fun (s : Int × Int) fr w => match s with | (s170, s171) => ∃ (I168 : Mem), fr = [(0, (.slice a_p0 p0.length c_p0)), (1, (.int .i64 p1)), (2, (.int .i64 p2)), (3, (.int .i64 p3)), (4, (.func (.func g_p4) #[] k_p4.toArray)), (18, (.int .i64 (w64 (Int.fdiv (IntKind.wrap .u64 (w64 (p1 + p3))) (2 ^ 1))))), (19, (.int .i64 (w64 ((w64 (Int.fdiv (IntKind.wrap .u64 (w64 (p1 + p3))) (2 ^ 1))) + p2)))), (20, (.int .i64 s170)), (21, (.int .i64 s171)), (22, (.int .i64 (w64 ((w64 ((w64 (Int.fdiv (IntKind.wrap .u64 (w64 (p1 + p3))) (2 ^ 1))) + p2)) - 1))))] ∧ I161.Le I168 ∧ St E w I168 ((C_p0) :: Os)) ⟨I161, rfl, Mem.Le.refl _, hS166⟩ ?_) (Sub.cons rfl (Sub.cons rfl (Sub.cons rfl (Sub.cons rfl (Sub.cons rfl (Sub.cons rfl (Sub.cons rfl (Sub.cons rfl (Sub.cons rfl (Sub.cons rfl Sub.nil))))))))))
        rintro ⟨s170, s171⟩ _ w173 ⟨I168, rfl, hl169, hS174⟩ x175 hr1 hext167
        refine W.seq ?_
        refine W.seq ?_
        refine W.region (l := [0, 1, 2]) (by kernel_rfl) ?_
        refine WO.vals [(0, 149, (.int .i64 s170)), (1, 150, (.int .i64 s171)), (2, 151, (.bool (decide (s170 < s171))))] (by kernel_rfl) (fun _ => by kernel_rfl) ?_
        refine WO.nil ?_
        refine En.next ?_
        refine W.cond (b := (decide (s170 < s171))) rfl rfl (fun hc => ?_) (fun hc => ?_)
        · replace hr1 := cond_t hc hr1
          refine W.skip ?_
          refine En.next ?_
          refine W.block ?_
          refine W.seq ?_
          refine W.region (l := [0, 1, 2, 3, 4, 5, 6]) (by kernel_rfl) ?_
          refine WO.vals [(0, 152, (.int .i64 s170)), (1, 153, (.int .i64 s171)), (2, 154, (.int .i64 (w64 (s170 + s171)))), (3, 155, (.int .u64 (IntKind.wrap .u64 (w64 (s170 + s171))))), (4, 156, (.int .u64 (Int.fdiv (IntKind.wrap .u64 (w64 (s170 + s171))) (2 ^ 1)))), (5, 157, (.int .i64 (w64 (Int.fdiv (IntKind.wrap .u64 (w64 (s170 + s171))) (2 ^ 1))))), (6, 23, (.int .i64 (w64 (Int.fdiv (IntKind.wrap .u64 (w64 (s170 + s171))) (2 ^ 1)))))] (by kernel_rfl) (fun _ => by kernel_rfl) ?_
          refine WO.nil ?_
          refine En.next ?_
          refine W.seq ?_
          have hS176 := hS174.drew
          refine W.draw (l := [0, 1, 2, 3, 4, 5, 6, 7, 8, 9, 10, 11, 12, 13]) (by kernel_rfl) 11 (KR I168 [C_p0]) qR (.back (by kernel_rfl)) (by kernel_rfl) (KR.cons (hS176.rd (List.Mem.head _)) (KR.nil hS176.im)) ?_
          generalize World.drew _ = w177 at *
          refine WO.vals [(0, 158, (.func (.func g_p4) #[] k_p4.toArray)), (1, 159, (.slice a_p0 p0.length c_p0)), (2, 160, (.int .i64 (w64 ((w64 ((w64 (Int.fdiv (IntKind.wrap .u64 (w64 (p1 + p3))) (2 ^ 1))) + p2)) - 1)))), (3, 161, (.int .i64 (w64 (Int.fdiv (IntKind.wrap .u64 (w64 (s170 + s171))) (2 ^ 1))))), (4, 162, (.int .i64 (w64 ((w64 ((w64 ((w64 (Int.fdiv (IntKind.wrap .u64 (w64 (p1 + p3))) (2 ^ 1))) + p2)) - 1)) - (w64 (Int.fdiv (IntKind.wrap .u64 (w64 (s170 + s171))) (2 ^ 1)))))))] (by kernel_rfl) (fun _ => by kernel_rfl) ?_
          obtain ⟨x178, hx_x178, hr1⟩ := bind_some hr1
          obtain ⟨h0_x178, h1_x178, hx_x178⟩ := idx_some hx_x178
          obtain ⟨ha_x178, cs_x178, hn_x178, hr_x178, hc_x178⟩ := ((h_p0.mono (hl162.trans hl169)).sl).el _ _ hx_x178
          obtain rfl := hr_x178
          refine WO.indexAddr (e := 28) (sz := 2) rfl (by kernel_rfl) (by kernel_rfl) (by kernel_rfl) rfl ha_x178 rfl h0_x178 h1_x178 ?_
          refine WO.loadN rfl (by kernel_rfl) (by kernel_rfl) rfl [(.string x178.Path), (.int .i64 x178.Mode)] (by kernel_rfl) (fun w' hw' => hc_x178.cells (k := 0) rfl rfl ((rd_c (List.Mem.head _) (hS176.rd (List.Mem.head _))) w' hw')) ?_
          refine WO.vals [(7, 165, (.slice a_p0 p0.length c_p0)), (8, 166, (.int .i64 (w64 (Int.fdiv (IntKind.wrap .u64 (w64 (s170 + s171))) (2 ^ 1)))))] (by kernel_rfl) (fun _ => by kernel_rfl) ?_
          obtain ⟨x179, hx_x179, hr1⟩ := bind_some hr1
          obtain ⟨h0_x179, h1_x179, hx_x179⟩ := idx_some hx_x179
          obtain ⟨ha_x179, cs_x179, hn_x179, hr_x179, hc_x179⟩ := ((h_p0.mono (hl162.trans hl169)).sl).el _ _ hx_x179
          obtain rfl := hr_x179
          refine WO.indexAddr (e := 28) (sz := 2) rfl (by kernel_rfl) (by kernel_rfl) (by kernel_rfl) rfl ha_x179 rfl h0_x179 h1_x179 ?_
          refine WO.loadN rfl (by kernel_rfl) (by kernel_rfl) rfl [(.string x179.Path), (.int .i64 x179.Mode)] (by kernel_rfl) (fun w' hw' => hc_x179.cells (k := 0) rfl rfl ((rd_c (List.Mem.head _) (hS176.rd (List.Mem.head _))) w' hw')) ?_
          refine WO.tail rfl ?_
          obtain ⟨r185, hx_r180, hr1⟩ := bind_some hr1
          refine WO.callv rfl (by kernel_rfl) rfl (g := g_p4) (kk := k_p4) (args := [(.agg #[(.string x178.Path), (.int .i64 x178.Mode)]), (.agg #[(.string x179.Path), (.int .i64 x179.Mode)])]) rfl (by kernel_rfl) hcall_p4 (h_p4 (F := [C_p0]) (hl162.trans hl169) hS176  hx_r180) ?_
          rintro _ w181 ⟨I182, rfl, hl183, hS184⟩
          refine ⟨_, rfl, trivial, ?_⟩
          refine WO.vals [(12, 170, (.bool (decide (r185 < 0)))), (13, 171, (.bool (!(decide (r185 < 0)))))] (by kernel_rfl) (fun _ => by kernel_rfl) ?_
          refine WO.nil ?_
          refine En.next ?_
          obtain ⟨j186, hr2, hr1⟩ := bind_some hr1
          refine W.join (J := (fun fr w => ∃ (s190 : Int), ∃ (s191 : Int), ∃ (I188 : Mem), (s190, s191) = j186 ∧ fr = [(0, (.slice a_p0 p0.length c_p0)), (1, (.int .i64 p1)), (2, (.int .i64 p2)), (3, (.int .i64 p3)), (4, (.func (.func g_p4) #[] k_p4.toArray)), (18, (.int .i64 (w64 (Int.fdiv (IntKind.wrap .u64 (w64 (p1 + p3))) (2 ^ 1))))), (19, (.int .i64 (w64 ((w64 (Int.fdiv (IntKind.wrap .u64 (w64 (p1 + p3))) (2 ^ 1))) + p2)))), (20, (.int .i64 s190)), (21, (.int .i64 s191)), (22, (.int .i64 (w64 ((w64 ((w64 (Int.fdiv (IntKind.wrap .u64 (w64 (p1 + p3))) (2 ^ 1))) + p2)) - 1))))] ∧ I182.Le I188 ∧ St E w I188 ((C_p0) :: Os))) ?restj186 ?waysj186
          case waysj186 =>
            refine W.cond (b := (!(decide (r185 < 0)))) rfl rfl (fun hc => ?_) (fun hc => ?_)
            · replace hr2 := cond_t hc hr2
              refine W.region (l := [0, 1, 2]) (by kernel_rfl) ?_
              refine WO.vals [(0, 172, (.int .i64 (w64 (Int.fdiv (IntKind.wrap .u64 (w64 (s170 + s171))) (2 ^ 1))))), (1, 173, (.int .i64 (w64 ((w64 (Int.fdiv (IntKind.wrap .u64 (w64 (s170 + s171))) (2 ^ 1))) + 1)))), (2, 20, (.int .i64 (w64 ((w64 (Int.fdiv (IntKind.wrap .u64 (w64 (s170 + s171))) (2 ^ 1))) + 1))))] (by kernel_rfl) (fun _ => by kernel_rfl) ?_
              refine WO.nil ?_
              refine En.weaken (fr' := [(0, (.slice a_p0 p0.length c_p0)), (1, (.int .i64 p1)), (2, (.int .i64 p2)), (3, (.int .i64 p3)), (4, (.func (.func g_p4) #[] k_p4.toArray)), (18, (.int .i64 (w64 (Int.fdiv (IntKind.wrap .u64 (w64 (p1 + p3))) (2 ^ 1))))), (19, (.int .i64 (w64 ((w64 (Int.fdiv (IntKind.wrap .u64 (w64 (p1 + p3))) (2 ^ 1))) + p2)))), (20, (.int .i64 (w64 ((w64 (Int.fdiv (IntKind.wrap .u64 (w64 (s170 + s171))) (2 ^ 1))) + 1)))), (21, (.int .i64 s171)), (22, (.int .i64 (w64 ((w64 ((w64 (Int.fdiv (IntKind.wrap .u64 (w64 (p1 + p3))) (2 ^ 1))) + p2)) - 1))))]) (En.round ⟨(w64 ((w64 (Int.fdiv (IntKind.wrap .u64 (w64 (s170 + s171))) (2 ^ 1))) + 1)), s171, I182, Option.some.inj hr2, rfl, Mem.Le.refl _, hS184⟩) (Sub.cons rfl (Sub.cons rfl (Sub.cons rfl (Sub.cons rfl (Sub.cons rfl (Sub.cons rfl (Sub.cons rfl (Sub.cons rfl (Sub.cons rfl (Sub.cons rfl Sub.nil))))))))))
            · replace hr2 := cond_f hc hr2
              refine W.region (l := [0, 1]) (by kernel_rfl) ?_
              refine WO.vals [(0, 174, (.int .i64 (w64 (Int.fdiv (IntKind.wrap .u64 (w64 (s170 + s171))) (2 ^ 1))))), (1, 21, (.int .i64 (w64 (Int.fdiv (IntKind.wrap .u64 (w64 (s170 + s171))) (2 ^ 1)))))] (by kernel_rfl) (fun _ => by kernel_rfl) ?_
              refine WO.nil ?_
              refine En.weaken (fr' := [(0, (.slice a_p0 p0.length c_p0)), (1, (.int .i64 p1)), (2, (.int .i64 p2)), (3, (.int .i64 p3)), (4, (.func (.func g_p4) #[] k_p4.toArray)), (18, (.int .i64 (w64 (Int.fdiv (IntKind.wrap .u64 (w64 (p1 + p3))) (2 ^ 1))))), (19, (.int .i64 (w64 ((w64 (Int.fdiv (IntKind.wrap .u64 (w64 (p1 + p3))) (2 ^ 1))) + p2)))), (20, (.int .i64 s170)), (21, (.int .i64 (w64 (Int.fdiv (IntKind.wrap .u64 (w64 (s170 + s171))) (2 ^ 1))))), (22, (.int .i64 (w64 ((w64 ((w64 (Int.fdiv (IntKind.wrap .u64 (w64 (p1 + p3))) (2 ^ 1))) + p2)) - 1))))]) (En.round ⟨s170, (w64 (Int.fdiv (IntKind.wrap .u64 (w64 (s170 + s171))) (2 ^ 1))), I182, Option.some.inj hr2, rfl, Mem.Le.refl _, hS184⟩) (Sub.cons rfl (Sub.cons rfl (Sub.cons rfl (Sub.cons rfl (Sub.cons rfl (Sub.cons rfl (Sub.cons rfl (Sub.cons rfl (Sub.cons rfl (Sub.cons rfl Sub.nil))))))))))
          case restj186 =>
            rintro _ w192 ⟨s190, s191, I188, rfl, rfl, hl189, hS193⟩
            refine En.in_normal ?_
            refine En.weaken (fr' := [(0, (.slice a_p0 p0.length c_p0)), (1, (.int .i64 p1)), (2, (.int .i64 p2)), (3, (.int .i64 p3)), (4, (.func (.func g_p4) #[] k_p4.toArray)), (18, (.int .i64 (w64 (Int.fdiv (IntKind.wrap .u64 (w64 (p1 + p3))) (2 ^ 1))))), (19, (.int .i64 (w64 ((w64 (Int.fdiv (IntKind.wrap .u64 (w64 (p1 + p3))) (2 ^ 1))) + p2)))), (20, (.int .i64 s190)), (21, (.int .i64 s191)), (22, (.int .i64 (w64 ((w64 ((w64 (Int.fdiv (IntKind.wrap .u64 (w64 (p1 + p3))) (2 ^ 1))) + p2)) - 1))))]) (En.round ⟨(s190, s191), (Option.some.inj hr1).symm, I188, rfl, ((hl169.trans hl183).trans hl189), hS193⟩) (Sub.cons rfl (Sub.cons rfl (Sub.cons rfl (Sub.cons rfl (Sub.cons rfl (Sub.cons rfl (Sub.cons rfl (Sub.cons rfl (Sub.cons rfl (Sub.cons rfl Sub.nil))))))))))
        · replace hr1 := cond_f hc hr1
          refine W.exit ?_
          refine En.nx_exit ?_
          refine En.rd_exit ?_
          have ht := hext167 _ (Option.some.inj hr1).symm
          subst t167
          refine En.in_hit ?_
          refine En.next ?_
          refine W.seq ?_
          refine W.region (l := [0, 1, 2, 3]) (by kernel_rfl) ?_
          refine WO.vals [(0, 175, (.int .i64 (w64 ((w64 (Int.fdiv (IntKind.wrap .u64 (w64 (p1 + p3))) (2 ^ 1))) + p2)))), (1, 176, (.int .i64 s170)), (2, 177, (.int .i64 (w64 ((w64 ((w64 (Int.fdiv (IntKind.wrap .u64 (w64 (p1 + p3))) (2 ^ 1))) + p2)) - s170)))), (3, 24, (.int .i64 (w64 ((w64 ((w64 (Int.fdiv (IntKind.wrap .u64 (w64 (p1 + p3))) (2 ^ 1))) + p2)) - s170))))] (by kernel_rfl) (fun _ => by kernel_rfl) ?_
          refine WO.nil ?_
          refine En.next ?_
          refine W.seq ?_
          refine W.seq ?_
          refine W.region (l := [0, 1, 2, 3, 4, 5, 6, 7]) (by kernel_rfl) ?_
          refine WO.vals [(0, 178, (.int .i64 s170)), (1, 179, (.int .i64 p2)), (2, 180, (.bool (decide (s170 < p2)))), (3, 181, (.bool (decide (s170 < p2))))] (by kernel_rfl) (fun _ => by kernel_rfl) ?_
          refine WO.join (l1 := [4, 5, 6, 7]) (l2 := []) (J := fun frx wx => frx = [(185, (.bool ((decide (s170 < p2)) && (decide (p2 < (w64 ((w64 ((w64 (Int.fdiv (IntKind.wrap .u64 (w64 (p1 + p3))) (2 ^ 1))) + p2)) - s170))))))), (0, (.slice a_p0 p0.length c_p0)), (1, (.int .i64 p1)), (2, (.int .i64 p2)), (3, (.int .i64 p3)), (4, (.func (.func g_p4) #[] k_p4.toArray)), (18, (.int .i64 (w64 (Int.fdiv (IntKind.wrap .u64 (w64 (p1 + p3))) (2 ^ 1))))), (20, (.int .i64 s170)), (24, (.int .i64 (w64 ((w64 ((w64 (Int.fdiv (IntKind.wrap .u64 (w64 (p1 + p3))) (2 ^ 1))) + p2)) - s170))))] ∧ wx = w173) ?restm238 ?waysm238
          case waysm238 =>
            refine WO.caseb (decide (s170 < p2)) (fun hc => ?_) (fun hc => ?_)
            · skip
              refine WO.reslot 181 rfl (show Value.bool (decide (s170 < p2)) = Value.bool true by rw [hc]) ?_
              refine WO.vals [(4, 182, (.int .i64 p2)), (5, 183, (.int .i64 (w64 ((w64 ((w64 (Int.fdiv (IntKind.wrap .u64 (w64 (p1 + p3))) (2 ^ 1))) + p2)) - s170)))), (6, 184, (.bool (decide (p2 < (w64 ((w64 ((w64 (Int.fdiv (IntKind.wrap .u64 (w64 (p1 + p3))) (2 ^ 1))) + p2)) - s170)))))), (7, 185, (.bool (decide (p2 < (w64 ((w64 ((w64 (Int.fdiv (IntKind.wrap .u64 (w64 (p1 + p3))) (2 ^ 1))) + p2)) - s170))))))] (by kernel_rfl) (fun _ => by kernel_rfl) ?_
              refine WO.weaken (fr' := [(185, (.bool ((decide (s170 < p2)) && (decide (p2 < (w64 ((w64 ((w64 (Int.fdiv (IntKind.wrap .u64 (w64 (p1 + p3))) (2 ^ 1))) + p2)) - s170))))))), (0, (.slice a_p0 p0.length c_p0)), (1, (.int .i64 p1)), (2, (.int .i64 p2)), (3, (.int .i64 p3)), (4, (.func (.func g_p4) #[] k_p4.toArray)), (18, (.int .i64 (w64 (Int.fdiv (IntKind.wrap .u64 (w64 (p1 + p3))) (2 ^ 1))))), (20, (.int .i64 s170)), (24, (.int .i64 (w64 ((w64 ((w64 (Int.fdiv (IntKind.wrap .u64 (w64 (p1 + p3))) (2 ^ 1))) + p2)) - s170))))]) (WO.meet ⟨rfl, rfl⟩) (Sub.cons (by rw [hc]; rfl) (Sub.cons rfl (Sub.cons rfl (Sub.cons rfl (Sub.cons rfl (Sub.cons rfl (Sub.cons rfl (Sub.cons rfl (Sub.cons rfl Sub.nil)))))))))
            · skip
              refine WO.reslot 181 rfl (show Value.bool (decide (s170 < p2)) = Value.bool false by rw [hc]) ?_
              refine WO.pass rfl (by kernel_rfl) rfl ?_
              refine WO.pass rfl (by kernel_rfl) rfl ?_
              refine WO.pass rfl (by kernel_rfl) rfl ?_
              refine WO.vals [(7, 185, (.bool false))] (by kernel_rfl) (fun _ => by kernel_rfl) ?_
              refine WO.weaken (fr' := [(185, (.bool ((decide (s170 < p2)) && (decide (p2 < (w64 ((w64 ((w64 (Int.fdiv (IntKind.wrap .u64 (w64 (p1 + p3))) (2 ^ 1))) + p2)) - s170))))))), (0, (.slice a_p0 p0.length c_p0)), (1, (.int .i64 p1)), (2, (.int .i64 p2)), (3, (.int .i64 p3)), (4, (.func (.func g_p4) #[] k_p4.toArray)), (18, (.int .i64 (w64 (Int.fdiv (IntKind.wrap .u64 (w64 (p1 + p3))) (2 ^ 1))))), (20, (.int .i64 s170)), (24, (.int .i64 (w64 ((w64 ((w64 (Int.fdiv (IntKind.wrap .u64 (w64 (p1 + p3))) (2 ^ 1))) + p2)) - s170))))]) (WO.meet ⟨rfl, rfl⟩) (Sub.cons (by rw [hc]; rfl) (Sub.cons rfl (Sub.cons rfl (Sub.cons rfl (Sub.cons rfl (Sub.cons rfl (Sub.cons rfl (Sub.cons rfl (Sub.cons rfl Sub.nil)))))))))
          case restm238 =>
            rintro _ _ ⟨rfl, rfl⟩
            refine WO.nil ?_
            refine En.next ?_
            obtain ⟨j240, hr1, hr⟩ := bind_some hr
            refine W.join (J := (fun fr w => ∃ (I242 : Mem), ∃ (C_j240 : Mem), fr = [(0, (.slice a_p0 j240.length c_p0)), (1, (.int .i64 p1)), (3, (.int .i64 p3)), (4, (.func (.func g_p4) #[] k_p4.toArray)), (18, (.int .i64 (w64 (Int.fdiv (IntKind.wrap .u64 (w64 (p1 + p3))) (2 ^ 1))))), (20, (.int .i64 s170)), (24, (.int .i64 (w64 ((w64 ((w64 (Int.fdiv (IntKind.wrap .u64 (w64 (p1 + p3))) (2 ^ 1))) + p2)) - s170))))] ∧ I168.Le I242 ∧ St E w I242 ((C_j240) :: Os) ∧ OwnSl 28 2 R_api_Need I242 C_j240 a_p0 c_p0 j240 ∧ j240.length = p0.length)) ?restj240 ?waysj240
            case waysj240 =>
              refine W.cond (b := ((decide (s170 < p2)) && (decide (p2 < (w64 ((w64 ((w64 (Int.fdiv (IntKind.wrap .u64 (w64 (p1 + p3))) (2 ^ 1))) + p2)) - s170)))))) rfl rfl (fun hc => ?_) (fun hc => ?_)
              · replace hr1 := cond_t hc hr1
                refine W.region (l := [0, 1, 2, 3, 4, 5]) (by kernel_rfl) ?_
                refine WO.vals [(0, 186, (.slice a_p0 p0.length c_p0)), (1, 187, (.int .i64 s170)), (2, 188, (.int .i64 p2)), (3, 189, (.int .i64 (w64 ((w64 ((w64 (Int.fdiv (IntKind.wrap .u64 (w64 (p1 + p3))) (2 ^ 1))) + p2)) - s170)))), (4, 190, (.func (.func g_p4) #[] k_p4.toArray))] (by kernel_rfl) (fun _ => by kernel_rfl) ?_
                obtain ⟨r249, hx_r244, hr1⟩ := bind_some hr1
                refine WO.call rfl (by kernel_rfl) rfl (f := 28) (args := #[(.slice a_p0 p0.length c_p0), (.int .i64 s170), (.int .i64 p2), (.int .i64 (w64 ((w64 ((w64 (Int.fdiv (IntKind.wrap .u64 (w64 (p1 + p3))) (2 ^ 1))) + p2)) - s170))), (.func (.func g_p4) #[] k_p4.toArray)]) (by kernel_rfl) (slices_rotateCmpFunc_registrar_api_Need_ok (OwnSl.mono h_p0 (hl162.trans hl169)) (fun {F Ic wc} {_} {_} hlc hSc  {rc} hrc => h_p4 ((hl162.trans hl169).trans hlc) hSc  hrc) hcall_p4 hS174 hx_r244) ?_
                rintro _ w245 ⟨I246, C_r249, rfl, hl247, hS248, h_r249, hn_r249⟩
                refine ⟨_, rfl, trivial, ?_⟩
                refine WO.reslot 0 rfl (show Value.slice a_p0 p0.length c_p0 = Value.slice a_p0 r249.length c_p0 by rw [hn_r249]) ?_
                refine WO.reslot 186 rfl (show Value.slice a_p0 p0.length c_p0 = Value.slice a_p0 r249.length c_p0 by rw [hn_r249]) ?_
                refine WO.nil ?_
                have he := Option.some.inj hr1
                subst j240
                refine En.weaken (fr' := [(0, (.slice a_p0 r249.length c_p0)), (1, (.int .i64 p1)), (3, (.int .i64 p3)), (4, (.func (.func g_p4) #[] k_p4.toArray)), (18, (.int .i64 (w64 (Int.fdiv (IntKind.wrap .u64 (w64 (p1 + p3))) (2 ^ 1))))), (20, (.int .i64 s170)), (24, (.int .i64 (w64 ((w64 ((w64 (Int.fdiv (IntKind.wrap .u64 (w64 (p1 + p3))) (2 ^ 1))) + p2)) - s170))))]) (En.round ⟨I246, C_r249, rfl, hl247, hS248, h_r249, (hn_r249.trans rfl)⟩) (Sub.cons rfl (Sub.cons rfl (Sub.cons rfl (Sub.cons rfl (Sub.cons rfl (Sub.cons rfl (Sub.cons rfl Sub.nil)))))))
              · replace hr1 := cond_f hc hr1
                refine W.skip ?_
                have he := Option.some.inj hr1
                subst j240
                refine En.weaken (fr' := [(0, (.slice a_p0 p0.length c_p0)), (1, (.int .i64 p1)), (3, (.int .i64 p3)), (4, (.func (.func g_p4) #[] k_p4.toArray)), (18, (.int .i64 (w64 (Int.fdiv (IntKind.wrap .u64 (w64 (p1 + p3))) (2 ^ 1))))), (20, (.int .i64 s170)), (24, (.int .i64 (w64 ((w64 ((w64 (Int.fdiv (IntKind.wrap .u64 (w64 (p1 + p3))) (2 ^ 1))) + p2)) - s170))))]) (En.round ⟨I168, C_p0, rfl, Mem.Le.refl _, hS174, (OwnSl.mono h_p0 (hl162.trans hl169)), rfl⟩) (Sub.cons rfl (Sub.cons rfl (Sub.cons rfl (Sub.cons rfl (Sub.cons rfl (Sub.cons rfl (Sub.cons rfl Sub.nil)))))))
            case restj240 =>
              rintro _ w250 ⟨I242, C_j240, rfl, hl243, hS251, h_j240, hn_j240⟩
              refine En.next ?_
              refine W.seq ?_
              refine W.seq ?_
              refine W.region (l := [0, 1, 2, 3, 4, 5, 6, 7]) (by kernel_rfl) ?_
              refine WO.vals [(0, 192, (.int .i64 p1)), (1, 193, (.int .i64 s170)), (2, 194, (.bool (decide (p1 < s170)))), (3, 195, (.bool (decide (p1 < s170))))] (by kernel_rfl) (fun _ => by kernel_rfl) ?_
              refine WO.join (l1 := [4, 5, 6, 7]) (l2 := []) (J := fun frx wx => frx = [(199, (.bool ((decide (p1 < s170)) && (decide (s170 < (w64 (Int.fdiv (IntKind.wrap .u64 (w64 (p1 + p3))) (2 ^ 1)))))))), (0, (.slice a_p0 j240.length c_p0)), (1, (.int .i64 p1)), (3, (.int .i64 p3)), (4, (.func (.func g_p4) #[] k_p4.toArray)), (18, (.int .i64 (w64 (Int.fdiv (IntKind.wrap .u64 (w64 (p1 + p3))) (2 ^ 1))))), (20, (.int .i64 s170)), (24, (.int .i64 (w64 ((w64 ((w64 (Int.fdiv (IntKind.wrap .u64 (w64 (p1 + p3))) (2 ^ 1))) + p2)) - s170))))] ∧ wx = w250) ?restm252 ?waysm252
              case waysm252 =>
                refine WO.caseb (decide (p1 < s170)) (fun hc => ?_) (fun hc => ?_)
                · skip
                  refine WO.reslot 195 rfl (show Value.bool (decide (p1 < s170)) = Value.bool true by rw [hc]) ?_
                  refine WO.vals [(4, 196, (.int .i64 s170)), (5, 197, (.int .i64 (w64 (Int.fdiv (IntKind.wrap .u64 (w64 (p1 + p3))) (2 ^ 1))))), (6, 198, (.bool (decide (s170 < (w64 (Int.fdiv (IntKind.wrap .u64 (w64 (p1 + p3))) (2 ^ 1))))))), (7, 199, (.bool (decide (s170 < (w64 (Int.fdiv (IntKind.wrap .u64 (w64 (p1 + p3))) (2 ^ 1)))))))] (by kernel_rfl) (fun _ => by kernel_rfl) ?_
                  refine WO.weaken (fr' := [(199, (.bool ((decide (p1 < s170)) && (decide (s170 < (w64 (Int.fdiv (IntKind.wrap .u64 (w64 (p1 + p3))) (2 ^ 1)))))))), (0, (.slice a_p0 j240.length c_p0)), (1, (.int .i64 p1)), (3, (.int .i64 p3)), (4, (.func (.func g_p4) #[] k_p4.toArray)), (18, (.int .i64 (w64 (Int.fdiv (IntKind.wrap .u64 (w64 (p1 + p3))) (2 ^ 1))))), (20, (.int .i64 s170)), (24, (.int .i64 (w64 ((w64 ((w64 (Int.fdiv (IntKind.wrap .u64 (w64 (p1 + p3))) (2 ^ 1))) + p2)) - s170))))]) (WO.meet ⟨rfl, rfl⟩) (Sub.cons (by rw [hc]; rfl) (Sub.cons rfl (Sub.cons rfl (Sub.cons rfl (Sub.cons rfl (Sub.cons rfl (Sub.cons rfl (Sub.cons rfl Sub.nil))))))))
                · skip
                  refine WO.reslot 195 rfl (show Value.bool (decide (p1 < s170)) = Value.bool false by rw [hc]) ?_
                  refine WO.pass rfl (by kernel_rfl) rfl ?_
                  refine WO.pass rfl (by kernel_rfl) rfl ?_
                  refine WO.pass rfl (by kernel_rfl) rfl ?_
                  refine WO.vals [(7, 199, (.bool false))] (by kernel_rfl) (fun _ => by kernel_rfl) ?_
                  refine WO.weaken (fr' := [(199, (.bool ((decide (p1 < s170)) && (decide (s170 < (w64 (Int.fdiv (IntKind.wrap .u64 (w64 (p1 + p3))) (2 ^ 1)))))))), (0, (.slice a_p0 j240.length c_p0)), (1, (.int .i64 p1)), (3, (.int .i64 p3)), (4, (.func (.func g_p4) #[] k_p4.toArray)), (18, (.int .i64 (w64 (Int.fdiv (IntKind.wrap .u64 (w64 (p1 + p3))) (2 ^ 1))))), (20, (.int .i64 s170)), (24, (.int .i64 (w64 ((w64 ((w64 (Int.fdiv (IntKind.wrap .u64 (w64 (p1 + p3))) (2 ^ 1))) + p2)) - s170))))]) (WO.meet ⟨rfl, rfl⟩) (Sub.cons (by rw [hc]; rfl) (Sub.cons rfl (Sub.cons rfl (Sub.cons rfl (Sub.cons rfl (Sub.cons rfl (Sub.cons rfl (Sub.cons rfl Sub.nil))))))))
              case restm252 =>
                rintro _ _ ⟨rfl, rfl⟩
                refine WO.nil ?_
                refine En.next ?_
                obtain ⟨j254, hr1, hr⟩ := bind_some hr
                refine W.join (J := (fun fr w => ∃ (I256 : Mem), ∃ (C_j254 : Mem), fr = [(0, (.slice a_p0 j254.length c_p0)), (3, (.int .i64 p3)), (4, (.func (.func g_p4) #[] k_p4.toArray)), (18, (.int .i64 (w64 (Int.fdiv (IntKind.wrap .u64 (w64 (p1 + p3))) (2 ^ 1))))), (24, (.int .i64 (w64 ((w64 ((w64 (Int.fdiv (IntKind.wrap .u64 (w64 (p1 + p3))) (2 ^ 1))) + p2)) - s170))))] ∧ I242.Le I256 ∧ St E w I256 ((C_j254) :: Os) ∧ OwnSl 28 2 R_api_Need I256 C_j254 a_p0 c_p0 j254 ∧ j254.length = p0.length)) ?restj254 ?waysj254
                case waysj254 =>
                  refine W.cond (b := ((decide (p1 < s170)) && (decide (s170 < (w64 (Int.fdiv (IntKind.wrap .u64 (w64 (p1 + p3))) (2 ^ 1))))))) rfl rfl (fun hc => ?_) (fun hc => ?_)
                  · replace hr1 := cond_t hc hr1
                    refine W.region (l := [0, 1, 2, 3, 4, 5]) (by kernel_rfl) ?_
                    refine WO.vals [(0, 200, (.slice a_p0 j240.length c_p0)), (1, 201, (.int .i64 p1)), (2, 202, (.int .i64 s170)), (3, 203, (.int .i64 (w64 (Int.fdiv (IntKind.wrap .u64 (w64 (p1 + p3))) (2 ^ 1))))), (4, 204, (.func (.func g_p4) #[] k_p4.toArray))] (by kernel_rfl) (fun _ => by kernel_rfl) ?_
                    obtain ⟨r263, hx_r258, hr1⟩ := bind_some hr1
                    refine WO.call rfl (by kernel_rfl) rfl (f := 26) (args := #[(.slice a_p0 j240.length c_p0), (.int .i64 p1), (.int .i64 s170), (.int .i64 (w64 (Int.fdiv (IntKind.wrap .u64 (w64 (p1 + p3))) (2 ^ 1)))), (.func (.func g_p4) #[] k_p4.toArray)]) (by kernel_rfl) (ih h_j240 (fun {F Ic wc} {_} {_} hlc hSc  {rc} hrc => h_p4 (((hl162.trans hl169).trans hl243).trans hlc) hSc  hrc) hcall_p4 hS251 hx_r258) ?_
                    rintro _ w259 ⟨I260, C_r263, rfl, hl261, hS262, h_r263, hn_r263⟩
                    refine ⟨_, rfl, trivial, ?_⟩
                    refine WO.reslot 0 rfl (show Value.slice a_p0 j240.length c_p0 = Value.slice a_p0 r263.length c_p0 by rw [hn_r263]) ?_
                    refine WO.reslot 200 rfl (show Value.slice a_p0 j240.length c_p0 = Value.slice a_p0 r263.length c_p0 by rw [hn_r263]) ?_
                    refine WO.nil ?_
                    have he := Option.some.inj hr1
                    subst j254
                    refine En.weaken (fr' := [(0, (.slice a_p0 r263.length c_p0)), (3, (.int .i64 p3)), (4, (.func (.func g_p4) #[] k_p4.toArray)), (18, (.int .i64 (w64 (Int.fdiv (IntKind.wrap .u64 (w64 (p1 + p3))) (2 ^ 1))))), (24, (.int .i64 (w64 ((w64 ((w64 (Int.fdiv (IntKind.wrap .u64 (w64 (p1 + p3))) (2 ^ 1))) + p2)) - s170))))]) (En.round ⟨I260, C_r263, rfl, hl261, hS262, h_r263, (hn_r263.trans hn_j240)⟩) (Sub.cons rfl (Sub.cons rfl (Sub.cons rfl (Sub.cons rfl (Sub.cons rfl Sub.nil)))))
                  · replace hr1 := cond_f hc hr1
                    refine W.skip ?_
                    have he := Option.some.inj hr1
                    subst j254
                    refine En.weaken (fr' := [(0, (.slice a_p0 j240.length c_p0)), (3, (.int .i64 p3)), (4, (.func (.func g_p4) #[] k_p4.toArray)), (18, (.int .i64 (w64 (Int.fdiv (IntKind.wrap .u64 (w64 (p1 + p3))) (2 ^ 1))))), (24, (.int .i64 (w64 ((w64 ((w64 (Int.fdiv (IntKind.wrap .u64 (w64 (p1 + p3))) (2 ^ 1))) + p2)) - s170))))]) (En.round ⟨I242, C_j240, rfl, Mem.Le.refl _, hS251, h_j240, hn_j240⟩) (Sub.cons rfl (Sub.cons rfl (Sub.cons rfl (Sub.cons rfl (Sub.cons rfl Sub.nil)))))
                case restj254 =>
                  rintro _ w264 ⟨I256, C_j254, rfl, hl257, hS265, h_j254, hn_j254⟩
                  refine En.next ?_
                  refine W.seq ?_
                  refine W.region (l := [0, 1, 2, 3, 4, 5, 6, 7]) (by kernel_rfl) ?_
                  refine WO.vals [(0, 206, (.int .i64 (w64 (Int.fdiv (IntKind.wrap .u64 (w64 (p1 + p3))) (2 ^ 1))))), (1, 207, (.int .i64 (w64 ((w64 ((w64 (Int.fdiv (IntKind.wrap .u64 (w64 (p1 + p3))) (2 ^ 1))) + p2)) - s170)))), (2, 208, (.bool (decide ((w64 (Int.fdiv (IntKind.wrap .u64 (w64 (p1 + p3))) (2 ^ 1))) < (w64 ((w64 ((w64 (Int.fdiv (IntKind.wrap .u64 (w64 (p1 + p3))) (2 ^ 1))) + p2)) - s170)))))), (3, 209, (.bool (decide ((w64 (Int.fdiv (IntKind.wrap .u64 (w64 (p1 + p3))) (2 ^ 1))) < (w64 ((w64 ((w64 (Int.fdiv (IntKind.wrap .u64 (w64 (p1 + p3))) (2 ^ 1))) + p2)) - s170))))))] (by kernel_rfl) (fun _ => by kernel_rfl) ?_
                  refine WO.join (l1 := [4, 5, 6, 7]) (l2 := []) (J := fun frx wx => frx = [(213, (.bool ((decide ((w64 (Int.fdiv (IntKind.wrap .u64 (w64 (p1 + p3))) (2 ^ 1))) < (w64 ((w64 ((w64 (Int.fdiv (IntKind.wrap .u64 (w64 (p1 + p3))) (2 ^ 1))) + p2)) - s170)))) && (decide ((w64 ((w64 ((w64 (Int.fdiv (IntKind.wrap .u64 (w64 (p1 + p3))) (2 ^ 1))) + p2)) - s170)) < p3))))), (0, (.slice a_p0 j254.length c_p0)), (3, (.int .i64 p3)), (4, (.func (.func g_p4) #[] k_p4.toArray)), (18, (.int .i64 (w64 (Int.fdiv (IntKind.wrap .u64 (w64 (p1 + p3))) (2 ^ 1))))), (24, (.int .i64 (w64 ((w64 ((w64 (Int.fdiv (IntKind.wrap .u64 (w64 (p1 + p3))) (2 ^ 1))) + p2)) - s170))))] ∧ wx = w264) ?restm266 ?waysm266
                  case waysm266 =>
                    refine WO.caseb (decide ((w64 (Int.fdiv (IntKind.wrap .u64 (w64 (p1 + p3))) (2 ^ 1))) < (w64 ((w64 ((w64 (Int.fdiv (IntKind.wrap .u64 (w64 (p1 + p3))) (2 ^ 1))) + p2)) - s170)))) (fun hc => ?_) (fun hc => ?_)
                    · skip
                      refine WO.reslot 209 rfl (show Value.bool (decide ((w64 (Int.fdiv (IntKind.wrap .u64 (w64 (p1 + p3))) (2 ^ 1))) < (w64 ((w64 ((w64 (Int.fdiv (IntKind.wrap .u64 (w64 (p1 + p3))) (2 ^ 1))) + p2)) - s170)))) = Value.bool true by rw [hc]) ?_
                      refine WO.vals [(4, 210, (.int .i64 (w64 ((w64 ((w64 (Int.fdiv (IntKind.wrap .u64 (w64 (p1 + p3))) (2 ^ 1))) + p2)) - s170)))), (5, 211, (.int .i64 p3)), (6, 212, (.bool (decide ((w64 ((w64 ((w64 (Int.fdiv (IntKind.wrap .u64 (w64 (p1 + p3))) (2 ^ 1))) + p2)) - s170)) < p3)))), (7, 213, (.bool (decide ((w64 ((w64 ((w64 (Int.fdiv (IntKind.wrap .u64 (w64 (p1 + p3))) (2 ^ 1))) + p2)) - s170)) < p3))))] (by kernel_rfl) (fun _ => by kernel_rfl) ?_
                      refine WO.weaken (fr' := [(213, (.bool ((decide ((w64 (Int.fdiv (IntKind.wrap .u64 (w64 (p1 + p3))) (2 ^ 1))) < (w64 ((w64 ((w64 (Int.fdiv (IntKind.wrap .u64 (w64 (p1 + p3))) (2 ^ 1))) + p2)) - s170)))) && (decide ((w64 ((w64 ((w64 (Int.fdiv (IntKind.wrap .u64 (w64 (p1 + p3))) (2 ^ 1))) + p2)) - s170)) < p3))))), (0, (.slice a_p0 j254.length c_p0)), (3, (.int .i64 p3)), (4, (.func (.func g_p4) #[] k_p4.toArray)), (18, (.int .i64 (w64 (Int.fdiv (IntKind.wrap .u64 (w64 (p1 + p3))) (2 ^ 1))))), (24, (.int .i64 (w64 ((w64 ((w64 (Int.fdiv (IntKind.wrap .u64 (w64 (p1 + p3))) (2 ^ 1))) + p2)) - s170))))]) (WO.meet ⟨rfl, rfl⟩) (Sub.cons (by rw [hc]; rfl) (Sub.cons rfl (Sub.cons rfl (Sub.cons rfl (Sub.cons rfl (Sub.cons rfl Sub.nil))))))
                    · skip
                      refine WO.reslot 209 rfl (show Value.bool (decide ((w64 (Int.fdiv (IntKind.wrap .u64 (w64 (p1 + p3))) (2 ^ 1))) < (w64 ((w64 ((w64 (Int.fdiv (IntKind.wrap .u64 (w64 (p1 + p3))) (2 ^ 1))) + p2)) - s170)))) = Value.bool false by rw [hc]) ?_
                      refine WO.pass rfl (by kernel_rfl) rfl ?_
                      refine WO.pass rfl (by kernel_rfl) rfl ?_
                      refine WO.pass rfl (by kernel_rfl) rfl ?_
                      refine WO.vals [(7, 213, (.bool false))] (by kernel_rfl) (fun _ => by kernel_rfl) ?_
                      refine WO.weaken (fr' := [(213, (.bool ((decide ((w64 (Int.fdiv (IntKind.wrap .u64 (w64 (p1 + p3))) (2 ^ 1))) < (w64 ((w64 ((w64 (Int.fdiv (IntKind.wrap .u64 (w64 (p1 + p3))) (2 ^ 1))) + p2)) - s170)))) && (decide ((w64 ((w64 ((w64 (Int.fdiv (IntKind.wrap .u64 (w64 (p1 + p3))) (2 ^ 1))) + p2)) - s170)) < p3))))), (0, (.slice a_p0 j254.length c_p0)), (3, (.int .i64 p3)), (4, (.func (.func g_p4) #[] k_p4.toArray)), (18, (.int .i64 (w64 (Int.fdiv (IntKind.wrap .u64 (w64 (p1 + p3))) (2 ^ 1))))), (24, (.int .i64 (w64 ((w64 ((w64 (Int.fdiv (IntKind.wrap .u64 (w64 (p1 + p3))) (2 ^ 1))) + p2)) - s170))))]) (WO.meet ⟨rfl, rfl⟩) (Sub.cons (by rw [hc]; rfl) (Sub.cons rfl (Sub.cons rfl (Sub.cons rfl (Sub.cons rfl (Sub.cons rfl Sub.nil))))))
                  case restm266 =>
                    rintro _ _ ⟨rfl, rfl⟩
                    refine WO.nil ?_
                    refine En.next ?_
                    obtain ⟨j268, hr1, hr⟩ := bind_some hr
                    refine W.join (J := (fun fr w => ∃ (I270 : Mem), ∃ (C_j268 : Mem), fr = [] ∧ I256.Le I270 ∧ St E w I270 ((C_j268) :: Os) ∧ OwnSl 28 2 R_api_Need I270 C_j268 a_p0 c_p0 j268 ∧ j268.length = p0.length)) ?restj268 ?waysj268
                    case waysj268 =>
                      refine W.cond (b := ((decide ((w64 (Int.fdiv (IntKind.wrap .u64 (w64 (p1 + p3))) (2 ^ 1))) < (w64 ((w64 ((w64 (Int.fdiv (IntKind.wrap .u64 (w64 (p1 + p3))) (2 ^ 1))) + p2)) - s170)))) && (decide ((w64 ((w64 ((w64 (Int.fdiv (IntKind.wrap .u64 (w64 (p1 + p3))) (2 ^ 1))) + p2)) - s170)) < p3)))) rfl rfl (fun hc => ?_) (fun hc => ?_)
                      · replace hr1 := cond_t hc hr1
                        refine W.region (l := [0, 1, 2, 3, 4, 5]) (by kernel_rfl) ?_
                        refine WO.vals [(0, 214, (.slice a_p0 j254.length c_p0)), (1, 215, (.int .i64 (w64 (Int.fdiv (IntKind.wrap .u64 (w64 (p1 + p3))) (2 ^ 1))))), (2, 216, (.int .i64 (w64 ((w64 ((w64 (Int.fdiv (IntKind.wrap .u64 (w64 (p1 + p3))) (2 ^ 1))) + p2)) - s170)))), (3, 217, (.int .i64 p3)), (4, 218, (.func (.func g_p4) #[] k_p4.toArray))] (by kernel_rfl) (fun _ => by kernel_rfl) ?_
                        obtain ⟨r277, hx_r272, hr1⟩ := bind_some hr1
                        refine WO.call rfl (by kernel_rfl) rfl (f := 26) (args := #[(.slice a_p0 j254.length c_p0), (.int .i64 (w64 (Int.fdiv (IntKind.wrap .u64 (w64 (p1 + p3))) (2 ^ 1)))), (.int .i64 (w64 ((w64 ((w64 (Int.fdiv (IntKind.wrap .u64 (w64 (p1 + p3))) (2 ^ 1))) + p2)) - s170))), (.int .i64 p3), (.func (.func g_p4) #[] k_p4.toArray)]) (by kernel_rfl) (ih h_j254 (fun {F Ic wc} {_} {_} hlc hSc  {rc} hrc => h_p4 ((((hl162.trans hl169).trans hl243).trans hl257).trans hlc) hSc  hrc) hcall_p4 hS265 hx_r272) ?_
                        rintro _ w273 ⟨I274, C_r277, rfl, hl275, hS276, h_r277, hn_r277⟩
                        refine ⟨_, rfl, trivial, ?_⟩
                        refine WO.reslot 0 rfl (show Value.slice a_p0 j254.length c_p0 = Value.slice a_p0 r277.length c_p0 by rw [hn_r277]) ?_
                        refine WO.reslot 214 rfl (show Value.slice a_p0 j254.length c_p0 = Value.slice a_p0 r277.length c_p0 by rw [hn_r277]) ?_
                        refine WO.nil ?_
                        have he := Option.some.inj hr1
                        subst j268
                        refine En.weaken (fr' := []) (En.round ⟨I274, C_r277, rfl, hl275, hS276, h_r277, (hn_r277.trans hn_j254)⟩) Sub.nil
                      · replace hr1 := cond_f hc hr1
                        refine W.skip ?_
                        have he := Option.some.inj hr1
                        subst j268
                        refine En.weaken (fr' := []) (En.round ⟨I256, C_j254, rfl, Mem.Le.refl _, hS265, h_j254, hn_j254⟩) Sub.nil
                    case restj268 =>
                      rintro _ w278 ⟨I270, C_j268, rfl, hl271, hS279, h_j268, hn_j268⟩
                      refine En.toRet ?_
                      have he := Option.some.inj hr
                      subst r
                      exact En.ret0 rfl ⟨I270, C_j268, rfl, ((((hl162.trans hl169).trans hl243).trans hl257).trans hl271), hS279, h_j268, hn_j268⟩
set_option maxHeartbeats 1000000 in
theorem slices_symMergeCmpFunc_registrar_api_Need_ok {E w : World} {I : Mem} {Os : List Mem} {p0 : List api_Need} {p1 : Int} {p2 : Int} {p3 : Int} {p4 : api_Need → api_Need → Option Int} {a_p0 : Option Addr} {c_p0 : Nat} {C_p0 : Mem} {g_p4 : FuncId} {k_p4 : List Value} (h_p0 : OwnSl 28 2 R_api_Need I C_p0 a_p0 c_p0 p0) (h_p4 : ∀ {F : List Mem} {I' : Mem} {w : World} {u0 : api_Need} {u1 : api_Need}, I.Le I' → St E w I' (F ++ Os) → ∀ {r : Int}, p4 u0 u1 = some r → Calls P g_p4 (([(.agg #[(.string u0.Path), (.int .i64 u0.Mode)]), (.agg #[(.string u1.Path), (.int .i64 u1.Mode)])] : List Value) ++ k_p4).toArray w (fun e w' => ∃ (I'' : Mem), e = .returned (.int .i64 r) ∧ I'.Le I'' ∧ St E w' I'' (F ++ Os))) (hcall_p4 : Callable P g_p4) (hS : St E w I ((C_p0) :: Os)) {r : (List api_Need)} (hr : slices_symMergeCmpFunc_registrar_api_Need p0 p1 p2 p3 p4 = some r) :
    Calls P 26 #[(.slice a_p0 p0.length c_p0), (.int .i64 p1), (.int .i64 p2), (.int .i64 p3), (.func (.func g_p4) #[] k_p4.toArray)] w (fun e w' => ∃ (I' : Mem) (rD0 : Mem), e = .returned (.tuple #[]) ∧ I.Le I' ∧ St E w' I' (rD0 :: Os) ∧ OwnSl 28 2 R_api_Need I' rD0 a_p0 c_p0 r ∧ r.length = p0.length) := by
  obtain ⟨fu, hf⟩ := anyFuel_some hr
  exact slices_symMergeCmpFunc_registrar_api_Need_fu_ok fu h_p0 h_p4 hcall_p4 hS hf
noncomputable def slices_stableCmpFunc_registrar_api_Need (p0 : List api_Need) (p1 : Int) (p2 : api_Need → api_Need → Option Int) : Option (List api_Need) := (loopO (fun (s : Int × Int × (List api_Need)) => match s with | (s4, s5, s6) => (bif (decide (s5 ≤ p1)) then (slices_insertionSortCmpFunc_registrar_api_Need s6 s4 s5 p2).bind (fun (r16 : List api_Need) => some (.inl (s5, (w64 (s5 + 20)), r16))) else some (.inr (s4, s6)))) (0, 20, p0)).bind (fun ((s18, s19) : Int × (List api_Need)) => (slices_insertionSortCmpFunc_registrar_api_Need s19 s18 p1 p2).bind (fun (r25 : List api_Need) => (loopO (fun (s : Int × (List api_Need)) => match s with | (s29, s30) => (bif (decide (s29 < p1)) then (loopO (fun (s : Int × Int × (List api_Need)) => match s with | (s38, s39, s40) => (bif (decide (s39 ≤ p1)) then (slices_symMergeCmpFunc_registrar_api_Need s40 s38 (w64 (s38 + s29)) s39 p2).bind (fun (r50 : List api_Need) => some (.inl (s39, (w64 (s39 + (w64 (2 * s29)))), r50))) else some (.inr (s38, s40)))) (0, (w64 (2 * s29)), s30)).bind (fun ((s52, s53) : Int × (List api_Need)) => ((bif (decide ((w64 (s52 + s29)) < p1)) then (slices_symMergeCmpFunc_registrar_api_Need s53 s52 (w64 (s52 + s29)) p1 p2).bind (fun (r63 : List api_Need) => some r63) else some s53)).bind (fun (j54 : List api_Need) => some (.inl ((w64 (s29 * 2)), j54)))) else some (.inr s30))) (20, r25)).bind (fun (s79 : List api_Need) => some s79)))
set_option maxHeartbeats 1000000 in
theorem slices_stableCmpFunc_registrar_api_Need_ok {E w : World} {I : Mem} {Os : List Mem} {p0 : List api_Need} {p1 : Int} {p2 : api_Need → api_Need → Option Int} {a_p0 : Option Addr} {c_p0 : Nat} {C_p0 : Mem} {g_p2 : FuncId} {k_p2 : List Value} (h_p0 : OwnSl 28 2 R_api_Need I C_p0 a_p0 c_p0 p0) (h_p2 : ∀ {F : List Mem} {I' : Mem} {w : World} {u0 : api_Need} {u1 : api_Need}, I.Le I' → St E w I' (F ++ Os) → ∀ {r : Int}, p2 u0 u1 = some r → Calls P g_p2 (([(.agg #[(.string u0.Path), (.int .i64 u0.Mode)]), (.agg #[(.string u1.Path), (.int .i64 u1.Mode)])] : List Value) ++ k_p2).toArray w (fun e w' => ∃ (I'' : Mem), e = .returned (.int .i64 r) ∧ I'.Le I'' ∧ St E w' I'' (F ++ Os))) (hcall_p2 : Callable P g_p2) (hS : St E w I ((C_p0) :: Os)) {r : (List api_Need)} (hr : slices_stableCmpFunc_registrar_api_Need p0 p1 p2 = some r) :
    Calls P 22 #[(.slice a_p0 p0.length c_p0), (.int .i64 p1), (.func (.func g_p2) #[] k_p2.toArray)] w (fun e w' => ∃ (I' : Mem) (rD0 : Mem), e = .returned (.tuple #[]) ∧ I.Le I' ∧ St E w' I' (rD0 :: Os) ∧ OwnSl 28 2 R_api_Need I' rD0 a_p0 c_p0 r ∧ r.length = p0.length) := by
  refine calls_W (args := [(.slice a_p0 p0.length c_p0), (.int .i64 p1), (.func (.func g_p2) #[] k_p2.toArray)]) (fn := Try.f22) rfl rfl rfl ?_
  unfold slices_stableCmpFunc_registrar_api_Need at hr
  refine W.seq ?_
  refine W.region (l := [0]) (by kernel_rfl) ?_
  refine WO.vals [(0, 6, (.int .i64 20))] (by kernel_rfl) (fun _ => by kernel_rfl) ?_
  refine WO.nil ?_
  refine En.next ?_
  refine W.seq ?_
  refine W.region (l := [0, 1, 2]) (by kernel_rfl) ?_
  refine WO.vals [(0, 10, (.int .i64 20)), (1, 7, (.int .i64 0)), (2, 8, (.int .i64 20))] (by kernel_rfl) (fun _ => by kernel_rfl) ?_
  refine WO.nil ?_
  refine En.next ?_
  refine W.seq ?_
  refine W.block ?_
  obtain ⟨t1, hloop7, hr⟩ := bind_some hr
  refine W.weaken (fr' := [(0, (.slice a_p0 p0.length c_p0)), (1, (.int .i64 p1)), (2, (.func (.func g_p2) #[] k_p2.toArray)), (6, (.int .i64 20)), (7, (.int .i64 0)), (8, (.int .i64 20))]) (W.loopO hloop7 (fun (s : Int × Int × (List api_Need)) fr w => match s with | (s4, s5, s6) => ∃ (I2 : Mem), ∃ (C_s6 : Mem), fr = [(0, (.slice a_p0 s6.length c_p0)), (1, (.int .i64 p1)), (2, (.func (.func g_p2) #[] k_p2.toArray)), (6, (.int .i64 20)), (7, (.int .i64 s4)), (8, (.int .i64 s5))] ∧ I.Le I2 ∧ St E w I2 ((C_s6) :: Os) ∧ OwnSl 28 2 R_api_Need I2 C_s6 a_p0 c_p0 s6 ∧ s6.length = p0.length) ⟨I, C_p0, rfl, Mem.Le.refl _, hS, h_p0, rfl⟩ ?_) (Sub.cons rfl (Sub.cons rfl (Sub.cons rfl (Sub.cons rfl (Sub.cons rfl (Sub.cons rfl Sub.nil))))))
  rintro ⟨s4, s5, s6⟩ _ w8 ⟨I2, C_s6, rfl, hl3, hS9, h_s6, hn_s6⟩ x10 hr1 hext1
  refine W.seq ?_
  refine W.seq ?_
  refine W.region (l := [0, 1, 2]) (by kernel_rfl) ?_
  refine WO.vals [(0, 11, (.int .i64 s5)), (1, 12, (.int .i64 p1)), (2, 13, (.bool (decide (s5 ≤ p1))))] (by kernel_rfl) (fun _ => by kernel_rfl) ?_
  refine WO.nil ?_
  refine En.next ?_
  refine W.cond (b := (decide (s5 ≤ p1))) rfl rfl (fun hc => ?_) (fun hc => ?_)
  · replace hr1 := cond_t hc hr1
    refine W.skip ?_
    refine En.next ?_
    refine W.block ?_
    refine W.seq ?_
    refine W.region (l := [0, 1, 2, 3, 4]) (by kernel_rfl) ?_
    refine WO.vals [(0, 14, (.slice a_p0 s6.length c_p0)), (1, 15, (.int .i64 s4)), (2, 16, (.int .i64 s5)), (3, 17, (.func (.func g_p2) #[] k_p2.toArray))] (by kernel_rfl) (fun _ => by kernel_rfl) ?_
    obtain ⟨r16, hx_r11, hr1⟩ := bind_some hr1
    refine WO.call rfl (by kernel_rfl) rfl (f := 25) (args := #[(.slice a_p0 s6.length c_p0), (.int .i64 s4), (.int .i64 s5), (.func (.func g_p2) #[] k_p2.toArray)]) (by kernel_rfl) (slices_insertionSortCmpFunc_registrar_api_Need_ok h_s6 (fun {F Ic wc} {_} {_} hlc hSc  {rc} hrc => h_p2 (hl3.trans hlc) hSc  hrc) hcall_p2 hS9 hx_r11) ?_
    rintro _ w12 ⟨I13, C_r16, rfl, hl14, hS15, h_r16, hn_r16⟩
    refine ⟨_, rfl, trivial, ?_⟩
    refine WO.reslot 0 rfl (show Value.slice a_p0 s6.length c_p0 = Value.slice a_p0 r16.length c_p0 by rw [hn_r16]) ?_
    refine WO.reslot 14 rfl (show Value.slice a_p0 s6.length c_p0 = Value.slice a_p0 r16.length c_p0 by rw [hn_r16]) ?_
    refine WO.nil ?_
    refine En.next ?_
    refine W.seq ?_
    refine W.region (l := [0, 1]) (by kernel_rfl) ?_
    refine WO.vals [(0, 19, (.int .i64 s5)), (1, 7, (.int .i64 s5))] (by kernel_rfl) (fun _ => by kernel_rfl) ?_
    refine WO.nil ?_
    refine En.next ?_
    refine W.region (l := [0, 1, 2, 3]) (by kernel_rfl) ?_
    refine WO.vals [(0, 20, (.int .i64 s5)), (1, 21, (.int .i64 20)), (2, 22, (.int .i64 (w64 (s5 + 20)))), (3, 8, (.int .i64 (w64 (s5 + 20))))] (by kernel_rfl) (fun _ => by kernel_rfl) ?_
    refine WO.nil ?_
    refine En.in_normal ?_
    refine En.weaken (fr' := [(0, (.slice a_p0 r16.length c_p0)), (1, (.int .i64 p1)), (2, (.func (.func g_p2) #[] k_p2.toArray)), (6, (.int .i64 20)), (7, (.int .i64 s5)), (8, (.int .i64 (w64 (s5 + 20))))]) (En.round ⟨(s5, (w64 (s5 + 20)), r16), (Option.some.inj hr1).symm, I13, C_r16, rfl, (hl3.trans hl14), hS15, h_r16, (hn_r16.trans hn_s6)⟩) (Sub.cons rfl (Sub.cons rfl (Sub.cons rfl (Sub.cons rfl (Sub.cons rfl (Sub.cons rfl Sub.nil))))))
  · replace hr1 := cond_f hc hr1
    refine W.exit ?_
    refine En.nx_exit ?_
    refine En.rd_exit ?_
    have ht := hext1 _ (Option.some.inj hr1).symm
    subst t1
    refine En.in_hit ?_
    refine En.next ?_
    refine W.seq ?_
    refine W.region (l := [0, 1, 2, 3, 4]) (by kernel_rfl) ?_
    refine WO.vals [(0, 23, (.slice a_p0 s6.length c_p0)), (1, 24, (.int .i64 s4)), (2, 25, (.int .i64 p1)), (3, 26, (.func (.func g_p2) #[] k_p2.toArray))] (by kernel_rfl) (fun _ => by kernel_rfl) ?_
    obtain ⟨r85, hx_r80, hr⟩ := bind_some hr
    refine WO.call rfl (by kernel_rfl) rfl (f := 25) (args := #[(.slice a_p0 s6.length c_p0), (.int .i64 s4), (.int .i64 p1), (.func (.func g_p2) #[] k_p2.toArray)]) (by kernel_rfl) (slices_insertionSortCmpFunc_registrar_api_Need_ok h_s6 (fun {F Ic wc} {_} {_} hlc hSc  {rc} hrc => h_p2 (hl3.trans hlc) hSc  hrc) hcall_p2 hS9 hx_r80) ?_
    rintro _ w81 ⟨I82, C_r85, rfl, hl83, hS84, h_r85, hn_r85⟩
    refine ⟨_, rfl, trivial, ?_⟩
    refine WO.reslot 0 rfl (show Value.slice a_p0 s6.length c_p0 = Value.slice a_p0 r85.length c_p0 by rw [hn_r85]) ?_
    refine WO.reslot 23 rfl (show Value.slice a_p0 s6.length c_p0 = Value.slice a_p0 r85.length c_p0 by rw [hn_r85]) ?_
    refine WO.nil ?_
    refine En.next ?_
    refine W.block ?_
    obtain ⟨t86, hloop91, hr⟩ := bind_some hr
    refine W.weaken (fr' := [(0, (.slice a_p0 r85.length c_p0)), (1, (.int .i64 p1)), (2, (.func (.func g_p2) #[] k_p2.toArray)), (6, (.int .i64 20))]) (W.loopO hloop91 (fun (s : Int × (List api_Need)) fr w => match s with | (s89, s90) => ∃ (I87 : Mem), ∃ (C_s90 : Mem), fr = [(0, (.slice a_p0 s90.length c_p0)), (1, (.int .i64 p1)), (2, (.func (.func g_p2) #[] k_p2.toArray)), (6, (.int .i64 s89))] ∧ I82.Le I87 ∧ St E w I87 ((C_s90) :: Os) ∧ OwnSl 28 2 R_api_Need I87 C_s90 a_p0 c_p0 s90 ∧ s90.length = p0.length) ⟨I82, C_r85, rfl, Mem.Le.refl _, hS84, h_r85, (hn_r85.trans hn_s6)⟩ ?_) (Sub.cons rfl (Sub.cons rfl (Sub.cons rfl (Sub.cons rfl Sub.nil))))
    rintro ⟨s89, s90⟩ _ w92 ⟨I87, C_s90, rfl, hl88, hS93, h_s90, hn_s90⟩ x94 hr1 hext86
    refine W.seq ?_
    refine W.seq ?_
    refine W.region (l := [0, 1, 2]) (by kernel_rfl) ?_
    refine WO.vals [(0, 28, (.int .i64 s89)), (1, 29, (.int .i64 p1)), (2, 30, (.bool (decide (s89 < p1))))] (by kernel_rfl) (fun _ => by kernel_rfl) ?_
    refine WO.nil ?_
    refine En.next ?_
    refine W.cond (b := (decide (s89 < p1))) rfl rfl (fun hc => ?_) (fun hc => ?_)
    · replace hr1 := cond_t hc hr1
      refine W.skip ?_
      refine En.next ?_
      refine W.block ?_
      refine W.seq ?_
      refine W.region (l := [0, 1, 2, 3]) (by kernel_rfl) ?_
      refine WO.vals [(0, 31, (.int .i64 s89)), (1, 32, (.int .i64 (w64 (2 * s89)))), (2, 7, (.int .i64 0)), (3, 8, (.int .i64 (w64 (2 * s89))))] (by kernel_rfl) (fun _ => by kernel_rfl) ?_
      refine WO.nil ?_
      refine En.next ?_
      refine W.seq ?_
      refine W.block ?_
      obtain ⟨t95, hloop101, hr1⟩ := bind_some hr1
      refine W.weaken (fr' := [(0, (.slice a_p0 s90.length c_p0)), (1, (.int .i64 p1)), (2, (.func (.func g_p2) #[] k_p2.toArray)), (6, (.int .i64 s89)), (7, (.int .i64 0)), (8, (.int .i64 (w64 (2 * s89))))]) (W.loopO hloop101 (fun (s : Int × Int × (List api_Need)) fr w => match s with | (s98, s99, s100) => ∃ (I96 : Mem), ∃ (C_s100 : Mem), fr = [(0, (.slice a_p0 s100.length c_p0)), (1, (.int .i64 p1)), (2, (.func (.func g_p2) #[] k_p2.toArray)), (6, (.int .i64 s89)), (7, (.int .i64 s98)), (8, (.int .i64 s99))] ∧ I87.Le I96 ∧ St E w I96 ((C_s100) :: Os) ∧ OwnSl 28 2 R_api_Need I96 C_s100 a_p0 c_p0 s100 ∧ s100.length = p0.length) ⟨I87, C_s90, rfl, Mem.Le.refl _, hS93, h_s90, hn_s90⟩ ?_) (Sub.cons rfl (Sub.cons rfl (Sub.cons rfl (Sub.cons rfl (Sub.cons rfl (Sub.cons rfl Sub.nil))))))
      rintro ⟨s98, s99, s100⟩ _ w102 ⟨I96, C_s100, rfl, hl97, hS103, h_s100, hn_s100⟩ x104 hr2 hext95
      refine W.seq ?_
      refine W.seq ?_
      refine W.region (l := [0, 1, 2]) (by kernel_rfl) ?_
      refine WO.vals [(0, 33, (.int .i64 s99)), (1, 34, (.int .i64 p1)), (2, 35, (.bool (decide (s99 ≤ p1))))] (by kernel_rfl) (fun _ => by kernel_rfl) ?_
      refine WO.nil ?_
      refine En.next ?_
      refine W.cond (b := (decide (s99 ≤ p1))) rfl rfl (fun hc => ?_) (fun hc => ?_)
      · replace hr2 := cond_t hc hr2
        refine W.skip ?_
        refine En.next ?_
        refine W.block ?_
        refine W.seq ?_
        refine W.region (l := [0, 1, 2, 3, 4, 5, 6, 7]) (by kernel_rfl) ?_
        refine WO.vals [(0, 36, (.slice a_p0 s100.length c_p0)), (1, 37, (.int .i64 s98)), (2, 38, (.int .i64 s98)), (3, 39, (.int .i64 s89)), (4, 40, (.int .i64 (w64 (s98 + s89)))), (5, 41, (.int .i64 s99)), (6, 42, (.func (.func g_p2) #[] k_p2.toArray))] (by kernel_rfl) (fun _ => by kernel_rfl) ?_
        obtain ⟨r110, hx_r105, hr2⟩ := bind_some hr2
        refine WO.call rfl (by kernel_rfl) rfl (f := 26) (args := #[(.slice a_p0 s100.length c_p0), (.int .i64 s98), (.int .i64 (w64 (s98 + s89))), (.int .i64 s99), (.func (.func g_p2) #[] k_p2.toArray)]) (by kernel_rfl) (slices_symMergeCmpFunc_registrar_api_Need_ok h_s100 (fun {F Ic wc} {_} {_} hlc hSc  {rc} hrc => h_p2 ((((hl3.trans hl83).trans hl88).trans hl97).trans hlc) hSc  hrc) hcall_p2 hS103 hx_r105) ?_
        rintro _ w106 ⟨I107, C_r110, rfl, hl108, hS109, h_r110, hn_r110⟩
        refine ⟨_, rfl, trivial, ?_⟩
        refine WO.reslot 0 rfl (show Value.slice a_p0 s100.length c_p0 = Value.slice a_p0 r110.length c_p0 by rw [hn_r110]) ?_
        refine WO.reslot 36 rfl (show Value.slice a_p0 s100.length c_p0 = Value.slice a_p0 r110.length c_p0 by rw [hn_r110]) ?_
        refine WO.nil ?_
        refine En.next ?_
        refine W.seq ?_
        refine W.region (l := [0, 1]) (by kernel_rfl) ?_
        refine WO.vals [(0, 44, (.int .i64 s99)), (1, 7, (.int .i64 s99))] (by kernel_rfl) (fun _ => by kernel_rfl) ?_
        refine WO.nil ?_
        refine En.next ?_
        refine W.region (l := [0, 1, 2, 3, 4]) (by kernel_rfl) ?_
        refine WO.vals [(0, 45, (.int .i64 s99)), (1, 46, (.int .i64 s89)), (2, 47, (.int .i64 (w64 (2 * s89)))), (3, 48, (.int .i64 (w64 (s99 + (w64 (2 * s89)))))), (4, 8, (.int .i64 (w64 (s99 + (w64 (2 * s89))))))] (by kernel_rfl) (fun _ => by kernel_rfl) ?_
        refine WO.nil ?_
        refine En.in_normal ?_
        refine En.weaken (fr' := [(0, (.slice a_p0 r110.length c_p0)), (1, (.int .i64 p1)), (2, (.func (.func g_p2) #[] k_p2.toArray)), (6, (.int .i64 s89)), (7, (.int .i64 s99)), (8, (.int .i64 (w64 (s99 + (w64 (2 * s89))))))]) (En.round ⟨(s99, (w64 (s99 + (w64 (2 * s89)))), r110), (Option.some.inj hr2).symm, I107, C_r110, rfl, (hl97.trans hl108), hS109, h_r110, (hn_r110.trans hn_s100)⟩) (Sub.cons rfl (Sub.cons rfl (Sub.cons rfl (Sub.cons rfl (Sub.cons rfl (Sub.cons rfl Sub.nil))))))
      · replace hr2 := cond_f hc hr2
        refine W.exit ?_
        refine En.nx_exit ?_
        refine En.rd_exit ?_
        have ht := hext95 _ (Option.some.inj hr2).symm
        subst t95
        refine En.in_hit ?_
        refine En.next ?_
        refine W.seq ?_
        refine W.seq ?_
        refine W.region (l := [0, 1, 2, 3]) (by kernel_rfl) ?_
        refine WO.vals [(0, 49, (.int .i64 s98)), (1, 50, (.int .i64 s89)), (2, 51, (.int .i64 (w64 (s98 + s89)))), (3, 9, (.int .i64 (w64 (s98 + s89))))] (by kernel_rfl) (fun _ => by kernel_rfl) ?_
        refine WO.nil ?_
        refine En.next ?_
        refine W.seq ?_
        refine W.region (l := [0, 1, 2]) (by kernel_rfl) ?_
        refine WO.vals [(0, 52, (.int .i64 (w64 (s98 + s89)))), (1, 53, (.int .i64 p1)), (2, 54, (.bool (decide ((w64 (s98 + s89)) < p1))))] (by kernel_rfl) (fun _ => by kernel_rfl) ?_
        refine WO.nil ?_
        refine En.next ?_
        obtain ⟨j126, hr2, hr1⟩ := bind_some hr1
        refine W.join (J := (fun fr w => ∃ (I128 : Mem), ∃ (C_j126 : Mem), fr = [(0, (.slice a_p0 j126.length c_p0)), (1, (.int .i64 p1)), (2, (.func (.func g_p2) #[] k_p2.toArray)), (6, (.int .i64 s89))] ∧ I96.Le I128 ∧ St E w I128 ((C_j126) :: Os) ∧ OwnSl 28 2 R_api_Need I128 C_j126 a_p0 c_p0 j126 ∧ j126.length = p0.length)) ?restj126 ?waysj126
        case waysj126 =>
          refine W.cond (b := (decide ((w64 (s98 + s89)) < p1))) rfl rfl (fun hc => ?_) (fun hc => ?_)
          · replace hr2 := cond_t hc hr2
            refine W.region (l := [0, 1, 2, 3, 4, 5]) (by kernel_rfl) ?_
            refine WO.vals [(0, 55, (.slice a_p0 s100.length c_p0)), (1, 56, (.int .i64 s98)), (2, 57, (.int .i64 (w64 (s98 + s89)))), (3, 58, (.int .i64 p1)), (4, 59, (.func (.func g_p2) #[] k_p2.toArray))] (by kernel_rfl) (fun _ => by kernel_rfl) ?_
            obtain ⟨r135, hx_r130, hr2⟩ := bind_some hr2
            refine WO.call rfl (by kernel_rfl) rfl (f := 26) (args := #[(.slice a_p0 s100.length c_p0), (.int .i64 s98), (.int .i64 (w64 (s98 + s89))), (.int .i64 p1), (.func (.func g_p2) #[] k_p2.toArray)]) (by kernel_rfl) (slices_symMergeCmpFunc_registrar_api_Need_ok h_s100 (fun {F Ic wc} {_} {_} hlc hSc  {rc} hrc => h_p2 ((((hl3.trans hl83).trans hl88).trans hl97).trans hlc) hSc  hrc) hcall_p2 hS103 hx_r130) ?_
            rintro _ w131 ⟨I132, C_r135, rfl, hl133, hS134, h_r135, hn_r135⟩
            refine ⟨_, rfl, trivial, ?_⟩
            refine WO.reslot 0 rfl (show Value.slice a_p0 s100.length c_p0 = Value.slice a_p0 r135.length c_p0 by rw [hn_r135]) ?_
            refine WO.reslot 55 rfl (show Value.slice a_p0 s100.length c_p0 = Value.slice a_p0 r135.length c_p0 by rw [hn_r135]) ?_
            refine WO.nil ?_
            have he := Option.some.inj hr2
            subst j126
            refine En.weaken (fr' := [(0, (.slice a_p0 r135.length c_p0)), (1, (.int .i64 p1)), (2, (.func (.func g_p2) #[] k_p2.toArray)), (6, (.int .i64 s89))]) (En.round ⟨I132, C_r135, rfl, hl133, hS134, h_r135, (hn_r135.trans hn_s100)⟩) (Sub.cons rfl (Sub.cons rfl (Sub.cons rfl (Sub.cons rfl Sub.nil))))
          · replace hr2 := cond_f hc hr2
            refine W.skip ?_
            have he := Option.some.inj hr2
            subst j126
            refine En.weaken (fr' := [(0, (.slice a_p0 s100.length c_p0)), (1, (.int .i64 p1)), (2, (.func (.func g_p2) #[] k_p2.toArray)), (6, (.int .i64 s89))]) (En.round ⟨I96, C_s100, rfl, Mem.Le.refl _, hS103, h_s100, hn_s100⟩) (Sub.cons rfl (Sub.cons rfl (Sub.cons rfl (Sub.cons rfl Sub.nil))))
        case restj126 =>
          rintro _ w136 ⟨I128, C_j126, rfl, hl129, hS137, h_j126, hn_j126⟩
          refine En.next ?_
          refine W.region (l := [0, 1, 2]) (by kernel_rfl) ?_
          refine WO.vals [(0, 61, (.int .i64 s89)), (1, 62, (.int .i64 (w64 (s89 * 2)))), (2, 6, (.int .i64 (w64 (s89 * 2))))] (by kernel_rfl) (fun _ => by kernel_rfl) ?_
          refine WO.nil ?_
          refine En.in_normal ?_
          refine En.weaken (fr' := [(0, (.slice a_p0 j126.length c_p0)), (1, (.int .i64 p1)), (2, (.func (.func g_p2) #[] k_p2.toArray)), (6, (.int .i64 (w64 (s89 * 2))))]) (En.round ⟨((w64 (s89 * 2)), j126), (Option.some.inj hr1).symm, I128, C_j126, rfl, ((hl88.trans hl97).trans hl129), hS137, h_j126, hn_j126⟩) (Sub.cons rfl (Sub.cons rfl (Sub.cons rfl (Sub.cons rfl Sub.nil))))
    · replace hr1 := cond_f hc hr1
      refine W.exit ?_
      refine En.nx_exit ?_
      refine En.rd_exit ?_
      have ht := hext86 _ (Option.some.inj hr1).symm
      subst t86
      refine En.in_hit ?_
      refine En.toRet ?_
      have he := Option.some.inj hr
      subst r
      exact En.ret0 rfl ⟨I87, C_s90, rfl, ((hl3.trans hl83).trans hl88), hS93, h_s90, hn_s90⟩
noncomputable def slices_SortStableFunc_api_Need (p0 : List api_Need) (p1 : api_Need → api_Need → Option Int) : Option (List api_Need) := (slices_stableCmpFunc_registrar_api_Need p0 (p0.length : Int) p1).bind (fun (r6 : List api_Need) => some r6)
set_option maxHeartbeats 1000000 in
theorem slices_SortStableFunc_api_Need_ok {E w : World} {I : Mem} {Os : List Mem} {p0 : List api_Need} {p1 : api_Need → api_Need → Option Int} {a_p0 : Option Addr} {c_p0 : Nat} {C_p0 : Mem} {g_p1 : FuncId} {k_p1 : List Value} (h_p0 : OwnSl 28 2 R_api_Need I C_p0 a_p0 c_p0 p0) (h_p1 : ∀ {F : List Mem} {I' : Mem} {w : World} {u0 : api_Need} {u1 : api_Need}, I.Le I' → St E w I' (F ++ Os) → ∀ {r : Int}, p1 u0 u1 = some r → Calls P g_p1 (([(.agg #[(.string u0.Path), (.int .i64 u0.Mode)]), (.agg #[(.string u1.Path), (.int .i64 u1.Mode)])] : List Value) ++ k_p1).toArray w (fun e w' => ∃ (I'' : Mem), e = .returned (.int .i64 r) ∧ I'.Le I'' ∧ St E w' I'' (F ++ Os))) (hcall_p1 : Callable P g_p1) (hS : St E w I ((C_p0) :: Os)) {r : (List api_Need)} (hr : slices_SortStableFunc_api_Need p0 p1 = some r) :
    Calls P 13 #[(.slice a_p0 p0.length c_p0), (.func (.func g_p1) #[] k_p1.toArray)] w (fun e w' => ∃ (I' : Mem) (rD0 : Mem), e = .returned (.tuple #[]) ∧ I.Le I' ∧ St E w' I' (rD0 :: Os) ∧ OwnSl 28 2 R_api_Need I' rD0 a_p0 c_p0 r ∧ r.length = p0.length) := by
  refine calls_W (args := [(.slice a_p0 p0.length c_p0), (.func (.func g_p1) #[] k_p1.toArray)]) (fn := Try.f13) rfl rfl rfl ?_
  unfold slices_SortStableFunc_api_Need at hr
  refine W.region (l := [0, 1, 2, 3, 4]) (by kernel_rfl) ?_
  refine WO.vals [(0, 4, (.slice a_p0 p0.length c_p0)), (1, 5, (.slice a_p0 p0.length c_p0)), (2, 6, (.int .i64 (p0.length : Int))), (3, 7, (.func (.func g_p1) #[] k_p1.toArray))] (by kernel_rfl) (fun _ => by kernel_rfl) ?_
  obtain ⟨r6, hx_r1, hr⟩ := bind_some hr
  refine WO.call rfl (by kernel_rfl) rfl (f := 22) (args := #[(.slice a_p0 p0.length c_p0), (.int .i64 (p0.length : Int)), (.func (.func g_p1) #[] k_p1.toArray)]) (by kernel_rfl) (slices_stableCmpFunc_registrar_api_Need_ok h_p0 (fun {F Ic wc} {_} {_} hlc hSc  {rc} hrc => h_p1 hlc hSc  hrc) hcall_p1 hS hx_r1) ?_
  rintro _ w2 ⟨I3, C_r6, rfl, hl4, hS5, h_r6, hn_r6⟩
  refine ⟨_, rfl, trivial, ?_⟩
  refine WO.reslot 0 rfl (show Value.slice a_p0 p0.length c_p0 = Value.slice a_p0 r6.length c_p0 by rw [hn_r6]) ?_
  refine WO.reslot 4 rfl (show Value.slice a_p0 p0.length c_p0 = Value.slice a_p0 r6.length c_p0 by rw [hn_r6]) ?_
  refine WO.reslot 5 rfl (show Value.slice a_p0 p0.length c_p0 = Value.slice a_p0 r6.length c_p0 by rw [hn_r6]) ?_
  refine WO.nil ?_
  refine En.toRet ?_
  have he := Option.some.inj hr
  subst r
  exact En.ret0 rfl ⟨I3, C_r6, rfl, hl4, hS5, h_r6, (hn_r6.trans rfl)⟩
def internal_bytealg_CompareString (p0 : ByteArray) (p1 : ByteArray) : Option Int := some (cmpS p0 p1)
set_option maxHeartbeats 1000000 in
theorem internal_bytealg_CompareString_ok {E w : World} {I : Mem} {Os : List Mem} {p0 : ByteArray} {p1 : ByteArray} (hS : St E w I Os) {r : Int} (hr : internal_bytealg_CompareString p0 p1 = some r) :
    Calls P 23 #[(.string p0), (.string p1)] w (fun e w' => ∃ (I' : Mem), e = .returned (.int .i64 r) ∧ I.Le I' ∧ St E w' I' Os) := by
  refine calls_W (args := [(.string p0), (.string p1)]) (fn := Try.f23) rfl rfl rfl ?_
  unfold internal_bytealg_CompareString at hr
  refine W.seq ?_
  refine W.region (l := [0]) (by kernel_rfl) ?_
  refine WO.vals [(0, 4, (.int .i64 0))] (by kernel_rfl) (fun _ => by kernel_rfl) ?_
  refine WO.nil ?_
  refine En.next ?_
  refine W.seq ?_
  refine W.region (l := [0, 1, 2, 3]) (by kernel_rfl) ?_
  refine WO.vals [(0, 5, (.string p0)), (1, 6, (.string p1))] (by kernel_rfl) (fun _ => by kernel_rfl) ?_
  refine WO.cmpstring rfl (by kernel_rfl) (fn := Try.f27) rfl (by kernel_rfl) (by kernel_rfl) (by kernel_rfl) (by kernel_rfl) (a := p0) (b := p1) (by kernel_rfl) ?_
  refine WO.vals [(3, 4, (.int .i64 (cmpS p0 p1)))] (by kernel_rfl) (fun _ => by kernel_rfl) ?_
  refine WO.nil ?_
  refine En.next ?_
  refine W.ret ?_
  have he := Option.some.inj hr
  subst r
  exact En.ret1 rfl (.int .i64 (cmpS p0 p1)) rfl ⟨I, rfl, Mem.Le.refl _, hS⟩
def strings_Compare (p0 : ByteArray) (p1 : ByteArray) : Option Int := (internal_bytealg_CompareString p0 p1).bind (fun (r6 : Int) => some r6)
set_option maxHeartbeats 1000000 in
theorem strings_Compare_ok {E w : World} {I : Mem} {Os : List Mem} {p0 : ByteArray} {p1 : ByteArray} (hS : St E w I Os) {r : Int} (hr : strings_Compare p0 p1 = some r) :
    Calls P 15 #[(.string p0), (.string p1)] w (fun e w' => ∃ (I' : Mem), e = .returned (.int .i64 r) ∧ I.Le I' ∧ St E w' I' Os) := by
  refine calls_W (args := [(.string p0), (.string p1)]) (fn := Try.f15) rfl rfl rfl ?_
  unfold strings_Compare at hr
  refine W.seq ?_
  refine W.region (l := [0]) (by kernel_rfl) ?_
  refine WO.vals [(0, 4, (.int .i64 0))] (by kernel_rfl) (fun _ => by kernel_rfl) ?_
  refine WO.nil ?_
  refine En.next ?_
  refine W.seq ?_
  refine W.region (l := [0, 1, 2, 3]) (by kernel_rfl) ?_
  refine WO.vals [(0, 5, (.string p0)), (1, 6, (.string p1))] (by kernel_rfl) (fun _ => by kernel_rfl) ?_
  obtain ⟨r6, hx_r1, hr⟩ := bind_some hr
  refine WO.call rfl (by kernel_rfl) rfl (f := 23) (args := #[(.string p0), (.string p1)]) (by kernel_rfl) (internal_bytealg_CompareString_ok  hS hx_r1) ?_
  rintro _ w2 ⟨I3, rfl, hl4, hS5⟩
  refine ⟨_, rfl, trivial, ?_⟩
  refine WO.vals [(3, 4, (.int .i64 r6))] (by kernel_rfl) (fun _ => by kernel_rfl) ?_
  refine WO.nil ?_
  refine En.next ?_
  refine W.ret ?_
  have he := Option.some.inj hr
  subst r
  exact En.ret1 rfl (.int .i64 r6) rfl ⟨I3, rfl, hl4, hS5⟩
def access_Merge_1 (p0 : api_Need) (p1 : api_Need) : Option Int := (strings_Compare p0.Path p1.Path).bind (fun (r14 : Int) => some r14)
set_option maxHeartbeats 1000000 in
theorem access_Merge_1_ok {E w : World} {I : Mem} {Os : List Mem} {p0 : api_Need} {p1 : api_Need} (hS : St E w I Os) {r : Int} (hr : access_Merge_1 p0 p1 = some r) :
    Calls P 14 #[(.agg #[(.string p0.Path), (.int .i64 p0.Mode)]), (.agg #[(.string p1.Path), (.int .i64 p1.Mode)])] w (fun e w' => ∃ (I' : Mem), e = .returned (.int .i64 r) ∧ I.Le I' ∧ St E w' I' Os) := by
  refine calls_W (args := [(.agg #[(.string p0.Path), (.int .i64 p0.Mode)]), (.agg #[(.string p1.Path), (.int .i64 p1.Mode)])]) (fn := Try.f14) rfl rfl rfl ?_
  unfold access_Merge_1 at hr
  refine W.seq ?_
  refine W.region (l := [0, 1, 2]) (by kernel_rfl) ?_
  refine WO.new hS rfl (by kernel_rfl) rfl (.cells #[(.string p0.Path), (.int .i64 p0.Mode)] 28 (0, 0)) (fun b => .pointer (some ⟨b, 0, none⟩)) (by kernel_rfl) (fun _ _ _ => trivial) ?_
  intro b1 w4 hS3
  refine WO.new hS3 rfl (by kernel_rfl) rfl (.cells #[(.string p1.Path), (.int .i64 p1.Mode)] 28 (0, 0)) (fun b => .pointer (some ⟨b, 0, none⟩)) (by kernel_rfl) (fun _ _ _ => trivial) ?_
  intro b5 w8 hS7
  refine WO.vals [(2, 4, (.int .i64 0))] (by kernel_rfl) (fun _ => by kernel_rfl) ?_
  refine WO.nil ?_
  refine En.next ?_
  refine W.seq ?_
  refine W.region (l := [0, 1, 2, 3, 4, 5]) (by kernel_rfl) ?_
  refine WO.vals [(0, 5, (.pointer (some ⟨b1, 0, none⟩)))] (by kernel_rfl) (fun _ => by kernel_rfl) ?_
  refine WO.load rfl (by kernel_rfl) (by kernel_rfl) rfl (v := (.string p0.Path)) (fun w' hw' => cell_one ((rd_f (hS7.rd (List.Mem.tail _ (List.Mem.head _)))) w' hw') rfl) ?_
  refine WO.vals [(2, 7, (.pointer (some ⟨b5, 0, none⟩)))] (by kernel_rfl) (fun _ => by kernel_rfl) ?_
  refine WO.load rfl (by kernel_rfl) (by kernel_rfl) rfl (v := (.string p1.Path)) (fun w' hw' => cell_one ((rd_f (hS7.rd (List.Mem.head _))) w' hw') rfl) ?_
  obtain ⟨r14, hx_r9, hr⟩ := bind_some hr
  refine WO.call rfl (by kernel_rfl) rfl (f := 15) (args := #[(.string p0.Path), (.string p1.Path)]) (by kernel_rfl) (strings_Compare_ok  hS7 hx_r9) ?_
  rintro _ w10 ⟨I11, rfl, hl12, hS13⟩
  refine ⟨_, rfl, trivial, ?_⟩
  refine WO.vals [(5, 4, (.int .i64 r14))] (by kernel_rfl) (fun _ => by kernel_rfl) ?_
  refine WO.nil ?_
  refine En.next ?_
  refine W.ret ?_
  have hS15 := hS13.drop
  have hS16 := hS15.drop
  have he := Option.some.inj hr
  subst r
  exact En.ret1 rfl (.int .i64 r14) rfl ⟨I11, rfl, hl12, hS16⟩
def access_mode (p0 : Int) : Option Int := (bif ((decide (p0 < 1)) || (decide (p0 > 4))) then some 4 else some p0)
set_option maxHeartbeats 1000000 in
theorem access_mode_ok {E w : World} {I : Mem} {Os : List Mem} {p0 : Int} (hS : St E w I Os) {r : Int} (hr : access_mode p0 = some r) :
    Calls P 16 #[(.int .i64 p0)] w (fun e w' => ∃ (I' : Mem), e = .returned (.int .i64 r) ∧ I.Le I' ∧ St E w' I' Os) := by
  refine calls_W (args := [(.int .i64 p0)]) (fn := Try.f16) rfl rfl rfl ?_
  unfold access_mode at hr
  refine W.seq ?_
  refine W.region (l := [0]) (by kernel_rfl) ?_
  refine WO.vals [(0, 2, (.int .i64 0))] (by kernel_rfl) (fun _ => by kernel_rfl) ?_
  refine WO.nil ?_
  refine En.next ?_
  refine W.seq ?_
  refine W.seq ?_
  refine W.region (l := [0, 1, 2, 3, 4, 5]) (by kernel_rfl) ?_
  refine WO.vals [(0, 3, (.int .i64 p0)), (1, 4, (.bool (decide (p0 < 1)))), (2, 5, (.bool (decide (p0 < 1))))] (by kernel_rfl) (fun _ => by kernel_rfl) ?_
  refine WO.join (l1 := [3, 4, 5]) (l2 := []) (J := fun frx wx => frx = [(8, (.bool ((decide (p0 < 1)) || (decide (p0 > 4))))), (0, (.int .i64 p0))] ∧ wx = w) ?restm1 ?waysm1
  case waysm1 =>
    refine WO.caseb (decide (p0 < 1)) (fun hc => ?_) (fun hc => ?_)
    · skip
      refine WO.reslot 5 rfl (show Value.bool (decide (p0 < 1)) = Value.bool true by rw [hc]) ?_
      refine WO.pass rfl (by kernel_rfl) rfl ?_
      refine WO.pass rfl (by kernel_rfl) rfl ?_
      refine WO.vals [(5, 8, (.bool true))] (by kernel_rfl) (fun _ => by kernel_rfl) ?_
      refine WO.weaken (fr' := [(8, (.bool ((decide (p0 < 1)) || (decide (p0 > 4))))), (0, (.int .i64 p0))]) (WO.meet ⟨rfl, rfl⟩) (Sub.cons (by rw [hc]; rfl) (Sub.cons rfl Sub.nil))
    · skip
      refine WO.reslot 5 rfl (show Value.bool (decide (p0 < 1)) = Value.bool false by rw [hc]) ?_
      refine WO.vals [(3, 6, (.int .i64 p0)), (4, 7, (.bool (decide (p0 > 4)))), (5, 8, (.bool (decide (p0 > 4))))] (by kernel_rfl) (fun _ => by kernel_rfl) ?_
      refine WO.weaken (fr' := [(8, (.bool ((decide (p0 < 1)) || (decide (p0 > 4))))), (0, (.int .i64 p0))]) (WO.meet ⟨rfl, rfl⟩) (Sub.cons (by rw [hc]; rfl) (Sub.cons rfl Sub.nil))
  case restm1 =>
    rintro _ _ ⟨rfl, rfl⟩
    refine WO.nil ?_
    refine En.next ?_
    refine W.cond (b := ((decide (p0 < 1)) || (decide (p0 > 4)))) rfl rfl (fun hc => ?_) (fun hc => ?_)
    · replace hr := cond_t hc hr
      refine W.seq ?_
      refine W.region (l := [0]) (by kernel_rfl) ?_
      refine WO.vals [(0, 2, (.int .i64 4))] (by kernel_rfl) (fun _ => by kernel_rfl) ?_
      refine WO.nil ?_
      refine En.next ?_
      refine W.ret ?_
      refine En.nx_ret ?_
      have he := Option.some.inj hr
      subst r
      exact En.ret1 rfl (.int .i64 4) rfl ⟨I, rfl, Mem.Le.refl _, hS⟩
    · replace hr := cond_f hc hr
      refine W.skip ?_
      refine En.next ?_
      refine W.seq ?_
      refine W.region (l := [0, 1]) (by kernel_rfl) ?_
      refine WO.vals [(0, 9, (.int .i64 p0)), (1, 2, (.int .i64 p0))] (by kernel_rfl) (fun _ => by kernel_rfl) ?_
      refine WO.nil ?_
      refine En.next ?_
      refine W.ret ?_
      have he := Option.some.inj hr
      subst r
      exact En.ret1 rfl (.int .i64 p0) rfl ⟨I, rfl, Mem.Le.refl _, hS⟩
def access_both (p0 : Int) (p1 : Int) : Option Int := (bif (p0 == p1) then some p0 else (bif (p0 == 1) then some p1 else (bif (p1 == 1) then some p0 else some 4)))
set_option maxHeartbeats 1000000 in
theorem access_both_ok {E w : World} {I : Mem} {Os : List Mem} {p0 : Int} {p1 : Int} (hS : St E w I Os) {r : Int} (hr : access_both p0 p1 = some r) :
    Calls P 17 #[(.int .i64 p0), (.int .i64 p1)] w (fun e w' => ∃ (I' : Mem), e = .returned (.int .i64 r) ∧ I.Le I' ∧ St E w' I' Os) := by
  refine calls_W (args := [(.int .i64 p0), (.int .i64 p1)]) (fn := Try.f17) rfl rfl rfl ?_
  unfold access_both at hr
  refine W.seq ?_
  refine W.region (l := [0]) (by kernel_rfl) ?_
  refine WO.vals [(0, 4, (.int .i64 0))] (by kernel_rfl) (fun _ => by kernel_rfl) ?_
  refine WO.nil ?_
  refine En.next ?_
  refine W.seq ?_
  refine W.block ?_
  refine W.seq ?_
  refine W.region (l := [0, 1, 2, 3]) (by kernel_rfl) ?_
  refine WO.vals [(0, 6, (.int .i64 p0)), (1, 7, (.int .i64 p1)), (2, 8, (.bool (p0 == p1))), (3, 5, (.bool (p0 == p1)))] (by kernel_rfl) (fun _ => by kernel_rfl) ?_
  refine WO.nil ?_
  refine En.next ?_
  refine W.cond (b := (p0 == p1)) rfl rfl (fun hc => ?_) (fun hc => ?_)
  · replace hr := cond_t hc hr
    refine W.seq ?_
    refine W.region (l := [0, 1]) (by kernel_rfl) ?_
    refine WO.vals [(0, 9, (.int .i64 p0)), (1, 4, (.int .i64 p0))] (by kernel_rfl) (fun _ => by kernel_rfl) ?_
    refine WO.nil ?_
    refine En.next ?_
    refine W.ret ?_
    refine En.in_ret ?_
    refine En.nx_ret ?_
    have he := Option.some.inj hr
    subst r
    exact En.ret1 rfl (.int .i64 p0) rfl ⟨I, rfl, Mem.Le.refl _, hS⟩
  · replace hr := cond_f hc hr
    refine W.seq ?_
    refine W.region (l := [0, 1, 2]) (by kernel_rfl) ?_
    refine WO.vals [(0, 11, (.int .i64 p0)), (1, 12, (.bool (p0 == 1))), (2, 10, (.bool (p0 == 1)))] (by kernel_rfl) (fun _ => by kernel_rfl) ?_
    refine WO.nil ?_
    refine En.next ?_
    refine W.cond (b := (p0 == 1)) rfl rfl (fun hc => ?_) (fun hc => ?_)
    · replace hr := cond_t hc hr
      refine W.seq ?_
      refine W.region (l := [0, 1]) (by kernel_rfl) ?_
      refine WO.vals [(0, 13, (.int .i64 p1)), (1, 4, (.int .i64 p1))] (by kernel_rfl) (fun _ => by kernel_rfl) ?_
      refine WO.nil ?_
      refine En.next ?_
      refine W.ret ?_
      refine En.in_ret ?_
      refine En.nx_ret ?_
      have he := Option.some.inj hr
      subst r
      exact En.ret1 rfl (.int .i64 p1) rfl ⟨I, rfl, Mem.Le.refl _, hS⟩
    · replace hr := cond_f hc hr
      refine W.seq ?_
      refine W.region (l := [0, 1, 2]) (by kernel_rfl) ?_
      refine WO.vals [(0, 15, (.int .i64 p1)), (1, 16, (.bool (p1 == 1))), (2, 14, (.bool (p1 == 1)))] (by kernel_rfl) (fun _ => by kernel_rfl) ?_
      refine WO.nil ?_
      refine En.next ?_
      refine W.cond (b := (p1 == 1)) rfl rfl (fun hc => ?_) (fun hc => ?_)
      · replace hr := cond_t hc hr
        refine W.seq ?_
        refine W.region (l := [0, 1]) (by kernel_rfl) ?_
        refine WO.vals [(0, 17, (.int .i64 p0)), (1, 4, (.int .i64 p0))] (by kernel_rfl) (fun _ => by kernel_rfl) ?_
        refine WO.nil ?_
        refine En.next ?_
        refine W.ret ?_
        refine En.in_ret ?_
        refine En.nx_ret ?_
        have he := Option.some.inj hr
        subst r
        exact En.ret1 rfl (.int .i64 p0) rfl ⟨I, rfl, Mem.Le.refl _, hS⟩
      · replace hr := cond_f hc hr
        refine W.skip ?_
        refine En.in_normal ?_
        refine En.next ?_
        refine W.seq ?_
        refine W.region (l := [0]) (by kernel_rfl) ?_
        refine WO.vals [(0, 4, (.int .i64 4))] (by kernel_rfl) (fun _ => by kernel_rfl) ?_
        refine WO.nil ?_
        refine En.next ?_
        refine W.ret ?_
        have he := Option.some.inj hr
        subst r
        exact En.ret1 rfl (.int .i64 4) rfl ⟨I, rfl, Mem.Le.refl _, hS⟩
end Go.Proofs.Ytfabocipcjnfnaa
