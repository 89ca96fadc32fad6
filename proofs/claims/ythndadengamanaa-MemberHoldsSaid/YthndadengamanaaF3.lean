/- What functions of the program come to, each by a plain one. Conditions: none. -/
import Derived.Test.YthndadengamanaaF2
set_option maxRecDepth 100000
namespace Go.Proofs.Ythndadengamanaa
open Go.Gv
noncomputable def member_Is (p0 : List api_Role) (p1 : ByteArray) (p2 : ByteArray) : Option Bool := (member_All p0 p1).bind (fun (r6 : List ByteArray) => (slices_Contains_string r6 p2).bind (fun (r12 : Bool) => some r12))
set_option maxHeartbeats 1000000 in
theorem member_Is_ok {E w : World} {I : Mem} {Os : List Mem} {p0 : List api_Role} {p1 : ByteArray} {p2 : ByteArray} {a_p0 : Option Addr} {c_p0 : Nat} (h_p0 : RSl 2 R_api_Role I a_p0 c_p0 p0) (hS : St E w I Os) {r : Bool} (hr : member_Is p0 p1 p2 = some r) :
    Calls P 14 #[(.slice a_p0 p0.length c_p0), (.string p1), (.string p2)] w (fun e w' => ∃ (I' : Mem), e = .returned (.bool r) ∧ I.Le I' ∧ St E w' I' Os) := by
  refine calls_W (args := [(.slice a_p0 p0.length c_p0), (.string p1), (.string p2)]) (fn := Try.f14) rfl rfl rfl ?_
  unfold member_Is at hr
  refine W.seq ?_
  refine W.region (l := [0]) (by kernel_rfl) ?_
  refine WO.vals [(0, 6, (.bool false))] (by kernel_rfl) (fun _ => by kernel_rfl) ?_
  refine WO.nil ?_
  refine En.next ?_
  refine W.seq ?_
  refine W.region (l := [0, 1, 2, 3, 4, 5]) (by kernel_rfl) ?_
  refine WO.vals [(0, 7, (.slice a_p0 p0.length c_p0)), (1, 8, (.string p1))] (by kernel_rfl) (fun _ => by kernel_rfl) ?_
  obtain ⟨r6, hx_r1, hr⟩ := bind_some hr
  refine WO.call rfl (by kernel_rfl) rfl (f := 12) (args := #[(.slice a_p0 p0.length c_p0), (.string p1)]) (by kernel_rfl) (member_All_ok h_p0 hS hx_r1) ?_
  rintro _ w2 ⟨I3, a_r6, c_r6, rfl, hl4, hS5, h_r6⟩
  refine ⟨_, rfl, trivial, ?_⟩
  refine WO.vals [(3, 10, (.string p2))] (by kernel_rfl) (fun _ => by kernel_rfl) ?_
  obtain ⟨r12, hx_r7, hr⟩ := bind_some hr
  refine WO.call rfl (by kernel_rfl) rfl (f := 29) (args := #[(.slice a_r6 r6.length c_r6), (.string p2)]) (by kernel_rfl) (slices_Contains_string_ok h_r6 hS5 hx_r7) ?_
  rintro _ w8 ⟨I9, rfl, hl10, hS11⟩
  refine ⟨_, rfl, trivial, ?_⟩
  refine WO.vals [(5, 6, (.bool r12))] (by kernel_rfl) (fun _ => by kernel_rfl) ?_
  refine WO.nil ?_
  refine En.next ?_
  refine W.ret ?_
  have he := Option.some.inj hr
  subst r
  exact En.ret1 rfl (.bool r12) rfl ⟨I9, rfl, (hl4.trans hl10), hS11⟩
noncomputable def member_round_1 (p0 : ByteArray) (q1 : List api_Role) (q2 : api_Role) : Option Bool := (member_Is q1 p0 q2.Name).bind (fun (r6 : Bool) => some r6)
set_option maxHeartbeats 1000000 in
theorem member_round_1_ok {E w : World} {I : Mem} {Os : List Mem} {p0 : ByteArray} {q1 : List api_Role} {q2 : api_Role} {kb1 : Nat} {a_q1 : Option Addr} {c_q1 : Nat} {kb2 : Nat} {w_q2 : W_api_Role} (h_q1 : RSl 2 R_api_Role I a_q1 c_q1 q1) (h_q2 : ok_api_Role I q2 w_q2) (hm1 : (Gv.one kb1 (.cells #[(.slice a_q1 q1.length c_q1)] 22 (0, 0))) ∈ Os) (hm2 : (Gv.one kb2 (.cells (cs_api_Role q2 w_q2).toArray 27 (0, 0))) ∈ Os) (hS : St E w I Os) {r : Bool} (hr : member_round_1 p0 q1 q2 = some r) :
    Calls P 55 #[(.string p0), (.pointer (some ⟨kb1, 0, none⟩)), (.pointer (some ⟨kb2, 0, none⟩))] w (fun e w' => ∃ (I' : Mem), e = .returned (.bool r) ∧ I.Le I' ∧ St E w' I' Os) := by
  refine calls_W (args := [(.string p0), (.pointer (some ⟨kb1, 0, none⟩)), (.pointer (some ⟨kb2, 0, none⟩))]) (fn := Try.f55) rfl rfl rfl ?_
  unfold member_round_1 at hr
  refine W.seq ?_
  refine W.region (l := [0]) (by kernel_rfl) ?_
  refine WO.vals [(0, 4, (.bool false))] (by kernel_rfl) (fun _ => by kernel_rfl) ?_
  refine WO.nil ?_
  refine En.next ?_
  refine W.seq ?_
  refine W.region (l := [0, 1, 2, 3, 4, 5]) (by kernel_rfl) ?_
  refine WO.load rfl (by kernel_rfl) (by kernel_rfl) rfl (v := (.slice a_q1 q1.length c_q1)) (fun w' hw' => cell_one ((rd_f (hS.rd hm1)) w' hw') (by kernel_rfl)) ?_
  refine WO.vals [(1, 6, (.string p0)), (2, 7, (.pointer (some ⟨kb2, 0, none⟩)))] (by kernel_rfl) (fun _ => by kernel_rfl) ?_
  refine WO.load rfl (by kernel_rfl) (by kernel_rfl) rfl (v := (.string q2.Name)) (fun w' hw' => cell_one ((rd_f (hS.rd hm2)) w' hw') (by kernel_rfl)) ?_
  obtain ⟨r6, hx_r1, hr⟩ := bind_some hr
  refine WO.call rfl (by kernel_rfl) rfl (f := 14) (args := #[(.slice a_q1 q1.length c_q1), (.string p0), (.string q2.Name)]) (by kernel_rfl) (member_Is_ok h_q1 hS hx_r1) ?_
  rintro _ w2 ⟨I3, rfl, hl4, hS5⟩
  refine ⟨_, rfl, trivial, ?_⟩
  refine WO.vals [(5, 4, (.bool r6))] (by kernel_rfl) (fun _ => by kernel_rfl) ?_
  refine WO.nil ?_
  refine En.next ?_
  refine W.ret ?_
  have he := Option.some.inj hr
  subst r
  exact En.ret1 rfl (.bool r6) rfl ⟨I3, rfl, hl4, hS5⟩
noncomputable def member_round (p0 : List api_Role) (p1 : api_Role) : Option Bool := (slices_ContainsFunc_string p1.In (fun (u0 : ByteArray) => member_round_1 u0 p0 p1)).bind (fun (r14 : Bool) => some r14)
set_option maxHeartbeats 1000000 in
theorem member_round_ok {E w : World} {I : Mem} {Os : List Mem} {p0 : List api_Role} {p1 : api_Role} {a_p0 : Option Addr} {c_p0 : Nat} {w_p1 : W_api_Role} (h_p0 : RSl 2 R_api_Role I a_p0 c_p0 p0) (h_p1 : ok_api_Role I p1 w_p1) (hS : St E w I Os) {r : Bool} (hr : member_round p0 p1 = some r) :
    Calls P 38 #[(.slice a_p0 p0.length c_p0), (.agg (cs_api_Role p1 w_p1).toArray)] w (fun e w' => ∃ (I' : Mem), e = .returned (.bool r) ∧ I.Le I' ∧ St E w' I' Os) := by
  refine calls_W (args := [(.slice a_p0 p0.length c_p0), (.agg (cs_api_Role p1 w_p1).toArray)]) (fn := Try.f38) rfl rfl rfl ?_
  unfold member_round at hr
  refine W.seq ?_
  refine W.region (l := [0, 1, 2]) (by kernel_rfl) ?_
  refine WO.new hS rfl (by kernel_rfl) rfl (.cells #[(.slice a_p0 p0.length c_p0)] 22 (0, 0)) (fun b => .pointer (some ⟨b, 0, none⟩)) (by kernel_rfl) (fun _ _ _ => trivial) ?_
  intro b1 w4 hS3
  refine WO.new hS3 rfl (by kernel_rfl) rfl (.cells (cs_api_Role p1 w_p1).toArray 27 (0, 0)) (fun b => .pointer (some ⟨b, 0, none⟩)) (by kernel_rfl) (fun _ _ _ => trivial) ?_
  intro b5 w8 hS7
  refine WO.vals [(2, 4, (.bool false))] (by kernel_rfl) (fun _ => by kernel_rfl) ?_
  refine WO.nil ?_
  refine En.next ?_
  refine W.seq ?_
  refine W.region (l := [0, 1, 2, 3, 4]) (by kernel_rfl) ?_
  refine WO.vals [(0, 5, (.pointer (some ⟨b5, 1, none⟩)))] (by kernel_rfl) (fun _ => by kernel_rfl) ?_
  refine WO.load rfl (by kernel_rfl) (by kernel_rfl) rfl (v := (.slice w_p1.In.a p1.In.length w_p1.In.c)) (fun w' hw' => cell_one ((rd_f (hS7.rd (List.Mem.head _))) w' hw') (by kernel_rfl)) ?_
  refine WO.vals [(2, 7, (.func (.func 55) #[] #[(.pointer (some ⟨b1, 0, none⟩)), (.pointer (some ⟨b5, 0, none⟩))]))] (by kernel_rfl) (fun _ => by kernel_rfl) ?_
  obtain ⟨r14, hx_r9, hr⟩ := bind_some hr
  refine WO.call rfl (by kernel_rfl) rfl (f := 34) (args := #[(.slice w_p1.In.a p1.In.length w_p1.In.c), (.func (.func 55) #[] #[(.pointer (some ⟨b1, 0, none⟩)), (.pointer (some ⟨b5, 0, none⟩))])]) (by kernel_rfl) (slices_ContainsFunc_string_ok h_p1.In (fun {F Ic wc} {_} hlc hSc  {rc} hrc => member_round_1_ok (RSl.mono h_p0 hlc) (h_p1.mono hlc) (List.mem_append_right _ (List.Mem.tail _ (List.Mem.head _))) (List.mem_append_right _ (List.Mem.head _)) hSc hrc) (fun _ _ => by kernel_rfl) hS7 hx_r9) ?_
  rintro _ w10 ⟨I11, rfl, hl12, hS13⟩
  refine ⟨_, rfl, trivial, ?_⟩
  refine WO.vals [(4, 4, (.bool r14))] (by kernel_rfl) (fun _ => by kernel_rfl) ?_
  refine WO.nil ?_
  refine En.next ?_
  refine W.ret ?_
  have hS15 := hS13.drop
  have hS16 := hS15.drop
  have he := Option.some.inj hr
  subst r
  exact En.ret1 rfl (.bool r14) rfl ⟨I11, rfl, hl12, hS16⟩
def slices_ContainsFunc_api_Role (p0 : List api_Role) (p1 : api_Role → Option Bool) : Option Bool := (slices_IndexFunc_api_Role p0 p1).bind (fun (r6 : Int) => some (decide (r6 ≥ 0)))
set_option maxHeartbeats 1000000 in
theorem slices_ContainsFunc_api_Role_ok {E w : World} {I : Mem} {Os : List Mem} {p0 : List api_Role} {p1 : api_Role → Option Bool} {a_p0 : Option Addr} {c_p0 : Nat} {g_p1 : FuncId} {k_p1 : List Value} (h_p0 : RSl 2 R_api_Role I a_p0 c_p0 p0) (h_p1 : ∀ {F : List Mem} {I' : Mem} {w : World} {u0 : api_Role} {w_u0 : W_api_Role}, I.Le I' → St E w I' (F ++ Os) → ok_api_Role I' u0 w_u0 → ∀ {r : Bool}, p1 u0 = some r → Calls P g_p1 (([(.agg (cs_api_Role u0 w_u0).toArray)] : List Value) ++ k_p1).toArray w (fun e w' => ∃ (I'' : Mem), e = .returned (.bool r) ∧ I'.Le I'' ∧ St E w' I'' (F ++ Os))) (hcall_p1 : Callable P g_p1) (hS : St E w I Os) {r : Bool} (hr : slices_ContainsFunc_api_Role p0 p1 = some r) :
    Calls P 36 #[(.slice a_p0 p0.length c_p0), (.func (.func g_p1) #[] k_p1.toArray)] w (fun e w' => ∃ (I' : Mem), e = .returned (.bool r) ∧ I.Le I' ∧ St E w' I' Os) := by
  refine calls_W (args := [(.slice a_p0 p0.length c_p0), (.func (.func g_p1) #[] k_p1.toArray)]) (fn := Try.f36) rfl rfl rfl ?_
  unfold slices_ContainsFunc_api_Role at hr
  refine W.seq ?_
  refine W.region (l := [0]) (by kernel_rfl) ?_
  refine WO.vals [(0, 4, (.bool false))] (by kernel_rfl) (fun _ => by kernel_rfl) ?_
  refine WO.nil ?_
  refine En.next ?_
  refine W.seq ?_
  refine W.region (l := [0, 1, 2, 3, 4]) (by kernel_rfl) ?_
  refine WO.vals [(0, 5, (.slice a_p0 p0.length c_p0)), (1, 6, (.func (.func g_p1) #[] k_p1.toArray))] (by kernel_rfl) (fun _ => by kernel_rfl) ?_
  obtain ⟨r6, hx_r1, hr⟩ := bind_some hr
  refine WO.call rfl (by kernel_rfl) rfl (f := 46) (args := #[(.slice a_p0 p0.length c_p0), (.func (.func g_p1) #[] k_p1.toArray)]) (by kernel_rfl) (slices_IndexFunc_api_Role_ok h_p0 (fun {F Ic wc} {_} {_} hlc hSc h_u0 {rc} hrc => h_p1 hlc hSc h_u0 hrc) hcall_p1 hS hx_r1) ?_
  rintro _ w2 ⟨I3, rfl, hl4, hS5⟩
  refine ⟨_, rfl, trivial, ?_⟩
  refine WO.vals [(3, 8, (.bool (decide (r6 ≥ 0)))), (4, 4, (.bool (decide (r6 ≥ 0))))] (by kernel_rfl) (fun _ => by kernel_rfl) ?_
  refine WO.nil ?_
  refine En.next ?_
  refine W.ret ?_
  have he := Option.some.inj hr
  subst r
  exact En.ret1 rfl (.bool (decide (r6 ≥ 0))) rfl ⟨I3, rfl, hl4, hS5⟩
def member_Check_1 (p0 : ByteArray) (q1 : List ByteArray) : Option Bool := (slices_Contains_string q1 p0).bind (fun (r6 : Bool) => some (!r6))
set_option maxHeartbeats 1000000 in
theorem member_Check_1_ok {E w : World} {I : Mem} {Os : List Mem} {p0 : ByteArray} {q1 : List ByteArray} {kb1 : Nat} {a_q1 : Option Addr} {c_q1 : Nat} (h_q1 : RSl 1 RStr I a_q1 c_q1 q1) (hm1 : (Gv.one kb1 (.cells #[(.slice a_q1 q1.length c_q1)] 25 (0, 0))) ∈ Os) (hS : St E w I Os) {r : Bool} (hr : member_Check_1 p0 q1 = some r) :
    Calls P 35 #[(.string p0), (.pointer (some ⟨kb1, 0, none⟩))] w (fun e w' => ∃ (I' : Mem), e = .returned (.bool r) ∧ I.Le I' ∧ St E w' I' Os) := by
  refine calls_W (args := [(.string p0), (.pointer (some ⟨kb1, 0, none⟩))]) (fn := Try.f35) rfl rfl rfl ?_
  unfold member_Check_1 at hr
  refine W.seq ?_
  refine W.region (l := [0]) (by kernel_rfl) ?_
  refine WO.vals [(0, 3, (.bool false))] (by kernel_rfl) (fun _ => by kernel_rfl) ?_
  refine WO.nil ?_
  refine En.next ?_
  refine W.seq ?_
  refine W.region (l := [0, 1, 2, 3, 4]) (by kernel_rfl) ?_
  refine WO.load rfl (by kernel_rfl) (by kernel_rfl) rfl (v := (.slice a_q1 q1.length c_q1)) (fun w' hw' => cell_one ((rd_f (hS.rd hm1)) w' hw') (by kernel_rfl)) ?_
  refine WO.vals [(1, 5, (.string p0))] (by kernel_rfl) (fun _ => by kernel_rfl) ?_
  obtain ⟨r6, hx_r1, hr⟩ := bind_some hr
  refine WO.call rfl (by kernel_rfl) rfl (f := 29) (args := #[(.slice a_q1 q1.length c_q1), (.string p0)]) (by kernel_rfl) (slices_Contains_string_ok h_q1 hS hx_r1) ?_
  rintro _ w2 ⟨I3, rfl, hl4, hS5⟩
  refine ⟨_, rfl, trivial, ?_⟩
  refine WO.vals [(3, 7, (.bool (!r6))), (4, 3, (.bool (!r6)))] (by kernel_rfl) (fun _ => by kernel_rfl) ?_
  refine WO.nil ?_
  refine En.next ?_
  refine W.ret ?_
  have he := Option.some.inj hr
  subst r
  exact En.ret1 rfl (.bool (!r6)) rfl ⟨I3, rfl, hl4, hS5⟩
noncomputable def member_Check_2 (p0 : api_Role) (q1 : List api_Role) : Option Bool := (member_round q1 p0).bind (fun (r10 : Bool) => some r10)
set_option maxHeartbeats 1000000 in
theorem member_Check_2_ok {E w : World} {I : Mem} {Os : List Mem} {p0 : api_Role} {q1 : List api_Role} {w_p0 : W_api_Role} {kb1 : Nat} {a_q1 : Option Addr} {c_q1 : Nat} (h_p0 : ok_api_Role I p0 w_p0) (h_q1 : RSl 2 R_api_Role I a_q1 c_q1 q1) (hm1 : (Gv.one kb1 (.cells #[(.slice a_q1 q1.length c_q1)] 22 (0, 0))) ∈ Os) (hS : St E w I Os) {r : Bool} (hr : member_Check_2 p0 q1 = some r) :
    Calls P 37 #[(.agg (cs_api_Role p0 w_p0).toArray), (.pointer (some ⟨kb1, 0, none⟩))] w (fun e w' => ∃ (I' : Mem), e = .returned (.bool r) ∧ I.Le I' ∧ St E w' I' Os) := by
  refine calls_W (args := [(.agg (cs_api_Role p0 w_p0).toArray), (.pointer (some ⟨kb1, 0, none⟩))]) (fn := Try.f37) rfl rfl rfl ?_
  unfold member_Check_2 at hr
  refine W.seq ?_
  refine W.region (l := [0, 1]) (by kernel_rfl) ?_
  refine WO.new hS rfl (by kernel_rfl) rfl (.cells (cs_api_Role p0 w_p0).toArray 27 (0, 0)) (fun b => .pointer (some ⟨b, 0, none⟩)) (by kernel_rfl) (fun _ _ _ => trivial) ?_
  intro b1 w4 hS3
  refine WO.vals [(1, 3, (.bool false))] (by kernel_rfl) (fun _ => by kernel_rfl) ?_
  refine WO.nil ?_
  refine En.next ?_
  refine W.seq ?_
  refine W.region (l := [0, 1, 2, 3]) (by kernel_rfl) ?_
  refine WO.load rfl (by kernel_rfl) (by kernel_rfl) rfl (v := (.slice a_q1 q1.length c_q1)) (fun w' hw' => cell_one ((rd_f (hS3.rd (List.Mem.tail _ hm1))) w' hw') (by kernel_rfl)) ?_
  refine WO.loadN rfl (by kernel_rfl) (by kernel_rfl) rfl ((cs_api_Role p0 w_p0)) (by kernel_rfl) (fun w' hw' => cells_one ((rd_f (hS3.rd (List.Mem.head _))) w' hw') (by kernel_rfl)) ?_
  obtain ⟨r10, hx_r5, hr⟩ := bind_some hr
  refine WO.call rfl (by kernel_rfl) rfl (f := 38) (args := #[(.slice a_q1 q1.length c_q1), (.agg (cs_api_Role p0 w_p0).toArray)]) (by kernel_rfl) (member_round_ok h_q1 h_p0 hS3 hx_r5) ?_
  rintro _ w6 ⟨I7, rfl, hl8, hS9⟩
  refine ⟨_, rfl, trivial, ?_⟩
  refine WO.vals [(3, 3, (.bool r10))] (by kernel_rfl) (fun _ => by kernel_rfl) ?_
  refine WO.nil ?_
  refine En.next ?_
  refine W.ret ?_
  have hS11 := hS9.drop
  have he := Option.some.inj hr
  subst r
  exact En.ret1 rfl (.bool r10) rfl ⟨I7, rfl, hl8, hS11⟩
noncomputable def member_Check (p0 : List api_Role) : Option Int := (member_names p0).bind (fun (r10 : List ByteArray) => ((bif (decide ((p0.length : Int) > 8)) then some true else (member_rising r10).bind (fun (r32 : Bool) => some (!r32)))).bind (fun (j22 : Bool) => (bif j22 then some 2 else (forN (fun (i41 : Nat) => fun (_s : Unit) => (idx p0 (i41 : Int)).bind (fun (x48 : api_Role) => (lex_IsName x48.Name).bind (fun (r60 : Bool) => ((bif (!r60) then some true else (member_rising x48.In).bind (fun (r72 : Bool) => some (!r72)))).bind (fun (j61 : Bool) => ((bif j61 then some true else (slices_ContainsFunc_string x48.In (fun (u0 : ByteArray) => member_Check_1 u0 r10)).bind (fun (r88 : Bool) => some r88))).bind (fun (j77 : Bool) => (bif j77 then some (.inr 2) else some (.inl ()))))))) p0.length 0 ()).bind (fun (t : Unit ⊕ (Int)) => match t with | .inl _ => (slices_ContainsFunc_api_Role p0 (fun (u0 : api_Role) => member_Check_2 u0 p0)).bind (fun (r106 : Bool) => (bif r106 then some 2 else some 0)) | .inr s94 => some s94))))
set_option maxHeartbeats 1000000 in
theorem member_Check_ok {E w : World} {I : Mem} {Os : List Mem} {p0 : List api_Role} {a_p0 : Option Addr} {c_p0 : Nat} (h_p0 : RSl 2 R_api_Role I a_p0 c_p0 p0) (hS : St E w I Os) {r : Int} (hr : member_Check p0 = some r) :
    Calls P 18 #[(.slice a_p0 p0.length c_p0)] w (fun e w' => ∃ (I' : Mem), e = .returned (.int .i64 r) ∧ I.Le I' ∧ St E w' I' Os) := by
  refine calls_W (args := [(.slice a_p0 p0.length c_p0)]) (fn := Try.f18) rfl rfl rfl ?_
  unfold member_Check at hr
  refine W.seq ?_
  refine W.region (l := [0, 1]) (by kernel_rfl) ?_
  refine WO.new hS rfl (by kernel_rfl) rfl (.cells #[(.slice a_p0 p0.length c_p0)] 22 (0, 0)) (fun b => .pointer (some ⟨b, 0, none⟩)) (by kernel_rfl) (fun _ _ _ => trivial) ?_
  intro b1 w4 hS3
  refine WO.vals [(1, 2, (.int .i64 0))] (by kernel_rfl) (fun _ => by kernel_rfl) ?_
  refine WO.nil ?_
  refine En.next ?_
  refine W.seq ?_
  refine W.region (l := [0, 1, 2, 3]) (by kernel_rfl) ?_
  refine WO.load rfl (by kernel_rfl) (by kernel_rfl) rfl (v := (.slice a_p0 p0.length c_p0)) (fun w' hw' => cell_one ((rd_f (hS3.rd (List.Mem.head _))) w' hw') (by kernel_rfl)) ?_
  obtain ⟨r10, hx_r5, hr⟩ := bind_some hr
  refine WO.call rfl (by kernel_rfl) rfl (f := 31) (args := #[(.slice a_p0 p0.length c_p0)]) (by kernel_rfl) (member_names_ok h_p0 hS3 hx_r5) ?_
  rintro _ w6 ⟨I7, a_r10, c_r10, C_r10, rfl, hl8, hS9, h_r10⟩
  refine ⟨_, rfl, trivial, ?_⟩
  refine WO.new hS9 rfl (by kernel_rfl) rfl (.cells #[(.slice none 0 0)] 25 (0, 0)) (fun b => .pointer (some ⟨b, 0, none⟩)) (by kernel_rfl) (fun _ _ _ => trivial) ?_
  intro b11 w14 hS13
  have hS15 := hS13.front1
  obtain ⟨I16, hl17, hS19, hp18⟩ := OwnSl.pub h_r10 hS15
  refine WO.storeBox hS19 rfl (by kernel_rfl) rfl 0 rfl rfl (by kernel_rfl) (by kernel_rfl) (by kernel_rfl) (#[(.slice a_r10 r10.length c_r10)]) (by kernel_rfl) (fun _ _ => trivial) ?_
  intro w21 hS20
  refine WO.nil ?_
  refine En.next ?_
  refine W.seq ?_
  refine W.seq ?_
  refine W.region (l := [0, 1, 2, 3, 4, 5, 6, 7]) (by kernel_rfl) ?_
  refine WO.load rfl (by kernel_rfl) (by kernel_rfl) rfl (v := (.slice a_p0 p0.length c_p0)) (fun w' hw' => cell_one ((rd_f (hS20.rd (List.Mem.tail _ (List.Mem.head _)))) w' hw') (by kernel_rfl)) ?_
  refine WO.vals [(1, 9, (.int .i64 (p0.length : Int))), (2, 10, (.bool (decide ((p0.length : Int) > 8)))), (3, 11, (.bool (decide ((p0.length : Int) > 8))))] (by kernel_rfl) (fun _ => by kernel_rfl) ?_
  obtain ⟨j22, hr1, hr⟩ := bind_some hr
  refine WO.join (l1 := [4, 5, 6, 7]) (l2 := []) (J := (fun fr w => ∃ (I24 : Mem), fr = [(1, (.pointer (some ⟨b1, 0, none⟩))), (3, (.pointer (some ⟨b11, 0, none⟩))), (15, (.bool j22))] ∧ I16.Le I24 ∧ St E w I24 ((Gv.one b1 (.cells #[(.slice a_p0 p0.length c_p0)] 22 (0, 0))) :: (Gv.one b11 (.cells #[(.slice a_r10 r10.length c_r10)] 25 (0, 0))) :: Os))) ?restj22 ?waysj22
  case waysj22 =>
    refine WO.caseb (decide ((p0.length : Int) > 8)) (fun hc => ?_) (fun hc => ?_)
    · replace hr1 := cond_t hc hr1
      refine WO.reslot 11 rfl (show Value.bool (decide ((p0.length : Int) > 8)) = Value.bool true by rw [hc]) ?_
      refine WO.pass rfl (by kernel_rfl) rfl ?_
      refine WO.pass rfl (by kernel_rfl) rfl ?_
      refine WO.pass rfl (by kernel_rfl) rfl ?_
      refine WO.vals [(7, 15, (.bool true))] (by kernel_rfl) (fun _ => by kernel_rfl) ?_
      have hS26 := hS20.front1
      have he := Option.some.inj hr1
      subst j22
      refine WO.weaken (fr' := [(1, (.pointer (some ⟨b1, 0, none⟩))), (3, (.pointer (some ⟨b11, 0, none⟩))), (15, (.bool true))]) (WO.meet ⟨I16, rfl, Mem.Le.refl _, hS26⟩) (Sub.cons rfl (Sub.cons rfl (Sub.cons rfl Sub.nil)))
    · replace hr1 := cond_f hc hr1
      refine WO.reslot 11 rfl (show Value.bool (decide ((p0.length : Int) > 8)) = Value.bool false by rw [hc]) ?_
      refine WO.load rfl (by kernel_rfl) (by kernel_rfl) rfl (v := (.slice a_r10 r10.length c_r10)) (fun w' hw' => cell_one ((rd_f (hS20.rd (List.Mem.head _))) w' hw') (by kernel_rfl)) ?_
      obtain ⟨r32, hx_r27, hr1⟩ := bind_some hr1
      refine WO.call rfl (by kernel_rfl) rfl (f := 32) (args := #[(.slice a_r10 r10.length c_r10)]) (by kernel_rfl) (member_rising_ok hp18 hS20 hx_r27) ?_
      rintro _ w28 ⟨I29, rfl, hl30, hS31⟩
      refine ⟨_, rfl, trivial, ?_⟩
      refine WO.vals [(6, 14, (.bool (!r32))), (7, 15, (.bool (!r32)))] (by kernel_rfl) (fun _ => by kernel_rfl) ?_
      have hS33 := hS31.front1
      have he := Option.some.inj hr1
      subst j22
      refine WO.weaken (fr' := [(1, (.pointer (some ⟨b1, 0, none⟩))), (3, (.pointer (some ⟨b11, 0, none⟩))), (15, (.bool (!r32)))]) (WO.meet ⟨I29, rfl, hl30, hS33⟩) (Sub.cons rfl (Sub.cons rfl (Sub.cons rfl Sub.nil)))
  case restj22 =>
    rintro _ w34 ⟨I24, rfl, hl25, hS35⟩
    refine WO.nil ?_
    refine En.next ?_
    refine W.cond (b := j22) rfl rfl (fun hc => ?_) (fun hc => ?_)
    · replace hr := cond_t hc hr
      refine W.seq ?_
      refine W.region (l := [0]) (by kernel_rfl) ?_
      refine WO.vals [(0, 2, (.int .i64 2))] (by kernel_rfl) (fun _ => by kernel_rfl) ?_
      refine WO.nil ?_
      refine En.next ?_
      refine W.ret ?_
      refine En.nx_ret ?_
      have hS36 := hS35.drop
      have hS37 := hS36.drop
      have he := Option.some.inj hr
      subst r
      exact En.ret1 rfl (.int .i64 2) rfl ⟨I24, rfl, ((hl8.trans hl17).trans hl25), hS37⟩
    · replace hr := cond_f hc hr
      refine W.skip ?_
      refine En.next ?_
      refine W.seq ?_
      refine W.seq ?_
      refine W.region (l := [0, 1, 2]) (by kernel_rfl) ?_
      refine WO.load rfl (by kernel_rfl) (by kernel_rfl) rfl (v := (.slice a_p0 p0.length c_p0)) (fun w' hw' => cell_one ((rd_f (hS35.rd (List.Mem.head _))) w' hw') (by kernel_rfl)) ?_
      refine WO.vals [(1, 17, (.int .i64 (p0.length : Int))), (2, 18, (.int .i64 0))] (by kernel_rfl) (fun _ => by kernel_rfl) ?_
      refine WO.nil ?_
      refine En.next ?_
      refine W.block ?_
      obtain ⟨t38, hloop42, hr⟩ := bind_some hr
      have hlt46 := ((RSl.mono h_p0 ((hl8.trans hl17).trans hl25))).len_lt
      refine W.weaken (fr' := [(1, (.pointer (some ⟨b1, 0, none⟩))), (3, (.pointer (some ⟨b11, 0, none⟩))), (16, (.slice a_p0 p0.length c_p0)), (17, (.int .i64 (p0.length : Int))), (18, (.int .i64 ((0 : Nat) : Int)))]) (W.forN (m := p0.length) hloop42 (fun (i41 : Nat) => fun (_s : Unit) fr w => ∃ (I39 : Mem), fr = [(1, (.pointer (some ⟨b1, 0, none⟩))), (3, (.pointer (some ⟨b11, 0, none⟩))), (16, (.slice a_p0 p0.length c_p0)), (17, (.int .i64 (p0.length : Int))), (18, (.int .i64 (i41 : Int)))] ∧ I24.Le I39 ∧ St E w I39 ((Gv.one b1 (.cells #[(.slice a_p0 p0.length c_p0)] 22 (0, 0))) :: (Gv.one b11 (.cells #[(.slice a_r10 r10.length c_r10)] 25 (0, 0))) :: Os)) ⟨I24, rfl, Mem.Le.refl _, hS35⟩ ?roundt38 ?lastt38) (Sub.cons rfl (Sub.cons rfl (Sub.cons rfl (Sub.cons rfl (Sub.cons rfl Sub.nil)))))
      case roundt38 =>
        rintro i41 _ _ w43 hi47 ⟨I39, rfl, hl40, hS44⟩ x45 hr1 hext38
        refine W.seq ?_
        refine W.region (l := [0]) (by kernel_rfl) ?_
        refine WO.vals [(0, 19, (.bool (decide ((i41 : Int) < (p0.length : Int)))))] (by kernel_rfl) (fun _ => by kernel_rfl) ?_
        refine WO.nil ?_
        refine En.next ?_
        refine W.seq ?_
        refine W.cond (b := (decide ((i41 : Int) < (p0.length : Int)))) rfl rfl (fun hc => ?_) (fun hc => ?_)
        rotate_left
        · exact absurd hc (by first | (simp; done) | (simp; omega))
        clear hc
        refine W.skip ?_
        refine En.next ?_
        refine W.seq ?_
        refine W.block ?_
        refine W.seq ?_
        refine W.region (l := [0, 1, 2, 3]) (by kernel_rfl) ?_
        obtain ⟨x48, hx_x48, hr1⟩ := bind_some hr1
        obtain ⟨h0_x48, h1_x48, hx_x48⟩ := idx_some hx_x48
        obtain ⟨ha_x48, cs_x48, hn_x48, hr_x48, hc_x48⟩ := ((RSl.mono h_p0 (((hl8.trans hl17).trans hl25).trans hl40))).el _ _ hx_x48
        obtain ⟨w_x48, rfl, h_x48⟩ := hr_x48
        refine WO.indexAddr (e := 27) (sz := 2) rfl (by kernel_rfl) (by kernel_rfl) (by kernel_rfl) rfl ha_x48 rfl h0_x48 h1_x48 ?_
        refine WO.loadN rfl (by kernel_rfl) (by kernel_rfl) rfl ((cs_api_Role x48 w_x48)) (by kernel_rfl) (fun w' hw' => hc_x48.cells (k := 0) (by kernel_rfl) rfl ((rd_f hS44.im) w' hw')) ?_
        refine WO.new hS44 rfl (by kernel_rfl) rfl (.cells (cs_api_Role z_api_Role zw_api_Role).toArray 27 (0, 0)) (fun b => .pointer (some ⟨b, 0, none⟩)) (by kernel_rfl) (fun _ _ _ => trivial) ?_
        intro b49 w52 hS51
        refine WO.storeBox hS51 rfl (by kernel_rfl) rfl 0 rfl rfl (by kernel_rfl) (by kernel_rfl) (by kernel_rfl) ((cs_api_Role x48 w_x48).toArray) (by kernel_rfl) (fun _ _ => trivial) ?_
        intro w54 hS53
        refine WO.nil ?_
        refine En.next ?_
        refine W.seq ?_
        refine W.region (l := [0, 1, 2, 3, 4, 5, 6, 7, 8, 9, 10, 11, 12, 13, 14, 15]) (by kernel_rfl) ?_
        refine WO.vals [(0, 22, (.pointer (some ⟨b49, 0, none⟩)))] (by kernel_rfl) (fun _ => by kernel_rfl) ?_
        refine WO.load rfl (by kernel_rfl) (by kernel_rfl) rfl (v := (.string x48.Name)) (fun w' hw' => cell_one ((rd_f (hS53.rd (List.Mem.head _))) w' hw') (by kernel_rfl)) ?_
        obtain ⟨r60, hx_r55, hr1⟩ := bind_some hr1
        refine WO.call rfl (by kernel_rfl) rfl (f := 33) (args := #[(.string x48.Name)]) (by kernel_rfl) (lex_IsName_ok  hS53 hx_r55) ?_
        rintro _ w56 ⟨I57, rfl, hl58, hS59⟩
        refine ⟨_, rfl, trivial, ?_⟩
        refine WO.vals [(3, 25, (.bool (!r60))), (4, 26, (.bool (!r60)))] (by kernel_rfl) (fun _ => by kernel_rfl) ?_
        obtain ⟨j61, hr2, hr1⟩ := bind_some hr1
        refine WO.join (l1 := [5, 6, 7, 8, 9]) (l2 := [10, 11, 12, 13, 14, 15]) (J := (fun fr w => ∃ (I63 : Mem), fr = [(1, (.pointer (some ⟨b1, 0, none⟩))), (3, (.pointer (some ⟨b11, 0, none⟩))), (5, (.pointer (some ⟨b49, 0, none⟩))), (16, (.slice a_p0 p0.length c_p0)), (17, (.int .i64 (p0.length : Int))), (18, (.int .i64 (i41 : Int))), (31, (.bool j61))] ∧ I57.Le I63 ∧ St E w I63 ((Gv.one b1 (.cells #[(.slice a_p0 p0.length c_p0)] 22 (0, 0))) :: (Gv.one b11 (.cells #[(.slice a_r10 r10.length c_r10)] 25 (0, 0))) :: (Gv.one b49 (.cells (cs_api_Role x48 w_x48).toArray 27 (0, 0))) :: Os))) ?restj61 ?waysj61
        case waysj61 =>
          refine WO.caseb (!r60) (fun hc => ?_) (fun hc => ?_)
          · replace hr2 := cond_t hc hr2
            refine WO.reslot 26 rfl (show Value.bool (!r60) = Value.bool true by rw [hc]) ?_
            refine WO.pass rfl (by kernel_rfl) rfl ?_
            refine WO.pass rfl (by kernel_rfl) rfl ?_
            refine WO.pass rfl (by kernel_rfl) rfl ?_
            refine WO.pass rfl (by kernel_rfl) rfl ?_
            refine WO.vals [(9, 31, (.bool true))] (by kernel_rfl) (fun _ => by kernel_rfl) ?_
            have hS65 := hS59.front2
            have hS66 := hS65.front2
            have he := Option.some.inj hr2
            subst j61
            refine WO.weaken (fr' := [(1, (.pointer (some ⟨b1, 0, none⟩))), (3, (.pointer (some ⟨b11, 0, none⟩))), (5, (.pointer (some ⟨b49, 0, none⟩))), (16, (.slice a_p0 p0.length c_p0)), (17, (.int .i64 (p0.length : Int))), (18, (.int .i64 (i41 : Int))), (31, (.bool true))]) (WO.meet ⟨I57, rfl, Mem.Le.refl _, hS66⟩) (Sub.cons rfl (Sub.cons rfl (Sub.cons rfl (Sub.cons rfl (Sub.cons rfl (Sub.cons rfl (Sub.cons rfl Sub.nil)))))))
          · replace hr2 := cond_f hc hr2
            refine WO.reslot 26 rfl (show Value.bool (!r60) = Value.bool false by rw [hc]) ?_
            refine WO.vals [(5, 27, (.pointer (some ⟨b49, 1, none⟩)))] (by kernel_rfl) (fun _ => by kernel_rfl) ?_
            refine WO.load rfl (by kernel_rfl) (by kernel_rfl) rfl (v := (.slice w_x48.In.a x48.In.length w_x48.In.c)) (fun w' hw' => cell_one ((rd_f (hS59.rd (List.Mem.head _))) w' hw') (by kernel_rfl)) ?_
            obtain ⟨r72, hx_r67, hr2⟩ := bind_some hr2
            refine WO.call rfl (by kernel_rfl) rfl (f := 32) (args := #[(.slice w_x48.In.a x48.In.length w_x48.In.c)]) (by kernel_rfl) (member_rising_ok (RSl.mono h_x48.In hl58) hS59 hx_r67) ?_
            rintro _ w68 ⟨I69, rfl, hl70, hS71⟩
            refine ⟨_, rfl, trivial, ?_⟩
            refine WO.vals [(8, 30, (.bool (!r72))), (9, 31, (.bool (!r72)))] (by kernel_rfl) (fun _ => by kernel_rfl) ?_
            have hS73 := hS71.front2
            have hS74 := hS73.front2
            have he := Option.some.inj hr2
            subst j61
            refine WO.weaken (fr' := [(1, (.pointer (some ⟨b1, 0, none⟩))), (3, (.pointer (some ⟨b11, 0, none⟩))), (5, (.pointer (some ⟨b49, 0, none⟩))), (16, (.slice a_p0 p0.length c_p0)), (17, (.int .i64 (p0.length : Int))), (18, (.int .i64 (i41 : Int))), (31, (.bool (!r72)))]) (WO.meet ⟨I69, rfl, hl70, hS74⟩) (Sub.cons rfl (Sub.cons rfl (Sub.cons rfl (Sub.cons rfl (Sub.cons rfl (Sub.cons rfl (Sub.cons rfl Sub.nil)))))))
        case restj61 =>
          rintro _ w75 ⟨I63, rfl, hl64, hS76⟩
          refine WO.vals [(10, 32, (.bool j61))] (by kernel_rfl) (fun _ => by kernel_rfl) ?_
          obtain ⟨j77, hr2, hr1⟩ := bind_some hr1
          refine WO.join (l1 := [11, 12, 13, 14, 15]) (l2 := []) (J := (fun fr w => ∃ (I79 : Mem), fr = [(1, (.pointer (some ⟨b1, 0, none⟩))), (3, (.pointer (some ⟨b11, 0, none⟩))), (16, (.slice a_p0 p0.length c_p0)), (17, (.int .i64 (p0.length : Int))), (18, (.int .i64 (i41 : Int))), (37, (.bool j77))] ∧ I63.Le I79 ∧ St E w I79 ((Gv.one b1 (.cells #[(.slice a_p0 p0.length c_p0)] 22 (0, 0))) :: (Gv.one b11 (.cells #[(.slice a_r10 r10.length c_r10)] 25 (0, 0))) :: Os))) ?restj77 ?waysj77
          case waysj77 =>
            refine WO.caseb j61 (fun hc => ?_) (fun hc => ?_)
            · replace hr2 := cond_t hc hr2
              refine WO.reslot 32 rfl (show Value.bool j61 = Value.bool true by rw [hc]) ?_
              refine WO.pass rfl (by kernel_rfl) rfl ?_
              refine WO.pass rfl (by kernel_rfl) rfl ?_
              refine WO.pass rfl (by kernel_rfl) rfl ?_
              refine WO.pass rfl (by kernel_rfl) rfl ?_
              refine WO.vals [(15, 37, (.bool true))] (by kernel_rfl) (fun _ => by kernel_rfl) ?_
              have hS81 := hS76.front2
              have hS82 := hS81.drop
              have he := Option.some.inj hr2
              subst j77
              refine WO.weaken (fr' := [(1, (.pointer (some ⟨b1, 0, none⟩))), (3, (.pointer (some ⟨b11, 0, none⟩))), (16, (.slice a_p0 p0.length c_p0)), (17, (.int .i64 (p0.length : Int))), (18, (.int .i64 (i41 : Int))), (37, (.bool true))]) (WO.meet ⟨I63, rfl, Mem.Le.refl _, hS82⟩) (Sub.cons rfl (Sub.cons rfl (Sub.cons rfl (Sub.cons rfl (Sub.cons rfl (Sub.cons rfl Sub.nil))))))
            · replace hr2 := cond_f hc hr2
              refine WO.reslot 32 rfl (show Value.bool j61 = Value.bool false by rw [hc]) ?_
              refine WO.vals [(11, 33, (.pointer (some ⟨b49, 1, none⟩)))] (by kernel_rfl) (fun _ => by kernel_rfl) ?_
              refine WO.load rfl (by kernel_rfl) (by kernel_rfl) rfl (v := (.slice w_x48.In.a x48.In.length w_x48.In.c)) (fun w' hw' => cell_one ((rd_f (hS76.rd (List.Mem.tail _ (List.Mem.tail _ (List.Mem.head _))))) w' hw') (by kernel_rfl)) ?_
              refine WO.vals [(13, 35, (.func (.func 35) #[] #[(.pointer (some ⟨b11, 0, none⟩))]))] (by kernel_rfl) (fun _ => by kernel_rfl) ?_
              obtain ⟨r88, hx_r83, hr2⟩ := bind_some hr2
              refine WO.call rfl (by kernel_rfl) rfl (f := 34) (args := #[(.slice w_x48.In.a x48.In.length w_x48.In.c), (.func (.func 35) #[] #[(.pointer (some ⟨b11, 0, none⟩))])]) (by kernel_rfl) (slices_ContainsFunc_string_ok (RSl.mono h_x48.In (hl58.trans hl64)) (fun {F Ic wc} {_} hlc hSc  {rc} hrc => member_Check_1_ok (RSl.mono (RSl.mono hp18 (((hl25.trans hl40).trans hl58).trans hl64)) hlc) (List.mem_append_right _ (List.Mem.tail _ (List.Mem.head _))) hSc hrc) (fun _ _ => by kernel_rfl) hS76 hx_r83) ?_
              rintro _ w84 ⟨I85, rfl, hl86, hS87⟩
              refine ⟨_, rfl, trivial, ?_⟩
              refine WO.vals [(15, 37, (.bool r88))] (by kernel_rfl) (fun _ => by kernel_rfl) ?_
              have hS89 := hS87.front2
              have hS90 := hS89.drop
              have he := Option.some.inj hr2
              subst j77
              refine WO.weaken (fr' := [(1, (.pointer (some ⟨b1, 0, none⟩))), (3, (.pointer (some ⟨b11, 0, none⟩))), (16, (.slice a_p0 p0.length c_p0)), (17, (.int .i64 (p0.length : Int))), (18, (.int .i64 (i41 : Int))), (37, (.bool r88))]) (WO.meet ⟨I85, rfl, hl86, hS90⟩) (Sub.cons rfl (Sub.cons rfl (Sub.cons rfl (Sub.cons rfl (Sub.cons rfl (Sub.cons rfl Sub.nil))))))
          case restj77 =>
            rintro _ w91 ⟨I79, rfl, hl80, hS92⟩
            refine WO.nil ?_
            refine En.next ?_
            refine W.cond (b := j77) rfl rfl (fun hc => ?_) (fun hc => ?_)
            · replace hr1 := cond_t hc hr1
              refine W.seq ?_
              refine W.region (l := [0]) (by kernel_rfl) ?_
              refine WO.vals [(0, 2, (.int .i64 2))] (by kernel_rfl) (fun _ => by kernel_rfl) ?_
              refine WO.nil ?_
              refine En.next ?_
              refine W.ret ?_
              refine En.in_ret ?_
              refine En.nx_ret ?_
              refine En.rd_ret ?_
              have ht := hext38 _ (Option.some.inj hr1).symm
              subst t38
              refine En.in_ret ?_
              refine En.nx_ret ?_
              have hS97 := hS92.drop
              have hS98 := hS97.drop
              have he := Option.some.inj hr
              subst r
              exact En.ret1 rfl (.int .i64 2) rfl ⟨I79, rfl, ((((((hl8.trans hl17).trans hl25).trans hl40).trans hl58).trans hl64).trans hl80), hS98⟩
            · replace hr1 := cond_f hc hr1
              refine W.skip ?_
              refine En.in_normal ?_
              refine En.next ?_
              refine W.region (l := [0, 1]) (by kernel_rfl) ?_
              refine WO.incr (j := i41) rfl (by kernel_rfl) rfl (by first | omega | (dsimp only at *; omega)) ?_
              refine WO.vals [(1, 18, (.int .i64 ((i41 + 1 : Nat) : Int)))] (by kernel_rfl) (fun _ => by kernel_rfl) ?_
              refine WO.nil ?_
              refine En.weaken (fr' := [(1, (.pointer (some ⟨b1, 0, none⟩))), (3, (.pointer (some ⟨b11, 0, none⟩))), (16, (.slice a_p0 p0.length c_p0)), (17, (.int .i64 (p0.length : Int))), (18, (.int .i64 ((i41 + 1 : Nat) : Int)))]) (En.round ⟨(), (Option.some.inj hr1).symm, I79, rfl, (((hl40.trans hl58).trans hl64).trans hl80), hS92⟩) (Sub.cons rfl (Sub.cons rfl (Sub.cons rfl (Sub.cons rfl (Sub.cons rfl Sub.nil)))))
      case lastt38 =>
        rintro _ _ w99 ⟨I39, rfl, hl40, hS100⟩ he
        cases he
        refine W.seq ?_
        refine W.region (l := [0]) (by kernel_rfl) ?_
        refine WO.vals [(0, 19, (.bool (decide ((p0.length : Int) < (p0.length : Int)))))] (by kernel_rfl) (fun _ => by kernel_rfl) ?_
        refine WO.nil ?_
        refine En.next ?_
        refine W.seq ?_
        refine W.cond (b := (decide ((p0.length : Int) < (p0.length : Int)))) rfl rfl (fun hc => ?_) (fun hc => ?_)
        · exact absurd hc (by first | (simp; done) | (simp; omega))
        clear hc
        refine W.exit ?_
        refine En.nx_exit ?_
        refine En.rd_exit ?_
        refine En.in_hit ?_
        refine En.next ?_
        refine W.seq ?_
        refine W.seq ?_
        refine W.region (l := [0, 1, 2]) (by kernel_rfl) ?_
        refine WO.load rfl (by kernel_rfl) (by kernel_rfl) rfl (v := (.slice a_p0 p0.length c_p0)) (fun w' hw' => cell_one ((rd_f (hS100.rd (List.Mem.head _))) w' hw') (by kernel_rfl)) ?_
        refine WO.vals [(1, 40, (.func (.func 37) #[] #[(.pointer (some ⟨b1, 0, none⟩))]))] (by kernel_rfl) (fun _ => by kernel_rfl) ?_
        obtain ⟨r106, hx_r101, hr⟩ := bind_some hr
        refine WO.call rfl (by kernel_rfl) rfl (f := 36) (args := #[(.slice a_p0 p0.length c_p0), (.func (.func 37) #[] #[(.pointer (some ⟨b1, 0, none⟩))])]) (by kernel_rfl) (slices_ContainsFunc_api_Role_ok (RSl.mono h_p0 (((hl8.trans hl17).trans hl25).trans hl40)) (fun {F Ic wc} {_} {_} hlc hSc h_u0 {rc} hrc => member_Check_2_ok h_u0 (RSl.mono (RSl.mono h_p0 (((hl8.trans hl17).trans hl25).trans hl40)) hlc) (List.mem_append_right _ (List.Mem.head _)) hSc hrc) (fun _ _ => by kernel_rfl) hS100 hx_r101) ?_
        rintro _ w102 ⟨I103, rfl, hl104, hS105⟩
        refine ⟨_, rfl, trivial, ?_⟩
        refine WO.nil ?_
        refine En.next ?_
        refine W.cond (b := r106) rfl rfl (fun hc => ?_) (fun hc => ?_)
        · replace hr := cond_t hc hr
          refine W.seq ?_
          refine W.region (l := [0]) (by kernel_rfl) ?_
          refine WO.vals [(0, 2, (.int .i64 2))] (by kernel_rfl) (fun _ => by kernel_rfl) ?_
          refine WO.nil ?_
          refine En.next ?_
          refine W.ret ?_
          refine En.nx_ret ?_
          have hS107 := hS105.drop
          have hS108 := hS107.drop
          have he := Option.some.inj hr
          subst r
          exact En.ret1 rfl (.int .i64 2) rfl ⟨I103, rfl, ((((hl8.trans hl17).trans hl25).trans hl40).trans hl104), hS108⟩
        · replace hr := cond_f hc hr
          refine W.skip ?_
          refine En.next ?_
          refine W.seq ?_
          refine W.region (l := [0]) (by kernel_rfl) ?_
          refine WO.vals [(0, 2, (.int .i64 0))] (by kernel_rfl) (fun _ => by kernel_rfl) ?_
          refine WO.nil ?_
          refine En.next ?_
          refine W.ret ?_
          have hS109 := hS105.drop
          have hS110 := hS109.drop
          have he := Option.some.inj hr
          subst r
          exact En.ret1 rfl (.int .i64 0) rfl ⟨I103, rfl, ((((hl8.trans hl17).trans hl25).trans hl40).trans hl104), hS110⟩
def slices_Clone_api_Role (p0 : List api_Role) : Option (List api_Role) := (app 40 ([] : List api_Role) p0).bind (fun (x10 : List api_Role) => some x10)
set_option maxHeartbeats 1000000 in
theorem slices_Clone_api_Role_ok {E w : World} {I : Mem} {Os : List Mem} {p0 : List api_Role} {a_p0 : Option Addr} {c_p0 : Nat} (h_p0 : RSl 2 R_api_Role I a_p0 c_p0 p0) (hS : St E w I Os) {r : (List api_Role)} (hr : slices_Clone_api_Role p0 = some r) :
    Calls P 56 #[(.slice a_p0 p0.length c_p0)] w (fun e w' => ∃ (I' : Mem) (ra0 : Option Addr) (rc0 : Nat) (rC0 : Mem), e = .returned (.slice ra0 r.length rc0) ∧ I.Le I' ∧ St E w' I' (rC0 :: Os) ∧ OwnSl 27 2 R_api_Role I' rC0 ra0 rc0 r) := by
  refine calls_W (args := [(.slice a_p0 p0.length c_p0)]) (fn := Try.f56) rfl rfl rfl ?_
  unfold slices_Clone_api_Role at hr
  refine W.seq ?_
  refine W.region (l := [0]) (by kernel_rfl) ?_
  refine WO.vals [(0, 2, (.slice none 0 0))] (by kernel_rfl) (fun _ => by kernel_rfl) ?_
  refine WO.nil ?_
  refine En.next ?_
  refine W.seq ?_
  refine W.seq ?_
  refine W.region (l := [0, 1]) (by kernel_rfl) ?_
  refine WO.vals [(0, 3, (.slice a_p0 p0.length c_p0))] (by kernel_rfl) (fun _ => by kernel_rfl) ?_
  refine WO.eqNil (e := 27) rfl (by kernel_rfl) (by kernel_rfl) rfl rfl ?_
  refine WO.nil ?_
  refine En.next ?_
  refine W.cond (b := (a_p0.isNone)) rfl rfl (fun hc => ?_) (fun hc => ?_)
  · have ha0 := Option.isNone_iff_eq_none.1 hc
    subst ha0
    have hx0 := (h_p0).none_nil
    subst hx0
    replace hr : some ([] : List api_Role) = some r := by simpa [app] using hr
    refine W.seq ?_
    refine W.region (l := [0]) (by kernel_rfl) ?_
    refine WO.vals [(0, 2, (.slice none 0 0))] (by kernel_rfl) (fun _ => by kernel_rfl) ?_
    refine WO.nil ?_
    refine En.next ?_
    refine W.ret ?_
    refine En.nx_ret ?_
    have hS2 := hS.no
    have he := Option.some.inj hr
    subst r
    exact En.ret1 rfl (.slice none ([] : List api_Role).length 0) rfl ⟨I, none, 0, Mem.no, rfl, Mem.Le.refl _, hS2, OwnSl.nil⟩
  · clear hc
    refine W.skip ?_
    refine En.next ?_
    refine W.seq ?_
    refine W.region (l := [0, 1, 2, 3]) (by kernel_rfl) ?_
    refine WO.newSlice (rel := R_api_Role) (xs := ([] : List api_Role)) hS rfl (by kernel_rfl) rfl 27 2 [] (by kernel_rfl) rfl (Elr.nil) (fun _ _ _ => trivial) ?_
    intro a6 C4 w8 hS7 ho5
    refine WO.vals [(1, 6, (.slice a_p0 p0.length c_p0))] (by kernel_rfl) (fun _ => by kernel_rfl) ?_
    obtain ⟨x10, hx_x10, hr⟩ := bind_some hr
    obtain ⟨h0_x10, he_x10⟩ := app_some hx_x10
    refine WO.append (e' := 27) (b := 40) (zs := (cs_api_Role z_api_Role zw_api_Role).toArray) hS7 ho5 rfl (by kernel_rfl) rfl (by kernel_rfl) (by kernel_rfl) (by kernel_rfl) rfl rfl rfl rfl h_p0 hS7.im h0_x10 he_x10 (fun _ _ _ => trivial) ?_
    intro a11 c12 w13 C14 hS15 ho16
    refine WO.vals [(3, 2, (.slice a11 x10.length c12))] (by kernel_rfl) (fun _ => by kernel_rfl) ?_
    refine WO.nil ?_
    refine En.next ?_
    refine W.ret ?_
    have he := Option.some.inj hr
    subst r
    exact En.ret1 rfl (.slice a11 x10.length c12) rfl ⟨I, a11, c12, C14, rfl, Mem.Le.refl _, hS15, ho16⟩
/-- A role as words: where its list stands, its capacity and its length. -/
structure RawRole where
  Name : ByteArray
  a : Option Addr
  c : Nat
  n : Nat
def R_Raw (_ : Mem) (cs : List Value) (x : RawRole) : Prop := cs = [.string x.Name, .slice x.a x.n x.c]
instance : Mono R_Raw := ⟨fun _ h => h, fun h v hv => by rw [h] at hv; simp only [List.mem_cons, List.not_mem_nil, or_false] at hv; rcases hv with rfl | rfl <;> rfl⟩
/-- Roles whose lists are owned, each one by itself. -/
structure Nest (I : Mem) (rs : List RawRole) (Ds : List Mem) (xs : List api_Role) : Prop where
  l1 : rs.length = xs.length
  l2 : Ds.length = xs.length
  el : ∀ (k : Nat) (r : RawRole) (D : Mem) (x : api_Role), rs[k]? = some r → Ds[k]? = some D → xs[k]? = some x → r.Name = x.Name ∧ r.n = x.In.length ∧ OwnSl 9 1 RStr I D r.a r.c x.In
theorem Nest.mono {I J : Mem} {rs : List RawRole} {Ds : List Mem} {xs : List api_Role} (h : Nest I rs Ds xs) (hl : I.Le J) : Nest J rs Ds xs :=
  ⟨h.l1, h.l2, fun k r D x h1 h2 h3 => by obtain ⟨g1, g2, g3⟩ := h.el k r D x h1 h2 h3; exact ⟨g1, g2, g3.mono hl⟩⟩
theorem Nest.get {I : Mem} {rs : List RawRole} {Ds : List Mem} {xs : List api_Role} (h : Nest I rs Ds xs) {k : Nat} {x : api_Role} (hx : xs[k]? = some x) : ∃ r D, rs[k]? = some r ∧ Ds[k]? = some D ∧ r.Name = x.Name ∧ r.n = x.In.length ∧ OwnSl 9 1 RStr I D r.a r.c x.In := by
  have hk := (List.getElem?_eq_some_iff.1 hx).1
  have h1 : rs[k]? = some (rs[k]'(by rw [h.l1]; exact hk)) := List.getElem?_eq_getElem _
  have h2 : Ds[k]? = some (Ds[k]'(by rw [h.l2]; exact hk)) := List.getElem?_eq_getElem _
  exact ⟨_, _, h1, h2, h.el k _ _ x h1 h2 hx⟩
theorem Nest.set {I : Mem} {rs : List RawRole} {Ds : List Mem} {xs : List api_Role} (h : Nest I rs Ds xs) (k : Nat) {r : RawRole} {D : Mem} {x : api_Role} (h1 : r.Name = x.Name) (h2 : r.n = x.In.length) (h3 : OwnSl 9 1 RStr I D r.a r.c x.In) : Nest I (rs.set k r) (Ds.set k D) (xs.set k x) := by
  refine ⟨by simpa using h.l1, by simpa using h.l2, fun j r' D' x' g1 g2 g3 => ?_⟩
  rw [List.getElem?_set] at g1 g2 g3
  by_cases e : k = j
  · subst e
    rw [if_pos rfl] at g1 g2 g3
    split at g1
    · split at g2
      · split at g3
        · injection g1 with g1; injection g2 with g2; injection g3 with g3
          subst g1 g2 g3
          exact ⟨h1, h2, h3⟩
        · cases g3
      · cases g2
    · cases g1
  · rw [if_neg e] at g1 g2 g3
    exact h.el j r' D' x' g1 g2 g3
theorem Nest.del {I : Mem} {rs : List RawRole} {Ds : List Mem} {xs : List api_Role} (h : Nest I rs Ds xs) {p q : Nat} (hpq : p ≤ q) (hq : q ≤ xs.length) : Nest I (rs.take p ++ rs.drop q) (Ds.take p ++ Ds.drop q) (xs.take p ++ xs.drop q) := by
  have h1 := h.l1
  have h2 := h.l2
  refine ⟨by simp; omega, by simp; omega, fun j r D x g1 g2 g3 => ?_⟩
  by_cases hj : j < p
  · rw [List.getElem?_append_left (by simp; omega), List.getElem?_take, if_pos hj] at g1 g2 g3
    exact h.el j r D x g1 g2 g3
  · rw [List.getElem?_append_right (by simp; omega), List.getElem?_drop] at g1 g2 g3
    have e1 : (rs.take p).length = p := by simp; omega
    have e2 : (Ds.take p).length = p := by simp; omega
    have e3 : (xs.take p).length = p := by simp; omega
    rw [e1] at g1
    rw [e2] at g2
    rw [e3] at g3
    exact h.el _ r D x g1 g2 g3
theorem pick_perm {α : Type} : ∀ (Ds : List α) (k : Nat) (D : α), Ds[k]? = some D → Ds.Perm (D :: Ds.eraseIdx k)
  | [], k, D, h => by cases h
  | X :: Ds, 0, D, h => by
    simp only [List.getElem?_cons_zero, Option.some.injEq] at h
    subst h
    exact List.Perm.refl _
  | X :: Ds, k + 1, D, h => ((pick_perm Ds k D (by simpa using h)).cons X).trans (.swap ..)
theorem set_perm {α : Type} : ∀ (Ds : List α) (k : Nat) (D : α), k < Ds.length → (Ds.set k D).Perm (D :: Ds.eraseIdx k)
  | [], k, D, h => by simp at h
  | X :: Ds, 0, D, h => List.Perm.refl _
  | X :: Ds, k + 1, D, h => ((set_perm Ds k D (by simpa using h)).cons X).trans (.swap ..)
/-- One part is taken to the front, and put back as another one. -/
theorem st_pick {E w : World} {I C : Mem} {Ds Os : List Mem} (h : St E w I (C :: (Ds ++ Os))) {k : Nat} {D : Mem} (hk : Ds[k]? = some D) : St E w I (D :: C :: (Ds.eraseIdx k ++ Os)) := by
  refine h.perm ?_
  exact (((pick_perm Ds k D hk).append_right Os).cons C).trans (.swap ..)
theorem st_unpick {E w : World} {I C D : Mem} {Ds Os : List Mem} {k : Nat} (h : St E w I (D :: C :: (Ds.eraseIdx k ++ Os))) (hlt : k < Ds.length) : St E w I (C :: (Ds.set k D ++ Os)) := by
  refine h.perm ?_
  exact (List.Perm.swap ..).trans (((set_perm Ds k D hlt).symm.append_right Os).cons C)
theorem st_pubs {E w : World} {Os : List Mem} : ∀ {Ds : List Mem} {I : Mem}, St E w I (Ds ++ Os) → ∃ I', I.Le I' ∧ St E w I' Os ∧ ∀ D ∈ Ds, D.Le I'
  | [], I, h => ⟨I, Mem.Le.refl _, h, fun D hD => by cases hD⟩
  | D :: Ds, I, h => by
    obtain ⟨I', h1, h2, h3⟩ := st_pubs (Ds := Ds) (St.publish h)
    refine ⟨I', (Mem.le_with I D).trans h1, h2, fun X hX => ?_⟩
    rcases List.mem_cons.1 hX with rfl | hX
    · exact (St.with_right h).trans h1
    · exact h3 X hX
/-- All is handed on. -/
theorem Nest.pub {E w : World} {I C : Mem} {Ds Os : List Mem} {rs : List RawRole} {xs : List api_Role} {a : Option Addr} {c : Nat} (h : Nest I rs Ds xs) (ho : OwnSl 27 2 R_Raw I C a c rs) (hS : St E w I (C :: (Ds ++ Os))) : ∃ I', I.Le I' ∧ St E w I' Os ∧ RSl 2 R_api_Role I' a c xs := by
  obtain ⟨I', h1, h2, h3⟩ := st_pubs (Ds := C :: Ds) (Os := Os) hS
  have hm := (ho.sl.mono h1).moved (h3 C (by simp))
  refine ⟨I', h1, h2, by rw [← h.l1]; exact hm.le, hm.lt, fun i x hx => ?_⟩
  obtain ⟨r, D, e1, e2, g1, g2, g3⟩ := h.get hx
  obtain ⟨k1, cs, k2, k3, k4⟩ := hm.el i r e1
  refine ⟨k1, cs, k2, ⟨⟨⟨r.a, r.c⟩⟩, ?_, ⟨?_⟩⟩, k4⟩
  · rw [k3, g1, g2]; rfl
  · exact (g3.sl.mono h1).moved (h3 D (List.mem_cons_of_mem _ (List.mem_of_getElem? e2)))
theorem raw_of {I C : Mem} {a : Option Addr} {c : Nat} {l : List api_Role} (h : OwnSl 27 2 R_api_Role I C a c l) : ∃ rs : List RawRole, OwnSl 27 2 R_Raw I C a c rs ∧ rs.length = l.length ∧ ∀ (k : Nat) (r : RawRole) (x : api_Role), rs[k]? = some r → l[k]? = some x → r.Name = x.Name ∧ r.n = x.In.length ∧ RSl 1 RStr I r.a r.c x.In := by
  have key : ∀ i : Fin l.length, ∃ r : RawRole, (a = some ⟨bl a, of a, none⟩ ∧ ∃ cs, cs.length = 2 ∧ R_Raw I cs r ∧ CellsAt C (bl a) (of a + i.1 * 2) cs) ∧ r.Name = l[i].Name ∧ r.n = l[i].In.length ∧ RSl 1 RStr I r.a r.c l[i].In := by
    intro i
    obtain ⟨h1, cs, h2, h3, h4⟩ := h.sl.el i.1 l[i] (List.getElem?_eq_getElem i.2)
    obtain ⟨v, rfl, hv⟩ := h3
    exact ⟨⟨l[i].Name, v.In.a, v.In.c, l[i].In.length⟩, ⟨h1, _, h2, rfl, h4⟩, rfl, rfl, hv.In⟩
  obtain ⟨f, hf⟩ := Classical.axiomOfChoice key
  refine ⟨List.ofFn f, ⟨⟨by rw [List.length_ofFn]; exact h.sl.le, h.sl.lt, fun i r hr => ?_⟩, h.own⟩, List.length_ofFn, fun k r x hr hx => ?_⟩
  · rw [List.getElem?_ofFn] at hr
    split at hr
    · injection hr with hr
      subst hr
      exact (hf _).1
    · cases hr
  · rw [List.getElem?_ofFn] at hr
    split at hr
    · rename_i hk
      injection hr with hr
      subst hr
      rw [List.getElem?_eq_getElem hk] at hx
      injection hx with hx
      subst hx
      exact (hf ⟨k, hk⟩).2
    · cases hr
theorem forE_unit : ∀ n i, forE (fun _ (_ : Unit) => some ()) n i () = some ()
  | 0, _ => rfl
  | n + 1, i => by simp only [forE, Option.bind_some]; exact forE_unit n (i + 1)
def fits (l : List api_Role) : Prop := l.length * 40 ≤ 140737488355328 ∧ ∀ x ∈ l, x.In.length * 16 ≤ 140737488355328
set_option maxHeartbeats 1000000 in
theorem clone2_ok {E w : World} {I : Mem} {Os : List Mem} {p0 : List api_Role} {a_p0 : Option Addr} {c_p0 : Nat} (h_p0 : RSl 2 R_api_Role I a_p0 c_p0 p0) (hS : St E w I Os) (hf : fits p0) :
    Calls P 39 #[(.slice a_p0 p0.length c_p0)] w (fun e w' => ∃ (I' : Mem) (a : Option Addr) (c : Nat) (C : Mem) (rs : List RawRole) (Ds : List Mem), e = .returned (.slice a p0.length c) ∧ I.Le I' ∧ St E w' I' (C :: (Ds ++ Os)) ∧ OwnSl 27 2 R_Raw I' C a c rs ∧ Nest I' rs Ds p0) := by
  refine calls_W (args := [(.slice a_p0 p0.length c_p0)]) (fn := Try.f39) rfl rfl rfl ?_
  refine W.seq ?_
  refine W.region (l := [0]) (by kernel_rfl) ?_
  refine WO.vals [(0, 2, (.slice none 0 0))] (by kernel_rfl) (fun _ => by kernel_rfl) ?_
  refine WO.nil ?_
  refine En.next ?_
  refine W.seq ?_
  refine W.region (l := [0, 1, 2]) (by kernel_rfl) ?_
  refine WO.vals [(0, 5, (.slice a_p0 p0.length c_p0))] (by kernel_rfl) (fun _ => by kernel_rfl) ?_
  have hcl : slices_Clone_api_Role p0 = some p0 := by
    unfold slices_Clone_api_Role
    rw [app_le (by simpa using hf.1)]
    rfl
  refine WO.call rfl (by kernel_rfl) rfl (f := 56) (args := #[(.slice a_p0 p0.length c_p0)]) (by kernel_rfl) (slices_Clone_api_Role_ok h_p0 hS hcl) ?_
  rintro _ w2 ⟨I3, a, c, C, rfl, hl4, hS5, h_r6⟩
  refine ⟨_, rfl, trivial, ?_⟩
  refine WO.vals [(2, 3, (.slice a p0.length c))] (by kernel_rfl) (fun _ => by kernel_rfl) ?_
  refine WO.nil ?_
  refine En.next ?_
  refine W.seq ?_
  refine W.seq ?_
  refine W.region (l := [0, 1, 2]) (by kernel_rfl) ?_
  refine WO.vals [(0, 7, (.slice a p0.length c)), (1, 8, (.int .i64 (p0.length : Int))), (2, 9, (.int .i64 0))] (by kernel_rfl) (fun _ => by kernel_rfl) ?_
  refine WO.nil ?_
  refine En.next ?_
  refine W.block ?_
  have hlt16 := (h_r6.sl).len_lt
  obtain ⟨rs, hrs1, hrs2, hrs3⟩ := raw_of h_r6
  refine W.weaken (fr' := [(3, (.slice a p0.length c)), (8, (.int .i64 (p0.length : Int))), (9, (.int .i64 ((0 : Nat) : Int)))]) (W.forE (m := p0.length) (forE_unit p0.length 0) (fun (i : Nat) => fun (_ : Unit) fr w => ∃ (J C' : Mem) (rs : List RawRole) (Ds : List Mem), fr = [(3, (.slice a p0.length c)), (8, (.int .i64 (p0.length : Int))), (9, (.int .i64 (i : Int)))] ∧ I3.Le J ∧ St E w J (C' :: (Ds ++ Os)) ∧ OwnSl 27 2 R_Raw J C' a c rs ∧ rs.length = p0.length ∧ Ds.length = i ∧ ∀ (k : Nat) (r : RawRole) (x : api_Role), rs[k]? = some r → p0[k]? = some x → r.Name = x.Name ∧ r.n = x.In.length ∧ (i ≤ k → RSl 1 RStr J r.a r.c x.In) ∧ ∀ D, Ds[k]? = some D → OwnSl 9 1 RStr J D r.a r.c x.In) ⟨I3, C, rs, [], rfl, Mem.Le.refl _, hS5, hrs1, hrs2, rfl, fun k r x h1 h2 => ⟨(hrs3 k r x h1 h2).1, (hrs3 k r x h1 h2).2.1, fun _ => (hrs3 k r x h1 h2).2.2, fun D hD => by cases hD⟩⟩ ?roundt7 ?lastt7) (Sub.cons rfl (Sub.cons rfl (Sub.cons rfl Sub.nil)))
  case roundt7 =>
    rintro i _ _ w13 hi ⟨J, C', rs, Ds, rfl, hl9, hS14, ho, hn1, hn2, hel⟩ x15 hr1
    refine W.seq ?_
    refine W.region (l := [0]) (by kernel_rfl) ?_
    refine WO.vals [(0, 10, (.bool (decide ((i : Int) < (p0.length : Int)))))] (by kernel_rfl) (fun _ => by kernel_rfl) ?_
    refine WO.nil ?_
    refine En.next ?_
    refine W.seq ?_
    refine W.cond (b := (decide ((i : Int) < (p0.length : Int)))) rfl rfl (fun hc => ?_) (fun hc => ?_)
    rotate_left
    · exact absurd hc (by first | (simp; done) | (simp; omega))
    clear hc
    refine W.skip ?_
    refine En.next ?_
    refine W.seq ?_
    refine W.block ?_
    refine W.seq ?_
    refine W.region (l := [0, 1]) (by kernel_rfl) ?_
    refine WO.vals [(0, 11, (.int .i64 (i : Int))), (1, 4, (.int .i64 (i : Int)))] (by kernel_rfl) (fun _ => by kernel_rfl) ?_
    refine WO.nil ?_
    refine En.next ?_
    refine W.region (l := [0, 1, 2, 3, 4, 5, 6, 7, 8, 9, 10]) (by kernel_rfl) ?_
    refine WO.vals [(0, 12, (.slice a p0.length c)), (1, 13, (.int .i64 (i : Int))), (2, 14, (.slice a p0.length c)), (3, 15, (.int .i64 (i : Int)))] (by kernel_rfl) (fun _ => by kernel_rfl) ?_
    have hx : p0[i]? = some p0[i] := List.getElem?_eq_getElem hi
    have hr0 : rs[i]? = some (rs[i]'(by omega)) := List.getElem?_eq_getElem _
    generalize rs[i]'(by omega) = r0 at hr0
    obtain ⟨g1, g2, g3, _⟩ := hel i r0 _ hr0 hx
    obtain ⟨ha, cs, hn, hrr, hcc⟩ := ho.sl.el _ _ hr0
    obtain rfl := hrr
    refine WO.indexAddr (e := 27) (sz := 2) rfl (by kernel_rfl) (by kernel_rfl) (by kernel_rfl) rfl ha rfl (by omega) (by omega) ?_
    refine WO.vals [(5, 17, (.pointer (some ⟨bl a, of a + ((i : Int)).toNat * 2 + 1, none⟩)))] (by kernel_rfl) (fun _ => by kernel_rfl) ?_
    refine WO.load rfl (by kernel_rfl) (by kernel_rfl) rfl (v := (.slice r0.a r0.n r0.c)) (fun w' hw' => hcc.cellk 1 (by kernel_rfl) ((rd_f (hS14.rd (List.Mem.head _))) w' hw')) ?_
    rw [g2]
    have hcs : slices_Clone_string p0[i].In = some p0[i].In := by
      unfold slices_Clone_string
      rw [app_le (by simpa using hf.2 _ (List.getElem_mem hi))]
      rfl
    refine WO.call rfl (by kernel_rfl) rfl (f := 24) (args := #[(.slice r0.a p0[i].In.length r0.c)]) (by kernel_rfl) (slices_Clone_string_ok (g3 (Nat.le_refl _)) hS14 hcs) ?_
    rintro _ w20 ⟨J2, a2, c2, D, rfl, hl22, hS23, h_r24⟩
    refine ⟨_, rfl, trivial, ?_⟩
    refine WO.indexAddr (e := 27) (sz := 2) rfl (by kernel_rfl) (by kernel_rfl) (by kernel_rfl) rfl ha rfl (by omega) (by omega) ?_
    refine WO.vals [(9, 21, (.pointer (some ⟨bl a, of a + ((i : Int)).toNat * 2 + 1, none⟩)))] (by kernel_rfl) (fun _ => by kernel_rfl) ?_
    have hS24 : St E w20 J2 (C' :: ((Ds ++ [D]) ++ Os)) := hS23.perm ((List.Perm.swap ..).trans (List.Perm.cons _ (by rw [List.append_assoc]; exact List.perm_middle.symm)))
    refine WO.storeOwn (m := i) hS24 (OwnSl.mono ho hl22) rfl (by kernel_rfl) rfl hr0 (u' := { r0 with a := a2, c := c2 }) 1 rfl rfl (by kernel_rfl) rfl rfl (fun cs hrel => (by obtain rfl := hrel; show _ = _; rw [← g2]; rfl)) (fun _ _ _ => trivial) ?_
    intro w31 C32 hS30 ho33
    refine WO.nil ?_
    refine En.in_normal ?_
    refine En.next ?_
    refine W.region (l := [0, 1]) (by kernel_rfl) ?_
    refine WO.incr (j := i) rfl (by kernel_rfl) rfl (by first | omega | (dsimp only at *; omega)) ?_
    refine WO.vals [(1, 9, (.int .i64 ((i + 1 : Nat) : Int)))] (by kernel_rfl) (fun _ => by kernel_rfl) ?_
    refine WO.nil ?_
    refine En.weaken (fr' := [(3, (.slice a p0.length c)), (8, (.int .i64 (p0.length : Int))), (9, (.int .i64 ((i + 1 : Nat) : Int)))]) (En.round ⟨J2, C32, rs.set i { r0 with a := a2, c := c2 }, Ds ++ [D], rfl, hl9.trans hl22, hS30, ho33, by rw [List.length_set]; exact hn1, by rw [List.length_append, hn2]; rfl, fun k r x h1 h2 => ?_⟩) (Sub.cons rfl (Sub.cons rfl (Sub.cons rfl Sub.nil)))
    rw [List.getElem?_set] at h1
    by_cases e : i = k
    · subst e
      rw [if_pos rfl, if_pos (by omega)] at h1
      injection h1 with h1
      subst h1
      rw [hx] at h2
      injection h2 with h2
      subst h2
      refine ⟨g1, g2, fun h => by omega, fun D' hD' => ?_⟩
      rw [List.getElem?_append_right (by omega), hn2, Nat.sub_self] at hD'
      injection hD' with hD'
      subst hD'
      exact h_r24
    · rw [if_neg e] at h1
      obtain ⟨k1, k2, k3, k4⟩ := hel k r x h1 h2
      refine ⟨k1, k2, fun h => (k3 (by omega)).mono hl22, fun D' hD' => ?_⟩
      have hlt := (List.getElem?_eq_some_iff.1 hD').1
      rw [List.length_append, hn2] at hlt
      simp only [List.length_cons, List.length_nil] at hlt
      rw [List.getElem?_append_left (by omega)] at hD'
      exact (k4 D' hD').mono hl22
  case lastt7 =>
    rintro _ w35 ⟨J, C', rs, Ds, rfl, hl9, hS36, ho, hn1, hn2, hel⟩
    refine W.seq ?_
    refine W.region (l := [0]) (by kernel_rfl) ?_
    refine WO.vals [(0, 10, (.bool (decide ((p0.length : Int) < (p0.length : Int)))))] (by kernel_rfl) (fun _ => by kernel_rfl) ?_
    refine WO.nil ?_
    refine En.next ?_
    refine W.seq ?_
    refine W.cond (b := (decide ((p0.length : Int) < (p0.length : Int)))) rfl rfl (fun hc => ?_) (fun hc => ?_)
    · exact absurd hc (by first | (simp; done) | (simp; omega))
    clear hc
    refine W.exit ?_
    refine En.nx_exit ?_
    refine En.rd_exit ?_
    refine En.in_hit ?_
    refine En.next ?_
    refine W.seq ?_
    refine W.region (l := [0, 1]) (by kernel_rfl) ?_
    refine WO.vals [(0, 23, (.slice a p0.length c)), (1, 2, (.slice a p0.length c))] (by kernel_rfl) (fun _ => by kernel_rfl) ?_
    refine WO.nil ?_
    refine En.next ?_
    refine W.ret ?_
    exact En.ret1 rfl (.slice a p0.length c) rfl ⟨J, a, c, C', rs, Ds, rfl, hl4.trans hl9, hS36, ho, hn1, hn2, fun k r D x h1 h2 h3 => ⟨(hel k r x h1 h3).1, (hel k r x h1 h3).2.1, (hel k r x h1 h3).2.2.2 D h2⟩⟩
/-- The lists are handed on, the roles are kept. -/
theorem Nest.own {E w : World} {I C : Mem} {Ds Os : List Mem} {rs : List RawRole} {xs : List api_Role} {a : Option Addr} {c : Nat} (h : Nest I rs Ds xs) (ho : OwnSl 27 2 R_Raw I C a c rs) (hS : St E w I (C :: (Ds ++ Os))) : ∃ I', I.Le I' ∧ St E w I' (C :: Os) ∧ OwnSl 27 2 R_api_Role I' C a c xs := by
  obtain ⟨I', h1, h2, h3⟩ := st_pubs (Ds := Ds) (Os := C :: Os) (hS.perm List.perm_middle.symm)
  refine ⟨I', h1, h2, ⟨by rw [← h.l1]; exact ho.sl.le, ho.sl.lt, fun i x hx => ?_⟩, ho.own⟩
  obtain ⟨r, D, e1, e2, g1, g2, g3⟩ := h.get hx
  obtain ⟨k1, cs, k2, k3, k4⟩ := ho.sl.el i r e1
  refine ⟨k1, cs, k2, ⟨⟨⟨r.a, r.c⟩⟩, ?_, ⟨?_⟩⟩, k4⟩
  · rw [k3, g1, g2]; rfl
  · exact (g3.sl.mono h1).moved (h3 D (List.mem_of_getElem? e2))
/-- What was lent comes back, and what was made of it is kept. -/
theorem st_back1 {E w w' : World} {I I' C R : Mem} {Os : List Mem} (h0 : St E w I (C :: Os)) (hl : (I.with C).Le I') (h : St E w' I' (R :: Os)) : St E w' I (R :: C :: Os) := by
  have hb := St.back h0 hl h.drop
  have hR := h.ow R (by simp)
  have hp := List.pairwise_cons.1 h.dj
  have hno : ∀ b, R b = none ∨ (I.with C) b = none := fun b => by
    rcases hR.2 b with e | e
    · exact .inl e
    · right
      cases hx : (I.with C) b with
      | none => rfl
      | some o => rw [hl b o hx] at e; cases e
  refine ⟨hb.os, hb.tape, hb.output, hb.im, fun D hD => ?_, List.pairwise_cons.2 ⟨fun D hD => ?_, hb.dj⟩⟩
  · rcases List.mem_cons.1 hD with rfl | hD
    · refine ⟨hR.1, fun b => ?_⟩
      rcases hno b with e | e
      · exact .inl e
      · right
        cases hx : I b with
        | none => rfl
        | some o => rw [Mem.le_with I C b o hx] at e; cases e
    · exact hb.ow D hD
  · rcases List.mem_cons.1 hD with rfl | hD
    · intro b
      rcases hno b with e | e
      · exact .inl e
      · right
        cases hx : D b with
        | none => rfl
        | some o => rw [h0.with_right b o hx] at e; cases e
    · exact hp.1 D hD
theorem own_str {I J C : Mem} {a : Option Addr} {c : Nat} {xs : List ByteArray} (h : OwnSl 9 1 RStr I C a c xs) : OwnSl 9 1 RStr J C a c xs := ⟨⟨h.sl.le, h.sl.lt, h.sl.el⟩, h.own⟩

def cmp_isNaN_string (p0 : ByteArray) : Option Bool := some (!sEq p0 p0)
set_option maxHeartbeats 1000000 in
theorem cmp_isNaN_string_ok {E w : World} {I : Mem} {Os : List Mem} {p0 : ByteArray} (hS : St E w I Os) {r : Bool} (hr : cmp_isNaN_string p0 = some r) :
    Calls P 67 #[(.string p0)] w (fun e w' => ∃ (I' : Mem), e = .returned (.bool r) ∧ I.Le I' ∧ St E w' I' Os) := by
  refine calls_W (args := [(.string p0)]) (fn := Try.f67) rfl rfl rfl ?_
  unfold cmp_isNaN_string at hr
  refine W.seq ?_
  refine W.region (l := [0]) (by kernel_rfl) ?_
  refine WO.vals [(0, 2, (.bool false))] (by kernel_rfl) (fun _ => by kernel_rfl) ?_
  refine WO.nil ?_
  refine En.next ?_
  refine W.seq ?_
  refine W.region (l := [0, 1, 2, 3]) (by kernel_rfl) ?_
  refine WO.vals [(0, 3, (.string p0)), (1, 4, (.string p0)), (2, 5, (.bool (!sEq p0 p0))), (3, 2, (.bool (!sEq p0 p0)))] (by kernel_rfl) (fun _ => by kernel_rfl) ?_
  refine WO.nil ?_
  refine En.next ?_
  refine W.ret ?_
  have he := Option.some.inj hr
  subst r
  exact En.ret1 rfl (.bool (!sEq p0 p0)) rfl ⟨I, rfl, Mem.Le.refl _, hS⟩
def cmp_Less_string (p0 : ByteArray) (p1 : ByteArray) : Option Bool := (cmp_isNaN_string p0).bind (fun (r6 : Bool) => ((bif r6 then (cmp_isNaN_string p1).bind (fun (r16 : Bool) => some (!r16)) else some false)).bind (fun (j7 : Bool) => some (j7 || (sLt p0 p1))))
set_option maxHeartbeats 1000000 in
theorem cmp_Less_string_ok {E w : World} {I : Mem} {Os : List Mem} {p0 : ByteArray} {p1 : ByteArray} (hS : St E w I Os) {r : Bool} (hr : cmp_Less_string p0 p1 = some r) :
    Calls P 57 #[(.string p0), (.string p1)] w (fun e w' => ∃ (I' : Mem), e = .returned (.bool r) ∧ I.Le I' ∧ St E w' I' Os) := by
  refine calls_W (args := [(.string p0), (.string p1)]) (fn := Try.f57) rfl rfl rfl ?_
  unfold cmp_Less_string at hr
  refine W.seq ?_
  refine W.region (l := [0]) (by kernel_rfl) ?_
  refine WO.vals [(0, 4, (.bool false))] (by kernel_rfl) (fun _ => by kernel_rfl) ?_
  refine WO.nil ?_
  refine En.next ?_
  refine W.seq ?_
  refine W.region (l := [0, 1, 2, 3, 4, 5, 6, 7, 8, 9, 10, 11, 12]) (by kernel_rfl) ?_
  refine WO.vals [(0, 5, (.string p0))] (by kernel_rfl) (fun _ => by kernel_rfl) ?_
  obtain ⟨r6, hx_r1, hr⟩ := bind_some hr
  refine WO.call rfl (by kernel_rfl) rfl (f := 67) (args := #[(.string p0)]) (by kernel_rfl) (cmp_isNaN_string_ok  hS hx_r1) ?_
  rintro _ w2 ⟨I3, rfl, hl4, hS5⟩
  refine ⟨_, rfl, trivial, ?_⟩
  refine WO.vals [(2, 7, (.bool r6))] (by kernel_rfl) (fun _ => by kernel_rfl) ?_
  obtain ⟨j7, hr1, hr⟩ := bind_some hr
  refine WO.join (l1 := [3, 4, 5, 6]) (l2 := [7, 8, 9, 10, 11, 12]) (J := (fun fr w => ∃ (I9 : Mem), fr = [(0, (.string p0)), (1, (.string p1)), (11, (.bool j7))] ∧ I3.Le I9 ∧ St E w I9 Os)) ?restj7 ?waysj7
  case waysj7 =>
    refine WO.caseb r6 (fun hc => ?_) (fun hc => ?_)
    · replace hr1 := cond_t hc hr1
      refine WO.reslot 7 rfl (show Value.bool r6 = Value.bool true by rw [hc]) ?_
      refine WO.vals [(3, 8, (.string p1))] (by kernel_rfl) (fun _ => by kernel_rfl) ?_
      obtain ⟨r16, hx_r11, hr1⟩ := bind_some hr1
      refine WO.call rfl (by kernel_rfl) rfl (f := 67) (args := #[(.string p1)]) (by kernel_rfl) (cmp_isNaN_string_ok  hS5 hx_r11) ?_
      rintro _ w12 ⟨I13, rfl, hl14, hS15⟩
      refine ⟨_, rfl, trivial, ?_⟩
      refine WO.vals [(5, 10, (.bool (!r16))), (6, 11, (.bool (!r16)))] (by kernel_rfl) (fun _ => by kernel_rfl) ?_
      have he := Option.some.inj hr1
      subst j7
      refine WO.weaken (fr' := [(0, (.string p0)), (1, (.string p1)), (11, (.bool (!r16)))]) (WO.meet ⟨I13, rfl, hl14, hS15⟩) (Sub.cons rfl (Sub.cons rfl (Sub.cons rfl Sub.nil)))
    · replace hr1 := cond_f hc hr1
      refine WO.reslot 7 rfl (show Value.bool r6 = Value.bool false by rw [hc]) ?_
      refine WO.pass rfl (by kernel_rfl) rfl ?_
      refine WO.pass rfl (by kernel_rfl) rfl ?_
      refine WO.pass rfl (by kernel_rfl) rfl ?_
      refine WO.vals [(6, 11, (.bool false))] (by kernel_rfl) (fun _ => by kernel_rfl) ?_
      have he := Option.some.inj hr1
      subst j7
      refine WO.weaken (fr' := [(0, (.string p0)), (1, (.string p1)), (11, (.bool false))]) (WO.meet ⟨I3, rfl, Mem.Le.refl _, hS5⟩) (Sub.cons rfl (Sub.cons rfl (Sub.cons rfl Sub.nil)))
  case restj7 =>
    rintro _ w17 ⟨I9, rfl, hl10, hS18⟩
    refine WO.vals [(7, 12, (.bool j7))] (by kernel_rfl) (fun _ => by kernel_rfl) ?_
    refine WO.join (l1 := [8, 9, 10, 11]) (l2 := [12]) (J := fun frx wx => frx = [(16, (.bool (j7 || (sLt p0 p1))))] ∧ w17 = wx) ?restm19 ?waysm19
    case waysm19 =>
      refine WO.caseb j7 (fun hc => ?_) (fun hc => ?_)
      · skip
        refine WO.reslot 12 rfl (show Value.bool j7 = Value.bool true by rw [hc]) ?_
        refine WO.pass rfl (by kernel_rfl) rfl ?_
        refine WO.pass rfl (by kernel_rfl) rfl ?_
        refine WO.pass rfl (by kernel_rfl) rfl ?_
        refine WO.vals [(11, 16, (.bool true))] (by kernel_rfl) (fun _ => by kernel_rfl) ?_
        refine WO.weaken (fr' := [(16, (.bool (j7 || (sLt p0 p1))))]) (WO.meet ⟨rfl, rfl⟩) (Sub.cons (by rw [hc]; rfl) Sub.nil)
      · skip
        refine WO.reslot 12 rfl (show Value.bool j7 = Value.bool false by rw [hc]) ?_
        refine WO.vals [(8, 13, (.string p0)), (9, 14, (.string p1)), (10, 15, (.bool (sLt p0 p1))), (11, 16, (.bool (sLt p0 p1)))] (by kernel_rfl) (fun _ => by kernel_rfl) ?_
        refine WO.weaken (fr' := [(16, (.bool (j7 || (sLt p0 p1))))]) (WO.meet ⟨rfl, rfl⟩) (Sub.cons (by rw [hc]; rfl) Sub.nil)
    case restm19 =>
      rintro _ _ ⟨rfl, rfl⟩
      refine WO.vals [(12, 4, (.bool (j7 || (sLt p0 p1))))] (by kernel_rfl) (fun _ => by kernel_rfl) ?_
      refine WO.nil ?_
      refine En.next ?_
      refine W.ret ?_
      have he := Option.some.inj hr
      subst r
      exact En.ret1 rfl (.bool (j7 || (sLt p0 p1))) rfl ⟨I9, rfl, (hl4.trans hl10), hS18⟩
def slices_isNaN_string (p0 : ByteArray) : Option Bool := some (!sEq p0 p0)
set_option maxHeartbeats 1000000 in
theorem slices_isNaN_string_ok {E w : World} {I : Mem} {Os : List Mem} {p0 : ByteArray} (hS : St E w I Os) {r : Bool} (hr : slices_isNaN_string p0 = some r) :
    Calls P 58 #[(.string p0)] w (fun e w' => ∃ (I' : Mem), e = .returned (.bool r) ∧ I.Le I' ∧ St E w' I' Os) := by
  refine calls_W (args := [(.string p0)]) (fn := Try.f58) rfl rfl rfl ?_
  unfold slices_isNaN_string at hr
  refine W.seq ?_
  refine W.region (l := [0]) (by kernel_rfl) ?_
  refine WO.vals [(0, 2, (.bool false))] (by kernel_rfl) (fun _ => by kernel_rfl) ?_
  refine WO.nil ?_
  refine En.next ?_
  refine W.seq ?_
  refine W.region (l := [0, 1, 2, 3]) (by kernel_rfl) ?_
  refine WO.vals [(0, 3, (.string p0)), (1, 4, (.string p0)), (2, 5, (.bool (!sEq p0 p0))), (3, 2, (.bool (!sEq p0 p0)))] (by kernel_rfl) (fun _ => by kernel_rfl) ?_
  refine WO.nil ?_
  refine En.next ?_
  refine W.ret ?_
  have he := Option.some.inj hr
  subst r
  exact En.ret1 rfl (.bool (!sEq p0 p0)) rfl ⟨I, rfl, Mem.Le.refl _, hS⟩
noncomputable def slices_BinarySearch_string (p0 : List ByteArray) (p1 : ByteArray) : Option (Int × Bool) := (loopO (fun (s : Int × Int) => match s with | (s4, s5) => (bif (decide (s4 < s5)) then (idx p0 (w64 (Int.fdiv (IntKind.wrap .u64 (w64 (s4 + s5))) (2 ^ 1)))).bind (fun (x10 : ByteArray) => (cmp_Less_string x10 p1).bind (fun (r16 : Bool) => ((bif r16 then some ((w64 ((w64 (Int.fdiv (IntKind.wrap .u64 (w64 (s4 + s5))) (2 ^ 1))) + 1)), s5) else some (s4, (w64 (Int.fdiv (IntKind.wrap .u64 (w64 (s4 + s5))) (2 ^ 1)))))).bind (fun ((s21, s22) : Int × Int) => some (.inl (s21, s22))))) else some (.inr s4))) (0, (p0.length : Int))).bind (fun (s26 : Int) => ((bif (decide (s26 < (p0.length : Int))) then (idx p0 s26).bind (fun (x31 : ByteArray) => ((bif (sEq x31 p1) then some true else (idx p0 s26).bind (fun (x36 : ByteArray) => (slices_isNaN_string x36).bind (fun (r42 : Bool) => ((bif r42 then (slices_isNaN_string p1).bind (fun (r52 : Bool) => some r52) else some false)).bind (fun (j43 : Bool) => some j43))))).bind (fun (j32 : Bool) => some j32)) else some false)).bind (fun (j27 : Bool) => some (s26, j27)))
set_option maxHeartbeats 1000000 in
theorem slices_BinarySearch_string_ok {E w : World} {I : Mem} {Os : List Mem} {p0 : List ByteArray} {p1 : ByteArray} {a_p0 : Option Addr} {c_p0 : Nat} (h_p0 : RSl 1 RStr I a_p0 c_p0 p0) (hS : St E w I Os) {r : Int × Bool} (hr : slices_BinarySearch_string p0 p1 = some r) :
    Calls P 40 #[(.slice a_p0 p0.length c_p0), (.string p1)] w (fun e w' => ∃ (I' : Mem), e = .returned (.tuple #[(.int .i64 r.1), (.bool r.2)]) ∧ I.Le I' ∧ St E w' I' Os) := by
  refine calls_W (args := [(.slice a_p0 p0.length c_p0), (.string p1)]) (fn := Try.f40) rfl rfl rfl ?_
  unfold slices_BinarySearch_string at hr
  refine W.seq ?_
  refine W.region (l := [0, 1]) (by kernel_rfl) ?_
  refine WO.vals [(0, 4, (.int .i64 0)), (1, 5, (.bool false))] (by kernel_rfl) (fun _ => by kernel_rfl) ?_
  refine WO.nil ?_
  refine En.next ?_
  refine W.seq ?_
  refine W.region (l := [0, 1, 2]) (by kernel_rfl) ?_
  refine WO.vals [(0, 10, (.slice a_p0 p0.length c_p0)), (1, 11, (.int .i64 (p0.length : Int))), (2, 6, (.int .i64 (p0.length : Int)))] (by kernel_rfl) (fun _ => by kernel_rfl) ?_
  refine WO.nil ?_
  refine En.next ?_
  refine W.seq ?_
  refine W.region (l := [0, 1, 2]) (by kernel_rfl) ?_
  refine WO.vals [(0, 12, (.int .i64 (p0.length : Int))), (1, 7, (.int .i64 0)), (2, 8, (.int .i64 (p0.length : Int)))] (by kernel_rfl) (fun _ => by kernel_rfl) ?_
  refine WO.nil ?_
  refine En.next ?_
  refine W.seq ?_
  refine W.block ?_
  obtain ⟨t1, hloop6, hr⟩ := bind_some hr
  refine W.weaken (fr' := [(0, (.slice a_p0 p0.length c_p0)), (1, (.string p1)), (6, (.int .i64 (p0.length : Int))), (7, (.int .i64 0)), (8, (.int .i64 (p0.length : Int)))]) (W.loopO hloop6 (fun (s : Int × Int) fr w => match s with | (s4, s5) => ∃ (I2 : Mem), fr = [(0, (.slice a_p0 p0.length c_p0)), (1, (.string p1)), (6, (.int .i64 (p0.length : Int))), (7, (.int .i64 s4)), (8, (.int .i64 s5))] ∧ I.Le I2 ∧ St E w I2 Os) ⟨I, rfl, Mem.Le.refl _, hS⟩ ?_) (Sub.cons rfl (Sub.cons rfl (Sub.cons rfl (Sub.cons rfl (Sub.cons rfl Sub.nil)))))
  rintro ⟨s4, s5⟩ _ w7 ⟨I2, rfl, hl3, hS8⟩ x9 hr1 hext1
  refine W.seq ?_
  refine W.seq ?_
  refine W.region (l := [0, 1, 2]) (by kernel_rfl) ?_
  refine WO.vals [(0, 13, (.int .i64 s4)), (1, 14, (.int .i64 s5)), (2, 15, (.bool (decide (s4 < s5))))] (by kernel_rfl) (fun _ => by kernel_rfl) ?_
  refine WO.nil ?_
  refine En.next ?_
  refine W.cond (b := (decide (s4 < s5))) rfl rfl (fun hc => ?_) (fun hc => ?_)
  · replace hr1 := cond_t hc hr1
    refine W.skip ?_
    refine En.next ?_
    refine W.block ?_
    refine W.seq ?_
    refine W.region (l := [0, 1, 2, 3, 4, 5, 6]) (by kernel_rfl) ?_
    refine WO.vals [(0, 16, (.int .i64 s4)), (1, 17, (.int .i64 s5)), (2, 18, (.int .i64 (w64 (s4 + s5)))), (3, 19, (.int .u64 (IntKind.wrap .u64 (w64 (s4 + s5))))), (4, 20, (.int .u64 (Int.fdiv (IntKind.wrap .u64 (w64 (s4 + s5))) (2 ^ 1)))), (5, 21, (.int .i64 (w64 (Int.fdiv (IntKind.wrap .u64 (w64 (s4 + s5))) (2 ^ 1))))), (6, 9, (.int .i64 (w64 (Int.fdiv (IntKind.wrap .u64 (w64 (s4 + s5))) (2 ^ 1)))))] (by kernel_rfl) (fun _ => by kernel_rfl) ?_
    refine WO.nil ?_
    refine En.next ?_
    refine W.seq ?_
    refine W.region (l := [0, 1, 2, 3, 4, 5]) (by kernel_rfl) ?_
    refine WO.vals [(0, 22, (.slice a_p0 p0.length c_p0)), (1, 23, (.int .i64 (w64 (Int.fdiv (IntKind.wrap .u64 (w64 (s4 + s5))) (2 ^ 1)))))] (by kernel_rfl) (fun _ => by kernel_rfl) ?_
    obtain ⟨x10, hx_x10, hr1⟩ := bind_some hr1
    obtain ⟨h0_x10, h1_x10, hx_x10⟩ := idx_some hx_x10
    obtain ⟨ha_x10, cs_x10, hn_x10, hr_x10, hc_x10⟩ := ((RSl.mono h_p0 hl3)).el _ _ hx_x10
    obtain rfl := hr_x10
    refine WO.indexAddr (e := 9) (sz := 1) rfl (by kernel_rfl) (by kernel_rfl) (by kernel_rfl) rfl ha_x10 rfl h0_x10 h1_x10 ?_
    refine WO.load rfl (by kernel_rfl) (by kernel_rfl) rfl (v := (.string x10)) (fun w' hw' => hc_x10.cell0 (by kernel_rfl) ((rd_f hS8.im) w' hw')) ?_
    refine WO.vals [(4, 26, (.string p1))] (by kernel_rfl) (fun _ => by kernel_rfl) ?_
    obtain ⟨r16, hx_r11, hr1⟩ := bind_some hr1
    refine WO.call rfl (by kernel_rfl) rfl (f := 57) (args := #[(.string x10), (.string p1)]) (by kernel_rfl) (cmp_Less_string_ok  hS8 hx_r11) ?_
    rintro _ w12 ⟨I13, rfl, hl14, hS15⟩
    refine ⟨_, rfl, trivial, ?_⟩
    refine WO.nil ?_
    refine En.next ?_
    obtain ⟨j17, hr2, hr1⟩ := bind_some hr1
    refine W.join (J := (fun fr w => ∃ (s21 : Int), ∃ (s22 : Int), ∃ (I19 : Mem), (s21, s22) = j17 ∧ fr = [(0, (.slice a_p0 p0.length c_p0)), (1, (.string p1)), (6, (.int .i64 (p0.length : Int))), (7, (.int .i64 s21)), (8, (.int .i64 s22))] ∧ I13.Le I19 ∧ St E w I19 Os)) ?restj17 ?waysj17
    case waysj17 =>
      refine W.cond (b := r16) rfl rfl (fun hc => ?_) (fun hc => ?_)
      · replace hr2 := cond_t hc hr2
        refine W.region (l := [0, 1, 2]) (by kernel_rfl) ?_
        refine WO.vals [(0, 28, (.int .i64 (w64 (Int.fdiv (IntKind.wrap .u64 (w64 (s4 + s5))) (2 ^ 1))))), (1, 29, (.int .i64 (w64 ((w64 (Int.fdiv (IntKind.wrap .u64 (w64 (s4 + s5))) (2 ^ 1))) + 1)))), (2, 7, (.int .i64 (w64 ((w64 (Int.fdiv (IntKind.wrap .u64 (w64 (s4 + s5))) (2 ^ 1))) + 1))))] (by kernel_rfl) (fun _ => by kernel_rfl) ?_
        refine WO.nil ?_
        refine En.weaken (fr' := [(0, (.slice a_p0 p0.length c_p0)), (1, (.string p1)), (6, (.int .i64 (p0.length : Int))), (7, (.int .i64 (w64 ((w64 (Int.fdiv (IntKind.wrap .u64 (w64 (s4 + s5))) (2 ^ 1))) + 1)))), (8, (.int .i64 s5))]) (En.round ⟨(w64 ((w64 (Int.fdiv (IntKind.wrap .u64 (w64 (s4 + s5))) (2 ^ 1))) + 1)), s5, I13, Option.some.inj hr2, rfl, Mem.Le.refl _, hS15⟩) (Sub.cons rfl (Sub.cons rfl (Sub.cons rfl (Sub.cons rfl (Sub.cons rfl Sub.nil)))))
      · replace hr2 := cond_f hc hr2
        refine W.region (l := [0, 1]) (by kernel_rfl) ?_
        refine WO.vals [(0, 30, (.int .i64 (w64 (Int.fdiv (IntKind.wrap .u64 (w64 (s4 + s5))) (2 ^ 1))))), (1, 8, (.int .i64 (w64 (Int.fdiv (IntKind.wrap .u64 (w64 (s4 + s5))) (2 ^ 1)))))] (by kernel_rfl) (fun _ => by kernel_rfl) ?_
        refine WO.nil ?_
        refine En.weaken (fr' := [(0, (.slice a_p0 p0.length c_p0)), (1, (.string p1)), (6, (.int .i64 (p0.length : Int))), (7, (.int .i64 s4)), (8, (.int .i64 (w64 (Int.fdiv (IntKind.wrap .u64 (w64 (s4 + s5))) (2 ^ 1)))))]) (En.round ⟨s4, (w64 (Int.fdiv (IntKind.wrap .u64 (w64 (s4 + s5))) (2 ^ 1))), I13, Option.some.inj hr2, rfl, Mem.Le.refl _, hS15⟩) (Sub.cons rfl (Sub.cons rfl (Sub.cons rfl (Sub.cons rfl (Sub.cons rfl Sub.nil)))))
    case restj17 =>
      rintro _ w23 ⟨s21, s22, I19, rfl, rfl, hl20, hS24⟩
      refine En.in_normal ?_
      refine En.weaken (fr' := [(0, (.slice a_p0 p0.length c_p0)), (1, (.string p1)), (6, (.int .i64 (p0.length : Int))), (7, (.int .i64 s21)), (8, (.int .i64 s22))]) (En.round ⟨(s21, s22), (Option.some.inj hr1).symm, I19, rfl, ((hl3.trans hl14).trans hl20), hS24⟩) (Sub.cons rfl (Sub.cons rfl (Sub.cons rfl (Sub.cons rfl (Sub.cons rfl Sub.nil)))))
  · replace hr1 := cond_f hc hr1
    refine W.exit ?_
    refine En.nx_exit ?_
    refine En.rd_exit ?_
    have ht := hext1 _ (Option.some.inj hr1).symm
    subst t1
    refine En.in_hit ?_
    refine En.next ?_
    refine W.seq ?_
    refine W.region (l := [0, 1, 2, 3, 4, 5, 6, 7, 8, 9, 10, 11, 12, 13, 14, 15, 16, 17, 18, 19, 20, 21, 22, 23, 24]) (by kernel_rfl) ?_
    refine WO.vals [(0, 31, (.int .i64 s4)), (1, 32, (.int .i64 s4)), (2, 33, (.int .i64 (p0.length : Int))), (3, 34, (.bool (decide (s4 < (p0.length : Int))))), (4, 35, (.bool (decide (s4 < (p0.length : Int)))))] (by kernel_rfl) (fun _ => by kernel_rfl) ?_
    obtain ⟨j59, hr1, hr⟩ := bind_some hr
    refine WO.join (l1 := [5, 6, 7, 8, 9, 10, 11, 12, 13, 14, 15, 16, 17, 18, 19, 20, 21, 22]) (l2 := [23, 24]) (J := (fun fr w => ∃ (I61 : Mem), fr = [(31, (.int .i64 s4)), (53, (.bool j59))] ∧ I2.Le I61 ∧ St E w I61 Os)) ?restj59 ?waysj59
    case waysj59 =>
      refine WO.caseb (decide (s4 < (p0.length : Int))) (fun hc => ?_) (fun hc => ?_)
      · replace hr1 := cond_t hc hr1
        refine WO.reslot 35 rfl (show Value.bool (decide (s4 < (p0.length : Int))) = Value.bool true by rw [hc]) ?_
        refine WO.vals [(5, 36, (.slice a_p0 p0.length c_p0)), (6, 37, (.int .i64 s4))] (by kernel_rfl) (fun _ => by kernel_rfl) ?_
        obtain ⟨x63, hx_x63, hr1⟩ := bind_some hr1
        obtain ⟨h0_x63, h1_x63, hx_x63⟩ := idx_some hx_x63
        obtain ⟨ha_x63, cs_x63, hn_x63, hr_x63, hc_x63⟩ := ((RSl.mono h_p0 hl3)).el _ _ hx_x63
        obtain rfl := hr_x63
        refine WO.indexAddr (e := 9) (sz := 1) rfl (by kernel_rfl) (by kernel_rfl) (by kernel_rfl) rfl ha_x63 rfl h0_x63 h1_x63 ?_
        refine WO.load rfl (by kernel_rfl) (by kernel_rfl) rfl (v := (.string x63)) (fun w' hw' => hc_x63.cell0 (by kernel_rfl) ((rd_f hS8.im) w' hw')) ?_
        refine WO.vals [(9, 40, (.string p1)), (10, 41, (.bool (sEq x63 p1))), (11, 42, (.bool (sEq x63 p1)))] (by kernel_rfl) (fun _ => by kernel_rfl) ?_
        obtain ⟨j64, hr2, hr1⟩ := bind_some hr1
        refine WO.join (l1 := [12, 13, 14, 15, 16, 17, 18, 19, 20, 21]) (l2 := [22]) (J := (fun fr w => ∃ (I66 : Mem), fr = [(31, (.int .i64 s4)), (35, (.bool true)), (52, (.bool j64))] ∧ I2.Le I66 ∧ St E w I66 Os)) ?restj64 ?waysj64
        case waysj64 =>
          refine WO.caseb (sEq x63 p1) (fun hc => ?_) (fun hc => ?_)
          · replace hr2 := cond_t hc hr2
            refine WO.reslot 42 rfl (show Value.bool (sEq x63 p1) = Value.bool true by rw [hc]) ?_
            refine WO.pass rfl (by kernel_rfl) rfl ?_
            refine WO.pass rfl (by kernel_rfl) rfl ?_
            refine WO.pass rfl (by kernel_rfl) rfl ?_
            refine WO.pass rfl (by kernel_rfl) rfl ?_
            refine WO.pass rfl (by kernel_rfl) rfl ?_
            refine WO.pass rfl (by kernel_rfl) rfl ?_
            refine WO.pass rfl (by kernel_rfl) rfl ?_
            refine WO.pass rfl (by kernel_rfl) rfl ?_
            refine WO.pass rfl (by kernel_rfl) rfl ?_
            refine WO.vals [(21, 52, (.bool true))] (by kernel_rfl) (fun _ => by kernel_rfl) ?_
            have he := Option.some.inj hr2
            subst j64
            refine WO.weaken (fr' := [(31, (.int .i64 s4)), (35, (.bool true)), (52, (.bool true))]) (WO.meet ⟨I2, rfl, Mem.Le.refl _, hS8⟩) (Sub.cons rfl (Sub.cons rfl (Sub.cons rfl Sub.nil)))
          · replace hr2 := cond_f hc hr2
            refine WO.reslot 42 rfl (show Value.bool (sEq x63 p1) = Value.bool false by rw [hc]) ?_
            refine WO.vals [(12, 43, (.slice a_p0 p0.length c_p0)), (13, 44, (.int .i64 s4))] (by kernel_rfl) (fun _ => by kernel_rfl) ?_
            obtain ⟨x68, hx_x68, hr2⟩ := bind_some hr2
            obtain ⟨h0_x68, h1_x68, hx_x68⟩ := idx_some hx_x68
            obtain ⟨ha_x68, cs_x68, hn_x68, hr_x68, hc_x68⟩ := ((RSl.mono h_p0 hl3)).el _ _ hx_x68
            obtain rfl := hr_x68
            refine WO.indexAddr (e := 9) (sz := 1) rfl (by kernel_rfl) (by kernel_rfl) (by kernel_rfl) rfl ha_x68 rfl h0_x68 h1_x68 ?_
            refine WO.load rfl (by kernel_rfl) (by kernel_rfl) rfl (v := (.string x68)) (fun w' hw' => hc_x68.cell0 (by kernel_rfl) ((rd_f hS8.im) w' hw')) ?_
            obtain ⟨r74, hx_r69, hr2⟩ := bind_some hr2
            refine WO.call rfl (by kernel_rfl) rfl (f := 58) (args := #[(.string x68)]) (by kernel_rfl) (slices_isNaN_string_ok  hS8 hx_r69) ?_
            rintro _ w70 ⟨I71, rfl, hl72, hS73⟩
            refine ⟨_, rfl, trivial, ?_⟩
            refine WO.vals [(17, 48, (.bool r74))] (by kernel_rfl) (fun _ => by kernel_rfl) ?_
            obtain ⟨j75, hr3, hr2⟩ := bind_some hr2
            refine WO.join (l1 := [18, 19, 20]) (l2 := [21]) (J := (fun fr w => ∃ (I77 : Mem), fr = [(31, (.int .i64 s4)), (35, (.bool true)), (42, (.bool false)), (51, (.bool j75))] ∧ I71.Le I77 ∧ St E w I77 Os)) ?restj75 ?waysj75
            case waysj75 =>
              refine WO.caseb r74 (fun hc => ?_) (fun hc => ?_)
              · replace hr3 := cond_t hc hr3
                refine WO.reslot 48 rfl (show Value.bool r74 = Value.bool true by rw [hc]) ?_
                refine WO.vals [(18, 49, (.string p1))] (by kernel_rfl) (fun _ => by kernel_rfl) ?_
                obtain ⟨r84, hx_r79, hr3⟩ := bind_some hr3
                refine WO.call rfl (by kernel_rfl) rfl (f := 58) (args := #[(.string p1)]) (by kernel_rfl) (slices_isNaN_string_ok  hS73 hx_r79) ?_
                rintro _ w80 ⟨I81, rfl, hl82, hS83⟩
                refine ⟨_, rfl, trivial, ?_⟩
                refine WO.vals [(20, 51, (.bool r84))] (by kernel_rfl) (fun _ => by kernel_rfl) ?_
                have he := Option.some.inj hr3
                subst j75
                refine WO.weaken (fr' := [(31, (.int .i64 s4)), (35, (.bool true)), (42, (.bool false)), (51, (.bool r84))]) (WO.meet ⟨I81, rfl, hl82, hS83⟩) (Sub.cons rfl (Sub.cons rfl (Sub.cons rfl (Sub.cons rfl Sub.nil))))
              · replace hr3 := cond_f hc hr3
                refine WO.reslot 48 rfl (show Value.bool r74 = Value.bool false by rw [hc]) ?_
                refine WO.pass rfl (by kernel_rfl) rfl ?_
                refine WO.pass rfl (by kernel_rfl) rfl ?_
                refine WO.vals [(20, 51, (.bool false))] (by kernel_rfl) (fun _ => by kernel_rfl) ?_
                have he := Option.some.inj hr3
                subst j75
                refine WO.weaken (fr' := [(31, (.int .i64 s4)), (35, (.bool true)), (42, (.bool false)), (51, (.bool false))]) (WO.meet ⟨I71, rfl, Mem.Le.refl _, hS73⟩) (Sub.cons rfl (Sub.cons rfl (Sub.cons rfl (Sub.cons rfl Sub.nil))))
            case restj75 =>
              rintro _ w85 ⟨I77, rfl, hl78, hS86⟩
              refine WO.vals [(21, 52, (.bool j75))] (by kernel_rfl) (fun _ => by kernel_rfl) ?_
              have he := Option.some.inj hr2
              subst j64
              refine WO.weaken (fr' := [(31, (.int .i64 s4)), (35, (.bool true)), (52, (.bool j75))]) (WO.meet ⟨I77, rfl, (hl72.trans hl78), hS86⟩) (Sub.cons rfl (Sub.cons rfl (Sub.cons rfl Sub.nil)))
        case restj64 =>
          rintro _ w87 ⟨I66, rfl, hl67, hS88⟩
          refine WO.vals [(22, 53, (.bool j64))] (by kernel_rfl) (fun _ => by kernel_rfl) ?_
          have he := Option.some.inj hr1
          subst j59
          refine WO.weaken (fr' := [(31, (.int .i64 s4)), (53, (.bool j64))]) (WO.meet ⟨I66, rfl, hl67, hS88⟩) (Sub.cons rfl (Sub.cons rfl Sub.nil))
      · replace hr1 := cond_f hc hr1
        refine WO.reslot 35 rfl (show Value.bool (decide (s4 < (p0.length : Int))) = Value.bool false by rw [hc]) ?_
        refine WO.pass rfl (by kernel_rfl) rfl ?_
        refine WO.pass rfl (by kernel_rfl) rfl ?_
        refine WO.pass rfl (by kernel_rfl) rfl ?_
        refine WO.pass rfl (by kernel_rfl) rfl ?_
        refine WO.pass rfl (by kernel_rfl) rfl ?_
        refine WO.pass rfl (by kernel_rfl) rfl ?_
        refine WO.pass rfl (by kernel_rfl) rfl ?_
        refine WO.pass rfl (by kernel_rfl) rfl ?_
        refine WO.pass rfl (by kernel_rfl) rfl ?_
        refine WO.pass rfl (by kernel_rfl) rfl ?_
        refine WO.pass rfl (by kernel_rfl) rfl ?_
        refine WO.pass rfl (by kernel_rfl) rfl ?_
        refine WO.pass rfl (by kernel_rfl) rfl ?_
        refine WO.pass rfl (by kernel_rfl) rfl ?_
        refine WO.pass rfl (by kernel_rfl) rfl ?_
        refine WO.pass rfl (by kernel_rfl) rfl ?_
        refine WO.pass rfl (by kernel_rfl) rfl ?_
        refine WO.vals [(22, 53, (.bool false))] (by kernel_rfl) (fun _ => by kernel_rfl) ?_
        have he := Option.some.inj hr1
        subst j59
        refine WO.weaken (fr' := [(31, (.int .i64 s4)), (53, (.bool false))]) (WO.meet ⟨I2, rfl, Mem.Le.refl _, hS8⟩) (Sub.cons rfl (Sub.cons rfl Sub.nil))
    case restj59 =>
      rintro _ w89 ⟨I61, rfl, hl62, hS90⟩
      refine WO.vals [(23, 4, (.int .i64 s4)), (24, 5, (.bool j59))] (by kernel_rfl) (fun _ => by kernel_rfl) ?_
      refine WO.nil ?_
      refine En.next ?_
      refine W.ret ?_
      have he := Option.some.inj hr
      subst r
      exact En.ret2 rfl (.int .i64 s4) (.bool j59) rfl rfl ⟨I61, rfl, (hl3.trans hl62), hS90⟩
end Go.Proofs.Ythndadengamanaa
