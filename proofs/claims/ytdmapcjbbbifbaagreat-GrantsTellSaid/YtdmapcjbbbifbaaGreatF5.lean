/- What functions of the program come to, each by a plain one. Conditions: none. -/
import Derived.Test.YtdmapcjbbbifbaaGreatF4
import Derived.Test.YtdmapcjbbbifbaaGreatProg
set_option maxRecDepth 100000
namespace Go.Proofs.YtdmapcjbbbifbaaGreat
open Go.Gv
set_option maxHeartbeats 1000000
variable {E w : World} {I : Mem} {Os : List Mem}
def slices_Index_string (p0 : List ByteArray) (p1 : ByteArray) : Option Int := (forN (fun (i4 : Nat) => fun (_s : Unit) => (idx p0 (i4 : Int)).bind (fun x11 => (bif (sEq p1 x11) then some (.inr (i4 : Int)) else some (.inl ())))) p0.length 0 ()).bind (fun (t : Unit ⊕ (Int)) => match t with | .inl _ => some (-1) | .inr s13 => some s13)
theorem slices_Index_string_ok {p0 : List ByteArray} {p1 : ByteArray} {a_p0 : Option Addr} {c_p0 : Nat} (h_p0 : RSl 1 RStr I a_p0 c_p0 p0) (hS : St E w I Os) {r : Int} (hr : slices_Index_string p0 p1 = some r) :
    Calls P 97 #[(Sl a_p0 p0 c_p0), (.string p1)] w (fun e w' => ∃ I', e = .returned (Iv r) ∧ I.Le I' ∧ St E w' I' Os) := by
 refine calls_W (fn := Tryz.f97) rfl rfl rfl ?_
 unfold slices_Index_string at hr
 refine yd [0] ?_
 refine ya 0 4 (Iv 0) (yb (ye (yd nL3 ?_)))
 refine WO.vs 0 [(6, Sl a_p0 p0 c_p0), (7, Nv p0.length), (8, Iv 0)] (yb (W.block ?_))
 obtain ⟨t1, hloop5, hr⟩ := bsm hr
 have hlt9 := (h_p0).len_lt
 refine W.wk (W.forN (m := p0.length) hloop5 (fun (i4 : Nat) => fun (_s : Unit) fr w => ∃ I2, fr = [(0, Sl a_p0 p0 c_p0), (1, .string p1), (7, Nv p0.length), (8, Nv i4)] ∧ I.Le I2 ∧ St E w I2 Os) ⟨I, rfl, lr, hS⟩ ?_ ?_)
 rintro i4 _ _ w6 hi10 ⟨I2, rfl, hl3, hS7⟩ x8 hr1 hext1
 refine yd [0] ?_
 refine ya 0 9 (.bool (decide ((i4 : Int) < (p0.length : Int)))) (yb (ye (yag (fun hc => ?_))))
 clear hc
 refine yg (En.next (ye (W.block (yd nL2 ?_))))
 refine WO.vs 0 [(10, Nv i4), (5, Nv i4)] (yz nL6 ?_)
 refine WO.vs 0 [(11, .string p1), (12, Sl a_p0 p0 c_p0), (13, Nv i4)] ?_
 obtain ⟨x11, hr1, h0_x11, h1_x11, hx_x11, ha_x11, _, _, rfl, hc_x11⟩ := sl_at ((RSl.mono h_p0 hl3)) hr1
 refine yq 9 1 ha_x11 h0_x11 h1_x11 ?_
 refine yae (v := (.string x11)) hc_x11 hS7.rm ?_
 refine ya 5 16 (.bool (sEq p1 x11)) (yb (W.cb hr1 (fun hc hr1 => ?_) (fun hc hr1 => ?_)))
 refine yd nL2 ?_
 refine WO.vs 0 [(17, Nv i4), (4, Nv i4)] (yb (W.ret (yh (yc (ym ?_)))))
 obtain rfl := hext1 _ (sj hr1).symm
 refine yh (yc ?_)
 obtain rfl := sj hr
 exact yr ⟨I2, rfl, hl3, hS7⟩
 refine yg (yi (En.next (yaa nL2 ?_)))
 refine y0 (j := i4) rfl (by kernel_rfl) rfl (by first | omega | (dsimp only at *; omega) | (simp only [List.length_cons, List.length_nil] at *; omega)) ?_
 exact ya 1 8 (Iv ((i4 + 1 : Nat) : Int)) (WO.nil (yo ⟨(), (sj hr1).symm, I2, rfl, hl3, hS7⟩))
 rintro _ _ w14 ⟨I2, rfl, hl3, hS15⟩ he
 cases he
 refine yd [0] ?_
 refine ya 0 9 (.bool (decide ((p0.length : Int) < (p0.length : Int)))) (yb (ye (yah (fun hc => ?_))))
 clear hc
 refine yy (yk (yl (yn (En.next (yd [0] ?_)))))
 refine ya 0 4 (Iv (-1)) (yb (W.ret ?_))
 obtain rfl := sj hr
 exact yr ⟨I2, rfl, hl3, hS15⟩
def slices_Contains_string (p0 : List ByteArray) (p1 : ByteArray) : Option Bool := (slices_Index_string p0 p1).bind (fun r6 => some (decide (r6 ≥ 0)))
theorem slices_Contains_string_ok {p0 : List ByteArray} {p1 : ByteArray} {a_p0 : Option Addr} {c_p0 : Nat} (h_p0 : RSl 1 RStr I a_p0 c_p0 p0) (hS : St E w I Os) {r : Bool} (hr : slices_Contains_string p0 p1 = some r) :
    Calls P 58 #[(Sl a_p0 p0 c_p0), (.string p1)] w (fun e w' => ∃ I', e = .returned (.bool r) ∧ I.Le I' ∧ St E w' I' Os) := by
 refine calls_W (fn := Tryz.f58) rfl rfl rfl ?_
 unfold slices_Contains_string at hr
 refine yd [0] ?_
 refine ya 0 4 (.bool false) (yz nL5 ?_)
 refine WO.vs 0 [(5, Sl a_p0 p0 c_p0), (6, .string p1)] ?_
 obtain ⟨r6, hx_r1, hr⟩ := bsm hr
 refine y6 (slices_Index_string_ok h_p0 hS hx_r1) ?_
 intro I3 w2 hl4 hS5
 refine WO.vs 3 [(8, .bool (decide (r6 ≥ 0))), (4, .bool (decide (r6 ≥ 0)))] (yb (W.ret ?_))
 obtain rfl := sj hr
 exact yr ⟨I3, rfl, hl4, hS5⟩
noncomputable def member_Is (p0 : List qRole) (p1 : ByteArray) (p2 : ByteArray) : Option Bool := (member_All p0 p1).bind (fun r6 => (slices_Contains_string r6 p2).bind (fun r12 => some r12))
theorem member_Is_ok {p0 : List qRole} {p1 : ByteArray} {p2 : ByteArray} {a_p0 : Option Addr} {c_p0 : Nat} (h_p0 : RSl 2 R_qRole I a_p0 c_p0 p0) (hS : St E w I Os) {r : Bool} (hr : member_Is p0 p1 p2 = some r) :
    Calls P 33 #[(Sl a_p0 p0 c_p0), (.string p1), (.string p2)] w (fun e w' => ∃ I', e = .returned (.bool r) ∧ I.Le I' ∧ St E w' I' Os) := by
 refine calls_W (fn := Tryz.f33) rfl rfl rfl ?_
 unfold member_Is at hr
 refine yd [0] ?_
 refine ya 0 6 (.bool false) (yz nL6 ?_)
 refine WO.vs 0 [(7, Sl a_p0 p0 c_p0), (8, .string p1)] ?_
 obtain ⟨r6, hx_r1, hr⟩ := bsm hr
 refine y8 (member_All_ok h_p0 hS hx_r1) ?_
 rintro _ w2 ⟨I3, a_r6, c_r6, rfl, hl4, hS5, h_r6⟩
 refine ⟨_, rfl, trivial, ?_⟩
 refine ya 3 10 (.string p2) ?_
 obtain ⟨r12, hx_r7, hr⟩ := bsm hr
 refine y6 (slices_Contains_string_ok h_r6 hS5 hx_r7) ?_
 intro I9 w8 hl10 hS11
 refine ya 5 6 (.bool r12) (yb (W.ret ?_))
 obtain rfl := sj hr
 exact yr ⟨I9, rfl, (hl4.trans hl10), hS11⟩
def slices_IndexFunc_qGrant (p0 : List qGrant) (p1 : qGrant → Option Bool) : Option Int := (forN (fun (i4 : Nat) => fun (_s : Unit) => (idx p0 (i4 : Int)).bind (fun x11 => (p1 x11).bind (fun (r17 : Bool) => (bif r17 then some (.inr (i4 : Int)) else some (.inl ()))))) p0.length 0 ()).bind (fun (t : Unit ⊕ (Int)) => match t with | .inl _ => some (-1) | .inr s19 => some s19)
theorem slices_IndexFunc_qGrant_ok {p0 : List qGrant} {p1 : qGrant → Option Bool} {a_p0 : Option Addr} {c_p0 : Nat} {g_p1 : FuncId} {k_p1 : List Value} (h_p0 : RSl 5 R_qGrant I a_p0 c_p0 p0) (h_p1 : ∀ {F : List Mem} {I' : Mem} {w : World} {u0 : qGrant}, I.Le I' → St E w I' (F ++ Os) → ∀ {r : Bool}, p1 u0 = some r → Calls P g_p1 (([(.agg (cs_qGrant u0).toArray)] : List Value) ++ k_p1).toArray w (fun e w' => ∃ (I'' : Mem), e = .returned (.bool r) ∧ I'.Le I'' ∧ St E w' I'' (F ++ Os))) (hcall_p1 : Callable P g_p1) (hS : St E w I Os) {r : Int} (hr : slices_IndexFunc_qGrant p0 p1 = some r) :
    Calls P 111 #[(Sl a_p0 p0 c_p0), (.func (.func g_p1) #[] k_p1.toArray)] w (fun e w' => ∃ I', e = .returned (Iv r) ∧ I.Le I' ∧ St E w' I' Os) := by
 refine calls_W (fn := Tryz.f111) rfl rfl rfl ?_
 unfold slices_IndexFunc_qGrant at hr
 refine yd [0] ?_
 refine ya 0 4 (Iv 0) (yb (ye (yd nL3 ?_)))
 refine WO.vs 0 [(6, Sl a_p0 p0 c_p0), (7, Nv p0.length), (8, Iv 0)] (yb (W.block ?_))
 obtain ⟨t1, hloop5, hr⟩ := bsm hr
 have hlt9 := (h_p0).len_lt
 refine W.wk (W.forN (m := p0.length) hloop5 (fun (i4 : Nat) => fun (_s : Unit) fr w => ∃ I2, fr = [(0, Sl a_p0 p0 c_p0), (1, .func (.func g_p1) #[] k_p1.toArray), (7, Nv p0.length), (8, Nv i4)] ∧ I.Le I2 ∧ St E w I2 Os) ⟨I, rfl, lr, hS⟩ ?_ ?_)
 rintro i4 _ _ w6 hi10 ⟨I2, rfl, hl3, hS7⟩ x8 hr1 hext1
 refine yd [0] ?_
 refine ya 0 9 (.bool (decide ((i4 : Int) < (p0.length : Int)))) (yb (ye (yag (fun hc => ?_))))
 clear hc
 refine yg (En.next (ye (W.block (yd nL2 ?_))))
 refine WO.vs 0 [(10, Nv i4), (5, Nv i4)] (yz nL6 ?_)
 refine WO.vs 0 [(11, .func (.func g_p1) #[] k_p1.toArray), (12, Sl a_p0 p0 c_p0), (13, Nv i4)] ?_
 obtain ⟨x11, hr1, h0_x11, h1_x11, hx_x11, ha_x11, _, _, rfl, hc_x11⟩ := sl_at ((RSl.mono h_p0 hl3)) hr1
 refine yq 67 5 ha_x11 h0_x11 h1_x11 ?_
 refine yai ((cs_qGrant x11)) hc_x11 0 hS7.rm ?_
 obtain ⟨r17, hx_r12, hr1⟩ := bsm hr1
 refine WO.callv rfl (by kernel_rfl) rfl (g := g_p1) (kk := k_p1) (args := [(.agg (cs_qGrant x11).toArray)]) rfl (by kernel_rfl) hcall_p1 (h_p1 (F := []) hl3 hS7  hx_r12) ?_
 rintro _ w13 ⟨I14, rfl, hl15, hS16⟩
 refine ⟨_, rfl, trivial, ?_⟩
 refine yb (W.cb hr1 (fun hc hr1 => ?_) (fun hc hr1 => ?_))
 refine yd nL2 ?_
 refine WO.vs 0 [(17, Nv i4), (4, Nv i4)] (yb (W.ret (yh (yc (ym ?_)))))
 obtain rfl := hext1 _ (sj hr1).symm
 refine yh (yc ?_)
 obtain rfl := sj hr
 exact yr ⟨I14, rfl, (hl3.trans hl15), hS16⟩
 refine yg (yi (En.next (yaa nL2 ?_)))
 refine y0 (j := i4) rfl (by kernel_rfl) rfl (by first | omega | (dsimp only at *; omega) | (simp only [List.length_cons, List.length_nil] at *; omega)) ?_
 exact ya 1 8 (Iv ((i4 + 1 : Nat) : Int)) (WO.nil (yo ⟨(), (sj hr1).symm, I14, rfl, (hl3.trans hl15), hS16⟩))
 rintro _ _ w20 ⟨I2, rfl, hl3, hS21⟩ he
 cases he
 refine yd [0] ?_
 refine ya 0 9 (.bool (decide ((p0.length : Int) < (p0.length : Int)))) (yb (ye (yah (fun hc => ?_))))
 clear hc
 refine yy (yk (yl (yn (En.next (yd [0] ?_)))))
 refine ya 0 4 (Iv (-1)) (yb (W.ret ?_))
 obtain rfl := sj hr
 exact yr ⟨I2, rfl, hl3, hS21⟩
def grants_place_1 (p0 : qGrant) (q1 : qStmt) (q2 : ByteArray) : Option Bool := (some (((sEq p0.To q1.Role) && (sEq p0.By q2)) && (sEq p0.Table q1.Table))).bind (fun (q7 : Bool) => some (q7 && (p0.Priv == q1.Priv)))
theorem grants_place_1_ok {p0 : qGrant} {q1 : qStmt} {q2 : ByteArray} {kb1 : Nat} {w_q1 : W_qStmt} {kb2 : Nat} (h_q1 : ok_qStmt I q1 w_q1) (hm1 : (Bx kb1 (cs_qStmt q1 w_q1) 44) ∈ Os) (hm2 : (Bx kb2 [(.string q2)] 9) ∈ Os) (hS : St E w I Os) {r : Bool} (hr : grants_place_1 p0 q1 q2 = some r) :
    Calls P 112 #[(.agg (cs_qGrant p0).toArray), (Pt kb1 0), (Pt kb2 0)] w (fun e w' => ∃ I', e = .returned (.bool r) ∧ I.Le I' ∧ St E w' I' Os) := by
 refine calls_W (fn := Tryz.f112) rfl rfl rfl ?_
 unfold grants_place_1 at hr
 refine yd nL2 ?_
 refine yx hS (cs_qGrant p0) 67 ?_
 intro b1 w4 hS3
 refine ya 1 4 (.bool false) (yz nL26 ?_)
 refine ya 0 5 (Pt b1 0) (yf (v := (.string p0.To)) (hS3.rf m0) ?_)
 refine ya 2 7 (Pt kb1 3) (yf (v := (.string q1.Role)) (rd_f (hS3.rd (List.Mem.tail _ hm1))) ?_)
 refine WO.vs 4 [(9, .bool (sEq p0.To q1.Role)), (10, .bool (sEq p0.To q1.Role))] (yac (l1 := [6, 7, 8, 9, 10]) 15 ((sEq p0.To q1.Role) && (sEq p0.By q2)) ?_ ?_)
 refine yp (sEq p0.To q1.Role) (fun hc => ?_) (fun hc => ?_)
 refine yj 10 hc (ya 6 11 (Pt b1 1) (yf (v := (.string p0.By)) (hS3.rf m0) ?_))
 refine yf (v := (.string q2)) (rd_f (hS3.rd (List.Mem.tail _ hm2))) ?_
 exact WO.vs 9 [(14, .bool (sEq p0.By q2)), (15, .bool (sEq p0.By q2))] (WO.mk 10 hc (by rw [hc]; rfl))
 refine yj 10 hc ?_
 iterate 4 refine yt ?_
 exact ya 10 15 (.bool false) (WO.mk 10 hc (by rw [hc]; rfl))
 refine ya 11 16 (.bool ((sEq p0.To q1.Role) && (sEq p0.By q2))) ?_
 obtain ⟨q7, hx_q7, hr⟩ := bsm hr
 replace hx_q7 := sj hx_q7
 refine yac (l1 := [12, 13, 14, 15, 16, 17]) 22 q7 ?_ ?_
 refine yp ((sEq p0.To q1.Role) && (sEq p0.By q2)) (fun hc => ?_) (fun hc => ?_)
 refine yj 16 hc (ya 12 17 (Pt b1 2) (yf (v := (.string p0.Table)) (hS3.rf m0) ?_))
 refine ya 14 19 (Pt kb1 1) (yf (v := (.string q1.Table)) (rd_f (hS3.rd (List.Mem.tail _ hm1))) ?_)
 exact WO.vs 16 [(21, .bool (sEq p0.Table q1.Table)), (22, .bool (sEq p0.Table q1.Table))] (WO.mk 16 hc (by rw [← hx_q7, hc]; rfl))
 refine yj 16 hc ?_
 iterate 5 refine yt ?_
 exact ya 17 22 (.bool false) (WO.mk 16 hc (by rw [← hx_q7, hc]; rfl))
 refine ya 18 23 (.bool q7) (yac (l1 := [19, 20, 21, 22, 23, 24]) 29 (q7 && (p0.Priv == q1.Priv)) ?_ ?_)
 refine yp q7 (fun hc => ?_) (fun hc => ?_)
 refine yj 23 hc (ya 19 24 (Pt b1 3) (yf (v := (Iv p0.Priv)) (hS3.rf m0) ?_))
 refine ya 21 26 (Pt kb1 18) (yf (v := (Iv q1.Priv)) (rd_f (hS3.rd (List.Mem.tail _ hm1))) ?_)
 exact WO.vs 23 [(28, .bool (p0.Priv == q1.Priv)), (29, .bool (p0.Priv == q1.Priv))] (WO.mk 23 hc (by rw [hc]; rfl))
 refine yj 23 hc ?_
 iterate 5 refine yt ?_
 exact ya 24 29 (.bool false) (WO.mk 23 hc (by rw [hc]; rfl))
 refine ya 25 4 (.bool (q7 && (p0.Priv == q1.Priv))) (yb (W.ret ?_))
 obtain rfl := sj hr
 exact yr ⟨I, rfl, lr, hS3.drop⟩
def grants_place (p0 : qCatalog) (p1 : qStmt) (p2 : ByteArray) : Option Int := (slices_IndexFunc_qGrant p0.Grants (fun (u0 : qGrant) => grants_place_1 u0 p1 p2)).bind (fun r18 => some r18)
theorem grants_place_ok {p0 : qCatalog} {p1 : qStmt} {p2 : ByteArray} {w_p0 : W_qCatalog} {w_p1 : W_qStmt} (h_p0 : ok_qCatalog I p0 w_p0) (h_p1 : ok_qStmt I p1 w_p1) (hS : St E w I Os) {r : Int} (hr : grants_place p0 p1 p2 = some r) :
    Calls P 66 #[(.agg (cs_qCatalog p0 w_p0).toArray), (.agg (cs_qStmt p1 w_p1).toArray), (.string p2)] w (fun e w' => ∃ I', e = .returned (Iv r) ∧ I.Le I' ∧ St E w' I' Os) := by
 refine calls_W (fn := Tryz.f66) rfl rfl rfl ?_
 unfold grants_place at hr
 refine yd nL4 ?_
 refine yx hS (cs_qCatalog p0 w_p0) 29 ?_
 intro b1 w4 hS3
 refine yx hS3 (cs_qStmt p1 w_p1) 44 ?_
 intro b5 w8 hS7
 refine yx hS7 [(.string p2)] 9 ?_
 intro b9 w12 hS11
 refine ya 3 6 (Iv 0) (yz nL5 ?_)
 refine ya 0 7 (Pt b1 3) (yf (v := (Sl w_p0.Grants.a p0.Grants w_p0.Grants.c)) (hS11.rf m2) ?_)
 refine ya 2 9 (.func (.func 112) #[] #[(Pt b5 0), (Pt b9 0)]) ?_
 obtain ⟨r18, hx_r13, hr⟩ := bsm hr
 refine y6 (slices_IndexFunc_qGrant_ok h_p0.Grants (fun {F Ic wc} {_} hlc hSc  {rc} hrc => grants_place_1_ok (h_p1.mono hlc) (List.mem_append_right _ m1) (List.mem_append_right _ m0) hSc hrc) (fun _ _ => by kernel_rfl) hS11 hx_r13) ?_
 intro I15 w14 hl16 hS17
 refine ya 4 6 (Iv r18) (yb (W.ret ?_))
 obtain rfl := sj hr
 exact yr ⟨I15, rfl, hl16, hS17.drop.drop.drop⟩
def slices_Clone_qGrant (p0 : List qGrant) : Option (List qGrant) := (app 64 ([] : List qGrant) p0).bind (fun x10 => some x10)
theorem slices_Clone_qGrant_ok {p0 : List qGrant} {a_p0 : Option Addr} {c_p0 : Nat} (h_p0 : RSl 5 R_qGrant I a_p0 c_p0 p0) (hS : St E w I Os) {r : (List qGrant)} (hr : slices_Clone_qGrant p0 = some r) :
    Calls P 67 #[(Sl a_p0 p0 c_p0)] w (fun e w' => ∃ (I' : Mem) (ra0 : Option Addr) (rc0 : Nat) (rC0 : Mem), e = .returned (Sl ra0 r rc0) ∧ I.Le I' ∧ St E w' I' (rC0 :: Os) ∧ OwnSl 67 5 R_qGrant I' rC0 ra0 rc0 r) := by
 refine calls_W (fn := Tryz.f67) rfl rfl rfl ?_
 unfold slices_Clone_qGrant at hr
 refine yd [0] ?_
 refine ya 0 2 (.slice none 0 0) (yb (ye (yd nL2 ?_)))
 refine ya 0 3 (Sl a_p0 p0 c_p0) (yav (e := 67) rfl (by kernel_rfl) (by kernel_rfl) rfl rfl ?_)
 refine yb (W.cd (fun hc => ?_) (fun hc => ?_))
 have ha0 := Option.isNone_iff_eq_none.1 hc
 subst ha0
 have hx0 := (h_p0).none_nil
 subst hx0
 replace hr : some ([] : List qGrant) = some r := by simpa [app] using hr
 refine yd [0] ?_
 refine ya 0 2 (.slice none 0 0) (yb (W.ret (yc ?_)))
 obtain rfl := sj hr
 exact yr ⟨I, none, 0, Mem.no, rfl, lr, hS.no, OwnSl.nil⟩
 clear hc
 refine yg (En.next (yd nL4 ?_))
 refine y3 (rel := R_qGrant) (xs := ([] : List qGrant)) hS rfl (by kernel_rfl) rfl 67 5 [] (by kernel_rfl) rfl (Elr.nil) (fun _ _ _ => trivial) ?_
 intro a6 C4 w8 hS7 ho5
 refine ya 1 6 (Sl a_p0 p0 c_p0) ?_
 obtain ⟨x10, hx_x10, hr⟩ := bsm hr
 obtain ⟨h0_x10, he_x10⟩ := app_some hx_x10
 refine WO.ap 67 64 (cs_qGrant z_qGrant) hS7 ho5 h_p0 hS7.im h0_x10 he_x10 ?_
 intro a11 c12 w13 C14 hS15 ho16
 refine ya 3 2 (Sl a11 x10 c12) (yb (W.ret ?_))
 obtain rfl := sj hr
 exact yr ⟨I, a11, c12, C14, rfl, lr, hS15, ho16⟩
theorem del68_ok {E w : World} {I C : Mem} {Os : List Mem} {xs : List qGrant} {a : Option Addr} {cap : Nat} (h : OwnSl 67 5 R_qGrant I C a cap xs) (hS : St E w I (C :: Os)) {p q : Nat} (hpq : p < q) (hq : q ≤ xs.length) :
    Calls P 68 #[.slice a xs.length cap, .int .i64 (p : Int), .int .i64 (q : Int)] w (fun e w' => ∃ (C' : Mem), e = .returned (.slice a (xs.take p ++ xs.drop q).length cap) ∧ St E w' I (C' :: Os) ∧ OwnSl 67 5 R_qGrant I C' a cap (xs.take p ++ xs.drop q)) := by
  have hxl := h.sl.le
  have hxc := h.sl.lt
  have hlen : (xs.take p ++ xs.drop q).length = p + (xs.length - q) := by simp; omega
  refine calls_W (args := [.slice a xs.length cap, .int .i64 (p : Int), .int .i64 (q : Int)]) (fn := Tryz.f68) rfl rfl rfl ?_
  refine ye ?_
  refine yaf (l := [0]) (by kernel_rfl) ?_
  refine yad [(0, 6, (.slice none 0 0))] (by kernel_rfl) (fun _ => by kernel_rfl) ?_
  refine WO.nil ?_
  refine En.next ?_
  refine ye ?_
  refine yaf (l := [0, 1, 2, 3, 4, 5]) (by kernel_rfl) ?_
  refine yad [(0, 8, (.slice a xs.length cap)), (1, 9, (.int .i64 (p : Int))), (2, 10, (.int .i64 (q : Int))), (3, 11, (.slice a xs.length cap)), (4, 12, (.int .i64 (xs.length : Int)))] (by kernel_rfl) (fun _ => by kernel_rfl) ?_
  refine WO.slice3 (e := 67) (sz := 5) rfl (by kernel_rfl) (by kernel_rfl) (by kernel_rfl) rfl p q xs.length rfl rfl rfl (by omega) hq hxl ?_
  refine WO.nil ?_
  refine En.next ?_
  refine ye ?_
  refine ye ?_
  refine yaf (l := [0, 1, 2]) (by kernel_rfl) ?_
  refine yad [(0, 14, (.int .i64 (p : Int))), (1, 15, (.int .i64 (q : Int))), (2, 16, (.bool ((p : Int) == (q : Int))))] (by kernel_rfl) (fun _ => by kernel_rfl) ?_
  refine WO.nil ?_
  refine En.next ?_
  refine W.cond (b := ((p : Int) == (q : Int))) rfl rfl (fun hc => ?_) (fun hc => ?_)
  · exfalso
    simp at hc
    omega
  clear hc
  refine yg ?_
  refine En.next ?_
  refine ye ?_
  refine yaf (l := [0, 1, 2]) (by kernel_rfl) ?_
  refine yad [(0, 18, (.slice a xs.length cap)), (1, 19, (.int .i64 (xs.length : Int))), (2, 7, (.int .i64 (xs.length : Int)))] (by kernel_rfl) (fun _ => by kernel_rfl) ?_
  refine WO.nil ?_
  refine En.next ?_
  refine ye ?_
  have hS1 := hS.drew
  refine yaz (l := [0, 1, 2, 3, 4, 5, 6, 7]) (by kernel_rfl) 6 (KR I []) qR (.back (by kernel_rfl)) (by kernel_rfl) (KR.nil hS1.im) ?_
  generalize World.drew _ = w1 at *
  refine yad [(0, 20, (.slice a xs.length cap)), (1, 21, (.int .i64 (p : Int)))] (by kernel_rfl) (fun _ => by kernel_rfl) ?_
  refine WO.slice (e := 67) (sz := 5) rfl (by kernel_rfl) (by kernel_rfl) (by kernel_rfl) rfl (0 : Int) (p : Int) (by omega) (.inl ⟨rfl, rfl⟩) (.inr ⟨_, _, rfl, rfl⟩) (by omega) (by omega) ?_
  refine yad [(3, 23, (.slice a xs.length cap)), (4, 24, (.int .i64 (q : Int)))] (by kernel_rfl) (fun _ => by kernel_rfl) ?_
  refine WO.slice (e := 67) (sz := 5) rfl (by kernel_rfl) (by kernel_rfl) (by kernel_rfl) rfl (q : Int) (xs.length : Int) (by omega) (.inr ⟨_, _, rfl, rfl⟩) (.inl ⟨rfl, rfl⟩) (by omega) (by omega) ?_
  refine WO.tail rfl ?_
  refine WO.appendSelf (T := 67) (e' := 67) (b := 64) (zs := #[(.string (⟨#[]⟩ : ByteArray)), (.string (⟨#[]⟩ : ByteArray)), (.string (⟨#[]⟩ : ByteArray)), (.int .i64 0), (.bool false)]) hS1 h rfl (by kernel_rfl) rfl (by kernel_rfl) (by kernel_rfl) (by kernel_rfl) (Nat.le_of_lt hpq) hq rfl rfl (fun _ _ _ => trivial) ?_
  intro w2 C2 hS2 h2
  refine yad [(7, 0, (.slice a (p + (xs.length - q)) cap))] (by kernel_rfl) (fun _ => by kernel_rfl) ?_
  refine WO.nil ?_
  refine En.next ?_
  have hfl : (xs.take p ++ xs.drop q ++ xs.drop (p + (xs.length - q))).length = xs.length := by simp; omega
  refine ye ?_
  refine yaf (l := [0, 1, 2, 3, 4, 5]) (by kernel_rfl) ?_
  refine yad [(0, 27, (.slice a (p + (xs.length - q)) cap)), (1, 28, (.slice a (p + (xs.length - q)) cap)), (2, 29, (.int .i64 ((p + (xs.length - q) : Nat) : Int))), (3, 30, (.int .i64 (xs.length : Int)))] (by kernel_rfl) (fun _ => by kernel_rfl) ?_
  refine WO.slice (e := 67) (sz := 5) rfl (by kernel_rfl) (by kernel_rfl) (by kernel_rfl) rfl ((p + (xs.length - q) : Nat) : Int) (xs.length : Int) (by omega) (.inr ⟨_, _, rfl, rfl⟩) (.inr ⟨_, _, rfl, rfl⟩) (by omega) (by omega) ?_
  refine WO.clear hS2 h2 (e := 67) (by kernel_rfl) (zs := [(.string (⟨#[]⟩ : ByteArray)), (.string (⟨#[]⟩ : ByteArray)), (.string (⟨#[]⟩ : ByteArray)), (.int .i64 0), (.bool false)]) (by kernel_rfl) (z0 := z_qGrant) rfl (by kernel_rfl) (by kernel_rfl) (by kernel_rfl) rfl (by kernel_rfl) rfl (lo := p + (xs.length - q)) (by rw [hfl]; omega) (by rw [hfl]; rfl) (fun _ _ _ => trivial) ?_
  intro w3 C3 hS3 h3
  refine WO.nil ?_
  refine En.next ?_
  refine ye ?_
  refine yaf (l := [0, 1]) (by kernel_rfl) ?_
  refine yad [(0, 32, (.slice a (p + (xs.length - q)) cap)), (1, 6, (.slice a (p + (xs.length - q)) cap))] (by kernel_rfl) (fun _ => by kernel_rfl) ?_
  refine WO.nil ?_
  refine En.next ?_
  refine W.ret ?_
  rw [hlen]
  refine En.ret1 rfl (.slice a (p + (xs.length - q)) cap) rfl ⟨C3, rfl, hS3, ?_⟩
  have h4 := h3.shorter (p + (xs.length - q))
  rwa [List.take_append_of_le_length (by rw [List.length_take, hfl]; omega), List.take_take, Nat.min_self, List.take_append_of_le_length (by rw [hlen]; exact Nat.le_refl _), List.take_of_length_le (by rw [hlen]; exact Nat.le_refl _)] at h4
def slices_Delete_qGrant (p0 : List qGrant) (p1 p2 : Int) : Option (List qGrant) := delO p0 p1 p2
theorem slices_Delete_qGrant_ok {p0 : List qGrant} {p1 p2 : Int} {a_p0 : Option Addr} {c_p0 : Nat} {C_p0 : Mem} (h_p0 : OwnSl 67 5 R_qGrant I C_p0 a_p0 c_p0 p0) (hS : St E w I (C_p0 :: Os)) {r : List qGrant} (hr : slices_Delete_qGrant p0 p1 p2 = some r) :
    Calls P 68 #[.slice a_p0 p0.length c_p0, .int .i64 p1, .int .i64 p2] w (fun e w' => ∃ (I' : Mem) (ra0 : Option Addr) (rc0 : Nat) (rC0 : Mem), e = .returned (.slice ra0 r.length rc0) ∧ I.Le I' ∧ St E w' I' (rC0 :: Os) ∧ OwnSl 67 5 R_qGrant I' rC0 ra0 rc0 r) := by
  obtain ⟨p, q, rfl, rfl, h1, h2, rfl⟩ := delO_some hr
  refine (del68_ok h_p0 hS h1 h2).mono ?_
  rintro e w' ⟨C', rfl, hS', ho⟩
  exact ⟨I, a_p0, c_p0, C', rfl, Mem.Le.refl _, hS', ho⟩
def grants_take (p0 : qCatalog) (p1 : qStmt) (p2 : ByteArray) : Option ((List qGrant) × Int) := (grants_place p0 p1 p2).bind (fun r14 => (bif (decide (r14 < 0)) then some (([] : List qGrant), 4) else (slices_Clone_qGrant p0.Grants).bind (fun r22 => (slices_Delete_qGrant r22 r14 (w64 (r14 + 1))).bind (fun r28 => some (r28, 0)))))
theorem grants_take_ok {p0 : qCatalog} {p1 : qStmt} {p2 : ByteArray} {w_p0 : W_qCatalog} {w_p1 : W_qStmt} (h_p0 : ok_qCatalog I p0 w_p0) (h_p1 : ok_qStmt I p1 w_p1) (hS : St E w I Os) {r : (List qGrant) × Int} (hr : grants_take p0 p1 p2 = some r) :
    Calls P 36 #[(.agg (cs_qCatalog p0 w_p0).toArray), (.agg (cs_qStmt p1 w_p1).toArray), (.string p2)] w (fun e w' => ∃ (I' : Mem) (ra0 : Option Addr) (rc0 : Nat), e = .returned (.tuple #[(Sl ra0 r.1 rc0), (Iv r.2)]) ∧ I.Le I' ∧ St E w' I' Os ∧ RSl 5 R_qGrant I' ra0 rc0 r.1) := by
 refine calls_W (fn := Tryz.f36) rfl rfl rfl ?_
 unfold grants_take at hr
 refine yd nL4 ?_
 refine yx hS (cs_qCatalog p0 w_p0) 29 ?_
 intro b1 w4 hS3
 refine yx hS3 (cs_qStmt p1 w_p1) 44 ?_
 intro b5 w8 hS7
 refine WO.vs 2 [(6, .slice none 0 0), (7, Iv 0)] (yz nL5 ?_)
 refine yu ((cs_qCatalog p0 w_p0)) (hS7.rf m1) ?_
 refine yu ((cs_qStmt p1 w_p1)) (hS7.rf m0) ?_
 refine ya 2 11 (.string p2) ?_
 obtain ⟨r14, hx_r9, hr⟩ := bsm hr
 refine y6 (grants_place_ok h_p0 h_p1 hS7 hx_r9) ?_
 intro I11 w10 hl12 hS13
 refine ya 4 8 (Iv r14) (yb (ye (yd nL2 ?_)))
 refine WO.vs 0 [(13, Iv r14), (14, .bool (decide (r14 < 0)))] (yb (W.cb hr (fun hc hr => ?_) (fun hc hr => ?_)))
 refine yd nL2 ?_
 refine WO.vs 0 [(6, .slice none 0 0), (7, Iv 4)] (yb (W.ret (yc ?_)))
 obtain rfl := sj hr
 exact yaj ⟨I11, none, 0, rfl, hl12, hS13.drop.drop, SlAt.nil⟩
 refine yg (En.next (yd nL9 ?_))
 refine ya 0 15 (Pt b1 3) (yf (v := (Sl w_p0.Grants.a p0.Grants w_p0.Grants.c)) (hS13.rf m1) ?_)
 obtain ⟨r22, hx_r17, hr⟩ := bsm hr
 refine y8 (slices_Clone_qGrant_ok (RSl.mono h_p0.Grants hl12) hS13 hx_r17) ?_
 rintro _ w18 ⟨I19, a_r22, c_r22, C_r22, rfl, hl20, hS21, h_r22⟩
 refine ⟨_, rfl, trivial, ?_⟩
 refine WO.vs 3 [(18, Iv r14), (19, Iv r14), (20, Iv (w64 (r14 + 1)))] ?_
 obtain ⟨r28, hx_r23, hr⟩ := bsm hr
 refine y8 (slices_Delete_qGrant_ok h_r22 hS21 hx_r23) ?_
 rintro _ w24 ⟨I25, a_r28, c_r28, C_r28, rfl, hl26, hS27, h_r28⟩
 refine ⟨_, rfl, trivial, ?_⟩
 obtain ⟨I29, hl30, hS32, hp31⟩ := y4 h_r28 hS27
 refine WO.vs 7 [(6, Sl a_r28 r28 c_r28), (7, Iv 0)] (yb (W.ret ?_))
 obtain rfl := sj hr
 exact yaj ⟨I29, a_r28, c_r28, rfl, (((hl12.trans hl20).trans hl26).trans hl30), hS32.drop.drop, hp31⟩
def slices_IndexFunc_qTable (p0 : List qTable) (p1 : qTable → Option Bool) : Option Int := (forN (fun (i4 : Nat) => fun (_s : Unit) => (idx p0 (i4 : Int)).bind (fun x11 => (p1 x11).bind (fun (r17 : Bool) => (bif r17 then some (.inr (i4 : Int)) else some (.inl ()))))) p0.length 0 ()).bind (fun (t : Unit ⊕ (Int)) => match t with | .inl _ => some (-1) | .inr s19 => some s19)
theorem slices_IndexFunc_qTable_ok {p0 : List qTable} {p1 : qTable → Option Bool} {a_p0 : Option Addr} {c_p0 : Nat} {g_p1 : FuncId} {k_p1 : List Value} (h_p0 : RSl 6 R_qTable I a_p0 c_p0 p0) (h_p1 : ∀ {F : List Mem} {I' : Mem} {w : World} {u0 : qTable} {w_u0 : W_qTable}, I.Le I' → St E w I' (F ++ Os) → ok_qTable I' u0 w_u0 → ∀ {r : Bool}, p1 u0 = some r → Calls P g_p1 (([(.agg (cs_qTable u0 w_u0).toArray)] : List Value) ++ k_p1).toArray w (fun e w' => ∃ (I'' : Mem), e = .returned (.bool r) ∧ I'.Le I'' ∧ St E w' I'' (F ++ Os))) (hcall_p1 : Callable P g_p1) (hS : St E w I Os) {r : Int} (hr : slices_IndexFunc_qTable p0 p1 = some r) :
    Calls P 75 #[(Sl a_p0 p0 c_p0), (.func (.func g_p1) #[] k_p1.toArray)] w (fun e w' => ∃ I', e = .returned (Iv r) ∧ I.Le I' ∧ St E w' I' Os) := by
 refine calls_W (fn := Tryz.f75) rfl rfl rfl ?_
 unfold slices_IndexFunc_qTable at hr
 refine yd [0] ?_
 refine ya 0 4 (Iv 0) (yb (ye (yd nL3 ?_)))
 refine WO.vs 0 [(6, Sl a_p0 p0 c_p0), (7, Nv p0.length), (8, Iv 0)] (yb (W.block ?_))
 obtain ⟨t1, hloop5, hr⟩ := bsm hr
 have hlt9 := (h_p0).len_lt
 refine W.wk (W.forN (m := p0.length) hloop5 (fun (i4 : Nat) => fun (_s : Unit) fr w => ∃ I2, fr = [(0, Sl a_p0 p0 c_p0), (1, .func (.func g_p1) #[] k_p1.toArray), (7, Nv p0.length), (8, Nv i4)] ∧ I.Le I2 ∧ St E w I2 Os) ⟨I, rfl, lr, hS⟩ ?_ ?_)
 rintro i4 _ _ w6 hi10 ⟨I2, rfl, hl3, hS7⟩ x8 hr1 hext1
 refine yd [0] ?_
 refine ya 0 9 (.bool (decide ((i4 : Int) < (p0.length : Int)))) (yb (ye (yag (fun hc => ?_))))
 clear hc
 refine yg (En.next (ye (W.block (yd nL2 ?_))))
 refine WO.vs 0 [(10, Nv i4), (5, Nv i4)] (yz nL6 ?_)
 refine WO.vs 0 [(11, .func (.func g_p1) #[] k_p1.toArray), (12, Sl a_p0 p0 c_p0), (13, Nv i4)] ?_
 obtain ⟨x11, hr1, h0_x11, h1_x11, hx_x11, ha_x11, _, _, ⟨w_x11, rfl, h_x11⟩, hc_x11⟩ := sl_at ((RSl.mono h_p0 hl3)) hr1
 refine yq 89 6 ha_x11 h0_x11 h1_x11 ?_
 refine yai ((cs_qTable x11 w_x11)) hc_x11 0 hS7.rm ?_
 obtain ⟨r17, hx_r12, hr1⟩ := bsm hr1
 refine WO.callv rfl (by kernel_rfl) rfl (g := g_p1) (kk := k_p1) (args := [(.agg (cs_qTable x11 w_x11).toArray)]) rfl (by kernel_rfl) hcall_p1 (h_p1 (F := []) hl3 hS7 h_x11 hx_r12) ?_
 rintro _ w13 ⟨I14, rfl, hl15, hS16⟩
 refine ⟨_, rfl, trivial, ?_⟩
 refine yb (W.cb hr1 (fun hc hr1 => ?_) (fun hc hr1 => ?_))
 refine yd nL2 ?_
 refine WO.vs 0 [(17, Nv i4), (4, Nv i4)] (yb (W.ret (yh (yc (ym ?_)))))
 obtain rfl := hext1 _ (sj hr1).symm
 refine yh (yc ?_)
 obtain rfl := sj hr
 exact yr ⟨I14, rfl, (hl3.trans hl15), hS16⟩
 refine yg (yi (En.next (yaa nL2 ?_)))
 refine y0 (j := i4) rfl (by kernel_rfl) rfl (by first | omega | (dsimp only at *; omega) | (simp only [List.length_cons, List.length_nil] at *; omega)) ?_
 exact ya 1 8 (Iv ((i4 + 1 : Nat) : Int)) (WO.nil (yo ⟨(), (sj hr1).symm, I14, rfl, (hl3.trans hl15), hS16⟩))
 rintro _ _ w20 ⟨I2, rfl, hl3, hS21⟩ he
 cases he
 refine yd [0] ?_
 refine ya 0 9 (.bool (decide ((p0.length : Int) < (p0.length : Int)))) (yb (ye (yah (fun hc => ?_))))
 clear hc
 refine yy (yk (yl (yn (En.next (yd [0] ?_)))))
 refine ya 0 4 (Iv (-1)) (yb (W.ret ?_))
 obtain rfl := sj hr
 exact yr ⟨I2, rfl, hl3, hS21⟩
def slices_Clone_qColumn (p0 : List qColumn) : Option (List qColumn) := (app 32 ([] : List qColumn) p0).bind (fun x10 => some x10)
theorem slices_Clone_qColumn_ok {p0 : List qColumn} {a_p0 : Option Addr} {c_p0 : Nat} (h_p0 : RSl 3 R_qColumn I a_p0 c_p0 p0) (hS : St E w I Os) {r : (List qColumn)} (hr : slices_Clone_qColumn p0 = some r) :
    Calls P 118 #[(Sl a_p0 p0 c_p0)] w (fun e w' => ∃ (I' : Mem) (ra0 : Option Addr) (rc0 : Nat) (rC0 : Mem), e = .returned (Sl ra0 r rc0) ∧ I.Le I' ∧ St E w' I' (rC0 :: Os) ∧ OwnSl 73 3 R_qColumn I' rC0 ra0 rc0 r) := by
 refine calls_W (fn := Tryz.f118) rfl rfl rfl ?_
 unfold slices_Clone_qColumn at hr
 refine yd [0] ?_
 refine ya 0 2 (.slice none 0 0) (yb (ye (yd nL2 ?_)))
 refine ya 0 3 (Sl a_p0 p0 c_p0) (yav (e := 73) rfl (by kernel_rfl) (by kernel_rfl) rfl rfl ?_)
 refine yb (W.cd (fun hc => ?_) (fun hc => ?_))
 have ha0 := Option.isNone_iff_eq_none.1 hc
 subst ha0
 have hx0 := (h_p0).none_nil
 subst hx0
 replace hr : some ([] : List qColumn) = some r := by simpa [app] using hr
 refine yd [0] ?_
 refine ya 0 2 (.slice none 0 0) (yb (W.ret (yc ?_)))
 obtain rfl := sj hr
 exact yr ⟨I, none, 0, Mem.no, rfl, lr, hS.no, OwnSl.nil⟩
 clear hc
 refine yg (En.next (yd nL4 ?_))
 refine y3 (rel := R_qColumn) (xs := ([] : List qColumn)) hS rfl (by kernel_rfl) rfl 73 3 [] (by kernel_rfl) rfl (Elr.nil) (fun _ _ _ => trivial) ?_
 intro a6 C4 w8 hS7 ho5
 refine ya 1 6 (Sl a_p0 p0 c_p0) ?_
 obtain ⟨x10, hx_x10, hr⟩ := bsm hr
 obtain ⟨h0_x10, he_x10⟩ := app_some hx_x10
 refine WO.ap 73 32 (cs_qColumn z_qColumn) hS7 ho5 h_p0 hS7.im h0_x10 he_x10 ?_
 intro a11 c12 w13 C14 hS15 ho16
 refine ya 3 2 (Sl a11 x10 c12) (yb (W.ret ?_))
 obtain rfl := sj hr
 exact yr ⟨I, a11, c12, C14, rfl, lr, hS15, ho16⟩
def slices_Clone_qCons (p0 : List qCons) : Option (List qCons) := (app 176 ([] : List qCons) p0).bind (fun x10 => some x10)
theorem slices_Clone_qCons_ok {p0 : List qCons} {a_p0 : Option Addr} {c_p0 : Nat} (h_p0 : RSl 12 R_qCons I a_p0 c_p0 p0) (hS : St E w I Os) {r : (List qCons)} (hr : slices_Clone_qCons p0 = some r) :
    Calls P 119 #[(Sl a_p0 p0 c_p0)] w (fun e w' => ∃ (I' : Mem) (ra0 : Option Addr) (rc0 : Nat) (rC0 : Mem), e = .returned (Sl ra0 r rc0) ∧ I.Le I' ∧ St E w' I' (rC0 :: Os) ∧ OwnSl 100 12 R_qCons I' rC0 ra0 rc0 r) := by
 refine calls_W (fn := Tryz.f119) rfl rfl rfl ?_
 unfold slices_Clone_qCons at hr
 refine yd [0] ?_
 refine ya 0 2 (.slice none 0 0) (yb (ye (yd nL2 ?_)))
 refine ya 0 3 (Sl a_p0 p0 c_p0) (yav (e := 100) rfl (by kernel_rfl) (by kernel_rfl) rfl rfl ?_)
 refine yb (W.cd (fun hc => ?_) (fun hc => ?_))
 have ha0 := Option.isNone_iff_eq_none.1 hc
 subst ha0
 have hx0 := (h_p0).none_nil
 subst hx0
 replace hr : some ([] : List qCons) = some r := by simpa [app] using hr
 refine yd [0] ?_
 refine ya 0 2 (.slice none 0 0) (yb (W.ret (yc ?_)))
 obtain rfl := sj hr
 exact yr ⟨I, none, 0, Mem.no, rfl, lr, hS.no, OwnSl.nil⟩
 clear hc
 refine yg (En.next (yd nL4 ?_))
 refine y3 (rel := R_qCons) (xs := ([] : List qCons)) hS rfl (by kernel_rfl) rfl 100 12 [] (by kernel_rfl) rfl (Elr.nil) (fun _ _ _ => trivial) ?_
 intro a6 C4 w8 hS7 ho5
 refine ya 1 6 (Sl a_p0 p0 c_p0) ?_
 obtain ⟨x10, hx_x10, hr⟩ := bsm hr
 obtain ⟨h0_x10, he_x10⟩ := app_some hx_x10
 refine WO.ap 100 176 (cs_qCons z_qCons zw_qCons) hS7 ho5 h_p0 hS7.im h0_x10 he_x10 ?_
 intro a11 c12 w13 C14 hS15 ho16
 refine ya 3 2 (Sl a11 x10 c12) (yb (W.ret ?_))
 obtain rfl := sj hr
 exact yr ⟨I, a11, c12, C14, rfl, lr, hS15, ho16⟩
def expr_Clone_fu : Nat → qExpr → Option qExpr
  | 0, _ => none
  | fu + 1, p0 => (forE (fun (i13 : Nat) => fun (s12 : List qExpr) => (idx p0.Kids (i13 : Int)).bind (fun x24 => (expr_Clone_fu fu x24).bind (fun r36 => (app 88 s12 ([r36] : List qExpr)).bind (fun x45 => some x45)))) p0.Kids.length 0 ([] : List qExpr)).bind (fun s12 => some { p0 with Kids := s12 })
noncomputable def expr_Clone (p0 : qExpr) : Option qExpr := anyFuel (fun fu => expr_Clone_fu fu p0)
theorem expr_Clone_fu_ok : ∀ (fu : Nat) {E w : World} {I : Mem} {Os : List Mem} {p0 : qExpr} {w_p0 : W_qExpr} (h_p0 : ok_qExpr I p0 w_p0) (hS : St E w I Os) {r : qExpr} (hr : expr_Clone_fu fu p0 = some r),
    Calls P 120 #[(.agg (cs_qExpr p0 w_p0).toArray)] w (fun e w' => ∃ I' w_rw0, e = .returned (.agg (cs_qExpr r w_rw0).toArray) ∧ I.Le I' ∧ St E w' I' Os ∧ ok_qExpr I' r w_rw0) := by
 intro fu
 induction fu with
 | zero => intro E w I Os p0 w_p0 h_p0 hS r hr; cases hr
 | succ fu ih =>
 intro E w I Os p0 w_p0 h_p0 hS r hr
 refine calls_W (fn := Tryz.f120) rfl rfl rfl ?_
 unfold expr_Clone_fu at hr
 refine yd nL2 ?_
 refine yx hS (cs_qExpr p0 w_p0) 39 ?_
 intro b1 w4 hS3
 refine yx hS3 (cs_qExpr z_qExpr zw_qExpr) 39 ?_
 intro b5 w8 hS7
 refine yz [0] ?_
 refine ya 0 3 (.slice none 0 0) (yb (ye (yd nL4 ?_)))
 refine ya 0 6 (Pt b1 6) (yf (v := (Sl w_p0.Kids.a p0.Kids w_p0.Kids.c)) (hS7.rf m1) ?_)
 refine WO.vs 2 [(8, Nv p0.Kids.length), (9, Iv 0)] (yb (W.block ?_))
 obtain ⟨s12, hloop14, hr⟩ := bsm hr
 have hlt22 := (h_p0.Kids).len_lt
 refine W.wk (W.forE (m := p0.Kids.length) hloop14 (fun (i13 : Nat) => fun (s12 : List qExpr) fr w => ∃ I10 a_s12 c_s12 C_s12, fr = [(1, Pt b1 0), (2, Pt b5 0), (3, Sl a_s12 s12 c_s12), (7, Sl w_p0.Kids.a p0.Kids w_p0.Kids.c), (8, Nv p0.Kids.length), (9, Nv i13)] ∧ I.Le I10 ∧ St E w I10 ((Bx b1 (cs_qExpr p0 w_p0) 39) :: (Bx b5 (cs_qExpr z_qExpr zw_qExpr) 39) :: (C_s12) :: Os) ∧ OwnSl 39 7 Q_qExpr I10 C_s12 a_s12 c_s12 s12) ⟨I, none, 0, Mem.no, rfl, lr, hS7.no.front1.front2, OwnSl.nil⟩ ?_ ?_)
 rintro i13 s12 _ w19 hi23 ⟨I10, a_s12, c_s12, C_s12, rfl, hl11, hS20, h_s12⟩ x21 hr1
 refine yd [0] ?_
 refine ya 0 10 (.bool (decide ((i13 : Int) < (p0.Kids.length : Int)))) (yb (ye (yag (fun hc => ?_))))
 clear hc
 refine yg (En.next (ye (W.block (yd nL4 ?_))))
 obtain ⟨x24, hx_x24, hr1⟩ := bsm hr1
 obtain ⟨h0_x24, h1_x24, hx_x24⟩ := idx_some hx_x24
 obtain ⟨ha_x24, cs_x24, hn_x24, hr_x24, hc_x24⟩ := ((RSl.mono h_p0.Kids hl11)).el _ _ hx_x24
 obtain ⟨w_x24, rfl, h_x24⟩ := Q_qExpr_iff.1 hr_x24
 refine yq 39 7 ha_x24 h0_x24 h1_x24 ?_
 refine yai ((cs_qExpr x24 w_x24)) hc_x24 0 hS20.rm ?_
 refine yx hS20 (cs_qExpr z_qExpr zw_qExpr) 39 ?_
 intro b25 w28 hS27
 refine yw hS27 0 (cs_qExpr x24 w_x24) ?_
 intro w30 hS29
 refine yb (yaa nL6 ?_)
 refine ya 0 13 (Sl a_s12 s12 c_s12) (yu ((cs_qExpr x24 w_x24)) (hS29.rf m0) ?_)
 obtain ⟨r36, hx_r31, hr1⟩ := bsm hr1
 refine y8 (ih h_x24 hS29 hx_r31) ?_
 rintro _ w32 ⟨I33, w_r36, rfl, hl34, hS35, h_r36⟩
 refine ⟨_, rfl, trivial, ?_⟩
 refine y3 (rel := Q_qExpr) (xs := ([r36] : List qExpr)) hS35 rfl (by kernel_rfl) rfl 39 7 [(cs_qExpr r36 w_r36)] (by kernel_rfl) rfl ((Elr.cons (Q_qExpr_iff.2 ⟨w_r36, rfl, h_r36⟩) Elr.nil)) (fun _ _ _ => trivial) ?_
 intro a40 C38 w42 hS41 ho39
 have hS44 := hS41.front4
 obtain ⟨x45, hx_x45, hr1⟩ := bsm hr1
 obtain ⟨h0_x45, he_x45⟩ := app_some hx_x45
 refine WO.ap 39 88 (cs_qExpr z_qExpr zw_qExpr) hS44 (OwnSl.mono h_s12 hl34) ho39.sl (hS44.rd m1) h0_x45 he_x45 ?_
 intro a46 c47 w48 C49 hS50 ho51
 refine ya 5 3 (Sl a46 x45 c47) (WO.nil (yi (En.next (yaa nL2 ?_))))
 refine y0 (j := i13) rfl (by kernel_rfl) rfl (by first | omega | (dsimp only at *; omega) | (simp only [List.length_cons, List.length_nil] at *; omega)) ?_
 refine ya 1 9 (Iv ((i13 + 1 : Nat) : Int)) (WO.nil ?_)
 obtain rfl := sj hr1
 exact yo ⟨I33, a46, c47, C49, rfl, (hl11.trans hl34), hS50.front1.drop.front1.drop.front2.front2, ho51⟩
 rintro _ w58 ⟨I10, a_s12, c_s12, C_s12, rfl, hl11, hS59, h_s12⟩
 refine yd [0] ?_
 refine ya 0 10 (.bool (decide ((p0.Kids.length : Int) < (p0.Kids.length : Int)))) (yb (ye (yah (fun hc => ?_))))
 clear hc
 refine yy (yk (yl (yn (En.next (yd nL3 ?_)))))
 refine WO.vs 0 [(19, Sl a_s12 s12 c_s12), (20, Pt b1 6)] ?_
 obtain ⟨I61, hl62, hS64, hp63⟩ := y4 h_s12 hS59.front2
 refine yw hS64 6 (cs_qExpr ({ p0 with Kids := s12 }) (⟨⟨a_s12, c_s12⟩⟩ : W_qExpr)) ?_
 intro w66 hS65
 refine yz nL2 ?_
 refine yu ((cs_qExpr ({ p0 with Kids := s12 }) (⟨⟨a_s12, c_s12⟩⟩ : W_qExpr))) (hS65.rf m0) ?_
 refine yw hS65.front1 0 (cs_qExpr ({ p0 with Kids := s12 }) (⟨⟨a_s12, c_s12⟩⟩ : W_qExpr)) ?_
 intro w69 hS68
 refine yb (W.ret ?_)
 have hk72 : ok_qExpr I61 ({ p0 with Kids := s12 }) (⟨⟨a_s12, c_s12⟩⟩ : W_qExpr) := ⟨hp63⟩
 obtain rfl := sj hr
 exact yay _ (hS68.rd m0) ⟨I61, (⟨⟨a_s12, c_s12⟩⟩ : W_qExpr), rfl, (hl11.trans hl62), hS68.drop.drop, hk72⟩
theorem expr_Clone_ok {p0 : qExpr} {w_p0 : W_qExpr} (h_p0 : ok_qExpr I p0 w_p0) (hS : St E w I Os) {r : qExpr} (hr : expr_Clone p0 = some r) :
    Calls P 120 #[(.agg (cs_qExpr p0 w_p0).toArray)] w (fun e w' => ∃ I' w_rw0, e = .returned (.agg (cs_qExpr r w_rw0).toArray) ∧ I.Le I' ∧ St E w' I' Os ∧ ok_qExpr I' r w_rw0) := by
 obtain ⟨fu, hf⟩ := anyFuel_some hr
 exact expr_Clone_fu_ok fu h_p0 hS hf
def slices_Clone_qIndex (p0 : List qIndex) : Option (List qIndex) := (app 40 ([] : List qIndex) p0).bind (fun x10 => some x10)
theorem slices_Clone_qIndex_ok {p0 : List qIndex} {a_p0 : Option Addr} {c_p0 : Nat} (h_p0 : RSl 2 R_qIndex I a_p0 c_p0 p0) (hS : St E w I Os) {r : (List qIndex)} (hr : slices_Clone_qIndex p0 = some r) :
    Calls P 121 #[(Sl a_p0 p0 c_p0)] w (fun e w' => ∃ (I' : Mem) (ra0 : Option Addr) (rc0 : Nat) (rC0 : Mem), e = .returned (Sl ra0 r rc0) ∧ I.Le I' ∧ St E w' I' (rC0 :: Os) ∧ OwnSl 124 2 R_qIndex I' rC0 ra0 rc0 r) := by
 refine calls_W (fn := Tryz.f121) rfl rfl rfl ?_
 unfold slices_Clone_qIndex at hr
 refine yd [0] ?_
 refine ya 0 2 (.slice none 0 0) (yb (ye (yd nL2 ?_)))
 refine ya 0 3 (Sl a_p0 p0 c_p0) (yav (e := 124) rfl (by kernel_rfl) (by kernel_rfl) rfl rfl ?_)
 refine yb (W.cd (fun hc => ?_) (fun hc => ?_))
 have ha0 := Option.isNone_iff_eq_none.1 hc
 subst ha0
 have hx0 := (h_p0).none_nil
 subst hx0
 replace hr : some ([] : List qIndex) = some r := by simpa [app] using hr
 refine yd [0] ?_
 refine ya 0 2 (.slice none 0 0) (yb (W.ret (yc ?_)))
 obtain rfl := sj hr
 exact yr ⟨I, none, 0, Mem.no, rfl, lr, hS.no, OwnSl.nil⟩
 clear hc
 refine yg (En.next (yd nL4 ?_))
 refine y3 (rel := R_qIndex) (xs := ([] : List qIndex)) hS rfl (by kernel_rfl) rfl 124 2 [] (by kernel_rfl) rfl (Elr.nil) (fun _ _ _ => trivial) ?_
 intro a6 C4 w8 hS7 ho5
 refine ya 1 6 (Sl a_p0 p0 c_p0) ?_
 obtain ⟨x10, hx_x10, hr⟩ := bsm hr
 obtain ⟨h0_x10, he_x10⟩ := app_some hx_x10
 refine WO.ap 124 40 (cs_qIndex z_qIndex zw_qIndex) hS7 ho5 h_p0 hS7.im h0_x10 he_x10 ?_
 intro a11 c12 w13 C14 hS15 ho16
 refine ya 3 2 (Sl a11 x10 c12) (yb (W.ret ?_))
 obtain rfl := sj hr
 exact yr ⟨I, a11, c12, C14, rfl, lr, hS15, ho16⟩
noncomputable def table_Clone (p0 : qTable) : Option qTable := (slices_Clone_qColumn p0.Cols).bind (fun r14 => (slices_Clone_qCons p0.Cons).bind (fun r27 => (forE (fun (i35 : Nat) => fun (s34 : List qCons) => (idx s34 (i35 : Int)).bind (fun x45 => (slices_Clone_string x45.Cols).bind (fun r59 => (slices_Clone_string x45.Refs).bind (fun r65 => (expr_Clone x45.Check).bind (fun r71 => (idx s34 (i35 : Int)).bind (fun x72 => (idx (s34.set ((i35 : Int)).toNat ({ x72 with Cols := r59 })) (i35 : Int)).bind (fun x85 => (idx ((s34.set ((i35 : Int)).toNat ({ x72 with Cols := r59 })).set ((i35 : Int)).toNat ({ x85 with Refs := r65 })) (i35 : Int)).bind (fun x97 => some (((s34.set ((i35 : Int)).toNat ({ x72 with Cols := r59 })).set ((i35 : Int)).toNat ({ x85 with Refs := r65 })).set ((i35 : Int)).toNat ({ x97 with Check := r71 })))))))))) r27.length 0 r27).bind (fun s34 => (slices_Clone_qIndex p0.Idx).bind (fun r115 => (forE (fun (i123 : Nat) => fun (s122 : List qIndex) => (idx s122 (i123 : Int)).bind (fun x134 => (slices_Clone_string x134.Cols).bind (fun r148 => (idx s122 (i123 : Int)).bind (fun x149 => some (s122.set ((i123 : Int)).toNat ({ x149 with Cols := r148 })))))) r115.length 0 r115).bind (fun s122 => some { p0 with Cols := r14, Cons := s34, Idx := s122 })))))
theorem table_Clone_ok {p0 : qTable} {w_p0 : W_qTable} (h_p0 : ok_qTable I p0 w_p0) (hS : St E w I Os) {r : qTable} (hr : table_Clone p0 = some r) :
    Calls P 77 #[(.agg (cs_qTable p0 w_p0).toArray)] w (fun e w' => ∃ I' w_rw0, e = .returned (.agg (cs_qTable r w_rw0).toArray) ∧ I.Le I' ∧ St E w' I' Os ∧ ok_qTable I' r w_rw0) := by
 refine calls_W (fn := Tryz.f77) rfl rfl rfl ?_
 unfold table_Clone at hr
 refine yd nL2 ?_
 refine yx hS (cs_qTable p0 w_p0) 89 ?_
 intro b1 w4 hS3
 refine yx hS3 (cs_qTable z_qTable zw_qTable) 89 ?_
 intro b5 w8 hS7
 refine yz nL5 ?_
 refine ya 0 7 (Pt b1 3) (yf (v := (Sl w_p0.Cols.a p0.Cols w_p0.Cols.c)) (hS7.rf m1) ?_)
 obtain ⟨r14, hx_r9, hr⟩ := bsm hr
 refine y8 (slices_Clone_qColumn_ok h_p0.Cols hS7 hx_r9) ?_
 rintro _ w10 ⟨I11, a_r14, c_r14, C_r14, rfl, hl12, hS13, h_r14⟩
 refine ⟨_, rfl, trivial, ?_⟩
 refine ya 3 10 (Pt b1 3) ?_
 obtain ⟨I15, hl16, hS18, hp17⟩ := y4 h_r14 hS13
 refine yw hS18.front1 3 (cs_qTable ({ p0 with Cols := r14 }) ({ w_p0 with Cols := ⟨a_r14, c_r14⟩ })) ?_
 intro w21 hS20
 refine yz nL5 ?_
 refine ya 0 11 (Pt b1 4) (yf (v := (Sl w_p0.Cons.a p0.Cons w_p0.Cons.c)) (hS20.rf m0) ?_)
 obtain ⟨r27, hx_r22, hr⟩ := bsm hr
 refine y8 (slices_Clone_qCons_ok (RSl.mono h_p0.Cons (hl12.trans hl16)) hS20 hx_r22) ?_
 rintro _ w23 ⟨I24, a_r27, c_r27, C_r27, rfl, hl25, hS26, h_r27⟩
 refine ⟨_, rfl, trivial, ?_⟩
 refine ya 3 14 (Pt b1 4) (yw hS26.front1 4 (cs_qTable ({ p0 with Cols := r14, Cons := r27 }) ({ w_p0 with Cols := ⟨a_r14, c_r14⟩, Cons := ⟨a_r27, c_r27⟩ })) ?_)
 intro w30 hS29
 refine yb (ye (yd nL4 ?_))
 refine ya 0 15 (Pt b1 4) (yf (v := (Sl a_r27 r27 c_r27)) (hS29.rf m0) ?_)
 refine WO.vs 2 [(17, Nv r27.length), (18, Iv 0)] (yb (W.block ?_))
 obtain ⟨s34, hloop36, hr⟩ := bsm hr
 have hlt43 := (h_r27.sl).len_lt
 refine W.wk (W.forE (m := r27.length) hloop36 (fun (i35 : Nat) => fun (s34 : List qCons) fr w => ∃ I32 C_s34, fr = [(1, Pt b1 0), (2, Pt b5 0), (16, Sl a_r27 s34 c_r27), (17, Nv r27.length), (18, Nv i35)] ∧ I24.Le I32 ∧ St E w I32 ((Bx b1 (cs_qTable ({ p0 with Cols := r14, Cons := s34 }) ({ w_p0 with Cols := ⟨a_r14, c_r14⟩, Cons := ⟨a_r27, c_r27⟩ })) 89) :: (Bx b5 (cs_qTable z_qTable zw_qTable) 89) :: (C_s34) :: Os) ∧ OwnSl 100 12 R_qCons I32 C_s34 a_r27 c_r27 s34) ⟨I24, C_r27, rfl, lr, hS29.front1.front2.front2, h_r27⟩ ?_ ?_)
 rintro i35 s34 _ w40 hi44 ⟨I32, C_s34, rfl, hl33, hS41, h_s34⟩ x42 hr1
 refine yd [0] ?_
 refine ya 0 19 (.bool (decide ((i35 : Int) < (r27.length : Int)))) (yb (ye (yag (fun hc => ?_))))
 clear hc
 refine yg (En.next (ye (W.block (yd nL6 ?_))))
 refine ya 0 20 (Nv i35) ?_
 obtain ⟨x45, hr1, h0_x45, h1_x45, hx_x45, ha_x45, _, _, ⟨w_x45, rfl, h_x45⟩, hc_x45⟩ := sl_at (h_s34.sl) hr1
 refine yq 100 12 ha_x45 h0_x45 h1_x45 ?_
 refine yai ((cs_qCons x45 w_x45)) hc_x45 0 (hS41.rf m2) ?_
 refine yx hS41 (cs_qCons z_qCons zw_qCons) 100 ?_
 intro b46 w49 hS48
 refine ya 4 3 (Nv i35) (yw hS48 0 (cs_qCons x45 w_x45) ?_)
 intro w51 hS50
 refine yb ?_
 have hS52 := hS50.drew
 refine yaz (l := nL27) (by kernel_rfl) 24 (KR I32 [Bx b46 (cs_qCons x45 w_x45) 100, Bx b1 (cs_qTable ({ p0 with Cols := r14, Cons := s34 }) ({ w_p0 with Cols := ⟨a_r14, c_r14⟩, Cons := ⟨a_r27, c_r27⟩ })) 89]) qR (.ords nL27 [0, 1, 2, 9, 10, 11, 12, 13, 14, 15, 16, 17, 18, 19, 20, 3, 4, 5, 21, 22, 23, 6, 7, 8, 24, 25, 26] (by kernel_rfl) (by kernel_rfl) (by kernel_rfl) (by kernel_rfl) (by kernel_rfl)) (by kernel_rfl) (KR.cons (hS52.rd m0) (KR.cons (hS52.rd m1) (KR.nil hS52.im))) ?_
 generalize World.drew _ = w53 at *
 refine ya 0 23 (Pt b1 4) (yf (v := (Sl a_r27 s34 c_r27)) (rd_c m1 (hS52.rd m1)) ?_)
 refine WO.vs 2 [(25, Nv i35), (26, Pt b1 4)] (yf (v := (Sl a_r27 s34 c_r27)) (rd_c m1 (hS52.rd m1)) ?_)
 refine WO.vs 5 [(28, Nv i35), (29, Pt b1 4)] (yf (v := (Sl a_r27 s34 c_r27)) (rd_c m1 (hS52.rd m1)) ?_)
 refine WO.vs 8 [(31, Nv i35), (32, Pt b46 2)] (yf (v := (Sl w_x45.Cols.a x45.Cols w_x45.Cols.c)) (rd_c m0 (hS52.rd m0)) ?_)
 obtain ⟨r59, hx_r54, hr1⟩ := bsm hr1
 refine y8 (slices_Clone_string_ok h_x45.Cols hS52 hx_r54) ?_
 rintro _ w55 ⟨I56, a_r59, c_r59, C_r59, rfl, hl57, hS58, h_r59⟩
 refine ⟨_, rfl, (KR.cons (hS58.rd m1) (KR.cons (hS58.rd m2) (KR.nil (hS58.im.of_le hl57)))), ?_⟩
 refine ya 12 35 (Pt b46 11) (yf (v := (Sl w_x45.Refs.a x45.Refs w_x45.Refs.c)) (rd_c m0 (hS58.rd m1)) ?_)
 obtain ⟨r65, hx_r60, hr1⟩ := bsm hr1
 refine y8 (slices_Clone_string_ok (RSl.mono h_x45.Refs hl57) hS58 hx_r60) ?_
 rintro _ w61 ⟨I62, a_r65, c_r65, C_r65, rfl, hl63, hS64, h_r65⟩
 refine ⟨_, rfl, (KR.cons (hS64.rd m2) (KR.cons (hS64.rd m3) (KR.nil (hS64.im.of_le (hl57.trans hl63))))), ?_⟩
 refine ya 15 38 (Pt b46 3) (yu ((cs_qExpr x45.Check w_x45.Check)) (rd_c m0 (hS64.rd m2)) ?_)
 obtain ⟨r71, hx_r66, hr1⟩ := bsm hr1
 refine y8 (expr_Clone_ok (h_x45.Check.mono (hl57.trans hl63)) hS64 hx_r66) ?_
 rintro _ w67 ⟨I68, w_r71, rfl, hl69, hS70, h_r71⟩
 refine ⟨_, rfl, (KR.cons (hS70.rd m2) (KR.cons (hS70.rd m3) (KR.nil (hS70.im.of_le ((hl57.trans hl63).trans hl69))))), ?_⟩
 obtain ⟨x72, hr1, h0_x72, h1_x72, hx_x72, ha_x72, _, _, ⟨w_x72, rfl, h_x72⟩, hc_x72⟩ := sl_at (h_s34.sl) hr1
 refine yq 100 12 ha_x72 h0_x72 h1_x72 ?_
 refine ya 19 42 (.pointer (some ⟨bl a_r27, of a_r27 + ((i35 : Int)).toNat * 12 + 2, none⟩)) ?_
 obtain ⟨I74, hl75, hS77, hp76⟩ := y4 (h_r59.mono (hl63.trans hl69)) hS70.front1
 have hk83 : ok_qCons I74 ({ x72 with Cols := r59 }) ({ w_x72 with Cols := ⟨a_r59, c_r59⟩ }) := ⟨hp76, (h_x72.Check.mono (((hl57.trans hl63).trans hl69).trans hl75)), (RSl.mono h_x72.Refs (((hl57.trans hl63).trans hl69).trans hl75))⟩
 refine yan hS77.front4 (OwnSl.mono h_s34 (((hl57.trans hl63).trans hl69).trans hl75)) rfl (by kernel_rfl) rfl hx_x72 (u' := { x72 with Cols := r59 }) 2 rfl rfl (by kernel_rfl) rfl rfl (fun cs hrel => (by obtain ⟨w_zz, rfl, h_zz⟩ := hrel; exact ⟨{ w_zz with Cols := ⟨a_r59, c_r59⟩ }, rfl, { h_zz with Cols := hp76 }⟩)) (fun w80 C81 hS79 => (KR.cons (hS79.rd m2) (KR.cons (hS79.rd m3) (KR.nil (hS79.im.of_le (((hl57.trans hl63).trans hl69).trans hl75)))))) ?_
 intro w80 C81 hS79 ho82
 refine y7 16 rfl (show Value.slice a_r27 s34.length c_r27 = Value.slice a_r27 (s34.set ((i35 : Int)).toNat ({ x72 with Cols := r59 })).length c_r27 by simp only [List.length_set]) ?_
 refine y7 24 rfl (show Value.slice a_r27 s34.length c_r27 = Value.slice a_r27 (s34.set ((i35 : Int)).toNat ({ x72 with Cols := r59 })).length c_r27 by simp only [List.length_set]) ?_
 refine y7 27 rfl (show Value.slice a_r27 s34.length c_r27 = Value.slice a_r27 (s34.set ((i35 : Int)).toNat ({ x72 with Cols := r59 })).length c_r27 by simp only [List.length_set]) ?_
 refine y7 30 rfl (show Value.slice a_r27 s34.length c_r27 = Value.slice a_r27 (s34.set ((i35 : Int)).toNat ({ x72 with Cols := r59 })).length c_r27 by simp only [List.length_set]) ?_
 have hS84 : St E w80 I74 ((C81) :: (C_r65) :: (Bx b46 (cs_qCons x45 w_x45) 100) :: (Bx b1 (cs_qTable ({ p0 with Cols := r14, Cons := (s34.set ((i35 : Int)).toNat ({ x72 with Cols := r59 })) }) ({ w_p0 with Cols := ⟨a_r14, c_r14⟩, Cons := ⟨a_r27, c_r27⟩ })) 89) :: (Bx b5 (cs_qTable z_qTable zw_qTable) 89) :: Os) := by have hq := hS79; simp only [cs_qTable, List.length_set] at hq ⊢; exact hq
 obtain ⟨x85, hr1, h0_x85, h1_x85, hx_x85, ha_x85, _, _, ⟨w_x85, rfl, h_x85⟩, hc_x85⟩ := sl_at (ho82.sl) hr1
 refine yq 100 12 ha_x85 h0_x85 h1_x85 ?_
 refine ya 22 44 (.pointer (some ⟨bl a_r27, of a_r27 + ((i35 : Int)).toNat * 12 + 11, none⟩)) ?_
 obtain ⟨I87, hl88, hS90, hp89⟩ := y4 (h_r65.mono (hl69.trans hl75)) hS84.front1
 have hk95 : ok_qCons I87 ({ x85 with Refs := r65 }) ({ w_x85 with Refs := ⟨a_r65, c_r65⟩ }) := ⟨(RSl.mono h_x85.Cols hl88), (h_x85.Check.mono hl88), hp89⟩
 refine yan hS90 (OwnSl.mono ho82 hl88) rfl (by kernel_rfl) rfl hx_x85 (u' := { x85 with Refs := r65 }) 11 rfl rfl (by kernel_rfl) rfl rfl (fun cs hrel => (by obtain ⟨w_zz, rfl, h_zz⟩ := hrel; exact ⟨{ w_zz with Refs := ⟨a_r65, c_r65⟩ }, rfl, { h_zz with Refs := hp89 }⟩)) (fun w92 C93 hS91 => (KR.cons (hS91.rd m1) (KR.cons (Rdb.eq (by simp only [cs_qTable, List.length_set]) (hS91.rd m2)) (KR.nil (hS91.im.of_le ((((hl57.trans hl63).trans hl69).trans hl75).trans hl88)))))) ?_
 intro w92 C93 hS91 ho94
 refine y7 16 rfl (show Value.slice a_r27 (s34.set ((i35 : Int)).toNat ({ x72 with Cols := r59 })).length c_r27 = Value.slice a_r27 ((s34.set ((i35 : Int)).toNat ({ x72 with Cols := r59 })).set ((i35 : Int)).toNat ({ x85 with Refs := r65 })).length c_r27 by simp only [List.length_set]) ?_
 refine y7 24 rfl (show Value.slice a_r27 (s34.set ((i35 : Int)).toNat ({ x72 with Cols := r59 })).length c_r27 = Value.slice a_r27 ((s34.set ((i35 : Int)).toNat ({ x72 with Cols := r59 })).set ((i35 : Int)).toNat ({ x85 with Refs := r65 })).length c_r27 by simp only [List.length_set]) ?_
 refine y7 27 rfl (show Value.slice a_r27 (s34.set ((i35 : Int)).toNat ({ x72 with Cols := r59 })).length c_r27 = Value.slice a_r27 ((s34.set ((i35 : Int)).toNat ({ x72 with Cols := r59 })).set ((i35 : Int)).toNat ({ x85 with Refs := r65 })).length c_r27 by simp only [List.length_set]) ?_
 refine y7 30 rfl (show Value.slice a_r27 (s34.set ((i35 : Int)).toNat ({ x72 with Cols := r59 })).length c_r27 = Value.slice a_r27 ((s34.set ((i35 : Int)).toNat ({ x72 with Cols := r59 })).set ((i35 : Int)).toNat ({ x85 with Refs := r65 })).length c_r27 by simp only [List.length_set]) ?_
 have hS96 : St E w92 I87 ((C93) :: (Bx b46 (cs_qCons x45 w_x45) 100) :: (Bx b1 (cs_qTable ({ p0 with Cols := r14, Cons := ((s34.set ((i35 : Int)).toNat ({ x72 with Cols := r59 })).set ((i35 : Int)).toNat ({ x85 with Refs := r65 })) }) ({ w_p0 with Cols := ⟨a_r14, c_r14⟩, Cons := ⟨a_r27, c_r27⟩ })) 89) :: (Bx b5 (cs_qTable z_qTable zw_qTable) 89) :: Os) := by have hq := hS91; simp only [cs_qTable, List.length_set] at hq ⊢; exact hq
 refine WO.tail rfl ?_
 obtain ⟨x97, hr1, h0_x97, h1_x97, hx_x97, ha_x97, _, _, ⟨w_x97, rfl, h_x97⟩, hc_x97⟩ := sl_at (ho94.sl) hr1
 refine yq 100 12 ha_x97 h0_x97 h1_x97 ?_
 refine ya 25 46 (.pointer (some ⟨bl a_r27, of a_r27 + ((i35 : Int)).toNat * 12 + 3, none⟩)) ?_
 have hk102 : ok_qCons I87 ({ x97 with Check := r71 }) ({ w_x97 with Check := w_r71 }) := ⟨h_x97.Cols, (h_r71.mono (hl75.trans hl88)), h_x97.Refs⟩
 refine yan hS96 ho94 rfl (by kernel_rfl) rfl hx_x97 (u' := { x97 with Check := r71 }) 3 rfl rfl (by kernel_rfl) rfl rfl (fun cs hrel => (by obtain ⟨w_zz, rfl, h_zz⟩ := hrel; exact ⟨{ w_zz with Check := w_r71 }, rfl, { h_zz with Check := (h_r71.mono (hl75.trans hl88)) }⟩)) (fun _ _ _ => trivial) ?_
 intro w99 C100 hS98 ho101
 refine y7 16 rfl (show Value.slice a_r27 ((s34.set ((i35 : Int)).toNat ({ x72 with Cols := r59 })).set ((i35 : Int)).toNat ({ x85 with Refs := r65 })).length c_r27 = Value.slice a_r27 (((s34.set ((i35 : Int)).toNat ({ x72 with Cols := r59 })).set ((i35 : Int)).toNat ({ x85 with Refs := r65 })).set ((i35 : Int)).toNat ({ x97 with Check := r71 })).length c_r27 by simp only [List.length_set]) ?_
 refine y7 24 rfl (show Value.slice a_r27 ((s34.set ((i35 : Int)).toNat ({ x72 with Cols := r59 })).set ((i35 : Int)).toNat ({ x85 with Refs := r65 })).length c_r27 = Value.slice a_r27 (((s34.set ((i35 : Int)).toNat ({ x72 with Cols := r59 })).set ((i35 : Int)).toNat ({ x85 with Refs := r65 })).set ((i35 : Int)).toNat ({ x97 with Check := r71 })).length c_r27 by simp only [List.length_set]) ?_
 refine y7 27 rfl (show Value.slice a_r27 ((s34.set ((i35 : Int)).toNat ({ x72 with Cols := r59 })).set ((i35 : Int)).toNat ({ x85 with Refs := r65 })).length c_r27 = Value.slice a_r27 (((s34.set ((i35 : Int)).toNat ({ x72 with Cols := r59 })).set ((i35 : Int)).toNat ({ x85 with Refs := r65 })).set ((i35 : Int)).toNat ({ x97 with Check := r71 })).length c_r27 by simp only [List.length_set]) ?_
 refine y7 30 rfl (show Value.slice a_r27 ((s34.set ((i35 : Int)).toNat ({ x72 with Cols := r59 })).set ((i35 : Int)).toNat ({ x85 with Refs := r65 })).length c_r27 = Value.slice a_r27 (((s34.set ((i35 : Int)).toNat ({ x72 with Cols := r59 })).set ((i35 : Int)).toNat ({ x85 with Refs := r65 })).set ((i35 : Int)).toNat ({ x97 with Check := r71 })).length c_r27 by simp only [List.length_set]) ?_
 have hS103 : St E w99 I87 ((C100) :: (Bx b46 (cs_qCons x45 w_x45) 100) :: (Bx b1 (cs_qTable ({ p0 with Cols := r14, Cons := (((s34.set ((i35 : Int)).toNat ({ x72 with Cols := r59 })).set ((i35 : Int)).toNat ({ x85 with Refs := r65 })).set ((i35 : Int)).toNat ({ x97 with Check := r71 })) }) ({ w_p0 with Cols := ⟨a_r14, c_r14⟩, Cons := ⟨a_r27, c_r27⟩ })) 89) :: (Bx b5 (cs_qTable z_qTable zw_qTable) 89) :: Os) := by have hq := hS98; simp only [cs_qTable, List.length_set] at hq ⊢; exact hq
 refine WO.nil (yi (En.next (yaa nL2 ?_)))
 refine y0 (j := i35) rfl (by kernel_rfl) rfl (by first | omega | (dsimp only at *; omega) | (simp only [List.length_cons, List.length_nil] at *; omega)) ?_
 refine ya 1 18 (Iv ((i35 + 1 : Nat) : Int)) (WO.nil ?_)
 obtain rfl := sj hr1
 exact yo ⟨I87, C100, rfl, (((((hl33.trans hl57).trans hl63).trans hl69).trans hl75).trans hl88), hS103.front1.drop.front2.front2, ho101⟩
 rintro _ w108 ⟨I32, C_s34, rfl, hl33, hS109, h_s34⟩
 refine yd [0] ?_
 refine ya 0 19 (.bool (decide ((r27.length : Int) < (r27.length : Int)))) (yb (ye (yah (fun hc => ?_))))
 clear hc
 refine yy (yk (yl (yn (En.next (yd nL5 ?_)))))
 refine ya 0 48 (Pt b1 5) (yf (v := (Sl w_p0.Idx.a p0.Idx w_p0.Idx.c)) (hS109.rf m0) ?_)
 obtain ⟨r115, hx_r110, hr⟩ := bsm hr
 refine y8 (slices_Clone_qIndex_ok (RSl.mono h_p0.Idx (((hl12.trans hl16).trans hl25).trans hl33)) hS109 hx_r110) ?_
 rintro _ w111 ⟨I112, a_r115, c_r115, C_r115, rfl, hl113, hS114, h_r115⟩
 refine ⟨_, rfl, trivial, ?_⟩
 refine ya 3 51 (Pt b1 5) (yw hS114.front1 5 (cs_qTable ({ p0 with Cols := r14, Cons := s34, Idx := r115 }) (⟨⟨a_r14, c_r14⟩, ⟨a_r27, c_r27⟩, ⟨a_r115, c_r115⟩⟩ : W_qTable)) ?_)
 intro w118 hS117
 refine yb (ye (yd nL4 ?_))
 refine ya 0 52 (Pt b1 5) (yf (v := (Sl a_r115 r115 c_r115)) (hS117.rf m0) ?_)
 refine WO.vs 2 [(54, Nv r115.length), (55, Iv 0)] (yb (W.block ?_))
 obtain ⟨s122, hloop124, hr⟩ := bsm hr
 have hlt132 := (h_r115.sl).len_lt
 refine W.wk (W.forE (m := r115.length) hloop124 (fun (i123 : Nat) => fun (s122 : List qIndex) fr w => ∃ I120 C_s122, fr = [(1, Pt b1 0), (2, Pt b5 0), (53, Sl a_r115 s122 c_r115), (54, Nv r115.length), (55, Nv i123)] ∧ I112.Le I120 ∧ St E w I120 ((Bx b1 (cs_qTable ({ p0 with Cols := r14, Cons := s34, Idx := s122 }) (⟨⟨a_r14, c_r14⟩, ⟨a_r27, c_r27⟩, ⟨a_r115, c_r115⟩⟩ : W_qTable)) 89) :: (Bx b5 (cs_qTable z_qTable zw_qTable) 89) :: (C_s122) :: (C_s34) :: Os) ∧ OwnSl 124 2 R_qIndex I120 C_s122 a_r115 c_r115 s122) ⟨I112, C_r115, rfl, lr, hS117.front3.front2.front3.front3, h_r115⟩ ?_ ?_)
 rintro i123 s122 _ w129 hi133 ⟨I120, C_s122, rfl, hl121, hS130, h_s122⟩ x131 hr1
 refine yd [0] ?_
 refine ya 0 56 (.bool (decide ((i123 : Int) < (r115.length : Int)))) (yb (ye (yag (fun hc => ?_))))
 clear hc
 refine yg (En.next (ye (W.block (yd nL6 ?_))))
 refine ya 0 57 (Nv i123) ?_
 obtain ⟨x134, hr1, h0_x134, h1_x134, hx_x134, ha_x134, _, _, ⟨w_x134, rfl, h_x134⟩, hc_x134⟩ := sl_at (h_s122.sl) hr1
 refine yq 124 2 ha_x134 h0_x134 h1_x134 ?_
 refine yai ((cs_qIndex x134 w_x134)) hc_x134 0 (hS130.rf m2) ?_
 refine yx hS130 (cs_qIndex z_qIndex zw_qIndex) 124 ?_
 intro b135 w138 hS137
 refine ya 4 5 (Nv i123) (yw hS137 0 (cs_qIndex x134 w_x134) ?_)
 intro w140 hS139
 refine yb ?_
 have hS141 := hS139.drew
 refine yao nL9 6 (KR.cons (hS141.rd m0) (KR.cons (hS141.rd m1) (KR.nil hS141.im))) ?_
 generalize World.drew _ = w142 at *
 refine ya 0 60 (Pt b1 5) (yf (v := (Sl a_r115 s122 c_r115)) (rd_c m1 (hS141.rd m1)) ?_)
 refine WO.vs 2 [(62, Nv i123), (63, Pt b135 1)] (yf (v := (Sl w_x134.Cols.a x134.Cols w_x134.Cols.c)) (rd_c m0 (hS141.rd m0)) ?_)
 obtain ⟨r148, hx_r143, hr1⟩ := bsm hr1
 refine y8 (slices_Clone_string_ok h_x134.Cols hS141 hx_r143) ?_
 rintro _ w144 ⟨I145, a_r148, c_r148, C_r148, rfl, hl146, hS147, h_r148⟩
 refine ⟨_, rfl, (KR.cons (hS147.rd m1) (KR.cons (hS147.rd m2) (KR.nil (hS147.im.of_le hl146)))), ?_⟩
 refine WO.tail rfl ?_
 obtain ⟨x149, hr1, h0_x149, h1_x149, hx_x149, ha_x149, _, _, ⟨w_x149, rfl, h_x149⟩, hc_x149⟩ := sl_at ((h_s122.mono hl146).sl) hr1
 refine yq 124 2 ha_x149 h0_x149 h1_x149 ?_
 refine ya 7 67 (.pointer (some ⟨bl a_r115, of a_r115 + ((i123 : Int)).toNat * 2 + 1, none⟩)) ?_
 obtain ⟨I150, hl151, hS153, hp152⟩ := y4 h_r148 hS147
 have hk159 : ok_qIndex I150 ({ x149 with Cols := r148 }) (⟨⟨a_r148, c_r148⟩⟩ : W_qIndex) := ⟨hp152⟩
 refine yan hS153.front3 (OwnSl.mono h_s122 (hl146.trans hl151)) rfl (by kernel_rfl) rfl hx_x149 (u' := { x149 with Cols := r148 }) 1 rfl rfl (by kernel_rfl) rfl rfl (fun cs hrel => (by obtain ⟨w_zz, rfl, h_zz⟩ := hrel; exact ⟨{ w_zz with Cols := ⟨a_r148, c_r148⟩ }, rfl, { h_zz with Cols := hp152 }⟩)) (fun _ _ _ => trivial) ?_
 intro w156 C157 hS155 ho158
 refine y7 53 rfl (show Value.slice a_r115 s122.length c_r115 = Value.slice a_r115 (s122.set ((i123 : Int)).toNat ({ x149 with Cols := r148 })).length c_r115 by simp only [List.length_set]) ?_
 refine y7 61 rfl (show Value.slice a_r115 s122.length c_r115 = Value.slice a_r115 (s122.set ((i123 : Int)).toNat ({ x149 with Cols := r148 })).length c_r115 by simp only [List.length_set]) ?_
 have hS160 : St E w156 I150 ((C157) :: (Bx b135 (cs_qIndex x134 w_x134) 124) :: (Bx b1 (cs_qTable ({ p0 with Cols := r14, Cons := s34, Idx := (s122.set ((i123 : Int)).toNat ({ x149 with Cols := r148 })) }) (⟨⟨a_r14, c_r14⟩, ⟨a_r27, c_r27⟩, ⟨a_r115, c_r115⟩⟩ : W_qTable)) 89) :: (Bx b5 (cs_qTable z_qTable zw_qTable) 89) :: (C_s34) :: Os) := by have hq := hS155; simp only [cs_qTable, List.length_set] at hq ⊢; exact hq
 refine WO.nil (yi (En.next (yaa nL2 ?_)))
 refine y0 (j := i123) rfl (by kernel_rfl) rfl (by first | omega | (dsimp only at *; omega) | (simp only [List.length_cons, List.length_nil] at *; omega)) ?_
 refine ya 1 55 (Iv ((i123 + 1 : Nat) : Int)) (WO.nil ?_)
 obtain rfl := sj hr1
 exact yo ⟨I150, C157, rfl, ((hl121.trans hl146).trans hl151), hS160.front1.drop.front3.front1.front3.front3, ho158⟩
 rintro _ w167 ⟨I120, C_s122, rfl, hl121, hS168, h_s122⟩
 refine yd [0] ?_
 refine ya 0 56 (.bool (decide ((r115.length : Int) < (r115.length : Int)))) (yb (ye (yah (fun hc => ?_))))
 clear hc
 refine yy (yk (yl (yn (En.next (yd nL2 ?_)))))
 refine yu ((cs_qTable ({ p0 with Cols := r14, Cons := s34, Idx := s122 }) (⟨⟨a_r14, c_r14⟩, ⟨a_r27, c_r27⟩, ⟨a_r115, c_r115⟩⟩ : W_qTable))) (hS168.rf m0) ?_
 obtain ⟨I170, hl171, hS173, hp172⟩ := y4 (h_s34.mono (hl113.trans hl121)) hS168.front3
 obtain ⟨I175, hl176, hS178, hp177⟩ := y4 (h_s122.mono hl171) hS173.front2
 refine yw hS178.front1 0 (cs_qTable ({ p0 with Cols := r14, Cons := s34, Idx := s122 }) (⟨⟨a_r14, c_r14⟩, ⟨a_r27, c_r27⟩, ⟨a_r115, c_r115⟩⟩ : W_qTable)) ?_
 intro w181 hS180
 refine yb (W.ret ?_)
 have hk184 : ok_qTable I175 ({ p0 with Cols := r14, Cons := s34, Idx := s122 }) (⟨⟨a_r14, c_r14⟩, ⟨a_r27, c_r27⟩, ⟨a_r115, c_r115⟩⟩ : W_qTable) := ⟨(RSl.mono hp17 (((((hl25.trans hl33).trans hl113).trans hl121).trans hl171).trans hl176)), (RSl.mono hp172 hl176), hp177⟩
 obtain rfl := sj hr
 exact yay _ (hS180.rd m0) ⟨I175, (⟨⟨a_r14, c_r14⟩, ⟨a_r27, c_r27⟩, ⟨a_r115, c_r115⟩⟩ : W_qTable), rfl, (((((((hl12.trans hl16).trans hl25).trans hl33).trans hl113).trans hl121).trans hl171).trans hl176), hS180.drop.drop, hk184⟩
def catalog_Find_1 (p0 : qTable) (q1 : ByteArray) : Option Bool := some (sEq p0.Name q1)
theorem catalog_Find_1_ok {p0 : qTable} {q1 : ByteArray} {w_p0 : W_qTable} {kb1 : Nat} (h_p0 : ok_qTable I p0 w_p0) (hm1 : (Bx kb1 [(.string q1)] 9) ∈ Os) (hS : St E w I Os) {r : Bool} (hr : catalog_Find_1 p0 q1 = some r) :
    Calls P 76 #[(.agg (cs_qTable p0 w_p0).toArray), (Pt kb1 0)] w (fun e w' => ∃ I', e = .returned (.bool r) ∧ I.Le I' ∧ St E w' I' Os) := by
 refine calls_W (fn := Tryz.f76) rfl rfl rfl ?_
 unfold catalog_Find_1 at hr
 refine yd nL2 ?_
 refine yx hS (cs_qTable p0 w_p0) 89 ?_
 intro b1 w4 hS3
 refine ya 1 3 (.bool false) (yz nL5 ?_)
 refine ya 0 4 (Pt b1 0) (yf (v := (.string p0.Name)) (hS3.rf m0) ?_)
 refine yf (v := (.string q1)) (rd_f (hS3.rd (List.Mem.tail _ hm1))) ?_
 refine WO.vs 3 [(7, .bool (sEq p0.Name q1)), (3, .bool (sEq p0.Name q1))] (yb (W.ret ?_))
 obtain rfl := sj hr
 exact yr ⟨I, rfl, lr, hS3.drop⟩
noncomputable def catalog_Find (p0 : qCatalog) (p1 : ByteArray) : Option (qTable × Bool) := (slices_IndexFunc_qTable p0.Tables (fun (u0 : qTable) => catalog_Find_1 u0 p1)).bind (fun r18 => (bif (decide (r18 ≥ 0)) then (idx p0.Tables r18).bind (fun x19 => (table_Clone x19).bind (fun r25 => some (r25, true))) else some (z_qTable, false)))
theorem catalog_Find_ok {p0 : qCatalog} {p1 : ByteArray} {w_p0 : W_qCatalog} (h_p0 : ok_qCatalog I p0 w_p0) (hS : St E w I Os) {r : qTable × Bool} (hr : catalog_Find p0 p1 = some r) :
    Calls P 43 #[(.agg (cs_qCatalog p0 w_p0).toArray), (.string p1)] w (fun e w' => ∃ I' w_rw0, e = .returned (.tuple #[(.agg (cs_qTable r.1 w_rw0).toArray), (.bool r.2)]) ∧ I.Le I' ∧ St E w' I' Os ∧ ok_qTable I' r.1 w_rw0) := by
 refine calls_W (fn := Tryz.f43) rfl rfl rfl ?_
 unfold catalog_Find at hr
 refine yd nL4 ?_
 refine yx hS (cs_qCatalog p0 w_p0) 29 ?_
 intro b1 w4 hS3
 refine yx hS3 [(.string p1)] 9 ?_
 intro b5 w8 hS7
 refine yx hS7 (cs_qTable z_qTable zw_qTable) 89 ?_
 intro b9 w12 hS11
 refine ya 3 5 (.bool false) (yb (ye (yd nL5 ?_)))
 refine ya 0 7 (Pt b1 1) (yf (v := (Sl w_p0.Tables.a p0.Tables w_p0.Tables.c)) (hS11.rf m2) ?_)
 refine ya 2 9 (.func (.func 76) #[] #[(Pt b5 0)]) ?_
 obtain ⟨r18, hx_r13, hr⟩ := bsm hr
 refine y6 (slices_IndexFunc_qTable_ok h_p0.Tables (fun {F Ic wc} {_} {_} hlc hSc h_u0 {rc} hrc => catalog_Find_1_ok h_u0 (List.mem_append_right _ m1) hSc hrc) (fun _ _ => by kernel_rfl) hS11 hx_r13) ?_
 intro I15 w14 hl16 hS17
 refine ya 4 6 (Iv r18) (yz nL2 ?_)
 refine WO.vs 0 [(11, Iv r18), (12, .bool (decide (r18 ≥ 0)))] (yb (W.cb hr (fun hc hr => ?_) (fun hc hr => ?_)))
 refine yd nL8 ?_
 refine ya 0 13 (Pt b1 1) (yf (v := (Sl w_p0.Tables.a p0.Tables w_p0.Tables.c)) (hS17.rf m2) ?_)
 refine ya 2 15 (Iv r18) ?_
 obtain ⟨x19, hr, h0_x19, h1_x19, hx_x19, ha_x19, _, _, ⟨w_x19, rfl, h_x19⟩, hc_x19⟩ := sl_at ((RSl.mono h_p0.Tables hl16)) hr
 refine yq 89 6 ha_x19 h0_x19 h1_x19 ?_
 refine yai ((cs_qTable x19 w_x19)) hc_x19 0 hS17.rm ?_
 obtain ⟨r25, hx_r20, hr⟩ := bsm hr
 refine y8 (table_Clone_ok h_x19 hS17 hx_r20) ?_
 rintro _ w21 ⟨I22, w_r25, rfl, hl23, hS24, h_r25⟩
 refine ⟨_, rfl, trivial, ?_⟩
 refine yw hS24 0 (cs_qTable r25 w_r25) ?_
 intro w27 hS26
 refine ya 7 5 (.bool true) (yb (W.ret (yc ?_)))
 obtain rfl := sj hr
 exact yak _ (hS26.rd m0) ⟨I22, w_r25, rfl, (hl16.trans hl23), hS26.drop.drop.drop, h_r25⟩
 refine yg (En.next (yd nL3 ?_))
 refine ya 0 19 (.agg (cs_qTable z_qTable zw_qTable).toArray) (yw hS17 0 (cs_qTable z_qTable zw_qTable) ?_)
 intro w32 hS31
 refine ya 2 5 (.bool false) (yb (W.ret ?_))
 obtain rfl := sj hr
 exact yak _ (hS31.rd m0) ⟨I15, zw_qTable, rfl, hl16, hS31.drop.drop.drop, zok_qTable⟩
noncomputable def grants_Owns (p0 : qCatalog) (p1 : ByteArray) (p2 : ByteArray) : Option Bool := (catalog_Find p0 p2).bind (fun (r10, r11) => ((bif r11 then (member_Is p0.Roles p1 r10.Owner).bind (fun r27 => some r27) else some false)).bind (fun (j18 : Bool) => some j18))
theorem grants_Owns_ok {p0 : qCatalog} {p1 : ByteArray} {p2 : ByteArray} {w_p0 : W_qCatalog} (h_p0 : ok_qCatalog I p0 w_p0) (hS : St E w I Os) {r : Bool} (hr : grants_Owns p0 p1 p2 = some r) :
    Calls P 21 #[(.agg (cs_qCatalog p0 w_p0).toArray), (.string p1), (.string p2)] w (fun e w' => ∃ I', e = .returned (.bool r) ∧ I.Le I' ∧ St E w' I' Os) := by
 refine calls_W (fn := Tryz.f21) rfl rfl rfl ?_
 unfold grants_Owns at hr
 refine yd nL2 ?_
 refine yx hS (cs_qCatalog p0 w_p0) 29 ?_
 intro b1 w4 hS3
 refine ya 1 6 (.bool false) (yz nL9 ?_)
 refine yu ((cs_qCatalog p0 w_p0)) (hS3.rf m0) ?_
 refine ya 1 11 (.string p2) ?_
 obtain ⟨⟨r10, r11⟩, hx_r5, hr⟩ := bsm hr
 refine y8 (catalog_Find_ok h_p0 hS3 hx_r5) ?_
 rintro _ w6 ⟨I7, w_r10, rfl, hl8, hS9, h_r10⟩
 refine ⟨_, rfl, trivial, ?_⟩
 refine WO.vs 3 [(9, .tuple #[(.agg (cs_qTable r10 w_r10).toArray), (.bool r11)]), (13, .agg (cs_qTable r10 w_r10).toArray), (14, .bool r11)] (yx hS9 (cs_qTable z_qTable zw_qTable) 89 ?_)
 intro b12 w15 hS14
 refine yw hS14 0 (cs_qTable r10 w_r10) ?_
 intro w17 hS16
 refine ya 8 8 (.bool r11) (yz nL10 ?_)
 refine WO.vs 0 [(15, .bool r11), (16, .bool r11)] ?_
 obtain ⟨j18, hr1, hr⟩ := bsm hr
 refine WO.jw (l1 := [2, 3, 4, 5, 6, 7, 8]) (J := (fun fr w => ∃ I20, fr = [(23, .bool j18)] ∧ I7.Le I20 ∧ St E w I20 Os)) ?_ ?_
 refine WO.cb hr1 (fun hc hr1 => ?_) (fun hc hr1 => ?_)
 refine yj 16 hc (ya 2 17 (Pt b1 2) (yf (v := (Sl w_p0.Roles.a p0.Roles w_p0.Roles.c)) (hS16.rf m1) ?_))
 refine WO.vs 4 [(19, .string p1), (20, Pt b12 1)] (yf (v := (.string r10.Owner)) (hS16.rf m0) ?_)
 obtain ⟨r27, hx_r22, hr1⟩ := bsm hr1
 refine y6 (member_Is_ok (RSl.mono h_p0.Roles hl8) hS16 hx_r22) ?_
 intro I24 w23 hl25 hS26
 refine ya 8 23 (.bool r27) ?_
 obtain rfl := sj hr1
 exact yv ⟨I24, rfl, hl25, hS26.drop.drop⟩
 refine yj 16 hc ?_
 iterate 6 refine yt ?_
 refine ya 8 23 (.bool false) ?_
 obtain rfl := sj hr1
 exact yv ⟨I7, rfl, lr, hS16.drop.drop⟩
 rintro _ w32 ⟨I20, rfl, hl21, hS33⟩
 refine ya 9 6 (.bool j18) (yb (W.ret ?_))
 obtain rfl := sj hr
 exact yr ⟨I20, rfl, (hl8.trans hl21), hS33⟩
def slices_ContainsFunc_qGrant (p0 : List qGrant) (p1 : qGrant → Option Bool) : Option Bool := (slices_IndexFunc_qGrant p0 p1).bind (fun r6 => some (decide (r6 ≥ 0)))
theorem slices_ContainsFunc_qGrant_ok {p0 : List qGrant} {p1 : qGrant → Option Bool} {a_p0 : Option Addr} {c_p0 : Nat} {g_p1 : FuncId} {k_p1 : List Value} (h_p0 : RSl 5 R_qGrant I a_p0 c_p0 p0) (h_p1 : ∀ {F : List Mem} {I' : Mem} {w : World} {u0 : qGrant}, I.Le I' → St E w I' (F ++ Os) → ∀ {r : Bool}, p1 u0 = some r → Calls P g_p1 (([(.agg (cs_qGrant u0).toArray)] : List Value) ++ k_p1).toArray w (fun e w' => ∃ (I'' : Mem), e = .returned (.bool r) ∧ I'.Le I'' ∧ St E w' I'' (F ++ Os))) (hcall_p1 : Callable P g_p1) (hS : St E w I Os) {r : Bool} (hr : slices_ContainsFunc_qGrant p0 p1 = some r) :
    Calls P 78 #[(Sl a_p0 p0 c_p0), (.func (.func g_p1) #[] k_p1.toArray)] w (fun e w' => ∃ I', e = .returned (.bool r) ∧ I.Le I' ∧ St E w' I' Os) := by
 refine calls_W (fn := Tryz.f78) rfl rfl rfl ?_
 unfold slices_ContainsFunc_qGrant at hr
 refine yd [0] ?_
 refine ya 0 4 (.bool false) (yz nL5 ?_)
 refine WO.vs 0 [(5, Sl a_p0 p0 c_p0), (6, .func (.func g_p1) #[] k_p1.toArray)] ?_
 obtain ⟨r6, hx_r1, hr⟩ := bsm hr
 refine y6 (slices_IndexFunc_qGrant_ok h_p0 (fun {F Ic wc} {_} hlc hSc  {rc} hrc => h_p1 hlc hSc  hrc) hcall_p1 hS hx_r1) ?_
 intro I3 w2 hl4 hS5
 refine WO.vs 3 [(8, .bool (decide (r6 ≥ 0))), (4, .bool (decide (r6 ≥ 0)))] (yb (W.ret ?_))
 obtain rfl := sj hr
 exact yr ⟨I3, rfl, hl4, hS5⟩
noncomputable def grants_has_1 (p0 : qGrant) (q1 : Int) (q2 : ByteArray) (q3 : Bool) (q4 : qCatalog) (q5 : ByteArray) : Option Bool := (some (((p0.Priv == q1) && (sEq p0.Table q2)) && (p0.Option || (!q3)))).bind (fun (q9 : Bool) => ((bif q9 then (member_Is q4.Roles q5 p0.To).bind (fun r23 => some r23) else some false)).bind (fun (j14 : Bool) => some j14))
theorem grants_has_1_ok {p0 : qGrant} {q1 : Int} {q2 : ByteArray} {q3 : Bool} {q4 : qCatalog} {q5 : ByteArray} {kb1 : Nat} {kb2 : Nat} {kb3 : Nat} {kb4 : Nat} {w_q4 : W_qCatalog} {kb5 : Nat} (h_q4 : ok_qCatalog I q4 w_q4) (hm1 : (Bx kb1 [(Iv q1)] 3) ∈ Os) (hm2 : (Bx kb2 [(.string q2)] 9) ∈ Os) (hm3 : (Bx kb3 [(.bool q3)] 4) ∈ Os) (hm4 : (Bx kb4 (cs_qCatalog q4 w_q4) 29) ∈ Os) (hm5 : (Bx kb5 [(.string q5)] 9) ∈ Os) (hS : St E w I Os) {r : Bool} (hr : grants_has_1 p0 q1 q2 q3 q4 q5 = some r) :
    Calls P 79 #[(.agg (cs_qGrant p0).toArray), (Pt kb1 0), (Pt kb2 0), (Pt kb3 0), (Pt kb4 0), (Pt kb5 0)] w (fun e w' => ∃ I', e = .returned (.bool r) ∧ I.Le I' ∧ St E w' I' Os) := by
 refine calls_W (fn := Tryz.f79) rfl rfl rfl ?_
 unfold grants_has_1 at hr
 refine yd nL2 ?_
 refine yx hS (cs_qGrant p0) 67 ?_
 intro b1 w4 hS3
 refine ya 1 7 (.bool false) (yz nL27 ?_)
 refine ya 0 8 (Pt b1 3) (yf (v := (Iv p0.Priv)) (hS3.rf m0) ?_)
 refine yf (v := (Iv q1)) (rd_f (hS3.rd (List.Mem.tail _ hm1))) ?_
 refine WO.vs 3 [(11, .bool (p0.Priv == q1)), (12, .bool (p0.Priv == q1))] (yac (l1 := [5, 6, 7, 8, 9]) 17 ((p0.Priv == q1) && (sEq p0.Table q2)) ?_ ?_)
 refine yp (p0.Priv == q1) (fun hc => ?_) (fun hc => ?_)
 refine yj 12 hc (ya 5 13 (Pt b1 2) (yf (v := (.string p0.Table)) (hS3.rf m0) ?_))
 refine yf (v := (.string q2)) (rd_f (hS3.rd (List.Mem.tail _ hm2))) ?_
 exact WO.vs 8 [(16, .bool (sEq p0.Table q2)), (17, .bool (sEq p0.Table q2))] (WO.mk 12 hc (by rw [hc]; rfl))
 refine yj 12 hc ?_
 iterate 4 refine yt ?_
 exact ya 9 17 (.bool false) (WO.mk 12 hc (by rw [hc]; rfl))
 refine ya 10 18 (.bool ((p0.Priv == q1) && (sEq p0.Table q2))) ?_
 obtain ⟨q9, hx_q9, hr⟩ := bsm hr
 replace hx_q9 := sj hx_q9
 refine yac (l1 := [11, 12, 13, 14, 15, 16, 17]) 25 q9 ?_ ?_
 refine yp ((p0.Priv == q1) && (sEq p0.Table q2)) (fun hc => ?_) (fun hc => ?_)
 refine yj 18 hc (ya 11 19 (Pt b1 4) (yf (v := (.bool p0.Option)) (hS3.rf m0) ?_))
 refine ya 13 21 (.bool p0.Option) (yac (l1 := [14, 15, 16]) 24 (p0.Option || (!q3)) ?_ ?_)
 refine yp p0.Option (fun hc => ?_) (fun hc => ?_)
 refine yj 21 hc ?_
 iterate 2 refine yt ?_
 exact ya 16 24 (.bool true) (WO.mk 21 hc (by rw [hc]; rfl))
 refine yj 21 hc (yf (v := (.bool q3)) (rd_f (hS3.rd (List.Mem.tail _ hm3))) ?_)
 exact WO.vs 15 [(23, .bool (!q3)), (24, .bool (!q3))] (WO.mk 21 hc (by rw [hc]; rfl))
 exact ya 17 25 (.bool (p0.Option || (!q3))) (WO.mk 18 hc (by rw [← hx_q9, hc]; rfl))
 refine yj 18 hc ?_
 iterate 6 refine yt ?_
 exact ya 17 25 (.bool false) (WO.mk 18 hc (by rw [← hx_q9, hc]; rfl))
 refine ya 18 26 (.bool q9) ?_
 obtain ⟨j14, hr1, hr⟩ := bsm hr
 refine WO.jw (l1 := [19, 20, 21, 22, 23, 24, 25]) (J := (fun fr w => ∃ I16, fr = [(33, .bool j14)] ∧ I.Le I16 ∧ St E w I16 Os)) ?_ ?_
 refine WO.cb hr1 (fun hc hr1 => ?_) (fun hc hr1 => ?_)
 refine yj 26 hc (ya 19 27 (Pt kb4 2) (yf (v := (Sl w_q4.Roles.a q4.Roles w_q4.Roles.c)) (rd_f (hS3.rd (List.Mem.tail _ hm4))) ?_))
 refine yf (v := (.string q5)) (rd_f (hS3.rd (List.Mem.tail _ hm5))) ?_
 refine ya 22 30 (Pt b1 0) (yf (v := (.string p0.To)) (hS3.rf m0) ?_)
 obtain ⟨r23, hx_r18, hr1⟩ := bsm hr1
 refine y6 (member_Is_ok h_q4.Roles hS3 hx_r18) ?_
 intro I20 w19 hl21 hS22
 refine ya 25 33 (.bool r23) ?_
 obtain rfl := sj hr1
 exact yv ⟨I20, rfl, hl21, hS22.drop⟩
 refine yj 26 hc ?_
 iterate 6 refine yt ?_
 refine ya 25 33 (.bool false) ?_
 obtain rfl := sj hr1
 exact yv ⟨I, rfl, lr, hS3.drop⟩
 rintro _ w26 ⟨I16, rfl, hl17, hS27⟩
 refine ya 26 7 (.bool j14) (yb (W.ret ?_))
 obtain rfl := sj hr
 exact yr ⟨I16, rfl, hl17, hS27⟩
noncomputable def grants_has (p0 : qCatalog) (p1 : List qGrant) (p2 : ByteArray) (p3 : Int) (p4 : ByteArray) (p5 : Bool) : Option Bool := (slices_ContainsFunc_qGrant p1 (fun (u0 : qGrant) => grants_has_1 u0 p3 p4 p5 p0 p2)).bind (fun r26 => some r26)
theorem grants_has_ok {p0 : qCatalog} {p1 : List qGrant} {p2 : ByteArray} {p3 : Int} {p4 : ByteArray} {p5 : Bool} {w_p0 : W_qCatalog} {a_p1 : Option Addr} {c_p1 : Nat} (h_p0 : ok_qCatalog I p0 w_p0) (h_p1 : RSl 5 R_qGrant I a_p1 c_p1 p1) (hS : St E w I Os) {r : Bool} (hr : grants_has p0 p1 p2 p3 p4 p5 = some r) :
    Calls P 44 #[(.agg (cs_qCatalog p0 w_p0).toArray), (Sl a_p1 p1 c_p1), (.string p2), (Iv p3), (.string p4), (.bool p5)] w (fun e w' => ∃ I', e = .returned (.bool r) ∧ I.Le I' ∧ St E w' I' Os) := by
 refine calls_W (fn := Tryz.f44) rfl rfl rfl ?_
 unfold grants_has at hr
 refine yd nL6 ?_
 refine yx hS (cs_qCatalog p0 w_p0) 29 ?_
 intro b1 w4 hS3
 refine yx hS3 [(.string p2)] 9 ?_
 intro b5 w8 hS7
 refine yx hS7 [(Iv p3)] 3 ?_
 intro b9 w12 hS11
 refine yx hS11 [(.string p4)] 9 ?_
 intro b13 w16 hS15
 refine yx hS15 [(.bool p5)] 4 ?_
 intro b17 w20 hS19
 refine ya 5 12 (.bool false) (yz nL4 ?_)
 refine WO.vs 0 [(13, Sl a_p1 p1 c_p1), (14, .func (.func 79) #[] #[(Pt b9 0), (Pt b13 0), (Pt b17 0), (Pt b1 0), (Pt b5 0)])] ?_
 obtain ⟨r26, hx_r21, hr⟩ := bsm hr
 refine y6 (slices_ContainsFunc_qGrant_ok h_p1 (fun {F Ic wc} {_} hlc hSc  {rc} hrc => grants_has_1_ok (h_p0.mono hlc) (List.mem_append_right _ m2) (List.mem_append_right _ m1) (List.mem_append_right _ m0) (List.mem_append_right _ m4) (List.mem_append_right _ m3) hSc hrc) (fun _ _ => by kernel_rfl) hS19 hx_r21) ?_
 intro I23 w22 hl24 hS25
 refine ya 3 12 (.bool r26) (yb (W.ret ?_))
 obtain rfl := sj hr
 exact yr ⟨I23, rfl, hl24, hS25.drop.drop.drop.drop.drop⟩
def grants_Held_1 (q0 : qCatalog) (q1 : List Bool) : Option (List qGrant) := (forE (fun (i5 : Nat) => fun (s4 : List qGrant) => (idx q0.Grants (i5 : Int)).bind (fun x14 => (idx q1 (i5 : Int)).bind (fun x21 => ((bif x21 then (app 64 s4 ([x14] : List qGrant)).bind (fun x34 => some x34) else some s4)).bind (fun (j22 : List qGrant) => some j22)))) q0.Grants.length 0 ([] : List qGrant)).bind (fun s4 => some s4)
theorem grants_Held_1_ok {q0 : qCatalog} {q1 : List Bool} {kb0 : Nat} {w_q0 : W_qCatalog} {kb1 : Nat} {a_q1 : Option Addr} {c_q1 : Nat} (h_q0 : ok_qCatalog I q0 w_q0) (h_q1 : RSl 1 RBool I a_q1 c_q1 q1) (hm0 : (Bx kb0 (cs_qCatalog q0 w_q0) 29) ∈ Os) (hm1 : (Bx kb1 [(Sl a_q1 q1 c_q1)] 90) ∈ Os) (hS : St E w I Os) {r : (List qGrant)} (hr : grants_Held_1 q0 q1 = some r) :
    Calls P 42 #[(Pt kb0 0), (Pt kb1 0)] w (fun e w' => ∃ (I' : Mem) (ra0 : Option Addr) (rc0 : Nat) (rC0 : Mem), e = .returned (Sl ra0 r rc0) ∧ I.Le I' ∧ St E w' I' (rC0 :: Os) ∧ OwnSl 67 5 R_qGrant I' rC0 ra0 rc0 r) := by
 refine calls_W (fn := Tryz.f42) rfl rfl rfl ?_
 unfold grants_Held_1 at hr
 refine yd [0] ?_
 refine ya 0 2 (.slice none 0 0) (yz [0] ?_)
 refine ya 0 3 (.slice none 0 0) (yb (ye (yd nL4 ?_)))
 refine ya 0 6 (Pt kb0 3) (yf (v := (Sl w_q0.Grants.a q0.Grants w_q0.Grants.c)) (rd_f (hS.rd hm0)) ?_)
 refine WO.vs 2 [(8, Nv q0.Grants.length), (9, Iv 0)] (yb (W.block ?_))
 obtain ⟨s4, hloop6, hr⟩ := bsm hr
 have hlt12 := (h_q0.Grants).len_lt
 refine W.wk (W.forE (m := q0.Grants.length) hloop6 (fun (i5 : Nat) => fun (s4 : List qGrant) fr w => ∃ I2 a_s4 c_s4 C_s4, fr = [(1, Pt kb1 0), (3, Sl a_s4 s4 c_s4), (7, Sl w_q0.Grants.a q0.Grants w_q0.Grants.c), (8, Nv q0.Grants.length), (9, Nv i5)] ∧ I.Le I2 ∧ St E w I2 ((C_s4) :: Os) ∧ OwnSl 67 5 R_qGrant I2 C_s4 a_s4 c_s4 s4) ⟨I, none, 0, Mem.no, rfl, lr, hS.no, OwnSl.nil⟩ ?_ ?_)
 rintro i5 s4 _ w9 hi13 ⟨I2, a_s4, c_s4, C_s4, rfl, hl3, hS10, h_s4⟩ x11 hr1
 refine yd [0] ?_
 refine ya 0 10 (.bool (decide ((i5 : Int) < (q0.Grants.length : Int)))) (yb (ye (yag (fun hc => ?_))))
 clear hc
 refine yg (En.next (ye (W.block (yd nL6 ?_))))
 refine ya 0 11 (Nv i5) ?_
 obtain ⟨x14, hr1, h0_x14, h1_x14, hx_x14, ha_x14, _, _, rfl, hc_x14⟩ := sl_at ((RSl.mono h_q0.Grants hl3)) hr1
 refine yq 67 5 ha_x14 h0_x14 h1_x14 ?_
 refine yai ((cs_qGrant x14)) hc_x14 0 hS10.rm ?_
 refine yx hS10 (cs_qGrant z_qGrant) 67 ?_
 intro b15 w18 hS17
 refine ya 4 4 (Nv i5) (yw hS17 0 (cs_qGrant x14) ?_)
 intro w20 hS19
 refine yz nL4 ?_
 refine yf (v := (Sl a_q1 q1 c_q1)) (rd_f (hS19.rd (List.Mem.tail _ (List.Mem.tail _ hm1)))) ?_
 refine ya 1 15 (Nv i5) ?_
 obtain ⟨x21, hr1, h0_x21, h1_x21, hx_x21, ha_x21, _, _, rfl, hc_x21⟩ := sl_at ((RSl.mono h_q1 hl3)) hr1
 refine yq 4 1 ha_x21 h0_x21 h1_x21 ?_
 refine yae (v := (.bool x21)) hc_x21 hS19.rm ?_
 refine yb ?_
 obtain ⟨j22, hr2, hr1⟩ := bsm hr1
 refine W.jw (J := (fun fr w => ∃ I24 a_j22 c_j22 C_j22, fr = [(1, Pt kb1 0), (3, Sl a_j22 j22 c_j22), (7, Sl w_q0.Grants.a q0.Grants w_q0.Grants.c), (8, Nv q0.Grants.length), (9, Nv i5)] ∧ I2.Le I24 ∧ St E w I24 ((C_j22) :: Os) ∧ OwnSl 67 5 R_qGrant I24 C_j22 a_j22 c_j22 j22)) ?_ ?_
 refine W.cb hr2 (fun hc hr2 => ?_) (fun hc hr2 => ?_)
 refine yaa nL5 ?_
 refine ya 0 18 (Sl a_s4 s4 c_s4) (yu ((cs_qGrant x14)) (hS19.rf m0) ?_)
 refine y3 (rel := R_qGrant) (xs := ([x14] : List qGrant)) hS19 rfl (by kernel_rfl) rfl 67 5 [(cs_qGrant x14)] (by kernel_rfl) rfl ((Elr.cons rfl Elr.nil)) (fun _ _ _ => trivial) ?_
 intro a29 C27 w31 hS30 ho28
 have hS33 := hS30.front2
 obtain ⟨x34, hx_x34, hr2⟩ := bsm hr2
 obtain ⟨h0_x34, he_x34⟩ := app_some hx_x34
 refine WO.ap 67 64 (cs_qGrant z_qGrant) hS33 h_s4 ho28.sl (hS33.rd m1) h0_x34 he_x34 ?_
 intro a35 c36 w37 C38 hS39 ho40
 refine ya 4 3 (Sl a35 x34 c36) (WO.nil ?_)
 obtain rfl := sj hr2
 exact yo ⟨I2, a35, c36, C38, rfl, lr, hS39.front1.drop.front1.drop, ho40⟩
 refine yg ?_
 obtain rfl := sj hr2
 exact yo ⟨I2, a_s4, c_s4, C_s4, rfl, lr, hS19.drop, h_s4⟩
 rintro _ w46 ⟨I24, a_j22, c_j22, C_j22, rfl, hl25, hS47, h_j22⟩
 refine yi (En.next (yaa nL2 ?_))
 refine y0 (j := i5) rfl (by kernel_rfl) rfl (by first | omega | (dsimp only at *; omega) | (simp only [List.length_cons, List.length_nil] at *; omega)) ?_
 refine ya 1 9 (Iv ((i5 + 1 : Nat) : Int)) (WO.nil ?_)
 obtain rfl := sj hr1
 exact yo ⟨I24, a_j22, c_j22, C_j22, rfl, (hl3.trans hl25), hS47, h_j22⟩
 rintro _ w48 ⟨I2, a_s4, c_s4, C_s4, rfl, hl3, hS49, h_s4⟩
 refine yd [0] ?_
 refine ya 0 10 (.bool (decide ((q0.Grants.length : Int) < (q0.Grants.length : Int)))) (yb (ye (yah (fun hc => ?_))))
 clear hc
 refine yy (yk (yl (yn (En.next (yd nL2 ?_)))))
 refine WO.vs 0 [(23, Sl a_s4 s4 c_s4), (2, Sl a_s4 s4 c_s4)] (yb (W.ret ?_))
 obtain rfl := sj hr
 exact yr ⟨I2, a_s4, c_s4, C_s4, rfl, hl3, hS49, h_s4⟩
noncomputable def grants_Held (p0 : qCatalog) : Option (List qGrant) := (mk 1 (p0.Grants.length : Int)).bind (fun n5 => (loopO (fun (s : Bool × (List Bool)) => match s with | (s21, s22) => (bif s21 then (grants_Held_1 p0 s22).bind (fun r38 => (forE (fun (i50 : Nat) => fun (s : Bool × (List Bool)) => match s with | (s48, s49) => (idx p0.Grants (i50 : Int)).bind (fun x59 => (catalog_Find p0 x59.Table).bind (fun (r71, r72) => (member_Find p0.Roles x59.To).bind (fun (r84, r85) => (idx s49 (i50 : Int)).bind (fun x92 => ((bif (((!x92) && r72) && r85) then (grants_Owns p0 x59.By x59.Table).bind (fun r106 => ((bif r106 then some true else (grants_has p0 r38 x59.By x59.Priv x59.Table true).bind (fun r119 => some r119))).bind (fun (j107 : Bool) => some j107)) else some false)).bind (fun (j97 : Bool) => ((bif j97 then (idx s49 (i50 : Int)).bind (fun x134 => some (true, (s49.set ((i50 : Int)).toNat true))) else some (s48, s49))).bind (fun ((s141, s142) : Bool × (List Bool)) => some (s141, s142)))))))) p0.Grants.length 0 (false, s22)).bind (fun (s48, s49) => some (.inl (s48, s49)))) else some (.inr s22))) (true, (List.replicate n5 false))).bind (fun (s150 : List Bool) => (grants_Held_1 p0 s150).bind (fun r159 => some r159)))
theorem grants_Held_ok {p0 : qCatalog} {w_p0 : W_qCatalog} (h_p0 : ok_qCatalog I p0 w_p0) (hS : St E w I Os) {r : (List qGrant)} (hr : grants_Held p0 = some r) :
    Calls P 18 #[(.agg (cs_qCatalog p0 w_p0).toArray)] w (fun e w' => ∃ (I' : Mem) (ra0 : Option Addr) (rc0 : Nat), e = .returned (Sl ra0 r rc0) ∧ I.Le I' ∧ St E w' I' Os ∧ RSl 5 R_qGrant I' ra0 rc0 r) := by
 refine calls_W (fn := Tryz.f18) rfl rfl rfl ?_
 unfold grants_Held at hr
 refine yd nL2 ?_
 refine yx hS (cs_qCatalog p0 w_p0) 29 ?_
 intro b1 w4 hS3
 refine ya 1 2 (.slice none 0 0) (yz nL6 ?_)
 refine ya 0 13 (Pt b1 3) (yf (v := (Sl w_p0.Grants.a p0.Grants w_p0.Grants.c)) (hS3.rf m0) ?_)
 refine ya 2 15 (Nv p0.Grants.length) ?_
 obtain ⟨n5, hx_n5, hr⟩ := bsm hr
 obtain ⟨h0_n5, he_n5⟩ := mk_some hx_n5
 refine WO.make (rel := RBool) hS3 rfl (by kernel_rfl) rfl (by kernel_rfl) (T := 4) (sz := 1) (b := 1) (zs := #[(.bool false)]) (by kernel_rfl) rfl rfl n5 (congrArg (Value.int .i64) he_n5) (congrArg (Value.int .i64) he_n5) h0_n5 rfl (z0 := false) rfl (fun _ _ _ => trivial) ?_
 intro a6 w10 C7 hS9 ho8
 refine y7 16 rfl (show Value.slice a6 n5 n5 = Value.slice a6 (List.replicate n5 false).length n5 by simp only [List.length_replicate]) ?_
 refine yx hS9 [(.slice none 0 0)] 90 ?_
 intro b12 w15 hS14
 refine yw hS14 0 [(.slice a6 (List.replicate n5 false).length n5)] ?_
 intro w17 hS16
 refine yz nL2 ?_
 refine WO.vs 0 [(17, .func (.func 42) #[] #[(Pt b1 0), (Pt b12 0)]), (4, .func (.func 42) #[] #[(Pt b1 0), (Pt b12 0)])] (yb (ye (yd [0] ?_)))
 refine ya 0 5 (.bool true) (yb (W.block ?_))
 obtain ⟨t18, hloop23, hr⟩ := bsm hr
 refine W.wk (yap hloop23 (fun (s : Bool × (List Bool)) fr w => match s with | (s21, s22) => ∃ I19 C_s22, fr = [(1, Pt b1 0), (3, Pt b12 0), (4, .func (.func 42) #[] #[(Pt b1 0), (Pt b12 0)]), (5, .bool s21)] ∧ I.Le I19 ∧ St E w I19 ((Bx b1 (cs_qCatalog p0 w_p0) 29) :: (Bx b12 [(Sl a6 s22 n5)] 90) :: (C_s22) :: Os) ∧ OwnSl 4 1 RBool I19 C_s22 a6 n5 s22) ⟨I, C7, rfl, lr, hS16.front1.front1.front2, ho8⟩ ?_)
 rintro ⟨s21, s22⟩ _ w27 ⟨I19, C_s22, rfl, hl20, hS28, h_s22⟩ x29 hr1 hext18
 refine ye (yd [0] ?_)
 refine ya 0 18 (.bool s21) (yb (W.cb hr1 (fun hc hr1 => ?_) (fun hc hr1 => ?_)))
 refine yg (En.next (W.block (yd [0] ?_)))
 refine ya 0 5 (.bool false) (yz nL3 ?_)
 refine ya 0 19 (.func (.func 42) #[] #[(Pt b1 0), (Pt b12 0)]) ?_
 have hS30 := hS28.front2
 have hp32 := (h_s22).publish hS30
 obtain ⟨r38, hx_r33, hr1⟩ := bsm hr1
 refine y8 (grants_Held_1_ok (h_p0.mono (hl20.trans (yaq I19 C_s22))) hp32 m0 m1 hS30.publish hx_r33) ?_
 rintro _ w34 ⟨I35, a_r38, c_r38, C_r38, rfl, hl36, hS37, h_r38⟩
 have hS39 := ya7 hS30 hl36 hS37
 have ho40 := ya9 h_r38 I19 (fun hq => hq)
 refine ⟨_, rfl, trivial, ?_⟩
 obtain ⟨I41, hl42, hS44, hp43⟩ := y4 ho40 hS39
 refine ya 2 6 (Sl a_r38 r38 c_r38) (yz nL4 ?_)
 refine ya 0 21 (Pt b1 3) (yf (v := (Sl w_p0.Grants.a p0.Grants w_p0.Grants.c)) (hS44.rf m1) ?_)
 refine WO.vs 2 [(23, Nv p0.Grants.length), (24, Iv 0)] (yb (W.block ?_))
 obtain ⟨⟨s48, s49⟩, hloop51, hr1⟩ := bsm hr1
 have hlt57 := ((RSl.mono h_p0.Grants (hl20.trans hl42))).len_lt
 refine W.wk (W.forE (m := p0.Grants.length) hloop51 (fun (i50 : Nat) => fun (s : Bool × (List Bool)) fr w => match s with | (s48, s49) => ∃ I46 C_s49, fr = [(1, Pt b1 0), (3, Pt b12 0), (4, .func (.func 42) #[] #[(Pt b1 0), (Pt b12 0)]), (5, .bool s48), (6, Sl a_r38 r38 c_r38), (22, Sl w_p0.Grants.a p0.Grants w_p0.Grants.c), (23, Nv p0.Grants.length), (24, Nv i50)] ∧ I41.Le I46 ∧ St E w I46 ((Bx b1 (cs_qCatalog p0 w_p0) 29) :: (Bx b12 [(Sl a6 s49 n5)] 90) :: (C_s49) :: Os) ∧ OwnSl 4 1 RBool I46 C_s49 a6 n5 s49) ⟨I41, C_s22, rfl, lr, hS44.front2.front2, (OwnSl.mono h_s22 hl42)⟩ ?_ ?_)
 rintro i50 ⟨s48, s49⟩ _ w54 hi58 ⟨I46, C_s49, rfl, hl47, hS55, h_s49⟩ x56 hr2
 refine yd [0] ?_
 refine ya 0 25 (.bool (decide ((i50 : Int) < (p0.Grants.length : Int)))) (yb (ye (yag (fun hc => ?_))))
 clear hc
 refine yg (En.next (ye (W.block (yd nL6 ?_))))
 refine ya 0 26 (Nv i50) ?_
 obtain ⟨x59, hr2, h0_x59, h1_x59, hx_x59, ha_x59, _, _, rfl, hc_x59⟩ := sl_at ((RSl.mono h_p0.Grants ((hl20.trans hl42).trans hl47))) hr2
 refine yq 67 5 ha_x59 h0_x59 h1_x59 ?_
 refine yai ((cs_qGrant x59)) hc_x59 0 hS55.rm ?_
 refine yx hS55 (cs_qGrant z_qGrant) 67 ?_
 intro b60 w63 hS62
 refine ya 4 7 (Nv i50) (yw hS62 0 (cs_qGrant x59) ?_)
 intro w65 hS64
 refine yz nL10 ?_
 refine yu ((cs_qCatalog p0 w_p0)) (hS64.rf m1) ?_
 refine ya 1 31 (Pt b60 2) (yf (v := (.string x59.Table)) (hS64.rf m0) ?_)
 obtain ⟨⟨r71, r72⟩, hx_r66, hr2⟩ := bsm hr2
 refine y8 (catalog_Find_ok (h_p0.mono ((hl20.trans hl42).trans hl47)) hS64 hx_r66) ?_
 rintro _ w67 ⟨I68, w_r71, rfl, hl69, hS70, h_r71⟩
 refine ⟨_, rfl, trivial, ?_⟩
 refine WO.vs 4 [(29, .tuple #[(.agg (cs_qTable r71 w_r71).toArray), (.bool r72)]), (34, .agg (cs_qTable r71 w_r71).toArray), (35, .bool r72)] (yx hS70 (cs_qTable z_qTable zw_qTable) 89 ?_)
 intro b73 w76 hS75
 refine yw hS75 0 (cs_qTable r71 w_r71) ?_
 intro w78 hS77
 refine ya 9 10 (.bool r72) (yz nL11 ?_)
 refine ya 0 37 (Pt b1 2) (yf (v := (Sl w_p0.Roles.a p0.Roles w_p0.Roles.c)) (hS77.rf m2) ?_)
 refine ya 2 39 (Pt b60 0) (yf (v := (.string x59.To)) (hS77.rf m1) ?_)
 obtain ⟨⟨r84, r85⟩, hx_r79, hr2⟩ := bsm hr2
 refine y8 (member_Find_ok (RSl.mono h_p0.Roles (((hl20.trans hl42).trans hl47).trans hl69)) hS77 hx_r79) ?_
 rintro _ w80 ⟨I81, w_r84, rfl, hl82, hS83, h_r84⟩
 refine ⟨_, rfl, trivial, ?_⟩
 refine WO.vs 5 [(36, .tuple #[(.agg (cs_qRole r84 w_r84).toArray), (.bool r85)]), (42, .agg (cs_qRole r84 w_r84).toArray), (43, .bool r85)] (yx hS83 (cs_qRole z_qRole zw_qRole) 62 ?_)
 intro b86 w89 hS88
 refine yw hS88 0 (cs_qRole r84 w_r84) ?_
 intro w91 hS90
 refine ya 10 12 (.bool r85) (yz nL30 ?_)
 refine yf (v := (Sl a6 s49 n5)) (hS90.rf m4) ?_
 refine ya 1 45 (Nv i50) ?_
 obtain ⟨x92, hr2, h0_x92, h1_x92, hx_x92, ha_x92, _, _, rfl, hc_x92⟩ := sl_at ((h_s49.mono (hl69.trans hl82)).sl) hr2
 refine yq 4 1 ha_x92 h0_x92 h1_x92 ?_
 refine yae (v := (.bool x92)) hc_x92 (hS90.rf m5) ?_
 refine WO.vs 4 [(48, .bool (!x92)), (49, .bool (!x92))] (yac (l1 := [6, 7]) 51 ((!x92) && r72) ?_ ?_)
 refine yp (!x92) (fun hc => ?_) (fun hc => ?_)
 exact yj 49 hc (WO.vs 6 [(50, .bool r72), (51, .bool r72)] (WO.mk 49 hc (by rw [hc]; rfl)))
 refine yj 49 hc (yt ?_)
 exact ya 7 51 (.bool false) (WO.mk 49 hc (by rw [hc]; rfl))
 refine ya 8 52 (.bool ((!x92) && r72)) (yac (l1 := [9, 10]) 54 (((!x92) && r72) && r85) ?_ ?_)
 refine yp ((!x92) && r72) (fun hc => ?_) (fun hc => ?_)
 exact yj 52 hc (WO.vs 9 [(53, .bool r85), (54, .bool r85)] (WO.mk 52 hc (by rw [hc]; rfl)))
 refine yj 52 hc (yt ?_)
 exact ya 10 54 (.bool false) (WO.mk 52 hc (by rw [hc]; rfl))
 refine ya 11 55 (.bool (((!x92) && r72) && r85)) ?_
 obtain ⟨j97, hr3, hr2⟩ := bsm hr2
 refine WO.jw (l1 := [12, 13, 14, 15, 16, 17, 18, 19, 20, 21, 22, 23, 24, 25, 26, 27, 28, 29]) (J := (fun fr w => ∃ I99, fr = [(1, Pt b1 0), (3, Pt b12 0), (4, .func (.func 42) #[] #[(Pt b1 0), (Pt b12 0)]), (5, .bool s48), (6, Sl a_r38 r38 c_r38), (7, Nv i50), (22, Sl w_p0.Grants.a p0.Grants w_p0.Grants.c), (23, Nv p0.Grants.length), (24, Nv i50), (73, .bool j97)] ∧ I81.Le I99 ∧ St E w I99 ((Bx b1 (cs_qCatalog p0 w_p0) 29) :: (Bx b12 [(Sl a6 s49 n5)] 90) :: (C_s49) :: Os))) ?_ ?_
 refine WO.cb hr3 (fun hc hr3 => ?_) (fun hc hr3 => ?_)
 refine yj 55 hc (yu ((cs_qCatalog p0 w_p0)) (hS90.rf m3) ?_)
 refine ya 13 57 (Pt b60 1) (yf (v := (.string x59.By)) (hS90.rf m2) ?_)
 refine ya 15 59 (Pt b60 2) (yf (v := (.string x59.Table)) (hS90.rf m2) ?_)
 obtain ⟨r106, hx_r101, hr3⟩ := bsm hr3
 refine y6 (grants_Owns_ok (h_p0.mono ((((hl20.trans hl42).trans hl47).trans hl69).trans hl82)) hS90 hx_r101) ?_
 intro I103 w102 hl104 hS105
 refine ya 18 62 (.bool r106) ?_
 obtain ⟨j107, hr4, hr3⟩ := bsm hr3
 refine WO.jw (l1 := [19, 20, 21, 22, 23, 24, 25, 26, 27, 28]) (J := (fun fr w => ∃ I109, fr = [(1, Pt b1 0), (3, Pt b12 0), (4, .func (.func 42) #[] #[(Pt b1 0), (Pt b12 0)]), (5, .bool s48), (6, Sl a_r38 r38 c_r38), (7, Nv i50), (22, Sl w_p0.Grants.a p0.Grants w_p0.Grants.c), (23, Nv p0.Grants.length), (24, Nv i50), (55, .bool true), (72, .bool j107)] ∧ I103.Le I109 ∧ St E w I109 ((Bx b1 (cs_qCatalog p0 w_p0) 29) :: (Bx b12 [(Sl a6 s49 n5)] 90) :: (C_s49) :: Os))) ?_ ?_
 refine WO.cb hr4 (fun hc hr4 => ?_) (fun hc hr4 => ?_)
 refine yj 62 hc ?_
 iterate 9 refine yt ?_
 refine ya 28 72 (.bool true) ?_
 obtain rfl := sj hr4
 exact yv ⟨I103, rfl, lr, hS105.drop.drop.drop⟩
 refine yj 62 hc (yu ((cs_qCatalog p0 w_p0)) (hS105.rf m3) ?_)
 refine WO.vs 20 [(64, Sl a_r38 r38 c_r38), (65, Pt b60 1)] (yf (v := (.string x59.By)) (hS105.rf m2) ?_)
 refine ya 23 67 (Pt b60 3) (yf (v := (Iv x59.Priv)) (hS105.rf m2) ?_)
 refine ya 25 69 (Pt b60 2) (yf (v := (.string x59.Table)) (hS105.rf m2) ?_)
 obtain ⟨r119, hx_r114, hr4⟩ := bsm hr4
 refine y6 (grants_has_ok (h_p0.mono (((((hl20.trans hl42).trans hl47).trans hl69).trans hl82).trans hl104)) (RSl.mono hp43 (((hl47.trans hl69).trans hl82).trans hl104)) hS105 hx_r114) ?_
 intro I116 w115 hl117 hS118
 refine ya 28 72 (.bool r119) ?_
 obtain rfl := sj hr4
 exact yv ⟨I116, rfl, hl117, hS118.drop.drop.drop⟩
 rintro _ w123 ⟨I109, rfl, hl110, hS124⟩
 refine ya 29 73 (.bool j107) ?_
 obtain rfl := sj hr3
 exact yv ⟨I109, rfl, (hl104.trans hl110), hS124⟩
 refine yj 55 hc ?_
 iterate 17 refine yt ?_
 refine ya 29 73 (.bool false) ?_
 obtain rfl := sj hr3
 exact yv ⟨I81, rfl, lr, hS90.drop.drop.drop⟩
 rintro _ w128 ⟨I99, rfl, hl100, hS129⟩
 refine yb ?_
 obtain ⟨j130, hr3, hr2⟩ := bsm hr2
 refine W.jw (J := (fun fr w => ∃ (s141 : Bool) (s142 : List Bool), ∃ I132 C_s142, (s141, s142) = j130 ∧ fr = [(1, Pt b1 0), (3, Pt b12 0), (4, .func (.func 42) #[] #[(Pt b1 0), (Pt b12 0)]), (5, .bool s141), (6, Sl a_r38 r38 c_r38), (22, Sl w_p0.Grants.a p0.Grants w_p0.Grants.c), (23, Nv p0.Grants.length), (24, Nv i50)] ∧ I99.Le I132 ∧ St E w I132 ((Bx b1 (cs_qCatalog p0 w_p0) 29) :: (Bx b12 [(Sl a6 s142 n5)] 90) :: (C_s142) :: Os) ∧ OwnSl 4 1 RBool I132 C_s142 a6 n5 s142)) ?_ ?_
 refine W.cb hr3 (fun hc hr3 => ?_) (fun hc hr3 => ?_)
 refine yd nL4 ?_
 refine yf (v := (Sl a6 s49 n5)) (hS129.rf m1) ?_
 refine ya 1 75 (Nv i50) ?_
 obtain ⟨x134, hr3, h0_x134, h1_x134, hx_x134, ha_x134, _, _, rfl, hc_x134⟩ := sl_at ((h_s49.mono ((hl69.trans hl82).trans hl100)).sl) hr3
 refine yq 4 1 ha_x134 h0_x134 h1_x134 ?_
 refine yan hS129.front2 (OwnSl.mono h_s49 ((hl69.trans hl82).trans hl100)) rfl (by kernel_rfl) rfl hx_x134 (u' := true) 0 rfl rfl (by kernel_rfl) rfl rfl (fun cs hrel => (by obtain rfl := hrel; exact rfl)) (fun _ _ _ => trivial) ?_
 intro w137 C138 hS136 ho139
 refine y7 74 rfl (show Value.slice a6 s49.length n5 = Value.slice a6 (s49.set ((i50 : Int)).toNat true).length n5 by simp only [List.length_set]) ?_
 have hS140 : St E w137 I99 ((C138) :: (Bx b1 (cs_qCatalog p0 w_p0) 29) :: (Bx b12 [(.slice a6 (s49.set ((i50 : Int)).toNat true).length n5)] 90) :: Os) := by have hq := hS136; simp only [List.length_set] at hq ⊢; exact hq
 refine yb (yaa [0] ?_)
 exact ya 0 5 (.bool true) (WO.nil (yo ⟨true, (s49.set ((i50 : Int)).toNat true), I99, C138, sj hr3, rfl, lr, hS140.front2.front2, ho139⟩))
 exact yg (yo ⟨s48, s49, I99, C_s49, sj hr3, rfl, lr, hS129, (OwnSl.mono h_s49 ((hl69.trans hl82).trans hl100))⟩)
 rintro _ w145 ⟨s141, s142, I132, C_s142, rfl, rfl, hl133, hS146, h_s142⟩
 refine yi (En.next (yaa nL2 ?_))
 refine y0 (j := i50) rfl (by kernel_rfl) rfl (by first | omega | (dsimp only at *; omega) | (simp only [List.length_cons, List.length_nil] at *; omega)) ?_
 refine ya 1 24 (Iv ((i50 + 1 : Nat) : Int)) (WO.nil ?_)
 obtain rfl := sj hr2
 exact yo ⟨I132, C_s142, rfl, ((((hl47.trans hl69).trans hl82).trans hl100).trans hl133), hS146, h_s142⟩
 rintro _ w147 ⟨I46, C_s49, rfl, hl47, hS148, h_s49⟩
 refine yd [0] ?_
 refine ya 0 25 (.bool (decide ((p0.Grants.length : Int) < (p0.Grants.length : Int)))) (yb (ye (yah (fun hc => ?_))))
 clear hc
 exact yy (yk (yl (yn (yi (yo ⟨(s48, s49), (sj hr1).symm, I46, C_s49, rfl, ((hl20.trans hl42).trans hl47), hS148, h_s49⟩)))))
 refine yy (yk (yl ?_))
 obtain rfl := hext18 _ (sj hr1).symm
 refine yn (En.next (yd nL3 ?_))
 refine ya 0 78 (.func (.func 42) #[] #[(Pt b1 0), (Pt b12 0)]) ?_
 have hS169 := hS28.front2
 have hp171 := (h_s22).publish hS169
 obtain ⟨r177, hx_r172, hr⟩ := bsm hr
 refine y8 (grants_Held_1_ok (h_p0.mono (hl20.trans (yaq I19 C_s22))) hp171 m0 m1 hS169.publish hx_r172) ?_
 rintro _ w173 ⟨I174, a_r177, c_r177, C_r177, rfl, hl175, hS176, h_r177⟩
 have hS178 := ya7 hS169 hl175 hS176
 have ho179 := ya9 h_r177 I19 (fun hq => hq)
 refine ⟨_, rfl, trivial, ?_⟩
 obtain ⟨I180, hl181, hS183, hp182⟩ := y4 ho179 hS178
 refine ya 2 2 (Sl a_r177 r177 c_r177) (yb (W.ret ?_))
 obtain rfl := sj hr
 exact yr ⟨I180, a_r177, c_r177, rfl, (hl20.trans hl181), hS183.drop.drop.drop, hp182⟩
noncomputable def grants_Trim (p0 : qCatalog) : Option qCatalog := (grants_Held p0).bind (fun r14 => some { p0 with Grants := r14 })
theorem grants_Trim_ok {p0 : qCatalog} {w_p0 : W_qCatalog} (h_p0 : ok_qCatalog I p0 w_p0) (hS : St E w I Os) {r : qCatalog} (hr : grants_Trim p0 = some r) :
    Calls P 20 #[(.agg (cs_qCatalog p0 w_p0).toArray)] w (fun e w' => ∃ I' w_rw0, e = .returned (.agg (cs_qCatalog r w_rw0).toArray) ∧ I.Le I' ∧ St E w' I' Os ∧ ok_qCatalog I' r w_rw0) := by
 refine calls_W (fn := Tryz.f20) rfl rfl rfl ?_
 unfold grants_Trim at hr
 refine yd nL2 ?_
 refine yx hS (cs_qCatalog p0 w_p0) 29 ?_
 intro b1 w4 hS3
 refine yx hS3 (cs_qCatalog z_qCatalog zw_qCatalog) 29 ?_
 intro b5 w8 hS7
 refine yz nL4 ?_
 refine yu ((cs_qCatalog p0 w_p0)) (hS7.rf m1) ?_
 obtain ⟨r14, hx_r9, hr⟩ := bsm hr
 refine y8 (grants_Held_ok h_p0 hS7 hx_r9) ?_
 rintro _ w10 ⟨I11, a_r14, c_r14, rfl, hl12, hS13, h_r14⟩
 refine ⟨_, rfl, trivial, ?_⟩
 refine ya 2 5 (Pt b1 3) (yw hS13.front1 3 (cs_qCatalog ({ p0 with Grants := r14 }) ({ w_p0 with Grants := ⟨a_r14, c_r14⟩ })) ?_)
 intro w17 hS16
 refine yz nL2 ?_
 refine yu ((cs_qCatalog ({ p0 with Grants := r14 }) ({ w_p0 with Grants := ⟨a_r14, c_r14⟩ }))) (hS16.rf m0) ?_
 refine yw hS16.front1 0 (cs_qCatalog ({ p0 with Grants := r14 }) ({ w_p0 with Grants := ⟨a_r14, c_r14⟩ })) ?_
 intro w20 hS19
 refine yb (W.ret ?_)
 have hk23 : ok_qCatalog I11 ({ p0 with Grants := r14 }) ({ w_p0 with Grants := ⟨a_r14, c_r14⟩ }) := ⟨(RSl.mono h_p0.Tables hl12), (RSl.mono h_p0.Roles hl12), h_r14⟩
 obtain rfl := sj hr
 exact yay _ (hS19.rd m0) ⟨I11, ({ w_p0 with Grants := ⟨a_r14, c_r14⟩ }), rfl, hl12, hS19.drop.drop, hk23⟩
noncomputable def grants_Make (p0 : qCatalog) (p1 : qStmt) (p2 : ByteArray) (p3 : Int) : Option (qCatalog × Int) := (bif ((decide (p1.Kind < 10)) || (decide (p1.Kind > 15))) then some (z_qCatalog, 2) else (member_Find p0.Roles p2).bind (fun (r25, r26) => (bif (!r26) then some (z_qCatalog, 4) else ((((bif (p1.Kind == 10) then some (p1.Kind == 10) else ((bif (p1.Kind == 11) then some (p1.Kind == 11) else some (p1.Kind == 12))).bind (fun (j63 : Bool) => some j63))).bind (fun (j54 : Bool) => (bif j54 then some (.inl ()) else (bif (p1.Kind == 13) then some (.inl ()) else (bif (p1.Kind == 14) then some (.inr (.inl ())) else some (.inr (.inr ()))))))).bind (fun (t : Unit ⊕ Unit ⊕ Unit) => match t with | (.inl ()) => (member_Is p0.Roles p2 (⟨#[114, 111, 111, 116]⟩ : ByteArray)).bind (fun r124 => (bif (!r124) then some (.inr (36, z_qCatalog, p0)) else none)) | (.inr (.inl ())) => none | (.inr (.inr ())) => (grants_take p0 p1 p2).bind (fun (r88, r89) => some (.inl (r89, z_qCatalog, { p0 with Grants := r88 }))))).bind (fun (t : (Int × qCatalog × qCatalog) ⊕ (Int × qCatalog × qCatalog)) => match t with | (.inl (s92, s93, s94)) => ((bif ((s92 == 0) && (decide (p0.Version ≥ p3))) then some 52 else some s92)).bind (fun (j145 : Int) => (bif (j145 != 0) then some (z_qCatalog, j145) else (grants_Trim ({ s94 with Version := (w64 (p0.Version + 1)) })).bind (fun r166 => some (r166, 0)))) | (.inr (s129, s130, s131)) => some (s130, s129)))))
theorem grants_Make_ok {p0 : qCatalog} {p1 : qStmt} {p2 : ByteArray} {p3 : Int} {w_p0 : W_qCatalog} {w_p1 : W_qStmt} (h_p0 : ok_qCatalog I p0 w_p0) (h_p1 : ok_qStmt I p1 w_p1) (hS : St E w I Os) {r : qCatalog × Int} (hr : grants_Make p0 p1 p2 p3 = some r) :
    Calls P 11 #[(.agg (cs_qCatalog p0 w_p0).toArray), (.agg (cs_qStmt p1 w_p1).toArray), (.string p2), (Iv p3)] w (fun e w' => ∃ I' w_rw0, e = .returned (.tuple #[(.agg (cs_qCatalog r.1 w_rw0).toArray), (Iv r.2)]) ∧ I.Le I' ∧ St E w' I' Os ∧ ok_qCatalog I' r.1 w_rw0) := by
 refine calls_W (fn := Tryz.f11) rfl rfl rfl ?_
 unfold grants_Make at hr
 refine yd nL4 ?_
 refine yx hS (cs_qCatalog p0 w_p0) 29 ?_
 intro b1 w4 hS3
 refine yx hS3 (cs_qStmt p1 w_p1) 44 ?_
 intro b5 w8 hS7
 refine yx hS7 (cs_qCatalog z_qCatalog zw_qCatalog) 29 ?_
 intro b9 w12 hS11
 refine ya 3 9 (Iv 0) (yb (ye (yd nL8 ?_)))
 refine ya 0 14 (Pt b5 0) (yf (v := (Iv p1.Kind)) (hS11.rf m1) ?_)
 refine WO.vs 2 [(16, .bool (decide (p1.Kind < 10))), (17, .bool (decide (p1.Kind < 10)))] (yac (l1 := [4, 5, 6, 7]) 21 ((decide (p1.Kind < 10)) || (decide (p1.Kind > 15))) ?_ ?_)
 refine yp (decide (p1.Kind < 10)) (fun hc => ?_) (fun hc => ?_)
 refine yj 17 hc ?_
 iterate 3 refine yt ?_
 exact ya 7 21 (.bool true) (WO.mk 17 hc (by rw [hc]; rfl))
 refine yj 17 hc (ya 4 18 (Pt b5 0) (yf (v := (Iv p1.Kind)) (hS11.rf m1) ?_))
 exact WO.vs 6 [(20, .bool (decide (p1.Kind > 15))), (21, .bool (decide (p1.Kind > 15)))] (WO.mk 17 hc (by rw [hc]; rfl))
 refine yb (W.cb hr (fun hc hr => ?_) (fun hc hr => ?_))
 refine yd nL3 ?_
 refine ya 0 22 (.agg (cs_qCatalog z_qCatalog zw_qCatalog).toArray) (yw hS11 0 (cs_qCatalog z_qCatalog zw_qCatalog) ?_)
 intro w16 hS15
 refine ya 2 9 (Iv 2) (yb (W.ret (yc ?_)))
 obtain rfl := sj hr
 exact yak _ (hS15.rd m0) ⟨I, zw_qCatalog, rfl, lr, hS15.drop.drop.drop, zok_qCatalog⟩
 refine yg (En.next (ye (yd nL10 ?_)))
 refine ya 0 24 (Pt b1 2) (yf (v := (Sl w_p0.Roles.a p0.Roles w_p0.Roles.c)) (hS11.rf m2) ?_)
 refine ya 2 26 (.string p2) ?_
 obtain ⟨⟨r25, r26⟩, hx_r20, hr⟩ := bsm hr
 refine y8 (member_Find_ok h_p0.Roles hS11 hx_r20) ?_
 rintro _ w21 ⟨I22, w_r25, rfl, hl23, hS24, h_r25⟩
 refine ⟨_, rfl, trivial, ?_⟩
 refine WO.vs 4 [(23, .tuple #[(.agg (cs_qRole r25 w_r25).toArray), (.bool r26)]), (28, .agg (cs_qRole r25 w_r25).toArray), (29, .bool r26)] (yx hS24 (cs_qRole z_qRole zw_qRole) 62 ?_)
 intro b27 w30 hS29
 refine yw hS29 0 (cs_qRole r25 w_r25) ?_
 intro w32 hS31
 refine ya 9 11 (.bool r26) (yz nL2 ?_)
 refine WO.vs 0 [(30, .bool r26), (31, .bool (!r26))] (yb (W.cb hr (fun hc hr => ?_) (fun hc hr => ?_)))
 refine yd nL3 ?_
 refine ya 0 32 (.agg (cs_qCatalog z_qCatalog zw_qCatalog).toArray) (yw hS31.front1 0 (cs_qCatalog z_qCatalog zw_qCatalog) ?_)
 intro w35 hS34
 refine ya 2 9 (Iv 4) (yb (W.ret (yc ?_)))
 obtain rfl := sj hr
 exact yak _ (hS34.rd m0) ⟨I22, zw_qCatalog, rfl, hl23, hS34.drop.drop.drop.drop, zok_qCatalog⟩
 refine yg (En.next (yd nL3 ?_))
 refine yu ((cs_qCatalog p0 w_p0)) (hS31.rf m3) ?_
 refine yx hS31 (cs_qCatalog z_qCatalog zw_qCatalog) 29 ?_
 intro b40 w43 hS42
 refine yw hS42 0 (cs_qCatalog p0 w_p0) ?_
 intro w45 hS44
 refine yz [0] ?_
 refine ya 0 13 (Iv 0) (yb (ye (yd nL2 ?_)))
 refine ya 0 34 (Pt b5 0) (yf (v := (Iv p1.Kind)) (hS44.rf m3) ?_)
 refine yb ?_
 obtain ⟨j46, hr1, hr⟩ := bsm hr
 refine W.jw (J := (fun fr w => ∃ (s92 : Int) (s93 : qCatalog) (s94 : qCatalog), ∃ I48 w_s93 w_s94, (.inl (s92, s93, s94)) = j46 ∧ fr = [(3, Iv p3), (4, Pt b1 0), (8, Pt b9 0), (12, Pt b40 0), (13, Iv s92)] ∧ I22.Le I48 ∧ St E w I48 ((Bx b1 (cs_qCatalog p0 w_p0) 29) :: (Bx b9 (cs_qCatalog s93 w_s93) 29) :: (Bx b40 (cs_qCatalog s94 w_s94) 29) :: Os) ∧ ok_qCatalog I48 s93 w_s93 ∧ ok_qCatalog I48 s94 w_s94)) ?_ ?_
 refine W.block (ye (W.block (ye (W.block (ye ?_)))))
 obtain ⟨j50, hr2, hr1⟩ := bsm hr1
 refine W.jw (J := (fun fr w => ∃ I52, (.inl ()) = j50 ∧ fr = [(2, .string p2), (3, Iv p3), (4, Pt b1 0), (5, Pt b5 0), (8, Pt b9 0), (12, Pt b40 0)] ∧ I22.Le I52 ∧ St E w I52 ((Bx b1 (cs_qCatalog p0 w_p0) 29) :: (Bx b5 (cs_qStmt p1 w_p1) 44) :: (Bx b9 (cs_qCatalog z_qCatalog zw_qCatalog) 29) :: (Bx b40 (cs_qCatalog p0 w_p0) 29) :: Os))) ?_ ?_
 refine W.block (W.block (ye (ye (ye (yd nL2 ?_)))))
 refine WO.vs 0 [(37, .bool (p1.Kind == 10)), (36, .bool (p1.Kind == 10))] (yb ?_)
 obtain ⟨j54, hr3, hr2⟩ := bsm hr2
 refine W.jw (J := (fun fr w => ∃ I56, fr = [(2, .string p2), (3, Iv p3), (4, Pt b1 0), (5, Pt b5 0), (8, Pt b9 0), (12, Pt b40 0), (35, Iv p1.Kind), (36, .bool j54)] ∧ I22.Le I56 ∧ St E w I56 ((Bx b1 (cs_qCatalog p0 w_p0) 29) :: (Bx b5 (cs_qStmt p1 w_p1) 44) :: (Bx b9 (cs_qCatalog z_qCatalog zw_qCatalog) 29) :: (Bx b40 (cs_qCatalog p0 w_p0) 29) :: Os))) ?_ ?_
 refine W.cb hr3 (fun hc hr3 => ?_) (fun hc hr3 => ?_)
 refine yg ?_
 obtain rfl := sj hr3
 exact yo ⟨I22, rfl, lr, hS44.front1.drop.front1.front2.front3⟩
 refine yd nL2 ?_
 refine WO.vs 0 [(38, .bool (p1.Kind == 11)), (36, .bool (p1.Kind == 11))] (yb ?_)
 obtain ⟨j63, hr4, hr3⟩ := bsm hr3
 refine W.jw (J := (fun fr w => ∃ I65, fr = [(2, .string p2), (3, Iv p3), (4, Pt b1 0), (5, Pt b5 0), (8, Pt b9 0), (12, Pt b40 0), (35, Iv p1.Kind), (36, .bool j63)] ∧ I22.Le I65 ∧ St E w I65 ((Bx b1 (cs_qCatalog p0 w_p0) 29) :: (Bx b5 (cs_qStmt p1 w_p1) 44) :: (Bx b9 (cs_qCatalog z_qCatalog zw_qCatalog) 29) :: (Bx b40 (cs_qCatalog p0 w_p0) 29) :: Os))) ?_ ?_
 refine W.cb hr4 (fun hc hr4 => ?_) (fun hc hr4 => ?_)
 refine yg ?_
 obtain rfl := sj hr4
 exact yo ⟨I22, rfl, lr, hS44.front1.drop.front1.front2.front3⟩
 refine yaa nL2 ?_
 refine WO.vs 0 [(39, .bool (p1.Kind == 12)), (36, .bool (p1.Kind == 12))] (WO.nil ?_)
 obtain rfl := sj hr4
 exact yo ⟨I22, rfl, lr, hS44.front1.drop.front1.front2.front3⟩
 rintro _ w77 ⟨I65, rfl, hl66, hS78⟩
 obtain rfl := sj hr3
 exact yo ⟨I65, rfl, hl66, hS78⟩
 rintro _ w79 ⟨I56, rfl, hl57, hS80⟩
 refine En.next (W.cb hr2 (fun hc hr2 => ?_) (fun hc hr2 => ?_))
 exact yy (yk (yk (yn (yi (yo ⟨I56, sj hr2, rfl, hl57, hS80⟩)))))
 refine yg (En.next (ye (yd nL2 ?_)))
 refine WO.vs 0 [(41, .bool (p1.Kind == 13)), (40, .bool (p1.Kind == 13))] (yb (W.cb hr2 (fun hc hr2 => ?_) (fun hc hr2 => ?_)))
 refine yy (yk (yk (yas rfl ?_)))
 exact yn (yo ⟨I56, sj hr2, rfl, hl57, hS80⟩)
 refine yg (En.next (yd nL2 ?_))
 refine WO.vs 0 [(43, .bool (p1.Kind == 14)), (42, .bool (p1.Kind == 14))] (yb (W.cb hr2 (fun hc hr2 => ?_) (fun hc hr2 => ?_)))
 refine yy (yk (yas rfl ?_))
 refine yas rfl ?_
 refine yl ?_
 obtain rfl := sj hr2
 refine yk (yn (En.next (yd nL10 ?_)))
 refine yu ((cs_qCatalog p0 w_p0)) (hS80.rf m0) ?_
 refine yu ((cs_qStmt p1 w_p1)) (hS80.rf m1) ?_
 refine ya 2 60 (.string p2) ?_
 cases hr1
 refine yg (En.next (yy (yas rfl ?_)))
 refine yas rfl ?_
 refine yl ?_
 obtain rfl := sj hr2
 refine yk (yas rfl ?_)
 refine yk (yn (En.next (yd nL10 ?_)))
 refine yu ((cs_qCatalog p0 w_p0)) (hS80.rf m0) ?_
 refine yu ((cs_qStmt p1 w_p1)) (hS80.rf m1) ?_
 refine ya 2 68 (.string p2) ?_
 obtain ⟨⟨r107, r108⟩, hx_r102, hr1⟩ := bsm hr1
 refine y8 (grants_take_ok (h_p0.mono (hl23.trans hl57)) (h_p1.mono (hl23.trans hl57)) hS80 hx_r102) ?_
 rintro _ w103 ⟨I104, a_r107, c_r107, rfl, hl105, hS106, h_r107⟩
 refine ⟨_, rfl, trivial, ?_⟩
 refine WO.vs 4 [(65, .tuple #[(Sl a_r107 r107 c_r107), (Iv r108)]), (70, Sl a_r107 r107 c_r107), (71, Iv r108), (72, Pt b40 3)] (yw hS106.front3 3 (cs_qCatalog ({ p0 with Grants := r107 }) ({ w_p0 with Grants := ⟨a_r107, c_r107⟩ })) ?_)
 intro w111 hS110
 refine ya 9 13 (Iv r108) (yb (yy (yn ?_)))
 have hk112 : ok_qCatalog I104 ({ p0 with Grants := r107 }) ({ w_p0 with Grants := ⟨a_r107, c_r107⟩ }) := ⟨(RSl.mono h_p0.Tables ((hl23.trans hl57).trans hl105)), (RSl.mono h_p0.Roles ((hl23.trans hl57).trans hl105)), h_r107⟩
 exact yo ⟨r108, z_qCatalog, { p0 with Grants := r107 }, I104, zw_qCatalog, ({ w_p0 with Grants := ⟨a_r107, c_r107⟩ }), sj hr1, rfl, (hl57.trans hl105), hS110.front2.drop.front2.front2, zok_qCatalog, hk112⟩
 rintro _ w117 ⟨I52, rfl, rfl, hl53, hS118⟩
 refine En.next (ye (ye (yd nL5 ?_)))
 refine ya 0 44 (Pt b1 2) (yf (v := (Sl w_p0.Roles.a p0.Roles w_p0.Roles.c)) (hS118.rf m0) ?_)
 refine ya 2 46 (.string p2) ?_
 obtain ⟨r124, hx_r119, hr1⟩ := bsm hr1
 refine y6 (member_Is_ok (RSl.mono h_p0.Roles (hl23.trans hl53)) hS118 hx_r119) ?_
 intro I121 w120 hl122 hS123
 refine ya 4 48 (.bool (!r124)) (yb (W.cb hr1 (fun hc hr1 => ?_) (fun hc hr1 => ?_)))
 refine yd nL3 ?_
 refine ya 0 49 (.agg (cs_qCatalog z_qCatalog zw_qCatalog).toArray) (yw hS123.front2 0 (cs_qCatalog z_qCatalog zw_qCatalog) ?_)
 intro w127 hS126
 refine ya 2 9 (Iv 36) (yb (W.ret (yc (yc (yh (yc (yh (yc (yh (ym ?_))))))))))
 obtain rfl := sj hr1
 refine yc ?_
 obtain rfl := sj hr
 exact yak _ (hS126.rd m0) ⟨I121, zw_qCatalog, rfl, ((hl23.trans hl53).trans hl122), hS126.drop.drop.drop.drop, zok_qCatalog⟩
 refine yg (En.next (yaa nL9 ?_))
 refine yu ((cs_qCatalog p0 w_p0)) (hS123.rf m0) ?_
 refine yu ((cs_qStmt p1 w_p1)) (hS123.rf m1) ?_
 cases hr1
 rintro _ w141 ⟨s92, s93, s94, I48, w_s93, w_s94, rfl, rfl, hl49, hS142, h_s93, h_s94⟩
 refine En.next (ye (yd nL8 ?_))
 refine WO.vs 0 [(73, Iv s92), (74, .bool (s92 == 0)), (75, .bool (s92 == 0))] (yac (l1 := [3, 4, 5, 6, 7]) 80 ((s92 == 0) && (decide (p0.Version ≥ p3))) ?_ ?_)
 refine yp (s92 == 0) (fun hc => ?_) (fun hc => ?_)
 refine yj 75 hc (ya 3 76 (Pt b1 0) (yf (v := (Iv p0.Version)) (hS142.rf m0) ?_))
 exact WO.vs 5 [(78, Iv p3), (79, .bool (decide (p0.Version ≥ p3))), (80, .bool (decide (p0.Version ≥ p3)))] (WO.mk 75 hc (by rw [hc]; rfl))
 refine yj 75 hc ?_
 iterate 4 refine yt ?_
 exact ya 7 80 (.bool false) (WO.mk 75 hc (by rw [hc]; rfl))
 refine yb ?_
 obtain ⟨j145, hr1, hr⟩ := bsm hr
 refine W.jw (J := (fun fr w => ∃ I147, fr = [(4, Pt b1 0), (8, Pt b9 0), (12, Pt b40 0), (13, Iv j145)] ∧ I48.Le I147 ∧ St E w I147 ((Bx b1 (cs_qCatalog p0 w_p0) 29) :: (Bx b9 (cs_qCatalog s93 w_s93) 29) :: (Bx b40 (cs_qCatalog s94 w_s94) 29) :: Os))) ?_ ?_
 refine W.cb hr1 (fun hc hr1 => ?_) (fun hc hr1 => ?_)
 refine yaa [0] ?_
 refine ya 0 13 (Iv 52) (WO.nil ?_)
 obtain rfl := sj hr1
 exact yo ⟨I48, rfl, lr, hS142⟩
 refine yg ?_
 obtain rfl := sj hr1
 exact yo ⟨I48, rfl, lr, hS142⟩
 rintro _ w149 ⟨I147, rfl, hl148, hS150⟩
 refine En.next (ye (yd nL2 ?_))
 refine WO.vs 0 [(81, Iv j145), (82, .bool (j145 != 0))] (yb (W.cb hr (fun hc hr => ?_) (fun hc hr => ?_)))
 refine yd nL4 ?_
 refine WO.vs 0 [(83, .agg (cs_qCatalog z_qCatalog zw_qCatalog).toArray), (84, Iv j145)] (yw hS150.front1 0 (cs_qCatalog z_qCatalog zw_qCatalog) ?_)
 intro w153 hS152
 refine ya 3 9 (Iv j145) (yb (W.ret (yc ?_)))
 obtain rfl := sj hr
 exact yak _ (hS152.rd m0) ⟨I147, zw_qCatalog, rfl, ((hl23.trans hl49).trans hl148), hS152.drop.drop.drop, zok_qCatalog⟩
 refine yg (En.next (yd nL5 ?_))
 refine ya 0 85 (Pt b1 0) (yf (v := (Iv p0.Version)) (hS150.rf m0) ?_)
 refine WO.vs 2 [(87, Iv (w64 (p0.Version + 1))), (88, Pt b40 0)] (yw hS150.front2 0 (cs_qCatalog ({ s94 with Version := (w64 (p0.Version + 1)) }) w_s94) ?_)
 intro w159 hS158
 refine yz nL4 ?_
 refine yu ((cs_qCatalog ({ s94 with Version := (w64 (p0.Version + 1)) }) w_s94)) (hS158.rf m0) ?_
 have hk160 : ok_qCatalog I147 ({ s94 with Version := (w64 (p0.Version + 1)) }) w_s94 := ⟨(RSl.mono h_s94.Tables hl148), (RSl.mono h_s94.Roles hl148), (RSl.mono h_s94.Grants hl148)⟩
 obtain ⟨r166, hx_r161, hr⟩ := bsm hr
 refine y8 (grants_Trim_ok hk160 hS158 hx_r161) ?_
 rintro _ w162 ⟨I163, w_r166, rfl, hl164, hS165, h_r166⟩
 refine ⟨_, rfl, trivial, ?_⟩
 refine yw hS165.front2 0 (cs_qCatalog r166 w_r166) ?_
 intro w169 hS168
 refine ya 3 9 (Iv 0) (yb (W.ret ?_))
 obtain rfl := sj hr
 exact yak _ (hS168.rd m0) ⟨I163, w_r166, rfl, (((hl23.trans hl49).trans hl148).trans hl164), hS168.drop.drop.drop, h_r166⟩
noncomputable def grants_May (p0 : qCatalog) (p1 : ByteArray) (p2 : Int) (p3 : ByteArray) : Option Bool := (grants_Owns p0 p1 p3).bind (fun r12 => ((bif r12 then some true else (grants_Held p0).bind (fun r22 => (grants_has p0 r22 p1 p2 p3 false).bind (fun r28 => some r28)))).bind (fun (j13 : Bool) => some j13))
theorem grants_May_ok {p0 : qCatalog} {p1 : ByteArray} {p2 : Int} {p3 : ByteArray} {w_p0 : W_qCatalog} (h_p0 : ok_qCatalog I p0 w_p0) (hS : St E w I Os) {r : Bool} (hr : grants_May p0 p1 p2 p3 = some r) :
    Calls P 23 #[(.agg (cs_qCatalog p0 w_p0).toArray), (.string p1), (Iv p2), (.string p3)] w (fun e w' => ∃ I', e = .returned (.bool r) ∧ I.Le I' ∧ St E w' I' Os) := by
 refine calls_W (fn := Tryz.f23) rfl rfl rfl ?_
 unfold grants_May at hr
 refine yd nL2 ?_
 refine yx hS (cs_qCatalog p0 w_p0) 29 ?_
 intro b1 w4 hS3
 refine ya 1 8 (.bool false) (yb (ye ?_))
 have hS5 := hS3.drew
 refine yao nL14 13 (KR.cons (hS5.rd m0) (KR.nil hS5.im)) ?_
 generalize World.drew _ = w6 at *
 refine yu ((cs_qCatalog p0 w_p0)) (rd_c m0 (hS5.rd m0)) ?_
 refine WO.vs 1 [(10, .string p1), (11, .string p3)] ?_
 obtain ⟨r12, hx_r7, hr⟩ := bsm hr
 refine y8 (grants_Owns_ok h_p0 hS5 hx_r7) ?_
 rintro _ w8 ⟨I9, rfl, hl10, hS11⟩
 refine ⟨_, rfl, (KR.cons (hS11.rd m0) (KR.nil (hS11.im.of_le hl10))), ?_⟩
 refine ya 4 13 (.bool r12) ?_
 obtain ⟨j13, hr1, hr⟩ := bsm hr
 refine WO.jw (l1 := [5, 6, 7, 8, 9, 10, 11, 12]) (J := (fun fr w => ∃ I15, fr = [(21, .bool j13)] ∧ I9.Le I15 ∧ St E w I15 ((Bx b1 (cs_qCatalog p0 w_p0) 29) :: Os))) ?_ ?_
 refine WO.cb hr1 (fun hc hr1 => ?_) (fun hc hr1 => ?_)
 refine yj 13 hc ?_
 iterate 7 refine yt ?_
 refine ya 12 21 (.bool true) ?_
 obtain rfl := sj hr1
 exact yv ⟨I9, rfl, lr, hS11⟩
 refine yj 13 hc (yu ((cs_qCatalog p0 w_p0)) (rd_c m0 (hS11.rd m0)) ?_)
 refine yu ((cs_qCatalog p0 w_p0)) (rd_c m0 (hS11.rd m0)) ?_
 obtain ⟨r22, hx_r17, hr1⟩ := bsm hr1
 refine y8 (grants_Held_ok (h_p0.mono hl10) hS11 hx_r17) ?_
 rintro _ w18 ⟨I19, a_r22, c_r22, rfl, hl20, hS21, h_r22⟩
 refine ⟨_, rfl, (KR.cons (hS21.rd m0) (KR.nil (hS21.im.of_le (hl10.trans hl20)))), ?_⟩
 refine WO.vs 8 [(17, .string p1), (18, Iv p2), (19, .string p3)] ?_
 obtain ⟨r28, hx_r23, hr1⟩ := bsm hr1
 refine y8 (grants_has_ok (h_p0.mono (hl10.trans hl20)) h_r22 hS21 hx_r23) ?_
 rintro _ w24 ⟨I25, rfl, hl26, hS27⟩
 refine ⟨_, rfl, (KR.cons (hS27.rd m0) (KR.nil (hS27.im.of_le ((hl10.trans hl20).trans hl26)))), ?_⟩
 refine ya 12 21 (.bool r28) ?_
 obtain rfl := sj hr1
 exact yv ⟨I25, rfl, (hl20.trans hl26), hS27⟩
 rintro _ w29 ⟨I15, rfl, hl16, hS30⟩
 refine WO.tail rfl ?_
 refine ya 13 8 (.bool j13) (yb (W.ret ?_))
 obtain rfl := sj hr
 exact yr ⟨I15, rfl, (hl10.trans hl16), hS30.drop⟩
def law19_works_1 (p0 : ByteArray) (p1 : ByteArray) : Option law19_Act := some (⟨{ z_qStmt with Kind := 14, Table := (⟨#[116]⟩ : ByteArray), Role := p1, Priv := 1, Option := true }, p0⟩ : law19_Act)
theorem law19_works_1_ok {p0 : ByteArray} {p1 : ByteArray} (hS : St E w I Os) {r : law19_Act} (hr : law19_works_1 p0 p1 = some r) :
    Calls P 29 #[(.string p0), (.string p1)] w (fun e w' => ∃ I' w_rw0, e = .returned (.agg (cs_law19_Act r w_rw0).toArray) ∧ I.Le I' ∧ St E w' I' Os ∧ ok_law19_Act I' r w_rw0) := by
 refine calls_W (fn := Tryz.f29) rfl rfl rfl ?_
 unfold law19_works_1 at hr
 refine yd [0] ?_
 refine yx hS (cs_law19_Act z_law19_Act zw_law19_Act) 46 ?_
 intro b1 w4 hS3
 refine yz nL5 ?_
 refine WO.vs 0 [(5, .string p1), (6, .agg (cs_qStmt ({ z_qStmt with Kind := 14, Table := (⟨#[116]⟩ : ByteArray), Role := p1, Priv := 1, Option := true }) zw_qStmt).toArray), (7, .string p0), (8, .agg (cs_law19_Act (⟨{ z_qStmt with Kind := 14, Table := (⟨#[116]⟩ : ByteArray), Role := p1, Priv := 1, Option := true }, p0⟩ : law19_Act) (⟨zw_qStmt⟩ : W_law19_Act)).toArray)] (yw hS3 0 (cs_law19_Act (⟨{ z_qStmt with Kind := 14, Table := (⟨#[116]⟩ : ByteArray), Role := p1, Priv := 1, Option := true }, p0⟩ : law19_Act) (⟨zw_qStmt⟩ : W_law19_Act)) ?_)
 intro w6 hS5
 refine yb (W.ret ?_)
 have hk8 : ok_law19_Act I (⟨{ z_qStmt with Kind := 14, Table := (⟨#[116]⟩ : ByteArray), Role := p1, Priv := 1, Option := true }, p0⟩ : law19_Act) (⟨zw_qStmt⟩ : W_law19_Act) := ⟨⟨SlAt.nil, SlAt.nil, SlAt.nil, SlAt.nil, zok_qStmt.Where, SlAt.nil, SlAt.nil, SlAt.nil⟩⟩
 obtain rfl := sj hr
 exact yay _ (hS5.rd m0) ⟨I, (⟨zw_qStmt⟩ : W_law19_Act), rfl, lr, hS5.drop, hk8⟩
noncomputable def law19_works  : Option Bool := (law19_works_1 (⟨#[97, 110, 110]⟩ : ByteArray) (⟨#[98, 111, 98]⟩ : ByteArray)).bind (fun r6 => (law19_works_1 (⟨#[98, 111, 98]⟩ : ByteArray) (⟨#[99, 121]⟩ : ByteArray)).bind (fun r12 => (law19_Grown ([r6, r12] : List law19_Act)).bind (fun r29 => (grants_Make r29 ({ z_qStmt with Kind := 15, Table := (⟨#[116]⟩ : ByteArray), Role := (⟨#[98, 111, 98]⟩ : ByteArray), Priv := 1 }) (⟨#[97, 110, 110]⟩ : ByteArray) 1000).bind (fun (r42, r43) => ((bif (r43 == 0) then (grants_May r29 (⟨#[99, 121]⟩ : ByteArray) 1 (⟨#[116]⟩ : ByteArray)).bind (fun r59 => some r59) else some false)).bind (fun (j50 : Bool) => ((bif j50 then (grants_May r42 (⟨#[99, 121]⟩ : ByteArray) 1 (⟨#[116]⟩ : ByteArray)).bind (fun r76 => some (!r76)) else some false)).bind (fun (j67 : Bool) => some (j67 && ((r42.Grants.length : Int) == 0))))))))
theorem law19_works_ok (hS : St E w I Os) {r : Bool} (hr : law19_works = some r) :
    Calls P 8 #[] w (fun e w' => ∃ I', e = .returned (.bool r) ∧ I.Le I' ∧ St E w' I' Os) := by
 refine calls_W (fn := Tryz.f8) rfl rfl rfl ?_
 unfold law19_works at hr
 refine yd [0] ?_
 refine ya 0 0 (.bool false) (yz [0] ?_)
 refine ya 0 1 (.func (.func 29) #[] #[]) (yz nL8 ?_)
 refine ya 0 5 (.func (.func 29) #[] #[]) ?_
 obtain ⟨r6, hx_r1, hr⟩ := bsm hr
 refine y8 (law19_works_1_ok  hS hx_r1) ?_
 rintro _ w2 ⟨I3, w_r6, rfl, hl4, hS5, h_r6⟩
 refine ⟨_, rfl, trivial, ?_⟩
 refine ya 2 7 (.func (.func 29) #[] #[]) ?_
 obtain ⟨r12, hx_r7, hr⟩ := bsm hr
 refine y8 (law19_works_1_ok  hS5 hx_r7) ?_
 rintro _ w8 ⟨I9, w_r12, rfl, hl10, hS11, h_r12⟩
 refine ⟨_, rfl, trivial, ?_⟩
 refine y3 (rel := R_law19_Act) (xs := ([r6, r12] : List law19_Act)) hS11 rfl (by kernel_rfl) rfl 46 22 [(cs_law19_Act r6 w_r6), (cs_law19_Act r12 w_r12)] (by kernel_rfl) rfl ((Elr.cons ⟨w_r6, rfl, (h_r6.mono hl10)⟩ (Elr.cons ⟨w_r12, rfl, h_r12⟩ Elr.nil))) (fun _ _ _ => trivial) ?_
 intro a16 C14 w18 hS17 ho15
 obtain ⟨I20, hl21, hS23, hp22⟩ := y4 ho15 hS17
 obtain ⟨r29, hx_r24, hr⟩ := bsm hr
 refine y8 (law19_Grown_ok hp22 hS23 hx_r24) ?_
 rintro _ w25 ⟨I26, w_r29, rfl, hl27, hS28, h_r29⟩
 refine ⟨_, rfl, trivial, ?_⟩
 refine yx hS28 (cs_qCatalog z_qCatalog zw_qCatalog) 29 ?_
 intro b30 w33 hS32
 refine yw hS32 0 (cs_qCatalog r29 w_r29) ?_
 intro w35 hS34
 refine yz nL9 ?_
 refine yu ((cs_qCatalog r29 w_r29)) (hS34.rf m0) ?_
 refine ya 1 13 (.agg (cs_qStmt ({ z_qStmt with Kind := 15, Table := (⟨#[116]⟩ : ByteArray), Role := (⟨#[98, 111, 98]⟩ : ByteArray), Priv := 1 }) zw_qStmt).toArray) ?_
 have hk36 : ok_qStmt I26 ({ z_qStmt with Kind := 15, Table := (⟨#[116]⟩ : ByteArray), Role := (⟨#[98, 111, 98]⟩ : ByteArray), Priv := 1 }) zw_qStmt := ⟨SlAt.nil, SlAt.nil, SlAt.nil, SlAt.nil, zok_qStmt.Where, SlAt.nil, SlAt.nil, SlAt.nil⟩
 obtain ⟨⟨r42, r43⟩, hx_r37, hr⟩ := bsm hr
 refine y8 (grants_Make_ok h_r29 hk36 hS34 hx_r37) ?_
 rintro _ w38 ⟨I39, w_r42, rfl, hl40, hS41, h_r42⟩
 refine ⟨_, rfl, trivial, ?_⟩
 refine WO.vs 3 [(11, .tuple #[(.agg (cs_qCatalog r42 w_r42).toArray), (Iv r43)]), (15, .agg (cs_qCatalog r42 w_r42).toArray), (16, Iv r43)] (yx hS41 (cs_qCatalog z_qCatalog zw_qCatalog) 29 ?_)
 intro b44 w47 hS46
 refine yw hS46 0 (cs_qCatalog r42 w_r42) ?_
 intro w49 hS48
 refine ya 8 4 (Iv r43) (yz nL18 ?_)
 refine WO.vs 0 [(17, Iv r43), (18, .bool (r43 == 0)), (19, .bool (r43 == 0))] ?_
 obtain ⟨j50, hr1, hr⟩ := bsm hr
 refine WO.jw (l1 := [3, 4, 5]) (J := (fun fr w => ∃ I52, fr = [(3, Pt b44 0), (22, .bool j50)] ∧ I39.Le I52 ∧ St E w I52 ((Bx b44 (cs_qCatalog r42 w_r42) 29) :: Os))) ?_ ?_
 refine WO.cb hr1 (fun hc hr1 => ?_) (fun hc hr1 => ?_)
 refine yj 19 hc (yu ((cs_qCatalog r29 w_r29)) (hS48.rf m1) ?_)
 obtain ⟨r59, hx_r54, hr1⟩ := bsm hr1
 refine y6 (grants_May_ok (h_r29.mono hl40) hS48 hx_r54) ?_
 intro I56 w55 hl57 hS58
 refine ya 5 22 (.bool r59) ?_
 obtain rfl := sj hr1
 exact yv ⟨I56, rfl, hl57, hS58.front1.drop⟩
 refine yj 19 hc ?_
 iterate 2 refine yt ?_
 refine ya 5 22 (.bool false) ?_
 obtain rfl := sj hr1
 exact yv ⟨I39, rfl, lr, hS48.front1.drop⟩
 rintro _ w65 ⟨I52, rfl, hl53, hS66⟩
 refine ya 6 23 (.bool j50) ?_
 obtain ⟨j67, hr1, hr⟩ := bsm hr
 refine WO.jw (l1 := [7, 8, 9, 10]) (J := (fun fr w => ∃ I69, fr = [(3, Pt b44 0), (27, .bool j67)] ∧ I52.Le I69 ∧ St E w I69 ((Bx b44 (cs_qCatalog r42 w_r42) 29) :: Os))) ?_ ?_
 refine WO.cb hr1 (fun hc hr1 => ?_) (fun hc hr1 => ?_)
 refine yj 23 hc (yu ((cs_qCatalog r42 w_r42)) (hS66.rf m0) ?_)
 obtain ⟨r76, hx_r71, hr1⟩ := bsm hr1
 refine y6 (grants_May_ok (h_r42.mono hl53) hS66 hx_r71) ?_
 intro I73 w72 hl74 hS75
 refine WO.vs 9 [(26, .bool (!r76)), (27, .bool (!r76))] ?_
 obtain rfl := sj hr1
 exact yv ⟨I73, rfl, hl74, hS75⟩
 refine yj 23 hc ?_
 iterate 3 refine yt ?_
 refine ya 10 27 (.bool false) ?_
 obtain rfl := sj hr1
 exact yv ⟨I52, rfl, lr, hS66⟩
 rintro _ w77 ⟨I69, rfl, hl70, hS78⟩
 refine ya 11 28 (.bool j67) (yac (l1 := [12, 13, 14, 15, 16]) 33 (j67 && ((r42.Grants.length : Int) == 0)) ?_ ?_)
 refine yp j67 (fun hc => ?_) (fun hc => ?_)
 refine yj 28 hc (ya 12 29 (Pt b44 3) (yf (v := (Sl w_r42.Grants.a r42.Grants w_r42.Grants.c)) (hS78.rf m0) ?_))
 exact WO.vs 14 [(31, Nv r42.Grants.length), (32, .bool ((r42.Grants.length : Int) == 0)), (33, .bool ((r42.Grants.length : Int) == 0))] (WO.mk 28 hc (by rw [hc]; rfl))
 refine yj 28 hc ?_
 iterate 4 refine yt ?_
 exact ya 16 33 (.bool false) (WO.mk 28 hc (by rw [hc]; rfl))
 refine ya 17 0 (.bool (j67 && ((r42.Grants.length : Int) == 0))) (yb (W.ret ?_))
 obtain rfl := sj hr
 exact yr ⟨I69, rfl, ((((((hl4.trans hl10).trans hl21).trans hl27).trans hl40).trans hl53).trans hl70), hS78.drop⟩
def r19_Same (p0 : List qGrant) (p1 : List qGrant) : Option Bool := (bif ((p0.length : Int) != (p1.length : Int)) then some false else (forN (fun (i4 : Nat) => fun (_s : Unit) => (idx p0 (i4 : Int)).bind (fun x13 => (idx p1 (i4 : Int)).bind (fun x14 => (bif (!(sEq x13.To x14.To && (sEq x13.By x14.By && (sEq x13.Table x14.Table && ((x13.Priv == x14.Priv) && (x13.Option == x14.Option)))))) then some (.inr false) else some (.inl ()))))) p0.length 0 ()).bind (fun (t : Unit ⊕ (Bool)) => match t with | .inl _ => some true | .inr s16 => some s16))
theorem r19_Same_ok {p0 : List qGrant} {p1 : List qGrant} {a_p0 : Option Addr} {c_p0 : Nat} {a_p1 : Option Addr} {c_p1 : Nat} (h_p0 : RSl 5 R_qGrant I a_p0 c_p0 p0) (h_p1 : RSl 5 R_qGrant I a_p1 c_p1 p1) (hS : St E w I Os) {r : Bool} (hr : r19_Same p0 p1 = some r) :
    Calls P 17 #[(Sl a_p0 p0 c_p0), (Sl a_p1 p1 c_p1)] w (fun e w' => ∃ I', e = .returned (.bool r) ∧ I.Le I' ∧ St E w' I' Os) := by
 refine calls_W (fn := Tryz.f17) rfl rfl rfl ?_
 unfold r19_Same at hr
 refine yd [0] ?_
 refine ya 0 4 (.bool false) (yb (ye (yd nL5 ?_)))
 refine WO.vs 0 [(6, Sl a_p0 p0 c_p0), (7, Nv p0.length), (8, Sl a_p1 p1 c_p1), (9, Nv p1.length), (10, .bool ((p0.length : Int) != (p1.length : Int)))] (yb (W.cb hr (fun hc hr => ?_) (fun hc hr => ?_)))
 refine yd [0] ?_
 refine ya 0 4 (.bool false) (yb (W.ret (yc ?_)))
 obtain rfl := sj hr
 exact yr ⟨I, rfl, lr, hS⟩
 refine yg (En.next (ye (yd [0] ?_)))
 refine ya 0 5 (Iv 0) (yb (W.block ?_))
 obtain ⟨t1, hloop5, hr⟩ := bsm hr
 have hlt9 := (h_p0).len_lt
 refine W.wk (W.forN (m := p0.length) hloop5 (fun (i4 : Nat) => fun (_s : Unit) fr w => ∃ I2, fr = [(0, Sl a_p0 p0 c_p0), (1, Sl a_p1 p1 c_p1), (5, Nv i4)] ∧ I.Le I2 ∧ St E w I2 Os) ⟨I, rfl, lr, hS⟩ ?_ ?_)
 rintro i4 _ _ w6 hi10 ⟨I2, rfl, hl3, hS7⟩ x8 hr1 hext1
 refine ye (yd nL4 ?_)
 refine WO.vs 0 [(11, Nv i4), (12, Sl a_p0 p0 c_p0), (13, Nv p0.length), (14, .bool (decide ((i4 : Int) < (p0.length : Int))))] (yb (yag (fun hc => ?_)))
 clear hc
 refine yg (En.next (ye (W.block (ye ?_))))
 have hS11 := hS7.drew
 refine yao nL9 8 (KR.nil hS11.im) ?_
 generalize World.drew _ = w12 at *
 refine WO.vs 0 [(17, Sl a_p0 p0 c_p0), (18, Nv i4)] ?_
 obtain ⟨x13, hr1, h0_x13, h1_x13, hx_x13, ha_x13, _, _, rfl, hc_x13⟩ := sl_at ((RSl.mono h_p0 hl3)) hr1
 refine yq 67 5 ha_x13 h0_x13 h1_x13 ?_
 refine yai ((cs_qGrant x13)) hc_x13 0 (rd_i hS11.im) ?_
 refine WO.vs 4 [(21, Sl a_p1 p1 c_p1), (22, Nv i4)] ?_
 obtain ⟨x14, hr1, h0_x14, h1_x14, hx_x14, ha_x14, _, _, rfl, hc_x14⟩ := sl_at ((RSl.mono h_p1 hl3)) hr1
 refine yq 67 5 ha_x14 h0_x14 h1_x14 ?_
 refine yai ((cs_qGrant x14)) hc_x14 0 (rd_i hS11.im) ?_
 refine WO.tail rfl ?_
 refine ya2 rfl (by kernel_rfl) rfl rfl (by kernel_rfl) 50 rfl (b := (sEq x13.To x14.To && (sEq x13.By x14.By && (sEq x13.Table x14.Table && ((x13.Priv == x14.Priv) && ((x13.Option == x14.Option) && true)))))) (by kernel_rfl) (!(sEq x13.To x14.To && (sEq x13.By x14.By && (sEq x13.Table x14.Table && ((x13.Priv == x14.Priv) && (x13.Option == x14.Option)))))) (.inr ⟨rfl, by simp only [Bool.and_true]⟩) ?_
 refine yb (W.cb hr1 (fun hc hr1 => ?_) (fun hc hr1 => ?_))
 refine yd [0] ?_
 refine ya 0 4 (.bool false) (yb (W.ret (yh (yc (ym ?_)))))
 obtain rfl := hext1 _ (sj hr1).symm
 refine yh (yc ?_)
 obtain rfl := sj hr
 exact yr ⟨I2, rfl, hl3, hS11⟩
 refine yg (yi (En.next (yaa nL3 ?_)))
 refine ya 0 15 (Nv i4) (y0 (j := i4) rfl (by kernel_rfl) rfl (by first | omega | (dsimp only at *; omega) | (simp only [List.length_cons, List.length_nil] at *; omega)) ?_)
 exact ya 2 5 (Iv ((i4 + 1 : Nat) : Int)) (WO.nil (yo ⟨(), (sj hr1).symm, I2, rfl, hl3, hS11⟩))
 rintro _ _ w17 ⟨I2, rfl, hl3, hS18⟩ he
 cases he
 refine ye (yd nL4 ?_)
 refine WO.vs 0 [(11, Nv p0.length), (12, Sl a_p0 p0 c_p0), (13, Nv p0.length), (14, .bool (decide ((p0.length : Int) < (p0.length : Int))))] (yb (yah (fun hc => ?_)))
 clear hc
 refine yy (yk (yl (yn (En.next (yd [0] ?_)))))
 refine ya 0 4 (.bool true) (yb (W.ret ?_))
 obtain rfl := sj hr
 exact yr ⟨I2, rfl, hl3, hS18⟩
noncomputable def r19_May (p0 : qCatalog) (p1 : ByteArray) (p2 : Int) (p3 : ByteArray) : Option Bool := (r19_Owns p0 p1 p3).bind (fun r12 => ((bif r12 then some true else (r19_Held p0).bind (fun r22 => (r19_has p0 r22 p1 p2 p3 false).bind (fun r28 => some r28)))).bind (fun (j13 : Bool) => some j13))
theorem r19_May_ok {p0 : qCatalog} {p1 : ByteArray} {p2 : Int} {p3 : ByteArray} {w_p0 : W_qCatalog} (h_p0 : ok_qCatalog I p0 w_p0) (hS : St E w I Os) {r : Bool} (hr : r19_May p0 p1 p2 p3 = some r) :
    Calls P 24 #[(.agg (cs_qCatalog p0 w_p0).toArray), (.string p1), (Iv p2), (.string p3)] w (fun e w' => ∃ I', e = .returned (.bool r) ∧ I.Le I' ∧ St E w' I' Os) := by
 refine calls_W (fn := Tryz.f24) rfl rfl rfl ?_
 unfold r19_May at hr
 refine yd nL2 ?_
 refine yx hS (cs_qCatalog p0 w_p0) 29 ?_
 intro b1 w4 hS3
 refine ya 1 8 (.bool false) (yb (ye ?_))
 have hS5 := hS3.drew
 refine yao nL14 13 (KR.cons (hS5.rd m0) (KR.nil hS5.im)) ?_
 generalize World.drew _ = w6 at *
 refine yu ((cs_qCatalog p0 w_p0)) (rd_c m0 (hS5.rd m0)) ?_
 refine WO.vs 1 [(10, .string p1), (11, .string p3)] ?_
 obtain ⟨r12, hx_r7, hr⟩ := bsm hr
 refine y8 (r19_Owns_ok h_p0 hS5 hx_r7) ?_
 rintro _ w8 ⟨I9, rfl, hl10, hS11⟩
 refine ⟨_, rfl, (KR.cons (hS11.rd m0) (KR.nil (hS11.im.of_le hl10))), ?_⟩
 refine ya 4 13 (.bool r12) ?_
 obtain ⟨j13, hr1, hr⟩ := bsm hr
 refine WO.jw (l1 := [5, 6, 7, 8, 9, 10, 11, 12]) (J := (fun fr w => ∃ I15, fr = [(21, .bool j13)] ∧ I9.Le I15 ∧ St E w I15 ((Bx b1 (cs_qCatalog p0 w_p0) 29) :: Os))) ?_ ?_
 refine WO.cb hr1 (fun hc hr1 => ?_) (fun hc hr1 => ?_)
 refine yj 13 hc ?_
 iterate 7 refine yt ?_
 refine ya 12 21 (.bool true) ?_
 obtain rfl := sj hr1
 exact yv ⟨I9, rfl, lr, hS11⟩
 refine yj 13 hc (yu ((cs_qCatalog p0 w_p0)) (rd_c m0 (hS11.rd m0)) ?_)
 refine yu ((cs_qCatalog p0 w_p0)) (rd_c m0 (hS11.rd m0)) ?_
 obtain ⟨r22, hx_r17, hr1⟩ := bsm hr1
 refine y8 (r19_Held_ok (h_p0.mono hl10) hS11 hx_r17) ?_
 rintro _ w18 ⟨I19, a_r22, c_r22, rfl, hl20, hS21, h_r22⟩
 refine ⟨_, rfl, (KR.cons (hS21.rd m0) (KR.nil (hS21.im.of_le (hl10.trans hl20)))), ?_⟩
 refine WO.vs 8 [(17, .string p1), (18, Iv p2), (19, .string p3)] ?_
 obtain ⟨r28, hx_r23, hr1⟩ := bsm hr1
 refine y8 (r19_has_ok (h_p0.mono (hl10.trans hl20)) h_r22 hS21 hx_r23) ?_
 rintro _ w24 ⟨I25, rfl, hl26, hS27⟩
 refine ⟨_, rfl, (KR.cons (hS27.rd m0) (KR.nil (hS27.im.of_le ((hl10.trans hl20).trans hl26)))), ?_⟩
 refine ya 12 21 (.bool r28) ?_
 obtain rfl := sj hr1
 exact yv ⟨I25, rfl, (hl20.trans hl26), hS27⟩
 rintro _ w29 ⟨I15, rfl, hl16, hS30⟩
 refine WO.tail rfl ?_
 refine ya 13 8 (.bool j13) (yb (W.ret ?_))
 obtain rfl := sj hr
 exact yr ⟨I15, rfl, (hl10.trans hl16), hS30.drop⟩
noncomputable def grants_Can (p0 : qCatalog) (p1 : ByteArray) (p2 : Int) (p3 : ByteArray) : Option Bool := (grants_Owns p0 p1 p3).bind (fun r12 => ((bif r12 then some true else (grants_Held p0).bind (fun r22 => (grants_has p0 r22 p1 p2 p3 true).bind (fun r28 => some r28)))).bind (fun (j13 : Bool) => some j13))
theorem grants_Can_ok {p0 : qCatalog} {p1 : ByteArray} {p2 : Int} {p3 : ByteArray} {w_p0 : W_qCatalog} (h_p0 : ok_qCatalog I p0 w_p0) (hS : St E w I Os) {r : Bool} (hr : grants_Can p0 p1 p2 p3 = some r) :
    Calls P 25 #[(.agg (cs_qCatalog p0 w_p0).toArray), (.string p1), (Iv p2), (.string p3)] w (fun e w' => ∃ I', e = .returned (.bool r) ∧ I.Le I' ∧ St E w' I' Os) := by
 refine calls_W (fn := Tryz.f25) rfl rfl rfl ?_
 unfold grants_Can at hr
 refine yd nL2 ?_
 refine yx hS (cs_qCatalog p0 w_p0) 29 ?_
 intro b1 w4 hS3
 refine ya 1 8 (.bool false) (yb (ye ?_))
 have hS5 := hS3.drew
 refine yao nL14 13 (KR.cons (hS5.rd m0) (KR.nil hS5.im)) ?_
 generalize World.drew _ = w6 at *
 refine yu ((cs_qCatalog p0 w_p0)) (rd_c m0 (hS5.rd m0)) ?_
 refine WO.vs 1 [(10, .string p1), (11, .string p3)] ?_
 obtain ⟨r12, hx_r7, hr⟩ := bsm hr
 refine y8 (grants_Owns_ok h_p0 hS5 hx_r7) ?_
 rintro _ w8 ⟨I9, rfl, hl10, hS11⟩
 refine ⟨_, rfl, (KR.cons (hS11.rd m0) (KR.nil (hS11.im.of_le hl10))), ?_⟩
 refine ya 4 13 (.bool r12) ?_
 obtain ⟨j13, hr1, hr⟩ := bsm hr
 refine WO.jw (l1 := [5, 6, 7, 8, 9, 10, 11, 12]) (J := (fun fr w => ∃ I15, fr = [(21, .bool j13)] ∧ I9.Le I15 ∧ St E w I15 ((Bx b1 (cs_qCatalog p0 w_p0) 29) :: Os))) ?_ ?_
 refine WO.cb hr1 (fun hc hr1 => ?_) (fun hc hr1 => ?_)
 refine yj 13 hc ?_
 iterate 7 refine yt ?_
 refine ya 12 21 (.bool true) ?_
 obtain rfl := sj hr1
 exact yv ⟨I9, rfl, lr, hS11⟩
 refine yj 13 hc (yu ((cs_qCatalog p0 w_p0)) (rd_c m0 (hS11.rd m0)) ?_)
 refine yu ((cs_qCatalog p0 w_p0)) (rd_c m0 (hS11.rd m0)) ?_
 obtain ⟨r22, hx_r17, hr1⟩ := bsm hr1
 refine y8 (grants_Held_ok (h_p0.mono hl10) hS11 hx_r17) ?_
 rintro _ w18 ⟨I19, a_r22, c_r22, rfl, hl20, hS21, h_r22⟩
 refine ⟨_, rfl, (KR.cons (hS21.rd m0) (KR.nil (hS21.im.of_le (hl10.trans hl20)))), ?_⟩
 refine WO.vs 8 [(17, .string p1), (18, Iv p2), (19, .string p3)] ?_
 obtain ⟨r28, hx_r23, hr1⟩ := bsm hr1
 refine y8 (grants_has_ok (h_p0.mono (hl10.trans hl20)) h_r22 hS21 hx_r23) ?_
 rintro _ w24 ⟨I25, rfl, hl26, hS27⟩
 refine ⟨_, rfl, (KR.cons (hS27.rd m0) (KR.nil (hS27.im.of_le ((hl10.trans hl20).trans hl26)))), ?_⟩
 refine ya 12 21 (.bool r28) ?_
 obtain rfl := sj hr1
 exact yv ⟨I25, rfl, (hl20.trans hl26), hS27⟩
 rintro _ w29 ⟨I15, rfl, hl16, hS30⟩
 refine WO.tail rfl ?_
 refine ya 13 8 (.bool j13) (yb (W.ret ?_))
 obtain rfl := sj hr
 exact yr ⟨I15, rfl, (hl10.trans hl16), hS30.drop⟩
noncomputable def law19_GrantsTell (p0 : List law19_Act) (p1 : List qGrant) (p2 : List qRole) : Option Bool := (law19_Few p0).bind (fun r6 => ((bif (!r6) then some true else (r19_Few p1).bind (fun r16 => some (!r16)))).bind (fun (j7 : Bool) => ((bif j7 then some true else (r18_Few p2).bind (fun r28 => some (!r28)))).bind (fun (j19 : Bool) => (bif j19 then (law19_works).bind (fun r36 => some r36) else (law19_Grown p0).bind (fun r42 => (app 64 ([] : List qGrant) r42.Grants).bind (fun x56 => (app 64 x56 p1).bind (fun x63 => ((bif (decide ((p2.length : Int) > 0)) then some { r42 with Roles := p2, Grants := x63 } else some { r42 with Grants := x63 })).bind (fun (j76 : qCatalog) => (grants_Held j76).bind (fun r93 => (r19_Held j76).bind (fun r99 => (r19_Same r93 r99).bind (fun r105 => ((bif (!r105) then some true else (grants_Trim j76).bind (fun r115 => (r19_Held j76).bind (fun r121 => (r19_Same r115.Grants r121).bind (fun r127 => some (!r127)))))).bind (fun (j106 : Bool) => (bif j106 then some false else (forN (fun (i134 : Nat) => fun (_s : Unit) => (idx j76.Roles (i134 : Int)).bind (fun x141 => (grants_Owns j76 x141.Name (⟨#[116]⟩ : ByteArray)).bind (fun r149 => (r19_Owns j76 x141.Name (⟨#[116]⟩ : ByteArray)).bind (fun r155 => (bif (!(r149 == r155)) then some (.inr false) else (forN (fun (i163 : Nat) => fun (_s : Unit) => (grants_May j76 x141.Name (i163 : Int) (⟨#[116]⟩ : ByteArray)).bind (fun r177 => (r19_May j76 x141.Name (i163 : Int) (⟨#[116]⟩ : ByteArray)).bind (fun r183 => ((bif (!(r177 == r183)) then some true else (grants_Can j76 x141.Name (i163 : Int) (⟨#[116]⟩ : ByteArray)).bind (fun r193 => (r19_Can j76 x141.Name (i163 : Int) (⟨#[116]⟩ : ByteArray)).bind (fun r199 => some (!(r193 == r199)))))).bind (fun (j184 : Bool) => (bif j184 then some (.inr false) else some (.inl ())))))) 5 0 ()).bind (fun (t : Unit ⊕ (Bool)) => match t with | .inl _ => some (.inl ()) | .inr s203 => some (.inr s203))))))) j76.Roles.length 0 ()).bind (fun (t : Unit ⊕ (Bool)) => match t with | .inl _ => (law19_works).bind (fun r215 => some r215) | .inr s157 => some s157))))))))))))))
theorem law19_GrantsTell_ok {p0 : List law19_Act} {p1 : List qGrant} {p2 : List qRole} {a_p0 : Option Addr} {c_p0 : Nat} {a_p1 : Option Addr} {c_p1 : Nat} {a_p2 : Option Addr} {c_p2 : Nat} (h_p0 : RSl 22 R_law19_Act I a_p0 c_p0 p0) (h_p1 : RSl 5 R_qGrant I a_p1 c_p1 p1) (h_p2 : RSl 2 R_qRole I a_p2 c_p2 p2) (hS : St E w I Os) {r : Bool} (hr : law19_GrantsTell p0 p1 p2 = some r) :
    Calls P 4 #[(Sl a_p0 p0 c_p0), (Sl a_p1 p1 c_p1), (Sl a_p2 p2 c_p2)] w (fun e w' => ∃ I', e = .returned (.bool r) ∧ I.Le I' ∧ St E w' I' Os) := by
 refine calls_W (fn := Tryz.f4) rfl rfl rfl ?_
 unfold law19_GrantsTell at hr
 refine yd [0] ?_
 refine ya 0 6 (.bool false) (yb (ye (yd nL13 ?_)))
 refine ya 0 11 (Sl a_p0 p0 c_p0) ?_
 obtain ⟨r6, hx_r1, hr⟩ := bsm hr
 refine y6 (law19_Few_ok h_p0 hS hx_r1) ?_
 intro I3 w2 hl4 hS5
 refine WO.vs 2 [(13, .bool (!r6)), (14, .bool (!r6))] ?_
 obtain ⟨j7, hr1, hr⟩ := bsm hr
 refine WO.jw (l1 := [4, 5, 6, 7]) (J := (fun fr w => ∃ I9, fr = [(0, Sl a_p0 p0 c_p0), (1, Sl a_p1 p1 c_p1), (2, Sl a_p2 p2 c_p2), (18, .bool j7)] ∧ I3.Le I9 ∧ St E w I9 Os)) ?_ ?_
 refine WO.cb hr1 (fun hc hr1 => ?_) (fun hc hr1 => ?_)
 refine yj 14 hc ?_
 iterate 3 refine yt ?_
 refine ya 7 18 (.bool true) ?_
 obtain rfl := sj hr1
 exact yv ⟨I3, rfl, lr, hS5⟩
 refine yj 14 hc (ya 4 15 (Sl a_p1 p1 c_p1) ?_)
 obtain ⟨r16, hx_r11, hr1⟩ := bsm hr1
 refine y6 (r19_Few_ok (RSl.mono h_p1 hl4) hS5 hx_r11) ?_
 intro I13 w12 hl14 hS15
 refine WO.vs 6 [(17, .bool (!r16)), (18, .bool (!r16))] ?_
 obtain rfl := sj hr1
 exact yv ⟨I13, rfl, hl14, hS15⟩
 rintro _ w17 ⟨I9, rfl, hl10, hS18⟩
 refine ya 8 19 (.bool j7) ?_
 obtain ⟨j19, hr1, hr⟩ := bsm hr
 refine WO.jw (l1 := [9, 10, 11, 12]) (J := (fun fr w => ∃ I21, fr = [(0, Sl a_p0 p0 c_p0), (1, Sl a_p1 p1 c_p1), (2, Sl a_p2 p2 c_p2), (23, .bool j19)] ∧ I9.Le I21 ∧ St E w I21 Os)) ?_ ?_
 refine WO.cb hr1 (fun hc hr1 => ?_) (fun hc hr1 => ?_)
 refine yj 19 hc ?_
 iterate 3 refine yt ?_
 refine ya 12 23 (.bool true) ?_
 obtain rfl := sj hr1
 exact yv ⟨I9, rfl, lr, hS18⟩
 refine yj 19 hc (ya 9 20 (Sl a_p2 p2 c_p2) ?_)
 obtain ⟨r28, hx_r23, hr1⟩ := bsm hr1
 refine y6 (r18_Few_ok (RSl.mono h_p2 (hl4.trans hl10)) hS18 hx_r23) ?_
 intro I25 w24 hl26 hS27
 refine WO.vs 11 [(22, .bool (!r28)), (23, .bool (!r28))] ?_
 obtain rfl := sj hr1
 exact yv ⟨I25, rfl, hl26, hS27⟩
 rintro _ w29 ⟨I21, rfl, hl22, hS30⟩
 refine yb (W.cb hr (fun hc hr => ?_) (fun hc hr => ?_))
 refine yd nL2 ?_
 obtain ⟨r36, hx_r31, hr⟩ := bsm hr
 refine y6 (law19_works_ok  hS30 hx_r31) ?_
 intro I33 w32 hl34 hS35
 refine ya 1 6 (.bool r36) (yb (W.ret (yc ?_)))
 obtain rfl := sj hr
 exact yr ⟨I33, rfl, (((hl4.trans hl10).trans hl22).trans hl34), hS35⟩
 refine yg (En.next (yd nL4 ?_))
 refine ya 0 25 (Sl a_p0 p0 c_p0) ?_
 obtain ⟨r42, hx_r37, hr⟩ := bsm hr
 refine y8 (law19_Grown_ok (RSl.mono h_p0 ((hl4.trans hl10).trans hl22)) hS30 hx_r37) ?_
 rintro _ w38 ⟨I39, w_r42, rfl, hl40, hS41, h_r42⟩
 refine ⟨_, rfl, trivial, ?_⟩
 refine yx hS41 (cs_qCatalog z_qCatalog zw_qCatalog) 29 ?_
 intro b43 w46 hS45
 refine yw hS45 0 (cs_qCatalog r42 w_r42) ?_
 intro w48 hS47
 refine yz nL8 ?_
 refine y3 (rel := R_qGrant) (xs := ([] : List qGrant)) hS47 rfl (by kernel_rfl) rfl 67 5 [] (by kernel_rfl) rfl (Elr.nil) (fun _ _ _ => trivial) ?_
 intro a52 C50 w54 hS53 ho51
 refine ya 1 28 (Pt b43 3) (yf (v := (Sl w_r42.Grants.a r42.Grants w_r42.Grants.c)) (hS53.rf m1) ?_)
 obtain ⟨x56, hx_x56, hr⟩ := bsm hr
 obtain ⟨h0_x56, he_x56⟩ := app_some hx_x56
 refine WO.ap 67 64 (cs_qGrant z_qGrant) hS53 ho51 h_r42.Grants hS53.im h0_x56 he_x56 ?_
 intro a57 c58 w59 C60 hS61 ho62
 refine ya 4 31 (Sl a_p1 p1 c_p1) ?_
 obtain ⟨x63, hx_x63, hr⟩ := bsm hr
 obtain ⟨h0_x63, he_x63⟩ := app_some hx_x63
 refine WO.ap 67 64 (cs_qGrant z_qGrant) hS61 ho62 (RSl.mono h_p1 (((hl4.trans hl10).trans hl22).trans hl40)) hS61.im h0_x63 he_x63 ?_
 intro a64 c65 w66 C67 hS68 ho69
 refine ya 6 33 (Pt b43 3) ?_
 obtain ⟨I70, hl71, hS73, hp72⟩ := y4 ho69 hS68
 refine yw hS73 3 (cs_qCatalog ({ r42 with Grants := x63 }) ({ w_r42 with Grants := ⟨a64, c65⟩ })) ?_
 intro w75 hS74
 refine yb (ye (yd nL3 ?_))
 refine WO.vs 0 [(34, Sl a_p2 p2 c_p2), (35, Nv p2.length), (36, .bool (decide ((p2.length : Int) > 0)))] (yb ?_)
 obtain ⟨j76, hr1, hr⟩ := bsm hr
 refine W.jw (J := (fun fr w => ∃ I78 w_j76, fr = [(7, Pt b43 0)] ∧ I70.Le I78 ∧ St E w I78 ((Bx b43 (cs_qCatalog j76 w_j76) 29) :: Os) ∧ ok_qCatalog I78 j76 w_j76)) ?_ ?_
 refine W.cb hr1 (fun hc hr1 => ?_) (fun hc hr1 => ?_)
 refine yaa nL3 ?_
 refine WO.vs 0 [(37, Sl a_p2 p2 c_p2), (38, Pt b43 2)] (yw hS74 2 (cs_qCatalog ({ r42 with Roles := p2, Grants := x63 }) ({ w_r42 with Roles := ⟨a_p2, c_p2⟩, Grants := ⟨a64, c65⟩ })) ?_)
 intro w81 hS80
 refine WO.nil ?_
 have hk82 : ok_qCatalog I70 ({ r42 with Roles := p2, Grants := x63 }) ({ w_r42 with Roles := ⟨a_p2, c_p2⟩, Grants := ⟨a64, c65⟩ }) := ⟨(RSl.mono h_r42.Tables hl71), (RSl.mono h_p2 ((((hl4.trans hl10).trans hl22).trans hl40).trans hl71)), hp72⟩
 obtain rfl := sj hr1
 exact yo ⟨I70, ({ w_r42 with Roles := ⟨a_p2, c_p2⟩, Grants := ⟨a64, c65⟩ }), rfl, lr, hS80, hk82⟩
 refine yg ?_
 have hk83 : ok_qCatalog I70 ({ r42 with Grants := x63 }) ({ w_r42 with Grants := ⟨a64, c65⟩ }) := ⟨(RSl.mono h_r42.Tables hl71), (RSl.mono h_r42.Roles hl71), hp72⟩
 obtain rfl := sj hr1
 exact yo ⟨I70, ({ w_r42 with Grants := ⟨a64, c65⟩ }), rfl, lr, hS74, hk83⟩
 rintro _ w84 ⟨I78, w_j76, rfl, hl79, hS85, h_j76⟩
 refine En.next (ye (ye ?_))
 have hS86 := hS85.drew
 refine yao nL15 15 (KR.cons (hS86.rd m0) (KR.nil hS86.im)) ?_
 generalize World.drew _ = w87 at *
 refine yu ((cs_qCatalog j76 w_j76)) (rd_c m0 (hS86.rd m0)) ?_
 obtain ⟨r93, hx_r88, hr⟩ := bsm hr
 refine y8 (grants_Held_ok h_j76 hS86 hx_r88) ?_
 rintro _ w89 ⟨I90, a_r93, c_r93, rfl, hl91, hS92, h_r93⟩
 refine ⟨_, rfl, (KR.cons (hS92.rd m0) (KR.nil (hS92.im.of_le hl91))), ?_⟩
 refine yu ((cs_qCatalog j76 w_j76)) (rd_c m0 (hS92.rd m0)) ?_
 obtain ⟨r99, hx_r94, hr⟩ := bsm hr
 refine y8 (r19_Held_ok (h_j76.mono hl91) hS92 hx_r94) ?_
 rintro _ w95 ⟨I96, a_r99, c_r99, rfl, hl97, hS98, h_r99⟩
 refine ⟨_, rfl, (KR.cons (hS98.rd m0) (KR.nil (hS98.im.of_le (hl91.trans hl97)))), ?_⟩
 obtain ⟨r105, hx_r100, hr⟩ := bsm hr
 refine y8 (r19_Same_ok (RSl.mono h_r93 hl97) h_r99 hS98 hx_r100) ?_
 rintro _ w101 ⟨I102, rfl, hl103, hS104⟩
 refine ⟨_, rfl, (KR.cons (hS104.rd m0) (KR.nil (hS104.im.of_le ((hl91.trans hl97).trans hl103)))), ?_⟩
 refine WO.vs 5 [(44, .bool (!r105)), (45, .bool (!r105))] ?_
 obtain ⟨j106, hr1, hr⟩ := bsm hr
 refine WO.jw (l1 := [7, 8, 9, 10, 11, 12, 13, 14]) (J := (fun fr w => ∃ I108, fr = [(7, Pt b43 0), (53, .bool j106)] ∧ I102.Le I108 ∧ St E w I108 ((Bx b43 (cs_qCatalog j76 w_j76) 29) :: Os))) ?_ ?_
 refine WO.cb hr1 (fun hc hr1 => ?_) (fun hc hr1 => ?_)
 refine yj 45 hc ?_
 iterate 7 refine yt ?_
 refine ya 14 53 (.bool true) ?_
 obtain rfl := sj hr1
 exact yv ⟨I102, rfl, lr, hS104⟩
 refine yj 45 hc (yu ((cs_qCatalog j76 w_j76)) (rd_c m0 (hS104.rd m0)) ?_)
 obtain ⟨r115, hx_r110, hr1⟩ := bsm hr1
 refine y8 (grants_Trim_ok (h_j76.mono ((hl91.trans hl97).trans hl103)) hS104 hx_r110) ?_
 rintro _ w111 ⟨I112, w_r115, rfl, hl113, hS114, h_r115⟩
 refine ⟨_, rfl, (KR.cons (hS114.rd m0) (KR.nil (hS114.im.of_le (((hl91.trans hl97).trans hl103).trans hl113)))), ?_⟩
 refine ya 9 48 (Sl w_r115.Grants.a r115.Grants w_r115.Grants.c) (yu ((cs_qCatalog j76 w_j76)) (rd_c m0 (hS114.rd m0)) ?_)
 obtain ⟨r121, hx_r116, hr1⟩ := bsm hr1
 refine y8 (r19_Held_ok (h_j76.mono (((hl91.trans hl97).trans hl103).trans hl113)) hS114 hx_r116) ?_
 rintro _ w117 ⟨I118, a_r121, c_r121, rfl, hl119, hS120, h_r121⟩
 refine ⟨_, rfl, (KR.cons (hS120.rd m0) (KR.nil (hS120.im.of_le ((((hl91.trans hl97).trans hl103).trans hl113).trans hl119)))), ?_⟩
 obtain ⟨r127, hx_r122, hr1⟩ := bsm hr1
 refine y8 (r19_Same_ok (RSl.mono h_r115.Grants hl119) h_r121 hS120 hx_r122) ?_
 rintro _ w123 ⟨I124, rfl, hl125, hS126⟩
 refine ⟨_, rfl, (KR.cons (hS126.rd m0) (KR.nil (hS126.im.of_le (((((hl91.trans hl97).trans hl103).trans hl113).trans hl119).trans hl125)))), ?_⟩
 refine WO.vs 13 [(52, .bool (!r127)), (53, .bool (!r127))] ?_
 obtain rfl := sj hr1
 exact yv ⟨I124, rfl, ((hl113.trans hl119).trans hl125), hS126⟩
 rintro _ w128 ⟨I108, rfl, hl109, hS129⟩
 refine yb (W.cb hr (fun hc hr => ?_) (fun hc hr => ?_))
 refine yd [0] ?_
 refine ya 0 6 (.bool false) (yb (W.ret (yc ?_)))
 obtain rfl := sj hr
 exact yr ⟨I108, rfl, (((((((((hl4.trans hl10).trans hl22).trans hl40).trans hl71).trans hl79).trans hl91).trans hl97).trans hl103).trans hl109), hS129.drop⟩
 refine yg (En.next (ye (yd [0] ?_)))
 refine ya 0 8 (Iv 0) (yb (W.block ?_))
 obtain ⟨t131, hloop135, hr⟩ := bsm hr
 have hlt139 := ((RSl.mono h_j76.Roles (((hl91.trans hl97).trans hl103).trans hl109))).len_lt
 refine W.wk (W.forN (m := j76.Roles.length) hloop135 (fun (i134 : Nat) => fun (_s : Unit) fr w => ∃ I132, fr = [(7, Pt b43 0), (8, Nv i134)] ∧ I108.Le I132 ∧ St E w I132 ((Bx b43 (cs_qCatalog j76 w_j76) 29) :: Os)) ⟨I108, rfl, lr, hS129⟩ ?_ ?_)
 rintro i134 _ _ w136 hi140 ⟨I132, rfl, hl133, hS137⟩ x138 hr1 hext131
 refine ye (yd nL5 ?_)
 refine WO.vs 0 [(54, Nv i134), (55, Pt b43 2)] (yf (v := (Sl w_j76.Roles.a j76.Roles w_j76.Roles.c)) (hS137.rf m0) ?_)
 refine WO.vs 3 [(57, Nv j76.Roles.length), (58, .bool (decide ((i134 : Int) < (j76.Roles.length : Int))))] (yb (yag (fun hc => ?_)))
 clear hc
 refine yg (En.next (ye (W.block (yd nL7 ?_))))
 refine ya 0 61 (Pt b43 2) (yf (v := (Sl w_j76.Roles.a j76.Roles w_j76.Roles.c)) (hS137.rf m0) ?_)
 refine ya 2 63 (Nv i134) ?_
 obtain ⟨x141, hr1, h0_x141, h1_x141, hx_x141, ha_x141, _, _, ⟨w_x141, rfl, h_x141⟩, hc_x141⟩ := sl_at ((RSl.mono h_j76.Roles ((((hl91.trans hl97).trans hl103).trans hl109).trans hl133))) hr1
 refine yq 62 2 ha_x141 h0_x141 h1_x141 ?_
 refine ya 4 65 (.pointer (some ⟨bl w_j76.Roles.a, of w_j76.Roles.a + ((i134 : Int)).toNat * 2, none⟩)) (yae (v := (.string x141.Name)) hc_x141 hS137.rm ?_)
 refine ya 6 9 (.string x141.Name) (yb (ye (ye ?_)))
 have hS142 := hS137.drew
 refine yao nL7 5 (KR.cons (hS142.rd m0) (KR.nil hS142.im)) ?_
 generalize World.drew _ = w143 at *
 refine yu ((cs_qCatalog j76 w_j76)) (rd_c m0 (hS142.rd m0)) ?_
 refine ya 1 68 (.string x141.Name) ?_
 obtain ⟨r149, hx_r144, hr1⟩ := bsm hr1
 refine y8 (grants_Owns_ok (h_j76.mono ((((hl91.trans hl97).trans hl103).trans hl109).trans hl133)) hS142 hx_r144) ?_
 rintro _ w145 ⟨I146, rfl, hl147, hS148⟩
 refine ⟨_, rfl, (KR.cons (hS148.rd m0) (KR.nil (hS148.im.of_le hl147))), ?_⟩
 refine yu ((cs_qCatalog j76 w_j76)) (rd_c m0 (hS148.rd m0)) ?_
 refine ya 4 71 (.string x141.Name) (WO.tail rfl ?_)
 obtain ⟨r155, hx_r150, hr1⟩ := bsm hr1
 refine y6 (r19_Owns_ok (h_j76.mono (((((hl91.trans hl97).trans hl103).trans hl109).trans hl133).trans hl147)) hS148 hx_r150) ?_
 intro I152 w151 hl153 hS154
 refine ya 6 73 (.bool (!(r149 == r155))) (yb (W.cb hr1 (fun hc hr1 => ?_) (fun hc hr1 => ?_)))
 refine yd [0] ?_
 refine ya 0 6 (.bool false) (yb (W.ret (yc (yh (yc (ym ?_))))))
 obtain rfl := hext131 _ (sj hr1).symm
 refine yh (yc ?_)
 obtain rfl := sj hr
 exact yr ⟨I152, rfl, ((((((((((((hl4.trans hl10).trans hl22).trans hl40).trans hl71).trans hl79).trans hl91).trans hl97).trans hl103).trans hl109).trans hl133).trans hl147).trans hl153), hS154.drop⟩
 refine yg (En.next (yd [0] ?_))
 refine ya 0 10 (Iv 0) (yb (W.block ?_))
 obtain ⟨t160, hloop164, hr1⟩ := bsm hr1
 have hlt168 : (5 : Nat) < big := by decide
 refine W.wk (W.forN (m := 5) hloop164 (fun (i163 : Nat) => fun (_s : Unit) fr w => ∃ I161, fr = [(7, Pt b43 0), (8, Nv i134), (9, .string x141.Name), (10, Nv i163)] ∧ I152.Le I161 ∧ St E w I161 ((Bx b43 (cs_qCatalog j76 w_j76) 29) :: Os)) ⟨I152, rfl, lr, hS154⟩ ?_ ?_)
 rintro i163 _ _ w165 hi169 ⟨I161, rfl, hl162, hS166⟩ x167 hr2 hext160
 refine ye (yd nL2 ?_)
 refine WO.vs 0 [(74, Nv i163), (75, .bool (decide ((i163 : Int) < 5)))] (yb (yag (fun hc => ?_)))
 clear hc
 refine yg (En.next (ye (W.block (ye ?_))))
 have hS170 := hS166.drew
 refine yao nL20 20 (KR.cons (hS170.rd m0) (KR.nil hS170.im)) ?_
 generalize World.drew _ = w171 at *
 refine yu ((cs_qCatalog j76 w_j76)) (rd_c m0 (hS170.rd m0)) ?_
 refine WO.vs 1 [(79, .string x141.Name), (80, Nv i163)] ?_
 obtain ⟨r177, hx_r172, hr2⟩ := bsm hr2
 refine y8 (grants_May_ok (h_j76.mono (((((((hl91.trans hl97).trans hl103).trans hl109).trans hl133).trans hl147).trans hl153).trans hl162)) hS170 hx_r172) ?_
 rintro _ w173 ⟨I174, rfl, hl175, hS176⟩
 refine ⟨_, rfl, (KR.cons (hS176.rd m0) (KR.nil (hS176.im.of_le hl175))), ?_⟩
 refine yu ((cs_qCatalog j76 w_j76)) (rd_c m0 (hS176.rd m0)) ?_
 refine WO.vs 5 [(83, .string x141.Name), (84, Nv i163)] ?_
 obtain ⟨r183, hx_r178, hr2⟩ := bsm hr2
 refine y8 (r19_May_ok (h_j76.mono ((((((((hl91.trans hl97).trans hl103).trans hl109).trans hl133).trans hl147).trans hl153).trans hl162).trans hl175)) hS176 hx_r178) ?_
 rintro _ w179 ⟨I180, rfl, hl181, hS182⟩
 refine ⟨_, rfl, (KR.cons (hS182.rd m0) (KR.nil (hS182.im.of_le (hl175.trans hl181)))), ?_⟩
 refine WO.vs 8 [(86, .bool (!(r177 == r183))), (87, .bool (!(r177 == r183)))] ?_
 obtain ⟨j184, hr3, hr2⟩ := bsm hr2
 refine WO.jw (l1 := [10, 11, 12, 13, 14, 15, 16, 17, 18, 19]) (J := (fun fr w => ∃ I186, fr = [(7, Pt b43 0), (8, Nv i134), (9, .string x141.Name), (10, Nv i163), (97, .bool j184)] ∧ I180.Le I186 ∧ St E w I186 ((Bx b43 (cs_qCatalog j76 w_j76) 29) :: Os))) ?_ ?_
 refine WO.cb hr3 (fun hc hr3 => ?_) (fun hc hr3 => ?_)
 refine yj 87 hc ?_
 iterate 9 refine yt ?_
 refine ya 19 97 (.bool true) ?_
 obtain rfl := sj hr3
 exact yv ⟨I180, rfl, lr, hS182⟩
 refine yj 87 hc (yu ((cs_qCatalog j76 w_j76)) (rd_c m0 (hS182.rd m0)) ?_)
 refine WO.vs 11 [(89, .string x141.Name), (90, Nv i163)] ?_
 obtain ⟨r193, hx_r188, hr3⟩ := bsm hr3
 refine y8 (grants_Can_ok (h_j76.mono (((((((((hl91.trans hl97).trans hl103).trans hl109).trans hl133).trans hl147).trans hl153).trans hl162).trans hl175).trans hl181)) hS182 hx_r188) ?_
 rintro _ w189 ⟨I190, rfl, hl191, hS192⟩
 refine ⟨_, rfl, (KR.cons (hS192.rd m0) (KR.nil (hS192.im.of_le ((hl175.trans hl181).trans hl191)))), ?_⟩
 refine yu ((cs_qCatalog j76 w_j76)) (rd_c m0 (hS192.rd m0)) ?_
 refine WO.vs 15 [(93, .string x141.Name), (94, Nv i163)] ?_
 obtain ⟨r199, hx_r194, hr3⟩ := bsm hr3
 refine y8 (r19_Can_ok (h_j76.mono ((((((((((hl91.trans hl97).trans hl103).trans hl109).trans hl133).trans hl147).trans hl153).trans hl162).trans hl175).trans hl181).trans hl191)) hS192 hx_r194) ?_
 rintro _ w195 ⟨I196, rfl, hl197, hS198⟩
 refine ⟨_, rfl, (KR.cons (hS198.rd m0) (KR.nil (hS198.im.of_le (((hl175.trans hl181).trans hl191).trans hl197)))), ?_⟩
 refine WO.vs 18 [(96, .bool (!(r193 == r199))), (97, .bool (!(r193 == r199)))] ?_
 obtain rfl := sj hr3
 exact yv ⟨I196, rfl, (hl191.trans hl197), hS198⟩
 rintro _ w200 ⟨I186, rfl, hl187, hS201⟩
 refine yb (W.cb hr2 (fun hc hr2 => ?_) (fun hc hr2 => ?_))
 refine yd [0] ?_
 refine ya 0 6 (.bool false) (yb (W.ret (yh (yc (ym ?_)))))
 obtain rfl := hext160 _ (sj hr2).symm
 refine yh (yh (yc (ym ?_)))
 obtain rfl := hext131 _ (sj hr1).symm
 refine yh (yc ?_)
 obtain rfl := sj hr
 exact yr ⟨I186, rfl, ((((((((((((((((hl4.trans hl10).trans hl22).trans hl40).trans hl71).trans hl79).trans hl91).trans hl97).trans hl103).trans hl109).trans hl133).trans hl147).trans hl153).trans hl162).trans hl175).trans hl181).trans hl187), hS201.drop⟩
 refine yg (yi (En.next (yaa nL3 ?_)))
 refine ya 0 76 (Nv i163) (y0 (j := i163) rfl (by kernel_rfl) rfl (by first | omega | (dsimp only at *; omega) | (simp only [List.length_cons, List.length_nil] at *; omega)) ?_)
 exact ya 2 10 (Iv ((i163 + 1 : Nat) : Int)) (WO.nil (yo ⟨(), (sj hr2).symm, I186, rfl, (((hl162.trans hl175).trans hl181).trans hl187), hS201⟩))
 rintro _ _ w206 ⟨I161, rfl, hl162, hS207⟩ he
 cases he
 refine ye (yd nL2 ?_)
 refine WO.vs 0 [(74, Iv ((5 : Nat) : Int)), (75, .bool (decide (((5 : Nat) : Int) < 5)))] (yb (yah (fun hc => ?_)))
 clear hc
 refine yy (yk (yl (yn (yi (En.next (yaa nL3 ?_))))))
 refine ya 0 59 (Nv i134) (y0 (j := i134) rfl (by kernel_rfl) rfl (by first | omega | (dsimp only at *; omega) | (simp only [List.length_cons, List.length_nil] at *; omega)) ?_)
 exact ya 2 8 (Iv ((i134 + 1 : Nat) : Int)) (WO.nil (yo ⟨(), (sj hr1).symm, I161, rfl, (((hl133.trans hl147).trans hl153).trans hl162), hS207⟩))
 rintro _ _ w208 ⟨I132, rfl, hl133, hS209⟩ he
 cases he
 refine ye (yd nL5 ?_)
 refine WO.vs 0 [(54, Nv j76.Roles.length), (55, Pt b43 2)] (yf (v := (Sl w_j76.Roles.a j76.Roles w_j76.Roles.c)) (hS209.rf m0) ?_)
 refine WO.vs 3 [(57, Nv j76.Roles.length), (58, .bool (decide ((j76.Roles.length : Int) < (j76.Roles.length : Int))))] (yb (yah (fun hc => ?_)))
 clear hc
 refine yy (yk (yl (yn (En.next (yd nL2 ?_)))))
 obtain ⟨r215, hx_r210, hr⟩ := bsm hr
 refine y6 (law19_works_ok  hS209 hx_r210) ?_
 intro I212 w211 hl213 hS214
 refine ya 1 6 (.bool r215) (yb (W.ret ?_))
 obtain rfl := sj hr
 exact yr ⟨I212, rfl, (((((((((((hl4.trans hl10).trans hl22).trans hl40).trans hl71).trans hl79).trans hl91).trans hl97).trans hl103).trans hl109).trans hl133).trans hl213), hS214.drop⟩
end Go.Proofs.YtdmapcjbbbifbaaGreat
