/- What functions of the program come to, each by a plain one. Conditions: none. -/
import Derived.Test.YtdmapcjbbbifbaaGreatF1
import Derived.Test.YtdmapcjbbbifbaaGreatProg
set_option maxRecDepth 100000
namespace Go.Proofs.YtdmapcjbbbifbaaGreat
open Go.Gv
set_option maxHeartbeats 1000000
variable {E w : World} {I : Mem} {Os : List Mem}
noncomputable def r19_roles (p0 : qCatalog) (p1 : qStmt) : Option ((List qRole) × Int) := (bif (p1.Kind == 10) then (r18_Create p0.Roles p1.Name).bind (fun (r14, r15) => some (r14, r15)) else (bif (p1.Kind == 12) then (r18_Grant p0.Roles p1.Name p1.Role).bind (fun (r23, r24) => some (r23, r24)) else (bif (p1.Kind == 13) then (r18_Revoke p0.Roles p1.Name p1.Role).bind (fun (r32, r33) => some (r32, r33)) else (forN (fun (i39 : Nat) => fun (_s : Unit) => (idx p0.Tables (i39 : Int)).bind (fun x49 => (bif (sEq x49.Owner p1.Name) then some (.inr (([] : List qRole), (34 : Int))) else some (.inl ())))) p0.Tables.length 0 ()).bind (fun (t : Unit ⊕ (((List qRole) × Int))) => match t with | .inl _ => (r18_Drop p0.Roles p1.Name).bind (fun (r64, r65) => some (r64, r65)) | .inr (s51, s52) => some (s51, s52)))))
theorem r19_roles_ok {p0 : qCatalog} {p1 : qStmt} {w_p0 : W_qCatalog} {w_p1 : W_qStmt} (h_p0 : ok_qCatalog I p0 w_p0) (h_p1 : ok_qStmt I p1 w_p1) (hS : St E w I Os) {r : (List qRole) × Int} (hr : r19_roles p0 p1 = some r) :
    Calls P 38 #[(.agg (cs_qCatalog p0 w_p0).toArray), (.agg (cs_qStmt p1 w_p1).toArray)] w (fun e w' => ∃ (I' : Mem) (ra0 : Option Addr) (rc0 : Nat), e = .returned (.tuple #[(Sl ra0 r.1 rc0), (Iv r.2)]) ∧ I.Le I' ∧ St E w' I' Os ∧ RSl 2 R_qRole I' ra0 rc0 r.1) := by
 refine calls_W (fn := Tryz.f38) rfl rfl rfl ?_
 unfold r19_roles at hr
 refine yd nL4 ?_
 refine yx hS (cs_qCatalog p0 w_p0) 29 ?_
 intro b1 w4 hS3
 refine yx hS3 (cs_qStmt p1 w_p1) 44 ?_
 intro b5 w8 hS7
 refine WO.vs 2 [(4, .slice none 0 0), (5, Iv 0)] (yb (ye (yd nL2 ?_)))
 refine ya 0 7 (Pt b5 0) (yf (v := (Iv p1.Kind)) (hS7.rf m0) ?_)
 refine yb (W.block (yd nL2 ?_))
 refine WO.vs 0 [(10, .bool (p1.Kind == 10)), (9, .bool (p1.Kind == 10))] (yb (W.cb hr (fun hc hr => ?_) (fun hc hr => ?_)))
 refine yd nL9 ?_
 refine ya 0 11 (Pt b1 2) (yf (v := (Sl w_p0.Roles.a p0.Roles w_p0.Roles.c)) (hS7.rf m1) ?_)
 refine ya 2 13 (Pt b5 2) (yf (v := (.string p1.Name)) (hS7.rf m0) ?_)
 obtain ⟨⟨r14, r15⟩, hx_r9, hr⟩ := bsm hr
 refine y8 (r18_Create_ok h_p0.Roles hS7 hx_r9) ?_
 rintro _ w10 ⟨I11, a_r14, c_r14, rfl, hl12, hS13, h_r14⟩
 refine ⟨_, rfl, trivial, ?_⟩
 refine WO.vs 5 [(16, Sl a_r14 r14 c_r14), (17, Iv r15), (4, Sl a_r14 r14 c_r14), (5, Iv r15)] (yb (W.ret (yh (yc ?_))))
 obtain rfl := sj hr
 exact yaj ⟨I11, a_r14, c_r14, rfl, hl12, hS13.drop.drop, h_r14⟩
 refine yd nL2 ?_
 refine WO.vs 0 [(19, .bool (p1.Kind == 12)), (18, .bool (p1.Kind == 12))] (yb (W.cb hr (fun hc hr => ?_) (fun hc hr => ?_)))
 refine yd nL11 ?_
 refine ya 0 20 (Pt b1 2) (yf (v := (Sl w_p0.Roles.a p0.Roles w_p0.Roles.c)) (hS7.rf m1) ?_)
 refine ya 2 22 (Pt b5 2) (yf (v := (.string p1.Name)) (hS7.rf m0) ?_)
 refine ya 4 24 (Pt b5 3) (yf (v := (.string p1.Role)) (hS7.rf m0) ?_)
 obtain ⟨⟨r23, r24⟩, hx_r18, hr⟩ := bsm hr
 refine y8 (r18_Grant_ok h_p0.Roles hS7 hx_r18) ?_
 rintro _ w19 ⟨I20, a_r23, c_r23, rfl, hl21, hS22, h_r23⟩
 refine ⟨_, rfl, trivial, ?_⟩
 refine WO.vs 7 [(27, Sl a_r23 r23 c_r23), (28, Iv r24), (4, Sl a_r23 r23 c_r23), (5, Iv r24)] (yb (W.ret (yh (yc ?_))))
 obtain rfl := sj hr
 exact yaj ⟨I20, a_r23, c_r23, rfl, hl21, hS22.drop.drop, h_r23⟩
 refine yd nL2 ?_
 refine WO.vs 0 [(30, .bool (p1.Kind == 13)), (29, .bool (p1.Kind == 13))] (yb (W.cb hr (fun hc hr => ?_) (fun hc hr => ?_)))
 refine yd nL11 ?_
 refine ya 0 31 (Pt b1 2) (yf (v := (Sl w_p0.Roles.a p0.Roles w_p0.Roles.c)) (hS7.rf m1) ?_)
 refine ya 2 33 (Pt b5 2) (yf (v := (.string p1.Name)) (hS7.rf m0) ?_)
 refine ya 4 35 (Pt b5 3) (yf (v := (.string p1.Role)) (hS7.rf m0) ?_)
 obtain ⟨⟨r32, r33⟩, hx_r27, hr⟩ := bsm hr
 refine y8 (r18_Revoke_ok h_p0.Roles hS7 hx_r27) ?_
 rintro _ w28 ⟨I29, a_r32, c_r32, rfl, hl30, hS31, h_r32⟩
 refine ⟨_, rfl, trivial, ?_⟩
 refine WO.vs 7 [(38, Sl a_r32 r32 c_r32), (39, Iv r33), (4, Sl a_r32 r32 c_r32), (5, Iv r33)] (yb (W.ret (yh (yc ?_))))
 obtain rfl := sj hr
 exact yaj ⟨I29, a_r32, c_r32, rfl, hl30, hS31.drop.drop, h_r32⟩
 refine yg (yi (En.next (ye (yd [0] ?_))))
 refine ya 0 6 (Iv 0) (yb (W.block ?_))
 obtain ⟨t36, hloop40, hr⟩ := bsm hr
 have hlt45 := (h_p0.Tables).len_lt
 refine W.wk (W.forN (m := p0.Tables.length) hloop40 (fun (i39 : Nat) => fun (_s : Unit) fr w => ∃ I37, fr = [(2, Pt b1 0), (3, Pt b5 0), (6, Nv i39)] ∧ I.Le I37 ∧ St E w I37 ((Bx b1 (cs_qCatalog p0 w_p0) 29) :: (Bx b5 (cs_qStmt p1 w_p1) 44) :: Os)) ⟨I, rfl, lr, hS7.front1⟩ ?_ ?_)
 rintro i39 _ _ w42 hi46 ⟨I37, rfl, hl38, hS43⟩ x44 hr1 hext36
 refine ye (yd nL5 ?_)
 refine WO.vs 0 [(40, Nv i39), (41, Pt b1 1)] (yf (v := (Sl w_p0.Tables.a p0.Tables w_p0.Tables.c)) (hS43.rf m0) ?_)
 refine WO.vs 3 [(43, Nv p0.Tables.length), (44, .bool (decide ((i39 : Int) < (p0.Tables.length : Int))))] (yb (yag (fun hc => ?_)))
 clear hc
 refine yg (En.next (ye (W.block (ye ?_))))
 have hS47 := hS43.drew
 refine yao nL9 8 (KR.cons (hS47.rd m0) (KR.cons (hS47.rd m1) (KR.nil hS47.im))) ?_
 generalize World.drew _ = w48 at *
 refine ya 0 47 (Pt b1 1) (yf (v := (Sl w_p0.Tables.a p0.Tables w_p0.Tables.c)) (rd_c m0 (hS47.rd m0)) ?_)
 refine ya 2 49 (Nv i39) ?_
 obtain ⟨x49, hr1, h0_x49, h1_x49, hx_x49, ha_x49, _, _, ⟨w_x49, rfl, h_x49⟩, hc_x49⟩ := sl_at ((RSl.mono h_p0.Tables hl38)) hr1
 refine yq 89 6 ha_x49 h0_x49 h1_x49 ?_
 refine ya 4 51 (.pointer (some ⟨bl w_p0.Tables.a, of w_p0.Tables.a + ((i39 : Int)).toNat * 6 + 1, none⟩)) (WO.le (v := (.string x49.Owner)) hc_x49 1 (rd_i hS47.im) ?_)
 refine ya 6 53 (Pt b5 2) (yf (v := (.string p1.Name)) (rd_c m1 (hS47.rd m1)) ?_)
 refine WO.tail rfl ?_
 refine ya 8 55 (.bool (sEq x49.Owner p1.Name)) (yb (W.cb hr1 (fun hc hr1 => ?_) (fun hc hr1 => ?_)))
 refine yd nL2 ?_
 refine WO.vs 0 [(4, .slice none 0 0), (5, Iv 34)] (yb (W.ret (yh (yc (ym ?_)))))
 obtain rfl := hext36 _ (sj hr1).symm
 refine yh (yc ?_)
 obtain rfl := sj hr
 exact yaj ⟨I37, none, 0, rfl, hl38, hS47.drop.drop, SlAt.nil⟩
 refine yg (yi (En.next (yaa nL3 ?_)))
 refine ya 0 45 (Nv i39) (y0 (j := i39) rfl (by kernel_rfl) rfl (by first | omega | (dsimp only at *; omega) | (simp only [List.length_cons, List.length_nil] at *; omega)) ?_)
 exact ya 2 6 (Iv ((i39 + 1 : Nat) : Int)) (WO.nil (yo ⟨(), (sj hr1).symm, I37, rfl, hl38, hS47⟩))
 rintro _ _ w57 ⟨I37, rfl, hl38, hS58⟩ he
 cases he
 refine ye (yd nL5 ?_)
 refine WO.vs 0 [(40, Nv p0.Tables.length), (41, Pt b1 1)] (yf (v := (Sl w_p0.Tables.a p0.Tables w_p0.Tables.c)) (hS58.rf m0) ?_)
 refine WO.vs 3 [(43, Nv p0.Tables.length), (44, .bool (decide ((p0.Tables.length : Int) < (p0.Tables.length : Int))))] (yb (yah (fun hc => ?_)))
 clear hc
 refine yy (yk (yl (yn (En.next (yd nL9 ?_)))))
 refine ya 0 56 (Pt b1 2) (yf (v := (Sl w_p0.Roles.a p0.Roles w_p0.Roles.c)) (hS58.rf m0) ?_)
 refine ya 2 58 (Pt b5 2) (yf (v := (.string p1.Name)) (hS58.rf m1) ?_)
 obtain ⟨⟨r64, r65⟩, hx_r59, hr⟩ := bsm hr
 refine y8 (r18_Drop_ok (RSl.mono h_p0.Roles hl38) hS58 hx_r59) ?_
 rintro _ w60 ⟨I61, a_r64, c_r64, rfl, hl62, hS63, h_r64⟩
 refine ⟨_, rfl, trivial, ?_⟩
 refine WO.vs 5 [(61, Sl a_r64 r64 c_r64), (62, Iv r65), (4, Sl a_r64 r64 c_r64), (5, Iv r65)] (yb (W.ret ?_))
 obtain rfl := sj hr
 exact yaj ⟨I61, a_r64, c_r64, rfl, (hl38.trans hl62), hS63.drop.drop, h_r64⟩
def r17_At (p0 : qCatalog) (p1 : ByteArray) : Option Int := (forN (fun (i8 : Nat) => fun (_s : Unit) => (idx p0.Tables (i8 : Int)).bind (fun x15 => (bif (sEq x15.Name p1) then some (.inr (i8 : Int)) else some (.inl ())))) p0.Tables.length 0 ()).bind (fun (t : Unit ⊕ (Int)) => match t with | .inl _ => some (-1) | .inr s17 => some s17)
theorem r17_At_ok {p0 : qCatalog} {p1 : ByteArray} {w_p0 : W_qCatalog} (h_p0 : ok_qCatalog I p0 w_p0) (hS : St E w I Os) {r : Int} (hr : r17_At p0 p1 = some r) :
    Calls P 45 #[(.agg (cs_qCatalog p0 w_p0).toArray), (.string p1)] w (fun e w' => ∃ I', e = .returned (Iv r) ∧ I.Le I' ∧ St E w' I' Os) := by
 refine calls_W (fn := Tryz.f45) rfl rfl rfl ?_
 unfold r17_At at hr
 refine yd nL2 ?_
 refine yx hS (cs_qCatalog p0 w_p0) 29 ?_
 intro b1 w4 hS3
 refine ya 1 4 (Iv 0) (yb (ye (yd [0] ?_)))
 refine ya 0 5 (Iv 0) (yb (W.block ?_))
 obtain ⟨t5, hloop9, hr⟩ := bsm hr
 have hlt13 := (h_p0.Tables).len_lt
 refine W.wk (W.forN (m := p0.Tables.length) hloop9 (fun (i8 : Nat) => fun (_s : Unit) fr w => ∃ I6, fr = [(1, .string p1), (2, Pt b1 0), (5, Nv i8)] ∧ I.Le I6 ∧ St E w I6 ((Bx b1 (cs_qCatalog p0 w_p0) 29) :: Os)) ⟨I, rfl, lr, hS3⟩ ?_ ?_)
 rintro i8 _ _ w10 hi14 ⟨I6, rfl, hl7, hS11⟩ x12 hr1 hext5
 refine ye (yd nL5 ?_)
 refine WO.vs 0 [(6, Nv i8), (7, Pt b1 1)] (yf (v := (Sl w_p0.Tables.a p0.Tables w_p0.Tables.c)) (hS11.rf m0) ?_)
 refine WO.vs 3 [(9, Nv p0.Tables.length), (10, .bool (decide ((i8 : Int) < (p0.Tables.length : Int))))] (yb (yag (fun hc => ?_)))
 clear hc
 refine yg (En.next (ye (W.block (yd nL8 ?_))))
 refine ya 0 13 (Pt b1 1) (yf (v := (Sl w_p0.Tables.a p0.Tables w_p0.Tables.c)) (hS11.rf m0) ?_)
 refine ya 2 15 (Nv i8) ?_
 obtain ⟨x15, hr1, h0_x15, h1_x15, hx_x15, ha_x15, _, _, ⟨w_x15, rfl, h_x15⟩, hc_x15⟩ := sl_at ((RSl.mono h_p0.Tables hl7)) hr1
 refine yq 89 6 ha_x15 h0_x15 h1_x15 ?_
 refine ya 4 17 (.pointer (some ⟨bl w_p0.Tables.a, of w_p0.Tables.a + ((i8 : Int)).toNat * 6, none⟩)) (yae (v := (.string x15.Name)) hc_x15 hS11.rm ?_)
 refine WO.vs 6 [(19, .string p1), (20, .bool (sEq x15.Name p1))] (yb (W.cb hr1 (fun hc hr1 => ?_) (fun hc hr1 => ?_)))
 refine yd nL2 ?_
 refine WO.vs 0 [(21, Nv i8), (4, Nv i8)] (yb (W.ret (yh (yc (ym ?_)))))
 obtain rfl := hext5 _ (sj hr1).symm
 refine yh (yc ?_)
 obtain rfl := sj hr
 exact yr ⟨I6, rfl, hl7, hS11.drop⟩
 refine yg (yi (En.next (yaa nL3 ?_)))
 refine ya 0 11 (Nv i8) (y0 (j := i8) rfl (by kernel_rfl) rfl (by first | omega | (dsimp only at *; omega) | (simp only [List.length_cons, List.length_nil] at *; omega)) ?_)
 exact ya 2 5 (Iv ((i8 + 1 : Nat) : Int)) (WO.nil (yo ⟨(), (sj hr1).symm, I6, rfl, hl7, hS11⟩))
 rintro _ _ w20 ⟨I6, rfl, hl7, hS21⟩ he
 cases he
 refine ye (yd nL5 ?_)
 refine WO.vs 0 [(6, Nv p0.Tables.length), (7, Pt b1 1)] (yf (v := (Sl w_p0.Tables.a p0.Tables w_p0.Tables.c)) (hS21.rf m0) ?_)
 refine WO.vs 3 [(9, Nv p0.Tables.length), (10, .bool (decide ((p0.Tables.length : Int) < (p0.Tables.length : Int))))] (yb (yah (fun hc => ?_)))
 clear hc
 refine yy (yk (yl (yn (En.next (yd [0] ?_)))))
 refine ya 0 4 (Iv (-1)) (yb (W.ret ?_))
 obtain rfl := sj hr
 exact yr ⟨I6, rfl, hl7, hS21.drop⟩
noncomputable def r19_Owns (p0 : qCatalog) (p1 : ByteArray) (p2 : ByteArray) : Option Bool := (r17_At p0 p2).bind (fun r10 => ((bif (decide (r10 ≥ 0)) then (idx p0.Tables r10).bind (fun x17 => (r18_Is p0.Roles p1 x17.Owner).bind (fun r23 => some r23)) else some false)).bind (fun (j13 : Bool) => some j13))
theorem r19_Owns_ok {p0 : qCatalog} {p1 : ByteArray} {p2 : ByteArray} {w_p0 : W_qCatalog} (h_p0 : ok_qCatalog I p0 w_p0) (hS : St E w I Os) {r : Bool} (hr : r19_Owns p0 p1 p2 = some r) :
    Calls P 22 #[(.agg (cs_qCatalog p0 w_p0).toArray), (.string p1), (.string p2)] w (fun e w' => ∃ I', e = .returned (.bool r) ∧ I.Le I' ∧ St E w' I' Os) := by
 refine calls_W (fn := Tryz.f22) rfl rfl rfl ?_
 unfold r19_Owns at hr
 refine yd nL2 ?_
 refine yx hS (cs_qCatalog p0 w_p0) 29 ?_
 intro b1 w4 hS3
 refine ya 1 6 (.bool false) (yz nL4 ?_)
 refine yu ((cs_qCatalog p0 w_p0)) (hS3.rf m0) ?_
 refine ya 1 9 (.string p2) ?_
 obtain ⟨r10, hx_r5, hr⟩ := bsm hr
 refine y6 (r17_At_ok h_p0 hS3 hx_r5) ?_
 intro I7 w6 hl8 hS9
 refine ya 3 7 (Iv r10) (yb (ye ?_))
 have hS11 := hS9.drew
 refine yao nL15 14 (KR.cons (hS11.rd m0) (KR.nil hS11.im)) ?_
 generalize World.drew _ = w12 at *
 refine WO.vs 0 [(11, Iv r10), (12, .bool (decide (r10 ≥ 0))), (13, .bool (decide (r10 ≥ 0)))] ?_
 obtain ⟨j13, hr1, hr⟩ := bsm hr
 refine WO.jw (l1 := [3, 4, 5, 6, 7, 8, 9, 10, 11, 12, 13]) (J := (fun fr w => ∃ I15, fr = [(24, .bool j13)] ∧ I7.Le I15 ∧ St E w I15 ((Bx b1 (cs_qCatalog p0 w_p0) 29) :: Os))) ?_ ?_
 refine WO.cb hr1 (fun hc hr1 => ?_) (fun hc hr1 => ?_)
 refine yj 13 hc (ya 3 14 (Pt b1 2) (yf (v := (Sl w_p0.Roles.a p0.Roles w_p0.Roles.c)) (rd_c m0 (hS11.rd m0)) ?_))
 refine WO.vs 5 [(16, .string p1), (17, Pt b1 1)] (yf (v := (Sl w_p0.Tables.a p0.Tables w_p0.Tables.c)) (rd_c m0 (hS11.rd m0)) ?_)
 refine ya 8 19 (Iv r10) ?_
 obtain ⟨x17, hr1, h0_x17, h1_x17, hx_x17, ha_x17, _, _, ⟨w_x17, rfl, h_x17⟩, hc_x17⟩ := sl_at ((RSl.mono h_p0.Tables hl8)) hr1
 refine yq 89 6 ha_x17 h0_x17 h1_x17 ?_
 refine ya 10 21 (.pointer (some ⟨bl w_p0.Tables.a, of w_p0.Tables.a + (r10).toNat * 6 + 1, none⟩)) (WO.le (v := (.string x17.Owner)) hc_x17 1 (rd_i hS11.im) ?_)
 obtain ⟨r23, hx_r18, hr1⟩ := bsm hr1
 refine y8 (r18_Is_ok (RSl.mono h_p0.Roles hl8) hS11 hx_r18) ?_
 rintro _ w19 ⟨I20, rfl, hl21, hS22⟩
 refine ⟨_, rfl, (KR.cons (hS22.rd m0) (KR.nil (hS22.im.of_le hl21))), ?_⟩
 refine ya 13 24 (.bool r23) ?_
 obtain rfl := sj hr1
 exact yv ⟨I20, rfl, hl21, hS22⟩
 refine yj 13 hc ?_
 iterate 10 refine yt ?_
 refine ya 13 24 (.bool false) ?_
 obtain rfl := sj hr1
 exact yv ⟨I7, rfl, lr, hS11⟩
 rintro _ w24 ⟨I15, rfl, hl16, hS25⟩
 refine WO.tail rfl ?_
 refine ya 14 6 (.bool j13) (yb (W.ret ?_))
 obtain rfl := sj hr
 exact yr ⟨I15, rfl, (hl8.trans hl16), hS25.drop⟩
noncomputable def r19_has (p0 : qCatalog) (p1 : List qGrant) (p2 : ByteArray) (p3 : Int) (p4 : ByteArray) (p5 : Bool) : Option Bool := (forN (fun (i8 : Nat) => fun (_s : Unit) => (idx p1 (i8 : Int)).bind (fun x17 => ((bif (x17.Priv == p3) then (idx p1 (i8 : Int)).bind (fun x22 => some (sEq x22.Table p4)) else some false)).bind (fun (j18 : Bool) => ((bif j18 then (idx p1 (i8 : Int)).bind (fun x29 => some (x29.Option || (!p5))) else some false)).bind (fun (j25 : Bool) => ((bif j25 then (idx p1 (i8 : Int)).bind (fun x38 => (r18_Is p0.Roles p2 x38.To).bind (fun r44 => some r44)) else some false)).bind (fun (j34 : Bool) => (bif j34 then some (.inr true) else some (.inl ()))))))) p1.length 0 ()).bind (fun (t : Unit ⊕ (Bool)) => match t with | .inl _ => some false | .inr s48 => some s48)
theorem r19_has_ok {p0 : qCatalog} {p1 : List qGrant} {p2 : ByteArray} {p3 : Int} {p4 : ByteArray} {p5 : Bool} {w_p0 : W_qCatalog} {a_p1 : Option Addr} {c_p1 : Nat} (h_p0 : ok_qCatalog I p0 w_p0) (h_p1 : RSl 5 R_qGrant I a_p1 c_p1 p1) (hS : St E w I Os) {r : Bool} (hr : r19_has p0 p1 p2 p3 p4 p5 = some r) :
    Calls P 46 #[(.agg (cs_qCatalog p0 w_p0).toArray), (Sl a_p1 p1 c_p1), (.string p2), (Iv p3), (.string p4), (.bool p5)] w (fun e w' => ∃ I', e = .returned (.bool r) ∧ I.Le I' ∧ St E w' I' Os) := by
 refine calls_W (fn := Tryz.f46) rfl rfl rfl ?_
 unfold r19_has at hr
 refine yd nL2 ?_
 refine yx hS (cs_qCatalog p0 w_p0) 29 ?_
 intro b1 w4 hS3
 refine ya 1 12 (.bool false) (yb (ye (yd [0] ?_)))
 refine ya 0 13 (Iv 0) (yb (W.block ?_))
 obtain ⟨t5, hloop9, hr⟩ := bsm hr
 have hlt13 := (h_p1).len_lt
 refine W.wk (W.forN (m := p1.length) hloop9 (fun (i8 : Nat) => fun (_s : Unit) fr w => ∃ I6, fr = [(1, Sl a_p1 p1 c_p1), (2, .string p2), (3, Iv p3), (4, .string p4), (5, .bool p5), (6, Pt b1 0), (13, Nv i8)] ∧ I.Le I6 ∧ St E w I6 ((Bx b1 (cs_qCatalog p0 w_p0) 29) :: Os)) ⟨I, rfl, lr, hS3⟩ ?_ ?_)
 rintro i8 _ _ w10 hi14 ⟨I6, rfl, hl7, hS11⟩ x12 hr1 hext5
 refine ye (yd nL4 ?_)
 refine WO.vs 0 [(14, Nv i8), (15, Sl a_p1 p1 c_p1), (16, Nv p1.length), (17, .bool (decide ((i8 : Int) < (p1.length : Int))))] (yb (yag (fun hc => ?_)))
 clear hc
 refine yg (En.next (ye (W.block (ye ?_))))
 have hS15 := hS11.drew
 refine yao nL38 38 (KR.cons (hS15.rd m0) (KR.nil hS15.im)) ?_
 generalize World.drew _ = w16 at *
 refine WO.vs 0 [(20, Sl a_p1 p1 c_p1), (21, Nv i8)] ?_
 obtain ⟨x17, hr1, h0_x17, h1_x17, hx_x17, ha_x17, _, _, rfl, hc_x17⟩ := sl_at ((RSl.mono h_p1 hl7)) hr1
 refine yq 67 5 ha_x17 h0_x17 h1_x17 ?_
 refine ya 3 23 (.pointer (some ⟨bl a_p1, of a_p1 + ((i8 : Int)).toNat * 5 + 3, none⟩)) (WO.le (v := (Iv x17.Priv)) hc_x17 3 (rd_i hS15.im) ?_)
 refine WO.vs 5 [(25, Iv p3), (26, .bool (x17.Priv == p3)), (27, .bool (x17.Priv == p3))] ?_
 obtain ⟨j18, hr2, hr1⟩ := bsm hr1
 refine WO.jw (l1 := [8, 9, 10, 11, 12, 13, 14, 15]) (J := (fun fr w => ∃ I20, fr = [(1, Sl a_p1 p1 c_p1), (2, .string p2), (3, Iv p3), (4, .string p4), (5, .bool p5), (6, Pt b1 0), (13, Nv i8), (35, .bool j18)] ∧ I6.Le I20 ∧ St E w I20 ((Bx b1 (cs_qCatalog p0 w_p0) 29) :: Os))) ?_ ?_
 refine WO.cb hr2 (fun hc hr2 => ?_) (fun hc hr2 => ?_)
 refine yj 27 hc (WO.vs 8 [(28, Sl a_p1 p1 c_p1), (29, Nv i8)] ?_)
 obtain ⟨x22, hr2, h0_x22, h1_x22, hx_x22, ha_x22, _, _, rfl, hc_x22⟩ := sl_at ((RSl.mono h_p1 hl7)) hr2
 refine yq 67 5 ha_x22 h0_x22 h1_x22 ?_
 refine ya 11 31 (.pointer (some ⟨bl a_p1, of a_p1 + ((i8 : Int)).toNat * 5 + 2, none⟩)) (WO.le (v := (.string x22.Table)) hc_x22 2 (rd_i hS15.im) ?_)
 refine WO.vs 13 [(33, .string p4), (34, .bool (sEq x22.Table p4)), (35, .bool (sEq x22.Table p4))] ?_
 obtain rfl := sj hr2
 exact yv ⟨I6, rfl, lr, hS15⟩
 refine yj 27 hc ?_
 iterate 7 refine yt ?_
 refine ya 15 35 (.bool false) ?_
 obtain rfl := sj hr2
 exact yv ⟨I6, rfl, lr, hS15⟩
 rintro _ w23 ⟨I20, rfl, hl21, hS24⟩
 refine ya 16 36 (.bool j18) ?_
 obtain ⟨j25, hr2, hr1⟩ := bsm hr1
 refine WO.jw (l1 := [17, 18, 19, 20, 21, 22, 23, 24, 25, 26]) (J := (fun fr w => ∃ I27, fr = [(1, Sl a_p1 p1 c_p1), (2, .string p2), (3, Iv p3), (4, .string p4), (5, .bool p5), (6, Pt b1 0), (13, Nv i8), (46, .bool j25)] ∧ I20.Le I27 ∧ St E w I27 ((Bx b1 (cs_qCatalog p0 w_p0) 29) :: Os))) ?_ ?_
 refine WO.cb hr2 (fun hc hr2 => ?_) (fun hc hr2 => ?_)
 refine yj 36 hc (WO.vs 17 [(37, Sl a_p1 p1 c_p1), (38, Nv i8)] ?_)
 obtain ⟨x29, hr2, h0_x29, h1_x29, hx_x29, ha_x29, _, _, rfl, hc_x29⟩ := sl_at ((RSl.mono h_p1 hl7)) hr2
 refine yq 67 5 ha_x29 h0_x29 h1_x29 ?_
 refine ya 20 40 (.pointer (some ⟨bl a_p1, of a_p1 + ((i8 : Int)).toNat * 5 + 4, none⟩)) (WO.le (v := (.bool x29.Option)) hc_x29 4 (rd_i (hS24.im.of_le hl21)) ?_)
 refine ya 22 42 (.bool x29.Option) (yac (l1 := [23, 24, 25]) 45 (x29.Option || (!p5)) ?_ ?_)
 refine yp x29.Option (fun hc => ?_) (fun hc => ?_)
 refine yj 42 hc ?_
 iterate 2 refine yt ?_
 exact ya 25 45 (.bool true) (WO.mk 42 hc (by rw [hc]; rfl))
 exact yj 42 hc (WO.vs 23 [(43, .bool p5), (44, .bool (!p5)), (45, .bool (!p5))] (WO.mk 42 hc (by rw [hc]; rfl)))
 refine ya 26 46 (.bool (x29.Option || (!p5))) ?_
 obtain rfl := sj hr2
 exact yv ⟨I20, rfl, lr, hS24⟩
 refine yj 36 hc ?_
 iterate 9 refine yt ?_
 refine ya 26 46 (.bool false) ?_
 obtain rfl := sj hr2
 exact yv ⟨I20, rfl, lr, hS24⟩
 rintro _ w32 ⟨I27, rfl, hl28, hS33⟩
 refine ya 27 47 (.bool j25) ?_
 obtain ⟨j34, hr2, hr1⟩ := bsm hr1
 refine WO.jw (l1 := [28, 29, 30, 31, 32, 33, 34, 35, 36, 37]) (J := (fun fr w => ∃ I36, fr = [(1, Sl a_p1 p1 c_p1), (2, .string p2), (3, Iv p3), (4, .string p4), (5, .bool p5), (6, Pt b1 0), (13, Nv i8), (57, .bool j34)] ∧ I27.Le I36 ∧ St E w I36 ((Bx b1 (cs_qCatalog p0 w_p0) 29) :: Os))) ?_ ?_
 refine WO.cb hr2 (fun hc hr2 => ?_) (fun hc hr2 => ?_)
 refine yj 47 hc (ya 28 48 (Pt b1 2) (yf (v := (Sl w_p0.Roles.a p0.Roles w_p0.Roles.c)) (rd_c m0 (hS33.rd m0)) ?_))
 refine WO.vs 30 [(50, .string p2), (51, Sl a_p1 p1 c_p1), (52, Nv i8)] ?_
 obtain ⟨x38, hr2, h0_x38, h1_x38, hx_x38, ha_x38, _, _, rfl, hc_x38⟩ := sl_at ((RSl.mono h_p1 hl7)) hr2
 refine yq 67 5 ha_x38 h0_x38 h1_x38 ?_
 refine ya 34 54 (.pointer (some ⟨bl a_p1, of a_p1 + ((i8 : Int)).toNat * 5, none⟩)) (yae (v := (.string x38.To)) hc_x38 (rd_i (hS33.im.of_le (hl21.trans hl28))) ?_)
 obtain ⟨r44, hx_r39, hr2⟩ := bsm hr2
 refine y8 (r18_Is_ok (RSl.mono h_p0.Roles ((hl7.trans hl21).trans hl28)) hS33 hx_r39) ?_
 rintro _ w40 ⟨I41, rfl, hl42, hS43⟩
 refine ⟨_, rfl, (KR.cons (hS43.rd m0) (KR.nil (hS43.im.of_le ((hl21.trans hl28).trans hl42)))), ?_⟩
 refine ya 37 57 (.bool r44) ?_
 obtain rfl := sj hr2
 exact yv ⟨I41, rfl, hl42, hS43⟩
 refine yj 47 hc ?_
 iterate 9 refine yt ?_
 refine ya 37 57 (.bool false) ?_
 obtain rfl := sj hr2
 exact yv ⟨I27, rfl, lr, hS33⟩
 rintro _ w45 ⟨I36, rfl, hl37, hS46⟩
 refine yb (W.cb hr1 (fun hc hr1 => ?_) (fun hc hr1 => ?_))
 refine yd [0] ?_
 refine ya 0 12 (.bool true) (yb (W.ret (yh (yc (ym ?_)))))
 obtain rfl := hext5 _ (sj hr1).symm
 refine yh (yc ?_)
 obtain rfl := sj hr
 exact yr ⟨I36, rfl, (((hl7.trans hl21).trans hl28).trans hl37), hS46.drop⟩
 refine yg (yi (En.next (yaa nL3 ?_)))
 refine ya 0 18 (Nv i8) (y0 (j := i8) rfl (by kernel_rfl) rfl (by first | omega | (dsimp only at *; omega) | (simp only [List.length_cons, List.length_nil] at *; omega)) ?_)
 exact ya 2 13 (Iv ((i8 + 1 : Nat) : Int)) (WO.nil (yo ⟨(), (sj hr1).symm, I36, rfl, (((hl7.trans hl21).trans hl28).trans hl37), hS46⟩))
 rintro _ _ w51 ⟨I6, rfl, hl7, hS52⟩ he
 cases he
 refine ye (yd nL4 ?_)
 refine WO.vs 0 [(14, Nv p1.length), (15, Sl a_p1 p1 c_p1), (16, Nv p1.length), (17, .bool (decide ((p1.length : Int) < (p1.length : Int))))] (yb (yah (fun hc => ?_)))
 clear hc
 refine yy (yk (yl (yn (En.next (yd [0] ?_)))))
 refine ya 0 12 (.bool false) (yb (W.ret ?_))
 obtain rfl := sj hr
 exact yr ⟨I6, rfl, hl7, hS52.drop⟩
noncomputable def r19_Held (p0 : qCatalog) : Option (List qGrant) := (loopO (fun (s : (List qGrant) × Int) => match s with | (s8, s9) => (bif (decide (s9 ≤ (p0.Grants.length : Int))) then (forE (fun (i18 : Nat) => fun (s17 : List qGrant) => ((idx p0.Grants (i18 : Int)).bind (fun x32 => (r17_At p0 x32.Table).bind (fun r44 => ((bif (decide (r44 < 0)) then some true else (r18_At p0.Roles x32.To).bind (fun r56 => some (decide (r56 < 0))))).bind (fun (j45 : Bool) => (bif j45 then some s17 else (r19_Owns p0 x32.By x32.Table).bind (fun r69 => ((bif r69 then some true else (r19_has p0 s8 x32.By x32.Priv x32.Table true).bind (fun r79 => some r79))).bind (fun (j70 : Bool) => ((bif j70 then (app 64 s17 ([x32] : List qGrant)).bind (fun x94 => some x94) else some s17)).bind (fun (j82 : List qGrant) => some j82)))))))).bind (fun (j28 : List qGrant) => some j28)) p0.Grants.length 0 ([] : List qGrant)).bind (fun s17 => some (.inl (s17, (w64 (s9 + 1))))) else some (.inr s8))) (([] : List qGrant), 0)).bind (fun (s120 : List qGrant) => some s120)
theorem r19_Held_ok {p0 : qCatalog} {w_p0 : W_qCatalog} (h_p0 : ok_qCatalog I p0 w_p0) (hS : St E w I Os) {r : (List qGrant)} (hr : r19_Held p0 = some r) :
    Calls P 19 #[(.agg (cs_qCatalog p0 w_p0).toArray)] w (fun e w' => ∃ (I' : Mem) (ra0 : Option Addr) (rc0 : Nat), e = .returned (Sl ra0 r rc0) ∧ I.Le I' ∧ St E w' I' Os ∧ RSl 5 R_qGrant I' ra0 rc0 r) := by
 refine calls_W (fn := Tryz.f19) rfl rfl rfl ?_
 unfold r19_Held at hr
 refine yd nL2 ?_
 refine yx hS (cs_qCatalog p0 w_p0) 29 ?_
 intro b1 w4 hS3
 refine ya 1 2 (.slice none 0 0) (yz [0] ?_)
 refine ya 0 3 (.slice none 0 0) (yb (ye (yd [0] ?_)))
 refine ya 0 4 (Iv 0) (yb (W.block ?_))
 obtain ⟨t5, hloop10, hr⟩ := bsm hr
 refine W.wk (yap hloop10 (fun (s : (List qGrant) × Int) fr w => match s with | (s8, s9) => ∃ I6 a_s8 c_s8, fr = [(1, Pt b1 0), (3, Sl a_s8 s8 c_s8), (4, Iv s9)] ∧ I.Le I6 ∧ St E w I6 ((Bx b1 (cs_qCatalog p0 w_p0) 29) :: Os) ∧ RSl 5 R_qGrant I6 a_s8 c_s8 s8) ⟨I, none, 0, rfl, lr, hS3, SlAt.nil⟩ ?_)
 rintro ⟨s8, s9⟩ _ w11 ⟨I6, a_s8, c_s8, rfl, hl7, hS12, h_s8⟩ x13 hr1 hext5
 refine ye (yd nL5 ?_)
 refine WO.vs 0 [(8, Iv s9), (9, Pt b1 3)] (yf (v := (Sl w_p0.Grants.a p0.Grants w_p0.Grants.c)) (hS12.rf m0) ?_)
 refine WO.vs 3 [(11, Nv p0.Grants.length), (12, .bool (decide (s9 ≤ (p0.Grants.length : Int))))] (yb (W.cb hr1 (fun hc hr1 => ?_) (fun hc hr1 => ?_)))
 refine yg (En.next (ye (W.block (yd [0] ?_))))
 refine ya 0 5 (.slice none 0 0) (yb (ye (yd [0] ?_)))
 refine ya 0 6 (Iv 0) (yb (W.block ?_))
 obtain ⟨s17, hloop19, hr1⟩ := bsm hr1
 have hlt26 := ((RSl.mono h_p0.Grants hl7)).len_lt
 refine W.wk (W.forE (m := p0.Grants.length) hloop19 (fun (i18 : Nat) => fun (s17 : List qGrant) fr w => ∃ I15 a_s17 c_s17 C_s17, fr = [(1, Pt b1 0), (3, Sl a_s8 s8 c_s8), (4, Iv s9), (5, Sl a_s17 s17 c_s17), (6, Nv i18)] ∧ I6.Le I15 ∧ St E w I15 ((Bx b1 (cs_qCatalog p0 w_p0) 29) :: (C_s17) :: Os) ∧ OwnSl 67 5 R_qGrant I15 C_s17 a_s17 c_s17 s17) ⟨I6, none, 0, Mem.no, rfl, lr, hS12.no.front1, OwnSl.nil⟩ ?_ ?_)
 rintro i18 s17 _ w23 hi27 ⟨I15, a_s17, c_s17, C_s17, rfl, hl16, hS24, h_s17⟩ x25 hr2
 refine ye (yd nL5 ?_)
 refine WO.vs 0 [(15, Nv i18), (16, Pt b1 3)] (yf (v := (Sl w_p0.Grants.a p0.Grants w_p0.Grants.c)) (hS24.rf m0) ?_)
 refine WO.vs 3 [(18, Nv p0.Grants.length), (19, .bool (decide ((i18 : Int) < (p0.Grants.length : Int))))] (yb (yag (fun hc => ?_)))
 clear hc
 refine yg (En.next (ye ?_))
 obtain ⟨j28, hr3, hr2⟩ := bsm hr2
 refine W.jw (J := (fun fr w => ∃ I30 a_j28 c_j28 C_j28, fr = [(1, Pt b1 0), (3, Sl a_s8 s8 c_s8), (4, Iv s9), (5, Sl a_j28 j28 c_j28), (6, Nv i18)] ∧ I15.Le I30 ∧ St E w I30 ((Bx b1 (cs_qCatalog p0 w_p0) 29) :: (C_j28) :: Os) ∧ OwnSl 67 5 R_qGrant I30 C_j28 a_j28 c_j28 j28)) ?_ ?_
 refine W.block (yd nL7 ?_)
 refine ya 0 22 (Pt b1 3) (yf (v := (Sl w_p0.Grants.a p0.Grants w_p0.Grants.c)) (hS24.rf m0) ?_)
 refine ya 2 24 (Nv i18) ?_
 obtain ⟨x32, hr3, h0_x32, h1_x32, hx_x32, ha_x32, _, _, rfl, hc_x32⟩ := sl_at ((RSl.mono h_p0.Grants (hl7.trans hl16))) hr3
 refine yq 67 5 ha_x32 h0_x32 h1_x32 ?_
 refine yai ((cs_qGrant x32)) hc_x32 0 hS24.rm ?_
 refine yx hS24 (cs_qGrant z_qGrant) 67 ?_
 intro b33 w36 hS35
 refine yw hS35 0 (cs_qGrant x32) ?_
 intro w38 hS37
 refine yb (ye (yd nL13 ?_))
 refine yu ((cs_qCatalog p0 w_p0)) (hS37.rf m1) ?_
 refine ya 1 28 (Pt b33 2) (yf (v := (.string x32.Table)) (hS37.rf m0) ?_)
 obtain ⟨r44, hx_r39, hr3⟩ := bsm hr3
 refine y6 (r17_At_ok (h_p0.mono (hl7.trans hl16)) hS37 hx_r39) ?_
 intro I41 w40 hl42 hS43
 refine WO.vs 4 [(31, .bool (decide (r44 < 0))), (32, .bool (decide (r44 < 0)))] ?_
 obtain ⟨j45, hr4, hr3⟩ := bsm hr3
 refine WO.jw (l1 := [6, 7, 8, 9, 10, 11, 12]) (J := (fun fr w => ∃ I47, fr = [(1, Pt b1 0), (3, Sl a_s8 s8 c_s8), (4, Iv s9), (5, Sl a_s17 s17 c_s17), (6, Nv i18), (7, Pt b33 0), (39, .bool j45)] ∧ I41.Le I47 ∧ St E w I47 ((Bx b1 (cs_qCatalog p0 w_p0) 29) :: (C_s17) :: (Bx b33 (cs_qGrant x32) 67) :: Os))) ?_ ?_
 refine WO.cb hr4 (fun hc hr4 => ?_) (fun hc hr4 => ?_)
 refine yj 32 hc ?_
 iterate 6 refine yt ?_
 refine ya 12 39 (.bool true) ?_
 obtain rfl := sj hr4
 exact yv ⟨I41, rfl, lr, hS43.front2.front2⟩
 refine yj 32 hc (ya 6 33 (Pt b1 2) (yf (v := (Sl w_p0.Roles.a p0.Roles w_p0.Roles.c)) (hS43.rf m1) ?_))
 refine ya 8 35 (Pt b33 0) (yf (v := (.string x32.To)) (hS43.rf m0) ?_)
 obtain ⟨r56, hx_r51, hr4⟩ := bsm hr4
 refine y6 (r18_At_ok (RSl.mono h_p0.Roles ((hl7.trans hl16).trans hl42)) hS43 hx_r51) ?_
 intro I53 w52 hl54 hS55
 refine WO.vs 11 [(38, .bool (decide (r56 < 0))), (39, .bool (decide (r56 < 0)))] ?_
 obtain rfl := sj hr4
 exact yv ⟨I53, rfl, hl54, hS55.front2.front2⟩
 rintro _ w59 ⟨I47, rfl, hl48, hS60⟩
 refine yb (W.cb hr3 (fun hc hr3 => ?_) (fun hc hr3 => ?_))
 refine yy (yk (yn ?_))
 obtain rfl := sj hr3
 exact yo ⟨I47, a_s17, c_s17, C_s17, rfl, (hl42.trans hl48), hS60.front2.drop, (OwnSl.mono h_s17 (hl42.trans hl48))⟩
 refine yg (En.next (yd nL17 ?_))
 refine yu ((cs_qCatalog p0 w_p0)) (hS60.rf m0) ?_
 refine ya 1 41 (Pt b33 1) (yf (v := (.string x32.By)) (hS60.rf m2) ?_)
 refine ya 3 43 (Pt b33 2) (yf (v := (.string x32.Table)) (hS60.rf m2) ?_)
 obtain ⟨r69, hx_r63, hr3⟩ := bsm hr3
 refine y6 (r19_Owns_ok (h_p0.mono (((hl7.trans hl16).trans hl42).trans hl48)) hS60 hx_r63) ?_
 intro I66 w65 hl67 hS68
 refine ya 6 46 (.bool r69) ?_
 obtain ⟨j70, hr4, hr3⟩ := bsm hr3
 refine WO.jw (l1 := [7, 8, 9, 10, 11, 12, 13, 14, 15, 16]) (J := (fun fr w => ∃ I72, fr = [(1, Pt b1 0), (3, Sl a_s8 s8 c_s8), (4, Iv s9), (5, Sl a_s17 s17 c_s17), (6, Nv i18), (7, Pt b33 0), (56, .bool j70)] ∧ I66.Le I72 ∧ St E w I72 ((Bx b1 (cs_qCatalog p0 w_p0) 29) :: (C_s17) :: (Bx b33 (cs_qGrant x32) 67) :: Os))) ?_ ?_
 refine WO.cb hr4 (fun hc hr4 => ?_) (fun hc hr4 => ?_)
 refine yj 46 hc ?_
 iterate 9 refine yt ?_
 refine ya 16 56 (.bool true) ?_
 obtain rfl := sj hr4
 exact yv ⟨I66, rfl, lr, hS68⟩
 refine yj 46 hc (yu ((cs_qCatalog p0 w_p0)) (hS68.rf m0) ?_)
 refine WO.vs 8 [(48, Sl a_s8 s8 c_s8), (49, Pt b33 1)] (yf (v := (.string x32.By)) (hS68.rf m2) ?_)
 refine ya 11 51 (Pt b33 3) (yf (v := (Iv x32.Priv)) (hS68.rf m2) ?_)
 refine ya 13 53 (Pt b33 2) (yf (v := (.string x32.Table)) (hS68.rf m2) ?_)
 obtain ⟨r79, hx_r74, hr4⟩ := bsm hr4
 refine y6 (r19_has_ok (h_p0.mono ((((hl7.trans hl16).trans hl42).trans hl48).trans hl67)) (RSl.mono h_s8 (((hl16.trans hl42).trans hl48).trans hl67)) hS68 hx_r74) ?_
 intro I76 w75 hl77 hS78
 refine ya 16 56 (.bool r79) ?_
 obtain rfl := sj hr4
 exact yv ⟨I76, rfl, hl77, hS78⟩
 rintro _ w80 ⟨I72, rfl, hl73, hS81⟩
 refine yb ?_
 obtain ⟨j82, hr4, hr3⟩ := bsm hr3
 refine W.jw (J := (fun fr w => ∃ I84 a_j82 c_j82 C_j82, fr = [(1, Pt b1 0), (3, Sl a_s8 s8 c_s8), (4, Iv s9), (5, Sl a_j82 j82 c_j82), (6, Nv i18)] ∧ I72.Le I84 ∧ St E w I84 ((Bx b1 (cs_qCatalog p0 w_p0) 29) :: (C_j82) :: Os) ∧ OwnSl 67 5 R_qGrant I84 C_j82 a_j82 c_j82 j82)) ?_ ?_
 refine W.cb hr4 (fun hc hr4 => ?_) (fun hc hr4 => ?_)
 refine yaa nL5 ?_
 refine ya 0 57 (Sl a_s17 s17 c_s17) (yu ((cs_qGrant x32)) (hS81.rf m2) ?_)
 refine y3 (rel := R_qGrant) (xs := ([x32] : List qGrant)) hS81 rfl (by kernel_rfl) rfl 67 5 [(cs_qGrant x32)] (by kernel_rfl) rfl ((Elr.cons rfl Elr.nil)) (fun _ _ _ => trivial) ?_
 intro a89 C87 w91 hS90 ho88
 have hS93 := hS90.front2
 obtain ⟨x94, hx_x94, hr4⟩ := bsm hr4
 obtain ⟨h0_x94, he_x94⟩ := app_some hx_x94
 refine WO.ap 67 64 (cs_qGrant z_qGrant) hS93 (OwnSl.mono h_s17 (((hl42.trans hl48).trans hl67).trans hl73)) ho88.sl (hS93.rd m1) h0_x94 he_x94 ?_
 intro a95 c96 w97 C98 hS99 ho100
 refine ya 4 5 (Sl a95 x94 c96) (WO.nil ?_)
 obtain rfl := sj hr4
 exact yo ⟨I72, a95, c96, C98, rfl, lr, hS99.front1.drop.front2.drop.front1, ho100⟩
 refine yg ?_
 obtain rfl := sj hr4
 exact yo ⟨I72, a_s17, c_s17, C_s17, rfl, lr, hS81.front2.drop, (OwnSl.mono h_s17 (((hl42.trans hl48).trans hl67).trans hl73))⟩
 rintro _ w108 ⟨I84, a_j82, c_j82, C_j82, rfl, hl85, hS109, h_j82⟩
 refine yi ?_
 obtain rfl := sj hr3
 exact yo ⟨I84, a_j82, c_j82, C_j82, rfl, ((((hl42.trans hl48).trans hl67).trans hl73).trans hl85), hS109, h_j82⟩
 rintro _ w110 ⟨I30, a_j28, c_j28, C_j28, rfl, hl31, hS111, h_j28⟩
 refine En.next (yaa nL3 ?_)
 refine ya 0 20 (Nv i18) (y0 (j := i18) rfl (by kernel_rfl) rfl (by first | omega | (dsimp only at *; omega) | (simp only [List.length_cons, List.length_nil] at *; omega)) ?_)
 refine ya 2 6 (Iv ((i18 + 1 : Nat) : Int)) (WO.nil ?_)
 obtain rfl := sj hr2
 exact yo ⟨I30, a_j28, c_j28, C_j28, rfl, (hl16.trans hl31), hS111, h_j28⟩
 rintro _ w112 ⟨I15, a_s17, c_s17, C_s17, rfl, hl16, hS113, h_s17⟩
 refine ye (yd nL5 ?_)
 refine WO.vs 0 [(15, Nv p0.Grants.length), (16, Pt b1 3)] (yf (v := (Sl w_p0.Grants.a p0.Grants w_p0.Grants.c)) (hS113.rf m0) ?_)
 refine WO.vs 3 [(18, Nv p0.Grants.length), (19, .bool (decide ((p0.Grants.length : Int) < (p0.Grants.length : Int))))] (yb (yah (fun hc => ?_)))
 clear hc
 refine yy (yk (yl (yn (En.next (yaa nL2 ?_)))))
 refine ya 0 61 (Sl a_s17 s17 c_s17) ?_
 obtain ⟨I115, hl116, hS118, hp117⟩ := y4 h_s17 hS113.front1
 refine ya 1 3 (Sl a_s17 s17 c_s17) (WO.nil (yi (En.next (yaa nL3 ?_))))
 exact WO.vs 0 [(13, Iv s9), (14, Iv (w64 (s9 + 1))), (4, Iv (w64 (s9 + 1)))] (WO.nil (yo ⟨(s17, (w64 (s9 + 1))), (sj hr1).symm, I115, a_s17, c_s17, rfl, ((hl7.trans hl16).trans hl116), hS118, hp117⟩))
 refine yy (yk (yl ?_))
 obtain rfl := hext5 _ (sj hr1).symm
 refine yn (En.next (yd nL2 ?_))
 refine WO.vs 0 [(62, Sl a_s8 s8 c_s8), (2, Sl a_s8 s8 c_s8)] (yb (W.ret ?_))
 obtain rfl := sj hr
 exact yr ⟨I6, a_s8, c_s8, rfl, hl7, hS12.drop, h_s8⟩
noncomputable def r19_Can (p0 : qCatalog) (p1 : ByteArray) (p2 : Int) (p3 : ByteArray) : Option Bool := (r19_Owns p0 p1 p3).bind (fun r12 => ((bif r12 then some true else (r19_Held p0).bind (fun r22 => (r19_has p0 r22 p1 p2 p3 true).bind (fun r28 => some r28)))).bind (fun (j13 : Bool) => some j13))
theorem r19_Can_ok {p0 : qCatalog} {p1 : ByteArray} {p2 : Int} {p3 : ByteArray} {w_p0 : W_qCatalog} (h_p0 : ok_qCatalog I p0 w_p0) (hS : St E w I Os) {r : Bool} (hr : r19_Can p0 p1 p2 p3 = some r) :
    Calls P 26 #[(.agg (cs_qCatalog p0 w_p0).toArray), (.string p1), (Iv p2), (.string p3)] w (fun e w' => ∃ I', e = .returned (.bool r) ∧ I.Le I' ∧ St E w' I' Os) := by
 refine calls_W (fn := Tryz.f26) rfl rfl rfl ?_
 unfold r19_Can at hr
 refine yd nL2 ?_
 refine yx hS (cs_qCatalog p0 w_p0) 29 ?_
 intro b1 w4 hS3
 refine ya 1 8 (.bool false) (yb (ye ?_))
 have hS5 := hS3.drew
 refine yao nL14 13 (KR.cons (hS5.rd m0) (KR.nil hS5.im)) ?_
 generalize World.drew _ = w6 at *
 refine yu ((cs_qCatalog p0 w_p0)) (rd_c m0 (hS5.rd m0)) ?_
 refine WO.vs 1 [(10, .string p1), (11, .string p3)] ?_
 obtain ⟨r12, hx_r7, hr⟩ := bsm hr
 refine y8 (r19_Owns_ok h_p0 hS5 hx_r7) ?_
 rintro _ w8 ⟨I9, rfl, hl10, hS11⟩
 refine ⟨_, rfl, (KR.cons (hS11.rd m0) (KR.nil (hS11.im.of_le hl10))), ?_⟩
 refine ya 4 13 (.bool r12) ?_
 obtain ⟨j13, hr1, hr⟩ := bsm hr
 refine WO.jw (l1 := [5, 6, 7, 8, 9, 10, 11, 12]) (J := (fun fr w => ∃ I15, fr = [(21, .bool j13)] ∧ I9.Le I15 ∧ St E w I15 ((Bx b1 (cs_qCatalog p0 w_p0) 29) :: Os))) ?_ ?_
 refine WO.cb hr1 (fun hc hr1 => ?_) (fun hc hr1 => ?_)
 refine yj 13 hc ?_
 iterate 7 refine yt ?_
 refine ya 12 21 (.bool true) ?_
 obtain rfl := sj hr1
 exact yv ⟨I9, rfl, lr, hS11⟩
 refine yj 13 hc (yu ((cs_qCatalog p0 w_p0)) (rd_c m0 (hS11.rd m0)) ?_)
 refine yu ((cs_qCatalog p0 w_p0)) (rd_c m0 (hS11.rd m0)) ?_
 obtain ⟨r22, hx_r17, hr1⟩ := bsm hr1
 refine y8 (r19_Held_ok (h_p0.mono hl10) hS11 hx_r17) ?_
 rintro _ w18 ⟨I19, a_r22, c_r22, rfl, hl20, hS21, h_r22⟩
 refine ⟨_, rfl, (KR.cons (hS21.rd m0) (KR.nil (hS21.im.of_le (hl10.trans hl20)))), ?_⟩
 refine WO.vs 8 [(17, .string p1), (18, Iv p2), (19, .string p3)] ?_
 obtain ⟨r28, hx_r23, hr1⟩ := bsm hr1
 refine y8 (r19_has_ok (h_p0.mono (hl10.trans hl20)) h_r22 hS21 hx_r23) ?_
 rintro _ w24 ⟨I25, rfl, hl26, hS27⟩
 refine ⟨_, rfl, (KR.cons (hS27.rd m0) (KR.nil (hS27.im.of_le ((hl10.trans hl20).trans hl26)))), ?_⟩
 refine ya 12 21 (.bool r28) ?_
 obtain rfl := sj hr1
 exact yv ⟨I25, rfl, (hl20.trans hl26), hS27⟩
 rintro _ w29 ⟨I15, rfl, hl16, hS30⟩
 refine WO.tail rfl ?_
 refine ya 13 8 (.bool j13) (yb (W.ret ?_))
 obtain rfl := sj hr
 exact yr ⟨I15, rfl, (hl10.trans hl16), hS30.drop⟩
def r19_place (p0 : qCatalog) (p1 : qStmt) (p2 : ByteArray) : Option Int := (forN (fun (i12 : Nat) => fun (_s : Unit) => (idx p0.Grants (i12 : Int)).bind (fun x20 => (some (((sEq x20.To p1.Role) && (sEq x20.By p2)) && (sEq x20.Table p1.Table))).bind (fun (q29 : Bool) => (bif (q29 && (x20.Priv == p1.Priv)) then some (.inr (i12 : Int)) else some (.inl ()))))) p0.Grants.length 0 ()).bind (fun (t : Unit ⊕ (Int)) => match t with | .inl _ => some (-1) | .inr s35 => some s35)
theorem r19_place_ok {p0 : qCatalog} {p1 : qStmt} {p2 : ByteArray} {w_p0 : W_qCatalog} {w_p1 : W_qStmt} (h_p0 : ok_qCatalog I p0 w_p0) (h_p1 : ok_qStmt I p1 w_p1) (hS : St E w I Os) {r : Int} (hr : r19_place p0 p1 p2 = some r) :
    Calls P 40 #[(.agg (cs_qCatalog p0 w_p0).toArray), (.agg (cs_qStmt p1 w_p1).toArray), (.string p2)] w (fun e w' => ∃ I', e = .returned (Iv r) ∧ I.Le I' ∧ St E w' I' Os) := by
 refine calls_W (fn := Tryz.f40) rfl rfl rfl ?_
 unfold r19_place at hr
 refine yd nL3 ?_
 refine yx hS (cs_qCatalog p0 w_p0) 29 ?_
 intro b1 w4 hS3
 refine yx hS3 (cs_qStmt p1 w_p1) 44 ?_
 intro b5 w8 hS7
 refine ya 2 6 (Iv 0) (yb (ye (yd [0] ?_)))
 refine ya 0 7 (Iv 0) (yb (W.block ?_))
 obtain ⟨t9, hloop13, hr⟩ := bsm hr
 have hlt18 := (h_p0.Grants).len_lt
 refine W.wk (W.forN (m := p0.Grants.length) hloop13 (fun (i12 : Nat) => fun (_s : Unit) fr w => ∃ I10, fr = [(2, .string p2), (3, Pt b1 0), (4, Pt b5 0), (7, Nv i12)] ∧ I.Le I10 ∧ St E w I10 ((Bx b1 (cs_qCatalog p0 w_p0) 29) :: (Bx b5 (cs_qStmt p1 w_p1) 44) :: Os)) ⟨I, rfl, lr, hS7.front1⟩ ?_ ?_)
 rintro i12 _ _ w15 hi19 ⟨I10, rfl, hl11, hS16⟩ x17 hr1 hext9
 refine ye (yd nL5 ?_)
 refine WO.vs 0 [(9, Nv i12), (10, Pt b1 3)] (yf (v := (Sl w_p0.Grants.a p0.Grants w_p0.Grants.c)) (hS16.rf m0) ?_)
 refine WO.vs 3 [(12, Nv p0.Grants.length), (13, .bool (decide ((i12 : Int) < (p0.Grants.length : Int))))] (yb (yag (fun hc => ?_)))
 clear hc
 refine yg (En.next (ye (W.block (yd nL7 ?_))))
 refine ya 0 16 (Pt b1 3) (yf (v := (Sl w_p0.Grants.a p0.Grants w_p0.Grants.c)) (hS16.rf m0) ?_)
 refine ya 2 18 (Nv i12) ?_
 obtain ⟨x20, hr1, h0_x20, h1_x20, hx_x20, ha_x20, _, _, rfl, hc_x20⟩ := sl_at ((RSl.mono h_p0.Grants hl11)) hr1
 refine yq 67 5 ha_x20 h0_x20 h1_x20 ?_
 refine yai ((cs_qGrant x20)) hc_x20 0 hS16.rm ?_
 refine yx hS16 (cs_qGrant z_qGrant) 67 ?_
 intro b21 w24 hS23
 refine yw hS23 0 (cs_qGrant x20) ?_
 intro w26 hS25
 refine yz nL25 ?_
 refine ya 0 21 (Pt b21 0) (yf (v := (.string x20.To)) (hS25.rf m0) ?_)
 refine ya 2 23 (Pt b5 3) (yf (v := (.string p1.Role)) (hS25.rf m2) ?_)
 refine WO.vs 4 [(25, .bool (sEq x20.To p1.Role)), (26, .bool (sEq x20.To p1.Role))] (yac (l1 := [6, 7, 8, 9, 10]) 31 ((sEq x20.To p1.Role) && (sEq x20.By p2)) ?_ ?_)
 refine yp (sEq x20.To p1.Role) (fun hc => ?_) (fun hc => ?_)
 refine yj 26 hc (ya 6 27 (Pt b21 1) (yf (v := (.string x20.By)) (hS25.rf m0) ?_))
 exact WO.vs 8 [(29, .string p2), (30, .bool (sEq x20.By p2)), (31, .bool (sEq x20.By p2))] (WO.mk 26 hc (by rw [hc]; rfl))
 refine yj 26 hc ?_
 iterate 4 refine yt ?_
 exact ya 10 31 (.bool false) (WO.mk 26 hc (by rw [hc]; rfl))
 refine ya 11 32 (.bool ((sEq x20.To p1.Role) && (sEq x20.By p2))) ?_
 obtain ⟨q29, hx_q29, hr1⟩ := bsm hr1
 replace hx_q29 := sj hx_q29
 refine yac (l1 := [12, 13, 14, 15, 16, 17]) 38 q29 ?_ ?_
 refine yp ((sEq x20.To p1.Role) && (sEq x20.By p2)) (fun hc => ?_) (fun hc => ?_)
 refine yj 32 hc (ya 12 33 (Pt b21 2) (yf (v := (.string x20.Table)) (hS25.rf m0) ?_))
 refine ya 14 35 (Pt b5 1) (yf (v := (.string p1.Table)) (hS25.rf m2) ?_)
 exact WO.vs 16 [(37, .bool (sEq x20.Table p1.Table)), (38, .bool (sEq x20.Table p1.Table))] (WO.mk 32 hc (by rw [← hx_q29, hc]; rfl))
 refine yj 32 hc ?_
 iterate 5 refine yt ?_
 exact ya 17 38 (.bool false) (WO.mk 32 hc (by rw [← hx_q29, hc]; rfl))
 refine ya 18 39 (.bool q29) (yac (l1 := [19, 20, 21, 22, 23, 24]) 45 (q29 && (x20.Priv == p1.Priv)) ?_ ?_)
 refine yp q29 (fun hc => ?_) (fun hc => ?_)
 refine yj 39 hc (ya 19 40 (Pt b21 3) (yf (v := (Iv x20.Priv)) (hS25.rf m0) ?_))
 refine ya 21 42 (Pt b5 18) (yf (v := (Iv p1.Priv)) (hS25.rf m2) ?_)
 exact WO.vs 23 [(44, .bool (x20.Priv == p1.Priv)), (45, .bool (x20.Priv == p1.Priv))] (WO.mk 39 hc (by rw [hc]; rfl))
 refine yj 39 hc ?_
 iterate 5 refine yt ?_
 exact ya 24 45 (.bool false) (WO.mk 39 hc (by rw [hc]; rfl))
 refine yb (W.cb hr1 (fun hc hr1 => ?_) (fun hc hr1 => ?_))
 refine yd nL2 ?_
 refine WO.vs 0 [(46, Nv i12), (6, Nv i12)] (yb (W.ret (yh (yc (ym ?_)))))
 obtain rfl := hext9 _ (sj hr1).symm
 refine yh (yc ?_)
 obtain rfl := sj hr
 exact yr ⟨I10, rfl, hl11, hS25.drop.drop.drop⟩
 refine yg (yi (En.next (yaa nL3 ?_)))
 refine ya 0 14 (Nv i12) (y0 (j := i12) rfl (by kernel_rfl) rfl (by first | omega | (dsimp only at *; omega) | (simp only [List.length_cons, List.length_nil] at *; omega)) ?_)
 exact ya 2 7 (Iv ((i12 + 1 : Nat) : Int)) (WO.nil (yo ⟨(), (sj hr1).symm, I10, rfl, hl11, hS25.drop⟩))
 rintro _ _ w42 ⟨I10, rfl, hl11, hS43⟩ he
 cases he
 refine ye (yd nL5 ?_)
 refine WO.vs 0 [(9, Nv p0.Grants.length), (10, Pt b1 3)] (yf (v := (Sl w_p0.Grants.a p0.Grants w_p0.Grants.c)) (hS43.rf m0) ?_)
 refine WO.vs 3 [(12, Nv p0.Grants.length), (13, .bool (decide ((p0.Grants.length : Int) < (p0.Grants.length : Int))))] (yb (yah (fun hc => ?_)))
 clear hc
 refine yy (yk (yl (yn (En.next (yd [0] ?_)))))
 refine ya 0 6 (Iv (-1)) (yb (W.ret ?_))
 obtain rfl := sj hr
 exact yr ⟨I10, rfl, hl11, hS43.drop.drop⟩
noncomputable def r19_given (p0 : qCatalog) (p1 : qStmt) (p2 : ByteArray) : Option ((List qGrant) × Int) := (r17_At p0 p1.Table).bind (fun r14 => ((bif (decide (r14 < 0)) then some true else (r18_At p0.Roles p1.Role).bind (fun r25 => some (decide (r25 < 0))))).bind (fun (j15 : Bool) => (bif j15 then some (([] : List qGrant), 4) else (r19_Can p0 p2 p1.Priv p1.Table).bind (fun r36 => (bif (!r36) then some (([] : List qGrant), 36) else (r19_place p0 p1 p2).bind (fun r44 => (app 64 ([] : List qGrant) p0.Grants).bind (fun x47 => (bif (decide (r44 ≥ 0)) then (idx x47 r44).bind (fun x54 => (bif (x54.Option || (!p1.Option)) then some (([] : List qGrant), 19) else (idx x47 r44).bind (fun x60 => some ((x47.set (r44).toNat ({ x60 with Option := true })), 0)))) else (bif (decide ((x47.length : Int) ≥ 40)) then some (([] : List qGrant), 5) else (app 64 x47 ([(⟨p1.Role, p2, p1.Table, p1.Priv, p1.Option⟩ : qGrant)] : List qGrant)).bind (fun x82 => some (x82, 0)))))))))))
theorem r19_given_ok {p0 : qCatalog} {p1 : qStmt} {p2 : ByteArray} {w_p0 : W_qCatalog} {w_p1 : W_qStmt} (h_p0 : ok_qCatalog I p0 w_p0) (h_p1 : ok_qStmt I p1 w_p1) (hS : St E w I Os) {r : (List qGrant) × Int} (hr : r19_given p0 p1 p2 = some r) :
    Calls P 39 #[(.agg (cs_qCatalog p0 w_p0).toArray), (.agg (cs_qStmt p1 w_p1).toArray), (.string p2)] w (fun e w' => ∃ (I' : Mem) (ra0 : Option Addr) (rc0 : Nat), e = .returned (.tuple #[(Sl ra0 r.1 rc0), (Iv r.2)]) ∧ I.Le I' ∧ St E w' I' Os ∧ RSl 5 R_qGrant I' ra0 rc0 r.1) := by
 refine calls_W (fn := Tryz.f39) rfl rfl rfl ?_
 unfold r19_given at hr
 refine yd nL4 ?_
 refine yx hS (cs_qCatalog p0 w_p0) 29 ?_
 intro b1 w4 hS3
 refine yx hS3 (cs_qStmt p1 w_p1) 44 ?_
 intro b5 w8 hS7
 refine WO.vs 2 [(6, .slice none 0 0), (7, Iv 0)] (yb (ye (yd nL13 ?_)))
 refine yu ((cs_qCatalog p0 w_p0)) (hS7.rf m1) ?_
 refine ya 1 11 (Pt b5 1) (yf (v := (.string p1.Table)) (hS7.rf m0) ?_)
 obtain ⟨r14, hx_r9, hr⟩ := bsm hr
 refine y6 (r17_At_ok h_p0 hS7 hx_r9) ?_
 intro I11 w10 hl12 hS13
 refine WO.vs 4 [(14, .bool (decide (r14 < 0))), (15, .bool (decide (r14 < 0)))] ?_
 obtain ⟨j15, hr1, hr⟩ := bsm hr
 refine WO.jw (l1 := [6, 7, 8, 9, 10, 11, 12]) (J := (fun fr w => ∃ I17, fr = [(2, .string p2), (3, Pt b1 0), (4, Pt b5 0), (22, .bool j15)] ∧ I11.Le I17 ∧ St E w I17 ((Bx b1 (cs_qCatalog p0 w_p0) 29) :: (Bx b5 (cs_qStmt p1 w_p1) 44) :: Os))) ?_ ?_
 refine WO.cb hr1 (fun hc hr1 => ?_) (fun hc hr1 => ?_)
 refine yj 15 hc ?_
 iterate 6 refine yt ?_
 refine ya 12 22 (.bool true) ?_
 obtain rfl := sj hr1
 exact yv ⟨I11, rfl, lr, hS13.front1⟩
 refine yj 15 hc (ya 6 16 (Pt b1 2) (yf (v := (Sl w_p0.Roles.a p0.Roles w_p0.Roles.c)) (hS13.rf m1) ?_))
 refine ya 8 18 (Pt b5 3) (yf (v := (.string p1.Role)) (hS13.rf m0) ?_)
 obtain ⟨r25, hx_r20, hr1⟩ := bsm hr1
 refine y6 (r18_At_ok (RSl.mono h_p0.Roles hl12) hS13 hx_r20) ?_
 intro I22 w21 hl23 hS24
 refine WO.vs 11 [(21, .bool (decide (r25 < 0))), (22, .bool (decide (r25 < 0)))] ?_
 obtain rfl := sj hr1
 exact yv ⟨I22, rfl, hl23, hS24.front1⟩
 rintro _ w27 ⟨I17, rfl, hl18, hS28⟩
 refine yb (W.cb hr (fun hc hr => ?_) (fun hc hr => ?_))
 refine yd nL2 ?_
 refine WO.vs 0 [(6, .slice none 0 0), (7, Iv 4)] (yb (W.ret (yc ?_)))
 obtain rfl := sj hr
 exact yaj ⟨I17, none, 0, rfl, (hl12.trans hl18), hS28.drop.drop, SlAt.nil⟩
 refine yg (En.next (ye (yd nL8 ?_)))
 refine yu ((cs_qCatalog p0 w_p0)) (hS28.rf m0) ?_
 refine WO.vs 1 [(24, .string p2), (25, Pt b5 18)] (yf (v := (Iv p1.Priv)) (hS28.rf m1) ?_)
 refine ya 4 27 (Pt b5 1) (yf (v := (.string p1.Table)) (hS28.rf m1) ?_)
 obtain ⟨r36, hx_r31, hr⟩ := bsm hr
 refine y6 (r19_Can_ok (h_p0.mono (hl12.trans hl18)) hS28 hx_r31) ?_
 intro I33 w32 hl34 hS35
 refine ya 7 30 (.bool (!r36)) (yb (W.cb hr (fun hc hr => ?_) (fun hc hr => ?_)))
 refine yd nL2 ?_
 refine WO.vs 0 [(6, .slice none 0 0), (7, Iv 36)] (yb (W.ret (yc ?_)))
 obtain rfl := sj hr
 exact yaj ⟨I33, none, 0, rfl, ((hl12.trans hl18).trans hl34), hS35.drop.drop, SlAt.nil⟩
 refine yg (En.next (yd nL5 ?_))
 refine yu ((cs_qCatalog p0 w_p0)) (hS35.rf m0) ?_
 refine yu ((cs_qStmt p1 w_p1)) (hS35.rf m1) ?_
 refine ya 2 33 (.string p2) ?_
 obtain ⟨r44, hx_r39, hr⟩ := bsm hr
 refine y6 (r19_place_ok (h_p0.mono ((hl12.trans hl18).trans hl34)) (h_p1.mono ((hl12.trans hl18).trans hl34)) hS35 hx_r39) ?_
 intro I41 w40 hl42 hS43
 refine ya 4 8 (Iv r44) (yz [0] ?_)
 refine ya 0 9 (.slice none 0 0) (yz nL5 ?_)
 refine WO.vs 0 [(35, .slice none 0 0), (36, Pt b1 3)] (yf (v := (Sl w_p0.Grants.a p0.Grants w_p0.Grants.c)) (hS43.rf m0) ?_)
 have hS46 := hS43.no
 obtain ⟨x47, hx_x47, hr⟩ := bsm hr
 obtain ⟨h0_x47, he_x47⟩ := app_some hx_x47
 refine WO.append (e' := 67) (b := 64) (zs := (cs_qGrant z_qGrant).toArray) hS46 (OwnSl.nil (T := 67) (rel := R_qGrant) (I := I41)) rfl (by kernel_rfl) rfl (by kernel_rfl) (by kernel_rfl) (by kernel_rfl) rfl rfl rfl rfl (RSl.mono h_p0.Grants (((hl12.trans hl18).trans hl34).trans hl42)) hS46.im h0_x47 he_x47 (fun _ _ _ => trivial) ?_
 intro a48 c49 w50 C51 hS52 ho53
 refine ya 4 9 (Sl a48 x47 c49) (yb (ye (yd nL2 ?_)))
 refine WO.vs 0 [(39, Iv r44), (40, .bool (decide (r44 ≥ 0)))] (yb (W.cb hr (fun hc hr => ?_) (fun hc hr => ?_)))
 refine ye (yd nL10 ?_)
 refine WO.vs 0 [(41, Sl a48 x47 c49), (42, Iv r44)] ?_
 obtain ⟨x54, hr, h0_x54, h1_x54, hx_x54, ha_x54, _, _, rfl, hc_x54⟩ := sl_at (ho53.sl) hr
 refine yq 67 5 ha_x54 h0_x54 h1_x54 ?_
 refine ya 3 44 (.pointer (some ⟨bl a48, of a48 + (r44).toNat * 5 + 4, none⟩)) (WO.le (v := (.bool x54.Option)) hc_x54 4 (hS52.rf m0) ?_)
 refine ya 5 46 (.bool x54.Option) (yac (l1 := [6, 7, 8, 9]) 50 (x54.Option || (!p1.Option)) ?_ ?_)
 refine yp x54.Option (fun hc => ?_) (fun hc => ?_)
 refine yj 46 hc ?_
 iterate 3 refine yt ?_
 exact ya 9 50 (.bool true) (WO.mk 46 hc (by rw [hc]; rfl))
 refine yj 46 hc (ya 6 47 (Pt b5 19) (yf (v := (.bool p1.Option)) (hS52.rf m2) ?_))
 exact WO.vs 8 [(49, .bool (!p1.Option)), (50, .bool (!p1.Option))] (WO.mk 46 hc (by rw [hc]; rfl))
 refine yb (W.cb hr (fun hc hr => ?_) (fun hc hr => ?_))
 refine yd nL2 ?_
 refine WO.vs 0 [(6, .slice none 0 0), (7, Iv 19)] (yb (W.ret (yc (yc ?_))))
 obtain rfl := sj hr
 exact yaj ⟨I41, none, 0, rfl, (((hl12.trans hl18).trans hl34).trans hl42), hS52.drop.drop.drop, SlAt.nil⟩
 refine yg (En.next (yd nL5 ?_))
 refine WO.vs 0 [(51, Sl a48 x47 c49), (52, Iv r44)] ?_
 obtain ⟨x60, hr, h0_x60, h1_x60, hx_x60, ha_x60, _, _, rfl, hc_x60⟩ := sl_at (ho53.sl) hr
 refine yq 67 5 ha_x60 h0_x60 h1_x60 ?_
 refine ya 3 54 (.pointer (some ⟨bl a48, of a48 + (r44).toNat * 5 + 4, none⟩)) (yan hS52 ho53 rfl (by kernel_rfl) rfl hx_x60 (u' := { x60 with Option := true }) 4 rfl rfl (by kernel_rfl) rfl rfl (fun cs hrel => (by obtain rfl := hrel; exact rfl)) (fun _ _ _ => trivial) ?_)
 intro w62 C63 hS61 ho64
 refine y7 9 rfl (show Value.slice a48 x47.length c49 = Value.slice a48 (x47.set (r44).toNat ({ x60 with Option := true })).length c49 by simp only [List.length_set]) ?_
 refine yz nL3 ?_
 refine ya 0 55 (.slice a48 (x47.set (r44).toNat ({ x60 with Option := true })).length c49) ?_
 obtain ⟨I65, hl66, hS68, hp67⟩ := y4 ho64 hS61
 refine WO.vs 1 [(6, .slice a48 (x47.set (r44).toNat ({ x60 with Option := true })).length c49), (7, Iv 0)] (yb (W.ret (yc ?_)))
 obtain rfl := sj hr
 exact yaj ⟨I65, a48, c49, rfl, ((((hl12.trans hl18).trans hl34).trans hl42).trans hl66), hS68.drop.drop, hp67⟩
 refine yg (En.next (ye (yd nL3 ?_)))
 refine WO.vs 0 [(56, Sl a48 x47 c49), (57, Nv x47.length), (58, .bool (decide ((x47.length : Int) ≥ 40)))] (yb (W.cb hr (fun hc hr => ?_) (fun hc hr => ?_)))
 refine yd nL2 ?_
 refine WO.vs 0 [(6, .slice none 0 0), (7, Iv 5)] (yb (W.ret (yc ?_)))
 obtain rfl := sj hr
 exact yaj ⟨I41, none, 0, rfl, (((hl12.trans hl18).trans hl34).trans hl42), hS52.drop.drop.drop, SlAt.nil⟩
 refine yg (En.next (yd nL15 ?_))
 refine WO.vs 0 [(59, Sl a48 x47 c49), (60, Pt b5 3)] (yf (v := (.string p1.Role)) (hS52.rf m2) ?_)
 refine WO.vs 3 [(62, .string p2), (63, Pt b5 1)] (yf (v := (.string p1.Table)) (hS52.rf m2) ?_)
 refine ya 6 65 (Pt b5 18) (yf (v := (Iv p1.Priv)) (hS52.rf m2) ?_)
 refine ya 8 67 (Pt b5 19) (yf (v := (.bool p1.Option)) (hS52.rf m2) ?_)
 refine ya 10 69 (.agg (cs_qGrant (⟨p1.Role, p2, p1.Table, p1.Priv, p1.Option⟩ : qGrant)).toArray) (y3 (rel := R_qGrant) (xs := ([(⟨p1.Role, p2, p1.Table, p1.Priv, p1.Option⟩ : qGrant)] : List qGrant)) hS52 rfl (by kernel_rfl) rfl 67 5 [(cs_qGrant (⟨p1.Role, p2, p1.Table, p1.Priv, p1.Option⟩ : qGrant))] (by kernel_rfl) rfl ((Elr.cons rfl Elr.nil)) (fun _ _ _ => trivial) ?_)
 intro a77 C75 w79 hS78 ho76
 have hS81 := hS78.front1
 obtain ⟨x82, hx_x82, hr⟩ := bsm hr
 obtain ⟨h0_x82, he_x82⟩ := app_some hx_x82
 refine WO.ap 67 64 (cs_qGrant z_qGrant) hS81 ho53 ho76.sl (hS81.rd m1) h0_x82 he_x82 ?_
 intro a83 c84 w85 C86 hS87 ho88
 obtain ⟨I91, hl92, hS94, hp93⟩ := y4 ho88 hS87.front1.drop
 refine WO.vs 13 [(6, Sl a83 x82 c84), (7, Iv 0)] (yb (W.ret ?_))
 obtain rfl := sj hr
 exact yaj ⟨I91, a83, c84, rfl, ((((hl12.trans hl18).trans hl34).trans hl42).trans hl92), hS94.drop.drop, hp93⟩
noncomputable def r19_Make (p0 : qCatalog) (p1 : qStmt) (p2 : ByteArray) (p3 : Int) : Option (qCatalog × Int) := (bif ((decide (p1.Kind < 10)) || (decide (p1.Kind > 15))) then some (z_qCatalog, 2) else (r18_At p0.Roles p2).bind (fun r25 => (bif (decide (r25 < 0)) then some (z_qCatalog, 4) else ((bif (decide (p1.Kind ≤ 13)) then (r18_Is p0.Roles p2 (⟨#[114, 111, 111, 116]⟩ : ByteArray)).bind (fun r46 => some (!r46)) else some false)).bind (fun (j37 : Bool) => ((bif j37 then some (.inl ((36 : Int), z_qCatalog, p0.Roles, p0.Grants)) else ((bif (decide (p1.Kind ≤ 13)) then (r19_roles p0 p1).bind (fun (r74, r75) => some (.inl (r75, z_qCatalog, r74, p0.Grants))) else ((bif (p1.Kind == 14) then (r19_given p0 p1 p2).bind (fun (r96, r97) => some (.inl (r97, z_qCatalog, r96))) else (r19_place p0 p1 p2).bind (fun r113 => (bif (decide (r113 < 0)) then some (.inr (4, z_qCatalog)) else (sub p0.Grants 0 r113).bind (fun x147 => (app 64 ([] : List qGrant) x147).bind (fun x150 => (sub p0.Grants (w64 (r113 + 1)) (p0.Grants.length : Int)).bind (fun x162 => (app 64 x150 x162).bind (fun x164 => some (.inl ((0 : Int), z_qCatalog, x164)))))))))).bind (fun (t : (Int × qCatalog × (List qGrant)) ⊕ (Int × qCatalog)) => match t with | (.inl (s101, s102, s103)) => some (.inl (s101, s102, p0.Roles, s103)) | (.inr (s118, s119)) => some (.inr (s118, s119))))).bind (fun (t : (Int × qCatalog × (List qRole) × (List qGrant)) ⊕ (Int × qCatalog)) => match t with | (.inl (s79, s80, s81, s82)) => some (.inl (s79, s80, s81, s82)) | (.inr (s121, s122)) => some (.inr (s121, s122))))).bind (fun (t : (Int × qCatalog × (List qRole) × (List qGrant)) ⊕ (Int × qCatalog)) => match t with | (.inl (s59, s60, s61, s62)) => ((bif ((s59 == 0) && (decide (p0.Version ≥ p3))) then some 52 else some s59)).bind (fun (j191 : Int) => (bif (j191 != 0) then some (z_qCatalog, j191) else (r19_Held ({ p0 with Version := (w64 (p0.Version + 1)), Roles := s61, Grants := s62 })).bind (fun r212 => some ({ p0 with Version := (w64 (p0.Version + 1)), Roles := s61, Grants := r212 }, 0)))) | (.inr (s124, s125)) => some (s125, s124))))))
theorem r19_Make_ok {p0 : qCatalog} {p1 : qStmt} {p2 : ByteArray} {p3 : Int} {w_p0 : W_qCatalog} {w_p1 : W_qStmt} (h_p0 : ok_qCatalog I p0 w_p0) (h_p1 : ok_qStmt I p1 w_p1) (hS : St E w I Os) {r : qCatalog × Int} (hr : r19_Make p0 p1 p2 p3 = some r) :
    Calls P 12 #[(.agg (cs_qCatalog p0 w_p0).toArray), (.agg (cs_qStmt p1 w_p1).toArray), (.string p2), (Iv p3)] w (fun e w' => ∃ I' w_rw0, e = .returned (.tuple #[(.agg (cs_qCatalog r.1 w_rw0).toArray), (Iv r.2)]) ∧ I.Le I' ∧ St E w' I' Os ∧ ok_qCatalog I' r.1 w_rw0) := by
 refine calls_W (fn := Tryz.f12) rfl rfl rfl ?_
 unfold r19_Make at hr
 refine yd nL4 ?_
 refine yx hS (cs_qCatalog p0 w_p0) 29 ?_
 intro b1 w4 hS3
 refine yx hS3 (cs_qStmt p1 w_p1) 44 ?_
 intro b5 w8 hS7
 refine yx hS7 (cs_qCatalog z_qCatalog zw_qCatalog) 29 ?_
 intro b9 w12 hS11
 refine ya 3 9 (Iv 0) (yb (ye (yd nL8 ?_)))
 refine ya 0 13 (Pt b5 0) (yf (v := (Iv p1.Kind)) (hS11.rf m1) ?_)
 refine WO.vs 2 [(15, .bool (decide (p1.Kind < 10))), (16, .bool (decide (p1.Kind < 10)))] (yac (l1 := [4, 5, 6, 7]) 20 ((decide (p1.Kind < 10)) || (decide (p1.Kind > 15))) ?_ ?_)
 refine yp (decide (p1.Kind < 10)) (fun hc => ?_) (fun hc => ?_)
 refine yj 16 hc ?_
 iterate 3 refine yt ?_
 exact ya 7 20 (.bool true) (WO.mk 16 hc (by rw [hc]; rfl))
 refine yj 16 hc (ya 4 17 (Pt b5 0) (yf (v := (Iv p1.Kind)) (hS11.rf m1) ?_))
 exact WO.vs 6 [(19, .bool (decide (p1.Kind > 15))), (20, .bool (decide (p1.Kind > 15)))] (WO.mk 16 hc (by rw [hc]; rfl))
 refine yb (W.cb hr (fun hc hr => ?_) (fun hc hr => ?_))
 refine yd nL3 ?_
 refine ya 0 21 (.agg (cs_qCatalog z_qCatalog zw_qCatalog).toArray) (yw hS11 0 (cs_qCatalog z_qCatalog zw_qCatalog) ?_)
 intro w16 hS15
 refine ya 2 9 (Iv 2) (yb (W.ret (yc ?_)))
 obtain rfl := sj hr
 exact yak _ (hS15.rd m0) ⟨I, zw_qCatalog, rfl, lr, hS15.drop.drop.drop, zok_qCatalog⟩
 refine yg (En.next (ye (yd nL5 ?_)))
 refine ya 0 22 (Pt b1 2) (yf (v := (Sl w_p0.Roles.a p0.Roles w_p0.Roles.c)) (hS11.rf m2) ?_)
 refine ya 2 24 (.string p2) ?_
 obtain ⟨r25, hx_r20, hr⟩ := bsm hr
 refine y6 (r18_At_ok h_p0.Roles hS11 hx_r20) ?_
 intro I22 w21 hl23 hS24
 refine ya 4 26 (.bool (decide (r25 < 0))) (yb (W.cb hr (fun hc hr => ?_) (fun hc hr => ?_)))
 refine yd nL3 ?_
 refine ya 0 27 (.agg (cs_qCatalog z_qCatalog zw_qCatalog).toArray) (yw hS24 0 (cs_qCatalog z_qCatalog zw_qCatalog) ?_)
 intro w27 hS26
 refine ya 2 9 (Iv 4) (yb (W.ret (yc ?_)))
 obtain rfl := sj hr
 exact yak _ (hS26.rd m0) ⟨I22, zw_qCatalog, rfl, hl23, hS26.drop.drop.drop, zok_qCatalog⟩
 refine yg (En.next (yd nL3 ?_))
 refine yu ((cs_qCatalog p0 w_p0)) (hS24.rf m2) ?_
 refine yx hS24 (cs_qCatalog z_qCatalog zw_qCatalog) 29 ?_
 intro b31 w34 hS33
 refine yw hS33 0 (cs_qCatalog p0 w_p0) ?_
 intro w36 hS35
 refine yz [0] ?_
 refine ya 0 11 (Iv 0) (yb (ye (W.block (yd nL11 ?_))))
 refine ya 0 55 (Pt b5 0) (yf (v := (Iv p1.Kind)) (hS35.rf m2) ?_)
 refine WO.vs 2 [(57, .bool (decide (p1.Kind ≤ 13))), (58, .bool (decide (p1.Kind ≤ 13)))] ?_
 obtain ⟨j37, hr1, hr⟩ := bsm hr
 refine WO.jw (l1 := [4, 5, 6, 7, 8, 9]) (J := (fun fr w => ∃ I39, fr = [(2, .string p2), (3, Iv p3), (4, Pt b1 0), (5, Pt b5 0), (8, Pt b9 0), (10, Pt b31 0), (11, Iv 0), (64, .bool j37)] ∧ I22.Le I39 ∧ St E w I39 ((Bx b1 (cs_qCatalog p0 w_p0) 29) :: (Bx b5 (cs_qStmt p1 w_p1) 44) :: (Bx b9 (cs_qCatalog z_qCatalog zw_qCatalog) 29) :: (Bx b31 (cs_qCatalog p0 w_p0) 29) :: Os))) ?_ ?_
 refine WO.cb hr1 (fun hc hr1 => ?_) (fun hc hr1 => ?_)
 refine yj 58 hc (ya 4 59 (Pt b1 2) (yf (v := (Sl w_p0.Roles.a p0.Roles w_p0.Roles.c)) (hS35.rf m3) ?_))
 refine ya 6 61 (.string p2) ?_
 obtain ⟨r46, hx_r41, hr1⟩ := bsm hr1
 refine y6 (r18_Is_ok (RSl.mono h_p0.Roles hl23) hS35 hx_r41) ?_
 intro I43 w42 hl44 hS45
 refine WO.vs 8 [(63, .bool (!r46)), (64, .bool (!r46))] ?_
 obtain rfl := sj hr1
 exact yv ⟨I43, rfl, hl44, hS45.front1.front2.front3⟩
 refine yj 58 hc ?_
 iterate 5 refine yt ?_
 refine ya 9 64 (.bool false) ?_
 obtain rfl := sj hr1
 exact yv ⟨I22, rfl, lr, hS35.front1.front2.front3⟩
 rintro _ w53 ⟨I39, rfl, hl40, hS54⟩
 refine ya 10 54 (.bool j37) (yb ?_)
 obtain ⟨j55, hr1, hr⟩ := bsm hr
 refine W.jw (J := (fun fr w => ∃ (s59 : Int) (s60 : qCatalog) (s61 : List qRole) (s62 : List qGrant), ∃ I57 w_s60 a_s61 c_s61 a_s62 c_s62, (.inl (s59, s60, s61, s62)) = j55 ∧ fr = [(3, Iv p3), (4, Pt b1 0), (8, Pt b9 0), (10, Pt b31 0), (11, Iv s59)] ∧ I39.Le I57 ∧ St E w I57 ((Bx b1 (cs_qCatalog p0 w_p0) 29) :: (Bx b9 (cs_qCatalog s60 w_s60) 29) :: (Bx b31 (cs_qCatalog ({ p0 with Roles := s61, Grants := s62 }) ({ w_p0 with Roles := ⟨a_s61, c_s61⟩, Grants := ⟨a_s62, c_s62⟩ })) 29) :: Os) ∧ ok_qCatalog I57 s60 w_s60 ∧ RSl 2 R_qRole I57 a_s61 c_s61 s61 ∧ RSl 5 R_qGrant I57 a_s62 c_s62 s62)) ?_ ?_
 refine W.cb hr1 (fun hc hr1 => ?_) (fun hc hr1 => ?_)
 refine yaa [0] ?_
 exact ya 0 11 (Iv 36) (WO.nil (yo ⟨36, z_qCatalog, p0.Roles, p0.Grants, I39, zw_qCatalog, w_p0.Roles.a, w_p0.Roles.c, w_p0.Grants.a, w_p0.Grants.c, sj hr1, rfl, lr, hS54.front1.drop, zok_qCatalog, (RSl.mono h_p0.Roles (hl23.trans hl40)), (RSl.mono h_p0.Grants (hl23.trans hl40))⟩))
 refine yd nL4 ?_
 refine ya 0 66 (Pt b5 0) (yf (v := (Iv p1.Kind)) (hS54.rf m1) ?_)
 refine WO.vs 2 [(68, .bool (decide (p1.Kind ≤ 13))), (65, .bool (decide (p1.Kind ≤ 13)))] (yb ?_)
 obtain ⟨j65, hr2, hr1⟩ := bsm hr1
 refine W.jw (J := (fun fr w => ∃ (s79 : Int) (s80 : qCatalog) (s81 : List qRole) (s82 : List qGrant), ∃ I67 w_s80 a_s81 c_s81 a_s82 c_s82, (.inl (s79, s80, s81, s82)) = j65 ∧ fr = [(3, Iv p3), (4, Pt b1 0), (8, Pt b9 0), (10, Pt b31 0), (11, Iv s79)] ∧ I39.Le I67 ∧ St E w I67 ((Bx b1 (cs_qCatalog p0 w_p0) 29) :: (Bx b9 (cs_qCatalog s80 w_s80) 29) :: (Bx b31 (cs_qCatalog ({ p0 with Roles := s81, Grants := s82 }) ({ w_p0 with Roles := ⟨a_s81, c_s81⟩, Grants := ⟨a_s82, c_s82⟩ })) 29) :: Os) ∧ ok_qCatalog I67 s80 w_s80 ∧ RSl 2 R_qRole I67 a_s81 c_s81 s81 ∧ RSl 5 R_qGrant I67 a_s82 c_s82 s82)) ?_ ?_
 refine W.cb hr2 (fun hc hr2 => ?_) (fun hc hr2 => ?_)
 refine yaa nL9 ?_
 refine yu ((cs_qCatalog p0 w_p0)) (hS54.rf m0) ?_
 refine yu ((cs_qStmt p1 w_p1)) (hS54.rf m1) ?_
 obtain ⟨⟨r74, r75⟩, hx_r69, hr2⟩ := bsm hr2
 refine y8 (r19_roles_ok (h_p0.mono (hl23.trans hl40)) (h_p1.mono (hl23.trans hl40)) hS54 hx_r69) ?_
 rintro _ w70 ⟨I71, a_r74, c_r74, rfl, hl72, hS73, h_r74⟩
 refine ⟨_, rfl, trivial, ?_⟩
 refine WO.vs 3 [(69, .tuple #[(Sl a_r74 r74 c_r74), (Iv r75)]), (73, Sl a_r74 r74 c_r74), (74, Iv r75), (75, Pt b31 2)] (yw hS73.front3 2 (cs_qCatalog ({ p0 with Roles := r74 }) ({ w_p0 with Roles := ⟨a_r74, c_r74⟩ })) ?_)
 intro w78 hS77
 exact ya 8 11 (Iv r75) (WO.nil (yo ⟨r75, z_qCatalog, r74, p0.Grants, I71, zw_qCatalog, a_r74, c_r74, w_p0.Grants.a, w_p0.Grants.c, sj hr2, rfl, hl72, hS77.front2.drop.front2.front2, zok_qCatalog, h_r74, (RSl.mono h_p0.Grants ((hl23.trans hl40).trans hl72))⟩))
 refine yd nL4 ?_
 refine ya 0 77 (Pt b5 0) (yf (v := (Iv p1.Kind)) (hS54.rf m1) ?_)
 refine WO.vs 2 [(79, .bool (p1.Kind == 14)), (76, .bool (p1.Kind == 14))] (yb ?_)
 obtain ⟨j87, hr3, hr2⟩ := bsm hr2
 refine W.jw (J := (fun fr w => ∃ (s101 : Int) (s102 : qCatalog) (s103 : List qGrant), ∃ I89 w_s102 a_s103 c_s103, (.inl (s101, s102, s103)) = j87 ∧ fr = [(3, Iv p3), (4, Pt b1 0), (8, Pt b9 0), (10, Pt b31 0), (11, Iv s101)] ∧ I39.Le I89 ∧ St E w I89 ((Bx b1 (cs_qCatalog p0 w_p0) 29) :: (Bx b9 (cs_qCatalog s102 w_s102) 29) :: (Bx b31 (cs_qCatalog ({ p0 with Grants := s103 }) ({ w_p0 with Grants := ⟨a_s103, c_s103⟩ })) 29) :: Os) ∧ ok_qCatalog I89 s102 w_s102 ∧ RSl 5 R_qGrant I89 a_s103 c_s103 s103)) ?_ ?_
 refine W.cb hr3 (fun hc hr3 => ?_) (fun hc hr3 => ?_)
 refine yaa nL10 ?_
 refine yu ((cs_qCatalog p0 w_p0)) (hS54.rf m0) ?_
 refine yu ((cs_qStmt p1 w_p1)) (hS54.rf m1) ?_
 refine ya 2 83 (.string p2) ?_
 obtain ⟨⟨r96, r97⟩, hx_r91, hr3⟩ := bsm hr3
 refine y8 (r19_given_ok (h_p0.mono (hl23.trans hl40)) (h_p1.mono (hl23.trans hl40)) hS54 hx_r91) ?_
 rintro _ w92 ⟨I93, a_r96, c_r96, rfl, hl94, hS95, h_r96⟩
 refine ⟨_, rfl, trivial, ?_⟩
 refine WO.vs 4 [(80, .tuple #[(Sl a_r96 r96 c_r96), (Iv r97)]), (85, Sl a_r96 r96 c_r96), (86, Iv r97), (87, Pt b31 3)] (yw hS95.front3 3 (cs_qCatalog ({ p0 with Grants := r96 }) ({ w_p0 with Grants := ⟨a_r96, c_r96⟩ })) ?_)
 intro w100 hS99
 exact ya 9 11 (Iv r97) (WO.nil (yo ⟨r97, z_qCatalog, r96, I93, zw_qCatalog, a_r96, c_r96, sj hr3, rfl, hl94, hS99.front2.drop.front2.front2, zok_qCatalog, h_r96⟩))
 refine yd nL5 ?_
 refine yu ((cs_qCatalog p0 w_p0)) (hS54.rf m0) ?_
 refine yu ((cs_qStmt p1 w_p1)) (hS54.rf m1) ?_
 refine ya 2 31 (.string p2) ?_
 obtain ⟨r113, hx_r108, hr3⟩ := bsm hr3
 refine y6 (r19_place_ok (h_p0.mono (hl23.trans hl40)) (h_p1.mono (hl23.trans hl40)) hS54 hx_r108) ?_
 intro I110 w109 hl111 hS112
 refine ya 4 12 (Iv r113) (yb (ye (yd nL2 ?_)))
 refine WO.vs 0 [(33, Iv r113), (34, .bool (decide (r113 < 0)))] (yb (W.cb hr3 (fun hc hr3 => ?_) (fun hc hr3 => ?_)))
 refine yd nL3 ?_
 refine ya 0 35 (.agg (cs_qCatalog z_qCatalog zw_qCatalog).toArray) (yw hS112.front2 0 (cs_qCatalog z_qCatalog zw_qCatalog) ?_)
 intro w116 hS115
 refine ya 2 9 (Iv 4) (yb (W.ret (yc (ym ?_))))
 obtain rfl := sj hr3
 refine ym ?_
 obtain rfl := sj hr2
 refine ym ?_
 obtain rfl := sj hr1
 refine yh (yc ?_)
 obtain rfl := sj hr
 exact yak _ (hS115.rd m0) ⟨I110, zw_qCatalog, rfl, ((hl23.trans hl40).trans hl111), hS115.drop.drop.drop.drop, zok_qCatalog⟩
 refine yg (En.next (yd nL2 ?_))
 refine ya 0 36 (Pt b31 3) (yw hS112.front3 3 (cs_qCatalog ({ p0 with Grants := ([] : List qGrant) }) ({ w_p0 with Grants := ⟨none, 0⟩ })) ?_)
 intro w144 hS143
 refine yb (ye ?_)
 have hS145 := hS143.drew
 refine yao nL9 6 (KR.cons (hS145.rd m0) (KR.cons (hS145.rd m1) (KR.nil hS145.im))) ?_
 generalize World.drew _ = w146 at *
 refine ya 0 37 (Pt b31 3) (yf (v := (.slice none 0 0)) (rd_c m0 (hS145.rd m0)) ?_)
 refine ya 2 39 (Pt b1 3) (yf (v := (Sl w_p0.Grants.a p0.Grants w_p0.Grants.c)) (rd_c m1 (hS145.rd m1)) ?_)
 refine ya 4 41 (Iv r113) ?_
 obtain ⟨x147, hx_x147, hr3⟩ := bsm hr3
 obtain ⟨h0_x147, h1_x147, h2_x147, he_x147⟩ := sub_some hx_x147
 have hl_x147 : (r113 : Int) ≤ (w_p0.Grants.c : Int) := Int.le_trans h2_x147 (Int.ofNat_le.2 ((RSl.mono h_p0.Grants ((hl23.trans hl40).trans hl111))).le)
 refine WO.slice (e := 67) (sz := 5) rfl (by kernel_rfl) (by kernel_rfl) (by kernel_rfl) rfl (0 : Int) (r113 : Int) h0_x147 (.inl ⟨rfl, rfl⟩) (.inr ⟨_, _, rfl, rfl⟩) h1_x147 hl_x147 ?_
 obtain ⟨a_x147, c_x147, h_x147, ev_x147⟩ := sub_ok ((RSl.mono h_p0.Grants ((hl23.trans hl40).trans hl111))) h0_x147 h1_x147 h2_x147 he_x147
 refine y7 42 rfl ev_x147 ?_
 refine WO.tail rfl ?_
 have hS149 := hS145.no
 obtain ⟨x150, hx_x150, hr3⟩ := bsm hr3
 obtain ⟨h0_x150, he_x150⟩ := app_some hx_x150
 refine WO.append (e' := 67) (b := 64) (zs := (cs_qGrant z_qGrant).toArray) hS149 (OwnSl.nil (T := 67) (rel := R_qGrant) (I := I110)) rfl (by kernel_rfl) rfl (by kernel_rfl) (by kernel_rfl) (by kernel_rfl) rfl rfl rfl rfl h_x147 hS149.im h0_x150 he_x150 (fun _ _ _ => trivial) ?_
 intro a151 c152 w153 C154 hS155 ho156
 refine ya 7 44 (Pt b31 3) (yw hS155.front1 3 (cs_qCatalog ({ p0 with Grants := x150 }) ({ w_p0 with Grants := ⟨a151, c152⟩ })) ?_)
 intro w159 hS158
 refine yb ?_
 have hS160 := hS158.drew
 refine yao nL10 7 (KR.cons (hS160.rd m0) (KR.cons (hS160.rd m2) (KR.nil hS160.im))) ?_
 generalize World.drew _ = w161 at *
 refine ya 0 45 (Pt b31 3) (yf (v := (Sl a151 x150 c152)) (rd_c m0 (hS160.rd m0)) ?_)
 refine ya 2 47 (Pt b1 3) (yf (v := (Sl w_p0.Grants.a p0.Grants w_p0.Grants.c)) (rd_c m1 (hS160.rd m2)) ?_)
 refine WO.vs 4 [(49, Iv r113), (50, Iv (w64 (r113 + 1)))] ?_
 obtain ⟨x162, hx_x162, hr3⟩ := bsm hr3
 obtain ⟨h0_x162, h1_x162, h2_x162, he_x162⟩ := sub_some hx_x162
 have hl_x162 : ((p0.Grants.length : Int) : Int) ≤ (w_p0.Grants.c : Int) := Int.le_trans h2_x162 (Int.ofNat_le.2 ((RSl.mono h_p0.Grants ((hl23.trans hl40).trans hl111))).le)
 refine WO.slice (e := 67) (sz := 5) rfl (by kernel_rfl) (by kernel_rfl) (by kernel_rfl) rfl ((w64 (r113 + 1)) : Int) ((p0.Grants.length : Int) : Int) h0_x162 (.inr ⟨_, _, rfl, rfl⟩) (.inl ⟨rfl, rfl⟩) h1_x162 hl_x162 ?_
 obtain ⟨a_x162, c_x162, h_x162, ev_x162⟩ := sub_ok ((RSl.mono h_p0.Grants ((hl23.trans hl40).trans hl111))) h0_x162 h1_x162 h2_x162 he_x162
 refine y7 51 rfl ev_x162 ?_
 refine WO.tail rfl ?_
 have hS163 := hS160.front1
 obtain ⟨x164, hx_x164, hr3⟩ := bsm hr3
 obtain ⟨h0_x164, he_x164⟩ := app_some hx_x164
 refine WO.ap 67 64 (cs_qGrant z_qGrant) hS163 ho156 h_x162 hS163.im h0_x164 he_x164 ?_
 intro a165 c166 w167 C168 hS169 ho170
 refine ya 8 53 (Pt b31 3) (yw hS169.front1 3 (cs_qCatalog ({ p0 with Grants := x164 }) ({ w_p0 with Grants := ⟨a165, c166⟩ })) ?_)
 intro w173 hS172
 refine WO.nil ?_
 obtain ⟨I175, hl176, hS178, hp177⟩ := y4 ho170 hS172.front1
 exact yo ⟨0, z_qCatalog, x164, I175, zw_qCatalog, a165, c166, sj hr3, rfl, (hl111.trans hl176), hS178.front2.drop.front2.front2, zok_qCatalog, hp177⟩
 rintro _ w183 ⟨s101, s102, s103, I89, w_s102, a_s103, c_s103, rfl, rfl, hl90, hS184, h_s102, h_s103⟩
 exact yo ⟨s101, s102, p0.Roles, s103, I89, w_s102, w_p0.Roles.a, w_p0.Roles.c, a_s103, c_s103, sj hr2, rfl, hl90, hS184, h_s102, (RSl.mono h_p0.Roles ((hl23.trans hl40).trans hl90)), h_s103⟩
 rintro _ w185 ⟨s79, s80, s81, s82, I67, w_s80, a_s81, c_s81, a_s82, c_s82, rfl, rfl, hl68, hS186, h_s80, h_s81, h_s82⟩
 exact yo ⟨s79, s80, s81, s82, I67, w_s80, a_s81, c_s81, a_s82, c_s82, sj hr1, rfl, hl68, hS186, h_s80, h_s81, h_s82⟩
 rintro _ w187 ⟨s59, s60, s61, s62, I57, w_s60, a_s61, c_s61, a_s62, c_s62, rfl, rfl, hl58, hS188, h_s60, h_s61, h_s62⟩
 refine yi (En.next (ye (yd nL8 ?_)))
 refine WO.vs 0 [(88, Iv s59), (89, .bool (s59 == 0)), (90, .bool (s59 == 0))] (yac (l1 := [3, 4, 5, 6, 7]) 95 ((s59 == 0) && (decide (p0.Version ≥ p3))) ?_ ?_)
 refine yp (s59 == 0) (fun hc => ?_) (fun hc => ?_)
 refine yj 90 hc (ya 3 91 (Pt b1 0) (yf (v := (Iv p0.Version)) (hS188.rf m0) ?_))
 exact WO.vs 5 [(93, Iv p3), (94, .bool (decide (p0.Version ≥ p3))), (95, .bool (decide (p0.Version ≥ p3)))] (WO.mk 90 hc (by rw [hc]; rfl))
 refine yj 90 hc ?_
 iterate 4 refine yt ?_
 exact ya 7 95 (.bool false) (WO.mk 90 hc (by rw [hc]; rfl))
 refine yb ?_
 obtain ⟨j191, hr1, hr⟩ := bsm hr
 refine W.jw (J := (fun fr w => ∃ I193, fr = [(4, Pt b1 0), (8, Pt b9 0), (10, Pt b31 0), (11, Iv j191)] ∧ I57.Le I193 ∧ St E w I193 ((Bx b1 (cs_qCatalog p0 w_p0) 29) :: (Bx b9 (cs_qCatalog s60 w_s60) 29) :: (Bx b31 (cs_qCatalog ({ p0 with Roles := s61, Grants := s62 }) ({ w_p0 with Roles := ⟨a_s61, c_s61⟩, Grants := ⟨a_s62, c_s62⟩ })) 29) :: Os))) ?_ ?_
 refine W.cb hr1 (fun hc hr1 => ?_) (fun hc hr1 => ?_)
 refine yaa [0] ?_
 refine ya 0 11 (Iv 52) (WO.nil ?_)
 obtain rfl := sj hr1
 exact yo ⟨I57, rfl, lr, hS188⟩
 refine yg ?_
 obtain rfl := sj hr1
 exact yo ⟨I57, rfl, lr, hS188⟩
 rintro _ w195 ⟨I193, rfl, hl194, hS196⟩
 refine En.next (ye (yd nL2 ?_))
 refine WO.vs 0 [(96, Iv j191), (97, .bool (j191 != 0))] (yb (W.cb hr (fun hc hr => ?_) (fun hc hr => ?_)))
 refine yd nL4 ?_
 refine WO.vs 0 [(98, .agg (cs_qCatalog z_qCatalog zw_qCatalog).toArray), (99, Iv j191)] (yw hS196.front1 0 (cs_qCatalog z_qCatalog zw_qCatalog) ?_)
 intro w199 hS198
 refine ya 3 9 (Iv j191) (yb (W.ret (yc ?_)))
 obtain rfl := sj hr
 exact yak _ (hS198.rd m0) ⟨I193, zw_qCatalog, rfl, (((hl23.trans hl40).trans hl58).trans hl194), hS198.drop.drop.drop, zok_qCatalog⟩
 refine yg (En.next (yd nL5 ?_))
 refine ya 0 100 (Pt b1 0) (yf (v := (Iv p0.Version)) (hS196.rf m0) ?_)
 refine WO.vs 2 [(102, Iv (w64 (p0.Version + 1))), (103, Pt b31 0)] (yw hS196.front2 0 (cs_qCatalog ({ p0 with Version := (w64 (p0.Version + 1)), Roles := s61, Grants := s62 }) ({ w_p0 with Roles := ⟨a_s61, c_s61⟩, Grants := ⟨a_s62, c_s62⟩ })) ?_)
 intro w205 hS204
 refine yz nL4 ?_
 refine yu ((cs_qCatalog ({ p0 with Version := (w64 (p0.Version + 1)), Roles := s61, Grants := s62 }) ({ w_p0 with Roles := ⟨a_s61, c_s61⟩, Grants := ⟨a_s62, c_s62⟩ }))) (hS204.rf m0) ?_
 have hk206 : ok_qCatalog I193 ({ p0 with Version := (w64 (p0.Version + 1)), Roles := s61, Grants := s62 }) ({ w_p0 with Roles := ⟨a_s61, c_s61⟩, Grants := ⟨a_s62, c_s62⟩ }) := ⟨(RSl.mono h_p0.Tables (((hl23.trans hl40).trans hl58).trans hl194)), (RSl.mono h_s61 hl194), (RSl.mono h_s62 hl194)⟩
 obtain ⟨r212, hx_r207, hr⟩ := bsm hr
 refine y8 (r19_Held_ok hk206 hS204 hx_r207) ?_
 rintro _ w208 ⟨I209, a_r212, c_r212, rfl, hl210, hS211, h_r212⟩
 refine ⟨_, rfl, trivial, ?_⟩
 refine ya 2 106 (Pt b31 3) (yw hS211 3 (cs_qCatalog ({ p0 with Version := (w64 (p0.Version + 1)), Roles := s61, Grants := r212 }) ({ w_p0 with Roles := ⟨a_s61, c_s61⟩, Grants := ⟨a_r212, c_r212⟩ })) ?_)
 intro w214 hS213
 refine yz nL3 ?_
 refine yu ((cs_qCatalog ({ p0 with Version := (w64 (p0.Version + 1)), Roles := s61, Grants := r212 }) ({ w_p0 with Roles := ⟨a_s61, c_s61⟩, Grants := ⟨a_r212, c_r212⟩ }))) (hS213.rf m0) ?_
 refine yw hS213.front2 0 (cs_qCatalog ({ p0 with Version := (w64 (p0.Version + 1)), Roles := s61, Grants := r212 }) ({ w_p0 with Roles := ⟨a_s61, c_s61⟩, Grants := ⟨a_r212, c_r212⟩ })) ?_
 intro w217 hS216
 refine ya 2 9 (Iv 0) (yb (W.ret ?_))
 have hk221 : ok_qCatalog I209 ({ p0 with Version := (w64 (p0.Version + 1)), Roles := s61, Grants := r212 }) ({ w_p0 with Roles := ⟨a_s61, c_s61⟩, Grants := ⟨a_r212, c_r212⟩ }) := ⟨(RSl.mono h_p0.Tables ((((hl23.trans hl40).trans hl58).trans hl194).trans hl210)), (RSl.mono h_s61 (hl194.trans hl210)), h_r212⟩
 obtain rfl := sj hr
 exact yak _ (hS216.rd m0) ⟨I209, ({ w_p0 with Roles := ⟨a_s61, c_s61⟩, Grants := ⟨a_r212, c_r212⟩ }), rfl, ((((hl23.trans hl40).trans hl58).trans hl194).trans hl210), hS216.drop.drop.drop, hk221⟩
def r17_without (p0 : qCatalog) (p1 : ByteArray) : Option qCatalog := (forE (fun (i21 : Nat) => fun (s20 : List qTable) => (idx p0.Tables (i21 : Int)).bind (fun x33 => ((bif (!sEq x33.Name p1) then (idx p0.Tables (i21 : Int)).bind (fun x40 => (app 112 s20 ([x40] : List qTable)).bind (fun x49 => some x49)) else some s20)).bind (fun (j34 : List qTable) => some j34))) p0.Tables.length 0 ([] : List qTable)).bind (fun s20 => some { p0 with Tables := s20 })
theorem r17_without_ok {p0 : qCatalog} {p1 : ByteArray} {w_p0 : W_qCatalog} (h_p0 : ok_qCatalog I p0 w_p0) (hS : St E w I Os) {r : qCatalog} (hr : r17_without p0 p1 = some r) :
    Calls P 50 #[(.agg (cs_qCatalog p0 w_p0).toArray), (.string p1)] w (fun e w' => ∃ I' w_rw0, e = .returned (.agg (cs_qCatalog r w_rw0).toArray) ∧ I.Le I' ∧ St E w' I' Os ∧ ok_qCatalog I' r w_rw0) := by
 refine calls_W (fn := Tryz.f50) rfl rfl rfl ?_
 unfold r17_without at hr
 refine yd nL2 ?_
 refine yx hS (cs_qCatalog p0 w_p0) 29 ?_
 intro b1 w4 hS3
 refine yx hS3 (cs_qCatalog z_qCatalog zw_qCatalog) 29 ?_
 intro b5 w8 hS7
 refine yz nL3 ?_
 refine yu ((cs_qCatalog p0 w_p0)) (hS7.rf m1) ?_
 refine yx hS7 (cs_qCatalog z_qCatalog zw_qCatalog) 29 ?_
 intro b9 w12 hS11
 refine yw hS11 0 (cs_qCatalog p0 w_p0) ?_
 intro w14 hS13
 refine yz nL2 ?_
 refine ya 0 8 (Pt b9 1) (yw hS13 1 (cs_qCatalog ({ p0 with Tables := ([] : List qTable) }) ({ w_p0 with Tables := ⟨none, 0⟩ })) ?_)
 intro w16 hS15
 refine yb (ye (yd [0] ?_))
 refine ya 0 6 (Iv 0) (yb (W.block ?_))
 obtain ⟨s20, hloop22, hr⟩ := bsm hr
 have hlt31 := (h_p0.Tables).len_lt
 refine W.wk (W.forE (m := p0.Tables.length) hloop22 (fun (i21 : Nat) => fun (s20 : List qTable) fr w => ∃ I18 a_s20 c_s20 C_s20, fr = [(1, .string p1), (2, Pt b1 0), (4, Pt b5 0), (5, Pt b9 0), (6, Nv i21)] ∧ I.Le I18 ∧ St E w I18 ((Bx b1 (cs_qCatalog p0 w_p0) 29) :: (Bx b5 (cs_qCatalog z_qCatalog zw_qCatalog) 29) :: (Bx b9 (cs_qCatalog ({ p0 with Tables := s20 }) ({ w_p0 with Tables := ⟨a_s20, c_s20⟩ })) 29) :: (C_s20) :: Os) ∧ OwnSl 89 6 R_qTable I18 C_s20 a_s20 c_s20 s20) ⟨I, none, 0, Mem.no, rfl, lr, hS15.no.front1.front2.front3, OwnSl.nil⟩ ?_ ?_)
 rintro i21 s20 _ w28 hi32 ⟨I18, a_s20, c_s20, C_s20, rfl, hl19, hS29, h_s20⟩ x30 hr1
 refine ye (yd nL5 ?_)
 refine WO.vs 0 [(9, Nv i21), (10, Pt b1 1)] (yf (v := (Sl w_p0.Tables.a p0.Tables w_p0.Tables.c)) (hS29.rf m0) ?_)
 refine WO.vs 3 [(12, Nv p0.Tables.length), (13, .bool (decide ((i21 : Int) < (p0.Tables.length : Int))))] (yb (yag (fun hc => ?_)))
 clear hc
 refine yg (En.next (ye (W.block (yd nL8 ?_))))
 refine ya 0 16 (Pt b1 1) (yf (v := (Sl w_p0.Tables.a p0.Tables w_p0.Tables.c)) (hS29.rf m0) ?_)
 refine ya 2 18 (Nv i21) ?_
 obtain ⟨x33, hr1, h0_x33, h1_x33, hx_x33, ha_x33, _, _, ⟨w_x33, rfl, h_x33⟩, hc_x33⟩ := sl_at ((RSl.mono h_p0.Tables hl19)) hr1
 refine yq 89 6 ha_x33 h0_x33 h1_x33 ?_
 refine ya 4 20 (.pointer (some ⟨bl w_p0.Tables.a, of w_p0.Tables.a + ((i21 : Int)).toNat * 6, none⟩)) (yae (v := (.string x33.Name)) hc_x33 hS29.rm ?_)
 refine WO.vs 6 [(22, .string p1), (23, .bool (!sEq x33.Name p1))] (yb ?_)
 obtain ⟨j34, hr2, hr1⟩ := bsm hr1
 refine W.jw (J := (fun fr w => ∃ I36 a_j34 c_j34 C_j34, fr = [(1, .string p1), (2, Pt b1 0), (4, Pt b5 0), (5, Pt b9 0), (6, Nv i21)] ∧ I18.Le I36 ∧ St E w I36 ((Bx b1 (cs_qCatalog p0 w_p0) 29) :: (Bx b5 (cs_qCatalog z_qCatalog zw_qCatalog) 29) :: (Bx b9 (cs_qCatalog ({ p0 with Tables := j34 }) ({ w_p0 with Tables := ⟨a_j34, c_j34⟩ })) 29) :: (C_j34) :: Os) ∧ OwnSl 89 6 R_qTable I36 C_j34 a_j34 c_j34 j34)) ?_ ?_
 refine W.cb hr2 (fun hc hr2 => ?_) (fun hc hr2 => ?_)
 have hS38 := hS29.drew
 refine yao nL11 8 (KR.cons (hS38.rd m0) (KR.cons (hS38.rd m2) (KR.nil hS38.im))) ?_
 generalize World.drew _ = w39 at *
 refine ya 0 24 (Pt b9 1) (yf (v := (Sl a_s20 s20 c_s20)) (rd_c m1 (hS38.rd m2)) ?_)
 refine ya 2 26 (Pt b1 1) (yf (v := (Sl w_p0.Tables.a p0.Tables w_p0.Tables.c)) (rd_c m0 (hS38.rd m0)) ?_)
 refine ya 4 28 (Nv i21) ?_
 obtain ⟨x40, hr2, h0_x40, h1_x40, hx_x40, ha_x40, _, _, ⟨w_x40, rfl, h_x40⟩, hc_x40⟩ := sl_at ((RSl.mono h_p0.Tables hl19)) hr2
 refine yq 89 6 ha_x40 h0_x40 h1_x40 ?_
 refine yai ((cs_qTable x40 w_x40)) hc_x40 0 (rd_i hS38.im) ?_
 refine y3 (rel := R_qTable) (xs := ([x40] : List qTable)) hS38 rfl (by kernel_rfl) rfl 89 6 [(cs_qTable x40 w_x40)] (by kernel_rfl) rfl ((Elr.cons ⟨w_x40, rfl, h_x40⟩ Elr.nil)) (fun C42 w46 hS45 => (KR.cons (hS45.rd m1) (KR.cons (hS45.rd m3) (KR.nil hS45.im)))) ?_
 intro a44 C42 w46 hS45 ho43
 refine WO.tail rfl ?_
 have hS48 := hS45.front4
 obtain ⟨x49, hx_x49, hr2⟩ := bsm hr2
 obtain ⟨h0_x49, he_x49⟩ := app_some hx_x49
 refine WO.ap 89 112 (cs_qTable z_qTable zw_qTable) hS48 h_s20 ho43.sl (hS48.rd m1) h0_x49 he_x49 ?_
 intro a50 c51 w52 C53 hS54 ho55
 refine ya 9 33 (Pt b9 1) (yw hS54.front1.drop.front3 1 (cs_qCatalog ({ p0 with Tables := x49 }) ({ w_p0 with Tables := ⟨a50, c51⟩ })) ?_)
 intro w60 hS59
 refine WO.nil ?_
 obtain rfl := sj hr2
 exact yo ⟨I18, a50, c51, C53, rfl, lr, hS59.front1.front1.front3.front3, ho55⟩
 refine yg ?_
 obtain rfl := sj hr2
 exact yo ⟨I18, a_s20, c_s20, C_s20, rfl, lr, hS29, h_s20⟩
 rintro _ w65 ⟨I36, a_j34, c_j34, C_j34, rfl, hl37, hS66, h_j34⟩
 refine yi (En.next (yaa nL3 ?_))
 refine ya 0 14 (Nv i21) (y0 (j := i21) rfl (by kernel_rfl) rfl (by first | omega | (dsimp only at *; omega) | (simp only [List.length_cons, List.length_nil] at *; omega)) ?_)
 refine ya 2 6 (Iv ((i21 + 1 : Nat) : Int)) (WO.nil ?_)
 obtain rfl := sj hr1
 exact yo ⟨I36, a_j34, c_j34, C_j34, rfl, (hl19.trans hl37), hS66, h_j34⟩
 rintro _ w67 ⟨I18, a_s20, c_s20, C_s20, rfl, hl19, hS68, h_s20⟩
 refine ye (yd nL5 ?_)
 refine WO.vs 0 [(9, Nv p0.Tables.length), (10, Pt b1 1)] (yf (v := (Sl w_p0.Tables.a p0.Tables w_p0.Tables.c)) (hS68.rf m0) ?_)
 refine WO.vs 3 [(12, Nv p0.Tables.length), (13, .bool (decide ((p0.Tables.length : Int) < (p0.Tables.length : Int))))] (yb (yah (fun hc => ?_)))
 clear hc
 refine yy (yk (yl (yn (En.next (yd nL2 ?_)))))
 refine yu ((cs_qCatalog ({ p0 with Tables := s20 }) ({ w_p0 with Tables := ⟨a_s20, c_s20⟩ }))) (hS68.rf m2) ?_
 obtain ⟨I70, hl71, hS73, hp72⟩ := y4 h_s20 hS68.front3
 refine yw hS73.front1 0 (cs_qCatalog ({ p0 with Tables := s20 }) ({ w_p0 with Tables := ⟨a_s20, c_s20⟩ })) ?_
 intro w76 hS75
 refine yb (W.ret ?_)
 have hk80 : ok_qCatalog I70 ({ p0 with Tables := s20 }) ({ w_p0 with Tables := ⟨a_s20, c_s20⟩ }) := ⟨hp72, (RSl.mono h_p0.Roles (hl19.trans hl71)), (RSl.mono h_p0.Grants (hl19.trans hl71))⟩
 obtain rfl := sj hr
 exact yay _ (hS75.rd m0) ⟨I70, ({ w_p0 with Tables := ⟨a_s20, c_s20⟩ }), rfl, (hl19.trans hl71), hS75.drop.drop.drop, hk80⟩
def r17_alike (p0 : List ByteArray) (p1 : List ByteArray) : Option Bool := (bif ((p0.length : Int) != (p1.length : Int)) then some false else (forN (fun (i4 : Nat) => fun (_s : Unit) => (forE (fun (i16 : Nat) => fun (s : Int × Int) => match s with | (s14, s15) => (idx p0 (i16 : Int)).bind (fun x25 => (idx p0 (i4 : Int)).bind (fun x26 => ((bif (sEq x25 x26) then some (w64 (s14 + 1)) else some s14)).bind (fun (j27 : Int) => (idx p1 (i16 : Int)).bind (fun x35 => (idx p0 (i4 : Int)).bind (fun x36 => ((bif (sEq x35 x36) then some (w64 (s15 + 1)) else some s15)).bind (fun (j37 : Int) => some (j27, j37)))))))) p0.length 0 (0, 0)).bind (fun (s14, s15) => (bif (s14 != s15) then some (.inr false) else some (.inl ())))) p0.length 0 ()).bind (fun (t : Unit ⊕ (Bool)) => match t with | .inl _ => some true | .inr s46 => some s46))
theorem r17_alike_ok {p0 : List ByteArray} {p1 : List ByteArray} {a_p0 : Option Addr} {c_p0 : Nat} {a_p1 : Option Addr} {c_p1 : Nat} (h_p0 : RSl 1 RStr I a_p0 c_p0 p0) (h_p1 : RSl 1 RStr I a_p1 c_p1 p1) (hS : St E w I Os) {r : Bool} (hr : r17_alike p0 p1 = some r) :
    Calls P 83 #[(Sl a_p0 p0 c_p0), (Sl a_p1 p1 c_p1)] w (fun e w' => ∃ I', e = .returned (.bool r) ∧ I.Le I' ∧ St E w' I' Os) := by
 refine calls_W (fn := Tryz.f83) rfl rfl rfl ?_
 unfold r17_alike at hr
 refine yd [0] ?_
 refine ya 0 4 (.bool false) (yb (ye (yd nL5 ?_)))
 refine WO.vs 0 [(9, Sl a_p0 p0 c_p0), (10, Nv p0.length), (11, Sl a_p1 p1 c_p1), (12, Nv p1.length), (13, .bool ((p0.length : Int) != (p1.length : Int)))] (yb (W.cb hr (fun hc hr => ?_) (fun hc hr => ?_)))
 refine yd [0] ?_
 refine ya 0 4 (.bool false) (yb (W.ret (yc ?_)))
 obtain rfl := sj hr
 exact yr ⟨I, rfl, lr, hS⟩
 refine yg (En.next (ye (yd [0] ?_)))
 refine ya 0 5 (Iv 0) (yb (W.block ?_))
 obtain ⟨t1, hloop5, hr⟩ := bsm hr
 have hlt9 := (h_p0).len_lt
 refine W.wk (W.forN (m := p0.length) hloop5 (fun (i4 : Nat) => fun (_s : Unit) fr w => ∃ I2, fr = [(0, Sl a_p0 p0 c_p0), (1, Sl a_p1 p1 c_p1), (5, Nv i4)] ∧ I.Le I2 ∧ St E w I2 Os) ⟨I, rfl, lr, hS⟩ ?_ ?_)
 rintro i4 _ _ w6 hi10 ⟨I2, rfl, hl3, hS7⟩ x8 hr1 hext1
 refine ye (yd nL4 ?_)
 refine WO.vs 0 [(14, Nv i4), (15, Sl a_p0 p0 c_p0), (16, Nv p0.length), (17, .bool (decide ((i4 : Int) < (p0.length : Int))))] (yb (yag (fun hc => ?_)))
 clear hc
 refine yg (En.next (ye (W.block (yd nL2 ?_))))
 refine WO.vs 0 [(6, Iv 0), (7, Iv 0)] (yb (ye (yd [0] ?_)))
 refine ya 0 8 (Iv 0) (yb (W.block ?_))
 obtain ⟨⟨s14, s15⟩, hloop17, hr1⟩ := bsm hr1
 have hlt21 := ((RSl.mono h_p0 hl3)).len_lt
 refine W.wk (W.forE (m := p0.length) hloop17 (fun (i16 : Nat) => fun (s : Int × Int) fr w => match s with | (s14, s15) => ∃ I12, fr = [(0, Sl a_p0 p0 c_p0), (1, Sl a_p1 p1 c_p1), (5, Nv i4), (6, Iv s14), (7, Iv s15), (8, Nv i16)] ∧ I2.Le I12 ∧ St E w I12 Os) ⟨I2, rfl, lr, hS7⟩ ?_ ?_)
 rintro i16 ⟨s14, s15⟩ _ w18 hi22 ⟨I12, rfl, hl13, hS19⟩ x20 hr2
 refine ye (yd nL4 ?_)
 refine WO.vs 0 [(20, Nv i16), (21, Sl a_p0 p0 c_p0), (22, Nv p0.length), (23, .bool (decide ((i16 : Int) < (p0.length : Int))))] (yb (yag (fun hc => ?_)))
 clear hc
 refine yg (En.next (ye (W.block (ye (ye ?_)))))
 have hS23 := hS19.drew
 refine yao nL9 8 (KR.nil hS23.im) ?_
 generalize World.drew _ = w24 at *
 refine WO.vs 0 [(26, Sl a_p0 p0 c_p0), (27, Nv i16)] ?_
 obtain ⟨x25, hr2, h0_x25, h1_x25, hx_x25, ha_x25, _, _, rfl, hc_x25⟩ := sl_at ((RSl.mono h_p0 (hl3.trans hl13))) hr2
 refine yq 9 1 ha_x25 h0_x25 h1_x25 ?_
 refine yae (v := (.string x25)) hc_x25 (rd_i hS23.im) ?_
 refine WO.vs 4 [(30, Sl a_p0 p0 c_p0), (31, Nv i4)] ?_
 obtain ⟨x26, hr2, h0_x26, h1_x26, hx_x26, ha_x26, _, _, rfl, hc_x26⟩ := sl_at ((RSl.mono h_p0 (hl3.trans hl13))) hr2
 refine yq 9 1 ha_x26 h0_x26 h1_x26 ?_
 refine yae (v := (.string x26)) hc_x26 (rd_i hS23.im) ?_
 refine WO.tail rfl ?_
 refine ya 8 34 (.bool (sEq x25 x26)) (yb ?_)
 obtain ⟨j27, hr3, hr2⟩ := bsm hr2
 refine W.jw (J := (fun fr w => ∃ I29, fr = [(0, Sl a_p0 p0 c_p0), (1, Sl a_p1 p1 c_p1), (5, Nv i4), (6, Iv j27), (7, Iv s15), (8, Nv i16)] ∧ I12.Le I29 ∧ St E w I29 Os)) ?_ ?_
 refine W.cb hr3 (fun hc hr3 => ?_) (fun hc hr3 => ?_)
 refine yaa nL3 ?_
 refine WO.vs 0 [(35, Iv s14), (36, Iv (w64 (s14 + 1))), (6, Iv (w64 (s14 + 1)))] (WO.nil ?_)
 obtain rfl := sj hr3
 exact yo ⟨I12, rfl, lr, hS23⟩
 refine yg ?_
 obtain rfl := sj hr3
 exact yo ⟨I12, rfl, lr, hS23⟩
 rintro _ w31 ⟨I29, rfl, hl30, hS32⟩
 refine En.next (ye ?_)
 have hS33 := hS32.drew
 refine yao nL9 8 (KR.nil hS33.im) ?_
 generalize World.drew _ = w34 at *
 refine WO.vs 0 [(37, Sl a_p1 p1 c_p1), (38, Nv i16)] ?_
 obtain ⟨x35, hr2, h0_x35, h1_x35, hx_x35, ha_x35, _, _, rfl, hc_x35⟩ := sl_at ((RSl.mono h_p1 ((hl3.trans hl13).trans hl30))) hr2
 refine yq 9 1 ha_x35 h0_x35 h1_x35 ?_
 refine yae (v := (.string x35)) hc_x35 (rd_i hS33.im) ?_
 refine WO.vs 4 [(41, Sl a_p0 p0 c_p0), (42, Nv i4)] ?_
 obtain ⟨x36, hr2, h0_x36, h1_x36, hx_x36, ha_x36, _, _, rfl, hc_x36⟩ := sl_at ((RSl.mono h_p0 ((hl3.trans hl13).trans hl30))) hr2
 refine yq 9 1 ha_x36 h0_x36 h1_x36 ?_
 refine yae (v := (.string x36)) hc_x36 (rd_i hS33.im) ?_
 refine WO.tail rfl ?_
 refine ya 8 45 (.bool (sEq x35 x36)) (yb ?_)
 obtain ⟨j37, hr3, hr2⟩ := bsm hr2
 refine W.jw (J := (fun fr w => ∃ I39, fr = [(0, Sl a_p0 p0 c_p0), (1, Sl a_p1 p1 c_p1), (5, Nv i4), (6, Iv j27), (7, Iv j37), (8, Nv i16)] ∧ I29.Le I39 ∧ St E w I39 Os)) ?_ ?_
 refine W.cb hr3 (fun hc hr3 => ?_) (fun hc hr3 => ?_)
 refine yaa nL3 ?_
 refine WO.vs 0 [(46, Iv s15), (47, Iv (w64 (s15 + 1))), (7, Iv (w64 (s15 + 1)))] (WO.nil ?_)
 obtain rfl := sj hr3
 exact yo ⟨I29, rfl, lr, hS33⟩
 refine yg ?_
 obtain rfl := sj hr3
 exact yo ⟨I29, rfl, lr, hS33⟩
 rintro _ w41 ⟨I39, rfl, hl40, hS42⟩
 refine yi (En.next (yaa nL3 ?_))
 refine ya 0 24 (Nv i16) (y0 (j := i16) rfl (by kernel_rfl) rfl (by first | omega | (dsimp only at *; omega) | (simp only [List.length_cons, List.length_nil] at *; omega)) ?_)
 refine ya 2 8 (Iv ((i16 + 1 : Nat) : Int)) (WO.nil ?_)
 obtain rfl := sj hr2
 exact yo ⟨I39, rfl, ((hl13.trans hl30).trans hl40), hS42⟩
 rintro _ w43 ⟨I12, rfl, hl13, hS44⟩
 refine ye (yd nL4 ?_)
 refine WO.vs 0 [(20, Nv p0.length), (21, Sl a_p0 p0 c_p0), (22, Nv p0.length), (23, .bool (decide ((p0.length : Int) < (p0.length : Int))))] (yb (yah (fun hc => ?_)))
 clear hc
 refine yy (yk (yl (yn (En.next (yd nL3 ?_)))))
 refine WO.vs 0 [(48, Iv s14), (49, Iv s15), (50, .bool (s14 != s15))] (yb (W.cb hr1 (fun hc hr1 => ?_) (fun hc hr1 => ?_)))
 refine yd [0] ?_
 refine ya 0 4 (.bool false) (yb (W.ret (yh (yc (ym ?_)))))
 obtain rfl := hext1 _ (sj hr1).symm
 refine yh (yc ?_)
 obtain rfl := sj hr
 exact yr ⟨I12, rfl, (hl3.trans hl13), hS44⟩
 refine yg (yi (En.next (yaa nL3 ?_)))
 refine ya 0 18 (Nv i4) (y0 (j := i4) rfl (by kernel_rfl) rfl (by first | omega | (dsimp only at *; omega) | (simp only [List.length_cons, List.length_nil] at *; omega)) ?_)
 exact ya 2 5 (Iv ((i4 + 1 : Nat) : Int)) (WO.nil (yo ⟨(), (sj hr1).symm, I12, rfl, (hl3.trans hl13), hS44⟩))
 rintro _ _ w47 ⟨I2, rfl, hl3, hS48⟩ he
 cases he
 refine ye (yd nL4 ?_)
 refine WO.vs 0 [(14, Nv p0.length), (15, Sl a_p0 p0 c_p0), (16, Nv p0.length), (17, .bool (decide ((p0.length : Int) < (p0.length : Int))))] (yb (yah (fun hc => ?_)))
 clear hc
 refine yy (yk (yl (yn (En.next (yd [0] ?_)))))
 refine ya 0 4 (.bool true) (yb (W.ret ?_))
 obtain rfl := sj hr
 exact yr ⟨I2, rfl, hl3, hS48⟩
def r17_Copy (p0 : qTable) : Option qTable := (app 32 ([] : List qColumn) p0.Cols).bind (fun x17 => (app 176 ([] : List qCons) p0.Cons).bind (fun x29 => (app 40 ([] : List qIndex) p0.Idx).bind (fun x41 => some { p0 with Cols := x17, Cons := x29, Idx := x41 })))
theorem r17_Copy_ok {p0 : qTable} {w_p0 : W_qTable} (h_p0 : ok_qTable I p0 w_p0) (hS : St E w I Os) {r : qTable} (hr : r17_Copy p0 = some r) :
    Calls P 85 #[(.agg (cs_qTable p0 w_p0).toArray)] w (fun e w' => ∃ (I' : Mem) (w_rw0 : W_qTable) (rC0_3 : Mem) (rC0_4 : Mem) (rC0_5 : Mem), e = .returned (.agg (cs_qTable r w_rw0).toArray) ∧ I.Le I' ∧ St E w' I' (rC0_3 :: rC0_4 :: rC0_5 :: Os) ∧ OwnSl 73 3 R_qColumn I' rC0_3 w_rw0.Cols.a w_rw0.Cols.c r.Cols ∧ OwnSl 100 12 R_qCons I' rC0_4 w_rw0.Cons.a w_rw0.Cons.c r.Cons ∧ OwnSl 124 2 R_qIndex I' rC0_5 w_rw0.Idx.a w_rw0.Idx.c r.Idx) := by
 refine calls_W (fn := Tryz.f85) rfl rfl rfl ?_
 unfold r17_Copy at hr
 refine yd nL2 ?_
 refine yx hS (cs_qTable p0 w_p0) 89 ?_
 intro b1 w4 hS3
 refine yx hS3 (cs_qTable z_qTable zw_qTable) 89 ?_
 intro b5 w8 hS7
 refine yz nL9 ?_
 refine ya 0 4 (Pt b1 0) (yf (v := (.string p0.Name)) (hS7.rf m1) ?_)
 refine ya 2 6 (Pt b1 1) (yf (v := (.string p0.Owner)) (hS7.rf m1) ?_)
 refine ya 4 8 (Pt b1 2) (yf (v := (Iv p0.Version)) (hS7.rf m1) ?_)
 refine ya 6 10 (.agg (cs_qTable ({ p0 with Cols := ([] : List qColumn), Cons := ([] : List qCons), Idx := ([] : List qIndex) }) (⟨⟨none, 0⟩, ⟨none, 0⟩, ⟨none, 0⟩⟩ : W_qTable)).toArray) (yx hS7 (cs_qTable z_qTable zw_qTable) 89 ?_)
 intro b9 w12 hS11
 refine yw hS11 0 (cs_qTable ({ p0 with Cols := ([] : List qColumn), Cons := ([] : List qCons), Idx := ([] : List qIndex) }) (⟨⟨none, 0⟩, ⟨none, 0⟩, ⟨none, 0⟩⟩ : W_qTable)) ?_
 intro w14 hS13
 refine yz nL7 ?_
 refine ya 0 11 (Pt b9 3) (yf (v := (.slice none 0 0)) (hS13.rf m0) ?_)
 refine ya 2 13 (Pt b1 3) (yf (v := (Sl w_p0.Cols.a p0.Cols w_p0.Cols.c)) (hS13.rf m2) ?_)
 have hS16 := hS13.no
 obtain ⟨x17, hx_x17, hr⟩ := bsm hr
 obtain ⟨h0_x17, he_x17⟩ := app_some hx_x17
 refine WO.append (e' := 73) (b := 32) (zs := (cs_qColumn z_qColumn).toArray) hS16 (OwnSl.nil (T := 73) (rel := R_qColumn) (I := I)) rfl (by kernel_rfl) rfl (by kernel_rfl) (by kernel_rfl) (by kernel_rfl) rfl rfl rfl rfl h_p0.Cols hS16.im h0_x17 he_x17 (fun _ _ _ => trivial) ?_
 intro a18 c19 w20 C21 hS22 ho23
 refine ya 5 16 (Pt b9 3) (yw hS22.front1 3 (cs_qTable ({ p0 with Cols := x17, Cons := ([] : List qCons), Idx := ([] : List qIndex) }) (⟨⟨a18, c19⟩, ⟨none, 0⟩, ⟨none, 0⟩⟩ : W_qTable)) ?_)
 intro w26 hS25
 refine yz nL7 ?_
 refine ya 0 17 (Pt b9 4) (yf (v := (.slice none 0 0)) (hS25.rf m0) ?_)
 refine ya 2 19 (Pt b1 4) (yf (v := (Sl w_p0.Cons.a p0.Cons w_p0.Cons.c)) (hS25.rf m3) ?_)
 have hS28 := hS25.no
 obtain ⟨x29, hx_x29, hr⟩ := bsm hr
 obtain ⟨h0_x29, he_x29⟩ := app_some hx_x29
 refine WO.append (e' := 100) (b := 176) (zs := (cs_qCons z_qCons zw_qCons).toArray) hS28 (OwnSl.nil (T := 100) (rel := R_qCons) (I := I)) rfl (by kernel_rfl) rfl (by kernel_rfl) (by kernel_rfl) (by kernel_rfl) rfl rfl rfl rfl h_p0.Cons hS28.im h0_x29 he_x29 (fun _ _ _ => trivial) ?_
 intro a30 c31 w32 C33 hS34 ho35
 refine ya 5 22 (Pt b9 4) (yw hS34.front1 4 (cs_qTable ({ p0 with Cols := x17, Cons := x29, Idx := ([] : List qIndex) }) (⟨⟨a18, c19⟩, ⟨a30, c31⟩, ⟨none, 0⟩⟩ : W_qTable)) ?_)
 intro w38 hS37
 refine yz nL7 ?_
 refine ya 0 23 (Pt b9 5) (yf (v := (.slice none 0 0)) (hS37.rf m0) ?_)
 refine ya 2 25 (Pt b1 5) (yf (v := (Sl w_p0.Idx.a p0.Idx w_p0.Idx.c)) (hS37.rf m4) ?_)
 have hS40 := hS37.no
 obtain ⟨x41, hx_x41, hr⟩ := bsm hr
 obtain ⟨h0_x41, he_x41⟩ := app_some hx_x41
 refine WO.append (e' := 124) (b := 40) (zs := (cs_qIndex z_qIndex zw_qIndex).toArray) hS40 (OwnSl.nil (T := 124) (rel := R_qIndex) (I := I)) rfl (by kernel_rfl) rfl (by kernel_rfl) (by kernel_rfl) (by kernel_rfl) rfl rfl rfl rfl h_p0.Idx hS40.im h0_x41 he_x41 (fun _ _ _ => trivial) ?_
 intro a42 c43 w44 C45 hS46 ho47
 refine ya 5 28 (Pt b9 5) (yw hS46.front1 5 (cs_qTable ({ p0 with Cols := x17, Cons := x29, Idx := x41 }) (⟨⟨a18, c19⟩, ⟨a30, c31⟩, ⟨a42, c43⟩⟩ : W_qTable)) ?_)
 intro w50 hS49
 refine yz nL2 ?_
 refine yu ((cs_qTable ({ p0 with Cols := x17, Cons := x29, Idx := x41 }) (⟨⟨a18, c19⟩, ⟨a30, c31⟩, ⟨a42, c43⟩⟩ : W_qTable))) (hS49.rf m0) ?_
 refine yw hS49.front4 0 (cs_qTable ({ p0 with Cols := x17, Cons := x29, Idx := x41 }) (⟨⟨a18, c19⟩, ⟨a30, c31⟩, ⟨a42, c43⟩⟩ : W_qTable)) ?_
 intro w53 hS52
 refine yb (W.ret ?_)
 obtain rfl := sj hr
 exact yay _ (hS52.rd m0) ⟨I, (⟨⟨a18, c19⟩, ⟨a30, c31⟩, ⟨a42, c43⟩⟩ : W_qTable), C21, C33, C45, rfl, lr, hS52.drop.drop.front3.drop.front1.front2, ho23, ho35, ho47⟩
noncomputable def r17_pointed (p0 : qTable) (p1 : ByteArray) (p2 : ByteArray) : Option (qTable × Bool) := (r17_Copy p0).bind (fun r14 => (loopO (fun (s : Bool × Int × (List qCons)) => match s with | (s34, s35, s36) => (bif (decide (s35 < (s36.length : Int))) then (idx s36 s35).bind (fun x46 => ((bif (x46.Kind == 3) then (idx s36 s35).bind (fun x51 => some (sEq x51.Table p1)) else some false)).bind (fun (j47 : Bool) => ((bif j47 then (idx s36 s35).bind (fun x58 => some (true, (s36.set (s35).toNat ({ x58 with Table := p2 })))) else some (s34, s36))).bind (fun ((s66, s67) : Bool × (List qCons)) => some (.inl (s66, (w64 (s35 + 1)), s67))))) else some (.inr (s34, s36)))) (false, 0, r14.Cons)).bind (fun ((s73, s74) : Bool × (List qCons)) => some ({ r14 with Cols := r14.Cols, Cons := s74, Idx := r14.Idx }, s73)))
theorem r17_pointed_ok {p0 : qTable} {p1 : ByteArray} {p2 : ByteArray} {w_p0 : W_qTable} (h_p0 : ok_qTable I p0 w_p0) (hS : St E w I Os) {r : qTable × Bool} (hr : r17_pointed p0 p1 p2 = some r) :
    Calls P 84 #[(.agg (cs_qTable p0 w_p0).toArray), (.string p1), (.string p2)] w (fun e w' => ∃ I' w_rw0, e = .returned (.tuple #[(.agg (cs_qTable r.1 w_rw0).toArray), (.bool r.2)]) ∧ I.Le I' ∧ St E w' I' Os ∧ ok_qTable I' r.1 w_rw0) := by
 refine calls_W (fn := Tryz.f84) rfl rfl rfl ?_
 unfold r17_pointed at hr
 refine yd nL3 ?_
 refine yx hS (cs_qTable p0 w_p0) 89 ?_
 intro b1 w4 hS3
 refine yx hS3 (cs_qTable z_qTable zw_qTable) 89 ?_
 intro b5 w8 hS7
 refine ya 2 7 (.bool false) (yz nL4 ?_)
 refine yu ((cs_qTable p0 w_p0)) (hS7.rf m1) ?_
 obtain ⟨r14, hx_r9, hr⟩ := bsm hr
 refine y8 (r17_Copy_ok h_p0 hS7 hx_r9) ?_
 rintro _ w10 ⟨I11, w_r14, C_r14_3, C_r14_4, C_r14_5, rfl, hl12, hS13, h_r14_3, h_r14_4, h_r14_5⟩
 refine ⟨_, rfl, trivial, ?_⟩
 refine yx hS13 (cs_qTable z_qTable zw_qTable) 89 ?_
 intro b15 w18 hS17
 obtain ⟨I20, hl21, hS23, hp22⟩ := y4 h_r14_3 hS17.front1
 obtain ⟨I25, hl26, hS28, hp27⟩ := y4 (h_r14_5.mono hl21) hS23.front2
 refine yw hS28 0 (cs_qTable ({ r14 with Cols := r14.Cols, Cons := r14.Cons, Idx := r14.Idx }) (⟨⟨w_r14.Cols.a, w_r14.Cols.c⟩, ⟨w_r14.Cons.a, w_r14.Cons.c⟩, ⟨w_r14.Idx.a, w_r14.Idx.c⟩⟩ : W_qTable)) ?_
 intro w30 hS29
 refine yz [0] ?_
 refine ya 0 9 (.bool false) (yb (ye (yd [0] ?_)))
 refine ya 0 10 (Iv 0) (yb (W.block ?_))
 obtain ⟨t31, hloop37, hr⟩ := bsm hr
 refine W.wk (yap hloop37 (fun (s : Bool × Int × (List qCons)) fr w => match s with | (s34, s35, s36) => ∃ I32 C_s36, fr = [(1, .string p1), (2, .string p2), (6, Pt b5 0), (8, Pt b15 0), (9, .bool s34), (10, Iv s35)] ∧ I25.Le I32 ∧ St E w I32 ((Bx b5 (cs_qTable z_qTable zw_qTable) 89) :: (Bx b15 (cs_qTable ({ r14 with Cols := r14.Cols, Cons := s36, Idx := r14.Idx }) (⟨⟨w_r14.Cols.a, w_r14.Cols.c⟩, ⟨w_r14.Cons.a, w_r14.Cons.c⟩, ⟨w_r14.Idx.a, w_r14.Idx.c⟩⟩ : W_qTable)) 89) :: (C_s36) :: Os) ∧ OwnSl 100 12 R_qCons I32 C_s36 w_r14.Cons.a w_r14.Cons.c s36) ⟨I25, C_r14_4, rfl, lr, hS29.front3.drop.front1.front1.front2, (OwnSl.mono h_r14_4 (hl21.trans hl26))⟩ ?_)
 rintro ⟨s34, s35, s36⟩ _ w43 ⟨I32, C_s36, rfl, hl33, hS44, h_s36⟩ x45 hr1 hext31
 refine ye (yd nL5 ?_)
 refine WO.vs 0 [(13, Iv s35), (14, Pt b15 4)] (yf (v := (Sl w_r14.Cons.a s36 w_r14.Cons.c)) (hS44.rf m1) ?_)
 refine WO.vs 3 [(16, Nv s36.length), (17, .bool (decide (s35 < (s36.length : Int))))] (yb (W.cb hr1 (fun hc hr1 => ?_) (fun hc hr1 => ?_)))
 refine yg (En.next (ye (W.block (yd nL17 ?_))))
 refine ya 0 20 (Pt b15 4) (yf (v := (Sl w_r14.Cons.a s36 w_r14.Cons.c)) (hS44.rf m1) ?_)
 refine ya 2 22 (Iv s35) ?_
 obtain ⟨x46, hr1, h0_x46, h1_x46, hx_x46, ha_x46, _, _, ⟨w_x46, rfl, h_x46⟩, hc_x46⟩ := sl_at (h_s36.sl) hr1
 refine yq 100 12 ha_x46 h0_x46 h1_x46 ?_
 refine ya 4 24 (.pointer (some ⟨bl w_r14.Cons.a, of w_r14.Cons.a + (s35).toNat * 12 + 1, none⟩)) (WO.le (v := (Iv x46.Kind)) hc_x46 1 (hS44.rf m2) ?_)
 refine WO.vs 6 [(26, .bool (x46.Kind == 3)), (27, .bool (x46.Kind == 3))] ?_
 obtain ⟨j47, hr2, hr1⟩ := bsm hr1
 refine WO.jw (l1 := [8, 9, 10, 11, 12, 13, 14, 15, 16]) (J := (fun fr w => ∃ I49, fr = [(1, .string p1), (2, .string p2), (6, Pt b5 0), (8, Pt b15 0), (9, .bool s34), (10, Iv s35), (36, .bool j47)] ∧ I32.Le I49 ∧ St E w I49 ((Bx b5 (cs_qTable z_qTable zw_qTable) 89) :: (Bx b15 (cs_qTable ({ r14 with Cols := r14.Cols, Cons := s36, Idx := r14.Idx }) (⟨⟨w_r14.Cols.a, w_r14.Cols.c⟩, ⟨w_r14.Cons.a, w_r14.Cons.c⟩, ⟨w_r14.Idx.a, w_r14.Idx.c⟩⟩ : W_qTable)) 89) :: (C_s36) :: Os))) ?_ ?_
 refine WO.cb hr2 (fun hc hr2 => ?_) (fun hc hr2 => ?_)
 refine yj 27 hc (ya 8 28 (Pt b15 4) (yf (v := (Sl w_r14.Cons.a s36 w_r14.Cons.c)) (hS44.rf m1) ?_))
 refine ya 10 30 (Iv s35) ?_
 obtain ⟨x51, hr2, h0_x51, h1_x51, hx_x51, ha_x51, _, _, ⟨w_x51, rfl, h_x51⟩, hc_x51⟩ := sl_at (h_s36.sl) hr2
 refine yq 100 12 ha_x51 h0_x51 h1_x51 ?_
 refine ya 12 32 (.pointer (some ⟨bl w_r14.Cons.a, of w_r14.Cons.a + (s35).toNat * 12 + 10, none⟩)) (WO.le (v := (.string x51.Table)) hc_x51 10 (hS44.rf m2) ?_)
 refine WO.vs 14 [(34, .string p1), (35, .bool (sEq x51.Table p1)), (36, .bool (sEq x51.Table p1))] ?_
 obtain rfl := sj hr2
 exact yv ⟨I32, rfl, lr, hS44⟩
 refine yj 27 hc ?_
 iterate 8 refine yt ?_
 refine ya 16 36 (.bool false) ?_
 obtain rfl := sj hr2
 exact yv ⟨I32, rfl, lr, hS44⟩
 rintro _ w52 ⟨I49, rfl, hl50, hS53⟩
 refine yb ?_
 obtain ⟨j54, hr2, hr1⟩ := bsm hr1
 refine W.jw (J := (fun fr w => ∃ (s66 : Bool) (s67 : List qCons), ∃ I56 C_s67, (s66, s67) = j54 ∧ fr = [(1, .string p1), (2, .string p2), (6, Pt b5 0), (8, Pt b15 0), (9, .bool s66), (10, Iv s35)] ∧ I49.Le I56 ∧ St E w I56 ((Bx b5 (cs_qTable z_qTable zw_qTable) 89) :: (Bx b15 (cs_qTable ({ r14 with Cols := r14.Cols, Cons := s67, Idx := r14.Idx }) (⟨⟨w_r14.Cols.a, w_r14.Cols.c⟩, ⟨w_r14.Cons.a, w_r14.Cons.c⟩, ⟨w_r14.Idx.a, w_r14.Idx.c⟩⟩ : W_qTable)) 89) :: (C_s67) :: Os) ∧ OwnSl 100 12 R_qCons I56 C_s67 w_r14.Cons.a w_r14.Cons.c s67)) ?_ ?_
 refine W.cb hr2 (fun hc hr2 => ?_) (fun hc hr2 => ?_)
 refine yd nL7 ?_
 refine ya 0 37 (Pt b15 4) (yf (v := (Sl w_r14.Cons.a s36 w_r14.Cons.c)) (hS53.rf m1) ?_)
 refine WO.vs 2 [(39, Iv s35), (40, .string p2)] ?_
 obtain ⟨x58, hr2, h0_x58, h1_x58, hx_x58, ha_x58, _, _, ⟨w_x58, rfl, h_x58⟩, hc_x58⟩ := sl_at ((h_s36.mono hl50).sl) hr2
 refine yq 100 12 ha_x58 h0_x58 h1_x58 ?_
 refine ya 5 42 (.pointer (some ⟨bl w_r14.Cons.a, of w_r14.Cons.a + (s35).toNat * 12 + 10, none⟩)) ?_
 have hk64 : ok_qCons I49 ({ x58 with Table := p2 }) w_x58 := ⟨h_x58.Cols, h_x58.Check, h_x58.Refs⟩
 refine yan hS53.front2 (OwnSl.mono h_s36 hl50) rfl (by kernel_rfl) rfl hx_x58 (u' := { x58 with Table := p2 }) 10 rfl rfl (by kernel_rfl) rfl rfl (fun cs hrel => (by obtain ⟨w_zz, rfl, h_zz⟩ := hrel; exact ⟨w_zz, rfl, { h_zz with }⟩)) (fun _ _ _ => trivial) ?_
 intro w61 C62 hS60 ho63
 refine y7 38 rfl (show Value.slice w_r14.Cons.a s36.length w_r14.Cons.c = Value.slice w_r14.Cons.a (s36.set (s35).toNat ({ x58 with Table := p2 })).length w_r14.Cons.c by simp only [List.length_set]) ?_
 have hS65 : St E w61 I49 ((C62) :: (Bx b5 (cs_qTable z_qTable zw_qTable) 89) :: (Bx b15 (cs_qTable ({ r14 with Cols := r14.Cols, Cons := (s36.set (s35).toNat ({ x58 with Table := p2 })), Idx := r14.Idx }) (⟨⟨w_r14.Cols.a, w_r14.Cols.c⟩, ⟨w_r14.Cons.a, w_r14.Cons.c⟩, ⟨w_r14.Idx.a, w_r14.Idx.c⟩⟩ : W_qTable)) 89) :: Os) := by have hq := hS60; simp only [cs_qTable, List.length_set] at hq ⊢; exact hq
 refine yb (yaa [0] ?_)
 exact ya 0 9 (.bool true) (WO.nil (yo ⟨true, (s36.set (s35).toNat ({ x58 with Table := p2 })), I49, C62, sj hr2, rfl, lr, hS65.front2.front2, ho63⟩))
 exact yg (yo ⟨s34, s36, I49, C_s36, sj hr2, rfl, lr, hS53, (OwnSl.mono h_s36 hl50)⟩)
 rintro _ w70 ⟨s66, s67, I56, C_s67, rfl, rfl, hl57, hS71, h_s67⟩
 refine yi (En.next (yaa nL3 ?_))
 exact WO.vs 0 [(18, Iv s35), (19, Iv (w64 (s35 + 1))), (10, Iv (w64 (s35 + 1)))] (WO.nil (yo ⟨(s66, (w64 (s35 + 1)), s67), (sj hr1).symm, I56, C_s67, rfl, ((hl33.trans hl50).trans hl57), hS71, h_s67⟩))
 refine yy (yk (yl ?_))
 obtain rfl := hext31 _ (sj hr1).symm
 refine yn (En.next (yd nL4 ?_))
 refine yu ((cs_qTable ({ r14 with Cols := r14.Cols, Cons := s36, Idx := r14.Idx }) (⟨⟨w_r14.Cols.a, w_r14.Cols.c⟩, ⟨w_r14.Cons.a, w_r14.Cons.c⟩, ⟨w_r14.Idx.a, w_r14.Idx.c⟩⟩ : W_qTable))) (hS44.rf m1) ?_
 refine ya 1 44 (.bool s34) ?_
 obtain ⟨I88, hl89, hS91, hp90⟩ := y4 h_s36 hS44.front2
 refine yw hS91 0 (cs_qTable ({ r14 with Cols := r14.Cols, Cons := s36, Idx := r14.Idx }) (⟨⟨w_r14.Cols.a, w_r14.Cols.c⟩, ⟨w_r14.Cons.a, w_r14.Cons.c⟩, ⟨w_r14.Idx.a, w_r14.Idx.c⟩⟩ : W_qTable)) ?_
 intro w93 hS92
 refine ya 3 7 (.bool s34) (yb (W.ret ?_))
 have hk96 : ok_qTable I88 ({ r14 with Cols := r14.Cols, Cons := s36, Idx := r14.Idx }) (⟨⟨w_r14.Cols.a, w_r14.Cols.c⟩, ⟨w_r14.Cons.a, w_r14.Cons.c⟩, ⟨w_r14.Idx.a, w_r14.Idx.c⟩⟩ : W_qTable) := ⟨(RSl.mono hp22 ((hl26.trans hl33).trans hl89)), hp90, (RSl.mono hp27 (hl33.trans hl89))⟩
 obtain rfl := sj hr
 exact yak _ (hS92.rd m0) ⟨I88, (⟨⟨w_r14.Cols.a, w_r14.Cols.c⟩, ⟨w_r14.Cons.a, w_r14.Cons.c⟩, ⟨w_r14.Idx.a, w_r14.Idx.c⟩⟩ : W_qTable), rfl, ((((hl12.trans hl21).trans hl26).trans hl33).trans hl89), hS92.drop.drop, hk96⟩
noncomputable def r17_renamed (p0 : qCatalog) (p1 : qTable) (p2 : ByteArray) : Option (qCatalog × qTable) := (r17_pointed p1 p1.Name p2).bind (fun (r22, r23) => (forE (fun (i46 : Nat) => fun (s45 : List qTable) => ((idx p0.Tables (i46 : Int)).bind (fun x67 => (r17_pointed x67 p1.Name p2).bind (fun (r77, r78) => some (r77, r78)))).bind (fun ((s81, s82) : qTable × Bool) => ((bif s82 then some { s81 with Version := (w64 (p0.Version + 1)) } else some s81)).bind (fun (j115 : qTable) => (idx p0.Tables (i46 : Int)).bind (fun x135 => ((bif (!sEq x135.Name p1.Name) then (app 112 s45 ([j115] : List qTable)).bind (fun x148 => some x148) else some s45)).bind (fun (j136 : List qTable) => some j136))))) p0.Tables.length 0 ([] : List qTable)).bind (fun s45 => (forE (fun (i179 : Nat) => fun (s178 : List qGrant) => (idx p0.Grants (i179 : Int)).bind (fun x195 => ((bif (sEq x195.Table p1.Name) then some { x195 with Table := p2 } else some x195)).bind (fun (j202 : qGrant) => (app 64 s178 ([j202] : List qGrant)).bind (fun x236 => some x236)))) p0.Grants.length 0 ([] : List qGrant)).bind (fun s178 => some ({ p0 with Tables := s45, Grants := s178 }, { r22 with Name := p2 }))))
theorem r17_renamed_ok {p0 : qCatalog} {p1 : qTable} {p2 : ByteArray} {w_p0 : W_qCatalog} {w_p1 : W_qTable} (h_p0 : ok_qCatalog I p0 w_p0) (h_p1 : ok_qTable I p1 w_p1) (hS : St E w I Os) {r : qCatalog × qTable} (hr : r17_renamed p0 p1 p2 = some r) :
    Calls P 52 #[(.agg (cs_qCatalog p0 w_p0).toArray), (.agg (cs_qTable p1 w_p1).toArray), (.string p2)] w (fun e w' => ∃ I' w_rw0 w_rw1, e = .returned (.tuple #[(.agg (cs_qCatalog r.1 w_rw0).toArray), (.agg (cs_qTable r.2 w_rw1).toArray)]) ∧ I.Le I' ∧ St E w' I' Os ∧ ok_qCatalog I' r.1 w_rw0 ∧ ok_qTable I' r.2 w_rw1) := by
 refine calls_W (fn := Tryz.f52) rfl rfl rfl ?_
 unfold r17_renamed at hr
 refine yd nL4 ?_
 refine yx hS (cs_qCatalog p0 w_p0) 29 ?_
 intro b1 w4 hS3
 refine yx hS3 (cs_qTable p1 w_p1) 89 ?_
 intro b5 w8 hS7
 refine yx hS7 (cs_qCatalog z_qCatalog zw_qCatalog) 29 ?_
 intro b9 w12 hS11
 refine yx hS11 (cs_qTable z_qTable zw_qTable) 89 ?_
 intro b13 w16 hS15
 refine yz nL11 ?_
 refine yu ((cs_qTable p1 w_p1)) (hS15.rf m2) ?_
 refine ya 1 18 (Pt b5 0) (yf (v := (.string p1.Name)) (hS15.rf m2) ?_)
 refine ya 3 20 (.string p2) ?_
 obtain ⟨⟨r22, r23⟩, hx_r17, hr⟩ := bsm hr
 refine y8 (r17_pointed_ok h_p1 hS15 hx_r17) ?_
 rintro _ w18 ⟨I19, w_r22, rfl, hl20, hS21, h_r22⟩
 refine ⟨_, rfl, trivial, ?_⟩
 refine WO.vs 5 [(16, .tuple #[(.agg (cs_qTable r22 w_r22).toArray), (.bool r23)]), (22, .agg (cs_qTable r22 w_r22).toArray), (23, .bool r23)] (yx hS21 (cs_qTable z_qTable zw_qTable) 89 ?_)
 intro b24 w27 hS26
 refine yw hS26 0 (cs_qTable r22 w_r22) ?_
 intro w29 hS28
 refine ya 10 9 (.bool r23) (yz nL3 ?_)
 refine WO.vs 0 [(24, .string p2), (25, Pt b24 0)] (yw hS28 0 (cs_qTable ({ r22 with Name := p2 }) w_r22) ?_)
 intro w31 hS30
 refine yz nL3 ?_
 refine yu ((cs_qCatalog p0 w_p0)) (hS30.rf m4) ?_
 refine yx hS30 (cs_qCatalog z_qCatalog zw_qCatalog) 29 ?_
 intro b32 w35 hS34
 refine yw hS34 0 (cs_qCatalog p0 w_p0) ?_
 intro w37 hS36
 refine yz nL2 ?_
 refine ya 0 27 (Pt b32 1) (yw hS36 1 (cs_qCatalog ({ p0 with Tables := ([] : List qTable) }) ({ w_p0 with Tables := ⟨none, 0⟩ })) ?_)
 intro w39 hS38
 refine yz nL2 ?_
 refine ya 0 28 (Pt b32 3) (yw hS38 3 (cs_qCatalog ({ p0 with Tables := ([] : List qTable), Grants := ([] : List qGrant) }) ({ w_p0 with Tables := ⟨none, 0⟩, Grants := ⟨none, 0⟩ })) ?_)
 intro w41 hS40
 refine yb (ye (yd [0] ?_))
 refine ya 0 11 (Iv 0) (yb (W.block ?_))
 obtain ⟨s45, hloop47, hr⟩ := bsm hr
 have hlt59 := ((RSl.mono h_p0.Tables hl20)).len_lt
 refine W.wk (W.forE (m := p0.Tables.length) hloop47 (fun (i46 : Nat) => fun (s45 : List qTable) fr w => ∃ I43 a_s45 c_s45 C_s45, fr = [(2, .string p2), (3, Pt b1 0), (4, Pt b5 0), (6, Pt b9 0), (7, Pt b13 0), (8, Pt b24 0), (10, Pt b32 0), (11, Nv i46)] ∧ I19.Le I43 ∧ St E w I43 ((Bx b1 (cs_qCatalog p0 w_p0) 29) :: (Bx b5 (cs_qTable p1 w_p1) 89) :: (Bx b9 (cs_qCatalog z_qCatalog zw_qCatalog) 29) :: (Bx b13 (cs_qTable z_qTable zw_qTable) 89) :: (Bx b24 (cs_qTable ({ r22 with Name := p2 }) w_r22) 89) :: (Bx b32 (cs_qCatalog ({ p0 with Tables := s45, Grants := ([] : List qGrant) }) ({ w_p0 with Tables := ⟨a_s45, c_s45⟩, Grants := ⟨none, 0⟩ })) 29) :: (C_s45) :: Os) ∧ OwnSl 89 6 R_qTable I43 C_s45 a_s45 c_s45 s45) ⟨I19, none, 0, Mem.no, rfl, lr, hS40.no.front1.front2.front3.front4.front5.front6, OwnSl.nil⟩ ?_ ?_)
 rintro i46 s45 _ w56 hi60 ⟨I43, a_s45, c_s45, C_s45, rfl, hl44, hS57, h_s45⟩ x58 hr1
 refine ye (yd nL5 ?_)
 refine WO.vs 0 [(29, Nv i46), (30, Pt b1 1)] (yf (v := (Sl w_p0.Tables.a p0.Tables w_p0.Tables.c)) (hS57.rf m0) ?_)
 refine WO.vs 3 [(32, Nv p0.Tables.length), (33, .bool (decide ((i46 : Int) < (p0.Tables.length : Int))))] (yb (yag (fun hc => ?_)))
 clear hc
 refine yg (En.next (ye (W.block (ye ?_))))
 obtain ⟨j61, hr2, hr1⟩ := bsm hr1
 refine W.jw (J := (fun fr w => ∃ (s81 : qTable) (s82 : Bool), ∃ I63 w_s81 b_s81, (s81, s82) = j61 ∧ fr = [(2, .string p2), (3, Pt b1 0), (4, Pt b5 0), (6, Pt b9 0), (7, Pt b13 0), (8, Pt b24 0), (10, Pt b32 0), (11, Nv i46), (12, Pt b_s81 0), (13, .bool s82)] ∧ I43.Le I63 ∧ St E w I63 ((Bx b1 (cs_qCatalog p0 w_p0) 29) :: (Bx b5 (cs_qTable p1 w_p1) 89) :: (Bx b9 (cs_qCatalog z_qCatalog zw_qCatalog) 29) :: (Bx b13 (cs_qTable z_qTable zw_qTable) 89) :: (Bx b24 (cs_qTable ({ r22 with Name := p2 }) w_r22) 89) :: (Bx b32 (cs_qCatalog ({ p0 with Tables := s45, Grants := ([] : List qGrant) }) ({ w_p0 with Tables := ⟨a_s45, c_s45⟩, Grants := ⟨none, 0⟩ })) 29) :: (Bx b_s81 (cs_qTable s81 w_s81) 89) :: (C_s45) :: Os) ∧ ok_qTable I63 s81 w_s81)) ?_ ?_
 have hS65 := hS57.drew
 refine W.draws (.split 12 8 (.leaf [0, 1, 2, 3, 4, 5, 6, 7, 12, 8, 9, 10, 11, 13, 14]) (.leaf nL15)) 13 (KR I43 [Bx b1 (cs_qCatalog p0 w_p0) 29, Bx b5 (cs_qTable p1 w_p1) 89]) qR (.ords nL15 [0, 1, 2, 3, 4, 5, 6, 7, 8, 9, 10, 12, 13, 11, 14] (by kernel_rfl) (by kernel_rfl) (by kernel_rfl) (by kernel_rfl) (by kernel_rfl)) (by kernel_rfl) (KR.cons (hS65.rd m0) (KR.cons (hS65.rd m1) (KR.nil hS65.im))) ?_
 generalize World.drew _ = w66 at *
 refine ⟨?_, ?_⟩
 show WO _ _ _ _ _ _ _ [0, 1, 2, 3, 4, 5, 6, 7, 12, 8, 9, 10, 11, 13, 14] _ _
 refine ya 0 37 (Pt b1 1) (yf (v := (Sl w_p0.Tables.a p0.Tables w_p0.Tables.c)) (rd_c m0 (hS65.rd m0)) ?_)
 refine ya 2 39 (Nv i46) ?_
 obtain ⟨x67, hr2, h0_x67, h1_x67, hx_x67, ha_x67, _, _, ⟨w_x67, rfl, h_x67⟩, hc_x67⟩ := sl_at ((RSl.mono h_p0.Tables (hl20.trans hl44))) hr2
 refine yq 89 6 ha_x67 h0_x67 h1_x67 ?_
 refine yai ((cs_qTable x67 w_x67)) hc_x67 0 (rd_i hS65.im) ?_
 refine ya 5 42 (Pt b5 0) (yf (v := (.string p1.Name)) (rd_c m1 (hS65.rd m1)) ?_)
 refine ya 7 44 (.string p2) (ya0 hS65 rfl (by kernel_rfl) rfl (.cells (cs_qTable z_qTable zw_qTable).toArray 89 (0, 0)) (fun b => .pointer (some ⟨b, 0, none⟩)) (by kernel_rfl) (fun b68 w71 hS70 => (KR.cons (hS70.rd m1) (KR.cons (hS70.rd m2) (KR.nil hS70.im)))) ?_)
 intro b68 w71 hS70
 obtain ⟨⟨r77, r78⟩, hx_r72, hr2⟩ := bsm hr2
 refine y8 (r17_pointed_ok h_x67 hS70 hx_r72) ?_
 rintro _ w73 ⟨I74, w_r77, rfl, hl75, hS76, h_r77⟩
 refine ⟨_, rfl, (KR.cons (hS76.rd m1) (KR.cons (hS76.rd m2) (KR.nil (hS76.im.of_le hl75)))), ?_⟩
 refine WO.vs 9 [(36, .tuple #[(.agg (cs_qTable r77 w_r77).toArray), (.bool r78)]), (46, .agg (cs_qTable r77 w_r77).toArray), (47, .bool r78)] (WO.tail rfl ?_)
 refine yw hS76 0 (cs_qTable r77 w_r77) ?_
 intro w80 hS79
 exact ya 14 13 (.bool r78) (WO.nil (yo ⟨r77, r78, I74, w_r77, b68, sj hr2, rfl, hl75, hS79.front7.front1.front7.front7.front7.front7.front7.front7, h_r77⟩))
 show WO _ _ _ _ _ _ _ nL15 _ _
 refine ya 0 37 (Pt b1 1) (yf (v := (Sl w_p0.Tables.a p0.Tables w_p0.Tables.c)) (rd_c m0 (hS65.rd m0)) ?_)
 refine ya 2 39 (Nv i46) ?_
 obtain ⟨x91, hr2, h0_x91, h1_x91, hx_x91, ha_x91, _, _, ⟨w_x91, rfl, h_x91⟩, hc_x91⟩ := sl_at ((RSl.mono h_p0.Tables (hl20.trans hl44))) hr2
 refine yq 89 6 ha_x91 h0_x91 h1_x91 ?_
 refine yai ((cs_qTable x91 w_x91)) hc_x91 0 (rd_i hS65.im) ?_
 refine ya 5 42 (Pt b5 0) (yf (v := (.string p1.Name)) (rd_c m1 (hS65.rd m1)) ?_)
 refine ya 7 44 (.string p2) ?_
 obtain ⟨⟨r97, r98⟩, hx_r92, hr2⟩ := bsm hr2
 refine y8 (r17_pointed_ok h_x91 hS65 hx_r92) ?_
 rintro _ w93 ⟨I94, w_r97, rfl, hl95, hS96, h_r97⟩
 refine ⟨_, rfl, (KR.cons (hS96.rd m0) (KR.cons (hS96.rd m1) (KR.nil (hS96.im.of_le hl95)))), ?_⟩
 refine WO.vs 9 [(36, .tuple #[(.agg (cs_qTable r97 w_r97).toArray), (.bool r98)]), (46, .agg (cs_qTable r97 w_r97).toArray), (47, .bool r98)] (ya0 hS96 rfl (by kernel_rfl) rfl (.cells (cs_qTable z_qTable zw_qTable).toArray 89 (0, 0)) (fun b => .pointer (some ⟨b, 0, none⟩)) (by kernel_rfl) (fun b99 w102 hS101 => (KR.cons (hS101.rd m1) (KR.cons (hS101.rd m2) (KR.nil (hS101.im.of_le hl95))))) ?_)
 intro b99 w102 hS101
 refine WO.tail rfl ?_
 refine yw hS101 0 (cs_qTable r97 w_r97) ?_
 intro w104 hS103
 exact ya 14 13 (.bool r98) (WO.nil (yo ⟨r97, r98, I94, w_r97, b99, sj hr2, rfl, hl95, hS103.front7.front1.front7.front7.front7.front7.front7.front7, h_r97⟩))
 rintro _ w113 ⟨s81, s82, I63, w_s81, b_s81, rfl, rfl, hl64, hS114, h_s81⟩
 refine En.next (ye (yd [0] ?_))
 refine ya 0 48 (.bool s82) (yb ?_)
 obtain ⟨j115, hr2, hr1⟩ := bsm hr1
 refine W.jw (J := (fun fr w => ∃ I117 w_j115, fr = [(2, .string p2), (3, Pt b1 0), (4, Pt b5 0), (6, Pt b9 0), (7, Pt b13 0), (8, Pt b24 0), (10, Pt b32 0), (11, Nv i46), (12, Pt b_s81 0)] ∧ I63.Le I117 ∧ St E w I117 ((Bx b1 (cs_qCatalog p0 w_p0) 29) :: (Bx b5 (cs_qTable p1 w_p1) 89) :: (Bx b9 (cs_qCatalog z_qCatalog zw_qCatalog) 29) :: (Bx b13 (cs_qTable z_qTable zw_qTable) 89) :: (Bx b24 (cs_qTable ({ r22 with Name := p2 }) w_r22) 89) :: (Bx b32 (cs_qCatalog ({ p0 with Tables := s45, Grants := ([] : List qGrant) }) ({ w_p0 with Tables := ⟨a_s45, c_s45⟩, Grants := ⟨none, 0⟩ })) 29) :: (Bx b_s81 (cs_qTable j115 w_j115) 89) :: (C_s45) :: Os) ∧ ok_qTable I117 j115 w_j115)) ?_ ?_
 refine W.cb hr2 (fun hc hr2 => ?_) (fun hc hr2 => ?_)
 refine yaa nL5 ?_
 refine ya 0 49 (Pt b1 0) (yf (v := (Iv p0.Version)) (hS114.rf m0) ?_)
 refine WO.vs 2 [(51, Iv (w64 (p0.Version + 1))), (52, Pt b_s81 2)] (yw hS114.front6 2 (cs_qTable ({ s81 with Version := (w64 (p0.Version + 1)) }) w_s81) ?_)
 intro w121 hS120
 refine WO.nil ?_
 have hk122 : ok_qTable I63 ({ s81 with Version := (w64 (p0.Version + 1)) }) w_s81 := ⟨h_s81.Cols, h_s81.Cons, h_s81.Idx⟩
 obtain rfl := sj hr2
 exact yo ⟨I63, w_s81, rfl, lr, hS120.front7.front1.front7.front7.front7.front7.front7.front7, hk122⟩
 refine yg ?_
 obtain rfl := sj hr2
 exact yo ⟨I63, w_s81, rfl, lr, hS114, h_s81⟩
 rintro _ w131 ⟨I117, w_j115, rfl, hl118, hS132, h_j115⟩
 refine En.next (ye ?_)
 have hS133 := hS132.drew
 refine yao nL9 8 (KR.cons (hS133.rd m0) (KR.cons (hS133.rd m1) (KR.nil hS133.im))) ?_
 generalize World.drew _ = w134 at *
 refine ya 0 53 (Pt b1 1) (yf (v := (Sl w_p0.Tables.a p0.Tables w_p0.Tables.c)) (rd_c m0 (hS133.rd m0)) ?_)
 refine ya 2 55 (Nv i46) ?_
 obtain ⟨x135, hr1, h0_x135, h1_x135, hx_x135, ha_x135, _, _, ⟨w_x135, rfl, h_x135⟩, hc_x135⟩ := sl_at ((RSl.mono h_p0.Tables (((hl20.trans hl44).trans hl64).trans hl118))) hr1
 refine yq 89 6 ha_x135 h0_x135 h1_x135 ?_
 refine ya 4 57 (.pointer (some ⟨bl w_p0.Tables.a, of w_p0.Tables.a + ((i46 : Int)).toNat * 6, none⟩)) (yae (v := (.string x135.Name)) hc_x135 (rd_i hS133.im) ?_)
 refine ya 6 59 (Pt b5 0) (yf (v := (.string p1.Name)) (rd_c m1 (hS133.rd m1)) ?_)
 refine WO.tail rfl ?_
 refine ya 8 61 (.bool (!sEq x135.Name p1.Name)) (yb ?_)
 obtain ⟨j136, hr2, hr1⟩ := bsm hr1
 refine W.jw (J := (fun fr w => ∃ I138 a_j136 c_j136 C_j136, fr = [(2, .string p2), (3, Pt b1 0), (4, Pt b5 0), (6, Pt b9 0), (7, Pt b13 0), (8, Pt b24 0), (10, Pt b32 0), (11, Nv i46)] ∧ I117.Le I138 ∧ St E w I138 ((Bx b1 (cs_qCatalog p0 w_p0) 29) :: (Bx b5 (cs_qTable p1 w_p1) 89) :: (Bx b9 (cs_qCatalog z_qCatalog zw_qCatalog) 29) :: (Bx b13 (cs_qTable z_qTable zw_qTable) 89) :: (Bx b24 (cs_qTable ({ r22 with Name := p2 }) w_r22) 89) :: (Bx b32 (cs_qCatalog ({ p0 with Tables := j136, Grants := ([] : List qGrant) }) ({ w_p0 with Tables := ⟨a_j136, c_j136⟩, Grants := ⟨none, 0⟩ })) 29) :: (C_j136) :: Os) ∧ OwnSl 89 6 R_qTable I138 C_j136 a_j136 c_j136 j136)) ?_ ?_
 refine W.cb hr2 (fun hc hr2 => ?_) (fun hc hr2 => ?_)
 refine yaa nL7 ?_
 refine ya 0 62 (Pt b32 1) (yf (v := (Sl a_s45 s45 c_s45)) (hS133.rf m5) ?_)
 refine yu ((cs_qTable j115 w_j115)) (hS133.rf m6) ?_
 refine y3 (rel := R_qTable) (xs := ([j115] : List qTable)) hS133 rfl (by kernel_rfl) rfl 89 6 [(cs_qTable j115 w_j115)] (by kernel_rfl) rfl ((Elr.cons ⟨w_j115, rfl, h_j115⟩ Elr.nil)) (fun _ _ _ => trivial) ?_
 intro a143 C141 w145 hS144 ho142
 have hS147 := hS144.front8
 obtain ⟨x148, hx_x148, hr2⟩ := bsm hr2
 obtain ⟨h0_x148, he_x148⟩ := app_some hx_x148
 refine WO.ap 89 112 (cs_qTable z_qTable zw_qTable) hS147 (OwnSl.mono h_s45 (hl64.trans hl118)) ho142.sl (hS147.rd m1) h0_x148 he_x148 ?_
 intro a149 c150 w151 C152 hS153 ho154
 refine ya 5 67 (Pt b32 1) (yw hS153.front1.drop.front6 1 (cs_qCatalog ({ p0 with Tables := x148, Grants := ([] : List qGrant) }) ({ w_p0 with Tables := ⟨a149, c150⟩, Grants := ⟨none, 0⟩ })) ?_)
 intro w159 hS158
 refine WO.nil ?_
 obtain rfl := sj hr2
 exact yo ⟨I117, a149, c150, C152, rfl, lr, hS158.front7.drop.front1.front1.front6.front6.front6.front6.front6, ho154⟩
 refine yg ?_
 obtain rfl := sj hr2
 exact yo ⟨I117, a_s45, c_s45, C_s45, rfl, lr, hS133.front6.drop, (OwnSl.mono h_s45 (hl64.trans hl118))⟩
 rintro _ w171 ⟨I138, a_j136, c_j136, C_j136, rfl, hl139, hS172, h_j136⟩
 refine yi (En.next (yaa nL3 ?_))
 refine ya 0 34 (Nv i46) (y0 (j := i46) rfl (by kernel_rfl) rfl (by first | omega | (dsimp only at *; omega) | (simp only [List.length_cons, List.length_nil] at *; omega)) ?_)
 refine ya 2 11 (Iv ((i46 + 1 : Nat) : Int)) (WO.nil ?_)
 obtain rfl := sj hr1
 exact yo ⟨I138, a_j136, c_j136, C_j136, rfl, (((hl44.trans hl64).trans hl118).trans hl139), hS172, h_j136⟩
 rintro _ w173 ⟨I43, a_s45, c_s45, C_s45, rfl, hl44, hS174, h_s45⟩
 refine ye (yd nL5 ?_)
 refine WO.vs 0 [(29, Nv p0.Tables.length), (30, Pt b1 1)] (yf (v := (Sl w_p0.Tables.a p0.Tables w_p0.Tables.c)) (hS174.rf m0) ?_)
 refine WO.vs 3 [(32, Nv p0.Tables.length), (33, .bool (decide ((p0.Tables.length : Int) < (p0.Tables.length : Int))))] (yb (yah (fun hc => ?_)))
 clear hc
 refine yy (yk (yl (yn (En.next (ye (yd [0] ?_))))))
 refine ya 0 14 (Iv 0) (yb (W.block ?_))
 obtain ⟨s178, hloop180, hr⟩ := bsm hr
 have hlt193 := ((RSl.mono h_p0.Grants (hl20.trans hl44))).len_lt
 refine W.wk (W.forE (m := p0.Grants.length) hloop180 (fun (i179 : Nat) => fun (s178 : List qGrant) fr w => ∃ I176 a_s178 c_s178 C_s178, fr = [(2, .string p2), (3, Pt b1 0), (4, Pt b5 0), (6, Pt b9 0), (7, Pt b13 0), (8, Pt b24 0), (10, Pt b32 0), (14, Nv i179)] ∧ I43.Le I176 ∧ St E w I176 ((Bx b1 (cs_qCatalog p0 w_p0) 29) :: (Bx b5 (cs_qTable p1 w_p1) 89) :: (Bx b9 (cs_qCatalog z_qCatalog zw_qCatalog) 29) :: (Bx b13 (cs_qTable z_qTable zw_qTable) 89) :: (Bx b24 (cs_qTable ({ r22 with Name := p2 }) w_r22) 89) :: (Bx b32 (cs_qCatalog ({ p0 with Tables := s45, Grants := s178 }) ({ w_p0 with Tables := ⟨a_s45, c_s45⟩, Grants := ⟨a_s178, c_s178⟩ })) 29) :: (C_s45) :: (C_s178) :: Os) ∧ OwnSl 67 5 R_qGrant I176 C_s178 a_s178 c_s178 s178) ⟨I43, none, 0, Mem.no, rfl, lr, hS174.no.front7.front7.front7.front7.front7.front7.front7, OwnSl.nil⟩ ?_ ?_)
 rintro i179 s178 _ w190 hi194 ⟨I176, a_s178, c_s178, C_s178, rfl, hl177, hS191, h_s178⟩ x192 hr1
 refine ye (yd nL5 ?_)
 refine WO.vs 0 [(68, Nv i179), (69, Pt b1 3)] (yf (v := (Sl w_p0.Grants.a p0.Grants w_p0.Grants.c)) (hS191.rf m0) ?_)
 refine WO.vs 3 [(71, Nv p0.Grants.length), (72, .bool (decide ((i179 : Int) < (p0.Grants.length : Int))))] (yb (yag (fun hc => ?_)))
 clear hc
 refine yg (En.next (ye (W.block (yd nL7 ?_))))
 refine ya 0 75 (Pt b1 3) (yf (v := (Sl w_p0.Grants.a p0.Grants w_p0.Grants.c)) (hS191.rf m0) ?_)
 refine ya 2 77 (Nv i179) ?_
 obtain ⟨x195, hr1, h0_x195, h1_x195, hx_x195, ha_x195, _, _, rfl, hc_x195⟩ := sl_at ((RSl.mono h_p0.Grants ((hl20.trans hl44).trans hl177))) hr1
 refine yq 67 5 ha_x195 h0_x195 h1_x195 ?_
 refine yai ((cs_qGrant x195)) hc_x195 0 hS191.rm ?_
 refine yx hS191 (cs_qGrant z_qGrant) 67 ?_
 intro b196 w199 hS198
 refine yw hS198 0 (cs_qGrant x195) ?_
 intro w201 hS200
 refine yb (ye (yd nL5 ?_))
 refine ya 0 80 (Pt b196 2) (yf (v := (.string x195.Table)) (hS200.rf m0) ?_)
 refine ya 2 82 (Pt b5 0) (yf (v := (.string p1.Name)) (hS200.rf m2) ?_)
 refine ya 4 84 (.bool (sEq x195.Table p1.Name)) (yb ?_)
 obtain ⟨j202, hr2, hr1⟩ := bsm hr1
 refine W.jw (J := (fun fr w => ∃ I204, fr = [(2, .string p2), (3, Pt b1 0), (4, Pt b5 0), (6, Pt b9 0), (7, Pt b13 0), (8, Pt b24 0), (10, Pt b32 0), (14, Nv i179), (15, Pt b196 0)] ∧ I176.Le I204 ∧ St E w I204 ((Bx b1 (cs_qCatalog p0 w_p0) 29) :: (Bx b5 (cs_qTable p1 w_p1) 89) :: (Bx b9 (cs_qCatalog z_qCatalog zw_qCatalog) 29) :: (Bx b13 (cs_qTable z_qTable zw_qTable) 89) :: (Bx b24 (cs_qTable ({ r22 with Name := p2 }) w_r22) 89) :: (Bx b32 (cs_qCatalog ({ p0 with Tables := s45, Grants := s178 }) ({ w_p0 with Tables := ⟨a_s45, c_s45⟩, Grants := ⟨a_s178, c_s178⟩ })) 29) :: (Bx b196 (cs_qGrant j202) 67) :: (C_s45) :: (C_s178) :: Os))) ?_ ?_
 refine W.cb hr2 (fun hc hr2 => ?_) (fun hc hr2 => ?_)
 refine yaa nL3 ?_
 refine WO.vs 0 [(85, .string p2), (86, Pt b196 2)] (yw hS200 2 (cs_qGrant ({ x195 with Table := p2 })) ?_)
 intro w207 hS206
 refine WO.nil ?_
 obtain rfl := sj hr2
 exact yo ⟨I176, rfl, lr, hS206.front8.front8.front2.front8.front8.front8.front8.front8.front8⟩
 refine yg ?_
 obtain rfl := sj hr2
 exact yo ⟨I176, rfl, lr, hS200.front8.front8.front2.front8.front8.front8.front8.front8.front8⟩
 rintro _ w226 ⟨I204, rfl, hl205, hS227⟩
 refine En.next (yaa nL7 ?_)
 refine ya 0 87 (Pt b32 3) (yf (v := (Sl a_s178 s178 c_s178)) (hS227.rf m5) ?_)
 refine yu ((cs_qGrant j202)) (hS227.rf m6) ?_
 refine y3 (rel := R_qGrant) (xs := ([j202] : List qGrant)) hS227 rfl (by kernel_rfl) rfl 67 5 [(cs_qGrant j202)] (by kernel_rfl) rfl ((Elr.cons rfl Elr.nil)) (fun _ _ _ => trivial) ?_
 intro a231 C229 w233 hS232 ho230
 have hS235 := hS232.front9
 obtain ⟨x236, hx_x236, hr1⟩ := bsm hr1
 obtain ⟨h0_x236, he_x236⟩ := app_some hx_x236
 refine WO.ap 67 64 (cs_qGrant z_qGrant) hS235 (OwnSl.mono h_s178 hl205) ho230.sl (hS235.rd m1) h0_x236 he_x236 ?_
 intro a237 c238 w239 C240 hS241 ho242
 refine ya 5 92 (Pt b32 3) (yw hS241.front1.drop.front6 3 (cs_qCatalog ({ p0 with Tables := s45, Grants := x236 }) ({ w_p0 with Tables := ⟨a_s45, c_s45⟩, Grants := ⟨a237, c238⟩ })) ?_)
 intro w247 hS246
 refine WO.nil (yi (En.next (yaa nL3 ?_)))
 refine ya 0 73 (Nv i179) (y0 (j := i179) rfl (by kernel_rfl) rfl (by first | omega | (dsimp only at *; omega) | (simp only [List.length_cons, List.length_nil] at *; omega)) ?_)
 refine ya 2 14 (Iv ((i179 + 1 : Nat) : Int)) (WO.nil ?_)
 obtain rfl := sj hr1
 exact yo ⟨I204, a237, c238, C240, rfl, (hl177.trans hl205), hS246.front7.drop.front1.front7.front2.front7.front7.front7.front7.front7, ho242⟩
 rintro _ w258 ⟨I176, a_s178, c_s178, C_s178, rfl, hl177, hS259, h_s178⟩
 refine ye (yd nL5 ?_)
 refine WO.vs 0 [(68, Nv p0.Grants.length), (69, Pt b1 3)] (yf (v := (Sl w_p0.Grants.a p0.Grants w_p0.Grants.c)) (hS259.rf m0) ?_)
 refine WO.vs 3 [(71, Nv p0.Grants.length), (72, .bool (decide ((p0.Grants.length : Int) < (p0.Grants.length : Int))))] (yb (yah (fun hc => ?_)))
 clear hc
 refine yy (yk (yl (yn (En.next (ye ?_)))))
 have hS260 := hS259.drew
 refine yaz (l := nL4) (by kernel_rfl) 3 (KR I176 [Bx b24 (cs_qTable ({ r22 with Name := p2 }) w_r22) 89, Bx b32 (cs_qCatalog ({ p0 with Tables := s45, Grants := s178 }) ({ w_p0 with Tables := ⟨a_s45, c_s45⟩, Grants := ⟨a_s178, c_s178⟩ })) 29]) qR (.ords nL4 [0, 2, 1, 3] (by kernel_rfl) (by kernel_rfl) (by kernel_rfl) (by kernel_rfl) (by kernel_rfl)) (by kernel_rfl) (KR.cons (hS260.rd m4) (KR.cons (hS260.rd m5) (KR.nil hS260.im))) ?_
 generalize World.drew _ = w261 at *
 refine yu ((cs_qCatalog ({ p0 with Tables := s45, Grants := s178 }) ({ w_p0 with Tables := ⟨a_s45, c_s45⟩, Grants := ⟨a_s178, c_s178⟩ }))) (rd_c m1 (hS260.rd m5)) ?_
 refine yu ((cs_qTable ({ r22 with Name := p2 }) w_r22)) (rd_c m0 (hS260.rd m4)) ?_
 obtain ⟨I263, hl264, hS266, hp265⟩ := y4 (h_s45.mono hl177) hS260.front6
 obtain ⟨I268, hl269, hS271, hp270⟩ := y4 (h_s178.mono hl264) hS266.front6
 refine ya1 hS271.front2 rfl (by kernel_rfl) rfl 0 rfl rfl (by kernel_rfl) (by kernel_rfl) (by kernel_rfl) ((cs_qCatalog ({ p0 with Tables := s45, Grants := s178 }) ({ w_p0 with Tables := ⟨a_s45, c_s45⟩, Grants := ⟨a_s178, c_s178⟩ })).toArray) (by kernel_rfl) (fun w274 hS273 => (KR.cons (hS273.rd m4) (KR.cons (hS273.rd m5) (KR.nil (hS273.im.of_le (hl264.trans hl269)))))) ?_
 intro w274 hS273
 refine WO.tail rfl ?_
 refine yw hS273.front3 0 (cs_qTable ({ r22 with Name := p2 }) w_r22) ?_
 intro w277 hS276
 refine yb (W.ret ?_)
 have hk284 : ok_qCatalog I268 ({ p0 with Tables := s45, Grants := s178 }) ({ w_p0 with Tables := ⟨a_s45, c_s45⟩, Grants := ⟨a_s178, c_s178⟩ }) := ⟨(RSl.mono hp265 hl269), (RSl.mono h_p0.Roles ((((hl20.trans hl44).trans hl177).trans hl264).trans hl269)), hp270⟩
 have hk285 : ok_qTable I268 ({ r22 with Name := p2 }) w_r22 := ⟨(RSl.mono h_r22.Cols (((hl44.trans hl177).trans hl264).trans hl269)), (RSl.mono h_r22.Cons (((hl44.trans hl177).trans hl264).trans hl269)), (RSl.mono h_r22.Idx (((hl44.trans hl177).trans hl264).trans hl269))⟩
 obtain rfl := sj hr
 exact En.retc2 rfl (.agg (cs_qCatalog ({ p0 with Tables := s45, Grants := s178 }) ({ w_p0 with Tables := ⟨a_s45, c_s45⟩, Grants := ⟨a_s178, c_s178⟩ })).toArray) (.agg (cs_qTable ({ r22 with Name := p2 }) w_r22).toArray) ⟨_, _, rfl, run_loadVarN (cs := (cs_qCatalog ({ p0 with Tables := s45, Grants := s178 }) ({ w_p0 with Tables := ⟨a_s45, c_s45⟩, Grants := ⟨a_s178, c_s178⟩ }))) (by kernel_rfl) (by kernel_rfl) (cells_one (hS276.rd m1) (by kernel_rfl))⟩ ⟨_, _, rfl, run_loadVarN (cs := (cs_qTable ({ r22 with Name := p2 }) w_r22)) (by kernel_rfl) (by kernel_rfl) (cells_one (hS276.rd m0) (by kernel_rfl))⟩ ⟨I268, ({ w_p0 with Tables := ⟨a_s45, c_s45⟩, Grants := ⟨a_s178, c_s178⟩ }), w_r22, rfl, ((((hl20.trans hl44).trans hl177).trans hl264).trans hl269), hS276.drop.drop.drop.drop.drop.drop, hk284, hk285⟩
def r14_Names (p0 : qTable) : Option ((List ByteArray) × (List ByteArray)) := (forE (fun (i9 : Nat) => fun (s8 : List ByteArray) => (idx p0.Cols (i9 : Int)).bind (fun x19 => (app 16 s8 ([x19.Name] : List ByteArray)).bind (fun x28 => some x28))) p0.Cols.length 0 ([] : List ByteArray)).bind (fun s8 => (forE (fun (i44 : Nat) => fun (s43 : List ByteArray) => (idx p0.Cons (i44 : Int)).bind (fun x55 => (app 16 s43 ([x55.Name] : List ByteArray)).bind (fun x64 => some x64))) p0.Cons.length 0 ([] : List ByteArray)).bind (fun s43 => (forE (fun (i81 : Nat) => fun (s80 : List ByteArray) => (idx p0.Idx (i81 : Int)).bind (fun x88 => (app 16 s80 ([x88.Name] : List ByteArray)).bind (fun x97 => some x97))) p0.Idx.length 0 s43).bind (fun s80 => some (s8, s80))))
theorem r14_Names_ok {p0 : qTable} {w_p0 : W_qTable} (h_p0 : ok_qTable I p0 w_p0) (hS : St E w I Os) {r : (List ByteArray) × (List ByteArray)} (hr : r14_Names p0 = some r) :
    Calls P 86 #[(.agg (cs_qTable p0 w_p0).toArray)] w (fun e w' => ∃ (I' : Mem) (ra0 : Option Addr) (rc0 : Nat) (ra1 : Option Addr) (rc1 : Nat), e = .returned (.tuple #[(Sl ra0 r.1 rc0), (Sl ra1 r.2 rc1)]) ∧ I.Le I' ∧ St E w' I' Os ∧ RSl 1 RStr I' ra0 rc0 r.1 ∧ RSl 1 RStr I' ra1 rc1 r.2) := by
 refine calls_W (fn := Tryz.f86) rfl rfl rfl ?_
 unfold r14_Names at hr
 refine yd nL3 ?_
 refine yx hS (cs_qTable p0 w_p0) 89 ?_
 intro b1 w4 hS3
 refine WO.vs 1 [(2, .slice none 0 0), (3, .slice none 0 0)] (yz nL2 ?_)
 refine WO.vs 0 [(4, .slice none 0 0), (5, .slice none 0 0)] (yb (ye (yd [0] ?_)))
 refine ya 0 6 (Iv 0) (yb (W.block ?_))
 obtain ⟨s8, hloop10, hr⟩ := bsm hr
 have hlt17 := (h_p0.Cols).len_lt
 refine W.wk (W.forE (m := p0.Cols.length) hloop10 (fun (i9 : Nat) => fun (s8 : List ByteArray) fr w => ∃ I6 a_s8 c_s8 C_s8, fr = [(1, Pt b1 0), (4, Sl a_s8 s8 c_s8), (5, .slice none 0 0), (6, Nv i9)] ∧ I.Le I6 ∧ St E w I6 ((Bx b1 (cs_qTable p0 w_p0) 89) :: (C_s8) :: Os) ∧ OwnSl 9 1 RStr I6 C_s8 a_s8 c_s8 s8) ⟨I, none, 0, Mem.no, rfl, lr, hS3.no.front1, OwnSl.nil⟩ ?_ ?_)
 rintro i9 s8 _ w14 hi18 ⟨I6, a_s8, c_s8, C_s8, rfl, hl7, hS15, h_s8⟩ x16 hr1
 refine ye (yd nL5 ?_)
 refine WO.vs 0 [(9, Nv i9), (10, Pt b1 3)] (yf (v := (Sl w_p0.Cols.a p0.Cols w_p0.Cols.c)) (hS15.rf m0) ?_)
 refine WO.vs 3 [(12, Nv p0.Cols.length), (13, .bool (decide ((i9 : Int) < (p0.Cols.length : Int))))] (yb (yag (fun hc => ?_)))
 clear hc
 refine yg (En.next (ye (W.block (yaa nL10 ?_))))
 refine WO.vs 0 [(16, Sl a_s8 s8 c_s8), (17, Pt b1 3)] (yf (v := (Sl w_p0.Cols.a p0.Cols w_p0.Cols.c)) (hS15.rf m0) ?_)
 refine ya 3 19 (Nv i9) ?_
 obtain ⟨x19, hr1, h0_x19, h1_x19, hx_x19, ha_x19, _, _, rfl, hc_x19⟩ := sl_at ((RSl.mono h_p0.Cols hl7)) hr1
 refine yq 73 3 ha_x19 h0_x19 h1_x19 ?_
 refine ya 5 21 (.pointer (some ⟨bl w_p0.Cols.a, of w_p0.Cols.a + ((i9 : Int)).toNat * 3, none⟩)) (yae (v := (.string x19.Name)) hc_x19 hS15.rm ?_)
 refine y3 (rel := RStr) (xs := ([x19.Name] : List ByteArray)) hS15 rfl (by kernel_rfl) rfl 9 1 [[(.string x19.Name)]] (by kernel_rfl) rfl ((Elr.cons rfl Elr.nil)) (fun _ _ _ => trivial) ?_
 intro a23 C21 w25 hS24 ho22
 have hS27 := hS24.front2
 obtain ⟨x28, hx_x28, hr1⟩ := bsm hr1
 obtain ⟨h0_x28, he_x28⟩ := app_some hx_x28
 refine WO.ap 9 16 [(.string (⟨#[]⟩ : ByteArray))] hS27 h_s8 ho22.sl (hS27.rd m1) h0_x28 he_x28 ?_
 intro a29 c30 w31 C32 hS33 ho34
 refine ya 9 4 (Sl a29 x28 c30) (WO.nil (yi (En.next (yaa nL3 ?_))))
 refine ya 0 14 (Nv i9) (y0 (j := i9) rfl (by kernel_rfl) rfl (by first | omega | (dsimp only at *; omega) | (simp only [List.length_cons, List.length_nil] at *; omega)) ?_)
 refine ya 2 6 (Iv ((i9 + 1 : Nat) : Int)) (WO.nil ?_)
 obtain rfl := sj hr1
 exact yo ⟨I6, a29, c30, C32, rfl, hl7, hS33.front1.drop.front1, ho34⟩
 rintro _ w38 ⟨I6, a_s8, c_s8, C_s8, rfl, hl7, hS39, h_s8⟩
 refine ye (yd nL5 ?_)
 refine WO.vs 0 [(9, Nv p0.Cols.length), (10, Pt b1 3)] (yf (v := (Sl w_p0.Cols.a p0.Cols w_p0.Cols.c)) (hS39.rf m0) ?_)
 refine WO.vs 3 [(12, Nv p0.Cols.length), (13, .bool (decide ((p0.Cols.length : Int) < (p0.Cols.length : Int))))] (yb (yah (fun hc => ?_)))
 clear hc
 refine yy (yk (yl (yn (En.next (ye (yd [0] ?_))))))
 refine ya 0 7 (Iv 0) (yb (W.block ?_))
 obtain ⟨s43, hloop45, hr⟩ := bsm hr
 have hlt53 := ((RSl.mono h_p0.Cons hl7)).len_lt
 refine W.wk (W.forE (m := p0.Cons.length) hloop45 (fun (i44 : Nat) => fun (s43 : List ByteArray) fr w => ∃ I41 a_s43 c_s43 C_s43, fr = [(1, Pt b1 0), (4, Sl a_s8 s8 c_s8), (5, Sl a_s43 s43 c_s43), (7, Nv i44)] ∧ I6.Le I41 ∧ St E w I41 ((Bx b1 (cs_qTable p0 w_p0) 89) :: (C_s8) :: (C_s43) :: Os) ∧ OwnSl 9 1 RStr I41 C_s43 a_s43 c_s43 s43) ⟨I6, none, 0, Mem.no, rfl, lr, hS39.no.front2.front2, OwnSl.nil⟩ ?_ ?_)
 rintro i44 s43 _ w50 hi54 ⟨I41, a_s43, c_s43, C_s43, rfl, hl42, hS51, h_s43⟩ x52 hr1
 refine ye (yd nL5 ?_)
 refine WO.vs 0 [(25, Nv i44), (26, Pt b1 4)] (yf (v := (Sl w_p0.Cons.a p0.Cons w_p0.Cons.c)) (hS51.rf m0) ?_)
 refine WO.vs 3 [(28, Nv p0.Cons.length), (29, .bool (decide ((i44 : Int) < (p0.Cons.length : Int))))] (yb (yag (fun hc => ?_)))
 clear hc
 refine yg (En.next (ye (W.block (yaa nL10 ?_))))
 refine WO.vs 0 [(32, Sl a_s43 s43 c_s43), (33, Pt b1 4)] (yf (v := (Sl w_p0.Cons.a p0.Cons w_p0.Cons.c)) (hS51.rf m0) ?_)
 refine ya 3 35 (Nv i44) ?_
 obtain ⟨x55, hr1, h0_x55, h1_x55, hx_x55, ha_x55, _, _, ⟨w_x55, rfl, h_x55⟩, hc_x55⟩ := sl_at ((RSl.mono h_p0.Cons (hl7.trans hl42))) hr1
 refine yq 100 12 ha_x55 h0_x55 h1_x55 ?_
 refine ya 5 37 (.pointer (some ⟨bl w_p0.Cons.a, of w_p0.Cons.a + ((i44 : Int)).toNat * 12, none⟩)) (yae (v := (.string x55.Name)) hc_x55 hS51.rm ?_)
 refine y3 (rel := RStr) (xs := ([x55.Name] : List ByteArray)) hS51 rfl (by kernel_rfl) rfl 9 1 [[(.string x55.Name)]] (by kernel_rfl) rfl ((Elr.cons rfl Elr.nil)) (fun _ _ _ => trivial) ?_
 intro a59 C57 w61 hS60 ho58
 have hS63 := hS60.front3
 obtain ⟨x64, hx_x64, hr1⟩ := bsm hr1
 obtain ⟨h0_x64, he_x64⟩ := app_some hx_x64
 refine WO.ap 9 16 [(.string (⟨#[]⟩ : ByteArray))] hS63 h_s43 ho58.sl (hS63.rd m1) h0_x64 he_x64 ?_
 intro a65 c66 w67 C68 hS69 ho70
 refine ya 9 5 (Sl a65 x64 c66) (WO.nil (yi (En.next (yaa nL3 ?_))))
 refine ya 0 30 (Nv i44) (y0 (j := i44) rfl (by kernel_rfl) rfl (by first | omega | (dsimp only at *; omega) | (simp only [List.length_cons, List.length_nil] at *; omega)) ?_)
 refine ya 2 7 (Iv ((i44 + 1 : Nat) : Int)) (WO.nil ?_)
 obtain rfl := sj hr1
 exact yo ⟨I41, a65, c66, C68, rfl, hl42, hS69.front1.drop.front2.front2, ho70⟩
 rintro _ w75 ⟨I41, a_s43, c_s43, C_s43, rfl, hl42, hS76, h_s43⟩
 refine ye (yd nL5 ?_)
 refine WO.vs 0 [(25, Nv p0.Cons.length), (26, Pt b1 4)] (yf (v := (Sl w_p0.Cons.a p0.Cons w_p0.Cons.c)) (hS76.rf m0) ?_)
 refine WO.vs 3 [(28, Nv p0.Cons.length), (29, .bool (decide ((p0.Cons.length : Int) < (p0.Cons.length : Int))))] (yb (yah (fun hc => ?_)))
 clear hc
 refine yy (yk (yl (yn (En.next (ye (yd [0] ?_))))))
 refine ya 0 8 (Iv 0) (yb (W.block ?_))
 obtain ⟨s80, hloop82, hr⟩ := bsm hr
 have hlt86 := ((RSl.mono h_p0.Idx (hl7.trans hl42))).len_lt
 refine W.wk (W.forE (m := p0.Idx.length) hloop82 (fun (i81 : Nat) => fun (s80 : List ByteArray) fr w => ∃ I78 a_s80 c_s80 C_s80, fr = [(1, Pt b1 0), (4, Sl a_s8 s8 c_s8), (5, Sl a_s80 s80 c_s80), (8, Nv i81)] ∧ I41.Le I78 ∧ St E w I78 ((Bx b1 (cs_qTable p0 w_p0) 89) :: (C_s8) :: (C_s80) :: Os) ∧ OwnSl 9 1 RStr I78 C_s80 a_s80 c_s80 s80) ⟨I41, a_s43, c_s43, C_s43, rfl, lr, hS76, h_s43⟩ ?_ ?_)
 rintro i81 s80 _ w83 hi87 ⟨I78, a_s80, c_s80, C_s80, rfl, hl79, hS84, h_s80⟩ x85 hr1
 refine ye (yd nL5 ?_)
 refine WO.vs 0 [(41, Nv i81), (42, Pt b1 5)] (yf (v := (Sl w_p0.Idx.a p0.Idx w_p0.Idx.c)) (hS84.rf m0) ?_)
 refine WO.vs 3 [(44, Nv p0.Idx.length), (45, .bool (decide ((i81 : Int) < (p0.Idx.length : Int))))] (yb (yag (fun hc => ?_)))
 clear hc
 refine yg (En.next (ye (W.block (yaa nL10 ?_))))
 refine WO.vs 0 [(48, Sl a_s80 s80 c_s80), (49, Pt b1 5)] (yf (v := (Sl w_p0.Idx.a p0.Idx w_p0.Idx.c)) (hS84.rf m0) ?_)
 refine ya 3 51 (Nv i81) ?_
 obtain ⟨x88, hr1, h0_x88, h1_x88, hx_x88, ha_x88, _, _, ⟨w_x88, rfl, h_x88⟩, hc_x88⟩ := sl_at ((RSl.mono h_p0.Idx ((hl7.trans hl42).trans hl79))) hr1
 refine yq 124 2 ha_x88 h0_x88 h1_x88 ?_
 refine ya 5 53 (.pointer (some ⟨bl w_p0.Idx.a, of w_p0.Idx.a + ((i81 : Int)).toNat * 2, none⟩)) (yae (v := (.string x88.Name)) hc_x88 hS84.rm ?_)
 refine y3 (rel := RStr) (xs := ([x88.Name] : List ByteArray)) hS84 rfl (by kernel_rfl) rfl 9 1 [[(.string x88.Name)]] (by kernel_rfl) rfl ((Elr.cons rfl Elr.nil)) (fun _ _ _ => trivial) ?_
 intro a92 C90 w94 hS93 ho91
 have hS96 := hS93.front3
 obtain ⟨x97, hx_x97, hr1⟩ := bsm hr1
 obtain ⟨h0_x97, he_x97⟩ := app_some hx_x97
 refine WO.ap 9 16 [(.string (⟨#[]⟩ : ByteArray))] hS96 h_s80 ho91.sl (hS96.rd m1) h0_x97 he_x97 ?_
 intro a98 c99 w100 C101 hS102 ho103
 refine ya 9 5 (Sl a98 x97 c99) (WO.nil (yi (En.next (yaa nL3 ?_))))
 refine ya 0 46 (Nv i81) (y0 (j := i81) rfl (by kernel_rfl) rfl (by first | omega | (dsimp only at *; omega) | (simp only [List.length_cons, List.length_nil] at *; omega)) ?_)
 refine ya 2 8 (Iv ((i81 + 1 : Nat) : Int)) (WO.nil ?_)
 obtain rfl := sj hr1
 exact yo ⟨I78, a98, c99, C101, rfl, hl79, hS102.front1.drop.front2.front2, ho103⟩
 rintro _ w108 ⟨I78, a_s80, c_s80, C_s80, rfl, hl79, hS109, h_s80⟩
 refine ye (yd nL5 ?_)
 refine WO.vs 0 [(41, Nv p0.Idx.length), (42, Pt b1 5)] (yf (v := (Sl w_p0.Idx.a p0.Idx w_p0.Idx.c)) (hS109.rf m0) ?_)
 refine WO.vs 3 [(44, Nv p0.Idx.length), (45, .bool (decide ((p0.Idx.length : Int) < (p0.Idx.length : Int))))] (yb (yah (fun hc => ?_)))
 clear hc
 refine yy (yk (yl (yn (En.next (yd nL4 ?_)))))
 refine WO.vs 0 [(57, Sl a_s8 s8 c_s8), (58, Sl a_s80 s80 c_s80)] ?_
 obtain ⟨I111, hl112, hS114, hp113⟩ := y4 (h_s8.mono (hl42.trans hl79)) hS109.front1
 refine ya 2 2 (Sl a_s8 s8 c_s8) ?_
 obtain ⟨I116, hl117, hS119, hp118⟩ := y4 (h_s80.mono hl112) hS114.front1
 refine ya 3 3 (Sl a_s80 s80 c_s80) (yb (W.ret ?_))
 obtain rfl := sj hr
 exact yaj ⟨I116, a_s8, c_s8, a_s80, c_s80, rfl, ((((hl7.trans hl42).trans hl79).trans hl112).trans hl117), hS119.drop, (RSl.mono hp113 hl117), hp118⟩
def r14_Col (p0 : qTable) (p1 : ByteArray) : Option Int := (forN (fun (i8 : Nat) => fun (_s : Unit) => (idx p0.Cols (i8 : Int)).bind (fun x15 => (bif (sEq x15.Name p1) then some (.inr (i8 : Int)) else some (.inl ())))) p0.Cols.length 0 ()).bind (fun (t : Unit ⊕ (Int)) => match t with | .inl _ => some (-1) | .inr s17 => some s17)
theorem r14_Col_ok {p0 : qTable} {p1 : ByteArray} {w_p0 : W_qTable} (h_p0 : ok_qTable I p0 w_p0) (hS : St E w I Os) {r : Int} (hr : r14_Col p0 p1 = some r) :
    Calls P 87 #[(.agg (cs_qTable p0 w_p0).toArray), (.string p1)] w (fun e w' => ∃ I', e = .returned (Iv r) ∧ I.Le I' ∧ St E w' I' Os) := by
 refine calls_W (fn := Tryz.f87) rfl rfl rfl ?_
 unfold r14_Col at hr
 refine yd nL2 ?_
 refine yx hS (cs_qTable p0 w_p0) 89 ?_
 intro b1 w4 hS3
 refine ya 1 4 (Iv 0) (yb (ye (yd [0] ?_)))
 refine ya 0 5 (Iv 0) (yb (W.block ?_))
 obtain ⟨t5, hloop9, hr⟩ := bsm hr
 have hlt13 := (h_p0.Cols).len_lt
 refine W.wk (W.forN (m := p0.Cols.length) hloop9 (fun (i8 : Nat) => fun (_s : Unit) fr w => ∃ I6, fr = [(1, .string p1), (2, Pt b1 0), (5, Nv i8)] ∧ I.Le I6 ∧ St E w I6 ((Bx b1 (cs_qTable p0 w_p0) 89) :: Os)) ⟨I, rfl, lr, hS3⟩ ?_ ?_)
 rintro i8 _ _ w10 hi14 ⟨I6, rfl, hl7, hS11⟩ x12 hr1 hext5
 refine ye (yd nL5 ?_)
 refine WO.vs 0 [(6, Nv i8), (7, Pt b1 3)] (yf (v := (Sl w_p0.Cols.a p0.Cols w_p0.Cols.c)) (hS11.rf m0) ?_)
 refine WO.vs 3 [(9, Nv p0.Cols.length), (10, .bool (decide ((i8 : Int) < (p0.Cols.length : Int))))] (yb (yag (fun hc => ?_)))
 clear hc
 refine yg (En.next (ye (W.block (yd nL8 ?_))))
 refine ya 0 13 (Pt b1 3) (yf (v := (Sl w_p0.Cols.a p0.Cols w_p0.Cols.c)) (hS11.rf m0) ?_)
 refine ya 2 15 (Nv i8) ?_
 obtain ⟨x15, hr1, h0_x15, h1_x15, hx_x15, ha_x15, _, _, rfl, hc_x15⟩ := sl_at ((RSl.mono h_p0.Cols hl7)) hr1
 refine yq 73 3 ha_x15 h0_x15 h1_x15 ?_
 refine ya 4 17 (.pointer (some ⟨bl w_p0.Cols.a, of w_p0.Cols.a + ((i8 : Int)).toNat * 3, none⟩)) (yae (v := (.string x15.Name)) hc_x15 hS11.rm ?_)
 refine WO.vs 6 [(19, .string p1), (20, .bool (sEq x15.Name p1))] (yb (W.cb hr1 (fun hc hr1 => ?_) (fun hc hr1 => ?_)))
 refine yd nL2 ?_
 refine WO.vs 0 [(21, Nv i8), (4, Nv i8)] (yb (W.ret (yh (yc (ym ?_)))))
 obtain rfl := hext5 _ (sj hr1).symm
 refine yh (yc ?_)
 obtain rfl := sj hr
 exact yr ⟨I6, rfl, hl7, hS11.drop⟩
 refine yg (yi (En.next (yaa nL3 ?_)))
 refine ya 0 11 (Nv i8) (y0 (j := i8) rfl (by kernel_rfl) rfl (by first | omega | (dsimp only at *; omega) | (simp only [List.length_cons, List.length_nil] at *; omega)) ?_)
 exact ya 2 5 (Iv ((i8 + 1 : Nat) : Int)) (WO.nil (yo ⟨(), (sj hr1).symm, I6, rfl, hl7, hS11⟩))
 rintro _ _ w20 ⟨I6, rfl, hl7, hS21⟩ he
 cases he
 refine ye (yd nL5 ?_)
 refine WO.vs 0 [(6, Nv p0.Cols.length), (7, Pt b1 3)] (yf (v := (Sl w_p0.Cols.a p0.Cols w_p0.Cols.c)) (hS21.rf m0) ?_)
 refine WO.vs 3 [(9, Nv p0.Cols.length), (10, .bool (decide ((p0.Cols.length : Int) < (p0.Cols.length : Int))))] (yb (yah (fun hc => ?_)))
 clear hc
 refine yy (yk (yl (yn (En.next (yd [0] ?_)))))
 refine ya 0 4 (Iv (-1)) (yb (W.ret ?_))
 obtain rfl := sj hr
 exact yr ⟨I6, rfl, hl7, hS21.drop⟩
def r14_lists (p0 : qTable) : Option (List (List ByteArray)) := (forE (fun (i9 : Nat) => fun (s8 : List (List ByteArray)) => (idx p0.Cons (i9 : Int)).bind (fun x19 => (app 24 s8 ([x19.Cols] : List (List ByteArray))).bind (fun x28 => some x28))) p0.Cons.length 0 ([] : List (List ByteArray))).bind (fun s8 => (forE (fun (i44 : Nat) => fun (s43 : List (List ByteArray)) => (idx p0.Idx (i44 : Int)).bind (fun x51 => (app 24 s43 ([x51.Cols] : List (List ByteArray))).bind (fun x60 => some x60))) p0.Idx.length 0 s8).bind (fun s43 => some s43))
theorem r14_lists_ok {p0 : qTable} {w_p0 : W_qTable} (h_p0 : ok_qTable I p0 w_p0) (hS : St E w I Os) {r : (List (List ByteArray))} (hr : r14_lists p0 = some r) :
    Calls P 122 #[(.agg (cs_qTable p0 w_p0).toArray)] w (fun e w' => ∃ (I' : Mem) (ra0 : Option Addr) (rc0 : Nat), e = .returned (Sl ra0 r rc0) ∧ I.Le I' ∧ St E w' I' Os ∧ RSl 1 (RSlC 1 RStr) I' ra0 rc0 r) := by
 refine calls_W (fn := Tryz.f122) rfl rfl rfl ?_
 unfold r14_lists at hr
 refine yd nL2 ?_
 refine yx hS (cs_qTable p0 w_p0) 89 ?_
 intro b1 w4 hS3
 refine ya 1 2 (.slice none 0 0) (yz [0] ?_)
 refine ya 0 3 (.slice none 0 0) (yb (ye (yd [0] ?_)))
 refine ya 0 4 (Iv 0) (yb (W.block ?_))
 obtain ⟨s8, hloop10, hr⟩ := bsm hr
 have hlt17 := (h_p0.Cons).len_lt
 refine W.wk (W.forE (m := p0.Cons.length) hloop10 (fun (i9 : Nat) => fun (s8 : List (List ByteArray)) fr w => ∃ I6 a_s8 c_s8 C_s8, fr = [(1, Pt b1 0), (3, Sl a_s8 s8 c_s8), (4, Nv i9)] ∧ I.Le I6 ∧ St E w I6 ((Bx b1 (cs_qTable p0 w_p0) 89) :: (C_s8) :: Os) ∧ OwnSl 33 1 (RSlC 1 RStr) I6 C_s8 a_s8 c_s8 s8) ⟨I, none, 0, Mem.no, rfl, lr, hS3.no.front1, OwnSl.nil⟩ ?_ ?_)
 rintro i9 s8 _ w14 hi18 ⟨I6, a_s8, c_s8, C_s8, rfl, hl7, hS15, h_s8⟩ x16 hr1
 refine ye (yd nL5 ?_)
 refine WO.vs 0 [(6, Nv i9), (7, Pt b1 4)] (yf (v := (Sl w_p0.Cons.a p0.Cons w_p0.Cons.c)) (hS15.rf m0) ?_)
 refine WO.vs 3 [(9, Nv p0.Cons.length), (10, .bool (decide ((i9 : Int) < (p0.Cons.length : Int))))] (yb (yag (fun hc => ?_)))
 clear hc
 refine yg (En.next (ye (W.block (yaa nL10 ?_))))
 refine WO.vs 0 [(13, Sl a_s8 s8 c_s8), (14, Pt b1 4)] (yf (v := (Sl w_p0.Cons.a p0.Cons w_p0.Cons.c)) (hS15.rf m0) ?_)
 refine ya 3 16 (Nv i9) ?_
 obtain ⟨x19, hr1, h0_x19, h1_x19, hx_x19, ha_x19, _, _, ⟨w_x19, rfl, h_x19⟩, hc_x19⟩ := sl_at ((RSl.mono h_p0.Cons hl7)) hr1
 refine yq 100 12 ha_x19 h0_x19 h1_x19 ?_
 refine ya 5 18 (.pointer (some ⟨bl w_p0.Cons.a, of w_p0.Cons.a + ((i9 : Int)).toNat * 12 + 2, none⟩)) (WO.le (v := (Sl w_x19.Cols.a x19.Cols w_x19.Cols.c)) hc_x19 2 hS15.rm ?_)
 refine y3 (rel := (RSlC 1 RStr)) (xs := ([x19.Cols] : List (List ByteArray))) hS15 rfl (by kernel_rfl) rfl 33 1 [[(Sl w_x19.Cols.a x19.Cols w_x19.Cols.c)]] (by kernel_rfl) rfl ((Elr.cons ⟨w_x19.Cols.a, w_x19.Cols.c, rfl, h_x19.Cols⟩ Elr.nil)) (fun _ _ _ => trivial) ?_
 intro a23 C21 w25 hS24 ho22
 have hS27 := hS24.front2
 obtain ⟨x28, hx_x28, hr1⟩ := bsm hr1
 obtain ⟨h0_x28, he_x28⟩ := app_some hx_x28
 refine WO.ap 33 24 [(.slice none 0 0)] hS27 h_s8 ho22.sl (hS27.rd m1) h0_x28 he_x28 ?_
 intro a29 c30 w31 C32 hS33 ho34
 refine ya 9 3 (Sl a29 x28 c30) (WO.nil (yi (En.next (yaa nL3 ?_))))
 refine ya 0 11 (Nv i9) (y0 (j := i9) rfl (by kernel_rfl) rfl (by first | omega | (dsimp only at *; omega) | (simp only [List.length_cons, List.length_nil] at *; omega)) ?_)
 refine ya 2 4 (Iv ((i9 + 1 : Nat) : Int)) (WO.nil ?_)
 obtain rfl := sj hr1
 exact yo ⟨I6, a29, c30, C32, rfl, hl7, hS33.front1.drop.front1, ho34⟩
 rintro _ w38 ⟨I6, a_s8, c_s8, C_s8, rfl, hl7, hS39, h_s8⟩
 refine ye (yd nL5 ?_)
 refine WO.vs 0 [(6, Nv p0.Cons.length), (7, Pt b1 4)] (yf (v := (Sl w_p0.Cons.a p0.Cons w_p0.Cons.c)) (hS39.rf m0) ?_)
 refine WO.vs 3 [(9, Nv p0.Cons.length), (10, .bool (decide ((p0.Cons.length : Int) < (p0.Cons.length : Int))))] (yb (yah (fun hc => ?_)))
 clear hc
 refine yy (yk (yl (yn (En.next (ye (yd [0] ?_))))))
 refine ya 0 5 (Iv 0) (yb (W.block ?_))
 obtain ⟨s43, hloop45, hr⟩ := bsm hr
 have hlt49 := ((RSl.mono h_p0.Idx hl7)).len_lt
 refine W.wk (W.forE (m := p0.Idx.length) hloop45 (fun (i44 : Nat) => fun (s43 : List (List ByteArray)) fr w => ∃ I41 a_s43 c_s43 C_s43, fr = [(1, Pt b1 0), (3, Sl a_s43 s43 c_s43), (5, Nv i44)] ∧ I6.Le I41 ∧ St E w I41 ((Bx b1 (cs_qTable p0 w_p0) 89) :: (C_s43) :: Os) ∧ OwnSl 33 1 (RSlC 1 RStr) I41 C_s43 a_s43 c_s43 s43) ⟨I6, a_s8, c_s8, C_s8, rfl, lr, hS39, h_s8⟩ ?_ ?_)
 rintro i44 s43 _ w46 hi50 ⟨I41, a_s43, c_s43, C_s43, rfl, hl42, hS47, h_s43⟩ x48 hr1
 refine ye (yd nL5 ?_)
 refine WO.vs 0 [(22, Nv i44), (23, Pt b1 5)] (yf (v := (Sl w_p0.Idx.a p0.Idx w_p0.Idx.c)) (hS47.rf m0) ?_)
 refine WO.vs 3 [(25, Nv p0.Idx.length), (26, .bool (decide ((i44 : Int) < (p0.Idx.length : Int))))] (yb (yag (fun hc => ?_)))
 clear hc
 refine yg (En.next (ye (W.block (yaa nL10 ?_))))
 refine WO.vs 0 [(29, Sl a_s43 s43 c_s43), (30, Pt b1 5)] (yf (v := (Sl w_p0.Idx.a p0.Idx w_p0.Idx.c)) (hS47.rf m0) ?_)
 refine ya 3 32 (Nv i44) ?_
 obtain ⟨x51, hr1, h0_x51, h1_x51, hx_x51, ha_x51, _, _, ⟨w_x51, rfl, h_x51⟩, hc_x51⟩ := sl_at ((RSl.mono h_p0.Idx (hl7.trans hl42))) hr1
 refine yq 124 2 ha_x51 h0_x51 h1_x51 ?_
 refine ya 5 34 (.pointer (some ⟨bl w_p0.Idx.a, of w_p0.Idx.a + ((i44 : Int)).toNat * 2 + 1, none⟩)) (WO.le (v := (Sl w_x51.Cols.a x51.Cols w_x51.Cols.c)) hc_x51 1 hS47.rm ?_)
 refine y3 (rel := (RSlC 1 RStr)) (xs := ([x51.Cols] : List (List ByteArray))) hS47 rfl (by kernel_rfl) rfl 33 1 [[(Sl w_x51.Cols.a x51.Cols w_x51.Cols.c)]] (by kernel_rfl) rfl ((Elr.cons ⟨w_x51.Cols.a, w_x51.Cols.c, rfl, h_x51.Cols⟩ Elr.nil)) (fun _ _ _ => trivial) ?_
 intro a55 C53 w57 hS56 ho54
 have hS59 := hS56.front2
 obtain ⟨x60, hx_x60, hr1⟩ := bsm hr1
 obtain ⟨h0_x60, he_x60⟩ := app_some hx_x60
 refine WO.ap 33 24 [(.slice none 0 0)] hS59 h_s43 ho54.sl (hS59.rd m1) h0_x60 he_x60 ?_
 intro a61 c62 w63 C64 hS65 ho66
 refine ya 9 3 (Sl a61 x60 c62) (WO.nil (yi (En.next (yaa nL3 ?_))))
 refine ya 0 27 (Nv i44) (y0 (j := i44) rfl (by kernel_rfl) rfl (by first | omega | (dsimp only at *; omega) | (simp only [List.length_cons, List.length_nil] at *; omega)) ?_)
 refine ya 2 5 (Iv ((i44 + 1 : Nat) : Int)) (WO.nil ?_)
 obtain rfl := sj hr1
 exact yo ⟨I41, a61, c62, C64, rfl, hl42, hS65.front1.drop.front1, ho66⟩
 rintro _ w70 ⟨I41, a_s43, c_s43, C_s43, rfl, hl42, hS71, h_s43⟩
 refine ye (yd nL5 ?_)
 refine WO.vs 0 [(22, Nv p0.Idx.length), (23, Pt b1 5)] (yf (v := (Sl w_p0.Idx.a p0.Idx w_p0.Idx.c)) (hS71.rf m0) ?_)
 refine WO.vs 3 [(25, Nv p0.Idx.length), (26, .bool (decide ((p0.Idx.length : Int) < (p0.Idx.length : Int))))] (yb (yah (fun hc => ?_)))
 clear hc
 refine yy (yk (yl (yn (En.next (yd nL2 ?_)))))
 refine ya 0 38 (Sl a_s43 s43 c_s43) ?_
 obtain ⟨I73, hl74, hS76, hp75⟩ := y4 h_s43 hS71.front1
 refine ya 1 2 (Sl a_s43 s43 c_s43) (yb (W.ret ?_))
 obtain rfl := sj hr
 exact yr ⟨I73, a_s43, c_s43, rfl, ((hl7.trans hl42).trans hl74), hS76.drop, hp75⟩
def r10_Parts_fu : Nat → qExpr → Option (List qExpr)
  | 0, _ => none
  | fu + 1, p0 => (forE (fun (i16 : Nat) => fun (s15 : List qExpr) => (idx p0.Kids (i16 : Int)).bind (fun x24 => (r10_Parts_fu fu x24).bind (fun r30 => (app 88 s15 r30).bind (fun x32 => some x32)))) p0.Kids.length 0 ([p0] : List qExpr)).bind (fun s15 => some s15)
noncomputable def r10_Parts (p0 : qExpr) : Option (List qExpr) := anyFuel (fun fu => r10_Parts_fu fu p0)
theorem r10_Parts_fu_ok : ∀ (fu : Nat) {E w : World} {I : Mem} {Os : List Mem} {p0 : qExpr} {w_p0 : W_qExpr} (h_p0 : ok_qExpr I p0 w_p0) (hS : St E w I Os) {r : (List qExpr)} (hr : r10_Parts_fu fu p0 = some r),
    Calls P 152 #[(.agg (cs_qExpr p0 w_p0).toArray)] w (fun e w' => ∃ (I' : Mem) (ra0 : Option Addr) (rc0 : Nat), e = .returned (Sl ra0 r rc0) ∧ I.Le I' ∧ St E w' I' Os ∧ RSl 7 Q_qExpr I' ra0 rc0 r) := by
 intro fu
 induction fu with
 | zero => intro E w I Os p0 w_p0 h_p0 hS r hr; cases hr
 | succ fu ih =>
 intro E w I Os p0 w_p0 h_p0 hS r hr
 refine calls_W (fn := Tryz.f152) rfl rfl rfl ?_
 unfold r10_Parts_fu at hr
 refine yd nL2 ?_
 refine yx hS (cs_qExpr p0 w_p0) 39 ?_
 intro b1 w4 hS3
 refine ya 1 2 (.slice none 0 0) (yz nL3 ?_)
 refine yu ((cs_qExpr p0 w_p0)) (hS3.rf m0) ?_
 refine y3 (rel := Q_qExpr) (xs := ([p0] : List qExpr)) hS3 rfl (by kernel_rfl) rfl 39 7 [(cs_qExpr p0 w_p0)] (by kernel_rfl) rfl ((Elr.cons (Q_qExpr_iff.2 ⟨w_p0, rfl, h_p0⟩) Elr.nil)) (fun _ _ _ => trivial) ?_
 intro a8 C6 w10 hS9 ho7
 refine ya 2 3 (.slice a8 1 1) (yb (ye (yd [0] ?_)))
 refine ya 0 4 (Iv 0) (yb (W.block ?_))
 obtain ⟨s15, hloop17, hr⟩ := bsm hr
 have hlt22 := (h_p0.Kids).len_lt
 refine W.wk (W.forE (m := p0.Kids.length) hloop17 (fun (i16 : Nat) => fun (s15 : List qExpr) fr w => ∃ I13 a_s15 c_s15 C_s15, fr = [(1, Pt b1 0), (3, Sl a_s15 s15 c_s15), (4, Nv i16)] ∧ I.Le I13 ∧ St E w I13 ((Bx b1 (cs_qExpr p0 w_p0) 39) :: (C_s15) :: Os) ∧ OwnSl 39 7 Q_qExpr I13 C_s15 a_s15 c_s15 s15) ⟨I, a8, 1, C6, rfl, lr, hS9.front1, ho7⟩ ?_ ?_)
 rintro i16 s15 _ w19 hi23 ⟨I13, a_s15, c_s15, C_s15, rfl, hl14, hS20, h_s15⟩ x21 hr1
 refine ye (yd nL5 ?_)
 refine WO.vs 0 [(7, Nv i16), (8, Pt b1 6)] (yf (v := (Sl w_p0.Kids.a p0.Kids w_p0.Kids.c)) (hS20.rf m0) ?_)
 refine WO.vs 3 [(10, Nv p0.Kids.length), (11, .bool (decide ((i16 : Int) < (p0.Kids.length : Int))))] (yb (yag (fun hc => ?_)))
 clear hc
 refine yg (En.next (ye (W.block (yaa nL9 ?_))))
 refine WO.vs 0 [(14, Sl a_s15 s15 c_s15), (15, Pt b1 6)] (yf (v := (Sl w_p0.Kids.a p0.Kids w_p0.Kids.c)) (hS20.rf m0) ?_)
 refine ya 3 17 (Nv i16) ?_
 obtain ⟨x24, hx_x24, hr1⟩ := bsm hr1
 obtain ⟨h0_x24, h1_x24, hx_x24⟩ := idx_some hx_x24
 obtain ⟨ha_x24, cs_x24, hn_x24, hr_x24, hc_x24⟩ := ((RSl.mono h_p0.Kids hl14)).el _ _ hx_x24
 obtain ⟨w_x24, rfl, h_x24⟩ := Q_qExpr_iff.1 hr_x24
 refine yq 39 7 ha_x24 h0_x24 h1_x24 ?_
 refine yai ((cs_qExpr x24 w_x24)) hc_x24 0 hS20.rm ?_
 obtain ⟨r30, hx_r25, hr1⟩ := bsm hr1
 refine y8 (ih h_x24 hS20 hx_r25) ?_
 rintro _ w26 ⟨I27, a_r30, c_r30, rfl, hl28, hS29, h_r30⟩
 refine ⟨_, rfl, trivial, ?_⟩
 have hS31 := hS29.front1
 obtain ⟨x32, hx_x32, hr1⟩ := bsm hr1
 obtain ⟨h0_x32, he_x32⟩ := app_some hx_x32
 refine WO.ap 39 88 (cs_qExpr z_qExpr zw_qExpr) hS31 (OwnSl.mono h_s15 hl28) h_r30 hS31.im h0_x32 he_x32 ?_
 intro a33 c34 w35 C36 hS37 ho38
 refine ya 8 3 (Sl a33 x32 c34) (WO.nil (yi (En.next (yaa nL3 ?_))))
 refine ya 0 12 (Nv i16) (y0 (j := i16) rfl (by kernel_rfl) rfl (by first | omega | (dsimp only at *; omega) | (simp only [List.length_cons, List.length_nil] at *; omega)) ?_)
 refine ya 2 4 (Iv ((i16 + 1 : Nat) : Int)) (WO.nil ?_)
 obtain rfl := sj hr1
 exact yo ⟨I27, a33, c34, C36, rfl, (hl14.trans hl28), hS37.front1, ho38⟩
 rintro _ w40 ⟨I13, a_s15, c_s15, C_s15, rfl, hl14, hS41, h_s15⟩
 refine ye (yd nL5 ?_)
 refine WO.vs 0 [(7, Nv p0.Kids.length), (8, Pt b1 6)] (yf (v := (Sl w_p0.Kids.a p0.Kids w_p0.Kids.c)) (hS41.rf m0) ?_)
 refine WO.vs 3 [(10, Nv p0.Kids.length), (11, .bool (decide ((p0.Kids.length : Int) < (p0.Kids.length : Int))))] (yb (yah (fun hc => ?_)))
 clear hc
 refine yy (yk (yl (yn (En.next (yd nL2 ?_)))))
 refine ya 0 22 (Sl a_s15 s15 c_s15) ?_
 obtain ⟨I43, hl44, hS46, hp45⟩ := y4 h_s15 hS41.front1
 refine ya 1 2 (Sl a_s15 s15 c_s15) (yb (W.ret ?_))
 obtain rfl := sj hr
 exact yr ⟨I43, a_s15, c_s15, rfl, (hl14.trans hl44), hS46.drop, hp45⟩
theorem r10_Parts_ok {p0 : qExpr} {w_p0 : W_qExpr} (h_p0 : ok_qExpr I p0 w_p0) (hS : St E w I Os) {r : (List qExpr)} (hr : r10_Parts p0 = some r) :
    Calls P 152 #[(.agg (cs_qExpr p0 w_p0).toArray)] w (fun e w' => ∃ (I' : Mem) (ra0 : Option Addr) (rc0 : Nat), e = .returned (Sl ra0 r rc0) ∧ I.Le I' ∧ St E w' I' Os ∧ RSl 7 Q_qExpr I' ra0 rc0 r) := by
 obtain ⟨fu, hf⟩ := anyFuel_some hr
 exact r10_Parts_fu_ok fu h_p0 hS hf
noncomputable def r10_Names (p0 : qExpr) : Option (List ByteArray) := (r10_Parts p0).bind (fun r10 => (forE (fun (i15 : Nat) => fun (s14 : List ByteArray) => (idx r10 (i15 : Int)).bind (fun x26 => (forE (fun (i31 : Nat) => fun (s30 : Bool) => ((bif s30 then some true else (idx s14 (i31 : Int)).bind (fun x44 => (idx r10 (i15 : Int)).bind (fun x45 => some (sEq x44 x45.Name))))).bind (fun (j40 : Bool) => some j40)) s14.length 0 (x26.Kind != 2)).bind (fun s30 => ((bif (!s30) then (idx r10 (i15 : Int)).bind (fun x54 => (app 16 s14 ([x54.Name] : List ByteArray)).bind (fun x63 => some x63)) else some s14)).bind (fun (j50 : List ByteArray) => some j50)))) r10.length 0 ([] : List ByteArray)).bind (fun s14 => some s14))
theorem r10_Names_ok {p0 : qExpr} {w_p0 : W_qExpr} (h_p0 : ok_qExpr I p0 w_p0) (hS : St E w I Os) {r : (List ByteArray)} (hr : r10_Names p0 = some r) :
    Calls P 123 #[(.agg (cs_qExpr p0 w_p0).toArray)] w (fun e w' => ∃ (I' : Mem) (ra0 : Option Addr) (rc0 : Nat), e = .returned (Sl ra0 r rc0) ∧ I.Le I' ∧ St E w' I' Os ∧ RSl 1 RStr I' ra0 rc0 r) := by
 refine calls_W (fn := Tryz.f123) rfl rfl rfl ?_
 unfold r10_Names at hr
 refine yd nL2 ?_
 refine yx hS (cs_qExpr p0 w_p0) 39 ?_
 intro b1 w4 hS3
 refine ya 1 2 (.slice none 0 0) (yz nL3 ?_)
 refine yu ((cs_qExpr p0 w_p0)) (hS3.rf m0) ?_
 obtain ⟨r10, hx_r5, hr⟩ := bsm hr
 refine y8 (r10_Parts_ok h_p0 hS3 hx_r5) ?_
 rintro _ w6 ⟨I7, a_r10, c_r10, rfl, hl8, hS9, h_r10⟩
 refine ⟨_, rfl, trivial, ?_⟩
 refine ya 2 3 (Sl a_r10 r10 c_r10) (yz [0] ?_)
 refine ya 0 4 (.slice none 0 0) (yb (ye (yd [0] ?_)))
 refine ya 0 5 (Iv 0) (yb (W.block ?_))
 obtain ⟨s14, hloop16, hr⟩ := bsm hr
 have hlt24 := (h_r10).len_lt
 refine W.wk (W.forE (m := r10.length) hloop16 (fun (i15 : Nat) => fun (s14 : List ByteArray) fr w => ∃ I12 a_s14 c_s14 C_s14, fr = [(3, Sl a_r10 r10 c_r10), (4, Sl a_s14 s14 c_s14), (5, Nv i15)] ∧ I7.Le I12 ∧ St E w I12 ((C_s14) :: Os) ∧ OwnSl 9 1 RStr I12 C_s14 a_s14 c_s14 s14) ⟨I7, none, 0, Mem.no, rfl, lr, hS9.no.front1.drop, OwnSl.nil⟩ ?_ ?_)
 rintro i15 s14 _ w21 hi25 ⟨I12, a_s14, c_s14, C_s14, rfl, hl13, hS22, h_s14⟩ x23 hr1
 refine ye (yd nL4 ?_)
 refine WO.vs 0 [(10, Nv i15), (11, Sl a_r10 r10 c_r10), (12, Nv r10.length), (13, .bool (decide ((i15 : Int) < (r10.length : Int))))] (yb (yag (fun hc => ?_)))
 clear hc
 refine yg (En.next (ye (W.block (yd nL7 ?_))))
 refine WO.vs 0 [(16, Sl a_r10 r10 c_r10), (17, Nv i15)] ?_
 obtain ⟨x26, hx_x26, hr1⟩ := bsm hr1
 obtain ⟨h0_x26, h1_x26, hx_x26⟩ := idx_some hx_x26
 obtain ⟨ha_x26, cs_x26, hn_x26, hr_x26, hc_x26⟩ := ((RSl.mono h_r10 hl13)).el _ _ hx_x26
 obtain ⟨w_x26, rfl, h_x26⟩ := Q_qExpr_iff.1 hr_x26
 refine yq 39 7 ha_x26 h0_x26 h1_x26 ?_
 refine ya 3 19 (.pointer (some ⟨bl a_r10, of a_r10 + ((i15 : Int)).toNat * 7, none⟩)) (yae (v := (Iv x26.Kind)) hc_x26 hS22.rm ?_)
 refine WO.vs 5 [(21, .bool (x26.Kind != 2)), (6, .bool (x26.Kind != 2))] (yb (ye (yd [0] ?_)))
 refine ya 0 7 (Iv 0) (yb (W.block ?_))
 obtain ⟨s30, hloop32, hr1⟩ := bsm hr1
 have hlt36 := (h_s14.sl).len_lt
 refine W.wk (W.forE (m := s14.length) hloop32 (fun (i31 : Nat) => fun (s30 : Bool) fr w => ∃ I28, fr = [(3, Sl a_r10 r10 c_r10), (4, Sl a_s14 s14 c_s14), (5, Nv i15), (6, .bool s30), (7, Nv i31)] ∧ I12.Le I28 ∧ St E w I28 ((C_s14) :: Os)) ⟨I12, rfl, lr, hS22⟩ ?_ ?_)
 rintro i31 s30 _ w33 hi37 ⟨I28, rfl, hl29, hS34⟩ x35 hr2
 refine ye (yd nL4 ?_)
 refine WO.vs 0 [(22, Nv i31), (23, Sl a_s14 s14 c_s14), (24, Nv s14.length), (25, .bool (decide ((i31 : Int) < (s14.length : Int))))] (yb (yag (fun hc => ?_)))
 clear hc
 refine yg (En.next (ye (W.block ?_)))
 have hS38 := hS34.drew
 refine yao nL14 13 (KR.cons (hS38.rd m0) (KR.nil hS38.im)) ?_
 generalize World.drew _ = w39 at *
 refine WO.vs 0 [(28, .bool s30), (29, .bool s30)] ?_
 obtain ⟨j40, hr3, hr2⟩ := bsm hr2
 refine WO.jw (l1 := [2, 3, 4, 5, 6, 7, 8, 9, 10, 11, 12]) (J := (fun fr w => ∃ I42, fr = [(3, Sl a_r10 r10 c_r10), (4, Sl a_s14 s14 c_s14), (5, Nv i15), (7, Nv i31), (40, .bool j40)] ∧ I28.Le I42 ∧ St E w I42 ((C_s14) :: Os))) ?_ ?_
 refine WO.cb hr3 (fun hc hr3 => ?_) (fun hc hr3 => ?_)
 refine yj 29 hc ?_
 iterate 10 refine yt ?_
 refine ya 12 40 (.bool true) ?_
 obtain rfl := sj hr3
 exact yv ⟨I28, rfl, lr, hS38⟩
 refine yj 29 hc (WO.vs 2 [(30, Sl a_s14 s14 c_s14), (31, Nv i31)] ?_)
 obtain ⟨x44, hr3, h0_x44, h1_x44, hx_x44, ha_x44, _, _, rfl, hc_x44⟩ := sl_at ((h_s14.mono hl29).sl) hr3
 refine yq 9 1 ha_x44 h0_x44 h1_x44 ?_
 refine yae (v := (.string x44)) hc_x44 (rd_c m0 (hS38.rd m0)) ?_
 refine WO.vs 6 [(34, Sl a_r10 r10 c_r10), (35, Nv i15)] ?_
 obtain ⟨x45, hx_x45, hr3⟩ := bsm hr3
 obtain ⟨h0_x45, h1_x45, hx_x45⟩ := idx_some hx_x45
 obtain ⟨ha_x45, cs_x45, hn_x45, hr_x45, hc_x45⟩ := ((RSl.mono h_r10 (hl13.trans hl29))).el _ _ hx_x45
 obtain ⟨w_x45, rfl, h_x45⟩ := Q_qExpr_iff.1 hr_x45
 refine yq 39 7 ha_x45 h0_x45 h1_x45 ?_
 refine ya 9 37 (.pointer (some ⟨bl a_r10, of a_r10 + ((i15 : Int)).toNat * 7 + 5, none⟩)) (WO.le (v := (.string x45.Name)) hc_x45 5 (rd_i hS38.im) ?_)
 refine WO.vs 11 [(39, .bool (sEq x44 x45.Name)), (40, .bool (sEq x44 x45.Name))] ?_
 obtain rfl := sj hr3
 exact yv ⟨I28, rfl, lr, hS38⟩
 rintro _ w46 ⟨I42, rfl, hl43, hS47⟩
 refine WO.tail rfl ?_
 refine ya 13 6 (.bool j40) (WO.nil (yi (En.next (yaa nL3 ?_))))
 refine ya 0 26 (Nv i31) (y0 (j := i31) rfl (by kernel_rfl) rfl (by first | omega | (dsimp only at *; omega) | (simp only [List.length_cons, List.length_nil] at *; omega)) ?_)
 refine ya 2 7 (Iv ((i31 + 1 : Nat) : Int)) (WO.nil ?_)
 obtain rfl := sj hr2
 exact yo ⟨I42, rfl, (hl29.trans hl43), hS47⟩
 rintro _ w48 ⟨I28, rfl, hl29, hS49⟩
 refine ye (yd nL4 ?_)
 refine WO.vs 0 [(22, Nv s14.length), (23, Sl a_s14 s14 c_s14), (24, Nv s14.length), (25, .bool (decide ((s14.length : Int) < (s14.length : Int))))] (yb (yah (fun hc => ?_)))
 clear hc
 refine yy (yk (yl (yn (En.next (yd nL2 ?_)))))
 refine WO.vs 0 [(41, .bool s30), (42, .bool (!s30))] (yb ?_)
 obtain ⟨j50, hr2, hr1⟩ := bsm hr1
 refine W.jw (J := (fun fr w => ∃ I52 a_j50 c_j50 C_j50, fr = [(3, Sl a_r10 r10 c_r10), (4, Sl a_j50 j50 c_j50), (5, Nv i15)] ∧ I28.Le I52 ∧ St E w I52 ((C_j50) :: Os) ∧ OwnSl 9 1 RStr I52 C_j50 a_j50 c_j50 j50)) ?_ ?_
 refine W.cb hr2 (fun hc hr2 => ?_) (fun hc hr2 => ?_)
 refine yaa nL9 ?_
 refine WO.vs 0 [(43, Sl a_s14 s14 c_s14), (44, Sl a_r10 r10 c_r10), (45, Nv i15)] ?_
 obtain ⟨x54, hx_x54, hr2⟩ := bsm hr2
 obtain ⟨h0_x54, h1_x54, hx_x54⟩ := idx_some hx_x54
 obtain ⟨ha_x54, cs_x54, hn_x54, hr_x54, hc_x54⟩ := ((RSl.mono h_r10 (hl13.trans hl29))).el _ _ hx_x54
 obtain ⟨w_x54, rfl, h_x54⟩ := Q_qExpr_iff.1 hr_x54
 refine yq 39 7 ha_x54 h0_x54 h1_x54 ?_
 refine ya 4 47 (.pointer (some ⟨bl a_r10, of a_r10 + ((i15 : Int)).toNat * 7 + 5, none⟩)) (WO.le (v := (.string x54.Name)) hc_x54 5 hS49.rm ?_)
 refine y3 (rel := RStr) (xs := ([x54.Name] : List ByteArray)) hS49 rfl (by kernel_rfl) rfl 9 1 [[(.string x54.Name)]] (by kernel_rfl) rfl ((Elr.cons rfl Elr.nil)) (fun _ _ _ => trivial) ?_
 intro a58 C56 w60 hS59 ho57
 have hS62 := hS59.front1
 obtain ⟨x63, hx_x63, hr2⟩ := bsm hr2
 obtain ⟨h0_x63, he_x63⟩ := app_some hx_x63
 refine WO.ap 9 16 [(.string (⟨#[]⟩ : ByteArray))] hS62 (OwnSl.mono h_s14 hl29) ho57.sl (hS62.rd m1) h0_x63 he_x63 ?_
 intro a64 c65 w66 C67 hS68 ho69
 refine ya 8 4 (Sl a64 x63 c65) (WO.nil ?_)
 obtain rfl := sj hr2
 exact yo ⟨I28, a64, c65, C67, rfl, lr, hS68.front1.drop, ho69⟩
 refine yg ?_
 obtain rfl := sj hr2
 exact yo ⟨I28, a_s14, c_s14, C_s14, rfl, lr, hS49, (OwnSl.mono h_s14 hl29)⟩
 rintro _ w72 ⟨I52, a_j50, c_j50, C_j50, rfl, hl53, hS73, h_j50⟩
 refine yi (En.next (yaa nL3 ?_))
 refine ya 0 14 (Nv i15) (y0 (j := i15) rfl (by kernel_rfl) rfl (by first | omega | (dsimp only at *; omega) | (simp only [List.length_cons, List.length_nil] at *; omega)) ?_)
 refine ya 2 5 (Iv ((i15 + 1 : Nat) : Int)) (WO.nil ?_)
 obtain rfl := sj hr1
 exact yo ⟨I52, a_j50, c_j50, C_j50, rfl, ((hl13.trans hl29).trans hl53), hS73, h_j50⟩
 rintro _ w74 ⟨I12, a_s14, c_s14, C_s14, rfl, hl13, hS75, h_s14⟩
 refine ye (yd nL4 ?_)
 refine WO.vs 0 [(10, Nv r10.length), (11, Sl a_r10 r10 c_r10), (12, Nv r10.length), (13, .bool (decide ((r10.length : Int) < (r10.length : Int))))] (yb (yah (fun hc => ?_)))
 clear hc
 refine yy (yk (yl (yn (En.next (yd nL2 ?_)))))
 refine ya 0 51 (Sl a_s14 s14 c_s14) ?_
 obtain ⟨I76, hl77, hS79, hp78⟩ := y4 h_s14 hS75
 refine ya 1 2 (Sl a_s14 s14 c_s14) (yb (W.ret ?_))
 obtain rfl := sj hr
 exact yr ⟨I76, a_s14, c_s14, rfl, ((hl8.trans hl13).trans hl77), hS79, hp78⟩
noncomputable def r14_Used (p0 : qTable) : Option (List ByteArray) := (r14_lists p0).bind (fun r10 => (forE (fun (i15 : Nat) => fun (s14 : List ByteArray) => (idx r10 (i15 : Int)).bind (fun x25 => (app 16 s14 x25).bind (fun x27 => some x27))) r10.length 0 ([] : List ByteArray)).bind (fun s14 => (forE (fun (i41 : Nat) => fun (s40 : List ByteArray) => (idx p0.Cons (i41 : Int)).bind (fun x48 => ((bif (x48.Kind == 2) then (idx p0.Cons (i41 : Int)).bind (fun x53 => (r10_Names x53.Check).bind (fun r59 => (app 16 s40 r59).bind (fun x61 => some x61))) else some s40)).bind (fun (j49 : List ByteArray) => some j49))) p0.Cons.length 0 s14).bind (fun s40 => some s40)))
theorem r14_Used_ok {p0 : qTable} {w_p0 : W_qTable} (h_p0 : ok_qTable I p0 w_p0) (hS : St E w I Os) {r : (List ByteArray)} (hr : r14_Used p0 = some r) :
    Calls P 88 #[(.agg (cs_qTable p0 w_p0).toArray)] w (fun e w' => ∃ (I' : Mem) (ra0 : Option Addr) (rc0 : Nat), e = .returned (Sl ra0 r rc0) ∧ I.Le I' ∧ St E w' I' Os ∧ RSl 1 RStr I' ra0 rc0 r) := by
 refine calls_W (fn := Tryz.f88) rfl rfl rfl ?_
 unfold r14_Used at hr
 refine yd nL2 ?_
 refine yx hS (cs_qTable p0 w_p0) 89 ?_
 intro b1 w4 hS3
 refine ya 1 2 (.slice none 0 0) (yz nL3 ?_)
 refine yu ((cs_qTable p0 w_p0)) (hS3.rf m0) ?_
 obtain ⟨r10, hx_r5, hr⟩ := bsm hr
 refine y8 (r14_lists_ok h_p0 hS3 hx_r5) ?_
 rintro _ w6 ⟨I7, a_r10, c_r10, rfl, hl8, hS9, h_r10⟩
 refine ⟨_, rfl, trivial, ?_⟩
 refine ya 2 3 (Sl a_r10 r10 c_r10) (yz [0] ?_)
 refine ya 0 4 (.slice none 0 0) (yb (ye (yd [0] ?_)))
 refine ya 0 5 (Iv 0) (yb (W.block ?_))
 obtain ⟨s14, hloop16, hr⟩ := bsm hr
 have hlt23 := (h_r10).len_lt
 refine W.wk (W.forE (m := r10.length) hloop16 (fun (i15 : Nat) => fun (s14 : List ByteArray) fr w => ∃ I12 a_s14 c_s14 C_s14, fr = [(1, Pt b1 0), (3, Sl a_r10 r10 c_r10), (4, Sl a_s14 s14 c_s14), (5, Nv i15)] ∧ I7.Le I12 ∧ St E w I12 ((Bx b1 (cs_qTable p0 w_p0) 89) :: (C_s14) :: Os) ∧ OwnSl 9 1 RStr I12 C_s14 a_s14 c_s14 s14) ⟨I7, none, 0, Mem.no, rfl, lr, hS9.no.front1, OwnSl.nil⟩ ?_ ?_)
 rintro i15 s14 _ w20 hi24 ⟨I12, a_s14, c_s14, C_s14, rfl, hl13, hS21, h_s14⟩ x22 hr1
 refine ye (yd nL4 ?_)
 refine WO.vs 0 [(9, Nv i15), (10, Sl a_r10 r10 c_r10), (11, Nv r10.length), (12, .bool (decide ((i15 : Int) < (r10.length : Int))))] (yb (yag (fun hc => ?_)))
 clear hc
 refine yg (En.next (ye (W.block (yaa nL7 ?_))))
 refine WO.vs 0 [(15, Sl a_s14 s14 c_s14), (16, Sl a_r10 r10 c_r10), (17, Nv i15)] ?_
 obtain ⟨x25, hx_x25, hr1⟩ := bsm hr1
 obtain ⟨h0_x25, h1_x25, hx_x25⟩ := idx_some hx_x25
 obtain ⟨ha_x25, cs_x25, hn_x25, hr_x25, hc_x25⟩ := ((RSl.mono h_r10 hl13)).el _ _ hx_x25
 obtain ⟨a_x25, c_x25, rfl, h_x25⟩ := hr_x25
 refine yq 33 1 ha_x25 h0_x25 h1_x25 ?_
 refine yae (v := (Sl a_x25 x25 c_x25)) hc_x25 hS21.rm ?_
 have hS26 := hS21.front1
 obtain ⟨x27, hx_x27, hr1⟩ := bsm hr1
 obtain ⟨h0_x27, he_x27⟩ := app_some hx_x27
 refine WO.ap 9 16 [(.string (⟨#[]⟩ : ByteArray))] hS26 h_s14 h_x25 hS26.im h0_x27 he_x27 ?_
 intro a28 c29 w30 C31 hS32 ho33
 refine ya 6 4 (Sl a28 x27 c29) (WO.nil (yi (En.next (yaa nL3 ?_))))
 refine ya 0 13 (Nv i15) (y0 (j := i15) rfl (by kernel_rfl) rfl (by first | omega | (dsimp only at *; omega) | (simp only [List.length_cons, List.length_nil] at *; omega)) ?_)
 refine ya 2 5 (Iv ((i15 + 1 : Nat) : Int)) (WO.nil ?_)
 obtain rfl := sj hr1
 exact yo ⟨I12, a28, c29, C31, rfl, hl13, hS32.front1, ho33⟩
 rintro _ w35 ⟨I12, a_s14, c_s14, C_s14, rfl, hl13, hS36, h_s14⟩
 refine ye (yd nL4 ?_)
 refine WO.vs 0 [(9, Nv r10.length), (10, Sl a_r10 r10 c_r10), (11, Nv r10.length), (12, .bool (decide ((r10.length : Int) < (r10.length : Int))))] (yb (yah (fun hc => ?_)))
 clear hc
 refine yy (yk (yl (yn (En.next (ye (yd [0] ?_))))))
 refine ya 0 6 (Iv 0) (yb (W.block ?_))
 obtain ⟨s40, hloop42, hr⟩ := bsm hr
 have hlt46 := ((RSl.mono h_p0.Cons (hl8.trans hl13))).len_lt
 refine W.wk (W.forE (m := p0.Cons.length) hloop42 (fun (i41 : Nat) => fun (s40 : List ByteArray) fr w => ∃ I38 a_s40 c_s40 C_s40, fr = [(1, Pt b1 0), (4, Sl a_s40 s40 c_s40), (6, Nv i41)] ∧ I12.Le I38 ∧ St E w I38 ((Bx b1 (cs_qTable p0 w_p0) 89) :: (C_s40) :: Os) ∧ OwnSl 9 1 RStr I38 C_s40 a_s40 c_s40 s40) ⟨I12, a_s14, c_s14, C_s14, rfl, lr, hS36, h_s14⟩ ?_ ?_)
 rintro i41 s40 _ w43 hi47 ⟨I38, a_s40, c_s40, C_s40, rfl, hl39, hS44, h_s40⟩ x45 hr1
 refine ye (yd nL5 ?_)
 refine WO.vs 0 [(21, Nv i41), (22, Pt b1 4)] (yf (v := (Sl w_p0.Cons.a p0.Cons w_p0.Cons.c)) (hS44.rf m0) ?_)
 refine WO.vs 3 [(24, Nv p0.Cons.length), (25, .bool (decide ((i41 : Int) < (p0.Cons.length : Int))))] (yb (yag (fun hc => ?_)))
 clear hc
 refine yg (En.next (ye (W.block (yd nL7 ?_))))
 refine ya 0 28 (Pt b1 4) (yf (v := (Sl w_p0.Cons.a p0.Cons w_p0.Cons.c)) (hS44.rf m0) ?_)
 refine ya 2 30 (Nv i41) ?_
 obtain ⟨x48, hr1, h0_x48, h1_x48, hx_x48, ha_x48, _, _, ⟨w_x48, rfl, h_x48⟩, hc_x48⟩ := sl_at ((RSl.mono h_p0.Cons ((hl8.trans hl13).trans hl39))) hr1
 refine yq 100 12 ha_x48 h0_x48 h1_x48 ?_
 refine ya 4 32 (.pointer (some ⟨bl w_p0.Cons.a, of w_p0.Cons.a + ((i41 : Int)).toNat * 12 + 1, none⟩)) (WO.le (v := (Iv x48.Kind)) hc_x48 1 hS44.rm ?_)
 refine ya 6 34 (.bool (x48.Kind == 2)) (yb ?_)
 obtain ⟨j49, hr2, hr1⟩ := bsm hr1
 refine W.jw (J := (fun fr w => ∃ I51 a_j49 c_j49 C_j49, fr = [(1, Pt b1 0), (4, Sl a_j49 j49 c_j49), (6, Nv i41)] ∧ I38.Le I51 ∧ St E w I51 ((Bx b1 (cs_qTable p0 w_p0) 89) :: (C_j49) :: Os) ∧ OwnSl 9 1 RStr I51 C_j49 a_j49 c_j49 j49)) ?_ ?_
 refine W.cb hr2 (fun hc hr2 => ?_) (fun hc hr2 => ?_)
 refine yaa nL10 ?_
 refine WO.vs 0 [(35, Sl a_s40 s40 c_s40), (36, Pt b1 4)] (yf (v := (Sl w_p0.Cons.a p0.Cons w_p0.Cons.c)) (hS44.rf m0) ?_)
 refine ya 3 38 (Nv i41) ?_
 obtain ⟨x53, hr2, h0_x53, h1_x53, hx_x53, ha_x53, _, _, ⟨w_x53, rfl, h_x53⟩, hc_x53⟩ := sl_at ((RSl.mono h_p0.Cons ((hl8.trans hl13).trans hl39))) hr2
 refine yq 100 12 ha_x53 h0_x53 h1_x53 ?_
 refine ya 5 40 (.pointer (some ⟨bl w_p0.Cons.a, of w_p0.Cons.a + ((i41 : Int)).toNat * 12 + 3, none⟩)) (yai ((cs_qExpr x53.Check w_x53.Check)) hc_x53 3 hS44.rm ?_)
 obtain ⟨r59, hx_r54, hr2⟩ := bsm hr2
 refine y8 (r10_Names_ok h_x53.Check hS44 hx_r54) ?_
 rintro _ w55 ⟨I56, a_r59, c_r59, rfl, hl57, hS58, h_r59⟩
 refine ⟨_, rfl, trivial, ?_⟩
 have hS60 := hS58.front1
 obtain ⟨x61, hx_x61, hr2⟩ := bsm hr2
 obtain ⟨h0_x61, he_x61⟩ := app_some hx_x61
 refine WO.ap 9 16 [(.string (⟨#[]⟩ : ByteArray))] hS60 (OwnSl.mono h_s40 hl57) h_r59 hS60.im h0_x61 he_x61 ?_
 intro a62 c63 w65 C66 hS67 ho68
 refine ya 9 4 (Sl a62 x61 c63) (WO.nil ?_)
 obtain rfl := sj hr2
 exact yo ⟨I56, a62, c63, C66, rfl, hl57, hS67.front1, ho68⟩
 refine yg ?_
 obtain rfl := sj hr2
 exact yo ⟨I38, a_s40, c_s40, C_s40, rfl, lr, hS44, h_s40⟩
 rintro _ w70 ⟨I51, a_j49, c_j49, C_j49, rfl, hl52, hS71, h_j49⟩
 refine yi (En.next (yaa nL3 ?_))
 refine ya 0 26 (Nv i41) (y0 (j := i41) rfl (by kernel_rfl) rfl (by first | omega | (dsimp only at *; omega) | (simp only [List.length_cons, List.length_nil] at *; omega)) ?_)
 refine ya 2 6 (Iv ((i41 + 1 : Nat) : Int)) (WO.nil ?_)
 obtain rfl := sj hr1
 exact yo ⟨I51, a_j49, c_j49, C_j49, rfl, (hl39.trans hl52), hS71, h_j49⟩
 rintro _ w72 ⟨I38, a_s40, c_s40, C_s40, rfl, hl39, hS73, h_s40⟩
 refine ye (yd nL5 ?_)
 refine WO.vs 0 [(21, Nv p0.Cons.length), (22, Pt b1 4)] (yf (v := (Sl w_p0.Cons.a p0.Cons w_p0.Cons.c)) (hS73.rf m0) ?_)
 refine WO.vs 3 [(24, Nv p0.Cons.length), (25, .bool (decide ((p0.Cons.length : Int) < (p0.Cons.length : Int))))] (yb (yah (fun hc => ?_)))
 clear hc
 refine yy (yk (yl (yn (En.next (yd nL2 ?_)))))
 refine ya 0 44 (Sl a_s40 s40 c_s40) ?_
 obtain ⟨I75, hl76, hS78, hp77⟩ := y4 h_s40 hS73.front1
 refine ya 1 2 (Sl a_s40 s40 c_s40) (yb (W.ret ?_))
 obtain rfl := sj hr
 exact yr ⟨I75, a_s40, c_s40, rfl, (((hl8.trans hl13).trans hl39).trans hl76), hS78.drop, hp77⟩
def r17_keys (p0 : qTable) (p1 : List ByteArray) : Option Int := (forE (fun (i9 : Nat) => fun (s8 : Int) => (idx p0.Cons (i9 : Int)).bind (fun x16 => ((bif (x16.Kind == 1) then (idx p0.Cons (i9 : Int)).bind (fun x21 => (r17_alike x21.Cols p1).bind (fun r27 => some r27)) else some false)).bind (fun (j17 : Bool) => ((bif j17 then some (w64 (s8 + 1)) else some s8)).bind (fun (j30 : Int) => some j30)))) p0.Cons.length 0 0).bind (fun s8 => some s8)
theorem r17_keys_ok {p0 : qTable} {p1 : List ByteArray} {w_p0 : W_qTable} {a_p1 : Option Addr} {c_p1 : Nat} (h_p0 : ok_qTable I p0 w_p0) (h_p1 : RSl 1 RStr I a_p1 c_p1 p1) (hS : St E w I Os) {r : Int} (hr : r17_keys p0 p1 = some r) :
    Calls P 124 #[(.agg (cs_qTable p0 w_p0).toArray), (Sl a_p1 p1 c_p1)] w (fun e w' => ∃ I', e = .returned (Iv r) ∧ I.Le I' ∧ St E w' I' Os) := by
 refine calls_W (fn := Tryz.f124) rfl rfl rfl ?_
 unfold r17_keys at hr
 refine yd nL2 ?_
 refine yx hS (cs_qTable p0 w_p0) 89 ?_
 intro b1 w4 hS3
 refine ya 1 4 (Iv 0) (yz [0] ?_)
 refine ya 0 5 (Iv 0) (yb (ye (yd [0] ?_)))
 refine ya 0 6 (Iv 0) (yb (W.block ?_))
 obtain ⟨s8, hloop10, hr⟩ := bsm hr
 have hlt14 := (h_p0.Cons).len_lt
 refine W.wk (W.forE (m := p0.Cons.length) hloop10 (fun (i9 : Nat) => fun (s8 : Int) fr w => ∃ I6, fr = [(1, Sl a_p1 p1 c_p1), (2, Pt b1 0), (5, Iv s8), (6, Nv i9)] ∧ I.Le I6 ∧ St E w I6 ((Bx b1 (cs_qTable p0 w_p0) 89) :: Os)) ⟨I, rfl, lr, hS3⟩ ?_ ?_)
 rintro i9 s8 _ w11 hi15 ⟨I6, rfl, hl7, hS12⟩ x13 hr1
 refine ye (yd nL5 ?_)
 refine WO.vs 0 [(7, Nv i9), (8, Pt b1 4)] (yf (v := (Sl w_p0.Cons.a p0.Cons w_p0.Cons.c)) (hS12.rf m0) ?_)
 refine WO.vs 3 [(10, Nv p0.Cons.length), (11, .bool (decide ((i9 : Int) < (p0.Cons.length : Int))))] (yb (yag (fun hc => ?_)))
 clear hc
 refine yg (En.next (ye (W.block (yd nL17 ?_))))
 refine ya 0 14 (Pt b1 4) (yf (v := (Sl w_p0.Cons.a p0.Cons w_p0.Cons.c)) (hS12.rf m0) ?_)
 refine ya 2 16 (Nv i9) ?_
 obtain ⟨x16, hr1, h0_x16, h1_x16, hx_x16, ha_x16, _, _, ⟨w_x16, rfl, h_x16⟩, hc_x16⟩ := sl_at ((RSl.mono h_p0.Cons hl7)) hr1
 refine yq 100 12 ha_x16 h0_x16 h1_x16 ?_
 refine ya 4 18 (.pointer (some ⟨bl w_p0.Cons.a, of w_p0.Cons.a + ((i9 : Int)).toNat * 12 + 1, none⟩)) (WO.le (v := (Iv x16.Kind)) hc_x16 1 hS12.rm ?_)
 refine WO.vs 6 [(20, .bool (x16.Kind == 1)), (21, .bool (x16.Kind == 1))] ?_
 obtain ⟨j17, hr2, hr1⟩ := bsm hr1
 refine WO.jw (l1 := [8, 9, 10, 11, 12, 13, 14, 15, 16]) (J := (fun fr w => ∃ I19, fr = [(1, Sl a_p1 p1 c_p1), (2, Pt b1 0), (5, Iv s8), (6, Nv i9), (30, .bool j17)] ∧ I6.Le I19 ∧ St E w I19 ((Bx b1 (cs_qTable p0 w_p0) 89) :: Os))) ?_ ?_
 refine WO.cb hr2 (fun hc hr2 => ?_) (fun hc hr2 => ?_)
 refine yj 21 hc (ya 8 22 (Pt b1 4) (yf (v := (Sl w_p0.Cons.a p0.Cons w_p0.Cons.c)) (hS12.rf m0) ?_))
 refine ya 10 24 (Nv i9) ?_
 obtain ⟨x21, hr2, h0_x21, h1_x21, hx_x21, ha_x21, _, _, ⟨w_x21, rfl, h_x21⟩, hc_x21⟩ := sl_at ((RSl.mono h_p0.Cons hl7)) hr2
 refine yq 100 12 ha_x21 h0_x21 h1_x21 ?_
 refine ya 12 26 (.pointer (some ⟨bl w_p0.Cons.a, of w_p0.Cons.a + ((i9 : Int)).toNat * 12 + 2, none⟩)) (WO.le (v := (Sl w_x21.Cols.a x21.Cols w_x21.Cols.c)) hc_x21 2 hS12.rm ?_)
 refine ya 14 28 (Sl a_p1 p1 c_p1) ?_
 obtain ⟨r27, hx_r22, hr2⟩ := bsm hr2
 refine y6 (r17_alike_ok h_x21.Cols (RSl.mono h_p1 hl7) hS12 hx_r22) ?_
 intro I24 w23 hl25 hS26
 refine ya 16 30 (.bool r27) ?_
 obtain rfl := sj hr2
 exact yv ⟨I24, rfl, hl25, hS26⟩
 refine yj 21 hc ?_
 iterate 8 refine yt ?_
 refine ya 16 30 (.bool false) ?_
 obtain rfl := sj hr2
 exact yv ⟨I6, rfl, lr, hS12⟩
 rintro _ w28 ⟨I19, rfl, hl20, hS29⟩
 refine yb ?_
 obtain ⟨j30, hr2, hr1⟩ := bsm hr1
 refine W.jw (J := (fun fr w => ∃ I32, fr = [(1, Sl a_p1 p1 c_p1), (2, Pt b1 0), (5, Iv j30), (6, Nv i9)] ∧ I19.Le I32 ∧ St E w I32 ((Bx b1 (cs_qTable p0 w_p0) 89) :: Os))) ?_ ?_
 refine W.cb hr2 (fun hc hr2 => ?_) (fun hc hr2 => ?_)
 refine yaa nL3 ?_
 refine WO.vs 0 [(31, Iv s8), (32, Iv (w64 (s8 + 1))), (5, Iv (w64 (s8 + 1)))] (WO.nil ?_)
 obtain rfl := sj hr2
 exact yo ⟨I19, rfl, lr, hS29⟩
 refine yg ?_
 obtain rfl := sj hr2
 exact yo ⟨I19, rfl, lr, hS29⟩
 rintro _ w34 ⟨I32, rfl, hl33, hS35⟩
 refine yi (En.next (yaa nL3 ?_))
 refine ya 0 12 (Nv i9) (y0 (j := i9) rfl (by kernel_rfl) rfl (by first | omega | (dsimp only at *; omega) | (simp only [List.length_cons, List.length_nil] at *; omega)) ?_)
 refine ya 2 6 (Iv ((i9 + 1 : Nat) : Int)) (WO.nil ?_)
 obtain rfl := sj hr1
 exact yo ⟨I32, rfl, ((hl7.trans hl20).trans hl33), hS35⟩
 rintro _ w36 ⟨I6, rfl, hl7, hS37⟩
 refine ye (yd nL5 ?_)
 refine WO.vs 0 [(7, Nv p0.Cons.length), (8, Pt b1 4)] (yf (v := (Sl w_p0.Cons.a p0.Cons w_p0.Cons.c)) (hS37.rf m0) ?_)
 refine WO.vs 3 [(10, Nv p0.Cons.length), (11, .bool (decide ((p0.Cons.length : Int) < (p0.Cons.length : Int))))] (yb (yah (fun hc => ?_)))
 clear hc
 refine yy (yk (yl (yn (En.next (yd nL2 ?_)))))
 refine WO.vs 0 [(33, Iv s8), (4, Iv s8)] (yb (W.ret ?_))
 obtain rfl := sj hr
 exact yr ⟨I6, rfl, hl7, hS37.drop⟩
noncomputable def r17_refers_nnsl (p0 : qCatalog) (p1 : ByteArray) (p2 : ByteArray) (p3 : ByteArray) (p4 : List ByteArray) : Option Bool := (forN (fun (i8 : Nat) => fun (_s : Unit) => (idx p0.Tables (i8 : Int)).bind (fun x15 => (loopO (fun (s25 : Int) => (some ((decide (s25 < (x15.Cons.length : Int))) && (!sEq x15.Name p2))).bind (fun (q31 : Bool) => (bif q31 then ((idx x15.Cons s25).bind (fun x38 => (bif ((x38.Kind != 3) || (!sEq x38.Table p1)) then some (.inl ()) else (r17_alike x38.Refs p4).bind (fun r53 => (bif r53 then some (.inr true) else some (.inl ())))))).bind (fun (t : Unit ⊕ Bool) => match t with | (.inl ()) => some (.inl (w64 (s25 + 1))) | (.inr s55) => some (.inr (.inl s55))) else some (.inr (.inr ()))))) 0).bind (fun (t : Bool ⊕ Unit) => match t with | (.inl s57) => some (.inr s57) | (.inr ()) => some (.inl ())))) p0.Tables.length 0 ()).bind (fun (t : Unit ⊕ (Bool)) => match t with | .inl _ => some false | .inr s59 => some s59)
theorem r17_refers_nnsl_ok {p0 : qCatalog} {p1 : ByteArray} {p2 : ByteArray} {p3 : ByteArray} {p4 : List ByteArray} {w_p0 : W_qCatalog} {a_p4 : Option Addr} {c_p4 : Nat} (h_p0 : ok_qCatalog I p0 w_p0) (h_p4 : RSl 1 RStr I a_p4 c_p4 p4) (hnn_p4 : a_p4.isNone = false) (hS : St E w I Os) {r : Bool} (hr : r17_refers_nnsl p0 p1 p2 p3 p4 = some r) :
    Calls P 51 #[(.agg (cs_qCatalog p0 w_p0).toArray), (.string p1), (.string p2), (.string p3), (Sl a_p4 p4 c_p4)] w (fun e w' => ∃ I', e = .returned (.bool r) ∧ I.Le I' ∧ St E w' I' Os) := by
 refine calls_W (fn := Tryz.f51) rfl rfl rfl ?_
 unfold r17_refers_nnsl at hr
 refine yd nL2 ?_
 refine yx hS (cs_qCatalog p0 w_p0) 29 ?_
 intro b1 w4 hS3
 refine ya 1 10 (.bool false) (yb (ye (yd [0] ?_)))
 refine ya 0 11 (Iv 0) (yb (W.block ?_))
 obtain ⟨t5, hloop9, hr⟩ := bsm hr
 have hlt13 := (h_p0.Tables).len_lt
 refine W.wk (W.forN (m := p0.Tables.length) hloop9 (fun (i8 : Nat) => fun (_s : Unit) fr w => ∃ I6, fr = [(1, .string p1), (2, .string p2), (3, .string p3), (4, Sl a_p4 p4 c_p4), (5, Pt b1 0), (11, Nv i8)] ∧ I.Le I6 ∧ St E w I6 ((Bx b1 (cs_qCatalog p0 w_p0) 29) :: Os)) ⟨I, rfl, lr, hS3⟩ ?_ ?_)
 rintro i8 _ _ w10 hi14 ⟨I6, rfl, hl7, hS11⟩ x12 hr1 hext5
 refine ye (yd nL5 ?_)
 refine WO.vs 0 [(15, Nv i8), (16, Pt b1 1)] (yf (v := (Sl w_p0.Tables.a p0.Tables w_p0.Tables.c)) (hS11.rf m0) ?_)
 refine WO.vs 3 [(18, Nv p0.Tables.length), (19, .bool (decide ((i8 : Int) < (p0.Tables.length : Int))))] (yb (yag (fun hc => ?_)))
 clear hc
 refine yg (En.next (ye (W.block (yd nL7 ?_))))
 refine ya 0 22 (Pt b1 1) (yf (v := (Sl w_p0.Tables.a p0.Tables w_p0.Tables.c)) (hS11.rf m0) ?_)
 refine ya 2 24 (Nv i8) ?_
 obtain ⟨x15, hr1, h0_x15, h1_x15, hx_x15, ha_x15, _, _, ⟨w_x15, rfl, h_x15⟩, hc_x15⟩ := sl_at ((RSl.mono h_p0.Tables hl7)) hr1
 refine yq 89 6 ha_x15 h0_x15 h1_x15 ?_
 refine yai ((cs_qTable x15 w_x15)) hc_x15 0 hS11.rm ?_
 refine yx hS11 (cs_qTable z_qTable zw_qTable) 89 ?_
 intro b16 w19 hS18
 refine yw hS18 0 (cs_qTable x15 w_x15) ?_
 intro w21 hS20
 refine yz [0] ?_
 refine ya 0 13 (Iv 0) (yb (W.block ?_))
 obtain ⟨t22, hloop26, hr1⟩ := bsm hr1
 refine W.wk (yap hloop26 (fun (s25 : Int) fr w => ∃ I23, fr = [(1, .string p1), (2, .string p2), (3, .string p3), (4, Sl a_p4 p4 c_p4), (5, Pt b1 0), (11, Nv i8), (12, Pt b16 0), (13, Iv s25)] ∧ I6.Le I23 ∧ St E w I23 ((Bx b1 (cs_qCatalog p0 w_p0) 29) :: (Bx b16 (cs_qTable x15 w_x15) 89) :: Os)) ⟨I6, rfl, lr, hS20.front1⟩ ?_)
 rintro s25 _ w28 ⟨I23, rfl, hl24, hS29⟩ x30 hr2 hext22
 refine ye (yd nL11 ?_)
 refine WO.vs 0 [(27, Iv s25), (28, Pt b16 4)] (yf (v := (Sl w_x15.Cons.a x15.Cons w_x15.Cons.c)) (hS29.rf m1) ?_)
 refine WO.vs 3 [(30, Nv x15.Cons.length), (31, .bool (decide (s25 < (x15.Cons.length : Int)))), (32, .bool (decide (s25 < (x15.Cons.length : Int))))] ?_
 obtain ⟨q31, hx_q31, hr2⟩ := bsm hr2
 replace hx_q31 := sj hx_q31
 refine yac (l1 := [6, 7, 8, 9, 10]) 37 q31 ?_ ?_
 refine yp (decide (s25 < (x15.Cons.length : Int))) (fun hc => ?_) (fun hc => ?_)
 refine yj 32 hc (ya 6 33 (Pt b16 0) (yf (v := (.string x15.Name)) (hS29.rf m1) ?_))
 exact WO.vs 8 [(35, .string p2), (36, .bool (!sEq x15.Name p2)), (37, .bool (!sEq x15.Name p2))] (WO.mk 32 hc (by rw [← hx_q31, hc]; rfl))
 refine yj 32 hc ?_
 iterate 4 refine yt ?_
 exact ya 10 37 (.bool false) (WO.mk 32 hc (by rw [← hx_q31, hc]; rfl))
 refine yb (W.cb hr2 (fun hc hr2 => ?_) (fun hc hr2 => ?_))
 refine yg (En.next (ye ?_))
 obtain ⟨j34, hr3, hr2⟩ := bsm hr2
 refine W.jw (J := (fun fr w => ∃ I36, (.inl ()) = j34 ∧ fr = [(1, .string p1), (2, .string p2), (3, .string p3), (4, Sl a_p4 p4 c_p4), (5, Pt b1 0), (11, Nv i8), (12, Pt b16 0), (13, Iv s25)] ∧ I23.Le I36 ∧ St E w I36 ((Bx b1 (cs_qCatalog p0 w_p0) 29) :: (Bx b16 (cs_qTable x15 w_x15) 89) :: Os))) ?_ ?_
 refine W.block (yd nL7 ?_)
 refine ya 0 40 (Pt b16 4) (yf (v := (Sl w_x15.Cons.a x15.Cons w_x15.Cons.c)) (hS29.rf m1) ?_)
 refine ya 2 42 (Iv s25) ?_
 obtain ⟨x38, hr3, h0_x38, h1_x38, hx_x38, ha_x38, _, _, ⟨w_x38, rfl, h_x38⟩, hc_x38⟩ := sl_at ((RSl.mono h_x15.Cons hl24)) hr3
 refine yq 100 12 ha_x38 h0_x38 h1_x38 ?_
 refine yai ((cs_qCons x38 w_x38)) hc_x38 0 hS29.rm ?_
 refine yx hS29 (cs_qCons z_qCons zw_qCons) 100 ?_
 intro b39 w42 hS41
 refine yw hS41 0 (cs_qCons x38 w_x38) ?_
 intro w44 hS43
 refine yb (ye (yd nL9 ?_))
 refine ya 0 45 (Pt b39 1) (yf (v := (Iv x38.Kind)) (hS43.rf m0) ?_)
 refine WO.vs 2 [(47, .bool (x38.Kind != 3)), (48, .bool (x38.Kind != 3))] (yac (l1 := [4, 5, 6, 7, 8]) 53 ((x38.Kind != 3) || (!sEq x38.Table p1)) ?_ ?_)
 refine yp (x38.Kind != 3) (fun hc => ?_) (fun hc => ?_)
 refine yj 48 hc ?_
 iterate 4 refine yt ?_
 exact ya 8 53 (.bool true) (WO.mk 48 hc (by rw [hc]; rfl))
 refine yj 48 hc (ya 4 49 (Pt b39 10) (yf (v := (.string x38.Table)) (hS43.rf m0) ?_))
 exact WO.vs 6 [(51, .string p1), (52, .bool (!sEq x38.Table p1)), (53, .bool (!sEq x38.Table p1))] (WO.mk 48 hc (by rw [hc]; rfl))
 refine yb (W.cb hr3 (fun hc hr3 => ?_) (fun hc hr3 => ?_))
 exact yy (yk (yn (yo ⟨I23, sj hr3, rfl, lr, hS43.drop⟩)))
 refine yg (En.next (yd nL22 ?_))
 refine ya 0 54 (Sl a_p4 p4 c_p4) (yav (e := 9) rfl (by kernel_rfl) (by kernel_rfl) rfl rfl ?_)
 refine y7 55 rfl (v := .bool false) (by rw [hnn_p4] <;> rfl) ?_
 refine ya 2 56 (.bool false) ?_
 iterate 8 refine yt ?_
 refine WO.vs 11 [(65, .bool false), (66, .bool false), (67, Sl a_p4 p4 c_p4)] (WO.neNil (e := 9) rfl (by kernel_rfl) (by kernel_rfl) rfl rfl ?_)
 refine y7 68 rfl (v := .bool true) (by rw [hnn_p4] <;> rfl) ?_
 refine WO.vs 15 [(69, .bool true), (70, Pt b39 11)] (yf (v := (Sl w_x38.Refs.a x38.Refs w_x38.Refs.c)) (hS43.rf m0) ?_)
 refine ya 18 72 (Sl a_p4 p4 c_p4) ?_
 obtain ⟨r53, hx_r48, hr3⟩ := bsm hr3
 refine y6 (r17_alike_ok h_x38.Refs (RSl.mono h_p4 (hl7.trans hl24)) hS43 hx_r48) ?_
 intro I50 w49 hl51 hS52
 refine WO.vs 20 [(74, .bool r53), (75, .bool r53)] (yb (W.cb hr3 (fun hc hr3 => ?_) (fun hc hr3 => ?_)))
 refine yd [0] ?_
 refine ya 0 10 (.bool true) (yb (W.ret (yh (ym ?_))))
 obtain rfl := sj hr3
 refine yc (ym ?_)
 obtain rfl := hext22 _ (sj hr2).symm
 refine yh (yh (yc (ym ?_)))
 obtain rfl := hext5 _ (sj hr1).symm
 refine yh (yc ?_)
 obtain rfl := sj hr
 exact yr ⟨I50, rfl, ((hl7.trans hl24).trans hl51), hS52.drop.drop.drop⟩
 exact yg (yi (yo ⟨I50, sj hr3, rfl, hl51, hS52.drop⟩))
 rintro _ w69 ⟨I36, rfl, rfl, hl37, hS70⟩
 refine En.next (yaa nL3 ?_)
 exact WO.vs 0 [(38, Iv s25), (39, Iv (w64 (s25 + 1))), (13, Iv (w64 (s25 + 1)))] (WO.nil (yo ⟨(w64 (s25 + 1)), (sj hr2).symm, I36, rfl, (hl24.trans hl37), hS70⟩))
 refine yy (yk (yl ?_))
 obtain rfl := hext22 _ (sj hr2).symm
 refine yn (yi (En.next (yaa nL3 ?_)))
 refine ya 0 20 (Nv i8) (y0 (j := i8) rfl (by kernel_rfl) rfl (by first | omega | (dsimp only at *; omega) | (simp only [List.length_cons, List.length_nil] at *; omega)) ?_)
 exact ya 2 11 (Iv ((i8 + 1 : Nat) : Int)) (WO.nil (yo ⟨(), (sj hr1).symm, I23, rfl, (hl7.trans hl24), hS29.front1.drop⟩))
 rintro _ _ w75 ⟨I6, rfl, hl7, hS76⟩ he
 cases he
 refine ye (yd nL5 ?_)
 refine WO.vs 0 [(15, Nv p0.Tables.length), (16, Pt b1 1)] (yf (v := (Sl w_p0.Tables.a p0.Tables w_p0.Tables.c)) (hS76.rf m0) ?_)
 refine WO.vs 3 [(18, Nv p0.Tables.length), (19, .bool (decide ((p0.Tables.length : Int) < (p0.Tables.length : Int))))] (yb (yah (fun hc => ?_)))
 clear hc
 refine yy (yk (yl (yn (En.next (yd [0] ?_)))))
 refine ya 0 10 (.bool false) (yb (W.ret ?_))
 obtain rfl := sj hr
 exact yr ⟨I6, rfl, hl7, hS76.drop⟩
end Go.Proofs.YtdmapcjbbbifbaaGreat
