/- What functions of the program come to, each by a plain one. Conditions: none. -/
import Derived.Test.YtdmapcjbbbifbaaGreatF4
import Derived.Test.YtdmapcjbbbifbaaGreatProg
set_option maxRecDepth 100000
namespace Go.Proofs.YtdmapcjbbbifbaaGreat
open Go.Gv
set_option maxHeartbeats 1000000
variable {E w : World} {I : Mem} {Os : List Mem}
def law19_works_1 (p0 : ByteArray) (p1 : ByteArray) : Option law19_Act := some (⟨{ z_qStmt with Kind := 14, Table := (⟨#[116]⟩ : ByteArray), Role := p1, Priv := 1, Option := true }, p0⟩ : law19_Act)
theorem law19_works_1_ok {p0 : ByteArray} {p1 : ByteArray} (hS : St E w I Os) {r : law19_Act} (hr : law19_works_1 p0 p1 = some r) :
    Calls P 29 #[(.string p0), (.string p1)] w (fun e w' => ∃ I' w_rw0, e = .returned (.agg (cs_law19_Act r w_rw0).toArray) ∧ I.Le I' ∧ St E w' I' Os ∧ ok_law19_Act I' r w_rw0) := by
 refine calls_W (fn := Tryz.f29) rfl rfl rfl ?_
 unfold law19_works_1 at hr
 refine yd [0] (yy hS (cs_law19_Act z_law19_Act zw_law19_Act) 46 rfl fun b1 w4 hS3 => y0 nL5 (ya 0 1 rfl (yh 1 6 (.agg (cs_qStmt ({ z_qStmt with Kind := 14, Table := (⟨#[116]⟩ : ByteArray), Role := p1, Priv := 1, Option := true }) zw_qStmt).toArray) (ya 2 1 rfl (yh 3 8 (.agg (cs_law19_Act (⟨{ z_qStmt with Kind := 14, Table := (⟨#[116]⟩ : ByteArray), Role := p1, Priv := 1, Option := true }, p0⟩ : law19_Act) (⟨zw_qStmt⟩ : W_law19_Act)).toArray) (yx hS3 0 (cs_law19_Act (⟨{ z_qStmt with Kind := 14, Table := (⟨#[116]⟩ : ByteArray), Role := p1, Priv := 1, Option := true }, p0⟩ : law19_Act) (⟨zw_qStmt⟩ : W_law19_Act)) fun w6 hS5 => yb (W.ret ?_)))))))
 have hk8 : ok_law19_Act I (⟨{ z_qStmt with Kind := 14, Table := (⟨#[116]⟩ : ByteArray), Role := p1, Priv := 1, Option := true }, p0⟩ : law19_Act) (⟨zw_qStmt⟩ : W_law19_Act) := ⟨⟨SlAt.nil, SlAt.nil, SlAt.nil, SlAt.nil, zok_qStmt.Where, SlAt.nil, SlAt.nil, SlAt.nil⟩⟩
 obtain rfl := sj hr
 exact En.c1 _ (hS5.rd m0) ⟨I, (⟨zw_qStmt⟩ : W_law19_Act), rfl, lr, hS5.drop, hk8⟩
noncomputable def law19_works  : Option Bool := (law19_works_1 (⟨#[97, 110, 110]⟩ : ByteArray) (⟨#[98, 111, 98]⟩ : ByteArray)).bind (fun r6 => (law19_works_1 (⟨#[98, 111, 98]⟩ : ByteArray) (⟨#[99, 121]⟩ : ByteArray)).bind (fun r12 => (law19_Grown ([r6, r12] : List law19_Act)).bind (fun r29 => (grants_Make r29 ({ z_qStmt with Kind := 15, Table := (⟨#[116]⟩ : ByteArray), Role := (⟨#[98, 111, 98]⟩ : ByteArray), Priv := 1 }) (⟨#[97, 110, 110]⟩ : ByteArray) 1000).bind (fun (r42, r43) => ((bif (r43 == 0) then (grants_May r29 (⟨#[99, 121]⟩ : ByteArray) 1 (⟨#[116]⟩ : ByteArray)).bind (fun r59 => some r59) else some false)).bind (fun (j50 : Bool) => ((bif j50 then (grants_May r42 (⟨#[99, 121]⟩ : ByteArray) 1 (⟨#[116]⟩ : ByteArray)).bind (fun r76 => some (!r76)) else some false)).bind (fun (j67 : Bool) => some (j67 && ((r42.Grants.length : Int) == 0))))))))
theorem law19_works_ok (hS : St E w I Os) {r : Bool} (hr : law19_works = some r) :
    Calls P 8 #[] w (fun e w' => ∃ I', e = .returned (.bool r) ∧ I.Le I' ∧ St E w' I' Os) := by
 refine calls_W (fn := Tryz.f8) rfl rfl rfl ?_
 unfold law19_works at hr
 refine yd [0] (ya 0 1 rfl (y0 [0] (yh 0 1 (.func (.func 29) #[] #[]) (y0 nL8 (yh 0 5 (.func (.func 29) #[] #[]) (bsk hr fun r6 hx_r1 hr => yab (law19_works_1_ok  hS hx_r1) ?_))))))
 rintro _ w2 ⟨I3, w_r6, rfl, hl4, hS5, h_r6⟩
 refine ⟨_, rfl, trivial, ?_⟩
 refine yh 2 7 (.func (.func 29) #[] #[]) (bsk hr fun r12 hx_r7 hr => yab (law19_works_1_ok  hS5 hx_r7) ?_)
 rintro _ w8 ⟨I9, w_r12, rfl, hl10, hS11, h_r12⟩
 refine ⟨_, rfl, trivial, ?_⟩
 refine y4 (rel := R_law19_Act) (xs := ([r6, r12] : List law19_Act)) hS11 rfl (by kernel_rfl) rfl 46 22 [(cs_law19_Act r6 w_r6), (cs_law19_Act r12 w_r12)] (by kernel_rfl) rfl ((Elr.cons ⟨w_r6, rfl, (h_r6.mono hl10)⟩ (Elr.cons ⟨w_r12, rfl, h_r12⟩ Elr.nil))) (fun _ _ _ => trivial) ?_
 intro a16 C14 w18 hS17 ho15
 obtain ⟨I20, hl21, hS23, hp22⟩ := y6 ho15 hS17
 refine bsk hr fun r29 hx_r24 hr => yab (law19_Grown_ok hp22 hS23 hx_r24) ?_
 rintro _ w25 ⟨I26, w_r29, rfl, hl27, hS28, h_r29⟩
 refine ⟨_, rfl, trivial, ?_⟩
 refine yy hS28 (cs_qCatalog z_qCatalog zw_qCatalog) 29 rfl fun b30 w33 hS32 => yx hS32 0 (cs_qCatalog r29 w_r29) fun w35 hS34 => y0 nL9 (yv ((cs_qCatalog r29 w_r29)) (hS34.rf m0) rfl (yh 1 13 (.agg (cs_qStmt ({ z_qStmt with Kind := 15, Table := (⟨#[116]⟩ : ByteArray), Role := (⟨#[98, 111, 98]⟩ : ByteArray), Priv := 1 }) zw_qStmt).toArray) ?_))
 have hk36 : ok_qStmt I26 ({ z_qStmt with Kind := 15, Table := (⟨#[116]⟩ : ByteArray), Role := (⟨#[98, 111, 98]⟩ : ByteArray), Priv := 1 }) zw_qStmt := ⟨SlAt.nil, SlAt.nil, SlAt.nil, SlAt.nil, zok_qStmt.Where, SlAt.nil, SlAt.nil, SlAt.nil⟩
 obtain ⟨⟨r42, r43⟩, hx_r37, hr⟩ := bsm hr
 refine yab (grants_Make_ok h_r29 hk36 hS34 hx_r37) ?_
 rintro _ w38 ⟨I39, w_r42, rfl, hl40, hS41, h_r42⟩
 refine ⟨_, rfl, trivial, ?_⟩
 refine ya 3 3 rfl (yy hS41 (cs_qCatalog z_qCatalog zw_qCatalog) 29 rfl fun b44 w47 hS46 => yx hS46 0 (cs_qCatalog r42 w_r42) fun w49 hS48 => ya 8 1 rfl (y0 nL18 (ya 0 3 rfl (bsk hr fun j50 hr1 hr => WO.jw (l1 := [3, 4, 5]) (J := (fun fr w => ∃ I52, fr = [(3, Pt b44 0), (22, .bool j50)] ∧ I39.Le I52 ∧ St E w I52 ((Bx b44 (cs_qCatalog r42 w_r42) 29) :: Os))) ?_ ?_))))
 refine WO.cb hr1 (fun hc hr1 => ?_) (fun hc hr1 => ?_)
 refine yl 19 hc (yv ((cs_qCatalog r29 w_r29)) (hS48.rf m1) rfl (bsk hr1 fun r59 hx_r54 hr1 => WO.c1 (grants_May_ok (h_r29.mono hl40) hS48 hx_r54) rfl fun I56 w55 hl57 hS58 => yh 5 22 (.bool r59) ?_))
 obtain rfl := sj hr1
 exact yw ⟨I56, rfl, hl57, hS58.front1.drop⟩
 refine yl 19 hc ?_
 iterate 2 refine yt ?_
 refine yh 5 22 (.bool false) ?_
 obtain rfl := sj hr1
 exact yw ⟨I39, rfl, lr, hS48.front1.drop⟩
 rintro _ w65 ⟨I52, rfl, hl53, hS66⟩
 refine ya 6 1 rfl (bsk hr fun j67 hr1 hr => WO.jw (l1 := [7, 8, 9, 10]) (J := (fun fr w => ∃ I69, fr = [(3, Pt b44 0), (27, .bool j67)] ∧ I52.Le I69 ∧ St E w I69 ((Bx b44 (cs_qCatalog r42 w_r42) 29) :: Os))) ?_ ?_)
 refine WO.cb hr1 (fun hc hr1 => ?_) (fun hc hr1 => ?_)
 refine yl 23 hc (yv ((cs_qCatalog r42 w_r42)) (hS66.rf m0) rfl (bsk hr1 fun r76 hx_r71 hr1 => WO.c1 (grants_May_ok (h_r42.mono hl53) hS66 hx_r71) rfl fun I73 w72 hl74 hS75 => ya 9 1 rfl (yh 10 27 (.bool (!r76)) ?_)))
 obtain rfl := sj hr1
 exact yw ⟨I73, rfl, hl74, hS75⟩
 refine yl 23 hc ?_
 iterate 3 refine yt ?_
 refine yh 10 27 (.bool false) ?_
 obtain rfl := sj hr1
 exact yw ⟨I52, rfl, lr, hS66⟩
 rintro _ w77 ⟨I69, rfl, hl70, hS78⟩
 refine ya 11 1 rfl (yac (l1 := [12, 13, 14, 15, 16]) 33 (j67 && ((r42.Grants.length : Int) == 0)) ?_ ?_)
 refine yr j67 (fun hc => ?_) (fun hc => ?_)
 exact yl 28 hc (yc 12 1 [3] rfl (yg (hS78.rf m0) rfl (ya 14 2 rfl (yh 16 33 (.bool ((r42.Grants.length : Int) == 0)) (WO.mk 28 hc (by rw [hc]; rfl))))))
 refine yl 28 hc ?_
 iterate 4 refine yt ?_
 exact yh 16 33 (.bool false) (WO.mk 28 hc (by rw [hc]; rfl))
 refine ya 17 1 rfl (yb (W.ret ?_))
 obtain rfl := sj hr
 exact yu ⟨I69, rfl, le, hS78.drop⟩
noncomputable def law19_GrantsGone (p0 : List law19_Act) (p1 : law19_Act) : Option Bool := (law19_Few p0).bind (fun r10 => ((bif (!r10) then some true else (law19_Few ([p1] : List law19_Act)).bind (fun r29 => some (!r29)))).bind (fun (j11 : Bool) => (bif j11 then (law19_works).bind (fun r39 => some r39) else (law19_Grown p0).bind (fun r46 => (grants_Make r46 ({ p1.S with Kind := 15 }) p1.By 1000).bind (fun (r62, r63) => (bif (r63 != 0) then ((bif ((w64 ((w64 ((r62.Tables.length : Int) + (r62.Roles.length : Int))) + (r62.Grants.length : Int))) == 0) then (law19_works).bind (fun r79 => some r79) else some false)).bind (fun (j70 : Bool) => some j70) else (bif (decide ((r62.Grants.length : Int) ≥ (r46.Grants.length : Int))) then some false else (forN (fun (i94 : Nat) => fun (_s : Unit) => (forE (fun (i107 : Nat) => fun (s106 : Bool) => ((bif s106 then some true else (idx r46.Grants (i107 : Int)).bind (fun x120 => (idx r62.Grants (i94 : Int)).bind (fun x121 => some (sEq x120.To x121.To && (sEq x120.By x121.By && (sEq x120.Table x121.Table && ((x120.Priv == x121.Priv) && (x120.Option == x121.Option))))))))).bind (fun (j116 : Bool) => some j116)) r46.Grants.length 0 false).bind (fun s106 => ((bif (!s106) then some true else (idx r62.Grants (i94 : Int)).bind (fun x132 => (idx r62.Grants (i94 : Int)).bind (fun x133 => some (sEq x132.To p1.S.Role && (sEq x132.By p1.By && (sEq x132.Table p1.S.Table && ((x132.Priv == p1.S.Priv) && (x132.Option == x133.Option))))))))).bind (fun (j128 : Bool) => (bif j128 then some (.inr false) else some (.inl ()))))) r62.Grants.length 0 ()).bind (fun (t : Unit ⊕ (Bool)) => match t with | .inl _ => (forN (fun (i149 : Nat) => fun (_s : Unit) => (loopO (fun (s159 : Int) => (bif (decide (s159 < 5)) then (idx r46.Roles (i149 : Int)).bind (fun x166 => (grants_May r62 x166.Name s159 p1.S.Table).bind (fun r172 => ((bif r172 then (idx r46.Roles (i149 : Int)).bind (fun x177 => (grants_May r46 x177.Name s159 p1.S.Table).bind (fun r183 => some (!r183))) else some false)).bind (fun (j173 : Bool) => (bif j173 then some (.inr (.inl false)) else some (.inl (w64 (s159 + 1))))))) else some (.inr (.inr ())))) 1).bind (fun (t : Bool ⊕ Unit) => match t with | (.inl s187) => some (.inr s187) | (.inr ()) => some (.inl ()))) r46.Roles.length 0 ()).bind (fun (t : Unit ⊕ (Bool)) => match t with | .inl _ => (law19_works).bind (fun r207 => some r207) | .inr s189 => some s189) | .inr s137 => some s137))))))))
theorem law19_GrantsGone_ok {p0 : List law19_Act} {p1 : law19_Act} {a_p0 : Option Addr} {c_p0 : Nat} {w_p1 : W_law19_Act} (h_p0 : RSl 22 R_law19_Act I a_p0 c_p0 p0) (h_p1 : ok_law19_Act I p1 w_p1) (hS : St E w I Os) {r : Bool} (hr : law19_GrantsGone p0 p1 = some r) :
    Calls P 6 #[(Sl a_p0 p0 c_p0), (.agg (cs_law19_Act p1 w_p1).toArray)] w (fun e w' => ∃ I', e = .returned (.bool r) ∧ I.Le I' ∧ St E w' I' Os) := by
 refine calls_W (fn := Tryz.f6) rfl rfl rfl ?_
 unfold law19_GrantsGone at hr
 refine yd nL2 (yy hS (cs_law19_Act p1 w_p1) 46 rfl fun b1 w4 hS3 => ya 1 1 rfl (yb (yf (yd nL9 (ya 0 1 rfl (bsk hr fun r10 hx_r5 hr => WO.c1 (law19_Few_ok h_p0 hS3 hx_r5) rfl fun I7 w6 hl8 hS9 => ya 2 2 rfl (bsk hr fun j11 hr1 hr => WO.jw (l1 := [4, 5, 6, 7, 8]) (J := (fun fr w => ∃ I13, fr = [(0, Sl a_p0 p0 c_p0), (3, Pt b1 0), (21, .bool j11)] ∧ I7.Le I13 ∧ St E w I13 ((Bx b1 (cs_law19_Act p1 w_p1) 46) :: Os))) ?_ ?_)))))))
 refine WO.cb hr1 (fun hc hr1 => ?_) (fun hc hr1 => ?_)
 refine yl 16 hc ?_
 iterate 4 refine yt ?_
 refine yh 8 21 (.bool true) ?_
 obtain rfl := sj hr1
 exact yw ⟨I7, rfl, lr, hS9⟩
 refine yl 16 hc (yv ((cs_law19_Act p1 w_p1)) (hS9.rf m0) rfl (y4 (rel := R_law19_Act) (xs := ([p1] : List law19_Act)) hS9 rfl (by kernel_rfl) rfl 46 22 [(cs_law19_Act p1 w_p1)] (by kernel_rfl) rfl ((Elr.cons ⟨w_p1, rfl, (h_p1.mono hl8)⟩ Elr.nil)) (fun _ _ _ => trivial) ?_))
 intro a18 C16 w20 hS19 ho17
 have hp23 := (ho17).publish hS19
 refine bsk hr1 fun r29 hx_r24 hr1 => yab (law19_Few_ok hp23 hS19.publish hx_r24) ?_
 rintro _ w25 ⟨I26, rfl, hl27, hS28⟩
 have hS30 := St.back hS19 hl27 hS28
 refine ⟨_, rfl, trivial, ?_⟩
 refine ya 7 1 rfl (yh 8 21 (.bool (!r29)) ?_)
 obtain rfl := sj hr1
 exact yw ⟨I7, rfl, lr, hS30.drop⟩
 rintro _ w32 ⟨I13, rfl, hl14, hS33⟩
 refine yb (W.cb hr (fun hc hr => ?_) (fun hc hr => ?_))
 refine yd nL2 (bsk hr fun r39 hx_r34 hr => WO.c1 (law19_works_ok  hS33 hx_r34) rfl fun I36 w35 hl37 hS38 => ya 1 1 rfl (yb (W.ret (ye ?_))))
 obtain rfl := sj hr
 exact yu ⟨I36, rfl, le, hS38.drop⟩
 refine yi (En.next (yd nL4 (ya 0 1 rfl (bsk hr fun r46 hx_r41 hr => yab (law19_Grown_ok (RSl.mono h_p0 le) hS33 hx_r41) ?_))))
 rintro _ w42 ⟨I43, w_r46, rfl, hl44, hS45, h_r46⟩
 refine ⟨_, rfl, trivial, ?_⟩
 refine yy hS45 (cs_qCatalog z_qCatalog zw_qCatalog) 29 rfl fun b47 w50 hS49 => yx hS49 0 (cs_qCatalog r46 w_r46) fun w52 hS51 => y0 nL3 (yc 0 2 [0, 0] rfl (yx hS51.front1 0 (cs_law19_Act ({ p1 with S := { p1.S with Kind := 15 } }) (⟨w_p1.S⟩ : W_law19_Act)) fun w55 hS54 => y0 nL12 (yv ((cs_qCatalog r46 w_r46)) (hS54.rf m1) rfl (yc 1 1 [0] rfl (yv ((cs_qStmt ({ p1.S with Kind := 15 }) w_p1.S)) (hS54.rf m0) rfl (yc 3 1 [21] rfl (yg (hS54.rf m0) rfl ?_)))))))
 have hk56 : ok_qStmt I43 ({ p1.S with Kind := 15 }) w_p1.S := ⟨(RSl.mono h_p1.S.Cols ((hl8.trans hl14).trans hl44)), (RSl.mono h_p1.S.Cons ((hl8.trans hl14).trans hl44)), (RSl.mono h_p1.S.Names ((hl8.trans hl14).trans hl44)), (RSl.mono h_p1.S.Rows ((hl8.trans hl14).trans hl44)), (h_p1.S.Where.mono ((hl8.trans hl14).trans hl44)), (RSl.mono h_p1.S.Sets ((hl8.trans hl14).trans hl44)), (RSl.mono h_p1.S.Order ((hl8.trans hl14).trans hl44)), (RSl.mono h_p1.S.Kids ((hl8.trans hl14).trans hl44))⟩
 obtain ⟨⟨r62, r63⟩, hx_r57, hr⟩ := bsm hr
 refine yab (grants_Make_ok h_r46 hk56 hS54 hx_r57) ?_
 rintro _ w58 ⟨I59, w_r62, rfl, hl60, hS61, h_r62⟩
 refine ⟨_, rfl, trivial, ?_⟩
 refine ya 6 3 rfl (yy hS61 (cs_qCatalog z_qCatalog zw_qCatalog) 29 rfl fun b64 w67 hS66 => yx hS66 0 (cs_qCatalog r62 w_r62) fun w69 hS68 => ya 11 1 rfl (yb (yf (yd nL2 (ya 0 2 rfl (yb (W.cb hr (fun hc hr => ?_) (fun hc hr => ?_))))))))
 refine yd nL16 (yc 0 1 [1] rfl (yg (hS68.rf m0) rfl (yc 2 2 [2] rfl (yg (hS68.rf m0) rfl (yc 5 3 [3] rfl (yg (hS68.rf m0) rfl (ya 9 4 rfl (bsk hr fun j70 hr1 hr => WO.jw (l1 := [13, 14]) (J := (fun fr w => ∃ I72, fr = [(52, .bool j70)] ∧ I59.Le I72 ∧ St E w I72 Os)) ?_ ?_))))))))
 refine WO.cb hr1 (fun hc hr1 => ?_) (fun hc hr1 => ?_)
 refine yl 50 hc (bsk hr1 fun r79 hx_r74 hr1 => WO.c1 (law19_works_ok  hS68 hx_r74) rfl fun I76 w75 hl77 hS78 => yh 14 52 (.bool r79) ?_)
 obtain rfl := sj hr1
 exact yw ⟨I76, rfl, hl77, hS78.drop.drop.drop⟩
 refine yl 50 hc (yt ?_)
 refine yh 14 52 (.bool false) ?_
 obtain rfl := sj hr1
 exact yw ⟨I59, rfl, lr, hS68.drop.drop.drop⟩
 rintro _ w86 ⟨I72, rfl, hl73, hS87⟩
 refine ya 15 1 rfl (yb (W.ret (ye ?_)))
 obtain rfl := sj hr
 exact yu ⟨I72, rfl, le, hS87⟩
 refine yi (En.next (yf (yd nL7 (yc 0 1 [3] rfl (yg (hS68.rf m0) rfl (yc 2 2 [3] rfl (yg (hS68.rf m2) rfl (ya 5 2 rfl (yb (W.cb hr (fun hc hr => ?_) (fun hc hr => ?_)))))))))))
 refine yd [0] (ya 0 1 rfl (yb (W.ret (ye ?_))))
 obtain rfl := sj hr
 exact yu ⟨I59, rfl, le, hS68.drop.drop.drop⟩
 refine yi (En.next (yf (yd [0] (ya 0 1 rfl (yb (W.block (bsk hr fun t91 hloop95 hr => have hlt101 := (h_r62.Grants).len_lt; W.wk (W.forN (m := r62.Grants.length) hloop95 (fun (i94 : Nat) => fun (_s : Unit) fr w => ∃ I92, fr = [(3, Pt b1 0), (5, Pt b47 0), (6, Pt b64 0), (8, Nv i94)] ∧ I59.Le I92 ∧ St E w I92 ((Bx b1 (cs_law19_Act ({ p1 with S := { p1.S with Kind := 15 } }) (⟨w_p1.S⟩ : W_law19_Act)) 46) :: (Bx b47 (cs_qCatalog r46 w_r46) 29) :: (Bx b64 (cs_qCatalog r62 w_r62) 29) :: Os)) ⟨I59, rfl, lr, hS68.front2.front2⟩ ?_ ?_))))))))
 rintro i94 _ _ w98 hi102 ⟨I92, rfl, hl93, hS99⟩ x100 hr1 hext91
 refine yf (yd nL5 (yc 0 2 [3] rfl (yg (hS99.rf m2) rfl (ya 3 2 rfl (yb (yah fun _ => yi (En.next (yf (W.block (yd [0] (ya 0 1 rfl (yb (yf (yd [0] (ya 0 1 rfl (yb (W.block (bsk hr1 fun s106 hloop108 hr1 => have hlt112 := ((RSl.mono h_r46.Grants (hl60.trans hl93))).len_lt; W.wk (W.forE (m := r46.Grants.length) hloop108 (fun (i107 : Nat) => fun (s106 : Bool) fr w => ∃ I104, fr = [(3, Pt b1 0), (5, Pt b47 0), (6, Pt b64 0), (8, Nv i94), (9, .bool s106), (10, Nv i107)] ∧ I92.Le I104 ∧ St E w I104 ((Bx b1 (cs_law19_Act ({ p1 with S := { p1.S with Kind := 15 } }) (⟨w_p1.S⟩ : W_law19_Act)) 46) :: (Bx b47 (cs_qCatalog r46 w_r46) 29) :: (Bx b64 (cs_qCatalog r62 w_r62) 29) :: Os)) ⟨I92, rfl, lr, hS99⟩ ?_ ?_)))))))))))))))))))
 rintro i107 s106 _ w109 hi113 ⟨I104, rfl, hl105, hS110⟩ x111 hr2
 refine yf (yd nL5 (yc 0 2 [3] rfl (yg (hS110.rf m1) rfl (ya 3 2 rfl (yb (yah fun _ => yi (En.next (yf (W.block (have hS114 := hS110.drew; yat nL15 14 (KR.cons (hS114.rd m1) (KR.cons (hS114.rd m2) (KR.nil hS114.im))) ?_))))))))))
 generalize World.drew _ = w115 at *
 refine ya 0 2 rfl (bsk hr2 fun j116 hr3 hr2 => WO.jw (l1 := [2, 3, 4, 5, 6, 7, 8, 9, 10, 11, 12, 13]) (J := (fun fr w => ∃ I118, fr = [(3, Pt b1 0), (5, Pt b47 0), (6, Pt b64 0), (8, Nv i94), (10, Nv i107), (87, .bool j116)] ∧ I104.Le I118 ∧ St E w I118 ((Bx b1 (cs_law19_Act ({ p1 with S := { p1.S with Kind := 15 } }) (⟨w_p1.S⟩ : W_law19_Act)) 46) :: (Bx b47 (cs_qCatalog r46 w_r46) 29) :: (Bx b64 (cs_qCatalog r62 w_r62) 29) :: Os))) ?_ ?_)
 refine WO.cb hr3 (fun hc hr3 => ?_) (fun hc hr3 => ?_)
 refine yl 75 hc ?_
 iterate 11 refine yt ?_
 refine yh 13 87 (.bool true) ?_
 obtain rfl := sj hr3
 exact yw ⟨I104, rfl, lr, hS114⟩
 refine yl 75 hc (yc 2 1 [3] rfl (yg (rd_c m0 (hS114.rd m1)) rfl (ya 4 1 rfl ?_)))
 obtain ⟨x120, hr3, hb_x120, _, rfl, hc_x120⟩ := sl_ix ((RSl.mono h_r46.Grants ((hl60.trans hl93).trans hl105))) hr3
 refine y3 67 5 hb_x120 rfl (yak ((cs_qGrant x120)) hc_x120 0 (rd_i hS114.im) rfl (yc 7 1 [3] rfl (yg (rd_c m1 (hS114.rd m2)) rfl (ya 9 1 rfl ?_))))
 obtain ⟨x121, hr3, hb_x121, _, rfl, hc_x121⟩ := sl_ix ((RSl.mono h_r62.Grants (hl93.trans hl105))) hr3
 refine y3 67 5 hb_x121 rfl (yak ((cs_qGrant x121)) hc_x121 0 (rd_i hS114.im) rfl (ya5 rfl (by kernel_rfl) rfl rfl (by kernel_rfl) 50 rfl (b := (sEq x120.To x121.To && (sEq x120.By x121.By && (sEq x120.Table x121.Table && ((x120.Priv == x121.Priv) && ((x120.Option == x121.Option) && true)))))) (by kernel_rfl) (sEq x120.To x121.To && (sEq x120.By x121.By && (sEq x120.Table x121.Table && ((x120.Priv == x121.Priv) && (x120.Option == x121.Option))))) (.inl ⟨rfl, by simp only [Bool.and_true]⟩) ?_))
 refine yh 13 87 (.bool (sEq x120.To x121.To && (sEq x120.By x121.By && (sEq x120.Table x121.Table && ((x120.Priv == x121.Priv) && (x120.Option == x121.Option)))))) ?_
 obtain rfl := sj hr3
 exact yw ⟨I104, rfl, lr, hS114⟩
 rintro _ w122 ⟨I118, rfl, hl119, hS123⟩
 refine WO.tail rfl (ya 14 1 rfl (WO.nil (yk (En.next (yaa nL3 (ya 0 1 rfl (yae i107 rfl (ya 2 1 rfl (WO.nil ?_)))))))))
 obtain rfl := sj hr2
 exact yq ⟨I118, rfl, le, hS123⟩
 rintro _ w124 ⟨I104, rfl, hl105, hS125⟩
 refine yf (yd nL5 (yc 0 2 [3] rfl (yg (hS125.rf m1) rfl (ya 3 2 rfl (yb (yai fun _ => yz (ym (yn (yo (En.next (yf (have hS126 := hS125.drew; yat nL28 28 (KR.cons (hS126.rd m0) (KR.cons (hS126.rd m2) (KR.nil hS126.im))) ?_))))))))))))
 generalize World.drew _ = w127 at *
 refine ya 0 3 rfl (bsk hr1 fun j128 hr2 hr1 => WO.jw (l1 := [3, 4, 5, 6, 7, 8, 9, 10, 11, 12, 13, 14, 15, 16, 17, 18, 19, 20, 21, 22, 23, 24, 25, 26, 27]) (J := (fun fr w => ∃ I130, fr = [(3, Pt b1 0), (5, Pt b47 0), (6, Pt b64 0), (8, Nv i94), (115, .bool j128)] ∧ I104.Le I130 ∧ St E w I130 ((Bx b1 (cs_law19_Act ({ p1 with S := { p1.S with Kind := 15 } }) (⟨w_p1.S⟩ : W_law19_Act)) 46) :: (Bx b47 (cs_qCatalog r46 w_r46) 29) :: (Bx b64 (cs_qCatalog r62 w_r62) 29) :: Os))) ?_ ?_)
 refine WO.cb hr2 (fun hc hr2 => ?_) (fun hc hr2 => ?_)
 refine yl 90 hc ?_
 iterate 24 refine yt ?_
 refine yh 27 115 (.bool true) ?_
 obtain rfl := sj hr2
 exact yw ⟨I104, rfl, lr, hS126⟩
 refine yl 90 hc (yc 3 1 [3] rfl (yg (rd_c m1 (hS126.rd m2)) rfl (ya 5 1 rfl ?_)))
 obtain ⟨x132, hr2, hb_x132, _, rfl, hc_x132⟩ := sl_ix ((RSl.mono h_r62.Grants (hl93.trans hl105))) hr2
 refine y3 67 5 hb_x132 rfl (yak ((cs_qGrant x132)) hc_x132 0 (rd_i hS126.im) rfl (yc 8 2 [0, 3] rfl (yg (rd_c m0 (hS126.rd m0)) rfl (yc 11 1 [21] rfl (yg (rd_c m0 (hS126.rd m0)) rfl (yc 13 2 nL2 rfl (yg (rd_c m0 (hS126.rd m0)) rfl (yc 16 2 [0, 18] rfl (yg (rd_c m0 (hS126.rd m0)) rfl (yc 19 1 [3] rfl (yg (rd_c m1 (hS126.rd m2)) rfl (ya 21 1 rfl ?_))))))))))))
 obtain ⟨x133, hr2, hb_x133, _, rfl, hc_x133⟩ := sl_ix ((RSl.mono h_r62.Grants (hl93.trans hl105))) hr2
 refine y3 67 5 hb_x133 rfl (yc 23 1 [4] rfl (yal hc_x133 4 (rd_i hS126.im) rfl (yh 25 113 (.agg (cs_qGrant ({ x133 with To := p1.S.Role, By := p1.By, Table := p1.S.Table, Priv := p1.S.Priv })).toArray) (ya5 rfl (by kernel_rfl) rfl rfl (by kernel_rfl) 50 rfl (b := (sEq x132.To p1.S.Role && (sEq x132.By p1.By && (sEq x132.Table p1.S.Table && ((x132.Priv == p1.S.Priv) && ((x132.Option == x133.Option) && true)))))) (by kernel_rfl) (sEq x132.To p1.S.Role && (sEq x132.By p1.By && (sEq x132.Table p1.S.Table && ((x132.Priv == p1.S.Priv) && (x132.Option == x133.Option))))) (.inl ⟨rfl, by simp only [Bool.and_true]⟩) ?_))))
 refine yh 27 115 (.bool (sEq x132.To p1.S.Role && (sEq x132.By p1.By && (sEq x132.Table p1.S.Table && ((x132.Priv == p1.S.Priv) && (x132.Option == x133.Option)))))) ?_
 obtain rfl := sj hr2
 exact yw ⟨I104, rfl, lr, hS126⟩
 rintro _ w134 ⟨I130, rfl, hl131, hS135⟩
 refine yb (W.cb hr1 (fun hc hr1 => ?_) (fun hc hr1 => ?_))
 refine yd [0] (ya 0 1 rfl (yb (W.ret (yj (ye (yp ?_))))))
 obtain rfl := hext91 _ (sj hr1).symm
 refine yj (ye ?_)
 obtain rfl := sj hr
 exact yu ⟨I130, rfl, le, hS135.drop.drop.drop⟩
 exact yi (yk (En.next (yaa nL3 (ya 0 1 rfl (yae i94 rfl (ya 2 1 rfl (WO.nil (yq ⟨(), (sj hr1).symm, I130, rfl, le, hS135⟩))))))))
 rintro _ _ w144 ⟨I92, rfl, hl93, hS145⟩ he
 cases he
 refine yf (yd nL5 (yc 0 2 [3] rfl (yg (hS145.rf m2) rfl (ya 3 2 rfl (yb (yai fun _ => yz (ym (yn (yo (En.next (yf (yd [0] (ya 0 1 rfl (yb (W.block (bsk hr fun t146 hloop150 hr => have hlt154 := ((RSl.mono h_r46.Roles (hl60.trans hl93))).len_lt; W.wk (W.forN (m := r46.Roles.length) hloop150 (fun (i149 : Nat) => fun (_s : Unit) fr w => ∃ I147, fr = [(3, Pt b1 0), (5, Pt b47 0), (6, Pt b64 0), (11, Nv i149)] ∧ I92.Le I147 ∧ St E w I147 ((Bx b1 (cs_law19_Act ({ p1 with S := { p1.S with Kind := 15 } }) (⟨w_p1.S⟩ : W_law19_Act)) 46) :: (Bx b47 (cs_qCatalog r46 w_r46) 29) :: (Bx b64 (cs_qCatalog r62 w_r62) 29) :: Os)) ⟨I92, rfl, lr, hS145⟩ ?_ ?_)))))))))))))))))
 rintro i149 _ _ w151 hi155 ⟨I147, rfl, hl148, hS152⟩ x153 hr1 hext146
 refine yf (yd nL5 (yc 0 2 [2] rfl (yg (hS152.rf m1) rfl (ya 3 2 rfl (yb (yah fun _ => yi (En.next (yf (W.block (yd [0] (ya 0 1 rfl (yb (W.block (bsk hr1 fun t156 hloop160 hr1 => W.wk (yau hloop160 (fun (s159 : Int) fr w => ∃ I157, fr = [(3, Pt b1 0), (5, Pt b47 0), (6, Pt b64 0), (11, Nv i149), (12, Iv s159)] ∧ I147.Le I157 ∧ St E w I157 ((Bx b1 (cs_law19_Act ({ p1 with S := { p1.S with Kind := 15 } }) (⟨w_p1.S⟩ : W_law19_Act)) 46) :: (Bx b47 (cs_qCatalog r46 w_r46) 29) :: (Bx b64 (cs_qCatalog r62 w_r62) 29) :: Os)) ⟨I147, rfl, lr, hS152⟩ ?_)))))))))))))))
 rintro s159 _ w161 ⟨I157, rfl, hl158, hS162⟩ x163 hr2 hext156
 refine yf (yd nL2 (ya 0 2 rfl (yb (W.cb hr2 (fun hc hr2 => ?_) (fun hc hr2 => ?_)))))
 refine yi (En.next (yf (W.block (yf (have hS164 := hS162.drew; yat nL27 27 (KR.cons (hS164.rd m0) (KR.cons (hS164.rd m1) (KR.cons (hS164.rd m2) (KR.nil hS164.im)))) ?_)))))
 generalize World.drew _ = w165 at *
 refine yv ((cs_qCatalog r62 w_r62)) (rd_c m2 (hS164.rd m2)) rfl (yc 1 1 [2] rfl (yg (rd_c m1 (hS164.rd m1)) rfl (ya 3 1 rfl ?_)))
 obtain ⟨x166, hr2, hb_x166, _, ⟨w_x166, rfl, h_x166⟩, hc_x166⟩ := sl_ix ((RSl.mono h_r46.Roles (((hl60.trans hl93).trans hl148).trans hl158))) hr2
 refine y3 62 2 hb_x166 rfl (yc 5 1 [0] rfl (yaf hc_x166 (rd_i hS164.im) rfl (yc 7 3 nL2 rfl (yg (rd_c m0 (hS164.rd m0)) rfl (bsk hr2 fun r172 hx_r167 hr2 => yab (grants_May_ok (h_r62.mono le) hS164 hx_r167) ?_)))))
 rintro _ w168 ⟨I169, rfl, hl170, hS171⟩
 refine ⟨_, rfl, (KR.cons (hS171.rd m0) (KR.cons (hS171.rd m1) (KR.cons (hS171.rd m2) (KR.nil (hS171.im.of_le hl170))))), ?_⟩
 refine ya 12 1 rfl (bsk hr2 fun j173 hr3 hr2 => WO.jw (l1 := [13, 14, 15, 16, 17, 18, 19, 20, 21, 22, 23, 24, 25, 26]) (J := (fun fr w => ∃ I175, fr = [(3, Pt b1 0), (5, Pt b47 0), (6, Pt b64 0), (11, Nv i149), (12, Iv s159), (153, .bool j173)] ∧ I169.Le I175 ∧ St E w I175 ((Bx b1 (cs_law19_Act ({ p1 with S := { p1.S with Kind := 15 } }) (⟨w_p1.S⟩ : W_law19_Act)) 46) :: (Bx b47 (cs_qCatalog r46 w_r46) 29) :: (Bx b64 (cs_qCatalog r62 w_r62) 29) :: Os))) ?_ ?_)
 refine WO.cb hr3 (fun hc hr3 => ?_) (fun hc hr3 => ?_)
 refine yl 139 hc (yv ((cs_qCatalog r46 w_r46)) (rd_c m1 (hS171.rd m1)) rfl (yc 14 1 [2] rfl (yg (rd_c m1 (hS171.rd m1)) rfl (ya 16 1 rfl ?_))))
 obtain ⟨x177, hr3, hb_x177, _, ⟨w_x177, rfl, h_x177⟩, hc_x177⟩ := sl_ix ((RSl.mono h_r46.Roles (((hl60.trans hl93).trans hl148).trans hl158))) hr3
 refine y3 62 2 hb_x177 rfl (yc 18 1 [0] rfl (yaf hc_x177 (rd_i (hS171.im.of_le hl170)) rfl (yc 20 3 nL2 rfl (yg (rd_c m0 (hS171.rd m0)) rfl (bsk hr3 fun r183 hx_r178 hr3 => yab (grants_May_ok (h_r46.mono le) hS171 hx_r178) ?_)))))
 rintro _ w179 ⟨I180, rfl, hl181, hS182⟩
 refine ⟨_, rfl, (KR.cons (hS182.rd m0) (KR.cons (hS182.rd m1) (KR.cons (hS182.rd m2) (KR.nil (hS182.im.of_le le))))), ?_⟩
 refine ya 25 1 rfl (yh 26 153 (.bool (!r183)) ?_)
 obtain rfl := sj hr3
 exact yw ⟨I180, rfl, hl181, hS182⟩
 refine yl 139 hc ?_
 iterate 13 refine yt ?_
 refine yh 26 153 (.bool false) ?_
 obtain rfl := sj hr3
 exact yw ⟨I169, rfl, lr, hS171⟩
 rintro _ w184 ⟨I175, rfl, hl176, hS185⟩
 refine yb (W.cb hr2 (fun hc hr2 => ?_) (fun hc hr2 => ?_))
 refine yd [0] (ya 0 1 rfl (yb (W.ret (yj (ye (yp ?_))))))
 obtain rfl := hext156 _ (sj hr2).symm
 refine yj (yj (ye (yp ?_)))
 obtain rfl := hext146 _ (sj hr1).symm
 refine yj (ye ?_)
 obtain rfl := sj hr
 exact yu ⟨I175, rfl, le, hS185.drop.drop.drop⟩
 exact yi (yk (En.next (yaa nL3 (ya 0 3 rfl (WO.nil (yq ⟨(w64 (s159 + 1)), (sj hr2).symm, I175, rfl, le, hS185⟩))))))
 refine yz (ym (yn ?_))
 obtain rfl := hext156 _ (sj hr2).symm
 exact yo (yk (En.next (yaa nL3 (ya 0 1 rfl (yae i149 rfl (ya 2 1 rfl (WO.nil (yq ⟨(), (sj hr1).symm, I157, rfl, le, hS162⟩))))))))
 rintro _ _ w200 ⟨I147, rfl, hl148, hS201⟩ he
 cases he
 refine yf (yd nL5 (yc 0 2 [2] rfl (yg (hS201.rf m1) rfl (ya 3 2 rfl (yb (yai fun _ => yz (ym (yn (yo (En.next (yd nL2 (bsk hr fun r207 hx_r202 hr => WO.c1 (law19_works_ok  hS201 hx_r202) rfl fun I204 w203 hl205 hS206 => ya 1 1 rfl (yb (W.ret ?_))))))))))))))
 obtain rfl := sj hr
 exact yu ⟨I204, rfl, le, hS206.drop.drop.drop⟩
noncomputable def r19_May (p0 : qCatalog) (p1 : ByteArray) (p2 : Int) (p3 : ByteArray) : Option Bool := (r19_Owns p0 p1 p3).bind (fun r12 => ((bif r12 then some true else (r19_Held p0).bind (fun r22 => (r19_has p0 r22 p1 p2 p3 false).bind (fun r28 => some r28)))).bind (fun (j13 : Bool) => some j13))
theorem r19_May_ok {p0 : qCatalog} {p1 : ByteArray} {p2 : Int} {p3 : ByteArray} {w_p0 : W_qCatalog} (h_p0 : ok_qCatalog I p0 w_p0) (hS : St E w I Os) {r : Bool} (hr : r19_May p0 p1 p2 p3 = some r) :
    Calls P 24 #[(.agg (cs_qCatalog p0 w_p0).toArray), (.string p1), (Iv p2), (.string p3)] w (fun e w' => ∃ I', e = .returned (.bool r) ∧ I.Le I' ∧ St E w' I' Os) := by
 refine calls_W (fn := Tryz.f24) rfl rfl rfl ?_
 unfold r19_May at hr
 refine yd nL2 (yy hS (cs_qCatalog p0 w_p0) 29 rfl fun b1 w4 hS3 => ya 1 1 rfl (yb (yf (have hS5 := hS3.drew; yat nL14 13 (KR.cons (hS5.rd m0) (KR.nil hS5.im)) ?_))))
 generalize World.drew _ = w6 at *
 refine yv ((cs_qCatalog p0 w_p0)) (rd_c m0 (hS5.rd m0)) rfl (ya 1 2 rfl (bsk hr fun r12 hx_r7 hr => yab (r19_Owns_ok h_p0 hS5 hx_r7) ?_))
 rintro _ w8 ⟨I9, rfl, hl10, hS11⟩
 refine ⟨_, rfl, (KR.cons (hS11.rd m0) (KR.nil (hS11.im.of_le hl10))), ?_⟩
 refine ya 4 1 rfl (bsk hr fun j13 hr1 hr => WO.jw (l1 := [5, 6, 7, 8, 9, 10, 11, 12]) (J := (fun fr w => ∃ I15, fr = [(21, .bool j13)] ∧ I9.Le I15 ∧ St E w I15 ((Bx b1 (cs_qCatalog p0 w_p0) 29) :: Os))) ?_ ?_)
 refine WO.cb hr1 (fun hc hr1 => ?_) (fun hc hr1 => ?_)
 refine yl 13 hc ?_
 iterate 7 refine yt ?_
 refine yh 12 21 (.bool true) ?_
 obtain rfl := sj hr1
 exact yw ⟨I9, rfl, lr, hS11⟩
 refine yl 13 hc (yv ((cs_qCatalog p0 w_p0)) (rd_c m0 (hS11.rd m0)) rfl (yv ((cs_qCatalog p0 w_p0)) (rd_c m0 (hS11.rd m0)) rfl (bsk hr1 fun r22 hx_r17 hr1 => yab (r19_Held_ok (h_p0.mono hl10) hS11 hx_r17) ?_)))
 rintro _ w18 ⟨I19, a_r22, c_r22, rfl, hl20, hS21, h_r22⟩
 refine ⟨_, rfl, (KR.cons (hS21.rd m0) (KR.nil (hS21.im.of_le le))), ?_⟩
 refine ya 8 3 rfl (bsk hr1 fun r28 hx_r23 hr1 => yab (r19_has_ok (h_p0.mono le) h_r22 hS21 hx_r23) ?_)
 rintro _ w24 ⟨I25, rfl, hl26, hS27⟩
 refine ⟨_, rfl, (KR.cons (hS27.rd m0) (KR.nil (hS27.im.of_le le))), ?_⟩
 refine yh 12 21 (.bool r28) ?_
 obtain rfl := sj hr1
 exact yw ⟨I25, rfl, le, hS27⟩
 rintro _ w29 ⟨I15, rfl, hl16, hS30⟩
 refine WO.tail rfl (ya 13 1 rfl (yb (W.ret ?_)))
 obtain rfl := sj hr
 exact yu ⟨I15, rfl, le, hS30.drop⟩
end Go.Proofs.YtdmapcjbbbifbaaGreat
