/- What functions of the program come to, each by a plain one. Conditions: none. -/
import Derived.Test.YtpgmbifboopfmaaGreatF3
import Derived.Test.YtpgmbifboopfmaaGreatProg
set_option maxRecDepth 100000
namespace Go.Proofs.YtpgmbifboopfmaaGreat
open Go.Gv
set_option maxHeartbeats 1000000
variable {E w : World} {I : Mem} {Os : List Mem}
noncomputable def r17_Sound (p0 : qC) (p1 : qT) : Option Int := (r14_Check p1).bind (fun r14 => (bif (r14 != 0) then some r14 else (forN (fun (i20 : Nat) (_s : Unit) => (idx p1.Cons (i20 : Int)).bind (fun x28 => ((bif (x28.Kind == 2) then (r15_Resolve p1 x28.Check).bind (fun (r44, r45) => ((bif (r45 == 0) then (r15_Cols p1).bind (fun r63 => (r15_Bool r44 r63 ([] : List Int)).bind (fun r69 => some r69)) else some r45)).bind (fun (j52 : Int) => some j52)) else some 0)).bind (fun (j35 : Int) => ((bif (x28.Kind == 3) then (r17_foreign p0 p1 x28).bind (fun r91 => some r91) else some j35)).bind (fun (j82 : Int) => (bif (j82 != 0) then some (.inr j82) else some (.inl ())))))) p1.Cons.length 0 ()).bind (fun (t : Unit ⊕ (Int)) => match t with | .inl _ => some 0 | .inr s99 => some s99)))
theorem r17_Sound_ok {p0 : qC} {p1 : qT} {w_p0 : W_qC} {w_p1 : W_qT} (h_p0 : ok_qC I p0 w_p0) (h_p1 : ok_qT I p1 w_p1) (hS : St E w I Os) {r : Int} (D : r17_Sound p0 p1 = some r) :
    Calls P 62 #[(vC p0 w_p0), (vT p1 w_p1)] w (RT E I Os (Iv r)) := by
 refine calls_W (fn := Tryz.f62) rfl rfl rfl ?_
 unfold r17_Sound at D
 refine yg nL3 (yab hS (cs_qC p0 w_p0) 29 z fun b1 w4 S3 => yab S3 (cs_qT p1 w_p1) 78 z fun b5 w8 S7 => ya 2 1 z (yac nL3 (y7 ((cs_qT p1 w_p1)) (S7.rf m0) z (bsk D fun r14 Xr9 D => WO.c1 (r14_Check_ok h_p1 S7 Xr9) z fun I11 w10 L12 S13 => ya 2 1 z (yb (W.seq (yg nL2 (ya 0 2 z (yb (y6 D (fun G D => ?_) (fun G D => ?_)))))))))))
 exact yg nL2 (ya 0 2 z (yb (yp (yh (sj D ▸ yw ⟨I11, rfl, L12, S13.d2⟩)))))
 refine W.skip (ye (W.seq (yg [0] (ya 0 1 z (yb (yn (bsk D fun t17 hloop21 D => have hlt26 := ((RSl.mono h_p1.Cons L12)).len_lt; W.wk (yap (m := p1.Cons.length) hloop21 (fun (i20 : Nat) (_s : Unit) => JI E I11 [(2, Pt b1 0), (3, Pt b5 0), (6, Nv i20)] (bC b1 p0 w_p0 :: (bT b5 p1 w_p1) :: Os)) ⟨I11, rfl, lr, S13.front1⟩ ?_ ?_))))))))
 rintro i20 _ _ w23 hi27 ⟨I18, rfl, L19, S24⟩ x25 R1 hext17
 refine W.seq (yg nL5 (yf 0 2 [4] z (yj (S24.rf m1) z (ya 3 2 z (yb (yat fun _ => W.skip (ye (W.seq (yn (yg nL7 (yf 0 1 [4] z (yj (S24.rf m1) z (ya 2 1 z ?_)))))))))))))
 obtain ⟨x28, R1, Hx28, _, ⟨w_x28, rfl, h_x28⟩, Zx28⟩ := sx I18 h_p1.Cons R1
 refine y0 137 12 Hx28 z (yaq ((cs_qK x28 w_x28)) Zx28 0 S24.rm z (yab S24 (cs_qK z_qK zw_qK) 137 z fun b29 w32 S31 => yaa S31 0 (cs_qK x28 w_x28) fun w34 S33 => yac [0] (ya 0 1 z (yb (W.seq (yg nL3 (yf 0 1 [1] z (yj (S33.rf m0) z (ya 2 1 z (yb (bsk R1 fun j35 R2 R1 => yay (J := JI E I18 [(2, Pt b1 0), (3, Pt b5 0), (6, Nv i20), (7, Pt b29 0), (8, Iv j35)] (bC b1 p0 w_p0 :: (bT b5 p1 w_p1) :: (bK b29 x28 w_x28) :: Os)) ?_ ?_)))))))))))
 refine y6 R2 (fun G R2 => ?_) (fun G R2 => ?_)
 refine yg nL10 (y7 ((cs_qT p1 w_p1)) (S33.rf m2) z (yf 1 1 [3] z (y7 ((cs_qE x28.Check w_x28.Check)) (S33.rf m0) z ?_)))
 obtain ⟨⟨r44, r45⟩, Xr39, R2⟩ := bsm R2
 refine yae (r15_Resolve_ok (h_p1.mono le) h_x28.Check S33 Xr39) ?_
 rintro _ w40 ⟨I41, w_r44, rfl, L42, S43, h_r44⟩
 refine cv (ya 4 3 z (yab S43 (cs_qE z_qE zw_qE) 41 z fun b46 w49 S48 => yaa S48 0 (cs_qE r44 w_r44) fun w51 S50 => ya 9 1 z (yac nL2 (ya 0 2 z (yac nL2 (ya 0 2 z (yb (bsk R2 fun j52 R3 R2 => yay (J := JI E I41 [(2, Pt b1 0), (3, Pt b5 0), (6, Nv i20), (7, Pt b29 0), (8, Iv j52)] (bC b1 p0 w_p0 :: (bT b5 p1 w_p1) :: (bK b29 x28 w_x28) :: Os)) ?_ ?_))))))))
 refine y6 R3 (fun G R3 => ?_) (fun G R3 => ?_)
 have S56 := S50.drew
 refine ya1 nL5 3 (ym (S56.rd m0) (ym (S56.rd m3) (yx S56.im))) ?_
 generalize World.drew _ = w57 at *
 refine y7 ((cs_qE r44 w_r44)) (rd_c m0 (S56.rd m0)) z (y7 ((cs_qT p1 w_p1)) (rd_c m1 (S56.rd m3)) z (bsk R3 fun r63 Xr58 R3 => yae (r15_Cols_ok (h_p1.mono le) S56 Xr58) ?_))
 rintro _ w59 ⟨I60, a_r63, c_r63, rfl, L61, S62, h_r63⟩
 refine ⟨_, rfl, (ym (S62.rd m0) (ym (S62.rd m3) (yx (S62.im.of_le L61)))), ?_⟩
 exact WO.tail z (bsk R3 fun r69 Xr64 R3 => WO.c1 (r15_Bool_ok (h_r44.mono L61) h_r63 SlAt.nil S62 Xr64) z fun I66 w65 L67 S68 => ya 4 1 z (yt (sj R3 ▸ yv ⟨I66, rfl, le, S68.drop.front2.front2⟩)))
 exact W.skip (sj R3 ▸ yv ⟨I41, rfl, lr, S50.drop.front2.front2⟩)
 rintro _ w76 ⟨I54, rfl, L55, S77⟩
 exact sj R2 ▸ yv ⟨I54, rfl, le, S77⟩
 exact W.skip (sj R2 ▸ yv ⟨I18, rfl, lr, S33.front2.front2⟩)
 rintro _ w80 ⟨I37, rfl, L38, S81⟩
 refine ye (W.seq (yg nL3 (yf 0 1 [1] z (yj (S81.rf m2) z (ya 2 1 z (yb (bsk R1 fun j82 R2 R1 => yay (J := JI E I37 [(2, Pt b1 0), (3, Pt b5 0), (6, Nv i20), (8, Iv j82)] (bC b1 p0 w_p0 :: (bT b5 p1 w_p1) :: Os)) ?_ ?_)))))))
 refine y6 R2 (fun G R2 => ?_) (fun G R2 => ?_)
 exact yai nL5 (y7 ((cs_qC p0 w_p0)) (S81.rf m0) z (y7 ((cs_qT p1 w_p1)) (S81.rf m1) z (y7 ((cs_qK x28 w_x28)) (S81.rf m2) z (bsk R2 fun r91 Xr86 R2 => WO.c1 (r17_foreign_ok (h_p0.mono le) (h_p1.mono le) (h_x28.mono L38) S81 Xr86) z fun I88 w87 L89 S90 => ya 4 1 z (yt (sj R2 ▸ yv ⟨I88, rfl, L89, S90.front2.drop⟩))))))
 exact W.skip (sj R2 ▸ yv ⟨I37, rfl, lr, S81.front2.drop⟩)
 rintro _ w96 ⟨I84, rfl, L85, S97⟩
 refine ye (yg nL2 (ya 0 2 z (yb (y6 R1 (fun G R1 => ?_) (fun G R1 => ?_)))))
 refine yg nL2 (ya 0 2 z (yb (yp (yk (yh (yr ?_))))))
 obtain rfl := hext17 _ (sj R1).symm
 exact yk (yh (sj D ▸ yw ⟨I84, rfl, le, S97.d2⟩))
 exact W.skip (yl (ye (yai nL3 (ya 0 1 z (yao i20 z (ya 2 1 z (yt (yv ⟨(), (sj R1).symm, I84, rfl, le, S97⟩))))))))
 rintro _ _ w104 ⟨I18, rfl, L19, S105⟩ he
 cases he
 exact W.seq (yg nL5 (yf 0 2 [4] z (yj (S105.rf m1) z (ya 3 2 z (yb (yas fun _ => W.exit (yo (yq (yu (ye (yg [0] (ya 0 1 z (yb (yp (sj D ▸ yw ⟨I18, rfl, le, S105.d2⟩)))))))))))))))
noncomputable def r17_with (p0 : qC) (p1 : qT) : Option qC := (loopO (fun (s24 : Int) => ((bif (decide (s24 < (p0.Tables.length : Int))) then (idx p0.Tables s24).bind (fun x38 => some (sLt x38.Name p1.Name)) else some false)).bind (fun (j34 : Bool) => (bif j34 then some (.inl (w64 (s24 + 1))) else some (.inr s24)))) 0).bind (fun (s42 : Int) => (sub p0.Tables 0 s42).bind (fun x45 => (app 112 ([] : List qT) x45).bind (fun x48 => (app 112 x48 ([p1] : List qT)).bind (fun x66 => (sub p0.Tables s42 (p0.Tables.length : Int)).bind (fun x80 => (app 112 x66 x80).bind (fun x82 => some { p0 with Tables := x82 }))))))
theorem r17_with_ok {p0 : qC} {p1 : qT} {w_p0 : W_qC} {w_p1 : W_qT} (h_p0 : ok_qC I p0 w_p0) (h_p1 : ok_qT I p1 w_p1) (hS : St E w I Os) {r : qC} (D : r17_with p0 p1 = some r) :
    Calls P 63 #[(vC p0 w_p0), (vT p1 w_p1)] w (fun e w' => ∃ I' w_rw0, e = .returned (vC r w_rw0) ∧ I.Le I' ∧ St E w' I' Os ∧ ok_qC I' r w_rw0) := by
 refine calls_W (fn := Tryz.f63) rfl rfl rfl ?_
 unfold r17_with at D
 refine yg nL3 (yab hS (cs_qC p0 w_p0) 29 z fun b1 w4 S3 => yab S3 (cs_qT p1 w_p1) 78 z fun b5 w8 S7 => yab S7 (cs_qC z_qC zw_qC) 29 z fun b9 w12 S11 => yac nL3 (y7 ((cs_qC p0 w_p0)) (S11.rf m2) z (yab S11 (cs_qC z_qC zw_qC) 29 z fun b13 w16 S15 => yaa S15 0 (cs_qC p0 w_p0) fun w18 S17 => yac nL2 (yf 0 1 [1] z (yaa S17 1 (cs_qC ({ p0 with Tables := ([] : List qT) }) ({ w_p0 with Tables := ⟨none, 0⟩ })) fun w20 S19 => yac [0] (ya 0 1 z (yb (W.seq (yn (bsk D fun t21 hloop25 D => W.wk (ya7 hloop25 (fun (s24 : Int) => JI E I [(2, Pt b1 0), (3, Pt b5 0), (4, Pt b9 0), (5, Pt b13 0), (6, Iv s24)] (bC b1 p0 w_p0 :: (bT b5 p1 w_p1) :: (bC b9 z_qC zw_qC) :: (Bx b13 (cs_qC ({ p0 with Tables := ([] : List qT) }) ({ w_p0 with Tables := ⟨none, 0⟩ })) 29) :: Os)) ⟨I, rfl, lr, S19.front1.front2.front3⟩ ?_)))))))))))
 rintro s24 _ w29 ⟨I22, rfl, L23, S30⟩ x31 R1 hext21
 refine W.seq (W.seq (have S32 := S30.drew; ya1 nL16 16 (ym (S32.rd m0) (ym (S32.rd m1) (yx S32.im))) ?_))
 generalize World.drew _ = w33 at *
 refine yf 0 2 [1] z (yj (rd_c m0 (S32.rd m0)) z (ya 3 3 z (bsk R1 fun j34 R2 R1 => yam (l1 := [6, 7, 8, 9, 10, 11, 12, 13, 14, 15]) (J := JI E I22 [(2, Pt b1 0), (3, Pt b5 0), (4, Pt b9 0), (5, Pt b13 0), (6, Iv s24), (24, .bool j34)] (bC b1 p0 w_p0 :: (bT b5 p1 w_p1) :: (bC b9 z_qC zw_qC) :: (Bx b13 (cs_qC ({ p0 with Tables := ([] : List qT) }) ({ w_p0 with Tables := ⟨none, 0⟩ })) 29) :: Os)) ?_ ?_)))
 refine yal R2 (fun G R2 => ?_) (fun G R2 => ?_)
 refine yz 14 G (yf 6 1 [1] z (yj (rd_c m0 (S32.rd m0)) z (ya 8 1 z ?_)))
 obtain ⟨x38, R2, Hx38, _, ⟨w_x38, rfl, h_x38⟩, Zx38⟩ := sx I22 h_p0.Tables R2
 exact y0 78 6 Hx38 z (yf 10 1 [0] z (yan Zx38 (rd_i S32.im) z (yf 12 1 [0] z (yj (rd_c m1 (S32.rd m1)) z (yaf 14 23 (.bool (sLt x38.Name p1.Name)) (ya 15 1 z (sj R2 ▸ yy ⟨I22, rfl, lr, S32⟩)))))))
 refine yz 14 G ?_
 iterate 9 refine WO.ps ?_
 exact ya 15 1 z (sj R2 ▸ yy ⟨I22, rfl, lr, S32⟩)
 rintro _ w39 ⟨I36, rfl, L37, S40⟩
 refine yb (y6 R1 (fun G R1 => ?_) (fun G R1 => ?_))
 exact W.skip (ye (yn (yai nL3 (ya 0 3 z (yt (yl (yv ⟨(w64 (s24 + 1)), (sj R1).symm, I36, rfl, le, S40⟩)))))))
 refine W.exit (yo (yq ?_))
 obtain rfl := hext21 _ (sj R1).symm
 refine yu (ye (W.seq (have S105 := S40.drew; ya1 nL9 6 (ym (S105.rd m0) (ym (S105.rd m3) (yx S105.im))) ?_)))
 generalize World.drew _ = w106 at *
 refine yf 0 1 [1] z (yj (rd_c m1 (S105.rd m3)) z (yf 2 1 [1] z (yj (rd_c m0 (S105.rd m0)) z (ya 4 1 z ?_))))
 obtain ⟨x107, Xx107, D⟩ := bsm D
 obtain ⟨h0_x107, h1_x107, h2_x107, he_x107⟩ := sub_some Xx107
 have hl_x107 : (s24 : Int) ≤ (w_p0.Tables.c : Int) := Int.le_trans h2_x107 (Int.ofNat_le.2 ((RSl.mono h_p0.Tables (L23.trans L37))).le)
 refine ya3 (e := 78) (sz := 6) z kr kr kr z (0 : Int) (s24 : Int) h0_x107 (.inl ⟨rfl, rfl⟩) (.inr ⟨_, _, rfl, rfl⟩) h1_x107 hl_x107 ?_
 obtain ⟨a_x107, c_x107, h_x107, ev_x107⟩ := sub_ok ((RSl.mono h_p0.Tables (L23.trans L37))) h0_x107 h1_x107 h2_x107 he_x107
 refine y8 32 z ev_x107 ?_
 refine WO.tail z (have S109 := S105.no; apk D fun x110 h0_x110 he_x110 D => ya6 (e' := 78) (b := 112) (zs := (cs_qT z_qT zw_qT).toArray) S109 (OwnSl.nil (T := 78) (rel := R_qT) (I := I36)) z kr z kr kr kr z z z z h_x107 S109.im h0_x110 he_x110 tv ?_)
 intro a111 c112 w113 C114 S115 ho116
 refine yf 7 1 [1] z (yaa S115.front4 1 (cs_qC ({ p0 with Tables := x110 }) ({ w_p0 with Tables := ⟨a111, c112⟩ })) fun w119 S118 => yac nL7 (yf 0 1 [1] z (yj (S118.rf m0) z (y7 ((cs_qT p1 w_p1)) (S118.rf m3) z (yad (rel := R_qT) (xs := ([p1] : List qT)) S118 z kr z 78 6 [(cs_qT p1 w_p1)] kr z ((Elr.cons ⟨w_p1, rfl, (h_p1.mono le)⟩ Elr.nil)) tv ?_)))))
 intro a123 C121 w125 S124 ho122
 have S127 := S124.front2
 refine apk D fun x128 h0_x128 he_x128 D => yau 78 112 (cs_qT z_qT zw_qT) S127 ho116 ho122.sl (S127.rd m1) h0_x128 he_x128 z fun a129 c130 w131 C132 S133 ho134 => yf 5 1 [1] z (yaa S133.front1.drop.front1 1 (cs_qC ({ p0 with Tables := x128 }) ({ w_p0 with Tables := ⟨a129, c130⟩ })) fun w139 S138 => yb (W.seq (have S140 := S138.drew; ya1 nL9 6 (ym (S140.rd m0) (ym (S140.rd m2) (yx S140.im))) ?_)))
 generalize World.drew _ = w141 at *
 refine yf 0 1 [1] z (yj (rd_c m0 (S140.rd m0)) z (yf 2 1 [1] z (yj (rd_c m1 (S140.rd m2)) z (ya 4 1 z ?_))))
 obtain ⟨x142, Xx142, D⟩ := bsm D
 obtain ⟨h0_x142, h1_x142, h2_x142, he_x142⟩ := sub_some Xx142
 have hl_x142 : ((p0.Tables.length : Int) : Int) ≤ (w_p0.Tables.c : Int) := Int.le_trans h2_x142 (Int.ofNat_le.2 ((RSl.mono h_p0.Tables (L23.trans L37))).le)
 refine ya3 (e := 78) (sz := 6) z kr kr kr z (s24 : Int) ((p0.Tables.length : Int) : Int) h0_x142 (.inr ⟨_, _, rfl, rfl⟩) (.inl ⟨rfl, rfl⟩) h1_x142 hl_x142 ?_
 obtain ⟨a_x142, c_x142, h_x142, ev_x142⟩ := sub_ok ((RSl.mono h_p0.Tables (L23.trans L37))) h0_x142 h1_x142 h2_x142 he_x142
 refine y8 46 z ev_x142 ?_
 refine WO.tail z (have S143 := S140.front1; apk D fun x144 h0_x144 he_x144 D => yau 78 112 (cs_qT z_qT zw_qT) S143 ho134 h_x142 S143.im h0_x144 he_x144 z fun a145 c146 w147 C148 S149 ho150 => yf 7 1 [1] z (yaa S149.front1 1 (cs_qC ({ p0 with Tables := x144 }) ({ w_p0 with Tables := ⟨a145, c146⟩ })) fun w153 S152 => yac nL2 (y7 ((cs_qC ({ p0 with Tables := x144 }) ({ w_p0 with Tables := ⟨a145, c146⟩ }))) (S152.rf m0) z ?_)))
 obtain ⟨I155, L156, S158, hp157⟩ := yag ho150 S152.front1
 refine yaa S158.front3 0 (cs_qC ({ p0 with Tables := x144 }) ({ w_p0 with Tables := ⟨a145, c146⟩ })) fun w161 S160 => yb (yp ?_)
 have hk166 : ok_qC I155 ({ p0 with Tables := x144 }) ({ w_p0 with Tables := ⟨a145, c146⟩ }) := ⟨hp157, (RSl.mono h_p0.Roles ((L23.trans L37).trans L156)), (RSl.mono h_p0.Grants ((L23.trans L37).trans L156))⟩
 exact sj D ▸ En.c1 _ (S160.rd m0) ⟨I155, ({ w_p0 with Tables := ⟨a145, c146⟩ }), rfl, le, S160.d4, hk166⟩
noncomputable def r17_Make (p0 : qC) (p1 : qS) (p2 : By8) (p3 : Int) : Option (qC × Int) := (bif ((decide (p1.Kind < 1)) || (decide (p1.Kind > 9))) then some (z_qC, 2) else (r17_At p0 p1.Table).bind (fun r25 => (bif ((p1.Kind == 1) && (decide (r25 ≥ 0))) then some (z_qC, 19) else (bif ((p1.Kind == 1) && (decide ((p0.Tables.length : Int) ≥ 8))) then some (z_qC, 5) else (bif ((p1.Kind != 1) && (decide (r25 < 0))) then some (z_qC, 4) else (r17_without p0 p1.Table).bind (fun r52 => ((bif (p1.Kind == 1) then some (.inl ((0 : Int), z_qC, r52.Version, r52.Tables, r52.Roles, r52.Grants, { z_qT with Name := p1.Table, Owner := p2, Cols := p1.Cols, Cons := p1.Cons })) else ((bif (p1.Kind == 2) then (r17_refers_nilsl p0 p1.Table p1.Table eB).bind (fun r90 => (bif r90 then some (.inl (34, z_qC, z_qT)) else (forE (fun (i124 : Nat) (s123 : List qG) => (idx p0.Grants (i124 : Int)).bind (fun x140 => ((bif (!sEq x140.Table p1.Table) then (idx p0.Grants (i124 : Int)).bind (fun x147 => (app 64 s123 ([x147] : List qG)).bind (fun x156 => some x156)) else some s123)).bind (fun (j141 : List qG) => some j141))) p0.Grants.length 0 ([] : List qG)).bind (fun s123 => some (.inr ((0 : Int), z_qC, r52.Version, r52.Tables, r52.Roles, s123, z_qT))))) else ((bif (p1.Kind == 5) then (r17_At p0 p1.Name).bind (fun r199 => (bif (decide (r199 ≥ 0)) then some (.inl (19, z_qC, z_qT)) else (idx p0.Tables r25).bind (fun x219 => (r17_renamed p0 x219 p1.Name).bind (fun (r225, r226) => some (.inr ((0 : Int), z_qC, r225.Version, r225.Tables, r225.Roles, r225.Grants, r226)))))) else (idx p0.Tables r25).bind (fun x246 => (r17_turned p0 x246 p1).bind (fun (r252, r253) => some (.inr (r253, z_qC, r52.Version, r52.Tables, r52.Roles, r52.Grants, r252)))))).bind (fun (t : (Int × qC × qT) ⊕ (Int × qC × Int × (List qT) × (List qJ) × (List qG) × qT)) => match t with | (.inl (s204, s205, s206)) => some (.inl (s204, s205, s206)) | (.inr (s233, s234, s235, s236, s237, s238, s239)) => some (.inr (s233, s234, s235, s236, s237, s238, s239))))).bind (fun (t : (Int × qC × qT) ⊕ (Int × qC × Int × (List qT) × (List qJ) × (List qG) × qT)) => match t with | (.inl (s95, s96, s97)) => some (.inr (s95, s96, s97)) | (.inr (s178, s179, s180, s181, s182, s183, s184)) => some (.inl (s178, s179, s180, s181, s182, s183, s184))))).bind (fun (t : (Int × qC × Int × (List qT) × (List qJ) × (List qG) × qT) ⊕ (Int × qC × qT)) => match t with | (.inl (s69, s70, s71, s72, s73, s74, s75)) => ((bif ((s69 == 0) && (p1.Kind != 2)) then (r17_Sound (⟨s71, s72, s73, s74⟩ : qC) s75).bind (fun r278 => some r278) else some s69)).bind (fun (j268 : Int) => ((bif ((j268 == 0) && (decide (p0.Version ≥ p3))) then some 52 else some j268)).bind (fun (j283 : Int) => (bif (j283 != 0) then some (z_qC, j283) else ((bif (p1.Kind != 2) then (r17_with (⟨s71, s72, s73, s74⟩ : qC) ({ s75 with Version := (w64 (p0.Version + 1)) })).bind (fun r311 => some (r311.Version, r311.Tables, r311.Roles, r311.Grants, { s75 with Version := (w64 (p0.Version + 1)) })) else some (s71, s72, s73, s74, s75))).bind (fun ((s315, s316, s317, s318, s319) : Int × (List qT) × (List qJ) × (List qG) × qT) => some ((⟨(w64 (p0.Version + 1)), s316, s317, s318⟩ : qC), 0))))) | (.inr (s99, s100, s101)) => some (s100, s99))))))))
theorem r17_Make_ok {p0 : qC} {p1 : qS} {p2 : By8} {p3 : Int} {w_p0 : W_qC} {w_p1 : W_qS} (h_p0 : ok_qC I p0 w_p0) (h_p1 : ok_qS I p1 w_p1) (hS : St E w I Os) {r : qC × Int} (D : r17_Make p0 p1 p2 p3 = some r) :
    Calls P 32 #[(vC p0 w_p0), (vS p1 w_p1), (.string p2), (Iv p3)] w (fun e w' => ∃ I' w_rw0, e = .returned (.tuple #[(vC r.1 w_rw0), (Iv r.2)]) ∧ I.Le I' ∧ St E w' I' Os ∧ ok_qC I' r.1 w_rw0) := by
 refine calls_W (fn := Tryz.f32) rfl rfl rfl ?_
 unfold r17_Make at D
 refine yg nL4 (yab hS (cs_qC p0 w_p0) 29 z fun b1 w4 S3 => yab S3 (cs_qS p1 w_p1) 46 z fun b5 w8 S7 => yab S7 (cs_qC z_qC zw_qC) 29 z fun b9 w12 S11 => ya 3 1 z (yb (W.seq (yg nL8 (yf 0 1 [0] z (yj (S11.rf m1) z (ya 2 2 z (yav [4, 5, 6] 7 18 22 (.refl ((decide (p1.Kind < 1)) || (decide (p1.Kind > 9)))) (fun _ => yf 4 1 [0] z (yj (S11.rf m1) z (ya 6 2 z yak))) (yb (y6 D (fun G D => ?_) (fun G D => ?_)))))))))))
 exact yg nL3 (yaf 0 23 (vC z_qC zw_qC) (yaa S11 0 (cs_qC z_qC zw_qC) fun w16 S15 => ya 2 1 z (yb (yp (yh (sj D ▸ ya5 _ (S15.rd m0) ⟨I, zw_qC, rfl, lr, S15.d3, zok_qC⟩))))))
 refine W.skip (ye (yg nL5 (y7 ((cs_qC p0 w_p0)) (S11.rf m2) z (yf 1 1 [1] z (yj (S11.rf m1) z (bsk D fun r25 Xr20 D => WO.c1 (r17_At_ok h_p0 S11 Xr20) z fun I22 w21 L23 S24 => ya 4 1 z (yb (W.seq (yg nL7 (yf 0 1 [0] z (yj (S24.rf m1) z (ya 2 2 z (yaw [4, 5] 6 31 34 (.refl ((p1.Kind == 1) && (decide (r25 ≥ 0)))) (fun _ => ya 4 3 z yak) (yb (y6 D (fun G D => ?_) (fun G D => ?_))))))))))))))))
 exact yg nL3 (yaf 0 35 (vC z_qC zw_qC) (yaa S24 0 (cs_qC z_qC zw_qC) fun w29 S28 => ya 2 1 z (yb (yp (yh (sj D ▸ ya5 _ (S28.rd m0) ⟨I22, zw_qC, rfl, L23, S28.d3, zok_qC⟩))))))
 refine W.skip (ye (W.seq (yg nL9 (yf 0 1 [0] z (yj (S24.rf m1) z (ya 2 2 z (yaw [4, 5, 6, 7] 8 39 44 (.refl ((p1.Kind == 1) && (decide ((p0.Tables.length : Int) ≥ 8)))) (fun _ => yf 4 1 [1] z (yj (S24.rf m2) z (ya 6 3 z yak))) (yb (y6 D (fun G D => ?_) (fun G D => ?_))))))))))
 exact yg nL3 (yaf 0 45 (vC z_qC zw_qC) (yaa S24 0 (cs_qC z_qC zw_qC) fun w36 S35 => ya 2 1 z (yb (yp (yh (sj D ▸ ya5 _ (S35.rd m0) ⟨I22, zw_qC, rfl, L23, S35.d3, zok_qC⟩))))))
 refine W.skip (ye (W.seq (yg nL7 (yf 0 1 [0] z (yj (S24.rf m1) z (ya 2 2 z (yaw [4, 5] 6 49 52 (.refl ((p1.Kind != 1) && (decide (r25 < 0)))) (fun _ => ya 4 3 z yak) (yb (y6 D (fun G D => ?_) (fun G D => ?_))))))))))
 exact yg nL3 (yaf 0 53 (vC z_qC zw_qC) (yaa S24 0 (cs_qC z_qC zw_qC) fun w43 S42 => ya 2 1 z (yb (yp (yh (sj D ▸ ya5 _ (S42.rd m0) ⟨I22, zw_qC, rfl, L23, S42.d3, zok_qC⟩))))))
 refine W.skip (ye (yg nL6 (y7 ((cs_qC p0 w_p0)) (S24.rf m2) z (yf 1 1 [1] z (yj (S24.rf m1) z (bsk D fun r52 Xr47 D => yae (r17_without_ok (h_p0.mono L23) S24 Xr47) ?_))))))
 rintro _ w48 ⟨I49, w_r52, rfl, L50, S51, h_r52⟩
 refine cv (yab S51 (cs_qC z_qC zw_qC) 29 z fun b53 w56 S55 => yaa S55 0 (cs_qC r52 w_r52) fun w58 S57 => yac [0] (yab S57 (cs_qT z_qT zw_qT) 78 z fun b59 w62 S61 => yac [0] (ya 0 1 z (yb (W.seq (yg nL2 (yf 0 1 [0] z (yj (S61.rf m3) z (yb (yn (yg nL2 (ya 0 2 z (yb (bsk D fun j63 R1 D => yay (J := (fun fr w => ∃ (s69 : Int) (s70 : qC) (s71 : Int) (s72 : List qT) (s73 : List qJ) (s74 : List qG) (s75 : qT), ∃ I65 w_s70 a_s72 c_s72 a_s73 c_s73 a_s74 c_s74 w_s75, (.inl (s69, s70, s71, s72, s73, s74, s75)) = j63 ∧ fr = [(3, Iv p3), (4, Pt b1 0), (5, Pt b5 0), (8, Pt b9 0), (11, Pt b53 0), (12, Pt b59 0), (13, Iv s69)] ∧ I49.Le I65 ∧ St E w I65 (bC b1 p0 w_p0 :: (bS b5 p1 w_p1) :: (bC b9 s70 w_s70) :: (Bx b53 (cs_qC (⟨s71, s72, s73, s74⟩ : qC) (⟨⟨a_s72, c_s72⟩, ⟨a_s73, c_s73⟩, ⟨a_s74, c_s74⟩⟩ : W_qC)) 29) :: (bT b59 s75 w_s75) :: Os) ∧ ok_qC I65 s70 w_s70 ∧ RSl 6 R_qT I65 a_s72 c_s72 s72 ∧ RSl 2 R_qJ I65 a_s73 c_s73 s73 ∧ RSl 5 R_qG I65 a_s74 c_s74 s74 ∧ ok_qT I65 s75 w_s75)) ?_ ?_))))))))))))))
 refine y6 R1 (fun G R1 => ?_) (fun G R1 => ?_)
 refine yai nL9 (yf 0 1 [1] z (yj (S61.rf m3) z (yf 2 2 [4] z (yj (S61.rf m3) z (yf 5 1 [5] z (yj (S61.rf m3) z (yaf 7 80 (.agg (cs_qT ({ z_qT with Name := p1.Table, Owner := p2, Cols := p1.Cols, Cons := p1.Cons }) ({ zw_qT with Cols := ⟨w_p1.Cols.a, w_p1.Cols.c⟩, Cons := ⟨w_p1.Cons.a, w_p1.Cons.c⟩ })).toArray) (yaa S61 0 (cs_qT ({ z_qT with Name := p1.Table, Owner := p2, Cols := p1.Cols, Cons := p1.Cons }) ({ zw_qT with Cols := ⟨w_p1.Cols.a, w_p1.Cols.c⟩, Cons := ⟨w_p1.Cons.a, w_p1.Cons.c⟩ })) fun w68 S67 => yt ?_))))))))
 have hk76 : ok_qT I49 ({ z_qT with Name := p1.Table, Owner := p2, Cols := p1.Cols, Cons := p1.Cons }) ({ zw_qT with Cols := ⟨w_p1.Cols.a, w_p1.Cols.c⟩, Cons := ⟨w_p1.Cons.a, w_p1.Cons.c⟩ }) := ⟨(RSl.mono h_p1.Cols (L23.trans L50)), (RSl.mono h_p1.Cons (L23.trans L50)), SlAt.nil⟩
 exact yv ⟨0, z_qC, r52.Version, r52.Tables, r52.Roles, r52.Grants, { z_qT with Name := p1.Table, Owner := p2, Cols := p1.Cols, Cons := p1.Cons }, I49, zw_qC, w_r52.Tables.a, w_r52.Tables.c, w_r52.Roles.a, w_r52.Roles.c, w_r52.Grants.a, w_r52.Grants.c, ({ zw_qT with Cols := ⟨w_p1.Cols.a, w_p1.Cols.c⟩, Cons := ⟨w_p1.Cons.a, w_p1.Cons.c⟩ }), sj R1, rfl, lr, S67.front1.front2.front3.front4, zok_qC, h_r52.Tables, h_r52.Roles, h_r52.Grants, hk76⟩
 refine yg nL2 (ya 0 2 z (yb (bsk R1 fun j81 R2 R1 => yay (J := (fun fr w => ∃ (s178 : Int) (s179 : qC) (s180 : Int) (s181 : List qT) (s182 : List qJ) (s183 : List qG) (s184 : qT), ∃ I83 w_s179 a_s181 c_s181 a_s182 c_s182 a_s183 c_s183 w_s184, (.inr (s178, s179, s180, s181, s182, s183, s184)) = j81 ∧ fr = [(3, Iv p3), (4, Pt b1 0), (5, Pt b5 0), (8, Pt b9 0), (11, Pt b53 0), (12, Pt b59 0), (13, Iv s178)] ∧ I49.Le I83 ∧ St E w I83 (bC b1 p0 w_p0 :: (bS b5 p1 w_p1) :: (bC b9 s179 w_s179) :: (Bx b53 (cs_qC (⟨s180, s181, s182, s183⟩ : qC) (⟨⟨a_s181, c_s181⟩, ⟨a_s182, c_s182⟩, ⟨a_s183, c_s183⟩⟩ : W_qC)) 29) :: (bT b59 s184 w_s184) :: Os) ∧ ok_qC I83 s179 w_s179 ∧ RSl 6 R_qT I83 a_s181 c_s181 s181 ∧ RSl 2 R_qJ I83 a_s182 c_s182 s182 ∧ RSl 5 R_qG I83 a_s183 c_s183 s183 ∧ ok_qT I83 s184 w_s184)) ?_ ?_)))
 refine y6 R2 (fun G R2 => ?_) (fun G R2 => ?_)
 refine W.seq (yg nL6 (y7 ((cs_qC p0 w_p0)) (S61.rf m4) z (yf 1 1 [1] z (yj (S61.rf m3) z (yf 3 1 [1] z (yj (S61.rf m3) z (bsk R2 fun r90 Xr85 R2 => WO.c1 (r17_refers_nilsl_ok (h_p0.mono le) S61 Xr85) z fun I87 w86 L88 S89 => yb (y6 R2 (fun G R2 => ?_) (fun G R2 => ?_)))))))))
 refine yg nL3 (yaf 0 89 (vC z_qC zw_qC) (yaa S89.front2 0 (cs_qC z_qC zw_qC) fun w93 S92 => ya 2 1 z (yb (yp (yh (yr ?_))))))
 obtain rfl := sj R2
 refine yr ?_
 obtain rfl := sj R1
 exact yk (yh (sj D ▸ ya5 _ (S92.rd m0) ⟨I87, zw_qC, rfl, le, S92.d5, zok_qC⟩))
 refine W.skip (ye (yg nL2 (yf 0 1 [3] z (yaa S89.front1 3 (cs_qC ({ r52 with Grants := ([] : List qG) }) ({ w_r52 with Grants := ⟨none, 0⟩ })) fun w119 S118 => yac [0] (ya 0 1 z (yb (yn (bsk R2 fun s123 hloop125 R2 => have hlt136 := ((RSl.mono h_p0.Grants ((L23.trans L50).trans L88))).len_lt; W.wk (ya0 (m := p0.Grants.length) hloop125 (fun (i124 : Nat) (s123 : List qG) fr w => ∃ I121 a_s123 c_s123 C_s123, fr = [(3, Iv p3), (4, Pt b1 0), (5, Pt b5 0), (8, Pt b9 0), (11, Pt b53 0), (12, Pt b59 0), (13, Iv 0), (14, Nv i124)] ∧ I87.Le I121 ∧ St E w I121 (bC b1 p0 w_p0 :: (bS b5 p1 w_p1) :: (bC b9 z_qC zw_qC) :: (Bx b53 (cs_qC ({ r52 with Grants := s123 }) ({ w_r52 with Grants := ⟨a_s123, c_s123⟩ })) 29) :: (bT b59 z_qT zw_qT) :: (C_s123) :: Os) ∧ OwnSl 92 5 R_qG I121 C_s123 a_s123 c_s123 s123) ⟨I87, none, 0, Mem.no, rfl, lr, S118.no.front2.front2.front3.front4.front5, OwnSl.nil⟩ ?_ ?_)))))))))
 rintro i124 s123 _ w133 hi137 ⟨I121, a_s123, c_s123, C_s123, rfl, L122, S134, h_s123⟩ x135 R3
 refine W.seq (yg nL5 (yf 0 2 [3] z (yj (S134.rf m0) z (ya 3 2 z (yb (yat fun _ => W.skip (ye (W.seq (yn (W.seq (have S138 := S134.drew; ya1 nL9 8 (ym (S138.rd m0) (ym (S138.rd m1) (yx S138.im))) ?_)))))))))))
 generalize World.drew _ = w139 at *
 refine yf 0 1 [3] z (yj (rd_c m0 (S138.rd m0)) z (ya 2 1 z ?_))
 obtain ⟨x140, R3, Hx140, _, rfl, Zx140⟩ := sx I121 h_p0.Grants R3
 refine y0 92 5 Hx140 z (yf 4 1 [2] z (yar Zx140 2 (rd_i S138.im) z (yf 6 1 [1] z (yj (rd_c m1 (S138.rd m1)) z (WO.tail z (ya 8 1 z (yb (bsk R3 fun j141 R4 R3 => yay (J := (fun fr w => ∃ I143 a_j141 c_j141 C_j141, fr = [(3, Iv p3), (4, Pt b1 0), (5, Pt b5 0), (8, Pt b9 0), (11, Pt b53 0), (12, Pt b59 0), (13, Iv 0), (14, Nv i124)] ∧ I121.Le I143 ∧ St E w I143 (bC b1 p0 w_p0 :: (bS b5 p1 w_p1) :: (bC b9 z_qC zw_qC) :: (Bx b53 (cs_qC ({ r52 with Grants := j141 }) ({ w_r52 with Grants := ⟨a_j141, c_j141⟩ })) 29) :: (bT b59 z_qT zw_qT) :: (C_j141) :: Os) ∧ OwnSl 92 5 R_qG I143 C_j141 a_j141 c_j141 j141)) ?_ ?_))))))))
 refine y6 R4 (fun G R4 => ?_) (fun G R4 => ?_)
 have S145 := S138.drew
 refine ya1 nL11 8 (ym (S145.rd m0) (ym (S145.rd m3) (yx S145.im))) ?_
 generalize World.drew _ = w146 at *
 refine yf 0 1 [3] z (yj (rd_c m1 (S145.rd m3)) z (yf 2 1 [3] z (yj (rd_c m0 (S145.rd m0)) z (ya 4 1 z ?_))))
 obtain ⟨x147, R4, Hx147, _, rfl, Zx147⟩ := sx I121 h_p0.Grants R4
 refine y0 92 5 Hx147 z (yaq ((cs_qG x147)) Zx147 0 (rd_i S145.im) z (yad (rel := R_qG) (xs := ([x147] : List qG)) S145 z kr z 92 5 [(cs_qG x147)] kr z ((Elr.cons z Elr.nil)) (fun C149 w153 S152 => (ym (S152.rd m1) (ym (S152.rd m4) (yx S152.im)))) ?_))
 intro a151 C149 w153 S152 ho150
 exact WO.tail z (have S155 := S152.front6; apk R4 fun x156 h0_x156 he_x156 R4 => yau 92 64 (cs_qG z_qG) S155 h_s123 ho150.sl (S155.rd m1) h0_x156 he_x156 z fun a157 c158 w159 C160 S161 ho162 => yf 9 1 [3] z (yaa S161.front1.drop.front4 3 (cs_qC ({ r52 with Grants := x156 }) ({ w_r52 with Grants := ⟨a157, c158⟩ })) fun w167 S166 => yt (sj R4 ▸ yv ⟨I121, a157, c158, C160, rfl, lr, S166.front1.front5.front2.front5.front5.front5, ho162⟩)))
 exact W.skip (sj R4 ▸ yv ⟨I121, a_s123, c_s123, C_s123, rfl, lr, S138, h_s123⟩)
 rintro _ w174 ⟨I143, a_j141, c_j141, C_j141, rfl, L144, S175, h_j141⟩
 exact yl (ye (yai nL3 (ya 0 1 z (yao i124 z (ya 2 1 z (yt (sj R3 ▸ yv ⟨I143, a_j141, c_j141, C_j141, rfl, le, S175, h_j141⟩)))))))
 rintro _ w176 ⟨I121, a_s123, c_s123, C_s123, rfl, L122, S177, h_s123⟩
 refine W.seq (yg nL5 (yf 0 2 [3] z (yj (S177.rf m0) z (ya 3 2 z (yb (yas fun _ => W.exit (yo (yq (yu ?_)))))))))
 obtain ⟨I186, L187, S189, hp188⟩ := yag h_s123 S177.front5
 exact yv ⟨0, z_qC, r52.Version, r52.Tables, r52.Roles, s123, z_qT, I186, zw_qC, w_r52.Tables.a, w_r52.Tables.c, w_r52.Roles.a, w_r52.Roles.c, a_s123, c_s123, zw_qT, sj R2, rfl, le, S189, zok_qC, (up h_r52.Tables), (up h_r52.Roles), hp188, zok_qT⟩
 refine yg nL2 (ya 0 2 z (yb (bsk R2 fun j190 R3 R2 => yay (J := (fun fr w => ∃ (s233 : Int) (s234 : qC) (s235 : Int) (s236 : List qT) (s237 : List qJ) (s238 : List qG) (s239 : qT), ∃ I192 w_s234 a_s236 c_s236 a_s237 c_s237 a_s238 c_s238 w_s239, (.inr (s233, s234, s235, s236, s237, s238, s239)) = j190 ∧ fr = [(3, Iv p3), (4, Pt b1 0), (5, Pt b5 0), (8, Pt b9 0), (11, Pt b53 0), (12, Pt b59 0), (13, Iv s233)] ∧ I49.Le I192 ∧ St E w I192 (bC b1 p0 w_p0 :: (bS b5 p1 w_p1) :: (bC b9 s234 w_s234) :: (Bx b53 (cs_qC (⟨s235, s236, s237, s238⟩ : qC) (⟨⟨a_s236, c_s236⟩, ⟨a_s237, c_s237⟩, ⟨a_s238, c_s238⟩⟩ : W_qC)) 29) :: (bT b59 s239 w_s239) :: Os) ∧ ok_qC I192 s234 w_s234 ∧ RSl 6 R_qT I192 a_s236 c_s236 s236 ∧ RSl 2 R_qJ I192 a_s237 c_s237 s237 ∧ RSl 5 R_qG I192 a_s238 c_s238 s238 ∧ ok_qT I192 s239 w_s239)) ?_ ?_)))
 refine y6 R3 (fun G R3 => ?_) (fun G R3 => ?_)
 refine W.seq (yg nL5 (y7 ((cs_qC p0 w_p0)) (S61.rf m4) z (yf 1 1 [2] z (yj (S61.rf m3) z (bsk R3 fun r199 Xr194 R3 => WO.c1 (r17_At_ok (h_p0.mono le) S61 Xr194) z fun I196 w195 L197 S198 => ya 4 1 z (yb (y6 R3 (fun G R3 => ?_) (fun G R3 => ?_))))))))
 refine yg nL3 (yaf 0 124 (vC z_qC zw_qC) (yaa S198.front2 0 (cs_qC z_qC zw_qC) fun w202 S201 => ya 2 1 z (yb (yp (yh (yr ?_))))))
 obtain rfl := sj R3
 refine yr ?_
 obtain rfl := sj R2
 refine yr ?_
 obtain rfl := sj R1
 exact yk (yh (sj D ▸ ya5 _ (S201.rd m0) ⟨I196, zw_qC, rfl, le, S201.d5, zok_qC⟩))
 refine W.skip (ye (have S217 := S198.drew; ybl (l := nL14) kr 12 (KR I196 [bS b5 p1 w_p1, bC b1 p0 w_p0]) qR (.ords nL14 [0, 1, 2, 3, 4, 5, 6, 7, 8, 9, 10, 12, 11, 13] kr kr kr kr kr) kr (ym (S217.rd m3) (ym (S217.rd m4) (yx S217.im))) ?_))
 generalize World.drew _ = w218 at *
 refine y7 ((cs_qC p0 w_p0)) (rd_c m1 (S217.rd m4)) z (yf 1 1 [1] z (yj (rd_c m1 (S217.rd m4)) z (ya 3 1 z ?_)))
 obtain ⟨x219, R3, Hx219, _, ⟨w_x219, rfl, h_x219⟩, Zx219⟩ := sx I196 h_p0.Tables R3
 refine y0 78 6 Hx219 z (yaq ((cs_qT x219 w_x219)) Zx219 0 (rd_i S217.im) z (yf 6 1 [2] z (yj (rd_c m0 (S217.rd m3)) z ?_)))
 obtain ⟨⟨r225, r226⟩, Xr220, R3⟩ := bsm R3
 refine yae (r17_renamed_ok (h_p0.mono le) h_x219 S217 Xr220) ?_
 rintro _ w221 ⟨I222, w_r225, w_r226, rfl, L223, S224, h_r225, h_r226⟩
 refine ⟨_, rfl, (ym (S224.rd m3) (ym (S224.rd m4) (yx (S224.im.of_le L223)))), ?_⟩
 exact ya 9 3 z (WO.tail z (yaa S224.front1 0 (cs_qC r225 w_r225) fun w229 S228 => yaa S228.front1 0 (cs_qT r226 w_r226) fun w232 S231 => yt (yv ⟨0, z_qC, r225.Version, r225.Tables, r225.Roles, r225.Grants, r226, I222, zw_qC, w_r225.Tables.a, w_r225.Tables.c, w_r225.Roles.a, w_r225.Roles.c, w_r225.Grants.a, w_r225.Grants.c, w_r226, sj R3, rfl, le, S231.front1.front2.front3.front4, zok_qC, h_r225.Tables, h_r225.Roles, h_r225.Grants, h_r226⟩)))
 have S244 := S61.drew
 refine ybl (l := nL13) kr 11 (KR I49 [bS b5 p1 w_p1, bC b1 p0 w_p0]) qR (.ords nL13 [0, 1, 2, 3, 4, 5, 6, 7, 8, 9, 11, 10, 12] kr kr kr kr kr) kr (ym (S244.rd m3) (ym (S244.rd m4) (yx S244.im))) ?_
 generalize World.drew _ = w245 at *
 refine y7 ((cs_qC p0 w_p0)) (rd_c m1 (S244.rd m4)) z (yf 1 1 [1] z (yj (rd_c m1 (S244.rd m4)) z (ya 3 1 z ?_)))
 obtain ⟨x246, R3, Hx246, _, ⟨w_x246, rfl, h_x246⟩, Zx246⟩ := sx I49 h_p0.Tables R3
 refine y0 78 6 Hx246 z (yaq ((cs_qT x246 w_x246)) Zx246 0 (rd_i S244.im) z (y7 ((cs_qS p1 w_p1)) (rd_c m0 (S244.rd m3)) z ?_))
 obtain ⟨⟨r252, r253⟩, Xr247, R3⟩ := bsm R3
 refine yae (r17_turned_ok (h_p0.mono le) h_x246 (h_p1.mono le) S244 Xr247) ?_
 rintro _ w248 ⟨I249, w_r252, rfl, L250, S251, h_r252⟩
 refine ⟨_, rfl, (ym (S251.rd m3) (ym (S251.rd m4) (yx (S251.im.of_le L250)))), ?_⟩
 exact ya 8 3 z (WO.tail z (yaa S251 0 (cs_qT r252 w_r252) fun w255 S254 => ya 12 1 z (yt (yv ⟨r253, z_qC, r52.Version, r52.Tables, r52.Roles, r52.Grants, r252, I249, zw_qC, w_r52.Tables.a, w_r52.Tables.c, w_r52.Roles.a, w_r52.Roles.c, w_r52.Grants.a, w_r52.Grants.c, w_r252, sj R3, rfl, L250, S254.front1.front2.front3.front4, zok_qC, (RSl.mono h_r52.Tables L250), (RSl.mono h_r52.Roles L250), (RSl.mono h_r52.Grants L250), h_r252⟩))))
 rintro _ w260 ⟨s233, s234, s235, s236, s237, s238, s239, I192, w_s234, a_s236, c_s236, a_s237, c_s237, a_s238, c_s238, w_s239, rfl, rfl, L193, S261, h_s234, h_s236, h_s237, h_s238, h_s239⟩
 exact yv ⟨s233, s234, s235, s236, s237, s238, s239, I192, w_s234, a_s236, c_s236, a_s237, c_s237, a_s238, c_s238, w_s239, sj R2, rfl, L193, S261, h_s234, h_s236, h_s237, h_s238, h_s239⟩
 rintro _ w262 ⟨s178, s179, s180, s181, s182, s183, s184, I83, w_s179, a_s181, c_s181, a_s182, c_s182, a_s183, c_s183, w_s184, rfl, rfl, L84, S263, h_s179, h_s181, h_s182, h_s183, h_s184⟩
 exact yv ⟨s178, s179, s180, s181, s182, s183, s184, I83, w_s179, a_s181, c_s181, a_s182, c_s182, a_s183, c_s183, w_s184, sj R1, rfl, L84, S263, h_s179, h_s181, h_s182, h_s183, h_s184⟩
 rintro _ w264 ⟨s69, s70, s71, s72, s73, s74, s75, I65, w_s70, a_s72, c_s72, a_s73, c_s73, a_s74, c_s74, w_s75, rfl, rfl, L66, S265, h_s70, h_s72, h_s73, h_s74, h_s75⟩
 refine yl (ye (W.seq (yg nL7 (ya 0 3 z (yaw [3, 4, 5] 6 139 143 (.refl ((s69 == 0) && (p1.Kind != 2))) (fun _ => yf 3 1 [0] z (yj (S265.rf m1) z (ya 5 2 z yak))) (yb (bsk D fun j268 R1 D => yay (J := JI E I65 [(3, Iv p3), (4, Pt b1 0), (5, Pt b5 0), (8, Pt b9 0), (11, Pt b53 0), (12, Pt b59 0), (13, Iv j268)] (bC b1 p0 w_p0 :: (bS b5 p1 w_p1) :: (bC b9 s70 w_s70) :: (Bx b53 (cs_qC (⟨s71, s72, s73, s74⟩ : qC) (⟨⟨a_s72, c_s72⟩, ⟨a_s73, c_s73⟩, ⟨a_s74, c_s74⟩⟩ : W_qC)) 29) :: (bT b59 s75 w_s75) :: Os)) ?_ ?_)))))))
 refine y6 R1 (fun G R1 => ?_) (fun G R1 => ?_)
 refine yai nL4 (y7 ((cs_qC (⟨s71, s72, s73, s74⟩ : qC) (⟨⟨a_s72, c_s72⟩, ⟨a_s73, c_s73⟩, ⟨a_s74, c_s74⟩⟩ : W_qC))) (S265.rf m3) z (y7 ((cs_qT s75 w_s75)) (S265.rf m4) z ?_))
 have hk272 : ok_qC I65 (⟨s71, s72, s73, s74⟩ : qC) (⟨⟨a_s72, c_s72⟩, ⟨a_s73, c_s73⟩, ⟨a_s74, c_s74⟩⟩ : W_qC) := ⟨h_s72, h_s73, h_s74⟩
 exact bsk R1 fun r278 Xr273 R1 => WO.c1 (r17_Sound_ok hk272 h_s75 S265 Xr273) z fun I275 w274 L276 S277 => ya 3 1 z (yt (sj R1 ▸ yv ⟨I275, rfl, L276, S277⟩))
 exact W.skip (sj R1 ▸ yv ⟨I65, rfl, lr, S265⟩)
 rintro _ w279 ⟨I270, rfl, L271, S280⟩
 refine ye (W.seq (yg nL8 (ya 0 3 z (yaw [3, 4, 5, 6] 7 149 154 (.refl ((j268 == 0) && (decide (p0.Version ≥ p3)))) (fun _ => yf 3 1 [0] z (yj (S280.rf m0) z (ya 5 3 z yak))) (yb (bsk D fun j283 R1 D => yay (J := JI E I270 [(4, Pt b1 0), (5, Pt b5 0), (8, Pt b9 0), (11, Pt b53 0), (12, Pt b59 0), (13, Iv j283)] (bC b1 p0 w_p0 :: (bS b5 p1 w_p1) :: (bC b9 s70 w_s70) :: (Bx b53 (cs_qC (⟨s71, s72, s73, s74⟩ : qC) (⟨⟨a_s72, c_s72⟩, ⟨a_s73, c_s73⟩, ⟨a_s74, c_s74⟩⟩ : W_qC)) 29) :: (bT b59 s75 w_s75) :: Os)) ?_ ?_))))))
 refine y6 R1 (fun G R1 => ?_) (fun G R1 => ?_)
 exact yai [0] (ya 0 1 z (yt (sj R1 ▸ yv ⟨I270, rfl, lr, S280⟩)))
 exact W.skip (sj R1 ▸ yv ⟨I270, rfl, lr, S280⟩)
 rintro _ w287 ⟨I285, rfl, L286, S288⟩
 refine ye (W.seq (yg nL2 (ya 0 2 z (yb (y6 D (fun G D => ?_) (fun G D => ?_))))))
 exact yg nL4 (yaf 0 157 (vC z_qC zw_qC) (ya 1 1 z (yaa S288.front2 0 (cs_qC z_qC zw_qC) fun w291 S290 => ya 3 1 z (yb (yp (yh (sj D ▸ ya5 _ (S290.rd m0) ⟨I285, zw_qC, rfl, le, S290.d5, zok_qC⟩)))))))
 refine W.skip (ye (W.seq (yg nL3 (yf 0 1 [0] z (yj (S288.rf m1) z (ya 2 1 z (yb (bsk D fun j297 R1 D => yay (J := (fun fr w => ∃ (s315 : Int) (s316 : List qT) (s317 : List qJ) (s318 : List qG) (s319 : qT), ∃ I299 a_s316 c_s316 a_s317 c_s317 a_s318 c_s318 w_s319, (s315, s316, s317, s318, s319) = j297 ∧ fr = [(4, Pt b1 0), (8, Pt b9 0), (11, Pt b53 0)] ∧ I285.Le I299 ∧ St E w I299 (bC b1 p0 w_p0 :: (bC b9 s70 w_s70) :: (Bx b53 (cs_qC (⟨s315, s316, s317, s318⟩ : qC) (⟨⟨a_s316, c_s316⟩, ⟨a_s317, c_s317⟩, ⟨a_s318, c_s318⟩⟩ : W_qC)) 29) :: Os) ∧ RSl 6 R_qT I299 a_s316 c_s316 s316 ∧ RSl 2 R_qJ I299 a_s317 c_s317 s317 ∧ RSl 5 R_qG I299 a_s318 c_s318 s318 ∧ ok_qT I299 s319 w_s319)) ?_ ?_))))))))
 refine y6 R1 (fun G R1 => ?_) (fun G R1 => ?_)
 refine yg nL5 (yf 0 1 [0] z (yj (S288.rf m0) z (yf 2 2 [2] z (yaa S288.front4 2 (cs_qT ({ s75 with Version := (w64 (p0.Version + 1)) }) w_s75) fun w303 S302 => yb (yai nL4 (y7 ((cs_qC (⟨s71, s72, s73, s74⟩ : qC) (⟨⟨a_s72, c_s72⟩, ⟨a_s73, c_s73⟩, ⟨a_s74, c_s74⟩⟩ : W_qC))) (S302.rf m4) z (y7 ((cs_qT ({ s75 with Version := (w64 (p0.Version + 1)) }) w_s75)) (S302.rf m0) z ?_)))))))
 have hk304 : ok_qC I285 (⟨s71, s72, s73, s74⟩ : qC) (⟨⟨a_s72, c_s72⟩, ⟨a_s73, c_s73⟩, ⟨a_s74, c_s74⟩⟩ : W_qC) := ⟨(RSl.mono h_s72 (L271.trans L286)), (RSl.mono h_s73 (L271.trans L286)), (RSl.mono h_s74 (L271.trans L286))⟩
 have hk305 : ok_qT I285 ({ s75 with Version := (w64 (p0.Version + 1)) }) w_s75 := ⟨(RSl.mono h_s75.Cols (L271.trans L286)), (RSl.mono h_s75.Cons (L271.trans L286)), (RSl.mono h_s75.Idx (L271.trans L286))⟩
 refine bsk R1 fun r311 Xr306 R1 => yae (r17_with_ok hk304 hk305 S302 Xr306) ?_
 rintro _ w307 ⟨I308, w_r311, rfl, L309, S310, h_r311⟩
 refine cv (yaa S310.front4 0 (cs_qC r311 w_r311) fun w314 S313 => yt ?_)
 have hk320 : ok_qT I308 ({ s75 with Version := (w64 (p0.Version + 1)) }) w_s75 := ⟨(RSl.mono h_s75.Cols ((L271.trans L286).trans L309)), (RSl.mono h_s75.Cons ((L271.trans L286).trans L309)), (RSl.mono h_s75.Idx ((L271.trans L286).trans L309))⟩
 exact yv ⟨r311.Version, r311.Tables, r311.Roles, r311.Grants, { s75 with Version := (w64 (p0.Version + 1)) }, I308, w_r311.Tables.a, w_r311.Tables.c, w_r311.Roles.a, w_r311.Roles.c, w_r311.Grants.a, w_r311.Grants.c, w_s75, sj R1, rfl, L309, S313.front1.drop.front2.drop.front2.front2, h_r311.Tables, h_r311.Roles, h_r311.Grants, hk320⟩
 exact W.skip (yv ⟨s71, s72, s73, s74, s75, I285, a_s72, c_s72, a_s73, c_s73, a_s74, c_s74, w_s75, sj R1, rfl, lr, S288.front1.drop.front3.drop, (up h_s72), (up h_s73), (up h_s74), (h_s75.mono le)⟩)
 rintro _ w331 ⟨s315, s316, s317, s318, s319, I299, a_s316, c_s316, a_s317, c_s317, a_s318, c_s318, w_s319, rfl, rfl, L300, S332, h_s316, h_s317, h_s318, h_s319⟩
 refine ye (yg nL5 (yf 0 1 [0] z (yj (S332.rf m0) z (yf 2 2 [0] z (yaa S332.front2 0 (cs_qC (⟨(w64 (p0.Version + 1)), s316, s317, s318⟩ : qC) (⟨⟨a_s316, c_s316⟩, ⟨a_s317, c_s317⟩, ⟨a_s318, c_s318⟩⟩ : W_qC)) fun w335 S334 => yac nL3 (y7 ((cs_qC (⟨(w64 (p0.Version + 1)), s316, s317, s318⟩ : qC) (⟨⟨a_s316, c_s316⟩, ⟨a_s317, c_s317⟩, ⟨a_s318, c_s318⟩⟩ : W_qC))) (S334.rf m0) z (yaa S334.front2 0 (cs_qC (⟨(w64 (p0.Version + 1)), s316, s317, s318⟩ : qC) (⟨⟨a_s316, c_s316⟩, ⟨a_s317, c_s317⟩, ⟨a_s318, c_s318⟩⟩ : W_qC)) fun w338 S337 => ya 2 1 z (yb (yp ?_)))))))))
 have hk342 : ok_qC I299 (⟨(w64 (p0.Version + 1)), s316, s317, s318⟩ : qC) (⟨⟨a_s316, c_s316⟩, ⟨a_s317, c_s317⟩, ⟨a_s318, c_s318⟩⟩ : W_qC) := ⟨h_s316, h_s317, h_s318⟩
 exact sj D ▸ ya5 _ (S337.rd m0) ⟨I299, (⟨⟨a_s316, c_s316⟩, ⟨a_s317, c_s317⟩, ⟨a_s318, c_s318⟩⟩ : W_qC), rfl, le, S337.d3, hk342⟩
noncomputable def law19_first  : Option qC := (r17_New).bind (fun r10 => (forE (fun (i32 : Nat) (s31 : qC) => ((idx ([(⟨#[97, 110, 110]⟩ : By8), (⟨#[98, 111, 98]⟩ : By8), (⟨#[99, 121]⟩ : By8)] : List By8) (i32 : Int)).bind (fun x46 => (r19_Make s31 ({ z_qS with Kind := 10, Name := x46 }) (⟨#[114, 111, 111, 116]⟩ : By8) 1000).bind (fun (r57, r58) => some (r57, r58)))).bind (fun ((s61, s62) : qC × Int) => ((bif (s62 == 0) then some s61 else some s31)).bind (fun (j101 : qC) => some j101))) 3 0 r10).bind (fun s31 => (r17_Make s31 ({ z_qS with Kind := 1, Table := (⟨#[116]⟩ : By8), Cols := ([{ z_qL with Name := (⟨#[97]⟩ : By8), Type_ := 1 }] : List qL) }) (⟨#[97, 110, 110]⟩ : By8) 1000).bind (fun (r134, r135) => ((bif (r135 == 0) then some r134 else some s31)).bind (fun (j142 : qC) => some j142))))
theorem law19_first_ok (hS : St E w I Os) {r : qC} (D : law19_first = some r) :
    Calls P 30 #[] w (fun e w' => ∃ I' w_rw0, e = .returned (vC r w_rw0) ∧ I.Le I' ∧ St E w' I' Os ∧ ok_qC I' r w_rw0) := by
 refine calls_W (fn := Tryz.f30) rfl rfl rfl ?_
 unfold law19_first at D
 refine yg [0] (yab hS (cs_qC z_qC zw_qC) 29 z fun b1 w4 S3 => yac nL3 (bsk D fun r10 Xr5 D => yae (r17_New_ok  S3 Xr5) ?_))
 rintro _ w6 ⟨I7, w_r10, rfl, L8, S9, h_r10⟩
 refine cv (yab S9 (cs_qC z_qC zw_qC) 29 z fun b11 w14 S13 => yaa S13 0 (cs_qC r10 w_r10) fun w16 S15 => yac nL2 (yad (rel := RStr) (xs := ([(⟨#[97, 110, 110]⟩ : By8), (⟨#[98, 111, 98]⟩ : By8), (⟨#[99, 121]⟩ : By8)] : List By8)) S15 z kr z 9 1 [[(.string (⟨#[97, 110, 110]⟩ : By8))], [(.string (⟨#[98, 111, 98]⟩ : By8))], [(.string (⟨#[99, 121]⟩ : By8))]] kr z ((Elr.cons z (Elr.cons z (Elr.cons z Elr.nil)))) tv ?_))
 intro a20 C18 w22 S21 ho19
 obtain ⟨I24, L25, S27, hp26⟩ := yag ho19 S21
 refine ya 1 1 z (yb (W.seq (yg [0] (ya 0 1 z (yb (yn (bsk D fun s31 hloop33 D => have hlt38 := (hp26).len_lt; W.wk (ya0 (m := 3) hloop33 (fun (i32 : Nat) (s31 : qC) fr w => ∃ I29 w_s31, fr = [(0, Pt b1 0), (1, Pt b11 0), (2, .slice a20 3 3), (3, Nv i32)] ∧ I24.Le I29 ∧ St E w I29 (bC b1 z_qC zw_qC :: (bC b11 s31 w_s31) :: Os) ∧ ok_qC I29 s31 w_s31) ⟨I24, w_r10, rfl, lr, S27.front1, (h_r10.mono L25)⟩ ?_ ?_))))))))
 rintro i32 s31 _ w35 hi39 ⟨I29, w_s31, rfl, L30, S36, h_s31⟩ x37 R1
 refine W.seq (yg nL4 (ya 0 4 z (yb (yat fun _ => W.skip (ye (W.seq (yn (W.seq (bsk R1 fun j40 R2 R1 => yay (J := (fun fr w => ∃ (s61 : qC) (s62 : Int), ∃ I42 w_s61 b_s61, (s61, s62) = j40 ∧ fr = [(0, Pt b1 0), (1, Pt b11 0), (2, .slice a20 3 3), (3, Nv i32), (4, Pt b_s61 0), (5, Iv s62)] ∧ I29.Le I42 ∧ St E w I42 (bC b1 z_qC zw_qC :: (bC b11 s31 w_s31) :: (bC b_s61 s61 w_s61) :: Os) ∧ ok_qC I42 s61 w_s61)) ?_ ?_)))))))))
 have S44 := S36.drew
 refine ybs (.split 10 5 (.leaf [0, 1, 2, 3, 4, 10, 5, 6, 7, 8, 9, 11, 12]) (.split 10 6 (.leaf [0, 1, 2, 3, 4, 5, 10, 6, 7, 8, 9, 11, 12]) (.leaf nL13))) 11 (KR I29 [bC b11 s31 w_s31]) qR (.ords nL13 [0, 1, 2, 3, 4, 5, 6, 7, 8, 10, 11, 9, 12] kr kr kr kr kr) kr (ym (S44.rd m1) (yx S44.im)) ?_
 generalize World.drew _ = w45 at *
 refine ⟨?_, ?_⟩
 show WO _ _ _ _ _ _ _ [0, 1, 2, 3, 4, 10, 5, 6, 7, 8, 9, 11, 12] _ _
 refine y7 ((cs_qC s31 w_s31)) (rd_c m0 (S44.rd m1)) z (ya 1 2 z (y8 18 z (show Value.slice a20 3 3 = Value.slice a20 ([(⟨#[97, 110, 110]⟩ : By8), (⟨#[98, 111, 98]⟩ : By8), (⟨#[99, 121]⟩ : By8)] : List By8).length 3 from z) ?_))
 obtain ⟨x46, R2, Hx46, _, rfl, Zx46⟩ := sx I29 hp26 R2
 refine y0 9 1 Hx46 z (yan Zx46 (rd_i S44.im) z (ybb S44 z kr z (.cells (cs_qC z_qC zw_qC).toArray 29 (0, 0)) (fun b => .pointer (some ⟨b, 0, none⟩)) kr (fun b47 w50 S49 => (ym (S49.rd m2) (yx S49.im))) ?_))
 intro b47 w50 S49
 refine yaf 5 22 (.agg (cs_qS ({ z_qS with Kind := 10, Name := x46 }) zw_qS).toArray) ?_
 have hk51 : ok_qS I29 ({ z_qS with Kind := 10, Name := x46 }) zw_qS := ⟨SlAt.nil, SlAt.nil, SlAt.nil, SlAt.nil, zok_qS.Where, SlAt.nil, SlAt.nil, SlAt.nil⟩
 obtain ⟨⟨r57, r58⟩, Xr52, R2⟩ := bsm R2
 refine yae (r19_Make_ok h_s31 hk51 S49 Xr52) ?_
 rintro _ w53 ⟨I54, w_r57, rfl, L55, S56, h_r57⟩
 refine ⟨_, rfl, (ym (S56.rd m2) (yx (S56.im.of_le L55))), ?_⟩
 exact ya 7 3 z (WO.tail z (yaa S56 0 (cs_qC r57 w_r57) fun w60 S59 => ya 12 1 z (yt (yv ⟨r57, r58, I54, w_r57, b47, sj R2, rfl, L55, S59.front2.front2, h_r57⟩))))
 refine ⟨?_, ?_⟩
 show WO _ _ _ _ _ _ _ [0, 1, 2, 3, 4, 5, 10, 6, 7, 8, 9, 11, 12] _ _
 refine y7 ((cs_qC s31 w_s31)) (rd_c m0 (S44.rd m1)) z (ya 1 2 z (y8 18 z (show Value.slice a20 3 3 = Value.slice a20 ([(⟨#[97, 110, 110]⟩ : By8), (⟨#[98, 111, 98]⟩ : By8), (⟨#[99, 121]⟩ : By8)] : List By8).length 3 from z) ?_))
 obtain ⟨x65, R2, Hx65, _, rfl, Zx65⟩ := sx I29 hp26 R2
 refine y0 9 1 Hx65 z (yan Zx65 (rd_i S44.im) z (yaf 5 22 (.agg (cs_qS ({ z_qS with Kind := 10, Name := x65 }) zw_qS).toArray) (ybb S44 z kr z (.cells (cs_qC z_qC zw_qC).toArray 29 (0, 0)) (fun b => .pointer (some ⟨b, 0, none⟩)) kr (fun b66 w69 S68 => (ym (S68.rd m2) (yx S68.im))) ?_)))
 intro b66 w69 S68
 have hk70 : ok_qS I29 ({ z_qS with Kind := 10, Name := x65 }) zw_qS := ⟨SlAt.nil, SlAt.nil, SlAt.nil, SlAt.nil, zok_qS.Where, SlAt.nil, SlAt.nil, SlAt.nil⟩
 obtain ⟨⟨r76, r77⟩, Xr71, R2⟩ := bsm R2
 refine yae (r19_Make_ok h_s31 hk70 S68 Xr71) ?_
 rintro _ w72 ⟨I73, w_r76, rfl, L74, S75, h_r76⟩
 refine ⟨_, rfl, (ym (S75.rd m2) (yx (S75.im.of_le L74))), ?_⟩
 exact ya 7 3 z (WO.tail z (yaa S75 0 (cs_qC r76 w_r76) fun w79 S78 => ya 12 1 z (yt (yv ⟨r76, r77, I73, w_r76, b66, sj R2, rfl, L74, S78.front2.front2, h_r76⟩))))
 show WO _ _ _ _ _ _ _ nL13 _ _
 refine y7 ((cs_qC s31 w_s31)) (rd_c m0 (S44.rd m1)) z (ya 1 2 z (y8 18 z (show Value.slice a20 3 3 = Value.slice a20 ([(⟨#[97, 110, 110]⟩ : By8), (⟨#[98, 111, 98]⟩ : By8), (⟨#[99, 121]⟩ : By8)] : List By8).length 3 from z) ?_))
 obtain ⟨x82, R2, Hx82, _, rfl, Zx82⟩ := sx I29 hp26 R2
 refine y0 9 1 Hx82 z (yan Zx82 (rd_i S44.im) z (yaf 5 22 (.agg (cs_qS ({ z_qS with Kind := 10, Name := x82 }) zw_qS).toArray) ?_))
 have hk83 : ok_qS I29 ({ z_qS with Kind := 10, Name := x82 }) zw_qS := ⟨SlAt.nil, SlAt.nil, SlAt.nil, SlAt.nil, zok_qS.Where, SlAt.nil, SlAt.nil, SlAt.nil⟩
 obtain ⟨⟨r89, r90⟩, Xr84, R2⟩ := bsm R2
 refine yae (r19_Make_ok h_s31 hk83 S44 Xr84) ?_
 rintro _ w85 ⟨I86, w_r89, rfl, L87, S88, h_r89⟩
 refine ⟨_, rfl, (ym (S88.rd m1) (yx (S88.im.of_le L87))), ?_⟩
 refine ya 7 3 z (ybb S88 z kr z (.cells (cs_qC z_qC zw_qC).toArray 29 (0, 0)) (fun b => .pointer (some ⟨b, 0, none⟩)) kr (fun b91 w94 S93 => (ym (S93.rd m2) (yx (S93.im.of_le L87)))) ?_)
 intro b91 w94 S93
 exact WO.tail z (yaa S93 0 (cs_qC r89 w_r89) fun w96 S95 => ya 12 1 z (yt (yv ⟨r89, r90, I86, w_r89, b91, sj R2, rfl, L87, S95.front2.front2, h_r89⟩)))
 rintro _ w99 ⟨s61, s62, I42, w_s61, b_s61, rfl, rfl, L43, S100, h_s61⟩
 refine ye (yg nL2 (ya 0 2 z (yb (bsk R1 fun j101 R2 R1 => yay (J := (fun fr w => ∃ I103 w_j101, fr = [(0, Pt b1 0), (1, Pt b11 0), (2, .slice a20 3 3), (3, Nv i32)] ∧ I42.Le I103 ∧ St E w I103 (bC b1 z_qC zw_qC :: (bC b11 j101 w_j101) :: Os) ∧ ok_qC I103 j101 w_j101)) ?_ ?_))))
 refine y6 R2 (fun G R2 => ?_) (fun G R2 => ?_)
 exact yai nL2 (y7 ((cs_qC s61 w_s61)) (S100.rf m2) z (yaa S100.front1 0 (cs_qC s61 w_s61) fun w107 S106 => yt (sj R2 ▸ yv ⟨I42, w_s61, rfl, lr, S106.front2.drop.front1, h_s61⟩)))
 exact W.skip (sj R2 ▸ yv ⟨I42, w_s31, rfl, lr, S100.front2.drop, (h_s31.mono L43)⟩)
 rintro _ w113 ⟨I103, w_j101, rfl, L104, S114, h_j101⟩
 exact yl (ye (yai nL3 (ya 0 1 z (yao i32 z (ya 2 1 z (yt (sj R1 ▸ yv ⟨I103, w_j101, rfl, le, S114, h_j101⟩)))))))
 rintro _ w115 ⟨I29, w_s31, rfl, L30, S116, h_s31⟩
 refine W.seq (yg nL4 (ya 0 4 z (yb (yas fun _ => W.exit (yo (yq (yu (ye (yg nL11 (y7 ((cs_qC s31 w_s31)) (S116.rf m1) z (yaf 1 31 (.agg (cs_qL ({ z_qL with Name := (⟨#[97]⟩ : By8), Type_ := 1 })).toArray) (yad (rel := R_qL) (xs := ([{ z_qL with Name := (⟨#[97]⟩ : By8), Type_ := 1 }] : List qL)) S116 z kr z 111 3 [(cs_qL ({ z_qL with Name := (⟨#[97]⟩ : By8), Type_ := 1 }))] kr z ((Elr.cons z Elr.nil)) tv ?_))))))))))))
 intro a120 C118 w122 S121 ho119
 obtain ⟨I124, L125, S127, hp126⟩ := yag ho119 S121
 refine yaf 3 33 (.agg #[(Iv 1), (.string (⟨#[116]⟩ : By8)), (.string eB), (.string eB), (.slice a120 1 1), (.slice none 0 0), (.slice none 0 0), (.slice none 0 0), (Iv 0), (Iv 0), (Iv 0), (Iv 0), (.string eB), (.string eB), (.slice none 0 0), (.slice none 0 0), (.slice none 0 0), (Iv 0), (Iv 0), (.bool false), (.slice none 0 0)]) ?_
 have hk128 : ok_qS I124 ({ z_qS with Kind := 1, Table := (⟨#[116]⟩ : By8), Cols := ([{ z_qL with Name := (⟨#[97]⟩ : By8), Type_ := 1 }] : List qL) }) ({ zw_qS with Cols := ⟨a120, 1⟩ }) := ⟨hp126, SlAt.nil, SlAt.nil, SlAt.nil, zok_qS.Where, SlAt.nil, SlAt.nil, SlAt.nil⟩
 obtain ⟨⟨r134, r135⟩, Xr129, D⟩ := bsm D
 refine yae (r17_Make_ok (h_s31.mono L125) hk128 S127 Xr129) ?_
 rintro _ w130 ⟨I131, w_r134, rfl, L132, S133, h_r134⟩
 refine cv (ya 5 3 z (yab S133 (cs_qC z_qC zw_qC) 29 z fun b136 w139 S138 => yaa S138 0 (cs_qC r134 w_r134) fun w141 S140 => ya 10 1 z (yb (W.seq (yg nL2 (ya 0 2 z (yb (bsk D fun j142 R1 D => yay (J := (fun fr w => ∃ I144 w_j142, fr = [(0, Pt b1 0), (1, Pt b11 0)] ∧ I131.Le I144 ∧ St E w I144 (bC b1 z_qC zw_qC :: (bC b11 j142 w_j142) :: Os) ∧ ok_qC I144 j142 w_j142)) ?_ ?_))))))))
 refine y6 R1 (fun G R1 => ?_) (fun G R1 => ?_)
 exact yai nL2 (y7 ((cs_qC r134 w_r134)) (S140.rf m0) z (yaa S140.front2 0 (cs_qC r134 w_r134) fun w148 S147 => yt (sj R1 ▸ yv ⟨I131, w_r134, rfl, lr, S147.front1.drop.front1, h_r134⟩)))
 exact W.skip (sj R1 ▸ yv ⟨I131, w_s31, rfl, lr, S140.drop, (h_s31.mono le)⟩)
 rintro _ w153 ⟨I144, w_j142, rfl, L145, S154, h_j142⟩
 exact ye (yg nL2 (y7 ((cs_qC j142 w_j142)) (S154.rf m1) z (yaa S154 0 (cs_qC j142 w_j142) fun w156 S155 => yb (yp (sj D ▸ En.c1 _ (S155.rd m0) ⟨I144, w_j142, rfl, le, S155.d2, h_j142⟩)))))
noncomputable def law19_Next (p0 : qC) (p1 : law19_Act) : Option (qC × Int) := (r19_Make p0 p1.S p1.By 1000).bind (fun (r18, r19) => ((bif (decide (p1.S.Kind < 10)) then (r17_Make p0 p1.S p1.By 1000).bind (fun (r35, r36) => some (r36, r35)) else some (r19, r18))).bind (fun ((s39, s40) : Int × qC) => (bif (s39 != 0) then some (p0, s39) else some (s40, s39))))
theorem law19_Next_ok {p0 : qC} {p1 : law19_Act} {w_p0 : W_qC} {w_p1 : W_law19_Act} (h_p0 : ok_qC I p0 w_p0) (h_p1 : ok_law19_Act I p1 w_p1) (hS : St E w I Os) {r : qC × Int} (D : law19_Next p0 p1 = some r) :
    Calls P 9 #[(vC p0 w_p0), (.agg (cs_law19_Act p1 w_p1).toArray)] w (fun e w' => ∃ I' w_rw0, e = .returned (.tuple #[(vC r.1 w_rw0), (Iv r.2)]) ∧ I.Le I' ∧ St E w' I' Os ∧ ok_qC I' r.1 w_rw0) := by
 refine calls_W (fn := Tryz.f9) rfl rfl rfl ?_
 unfold law19_Next at D
 refine yg nL4 (yab hS (cs_qC p0 w_p0) 29 z fun b1 w4 S3 => yab S3 (cs_law19_Act p1 w_p1) 48 z fun b5 w8 S7 => yab S7 (cs_qC z_qC zw_qC) 29 z fun b9 w12 S11 => ya 3 1 z (yac nL12 (y7 ((cs_qC p0 w_p0)) (S11.rf m2) z (yf 1 1 [0] z (y7 ((cs_qS p1.S w_p1.S)) (S11.rf m1) z (yf 3 1 [21] z (yj (S11.rf m1) z ?_)))))))
 obtain ⟨⟨r18, r19⟩, Xr13, D⟩ := bsm D
 refine yae (r19_Make_ok h_p0 h_p1.S S11 Xr13) ?_
 rintro _ w14 ⟨I15, w_r18, rfl, L16, S17, h_r18⟩
 refine cv (ya 6 3 z (yab S17 (cs_qC z_qC zw_qC) 29 z fun b20 w23 S22 => yaa S22 0 (cs_qC r18 w_r18) fun w25 S24 => ya 11 1 z (yb (W.seq (yg nL4 (yf 0 2 [0, 0] z (yj (S24.rf m2) z (ya 3 1 z (yb (bsk D fun j26 R1 D => yay (J := (fun fr w => ∃ (s39 : Int) (s40 : qC), ∃ I28 w_s40, (s39, s40) = j26 ∧ fr = [(2, Pt b1 0), (4, Pt b9 0), (6, Pt b20 0), (7, Iv s39)] ∧ I15.Le I28 ∧ St E w I28 (bC b1 p0 w_p0 :: (bC b9 z_qC zw_qC) :: (bC b20 s40 w_s40) :: Os) ∧ ok_qC I28 s40 w_s40)) ?_ ?_))))))))))
 refine y6 R1 (fun G R1 => ?_) (fun G R1 => ?_)
 refine yai nL11 (y7 ((cs_qC p0 w_p0)) (S24.rf m3) z (yf 1 1 [0] z (y7 ((cs_qS p1.S w_p1.S)) (S24.rf m2) z (yf 3 1 [21] z (yj (S24.rf m2) z ?_)))))
 obtain ⟨⟨r35, r36⟩, Xr30, R1⟩ := bsm R1
 refine yae (r17_Make_ok (h_p0.mono L16) (h_p1.S.mono L16) S24 Xr30) ?_
 rintro _ w31 ⟨I32, w_r35, rfl, L33, S34, h_r35⟩
 exact cv (ya 6 3 z (yaa S34 0 (cs_qC r35 w_r35) fun w38 S37 => ya 10 1 z (yt (yv ⟨r36, r35, I32, w_r35, sj R1, rfl, L33, S37.front2.drop.front1.front2, h_r35⟩))))
 exact W.skip (yv ⟨r19, r18, I15, w_r18, sj R1, rfl, lr, S24.front2.drop.front1.front2, h_r18⟩)
 rintro _ w49 ⟨s39, s40, I28, w_s40, rfl, rfl, L29, S50, h_s40⟩
 refine ye (W.seq (yg nL2 (ya 0 2 z (yb (y6 D (fun G D => ?_) (fun G D => ?_))))))
 exact yg nL4 (y7 ((cs_qC p0 w_p0)) (S50.rf m0) z (ya 1 1 z (yaa S50.front1 0 (cs_qC p0 w_p0) fun w53 S52 => ya 3 1 z (yb (yp (yh (sj D ▸ ya5 _ (S52.rd m0) ⟨I28, w_p0, rfl, le, S52.d3, (h_p0.mono le)⟩)))))))
 exact W.skip (ye (yg nL4 (y7 ((cs_qC s40 w_s40)) (S50.rf m2) z (ya 1 1 z (yaa S50.front1 0 (cs_qC s40 w_s40) fun w59 S58 => ya 3 1 z (yb (yp (sj D ▸ ya5 _ (S58.rd m0) ⟨I28, w_s40, rfl, le, S58.d3, h_s40⟩))))))))
noncomputable def law19_Grown (p0 : List law19_Act) : Option qC := (law19_first).bind (fun r10 => (forE (fun (i21 : Nat) (s20 : qC) => (idx p0 (i21 : Int)).bind (fun x31 => (law19_Next s20 x31).bind (fun (r37, r38) => some r37))) p0.length 0 r10).bind (fun s20 => some s20))
theorem law19_Grown_ok {p0 : List law19_Act} {a_p0 : Option Addr} {c_p0 : Nat} (h_p0 : RSl 22 R_law19_Act I a_p0 c_p0 p0) (hS : St E w I Os) {r : qC} (D : law19_Grown p0 = some r) :
    Calls P 8 #[(Sl a_p0 p0 c_p0)] w (fun e w' => ∃ I' w_rw0, e = .returned (vC r w_rw0) ∧ I.Le I' ∧ St E w' I' Os ∧ ok_qC I' r w_rw0) := by
 refine calls_W (fn := Tryz.f8) rfl rfl rfl ?_
 unfold law19_Grown at D
 refine yg [0] (yab hS (cs_qC z_qC zw_qC) 29 z fun b1 w4 S3 => yac nL3 (bsk D fun r10 Xr5 D => yae (law19_first_ok  S3 Xr5) ?_))
 rintro _ w6 ⟨I7, w_r10, rfl, L8, S9, h_r10⟩
 refine cv (yab S9 (cs_qC z_qC zw_qC) 29 z fun b11 w14 S13 => yaa S13 0 (cs_qC r10 w_r10) fun w16 S15 => yb (W.seq (yg [0] (ya 0 1 z (yb (yn (bsk D fun s20 hloop22 D => have hlt27 := ((RSl.mono h_p0 L8)).len_lt; W.wk (ya0 (m := p0.length) hloop22 (fun (i21 : Nat) (s20 : qC) fr w => ∃ I18 w_s20, fr = [(0, Sl a_p0 p0 c_p0), (2, Pt b1 0), (3, Pt b11 0), (4, Nv i21)] ∧ I7.Le I18 ∧ St E w I18 (bC b1 z_qC zw_qC :: (bC b11 s20 w_s20) :: Os) ∧ ok_qC I18 s20 w_s20) ⟨I7, w_r10, rfl, lr, S15.front1, h_r10⟩ ?_ ?_))))))))
 rintro i21 s20 _ w24 hi28 ⟨I18, w_s20, rfl, L19, S25, h_s20⟩ x26 R1
 refine W.seq (yg nL4 (ya 0 4 z (yb (yat fun _ => W.skip (ye (W.seq (yn (have S29 := S25.drew; ybl (l := nL10) kr 9 (KR I18 [bC b11 s20 w_s20]) qR (.ords nL10 [0, 1, 2, 3, 4, 5, 6, 7, 9, 8] kr kr kr kr kr) kr (ym (S29.rd m1) (yx S29.im)) ?_))))))))
 generalize World.drew _ = w30 at *
 refine y7 ((cs_qC s20 w_s20)) (rd_c m0 (S29.rd m1)) z (ya 1 2 z ?_)
 obtain ⟨x31, R1, Hx31, _, ⟨w_x31, rfl, h_x31⟩, Zx31⟩ := sx I18 h_p0 R1
 refine y0 48 22 Hx31 z (yaq ((cs_law19_Act x31 w_x31)) Zx31 0 (rd_i S29.im) z ?_)
 obtain ⟨⟨r37, r38⟩, Xr32, R1⟩ := bsm R1
 refine yae (law19_Next_ok h_s20 h_x31 S29 Xr32) ?_
 rintro _ w33 ⟨I34, w_r37, rfl, L35, S36, h_r37⟩
 refine ⟨_, rfl, (ym (S36.rd m1) (yx (S36.im.of_le L35))), ?_⟩
 exact ya 6 3 z (WO.tail z (yaa S36.front1 0 (cs_qC r37 w_r37) fun w41 S40 => yt (yl (ye (yai nL3 (ya 0 1 z (yao i21 z (ya 2 1 z (yt (sj R1 ▸ yv ⟨I34, w_r37, rfl, le, S40.front1, h_r37⟩))))))))))
 rintro _ w43 ⟨I18, w_s20, rfl, L19, S44, h_s20⟩
 exact W.seq (yg nL4 (ya 0 4 z (yb (yas fun _ => W.exit (yo (yq (yu (ye (yg nL2 (y7 ((cs_qC s20 w_s20)) (S44.rf m1) z (yaa S44 0 (cs_qC s20 w_s20) fun w46 S45 => yb (yp (sj D ▸ En.c1 _ (S45.rd m0) ⟨I18, w_s20, rfl, le, S45.d2, h_s20⟩)))))))))))))
def r22_New (p0 : qC) : Option r22_Chain := (forE (fun (i24 : Nat) (s23 : r22_Chain) => (app 8 s23.Pins ([(-1)] : List Int)).bind (fun x45 => (app 8 s23.Heard ([0] : List Int)).bind (fun x65 => some ({ s23 with Pins := x45, Heard := x65 })))) 9 0 (⟨([p0] : List qC), ([] : List Int), ([] : List Int)⟩ : r22_Chain)).bind (fun s23 => some s23)
theorem r22_New_ok {p0 : qC} {w_p0 : W_qC} (h_p0 : ok_qC I p0 w_p0) (hS : St E w I Os) {r : r22_Chain} (D : r22_New p0 = some r) :
    Calls P 14 #[(vC p0 w_p0)] w (fun e w' => ∃ (I' : Mem) (rb0 : Nat) (w_ro0 : W_r22_Chain), e = .returned (Pt rb0 0) ∧ I.Le I' ∧ St E w' I' ((Bx rb0 (cs_r22_Chain r w_ro0) 98) :: w_ro0.All.C :: w_ro0.Pins.C :: w_ro0.Heard.C :: Os) ∧ ok_r22_Chain I' r w_ro0) := by
 refine calls_W (fn := Tryz.f14) rfl rfl rfl ?_
 unfold r22_New at D
 refine yg nL2 (yab hS (cs_qC p0 w_p0) 29 z fun b1 w4 S3 => yaf 1 2 (.pointer none) (yac nL5 (y7 ((cs_qC p0 w_p0)) (S3.rf m0) z (yad (rel := R_qC) (xs := ([p0] : List qC)) S3 z kr z 29 4 [(cs_qC p0 w_p0)] kr z ((Elr.cons ⟨w_p0, rfl, h_p0⟩ Elr.nil)) tv ?_))))
 intro a8 C6 w10 S9 ho7
 refine yaf 2 7 (.agg #[(.slice a8 1 1), (.slice none 0 0), (.slice none 0 0)]) (yab S9 [(.slice a8 1 1), (.slice none 0 0), (.slice none 0 0)] 98 z fun b12 w15 S14 => ya 4 1 z (yb (W.seq (yg [0] (ya 0 1 z (yb (yn ?_)))))))
 obtain ⟨s23, hloop25, D⟩ := bsm D
 have hk26 : ok_r22_Chain I (⟨([p0] : List qC), ([] : List Int), ([] : List Int)⟩ : r22_Chain) (⟨⟨a8, 1, C6⟩, ⟨none, 0, Mem.no⟩, ⟨none, 0, Mem.no⟩⟩ : W_r22_Chain) := ⟨ho7, (OwnSl.nil (T := 3) (rel := (RInt .i64)) (I := I)), (OwnSl.nil (T := 3) (rel := (RInt .i64)) (I := I))⟩
 have hlt35 : (9 : Nat) < big := by decide
 refine W.wk (ya0 (m := 9) hloop25 (fun (i24 : Nat) (s23 : r22_Chain) fr w => ∃ I21 w_s23, fr = [(3, Pt b12 0), (4, Nv i24)] ∧ I.Le I21 ∧ St E w I21 ((Bx b12 (cs_r22_Chain s23 w_s23) 98) :: (w_s23.All.C) :: (w_s23.Pins.C) :: (w_s23.Heard.C) :: Os) ∧ ok_r22_Chain I21 s23 w_s23) ⟨I, (⟨⟨a8, 1, C6⟩, ⟨none, 0, Mem.no⟩, ⟨none, 0, Mem.no⟩⟩ : W_r22_Chain), rfl, lr, S14.no.no.front4.drop.front1.front3.front3, hk26⟩ ?_ ?_)
 rintro i24 s23 _ w32 hi36 ⟨I21, w_s23, rfl, L22, S33, h_s23⟩ x34 R1
 refine W.seq (yg nL2 (ya 0 2 z (yb (yat fun _ => W.skip (ye (W.seq (yn (yg nL10 (yf 0 4 [1] z (yj (S33.rf m0) z (yad (rel := (RInt .i64)) (xs := ([(-1)] : List Int)) S33 z kr z 3 1 [[(Iv (-1))]] kr z ((Elr.cons z Elr.nil)) tv ?_)))))))))))
 intro a40 C38 w42 S41 ho39
 have S44 := S41.front3
 refine apk R1 fun x45 h0_x45 he_x45 R1 => yau 3 8 [(Iv 0)] S44 h_s23.Pins ho39.sl (S44.rd m1) h0_x45 he_x45 z fun a46 c47 w48 C49 S50 ho51 => yf 7 2 [1] z (yaa S50.front1.drop.front1 1 (cs_r22_Chain ({ s23 with Pins := x45 }) ({ w_s23 with Pins := ⟨a46, c47, C49⟩ })) fun w56 S55 => yb (yai nL10 (yf 0 4 [2] z (yj (S55.rf m0) z (yad (rel := (RInt .i64)) (xs := ([0] : List Int)) S55 z kr z 3 1 [[(Iv 0)]] kr z ((Elr.cons z Elr.nil)) tv ?_)))))
 intro a60 C58 w62 S61 ho59
 have S64 := S61.front4
 refine apk R1 fun x65 h0_x65 he_x65 R1 => yau 3 8 [(Iv 0)] S64 h_s23.Heard ho59.sl (S64.rd m1) h0_x65 he_x65 z fun a66 c67 w68 C69 S70 ho71 => yf 7 2 [2] z (yaa S70.front1.drop.front1 2 (cs_r22_Chain ({ s23 with Pins := x45, Heard := x65 }) ({ w_s23 with Pins := ⟨a46, c47, C49⟩, Heard := ⟨a66, c67, C69⟩ })) fun w76 S75 => yt (yl (ye (yai nL3 (ya 0 1 z (yao i24 z (ya 2 1 z (yt ?_))))))))
 have hk77 : ok_r22_Chain I21 ({ s23 with Pins := x45, Heard := x65 }) ({ w_s23 with Pins := ⟨a46, c47, C49⟩, Heard := ⟨a66, c67, C69⟩ }) := ⟨h_s23.All, ho51, ho71⟩
 exact sj R1 ▸ yv ⟨I21, ({ w_s23 with Pins := ⟨a46, c47, C49⟩, Heard := ⟨a66, c67, C69⟩ }), rfl, L22, S75.front1.front2.front3.front3, hk77⟩
 rintro _ w82 ⟨I21, w_s23, rfl, L22, S83, h_s23⟩
 exact W.seq (yg nL2 (ya 0 2 z (yb (yas fun _ => W.exit (yo (yq (yu (ye (yg nL2 (ya 0 2 z (yb (yp (sj D ▸ yw ⟨I21, b12, w_s23, rfl, L22, S83, h_s23⟩)))))))))))))
def r22_Chain_Now (p0 : r22_Chain) : Option qC := (idx p0.All (w64 ((p0.All.length : Int) - 1))).bind (fun x7 => some x7)
theorem r22_Chain_Now_ok {p0 : r22_Chain} {b_p0 : Nat} {w_p0 : W_r22_Chain} (h_p0 : ok_r22_Chain I p0 w_p0) (hS : St E w I ((Bx b_p0 (cs_r22_Chain p0 w_p0) 98) :: (w_p0.All.C) :: (w_p0.Pins.C) :: (w_p0.Heard.C) :: Os)) {r : qC} (D : r22_Chain_Now p0 = some r) :
    Calls P 21 #[(Pt b_p0 0)] w (fun e w' => ∃ I' w_rw0, e = .returned (vC r w_rw0) ∧ I.Le I' ∧ St E w' I' ((Bx b_p0 (cs_r22_Chain p0 w_p0) 98) :: w_p0.All.C :: w_p0.Pins.C :: w_p0.Heard.C :: Os) ∧ ok_qC I' r w_rw0) := by
 refine calls_W (fn := Tryz.f21) rfl rfl rfl ?_
 unfold r22_Chain_Now at D
 refine yg [0] (yab hS (cs_qC z_qC zw_qC) 29 z fun b1 w4 S3 => yb (W.seq (have S5 := S3.drew; ya1 nL13 10 (ym (S5.rd m1) (ym (S5.rd m2) (ym (S5.rd m3) (ym (S5.rd m4) (yx S5.im))))) ?_)))
 generalize World.drew _ = w6 at *
 refine yf 0 3 [0] z (yj (rd_c m0 (S5.rd m1)) z (yf 4 3 [0] z (yj (rd_c m0 (S5.rd m1)) z (ya 8 2 z (WO.tail z ?_)))))
 obtain ⟨x7, D, Hx7, _, ⟨w_x7, rfl, h_x7⟩, Zx7⟩ := sl_ix (h_p0.All.sl) D
 exact y0 29 4 Hx7 z (yaq ((cs_qC x7 w_x7)) Zx7 0 (S5.rf m2) z (yaa S5 0 (cs_qC x7 w_x7) fun w9 S8 => yb (yp (sj D ▸ En.c1 _ (S8.rd m0) ⟨I, w_x7, rfl, lr, S8.drop, h_x7⟩))))
def r22_Chain_Pin (p0 : r22_Chain) (p1 : Int) : Option (Int × Int × r22_Chain) := (bif ((decide (p1 < 1)) || (decide (p1 > 8))) then some (0, 2, p0) else (idx p0.Pins p1).bind (fun x3 => (bif (decide (x3 ≥ 0)) then some (0, 19, p0) else (idx p0.Pins p1).bind (fun x6 => (r22_Chain_Now ({ p0 with Pins := (p0.Pins.set (p1).toNat (w64 ((p0.All.length : Int) - 1))) })).bind (fun r23 => some (r23.Version, 0, { p0 with Pins := (p0.Pins.set (p1).toNat (w64 ((p0.All.length : Int) - 1))) }))))))
theorem r22_Chain_Pin_ok {p0 : r22_Chain} {p1 : Int} {b_p0 : Nat} {w_p0 : W_r22_Chain} (h_p0 : ok_r22_Chain I p0 w_p0) (hS : St E w I ((Bx b_p0 (cs_r22_Chain p0 w_p0) 98) :: (w_p0.All.C) :: (w_p0.Pins.C) :: (w_p0.Heard.C) :: Os)) {r : Int × Int × r22_Chain} (D : r22_Chain_Pin p0 p1 = some r) :
    Calls P 25 #[(Pt b_p0 0), (Iv p1)] w (fun e w' => ∃ I' w_rp0, e = .returned (.tuple #[(Iv r.1), (Iv r.2.1)]) ∧ I.Le I' ∧ St E w' I' ((Bx b_p0 (cs_r22_Chain r.2.2 w_rp0) 98) :: w_rp0.All.C :: w_rp0.Pins.C :: w_rp0.Heard.C :: Os) ∧ ok_r22_Chain I' r.2.2 w_rp0) := by
 refine calls_W (fn := Tryz.f25) rfl rfl rfl ?_
 unfold r22_Chain_Pin at D
 refine yg nL2 (ya 0 2 z (yb (W.seq (yg nL6 (ya 0 3 z (yav [3, 4] 5 8 11 (.refl ((decide (p1 < 1)) || (decide (p1 > 8)))) (fun _ => ya 3 3 z yak) (yb (y6 D (fun G D => ?_) (fun G D => ?_)))))))))
 exact yg nL2 (ya 0 2 z (yb (yp (yh (sj D ▸ yaz ⟨I, w_p0, rfl, lr, hS, h_p0⟩)))))
 refine W.skip (ye (W.seq (yg nL8 (yf 0 3 [1] z (yj (hS.rf m0) z (ya 4 1 z ?_))))))
 obtain ⟨x3, D, Hx3, _, rfl, Zx3⟩ := sl_ix (h_p0.Pins.sl) D
 refine y0 3 1 Hx3 z (yan Zx3 (hS.rf m2) z (ya 7 1 z (yb (y6 D (fun G D => ?_) (fun G D => ?_)))))
 exact yg nL2 (ya 0 2 z (yb (yp (yh (sj D ▸ yaz ⟨I, w_p0, rfl, lr, hS, h_p0⟩)))))
 refine W.skip (ye (W.seq (have S4 := hS.drew; ya1 nL13 11 (ym (S4.rd m0) (ym (S4.rd m1) (ym (S4.rd m2) (ym (S4.rd m3) (yx S4.im))))) ?_)))
 generalize World.drew _ = w5 at *
 refine yf 0 3 [1] z (yj (rd_c m0 (S4.rd m0)) z (yf 4 4 [0] z (yj (rd_c m0 (S4.rd m0)) z (ya 9 2 z (WO.tail z ?_)))))
 obtain ⟨x6, D, h0_x6, h1_x6, Xx6, ha_x6, _, _, rfl, Zx6⟩ := sl_at (h_p0.Pins.sl) D
 refine ya4 3 1 ha_x6 h0_x6 h1_x6 ?_
 refine ya2 S4.front2 h_p0.Pins z kr z Xx6 (u' := (w64 ((p0.All.length : Int) - 1))) 0 z z kr z z (fun cs hrel => (by obtain rfl := hrel; exact z)) tv ?_
 intro w9 C10 S8 ho11
 refine y8 15 z (show Value.slice w_p0.Pins.a p0.Pins.length w_p0.Pins.c = Value.slice w_p0.Pins.a (p0.Pins.set (p1).toNat (w64 ((p0.All.length : Int) - 1))).length w_p0.Pins.c by simp only [List.length_set]) ?_
 refine y8 23 z (show Value.slice w_p0.Pins.a p0.Pins.length w_p0.Pins.c = Value.slice w_p0.Pins.a (p0.Pins.set (p1).toNat (w64 ((p0.All.length : Int) - 1))).length w_p0.Pins.c by simp only [List.length_set]) ?_
 have S12 : St E w9 I ((C10) :: (Bx b_p0 (cs_r22_Chain ({ p0 with Pins := (p0.Pins.set (p1).toNat (w64 ((p0.All.length : Int) - 1))) }) ({ w_p0 with Pins := ⟨w_p0.Pins.a, w_p0.Pins.c, C10⟩ })) 98) :: (w_p0.All.C) :: (w_p0.Heard.C) :: Os) := by have hq := S8; simp only [cs_r22_Chain, List.length_set] at hq ⊢; exact hq
 refine yac nL5 (ya 0 1 z ?_)
 have hk17 : ok_r22_Chain I ({ p0 with Pins := (p0.Pins.set (p1).toNat (w64 ((p0.All.length : Int) - 1))) }) ({ w_p0 with Pins := ⟨w_p0.Pins.a, w_p0.Pins.c, C10⟩ }) := ⟨h_p0.All, ho11, h_p0.Heard⟩
 refine bsk D fun r23 Xr18 D => yae (r22_Chain_Now_ok hk17 S12.front3.front1.front3.front3 Xr18) ?_
 rintro _ w19 ⟨I20, w_r23, rfl, L21, S22, h_r23⟩
 refine cv (yaf 2 34 (Iv r23.Version) (ya 3 2 z (yb (yp ?_))))
 have hk24 : ok_r22_Chain I20 ({ p0 with Pins := (p0.Pins.set (p1).toNat (w64 ((p0.All.length : Int) - 1))) }) ({ w_p0 with Pins := ⟨w_p0.Pins.a, w_p0.Pins.c, C10⟩ }) := ⟨(OwnSl.mono h_p0.All L21), (OwnSl.mono ho11 L21), (OwnSl.mono h_p0.Heard L21)⟩
 exact sj D ▸ yaz ⟨I20, ({ w_p0 with Pins := ⟨w_p0.Pins.a, w_p0.Pins.c, C10⟩ }), rfl, L21, S22, hk24⟩
def r22_Chain_Publish (p0 : r22_Chain) (p1 : qC) : Option (Int × r22_Chain) := (r22_Chain_Now p0).bind (fun r16 => (bif (decide (p1.Version ≤ r16.Version)) then some (2, p0) else (app 80 p0.All ([p1] : List qC)).bind (fun x29 => some (0, { p0 with All := x29 }))))
theorem r22_Chain_Publish_ok {p0 : r22_Chain} {p1 : qC} {b_p0 : Nat} {w_p0 : W_r22_Chain} {w_p1 : W_qC} (h_p0 : ok_r22_Chain I p0 w_p0) (h_p1 : ok_qC I p1 w_p1) (hS : St E w I ((Bx b_p0 (cs_r22_Chain p0 w_p0) 98) :: (w_p0.All.C) :: (w_p0.Pins.C) :: (w_p0.Heard.C) :: Os)) {r : Int × r22_Chain} (D : r22_Chain_Publish p0 p1 = some r) :
    Calls P 41 #[(Pt b_p0 0), (vC p1 w_p1)] w (fun e w' => ∃ I' w_rp0, e = .returned (Iv r.1) ∧ I.Le I' ∧ St E w' I' ((Bx b_p0 (cs_r22_Chain r.2 w_rp0) 98) :: w_rp0.All.C :: w_rp0.Pins.C :: w_rp0.Heard.C :: Os) ∧ ok_r22_Chain I' r.2 w_rp0) := by
 refine calls_W (fn := Tryz.f41) rfl rfl rfl ?_
 unfold r22_Chain_Publish at D
 refine yg nL2 (yab hS (cs_qC p1 w_p1) 29 z fun b1 w4 S3 => ya 1 1 z (yb (W.seq (W.seq (have S5 := S3.drew; ya1 nL6 5 (ym (S5.rd m0) (yx S5.im)) ?_)))))
 generalize World.drew _ = w6 at *
 refine yf 0 1 [0] z (yj (rd_c m0 (S5.rd m0)) z (ya 2 1 z (bsk D fun r16 Xr11 D => yae (r22_Chain_Now_ok h_p0 S5.front4.front4.front4.front4 Xr11) ?_)))
 rintro _ w12 ⟨I13, w_r16, rfl, L14, S15, h_r16⟩
 refine ⟨_, rfl, (ym (S15.rd m4) (yx (S15.im.of_le L14))), ?_⟩
 refine yaf 4 9 (Iv r16.Version) (WO.tail z (ya 5 1 z (yb (y6 D (fun G D => ?_) (fun G D => ?_)))))
 exact yg [0] (ya 0 1 z (yb (yp (yh (sj D ▸ yw ⟨I13, w_p0, rfl, L14, S15.front4.drop, (h_p0.mono L14)⟩)))))
 refine W.skip (ye (W.seq (have S19 := S15.drew; ya1 nL11 7 (ym (S19.rd m0) (ym (S19.rd m1) (ym (S19.rd m2) (ym (S19.rd m3) (ym (S19.rd m4) (yx S19.im)))))) ?_)))
 generalize World.drew _ = w20 at *
 refine yf 0 4 [0] z (yj (rd_c m0 (S19.rd m0)) z (y7 ((cs_qC p1 w_p1)) (rd_c m4 (S19.rd m4)) z (yad (rel := R_qC) (xs := ([p1] : List qC)) S19 z kr z 29 4 [(cs_qC p1 w_p1)] kr z ((Elr.cons ⟨w_p1, rfl, (h_p1.mono L14)⟩ Elr.nil)) (fun C22 w26 S25 => (ym (S25.rd m1) (ym (S25.rd m2) (ym (S25.rd m3) (ym (S25.rd m4) (ym (S25.rd m5) (yx S25.im))))))) ?_)))
 intro a24 C22 w26 S25 ho23
 refine WO.tail z (have S28 := S25.front2; apk D fun x29 h0_x29 he_x29 D => yau 29 80 (cs_qC z_qC zw_qC) S28 (OwnSl.mono h_p0.All L14) ho23.sl (S28.rd m1) h0_x29 he_x29 z fun a30 c31 w32 C33 S34 ho35 => yf 8 2 [0] z (yaa S34.front1.drop.front1 0 (cs_r22_Chain ({ p0 with All := x29 }) ({ w_p0 with All := ⟨a30, c31, C33⟩ })) fun w40 S39 => yac [0] (ya 0 1 z (yb (yp ?_)))))
 have hk43 : ok_r22_Chain I13 ({ p0 with All := x29 }) ({ w_p0 with All := ⟨a30, c31, C33⟩ }) := ⟨ho35, (OwnSl.mono h_p0.Pins L14), (OwnSl.mono h_p0.Heard L14)⟩
 exact sj D ▸ yw ⟨I13, ({ w_p0 with All := ⟨a30, c31, C33⟩ }), rfl, L14, S39.front4.drop, hk43⟩
def chain_Chain_Unpin (h : chain_Chain) (who : Int) : Option (Int × chain_Chain) :=
  (chain_Chain_check h who).bind fun e => bif e != 0 then some (e, h) else bif !mhas iEq h.pins who then some (4, h) else
    (mget iEq h.live ((mget iEq h.pins who).getD 0)).bind fun k => (chain_Chain_trim { h with pins := mdel iEq h.pins who, live := mset iEq h.live ((mget iEq h.pins who).getD 0) { k with pins := w64 (k.pins - 1) } }).bind fun h' => some (0, h')
theorem chain_Chain_Unpin_ok {p0 : chain_Chain} {p1 : Int} {b_p0 : Nat} {w_p0 : W_chain_Chain} (h_p0 : ok_chain_Chain I p0 w_p0) (hS : St E w I (Bx b_p0 (cs_chain_Chain p0 w_p0) 88 :: w_p0.live.C :: w_p0.pins.C :: w_p0.news.C :: Os)) {r : Int × chain_Chain} (D : chain_Chain_Unpin p0 p1 = some r) :
    Calls P 26 #[Pt b_p0 0, Iv p1] w (fun e w' => ∃ (I' : Mem) (w_rp0 : W_chain_Chain), e = .returned (Iv r.1) ∧ I.Le I' ∧ St E w' I' (Bx b_p0 (cs_chain_Chain r.2 w_rp0) 88 :: w_rp0.live.C :: w_rp0.pins.C :: w_rp0.news.C :: Os) ∧ ok_chain_Chain I' r.2 w_rp0) := by
  refine calls_W (args := [Pt b_p0 0, Iv p1]) (fn := Tryz.f26) rfl rfl rfl ?_
  unfold chain_Chain_Unpin at D
  obtain ⟨e, he, D⟩ := bind_some D
  obtain ⟨v1, hv1, hq1⟩ := h_p0.pins.lookup (P := P) (t := 85) (kt := 3) (et := 3) kr (keyLaw_int (kt := 3) kr) p1 (zv := Iv 0) (z0 := (0 : Int)) kr rfl
  obtain rfl : v1 = Iv ((mget iEq p0.pins p1).getD 0) := (List.cons.inj (show [v1] = [Iv _] from hv1)).1
  refine yg [0] (ya 0 1 z (yb (W.seq (yg nL4 (ya 0 2 z (WO.c1 (chain_Chain_check_ok h_p0 hS he) z fun I2 w2 L2 S2 => ya 3 1 z (yb (yg nL2 (ya 0 2 z (yb (y6 D (fun G D => ?_) (fun G D => ?_))))))))))))
  · exact yg nL2 (ya 0 2 rfl (yb (yp (yh (sj D ▸ yw ⟨I2, w_p0, rfl, L2, S2, h_p0.mono L2⟩)))))
  refine W.skip (ye (yg nL11 (yf 0 3 [2] z (yj (S2.rf m0) z (ya 4 1 z ?_)))))
  refine WO.lookup z kr z z hq1 (rd_f (S2.rd m2)) (.tuple #[Iv ((mget iEq p0.pins p1).getD 0), .bool (mhas iEq p0.pins p1)]) z ?_
  refine ya 6 5 z (yb (W.seq (yg nL2 (ya 0 2 z (yb (y6 D (fun G D => ?_) (fun G D => ?_)))))))
  · exact yg [0] (ya 0 1 rfl (yb (yp (yh (sj D ▸ yw ⟨I2, w_p0, rfl, L2, S2, h_p0.mono L2⟩)))))
  obtain ⟨k, hk, D⟩ := bind_some D
  obtain ⟨h', ht, D⟩ := bind_some D
  refine W.skip (ye (yg nL6 (yf 0 3 [2] z (yj (S2.rf m0) z (ya 4 1 z ?_)))))
  refine WO.delete (OwnMap.mono h_p0.pins L2) S2.front2 (t := 85) (kt := 3) (et := 3) kr (keyLaw_int (kt := 3) kr) z kr z z p1 z tv ?_
  intro w4 C4 S4 hm4
  obtain ⟨Cm, lm, b, cs, hcm, hm, hg, hh, hC, G, ⟨wk, rfl, hok⟩, hput⟩ := (h_p0.live.mono L2).look ieqP hk
  obtain ⟨v, hv, hq⟩ := hm.lookup (P := P) (t := 84) (kt := 3) (et := 81) kr (keyLaw_int (kt := 3) kr) ((mget iEq p0.pins p1).getD 0) (zv := .pointer none) (z0 := (none : Option Nat)) kr rfl
  rw [hg] at hv
  obtain rfl : v = Pt b 0 := hv
  refine yb (yg nL13 (yf 0 3 [0] z (yj (S4.rf m1) z (ya 4 1 z ?_))))
  refine WO.lookup z kr z z hq (fun w' hw => hcm w' (rd_f (S4.rd m2) w' hw)) (Pt b 0) z ?_
  refine yf 6 2 [4] z (yar G 4 (S4.rf m2) z (yf 9 3 [4] z ?_))
  refine ybr S4.front2 z kr z (v := Iv (w64 (k.pins - 1))) z z kr (by intro u hu; simp [Value.cells] at hu; subst hu; rfl) hC (by show 4 + 1 ≤ 5; omega) tv ?_
  intro w6 S6
  have S7 : St E w6 I2 (w_p0.live.C.set b (.cells (cs_chain_kept { k with pins := w64 (k.pins - 1) } wk).toArray 83 (0, 0)) :: C4 :: Bx b_p0 (cs_chain_Chain p0 w_p0) 88 :: w_p0.news.C :: Os) := S6
  refine yb (yg nL2 (ya 0 1 z (yae (chain_Chain_trim_ok (h := { p0 with pins := mdel iEq p0.pins p1, live := mset iEq p0.live ((mget iEq p0.pins p1).getD 0) { k with pins := w64 (k.pins - 1) } }) (v := ⟨⟨w_p0.live.m, w_p0.live.C.set b (.cells (cs_chain_kept { k with pins := w64 (k.pins - 1) } wk).toArray 83 (0, 0))⟩, ⟨w_p0.pins.m, C4⟩, w_p0.news⟩) (hput I2 _ _ (Mem.Le.refl _) ⟨wk, rfl, ⟨hok.c⟩⟩) S7.front2 ht) ?_)))
  rintro _ w8 ⟨C8, rfl, S8, hP8⟩
  have e8 := trim_eq ht
  obtain rfl := Option.some.inj D
  refine cv (yb (yg [0] (ya 0 1 z (yb (yp (yw ⟨I2, ⟨⟨w_p0.live.m, C8⟩, ⟨w_p0.pins.m, C4⟩, w_p0.news⟩, rfl, L2, ?_, ?_⟩))))))
  · rw [e8]; exact S8
  · rw [e8]; exact ⟨hP8, hm4, SMap.mono h_p0.news L2⟩
def r22_Chain_Unpin (p0 : r22_Chain) (p1 : Int) : Option (Int × r22_Chain) := (bif ((decide (p1 < 1)) || (decide (p1 > 8))) then some (2, p0) else (idx p0.Pins p1).bind (fun x3 => (bif (decide (x3 < 0)) then some (4, p0) else (idx p0.Pins p1).bind (fun x4 => some (0, { p0 with Pins := (p0.Pins.set (p1).toNat (-1)) })))))
theorem r22_Chain_Unpin_ok {p0 : r22_Chain} {p1 : Int} {b_p0 : Nat} {w_p0 : W_r22_Chain} (h_p0 : ok_r22_Chain I p0 w_p0) (hS : St E w I ((Bx b_p0 (cs_r22_Chain p0 w_p0) 98) :: (w_p0.All.C) :: (w_p0.Pins.C) :: (w_p0.Heard.C) :: Os)) {r : Int × r22_Chain} (D : r22_Chain_Unpin p0 p1 = some r) :
    Calls P 42 #[(Pt b_p0 0), (Iv p1)] w (fun e w' => ∃ I' w_rp0, e = .returned (Iv r.1) ∧ I.Le I' ∧ St E w' I' ((Bx b_p0 (cs_r22_Chain r.2 w_rp0) 98) :: w_rp0.All.C :: w_rp0.Pins.C :: w_rp0.Heard.C :: Os) ∧ ok_r22_Chain I' r.2 w_rp0) := by
 refine calls_W (fn := Tryz.f42) rfl rfl rfl ?_
 unfold r22_Chain_Unpin at D
 refine yg [0] (ya 0 1 z (yb (W.seq (yg nL6 (ya 0 3 z (yav [3, 4] 5 7 10 (.refl ((decide (p1 < 1)) || (decide (p1 > 8)))) (fun _ => ya 3 3 z yak) (yb (y6 D (fun G D => ?_) (fun G D => ?_)))))))))
 exact yg [0] (ya 0 1 z (yb (yp (yh (sj D ▸ yw ⟨I, w_p0, rfl, lr, hS, h_p0⟩)))))
 refine W.skip (ye (W.seq (yg nL8 (yf 0 3 [1] z (yj (hS.rf m0) z (ya 4 1 z ?_))))))
 obtain ⟨x3, D, Hx3, _, rfl, Zx3⟩ := sl_ix (h_p0.Pins.sl) D
 refine y0 3 1 Hx3 z (yan Zx3 (hS.rf m2) z (ya 7 1 z (yb (y6 D (fun G D => ?_) (fun G D => ?_)))))
 exact yg [0] (ya 0 1 z (yb (yp (yh (sj D ▸ yw ⟨I, w_p0, rfl, lr, hS, h_p0⟩)))))
 refine W.skip (ye (yg nL7 (yf 0 3 [1] z (yj (hS.rf m0) z (ya 4 1 z ?_)))))
 obtain ⟨x4, D, h0_x4, h1_x4, Xx4, ha_x4, _, _, rfl, Zx4⟩ := sl_at (h_p0.Pins.sl) D
 refine ya4 3 1 ha_x4 h0_x4 h1_x4 ?_
 refine ya2 hS.front2 h_p0.Pins z kr z Xx4 (u' := (-1)) 0 z z kr z z (fun cs hrel => (by obtain rfl := hrel; exact z)) tv ?_
 intro w7 C8 S6 ho9
 refine y8 14 z (show Value.slice w_p0.Pins.a p0.Pins.length w_p0.Pins.c = Value.slice w_p0.Pins.a (p0.Pins.set (p1).toNat (-1)).length w_p0.Pins.c by simp only [List.length_set]) ?_
 refine y8 22 z (show Value.slice w_p0.Pins.a p0.Pins.length w_p0.Pins.c = Value.slice w_p0.Pins.a (p0.Pins.set (p1).toNat (-1)).length w_p0.Pins.c by simp only [List.length_set]) ?_
 have S10 : St E w7 I ((C8) :: (Bx b_p0 (cs_r22_Chain ({ p0 with Pins := (p0.Pins.set (p1).toNat (-1)) }) ({ w_p0 with Pins := ⟨w_p0.Pins.a, w_p0.Pins.c, C8⟩ })) 98) :: (w_p0.All.C) :: (w_p0.Heard.C) :: Os) := by have hq := S6; simp only [cs_r22_Chain, List.length_set] at hq ⊢; exact hq
 refine yac [0] (ya 0 1 z (yb (yp ?_)))
 have hk15 : ok_r22_Chain I ({ p0 with Pins := (p0.Pins.set (p1).toNat (-1)) }) ({ w_p0 with Pins := ⟨w_p0.Pins.a, w_p0.Pins.c, C8⟩ }) := ⟨h_p0.All, ho9, h_p0.Heard⟩
 exact sj D ▸ yw ⟨I, ({ w_p0 with Pins := ⟨w_p0.Pins.a, w_p0.Pins.c, C8⟩ }), rfl, lr, S10.front3.front1.front3.front3, hk15⟩
noncomputable def r22_into (p0 : List By8) (p1 : By8) : Option (List By8) := (loopO (fun (s4 : Int) => ((bif (decide (s4 < (p0.length : Int))) then (idx p0 s4).bind (fun x13 => some (sLt x13 p1)) else some false)).bind (fun (j9 : Bool) => (bif j9 then some (.inl (w64 (s4 + 1))) else some (.inr s4)))) 0).bind (fun (s17 : Int) => ((bif (decide (s17 < (p0.length : Int))) then (idx p0 s17).bind (fun x22 => some (sEq x22 p1)) else some false)).bind (fun (j18 : Bool) => (bif j18 then some p0 else (sub p0 0 s17).bind (fun x25 => (app 16 ([] : List By8) x25).bind (fun x28 => (app 16 x28 ([p1] : List By8)).bind (fun x43 => (sub p0 s17 (p0.length : Int)).bind (fun x52 => (app 16 x43 x52).bind (fun x53 => some x53))))))))
theorem r22_into_ok {p0 : List By8} {p1 : By8} {a_p0 : Option Addr} {c_p0 : Nat} (h_p0 : RSl 1 RStr I a_p0 c_p0 p0) (hS : St E w I Os) {r : (List By8)} (D : r22_into p0 p1 = some r) :
    Calls P 38 #[(Sl a_p0 p0 c_p0), (.string p1)] w (fun e w' => ∃ (I' : Mem) (ra0 : Option Addr) (rc0 : Nat), e = .returned (Sl ra0 r rc0) ∧ I.Le I' ∧ St E w' I' Os ∧ RSl 1 RStr I' ra0 rc0 r) := by
 refine calls_W (fn := Tryz.f38) rfl rfl rfl ?_
 unfold r22_into at D
 refine yg [0] (yaf 0 4 (.slice none 0 0) (yac [0] (ya 0 1 z (yb (W.seq (yn (bsk D fun t1 hloop5 D => W.wk (ya7 hloop5 (fun (s4 : Int) => JI E I [(0, Sl a_p0 p0 c_p0), (1, .string p1), (5, Iv s4)] Os) ⟨I, rfl, lr, hS⟩ ?_))))))))
 rintro s4 _ w6 ⟨I2, rfl, L3, S7⟩ x8 R1 hext1
 refine W.seq (yg nL12 (ya 0 5 z (bsk R1 fun j9 R2 R1 => yam (l1 := [5, 6, 7, 8, 9, 10, 11]) (J := JI E I2 [(0, Sl a_p0 p0 c_p0), (1, .string p1), (5, Iv s4), (18, .bool j9)] Os) ?_ ?_)))
 refine yal R2 (fun G R2 => ?_) (fun G R2 => ?_)
 refine yz 11 G (ya 5 2 z ?_)
 obtain ⟨x13, R2, Hx13, _, rfl, Zx13⟩ := sx I2 h_p0 R2
 exact y0 9 1 Hx13 z (yan Zx13 S7.rm z (ya 9 1 z (yaf 10 17 (.bool (sLt x13 p1)) (ya 11 1 z (sj R2 ▸ yy ⟨I2, rfl, lr, S7⟩)))))
 refine yz 11 G ?_
 iterate 6 refine WO.ps ?_
 exact ya 11 1 z (sj R2 ▸ yy ⟨I2, rfl, lr, S7⟩)
 rintro _ w14 ⟨I11, rfl, L12, S15⟩
 refine yb (y6 R1 (fun G R1 => ?_) (fun G R1 => ?_))
 exact W.skip (ye (yn (yai nL3 (ya 0 3 z (yt (yl (yv ⟨(w64 (s4 + 1)), (sj R1).symm, I11, rfl, le, S15⟩)))))))
 refine W.exit (yo (yq ?_))
 obtain rfl := hext1 _ (sj R1).symm
 refine yu (ye (W.seq (yg nL12 (ya 0 5 z (bsk D fun j64 R1 D => yam (l1 := [5, 6, 7, 8, 9, 10, 11]) (J := JI E I11 [(0, Sl a_p0 p0 c_p0), (1, .string p1), (5, Iv s4), (32, .bool j64)] Os) ?_ ?_)))))
 refine yal R1 (fun G R1 => ?_) (fun G R1 => ?_)
 refine yz 25 G (ya 5 2 z ?_)
 obtain ⟨x68, R1, Hx68, _, rfl, Zx68⟩ := sx I11 h_p0 R1
 exact y0 9 1 Hx68 z (yan Zx68 S15.rm z (ya 9 3 z (sj R1 ▸ yy ⟨I11, rfl, lr, S15⟩)))
 refine yz 25 G ?_
 iterate 6 refine WO.ps ?_
 exact ya 11 1 z (sj R1 ▸ yy ⟨I11, rfl, lr, S15⟩)
 rintro _ w69 ⟨I66, rfl, L67, S70⟩
 refine yb (y6 D (fun G D => ?_) (fun G D => ?_))
 exact yg nL2 (ya 0 2 z (yb (yp (yh (sj D ▸ yw ⟨I66, a_p0, c_p0, rfl, le, S70, (up h_p0)⟩)))))
 refine W.skip (ye (yg [0] (yaf 0 6 (.slice none 0 0) (yac nL6 (ya 0 3 z ?_)))))
 obtain ⟨x71, Xx71, D⟩ := bsm D
 obtain ⟨h0_x71, h1_x71, h2_x71, he_x71⟩ := sub_some Xx71
 have hl_x71 : (s4 : Int) ≤ (c_p0 : Int) := Int.le_trans h2_x71 (Int.ofNat_le.2 ((RSl.mono h_p0 ((L3.trans L12).trans L67))).le)
 refine ya3 (e := 9) (sz := 1) z kr kr kr z (0 : Int) (s4 : Int) h0_x71 (.inl ⟨rfl, rfl⟩) (.inr ⟨_, _, rfl, rfl⟩) h1_x71 hl_x71 ?_
 obtain ⟨a_x71, c_x71, h_x71, ev_x71⟩ := sub_ok ((RSl.mono h_p0 ((L3.trans L12).trans L67))) h0_x71 h1_x71 h2_x71 he_x71
 refine y8 37 z ev_x71 ?_
 have S73 := S70.no
 refine apk D fun x74 h0_x74 he_x74 D => ya6 (e' := 9) (b := 16) (zs := #[(.string eB)]) S73 (OwnSl.nil (T := 9) (rel := RStr) (I := I66)) z kr z kr kr kr z z z z h_x71 S73.im h0_x74 he_x74 tv ?_
 intro a75 c76 w77 C78 S79 ho80
 refine ya 5 1 z (yac nL5 (ya 0 2 z (yad (rel := RStr) (xs := ([p1] : List By8)) S79 z kr z 9 1 [[(.string p1)]] kr z ((Elr.cons z Elr.nil)) tv ?_)))
 intro a84 C82 w86 S85 ho83
 have S88 := S85.front1
 refine apk D fun x89 h0_x89 he_x89 D => yau 9 16 [(.string eB)] S88 ho80 ho83.sl (S88.rd m1) h0_x89 he_x89 z fun a90 c91 w92 C93 S94 ho95 => have S97 := S94.front1.drop; ya 4 1 z (yac nL6 (ya 0 3 z ?_))
 obtain ⟨x98, Xx98, D⟩ := bsm D
 obtain ⟨h0_x98, h1_x98, h2_x98, he_x98⟩ := sub_some Xx98
 have hl_x98 : ((p0.length : Int) : Int) ≤ (c_p0 : Int) := Int.le_trans h2_x98 (Int.ofNat_le.2 ((RSl.mono h_p0 ((L3.trans L12).trans L67))).le)
 refine ya3 (e := 9) (sz := 1) z kr kr kr z (s4 : Int) ((p0.length : Int) : Int) h0_x98 (.inr ⟨_, _, rfl, rfl⟩) (.inl ⟨rfl, rfl⟩) h1_x98 hl_x98 ?_
 obtain ⟨a_x98, c_x98, h_x98, ev_x98⟩ := sub_ok ((RSl.mono h_p0 ((L3.trans L12).trans L67))) h0_x98 h1_x98 h2_x98 he_x98
 refine y8 46 z ev_x98 ?_
 refine apk D fun x99 h0_x99 he_x99 D => yau 9 16 [(.string eB)] S97 ho95 h_x98 S97.im h0_x99 he_x99 z ?_
 intro a100 c101 w102 C103 S104 ho105
 obtain ⟨I106, L107, S109, hp108⟩ := yag ho105 S104
 exact ya 5 1 z (yb (yp (sj D ▸ yw ⟨I106, a100, c101, rfl, le, S109, hp108⟩)))
noncomputable def r18_Same (p0 : List qJ) (p1 : List qJ) : Option Bool := (bif ((p0.length : Int) != (p1.length : Int)) then some false else (forN (fun (i4 : Nat) (_s : Unit) => (idx p0 (i4 : Int)).bind (fun x13 => (idx p1 (i4 : Int)).bind (fun x14 => ((bif (!sEq x13.Name x14.Name) then some true else (idx p0 (i4 : Int)).bind (fun x19 => (idx p1 (i4 : Int)).bind (fun x20 => some ((x19.In.length : Int) != (x20.In.length : Int)))))).bind (fun (j15 : Bool) => (bif j15 then some (.inr false) else (loopO (fun (s28 : Int) => (idx p0 (i4 : Int)).bind (fun x33 => (bif (decide (s28 < (x33.In.length : Int))) then (idx p0 (i4 : Int)).bind (fun x36 => (idx x36.In s28).bind (fun x37 => (idx p1 (i4 : Int)).bind (fun x38 => (idx x38.In s28).bind (fun x39 => (bif (!sEq x37 x39) then some (.inr (.inl false)) else some (.inl (w64 (s28 + 1)))))))) else some (.inr (.inr ()))))) 0).bind (fun (t : Bool ⊕ Unit) => match t with | (.inl s41) => some (.inr s41) | (.inr ()) => some (.inl ()))))))) p0.length 0 ()).bind (fun (t : Unit ⊕ (Bool)) => match t with | .inl _ => some true | .inr s24 => some s24))
theorem r18_Same_ok {p0 : List qJ} {p1 : List qJ} {a_p0 : Option Addr} {c_p0 : Nat} {a_p1 : Option Addr} {c_p1 : Nat} (h_p0 : RSl 2 R_qJ I a_p0 c_p0 p0) (h_p1 : RSl 2 R_qJ I a_p1 c_p1 p1) (hS : St E w I Os) {r : Bool} (D : r18_Same p0 p1 = some r) :
    Calls P 39 #[(Sl a_p0 p0 c_p0), (Sl a_p1 p1 c_p1)] w (RT E I Os (.bool r)) := by
 refine calls_W (fn := Tryz.f39) rfl rfl rfl ?_
 unfold r18_Same at D
 refine yg [0] (ya 0 1 z (yb (W.seq (yg nL5 (ya 0 5 z (yb (y6 D (fun G D => ?_) (fun G D => ?_))))))))
 exact yg [0] (ya 0 1 z (yb (yp (yh (sj D ▸ yw ⟨I, rfl, lr, hS⟩)))))
 refine W.skip (ye (W.seq (yg [0] (ya 0 1 z (yb (yn (bsk D fun t1 hloop5 D => have hlt9 := (h_p0).len_lt; W.wk (yap (m := p0.length) hloop5 (fun (i4 : Nat) (_s : Unit) => JI E I [(0, Sl a_p0 p0 c_p0), (1, Sl a_p1 p1 c_p1), (5, Nv i4)] Os) ⟨I, rfl, lr, hS⟩ ?_ ?_))))))))
 rintro i4 _ _ w6 hi10 ⟨I2, rfl, L3, S7⟩ x8 R1 hext1
 refine W.seq (yg nL4 (ya 0 4 z (yb (yat fun _ => W.skip (ye (W.seq (yn (W.seq (W.seq (have S11 := S7.drew; ya1 nL26 26 (yx S11.im) ?_))))))))))
 generalize World.drew _ = w12 at *
 refine ya 0 2 z ?_
 obtain ⟨x13, R1, Hx13, _, ⟨w_x13, rfl, h_x13⟩, Zx13⟩ := sx I2 h_p0 R1
 refine y0 107 2 Hx13 z (yf 3 1 [0] z (yan Zx13 (rd_i S11.im) z (ya 5 2 z ?_)))
 obtain ⟨x14, R1, Hx14, _, ⟨w_x14, rfl, h_x14⟩, Zx14⟩ := sx I2 h_p1 R1
 refine y0 107 2 Hx14 z (yf 8 1 [0] z (yan Zx14 (rd_i S11.im) z (ya 10 2 z (bsk R1 fun j15 R2 R1 => yam (l1 := [12, 13, 14, 15, 16, 17, 18, 19, 20, 21, 22, 23, 24, 25]) (J := JI E I2 [(0, Sl a_p0 p0 c_p0), (1, Sl a_p1 p1 c_p1), (5, Nv i4), (43, .bool j15)] Os) ?_ ?_))))
 refine yal R2 (fun G R2 => ?_) (fun G R2 => ?_)
 refine yz 29 G ?_
 iterate 13 refine WO.ps ?_
 exact ya 25 1 z (sj R2 ▸ yy ⟨I2, rfl, lr, S11⟩)
 refine yz 29 G (ya 12 2 z ?_)
 obtain ⟨x19, R2, Hx19, _, ⟨w_x19, rfl, h_x19⟩, Zx19⟩ := sx I2 h_p0 R2
 refine y0 107 2 Hx19 z (yf 15 1 [1] z (yar Zx19 1 (rd_i S11.im) z (ya 17 3 z ?_)))
 obtain ⟨x20, R2, Hx20, _, ⟨w_x20, rfl, h_x20⟩, Zx20⟩ := sx I2 h_p1 R2
 exact y0 107 2 Hx20 z (yf 21 1 [1] z (yar Zx20 1 (rd_i S11.im) z (ya 23 3 z (sj R2 ▸ yy ⟨I2, rfl, lr, S11⟩))))
 rintro _ w21 ⟨I17, rfl, L18, S22⟩
 refine yb (y6 R1 (fun G R1 => ?_) (fun G R1 => ?_))
 refine yg [0] (ya 0 1 z (yb (yp (yh (yk (yh (yr ?_)))))))
 obtain rfl := hext1 _ (sj R1).symm
 exact yk (yh (sj D ▸ yw ⟨I17, rfl, le, S22⟩))
 refine W.skip (ye (yg [0] (ya 0 1 z (yb (yn (bsk R1 fun t25 hloop29 R1 => W.wk (ya7 hloop29 (fun (s28 : Int) => JI E I17 [(0, Sl a_p0 p0 c_p0), (1, Sl a_p1 p1 c_p1), (5, Nv i4), (6, Iv s28)] Os) ⟨I17, rfl, lr, S22⟩ ?_)))))))
 rintro s28 _ w30 ⟨I26, rfl, L27, S31⟩ x32 R2 hext25
 refine W.seq (yg nL8 (ya 0 3 z ?_))
 obtain ⟨x33, R2, Hx33, _, ⟨w_x33, rfl, h_x33⟩, Zx33⟩ := sx I26 h_p0 R2
 refine y0 107 2 Hx33 z (yf 4 1 [1] z (yar Zx33 1 S31.rm z (ya 6 2 z (yb (y6 R2 (fun G R2 => ?_) (fun G R2 => ?_))))))
 refine W.skip (ye (W.seq (yn (W.seq (have S34 := S31.drew; ya1 nL17 16 (yx S34.im) ?_)))))
 generalize World.drew _ = w35 at *
 refine ya 0 2 z ?_
 obtain ⟨x36, R2, Hx36, _, ⟨w_x36, rfl, h_x36⟩, Zx36⟩ := sx I26 h_p0 R2
 refine y0 107 2 Hx36 z (yf 3 1 [1] z (yar Zx36 1 (rd_i S34.im) z (ya 5 1 z ?_)))
 obtain ⟨x37, R2, Hx37, _, rfl, Zx37⟩ := sl_ix (h_x36.In) R2
 refine y0 9 1 Hx37 z (yan Zx37 (rd_i S34.im) z (ya 8 2 z ?_))
 obtain ⟨x38, R2, Hx38, _, ⟨w_x38, rfl, h_x38⟩, Zx38⟩ := sx I26 h_p1 R2
 refine y0 107 2 Hx38 z (yf 11 1 [1] z (yar Zx38 1 (rd_i S34.im) z (ya 13 1 z ?_)))
 obtain ⟨x39, R2, Hx39, _, rfl, Zx39⟩ := sl_ix (h_x38.In) R2
 refine y0 9 1 Hx39 z (yan Zx39 (rd_i S34.im) z (WO.tail z (ya 16 1 z (yb (y6 R2 (fun G R2 => ?_) (fun G R2 => ?_))))))
 refine yg [0] (ya 0 1 z (yb (yp (yk (yh (yr ?_))))))
 obtain rfl := hext25 _ (sj R2).symm
 refine yk (yk (yh (yr ?_)))
 obtain rfl := hext1 _ (sj R1).symm
 exact yk (yh (sj D ▸ yw ⟨I26, rfl, le, S34⟩))
 exact W.skip (yl (ye (yai nL3 (ya 0 3 z (yt (yv ⟨(w64 (s28 + 1)), (sj R2).symm, I26, rfl, L27, S34⟩))))))
 refine W.exit (yo (yq ?_))
 obtain rfl := hext25 _ (sj R2).symm
 exact yu (yl (ye (yai nL3 (ya 0 1 z (yao i4 z (ya 2 1 z (yt (yv ⟨(), (sj R1).symm, I26, rfl, le, S31⟩))))))))
 rintro _ _ w43 ⟨I2, rfl, L3, S44⟩ he
 cases he
 exact W.seq (yg nL4 (ya 0 4 z (yb (yas fun _ => W.exit (yo (yq (yu (ye (yg [0] (ya 0 1 z (yb (yp (sj D ▸ yw ⟨I2, rfl, L3, S44⟩)))))))))))))
def r19_Same (p0 : List qG) (p1 : List qG) : Option Bool := (bif ((p0.length : Int) != (p1.length : Int)) then some false else (forN (fun (i4 : Nat) (_s : Unit) => (idx p0 (i4 : Int)).bind (fun x13 => (idx p1 (i4 : Int)).bind (fun x14 => (bif (!(sEq x13.To x14.To && (sEq x13.By x14.By && (sEq x13.Table x14.Table && ((x13.Priv == x14.Priv) && (x13.Option == x14.Option)))))) then some (.inr false) else some (.inl ()))))) p0.length 0 ()).bind (fun (t : Unit ⊕ (Bool)) => match t with | .inl _ => some true | .inr s16 => some s16))
theorem r19_Same_ok {p0 : List qG} {p1 : List qG} {a_p0 : Option Addr} {c_p0 : Nat} {a_p1 : Option Addr} {c_p1 : Nat} (h_p0 : RSl 5 R_qG I a_p0 c_p0 p0) (h_p1 : RSl 5 R_qG I a_p1 c_p1 p1) (hS : St E w I Os) {r : Bool} (D : r19_Same p0 p1 = some r) :
    Calls P 40 #[(Sl a_p0 p0 c_p0), (Sl a_p1 p1 c_p1)] w (RT E I Os (.bool r)) := by
 refine calls_W (fn := Tryz.f40) rfl rfl rfl ?_
 unfold r19_Same at D
 refine yg [0] (ya 0 1 z (yb (W.seq (yg nL5 (ya 0 5 z (yb (y6 D (fun G D => ?_) (fun G D => ?_))))))))
 exact yg [0] (ya 0 1 z (yb (yp (yh (sj D ▸ yw ⟨I, rfl, lr, hS⟩)))))
 refine W.skip (ye (W.seq (yg [0] (ya 0 1 z (yb (yn (bsk D fun t1 hloop5 D => have hlt9 := (h_p0).len_lt; W.wk (yap (m := p0.length) hloop5 (fun (i4 : Nat) (_s : Unit) => JI E I [(0, Sl a_p0 p0 c_p0), (1, Sl a_p1 p1 c_p1), (5, Nv i4)] Os) ⟨I, rfl, lr, hS⟩ ?_ ?_))))))))
 rintro i4 _ _ w6 hi10 ⟨I2, rfl, L3, S7⟩ x8 R1 hext1
 refine W.seq (yg nL4 (ya 0 4 z (yb (yat fun _ => W.skip (ye (W.seq (yn (W.seq (have S11 := S7.drew; ya1 nL9 8 (yx S11.im) ?_)))))))))
 generalize World.drew _ = w12 at *
 refine ya 0 2 z ?_
 obtain ⟨x13, R1, Hx13, _, rfl, Zx13⟩ := sx I2 h_p0 R1
 refine y0 92 5 Hx13 z (yaq ((cs_qG x13)) Zx13 0 (rd_i S11.im) z (ya 4 2 z ?_))
 obtain ⟨x14, R1, Hx14, _, rfl, Zx14⟩ := sx I2 h_p1 R1
 refine y0 92 5 Hx14 z (yaq ((cs_qG x14)) Zx14 0 (rd_i S11.im) z (WO.tail z (ybe z kr z z kr 50 z (b := (sEq x13.To x14.To && (sEq x13.By x14.By && (sEq x13.Table x14.Table && ((x13.Priv == x14.Priv) && ((x13.Option == x14.Option) && true)))))) kr (!(sEq x13.To x14.To && (sEq x13.By x14.By && (sEq x13.Table x14.Table && ((x13.Priv == x14.Priv) && (x13.Option == x14.Option)))))) (.inr ⟨rfl, by simp only [Bool.and_true]⟩) ?_)))
 refine yb (y6 R1 (fun G R1 => ?_) (fun G R1 => ?_))
 refine yg [0] (ya 0 1 z (yb (yp (yk (yh (yr ?_))))))
 obtain rfl := hext1 _ (sj R1).symm
 exact yk (yh (sj D ▸ yw ⟨I2, rfl, L3, S11⟩))
 exact W.skip (yl (ye (yai nL3 (ya 0 1 z (yao i4 z (ya 2 1 z (yt (yv ⟨(), (sj R1).symm, I2, rfl, L3, S11⟩))))))))
 rintro _ _ w17 ⟨I2, rfl, L3, S18⟩ he
 cases he
 exact W.seq (yg nL4 (ya 0 4 z (yb (yas fun _ => W.exit (yo (yq (yu (ye (yg [0] (ya 0 1 z (yb (yp (sj D ▸ yw ⟨I2, rfl, L3, S18⟩)))))))))))))
noncomputable def r22_Changed (p0 : qC) (p1 : qC) : Option (List By8) := (app 112 ([] : List qT) p0.Tables).bind (fun x18 => (app 112 x18 p1.Tables).bind (fun x25 => (forE (fun (i40 : Nat) (s39 : List By8) => (idx x25 (i40 : Int)).bind (fun x48 => (r17_At p0 x48.Name).bind (fun r56 => (r17_At p1 x48.Name).bind (fun r62 => ((bif ((decide (r56 < 0)) || (decide (r62 < 0))) then some true else ((bif (decide ((i40 : Int) < (p0.Tables.length : Int))) then (idx p1.Tables r62).bind (fun x76 => (idx x25 (i40 : Int)).bind (fun x77 => ((bif (x76.Version != x77.Version) then some true else (idx p1.Tables r62).bind (fun x82 => (idx x25 (i40 : Int)).bind (fun x83 => some (!sEq x82.Owner x83.Owner))))).bind (fun (j78 : Bool) => some j78))) else some false)).bind (fun (j72 : Bool) => some j72))).bind (fun (j68 : Bool) => ((bif j68 then some true else ((bif (decide ((i40 : Int) ≥ (p0.Tables.length : Int))) then (idx p0.Tables r56).bind (fun x98 => (idx x25 (i40 : Int)).bind (fun x99 => ((bif (x98.Version != x99.Version) then some true else (idx p0.Tables r56).bind (fun x104 => (idx x25 (i40 : Int)).bind (fun x105 => some (!sEq x104.Owner x105.Owner))))).bind (fun (j100 : Bool) => some j100))) else some false)).bind (fun (j94 : Bool) => some j94))).bind (fun (j90 : Bool) => ((bif j90 then (r22_into s39 x48.Name).bind (fun r121 => some r121) else some s39)).bind (fun (j112 : List By8) => some j112))))))) x25.length 0 ([] : List By8)).bind (fun s39 => (r18_Same p0.Roles p1.Roles).bind (fun r131 => ((bif (!r131) then some true else (r19_Same p0.Grants p1.Grants).bind (fun r143 => some (!r143)))).bind (fun (j132 : Bool) => ((bif j132 then (r22_into s39 (⟨#[36]⟩ : By8)).bind (fun r157 => some r157) else some s39)).bind (fun (j148 : List By8) => some j148))))))
theorem r22_Changed_ok {p0 : qC} {p1 : qC} {w_p0 : W_qC} {w_p1 : W_qC} (h_p0 : ok_qC I p0 w_p0) (h_p1 : ok_qC I p1 w_p1) (hS : St E w I Os) {r : (List By8)} (D : r22_Changed p0 p1 = some r) :
    Calls P 13 #[(vC p0 w_p0), (vC p1 w_p1)] w (fun e w' => ∃ (I' : Mem) (ra0 : Option Addr) (rc0 : Nat), e = .returned (Sl ra0 r rc0) ∧ I.Le I' ∧ St E w' I' Os ∧ RSl 1 RStr I' ra0 rc0 r) := by
 refine calls_W (fn := Tryz.f13) rfl rfl rfl ?_
 unfold r22_Changed at D
 refine yg nL3 (yab hS (cs_qC p0 w_p0) 29 z fun b1 w4 S3 => yab S3 (cs_qC p1 w_p1) 29 z fun b5 w8 S7 => yaf 2 4 (.slice none 0 0) (yac [0] (yaf 0 5 (.slice none 0 0) (yb (W.seq (have S9 := S7.drew; ya1 nL8 6 (ym (S9.rd m0) (ym (S9.rd m1) (yx S9.im))) ?_))))))
 generalize World.drew _ = w10 at *
 refine yad (rel := R_qT) (xs := ([] : List qT)) S9 z kr z 78 6 [] kr z (Elr.nil) (fun C12 w16 S15 => (ym (S15.rd m1) (ym (S15.rd m2) (yx S15.im)))) ?_
 intro a14 C12 w16 S15 ho13
 refine yf 1 1 [1] z (yj (rd_c m1 (S15.rd m2)) z (apk D fun x18 h0_x18 he_x18 D => ya6 (e' := 78) (b := 112) (zs := (cs_qT z_qT zw_qT).toArray) S15 ho13 z kr z kr kr kr z z z z h_p0.Tables S15.im h0_x18 he_x18 (fun w21 C22 S23 => (ym (S23.rd m1) (ym (S23.rd m2) (yx S23.im)))) ?_))
 intro a19 c20 w21 C22 S23 ho24
 refine yf 4 1 [1] z (yj (rd_c m0 (S23.rd m1)) z (WO.tail z (apk D fun x25 h0_x25 he_x25 D => yau 78 112 (cs_qT z_qT zw_qT) S23 ho24 h_p1.Tables S23.im h0_x25 he_x25 z ?_)))
 intro a26 c27 w28 C29 S30 ho31
 obtain ⟨I32, L33, S35, hp34⟩ := yag ho31 S30
 refine ya 7 1 z (yb (W.seq (yg [0] (ya 0 1 z (yb (yn (bsk D fun s39 hloop41 D => have hlt46 := (hp34).len_lt; W.wk (ya0 (m := x25.length) hloop41 (fun (i40 : Nat) (s39 : List By8) fr w => ∃ I37 a_s39 c_s39, fr = [(2, Pt b1 0), (3, Pt b5 0), (5, Sl a_s39 s39 c_s39), (6, Sl a26 x25 c27), (7, Nv i40)] ∧ I32.Le I37 ∧ St E w I37 (bC b1 p0 w_p0 :: (bC b5 p1 w_p1) :: Os) ∧ RSl 1 RStr I37 a_s39 c_s39 s39) ⟨I32, none, 0, rfl, lr, S35.front1, SlAt.nil⟩ ?_ ?_))))))))
 rintro i40 s39 _ w43 hi47 ⟨I37, a_s39, c_s39, rfl, L38, S44, h_s39⟩ x45 R1
 refine W.seq (yg nL4 (ya 0 4 z (yb (yat fun _ => W.skip (ye (W.seq (yn (yg nL6 (ya 0 2 z ?_)))))))))
 obtain ⟨x48, R1, Hx48, _, ⟨w_x48, rfl, h_x48⟩, Zx48⟩ := sx I37 hp34 R1
 refine y0 78 6 Hx48 z (yf 3 1 [0] z (yan Zx48 S44.rm z (ya 5 1 z (yb (W.seq (have S49 := S44.drew; ybl (l := nL8) kr 5 (KR I37 [bC b1 p0 w_p0, bC b5 p1 w_p1]) qR (.ords nL8 nL8 kr kr kr kr kr) kr (ym (S49.rd m0) (ym (S49.rd m1) (yx S49.im))) ?_))))))
 generalize World.drew _ = w50 at *
 refine y7 ((cs_qC p0 w_p0)) (rd_c m0 (S49.rd m0)) z (ya 1 1 z (bsk R1 fun r56 Xr51 R1 => yae (r17_At_ok (h_p0.mono le) S49 Xr51) ?_))
 rintro _ w52 ⟨I53, rfl, L54, S55⟩
 refine ⟨_, rfl, (ym (S55.rd m0) (ym (S55.rd m1) (yx (S55.im.of_le L54)))), ?_⟩
 refine y7 ((cs_qC p1 w_p1)) (rd_c m1 (S55.rd m1)) z (ya 4 1 z (WO.tail z (bsk R1 fun r62 Xr57 R1 => WO.c1 (r17_At_ok (h_p1.mono le) S55 Xr57) z fun I59 w58 L60 S61 => ya 6 2 z (yb (W.seq (have S63 := S61.drew; ya1 [0, 1, 2, 3, 4, 5, 6, 7, 8, 9, 10, 11, 12, 13, 14, 15, 16, 17, 18, 19, 20, 21, 22, 23, 24, 25, 26, 27, 28, 29, 30, 31, 32, 33, 34, 35, 36, 37, 38, 39, 40, 41, 42, 43, 44, 45, 46, 47, 48, 49, 50, 51, 52, 53, 54, 55, 56, 57, 58, 59, 60, 61, 62, 63, 64, 65, 66, 67, 68, 69, 70, 71, 72, 73, 74, 75] 76 (ym (S63.rd m0) (ym (S63.rd m1) (yx S63.im))) ?_))))))
 generalize World.drew _ = w65 at *
 refine ya 0 3 z (yav [3, 4] 5 37 40 (.refl ((decide (r56 < 0)) || (decide (r62 < 0)))) (fun _ => ya 3 3 z yak) (ya 6 1 z (bsk R1 fun j68 R2 R1 => yam (l1 := [7, 8, 9, 10, 11, 12, 13, 14, 15, 16, 17, 18, 19, 20, 21, 22, 23, 24, 25, 26, 27, 28, 29, 30, 31, 32, 33, 34, 35, 36, 37, 38, 39, 40]) (J := JI E I59 [(2, Pt b1 0), (3, Pt b5 0), (5, Sl a_s39 s39 c_s39), (6, Sl a26 x25 c27), (7, Nv i40), (8, .string x48.Name), (9, Iv r56), (75, .bool j68)] (bC b1 p0 w_p0 :: (bC b5 p1 w_p1) :: Os)) ?_ ?_)))
 refine yal R2 (fun G R2 => ?_) (fun G R2 => ?_)
 refine yz 41 G ?_
 iterate 33 refine WO.ps ?_
 exact ya 40 1 z (sj R2 ▸ yy ⟨I59, rfl, lr, S63⟩)
 refine yz 41 G (yf 7 2 [1] z (yj (rd_c m0 (S63.rd m0)) z (ya 10 3 z (bsk R2 fun j72 R3 R2 => yam (l1 := [13, 14, 15, 16, 17, 18, 19, 20, 21, 22, 23, 24, 25, 26, 27, 28, 29, 30, 31, 32, 33, 34, 35, 36, 37, 38, 39]) (J := JI E I59 [(2, Pt b1 0), (3, Pt b5 0), (5, Sl a_s39 s39 c_s39), (6, Sl a26 x25 c27), (7, Nv i40), (8, .string x48.Name), (9, Iv r56), (41, .bool false), (74, .bool j72)] (bC b1 p0 w_p0 :: (bC b5 p1 w_p1) :: Os)) ?_ ?_))))
 refine yal R3 (fun G R3 => ?_) (fun G R3 => ?_)
 refine yz 47 G (yf 13 1 [1] z (yj (rd_c m1 (S63.rd m1)) z (ya 15 1 z ?_)))
 obtain ⟨x76, R3, Hx76, _, ⟨w_x76, rfl, h_x76⟩, Zx76⟩ := sx I59 h_p1.Tables R3
 refine y0 78 6 Hx76 z (yf 17 1 [2] z (yar Zx76 2 (rd_i S63.im) z (ya 19 2 z ?_)))
 obtain ⟨x77, R3, Hx77, _, ⟨w_x77, rfl, h_x77⟩, Zx77⟩ := sx I59 hp34 R3
 refine y0 78 6 Hx77 z (yf 22 1 [2] z (yar Zx77 2 (rd_i S63.im) z (ya 24 2 z (bsk R3 fun j78 R4 R3 => yam (l1 := [26, 27, 28, 29, 30, 31, 32, 33, 34, 35, 36, 37, 38]) (J := JI E I59 [(2, Pt b1 0), (3, Pt b5 0), (5, Sl a_s39 s39 c_s39), (6, Sl a26 x25 c27), (7, Nv i40), (8, .string x48.Name), (9, Iv r56), (41, .bool false), (47, .bool true), (73, .bool j78)] (bC b1 p0 w_p0 :: (bC b5 p1 w_p1) :: Os)) ?_ ?_))))
 refine yal R4 (fun G R4 => ?_) (fun G R4 => ?_)
 refine yz 60 G ?_
 iterate 12 refine WO.ps ?_
 exact ya 38 1 z (sj R4 ▸ yy ⟨I59, rfl, lr, S63⟩)
 refine yz 60 G (yf 26 1 [1] z (yj (rd_c m1 (S63.rd m1)) z (ya 28 1 z ?_)))
 obtain ⟨x82, R4, Hx82, _, ⟨w_x82, rfl, h_x82⟩, Zx82⟩ := sx I59 h_p1.Tables R4
 refine y0 78 6 Hx82 z (yf 30 1 [1] z (yar Zx82 1 (rd_i S63.im) z (ya 32 2 z ?_)))
 obtain ⟨x83, R4, Hx83, _, ⟨w_x83, rfl, h_x83⟩, Zx83⟩ := sx I59 hp34 R4
 exact y0 78 6 Hx83 z (yf 35 1 [1] z (yar Zx83 1 (rd_i S63.im) z (ya 37 2 z (sj R4 ▸ yy ⟨I59, rfl, lr, S63⟩))))
 rintro _ w84 ⟨I80, rfl, L81, S85⟩
 exact ya 39 1 z (sj R3 ▸ yy ⟨I80, rfl, L81, S85⟩)
 refine yz 47 G ?_
 iterate 26 refine WO.ps ?_
 exact ya 39 1 z (sj R3 ▸ yy ⟨I59, rfl, lr, S63⟩)
 rintro _ w86 ⟨I74, rfl, L75, S87⟩
 exact ya 40 1 z (sj R2 ▸ yy ⟨I74, rfl, L75, S87⟩)
 rintro _ w88 ⟨I70, rfl, L71, S89⟩
 refine ya 41 1 z (bsk R1 fun j90 R2 R1 => yam (l1 := [42, 43, 44, 45, 46, 47, 48, 49, 50, 51, 52, 53, 54, 55, 56, 57, 58, 59, 60, 61, 62, 63, 64, 65, 66, 67, 68, 69, 70, 71, 72, 73, 74, 75]) (J := JI E I70 [(2, Pt b1 0), (3, Pt b5 0), (5, Sl a_s39 s39 c_s39), (6, Sl a26 x25 c27), (7, Nv i40), (8, .string x48.Name), (110, .bool j90)] (bC b1 p0 w_p0 :: (bC b5 p1 w_p1) :: Os)) ?_ ?_)
 refine yal R2 (fun G R2 => ?_) (fun G R2 => ?_)
 refine yz 76 G ?_
 iterate 33 refine WO.ps ?_
 exact ya 75 1 z (sj R2 ▸ yy ⟨I70, rfl, lr, S89⟩)
 refine yz 76 G (yf 42 2 [1] z (yj (rd_c m0 (S89.rd m0)) z (ya 45 3 z (bsk R2 fun j94 R3 R2 => yam (l1 := [48, 49, 50, 51, 52, 53, 54, 55, 56, 57, 58, 59, 60, 61, 62, 63, 64, 65, 66, 67, 68, 69, 70, 71, 72, 73, 74]) (J := JI E I70 [(2, Pt b1 0), (3, Pt b5 0), (5, Sl a_s39 s39 c_s39), (6, Sl a26 x25 c27), (7, Nv i40), (8, .string x48.Name), (76, .bool false), (109, .bool j94)] (bC b1 p0 w_p0 :: (bC b5 p1 w_p1) :: Os)) ?_ ?_))))
 refine yal R3 (fun G R3 => ?_) (fun G R3 => ?_)
 refine yz 82 G (yf 48 1 [1] z (yj (rd_c m0 (S89.rd m0)) z (ya 50 1 z ?_)))
 obtain ⟨x98, R3, Hx98, _, ⟨w_x98, rfl, h_x98⟩, Zx98⟩ := sx I59 h_p0.Tables R3
 refine y0 78 6 Hx98 z (yf 52 1 [2] z (yar Zx98 2 (rd_i (S89.im.of_le L71)) z (ya 54 2 z ?_)))
 obtain ⟨x99, R3, Hx99, _, ⟨w_x99, rfl, h_x99⟩, Zx99⟩ := sx I59 hp34 R3
 refine y0 78 6 Hx99 z (yf 57 1 [2] z (yar Zx99 2 (rd_i (S89.im.of_le L71)) z (ya 59 2 z (bsk R3 fun j100 R4 R3 => yam (l1 := [61, 62, 63, 64, 65, 66, 67, 68, 69, 70, 71, 72, 73]) (J := JI E I70 [(2, Pt b1 0), (3, Pt b5 0), (5, Sl a_s39 s39 c_s39), (6, Sl a26 x25 c27), (7, Nv i40), (8, .string x48.Name), (76, .bool false), (82, .bool true), (108, .bool j100)] (bC b1 p0 w_p0 :: (bC b5 p1 w_p1) :: Os)) ?_ ?_))))
 refine yal R4 (fun G R4 => ?_) (fun G R4 => ?_)
 refine yz 95 G ?_
 iterate 12 refine WO.ps ?_
 exact ya 73 1 z (sj R4 ▸ yy ⟨I70, rfl, lr, S89⟩)
 refine yz 95 G (yf 61 1 [1] z (yj (rd_c m0 (S89.rd m0)) z (ya 63 1 z ?_)))
 obtain ⟨x104, R4, Hx104, _, ⟨w_x104, rfl, h_x104⟩, Zx104⟩ := sx I59 h_p0.Tables R4
 refine y0 78 6 Hx104 z (yf 65 1 [1] z (yar Zx104 1 (rd_i (S89.im.of_le L71)) z (ya 67 2 z ?_)))
 obtain ⟨x105, R4, Hx105, _, ⟨w_x105, rfl, h_x105⟩, Zx105⟩ := sx I59 hp34 R4
 exact y0 78 6 Hx105 z (yf 70 1 [1] z (yar Zx105 1 (rd_i (S89.im.of_le L71)) z (ya 72 2 z (sj R4 ▸ yy ⟨I70, rfl, lr, S89⟩))))
 rintro _ w106 ⟨I102, rfl, L103, S107⟩
 exact ya 74 1 z (sj R3 ▸ yy ⟨I102, rfl, L103, S107⟩)
 refine yz 82 G ?_
 iterate 26 refine WO.ps ?_
 exact ya 74 1 z (sj R3 ▸ yy ⟨I70, rfl, lr, S89⟩)
 rintro _ w108 ⟨I96, rfl, L97, S109⟩
 exact ya 75 1 z (sj R2 ▸ yy ⟨I96, rfl, L97, S109⟩)
 rintro _ w110 ⟨I92, rfl, L93, S111⟩
 refine yb (bsk R1 fun j112 R2 R1 => yay (J := (fun fr w => ∃ I114 a_j112 c_j112, fr = [(2, Pt b1 0), (3, Pt b5 0), (5, Sl a_j112 j112 c_j112), (6, Sl a26 x25 c27), (7, Nv i40)] ∧ I92.Le I114 ∧ St E w I114 (bC b1 p0 w_p0 :: (bC b5 p1 w_p1) :: Os) ∧ RSl 1 RStr I114 a_j112 c_j112 j112)) ?_ ?_)
 refine y6 R2 (fun G R2 => ?_) (fun G R2 => ?_)
 refine yai nL4 (ya 0 2 z (bsk R2 fun r121 Xr116 R2 => yae (r22_into_ok (up h_s39) S111 Xr116) ?_))
 rintro _ w117 ⟨I118, a_r121, c_r121, rfl, L119, S120, h_r121⟩
 exact cv (ya 3 1 z (yt (sj R2 ▸ yv ⟨I118, a_r121, c_r121, rfl, L119, S120, h_r121⟩)))
 exact W.skip (sj R2 ▸ yv ⟨I92, a_s39, c_s39, rfl, lr, S111, (up h_s39)⟩)
 rintro _ w122 ⟨I114, a_j112, c_j112, rfl, L115, S123, h_j112⟩
 exact yl (ye (yai nL3 (ya 0 1 z (yao i40 z (ya 2 1 z (yt (sj R1 ▸ yv ⟨I114, a_j112, c_j112, rfl, le, S123, h_j112⟩)))))))
 rintro _ w124 ⟨I37, a_s39, c_s39, rfl, L38, S125, h_s39⟩
 refine W.seq (yg nL4 (ya 0 4 z (yb (yas fun _ => W.exit (yo (yq (yu (ye (W.seq (yg nL14 (yf 0 1 [2] z (yj (S125.rf m0) z (yf 2 1 [2] z (yj (S125.rf m1) z (bsk D fun r131 Xr126 D => WO.c1 (r18_Same_ok (up h_p0.Roles) (up h_p1.Roles) S125 Xr126) z fun I128 w127 L129 S130 => ya 5 2 z (bsk D fun j132 R1 D => yam (l1 := [7, 8, 9, 10, 11, 12, 13]) (J := JI E I128 [(5, Sl a_s39 s39 c_s39), (127, .bool j132)] Os) ?_ ?_))))))))))))))))
 refine yal R1 (fun G R1 => ?_) (fun G R1 => ?_)
 refine yz 120 G ?_
 iterate 6 refine WO.ps ?_
 exact ya 13 1 z (sj R1 ▸ yy ⟨I128, rfl, lr, S130.d2⟩)
 exact yz 120 G (yf 7 1 [3] z (yj (S130.rf m0) z (yf 9 1 [3] z (yj (S130.rf m1) z (bsk R1 fun r143 Xr138 R1 => WO.c1 (r19_Same_ok (up h_p0.Grants) (up h_p1.Grants) S130 Xr138) z fun I140 w139 L141 S142 => ya 12 2 z (sj R1 ▸ yy ⟨I140, rfl, L141, S142.d2⟩))))))
 rintro _ w146 ⟨I134, rfl, L135, S147⟩
 refine yb (bsk D fun j148 R1 D => yay (J := (fun fr w => ∃ I150 a_j148 c_j148, fr = [(5, Sl a_j148 j148 c_j148)] ∧ I134.Le I150 ∧ St E w I150 Os ∧ RSl 1 RStr I150 a_j148 c_j148 j148)) ?_ ?_)
 refine y6 R1 (fun G R1 => ?_) (fun G R1 => ?_)
 refine yai nL3 (ya 0 1 z (bsk R1 fun r157 Xr152 R1 => yae (r22_into_ok (up h_s39) S147 Xr152) ?_))
 rintro _ w153 ⟨I154, a_r157, c_r157, rfl, L155, S156, h_r157⟩
 exact cv (ya 2 1 z (yt (sj R1 ▸ yv ⟨I154, a_r157, c_r157, rfl, L155, S156, h_r157⟩)))
 exact W.skip (sj R1 ▸ yv ⟨I134, a_s39, c_s39, rfl, lr, S147, (up h_s39)⟩)
 rintro _ w158 ⟨I150, a_j148, c_j148, rfl, L151, S159, h_j148⟩
 exact ye (yg nL2 (ya 0 2 z (yb (yp (sj D ▸ yw ⟨I150, a_j148, c_j148, rfl, le, S159, h_j148⟩)))))
noncomputable def r22_Chain_Hear (p0 : r22_Chain) (p1 : Int) : Option ((List By8) × r22_Chain) := (bif ((decide (p1 < 1)) || (decide (p1 > 8))) then some (([] : List By8), p0) else (idx p0.Heard p1).bind (fun x3 => (loopO (fun (s : (List By8) × Int) => match s with | (s7, s8) => (bif (decide ((w64 (s8 + 1)) < (p0.All.length : Int))) then (idx p0.All s8).bind (fun x15 => (idx p0.All (w64 (s8 + 1))).bind (fun x16 => (r22_Changed x15 x16).bind (fun r22 => (forE (fun (i27 : Nat) (s26 : List By8) => (idx r22 (i27 : Int)).bind (fun x34 => (r22_into s26 x34).bind (fun r40 => some r40))) r22.length 0 s7).bind (fun s26 => some (.inl (s26, (w64 (s8 + 1)))))))) else some (.inr s7))) (([] : List By8), x3)).bind (fun (s44 : List By8) => (idx p0.Heard p1).bind (fun x47 => some (s44, { p0 with Heard := (p0.Heard.set (p1).toNat (w64 ((p0.All.length : Int) - 1))) })))))
theorem r22_Chain_Hear_ok {p0 : r22_Chain} {p1 : Int} {b_p0 : Nat} {w_p0 : W_r22_Chain} (h_p0 : ok_r22_Chain I p0 w_p0) (hS : St E w I ((Bx b_p0 (cs_r22_Chain p0 w_p0) 98) :: (w_p0.All.C) :: (w_p0.Pins.C) :: (w_p0.Heard.C) :: Os)) {r : (List By8) × r22_Chain} (D : r22_Chain_Hear p0 p1 = some r) :
    Calls P 43 #[(Pt b_p0 0), (Iv p1)] w (fun e w' => ∃ (I' : Mem) (ra0 : Option Addr) (rc0 : Nat) (w_rp0 : W_r22_Chain), e = .returned (Sl ra0 r.1 rc0) ∧ I.Le I' ∧ St E w' I' ((Bx b_p0 (cs_r22_Chain r.2 w_rp0) 98) :: w_rp0.All.C :: w_rp0.Pins.C :: w_rp0.Heard.C :: Os) ∧ RSl 1 RStr I' ra0 rc0 r.1 ∧ ok_r22_Chain I' r.2 w_rp0) := by
 refine calls_W (fn := Tryz.f43) rfl rfl rfl ?_
 unfold r22_Chain_Hear at D
 refine yg [0] (yaf 0 4 (.slice none 0 0) (yb (W.seq (yg nL6 (ya 0 3 z (yav [3, 4] 5 11 14 (.refl ((decide (p1 < 1)) || (decide (p1 > 8)))) (fun _ => ya 3 3 z yak) (yb (y6 D (fun G D => ?_) (fun G D => ?_)))))))))
 exact yg [0] (yaf 0 4 (.slice none 0 0) (yb (yp (yh (sj D ▸ yw ⟨I, none, 0, w_p0, rfl, lr, hS, SlAt.nil, h_p0⟩)))))
 refine W.skip (ye (yg [0] (yaf 0 5 (.slice none 0 0) (yb (W.seq (yg nL8 (yf 0 3 [2] z (yj (hS.rf m0) z (ya 4 1 z ?_)))))))))
 obtain ⟨x3, D, Hx3, _, rfl, Zx3⟩ := sl_ix (h_p0.Heard.sl) D
 refine y0 3 1 Hx3 z (yan Zx3 (hS.rf m3) z (ya 7 1 z (yb (yn (bsk D fun t4 hloop9 D => W.wk (ya7 hloop9 (fun (s : (List By8) × Int) fr w => match s with | (s7, s8) => ∃ I5 a_s7 c_s7, fr = [(0, Pt b_p0 0), (1, Iv p1), (5, Sl a_s7 s7 c_s7), (6, Iv s8)] ∧ I.Le I5 ∧ St E w I5 ((Bx b_p0 (cs_r22_Chain p0 w_p0) 98) :: (w_p0.All.C) :: (w_p0.Pins.C) :: (w_p0.Heard.C) :: Os) ∧ RSl 1 RStr I5 a_s7 c_s7 s7) ⟨I, none, 0, rfl, lr, hS, SlAt.nil⟩ ?_))))))
 rintro ⟨s7, s8⟩ _ w10 ⟨I5, a_s7, c_s7, rfl, L6, S11, h_s7⟩ x12 R1 hext4
 refine W.seq (yg nL8 (yf 0 5 [0] z (yj (S11.rf m0) z (ya 6 2 z (yb (y6 R1 (fun G R1 => ?_) (fun G R1 => ?_)))))))
 refine W.skip (ye (W.seq (yn (W.seq (have S13 := S11.drew; ya1 nL17 15 (ym (S13.rd m0) (ym (S13.rd m1) (ym (S13.rd m2) (ym (S13.rd m3) (yx S13.im))))) ?_)))))
 generalize World.drew _ = w14 at *
 refine yf 0 3 [0] z (yj (rd_c m0 (S13.rd m0)) z (ya 4 1 z ?_))
 obtain ⟨x15, R1, Hx15, _, ⟨w_x15, rfl, h_x15⟩, Zx15⟩ := sl_ix ((h_p0.All.mono L6).sl) R1
 refine y0 29 4 Hx15 z (yaq ((cs_qC x15 w_x15)) Zx15 0 (rd_c m1 (S13.rd m1)) z (yf 7 3 [0] z (yj (rd_c m0 (S13.rd m0)) z (ya 11 2 z ?_))))
 obtain ⟨x16, R1, Hx16, _, ⟨w_x16, rfl, h_x16⟩, Zx16⟩ := sl_ix ((h_p0.All.mono L6).sl) R1
 refine y0 29 4 Hx16 z (yaq ((cs_qC x16 w_x16)) Zx16 0 (rd_c m1 (S13.rd m1)) z (WO.tail z (bsk R1 fun r22 Xr17 R1 => yae (r22_Changed_ok h_x15 h_x16 S13 Xr17) ?_)))
 rintro _ w18 ⟨I19, a_r22, c_r22, rfl, L20, S21, h_r22⟩
 refine cv (ya 16 1 z (yac [0] (ya 0 1 z (yb (yn (bsk R1 fun s26 hloop28 R1 => have hlt32 := (h_r22).len_lt; W.wk (ya0 (m := r22.length) hloop28 (fun (i27 : Nat) (s26 : List By8) fr w => ∃ I24 a_s26 c_s26, fr = [(0, Pt b_p0 0), (1, Iv p1), (5, Sl a_s26 s26 c_s26), (6, Iv s8), (7, Sl a_r22 r22 c_r22), (8, Nv i27)] ∧ I19.Le I24 ∧ St E w I24 ((Bx b_p0 (cs_r22_Chain p0 w_p0) 98) :: (w_p0.All.C) :: (w_p0.Pins.C) :: (w_p0.Heard.C) :: Os) ∧ RSl 1 RStr I24 a_s26 c_s26 s26) ⟨I19, a_s7, c_s7, rfl, lr, S21, (RSl.mono h_s7 L20)⟩ ?_ ?_)))))))
 rintro i27 s26 _ w29 hi33 ⟨I24, a_s26, c_s26, rfl, L25, S30, h_s26⟩ x31 R2
 refine W.seq (yg nL4 (ya 0 4 z (yb (yat fun _ => W.skip (ye (W.seq (yn (yai nL7 (ya 0 3 z ?_)))))))))
 obtain ⟨x34, R2, Hx34, _, rfl, Zx34⟩ := sx I24 h_r22 R2
 refine y0 9 1 Hx34 z (yan Zx34 S30.rm z (bsk R2 fun r40 Xr35 R2 => yae (r22_into_ok h_s26 S30 Xr35) ?_))
 rintro _ w36 ⟨I37, a_r40, c_r40, rfl, L38, S39, h_r40⟩
 exact cv (ya 6 1 z (yt (yl (ye (yai nL3 (ya 0 1 z (yao i27 z (ya 2 1 z (yt (sj R2 ▸ yv ⟨I37, a_r40, c_r40, rfl, le, S39, h_r40⟩))))))))))
 rintro _ w41 ⟨I24, a_s26, c_s26, rfl, L25, S42, h_s26⟩
 exact W.seq (yg nL4 (ya 0 4 z (yb (yas fun _ => W.exit (yo (yq (yu (yl (ye (yai nL3 (ya 0 3 z (yt (yv ⟨(s26, (w64 (s8 + 1))), (sj R1).symm, I24, a_s26, c_s26, rfl, le, S42, h_s26⟩)))))))))))))
 refine W.exit (yo (yq ?_))
 obtain rfl := hext4 _ (sj R1).symm
 refine yu (ye (W.seq (have S58 := S11.drew; ya1 nL13 11 (ym (S58.rd m0) (ym (S58.rd m1) (ym (S58.rd m2) (ym (S58.rd m3) (yx S58.im))))) ?_)))
 generalize World.drew _ = w59 at *
 refine yf 0 3 [2] z (yj (rd_c m0 (S58.rd m0)) z (yf 4 4 [0] z (yj (rd_c m0 (S58.rd m0)) z (ya 9 2 z (WO.tail z ?_)))))
 obtain ⟨x60, D, h0_x60, h1_x60, Xx60, ha_x60, _, _, rfl, Zx60⟩ := sl_at ((h_p0.Heard.mono L6).sl) D
 refine ya4 3 1 ha_x60 h0_x60 h1_x60 ?_
 refine ya2 S58.front3 (OwnSl.mono h_p0.Heard L6) z kr z Xx60 (u' := (w64 ((p0.All.length : Int) - 1))) 0 z z kr z z (fun cs hrel => (by obtain rfl := hrel; exact z)) tv ?_
 intro w63 C64 S62 ho65
 refine y8 63 z (show Value.slice w_p0.Heard.a p0.Heard.length w_p0.Heard.c = Value.slice w_p0.Heard.a (p0.Heard.set (p1).toNat (w64 ((p0.All.length : Int) - 1))).length w_p0.Heard.c by simp only [List.length_set]) ?_
 have S66 : St E w63 I5 ((C64) :: (Bx b_p0 (cs_r22_Chain ({ p0 with Heard := (p0.Heard.set (p1).toNat (w64 ((p0.All.length : Int) - 1))) }) ({ w_p0 with Heard := ⟨w_p0.Heard.a, w_p0.Heard.c, C64⟩ })) 98) :: (w_p0.All.C) :: (w_p0.Pins.C) :: Os) := by have hq := S62; simp only [cs_r22_Chain, List.length_set] at hq ⊢; exact hq
 refine yac nL2 (ya 0 2 z (yb (yp ?_)))
 have hk70 : ok_r22_Chain I5 ({ p0 with Heard := (p0.Heard.set (p1).toNat (w64 ((p0.All.length : Int) - 1))) }) ({ w_p0 with Heard := ⟨w_p0.Heard.a, w_p0.Heard.c, C64⟩ }) := ⟨(OwnSl.mono h_p0.All L6), (OwnSl.mono h_p0.Pins L6), ho65⟩
 exact sj D ▸ yw ⟨I5, a_s7, c_s7, ({ w_p0 with Heard := ⟨w_p0.Heard.a, w_p0.Heard.c, C64⟩ }), rfl, L6, S66.front3.front3.front3, h_s7, hk70⟩
def r12_SameTexts (p0 : List By8) (p1 : List By8) : Option Bool := (bif ((p0.length : Int) != (p1.length : Int)) then some false else (forN (fun (i4 : Nat) (_s : Unit) => (idx p0 (i4 : Int)).bind (fun x13 => (idx p1 (i4 : Int)).bind (fun x14 => (bif (!sEq x13 x14) then some (.inr false) else some (.inl ()))))) p0.length 0 ()).bind (fun (t : Unit ⊕ (Bool)) => match t with | .inl _ => some true | .inr s16 => some s16))
theorem r12_SameTexts_ok {p0 : List By8} {p1 : List By8} {a_p0 : Option Addr} {c_p0 : Nat} {a_p1 : Option Addr} {c_p1 : Nat} (h_p0 : RSl 1 RStr I a_p0 c_p0 p0) (h_p1 : RSl 1 RStr I a_p1 c_p1 p1) (hS : St E w I Os) {r : Bool} (D : r12_SameTexts p0 p1 = some r) :
    Calls P 12 #[(Sl a_p0 p0 c_p0), (Sl a_p1 p1 c_p1)] w (RT E I Os (.bool r)) := by
 refine calls_W (fn := Tryz.f12) rfl rfl rfl ?_
 unfold r12_SameTexts at D
 refine yg [0] (ya 0 1 z (yb (W.seq (yg nL5 (ya 0 5 z (yb (y6 D (fun G D => ?_) (fun G D => ?_))))))))
 exact yg [0] (ya 0 1 z (yb (yp (yh (sj D ▸ yw ⟨I, rfl, lr, hS⟩)))))
 refine W.skip (ye (W.seq (yg [0] (ya 0 1 z (yb (yn (bsk D fun t1 hloop5 D => have hlt9 := (h_p0).len_lt; W.wk (yap (m := p0.length) hloop5 (fun (i4 : Nat) (_s : Unit) => JI E I [(0, Sl a_p0 p0 c_p0), (1, Sl a_p1 p1 c_p1), (5, Nv i4)] Os) ⟨I, rfl, lr, hS⟩ ?_ ?_))))))))
 rintro i4 _ _ w6 hi10 ⟨I2, rfl, L3, S7⟩ x8 R1 hext1
 refine W.seq (yg nL4 (ya 0 4 z (yb (yat fun _ => W.skip (ye (W.seq (yn (W.seq (have S11 := S7.drew; ya1 nL9 8 (yx S11.im) ?_)))))))))
 generalize World.drew _ = w12 at *
 refine ya 0 2 z ?_
 obtain ⟨x13, R1, Hx13, _, rfl, Zx13⟩ := sx I2 h_p0 R1
 refine y0 9 1 Hx13 z (yan Zx13 (rd_i S11.im) z (ya 4 2 z ?_))
 obtain ⟨x14, R1, Hx14, _, rfl, Zx14⟩ := sx I2 h_p1 R1
 refine y0 9 1 Hx14 z (yan Zx14 (rd_i S11.im) z (WO.tail z (ya 8 1 z (yb (y6 R1 (fun G R1 => ?_) (fun G R1 => ?_))))))
 refine yg [0] (ya 0 1 z (yb (yp (yk (yh (yr ?_))))))
 obtain rfl := hext1 _ (sj R1).symm
 exact yk (yh (sj D ▸ yw ⟨I2, rfl, L3, S11⟩))
 exact W.skip (yl (ye (yai nL3 (ya 0 1 z (yao i4 z (ya 2 1 z (yt (yv ⟨(), (sj R1).symm, I2, rfl, L3, S11⟩))))))))
 rintro _ _ w17 ⟨I2, rfl, L3, S18⟩ he
 cases he
 exact W.seq (yg nL4 (ya 0 4 z (yb (yas fun _ => W.exit (yo (yq (yu (ye (yg [0] (ya 0 1 z (yb (yp (sj D ▸ yw ⟨I2, rfl, L3, S18⟩)))))))))))))
noncomputable def law22_done (p0 : chain_Chain) (p1 : r22_Chain) (p2 : law22_Act) : Option (Bool × chain_Chain × r22_Chain) := (bif (p2.Do == 0) then ((r22_Chain_Now p1).bind (fun r24 => (law19_Next r24 p2.A).bind (fun (r30, r31) => some r30))).bind (fun (j5 : qC) => (chain_Chain_Publish p0 j5).bind (fun (r124, r125) => (r22_Chain_Publish p1 j5).bind (fun (r135, r136) => some ((r124 == r135), r125, r136)))) else (bif (p2.Do == 1) then (chain_Chain_Pin p0 p2.Who).bind (fun (r156, r157, r158) => (r22_Chain_Pin p1 p2.Who).bind (fun (r168, r169, r170) => some (((r156 == r168) && (r157 == r169)), r158, r170))) else (bif (p2.Do == 2) then (chain_Chain_Unpin p0 p2.Who).bind (fun (r194, r195) => (r22_Chain_Unpin p1 p2.Who).bind (fun (r205, r206) => some ((r194 == r205), r195, r206))) else (chain_Chain_Hear p0 p2.Who).bind (fun (r228, r229) => (r22_Chain_Hear p1 p2.Who).bind (fun (r239, r240) => (r12_SameTexts r228 r239).bind (fun r246 => some (r246, r229, r240)))))))
theorem law22_done_ok {p0 : chain_Chain} {p1 : r22_Chain} {p2 : law22_Act} {b_p0 : Nat} {w_p0 : W_chain_Chain} {b_p1 : Nat} {w_p1 : W_r22_Chain} {w_p2 : W_law22_Act} (h_p0 : ok_chain_Chain I p0 w_p0) (h_p1 : ok_r22_Chain I p1 w_p1) (h_p2 : ok_law22_Act I p2 w_p2) (hS : St E w I ((Bx b_p0 (cs_chain_Chain p0 w_p0) 88) :: (w_p0.live.C) :: (w_p0.pins.C) :: (w_p0.news.C) :: (Bx b_p1 (cs_r22_Chain p1 w_p1) 98) :: (w_p1.All.C) :: (w_p1.Pins.C) :: (w_p1.Heard.C) :: Os)) {r : Bool × chain_Chain × r22_Chain} (D : law22_done p0 p1 p2 = some r) :
    Calls P 15 #[(Pt b_p0 0), (Pt b_p1 0), (.agg (cs_law22_Act p2 w_p2).toArray)] w (fun e w' => ∃ I' w_rp0 w_rp1, e = .returned (.bool r.1) ∧ I.Le I' ∧ St E w' I' ((Bx b_p0 (cs_chain_Chain r.2.1 w_rp0) 88) :: w_rp0.live.C :: w_rp0.pins.C :: w_rp0.news.C :: (Bx b_p1 (cs_r22_Chain r.2.2 w_rp1) 98) :: w_rp1.All.C :: w_rp1.Pins.C :: w_rp1.Heard.C :: Os) ∧ ok_chain_Chain I' r.2.1 w_rp0 ∧ ok_r22_Chain I' r.2.2 w_rp1) := by
 refine calls_W (fn := Tryz.f15) rfl rfl rfl ?_
 unfold law22_done at D
 refine yg nL2 (yab hS (cs_law22_Act p2 w_p2) 50 z fun b1 w4 S3 => ya 1 1 z (yb (W.seq (yg nL2 (yf 0 1 [0] z (yj (S3.rf m0) z (yb (yn (yg nL2 (ya 0 2 z (yb (y6 D (fun G D => ?_) (fun G D => ?_)))))))))))))
 refine W.seq (bsk D fun j5 R1 D => yay (J := (fun fr w => ∃ I7 w_j5 b_j5, fr = [(0, Pt b_p0 0), (1, Pt b_p1 0), (7, Pt b_j5 0)] ∧ I.Le I7 ∧ St E w I7 ((Bx b_p0 (cs_chain_Chain p0 w_p0) 88) :: (w_p0.live.C) :: (w_p0.pins.C) :: (w_p0.news.C) :: (Bx b_p1 (cs_r22_Chain p1 w_p1) 98) :: (w_p1.All.C) :: (w_p1.Pins.C) :: (w_p1.Heard.C) :: (bC b_j5 j5 w_j5) :: Os) ∧ ok_qC I7 j5 w_j5)) ?_ ?_)
 have S9 := S3.drew
 refine ybs (.split 8 1 (.leaf [0, 2, 3, 8, 1, 4, 5, 6, 7, 9, 10]) (.split 8 4 (.leaf [0, 2, 3, 1, 8, 4, 5, 6, 7, 9, 10]) (.leaf [0, 2, 3, 1, 4, 5, 6, 7, 8, 9, 10]))) 9 (KR I [Bx b1 (cs_law22_Act p2 w_p2) 50]) qR (.ords nL11 [0, 1, 2, 3, 4, 5, 6, 8, 9, 7, 10] kr kr kr kr kr) kr (ym (S9.rd m0) (yx S9.im)) ?_
 generalize World.drew _ = w10 at *
 refine ⟨?_, ?_⟩
 show WO _ _ _ _ _ _ _ [0, 2, 3, 8, 1, 4, 5, 6, 7, 9, 10] _ _
 refine ya 0 1 z (yf 2 1 [2] z (y7 ((cs_law19_Act p2.A w_p2.A)) (rd_c m0 (S9.rd m0)) z (ybb S9 z kr z (.cells (cs_qC z_qC zw_qC).toArray 29 (0, 0)) (fun b => .pointer (some ⟨b, 0, none⟩)) kr (fun b11 w14 S13 => (ym (S13.rd m1) (yx S13.im))) ?_)))
 intro b11 w14 S13
 refine bsk R1 fun r24 Xr19 R1 => yae (r22_Chain_Now_ok h_p1 S13.front9.front9.front9.front9 Xr19) ?_
 rintro _ w20 ⟨I21, w_r24, rfl, L22, S23, h_r24⟩
 refine ⟨_, rfl, (ym (S23.rd m5) (yx (S23.im.of_le L22))), ?_⟩
 obtain ⟨⟨r30, r31⟩, Xr25, R1⟩ := bsm R1
 refine yae (law19_Next_ok h_r24 (h_p2.A.mono L22) S23 Xr25) ?_
 rintro _ w26 ⟨I27, w_r30, rfl, L28, S29, h_r30⟩
 refine ⟨_, rfl, (ym (S29.rd m5) (yx (S29.im.of_le le))), ?_⟩
 exact ya 5 3 z (WO.tail z (yaa S29.front4 0 (cs_qC r30 w_r30) fun w34 S33 => ya 10 1 z (yt (sj R1 ▸ yv ⟨I27, w_r30, b11, rfl, le, S33.front5.drop.front4.front4.front4.front4.front8.front8.front8.front8, h_r30⟩))))
 refine ⟨?_, ?_⟩
 show WO _ _ _ _ _ _ _ [0, 2, 3, 1, 8, 4, 5, 6, 7, 9, 10] _ _
 refine ya 0 1 z (yf 2 1 [2] z (y7 ((cs_law19_Act p2.A w_p2.A)) (rd_c m0 (S9.rd m0)) z (bsk R1 fun r54 Xr49 R1 => yae (r22_Chain_Now_ok h_p1 S9.front8.front8.front8.front8 Xr49) ?_)))
 rintro _ w50 ⟨I51, w_r54, rfl, L52, S53, h_r54⟩
 refine ⟨_, rfl, (ym (S53.rd m4) (yx (S53.im.of_le L52))), ?_⟩
 refine ybb S53 z kr z (.cells (cs_qC z_qC zw_qC).toArray 29 (0, 0)) (fun b => .pointer (some ⟨b, 0, none⟩)) kr (fun b55 w58 S57 => (ym (S57.rd m5) (yx (S57.im.of_le L52)))) ?_
 intro b55 w58 S57
 obtain ⟨⟨r64, r65⟩, Xr59, R1⟩ := bsm R1
 refine yae (law19_Next_ok h_r54 (h_p2.A.mono L52) S57 Xr59) ?_
 rintro _ w60 ⟨I61, w_r64, rfl, L62, S63, h_r64⟩
 refine ⟨_, rfl, (ym (S63.rd m5) (yx (S63.im.of_le le))), ?_⟩
 exact ya 5 3 z (WO.tail z (yaa S63 0 (cs_qC r64 w_r64) fun w67 S66 => ya 10 1 z (yt (sj R1 ▸ yv ⟨I61, w_r64, b55, rfl, le, S66.front5.drop.front4.front4.front4.front4.front8.front8.front8.front8, h_r64⟩))))
 show WO _ _ _ _ _ _ _ [0, 2, 3, 1, 4, 5, 6, 7, 8, 9, 10] _ _
 refine ya 0 1 z (yf 2 1 [2] z (y7 ((cs_law19_Act p2.A w_p2.A)) (rd_c m0 (S9.rd m0)) z (bsk R1 fun r87 Xr82 R1 => yae (r22_Chain_Now_ok h_p1 S9.front8.front8.front8.front8 Xr82) ?_)))
 rintro _ w83 ⟨I84, w_r87, rfl, L85, S86, h_r87⟩
 refine ⟨_, rfl, (ym (S86.rd m4) (yx (S86.im.of_le L85))), ?_⟩
 obtain ⟨⟨r93, r94⟩, Xr88, R1⟩ := bsm R1
 refine yae (law19_Next_ok h_r87 (h_p2.A.mono L85) S86 Xr88) ?_
 rintro _ w89 ⟨I90, w_r93, rfl, L91, S92, h_r93⟩
 refine ⟨_, rfl, (ym (S92.rd m4) (yx (S92.im.of_le le))), ?_⟩
 refine ya 5 3 z (ybb S92 z kr z (.cells (cs_qC z_qC zw_qC).toArray 29 (0, 0)) (fun b => .pointer (some ⟨b, 0, none⟩)) kr (fun b95 w98 S97 => (ym (S97.rd m5) (yx (S97.im.of_le le)))) ?_)
 intro b95 w98 S97
 exact WO.tail z (yaa S97 0 (cs_qC r93 w_r93) fun w100 S99 => ya 10 1 z (yt (sj R1 ▸ yv ⟨I90, w_r93, b95, rfl, le, S99.front5.drop.front4.front4.front4.front4.front8.front8.front8.front8, h_r93⟩)))
 rintro _ w111 ⟨I7, w_j5, b_j5, rfl, L8, S112, h_j5⟩
 refine ye (W.seq (have S113 := S112.drew; ya1 nL8 5 (ym (S113.rd m8) (yx S113.im)) ?_))
 generalize World.drew _ = w114 at *
 refine ya 0 1 z (y7 ((cs_qC j5 w_j5)) (rd_c m0 (S113.rd m8)) z ?_)
 obtain ⟨⟨r124, r125⟩, Xr119, D⟩ := bsm D
 refine yae (chain_Chain_Publish_ok (h_p0.mono L8) h_j5 S113.front3.front3.front3.front3 Xr119) ?_
 rintro _ w120 ⟨I121, w_r125, rfl, L122, S123, h_r125⟩
 refine ⟨_, rfl, (ym (S123.rd m8) (yx (S123.im.of_le L122))), ?_⟩
 refine ya 3 1 z (y7 ((cs_qC j5 w_j5)) (rd_c m0 (S123.rd m8)) z (WO.tail z ?_))
 obtain ⟨⟨r135, r136⟩, Xr130, D⟩ := bsm D
 refine yae (r22_Chain_Publish_ok (h_p1.mono le) (h_j5.mono L122) S123.front7.front7.front7.front7 Xr130) ?_
 rintro _ w131 ⟨I132, w_r136, rfl, L133, S134, h_r136⟩
 exact cv (ya 6 2 z (yb (yp (yk (yh (sj D ▸ yw ⟨I132, w_r125, w_r136, rfl, le, S134.front8.drop.front3.front3.front3.front3.front7.front7.front7.front7, (h_r125.mono L133), h_r136⟩))))))
 refine yg nL2 (ya 0 2 z (yb (y6 D (fun G D => ?_) (fun G D => ?_))))
 refine yg nL9 (yf 0 2 [1] z (yj (S3.rf m0) z ?_))
 obtain ⟨⟨r156, r157, r158⟩, Xr151, D⟩ := bsm D
 refine yae (chain_Chain_Pin_ok h_p0 S3.front4.front4.front4.front4 Xr151) ?_
 rintro _ w152 ⟨I153, w_r158, rfl, L154, S155, h_r158⟩
 refine cv (ya 4 5 z (yac nL9 (yf 0 2 [1] z (yj (S155.rf m4) z ?_))))
 obtain ⟨⟨r168, r169, r170⟩, Xr163, D⟩ := bsm D
 refine yae (r22_Chain_Pin_ok (h_p1.mono L154) S155.front8.front8.front8.front8 Xr163) ?_
 rintro _ w164 ⟨I165, w_r170, rfl, L166, S167, h_r170⟩
 exact cv (ya 4 5 z (yac nL9 (ya 0 4 z (yaw [4, 5, 6] 7 51 55 (.refl ((r156 == r168) && (r157 == r169))) (fun _ => ya 4 4 z yak) (ya 8 1 z (yb (yp (yk (yh (sj D ▸ yw ⟨I165, w_r158, w_r170, rfl, le, S167.front8.drop.front3.front3.front3.front3.front7.front7.front7.front7, (h_r158.mono L166), h_r170⟩))))))))))
 refine yg nL2 (ya 0 2 z (yb (y6 D (fun G D => ?_) (fun G D => ?_))))
 refine W.seq (have S183 := S3.drew; ya1 nL10 7 (ym (S183.rd m0) (yx S183.im)) ?_)
 generalize World.drew _ = w184 at *
 refine yf 0 2 [1] z (yj (rd_c m0 (S183.rd m0)) z ?_)
 obtain ⟨⟨r194, r195⟩, Xr189, D⟩ := bsm D
 refine yae (chain_Chain_Unpin_ok h_p0 S183.front4.front4.front4.front4 Xr189) ?_
 rintro _ w190 ⟨I191, w_r195, rfl, L192, S193, h_r195⟩
 refine ⟨_, rfl, (ym (S193.rd m4) (yx (S193.im.of_le L192))), ?_⟩
 refine yf 4 2 [1] z (yj (rd_c m0 (S193.rd m4)) z (WO.tail z ?_))
 obtain ⟨⟨r205, r206⟩, Xr200, D⟩ := bsm D
 refine yae (r22_Chain_Unpin_ok (h_p1.mono L192) S193.front8.front8.front8.front8 Xr200) ?_
 rintro _ w201 ⟨I202, w_r206, rfl, L203, S204, h_r206⟩
 exact cv (ya 8 2 z (yb (yp (yk (yh (sj D ▸ yw ⟨I202, w_r195, w_r206, rfl, le, S204.front8.drop.front3.front3.front3.front3.front7.front7.front7.front7, (h_r195.mono L203), h_r206⟩))))))
 refine W.skip (yl (ye (W.seq (have S217 := S3.drew; ya1 nL10 7 (ym (S217.rd m0) (yx S217.im)) ?_))))
 generalize World.drew _ = w218 at *
 refine yf 0 2 [1] z (yj (rd_c m0 (S217.rd m0)) z ?_)
 obtain ⟨⟨r228, r229⟩, Xr223, D⟩ := bsm D
 refine yae (chain_Chain_Hear_ok h_p0 S217.front4.front4.front4.front4 Xr223) ?_
 rintro _ w224 ⟨I225, a_r228, c_r228, w_r229, rfl, L226, S227, h_r228, h_r229⟩
 refine ⟨_, rfl, (ym (S227.rd m4) (yx (S227.im.of_le L226))), ?_⟩
 refine yf 4 2 [1] z (yj (rd_c m0 (S227.rd m4)) z (WO.tail z ?_))
 obtain ⟨⟨r239, r240⟩, Xr234, D⟩ := bsm D
 refine yae (r22_Chain_Hear_ok (h_p1.mono L226) S227.front8.front8.front8.front8 Xr234) ?_
 rintro _ w235 ⟨I236, a_r239, c_r239, w_r240, rfl, L237, S238, h_r239, h_r240⟩
 exact cv (bsk D fun r246 Xr241 D => WO.c1 (r12_SameTexts_ok (RSl.mono h_r228 L237) h_r239 S238 Xr241) z fun I243 w242 L244 S245 => ya 9 1 z (yb (yp (sj D ▸ yw ⟨I243, w_r229, w_r240, rfl, le, S245.front8.drop.front3.front3.front3.front3.front7.front7.front7.front7, (h_r229.mono le), (h_r240.mono L244)⟩))))
def chain_Chain_At (h : chain_Chain) (who : Int) : Option (qC × Bool) :=
  bif !mhas iEq h.pins who then some (z_qC, false) else (mget iEq h.live ((mget iEq h.pins who).getD 0)).bind fun k => some (k.c, true)
theorem chain_Chain_At_ok {p0 : chain_Chain} {p1 : Int} {b_p0 : Nat} {w_p0 : W_chain_Chain} (h_p0 : ok_chain_Chain I p0 w_p0) (hS : St E w I (Bx b_p0 (cs_chain_Chain p0 w_p0) 88 :: w_p0.live.C :: w_p0.pins.C :: w_p0.news.C :: Os)) {r : qC × Bool} (D : chain_Chain_At p0 p1 = some r) :
    Calls P 22 #[Pt b_p0 0, Iv p1] w (fun e w' => ∃ (I' : Mem) (w_rw0 : W_qC), e = .returned (.tuple #[(vC r.1 w_rw0), (.bool r.2)]) ∧ I.Le I' ∧ St E w' I' (Bx b_p0 (cs_chain_Chain p0 w_p0) 88 :: w_p0.live.C :: w_p0.pins.C :: w_p0.news.C :: Os) ∧ ok_qC I' r.1 w_rw0) := by
  refine calls_W (args := [Pt b_p0 0, Iv p1]) (fn := Tryz.f22) rfl rfl rfl ?_
  unfold chain_Chain_At at D
  obtain ⟨v1, hv1, hq1⟩ := h_p0.pins.lookup (P := P) (t := 85) (kt := 3) (et := 3) kr (keyLaw_int (kt := 3) kr) p1 (zv := Iv 0) (z0 := (0 : Int)) kr rfl
  obtain rfl : v1 = Iv ((mget iEq p0.pins p1).getD 0) := (List.cons.inj (show [v1] = [Iv _] from hv1)).1
  refine yg nL2 (yab hS (cs_qC z_qC zw_qC) 29 z fun b1 w1 S1 => ya 1 1 z (yb (W.seq (yg nL2 (ya 0 1 z (WO.c1 (chain_Chain_dead_ok h_p0 S1.front4.front4.front4.front4 z) z fun I2 w2 L2 S2 => yb (yas fun _ => W.skip (ye (yg nL11 (yf 0 3 [2] z (yj (S2.rf m0) z (ya 4 1 z ?_))))))))))))
  refine WO.lookup z kr z z hq1 (rd_f (S2.rd m2)) (.tuple #[Iv ((mget iEq p0.pins p1).getD 0), .bool (mhas iEq p0.pins p1)]) z ?_
  refine ya 6 5 z (yb (W.seq (yg nL2 (ya 0 2 z (yb (y6 D (fun G D => ?_) (fun G D => ?_)))))))
  · exact yg nL3 (yaf 0 22 (vC z_qC zw_qC) (yaa S2.front4 0 (cs_qC z_qC zw_qC) fun w4 S4 => ya 2 1 rfl (yb (yp (yh (sj D ▸ ya5 _ (S4.rd m0) ⟨I2, zw_qC, rfl, L2, S4.drop, zok_qC⟩))))))
  · obtain ⟨k, hk, D⟩ := bind_some D
    obtain ⟨Cm, lm, b, cs, hcm, hm, hg, hh, hC, G, ⟨wk, rfl, hok⟩, _⟩ := (h_p0.live.mono L2).look ieqP hk
    obtain ⟨v, hv, hq⟩ := hm.lookup (P := P) (t := 84) (kt := 3) (et := 81) kr (keyLaw_int (kt := 3) kr) ((mget iEq p0.pins p1).getD 0) (zv := .pointer none) (z0 := (none : Option Nat)) kr rfl
    rw [hg] at hv
    obtain rfl : v = Pt b 0 := hv
    refine W.skip (ye (yg nL11 (yf 0 3 [0] z (yj (S2.rf m0) z (ya 4 1 z ?_)))))
    refine WO.lookup z kr z z hq (fun w' hw => hcm w' (rd_f (S2.rd m1) w' hw)) (Pt b 0) z ?_
    refine yf 6 2 [0] z (yaq (cs_qC k.c wk.c) G 0 (S2.rf m1) z ?_)
    exact yaa S2.front4 0 (cs_qC k.c wk.c) fun w7 S7 => ya 10 1 z (yb (yp (sj D ▸ ya5 _ (S7.rd m0) ⟨I2, wk.c, rfl, L2, S7.drop, hok.c⟩)))
noncomputable def r12_SameCons (p0 : qK) (p1 : qK) : Option Bool := (some (((sEq p0.Name p1.Name) && (p0.Kind == p1.Kind)) && (sEq p0.Table p1.Table))).bind (fun (q11 : Bool) => ((bif q11 then (r12_SameTexts p0.Cols p1.Cols).bind (fun r23 => some r23) else some false)).bind (fun (j14 : Bool) => ((bif j14 then (r12_SameTexts p0.Refs p1.Refs).bind (fun r37 => some r37) else some false)).bind (fun (j28 : Bool) => ((bif j28 then (r10_Same p0.Check p1.Check).bind (fun r49 => some r49) else some false)).bind (fun (j40 : Bool) => some j40))))
theorem r12_SameCons_ok {p0 : qK} {p1 : qK} {w_p0 : W_qK} {w_p1 : W_qK} (h_p0 : ok_qK I p0 w_p0) (h_p1 : ok_qK I p1 w_p1) (hS : St E w I Os) {r : Bool} (D : r12_SameCons p0 p1 = some r) :
    Calls P 74 #[(vK p0 w_p0), (vK p1 w_p1)] w (RT E I Os (.bool r)) := by
 refine calls_W (fn := Tryz.f74) rfl rfl rfl ?_
 unfold r12_SameCons at D
 refine yg nL3 (yab hS (cs_qK p0 w_p0) 137 z fun b1 w4 S3 => yab S3 (cs_qK p1 w_p1) 137 z fun b5 w8 S7 => ya 2 1 z (yac nL41 (yf 0 1 [0] z (yj (S7.rf m1) z (yf 2 1 [0] z (yj (S7.rf m0) z (ya 4 2 z (yaw [6, 7, 8, 9, 10] 11 10 16 (.refl ((sEq p0.Name p1.Name) && (p0.Kind == p1.Kind))) (fun _ => yf 6 1 [1] z (yj (S7.rf m1) z (yf 8 1 [1] z (yj (S7.rf m0) z (ya 10 2 z yak))))) (ya 12 1 z (bsq D fun q11 Xq11 D => yaw [13, 14, 15, 16, 17] 18 17 23 Xq11 (fun _ => yf 13 1 [10] z (yj (S7.rf m1) z (yf 15 1 [10] z (yj (S7.rf m0) z (ya 17 2 z yak))))) (ya 19 1 z (bsk D fun j14 R1 D => yam (l1 := [20, 21, 22, 23, 24, 25]) (J := JI E I [(2, Pt b1 0), (3, Pt b5 0), (30, .bool j14)] (bK b1 p0 w_p0 :: (bK b5 p1 w_p1) :: Os)) ?_ ?_))))))))))))
 refine yal R1 (fun G R1 => ?_) (fun G R1 => ?_)
 exact yz 24 G (yf 20 1 [2] z (yj (S7.rf m1) z (yf 22 1 [2] z (yj (S7.rf m0) z (bsk R1 fun r23 Xr18 R1 => WO.c1 (r12_SameTexts_ok h_p0.Cols h_p1.Cols S7 Xr18) z fun I20 w19 L21 S22 => ya 25 1 z (sj R1 ▸ yy ⟨I20, rfl, L21, S22.front1⟩))))))
 refine yz 24 G ?_
 iterate 5 refine WO.ps ?_
 exact ya 25 1 z (sj R1 ▸ yy ⟨I, rfl, lr, S7.front1⟩)
 rintro _ w26 ⟨I16, rfl, L17, S27⟩
 refine ya 26 1 z (bsk D fun j28 R1 D => yam (l1 := [27, 28, 29, 30, 31, 32]) (J := JI E I16 [(2, Pt b1 0), (3, Pt b5 0), (37, .bool j28)] (bK b1 p0 w_p0 :: (bK b5 p1 w_p1) :: Os)) ?_ ?_)
 refine yal R1 (fun G R1 => ?_) (fun G R1 => ?_)
 exact yz 31 G (yf 27 1 [11] z (yj (S27.rf m0) z (yf 29 1 [11] z (yj (S27.rf m1) z (bsk R1 fun r37 Xr32 R1 => WO.c1 (r12_SameTexts_ok (RSl.mono h_p0.Refs L17) (RSl.mono h_p1.Refs L17) S27 Xr32) z fun I34 w33 L35 S36 => ya 32 1 z (sj R1 ▸ yy ⟨I34, rfl, L35, S36⟩))))))
 refine yz 31 G ?_
 iterate 5 refine WO.ps ?_
 exact ya 32 1 z (sj R1 ▸ yy ⟨I16, rfl, lr, S27⟩)
 rintro _ w38 ⟨I30, rfl, L31, S39⟩
 refine ya 33 1 z (bsk D fun j40 R1 D => yam (l1 := [34, 35, 36, 37, 38, 39]) (J := JI E I30 [(44, .bool j40)] Os) ?_ ?_)
 refine yal R1 (fun G R1 => ?_) (fun G R1 => ?_)
 exact yz 38 G (yf 34 1 [3] z (y7 ((cs_qE p0.Check w_p0.Check)) (S39.rf m0) z (yf 36 1 [3] z (y7 ((cs_qE p1.Check w_p1.Check)) (S39.rf m1) z (bsk R1 fun r49 Xr44 R1 => WO.c1 (r10_Same_ok (h_p0.Check.mono le) (h_p1.Check.mono le) S39 Xr44) z fun I46 w45 L47 S48 => ya 39 1 z (sj R1 ▸ yy ⟨I46, rfl, L47, S48.d2⟩))))))
 refine yz 38 G ?_
 iterate 5 refine WO.ps ?_
 exact ya 39 1 z (sj R1 ▸ yy ⟨I30, rfl, lr, S39.d2⟩)
 rintro _ w54 ⟨I42, rfl, L43, S55⟩
 exact ya 40 1 z (yb (yp (sj D ▸ yw ⟨I42, rfl, le, S55⟩)))
noncomputable def r14_Same (p0 : qT) (p1 : qT) : Option Bool := (some (((!sEq p0.Name p1.Name) || (!sEq p0.Owner p1.Owner)) || (p0.Version != p1.Version))).bind (fun (q11 : Bool) => (some ((q11 || ((p0.Cols.length : Int) != (p1.Cols.length : Int))) || ((p0.Cons.length : Int) != (p1.Cons.length : Int)))).bind (fun (q16 : Bool) => (bif (q16 || ((p0.Idx.length : Int) != (p1.Idx.length : Int))) then some false else (forN (fun (i26 : Nat) (_s : Unit) => (idx p0.Cols (i26 : Int)).bind (fun x36 => (idx p1.Cols (i26 : Int)).bind (fun x37 => (bif (!(sEq x36.Name x37.Name && ((x36.Type_ == x37.Type_) && (x36.NotNull == x37.NotNull)))) then some (.inr false) else some (.inl ()))))) p0.Cols.length 0 ()).bind (fun (t : Unit ⊕ (Bool)) => match t with | .inl _ => (forN (fun (i49 : Nat) (_s : Unit) => (idx p0.Cons (i49 : Int)).bind (fun x58 => (idx p1.Cons (i49 : Int)).bind (fun x59 => (r12_SameCons x58 x59).bind (fun r65 => (bif (!r65) then some (.inr false) else some (.inl ())))))) p0.Cons.length 0 ()).bind (fun (t : Unit ⊕ (Bool)) => match t with | .inl _ => (forN (fun (i77 : Nat) (_s : Unit) => (idx p0.Idx (i77 : Int)).bind (fun x86 => (idx p1.Idx (i77 : Int)).bind (fun x87 => ((bif (!sEq x86.Name x87.Name) then some true else (idx p0.Idx (i77 : Int)).bind (fun x92 => (idx p1.Idx (i77 : Int)).bind (fun x93 => (r12_SameTexts x92.Cols x93.Cols).bind (fun r99 => some (!r99)))))).bind (fun (j88 : Bool) => (bif j88 then some (.inr false) else some (.inl ())))))) p0.Idx.length 0 ()).bind (fun (t : Unit ⊕ (Bool)) => match t with | .inl _ => some true | .inr s103 => some s103) | .inr s67 => some s67) | .inr s39 => some s39))))
theorem r14_Same_ok {p0 : qT} {p1 : qT} {w_p0 : W_qT} {w_p1 : W_qT} (h_p0 : ok_qT I p0 w_p0) (h_p1 : ok_qT I p1 w_p1) (hS : St E w I Os) {r : Bool} (D : r14_Same p0 p1 = some r) :
    Calls P 47 #[(vT p0 w_p0), (vT p1 w_p1)] w (RT E I Os (.bool r)) := by
 refine calls_W (fn := Tryz.f47) rfl rfl rfl ?_
 unfold r14_Same at D
 refine yg nL3 (yab hS (cs_qT p0 w_p0) 78 z fun b1 w4 S3 => yab S3 (cs_qT p1 w_p1) 78 z fun b5 w8 S7 => ya 2 1 z (yb (W.seq (yg nL46 (yf 0 1 [0] z (yj (S7.rf m1) z (yf 2 1 [0] z (yj (S7.rf m0) z (ya 4 2 z (yav [6, 7, 8, 9, 10] 11 13 19 (.refl ((!sEq p0.Name p1.Name) || (!sEq p0.Owner p1.Owner))) (fun _ => yf 6 1 [1] z (yj (S7.rf m1) z (yf 8 1 [1] z (yj (S7.rf m0) z (ya 10 2 z yak))))) (ya 12 1 z (bsq D fun q11 Xq11 D => yav [13, 14, 15, 16, 17] 18 20 26 Xq11 (fun _ => yf 13 1 [2] z (yj (S7.rf m1) z (yf 15 1 [2] z (yj (S7.rf m0) z (ya 17 2 z yak))))) (ya 19 1 z (yav [20, 21, 22, 23, 24, 25, 26] 27 27 35 (.refl (q11 || ((p0.Cols.length : Int) != (p1.Cols.length : Int)))) (fun _ => yf 20 1 [3] z (yj (S7.rf m1) z (yf 22 2 [3] z (yj (S7.rf m0) z (ya 25 3 z yak))))) (ya 28 1 z (bsq D fun q16 Xq16 D => yav [29, 30, 31, 32, 33, 34, 35] 36 36 44 Xq16 (fun _ => yf 29 1 [4] z (yj (S7.rf m1) z (yf 31 2 [4] z (yj (S7.rf m0) z (ya 34 3 z yak))))) (ya 37 1 z (yav [38, 39, 40, 41, 42, 43, 44] 45 45 53 (.refl (q16 || ((p0.Idx.length : Int) != (p1.Idx.length : Int)))) (fun _ => yf 38 1 [5] z (yj (S7.rf m1) z (yf 40 2 [5] z (yj (S7.rf m0) z (ya 43 3 z yak))))) (yb (y6 D (fun G D => ?_) (fun G D => ?_)))))))))))))))))))))
 exact yg [0] (ya 0 1 z (yb (yp (yh (sj D ▸ yw ⟨I, rfl, lr, S7.d2⟩)))))
 refine W.skip (ye (W.seq (yg [0] (ya 0 1 z (yb (yn (bsk D fun t23 hloop27 D => have hlt32 := (h_p0.Cols).len_lt; W.wk (yap (m := p0.Cols.length) hloop27 (fun (i26 : Nat) (_s : Unit) => JI E I [(2, Pt b1 0), (3, Pt b5 0), (5, Nv i26)] (bT b1 p0 w_p0 :: (bT b5 p1 w_p1) :: Os)) ⟨I, rfl, lr, S7.front1⟩ ?_ ?_))))))))
 rintro i26 _ _ w29 hi33 ⟨I24, rfl, L25, S30⟩ x31 R1 hext23
 refine W.seq (yg nL5 (yf 0 2 [3] z (yj (S30.rf m0) z (ya 3 2 z (yb (yat fun _ => W.skip (ye (W.seq (yn (W.seq (have S34 := S30.drew; ya1 nL11 10 (ym (S34.rd m0) (ym (S34.rd m1) (yx S34.im))) ?_)))))))))))
 generalize World.drew _ = w35 at *
 refine yf 0 1 [3] z (yj (rd_c m0 (S34.rd m0)) z (ya 2 1 z ?_))
 obtain ⟨x36, R1, Hx36, _, rfl, Zx36⟩ := sx I24 h_p0.Cols R1
 refine y0 111 3 Hx36 z (yaq ((cs_qL x36)) Zx36 0 (rd_i S34.im) z (yf 5 1 [3] z (yj (rd_c m1 (S34.rd m1)) z (ya 7 1 z ?_))))
 obtain ⟨x37, R1, Hx37, _, rfl, Zx37⟩ := sx I24 h_p1.Cols R1
 refine y0 111 3 Hx37 z (yaq ((cs_qL x37)) Zx37 0 (rd_i S34.im) z (WO.tail z (ybe z kr z z kr 50 z (b := (sEq x36.Name x37.Name && ((x36.Type_ == x37.Type_) && ((x36.NotNull == x37.NotNull) && true)))) kr (!(sEq x36.Name x37.Name && ((x36.Type_ == x37.Type_) && (x36.NotNull == x37.NotNull)))) (.inr ⟨rfl, by simp only [Bool.and_true]⟩) ?_)))
 refine yb (y6 R1 (fun G R1 => ?_) (fun G R1 => ?_))
 refine yg [0] (ya 0 1 z (yb (yp (yk (yh (yr ?_))))))
 obtain rfl := hext23 _ (sj R1).symm
 exact yk (yh (sj D ▸ yw ⟨I24, rfl, L25, S34.d2⟩))
 exact W.skip (yl (ye (yai nL3 (ya 0 1 z (yao i26 z (ya 2 1 z (yt (yv ⟨(), (sj R1).symm, I24, rfl, L25, S34⟩))))))))
 rintro _ _ w44 ⟨I24, rfl, L25, S45⟩ he
 cases he
 refine W.seq (yg nL5 (yf 0 2 [3] z (yj (S45.rf m0) z (ya 3 2 z (yb (yas fun _ => W.exit (yo (yq (yu (ye (W.seq (yg [0] (ya 0 1 z (yb (yn (bsk D fun t46 hloop50 D => have hlt54 := ((RSl.mono h_p0.Cons L25)).len_lt; W.wk (yap (m := p0.Cons.length) hloop50 (fun (i49 : Nat) (_s : Unit) => JI E I24 [(2, Pt b1 0), (3, Pt b5 0), (6, Nv i49)] (bT b1 p0 w_p0 :: (bT b5 p1 w_p1) :: Os)) ⟨I24, rfl, lr, S45⟩ ?_ ?_)))))))))))))))))
 rintro i49 _ _ w51 hi55 ⟨I47, rfl, L48, S52⟩ x53 R1 hext46
 refine W.seq (yg nL5 (yf 0 2 [4] z (yj (S52.rf m0) z (ya 3 2 z (yb (yat fun _ => W.skip (ye (W.seq (yn (W.seq (have S56 := S52.drew; ya1 nL12 10 (ym (S56.rd m0) (ym (S56.rd m1) (yx S56.im))) ?_)))))))))))
 generalize World.drew _ = w57 at *
 refine yf 0 1 [4] z (yj (rd_c m0 (S56.rd m0)) z (ya 2 1 z ?_))
 obtain ⟨x58, R1, Hx58, _, ⟨w_x58, rfl, h_x58⟩, Zx58⟩ := sx I47 h_p0.Cons R1
 refine y0 137 12 Hx58 z (yaq ((cs_qK x58 w_x58)) Zx58 0 (rd_i S56.im) z (yf 5 1 [4] z (yj (rd_c m1 (S56.rd m1)) z (ya 7 1 z ?_))))
 obtain ⟨x59, R1, Hx59, _, ⟨w_x59, rfl, h_x59⟩, Zx59⟩ := sx I47 h_p1.Cons R1
 refine y0 137 12 Hx59 z (yaq ((cs_qK x59 w_x59)) Zx59 0 (rd_i S56.im) z (WO.tail z (bsk R1 fun r65 Xr60 R1 => WO.c1 (r12_SameCons_ok h_x58 h_x59 S56 Xr60) z fun I62 w61 L63 S64 => ya 11 1 z (yb (y6 R1 (fun G R1 => ?_) (fun G R1 => ?_))))))
 refine yg [0] (ya 0 1 z (yb (yp (yk (yh (yr ?_))))))
 obtain rfl := hext46 _ (sj R1).symm
 exact yk (yh (sj D ▸ yw ⟨I62, rfl, le, S64.d2⟩))
 exact W.skip (yl (ye (yai nL3 (ya 0 1 z (yao i49 z (ya 2 1 z (yt (yv ⟨(), (sj R1).symm, I62, rfl, le, S64⟩))))))))
 rintro _ _ w72 ⟨I47, rfl, L48, S73⟩ he
 cases he
 refine W.seq (yg nL5 (yf 0 2 [4] z (yj (S73.rf m0) z (ya 3 2 z (yb (yas fun _ => W.exit (yo (yq (yu (ye (W.seq (yg [0] (ya 0 1 z (yb (yn (bsk D fun t74 hloop78 D => have hlt82 := ((RSl.mono h_p0.Idx (L25.trans L48))).len_lt; W.wk (yap (m := p0.Idx.length) hloop78 (fun (i77 : Nat) (_s : Unit) => JI E I47 [(2, Pt b1 0), (3, Pt b5 0), (7, Nv i77)] (bT b1 p0 w_p0 :: (bT b5 p1 w_p1) :: Os)) ⟨I47, rfl, lr, S73⟩ ?_ ?_)))))))))))))))))
 rintro i77 _ _ w79 hi83 ⟨I75, rfl, L76, S80⟩ x81 R1 hext74
 refine W.seq (yg nL5 (yf 0 2 [5] z (yj (S80.rf m0) z (ya 3 2 z (yb (yat fun _ => W.skip (ye (W.seq (yn (W.seq (have S84 := S80.drew; ya1 nL29 29 (ym (S84.rd m0) (ym (S84.rd m1) (yx S84.im))) ?_)))))))))))
 generalize World.drew _ = w85 at *
 refine yf 0 1 [5] z (yj (rd_c m0 (S84.rd m0)) z (ya 2 1 z ?_))
 obtain ⟨x86, R1, Hx86, _, ⟨w_x86, rfl, h_x86⟩, Zx86⟩ := sx I75 h_p0.Idx R1
 refine y0 139 2 Hx86 z (yf 4 1 [0] z (yan Zx86 (rd_i S84.im) z (yf 6 1 [5] z (yj (rd_c m1 (S84.rd m1)) z (ya 8 1 z ?_)))))
 obtain ⟨x87, R1, Hx87, _, ⟨w_x87, rfl, h_x87⟩, Zx87⟩ := sx I75 h_p1.Idx R1
 refine y0 139 2 Hx87 z (yf 10 1 [0] z (yan Zx87 (rd_i S84.im) z (ya 12 2 z (bsk R1 fun j88 R2 R1 => yam (l1 := [14, 15, 16, 17, 18, 19, 20, 21, 22, 23, 24, 25, 26, 27, 28]) (J := JI E I75 [(2, Pt b1 0), (3, Pt b5 0), (7, Nv i77), (126, .bool j88)] (bT b1 p0 w_p0 :: (bT b5 p1 w_p1) :: Os)) ?_ ?_))))
 refine yal R2 (fun G R2 => ?_) (fun G R2 => ?_)
 refine yz 111 G ?_
 iterate 14 refine WO.ps ?_
 exact ya 28 1 z (sj R2 ▸ yy ⟨I75, rfl, lr, S84⟩)
 refine yz 111 G (yf 14 1 [5] z (yj (rd_c m0 (S84.rd m0)) z (ya 16 1 z ?_)))
 obtain ⟨x92, R2, Hx92, _, ⟨w_x92, rfl, h_x92⟩, Zx92⟩ := sx I75 h_p0.Idx R2
 refine y0 139 2 Hx92 z (yf 18 1 [1] z (yar Zx92 1 (rd_i S84.im) z (yf 20 1 [5] z (yj (rd_c m1 (S84.rd m1)) z (ya 22 1 z ?_)))))
 obtain ⟨x93, R2, Hx93, _, ⟨w_x93, rfl, h_x93⟩, Zx93⟩ := sx I75 h_p1.Idx R2
 refine y0 139 2 Hx93 z (yf 24 1 [1] z (yar Zx93 1 (rd_i S84.im) z (bsk R2 fun r99 Xr94 R2 => yae (r12_SameTexts_ok h_x92.Cols h_x93.Cols S84 Xr94) ?_)))
 rintro _ w95 ⟨I96, rfl, L97, S98⟩
 refine ⟨_, rfl, (ym (S98.rd m0) (ym (S98.rd m1) (yx (S98.im.of_le L97)))), ?_⟩
 exact ya 27 2 z (sj R2 ▸ yy ⟨I96, rfl, L97, S98⟩)
 rintro _ w100 ⟨I90, rfl, L91, S101⟩
 refine yb (y6 R1 (fun G R1 => ?_) (fun G R1 => ?_))
 refine yg [0] (ya 0 1 z (yb (yp (yk (yh (yr ?_))))))
 obtain rfl := hext74 _ (sj R1).symm
 exact yk (yh (sj D ▸ yw ⟨I90, rfl, le, S101.d2⟩))
 exact W.skip (yl (ye (yai nL3 (ya 0 1 z (yao i77 z (ya 2 1 z (yt (yv ⟨(), (sj R1).symm, I90, rfl, le, S101⟩))))))))
 rintro _ _ w108 ⟨I75, rfl, L76, S109⟩ he
 cases he
 exact W.seq (yg nL5 (yf 0 2 [5] z (yj (S109.rf m0) z (ya 3 2 z (yb (yas fun _ => W.exit (yo (yq (yu (ye (yg [0] (ya 0 1 z (yb (yp (sj D ▸ yw ⟨I75, rfl, le, S109.d2⟩)))))))))))))))
noncomputable def r17_Same (p0 : qC) (p1 : qC) : Option Bool := (some ((p0.Version != p1.Version) || ((p0.Tables.length : Int) != (p1.Tables.length : Int)))).bind (fun (q9 : Bool) => (some ((q9 || ((p0.Roles.length : Int) != (p1.Roles.length : Int))) || ((p0.Grants.length : Int) != (p1.Grants.length : Int)))).bind (fun (q14 : Bool) => (bif q14 then some false else (forN (fun (i22 : Nat) (_s : Unit) => (idx p0.Tables (i22 : Int)).bind (fun x32 => (idx p1.Tables (i22 : Int)).bind (fun x33 => (r14_Same x32 x33).bind (fun r39 => (bif (!r39) then some (.inr false) else some (.inl ())))))) p0.Tables.length 0 ()).bind (fun (t : Unit ⊕ (Bool)) => match t with | .inl _ => (forN (fun (i51 : Nat) (_s : Unit) => ((idx p0.Roles (i51 : Int)).bind (fun x64 => (idx p1.Roles (i51 : Int)).bind (fun x65 => some (x64, x65)))).bind (fun ((s79, s80) : qJ × qJ) => (some ((!sEq s79.Name s80.Name) || ((s79.In.length : Int) != (s80.In.length : Int)))).bind (fun (q105 : Bool) => (bif q105 then some (.inr false) else (forN (fun (i119 : Nat) (_s : Unit) => (idx s79.In (i119 : Int)).bind (fun x128 => (idx s80.In (i119 : Int)).bind (fun x129 => (bif (!sEq x128 x129) then some (.inr false) else some (.inl ()))))) s79.In.length 0 ()).bind (fun (t : Unit ⊕ (Bool)) => match t with | .inl _ => some (.inl ()) | .inr s131 => some (.inr s131)))))) p0.Roles.length 0 ()).bind (fun (t : Unit ⊕ (Bool)) => match t with | .inl _ => (forN (fun (i151 : Nat) (_s : Unit) => (idx p0.Grants (i151 : Int)).bind (fun x160 => (idx p1.Grants (i151 : Int)).bind (fun x161 => (bif (!(sEq x160.To x161.To && (sEq x160.By x161.By && (sEq x160.Table x161.Table && ((x160.Priv == x161.Priv) && (x160.Option == x161.Option)))))) then some (.inr false) else some (.inl ()))))) p0.Grants.length 0 ()).bind (fun (t : Unit ⊕ (Bool)) => match t with | .inl _ => some true | .inr s163 => some s163) | .inr s109 => some s109) | .inr s41 => some s41))))
theorem r17_Same_ok {p0 : qC} {p1 : qC} {w_p0 : W_qC} {w_p1 : W_qC} (h_p0 : ok_qC I p0 w_p0) (h_p1 : ok_qC I p1 w_p1) (hS : St E w I Os) {r : Bool} (D : r17_Same p0 p1 = some r) :
    Calls P 19 #[(vC p0 w_p0), (vC p1 w_p1)] w (RT E I Os (.bool r)) := by
 refine calls_W (fn := Tryz.f19) rfl rfl rfl ?_
 unfold r17_Same at D
 refine yg nL3 (yab hS (cs_qC p0 w_p0) 29 z fun b1 w4 S3 => yab S3 (cs_qC p1 w_p1) 29 z fun b5 w8 S7 => ya 2 1 z (yb (W.seq (yg nL32 (yf 0 1 [0] z (yj (S7.rf m1) z (yf 2 1 [0] z (yj (S7.rf m0) z (ya 4 2 z (bsq D fun q9 Xq9 D => yav [6, 7, 8, 9, 10, 11, 12] 13 16 24 Xq9 (fun _ => yf 6 1 [1] z (yj (S7.rf m1) z (yf 8 2 [1] z (yj (S7.rf m0) z (ya 11 3 z yak))))) (ya 14 1 z (yav [15, 16, 17, 18, 19, 20, 21] 22 25 33 (.refl (q9 || ((p0.Roles.length : Int) != (p1.Roles.length : Int)))) (fun _ => yf 15 1 [2] z (yj (S7.rf m1) z (yf 17 2 [2] z (yj (S7.rf m0) z (ya 20 3 z yak))))) (ya 23 1 z (bsq D fun q14 Xq14 D => yav [24, 25, 26, 27, 28, 29, 30] 31 34 42 Xq14 (fun _ => yf 24 1 [3] z (yj (S7.rf m1) z (yf 26 2 [3] z (yj (S7.rf m0) z (ya 29 3 z yak))))) (yb (y6 D (fun G D => ?_) (fun G D => ?_)))))))))))))))))
 exact yg [0] (ya 0 1 z (yb (yp (yh (sj D ▸ yw ⟨I, rfl, lr, S7.d2⟩)))))
 refine W.skip (ye (W.seq (yg [0] (ya 0 1 z (yb (yn (bsk D fun t19 hloop23 D => have hlt28 := (h_p0.Tables).len_lt; W.wk (yap (m := p0.Tables.length) hloop23 (fun (i22 : Nat) (_s : Unit) => JI E I [(2, Pt b1 0), (3, Pt b5 0), (5, Nv i22)] (bC b1 p0 w_p0 :: (bC b5 p1 w_p1) :: Os)) ⟨I, rfl, lr, S7.front1⟩ ?_ ?_))))))))
 rintro i22 _ _ w25 hi29 ⟨I20, rfl, L21, S26⟩ x27 R1 hext19
 refine W.seq (yg nL5 (yf 0 2 [1] z (yj (S26.rf m0) z (ya 3 2 z (yb (yat fun _ => W.skip (ye (W.seq (yn (W.seq (have S30 := S26.drew; ya1 nL12 10 (ym (S30.rd m0) (ym (S30.rd m1) (yx S30.im))) ?_)))))))))))
 generalize World.drew _ = w31 at *
 refine yf 0 1 [1] z (yj (rd_c m0 (S30.rd m0)) z (ya 2 1 z ?_))
 obtain ⟨x32, R1, Hx32, _, ⟨w_x32, rfl, h_x32⟩, Zx32⟩ := sx I20 h_p0.Tables R1
 refine y0 78 6 Hx32 z (yaq ((cs_qT x32 w_x32)) Zx32 0 (rd_i S30.im) z (yf 5 1 [1] z (yj (rd_c m1 (S30.rd m1)) z (ya 7 1 z ?_))))
 obtain ⟨x33, R1, Hx33, _, ⟨w_x33, rfl, h_x33⟩, Zx33⟩ := sx I20 h_p1.Tables R1
 refine y0 78 6 Hx33 z (yaq ((cs_qT x33 w_x33)) Zx33 0 (rd_i S30.im) z (WO.tail z (bsk R1 fun r39 Xr34 R1 => WO.c1 (r14_Same_ok h_x32 h_x33 S30 Xr34) z fun I36 w35 L37 S38 => ya 11 1 z (yb (y6 R1 (fun G R1 => ?_) (fun G R1 => ?_))))))
 refine yg [0] (ya 0 1 z (yb (yp (yk (yh (yr ?_))))))
 obtain rfl := hext19 _ (sj R1).symm
 exact yk (yh (sj D ▸ yw ⟨I36, rfl, le, S38.d2⟩))
 exact W.skip (yl (ye (yai nL3 (ya 0 1 z (yao i22 z (ya 2 1 z (yt (yv ⟨(), (sj R1).symm, I36, rfl, le, S38⟩))))))))
 rintro _ _ w46 ⟨I20, rfl, L21, S47⟩ he
 cases he
 refine W.seq (yg nL5 (yf 0 2 [1] z (yj (S47.rf m0) z (ya 3 2 z (yb (yas fun _ => W.exit (yo (yq (yu (ye (W.seq (yg [0] (ya 0 1 z (yb (yn (bsk D fun t48 hloop52 D => have hlt56 := ((RSl.mono h_p0.Roles L21)).len_lt; W.wk (yap (m := p0.Roles.length) hloop52 (fun (i51 : Nat) (_s : Unit) => JI E I20 [(2, Pt b1 0), (3, Pt b5 0), (6, Nv i51)] (bC b1 p0 w_p0 :: (bC b5 p1 w_p1) :: Os)) ⟨I20, rfl, lr, S47⟩ ?_ ?_)))))))))))))))))
 rintro i51 _ _ w53 hi57 ⟨I49, rfl, L50, S54⟩ x55 R1 hext48
 refine W.seq (yg nL5 (yf 0 2 [2] z (yj (S54.rf m0) z (ya 3 2 z (yb (yat fun _ => W.skip (ye (W.seq (yn (W.seq (bsk R1 fun j58 R2 R1 => yay (J := (fun fr w => ∃ (s79 : qJ) (s80 : qJ), ∃ I60 w_s79 b_s79 w_s80 b_s80, (s79, s80) = j58 ∧ fr = [(2, Pt b1 0), (3, Pt b5 0), (6, Nv i51), (7, Pt b_s79 0), (8, Pt b_s80 0)] ∧ I49.Le I60 ∧ St E w I60 (bC b1 p0 w_p0 :: (bC b5 p1 w_p1) :: (bJ b_s79 s79 w_s79) :: (bJ b_s80 s80 w_s80) :: Os) ∧ ok_qJ I60 s79 w_s79 ∧ ok_qJ I60 s80 w_s80)) ?_ ?_)))))))))))
 have S62 := S54.drew
 refine ybs (.split 11 10 (.leaf [0, 1, 2, 3, 4, 5, 6, 7, 8, 9, 11, 10, 12, 13]) (.leaf nL14)) 13 (KR I49 [bC b1 p0 w_p0, bC b5 p1 w_p1]) qR (.ords nL14 [0, 1, 2, 3, 4, 10, 11, 12, 5, 6, 7, 8, 9, 13] kr kr kr kr kr) kr (ym (S62.rd m0) (ym (S62.rd m1) (yx S62.im))) ?_
 generalize World.drew _ = w63 at *
 refine ⟨?_, ?_⟩
 show WO _ _ _ _ _ _ _ [0, 1, 2, 3, 4, 5, 6, 7, 8, 9, 11, 10, 12, 13] _ _
 refine yf 0 1 [2] z (yj (rd_c m0 (S62.rd m0)) z (ya 2 1 z ?_))
 obtain ⟨x64, R2, Hx64, _, ⟨w_x64, rfl, h_x64⟩, Zx64⟩ := sx I49 h_p0.Roles R2
 refine y0 107 2 Hx64 z (yaq ((cs_qJ x64 w_x64)) Zx64 0 (rd_i S62.im) z (yf 5 1 [2] z (yj (rd_c m1 (S62.rd m1)) z (ya 7 1 z ?_))))
 obtain ⟨x65, R2, Hx65, _, ⟨w_x65, rfl, h_x65⟩, Zx65⟩ := sx I49 h_p1.Roles R2
 refine y0 107 2 Hx65 z (yaq ((cs_qJ x65 w_x65)) Zx65 0 (rd_i S62.im) z (ybb S62 z kr z (.cells (cs_qJ z_qJ zw_qJ).toArray 107 (0, 0)) (fun b => .pointer (some ⟨b, 0, none⟩)) kr (fun b66 w69 S68 => (ym (S68.rd m1) (ym (S68.rd m2) (yx S68.im)))) ?_))
 intro b66 w69 S68
 refine ybb S68 z kr z (.cells (cs_qJ z_qJ zw_qJ).toArray 107 (0, 0)) (fun b => .pointer (some ⟨b, 0, none⟩)) kr (fun b70 w73 S72 => (ym (S72.rd m2) (ym (S72.rd m3) (yx S72.im)))) ?_
 intro b70 w73 S72
 refine ybj S72 z kr z 0 z z kr kr kr ((cs_qJ x64 w_x64).toArray) kr (fun w75 S74 => (ym (S74.rd m2) (ym (S74.rd m3) (yx S74.im)))) ?_
 intro w75 S74
 exact WO.tail z (yaa S74.front1 0 (cs_qJ x65 w_x65) fun w78 S77 => yt (yv ⟨x64, x65, I49, w_x64, b70, w_x65, b66, sj R2, rfl, lr, S77.front1.front3.front3, h_x64, h_x65⟩))
 show WO _ _ _ _ _ _ _ nL14 _ _
 refine yf 0 1 [2] z (yj (rd_c m0 (S62.rd m0)) z (ya 2 1 z ?_))
 obtain ⟨x84, R2, Hx84, _, ⟨w_x84, rfl, h_x84⟩, Zx84⟩ := sx I49 h_p0.Roles R2
 refine y0 107 2 Hx84 z (yaq ((cs_qJ x84 w_x84)) Zx84 0 (rd_i S62.im) z (yf 5 1 [2] z (yj (rd_c m1 (S62.rd m1)) z (ya 7 1 z ?_))))
 obtain ⟨x85, R2, Hx85, _, ⟨w_x85, rfl, h_x85⟩, Zx85⟩ := sx I49 h_p1.Roles R2
 refine y0 107 2 Hx85 z (yaq ((cs_qJ x85 w_x85)) Zx85 0 (rd_i S62.im) z (ybb S62 z kr z (.cells (cs_qJ z_qJ zw_qJ).toArray 107 (0, 0)) (fun b => .pointer (some ⟨b, 0, none⟩)) kr (fun b86 w89 S88 => (ym (S88.rd m1) (ym (S88.rd m2) (yx S88.im)))) ?_))
 intro b86 w89 S88
 refine ybb S88 z kr z (.cells (cs_qJ z_qJ zw_qJ).toArray 107 (0, 0)) (fun b => .pointer (some ⟨b, 0, none⟩)) kr (fun b90 w93 S92 => (ym (S92.rd m2) (ym (S92.rd m3) (yx S92.im)))) ?_
 intro b90 w93 S92
 refine ybj S92.front1 z kr z 0 z z kr kr kr ((cs_qJ x84 w_x84).toArray) kr (fun w96 S95 => (ym (S95.rd m2) (ym (S95.rd m3) (yx S95.im)))) ?_
 intro w96 S95
 exact WO.tail z (yaa S95.front1 0 (cs_qJ x85 w_x85) fun w99 S98 => yt (yv ⟨x84, x85, I49, w_x84, b86, w_x85, b90, sj R2, rfl, lr, S98.front1.front3.front3, h_x84, h_x85⟩))
 rintro _ w103 ⟨s79, s80, I60, w_s79, b_s79, w_s80, b_s80, rfl, rfl, L61, S104, h_s79, h_s80⟩
 refine ye (W.seq (yg nL14 (yf 0 1 [0] z (yj (S104.rf m2) z (yf 2 1 [0] z (yj (S104.rf m3) z (ya 4 2 z (bsq R1 fun q105 Xq105 R1 => yav [6, 7, 8, 9, 10, 11, 12] 13 84 92 Xq105 (fun _ => yf 6 1 [1] z (yj (S104.rf m2) z (yf 8 2 [1] z (yj (S104.rf m3) z (ya 11 3 z yak))))) (yb (y6 R1 (fun G R1 => ?_) (fun G R1 => ?_)))))))))))
 refine yg [0] (ya 0 1 z (yb (yp (yh (yk (yh (yr ?_)))))))
 obtain rfl := hext48 _ (sj R1).symm
 exact yk (yh (sj D ▸ yw ⟨I60, rfl, le, S104.d4⟩))
 refine W.skip (ye (yg [0] (ya 0 1 z (yb (yn (bsk R1 fun t116 hloop120 R1 => have hlt124 := (h_s79.In).len_lt; W.wk (yap (m := s79.In.length) hloop120 (fun (i119 : Nat) (_s : Unit) => JI E I60 [(2, Pt b1 0), (3, Pt b5 0), (6, Nv i51), (7, Pt b_s79 0), (8, Pt b_s80 0), (9, Nv i119)] (bC b1 p0 w_p0 :: (bC b5 p1 w_p1) :: (bJ b_s79 s79 w_s79) :: (bJ b_s80 s80 w_s80) :: Os)) ⟨I60, rfl, lr, S104⟩ ?_ ?_)))))))
 rintro i119 _ _ w121 hi125 ⟨I117, rfl, L118, S122⟩ x123 R2 hext116
 refine W.seq (yg nL5 (yf 0 2 [1] z (yj (S122.rf m2) z (ya 3 2 z (yb (yat fun _ => W.skip (ye (W.seq (yn (W.seq (have S126 := S122.drew; ya1 nL11 10 (ym (S126.rd m2) (ym (S126.rd m3) (yx S126.im))) ?_)))))))))))
 generalize World.drew _ = w127 at *
 refine yf 0 1 [1] z (yj (rd_c m0 (S126.rd m2)) z (ya 2 1 z ?_))
 obtain ⟨x128, R2, Hx128, _, rfl, Zx128⟩ := sx I117 h_s79.In R2
 refine y0 9 1 Hx128 z (yan Zx128 (rd_i S126.im) z (yf 5 1 [1] z (yj (rd_c m1 (S126.rd m3)) z (ya 7 1 z ?_))))
 obtain ⟨x129, R2, Hx129, _, rfl, Zx129⟩ := sx I117 h_s80.In R2
 refine y0 9 1 Hx129 z (yan Zx129 (rd_i S126.im) z (WO.tail z (ya 10 1 z (yb (y6 R2 (fun G R2 => ?_) (fun G R2 => ?_))))))
 refine yg [0] (ya 0 1 z (yb (yp (yk (yh (yr ?_))))))
 obtain rfl := hext116 _ (sj R2).symm
 refine yk (yk (yh (yr ?_)))
 obtain rfl := hext48 _ (sj R1).symm
 exact yk (yh (sj D ▸ yw ⟨I117, rfl, le, S126.d4⟩))
 exact W.skip (yl (ye (yai nL3 (ya 0 1 z (yao i119 z (ya 2 1 z (yt (yv ⟨(), (sj R2).symm, I117, rfl, L118, S126⟩))))))))
 rintro _ _ w140 ⟨I117, rfl, L118, S141⟩ he
 cases he
 exact W.seq (yg nL5 (yf 0 2 [1] z (yj (S141.rf m2) z (ya 3 2 z (yb (yas fun _ => W.exit (yo (yq (yu (yl (ye (yai nL3 (ya 0 1 z (yao i51 z (ya 2 1 z (yt (yv ⟨(), (sj R1).symm, I117, rfl, le, S141.front2.drop.front2.drop⟩)))))))))))))))))
 rintro _ _ w146 ⟨I49, rfl, L50, S147⟩ he
 cases he
 refine W.seq (yg nL5 (yf 0 2 [2] z (yj (S147.rf m0) z (ya 3 2 z (yb (yas fun _ => W.exit (yo (yq (yu (ye (W.seq (yg [0] (ya 0 1 z (yb (yn (bsk D fun t148 hloop152 D => have hlt156 := ((RSl.mono h_p0.Grants (L21.trans L50))).len_lt; W.wk (yap (m := p0.Grants.length) hloop152 (fun (i151 : Nat) (_s : Unit) => JI E I49 [(2, Pt b1 0), (3, Pt b5 0), (10, Nv i151)] (bC b1 p0 w_p0 :: (bC b5 p1 w_p1) :: Os)) ⟨I49, rfl, lr, S147⟩ ?_ ?_)))))))))))))))))
 rintro i151 _ _ w153 hi157 ⟨I149, rfl, L150, S154⟩ x155 R1 hext148
 refine W.seq (yg nL5 (yf 0 2 [3] z (yj (S154.rf m0) z (ya 3 2 z (yb (yat fun _ => W.skip (ye (W.seq (yn (W.seq (have S158 := S154.drew; ya1 nL11 10 (ym (S158.rd m0) (ym (S158.rd m1) (yx S158.im))) ?_)))))))))))
 generalize World.drew _ = w159 at *
 refine yf 0 1 [3] z (yj (rd_c m0 (S158.rd m0)) z (ya 2 1 z ?_))
 obtain ⟨x160, R1, Hx160, _, rfl, Zx160⟩ := sx I149 h_p0.Grants R1
 refine y0 92 5 Hx160 z (yaq ((cs_qG x160)) Zx160 0 (rd_i S158.im) z (yf 5 1 [3] z (yj (rd_c m1 (S158.rd m1)) z (ya 7 1 z ?_))))
 obtain ⟨x161, R1, Hx161, _, rfl, Zx161⟩ := sx I149 h_p1.Grants R1
 refine y0 92 5 Hx161 z (yaq ((cs_qG x161)) Zx161 0 (rd_i S158.im) z (WO.tail z (ybe z kr z z kr 50 z (b := (sEq x160.To x161.To && (sEq x160.By x161.By && (sEq x160.Table x161.Table && ((x160.Priv == x161.Priv) && ((x160.Option == x161.Option) && true)))))) kr (!(sEq x160.To x161.To && (sEq x160.By x161.By && (sEq x160.Table x161.Table && ((x160.Priv == x161.Priv) && (x160.Option == x161.Option)))))) (.inr ⟨rfl, by simp only [Bool.and_true]⟩) ?_)))
 refine yb (y6 R1 (fun G R1 => ?_) (fun G R1 => ?_))
 refine yg [0] (ya 0 1 z (yb (yp (yk (yh (yr ?_))))))
 obtain rfl := hext148 _ (sj R1).symm
 exact yk (yh (sj D ▸ yw ⟨I149, rfl, le, S158.d2⟩))
 exact W.skip (yl (ye (yai nL3 (ya 0 1 z (yao i151 z (ya 2 1 z (yt (yv ⟨(), (sj R1).symm, I149, rfl, L150, S158⟩))))))))
 rintro _ _ w168 ⟨I149, rfl, L150, S169⟩ he
 cases he
 exact W.seq (yg nL5 (yf 0 2 [3] z (yj (S169.rf m0) z (ya 3 2 z (yb (yas fun _ => W.exit (yo (yq (yu (ye (yg [0] (ya 0 1 z (yb (yp (sj D ▸ yw ⟨I149, rfl, le, S169.d2⟩)))))))))))))))
end Go.Proofs.YtpgmbifboopfmaaGreat
