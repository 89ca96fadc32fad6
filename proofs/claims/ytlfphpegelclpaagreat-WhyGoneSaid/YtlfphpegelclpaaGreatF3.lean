/- What functions of the program come to, each by a plain one. Conditions: none. -/
import Derived.Test.YtlfphpegelclpaaGreatF2
import Derived.Test.YtlfphpegelclpaaGreatProg
set_option maxRecDepth 100000
namespace Go.Proofs.YtlfphpegelclpaaGreat
open Go.Gv
set_option maxHeartbeats 1000000
variable {E w : World} {I : Mem} {Os : List Mem}
def r10_SameList (f_188 : qE → qE → Option Bool) (p0 : List qE) (p1 : List qE) : Option Bool := (bif ((p0.length : Int) != (p1.length : Int)) then some false else (forN (fun (i4 : Nat) (_s : Unit) => (idx p0 (i4 : Int)).bind (fun x13 => (idx p1 (i4 : Int)).bind (fun x14 => (f_188 x13 x14).bind (fun (r20 : Bool) => (bif (!r20) then some (.inr false) else some (.inl ())))))) p0.length 0 ()).bind (fun (t : Unit ⊕ (Bool)) => match t with | .inl _ => some true | .inr s22 => some s22))
theorem r10_SameList_ok {f_188 : qE → qE → Option Bool} {p0 : List qE} {p1 : List qE} {a_p0 : Option Addr} {c_p0 : Nat} {a_p1 : Option Addr} {c_p1 : Nat} (h_f_188 : ∀ {E w : World} {I : Mem} {Os : List Mem} {p0 : qE} {p1 : qE} {w_p0 : W_qE} {w_p1 : W_qE} (h_p0 : ok_qE I p0 w_p0) (h_p1 : ok_qE I p1 w_p1) (hS : St E w I Os) {r : Bool} (D : f_188 p0 p1 = some r), Calls P 188 #[(vE p0 w_p0), (vE p1 w_p1)] w (RT E I Os (.bool r))) (h_p0 : RSl 7 Q_qE I a_p0 c_p0 p0) (h_p1 : RSl 7 Q_qE I a_p1 c_p1 p1) (hS : St E w I Os) {r : Bool} (D : r10_SameList f_188 p0 p1 = some r) :
    Calls P 210 #[(Sl a_p0 p0 c_p0), (Sl a_p1 p1 c_p1)] w (RT E I Os (.bool r)) := by
 refine calls_W (fn := Tryz.f210) rfl rfl rfl ?_
 unfold r10_SameList at D
 refine yf [0] (ya 0 1 z (yb (W.seq (yf nL5 (ya 0 5 z (yb (yy D (fun G D => ?_) (fun G D => ?_))))))))
 exact yf [0] (ya 0 1 z (yb (yq (yh (sj D ▸ yw ⟨I, rfl, lr, hS⟩)))))
 refine W.skip (ye (W.seq (yf [0] (ya 0 1 z (yb (yl (bsk D fun t1 hloop5 D => have hlt9 := (h_p0).len_lt; W.wk (yap (m := p0.length) hloop5 (fun (i4 : Nat) (_s : Unit) => JI E I [(0, Sl a_p0 p0 c_p0), (1, Sl a_p1 p1 c_p1), (5, Nv i4)] Os) ⟨I, rfl, lr, hS⟩ ?_ ?_))))))))
 rintro i4 _ _ w6 hi10 ⟨I2, rfl, L3, S7⟩ x8 R1 hext1
 refine W.seq (yf nL4 (ya 0 4 z (yb (yar fun _ => W.skip (ye (W.seq (yl (W.seq (have S11 := S7.drew; yba nL10 8 (yad S11.im) ?_)))))))))
 generalize World.drew _ = w12 at *
 refine ya 0 2 z ?_
 obtain ⟨x13, Xx13, R1⟩ := bsm R1
 obtain ⟨h0_x13, h1_x13, Xx13⟩ := idx_some Xx13
 obtain ⟨ha_x13, cs_x13, hn_x13, hr_x13, Zx13⟩ := ((RSl.mono h_p0 L3)).el _ _ Xx13
 obtain ⟨w_x13, rfl, h_x13⟩ := Q_qE_iff.1 hr_x13
 refine ya5 61 7 ha_x13 h0_x13 h1_x13 ?_
 refine yau ((cs_qE x13 w_x13)) Zx13 0 (rd_i S11.im) z (ya 4 2 z ?_)
 obtain ⟨x14, Xx14, R1⟩ := bsm R1
 obtain ⟨h0_x14, h1_x14, Xx14⟩ := idx_some Xx14
 obtain ⟨ha_x14, cs_x14, hn_x14, hr_x14, Zx14⟩ := ((RSl.mono h_p1 L3)).el _ _ Xx14
 obtain ⟨w_x14, rfl, h_x14⟩ := Q_qE_iff.1 hr_x14
 refine ya5 61 7 ha_x14 h0_x14 h1_x14 ?_
 refine yau ((cs_qE x14 w_x14)) Zx14 0 (rd_i S11.im) z (WO.tail z (bsk R1 fun r20 Xr15 R1 => WO.c1 (h_f_188 h_x13 h_x14 S11 Xr15) z fun I17 w16 L18 S19 => ya 9 1 z (yb (yy R1 (fun G R1 => ?_) (fun G R1 => ?_)))))
 refine yf [0] (ya 0 1 z (yb (yq (ym (yh (yu ?_))))))
 obtain rfl := hext1 _ (sj R1).symm
 exact ym (yh (sj D ▸ yw ⟨I17, rfl, le, S19⟩))
 exact W.skip (yk (ye (yag nL3 (ya 0 1 z (yam i4 z (ya 2 1 z (yp (yt ⟨(), (sj R1).symm, I17, rfl, le, S19⟩))))))))
 rintro _ _ w23 ⟨I2, rfl, L3, S24⟩ he
 cases he
 exact W.seq (yf nL4 (ya 0 4 z (yb (yas fun _ => W.exit (yn (yo (yr (ye (yf [0] (ya 0 1 z (yb (yq (sj D ▸ yw ⟨I2, rfl, L3, S24⟩)))))))))))))
def r10_Same_fu : Nat → qE → qE → Option Bool
  | 0, _, _ => none
  | fu + 1, p0, p1 => (some (((p0.Kind != p1.Kind) || (p0.Op != p1.Op)) || (!((p0.V.Kind == p1.V.Kind) && ((p0.V.N == p1.V.N) && sEq p0.V.S p1.V.S))))).bind (fun (q11 : Bool) => (bif (q11 || (!sEq p0.Name p1.Name)) then some false else (r10_SameList (r10_Same_fu fu) p0.Kids p1.Kids).bind (fun r23 => some r23)))
noncomputable def r10_Same (p0 : qE) (p1 : qE) : Option Bool := anyFuel (fun fu => r10_Same_fu fu p0 p1)
theorem r10_Same_fu_ok : ∀ (fu : Nat) {E w : World} {I : Mem} {Os : List Mem} {p0 : qE} {p1 : qE} {w_p0 : W_qE} {w_p1 : W_qE} (h_p0 : ok_qE I p0 w_p0) (h_p1 : ok_qE I p1 w_p1) (hS : St E w I Os) {r : Bool} (D : r10_Same_fu fu p0 p1 = some r),
    Calls P 188 #[(vE p0 w_p0), (vE p1 w_p1)] w (RT E I Os (.bool r)) := by
 intro fu
 induction fu with
 | zero => intro E w I Os p0 p1 w_p0 w_p1 h_p0 h_p1 hS r D; cases D
 | succ fu ih =>
 intro E w I Os p0 p1 w_p0 w_p1 h_p0 h_p1 hS r D
 refine calls_W (fn := Tryz.f188) rfl rfl rfl ?_
 unfold r10_Same_fu at D
 refine yf nL3 (yz hS (cs_qE p0 w_p0) 61 z fun b1 w4 S3 => yz S3 (cs_qE p1 w_p1) 61 z fun b5 w8 S7 => ya 2 1 z (yb (W.seq (yf nL26 (yg 0 1 [0] z (yj (S7.rf m1) z (yg 2 1 [0] z (yj (S7.rf m0) z (ya 4 2 z (ya2 [6, 7, 8, 9, 10] 11 10 16 (.refl ((p0.Kind != p1.Kind) || (p0.Op != p1.Op))) (fun _ => yg 6 1 [1] z (yj (S7.rf m1) z (yg 8 1 [1] z (yj (S7.rf m0) z (ya 10 2 z yah))))) (ya 12 1 z (bsq D fun q11 Xq11 D => ya2 [13, 14, 15, 16, 17] 18 17 23 Xq11 (fun G => ?_) ?_))))))))))))
 refine yg 13 1 [2] z (yx ((cs_qV p0.V)) (S7.rf m1) z (yg 15 1 [2] z (yx ((cs_qV p1.V)) (S7.rf m0) z (ybn z kr z z kr 50 z (b := ((p0.V.Kind == p1.V.Kind) && ((p0.V.N == p1.V.N) && (sEq p0.V.S p1.V.S && true)))) kr (!((p0.V.Kind == p1.V.Kind) && ((p0.V.N == p1.V.N) && sEq p0.V.S p1.V.S))) (.inr ⟨rfl, by simp only [Bool.and_true]⟩) ?_))))
 exact ya 18 1 z yah
 refine ya 19 1 z (ya2 [20, 21, 22, 23, 24] 25 24 30 (.refl (q11 || (!sEq p0.Name p1.Name))) (fun _ => yg 20 1 [5] z (yj (S7.rf m1) z (yg 22 1 [5] z (yj (S7.rf m0) z (ya 24 2 z yah))))) (yb (yy D (fun G D => ?_) (fun G D => ?_))))
 exact yf [0] (ya 0 1 z (yb (yq (yh (sj D ▸ yw ⟨I, rfl, lr, S7.d2⟩)))))
 exact W.skip (ye (yf nL6 (yg 0 1 [6] z (yj (S7.rf m1) z (yg 2 1 [6] z (yj (S7.rf m0) z (bsk D fun r23 Xr18 D => WO.c1 (r10_SameList_ok ih h_p0.Kids h_p1.Kids S7 Xr18) z fun I20 w19 L21 S22 => ya 5 1 z (yb (yq (sj D ▸ yw ⟨I20, rfl, L21, S22.d2⟩))))))))))
theorem r10_Same_ok {p0 : qE} {p1 : qE} {w_p0 : W_qE} {w_p1 : W_qE} (h_p0 : ok_qE I p0 w_p0) (h_p1 : ok_qE I p1 w_p1) (hS : St E w I Os) {r : Bool} (D : r10_Same p0 p1 = some r) :
    Calls P 188 #[(vE p0 w_p0), (vE p1 w_p1)] w (RT E I Os (.bool r)) := by
 obtain ⟨fu, hf⟩ := anyFuel_some D
 exact r10_Same_fu_ok fu h_p0 h_p1 hS hf
noncomputable def r12_None (p0 : qE) : Option Bool := (r10_Same p0 z_qE).bind (fun r10 => some r10)
theorem r12_None_ok {p0 : qE} {w_p0 : W_qE} (h_p0 : ok_qE I p0 w_p0) (hS : St E w I Os) {r : Bool} (D : r12_None p0 = some r) :
    Calls P 164 #[(vE p0 w_p0)] w (RT E I Os (.bool r)) := by
 refine calls_W (fn := Tryz.f164) rfl rfl rfl ?_
 unfold r12_None at D
 exact yf nL2 (yz hS (cs_qE p0 w_p0) 61 z fun b1 w4 S3 => ya 1 1 z (y0 nL4 (yx ((cs_qE p0 w_p0)) (S3.rf m0) z (y8 1 4 (vE z_qE zw_qE) (bsk D fun r10 Xr5 D => WO.c1 (r10_Same_ok h_p0 zok_qE S3 Xr5) z fun I7 w6 L8 S9 => ya 3 1 z (yb (yq (sj D ▸ yw ⟨I7, rfl, L8, S9.drop⟩))))))))
noncomputable def r14_Check (p0 : qT) : Option Int := (r14_wrong p0).bind (fun r10 => (bif (r10 != 0) then some r10 else (r14_Names p0).bind (fun (r17, r18) => (r14_Used p0).bind (fun r24 => (forN (fun (i28 : Nat) (_s : Unit) => (idx r24 (i28 : Int)).bind (fun x35 => (r14_Has r17 x35).bind (fun r41 => (bif (!r41) then some (.inr (4 : Int)) else some (.inl ()))))) r24.length 0 ()).bind (fun (t : Unit ⊕ (Int)) => match t with | .inl _ => (forN (fun (i52 : Nat) (s51 : Bool) => ((idx p0.Cons (i52 : Int)).bind (fun x63 => (bif (x63.Kind != 2) then some (.inl s51) else (idx p0.Cons (i52 : Int)).bind (fun x65 => (r10_Check x65.Check false).bind (fun r71 => (bif (r71 == 17) then some (.inr 17) else ((bif (s51 || (r71 != 0)) then some true else (idx p0.Cons (i52 : Int)).bind (fun x85 => (r10_Params x85.Check).bind (fun r91 => some (decide (r91 > 0)))))).bind (fun (j81 : Bool) => some (.inl j81)))))))).bind (fun (t : Bool ⊕ Int) => match t with | (.inl s64) => some (.inl s64) | (.inr s73) => some (.inr s73))) p0.Cons.length 0 false).bind (fun (t : Bool ⊕ (Int)) => match t with | .inl s51 => (bif s51 then some 2 else (forN (fun (i102 : Nat) (_s : Unit) => (idx p0.Cons (i102 : Int)).bind (fun x109 => ((bif (x109.Kind != 2) then (r12_None x109.Check).bind (fun r125 => some (!r125)) else some false)).bind (fun (j116 : Bool) => (some (j116 || ((x109.Kind == 2) && (decide ((x109.Cols.length : Int) > 0))))).bind (fun (q132 : Bool) => (bif q132 then some (.inr (2 : Int)) else ((bif (x109.Kind == 3) then (r09_IsName x109.Table).bind (fun r151 => (some ((!r151) || ((x109.Refs.length : Int) != (x109.Cols.length : Int)))).bind (fun (q152 : Bool) => some q152)) else some false)).bind (fun (j142 : Bool) => (some (j142 || ((x109.Kind != 3) && ((!sEq x109.Table eB) || (decide ((x109.Refs.length : Int) > 0)))))).bind (fun (q163 : Bool) => (bif q163 then some (.inr (2 : Int)) else some (.inl ()))))))))) p0.Cons.length 0 ()).bind (fun (t : Unit ⊕ (Int)) => match t with | .inl _ => some 0 | .inr s138 => some s138)) | .inr s75 => some s75) | .inr s43 => some s43)))))
theorem r14_Check_ok {p0 : qT} {w_p0 : W_qT} (h_p0 : ok_qT I p0 w_p0) (hS : St E w I Os) {r : Int} (D : r14_Check p0 = some r) :
    Calls P 131 #[(vT p0 w_p0)] w (RT E I Os (Iv r)) := by
 refine calls_W (fn := Tryz.f131) rfl rfl rfl ?_
 unfold r14_Check at D
 refine yf nL2 (yz hS (cs_qT p0 w_p0) 104 z fun b1 w4 S3 => ya 1 1 z (y0 nL3 (yx ((cs_qT p0 w_p0)) (S3.rf m0) z (bsk D fun r10 Xr5 D => WO.c1 (r14_wrong_ok h_p0 S3 Xr5) z fun I7 w6 L8 S9 => ya 2 1 z (yb (W.seq (yf nL2 (ya 0 2 z (yb (yy D (fun G D => ?_) (fun G D => ?_)))))))))))
 exact yf nL2 (ya 0 2 z (yb (yq (yh (sj D ▸ yw ⟨I7, rfl, L8, S9.drop⟩)))))
 refine W.skip (ye (yf nL7 (yx ((cs_qT p0 w_p0)) (S9.rf m0) z ?_)))
 obtain ⟨⟨r17, r18⟩, Xr12, D⟩ := bsm D
 refine yai (r14_Names_ok (h_p0.mono L8) S9 Xr12) ?_
 rintro _ w13 ⟨I14, a_r17, c_r17, a_r18, c_r18, rfl, L15, S16, h_r17, h_r18⟩
 refine cv (ya 2 5 z (y0 nL3 (yx ((cs_qT p0 w_p0)) (S16.rf m0) z (bsk D fun r24 Xr19 D => yai (r14_Used_ok (h_p0.mono le) S16 Xr19) ?_))))
 rintro _ w20 ⟨I21, a_r24, c_r24, rfl, L22, S23, h_r24⟩
 refine cv (ya 2 1 z (yb (W.seq (yf [0] (ya 0 1 z (yb (yl (bsk D fun t25 hloop29 D => have hlt33 := (h_r24).len_lt; W.wk (yap (m := r24.length) hloop29 (fun (i28 : Nat) (_s : Unit) => JI E I21 [(1, Pt b1 0), (4, Sl a_r17 r17 c_r17), (6, Sl a_r24 r24 c_r24), (7, Nv i28)] (bT b1 p0 w_p0 :: Os)) ⟨I21, rfl, lr, S23⟩ ?_ ?_)))))))))
 rintro i28 _ _ w30 hi34 ⟨I26, rfl, L27, S31⟩ x32 R1 hext25
 refine W.seq (yf nL4 (ya 0 4 z (yb (yar fun _ => W.skip (ye (W.seq (yl (yf nL7 (ya 0 3 z ?_)))))))))
 obtain ⟨x35, R1, Hx35, _, rfl, Zx35⟩ := sx I26 h_r24 R1
 refine yaa 9 1 Hx35 z (yao Zx35 S31.rm z (bsk R1 fun r41 Xr36 R1 => WO.c1 (r14_Has_ok (up h_r17) S31 Xr36) z fun I38 w37 L39 S40 => ya 6 1 z (yb (yy R1 (fun G R1 => ?_) (fun G R1 => ?_)))))
 refine yf [0] (ya 0 1 z (yb (yq (ym (yh (yu ?_))))))
 obtain rfl := hext25 _ (sj R1).symm
 exact ym (yh (sj D ▸ yw ⟨I38, rfl, le, S40.drop⟩))
 exact W.skip (yk (ye (yag nL3 (ya 0 1 z (yam i28 z (ya 2 1 z (yp (yt ⟨(), (sj R1).symm, I38, rfl, le, S40⟩))))))))
 rintro _ _ w46 ⟨I26, rfl, L27, S47⟩ he
 cases he
 refine W.seq (yf nL4 (ya 0 4 z (yb (yas fun _ => W.exit (yn (yo (yr (ye (yf [0] (ya 0 1 z (yb (W.seq (yf [0] (ya 0 1 z (yb (yl (bsk D fun t48 hloop53 D => have hlt57 := ((RSl.mono h_p0.Cons (((L8.trans L15).trans L22).trans L27))).len_lt; W.wk (yap (m := p0.Cons.length) hloop53 (fun (i52 : Nat) (s51 : Bool) => JI E I26 [(1, Pt b1 0), (8, .bool s51), (9, Nv i52)] (bT b1 p0 w_p0 :: Os)) ⟨I26, rfl, lr, S47⟩ ?_ ?_))))))))))))))))))
 rintro i52 s51 _ w54 hi58 ⟨I49, rfl, L50, S55⟩ x56 R1 hext48
 refine W.seq (yf nL5 (yg 0 2 [4] z (yj (S55.rf m0) z (ya 3 2 z (yb (yar fun _ => W.skip (ye (W.seq (bsk R1 fun j59 R2 R1 => yav (J := (fun fr w => ∃ (s64 : Bool), ∃ I61, (.inl s64) = j59 ∧ fr = [(1, Pt b1 0), (8, .bool s64), (9, Nv i52)] ∧ I49.Le I61 ∧ St E w I61 (bT b1 p0 w_p0 :: Os))) ?_ ?_)))))))))
 refine yl (W.seq (yf nL7 (yg 0 1 [4] z (yj (S55.rf m0) z (ya 2 1 z ?_)))))
 obtain ⟨x63, R2, Hx63, _, ⟨w_x63, rfl, h_x63⟩, Zx63⟩ := sx I49 h_p0.Cons R2
 refine yaa 116 12 Hx63 z (yg 4 1 [1] z (yaz Zx63 1 S55.rm z (ya 6 1 z (yb (yy R2 (fun G R2 => ?_) (fun G R2 => ?_))))))
 exact W.exit (yn (yr (yt ⟨s51, I49, sj R2, rfl, lr, S55⟩)))
 refine W.skip (ye (yf nL8 (yg 0 1 [4] z (yj (S55.rf m0) z (ya 2 1 z ?_)))))
 obtain ⟨x65, R2, Hx65, _, ⟨w_x65, rfl, h_x65⟩, Zx65⟩ := sx I49 h_p0.Cons R2
 refine yaa 116 12 Hx65 z (yg 4 1 [3] z (yau ((cs_qE x65.Check w_x65.Check)) Zx65 3 S55.rm z (bsk R2 fun r71 Xr66 R2 => WO.c1 (r10_Check_ok h_x65.Check S55 Xr66) z fun I68 w67 L69 S70 => ya 7 1 z (yb (W.seq (yf nL2 (ya 0 2 z (yb (yy R2 (fun G R2 => ?_) (fun G R2 => ?_))))))))))
 refine yf [0] (ya 0 1 z (yb (yq (yh (ym (yu ?_))))))
 obtain rfl := sj R2
 refine yh (yu ?_)
 obtain rfl := hext48 _ (sj R1).symm
 exact ym (yh (sj D ▸ yw ⟨I68, rfl, le, S70.drop⟩))
 refine W.skip (ye (yag nL16 (ya 0 2 z (ya2 [2, 3] 4 62 65 (.refl (s51 || (r71 != 0))) (fun _ => ya 2 3 z yah) (ya 5 1 z (bsk R2 fun j81 R3 R2 => yal (l1 := [6, 7, 8, 9, 10, 11, 12, 13, 14]) (J := JI E I68 [(1, Pt b1 0), (9, Nv i52), (75, .bool j81)] (bT b1 p0 w_p0 :: Os)) ?_ ?_))))))
 refine yak R3 (fun G R3 => ?_) (fun G R3 => ?_)
 refine y6 66 G ?_
 iterate 8 refine yaj ?_
 exact ya 14 1 z (sj R3 ▸ y4 ⟨I68, rfl, lr, S70⟩)
 refine y6 66 G (yg 6 1 [4] z (yj (S70.rf m0) z (ya 8 1 z ?_)))
 obtain ⟨x85, R3, Hx85, _, ⟨w_x85, rfl, h_x85⟩, Zx85⟩ := sx I68 h_p0.Cons R3
 exact yaa 116 12 Hx85 z (yg 10 1 [3] z (yau ((cs_qE x85.Check w_x85.Check)) Zx85 3 S70.rm z (bsk R3 fun r91 Xr86 R3 => WO.c1 (r10_Params_ok h_x85.Check S70 Xr86) z fun I88 w87 L89 S90 => ya 13 2 z (sj R3 ▸ y4 ⟨I88, rfl, L89, S90⟩))))
 rintro _ w92 ⟨I83, rfl, L84, S93⟩
 exact ya 15 1 z (yp (yk (yt ⟨j81, I83, sj R2, rfl, le, S93⟩)))
 rintro _ w94 ⟨s64, I61, rfl, rfl, L62, S95⟩
 exact ye (yag nL3 (ya 0 1 z (yam i52 z (ya 2 1 z (yp (yt ⟨s64, (sj R1).symm, I61, rfl, le, S95⟩))))))
 rintro s51 _ w96 ⟨I49, rfl, L50, S97⟩ he
 cases he
 refine W.seq (yf nL5 (yg 0 2 [4] z (yj (S97.rf m0) z (ya 3 2 z (yb (yas fun _ => W.exit (yn (yo (yr (ye (W.seq (yf [0] (ya 0 1 z (yb (yy D (fun G D => ?_) (fun G D => ?_))))))))))))))))
 exact yf [0] (ya 0 1 z (yb (yq (yh (sj D ▸ yw ⟨I49, rfl, le, S97.drop⟩)))))
 refine W.skip (ye (W.seq (yf [0] (ya 0 1 z (yb (yl (bsk D fun t99 hloop103 D => have hlt107 := ((RSl.mono h_p0.Cons ((((L8.trans L15).trans L22).trans L27).trans L50))).len_lt; W.wk (yap (m := p0.Cons.length) hloop103 (fun (i102 : Nat) (_s : Unit) => JI E I49 [(1, Pt b1 0), (11, Nv i102)] (bT b1 p0 w_p0 :: Os)) ⟨I49, rfl, lr, S97⟩ ?_ ?_))))))))
 rintro i102 _ _ w104 hi108 ⟨I100, rfl, L101, S105⟩ x106 R1 hext99
 refine W.seq (yf nL5 (yg 0 2 [4] z (yj (S105.rf m0) z (ya 3 2 z (yb (yar fun _ => W.skip (ye (W.seq (yl (yf nL7 (yg 0 1 [4] z (yj (S105.rf m0) z (ya 2 1 z ?_)))))))))))))
 obtain ⟨x109, R1, Hx109, _, ⟨w_x109, rfl, h_x109⟩, Zx109⟩ := sx I100 h_p0.Cons R1
 refine yaa 116 12 Hx109 z (yau ((cs_qK x109 w_x109)) Zx109 0 S105.rm z (yz S105 (cs_qK z_qK zw_qK) 116 z fun b110 w113 S112 => y7 S112 0 (cs_qK x109 w_x109) fun w115 S114 => yb (W.seq (yf nL20 (yg 0 1 [1] z (yj (S114.rf m0) z (ya 2 2 z (bsk R1 fun j116 R2 R1 => yal (l1 := [4, 5, 6, 7, 8]) (J := JI E I100 [(1, Pt b1 0), (11, Nv i102), (12, Pt b110 0), (97, .bool j116)] (bT b1 p0 w_p0 :: (bK b110 x109 w_x109) :: Os)) ?_ ?_))))))))
 refine yak R2 (fun G R2 => ?_) (fun G R2 => ?_)
 exact y6 92 G (yg 4 1 [3] z (yx ((cs_qE x109.Check w_x109.Check)) (S114.rf m0) z (bsk R2 fun r125 Xr120 R2 => WO.c1 (r12_None_ok h_x109.Check S114 Xr120) z fun I122 w121 L123 S124 => ya 7 2 z (sj R2 ▸ y4 ⟨I122, rfl, L123, S124.front1⟩))))
 refine y6 92 G ?_
 iterate 4 refine yaj ?_
 exact ya 8 1 z (sj R2 ▸ y4 ⟨I100, rfl, lr, S114.front1⟩)
 rintro _ w128 ⟨I118, rfl, L119, S129⟩
 refine ya 9 1 z (bsq R1 fun q132 Xq132 R1 => ya2 [10, 11, 12, 13, 14, 15, 16, 17, 18] 19 98 108 Xq132 (fun _ => yg 10 1 [1] z (yj (S129.rf m1) z (ya 12 2 z (yaq [14, 15, 16, 17] 18 102 107 (.refl ((x109.Kind == 2) && (decide ((x109.Cols.length : Int) > 0)))) (fun _ => yg 14 1 [2] z (yj (S129.rf m1) z (ya 16 3 z yah))) (ya 19 1 z yah))))) (yb (yy R1 (fun G R1 => ?_) (fun G R1 => ?_))))
 refine yf [0] (ya 0 1 z (yb (yq (yh (ym (yh (yu ?_)))))))
 obtain rfl := hext99 _ (sj R1).symm
 exact ym (yh (sj D ▸ yw ⟨I118, rfl, le, S129.d2⟩))
 refine W.skip (ye (yf nL34 (yg 0 1 [1] z (yj (S129.rf m1) z (ya 2 2 z (bsk R1 fun j142 R2 R1 => yal (l1 := [4, 5, 6, 7, 8, 9, 10, 11, 12, 13, 14, 15, 16, 17]) (J := JI E I118 [(1, Pt b1 0), (11, Nv i102), (12, Pt b110 0), (126, .bool j142)] (bT b1 p0 w_p0 :: (bK b110 x109 w_x109) :: Os)) ?_ ?_))))))
 refine yak R2 (fun G R2 => ?_) (fun G R2 => ?_)
 exact y6 112 G (yg 4 1 [10] z (yj (S129.rf m1) z (bsk R2 fun r151 Xr146 R2 => WO.c1 (r09_IsName_ok  S129 Xr146) z fun I148 w147 L149 S150 => ya 7 2 z (bsq R2 fun q152 Xq152 R2 => ya2 [9, 10, 11, 12, 13, 14, 15] 16 117 125 Xq152 (fun _ => yg 9 1 [11] z (yj (S150.rf m1) z (yg 11 2 [2] z (yj (S150.rf m1) z (ya 14 3 z yah))))) (ya 17 1 z (sj R2 ▸ y4 ⟨I148, rfl, L149, S150⟩))))))
 refine y6 112 G ?_
 iterate 13 refine yaj ?_
 exact ya 17 1 z (sj R2 ▸ y4 ⟨I118, rfl, lr, S129⟩)
 rintro _ w155 ⟨I144, rfl, L145, S156⟩
 refine ya 18 1 z (bsq R1 fun q163 Xq163 R1 => ya2 [19, 20, 21, 22, 23, 24, 25, 26, 27, 28, 29, 30, 31, 32] 33 127 142 Xq163 (fun _ => yg 19 1 [1] z (yj (S156.rf m1) z (ya 21 2 z (yaq [23, 24, 25, 26, 27, 28, 29, 30, 31] 32 131 141 (.refl ((x109.Kind != 3) && ((!sEq x109.Table eB) || (decide ((x109.Refs.length : Int) > 0))))) (fun _ => yg 23 1 [10] z (yj (S156.rf m1) z (ya 25 2 z (ya2 [27, 28, 29, 30] 31 135 140 (.refl ((!sEq x109.Table eB) || (decide ((x109.Refs.length : Int) > 0)))) (fun _ => yg 27 1 [11] z (yj (S156.rf m1) z (ya 29 3 z yah))) (ya 32 1 z yah))))) (ya 33 1 z yah))))) (yb (yy R1 (fun G R1 => ?_) (fun G R1 => ?_))))
 refine yf [0] (ya 0 1 z (yb (yq (ym (yh (yu ?_))))))
 obtain rfl := hext99 _ (sj R1).symm
 exact ym (yh (sj D ▸ yw ⟨I144, rfl, le, S156.d2⟩))
 exact W.skip (yk (ye (yag nL3 (ya 0 1 z (yam i102 z (ya 2 1 z (yp (yt ⟨(), (sj R1).symm, I144, rfl, le, S156.front1.drop⟩))))))))
 rintro _ _ w176 ⟨I100, rfl, L101, S177⟩ he
 cases he
 exact W.seq (yf nL5 (yg 0 2 [4] z (yj (S177.rf m0) z (ya 3 2 z (yb (yas fun _ => W.exit (yn (yo (yr (ye (yf [0] (ya 0 1 z (yb (yq (sj D ▸ yw ⟨I100, rfl, le, S177.drop⟩)))))))))))))))
def r15_Place_fu : Nat → qT → qE → Option qE
  | 0, _, _ => none
  | fu + 1, p0, p1 => (bif (p1.Kind == 2) then (r14_Col p0 p1.Name).bind (fun r18 => some { z_qE with Kind := 8, Op := r18 }) else (forE (fun (i35 : Nat) (s34 : List qE) => (idx p1.Kids (i35 : Int)).bind (fun x50 => (r15_Place_fu fu p0 x50).bind (fun r56 => (app 88 s34 ([r56] : List qE)).bind (fun x65 => some x65)))) p1.Kids.length 0 ([] : List qE)).bind (fun s34 => some { p1 with Kids := s34 }))
noncomputable def r15_Place (p0 : qT) (p1 : qE) : Option qE := anyFuel (fun fu => r15_Place_fu fu p0 p1)
theorem r15_Place_fu_ok : ∀ (fu : Nat) {E w : World} {I : Mem} {Os : List Mem} {p0 : qT} {p1 : qE} {w_p0 : W_qT} {w_p1 : W_qE} (h_p0 : ok_qT I p0 w_p0) (h_p1 : ok_qE I p1 w_p1) (hS : St E w I Os) {r : qE} (D : r15_Place_fu fu p0 p1 = some r),
    Calls P 165 #[(vT p0 w_p0), (vE p1 w_p1)] w (fun e w' => ∃ I' w_rw0, e = .returned (vE r w_rw0) ∧ I.Le I' ∧ St E w' I' Os ∧ ok_qE I' r w_rw0) := by
 intro fu
 induction fu with
 | zero => intro E w I Os p0 p1 w_p0 w_p1 h_p0 h_p1 hS r D; cases D
 | succ fu ih =>
 intro E w I Os p0 p1 w_p0 w_p1 h_p0 h_p1 hS r D
 refine calls_W (fn := Tryz.f165) rfl rfl rfl ?_
 unfold r15_Place_fu at D
 refine yf nL3 (yz hS (cs_qT p0 w_p0) 104 z fun b1 w4 S3 => yz S3 (cs_qE p1 w_p1) 61 z fun b5 w8 S7 => yz S7 (cs_qE z_qE zw_qE) 61 z fun b9 w12 S11 => yb (W.seq (yf nL3 (yg 0 1 [0] z (yj (S11.rf m1) z (ya 2 1 z (yb (yy D (fun G D => ?_) (fun G D => ?_)))))))))
 refine yf nL6 (yx ((cs_qT p0 w_p0)) (S11.rf m2) z (yg 1 1 [5] z (yj (S11.rf m1) z (bsk D fun r18 Xr13 D => WO.c1 (r14_Col_ok h_p0 S11 Xr13) z fun I15 w14 L16 S17 => y8 4 14 (.agg (cs_qE ({ z_qE with Kind := 8, Op := r18 }) zw_qE).toArray) (y7 S17 0 (cs_qE ({ z_qE with Kind := 8, Op := r18 }) zw_qE) fun w20 S19 => yb (yq (yh ?_)))))))
 have hk24 : ok_qE I15 ({ z_qE with Kind := 8, Op := r18 }) zw_qE := ⟨SlAt.nil⟩
 exact sj D ▸ En.c1 _ (S19.rd m0) ⟨I15, zw_qE, rfl, L16, S19.d3, hk24⟩
 refine W.skip (ye (yf nL11 (yg 0 1 [0] z (yj (S11.rf m1) z (yg 2 1 [1] z (yj (S11.rf m1) z (yg 4 1 [2] z (yx ((cs_qV p1.V)) (S11.rf m1) z (yg 6 1 [5] z (yj (S11.rf m1) z (y8 8 23 (.agg (cs_qE ({ p1 with Kids := ([] : List qE) }) (⟨⟨none, 0⟩⟩ : W_qE)).toArray) (yz S11 (cs_qE z_qE zw_qE) 61 z fun b25 w28 S27 => y7 S27 0 (cs_qE ({ p1 with Kids := ([] : List qE) }) (⟨⟨none, 0⟩⟩ : W_qE)) fun w30 S29 => yb (W.seq (yf [0] (ya 0 1 z (yb (yl (bsk D fun s34 hloop36 D => have hlt46 := (h_p1.Kids).len_lt; W.wk (yat (m := p1.Kids.length) hloop36 (fun (i35 : Nat) (s34 : List qE) fr w => ∃ I32 a_s34 c_s34 C_s34, fr = [(2, Pt b1 0), (3, Pt b5 0), (4, Pt b9 0), (5, Pt b25 0), (6, Nv i35)] ∧ I.Le I32 ∧ St E w I32 (bT b1 p0 w_p0 :: (bE b5 p1 w_p1) :: (bE b9 z_qE zw_qE) :: (Bx b25 (cs_qE ({ p1 with Kids := s34 }) (⟨⟨a_s34, c_s34⟩⟩ : W_qE)) 61) :: (C_s34) :: Os) ∧ OwnSl 61 7 Q_qE I32 C_s34 a_s34 c_s34 s34) ⟨I, none, 0, Mem.no, rfl, lr, S29.no.front1.front2.front3.front4, OwnSl.nil⟩ ?_ ?_)))))))))))))))))))
 rintro i35 s34 _ w43 hi47 ⟨I32, a_s34, c_s34, C_s34, rfl, L33, S44, h_s34⟩ x45 R1
 refine W.seq (yf nL5 (yg 0 2 [6] z (yj (S44.rf m1) z (ya 3 2 z (yb (yar fun _ => W.skip (ye (W.seq (yl (have S48 := S44.drew; yba nL13 10 (yv (S48.rd m0) (yv (S48.rd m1) (yv (S48.rd m3) (yad S48.im)))) ?_))))))))))
 generalize World.drew _ = w49 at *
 refine yg 0 1 [6] z (yj (rd_c m2 (S48.rd m3)) z (yx ((cs_qT p0 w_p0)) (rd_c m0 (S48.rd m0)) z (yg 3 1 [6] z (yj (rd_c m1 (S48.rd m1)) z (ya 5 1 z ?_)))))
 obtain ⟨x50, Xx50, R1⟩ := bsm R1
 obtain ⟨h0_x50, h1_x50, Xx50⟩ := idx_some Xx50
 obtain ⟨ha_x50, cs_x50, hn_x50, hr_x50, Zx50⟩ := ((RSl.mono h_p1.Kids L33)).el _ _ Xx50
 obtain ⟨w_x50, rfl, h_x50⟩ := Q_qE_iff.1 hr_x50
 refine ya5 61 7 ha_x50 h0_x50 h1_x50 ?_
 refine yau ((cs_qE x50 w_x50)) Zx50 0 (rd_i S48.im) z (bsk R1 fun r56 Xr51 R1 => yai (ih (h_p0.mono L33) h_x50 S48 Xr51) ?_)
 rintro _ w52 ⟨I53, w_r56, rfl, L54, S55, h_r56⟩
 refine ⟨_, rfl, (yv (S55.rd m0) (yv (S55.rd m1) (yv (S55.rd m3) (yad (S55.im.of_le L54))))), ?_⟩
 refine yab (rel := Q_qE) (xs := ([r56] : List qE)) S55 z kr z 61 7 [(cs_qE r56 w_r56)] kr z ((Elr.cons (Q_qE_iff.2 ⟨w_r56, rfl, h_r56⟩) Elr.nil)) (fun C58 w62 S61 => (yv (S61.rd m1) (yv (S61.rd m2) (yv (S61.rd m4) (yad (S61.im.of_le L54)))))) ?_
 intro a60 C58 w62 S61 ho59
 exact WO.tail z (have S64 := S61.front5; apk R1 fun x65 h0_x65 he_x65 R1 => yax 61 88 (cs_qE z_qE zw_qE) S64 (OwnSl.mono h_s34 L54) ho59.sl (S64.rd m1) h0_x65 he_x65 z fun a66 c67 w68 C69 S70 ho71 => yg 11 1 [6] z (y7 S70.front1.drop.front4 6 (cs_qE ({ p1 with Kids := x65 }) (⟨⟨a66, c67⟩⟩ : W_qE)) fun w76 S75 => yp (yk (ye (yag nL3 (ya 0 1 z (yam i35 z (ya 2 1 z (yp (sj R1 ▸ yt ⟨I53, a66, c67, C69, rfl, le, S75.front1.front1.front4.front4.front4, ho71⟩))))))))))
 rintro _ w82 ⟨I32, a_s34, c_s34, C_s34, rfl, L33, S83, h_s34⟩
 refine W.seq (yf nL5 (yg 0 2 [6] z (yj (S83.rf m1) z (ya 3 2 z (yb (yas fun _ => W.exit (yn (yo (yr (ye (yf nL2 (yx ((cs_qE ({ p1 with Kids := s34 }) (⟨⟨a_s34, c_s34⟩⟩ : W_qE))) (S83.rf m3) z ?_))))))))))))
 obtain ⟨I85, L86, S88, hp87⟩ := yac h_s34 S83.front4
 refine y7 S88.front2 0 (cs_qE ({ p1 with Kids := s34 }) (⟨⟨a_s34, c_s34⟩⟩ : W_qE)) fun w91 S90 => yb (yq ?_)
 have hk96 : ok_qE I85 ({ p1 with Kids := s34 }) (⟨⟨a_s34, c_s34⟩⟩ : W_qE) := ⟨hp87⟩
 exact sj D ▸ En.c1 _ (S90.rd m0) ⟨I85, (⟨⟨a_s34, c_s34⟩⟩ : W_qE), rfl, le, S90.d4, hk96⟩
theorem r15_Place_ok {p0 : qT} {p1 : qE} {w_p0 : W_qT} {w_p1 : W_qE} (h_p0 : ok_qT I p0 w_p0) (h_p1 : ok_qE I p1 w_p1) (hS : St E w I Os) {r : qE} (D : r15_Place p0 p1 = some r) :
    Calls P 165 #[(vT p0 w_p0), (vE p1 w_p1)] w (fun e w' => ∃ I' w_rw0, e = .returned (vE r w_rw0) ∧ I.Le I' ∧ St E w' I' Os ∧ ok_qE I' r w_rw0) := by
 obtain ⟨fu, hf⟩ := anyFuel_some D
 exact r15_Place_fu_ok fu h_p0 h_p1 hS hf
noncomputable def r15_Resolve (p0 : qT) (p1 : qE) : Option (qE × Int) := (r10_Check p1 false).bind (fun r18 => (bif (r18 != 0) then some (z_qE, r18) else (r10_Names p1).bind (fun r29 => (forN (fun (i34 : Nat) (s33 : qE) => (idx r29 (i34 : Int)).bind (fun x45 => (r14_Col p0 x45).bind (fun r51 => (bif ((decide (r51 < 0)) || (decide (r51 > 5))) then some (.inr ((4 : Int), z_qE)) else some (.inl s33))))) r29.length 0 z_qE).bind (fun (t : qE ⊕ ((Int × qE))) => match t with | .inl s33 => (r15_Place p0 p1).bind (fun r73 => some (r73, 0)) | .inr (s58, s59) => some (s59, s58)))))
theorem r15_Resolve_ok {p0 : qT} {p1 : qE} {w_p0 : W_qT} {w_p1 : W_qE} (h_p0 : ok_qT I p0 w_p0) (h_p1 : ok_qE I p1 w_p1) (hS : St E w I Os) {r : qE × Int} (D : r15_Resolve p0 p1 = some r) :
    Calls P 132 #[(vT p0 w_p0), (vE p1 w_p1)] w (fun e w' => ∃ I' w_rw0, e = .returned (.tuple #[(vE r.1 w_rw0), (Iv r.2)]) ∧ I.Le I' ∧ St E w' I' Os ∧ ok_qE I' r.1 w_rw0) := by
 refine calls_W (fn := Tryz.f132) rfl rfl rfl ?_
 unfold r15_Resolve at D
 refine yf nL4 (yz hS (cs_qT p0 w_p0) 104 z fun b1 w4 S3 => yz S3 (cs_qE p1 w_p1) 61 z fun b5 w8 S7 => yz S7 (cs_qE z_qE zw_qE) 61 z fun b9 w12 S11 => ya 3 1 z (y0 nL3 (yx ((cs_qE p1 w_p1)) (S11.rf m1) z (bsk D fun r18 Xr13 D => WO.c1 (r10_Check_ok h_p1 S11 Xr13) z fun I15 w14 L16 S17 => ya 2 1 z (yb (W.seq (yf nL2 (ya 0 2 z (yb (yy D (fun G D => ?_) (fun G D => ?_)))))))))))
 exact yf nL4 (y8 0 14 (vE z_qE zw_qE) (ya 1 1 z (y7 S17 0 (cs_qE z_qE zw_qE) fun w20 S19 => ya 3 1 z (yb (yq (yh (sj D ▸ ya1 _ (S19.rd m0) ⟨I15, zw_qE, rfl, L16, S19.d3, zok_qE⟩)))))))
 refine W.skip (ye (yf nL3 (yx ((cs_qE p1 w_p1)) (S17.rf m1) z (bsk D fun r29 Xr24 D => yai (r10_Names_ok (h_p1.mono L16) S17 Xr24) ?_))))
 rintro _ w25 ⟨I26, a_r29, c_r29, rfl, L27, S28, h_r29⟩
 refine cv (ya 2 1 z (yb (W.seq (yf [0] (ya 0 1 z (yb (yl (bsk D fun t30 hloop35 D => have hlt41 := (h_r29).len_lt; W.wk (yap (m := r29.length) hloop35 (fun (i34 : Nat) (s33 : qE) fr w => ∃ I31 w_s33, fr = [(2, Pt b1 0), (3, Pt b5 0), (4, Pt b9 0), (7, Sl a_r29 r29 c_r29), (8, Nv i34)] ∧ I26.Le I31 ∧ St E w I31 (bT b1 p0 w_p0 :: (bE b5 p1 w_p1) :: (bE b9 s33 w_s33) :: Os) ∧ ok_qE I31 s33 w_s33) ⟨I26, zw_qE, rfl, lr, S28.front1.front2, zok_qE⟩ ?_ ?_)))))))))
 rintro i34 s33 _ w38 hi42 ⟨I31, w_s33, rfl, L32, S39, h_s33⟩ x40 R1 hext30
 refine W.seq (yf nL4 (ya 0 4 z (yb (yar fun _ => W.skip (ye (W.seq (yl (W.seq (have S43 := S39.drew; yba nL7 5 (yv (S43.rd m0) (yad S43.im)) ?_)))))))))
 generalize World.drew _ = w44 at *
 refine yx ((cs_qT p0 w_p0)) (rd_c m0 (S43.rd m0)) z (ya 1 2 z ?_)
 obtain ⟨x45, R1, Hx45, _, rfl, Zx45⟩ := sx I31 h_r29 R1
 refine yaa 9 1 Hx45 z (yao Zx45 (rd_i S43.im) z (WO.tail z (bsk R1 fun r51 Xr46 R1 => WO.c1 (r14_Col_ok (h_p0.mono le) S43 Xr46) z fun I48 w47 L49 S50 => ya 6 1 z (y0 nL6 (ya 0 3 z (ya2 [3, 4] 5 32 35 (.refl ((decide (r51 < 0)) || (decide (r51 > 5)))) (fun _ => ya 3 3 z yah) (yb (yy R1 (fun G R1 => ?_) (fun G R1 => ?_)))))))))
 refine yf nL3 (y8 0 36 (vE z_qE zw_qE) (y7 S50.front2 0 (cs_qE z_qE zw_qE) fun w56 S55 => ya 2 1 z (yb (yq (ym (yh (yu ?_)))))))
 obtain rfl := hext30 _ (sj R1).symm
 exact ym (yh (sj D ▸ ya1 _ (S55.rd m0) ⟨I48, zw_qE, rfl, le, S55.d3, zok_qE⟩))
 exact W.skip (yk (ye (yag nL3 (ya 0 1 z (yam i34 z (ya 2 1 z (yp (yt ⟨s33, (sj R1).symm, I48, w_s33, rfl, le, S50, (h_s33.mono L49)⟩))))))))
 rintro s33 _ w66 ⟨I31, w_s33, rfl, L32, S67, h_s33⟩ he
 cases he
 refine W.seq (yf nL4 (ya 0 4 z (yb (yas fun _ => W.exit (yn (yo (yr (ye (yf nL5 (yx ((cs_qT p0 w_p0)) (S67.rf m0) z (yx ((cs_qE p1 w_p1)) (S67.rf m1) z (bsk D fun r73 Xr68 D => yai (r15_Place_ok (h_p0.mono le) (h_p1.mono le) S67 Xr68) ?_))))))))))))
 rintro _ w69 ⟨I70, w_r73, rfl, L71, S72, h_r73⟩
 exact cv (y7 S72.front2 0 (cs_qE r73 w_r73) fun w76 S75 => ya 4 1 z (yb (yq (sj D ▸ ya1 _ (S75.rd m0) ⟨I70, w_r73, rfl, le, S75.d3, h_r73⟩))))
def r15_Cols (p0 : qT) : Option (List Int) := (forE (fun (i9 : Nat) (s8 : List Int) => (idx p0.Cols (i9 : Int)).bind (fun x19 => (app 8 s8 ([x19.Type_] : List Int)).bind (fun x28 => some x28))) p0.Cols.length 0 ([] : List Int)).bind (fun s8 => some s8)
theorem r15_Cols_ok {p0 : qT} {w_p0 : W_qT} (h_p0 : ok_qT I p0 w_p0) (hS : St E w I Os) {r : (List Int)} (D : r15_Cols p0 = some r) :
    Calls P 134 #[(vT p0 w_p0)] w (fun e w' => ∃ (I' : Mem) (ra0 : Option Addr) (rc0 : Nat), e = .returned (Sl ra0 r rc0) ∧ I.Le I' ∧ St E w' I' Os ∧ RSl 1 (RInt .i64) I' ra0 rc0 r) := by
 refine calls_W (fn := Tryz.f134) rfl rfl rfl ?_
 unfold r15_Cols at D
 refine yf nL2 (yz hS (cs_qT p0 w_p0) 104 z fun b1 w4 S3 => y8 1 2 (.slice none 0 0) (y0 [0] (y8 0 3 (.slice none 0 0) (yb (W.seq (yf [0] (ya 0 1 z (yb (yl (bsk D fun s8 hloop10 D => have hlt17 := (h_p0.Cols).len_lt; W.wk (yat (m := p0.Cols.length) hloop10 (fun (i9 : Nat) (s8 : List Int) fr w => ∃ I6 a_s8 c_s8 C_s8, fr = [(1, Pt b1 0), (3, Sl a_s8 s8 c_s8), (4, Nv i9)] ∧ I.Le I6 ∧ St E w I6 (bT b1 p0 w_p0 :: (C_s8) :: Os) ∧ OwnSl 3 1 (RInt .i64) I6 C_s8 a_s8 c_s8 s8) ⟨I, none, 0, Mem.no, rfl, lr, S3.no.front1, OwnSl.nil⟩ ?_ ?_)))))))))))
 rintro i9 s8 _ w14 hi18 ⟨I6, a_s8, c_s8, C_s8, rfl, L7, S15, h_s8⟩ x16 R1
 refine W.seq (yf nL5 (yg 0 2 [3] z (yj (S15.rf m0) z (ya 3 2 z (yb (yar fun _ => W.skip (ye (W.seq (yl (yag nL10 (yg 0 2 [3] z (yj (S15.rf m0) z (ya 3 1 z ?_)))))))))))))
 obtain ⟨x19, R1, Hx19, _, rfl, Zx19⟩ := sx I6 h_p0.Cols R1
 refine yaa 114 3 Hx19 z (yg 5 1 [1] z (yaz Zx19 1 S15.rm z (yab (rel := (RInt .i64)) (xs := ([x19.Type_] : List Int)) S15 z kr z 3 1 [[(Iv x19.Type_)]] kr z ((Elr.cons z Elr.nil)) tv ?_)))
 intro a23 C21 w25 S24 ho22
 have S27 := S24.front2
 exact apk R1 fun x28 h0_x28 he_x28 R1 => yax 3 8 [(Iv 0)] S27 h_s8 ho22.sl (S27.rd m1) h0_x28 he_x28 z fun a29 c30 w31 C32 S33 ho34 => ya 9 1 z (yp (yk (ye (yag nL3 (ya 0 1 z (yam i9 z (ya 2 1 z (yp (sj R1 ▸ yt ⟨I6, a29, c30, C32, rfl, L7, S33.front1.drop.front1, ho34⟩)))))))))
 rintro _ w38 ⟨I6, a_s8, c_s8, C_s8, rfl, L7, S39, h_s8⟩
 refine W.seq (yf nL5 (yg 0 2 [3] z (yj (S39.rf m0) z (ya 3 2 z (yb (yas fun _ => W.exit (yn (yo (yr (ye (yf nL2 (ya 0 1 z ?_))))))))))))
 obtain ⟨I41, L42, S44, hp43⟩ := yac h_s8 S39.front1
 exact ya 1 1 z (yb (yq (sj D ▸ yw ⟨I41, a_s8, c_s8, rfl, le, S44.drop, hp43⟩)))
def r15_first (p0 : List Int) : Option Int := (forN (fun (i4 : Nat) (_s : Unit) => (idx p0 (i4 : Int)).bind (fun x11 => (bif (x11 != 0) then (idx p0 (i4 : Int)).bind (fun x12 => some (.inr x12)) else some (.inl ())))) p0.length 0 ()).bind (fun (t : Unit ⊕ (Int)) => match t with | .inl _ => some 0 | .inr s14 => some s14)
theorem r15_first_ok {p0 : List Int} {a_p0 : Option Addr} {c_p0 : Nat} (h_p0 : RSl 1 (RInt .i64) I a_p0 c_p0 p0) (hS : St E w I Os) {r : Int} (D : r15_first p0 = some r) :
    Calls P 216 #[(Sl a_p0 p0 c_p0)] w (RT E I Os (Iv r)) := by
 refine calls_W (fn := Tryz.f216) rfl rfl rfl ?_
 unfold r15_first at D
 refine yf [0] (ya 0 1 z (yb (W.seq (yf [0] (ya 0 1 z (yb (yl (bsk D fun t1 hloop5 D => have hlt9 := (h_p0).len_lt; W.wk (yap (m := p0.length) hloop5 (fun (i4 : Nat) (_s : Unit) => JI E I [(0, Sl a_p0 p0 c_p0), (3, Nv i4)] Os) ⟨I, rfl, lr, hS⟩ ?_ ?_)))))))))
 rintro i4 _ _ w6 hi10 ⟨I2, rfl, L3, S7⟩ x8 R1 hext1
 refine W.seq (yf nL4 (ya 0 4 z (yb (yar fun _ => W.skip (ye (W.seq (yl (yf nL5 (ya 0 2 z ?_)))))))))
 obtain ⟨x11, R1, Hx11, _, rfl, Zx11⟩ := sx I2 h_p0 R1
 refine yaa 3 1 Hx11 z (yao Zx11 S7.rm z (ya 4 1 z (yb (yy R1 (fun G R1 => ?_) (fun G R1 => ?_)))))
 refine yf nL5 (ya 0 2 z ?_)
 obtain ⟨x12, R1, Hx12, _, rfl, Zx12⟩ := sx I2 h_p0 R1
 refine yaa 3 1 Hx12 z (yao Zx12 S7.rm z (ya 4 1 z (yb (yq (ym (yh (yu ?_)))))))
 obtain rfl := hext1 _ (sj R1).symm
 exact ym (yh (sj D ▸ yw ⟨I2, rfl, L3, S7⟩))
 exact W.skip (yk (ye (yag nL3 (ya 0 1 z (yam i4 z (ya 2 1 z (yp (yt ⟨(), (sj R1).symm, I2, rfl, L3, S7⟩))))))))
 rintro _ _ w15 ⟨I2, rfl, L3, S16⟩ he
 cases he
 exact W.seq (yf nL4 (ya 0 4 z (yb (yas fun _ => W.exit (yn (yo (yr (ye (yf [0] (ya 0 1 z (yb (yq (sj D ▸ yw ⟨I2, rfl, L3, S16⟩)))))))))))))
def r15_all (p0 : List Int) (p1 : Int) : Option Bool := (forN (fun (i4 : Nat) (_s : Unit) => (idx p0 (i4 : Int)).bind (fun x11 => ((bif (x11 != 0) then (idx p0 (i4 : Int)).bind (fun x16 => some (x16 != p1)) else some false)).bind (fun (j12 : Bool) => (bif j12 then some (.inr false) else some (.inl ()))))) p0.length 0 ()).bind (fun (t : Unit ⊕ (Bool)) => match t with | .inl _ => some true | .inr s20 => some s20)
theorem r15_all_ok {p0 : List Int} {p1 : Int} {a_p0 : Option Addr} {c_p0 : Nat} (h_p0 : RSl 1 (RInt .i64) I a_p0 c_p0 p0) (hS : St E w I Os) {r : Bool} (D : r15_all p0 p1 = some r) :
    Calls P 217 #[(Sl a_p0 p0 c_p0), (Iv p1)] w (RT E I Os (.bool r)) := by
 refine calls_W (fn := Tryz.f217) rfl rfl rfl ?_
 unfold r15_all at D
 refine yf [0] (ya 0 1 z (yb (W.seq (yf [0] (ya 0 1 z (yb (yl (bsk D fun t1 hloop5 D => have hlt9 := (h_p0).len_lt; W.wk (yap (m := p0.length) hloop5 (fun (i4 : Nat) (_s : Unit) => JI E I [(0, Sl a_p0 p0 c_p0), (1, Iv p1), (5, Nv i4)] Os) ⟨I, rfl, lr, hS⟩ ?_ ?_)))))))))
 rintro i4 _ _ w6 hi10 ⟨I2, rfl, L3, S7⟩ x8 R1 hext1
 refine W.seq (yf nL4 (ya 0 4 z (yb (yar fun _ => W.skip (ye (W.seq (yl (yf nL13 (ya 0 2 z ?_)))))))))
 obtain ⟨x11, R1, Hx11, _, rfl, Zx11⟩ := sx I2 h_p0 R1
 refine yaa 3 1 Hx11 z (yao Zx11 S7.rm z (ya 4 2 z (bsk R1 fun j12 R2 R1 => yal (l1 := [6, 7, 8, 9, 10, 11, 12]) (J := JI E I2 [(0, Sl a_p0 p0 c_p0), (1, Iv p1), (5, Nv i4), (24, .bool j12)] Os) ?_ ?_)))
 refine yak R2 (fun G R2 => ?_) (fun G R2 => ?_)
 refine y6 17 G (ya 6 2 z ?_)
 obtain ⟨x16, R2, Hx16, _, rfl, Zx16⟩ := sx I2 h_p0 R2
 exact yaa 3 1 Hx16 z (yao Zx16 S7.rm z (ya 10 3 z (sj R2 ▸ y4 ⟨I2, rfl, lr, S7⟩)))
 refine y6 17 G ?_
 iterate 6 refine yaj ?_
 exact ya 12 1 z (sj R2 ▸ y4 ⟨I2, rfl, lr, S7⟩)
 rintro _ w17 ⟨I14, rfl, L15, S18⟩
 refine yb (yy R1 (fun G R1 => ?_) (fun G R1 => ?_))
 refine yf [0] (ya 0 1 z (yb (yq (ym (yh (yu ?_))))))
 obtain rfl := hext1 _ (sj R1).symm
 exact ym (yh (sj D ▸ yw ⟨I14, rfl, le, S18⟩))
 exact W.skip (yk (ye (yag nL3 (ya 0 1 z (yam i4 z (ya 2 1 z (yp (yt ⟨(), (sj R1).symm, I14, rfl, le, S18⟩))))))))
 rintro _ _ w21 ⟨I2, rfl, L3, S22⟩ he
 cases he
 exact W.seq (yf nL4 (ya 0 4 z (yb (yas fun _ => W.exit (yn (yo (yr (ye (yf [0] (ya 0 1 z (yb (yq (sj D ▸ yw ⟨I2, rfl, L3, S22⟩)))))))))))))
def r15_made (p0 : qE) (p1 : List Int) : Option Int := (bif ((p0.Kind == 4) && (decide (p0.Op > 2))) then some 2 else (some (((p0.Kind == 4) && (p0.Op == 2)) || ((p0.Kind == 5) && (decide (p0.Op ≤ 2))))).bind (fun (q12 : Bool) => ((bif q12 then some (.inl ((2 : Int), (2 : Int))) else ((bif ((p0.Kind == 5) && (decide (p0.Op ≤ 8))) then (r15_first p1).bind (fun r35 => some (.inl (r35, (2 : Int)))) else ((bif ((p0.Kind == 5) && (p0.Op == 14)) then some (.inl ((3 : Int), (3 : Int))) else ((bif (p0.Kind == 6) then (idx p1 0).bind (fun x52 => some (x52 == 0)) else some false)).bind (fun (j48 : Bool) => (bif j48 then some (.inr 2) else ((bif (p0.Kind == 6) then (idx p1 0).bind (fun x69 => some (x69, (2 : Int))) else (some ((p0.Kind == 7) && (sEq p0.Name (⟨#[108, 101, 110, 103, 116, 104]⟩ : By8)))).bind (fun (q73 : Bool) => ((bif q73 then some ((3 : Int), (1 : Int)) else (some ((p0.Kind == 7) && (sEq p0.Name (⟨#[99, 111, 97, 108, 101, 115, 99, 101]⟩ : By8)))).bind (fun (q83 : Bool) => ((bif q83 then (r15_first p1).bind (fun r95 => (r15_first p1).bind (fun r101 => some (r95, r101))) else some ((1 : Int), (1 : Int)))).bind (fun ((s102, s103) : Int × Int) => some (s102, s103))))).bind (fun ((s80, s81) : Int × Int) => some (s80, s81))))).bind (fun ((s70, s71) : Int × Int) => some (.inl (s70, s71))))))).bind (fun (t : (Int × Int) ⊕ Int) => match t with | (.inl (s45, s46)) => some (.inl (s45, s46)) | (.inr s56) => some (.inr s56)))).bind (fun (t : (Int × Int) ⊕ Int) => match t with | (.inl (s36, s37)) => some (.inl (s36, s37)) | (.inr s58) => some (.inr s58)))).bind (fun (t : (Int × Int) ⊕ Int) => match t with | (.inl (s21, s22)) => (r15_all p1 s21).bind (fun r123 => (bif (!r123) then some (-1) else some s22)) | (.inr s60) => some s60)))
theorem r15_made_ok {p0 : qE} {p1 : List Int} {w_p0 : W_qE} {a_p1 : Option Addr} {c_p1 : Nat} (h_p0 : ok_qE I p0 w_p0) (h_p1 : RSl 1 (RInt .i64) I a_p1 c_p1 p1) (hS : St E w I Os) {r : Int} (D : r15_made p0 p1 = some r) :
    Calls P 211 #[(vE p0 w_p0), (Sl a_p1 p1 c_p1)] w (RT E I Os (Iv r)) := by
 refine calls_W (fn := Tryz.f211) rfl rfl rfl ?_
 unfold r15_made at D
 refine yf nL2 (yz hS (cs_qE p0 w_p0) 61 z fun b1 w4 S3 => ya 1 1 z (y0 nL2 (ya 0 2 z (yb (W.seq (yl (yf nL9 (yg 0 1 [0] z (yj (S3.rf m0) z (ya 2 2 z (yaq [4, 5, 6] 7 11 15 (.refl ((p0.Kind == 4) && (decide (p0.Op > 2)))) (fun _ => yg 4 1 [1] z (yj (S3.rf m0) z (ya 6 2 z yah))) (ya 8 1 z (yb (yy D (fun G D => ?_) (fun G D => ?_)))))))))))))))
 exact yf [0] (ya 0 1 z (yb (yq (ym (yh (sj D ▸ yw ⟨I, rfl, lr, S3.drop⟩))))))
 refine yf nL19 (yg 0 1 [0] z (yj (S3.rf m0) z (ya 2 2 z (yaq [4, 5, 6] 7 20 24 (.refl ((p0.Kind == 4) && (p0.Op == 2))) (fun _ => yg 4 1 [1] z (yj (S3.rf m0) z (ya 6 2 z yah))) (ya 8 1 z (bsq D fun q12 Xq12 D => ya2 [9, 10, 11, 12, 13, 14, 15, 16] 17 25 34 Xq12 (fun _ => yg 9 1 [0] z (yj (S3.rf m0) z (ya 11 2 z (yaq [13, 14, 15] 16 29 33 (.refl ((p0.Kind == 5) && (decide (p0.Op ≤ 2)))) (fun _ => yg 13 1 [1] z (yj (S3.rf m0) z (ya 15 2 z yah))) (ya 17 1 z yah))))) (ya 18 1 z (yb (bsk D fun j17 R1 D => yav (J := (fun fr w => ∃ (s21 : Int) (s22 : Int), ∃ I19, (.inl (s21, s22)) = j17 ∧ fr = [(1, Sl a_p1 p1 c_p1), (5, Iv s21), (6, Iv s22)] ∧ I.Le I19 ∧ St E w I19 Os)) ?_ ?_)))))))))
 refine yy R1 (fun G R1 => ?_) (fun G R1 => ?_)
 exact yf [0] (ya 0 1 z (yb (yag [0] (ya 0 1 z (yp (yt ⟨2, 2, I, sj R1, rfl, lr, S3.drop⟩))))))
 refine yf nL9 (yg 0 1 [0] z (yj (S3.rf m0) z (ya 2 2 z (yaq [4, 5, 6] 7 39 43 (.refl ((p0.Kind == 5) && (decide (p0.Op ≤ 8)))) (fun _ => yg 4 1 [1] z (yj (S3.rf m0) z (ya 6 2 z yah))) (ya 8 1 z (yb (bsk R1 fun j26 R2 R1 => yav (J := (fun fr w => ∃ (s36 : Int) (s37 : Int), ∃ I28, (.inl (s36, s37)) = j26 ∧ fr = [(1, Sl a_p1 p1 c_p1), (5, Iv s36), (6, Iv s37)] ∧ I.Le I28 ∧ St E w I28 Os)) ?_ ?_)))))))
 refine yy R2 (fun G R2 => ?_) (fun G R2 => ?_)
 exact yf nL3 (ya 0 1 z (bsk R2 fun r35 Xr30 R2 => WO.c1 (r15_first_ok h_p1 S3 Xr30) z fun I32 w31 L33 S34 => ya 2 1 z (yb (yag [0] (ya 0 1 z (yp (yt ⟨r35, 2, I32, sj R2, rfl, L33, S34.drop⟩)))))))
 refine yf nL9 (yg 0 1 [0] z (yj (S3.rf m0) z (ya 2 2 z (yaq [4, 5, 6] 7 50 54 (.refl ((p0.Kind == 5) && (p0.Op == 14))) (fun _ => yg 4 1 [1] z (yj (S3.rf m0) z (ya 6 2 z yah))) (ya 8 1 z (yb (bsk R2 fun j41 R3 R2 => yav (J := (fun fr w => ∃ (s45 : Int) (s46 : Int), ∃ I43, (.inl (s45, s46)) = j41 ∧ fr = [(1, Sl a_p1 p1 c_p1), (5, Iv s45), (6, Iv s46)] ∧ I.Le I43 ∧ St E w I43 Os)) ?_ ?_)))))))
 refine yy R3 (fun G R3 => ?_) (fun G R3 => ?_)
 exact yf [0] (ya 0 1 z (yb (yag [0] (ya 0 1 z (yp (yt ⟨3, 3, I, sj R3, rfl, lr, S3.drop⟩))))))
 refine yf nL10 (yg 0 1 [0] z (yj (S3.rf m0) z (ya 2 2 z (bsk R3 fun j48 R4 R3 => yal (l1 := [4, 5, 6, 7, 8]) (J := JI E I [(1, Sl a_p1 p1 c_p1), (2, Pt b1 0), (5, Iv 1), (6, Iv 1), (64, .bool j48)] (bE b1 p0 w_p0 :: Os)) ?_ ?_))))
 refine yak R4 (fun G R4 => ?_) (fun G R4 => ?_)
 refine y6 59 G (ya 4 1 z ?_)
 obtain ⟨x52, R4, Hx52, _, rfl, Zx52⟩ := sl_ix (h_p1) R4
 exact yaa 3 1 Hx52 z (yao Zx52 S3.rm z (ya 7 2 z (sj R4 ▸ y4 ⟨I, rfl, lr, S3⟩)))
 refine y6 59 G ?_
 iterate 4 refine yaj ?_
 exact ya 8 1 z (sj R4 ▸ y4 ⟨I, rfl, lr, S3⟩)
 rintro _ w53 ⟨I50, rfl, L51, S54⟩
 refine ya 9 1 z (yb (yy R3 (fun G R3 => ?_) (fun G R3 => ?_)))
 refine yf [0] (ya 0 1 z (yb (yq (yu ?_))))
 obtain rfl := sj R3
 refine yu ?_
 obtain rfl := sj R2
 refine yu ?_
 obtain rfl := sj R1
 exact ym (yh (sj D ▸ yw ⟨I50, rfl, L51, S54.drop⟩))
 refine yf nL4 (yg 0 1 [0] z (yj (S54.rf m0) z (ya 2 2 z (yb (bsk R3 fun j65 R4 R3 => yav (J := (fun fr w => ∃ (s70 : Int) (s71 : Int), ∃ I67, (s70, s71) = j65 ∧ fr = [(1, Sl a_p1 p1 c_p1), (5, Iv s70), (6, Iv s71)] ∧ I50.Le I67 ∧ St E w I67 Os)) ?_ ?_)))))
 refine yy R4 (fun G R4 => ?_) (fun G R4 => ?_)
 refine yf nL4 (ya 0 1 z ?_)
 obtain ⟨x69, R4, Hx69, _, rfl, Zx69⟩ := sx I50 h_p1 R4
 exact yaa 3 1 Hx69 z (yao Zx69 S54.rm z (ya 3 1 z (yb (yag [0] (ya 0 1 z (yp (yt ⟨x69, 2, I50, sj R4, rfl, lr, S54.drop⟩)))))))
 refine yf nL9 (yg 0 1 [0] z (yj (S54.rf m0) z (ya 2 2 z (bsq R4 fun q73 Xq73 R4 => yaq [4, 5, 6] 7 76 80 Xq73 (fun _ => yg 4 1 [5] z (yj (S54.rf m0) z (ya 6 2 z yah))) (ya 8 1 z (yb (bsk R4 fun j76 R5 R4 => yav (J := (fun fr w => ∃ (s80 : Int) (s81 : Int), ∃ I78, (s80, s81) = j76 ∧ fr = [(1, Sl a_p1 p1 c_p1), (5, Iv s80), (6, Iv s81)] ∧ I50.Le I78 ∧ St E w I78 Os)) ?_ ?_)))))))
 refine yy R5 (fun G R5 => ?_) (fun G R5 => ?_)
 exact yag [0] (ya 0 1 z (yp (yt ⟨3, 1, I50, sj R5, rfl, lr, S54.drop⟩)))
 refine yf nL9 (yg 0 1 [0] z (yj (S54.rf m0) z (ya 2 2 z (bsq R5 fun q83 Xq83 R5 => yaq [4, 5, 6] 7 85 89 Xq83 (fun _ => yg 4 1 [5] z (yj (S54.rf m0) z (ya 6 2 z yah))) (ya 8 1 z (yb (bsk R5 fun j86 R6 R5 => yav (J := (fun fr w => ∃ (s102 : Int) (s103 : Int), ∃ I88, (s102, s103) = j86 ∧ fr = [(1, Sl a_p1 p1 c_p1), (5, Iv s102), (6, Iv s103)] ∧ I50.Le I88 ∧ St E w I88 Os)) ?_ ?_)))))))
 refine yy R6 (fun G R6 => ?_) (fun G R6 => ?_)
 exact yf nL3 (ya 0 1 z (bsk R6 fun r95 Xr90 R6 => WO.c1 (r15_first_ok (RSl.mono h_p1 L51) S54 Xr90) z fun I92 w91 L93 S94 => ya 2 1 z (yb (yag nL3 (ya 0 1 z (bsk R6 fun r101 Xr96 R6 => WO.c1 (r15_first_ok (up h_p1) S94 Xr96) z fun I98 w97 L99 S100 => ya 2 1 z (yp (yt ⟨r95, r101, I98, sj R6, rfl, le, S100.drop⟩))))))))
 exact W.skip (yt ⟨1, 1, I50, sj R6, rfl, lr, S54.drop⟩)
 rintro _ w106 ⟨s102, s103, I88, rfl, rfl, L89, S107⟩
 exact yt ⟨s102, s103, I88, sj R5, rfl, L89, S107⟩
 rintro _ w108 ⟨s80, s81, I78, rfl, rfl, L79, S109⟩
 exact yt ⟨s80, s81, I78, sj R4, rfl, L79, S109⟩
 rintro _ w110 ⟨s70, s71, I67, rfl, rfl, L68, S111⟩
 exact yt ⟨s70, s71, I67, sj R3, rfl, le, S111⟩
 rintro _ w112 ⟨s45, s46, I43, rfl, rfl, L44, S113⟩
 exact yt ⟨s45, s46, I43, sj R2, rfl, L44, S113⟩
 rintro _ w114 ⟨s36, s37, I28, rfl, rfl, L29, S115⟩
 exact yt ⟨s36, s37, I28, sj R1, rfl, L29, S115⟩
 rintro _ w116 ⟨s21, s22, I19, rfl, rfl, L20, S117⟩
 refine yk (ye (W.seq (yf nL4 (ya 0 2 z (bsk D fun r123 Xr118 D => WO.c1 (r15_all_ok (RSl.mono h_p1 L20) S117 Xr118) z fun I120 w119 L121 S122 => ya 3 1 z (yb (yy D (fun G D => ?_) (fun G D => ?_))))))))
 exact yf [0] (ya 0 1 z (yb (yq (yh (sj D ▸ yw ⟨I120, rfl, le, S122⟩)))))
 exact W.skip (ye (yf nL2 (ya 0 2 z (yb (yq (sj D ▸ yw ⟨I120, rfl, le, S122⟩))))))
def r15_find_fu : Nat → qE → (List Int) → (List Int) → Option (Int × Int)
  | 0, _, _, _ => none
  | fu + 1, p0, p1, p2 => (bif (p0.Kind == 1) then some (p0.V.Kind, 0) else (bif (p0.Kind == 2) then some (0, 4) else ((bif (p0.Kind == 3) then some (p2, (w64 (p0.Op - 1))) else some (p1, p0.Op))).bind (fun ((s13, s14) : (List Int) × Int) => (bif ((p0.Kind == 3) || (p0.Kind == 8)) then (bif (decide (s14 ≥ (s13.length : Int))) then some (0, 37) else (idx s13 s14).bind (fun x20 => ((bif (decide (x20 < 0)) then some true else (idx s13 s14).bind (fun x26 => some (decide (x26 > 3))))).bind (fun (j21 : Bool) => (bif j21 then some (0, 11) else (idx s13 s14).bind (fun x30 => some (x30, 0)))))) else (forN (fun (i35 : Nat) (s34 : List Int) => (idx p0.Kids (i35 : Int)).bind (fun x45 => (r15_find_fu fu x45 p1 p2).bind (fun (r51, r52) => (bif (r52 != 0) then some (.inr ((0 : Int), r52)) else (app 8 s34 ([r51] : List Int)).bind (fun x68 => some (.inl x68)))))) p0.Kids.length 0 ([] : List Int)).bind (fun (t : (List Int) ⊕ ((Int × Int))) => match t with | .inl s34 => (r15_made p0 s34).bind (fun r88 => (bif (decide (r88 < 0)) then some (0, 11) else some (r88, 0))) | .inr (s54, s55) => some (s54, s55))))))
noncomputable def r15_find (p0 : qE) (p1 : List Int) (p2 : List Int) : Option (Int × Int) := anyFuel (fun fu => r15_find_fu fu p0 p1 p2)
theorem r15_find_fu_ok : ∀ (fu : Nat) {E w : World} {I : Mem} {Os : List Mem} {p0 : qE} {p1 : List Int} {p2 : List Int} {w_p0 : W_qE} {a_p1 : Option Addr} {c_p1 : Nat} {a_p2 : Option Addr} {c_p2 : Nat} (h_p0 : ok_qE I p0 w_p0) (h_p1 : RSl 1 (RInt .i64) I a_p1 c_p1 p1) (h_p2 : RSl 1 (RInt .i64) I a_p2 c_p2 p2) (hS : St E w I Os) {r : Int × Int} (D : r15_find_fu fu p0 p1 p2 = some r),
    Calls P 189 #[(vE p0 w_p0), (Sl a_p1 p1 c_p1), (Sl a_p2 p2 c_p2)] w (RT E I Os (.tuple #[(Iv r.1), (Iv r.2)])) := by
 intro fu
 induction fu with
 | zero => intro E w I Os p0 p1 p2 w_p0 a_p1 c_p1 a_p2 c_p2 h_p0 h_p1 h_p2 hS r D; cases D
 | succ fu ih =>
 intro E w I Os p0 p1 p2 w_p0 a_p1 c_p1 a_p2 c_p2 h_p0 h_p1 h_p2 hS r D
 refine calls_W (fn := Tryz.f189) rfl rfl rfl ?_
 unfold r15_find_fu at D
 refine yf nL3 (yz hS (cs_qE p0 w_p0) 61 z fun b1 w4 S3 => ya 1 2 z (yb (W.seq (have S5 := S3.drew; ybr (l := nL5) kr 4 (KR I [bE b1 p0 w_p0]) qR (.ords nL5 [0, 3, 1, 2, 4] kr kr kr kr kr) kr (yv (S5.rd m0) (yad S5.im)) ?_))))
 generalize World.drew _ = w6 at *
 refine yg 0 2 [1] z (yj (rd_c m0 (S5.rd m0)) z (ya 3 1 z (WO.tail z (ya 4 1 z (yb (W.seq (yf nL2 (yg 0 1 [0] z (yj (S5.rf m0) z (yb (yl (yf nL2 (ya 0 2 z (yb (yy D (fun G D => ?_) (fun G D => ?_))))))))))))))))
 exact yf nL5 (yg 0 2 [2, 0] z (yj (S5.rf m0) z (ya 3 2 z (yb (yq (ym (yh (sj D ▸ yay ⟨I, rfl, lr, S5.drop⟩))))))))
 refine yf nL2 (ya 0 2 z (yb (yy D (fun G D => ?_) (fun G D => ?_))))
 exact yf nL2 (ya 0 2 z (yb (yq (ym (yh (sj D ▸ yay ⟨I, rfl, lr, S5.drop⟩))))))
 refine yf nL2 (ya 0 2 z (yb (bsk D fun j9 R1 D => yav (J := (fun fr w => ∃ (s13 : List Int) (s14 : Int), ∃ I11 a_s13 c_s13, (s13, s14) = j9 ∧ fr = [(1, Sl a_p1 p1 c_p1), (2, Sl a_p2 p2 c_p2), (3, Pt b1 0), (8, Sl a_s13 s13 c_s13), (9, Iv s14)] ∧ I.Le I11 ∧ St E w I11 (bE b1 p0 w_p0 :: Os) ∧ RSl 1 (RInt .i64) I11 a_s13 c_s13 s13)) ?_ ?_)))
 refine yy R1 (fun G R1 => ?_) (fun G R1 => ?_)
 exact yf nL2 (ya 0 2 z (yb (yag nL4 (yg 0 1 [1] z (yj (S5.rf m0) z (ya 2 2 z (yp (yt ⟨p2, (w64 (p0.Op - 1)), I, a_p2, c_p2, sj R1, rfl, lr, S5, h_p2⟩))))))))
 exact W.skip (yt ⟨p1, p0.Op, I, a_p1, c_p1, sj R1, rfl, lr, S5, h_p1⟩)
 rintro _ w15 ⟨s13, s14, I11, a_s13, c_s13, rfl, rfl, L12, S16, h_s13⟩
 refine yk (ye (W.seq (yf nL8 (yg 0 1 [0] z (yj (S16.rf m0) z (ya 2 2 z (ya2 [4, 5, 6] 7 36 40 (.refl ((p0.Kind == 3) || (p0.Kind == 8))) (fun _ => yg 4 1 [0] z (yj (S16.rf m0) z (ya 6 2 z yah))) (yb (yy D (fun G D => ?_) (fun G D => ?_))))))))))
 refine W.seq (yf nL4 (ya 0 4 z (yb (yy D (fun G D => ?_) (fun G D => ?_)))))
 exact yf nL2 (ya 0 2 z (yb (yq (yh (yh (sj D ▸ yay ⟨I11, rfl, L12, S16.drop⟩))))))
 refine W.skip (ye (W.seq (yf nL12 (ya 0 2 z ?_))))
 obtain ⟨x20, D, Hx20, _, rfl, Zx20⟩ := sl_ix (h_s13) D
 refine yaa 3 1 Hx20 z (yao Zx20 S16.rm z (ya 4 2 z (bsk D fun j21 R1 D => yal (l1 := [6, 7, 8, 9, 10, 11]) (J := JI E I11 [(8, Sl a_s13 s13 c_s13), (9, Iv s14), (56, .bool j21)] Os) ?_ ?_)))
 refine yak R1 (fun G R1 => ?_) (fun G R1 => ?_)
 refine y6 50 G ?_
 iterate 5 refine yaj ?_
 exact ya 11 1 z (sj R1 ▸ y4 ⟨I11, rfl, lr, S16.drop⟩)
 refine y6 50 G (ya 6 2 z ?_)
 obtain ⟨x26, R1, Hx26, _, rfl, Zx26⟩ := sl_ix (h_s13) R1
 exact yaa 3 1 Hx26 z (yao Zx26 S16.rm z (ya 10 2 z (sj R1 ▸ y4 ⟨I11, rfl, lr, S16.drop⟩)))
 rintro _ w28 ⟨I23, rfl, L24, S29⟩
 refine yb (yy D (fun G D => ?_) (fun G D => ?_))
 exact yf nL2 (ya 0 2 z (yb (yq (yh (yh (sj D ▸ yay ⟨I23, rfl, le, S29⟩))))))
 refine W.skip (ye (yf nL6 (ya 0 2 z ?_)))
 obtain ⟨x30, D, Hx30, _, rfl, Zx30⟩ := sx I23 h_s13 D
 exact yaa 3 1 Hx30 z (yao Zx30 S29.rm z (ya 4 2 z (yb (yq (yh (sj D ▸ yay ⟨I23, rfl, le, S29⟩))))))
 refine W.skip (ye (yf [0] (y8 0 10 (.slice none 0 0) (yb (W.seq (yf [0] (ya 0 1 z (yb (yl (bsk D fun t31 hloop36 D => have hlt43 := ((RSl.mono h_p0.Kids L12)).len_lt; W.wk (yap (m := p0.Kids.length) hloop36 (fun (i35 : Nat) (s34 : List Int) fr w => ∃ I32 a_s34 c_s34 C_s34, fr = [(1, Sl a_p1 p1 c_p1), (2, Sl a_p2 p2 c_p2), (3, Pt b1 0), (10, Sl a_s34 s34 c_s34), (11, Nv i35)] ∧ I11.Le I32 ∧ St E w I32 (bE b1 p0 w_p0 :: (C_s34) :: Os) ∧ OwnSl 3 1 (RInt .i64) I32 C_s34 a_s34 c_s34 s34) ⟨I11, none, 0, Mem.no, rfl, lr, S16.no.front1, OwnSl.nil⟩ ?_ ?_)))))))))))
 rintro i35 s34 _ w40 hi44 ⟨I32, a_s34, c_s34, C_s34, rfl, L33, S41, h_s34⟩ x42 R1 hext31
 refine W.seq (yf nL5 (yg 0 2 [6] z (yj (S41.rf m0) z (ya 3 2 z (yb (yar fun _ => W.skip (ye (W.seq (yl (yf nL13 (yg 0 1 [6] z (yj (S41.rf m0) z (ya 2 1 z ?_)))))))))))))
 obtain ⟨x45, Xx45, R1⟩ := bsm R1
 obtain ⟨h0_x45, h1_x45, Xx45⟩ := idx_some Xx45
 obtain ⟨ha_x45, cs_x45, hn_x45, hr_x45, Zx45⟩ := ((RSl.mono h_p0.Kids (L12.trans L33))).el _ _ Xx45
 obtain ⟨w_x45, rfl, h_x45⟩ := Q_qE_iff.1 hr_x45
 refine ya5 61 7 ha_x45 h0_x45 h1_x45 ?_
 refine yau ((cs_qE x45 w_x45)) Zx45 0 S41.rm z (ya 5 2 z ?_)
 obtain ⟨⟨r51, r52⟩, Xr46, R1⟩ := bsm R1
 refine WO.c1 (ih h_x45 (up h_p1) (up h_p2) S41 Xr46) z fun I48 w47 L49 S50 => ya 8 5 z (yb (W.seq (yf nL2 (ya 0 2 z (yb (yy R1 (fun G R1 => ?_) (fun G R1 => ?_)))))))
 refine yf nL3 (ya 0 3 z (yb (yq (yh (ym (yh (yu ?_)))))))
 obtain rfl := hext31 _ (sj R1).symm
 exact ym (yh (sj D ▸ yay ⟨I48, rfl, le, S50.d2⟩))
 refine W.skip (ye (yag nL5 (ya 0 2 z (yab (rel := (RInt .i64)) (xs := ([r51] : List Int)) S50 z kr z 3 1 [[(Iv r51)]] kr z ((Elr.cons z Elr.nil)) tv ?_))))
 intro a62 C60 w65 S63 ho61
 have S67 := S63.front2
 exact apk R1 fun x68 h0_x68 he_x68 R1 => yax 3 8 [(Iv 0)] S67 (OwnSl.mono h_s34 L49) ho61.sl (S67.rd m1) h0_x68 he_x68 z fun a69 c70 w71 C72 S73 ho74 => ya 4 1 z (yp (yk (ye (yag nL3 (ya 0 1 z (yam i35 z (ya 2 1 z (yp (yt ⟨x68, (sj R1).symm, I48, a69, c70, C72, rfl, le, S73.front1.drop.front1, ho74⟩)))))))))
 rintro s34 _ w78 ⟨I32, a_s34, c_s34, C_s34, rfl, L33, S79, h_s34⟩ he
 cases he
 refine W.seq (yf nL5 (yg 0 2 [6] z (yj (S79.rf m0) z (ya 3 2 z (yb (yas fun _ => W.exit (yn (yo (yr (ye (yf nL4 (yx ((cs_qE p0 w_p0)) (S79.rf m0) z (ya 1 1 z (have S80 := S79.front1; have hp82 := (h_s34).publish S80; bsk D fun r88 Xr83 D => yai (r15_made_ok (h_p0.mono ((L12.trans L33).trans (ybc I32 C_s34))) hp82 S80.publish Xr83) ?_))))))))))))))
 rintro _ w84 ⟨I85, rfl, L86, S87⟩
 have S89 := St.back S80 L86 S87
 refine cv (ya 3 1 z (yb (W.seq (yf nL2 (ya 0 2 z (yb (yy D (fun G D => ?_) (fun G D => ?_))))))))
 exact yf nL2 (ya 0 2 z (yb (yq (yh (sj D ▸ yay ⟨I32, rfl, le, S89.d2⟩)))))
 exact W.skip (ye (yf nL3 (ya 0 3 z (yb (yq (sj D ▸ yay ⟨I32, rfl, le, S89.d2⟩))))))
theorem r15_find_ok {p0 : qE} {p1 : List Int} {p2 : List Int} {w_p0 : W_qE} {a_p1 : Option Addr} {c_p1 : Nat} {a_p2 : Option Addr} {c_p2 : Nat} (h_p0 : ok_qE I p0 w_p0) (h_p1 : RSl 1 (RInt .i64) I a_p1 c_p1 p1) (h_p2 : RSl 1 (RInt .i64) I a_p2 c_p2 p2) (hS : St E w I Os) {r : Int × Int} (D : r15_find p0 p1 p2 = some r) :
    Calls P 189 #[(vE p0 w_p0), (Sl a_p1 p1 c_p1), (Sl a_p2 p2 c_p2)] w (RT E I Os (.tuple #[(Iv r.1), (Iv r.2)])) := by
 obtain ⟨fu, hf⟩ := anyFuel_some D
 exact r15_find_fu_ok fu h_p0 h_p1 h_p2 hS hf
noncomputable def r15_Type (p0 : qE) (p1 : List Int) (p2 : List Int) : Option (Int × Int) := (r10_Check p0 true).bind (fun r10 => (bif (r10 != 0) then some (0, r10) else (r15_find p0 p1 p2).bind (fun (r17, r18) => some (r17, r18))))
theorem r15_Type_ok {p0 : qE} {p1 : List Int} {p2 : List Int} {w_p0 : W_qE} {a_p1 : Option Addr} {c_p1 : Nat} {a_p2 : Option Addr} {c_p2 : Nat} (h_p0 : ok_qE I p0 w_p0) (h_p1 : RSl 1 (RInt .i64) I a_p1 c_p1 p1) (h_p2 : RSl 1 (RInt .i64) I a_p2 c_p2 p2) (hS : St E w I Os) {r : Int × Int} (D : r15_Type p0 p1 p2 = some r) :
    Calls P 166 #[(vE p0 w_p0), (Sl a_p1 p1 c_p1), (Sl a_p2 p2 c_p2)] w (RT E I Os (.tuple #[(Iv r.1), (Iv r.2)])) := by
 refine calls_W (fn := Tryz.f166) rfl rfl rfl ?_
 unfold r15_Type at D
 refine yf nL3 (yz hS (cs_qE p0 w_p0) 61 z fun b1 w4 S3 => ya 1 2 z (y0 nL3 (yx ((cs_qE p0 w_p0)) (S3.rf m0) z (bsk D fun r10 Xr5 D => WO.c1 (r10_Check_ok h_p0 S3 Xr5) z fun I7 w6 L8 S9 => ya 2 1 z (yb (W.seq (yf nL2 (ya 0 2 z (yb (yy D (fun G D => ?_) (fun G D => ?_)))))))))))
 exact yf nL3 (ya 0 3 z (yb (yq (yh (sj D ▸ yay ⟨I7, rfl, L8, S9.drop⟩)))))
 refine W.skip (ye (yf nL8 (yx ((cs_qE p0 w_p0)) (S9.rf m0) z (ya 1 2 z ?_))))
 obtain ⟨⟨r17, r18⟩, Xr12, D⟩ := bsm D
 exact WO.c1 (r15_find_ok (h_p0.mono L8) (RSl.mono h_p1 L8) (RSl.mono h_p2 L8) S9 Xr12) z fun I14 w13 L15 S16 => ya 4 4 z (yb (yq (sj D ▸ yay ⟨I14, rfl, le, S16.drop⟩)))
noncomputable def r15_Bool (p0 : qE) (p1 : List Int) (p2 : List Int) : Option Int := (r15_Type p0 p1 p2).bind (fun (r10, r11) => (bif (r11 != 0) then some r11 else (bif ((r10 != 2) && (r10 != 0)) then some 11 else some 0)))
theorem r15_Bool_ok {p0 : qE} {p1 : List Int} {p2 : List Int} {w_p0 : W_qE} {a_p1 : Option Addr} {c_p1 : Nat} {a_p2 : Option Addr} {c_p2 : Nat} (h_p0 : ok_qE I p0 w_p0) (h_p1 : RSl 1 (RInt .i64) I a_p1 c_p1 p1) (h_p2 : RSl 1 (RInt .i64) I a_p2 c_p2 p2) (hS : St E w I Os) {r : Int} (D : r15_Bool p0 p1 p2 = some r) :
    Calls P 133 #[(vE p0 w_p0), (Sl a_p1 p1 c_p1), (Sl a_p2 p2 c_p2)] w (RT E I Os (Iv r)) := by
 refine calls_W (fn := Tryz.f133) rfl rfl rfl ?_
 unfold r15_Bool at D
 refine yf nL2 (yz hS (cs_qE p0 w_p0) 61 z fun b1 w4 S3 => ya 1 1 z (y0 nL9 (yx ((cs_qE p0 w_p0)) (S3.rf m0) z (ya 1 2 z ?_))))
 obtain ⟨⟨r10, r11⟩, Xr5, D⟩ := bsm D
 refine WO.c1 (r15_Type_ok h_p0 h_p1 h_p2 S3 Xr5) z fun I7 w6 L8 S9 => ya 4 5 z (yb (W.seq (yf nL2 (ya 0 2 z (yb (yy D (fun G D => ?_) (fun G D => ?_)))))))
 exact yf nL2 (ya 0 2 z (yb (yq (yh (sj D ▸ yw ⟨I7, rfl, L8, S9.drop⟩)))))
 refine W.skip (ye (W.seq (yf nL6 (ya 0 3 z (yaq [3, 4] 5 21 24 (.refl ((r10 != 2) && (r10 != 0))) (fun _ => ya 3 3 z yah) (yb (yy D (fun G D => ?_) (fun G D => ?_))))))))
 exact yf [0] (ya 0 1 z (yb (yq (yh (sj D ▸ yw ⟨I7, rfl, L8, S9.drop⟩)))))
 exact W.skip (ye (yf [0] (ya 0 1 z (yb (yq (sj D ▸ yw ⟨I7, rfl, L8, S9.drop⟩))))))
def r14_Places (p0 : qT) (p1 : List By8) : Option ((List Int) × Int) := (forN (fun (i9 : Nat) (s8 : List Int) => (idx p1 (i9 : Int)).bind (fun x21 => (r14_Col p0 x21).bind (fun r27 => (bif (decide (r27 < 0)) then some (.inr (([] : List Int), (4 : Int))) else (app 8 s8 ([r27] : List Int)).bind (fun x42 => some (.inl x42)))))) p1.length 0 ([] : List Int)).bind (fun (t : (List Int) ⊕ (((List Int) × Int))) => match t with | .inl s8 => some (s8, 0) | .inr (s29, s30) => some (s29, s30))
theorem r14_Places_ok {p0 : qT} {p1 : List By8} {w_p0 : W_qT} {a_p1 : Option Addr} {c_p1 : Nat} (h_p0 : ok_qT I p0 w_p0) (h_p1 : RSl 1 RStr I a_p1 c_p1 p1) (hS : St E w I Os) {r : (List Int) × Int} (D : r14_Places p0 p1 = some r) :
    Calls P 167 #[(vT p0 w_p0), (Sl a_p1 p1 c_p1)] w (fun e w' => ∃ (I' : Mem) (ra0 : Option Addr) (rc0 : Nat), e = .returned (.tuple #[(Sl ra0 r.1 rc0), (Iv r.2)]) ∧ I.Le I' ∧ St E w' I' Os ∧ RSl 1 (RInt .i64) I' ra0 rc0 r.1) := by
 refine calls_W (fn := Tryz.f167) rfl rfl rfl ?_
 unfold r14_Places at D
 refine yf nL3 (yz hS (cs_qT p0 w_p0) 104 z fun b1 w4 S3 => y8 1 4 (.slice none 0 0) (ya 2 1 z (y0 [0] (y8 0 6 (.slice none 0 0) (yb (W.seq (yf [0] (ya 0 1 z (yb (yl (bsk D fun t5 hloop10 D => have hlt17 := (h_p1).len_lt; W.wk (yap (m := p1.length) hloop10 (fun (i9 : Nat) (s8 : List Int) fr w => ∃ I6 a_s8 c_s8 C_s8, fr = [(1, Sl a_p1 p1 c_p1), (2, Pt b1 0), (6, Sl a_s8 s8 c_s8), (7, Nv i9)] ∧ I.Le I6 ∧ St E w I6 (bT b1 p0 w_p0 :: (C_s8) :: Os) ∧ OwnSl 3 1 (RInt .i64) I6 C_s8 a_s8 c_s8 s8) ⟨I, none, 0, Mem.no, rfl, lr, S3.no.front1, OwnSl.nil⟩ ?_ ?_))))))))))))
 rintro i9 s8 _ w14 hi18 ⟨I6, a_s8, c_s8, C_s8, rfl, L7, S15, h_s8⟩ x16 R1 hext5
 refine W.seq (yf nL4 (ya 0 4 z (yb (yar fun _ => W.skip (ye (W.seq (yl (W.seq (have S19 := S15.drew; yba nL7 5 (yv (S19.rd m0) (yad S19.im)) ?_)))))))))
 generalize World.drew _ = w20 at *
 refine yx ((cs_qT p0 w_p0)) (rd_c m0 (S19.rd m0)) z (ya 1 2 z ?_)
 obtain ⟨x21, R1, Hx21, _, rfl, Zx21⟩ := sx I6 h_p1 R1
 refine yaa 9 1 Hx21 z (yao Zx21 (rd_i S19.im) z (WO.tail z (bsk R1 fun r27 Xr22 R1 => WO.c1 (r14_Col_ok (h_p0.mono L7) S19 Xr22) z fun I24 w23 L25 S26 => ya 6 1 z (yb (W.seq (yf nL2 (ya 0 2 z (yb (yy R1 (fun G R1 => ?_) (fun G R1 => ?_))))))))))
 refine yf nL2 (y8 0 4 (.slice none 0 0) (ya 1 1 z (yb (yq (yh (ym (yh (yu ?_))))))))
 obtain rfl := hext5 _ (sj R1).symm
 exact ym (yh (sj D ▸ yay ⟨I24, none, 0, rfl, le, S26.d2, SlAt.nil⟩))
 refine W.skip (ye (yag nL5 (ya 0 2 z (yab (rel := (RInt .i64)) (xs := ([r27] : List Int)) S26 z kr z 3 1 [[(Iv r27)]] kr z ((Elr.cons z Elr.nil)) tv ?_))))
 intro a37 C35 w39 S38 ho36
 have S41 := S38.front2
 exact apk R1 fun x42 h0_x42 he_x42 R1 => yax 3 8 [(Iv 0)] S41 (OwnSl.mono h_s8 L25) ho36.sl (S41.rd m1) h0_x42 he_x42 z fun a43 c44 w45 C46 S47 ho48 => ya 4 1 z (yp (yk (ye (yag nL3 (ya 0 1 z (yam i9 z (ya 2 1 z (yp (yt ⟨x42, (sj R1).symm, I24, a43, c44, C46, rfl, le, S47.front1.drop.front1, ho48⟩)))))))))
 rintro s8 _ w52 ⟨I6, a_s8, c_s8, C_s8, rfl, L7, S53, h_s8⟩ he
 cases he
 refine W.seq (yf nL4 (ya 0 4 z (yb (yas fun _ => W.exit (yn (yo (yr (ye (yf nL3 (ya 0 1 z ?_))))))))))
 obtain ⟨I55, L56, S58, hp57⟩ := yac h_s8 S53.front1
 exact ya 1 2 z (yb (yq (sj D ▸ yay ⟨I55, a_s8, c_s8, rfl, le, S58.drop, hp57⟩)))
def r17_foreign (p0 : qC) (p1 : qT) (p2 : qK) : Option Int := ((bif (!sEq p2.Table p1.Name) then (r17_At p0 p2.Table).bind (fun r28 => (bif (decide (r28 < 0)) then some (.inl (4, p1)) else (idx p0.Tables r28).bind (fun x40 => some (.inr x40)))) else some (.inr p1))).bind (fun (t : (Int × qT) ⊕ qT) => match t with | (.inl (s30, s31)) => some s30 | (.inr s43) => (r14_Places s43 p2.Refs).bind (fun (r59, r60) => (r14_Places p1 p2.Cols).bind (fun (r66, r67) => (bif (r60 != 0) then some r60 else (forN (fun (i74 : Nat) (_s : Unit) => (idx r66 (i74 : Int)).bind (fun x83 => (idx p1.Cols x83).bind (fun x84 => (idx r59 (i74 : Int)).bind (fun x85 => (idx s43.Cols x85).bind (fun x86 => (bif (x84.Type_ != x86.Type_) then some (.inr (11 : Int)) else some (.inl ()))))))) r59.length 0 ()).bind (fun (t : Unit ⊕ (Int)) => match t with | .inl _ => (r17_keys s43 p2.Refs).bind (fun r102 => (bif (r102 == 0) then some 2 else some 0)) | .inr s88 => some s88)))))
theorem r17_foreign_ok {p0 : qC} {p1 : qT} {p2 : qK} {w_p0 : W_qC} {w_p1 : W_qT} {w_p2 : W_qK} (h_p0 : ok_qC I p0 w_p0) (h_p1 : ok_qT I p1 w_p1) (h_p2 : ok_qK I p2 w_p2) (hS : St E w I Os) {r : Int} (D : r17_foreign p0 p1 p2 = some r) :
    Calls P 135 #[(vC p0 w_p0), (vT p1 w_p1), (vK p2 w_p2)] w (RT E I Os (Iv r)) := by
 refine calls_W (fn := Tryz.f135) rfl rfl rfl ?_
 unfold r17_foreign at D
 refine yf nL4 (yz hS (cs_qC p0 w_p0) 33 z fun b1 w4 S3 => yz S3 (cs_qT p1 w_p1) 104 z fun b5 w8 S7 => yz S7 (cs_qK p2 w_p2) 116 z fun b9 w12 S11 => ya 3 1 z (y0 nL3 (yx ((cs_qT p1 w_p1)) (S11.rf m1) z (yz S11 (cs_qT z_qT zw_qT) 104 z fun b13 w16 S15 => y7 S15 0 (cs_qT p1 w_p1) fun w18 S17 => yb (W.seq (yf nL5 (yg 0 1 [10] z (yj (S17.rf m1) z (yg 2 1 [0] z (yj (S17.rf m2) z (ya 4 1 z (yb (bsk D fun j19 R1 D => yav (J := (fun fr w => ∃ (s43 : qT), ∃ I21 w_s43, (.inr s43) = j19 ∧ fr = [(4, Pt b5 0), (5, Pt b9 0), (7, Pt b13 0)] ∧ I.Le I21 ∧ St E w I21 (bT b5 p1 w_p1 :: (bK b9 p2 w_p2) :: (bT b13 s43 w_s43) :: Os) ∧ ok_qT I21 s43 w_s43)) ?_ ?_)))))))))))))
 refine yy R1 (fun G R1 => ?_) (fun G R1 => ?_)
 refine yf nL5 (yx ((cs_qC p0 w_p0)) (S17.rf m3) z (yg 1 1 [10] z (yj (S17.rf m1) z (bsk R1 fun r28 Xr23 R1 => WO.c1 (r17_At_ok h_p0 S17 Xr23) z fun I25 w24 L26 S27 => ya 4 1 z (yb (W.seq (yf nL2 (ya 0 2 z (yb (yy R1 (fun G R1 => ?_) (fun G R1 => ?_)))))))))))
 refine yf [0] (ya 0 1 z (yb (yq (yh (yu ?_)))))
 obtain rfl := sj R1
 exact yh (sj D ▸ yw ⟨I25, rfl, L26, S27.d4⟩)
 refine W.skip (ye (yag nL6 (yg 0 1 [1] z (yj (S27.rf m3) z (ya 2 1 z ?_)))))
 obtain ⟨x40, R1, Hx40, _, ⟨w_x40, rfl, h_x40⟩, Zx40⟩ := sx I25 h_p0.Tables R1
 exact yaa 104 6 Hx40 z (yau ((cs_qT x40 w_x40)) Zx40 0 S27.rm z (y7 S27 0 (cs_qT x40 w_x40) fun w42 S41 => yp (yt ⟨x40, I25, w_x40, sj R1, rfl, L26, S41.front3.drop.front1.front2, h_x40⟩)))
 exact W.skip (yt ⟨p1, I, w_p1, sj R1, rfl, lr, S17.front3.drop.front1.front2, h_p1⟩)
 rintro _ w52 ⟨s43, I21, w_s43, rfl, rfl, L22, S53, h_s43⟩
 refine ye (yf nL9 (yx ((cs_qT s43 w_s43)) (S53.rf m2) z (yg 1 1 [11] z (yj (S53.rf m1) z ?_))))
 obtain ⟨⟨r59, r60⟩, Xr54, D⟩ := bsm D
 refine yai (r14_Places_ok h_s43 (RSl.mono h_p2.Refs L22) S53 Xr54) ?_
 rintro _ w55 ⟨I56, a_r59, c_r59, rfl, L57, S58, h_r59⟩
 refine cv (ya 4 5 z (y0 nL9 (yx ((cs_qT p1 w_p1)) (S58.rf m0) z (yg 1 1 [2] z (yj (S58.rf m1) z ?_)))))
 obtain ⟨⟨r66, r67⟩, Xr61, D⟩ := bsm D
 refine yai (r14_Places_ok (h_p1.mono le) (up h_p2.Cols) S58 Xr61) ?_
 rintro _ w62 ⟨I63, a_r66, c_r66, rfl, L64, S65, h_r66⟩
 refine cv (ya 4 5 z (yb (W.seq (yf nL2 (ya 0 2 z (yb (yy D (fun G D => ?_) (fun G D => ?_))))))))
 exact yf nL2 (ya 0 2 z (yb (yq (yh (sj D ▸ yw ⟨I63, rfl, le, S65.d3⟩)))))
 refine W.skip (ye (W.seq (yf [0] (ya 0 1 z (yb (yl (bsk D fun t71 hloop75 D => have hlt79 := ((RSl.mono h_r59 L64)).len_lt; W.wk (yap (m := r59.length) hloop75 (fun (i74 : Nat) (_s : Unit) => JI E I63 [(4, Pt b5 0), (5, Pt b9 0), (7, Pt b13 0), (9, Sl a_r59 r59 c_r59), (11, Sl a_r66 r66 c_r66), (13, Nv i74)] (bT b5 p1 w_p1 :: (bK b9 p2 w_p2) :: (bT b13 s43 w_s43) :: Os)) ⟨I63, rfl, lr, S65⟩ ?_ ?_))))))))
 rintro i74 _ _ w76 hi80 ⟨I72, rfl, L73, S77⟩ x78 R1 hext71
 refine W.seq (yf nL4 (ya 0 4 z (yb (yar fun _ => W.skip (ye (W.seq (yl (W.seq (have S81 := S77.drew; yba nL19 18 (yv (S81.rd m0) (yv (S81.rd m2) (yad S81.im))) ?_)))))))))
 generalize World.drew _ = w82 at *
 refine yg 0 1 [3] z (yj (rd_c m0 (S81.rd m0)) z (ya 2 2 z ?_))
 obtain ⟨x83, R1, Hx83, _, rfl, Zx83⟩ := sx I72 h_r66 R1
 refine yaa 3 1 Hx83 z (yao Zx83 (rd_i S81.im) z ?_)
 obtain ⟨x84, R1, Hx84, _, rfl, Zx84⟩ := sx I72 h_p1.Cols R1
 refine yaa 114 3 Hx84 z (yg 7 1 [1] z (yaz Zx84 1 (rd_i S81.im) z (yg 9 1 [3] z (yj (rd_c m1 (S81.rd m2)) z (ya 11 2 z ?_)))))
 obtain ⟨x85, R1, Hx85, _, rfl, Zx85⟩ := sx I72 h_r59 R1
 refine yaa 3 1 Hx85 z (yao Zx85 (rd_i S81.im) z ?_)
 obtain ⟨x86, R1, Hx86, _, rfl, Zx86⟩ := sx I72 h_s43.Cols R1
 refine yaa 114 3 Hx86 z (yg 16 1 [1] z (yaz Zx86 1 (rd_i S81.im) z (WO.tail z (ya 18 1 z (yb (yy R1 (fun G R1 => ?_) (fun G R1 => ?_)))))))
 refine yf [0] (ya 0 1 z (yb (yq (ym (yh (yu ?_))))))
 obtain rfl := hext71 _ (sj R1).symm
 exact ym (yh (sj D ▸ yw ⟨I72, rfl, le, S81.d3⟩))
 exact W.skip (yk (ye (yag nL3 (ya 0 1 z (yam i74 z (ya 2 1 z (yp (yt ⟨(), (sj R1).symm, I72, rfl, L73, S81⟩))))))))
 rintro _ _ w95 ⟨I72, rfl, L73, S96⟩ he
 cases he
 refine W.seq (yf nL4 (ya 0 4 z (yb (yas fun _ => W.exit (yn (yo (yr (ye (W.seq (yf nL5 (yx ((cs_qT s43 w_s43)) (S96.rf m2) z (yg 1 1 [11] z (yj (S96.rf m1) z (bsk D fun r102 Xr97 D => WO.c1 (r17_keys_ok (h_s43.mono le) (up h_p2.Refs) S96 Xr97) z fun I99 w98 L100 S101 => ya 4 1 z (yb (yy D (fun G D => ?_) (fun G D => ?_)))))))))))))))))
 exact yf [0] (ya 0 1 z (yb (yq (yh (sj D ▸ yw ⟨I99, rfl, le, S101.d3⟩)))))
 exact W.skip (ye (yf [0] (ya 0 1 z (yb (yq (sj D ▸ yw ⟨I99, rfl, le, S101.d3⟩))))))
noncomputable def r17_Sound (p0 : qC) (p1 : qT) : Option Int := (r14_Check p1).bind (fun r14 => (bif (r14 != 0) then some r14 else (forN (fun (i20 : Nat) (_s : Unit) => (idx p1.Cons (i20 : Int)).bind (fun x28 => ((bif (x28.Kind == 2) then (r15_Resolve p1 x28.Check).bind (fun (r44, r45) => ((bif (r45 == 0) then (r15_Cols p1).bind (fun r63 => (r15_Bool r44 r63 ([] : List Int)).bind (fun r69 => some r69)) else some r45)).bind (fun (j52 : Int) => some j52)) else some 0)).bind (fun (j35 : Int) => ((bif (x28.Kind == 3) then (r17_foreign p0 p1 x28).bind (fun r91 => some r91) else some j35)).bind (fun (j82 : Int) => (bif (j82 != 0) then some (.inr j82) else some (.inl ())))))) p1.Cons.length 0 ()).bind (fun (t : Unit ⊕ (Int)) => match t with | .inl _ => some 0 | .inr s99 => some s99)))
theorem r17_Sound_ok {p0 : qC} {p1 : qT} {w_p0 : W_qC} {w_p1 : W_qT} (h_p0 : ok_qC I p0 w_p0) (h_p1 : ok_qT I p1 w_p1) (hS : St E w I Os) {r : Int} (D : r17_Sound p0 p1 = some r) :
    Calls P 92 #[(vC p0 w_p0), (vT p1 w_p1)] w (RT E I Os (Iv r)) := by
 refine calls_W (fn := Tryz.f92) rfl rfl rfl ?_
 unfold r17_Sound at D
 refine yf nL3 (yz hS (cs_qC p0 w_p0) 33 z fun b1 w4 S3 => yz S3 (cs_qT p1 w_p1) 104 z fun b5 w8 S7 => ya 2 1 z (y0 nL3 (yx ((cs_qT p1 w_p1)) (S7.rf m0) z (bsk D fun r14 Xr9 D => WO.c1 (r14_Check_ok h_p1 S7 Xr9) z fun I11 w10 L12 S13 => ya 2 1 z (yb (W.seq (yf nL2 (ya 0 2 z (yb (yy D (fun G D => ?_) (fun G D => ?_)))))))))))
 exact yf nL2 (ya 0 2 z (yb (yq (yh (sj D ▸ yw ⟨I11, rfl, L12, S13.d2⟩)))))
 refine W.skip (ye (W.seq (yf [0] (ya 0 1 z (yb (yl (bsk D fun t17 hloop21 D => have hlt26 := ((RSl.mono h_p1.Cons L12)).len_lt; W.wk (yap (m := p1.Cons.length) hloop21 (fun (i20 : Nat) (_s : Unit) => JI E I11 [(2, Pt b1 0), (3, Pt b5 0), (6, Nv i20)] (bC b1 p0 w_p0 :: (bT b5 p1 w_p1) :: Os)) ⟨I11, rfl, lr, S13.front1⟩ ?_ ?_))))))))
 rintro i20 _ _ w23 hi27 ⟨I18, rfl, L19, S24⟩ x25 R1 hext17
 refine W.seq (yf nL5 (yg 0 2 [4] z (yj (S24.rf m1) z (ya 3 2 z (yb (yar fun _ => W.skip (ye (W.seq (yl (yf nL7 (yg 0 1 [4] z (yj (S24.rf m1) z (ya 2 1 z ?_)))))))))))))
 obtain ⟨x28, R1, Hx28, _, ⟨w_x28, rfl, h_x28⟩, Zx28⟩ := sx I18 h_p1.Cons R1
 refine yaa 116 12 Hx28 z (yau ((cs_qK x28 w_x28)) Zx28 0 S24.rm z (yz S24 (cs_qK z_qK zw_qK) 116 z fun b29 w32 S31 => y7 S31 0 (cs_qK x28 w_x28) fun w34 S33 => y0 [0] (ya 0 1 z (yb (W.seq (yf nL3 (yg 0 1 [1] z (yj (S33.rf m0) z (ya 2 1 z (yb (bsk R1 fun j35 R2 R1 => yav (J := JI E I18 [(2, Pt b1 0), (3, Pt b5 0), (6, Nv i20), (7, Pt b29 0), (8, Iv j35)] (bC b1 p0 w_p0 :: (bT b5 p1 w_p1) :: (bK b29 x28 w_x28) :: Os)) ?_ ?_)))))))))))
 refine yy R2 (fun G R2 => ?_) (fun G R2 => ?_)
 refine yf nL10 (yx ((cs_qT p1 w_p1)) (S33.rf m2) z (yg 1 1 [3] z (yx ((cs_qE x28.Check w_x28.Check)) (S33.rf m0) z ?_)))
 obtain ⟨⟨r44, r45⟩, Xr39, R2⟩ := bsm R2
 refine yai (r15_Resolve_ok (h_p1.mono le) h_x28.Check S33 Xr39) ?_
 rintro _ w40 ⟨I41, w_r44, rfl, L42, S43, h_r44⟩
 refine cv (ya 4 3 z (yz S43 (cs_qE z_qE zw_qE) 61 z fun b46 w49 S48 => y7 S48 0 (cs_qE r44 w_r44) fun w51 S50 => ya 9 1 z (y0 nL2 (ya 0 2 z (y0 nL2 (ya 0 2 z (yb (bsk R2 fun j52 R3 R2 => yav (J := JI E I41 [(2, Pt b1 0), (3, Pt b5 0), (6, Nv i20), (7, Pt b29 0), (8, Iv j52)] (bC b1 p0 w_p0 :: (bT b5 p1 w_p1) :: (bK b29 x28 w_x28) :: Os)) ?_ ?_))))))))
 refine yy R3 (fun G R3 => ?_) (fun G R3 => ?_)
 have S56 := S50.drew
 refine yba nL5 3 (yv (S56.rd m0) (yv (S56.rd m3) (yad S56.im))) ?_
 generalize World.drew _ = w57 at *
 refine yx ((cs_qE r44 w_r44)) (rd_c m0 (S56.rd m0)) z (yx ((cs_qT p1 w_p1)) (rd_c m1 (S56.rd m3)) z (bsk R3 fun r63 Xr58 R3 => yai (r15_Cols_ok (h_p1.mono le) S56 Xr58) ?_))
 rintro _ w59 ⟨I60, a_r63, c_r63, rfl, L61, S62, h_r63⟩
 refine ⟨_, rfl, (yv (S62.rd m0) (yv (S62.rd m3) (yad (S62.im.of_le L61)))), ?_⟩
 exact WO.tail z (bsk R3 fun r69 Xr64 R3 => WO.c1 (r15_Bool_ok (h_r44.mono L61) h_r63 SlAt.nil S62 Xr64) z fun I66 w65 L67 S68 => ya 4 1 z (yp (sj R3 ▸ yt ⟨I66, rfl, le, S68.drop.front2.front2⟩)))
 exact W.skip (sj R3 ▸ yt ⟨I41, rfl, lr, S50.drop.front2.front2⟩)
 rintro _ w76 ⟨I54, rfl, L55, S77⟩
 exact sj R2 ▸ yt ⟨I54, rfl, le, S77⟩
 exact W.skip (sj R2 ▸ yt ⟨I18, rfl, lr, S33.front2.front2⟩)
 rintro _ w80 ⟨I37, rfl, L38, S81⟩
 refine ye (W.seq (yf nL3 (yg 0 1 [1] z (yj (S81.rf m2) z (ya 2 1 z (yb (bsk R1 fun j82 R2 R1 => yav (J := JI E I37 [(2, Pt b1 0), (3, Pt b5 0), (6, Nv i20), (8, Iv j82)] (bC b1 p0 w_p0 :: (bT b5 p1 w_p1) :: Os)) ?_ ?_)))))))
 refine yy R2 (fun G R2 => ?_) (fun G R2 => ?_)
 exact yag nL5 (yx ((cs_qC p0 w_p0)) (S81.rf m0) z (yx ((cs_qT p1 w_p1)) (S81.rf m1) z (yx ((cs_qK x28 w_x28)) (S81.rf m2) z (bsk R2 fun r91 Xr86 R2 => WO.c1 (r17_foreign_ok (h_p0.mono le) (h_p1.mono le) (h_x28.mono L38) S81 Xr86) z fun I88 w87 L89 S90 => ya 4 1 z (yp (sj R2 ▸ yt ⟨I88, rfl, L89, S90.front2.drop⟩))))))
 exact W.skip (sj R2 ▸ yt ⟨I37, rfl, lr, S81.front2.drop⟩)
 rintro _ w96 ⟨I84, rfl, L85, S97⟩
 refine ye (yf nL2 (ya 0 2 z (yb (yy R1 (fun G R1 => ?_) (fun G R1 => ?_)))))
 refine yf nL2 (ya 0 2 z (yb (yq (ym (yh (yu ?_))))))
 obtain rfl := hext17 _ (sj R1).symm
 exact ym (yh (sj D ▸ yw ⟨I84, rfl, le, S97.d2⟩))
 exact W.skip (yk (ye (yag nL3 (ya 0 1 z (yam i20 z (ya 2 1 z (yp (yt ⟨(), (sj R1).symm, I84, rfl, le, S97⟩))))))))
 rintro _ _ w104 ⟨I18, rfl, L19, S105⟩ he
 cases he
 exact W.seq (yf nL5 (yg 0 2 [4] z (yj (S105.rf m1) z (ya 3 2 z (yb (yas fun _ => W.exit (yn (yo (yr (ye (yf [0] (ya 0 1 z (yb (yq (sj D ▸ yw ⟨I18, rfl, le, S105.d2⟩)))))))))))))))
noncomputable def r17_with (p0 : qC) (p1 : qT) : Option qC := (loopO (fun (s24 : Int) => ((bif (decide (s24 < (p0.Tables.length : Int))) then (idx p0.Tables s24).bind (fun x38 => some (sLt x38.Name p1.Name)) else some false)).bind (fun (j34 : Bool) => (bif j34 then some (.inl (w64 (s24 + 1))) else some (.inr s24)))) 0).bind (fun (s42 : Int) => (sub p0.Tables 0 s42).bind (fun x45 => (app 112 ([] : List qT) x45).bind (fun x48 => (app 112 x48 ([p1] : List qT)).bind (fun x66 => (sub p0.Tables s42 (p0.Tables.length : Int)).bind (fun x80 => (app 112 x66 x80).bind (fun x82 => some { p0 with Tables := x82 }))))))
theorem r17_with_ok {p0 : qC} {p1 : qT} {w_p0 : W_qC} {w_p1 : W_qT} (h_p0 : ok_qC I p0 w_p0) (h_p1 : ok_qT I p1 w_p1) (hS : St E w I Os) {r : qC} (D : r17_with p0 p1 = some r) :
    Calls P 93 #[(vC p0 w_p0), (vT p1 w_p1)] w (fun e w' => ∃ I' w_rw0, e = .returned (vC r w_rw0) ∧ I.Le I' ∧ St E w' I' Os ∧ ok_qC I' r w_rw0) := by
 refine calls_W (fn := Tryz.f93) rfl rfl rfl ?_
 unfold r17_with at D
 refine yf nL3 (yz hS (cs_qC p0 w_p0) 33 z fun b1 w4 S3 => yz S3 (cs_qT p1 w_p1) 104 z fun b5 w8 S7 => yz S7 (cs_qC z_qC zw_qC) 33 z fun b9 w12 S11 => y0 nL3 (yx ((cs_qC p0 w_p0)) (S11.rf m2) z (yz S11 (cs_qC z_qC zw_qC) 33 z fun b13 w16 S15 => y7 S15 0 (cs_qC p0 w_p0) fun w18 S17 => y0 nL2 (yg 0 1 [1] z (y7 S17 1 (cs_qC ({ p0 with Tables := ([] : List qT) }) ({ w_p0 with Tables := ⟨none, 0⟩ })) fun w20 S19 => y0 [0] (ya 0 1 z (yb (W.seq (yl (bsk D fun t21 hloop25 D => W.wk (ya6 hloop25 (fun (s24 : Int) => JI E I [(2, Pt b1 0), (3, Pt b5 0), (4, Pt b9 0), (5, Pt b13 0), (6, Iv s24)] (bC b1 p0 w_p0 :: (bT b5 p1 w_p1) :: (bC b9 z_qC zw_qC) :: (Bx b13 (cs_qC ({ p0 with Tables := ([] : List qT) }) ({ w_p0 with Tables := ⟨none, 0⟩ })) 33) :: Os)) ⟨I, rfl, lr, S19.front1.front2.front3⟩ ?_)))))))))))
 rintro s24 _ w29 ⟨I22, rfl, L23, S30⟩ x31 R1 hext21
 refine W.seq (W.seq (have S32 := S30.drew; yba nL16 16 (yv (S32.rd m0) (yv (S32.rd m1) (yad S32.im))) ?_))
 generalize World.drew _ = w33 at *
 refine yg 0 2 [1] z (yj (rd_c m0 (S32.rd m0)) z (ya 3 3 z (bsk R1 fun j34 R2 R1 => yal (l1 := [6, 7, 8, 9, 10, 11, 12, 13, 14, 15]) (J := JI E I22 [(2, Pt b1 0), (3, Pt b5 0), (4, Pt b9 0), (5, Pt b13 0), (6, Iv s24), (24, .bool j34)] (bC b1 p0 w_p0 :: (bT b5 p1 w_p1) :: (bC b9 z_qC zw_qC) :: (Bx b13 (cs_qC ({ p0 with Tables := ([] : List qT) }) ({ w_p0 with Tables := ⟨none, 0⟩ })) 33) :: Os)) ?_ ?_)))
 refine yak R2 (fun G R2 => ?_) (fun G R2 => ?_)
 refine y6 14 G (yg 6 1 [1] z (yj (rd_c m0 (S32.rd m0)) z (ya 8 1 z ?_)))
 obtain ⟨x38, R2, Hx38, _, ⟨w_x38, rfl, h_x38⟩, Zx38⟩ := sx I22 h_p0.Tables R2
 exact yaa 104 6 Hx38 z (yg 10 1 [0] z (yao Zx38 (rd_i S32.im) z (yg 12 1 [0] z (yj (rd_c m1 (S32.rd m1)) z (y8 14 23 (.bool (sLt x38.Name p1.Name)) (ya 15 1 z (sj R2 ▸ y4 ⟨I22, rfl, lr, S32⟩)))))))
 refine y6 14 G ?_
 iterate 9 refine yaj ?_
 exact ya 15 1 z (sj R2 ▸ y4 ⟨I22, rfl, lr, S32⟩)
 rintro _ w39 ⟨I36, rfl, L37, S40⟩
 refine yb (yy R1 (fun G R1 => ?_) (fun G R1 => ?_))
 exact W.skip (ye (yl (yag nL3 (ya 0 3 z (yp (yk (yt ⟨(w64 (s24 + 1)), (sj R1).symm, I36, rfl, le, S40⟩)))))))
 refine W.exit (yn (yo ?_))
 obtain rfl := hext21 _ (sj R1).symm
 refine yr (ye (W.seq (have S105 := S40.drew; yba nL9 6 (yv (S105.rd m0) (yv (S105.rd m3) (yad S105.im))) ?_)))
 generalize World.drew _ = w106 at *
 refine yg 0 1 [1] z (yj (rd_c m1 (S105.rd m3)) z (yg 2 1 [1] z (yj (rd_c m0 (S105.rd m0)) z (ya 4 1 z ?_))))
 obtain ⟨x107, Xx107, D⟩ := bsm D
 obtain ⟨h0_x107, h1_x107, h2_x107, he_x107⟩ := sub_some Xx107
 have hl_x107 : (s24 : Int) ≤ (w_p0.Tables.c : Int) := Int.le_trans h2_x107 (Int.ofNat_le.2 ((RSl.mono h_p0.Tables (L23.trans L37))).le)
 refine ya3 (e := 104) (sz := 6) z kr kr kr z (0 : Int) (s24 : Int) h0_x107 (.inl ⟨rfl, rfl⟩) (.inr ⟨_, _, rfl, rfl⟩) h1_x107 hl_x107 ?_
 obtain ⟨a_x107, c_x107, h_x107, ev_x107⟩ := sub_ok ((RSl.mono h_p0.Tables (L23.trans L37))) h0_x107 h1_x107 h2_x107 he_x107
 refine yae 32 z ev_x107 ?_
 refine WO.tail z (have S109 := S105.no; apk D fun x110 h0_x110 he_x110 D => ya7 (e' := 104) (b := 112) (zs := (cs_qT z_qT zw_qT).toArray) S109 (OwnSl.nil (T := 104) (rel := R_qT) (I := I36)) z kr z kr kr kr z z z z h_x107 S109.im h0_x110 he_x110 tv ?_)
 intro a111 c112 w113 C114 S115 ho116
 refine yg 7 1 [1] z (y7 S115.front4 1 (cs_qC ({ p0 with Tables := x110 }) ({ w_p0 with Tables := ⟨a111, c112⟩ })) fun w119 S118 => y0 nL7 (yg 0 1 [1] z (yj (S118.rf m0) z (yx ((cs_qT p1 w_p1)) (S118.rf m3) z (yab (rel := R_qT) (xs := ([p1] : List qT)) S118 z kr z 104 6 [(cs_qT p1 w_p1)] kr z ((Elr.cons ⟨w_p1, rfl, (h_p1.mono le)⟩ Elr.nil)) tv ?_)))))
 intro a123 C121 w125 S124 ho122
 have S127 := S124.front2
 refine apk D fun x128 h0_x128 he_x128 D => yax 104 112 (cs_qT z_qT zw_qT) S127 ho116 ho122.sl (S127.rd m1) h0_x128 he_x128 z fun a129 c130 w131 C132 S133 ho134 => yg 5 1 [1] z (y7 S133.front1.drop.front1 1 (cs_qC ({ p0 with Tables := x128 }) ({ w_p0 with Tables := ⟨a129, c130⟩ })) fun w139 S138 => yb (W.seq (have S140 := S138.drew; yba nL9 6 (yv (S140.rd m0) (yv (S140.rd m2) (yad S140.im))) ?_)))
 generalize World.drew _ = w141 at *
 refine yg 0 1 [1] z (yj (rd_c m0 (S140.rd m0)) z (yg 2 1 [1] z (yj (rd_c m1 (S140.rd m2)) z (ya 4 1 z ?_))))
 obtain ⟨x142, Xx142, D⟩ := bsm D
 obtain ⟨h0_x142, h1_x142, h2_x142, he_x142⟩ := sub_some Xx142
 have hl_x142 : ((p0.Tables.length : Int) : Int) ≤ (w_p0.Tables.c : Int) := Int.le_trans h2_x142 (Int.ofNat_le.2 ((RSl.mono h_p0.Tables (L23.trans L37))).le)
 refine ya3 (e := 104) (sz := 6) z kr kr kr z (s24 : Int) ((p0.Tables.length : Int) : Int) h0_x142 (.inr ⟨_, _, rfl, rfl⟩) (.inl ⟨rfl, rfl⟩) h1_x142 hl_x142 ?_
 obtain ⟨a_x142, c_x142, h_x142, ev_x142⟩ := sub_ok ((RSl.mono h_p0.Tables (L23.trans L37))) h0_x142 h1_x142 h2_x142 he_x142
 refine yae 46 z ev_x142 ?_
 refine WO.tail z (have S143 := S140.front1; apk D fun x144 h0_x144 he_x144 D => yax 104 112 (cs_qT z_qT zw_qT) S143 ho134 h_x142 S143.im h0_x144 he_x144 z fun a145 c146 w147 C148 S149 ho150 => yg 7 1 [1] z (y7 S149.front1 1 (cs_qC ({ p0 with Tables := x144 }) ({ w_p0 with Tables := ⟨a145, c146⟩ })) fun w153 S152 => y0 nL2 (yx ((cs_qC ({ p0 with Tables := x144 }) ({ w_p0 with Tables := ⟨a145, c146⟩ }))) (S152.rf m0) z ?_)))
 obtain ⟨I155, L156, S158, hp157⟩ := yac ho150 S152.front1
 refine y7 S158.front3 0 (cs_qC ({ p0 with Tables := x144 }) ({ w_p0 with Tables := ⟨a145, c146⟩ })) fun w161 S160 => yb (yq ?_)
 have hk166 : ok_qC I155 ({ p0 with Tables := x144 }) ({ w_p0 with Tables := ⟨a145, c146⟩ }) := ⟨hp157, (RSl.mono h_p0.Roles ((L23.trans L37).trans L156)), (RSl.mono h_p0.Grants ((L23.trans L37).trans L156))⟩
 exact sj D ▸ En.c1 _ (S160.rd m0) ⟨I155, ({ w_p0 with Tables := ⟨a145, c146⟩ }), rfl, le, S160.d4, hk166⟩
noncomputable def r17_Make (p0 : qC) (p1 : qS) (p2 : By8) (p3 : Int) : Option (qC × Int) := (bif ((decide (p1.Kind < 1)) || (decide (p1.Kind > 9))) then some (z_qC, 2) else (r17_At p0 p1.Table).bind (fun r25 => (bif ((p1.Kind == 1) && (decide (r25 ≥ 0))) then some (z_qC, 19) else (bif ((p1.Kind == 1) && (decide ((p0.Tables.length : Int) ≥ 8))) then some (z_qC, 5) else (bif ((p1.Kind != 1) && (decide (r25 < 0))) then some (z_qC, 4) else (r17_without p0 p1.Table).bind (fun r52 => ((bif (p1.Kind == 1) then some (.inl ((0 : Int), z_qC, r52.Version, r52.Tables, r52.Roles, r52.Grants, { z_qT with Name := p1.Table, Owner := p2, Cols := p1.Cols, Cons := p1.Cons })) else ((bif (p1.Kind == 2) then (r17_refers_nilsl p0 p1.Table p1.Table eB).bind (fun r90 => (bif r90 then some (.inl (34, z_qC, z_qT)) else (forE (fun (i124 : Nat) (s123 : List qG) => (idx p0.Grants (i124 : Int)).bind (fun x140 => ((bif (!sEq x140.Table p1.Table) then (idx p0.Grants (i124 : Int)).bind (fun x147 => (app 64 s123 ([x147] : List qG)).bind (fun x156 => some x156)) else some s123)).bind (fun (j141 : List qG) => some j141))) p0.Grants.length 0 ([] : List qG)).bind (fun s123 => some (.inr ((0 : Int), z_qC, r52.Version, r52.Tables, r52.Roles, s123, z_qT))))) else ((bif (p1.Kind == 5) then (r17_At p0 p1.Name).bind (fun r199 => (bif (decide (r199 ≥ 0)) then some (.inl (19, z_qC, z_qT)) else (idx p0.Tables r25).bind (fun x219 => (r17_renamed p0 x219 p1.Name).bind (fun (r225, r226) => some (.inr ((0 : Int), z_qC, r225.Version, r225.Tables, r225.Roles, r225.Grants, r226)))))) else (idx p0.Tables r25).bind (fun x246 => (r17_turned p0 x246 p1).bind (fun (r252, r253) => some (.inr (r253, z_qC, r52.Version, r52.Tables, r52.Roles, r52.Grants, r252)))))).bind (fun (t : (Int × qC × qT) ⊕ (Int × qC × Int × (List qT) × (List qJ) × (List qG) × qT)) => match t with | (.inl (s204, s205, s206)) => some (.inl (s204, s205, s206)) | (.inr (s233, s234, s235, s236, s237, s238, s239)) => some (.inr (s233, s234, s235, s236, s237, s238, s239))))).bind (fun (t : (Int × qC × qT) ⊕ (Int × qC × Int × (List qT) × (List qJ) × (List qG) × qT)) => match t with | (.inl (s95, s96, s97)) => some (.inr (s95, s96, s97)) | (.inr (s178, s179, s180, s181, s182, s183, s184)) => some (.inl (s178, s179, s180, s181, s182, s183, s184))))).bind (fun (t : (Int × qC × Int × (List qT) × (List qJ) × (List qG) × qT) ⊕ (Int × qC × qT)) => match t with | (.inl (s69, s70, s71, s72, s73, s74, s75)) => ((bif ((s69 == 0) && (p1.Kind != 2)) then (r17_Sound (⟨s71, s72, s73, s74⟩ : qC) s75).bind (fun r278 => some r278) else some s69)).bind (fun (j268 : Int) => ((bif ((j268 == 0) && (decide (p0.Version ≥ p3))) then some 52 else some j268)).bind (fun (j283 : Int) => (bif (j283 != 0) then some (z_qC, j283) else ((bif (p1.Kind != 2) then (r17_with (⟨s71, s72, s73, s74⟩ : qC) ({ s75 with Version := (w64 (p0.Version + 1)) })).bind (fun r311 => some (r311.Version, r311.Tables, r311.Roles, r311.Grants, { s75 with Version := (w64 (p0.Version + 1)) })) else some (s71, s72, s73, s74, s75))).bind (fun ((s315, s316, s317, s318, s319) : Int × (List qT) × (List qJ) × (List qG) × qT) => some ((⟨(w64 (p0.Version + 1)), s316, s317, s318⟩ : qC), 0))))) | (.inr (s99, s100, s101)) => some (s100, s99))))))))
theorem r17_Make_ok {p0 : qC} {p1 : qS} {p2 : By8} {p3 : Int} {w_p0 : W_qC} {w_p1 : W_qS} (h_p0 : ok_qC I p0 w_p0) (h_p1 : ok_qS I p1 w_p1) (hS : St E w I Os) {r : qC × Int} (D : r17_Make p0 p1 p2 p3 = some r) :
    Calls P 59 #[(vC p0 w_p0), (vS p1 w_p1), (.string p2), (Iv p3)] w (fun e w' => ∃ I' w_rw0, e = .returned (.tuple #[(vC r.1 w_rw0), (Iv r.2)]) ∧ I.Le I' ∧ St E w' I' Os ∧ ok_qC I' r.1 w_rw0) := by
 refine calls_W (fn := Tryz.f59) rfl rfl rfl ?_
 unfold r17_Make at D
 refine yf nL4 (yz hS (cs_qC p0 w_p0) 33 z fun b1 w4 S3 => yz S3 (cs_qS p1 w_p1) 66 z fun b5 w8 S7 => yz S7 (cs_qC z_qC zw_qC) 33 z fun b9 w12 S11 => ya 3 1 z (yb (W.seq (yf nL8 (yg 0 1 [0] z (yj (S11.rf m1) z (ya 2 2 z (ya2 [4, 5, 6] 7 18 22 (.refl ((decide (p1.Kind < 1)) || (decide (p1.Kind > 9)))) (fun _ => yg 4 1 [0] z (yj (S11.rf m1) z (ya 6 2 z yah))) (yb (yy D (fun G D => ?_) (fun G D => ?_)))))))))))
 exact yf nL3 (y8 0 23 (vC z_qC zw_qC) (y7 S11 0 (cs_qC z_qC zw_qC) fun w16 S15 => ya 2 1 z (yb (yq (yh (sj D ▸ ya1 _ (S15.rd m0) ⟨I, zw_qC, rfl, lr, S15.d3, zok_qC⟩))))))
 refine W.skip (ye (yf nL5 (yx ((cs_qC p0 w_p0)) (S11.rf m2) z (yg 1 1 [1] z (yj (S11.rf m1) z (bsk D fun r25 Xr20 D => WO.c1 (r17_At_ok h_p0 S11 Xr20) z fun I22 w21 L23 S24 => ya 4 1 z (yb (W.seq (yf nL7 (yg 0 1 [0] z (yj (S24.rf m1) z (ya 2 2 z (yaq [4, 5] 6 31 34 (.refl ((p1.Kind == 1) && (decide (r25 ≥ 0)))) (fun _ => ya 4 3 z yah) (yb (yy D (fun G D => ?_) (fun G D => ?_))))))))))))))))
 exact yf nL3 (y8 0 35 (vC z_qC zw_qC) (y7 S24 0 (cs_qC z_qC zw_qC) fun w29 S28 => ya 2 1 z (yb (yq (yh (sj D ▸ ya1 _ (S28.rd m0) ⟨I22, zw_qC, rfl, L23, S28.d3, zok_qC⟩))))))
 refine W.skip (ye (W.seq (yf nL9 (yg 0 1 [0] z (yj (S24.rf m1) z (ya 2 2 z (yaq [4, 5, 6, 7] 8 39 44 (.refl ((p1.Kind == 1) && (decide ((p0.Tables.length : Int) ≥ 8)))) (fun _ => yg 4 1 [1] z (yj (S24.rf m2) z (ya 6 3 z yah))) (yb (yy D (fun G D => ?_) (fun G D => ?_))))))))))
 exact yf nL3 (y8 0 45 (vC z_qC zw_qC) (y7 S24 0 (cs_qC z_qC zw_qC) fun w36 S35 => ya 2 1 z (yb (yq (yh (sj D ▸ ya1 _ (S35.rd m0) ⟨I22, zw_qC, rfl, L23, S35.d3, zok_qC⟩))))))
 refine W.skip (ye (W.seq (yf nL7 (yg 0 1 [0] z (yj (S24.rf m1) z (ya 2 2 z (yaq [4, 5] 6 49 52 (.refl ((p1.Kind != 1) && (decide (r25 < 0)))) (fun _ => ya 4 3 z yah) (yb (yy D (fun G D => ?_) (fun G D => ?_))))))))))
 exact yf nL3 (y8 0 53 (vC z_qC zw_qC) (y7 S24 0 (cs_qC z_qC zw_qC) fun w43 S42 => ya 2 1 z (yb (yq (yh (sj D ▸ ya1 _ (S42.rd m0) ⟨I22, zw_qC, rfl, L23, S42.d3, zok_qC⟩))))))
 refine W.skip (ye (yf nL6 (yx ((cs_qC p0 w_p0)) (S24.rf m2) z (yg 1 1 [1] z (yj (S24.rf m1) z (bsk D fun r52 Xr47 D => yai (r17_without_ok (h_p0.mono L23) S24 Xr47) ?_))))))
 rintro _ w48 ⟨I49, w_r52, rfl, L50, S51, h_r52⟩
 refine cv (yz S51 (cs_qC z_qC zw_qC) 33 z fun b53 w56 S55 => y7 S55 0 (cs_qC r52 w_r52) fun w58 S57 => y0 [0] (yz S57 (cs_qT z_qT zw_qT) 104 z fun b59 w62 S61 => y0 [0] (ya 0 1 z (yb (W.seq (yf nL2 (yg 0 1 [0] z (yj (S61.rf m3) z (yb (yl (yf nL2 (ya 0 2 z (yb (bsk D fun j63 R1 D => yav (J := (fun fr w => ∃ (s69 : Int) (s70 : qC) (s71 : Int) (s72 : List qT) (s73 : List qJ) (s74 : List qG) (s75 : qT), ∃ I65 w_s70 a_s72 c_s72 a_s73 c_s73 a_s74 c_s74 w_s75, (.inl (s69, s70, s71, s72, s73, s74, s75)) = j63 ∧ fr = [(3, Iv p3), (4, Pt b1 0), (5, Pt b5 0), (8, Pt b9 0), (11, Pt b53 0), (12, Pt b59 0), (13, Iv s69)] ∧ I49.Le I65 ∧ St E w I65 (bC b1 p0 w_p0 :: (bS b5 p1 w_p1) :: (bC b9 s70 w_s70) :: (Bx b53 (cs_qC (⟨s71, s72, s73, s74⟩ : qC) (⟨⟨a_s72, c_s72⟩, ⟨a_s73, c_s73⟩, ⟨a_s74, c_s74⟩⟩ : W_qC)) 33) :: (bT b59 s75 w_s75) :: Os) ∧ ok_qC I65 s70 w_s70 ∧ RSl 6 R_qT I65 a_s72 c_s72 s72 ∧ RSl 2 R_qJ I65 a_s73 c_s73 s73 ∧ RSl 5 R_qG I65 a_s74 c_s74 s74 ∧ ok_qT I65 s75 w_s75)) ?_ ?_))))))))))))))
 refine yy R1 (fun G R1 => ?_) (fun G R1 => ?_)
 refine yag nL9 (yg 0 1 [1] z (yj (S61.rf m3) z (yg 2 2 [4] z (yj (S61.rf m3) z (yg 5 1 [5] z (yj (S61.rf m3) z (y8 7 80 (.agg (cs_qT ({ z_qT with Name := p1.Table, Owner := p2, Cols := p1.Cols, Cons := p1.Cons }) ({ zw_qT with Cols := ⟨w_p1.Cols.a, w_p1.Cols.c⟩, Cons := ⟨w_p1.Cons.a, w_p1.Cons.c⟩ })).toArray) (y7 S61 0 (cs_qT ({ z_qT with Name := p1.Table, Owner := p2, Cols := p1.Cols, Cons := p1.Cons }) ({ zw_qT with Cols := ⟨w_p1.Cols.a, w_p1.Cols.c⟩, Cons := ⟨w_p1.Cons.a, w_p1.Cons.c⟩ })) fun w68 S67 => yp ?_))))))))
 have hk76 : ok_qT I49 ({ z_qT with Name := p1.Table, Owner := p2, Cols := p1.Cols, Cons := p1.Cons }) ({ zw_qT with Cols := ⟨w_p1.Cols.a, w_p1.Cols.c⟩, Cons := ⟨w_p1.Cons.a, w_p1.Cons.c⟩ }) := ⟨(RSl.mono h_p1.Cols (L23.trans L50)), (RSl.mono h_p1.Cons (L23.trans L50)), SlAt.nil⟩
 exact yt ⟨0, z_qC, r52.Version, r52.Tables, r52.Roles, r52.Grants, { z_qT with Name := p1.Table, Owner := p2, Cols := p1.Cols, Cons := p1.Cons }, I49, zw_qC, w_r52.Tables.a, w_r52.Tables.c, w_r52.Roles.a, w_r52.Roles.c, w_r52.Grants.a, w_r52.Grants.c, ({ zw_qT with Cols := ⟨w_p1.Cols.a, w_p1.Cols.c⟩, Cons := ⟨w_p1.Cons.a, w_p1.Cons.c⟩ }), sj R1, rfl, lr, S67.front1.front2.front3.front4, zok_qC, h_r52.Tables, h_r52.Roles, h_r52.Grants, hk76⟩
 refine yf nL2 (ya 0 2 z (yb (bsk R1 fun j81 R2 R1 => yav (J := (fun fr w => ∃ (s178 : Int) (s179 : qC) (s180 : Int) (s181 : List qT) (s182 : List qJ) (s183 : List qG) (s184 : qT), ∃ I83 w_s179 a_s181 c_s181 a_s182 c_s182 a_s183 c_s183 w_s184, (.inr (s178, s179, s180, s181, s182, s183, s184)) = j81 ∧ fr = [(3, Iv p3), (4, Pt b1 0), (5, Pt b5 0), (8, Pt b9 0), (11, Pt b53 0), (12, Pt b59 0), (13, Iv s178)] ∧ I49.Le I83 ∧ St E w I83 (bC b1 p0 w_p0 :: (bS b5 p1 w_p1) :: (bC b9 s179 w_s179) :: (Bx b53 (cs_qC (⟨s180, s181, s182, s183⟩ : qC) (⟨⟨a_s181, c_s181⟩, ⟨a_s182, c_s182⟩, ⟨a_s183, c_s183⟩⟩ : W_qC)) 33) :: (bT b59 s184 w_s184) :: Os) ∧ ok_qC I83 s179 w_s179 ∧ RSl 6 R_qT I83 a_s181 c_s181 s181 ∧ RSl 2 R_qJ I83 a_s182 c_s182 s182 ∧ RSl 5 R_qG I83 a_s183 c_s183 s183 ∧ ok_qT I83 s184 w_s184)) ?_ ?_)))
 refine yy R2 (fun G R2 => ?_) (fun G R2 => ?_)
 refine W.seq (yf nL6 (yx ((cs_qC p0 w_p0)) (S61.rf m4) z (yg 1 1 [1] z (yj (S61.rf m3) z (yg 3 1 [1] z (yj (S61.rf m3) z (bsk R2 fun r90 Xr85 R2 => WO.c1 (r17_refers_nilsl_ok (h_p0.mono le) S61 Xr85) z fun I87 w86 L88 S89 => yb (yy R2 (fun G R2 => ?_) (fun G R2 => ?_)))))))))
 refine yf nL3 (y8 0 89 (vC z_qC zw_qC) (y7 S89.front2 0 (cs_qC z_qC zw_qC) fun w93 S92 => ya 2 1 z (yb (yq (yh (yu ?_))))))
 obtain rfl := sj R2
 refine yu ?_
 obtain rfl := sj R1
 exact ym (yh (sj D ▸ ya1 _ (S92.rd m0) ⟨I87, zw_qC, rfl, le, S92.d5, zok_qC⟩))
 refine W.skip (ye (yf nL2 (yg 0 1 [3] z (y7 S89.front1 3 (cs_qC ({ r52 with Grants := ([] : List qG) }) ({ w_r52 with Grants := ⟨none, 0⟩ })) fun w119 S118 => y0 [0] (ya 0 1 z (yb (yl (bsk R2 fun s123 hloop125 R2 => have hlt136 := ((RSl.mono h_p0.Grants ((L23.trans L50).trans L88))).len_lt; W.wk (yat (m := p0.Grants.length) hloop125 (fun (i124 : Nat) (s123 : List qG) fr w => ∃ I121 a_s123 c_s123 C_s123, fr = [(3, Iv p3), (4, Pt b1 0), (5, Pt b5 0), (8, Pt b9 0), (11, Pt b53 0), (12, Pt b59 0), (13, Iv 0), (14, Nv i124)] ∧ I87.Le I121 ∧ St E w I121 (bC b1 p0 w_p0 :: (bS b5 p1 w_p1) :: (bC b9 z_qC zw_qC) :: (Bx b53 (cs_qC ({ r52 with Grants := s123 }) ({ w_r52 with Grants := ⟨a_s123, c_s123⟩ })) 33) :: (bT b59 z_qT zw_qT) :: (C_s123) :: Os) ∧ OwnSl 50 5 R_qG I121 C_s123 a_s123 c_s123 s123) ⟨I87, none, 0, Mem.no, rfl, lr, S118.no.front2.front2.front3.front4.front5, OwnSl.nil⟩ ?_ ?_)))))))))
 rintro i124 s123 _ w133 hi137 ⟨I121, a_s123, c_s123, C_s123, rfl, L122, S134, h_s123⟩ x135 R3
 refine W.seq (yf nL5 (yg 0 2 [3] z (yj (S134.rf m0) z (ya 3 2 z (yb (yar fun _ => W.skip (ye (W.seq (yl (W.seq (have S138 := S134.drew; yba nL9 8 (yv (S138.rd m0) (yv (S138.rd m1) (yad S138.im))) ?_)))))))))))
 generalize World.drew _ = w139 at *
 refine yg 0 1 [3] z (yj (rd_c m0 (S138.rd m0)) z (ya 2 1 z ?_))
 obtain ⟨x140, R3, Hx140, _, rfl, Zx140⟩ := sx I121 h_p0.Grants R3
 refine yaa 50 5 Hx140 z (yg 4 1 [2] z (yaz Zx140 2 (rd_i S138.im) z (yg 6 1 [1] z (yj (rd_c m1 (S138.rd m1)) z (WO.tail z (ya 8 1 z (yb (bsk R3 fun j141 R4 R3 => yav (J := (fun fr w => ∃ I143 a_j141 c_j141 C_j141, fr = [(3, Iv p3), (4, Pt b1 0), (5, Pt b5 0), (8, Pt b9 0), (11, Pt b53 0), (12, Pt b59 0), (13, Iv 0), (14, Nv i124)] ∧ I121.Le I143 ∧ St E w I143 (bC b1 p0 w_p0 :: (bS b5 p1 w_p1) :: (bC b9 z_qC zw_qC) :: (Bx b53 (cs_qC ({ r52 with Grants := j141 }) ({ w_r52 with Grants := ⟨a_j141, c_j141⟩ })) 33) :: (bT b59 z_qT zw_qT) :: (C_j141) :: Os) ∧ OwnSl 50 5 R_qG I143 C_j141 a_j141 c_j141 j141)) ?_ ?_))))))))
 refine yy R4 (fun G R4 => ?_) (fun G R4 => ?_)
 have S145 := S138.drew
 refine yba nL11 8 (yv (S145.rd m0) (yv (S145.rd m3) (yad S145.im))) ?_
 generalize World.drew _ = w146 at *
 refine yg 0 1 [3] z (yj (rd_c m1 (S145.rd m3)) z (yg 2 1 [3] z (yj (rd_c m0 (S145.rd m0)) z (ya 4 1 z ?_))))
 obtain ⟨x147, R4, Hx147, _, rfl, Zx147⟩ := sx I121 h_p0.Grants R4
 refine yaa 50 5 Hx147 z (yau ((cs_qG x147)) Zx147 0 (rd_i S145.im) z (yab (rel := R_qG) (xs := ([x147] : List qG)) S145 z kr z 50 5 [(cs_qG x147)] kr z ((Elr.cons z Elr.nil)) (fun C149 w153 S152 => (yv (S152.rd m1) (yv (S152.rd m4) (yad S152.im)))) ?_))
 intro a151 C149 w153 S152 ho150
 exact WO.tail z (have S155 := S152.front6; apk R4 fun x156 h0_x156 he_x156 R4 => yax 50 64 (cs_qG z_qG) S155 h_s123 ho150.sl (S155.rd m1) h0_x156 he_x156 z fun a157 c158 w159 C160 S161 ho162 => yg 9 1 [3] z (y7 S161.front1.drop.front4 3 (cs_qC ({ r52 with Grants := x156 }) ({ w_r52 with Grants := ⟨a157, c158⟩ })) fun w167 S166 => yp (sj R4 ▸ yt ⟨I121, a157, c158, C160, rfl, lr, S166.front1.front5.front2.front5.front5.front5, ho162⟩)))
 exact W.skip (sj R4 ▸ yt ⟨I121, a_s123, c_s123, C_s123, rfl, lr, S138, h_s123⟩)
 rintro _ w174 ⟨I143, a_j141, c_j141, C_j141, rfl, L144, S175, h_j141⟩
 exact yk (ye (yag nL3 (ya 0 1 z (yam i124 z (ya 2 1 z (yp (sj R3 ▸ yt ⟨I143, a_j141, c_j141, C_j141, rfl, le, S175, h_j141⟩)))))))
 rintro _ w176 ⟨I121, a_s123, c_s123, C_s123, rfl, L122, S177, h_s123⟩
 refine W.seq (yf nL5 (yg 0 2 [3] z (yj (S177.rf m0) z (ya 3 2 z (yb (yas fun _ => W.exit (yn (yo (yr ?_)))))))))
 obtain ⟨I186, L187, S189, hp188⟩ := yac h_s123 S177.front5
 exact yt ⟨0, z_qC, r52.Version, r52.Tables, r52.Roles, s123, z_qT, I186, zw_qC, w_r52.Tables.a, w_r52.Tables.c, w_r52.Roles.a, w_r52.Roles.c, a_s123, c_s123, zw_qT, sj R2, rfl, le, S189, zok_qC, (up h_r52.Tables), (up h_r52.Roles), hp188, zok_qT⟩
 refine yf nL2 (ya 0 2 z (yb (bsk R2 fun j190 R3 R2 => yav (J := (fun fr w => ∃ (s233 : Int) (s234 : qC) (s235 : Int) (s236 : List qT) (s237 : List qJ) (s238 : List qG) (s239 : qT), ∃ I192 w_s234 a_s236 c_s236 a_s237 c_s237 a_s238 c_s238 w_s239, (.inr (s233, s234, s235, s236, s237, s238, s239)) = j190 ∧ fr = [(3, Iv p3), (4, Pt b1 0), (5, Pt b5 0), (8, Pt b9 0), (11, Pt b53 0), (12, Pt b59 0), (13, Iv s233)] ∧ I49.Le I192 ∧ St E w I192 (bC b1 p0 w_p0 :: (bS b5 p1 w_p1) :: (bC b9 s234 w_s234) :: (Bx b53 (cs_qC (⟨s235, s236, s237, s238⟩ : qC) (⟨⟨a_s236, c_s236⟩, ⟨a_s237, c_s237⟩, ⟨a_s238, c_s238⟩⟩ : W_qC)) 33) :: (bT b59 s239 w_s239) :: Os) ∧ ok_qC I192 s234 w_s234 ∧ RSl 6 R_qT I192 a_s236 c_s236 s236 ∧ RSl 2 R_qJ I192 a_s237 c_s237 s237 ∧ RSl 5 R_qG I192 a_s238 c_s238 s238 ∧ ok_qT I192 s239 w_s239)) ?_ ?_)))
 refine yy R3 (fun G R3 => ?_) (fun G R3 => ?_)
 refine W.seq (yf nL5 (yx ((cs_qC p0 w_p0)) (S61.rf m4) z (yg 1 1 [2] z (yj (S61.rf m3) z (bsk R3 fun r199 Xr194 R3 => WO.c1 (r17_At_ok (h_p0.mono le) S61 Xr194) z fun I196 w195 L197 S198 => ya 4 1 z (yb (yy R3 (fun G R3 => ?_) (fun G R3 => ?_))))))))
 refine yf nL3 (y8 0 124 (vC z_qC zw_qC) (y7 S198.front2 0 (cs_qC z_qC zw_qC) fun w202 S201 => ya 2 1 z (yb (yq (yh (yu ?_))))))
 obtain rfl := sj R3
 refine yu ?_
 obtain rfl := sj R2
 refine yu ?_
 obtain rfl := sj R1
 exact ym (yh (sj D ▸ ya1 _ (S201.rd m0) ⟨I196, zw_qC, rfl, le, S201.d5, zok_qC⟩))
 refine W.skip (ye (have S217 := S198.drew; ybr (l := nL14) kr 12 (KR I196 [bS b5 p1 w_p1, bC b1 p0 w_p0]) qR (.ords nL14 [0, 1, 2, 3, 4, 5, 6, 7, 8, 9, 10, 12, 11, 13] kr kr kr kr kr) kr (yv (S217.rd m3) (yv (S217.rd m4) (yad S217.im))) ?_))
 generalize World.drew _ = w218 at *
 refine yx ((cs_qC p0 w_p0)) (rd_c m1 (S217.rd m4)) z (yg 1 1 [1] z (yj (rd_c m1 (S217.rd m4)) z (ya 3 1 z ?_)))
 obtain ⟨x219, R3, Hx219, _, ⟨w_x219, rfl, h_x219⟩, Zx219⟩ := sx I196 h_p0.Tables R3
 refine yaa 104 6 Hx219 z (yau ((cs_qT x219 w_x219)) Zx219 0 (rd_i S217.im) z (yg 6 1 [2] z (yj (rd_c m0 (S217.rd m3)) z ?_)))
 obtain ⟨⟨r225, r226⟩, Xr220, R3⟩ := bsm R3
 refine yai (r17_renamed_ok (h_p0.mono le) h_x219 S217 Xr220) ?_
 rintro _ w221 ⟨I222, w_r225, w_r226, rfl, L223, S224, h_r225, h_r226⟩
 refine ⟨_, rfl, (yv (S224.rd m3) (yv (S224.rd m4) (yad (S224.im.of_le L223)))), ?_⟩
 exact ya 9 3 z (WO.tail z (y7 S224.front1 0 (cs_qC r225 w_r225) fun w229 S228 => y7 S228.front1 0 (cs_qT r226 w_r226) fun w232 S231 => yp (yt ⟨0, z_qC, r225.Version, r225.Tables, r225.Roles, r225.Grants, r226, I222, zw_qC, w_r225.Tables.a, w_r225.Tables.c, w_r225.Roles.a, w_r225.Roles.c, w_r225.Grants.a, w_r225.Grants.c, w_r226, sj R3, rfl, le, S231.front1.front2.front3.front4, zok_qC, h_r225.Tables, h_r225.Roles, h_r225.Grants, h_r226⟩)))
 have S244 := S61.drew
 refine ybr (l := nL13) kr 11 (KR I49 [bS b5 p1 w_p1, bC b1 p0 w_p0]) qR (.ords nL13 [0, 1, 2, 3, 4, 5, 6, 7, 8, 9, 11, 10, 12] kr kr kr kr kr) kr (yv (S244.rd m3) (yv (S244.rd m4) (yad S244.im))) ?_
 generalize World.drew _ = w245 at *
 refine yx ((cs_qC p0 w_p0)) (rd_c m1 (S244.rd m4)) z (yg 1 1 [1] z (yj (rd_c m1 (S244.rd m4)) z (ya 3 1 z ?_)))
 obtain ⟨x246, R3, Hx246, _, ⟨w_x246, rfl, h_x246⟩, Zx246⟩ := sx I49 h_p0.Tables R3
 refine yaa 104 6 Hx246 z (yau ((cs_qT x246 w_x246)) Zx246 0 (rd_i S244.im) z (yx ((cs_qS p1 w_p1)) (rd_c m0 (S244.rd m3)) z ?_))
 obtain ⟨⟨r252, r253⟩, Xr247, R3⟩ := bsm R3
 refine yai (r17_turned_ok (h_p0.mono le) h_x246 (h_p1.mono le) S244 Xr247) ?_
 rintro _ w248 ⟨I249, w_r252, rfl, L250, S251, h_r252⟩
 refine ⟨_, rfl, (yv (S251.rd m3) (yv (S251.rd m4) (yad (S251.im.of_le L250)))), ?_⟩
 exact ya 8 3 z (WO.tail z (y7 S251 0 (cs_qT r252 w_r252) fun w255 S254 => ya 12 1 z (yp (yt ⟨r253, z_qC, r52.Version, r52.Tables, r52.Roles, r52.Grants, r252, I249, zw_qC, w_r52.Tables.a, w_r52.Tables.c, w_r52.Roles.a, w_r52.Roles.c, w_r52.Grants.a, w_r52.Grants.c, w_r252, sj R3, rfl, L250, S254.front1.front2.front3.front4, zok_qC, (RSl.mono h_r52.Tables L250), (RSl.mono h_r52.Roles L250), (RSl.mono h_r52.Grants L250), h_r252⟩))))
 rintro _ w260 ⟨s233, s234, s235, s236, s237, s238, s239, I192, w_s234, a_s236, c_s236, a_s237, c_s237, a_s238, c_s238, w_s239, rfl, rfl, L193, S261, h_s234, h_s236, h_s237, h_s238, h_s239⟩
 exact yt ⟨s233, s234, s235, s236, s237, s238, s239, I192, w_s234, a_s236, c_s236, a_s237, c_s237, a_s238, c_s238, w_s239, sj R2, rfl, L193, S261, h_s234, h_s236, h_s237, h_s238, h_s239⟩
 rintro _ w262 ⟨s178, s179, s180, s181, s182, s183, s184, I83, w_s179, a_s181, c_s181, a_s182, c_s182, a_s183, c_s183, w_s184, rfl, rfl, L84, S263, h_s179, h_s181, h_s182, h_s183, h_s184⟩
 exact yt ⟨s178, s179, s180, s181, s182, s183, s184, I83, w_s179, a_s181, c_s181, a_s182, c_s182, a_s183, c_s183, w_s184, sj R1, rfl, L84, S263, h_s179, h_s181, h_s182, h_s183, h_s184⟩
 rintro _ w264 ⟨s69, s70, s71, s72, s73, s74, s75, I65, w_s70, a_s72, c_s72, a_s73, c_s73, a_s74, c_s74, w_s75, rfl, rfl, L66, S265, h_s70, h_s72, h_s73, h_s74, h_s75⟩
 refine yk (ye (W.seq (yf nL7 (ya 0 3 z (yaq [3, 4, 5] 6 139 143 (.refl ((s69 == 0) && (p1.Kind != 2))) (fun _ => yg 3 1 [0] z (yj (S265.rf m1) z (ya 5 2 z yah))) (yb (bsk D fun j268 R1 D => yav (J := JI E I65 [(3, Iv p3), (4, Pt b1 0), (5, Pt b5 0), (8, Pt b9 0), (11, Pt b53 0), (12, Pt b59 0), (13, Iv j268)] (bC b1 p0 w_p0 :: (bS b5 p1 w_p1) :: (bC b9 s70 w_s70) :: (Bx b53 (cs_qC (⟨s71, s72, s73, s74⟩ : qC) (⟨⟨a_s72, c_s72⟩, ⟨a_s73, c_s73⟩, ⟨a_s74, c_s74⟩⟩ : W_qC)) 33) :: (bT b59 s75 w_s75) :: Os)) ?_ ?_)))))))
 refine yy R1 (fun G R1 => ?_) (fun G R1 => ?_)
 refine yag nL4 (yx ((cs_qC (⟨s71, s72, s73, s74⟩ : qC) (⟨⟨a_s72, c_s72⟩, ⟨a_s73, c_s73⟩, ⟨a_s74, c_s74⟩⟩ : W_qC))) (S265.rf m3) z (yx ((cs_qT s75 w_s75)) (S265.rf m4) z ?_))
 have hk272 : ok_qC I65 (⟨s71, s72, s73, s74⟩ : qC) (⟨⟨a_s72, c_s72⟩, ⟨a_s73, c_s73⟩, ⟨a_s74, c_s74⟩⟩ : W_qC) := ⟨h_s72, h_s73, h_s74⟩
 exact bsk R1 fun r278 Xr273 R1 => WO.c1 (r17_Sound_ok hk272 h_s75 S265 Xr273) z fun I275 w274 L276 S277 => ya 3 1 z (yp (sj R1 ▸ yt ⟨I275, rfl, L276, S277⟩))
 exact W.skip (sj R1 ▸ yt ⟨I65, rfl, lr, S265⟩)
 rintro _ w279 ⟨I270, rfl, L271, S280⟩
 refine ye (W.seq (yf nL8 (ya 0 3 z (yaq [3, 4, 5, 6] 7 149 154 (.refl ((j268 == 0) && (decide (p0.Version ≥ p3)))) (fun _ => yg 3 1 [0] z (yj (S280.rf m0) z (ya 5 3 z yah))) (yb (bsk D fun j283 R1 D => yav (J := JI E I270 [(4, Pt b1 0), (5, Pt b5 0), (8, Pt b9 0), (11, Pt b53 0), (12, Pt b59 0), (13, Iv j283)] (bC b1 p0 w_p0 :: (bS b5 p1 w_p1) :: (bC b9 s70 w_s70) :: (Bx b53 (cs_qC (⟨s71, s72, s73, s74⟩ : qC) (⟨⟨a_s72, c_s72⟩, ⟨a_s73, c_s73⟩, ⟨a_s74, c_s74⟩⟩ : W_qC)) 33) :: (bT b59 s75 w_s75) :: Os)) ?_ ?_))))))
 refine yy R1 (fun G R1 => ?_) (fun G R1 => ?_)
 exact yag [0] (ya 0 1 z (yp (sj R1 ▸ yt ⟨I270, rfl, lr, S280⟩)))
 exact W.skip (sj R1 ▸ yt ⟨I270, rfl, lr, S280⟩)
 rintro _ w287 ⟨I285, rfl, L286, S288⟩
 refine ye (W.seq (yf nL2 (ya 0 2 z (yb (yy D (fun G D => ?_) (fun G D => ?_))))))
 exact yf nL4 (y8 0 157 (vC z_qC zw_qC) (ya 1 1 z (y7 S288.front2 0 (cs_qC z_qC zw_qC) fun w291 S290 => ya 3 1 z (yb (yq (yh (sj D ▸ ya1 _ (S290.rd m0) ⟨I285, zw_qC, rfl, le, S290.d5, zok_qC⟩)))))))
 refine W.skip (ye (W.seq (yf nL3 (yg 0 1 [0] z (yj (S288.rf m1) z (ya 2 1 z (yb (bsk D fun j297 R1 D => yav (J := (fun fr w => ∃ (s315 : Int) (s316 : List qT) (s317 : List qJ) (s318 : List qG) (s319 : qT), ∃ I299 a_s316 c_s316 a_s317 c_s317 a_s318 c_s318 w_s319, (s315, s316, s317, s318, s319) = j297 ∧ fr = [(4, Pt b1 0), (8, Pt b9 0), (11, Pt b53 0)] ∧ I285.Le I299 ∧ St E w I299 (bC b1 p0 w_p0 :: (bC b9 s70 w_s70) :: (Bx b53 (cs_qC (⟨s315, s316, s317, s318⟩ : qC) (⟨⟨a_s316, c_s316⟩, ⟨a_s317, c_s317⟩, ⟨a_s318, c_s318⟩⟩ : W_qC)) 33) :: Os) ∧ RSl 6 R_qT I299 a_s316 c_s316 s316 ∧ RSl 2 R_qJ I299 a_s317 c_s317 s317 ∧ RSl 5 R_qG I299 a_s318 c_s318 s318 ∧ ok_qT I299 s319 w_s319)) ?_ ?_))))))))
 refine yy R1 (fun G R1 => ?_) (fun G R1 => ?_)
 refine yf nL5 (yg 0 1 [0] z (yj (S288.rf m0) z (yg 2 2 [2] z (y7 S288.front4 2 (cs_qT ({ s75 with Version := (w64 (p0.Version + 1)) }) w_s75) fun w303 S302 => yb (yag nL4 (yx ((cs_qC (⟨s71, s72, s73, s74⟩ : qC) (⟨⟨a_s72, c_s72⟩, ⟨a_s73, c_s73⟩, ⟨a_s74, c_s74⟩⟩ : W_qC))) (S302.rf m4) z (yx ((cs_qT ({ s75 with Version := (w64 (p0.Version + 1)) }) w_s75)) (S302.rf m0) z ?_)))))))
 have hk304 : ok_qC I285 (⟨s71, s72, s73, s74⟩ : qC) (⟨⟨a_s72, c_s72⟩, ⟨a_s73, c_s73⟩, ⟨a_s74, c_s74⟩⟩ : W_qC) := ⟨(RSl.mono h_s72 (L271.trans L286)), (RSl.mono h_s73 (L271.trans L286)), (RSl.mono h_s74 (L271.trans L286))⟩
 have hk305 : ok_qT I285 ({ s75 with Version := (w64 (p0.Version + 1)) }) w_s75 := ⟨(RSl.mono h_s75.Cols (L271.trans L286)), (RSl.mono h_s75.Cons (L271.trans L286)), (RSl.mono h_s75.Idx (L271.trans L286))⟩
 refine bsk R1 fun r311 Xr306 R1 => yai (r17_with_ok hk304 hk305 S302 Xr306) ?_
 rintro _ w307 ⟨I308, w_r311, rfl, L309, S310, h_r311⟩
 refine cv (y7 S310.front4 0 (cs_qC r311 w_r311) fun w314 S313 => yp ?_)
 have hk320 : ok_qT I308 ({ s75 with Version := (w64 (p0.Version + 1)) }) w_s75 := ⟨(RSl.mono h_s75.Cols ((L271.trans L286).trans L309)), (RSl.mono h_s75.Cons ((L271.trans L286).trans L309)), (RSl.mono h_s75.Idx ((L271.trans L286).trans L309))⟩
 exact yt ⟨r311.Version, r311.Tables, r311.Roles, r311.Grants, { s75 with Version := (w64 (p0.Version + 1)) }, I308, w_r311.Tables.a, w_r311.Tables.c, w_r311.Roles.a, w_r311.Roles.c, w_r311.Grants.a, w_r311.Grants.c, w_s75, sj R1, rfl, L309, S313.front1.drop.front2.drop.front2.front2, h_r311.Tables, h_r311.Roles, h_r311.Grants, hk320⟩
 exact W.skip (yt ⟨s71, s72, s73, s74, s75, I285, a_s72, c_s72, a_s73, c_s73, a_s74, c_s74, w_s75, sj R1, rfl, lr, S288.front1.drop.front3.drop, (up h_s72), (up h_s73), (up h_s74), (h_s75.mono le)⟩)
 rintro _ w331 ⟨s315, s316, s317, s318, s319, I299, a_s316, c_s316, a_s317, c_s317, a_s318, c_s318, w_s319, rfl, rfl, L300, S332, h_s316, h_s317, h_s318, h_s319⟩
 refine ye (yf nL5 (yg 0 1 [0] z (yj (S332.rf m0) z (yg 2 2 [0] z (y7 S332.front2 0 (cs_qC (⟨(w64 (p0.Version + 1)), s316, s317, s318⟩ : qC) (⟨⟨a_s316, c_s316⟩, ⟨a_s317, c_s317⟩, ⟨a_s318, c_s318⟩⟩ : W_qC)) fun w335 S334 => y0 nL3 (yx ((cs_qC (⟨(w64 (p0.Version + 1)), s316, s317, s318⟩ : qC) (⟨⟨a_s316, c_s316⟩, ⟨a_s317, c_s317⟩, ⟨a_s318, c_s318⟩⟩ : W_qC))) (S334.rf m0) z (y7 S334.front2 0 (cs_qC (⟨(w64 (p0.Version + 1)), s316, s317, s318⟩ : qC) (⟨⟨a_s316, c_s316⟩, ⟨a_s317, c_s317⟩, ⟨a_s318, c_s318⟩⟩ : W_qC)) fun w338 S337 => ya 2 1 z (yb (yq ?_)))))))))
 have hk342 : ok_qC I299 (⟨(w64 (p0.Version + 1)), s316, s317, s318⟩ : qC) (⟨⟨a_s316, c_s316⟩, ⟨a_s317, c_s317⟩, ⟨a_s318, c_s318⟩⟩ : W_qC) := ⟨h_s316, h_s317, h_s318⟩
 exact sj D ▸ ya1 _ (S337.rd m0) ⟨I299, (⟨⟨a_s316, c_s316⟩, ⟨a_s317, c_s317⟩, ⟨a_s318, c_s318⟩⟩ : W_qC), rfl, le, S337.d3, hk342⟩
noncomputable def law19_first  : Option qC := (r17_New).bind (fun r10 => (forE (fun (i32 : Nat) (s31 : qC) => ((idx ([(⟨#[97, 110, 110]⟩ : By8), (⟨#[98, 111, 98]⟩ : By8), (⟨#[99, 121]⟩ : By8)] : List By8) (i32 : Int)).bind (fun x46 => (r19_Make s31 ({ z_qS with Kind := 10, Name := x46 }) (⟨#[114, 111, 111, 116]⟩ : By8) 1000).bind (fun (r57, r58) => some (r57, r58)))).bind (fun ((s61, s62) : qC × Int) => ((bif (s62 == 0) then some s61 else some s31)).bind (fun (j101 : qC) => some j101))) 3 0 r10).bind (fun s31 => (r17_Make s31 ({ z_qS with Kind := 1, Table := (⟨#[116]⟩ : By8), Cols := ([{ z_qL with Name := (⟨#[97]⟩ : By8), Type_ := 1 }] : List qL) }) (⟨#[97, 110, 110]⟩ : By8) 1000).bind (fun (r134, r135) => ((bif (r135 == 0) then some r134 else some s31)).bind (fun (j142 : qC) => some j142))))
theorem law19_first_ok (hS : St E w I Os) {r : qC} (D : law19_first = some r) :
    Calls P 32 #[] w (fun e w' => ∃ I' w_rw0, e = .returned (vC r w_rw0) ∧ I.Le I' ∧ St E w' I' Os ∧ ok_qC I' r w_rw0) := by
 refine calls_W (fn := Tryz.f32) rfl rfl rfl ?_
 unfold law19_first at D
 refine yf [0] (yz hS (cs_qC z_qC zw_qC) 33 z fun b1 w4 S3 => y0 nL3 (bsk D fun r10 Xr5 D => yai (r17_New_ok  S3 Xr5) ?_))
 rintro _ w6 ⟨I7, w_r10, rfl, L8, S9, h_r10⟩
 refine cv (yz S9 (cs_qC z_qC zw_qC) 33 z fun b11 w14 S13 => y7 S13 0 (cs_qC r10 w_r10) fun w16 S15 => y0 nL2 (yab (rel := RStr) (xs := ([(⟨#[97, 110, 110]⟩ : By8), (⟨#[98, 111, 98]⟩ : By8), (⟨#[99, 121]⟩ : By8)] : List By8)) S15 z kr z 9 1 [[(.string (⟨#[97, 110, 110]⟩ : By8))], [(.string (⟨#[98, 111, 98]⟩ : By8))], [(.string (⟨#[99, 121]⟩ : By8))]] kr z ((Elr.cons z (Elr.cons z (Elr.cons z Elr.nil)))) tv ?_))
 intro a20 C18 w22 S21 ho19
 obtain ⟨I24, L25, S27, hp26⟩ := yac ho19 S21
 refine ya 1 1 z (yb (W.seq (yf [0] (ya 0 1 z (yb (yl (bsk D fun s31 hloop33 D => have hlt38 := (hp26).len_lt; W.wk (yat (m := 3) hloop33 (fun (i32 : Nat) (s31 : qC) fr w => ∃ I29 w_s31, fr = [(0, Pt b1 0), (1, Pt b11 0), (2, .slice a20 3 3), (3, Nv i32)] ∧ I24.Le I29 ∧ St E w I29 (bC b1 z_qC zw_qC :: (bC b11 s31 w_s31) :: Os) ∧ ok_qC I29 s31 w_s31) ⟨I24, w_r10, rfl, lr, S27.front1, (h_r10.mono L25)⟩ ?_ ?_))))))))
 rintro i32 s31 _ w35 hi39 ⟨I29, w_s31, rfl, L30, S36, h_s31⟩ x37 R1
 refine W.seq (yf nL4 (ya 0 4 z (yb (yar fun _ => W.skip (ye (W.seq (yl (W.seq (bsk R1 fun j40 R2 R1 => yav (J := (fun fr w => ∃ (s61 : qC) (s62 : Int), ∃ I42 w_s61 b_s61, (s61, s62) = j40 ∧ fr = [(0, Pt b1 0), (1, Pt b11 0), (2, .slice a20 3 3), (3, Nv i32), (4, Pt b_s61 0), (5, Iv s62)] ∧ I29.Le I42 ∧ St E w I42 (bC b1 z_qC zw_qC :: (bC b11 s31 w_s31) :: (bC b_s61 s61 w_s61) :: Os) ∧ ok_qC I42 s61 w_s61)) ?_ ?_)))))))))
 have S44 := S36.drew
 refine W.draws (.split 10 5 (.leaf [0, 1, 2, 3, 4, 10, 5, 6, 7, 8, 9, 11, 12]) (.split 10 6 (.leaf [0, 1, 2, 3, 4, 5, 10, 6, 7, 8, 9, 11, 12]) (.leaf nL13))) 11 (KR I29 [bC b11 s31 w_s31]) qR (.ords nL13 [0, 1, 2, 3, 4, 5, 6, 7, 8, 10, 11, 9, 12] kr kr kr kr kr) kr (yv (S44.rd m1) (yad S44.im)) ?_
 generalize World.drew _ = w45 at *
 refine ⟨?_, ?_⟩
 show WO _ _ _ _ _ _ _ [0, 1, 2, 3, 4, 10, 5, 6, 7, 8, 9, 11, 12] _ _
 refine yx ((cs_qC s31 w_s31)) (rd_c m0 (S44.rd m1)) z (ya 1 2 z (yae 18 z (show Value.slice a20 3 3 = Value.slice a20 ([(⟨#[97, 110, 110]⟩ : By8), (⟨#[98, 111, 98]⟩ : By8), (⟨#[99, 121]⟩ : By8)] : List By8).length 3 from z) ?_))
 obtain ⟨x46, R2, Hx46, _, rfl, Zx46⟩ := sx I29 hp26 R2
 refine yaa 9 1 Hx46 z (yao Zx46 (rd_i S44.im) z (ybj S44 z kr z (.cells (cs_qC z_qC zw_qC).toArray 33 (0, 0)) (fun b => .pointer (some ⟨b, 0, none⟩)) kr (fun b47 w50 S49 => (yv (S49.rd m2) (yad S49.im))) ?_))
 intro b47 w50 S49
 refine y8 5 22 (.agg (cs_qS ({ z_qS with Kind := 10, Name := x46 }) zw_qS).toArray) ?_
 have hk51 : ok_qS I29 ({ z_qS with Kind := 10, Name := x46 }) zw_qS := ⟨SlAt.nil, SlAt.nil, SlAt.nil, SlAt.nil, zok_qS.Where, SlAt.nil, SlAt.nil, SlAt.nil⟩
 obtain ⟨⟨r57, r58⟩, Xr52, R2⟩ := bsm R2
 refine yai (r19_Make_ok h_s31 hk51 S49 Xr52) ?_
 rintro _ w53 ⟨I54, w_r57, rfl, L55, S56, h_r57⟩
 refine ⟨_, rfl, (yv (S56.rd m2) (yad (S56.im.of_le L55))), ?_⟩
 exact ya 7 3 z (WO.tail z (y7 S56 0 (cs_qC r57 w_r57) fun w60 S59 => ya 12 1 z (yp (yt ⟨r57, r58, I54, w_r57, b47, sj R2, rfl, L55, S59.front2.front2, h_r57⟩))))
 refine ⟨?_, ?_⟩
 show WO _ _ _ _ _ _ _ [0, 1, 2, 3, 4, 5, 10, 6, 7, 8, 9, 11, 12] _ _
 refine yx ((cs_qC s31 w_s31)) (rd_c m0 (S44.rd m1)) z (ya 1 2 z (yae 18 z (show Value.slice a20 3 3 = Value.slice a20 ([(⟨#[97, 110, 110]⟩ : By8), (⟨#[98, 111, 98]⟩ : By8), (⟨#[99, 121]⟩ : By8)] : List By8).length 3 from z) ?_))
 obtain ⟨x65, R2, Hx65, _, rfl, Zx65⟩ := sx I29 hp26 R2
 refine yaa 9 1 Hx65 z (yao Zx65 (rd_i S44.im) z (y8 5 22 (.agg (cs_qS ({ z_qS with Kind := 10, Name := x65 }) zw_qS).toArray) (ybj S44 z kr z (.cells (cs_qC z_qC zw_qC).toArray 33 (0, 0)) (fun b => .pointer (some ⟨b, 0, none⟩)) kr (fun b66 w69 S68 => (yv (S68.rd m2) (yad S68.im))) ?_)))
 intro b66 w69 S68
 have hk70 : ok_qS I29 ({ z_qS with Kind := 10, Name := x65 }) zw_qS := ⟨SlAt.nil, SlAt.nil, SlAt.nil, SlAt.nil, zok_qS.Where, SlAt.nil, SlAt.nil, SlAt.nil⟩
 obtain ⟨⟨r76, r77⟩, Xr71, R2⟩ := bsm R2
 refine yai (r19_Make_ok h_s31 hk70 S68 Xr71) ?_
 rintro _ w72 ⟨I73, w_r76, rfl, L74, S75, h_r76⟩
 refine ⟨_, rfl, (yv (S75.rd m2) (yad (S75.im.of_le L74))), ?_⟩
 exact ya 7 3 z (WO.tail z (y7 S75 0 (cs_qC r76 w_r76) fun w79 S78 => ya 12 1 z (yp (yt ⟨r76, r77, I73, w_r76, b66, sj R2, rfl, L74, S78.front2.front2, h_r76⟩))))
 show WO _ _ _ _ _ _ _ nL13 _ _
 refine yx ((cs_qC s31 w_s31)) (rd_c m0 (S44.rd m1)) z (ya 1 2 z (yae 18 z (show Value.slice a20 3 3 = Value.slice a20 ([(⟨#[97, 110, 110]⟩ : By8), (⟨#[98, 111, 98]⟩ : By8), (⟨#[99, 121]⟩ : By8)] : List By8).length 3 from z) ?_))
 obtain ⟨x82, R2, Hx82, _, rfl, Zx82⟩ := sx I29 hp26 R2
 refine yaa 9 1 Hx82 z (yao Zx82 (rd_i S44.im) z (y8 5 22 (.agg (cs_qS ({ z_qS with Kind := 10, Name := x82 }) zw_qS).toArray) ?_))
 have hk83 : ok_qS I29 ({ z_qS with Kind := 10, Name := x82 }) zw_qS := ⟨SlAt.nil, SlAt.nil, SlAt.nil, SlAt.nil, zok_qS.Where, SlAt.nil, SlAt.nil, SlAt.nil⟩
 obtain ⟨⟨r89, r90⟩, Xr84, R2⟩ := bsm R2
 refine yai (r19_Make_ok h_s31 hk83 S44 Xr84) ?_
 rintro _ w85 ⟨I86, w_r89, rfl, L87, S88, h_r89⟩
 refine ⟨_, rfl, (yv (S88.rd m1) (yad (S88.im.of_le L87))), ?_⟩
 refine ya 7 3 z (ybj S88 z kr z (.cells (cs_qC z_qC zw_qC).toArray 33 (0, 0)) (fun b => .pointer (some ⟨b, 0, none⟩)) kr (fun b91 w94 S93 => (yv (S93.rd m2) (yad (S93.im.of_le L87)))) ?_)
 intro b91 w94 S93
 exact WO.tail z (y7 S93 0 (cs_qC r89 w_r89) fun w96 S95 => ya 12 1 z (yp (yt ⟨r89, r90, I86, w_r89, b91, sj R2, rfl, L87, S95.front2.front2, h_r89⟩)))
 rintro _ w99 ⟨s61, s62, I42, w_s61, b_s61, rfl, rfl, L43, S100, h_s61⟩
 refine ye (yf nL2 (ya 0 2 z (yb (bsk R1 fun j101 R2 R1 => yav (J := (fun fr w => ∃ I103 w_j101, fr = [(0, Pt b1 0), (1, Pt b11 0), (2, .slice a20 3 3), (3, Nv i32)] ∧ I42.Le I103 ∧ St E w I103 (bC b1 z_qC zw_qC :: (bC b11 j101 w_j101) :: Os) ∧ ok_qC I103 j101 w_j101)) ?_ ?_))))
 refine yy R2 (fun G R2 => ?_) (fun G R2 => ?_)
 exact yag nL2 (yx ((cs_qC s61 w_s61)) (S100.rf m2) z (y7 S100.front1 0 (cs_qC s61 w_s61) fun w107 S106 => yp (sj R2 ▸ yt ⟨I42, w_s61, rfl, lr, S106.front2.drop.front1, h_s61⟩)))
 exact W.skip (sj R2 ▸ yt ⟨I42, w_s31, rfl, lr, S100.front2.drop, (h_s31.mono L43)⟩)
 rintro _ w113 ⟨I103, w_j101, rfl, L104, S114, h_j101⟩
 exact yk (ye (yag nL3 (ya 0 1 z (yam i32 z (ya 2 1 z (yp (sj R1 ▸ yt ⟨I103, w_j101, rfl, le, S114, h_j101⟩)))))))
 rintro _ w115 ⟨I29, w_s31, rfl, L30, S116, h_s31⟩
 refine W.seq (yf nL4 (ya 0 4 z (yb (yas fun _ => W.exit (yn (yo (yr (ye (yf nL11 (yx ((cs_qC s31 w_s31)) (S116.rf m1) z (y8 1 31 (.agg (cs_qL ({ z_qL with Name := (⟨#[97]⟩ : By8), Type_ := 1 })).toArray) (yab (rel := R_qL) (xs := ([{ z_qL with Name := (⟨#[97]⟩ : By8), Type_ := 1 }] : List qL)) S116 z kr z 114 3 [(cs_qL ({ z_qL with Name := (⟨#[97]⟩ : By8), Type_ := 1 }))] kr z ((Elr.cons z Elr.nil)) tv ?_))))))))))))
 intro a120 C118 w122 S121 ho119
 obtain ⟨I124, L125, S127, hp126⟩ := yac ho119 S121
 refine y8 3 33 (.agg #[(Iv 1), (.string (⟨#[116]⟩ : By8)), (.string eB), (.string eB), (.slice a120 1 1), (.slice none 0 0), (.slice none 0 0), (.slice none 0 0), (Iv 0), (Iv 0), (Iv 0), (Iv 0), (.string eB), (.string eB), (.slice none 0 0), (.slice none 0 0), (.slice none 0 0), (Iv 0), (Iv 0), (.bool false), (.slice none 0 0)]) ?_
 have hk128 : ok_qS I124 ({ z_qS with Kind := 1, Table := (⟨#[116]⟩ : By8), Cols := ([{ z_qL with Name := (⟨#[97]⟩ : By8), Type_ := 1 }] : List qL) }) ({ zw_qS with Cols := ⟨a120, 1⟩ }) := ⟨hp126, SlAt.nil, SlAt.nil, SlAt.nil, zok_qS.Where, SlAt.nil, SlAt.nil, SlAt.nil⟩
 obtain ⟨⟨r134, r135⟩, Xr129, D⟩ := bsm D
 refine yai (r17_Make_ok (h_s31.mono L125) hk128 S127 Xr129) ?_
 rintro _ w130 ⟨I131, w_r134, rfl, L132, S133, h_r134⟩
 refine cv (ya 5 3 z (yz S133 (cs_qC z_qC zw_qC) 33 z fun b136 w139 S138 => y7 S138 0 (cs_qC r134 w_r134) fun w141 S140 => ya 10 1 z (yb (W.seq (yf nL2 (ya 0 2 z (yb (bsk D fun j142 R1 D => yav (J := (fun fr w => ∃ I144 w_j142, fr = [(0, Pt b1 0), (1, Pt b11 0)] ∧ I131.Le I144 ∧ St E w I144 (bC b1 z_qC zw_qC :: (bC b11 j142 w_j142) :: Os) ∧ ok_qC I144 j142 w_j142)) ?_ ?_))))))))
 refine yy R1 (fun G R1 => ?_) (fun G R1 => ?_)
 exact yag nL2 (yx ((cs_qC r134 w_r134)) (S140.rf m0) z (y7 S140.front2 0 (cs_qC r134 w_r134) fun w148 S147 => yp (sj R1 ▸ yt ⟨I131, w_r134, rfl, lr, S147.front1.drop.front1, h_r134⟩)))
 exact W.skip (sj R1 ▸ yt ⟨I131, w_s31, rfl, lr, S140.drop, (h_s31.mono le)⟩)
 rintro _ w153 ⟨I144, w_j142, rfl, L145, S154, h_j142⟩
 exact ye (yf nL2 (yx ((cs_qC j142 w_j142)) (S154.rf m1) z (y7 S154 0 (cs_qC j142 w_j142) fun w156 S155 => yb (yq (sj D ▸ En.c1 _ (S155.rd m0) ⟨I144, w_j142, rfl, le, S155.d2, h_j142⟩)))))
noncomputable def law19_Next (p0 : qC) (p1 : law19_Act) : Option (qC × Int) := (r19_Make p0 p1.S p1.By 1000).bind (fun (r18, r19) => ((bif (decide (p1.S.Kind < 10)) then (r17_Make p0 p1.S p1.By 1000).bind (fun (r35, r36) => some (r36, r35)) else some (r19, r18))).bind (fun ((s39, s40) : Int × qC) => (bif (s39 != 0) then some (p0, s39) else some (s40, s39))))
theorem law19_Next_ok {p0 : qC} {p1 : law19_Act} {w_p0 : W_qC} {w_p1 : W_law19_Act} (h_p0 : ok_qC I p0 w_p0) (h_p1 : ok_law19_Act I p1 w_p1) (hS : St E w I Os) {r : qC × Int} (D : law19_Next p0 p1 = some r) :
    Calls P 33 #[(vC p0 w_p0), (.agg (cs_law19_Act p1 w_p1).toArray)] w (fun e w' => ∃ I' w_rw0, e = .returned (.tuple #[(vC r.1 w_rw0), (Iv r.2)]) ∧ I.Le I' ∧ St E w' I' Os ∧ ok_qC I' r.1 w_rw0) := by
 refine calls_W (fn := Tryz.f33) rfl rfl rfl ?_
 unfold law19_Next at D
 refine yf nL4 (yz hS (cs_qC p0 w_p0) 33 z fun b1 w4 S3 => yz S3 (cs_law19_Act p1 w_p1) 71 z fun b5 w8 S7 => yz S7 (cs_qC z_qC zw_qC) 33 z fun b9 w12 S11 => ya 3 1 z (y0 nL12 (yx ((cs_qC p0 w_p0)) (S11.rf m2) z (yg 1 1 [0] z (yx ((cs_qS p1.S w_p1.S)) (S11.rf m1) z (yg 3 1 [21] z (yj (S11.rf m1) z ?_)))))))
 obtain ⟨⟨r18, r19⟩, Xr13, D⟩ := bsm D
 refine yai (r19_Make_ok h_p0 h_p1.S S11 Xr13) ?_
 rintro _ w14 ⟨I15, w_r18, rfl, L16, S17, h_r18⟩
 refine cv (ya 6 3 z (yz S17 (cs_qC z_qC zw_qC) 33 z fun b20 w23 S22 => y7 S22 0 (cs_qC r18 w_r18) fun w25 S24 => ya 11 1 z (yb (W.seq (yf nL4 (yg 0 2 [0, 0] z (yj (S24.rf m2) z (ya 3 1 z (yb (bsk D fun j26 R1 D => yav (J := (fun fr w => ∃ (s39 : Int) (s40 : qC), ∃ I28 w_s40, (s39, s40) = j26 ∧ fr = [(2, Pt b1 0), (4, Pt b9 0), (6, Pt b20 0), (7, Iv s39)] ∧ I15.Le I28 ∧ St E w I28 (bC b1 p0 w_p0 :: (bC b9 z_qC zw_qC) :: (bC b20 s40 w_s40) :: Os) ∧ ok_qC I28 s40 w_s40)) ?_ ?_))))))))))
 refine yy R1 (fun G R1 => ?_) (fun G R1 => ?_)
 refine yag nL11 (yx ((cs_qC p0 w_p0)) (S24.rf m3) z (yg 1 1 [0] z (yx ((cs_qS p1.S w_p1.S)) (S24.rf m2) z (yg 3 1 [21] z (yj (S24.rf m2) z ?_)))))
 obtain ⟨⟨r35, r36⟩, Xr30, R1⟩ := bsm R1
 refine yai (r17_Make_ok (h_p0.mono L16) (h_p1.S.mono L16) S24 Xr30) ?_
 rintro _ w31 ⟨I32, w_r35, rfl, L33, S34, h_r35⟩
 exact cv (ya 6 3 z (y7 S34 0 (cs_qC r35 w_r35) fun w38 S37 => ya 10 1 z (yp (yt ⟨r36, r35, I32, w_r35, sj R1, rfl, L33, S37.front2.drop.front1.front2, h_r35⟩))))
 exact W.skip (yt ⟨r19, r18, I15, w_r18, sj R1, rfl, lr, S24.front2.drop.front1.front2, h_r18⟩)
 rintro _ w49 ⟨s39, s40, I28, w_s40, rfl, rfl, L29, S50, h_s40⟩
 refine ye (W.seq (yf nL2 (ya 0 2 z (yb (yy D (fun G D => ?_) (fun G D => ?_))))))
 exact yf nL4 (yx ((cs_qC p0 w_p0)) (S50.rf m0) z (ya 1 1 z (y7 S50.front1 0 (cs_qC p0 w_p0) fun w53 S52 => ya 3 1 z (yb (yq (yh (sj D ▸ ya1 _ (S52.rd m0) ⟨I28, w_p0, rfl, le, S52.d3, (h_p0.mono le)⟩)))))))
 exact W.skip (ye (yf nL4 (yx ((cs_qC s40 w_s40)) (S50.rf m2) z (ya 1 1 z (y7 S50.front1 0 (cs_qC s40 w_s40) fun w59 S58 => ya 3 1 z (yb (yq (sj D ▸ ya1 _ (S58.rd m0) ⟨I28, w_s40, rfl, le, S58.d3, h_s40⟩))))))))
noncomputable def law19_Grown (p0 : List law19_Act) : Option qC := (law19_first).bind (fun r10 => (forE (fun (i21 : Nat) (s20 : qC) => (idx p0 (i21 : Int)).bind (fun x31 => (law19_Next s20 x31).bind (fun (r37, r38) => some r37))) p0.length 0 r10).bind (fun s20 => some s20))
theorem law19_Grown_ok {p0 : List law19_Act} {a_p0 : Option Addr} {c_p0 : Nat} (h_p0 : RSl 22 R_law19_Act I a_p0 c_p0 p0) (hS : St E w I Os) {r : qC} (D : law19_Grown p0 = some r) :
    Calls P 12 #[(Sl a_p0 p0 c_p0)] w (fun e w' => ∃ I' w_rw0, e = .returned (vC r w_rw0) ∧ I.Le I' ∧ St E w' I' Os ∧ ok_qC I' r w_rw0) := by
 refine calls_W (fn := Tryz.f12) rfl rfl rfl ?_
 unfold law19_Grown at D
 refine yf [0] (yz hS (cs_qC z_qC zw_qC) 33 z fun b1 w4 S3 => y0 nL3 (bsk D fun r10 Xr5 D => yai (law19_first_ok  S3 Xr5) ?_))
 rintro _ w6 ⟨I7, w_r10, rfl, L8, S9, h_r10⟩
 refine cv (yz S9 (cs_qC z_qC zw_qC) 33 z fun b11 w14 S13 => y7 S13 0 (cs_qC r10 w_r10) fun w16 S15 => yb (W.seq (yf [0] (ya 0 1 z (yb (yl (bsk D fun s20 hloop22 D => have hlt27 := ((RSl.mono h_p0 L8)).len_lt; W.wk (yat (m := p0.length) hloop22 (fun (i21 : Nat) (s20 : qC) fr w => ∃ I18 w_s20, fr = [(0, Sl a_p0 p0 c_p0), (2, Pt b1 0), (3, Pt b11 0), (4, Nv i21)] ∧ I7.Le I18 ∧ St E w I18 (bC b1 z_qC zw_qC :: (bC b11 s20 w_s20) :: Os) ∧ ok_qC I18 s20 w_s20) ⟨I7, w_r10, rfl, lr, S15.front1, h_r10⟩ ?_ ?_))))))))
 rintro i21 s20 _ w24 hi28 ⟨I18, w_s20, rfl, L19, S25, h_s20⟩ x26 R1
 refine W.seq (yf nL4 (ya 0 4 z (yb (yar fun _ => W.skip (ye (W.seq (yl (have S29 := S25.drew; ybr (l := nL10) kr 9 (KR I18 [bC b11 s20 w_s20]) qR (.ords nL10 [0, 1, 2, 3, 4, 5, 6, 7, 9, 8] kr kr kr kr kr) kr (yv (S29.rd m1) (yad S29.im)) ?_))))))))
 generalize World.drew _ = w30 at *
 refine yx ((cs_qC s20 w_s20)) (rd_c m0 (S29.rd m1)) z (ya 1 2 z ?_)
 obtain ⟨x31, R1, Hx31, _, ⟨w_x31, rfl, h_x31⟩, Zx31⟩ := sx I18 h_p0 R1
 refine yaa 71 22 Hx31 z (yau ((cs_law19_Act x31 w_x31)) Zx31 0 (rd_i S29.im) z ?_)
 obtain ⟨⟨r37, r38⟩, Xr32, R1⟩ := bsm R1
 refine yai (law19_Next_ok h_s20 h_x31 S29 Xr32) ?_
 rintro _ w33 ⟨I34, w_r37, rfl, L35, S36, h_r37⟩
 refine ⟨_, rfl, (yv (S36.rd m1) (yad (S36.im.of_le L35))), ?_⟩
 exact ya 6 3 z (WO.tail z (y7 S36.front1 0 (cs_qC r37 w_r37) fun w41 S40 => yp (yk (ye (yag nL3 (ya 0 1 z (yam i21 z (ya 2 1 z (yp (sj R1 ▸ yt ⟨I34, w_r37, rfl, le, S40.front1, h_r37⟩))))))))))
 rintro _ w43 ⟨I18, w_s20, rfl, L19, S44, h_s20⟩
 exact W.seq (yf nL4 (ya 0 4 z (yb (yas fun _ => W.exit (yn (yo (yr (ye (yf nL2 (yx ((cs_qC s20 w_s20)) (S44.rf m1) z (y7 S44 0 (cs_qC s20 w_s20) fun w46 S45 => yb (yq (sj D ▸ En.c1 _ (S45.rd m0) ⟨I18, w_s20, rfl, le, S45.d2, h_s20⟩)))))))))))))
def slices_IndexFunc_qT (p0 : List qT) (p1 : qT → Option Bool) : Option Int := (forN (fun (i4 : Nat) (_s : Unit) => (idx p0 (i4 : Int)).bind (fun x11 => (p1 x11).bind (fun (r17 : Bool) => (bif r17 then some (.inr (i4 : Int)) else some (.inl ()))))) p0.length 0 ()).bind (fun (t : Unit ⊕ (Int)) => match t with | .inl _ => some (-1) | .inr s19 => some s19)
theorem slices_IndexFunc_qT_ok {p0 : List qT} {p1 : qT → Option Bool} {a_p0 : Option Addr} {c_p0 : Nat} {g_p1 : FuncId} {k_p1 : List Value} (h_p0 : RSl 6 R_qT I a_p0 c_p0 p0) (h_p1 : ∀ {F : List Mem} {I' : Mem} {w : World} {u0 : qT} {w_u0 : W_qT}, I.Le I' → St E w I' (F ++ Os) → ok_qT I' u0 w_u0 → ∀ {r : Bool}, p1 u0 = some r → Calls P g_p1 (([(vT u0 w_u0)] : List Value) ++ k_p1).toArray w (fun e w' => ∃ (I'' : Mem), e = .returned (.bool r) ∧ I'.Le I'' ∧ St E w' I'' (F ++ Os))) (hcall_p1 : Callable P g_p1) (hS : St E w I Os) {r : Int} (D : slices_IndexFunc_qT p0 p1 = some r) :
    Calls P 70 #[(Sl a_p0 p0 c_p0), (.func (.func g_p1) #[] k_p1.toArray)] w (RT E I Os (Iv r)) := by
 refine calls_W (fn := Tryz.f70) rfl rfl rfl ?_
 unfold slices_IndexFunc_qT at D
 refine yf [0] (ya 0 1 z (yb (W.seq (yf nL3 (ya 0 3 z (yb (yl (bsk D fun t1 hloop5 D => have hlt9 := (h_p0).len_lt; W.wk (yap (m := p0.length) hloop5 (fun (i4 : Nat) (_s : Unit) => JI E I [(0, Sl a_p0 p0 c_p0), (1, .func (.func g_p1) #[] k_p1.toArray), (7, Nv p0.length), (8, Nv i4)] Os) ⟨I, rfl, lr, hS⟩ ?_ ?_)))))))))
 rintro i4 _ _ w6 hi10 ⟨I2, rfl, L3, S7⟩ x8 R1 hext1
 refine yf [0] (ya 0 1 z (yb (W.seq (yar fun _ => W.skip (ye (W.seq (yl (yf nL2 (ya 0 2 z (y0 nL6 (y8 0 11 (.func (.func g_p1) #[] k_p1.toArray) (ya 1 2 z ?_))))))))))))
 obtain ⟨x11, R1, Hx11, _, ⟨w_x11, rfl, h_x11⟩, Zx11⟩ := sx I2 h_p0 R1
 refine yaa 104 6 Hx11 z (yau ((cs_qT x11 w_x11)) Zx11 0 S7.rm z (bsk R1 fun r17 Xr12 R1 => WO.callv z kr z (g := g_p1) (kk := k_p1) (args := [(vT x11 w_x11)]) z kr hcall_p1 (h_p1 (F := []) L3 S7 h_x11 Xr12) ?_))
 rintro _ w13 ⟨I14, rfl, L15, S16⟩
 refine cv (yb (yy R1 (fun G R1 => ?_) (fun G R1 => ?_)))
 refine yf nL2 (ya 0 2 z (yb (yq (ym (yh (yu ?_))))))
 obtain rfl := hext1 _ (sj R1).symm
 exact ym (yh (sj D ▸ yw ⟨I14, rfl, le, S16⟩))
 exact W.skip (yk (ye (yag nL2 (yam i4 z (ya 1 1 z (yp (yt ⟨(), (sj R1).symm, I14, rfl, le, S16⟩)))))))
 rintro _ _ w20 ⟨I2, rfl, L3, S21⟩ he
 cases he
 exact yf [0] (ya 0 1 z (yb (W.seq (yas fun _ => W.exit (yn (yo (yr (ye (yf [0] (ya 0 1 z (yb (yq (sj D ▸ yw ⟨I2, rfl, L3, S21⟩)))))))))))))
def slices_Clone_qL (p0 : List qL) : Option (List qL) := (app 32 ([] : List qL) p0).bind (fun x10 => some x10)
theorem slices_Clone_qL_ok {p0 : List qL} {a_p0 : Option Addr} {c_p0 : Nat} (h_p0 : RSl 3 R_qL I a_p0 c_p0 p0) (hS : St E w I Os) {r : (List qL)} (D : slices_Clone_qL p0 = some r) :
    Calls P 102 #[(Sl a_p0 p0 c_p0)] w (fun e w' => ∃ (I' : Mem) (ra0 : Option Addr) (rc0 : Nat) (rC0 : Mem), e = .returned (Sl ra0 r rc0) ∧ I.Le I' ∧ St E w' I' (rC0 :: Os) ∧ OwnSl 114 3 R_qL I' rC0 ra0 rc0 r) := by
 refine calls_W (fn := Tryz.f102) rfl rfl rfl ?_
 unfold slices_Clone_qL at D
 refine yf [0] (y8 0 2 (.slice none 0 0) (yb (W.seq (yf nL2 (ya 0 1 z (ybk (e := 114) z kr kr z z ?_))))))
 refine yb (W.cd (fun G => ?_) (fun G => ?_))
 have ha0 := Option.isNone_iff_eq_none.1 G
 subst ha0
 have hx0 := (h_p0).none_nil
 subst hx0
 replace D : some ([] : List qL) = some r := by simpa [app] using D
 exact yf [0] (y8 0 2 (.slice none 0 0) (yb (yq (yh (sj D ▸ yw ⟨I, none, 0, Mem.no, rfl, lr, hS.no, OwnSl.nil⟩)))))
 clear G
 refine W.skip (ye (yf nL4 (yab (rel := R_qL) (xs := ([] : List qL)) hS z kr z 114 3 [] kr z (Elr.nil) tv ?_)))
 intro a6 C4 w8 S7 ho5
 exact ya 1 1 z (apk D fun x10 h0_x10 he_x10 D => yax 114 32 (cs_qL z_qL) S7 ho5 h_p0 S7.im h0_x10 he_x10 z fun a11 c12 w13 C14 S15 ho16 => ya 3 1 z (yb (yq (sj D ▸ yw ⟨I, a11, c12, C14, rfl, lr, S15, ho16⟩))))
def slices_Clone_qK (p0 : List qK) : Option (List qK) := (app 176 ([] : List qK) p0).bind (fun x10 => some x10)
theorem slices_Clone_qK_ok {p0 : List qK} {a_p0 : Option Addr} {c_p0 : Nat} (h_p0 : RSl 12 R_qK I a_p0 c_p0 p0) (hS : St E w I Os) {r : (List qK)} (D : slices_Clone_qK p0 = some r) :
    Calls P 103 #[(Sl a_p0 p0 c_p0)] w (fun e w' => ∃ (I' : Mem) (ra0 : Option Addr) (rc0 : Nat) (rC0 : Mem), e = .returned (Sl ra0 r rc0) ∧ I.Le I' ∧ St E w' I' (rC0 :: Os) ∧ OwnSl 116 12 R_qK I' rC0 ra0 rc0 r) := by
 refine calls_W (fn := Tryz.f103) rfl rfl rfl ?_
 unfold slices_Clone_qK at D
 refine yf [0] (y8 0 2 (.slice none 0 0) (yb (W.seq (yf nL2 (ya 0 1 z (ybk (e := 116) z kr kr z z ?_))))))
 refine yb (W.cd (fun G => ?_) (fun G => ?_))
 have ha0 := Option.isNone_iff_eq_none.1 G
 subst ha0
 have hx0 := (h_p0).none_nil
 subst hx0
 replace D : some ([] : List qK) = some r := by simpa [app] using D
 exact yf [0] (y8 0 2 (.slice none 0 0) (yb (yq (yh (sj D ▸ yw ⟨I, none, 0, Mem.no, rfl, lr, hS.no, OwnSl.nil⟩)))))
 clear G
 refine W.skip (ye (yf nL4 (yab (rel := R_qK) (xs := ([] : List qK)) hS z kr z 116 12 [] kr z (Elr.nil) tv ?_)))
 intro a6 C4 w8 S7 ho5
 exact ya 1 1 z (apk D fun x10 h0_x10 he_x10 D => yax 116 176 (cs_qK z_qK zw_qK) S7 ho5 h_p0 S7.im h0_x10 he_x10 z fun a11 c12 w13 C14 S15 ho16 => ya 3 1 z (yb (yq (sj D ▸ yw ⟨I, a11, c12, C14, rfl, lr, S15, ho16⟩))))
def slices_Clone_string (p0 : List By8) : Option (List By8) := (app 16 ([] : List By8) p0).bind (fun x10 => some x10)
theorem slices_Clone_string_ok {p0 : List By8} {a_p0 : Option Addr} {c_p0 : Nat} (h_p0 : RSl 1 RStr I a_p0 c_p0 p0) (hS : St E w I Os) {r : (List By8)} (D : slices_Clone_string p0 = some r) :
    Calls P 64 #[(Sl a_p0 p0 c_p0)] w (fun e w' => ∃ (I' : Mem) (ra0 : Option Addr) (rc0 : Nat) (rC0 : Mem), e = .returned (Sl ra0 r rc0) ∧ I.Le I' ∧ St E w' I' (rC0 :: Os) ∧ OwnSl 9 1 RStr I' rC0 ra0 rc0 r) := by
 refine calls_W (fn := Tryz.f64) rfl rfl rfl ?_
 unfold slices_Clone_string at D
 refine yf [0] (y8 0 2 (.slice none 0 0) (yb (W.seq (yf nL2 (ya 0 1 z (ybk (e := 9) z kr kr z z ?_))))))
 refine yb (W.cd (fun G => ?_) (fun G => ?_))
 have ha0 := Option.isNone_iff_eq_none.1 G
 subst ha0
 have hx0 := (h_p0).none_nil
 subst hx0
 replace D : some ([] : List By8) = some r := by simpa [app] using D
 exact yf [0] (y8 0 2 (.slice none 0 0) (yb (yq (yh (sj D ▸ yw ⟨I, none, 0, Mem.no, rfl, lr, hS.no, OwnSl.nil⟩)))))
 clear G
 refine W.skip (ye (yf nL4 (yab (rel := RStr) (xs := ([] : List By8)) hS z kr z 9 1 [] kr z (Elr.nil) tv ?_)))
 intro a6 C4 w8 S7 ho5
 exact ya 1 1 z (apk D fun x10 h0_x10 he_x10 D => yax 9 16 [(.string eB)] S7 ho5 h_p0 S7.im h0_x10 he_x10 z fun a11 c12 w13 C14 S15 ho16 => ya 3 1 z (yb (yq (sj D ▸ yw ⟨I, a11, c12, C14, rfl, lr, S15, ho16⟩))))
def expr_Clone_fu : Nat → qE → Option qE
  | 0, _ => none
  | fu + 1, p0 => (forE (fun (i13 : Nat) (s12 : List qE) => (idx p0.Kids (i13 : Int)).bind (fun x24 => (expr_Clone_fu fu x24).bind (fun r36 => (app 88 s12 ([r36] : List qE)).bind (fun x45 => some x45)))) p0.Kids.length 0 ([] : List qE)).bind (fun s12 => some { p0 with Kids := s12 })
noncomputable def expr_Clone (p0 : qE) : Option qE := anyFuel (fun fu => expr_Clone_fu fu p0)
theorem expr_Clone_fu_ok : ∀ (fu : Nat) {E w : World} {I : Mem} {Os : List Mem} {p0 : qE} {w_p0 : W_qE} (h_p0 : ok_qE I p0 w_p0) (hS : St E w I Os) {r : qE} (D : expr_Clone_fu fu p0 = some r),
    Calls P 104 #[(vE p0 w_p0)] w (fun e w' => ∃ I' w_rw0, e = .returned (vE r w_rw0) ∧ I.Le I' ∧ St E w' I' Os ∧ ok_qE I' r w_rw0) := by
 intro fu
 induction fu with
 | zero => intro E w I Os p0 w_p0 h_p0 hS r D; cases D
 | succ fu ih =>
 intro E w I Os p0 w_p0 h_p0 hS r D
 refine calls_W (fn := Tryz.f104) rfl rfl rfl ?_
 unfold expr_Clone_fu at D
 refine yf nL2 (yz hS (cs_qE p0 w_p0) 61 z fun b1 w4 S3 => yz S3 (cs_qE z_qE zw_qE) 61 z fun b5 w8 S7 => y0 [0] (y8 0 3 (.slice none 0 0) (yb (W.seq (yf nL4 (yg 0 1 [6] z (yj (S7.rf m1) z (ya 2 2 z (yb (yl (bsk D fun s12 hloop14 D => have hlt22 := (h_p0.Kids).len_lt; W.wk (yat (m := p0.Kids.length) hloop14 (fun (i13 : Nat) (s12 : List qE) fr w => ∃ I10 a_s12 c_s12 C_s12, fr = [(1, Pt b1 0), (2, Pt b5 0), (3, Sl a_s12 s12 c_s12), (7, Sl w_p0.Kids.a p0.Kids w_p0.Kids.c), (8, Nv p0.Kids.length), (9, Nv i13)] ∧ I.Le I10 ∧ St E w I10 (bE b1 p0 w_p0 :: (bE b5 z_qE zw_qE) :: (C_s12) :: Os) ∧ OwnSl 61 7 Q_qE I10 C_s12 a_s12 c_s12 s12) ⟨I, none, 0, Mem.no, rfl, lr, S7.no.front1.front2, OwnSl.nil⟩ ?_ ?_))))))))))))
 rintro i13 s12 _ w19 hi23 ⟨I10, a_s12, c_s12, C_s12, rfl, L11, S20, h_s12⟩ x21 R1
 refine yf [0] (ya 0 1 z (yb (W.seq (yar fun _ => W.skip (ye (W.seq (yl (yf nL4 ?_))))))))
 obtain ⟨x24, Xx24, R1⟩ := bsm R1
 obtain ⟨h0_x24, h1_x24, Xx24⟩ := idx_some Xx24
 obtain ⟨ha_x24, cs_x24, hn_x24, hr_x24, Zx24⟩ := ((RSl.mono h_p0.Kids L11)).el _ _ Xx24
 obtain ⟨w_x24, rfl, h_x24⟩ := Q_qE_iff.1 hr_x24
 refine ya5 61 7 ha_x24 h0_x24 h1_x24 ?_
 refine yau ((cs_qE x24 w_x24)) Zx24 0 S20.rm z (yz S20 (cs_qE z_qE zw_qE) 61 z fun b25 w28 S27 => y7 S27 0 (cs_qE x24 w_x24) fun w30 S29 => yb (yag nL6 (ya 0 1 z (yx ((cs_qE x24 w_x24)) (S29.rf m0) z (bsk R1 fun r36 Xr31 R1 => yai (ih h_x24 S29 Xr31) ?_)))))
 rintro _ w32 ⟨I33, w_r36, rfl, L34, S35, h_r36⟩
 refine cv (yab (rel := Q_qE) (xs := ([r36] : List qE)) S35 z kr z 61 7 [(cs_qE r36 w_r36)] kr z ((Elr.cons (Q_qE_iff.2 ⟨w_r36, rfl, h_r36⟩) Elr.nil)) tv ?_)
 intro a40 C38 w42 S41 ho39
 have S44 := S41.front4
 exact apk R1 fun x45 h0_x45 he_x45 R1 => yax 61 88 (cs_qE z_qE zw_qE) S44 (OwnSl.mono h_s12 L34) ho39.sl (S44.rd m1) h0_x45 he_x45 z fun a46 c47 w48 C49 S50 ho51 => ya 5 1 z (yp (yk (ye (yag nL2 (yam i13 z (ya 1 1 z (yp (sj R1 ▸ yt ⟨I33, a46, c47, C49, rfl, le, S50.front1.drop.front1.drop.front2.front2, ho51⟩))))))))
 rintro _ w58 ⟨I10, a_s12, c_s12, C_s12, rfl, L11, S59, h_s12⟩
 refine yf [0] (ya 0 1 z (yb (W.seq (yas fun _ => W.exit (yn (yo (yr (ye (yf nL3 (yg 0 2 [6] z ?_))))))))))
 obtain ⟨I61, L62, S64, hp63⟩ := yac h_s12 S59.front2
 refine y7 S64 6 (cs_qE ({ p0 with Kids := s12 }) (⟨⟨a_s12, c_s12⟩⟩ : W_qE)) fun w66 S65 => y0 nL2 (yx ((cs_qE ({ p0 with Kids := s12 }) (⟨⟨a_s12, c_s12⟩⟩ : W_qE))) (S65.rf m0) z (y7 S65.front1 0 (cs_qE ({ p0 with Kids := s12 }) (⟨⟨a_s12, c_s12⟩⟩ : W_qE)) fun w69 S68 => yb (yq ?_)))
 have hk72 : ok_qE I61 ({ p0 with Kids := s12 }) (⟨⟨a_s12, c_s12⟩⟩ : W_qE) := ⟨hp63⟩
 exact sj D ▸ En.c1 _ (S68.rd m0) ⟨I61, (⟨⟨a_s12, c_s12⟩⟩ : W_qE), rfl, le, S68.d2, hk72⟩
theorem expr_Clone_ok {p0 : qE} {w_p0 : W_qE} (h_p0 : ok_qE I p0 w_p0) (hS : St E w I Os) {r : qE} (D : expr_Clone p0 = some r) :
    Calls P 104 #[(vE p0 w_p0)] w (fun e w' => ∃ I' w_rw0, e = .returned (vE r w_rw0) ∧ I.Le I' ∧ St E w' I' Os ∧ ok_qE I' r w_rw0) := by
 obtain ⟨fu, hf⟩ := anyFuel_some D
 exact expr_Clone_fu_ok fu h_p0 hS hf
def slices_Clone_qI (p0 : List qI) : Option (List qI) := (app 40 ([] : List qI) p0).bind (fun x10 => some x10)
theorem slices_Clone_qI_ok {p0 : List qI} {a_p0 : Option Addr} {c_p0 : Nat} (h_p0 : RSl 2 R_qI I a_p0 c_p0 p0) (hS : St E w I Os) {r : (List qI)} (D : slices_Clone_qI p0 = some r) :
    Calls P 105 #[(Sl a_p0 p0 c_p0)] w (fun e w' => ∃ (I' : Mem) (ra0 : Option Addr) (rc0 : Nat) (rC0 : Mem), e = .returned (Sl ra0 r rc0) ∧ I.Le I' ∧ St E w' I' (rC0 :: Os) ∧ OwnSl 163 2 R_qI I' rC0 ra0 rc0 r) := by
 refine calls_W (fn := Tryz.f105) rfl rfl rfl ?_
 unfold slices_Clone_qI at D
 refine yf [0] (y8 0 2 (.slice none 0 0) (yb (W.seq (yf nL2 (ya 0 1 z (ybk (e := 163) z kr kr z z ?_))))))
 refine yb (W.cd (fun G => ?_) (fun G => ?_))
 have ha0 := Option.isNone_iff_eq_none.1 G
 subst ha0
 have hx0 := (h_p0).none_nil
 subst hx0
 replace D : some ([] : List qI) = some r := by simpa [app] using D
 exact yf [0] (y8 0 2 (.slice none 0 0) (yb (yq (yh (sj D ▸ yw ⟨I, none, 0, Mem.no, rfl, lr, hS.no, OwnSl.nil⟩)))))
 clear G
 refine W.skip (ye (yf nL4 (yab (rel := R_qI) (xs := ([] : List qI)) hS z kr z 163 2 [] kr z (Elr.nil) tv ?_)))
 intro a6 C4 w8 S7 ho5
 exact ya 1 1 z (apk D fun x10 h0_x10 he_x10 D => yax 163 40 (cs_qI z_qI zw_qI) S7 ho5 h_p0 S7.im h0_x10 he_x10 z fun a11 c12 w13 C14 S15 ho16 => ya 3 1 z (yb (yq (sj D ▸ yw ⟨I, a11, c12, C14, rfl, lr, S15, ho16⟩))))
noncomputable def table_Clone (p0 : qT) : Option qT := (slices_Clone_qL p0.Cols).bind (fun r14 => (slices_Clone_qK p0.Cons).bind (fun r27 => (forE (fun (i35 : Nat) (s34 : List qK) => (idx s34 (i35 : Int)).bind (fun x45 => (slices_Clone_string x45.Cols).bind (fun r59 => (slices_Clone_string x45.Refs).bind (fun r65 => (expr_Clone x45.Check).bind (fun r71 => (idx s34 (i35 : Int)).bind (fun x72 => (idx (s34.set ((i35 : Int)).toNat ({ x72 with Cols := r59 })) (i35 : Int)).bind (fun x85 => (idx ((s34.set ((i35 : Int)).toNat ({ x72 with Cols := r59 })).set ((i35 : Int)).toNat ({ x85 with Refs := r65 })) (i35 : Int)).bind (fun x97 => some (((s34.set ((i35 : Int)).toNat ({ x72 with Cols := r59 })).set ((i35 : Int)).toNat ({ x85 with Refs := r65 })).set ((i35 : Int)).toNat ({ x97 with Check := r71 })))))))))) r27.length 0 r27).bind (fun s34 => (slices_Clone_qI p0.Idx).bind (fun r115 => (forE (fun (i123 : Nat) (s122 : List qI) => (idx s122 (i123 : Int)).bind (fun x134 => (slices_Clone_string x134.Cols).bind (fun r148 => (idx s122 (i123 : Int)).bind (fun x149 => some (s122.set ((i123 : Int)).toNat ({ x149 with Cols := r148 })))))) r115.length 0 r115).bind (fun s122 => some { p0 with Cols := r14, Cons := s34, Idx := s122 })))))
theorem table_Clone_ok {p0 : qT} {w_p0 : W_qT} (h_p0 : ok_qT I p0 w_p0) (hS : St E w I Os) {r : qT} (D : table_Clone p0 = some r) :
    Calls P 72 #[(vT p0 w_p0)] w (fun e w' => ∃ I' w_rw0, e = .returned (vT r w_rw0) ∧ I.Le I' ∧ St E w' I' Os ∧ ok_qT I' r w_rw0) := by
 refine calls_W (fn := Tryz.f72) rfl rfl rfl ?_
 unfold table_Clone at D
 refine yf nL2 (yz hS (cs_qT p0 w_p0) 104 z fun b1 w4 S3 => yz S3 (cs_qT z_qT zw_qT) 104 z fun b5 w8 S7 => y0 nL5 (yg 0 1 [3] z (yj (S7.rf m1) z (bsk D fun r14 Xr9 D => yai (slices_Clone_qL_ok h_p0.Cols S7 Xr9) ?_))))
 rintro _ w10 ⟨I11, a_r14, c_r14, C_r14, rfl, L12, S13, h_r14⟩
 refine cv (yg 3 1 [3] z ?_)
 obtain ⟨I15, L16, S18, hp17⟩ := yac h_r14 S13
 refine y7 S18.front1 3 (cs_qT ({ p0 with Cols := r14 }) ({ w_p0 with Cols := ⟨a_r14, c_r14⟩ })) fun w21 S20 => y0 nL5 (yg 0 1 [4] z (yj (S20.rf m0) z (bsk D fun r27 Xr22 D => yai (slices_Clone_qK_ok (up h_p0.Cons) S20 Xr22) ?_)))
 rintro _ w23 ⟨I24, a_r27, c_r27, C_r27, rfl, L25, S26, h_r27⟩
 refine cv (yg 3 1 [4] z (y7 S26.front1 4 (cs_qT ({ p0 with Cols := r14, Cons := r27 }) ({ w_p0 with Cols := ⟨a_r14, c_r14⟩, Cons := ⟨a_r27, c_r27⟩ })) fun w30 S29 => yb (W.seq (yf nL4 (yg 0 1 [4] z (yj (S29.rf m0) z (ya 2 2 z (yb (yl (bsk D fun s34 hloop36 D => have hlt43 := (h_r27.sl).len_lt; W.wk (yat (m := r27.length) hloop36 (fun (i35 : Nat) (s34 : List qK) fr w => ∃ I32 C_s34, fr = [(1, Pt b1 0), (2, Pt b5 0), (16, Sl a_r27 s34 c_r27), (17, Nv r27.length), (18, Nv i35)] ∧ I24.Le I32 ∧ St E w I32 ((Bx b1 (cs_qT ({ p0 with Cols := r14, Cons := s34 }) ({ w_p0 with Cols := ⟨a_r14, c_r14⟩, Cons := ⟨a_r27, c_r27⟩ })) 104) :: (bT b5 z_qT zw_qT) :: (C_s34) :: Os) ∧ OwnSl 116 12 R_qK I32 C_s34 a_r27 c_r27 s34) ⟨I24, C_r27, rfl, lr, S29.front1.front2.front2, h_r27⟩ ?_ ?_)))))))))))
 rintro i35 s34 _ w40 hi44 ⟨I32, C_s34, rfl, L33, S41, h_s34⟩ x42 R1
 refine yf [0] (ya 0 1 z (yb (W.seq (yar fun _ => W.skip (ye (W.seq (yl (yf nL6 (ya 0 1 z ?_)))))))))
 obtain ⟨x45, R1, Hx45, _, ⟨w_x45, rfl, h_x45⟩, Zx45⟩ := sl_ix (h_s34.sl) R1
 refine yaa 116 12 Hx45 z (yau ((cs_qK x45 w_x45)) Zx45 0 (S41.rf m2) z (yz S41 (cs_qK z_qK zw_qK) 116 z fun b46 w49 S48 => ya 4 1 z (y7 S48 0 (cs_qK x45 w_x45) fun w51 S50 => yb (have S52 := S50.drew; ybr (l := nL27) kr 24 (KR I32 [bK b46 x45 w_x45, Bx b1 (cs_qT ({ p0 with Cols := r14, Cons := s34 }) ({ w_p0 with Cols := ⟨a_r14, c_r14⟩, Cons := ⟨a_r27, c_r27⟩ })) 104]) qR (.ords nL27 [0, 1, 2, 9, 10, 11, 12, 13, 14, 15, 16, 17, 18, 19, 20, 3, 4, 5, 21, 22, 23, 6, 7, 8, 24, 25, 26] kr kr kr kr kr) kr (yv (S52.rd m0) (yv (S52.rd m1) (yad S52.im))) ?_))))
 generalize World.drew _ = w53 at *
 refine yg 0 1 [4] z (yj (rd_c m1 (S52.rd m1)) z (yg 2 2 [4] z (yj (rd_c m1 (S52.rd m1)) z (yg 5 2 [4] z (yj (rd_c m1 (S52.rd m1)) z (yg 8 2 [2] z (yj (rd_c m0 (S52.rd m0)) z (bsk R1 fun r59 Xr54 R1 => yai (slices_Clone_string_ok h_x45.Cols S52 Xr54) ?_))))))))
 rintro _ w55 ⟨I56, a_r59, c_r59, C_r59, rfl, L57, S58, h_r59⟩
 refine ⟨_, rfl, (yv (S58.rd m1) (yv (S58.rd m2) (yad (S58.im.of_le L57)))), ?_⟩
 refine yg 12 1 [11] z (yj (rd_c m0 (S58.rd m1)) z (bsk R1 fun r65 Xr60 R1 => yai (slices_Clone_string_ok (RSl.mono h_x45.Refs L57) S58 Xr60) ?_))
 rintro _ w61 ⟨I62, a_r65, c_r65, C_r65, rfl, L63, S64, h_r65⟩
 refine ⟨_, rfl, (yv (S64.rd m2) (yv (S64.rd m3) (yad (S64.im.of_le le)))), ?_⟩
 refine yg 15 1 [3] z (yx ((cs_qE x45.Check w_x45.Check)) (rd_c m0 (S64.rd m2)) z (bsk R1 fun r71 Xr66 R1 => yai (expr_Clone_ok (h_x45.Check.mono le) S64 Xr66) ?_))
 rintro _ w67 ⟨I68, w_r71, rfl, L69, S70, h_r71⟩
 refine ⟨_, rfl, (yv (S70.rd m2) (yv (S70.rd m3) (yad (S70.im.of_le le)))), ?_⟩
 obtain ⟨x72, R1, h0_x72, h1_x72, Xx72, ha_x72, _, _, ⟨w_x72, rfl, h_x72⟩, Zx72⟩ := sl_at (h_s34.sl) R1
 refine ya5 116 12 ha_x72 h0_x72 h1_x72 ?_
 refine yg 19 1 [2] z ?_
 obtain ⟨I74, L75, S77, hp76⟩ := yac (h_r59.mono (L63.trans L69)) S70.front1
 have hk83 : ok_qK I74 ({ x72 with Cols := r59 }) ({ w_x72 with Cols := ⟨a_r59, c_r59⟩ }) := ⟨hp76, (h_x72.Check.mono (((L57.trans L63).trans L69).trans L75)), (RSl.mono h_x72.Refs (((L57.trans L63).trans L69).trans L75))⟩
 refine ya9 S77.front4 (OwnSl.mono h_s34 le) z kr z Xx72 (u' := { x72 with Cols := r59 }) 2 z z kr z z (fun cs hrel => (by obtain ⟨w_zz, rfl, h_zz⟩ := hrel; exact ⟨{ w_zz with Cols := ⟨a_r59, c_r59⟩ }, rfl, { h_zz with Cols := hp76 }⟩)) (fun w80 C81 S79 => (yv (S79.rd m2) (yv (S79.rd m3) (yad (S79.im.of_le le))))) ?_
 intro w80 C81 S79 ho82
 refine yae 16 z (show Value.slice a_r27 s34.length c_r27 = Value.slice a_r27 (s34.set ((i35 : Int)).toNat ({ x72 with Cols := r59 })).length c_r27 by simp only [List.length_set]) ?_
 refine yae 24 z (show Value.slice a_r27 s34.length c_r27 = Value.slice a_r27 (s34.set ((i35 : Int)).toNat ({ x72 with Cols := r59 })).length c_r27 by simp only [List.length_set]) ?_
 refine yae 27 z (show Value.slice a_r27 s34.length c_r27 = Value.slice a_r27 (s34.set ((i35 : Int)).toNat ({ x72 with Cols := r59 })).length c_r27 by simp only [List.length_set]) ?_
 refine yae 30 z (show Value.slice a_r27 s34.length c_r27 = Value.slice a_r27 (s34.set ((i35 : Int)).toNat ({ x72 with Cols := r59 })).length c_r27 by simp only [List.length_set]) ?_
 have S84 : St E w80 I74 ((C81) :: (C_r65) :: (bK b46 x45 w_x45) :: (Bx b1 (cs_qT ({ p0 with Cols := r14, Cons := (s34.set ((i35 : Int)).toNat ({ x72 with Cols := r59 })) }) ({ w_p0 with Cols := ⟨a_r14, c_r14⟩, Cons := ⟨a_r27, c_r27⟩ })) 104) :: (bT b5 z_qT zw_qT) :: Os) := by have hq := S79; simp only [cs_qT, List.length_set] at hq ⊢; exact hq
 obtain ⟨x85, R1, h0_x85, h1_x85, Xx85, ha_x85, _, _, ⟨w_x85, rfl, h_x85⟩, Zx85⟩ := sl_at (ho82.sl) R1
 refine ya5 116 12 ha_x85 h0_x85 h1_x85 ?_
 refine yg 22 1 [11] z ?_
 obtain ⟨I87, L88, S90, hp89⟩ := yac (h_r65.mono (L69.trans L75)) S84.front1
 have hk95 : ok_qK I87 ({ x85 with Refs := r65 }) ({ w_x85 with Refs := ⟨a_r65, c_r65⟩ }) := ⟨(RSl.mono h_x85.Cols L88), (h_x85.Check.mono L88), hp89⟩
 refine ya9 S90 (OwnSl.mono ho82 L88) z kr z Xx85 (u' := { x85 with Refs := r65 }) 11 z z kr z z (fun cs hrel => (by obtain ⟨w_zz, rfl, h_zz⟩ := hrel; exact ⟨{ w_zz with Refs := ⟨a_r65, c_r65⟩ }, rfl, { h_zz with Refs := hp89 }⟩)) (fun w92 C93 S91 => (yv (S91.rd m1) (yv (Rdb.eq (by simp only [cs_qT, List.length_set]) (S91.rd m2)) (yad (S91.im.of_le le))))) ?_
 intro w92 C93 S91 ho94
 refine yae 16 z (show Value.slice a_r27 (s34.set ((i35 : Int)).toNat ({ x72 with Cols := r59 })).length c_r27 = Value.slice a_r27 ((s34.set ((i35 : Int)).toNat ({ x72 with Cols := r59 })).set ((i35 : Int)).toNat ({ x85 with Refs := r65 })).length c_r27 by simp only [List.length_set]) ?_
 refine yae 24 z (show Value.slice a_r27 (s34.set ((i35 : Int)).toNat ({ x72 with Cols := r59 })).length c_r27 = Value.slice a_r27 ((s34.set ((i35 : Int)).toNat ({ x72 with Cols := r59 })).set ((i35 : Int)).toNat ({ x85 with Refs := r65 })).length c_r27 by simp only [List.length_set]) ?_
 refine yae 27 z (show Value.slice a_r27 (s34.set ((i35 : Int)).toNat ({ x72 with Cols := r59 })).length c_r27 = Value.slice a_r27 ((s34.set ((i35 : Int)).toNat ({ x72 with Cols := r59 })).set ((i35 : Int)).toNat ({ x85 with Refs := r65 })).length c_r27 by simp only [List.length_set]) ?_
 refine yae 30 z (show Value.slice a_r27 (s34.set ((i35 : Int)).toNat ({ x72 with Cols := r59 })).length c_r27 = Value.slice a_r27 ((s34.set ((i35 : Int)).toNat ({ x72 with Cols := r59 })).set ((i35 : Int)).toNat ({ x85 with Refs := r65 })).length c_r27 by simp only [List.length_set]) ?_
 have S96 : St E w92 I87 ((C93) :: (bK b46 x45 w_x45) :: (Bx b1 (cs_qT ({ p0 with Cols := r14, Cons := ((s34.set ((i35 : Int)).toNat ({ x72 with Cols := r59 })).set ((i35 : Int)).toNat ({ x85 with Refs := r65 })) }) ({ w_p0 with Cols := ⟨a_r14, c_r14⟩, Cons := ⟨a_r27, c_r27⟩ })) 104) :: (bT b5 z_qT zw_qT) :: Os) := by have hq := S91; simp only [cs_qT, List.length_set] at hq ⊢; exact hq
 refine WO.tail z ?_
 obtain ⟨x97, R1, h0_x97, h1_x97, Xx97, ha_x97, _, _, ⟨w_x97, rfl, h_x97⟩, Zx97⟩ := sl_at (ho94.sl) R1
 refine ya5 116 12 ha_x97 h0_x97 h1_x97 ?_
 refine yg 25 1 [3] z ?_
 have hk102 : ok_qK I87 ({ x97 with Check := r71 }) ({ w_x97 with Check := w_r71 }) := ⟨h_x97.Cols, (h_r71.mono (L75.trans L88)), h_x97.Refs⟩
 refine ya9 S96 ho94 z kr z Xx97 (u' := { x97 with Check := r71 }) 3 z z kr z z (fun cs hrel => (by obtain ⟨w_zz, rfl, h_zz⟩ := hrel; exact ⟨{ w_zz with Check := w_r71 }, rfl, { h_zz with Check := (h_r71.mono le) }⟩)) tv ?_
 intro w99 C100 S98 ho101
 refine yae 16 z (show Value.slice a_r27 ((s34.set ((i35 : Int)).toNat ({ x72 with Cols := r59 })).set ((i35 : Int)).toNat ({ x85 with Refs := r65 })).length c_r27 = Value.slice a_r27 (((s34.set ((i35 : Int)).toNat ({ x72 with Cols := r59 })).set ((i35 : Int)).toNat ({ x85 with Refs := r65 })).set ((i35 : Int)).toNat ({ x97 with Check := r71 })).length c_r27 by simp only [List.length_set]) ?_
 refine yae 24 z (show Value.slice a_r27 ((s34.set ((i35 : Int)).toNat ({ x72 with Cols := r59 })).set ((i35 : Int)).toNat ({ x85 with Refs := r65 })).length c_r27 = Value.slice a_r27 (((s34.set ((i35 : Int)).toNat ({ x72 with Cols := r59 })).set ((i35 : Int)).toNat ({ x85 with Refs := r65 })).set ((i35 : Int)).toNat ({ x97 with Check := r71 })).length c_r27 by simp only [List.length_set]) ?_
 refine yae 27 z (show Value.slice a_r27 ((s34.set ((i35 : Int)).toNat ({ x72 with Cols := r59 })).set ((i35 : Int)).toNat ({ x85 with Refs := r65 })).length c_r27 = Value.slice a_r27 (((s34.set ((i35 : Int)).toNat ({ x72 with Cols := r59 })).set ((i35 : Int)).toNat ({ x85 with Refs := r65 })).set ((i35 : Int)).toNat ({ x97 with Check := r71 })).length c_r27 by simp only [List.length_set]) ?_
 refine yae 30 z (show Value.slice a_r27 ((s34.set ((i35 : Int)).toNat ({ x72 with Cols := r59 })).set ((i35 : Int)).toNat ({ x85 with Refs := r65 })).length c_r27 = Value.slice a_r27 (((s34.set ((i35 : Int)).toNat ({ x72 with Cols := r59 })).set ((i35 : Int)).toNat ({ x85 with Refs := r65 })).set ((i35 : Int)).toNat ({ x97 with Check := r71 })).length c_r27 by simp only [List.length_set]) ?_
 have S103 : St E w99 I87 ((C100) :: (bK b46 x45 w_x45) :: (Bx b1 (cs_qT ({ p0 with Cols := r14, Cons := (((s34.set ((i35 : Int)).toNat ({ x72 with Cols := r59 })).set ((i35 : Int)).toNat ({ x85 with Refs := r65 })).set ((i35 : Int)).toNat ({ x97 with Check := r71 })) }) ({ w_p0 with Cols := ⟨a_r14, c_r14⟩, Cons := ⟨a_r27, c_r27⟩ })) 104) :: (bT b5 z_qT zw_qT) :: Os) := by have hq := S98; simp only [cs_qT, List.length_set] at hq ⊢; exact hq
 exact yp (yk (ye (yag nL2 (yam i35 z (ya 1 1 z (yp (sj R1 ▸ yt ⟨I87, C100, rfl, le, S103.front1.drop.front2.front2, ho101⟩)))))))
 rintro _ w108 ⟨I32, C_s34, rfl, L33, S109, h_s34⟩
 refine yf [0] (ya 0 1 z (yb (W.seq (yas fun _ => W.exit (yn (yo (yr (ye (yf nL5 (yg 0 1 [5] z (yj (S109.rf m0) z (bsk D fun r115 Xr110 D => yai (slices_Clone_qI_ok (up h_p0.Idx) S109 Xr110) ?_))))))))))))
 rintro _ w111 ⟨I112, a_r115, c_r115, C_r115, rfl, L113, S114, h_r115⟩
 refine cv (yg 3 1 [5] z (y7 S114.front1 5 (cs_qT ({ p0 with Cols := r14, Cons := s34, Idx := r115 }) (⟨⟨a_r14, c_r14⟩, ⟨a_r27, c_r27⟩, ⟨a_r115, c_r115⟩⟩ : W_qT)) fun w118 S117 => yb (W.seq (yf nL4 (yg 0 1 [5] z (yj (S117.rf m0) z (ya 2 2 z (yb (yl (bsk D fun s122 hloop124 D => have hlt132 := (h_r115.sl).len_lt; W.wk (yat (m := r115.length) hloop124 (fun (i123 : Nat) (s122 : List qI) fr w => ∃ I120 C_s122, fr = [(1, Pt b1 0), (2, Pt b5 0), (53, Sl a_r115 s122 c_r115), (54, Nv r115.length), (55, Nv i123)] ∧ I112.Le I120 ∧ St E w I120 ((Bx b1 (cs_qT ({ p0 with Cols := r14, Cons := s34, Idx := s122 }) (⟨⟨a_r14, c_r14⟩, ⟨a_r27, c_r27⟩, ⟨a_r115, c_r115⟩⟩ : W_qT)) 104) :: (bT b5 z_qT zw_qT) :: (C_s122) :: (C_s34) :: Os) ∧ OwnSl 163 2 R_qI I120 C_s122 a_r115 c_r115 s122) ⟨I112, C_r115, rfl, lr, S117.front3.front2.front3.front3, h_r115⟩ ?_ ?_)))))))))))
 rintro i123 s122 _ w129 hi133 ⟨I120, C_s122, rfl, L121, S130, h_s122⟩ x131 R1
 refine yf [0] (ya 0 1 z (yb (W.seq (yar fun _ => W.skip (ye (W.seq (yl (yf nL6 (ya 0 1 z ?_)))))))))
 obtain ⟨x134, R1, Hx134, _, ⟨w_x134, rfl, h_x134⟩, Zx134⟩ := sl_ix (h_s122.sl) R1
 refine yaa 163 2 Hx134 z (yau ((cs_qI x134 w_x134)) Zx134 0 (S130.rf m2) z (yz S130 (cs_qI z_qI zw_qI) 163 z fun b135 w138 S137 => ya 4 1 z (y7 S137 0 (cs_qI x134 w_x134) fun w140 S139 => yb (have S141 := S139.drew; yba nL9 6 (yv (S141.rd m0) (yv (S141.rd m1) (yad S141.im))) ?_))))
 generalize World.drew _ = w142 at *
 refine yg 0 1 [5] z (yj (rd_c m1 (S141.rd m1)) z (yg 2 2 [1] z (yj (rd_c m0 (S141.rd m0)) z (bsk R1 fun r148 Xr143 R1 => yai (slices_Clone_string_ok h_x134.Cols S141 Xr143) ?_))))
 rintro _ w144 ⟨I145, a_r148, c_r148, C_r148, rfl, L146, S147, h_r148⟩
 refine ⟨_, rfl, (yv (S147.rd m1) (yv (S147.rd m2) (yad (S147.im.of_le L146)))), ?_⟩
 refine WO.tail z ?_
 obtain ⟨x149, R1, h0_x149, h1_x149, Xx149, ha_x149, _, _, ⟨w_x149, rfl, h_x149⟩, Zx149⟩ := sl_at ((h_s122.mono L146).sl) R1
 refine ya5 163 2 ha_x149 h0_x149 h1_x149 ?_
 refine yg 7 1 [1] z ?_
 obtain ⟨I150, L151, S153, hp152⟩ := yac h_r148 S147
 have hk159 : ok_qI I150 ({ x149 with Cols := r148 }) (⟨⟨a_r148, c_r148⟩⟩ : W_qI) := ⟨hp152⟩
 refine ya9 S153.front3 (OwnSl.mono h_s122 le) z kr z Xx149 (u' := { x149 with Cols := r148 }) 1 z z kr z z (fun cs hrel => (by obtain ⟨w_zz, rfl, h_zz⟩ := hrel; exact ⟨{ w_zz with Cols := ⟨a_r148, c_r148⟩ }, rfl, { h_zz with Cols := hp152 }⟩)) tv ?_
 intro w156 C157 S155 ho158
 refine yae 53 z (show Value.slice a_r115 s122.length c_r115 = Value.slice a_r115 (s122.set ((i123 : Int)).toNat ({ x149 with Cols := r148 })).length c_r115 by simp only [List.length_set]) ?_
 refine yae 61 z (show Value.slice a_r115 s122.length c_r115 = Value.slice a_r115 (s122.set ((i123 : Int)).toNat ({ x149 with Cols := r148 })).length c_r115 by simp only [List.length_set]) ?_
 have S160 : St E w156 I150 ((C157) :: (bI b135 x134 w_x134) :: (Bx b1 (cs_qT ({ p0 with Cols := r14, Cons := s34, Idx := (s122.set ((i123 : Int)).toNat ({ x149 with Cols := r148 })) }) (⟨⟨a_r14, c_r14⟩, ⟨a_r27, c_r27⟩, ⟨a_r115, c_r115⟩⟩ : W_qT)) 104) :: (bT b5 z_qT zw_qT) :: (C_s34) :: Os) := by have hq := S155; simp only [cs_qT, List.length_set] at hq ⊢; exact hq
 exact yp (yk (ye (yag nL2 (yam i123 z (ya 1 1 z (yp (sj R1 ▸ yt ⟨I150, C157, rfl, le, S160.front1.drop.front3.front1.front3.front3, ho158⟩)))))))
 rintro _ w167 ⟨I120, C_s122, rfl, L121, S168, h_s122⟩
 refine yf [0] (ya 0 1 z (yb (W.seq (yas fun _ => W.exit (yn (yo (yr (ye (yf nL2 (yx ((cs_qT ({ p0 with Cols := r14, Cons := s34, Idx := s122 }) (⟨⟨a_r14, c_r14⟩, ⟨a_r27, c_r27⟩, ⟨a_r115, c_r115⟩⟩ : W_qT))) (S168.rf m0) z ?_))))))))))
 obtain ⟨I170, L171, S173, hp172⟩ := yac (h_s34.mono (L113.trans L121)) S168.front3
 obtain ⟨I175, L176, S178, hp177⟩ := yac (h_s122.mono L171) S173.front2
 refine y7 S178.front1 0 (cs_qT ({ p0 with Cols := r14, Cons := s34, Idx := s122 }) (⟨⟨a_r14, c_r14⟩, ⟨a_r27, c_r27⟩, ⟨a_r115, c_r115⟩⟩ : W_qT)) fun w181 S180 => yb (yq ?_)
 have hk184 : ok_qT I175 ({ p0 with Cols := r14, Cons := s34, Idx := s122 }) (⟨⟨a_r14, c_r14⟩, ⟨a_r27, c_r27⟩, ⟨a_r115, c_r115⟩⟩ : W_qT) := ⟨(RSl.mono hp17 (((((L25.trans L33).trans L113).trans L121).trans L171).trans L176)), (RSl.mono hp172 L176), hp177⟩
 exact sj D ▸ En.c1 _ (S180.rd m0) ⟨I175, (⟨⟨a_r14, c_r14⟩, ⟨a_r27, c_r27⟩, ⟨a_r115, c_r115⟩⟩ : W_qT), rfl, le, S180.d2, hk184⟩
def catalog_Find_1 (p0 : qT) (q1 : By8) : Option Bool := some (sEq p0.Name q1)
theorem catalog_Find_1_ok {p0 : qT} {q1 : By8} {w_p0 : W_qT} {kb1 : Nat} (h_p0 : ok_qT I p0 w_p0) (hm1 : (Bx kb1 [(.string q1)] 9) ∈ Os) (hS : St E w I Os) {r : Bool} (D : catalog_Find_1 p0 q1 = some r) :
    Calls P 71 #[(vT p0 w_p0), (Pt kb1 0)] w (RT E I Os (.bool r)) := by
 refine calls_W (fn := Tryz.f71) rfl rfl rfl ?_
 unfold catalog_Find_1 at D
 exact yf nL2 (yz hS (cs_qT p0 w_p0) 104 z fun b1 w4 S3 => ya 1 1 z (y0 nL5 (yg 0 1 [0] z (yj (S3.rf m0) z (yj (rd_f (S3.rd (List.Mem.tail _ hm1))) z (ya 3 2 z (yb (yq (sj D ▸ yw ⟨I, rfl, lr, S3.drop⟩)))))))))
noncomputable def catalog_Find (p0 : qC) (p1 : By8) : Option (qT × Bool) := (slices_IndexFunc_qT p0.Tables (fun (u0 : qT) => catalog_Find_1 u0 p1)).bind (fun r18 => (bif (decide (r18 ≥ 0)) then (idx p0.Tables r18).bind (fun x19 => (table_Clone x19).bind (fun r25 => some (r25, true))) else some (z_qT, false)))
theorem catalog_Find_ok {p0 : qC} {p1 : By8} {w_p0 : W_qC} (h_p0 : ok_qC I p0 w_p0) (hS : St E w I Os) {r : qT × Bool} (D : catalog_Find p0 p1 = some r) :
    Calls P 51 #[(vC p0 w_p0), (.string p1)] w (fun e w' => ∃ I' w_rw0, e = .returned (.tuple #[(vT r.1 w_rw0), (.bool r.2)]) ∧ I.Le I' ∧ St E w' I' Os ∧ ok_qT I' r.1 w_rw0) := by
 refine calls_W (fn := Tryz.f51) rfl rfl rfl ?_
 unfold catalog_Find at D
 refine yf nL4 (yz hS (cs_qC p0 w_p0) 33 z fun b1 w4 S3 => yz S3 [(.string p1)] 9 z fun b5 w8 S7 => yz S7 (cs_qT z_qT zw_qT) 104 z fun b9 w12 S11 => ya 3 1 z (yb (W.seq (yf nL5 (yg 0 1 [1] z (yj (S11.rf m2) z (y8 2 9 (.func (.func 71) #[] #[(Pt b5 0)]) (bsk D fun r18 Xr13 D => WO.c1 (slices_IndexFunc_qT_ok h_p0.Tables (fun {F Ic wc} {_} {_} hlc hSc h_u0 {rc} hrc => catalog_Find_1_ok h_u0 (List.mem_append_right _ m1) hSc hrc) (fun _ _ => by kernel_rfl) S11 Xr13) z fun I15 w14 L16 S17 => ya 4 1 z (y0 nL2 (ya 0 2 z (yb (yy D (fun G D => ?_) (fun G D => ?_)))))))))))))
 refine yf nL8 (yg 0 1 [1] z (yj (S17.rf m2) z (ya 2 1 z ?_)))
 obtain ⟨x19, D, Hx19, _, ⟨w_x19, rfl, h_x19⟩, Zx19⟩ := sx I15 h_p0.Tables D
 refine yaa 104 6 Hx19 z (yau ((cs_qT x19 w_x19)) Zx19 0 S17.rm z (bsk D fun r25 Xr20 D => yai (table_Clone_ok h_x19 S17 Xr20) ?_))
 rintro _ w21 ⟨I22, w_r25, rfl, L23, S24, h_r25⟩
 exact cv (y7 S24 0 (cs_qT r25 w_r25) fun w27 S26 => ya 7 1 z (yb (yq (yh (sj D ▸ ya1 _ (S26.rd m0) ⟨I22, w_r25, rfl, le, S26.d3, h_r25⟩)))))
 exact W.skip (ye (yf nL3 (y8 0 19 (vT z_qT zw_qT) (y7 S17 0 (cs_qT z_qT zw_qT) fun w32 S31 => ya 2 1 z (yb (yq (sj D ▸ ya1 _ (S31.rd m0) ⟨I15, zw_qT, rfl, L16, S31.d3, zok_qT⟩)))))))
def slices_IndexFunc_qJ (p0 : List qJ) (p1 : qJ → Option Bool) : Option Int := (forN (fun (i4 : Nat) (_s : Unit) => (idx p0 (i4 : Int)).bind (fun x11 => (p1 x11).bind (fun (r17 : Bool) => (bif r17 then some (.inr (i4 : Int)) else some (.inl ()))))) p0.length 0 ()).bind (fun (t : Unit ⊕ (Int)) => match t with | .inl _ => some (-1) | .inr s19 => some s19)
theorem slices_IndexFunc_qJ_ok {p0 : List qJ} {p1 : qJ → Option Bool} {a_p0 : Option Addr} {c_p0 : Nat} {g_p1 : FuncId} {k_p1 : List Value} (h_p0 : RSl 2 R_qJ I a_p0 c_p0 p0) (h_p1 : ∀ {F : List Mem} {I' : Mem} {w : World} {u0 : qJ} {w_u0 : W_qJ}, I.Le I' → St E w I' (F ++ Os) → ok_qJ I' u0 w_u0 → ∀ {r : Bool}, p1 u0 = some r → Calls P g_p1 (([(vJ u0 w_u0)] : List Value) ++ k_p1).toArray w (fun e w' => ∃ (I'' : Mem), e = .returned (.bool r) ∧ I'.Le I'' ∧ St E w' I'' (F ++ Os))) (hcall_p1 : Callable P g_p1) (hS : St E w I Os) {r : Int} (D : slices_IndexFunc_qJ p0 p1 = some r) :
    Calls P 96 #[(Sl a_p0 p0 c_p0), (.func (.func g_p1) #[] k_p1.toArray)] w (RT E I Os (Iv r)) := by
 refine calls_W (fn := Tryz.f96) rfl rfl rfl ?_
 unfold slices_IndexFunc_qJ at D
 refine yf [0] (ya 0 1 z (yb (W.seq (yf nL3 (ya 0 3 z (yb (yl (bsk D fun t1 hloop5 D => have hlt9 := (h_p0).len_lt; W.wk (yap (m := p0.length) hloop5 (fun (i4 : Nat) (_s : Unit) => JI E I [(0, Sl a_p0 p0 c_p0), (1, .func (.func g_p1) #[] k_p1.toArray), (7, Nv p0.length), (8, Nv i4)] Os) ⟨I, rfl, lr, hS⟩ ?_ ?_)))))))))
 rintro i4 _ _ w6 hi10 ⟨I2, rfl, L3, S7⟩ x8 R1 hext1
 refine yf [0] (ya 0 1 z (yb (W.seq (yar fun _ => W.skip (ye (W.seq (yl (yf nL2 (ya 0 2 z (y0 nL6 (y8 0 11 (.func (.func g_p1) #[] k_p1.toArray) (ya 1 2 z ?_))))))))))))
 obtain ⟨x11, R1, Hx11, _, ⟨w_x11, rfl, h_x11⟩, Zx11⟩ := sx I2 h_p0 R1
 refine yaa 74 2 Hx11 z (yau ((cs_qJ x11 w_x11)) Zx11 0 S7.rm z (bsk R1 fun r17 Xr12 R1 => WO.callv z kr z (g := g_p1) (kk := k_p1) (args := [(vJ x11 w_x11)]) z kr hcall_p1 (h_p1 (F := []) L3 S7 h_x11 Xr12) ?_))
 rintro _ w13 ⟨I14, rfl, L15, S16⟩
 refine cv (yb (yy R1 (fun G R1 => ?_) (fun G R1 => ?_)))
 refine yf nL2 (ya 0 2 z (yb (yq (ym (yh (yu ?_))))))
 obtain rfl := hext1 _ (sj R1).symm
 exact ym (yh (sj D ▸ yw ⟨I14, rfl, le, S16⟩))
 exact W.skip (yk (ye (yag nL2 (yam i4 z (ya 1 1 z (yp (yt ⟨(), (sj R1).symm, I14, rfl, le, S16⟩)))))))
 rintro _ _ w20 ⟨I2, rfl, L3, S21⟩ he
 cases he
 exact yf [0] (ya 0 1 z (yb (W.seq (yas fun _ => W.exit (yn (yo (yr (ye (yf [0] (ya 0 1 z (yb (yq (sj D ▸ yw ⟨I2, rfl, L3, S21⟩)))))))))))))
def member_at_1 (p0 : qJ) (q1 : By8) : Option Bool := some (sEq p0.Name q1)
theorem member_at_1_ok {p0 : qJ} {q1 : By8} {w_p0 : W_qJ} {kb1 : Nat} (h_p0 : ok_qJ I p0 w_p0) (hm1 : (Bx kb1 [(.string q1)] 9) ∈ Os) (hS : St E w I Os) {r : Bool} (D : member_at_1 p0 q1 = some r) :
    Calls P 97 #[(vJ p0 w_p0), (Pt kb1 0)] w (RT E I Os (.bool r)) := by
 refine calls_W (fn := Tryz.f97) rfl rfl rfl ?_
 unfold member_at_1 at D
 exact yf nL2 (yz hS (cs_qJ p0 w_p0) 74 z fun b1 w4 S3 => ya 1 1 z (y0 nL5 (yg 0 1 [0] z (yj (S3.rf m0) z (yj (rd_f (S3.rd (List.Mem.tail _ hm1))) z (ya 3 2 z (yb (yq (sj D ▸ yw ⟨I, rfl, lr, S3.drop⟩)))))))))
def member_at (p0 : List qJ) (p1 : By8) : Option Int := (slices_IndexFunc_qJ p0 (fun (u0 : qJ) => member_at_1 u0 p1)).bind (fun r10 => some r10)
theorem member_at_ok {p0 : List qJ} {p1 : By8} {a_p0 : Option Addr} {c_p0 : Nat} (h_p0 : RSl 2 R_qJ I a_p0 c_p0 p0) (hS : St E w I Os) {r : Int} (D : member_at p0 p1 = some r) :
    Calls P 63 #[(Sl a_p0 p0 c_p0), (.string p1)] w (RT E I Os (Iv r)) := by
 refine calls_W (fn := Tryz.f63) rfl rfl rfl ?_
 unfold member_at at D
 exact yf nL2 (yz hS [(.string p1)] 9 z fun b1 w4 S3 => ya 1 1 z (y0 nL4 (ya 0 1 z (y8 1 6 (.func (.func 97) #[] #[(Pt b1 0)]) (bsk D fun r10 Xr5 D => WO.c1 (slices_IndexFunc_qJ_ok h_p0 (fun {F Ic wc} {_} {_} hlc hSc h_u0 {rc} hrc => member_at_1_ok h_u0 (List.mem_append_right _ m0) hSc hrc) (fun _ _ => by kernel_rfl) S3 Xr5) z fun I7 w6 L8 S9 => ya 3 1 z (yb (yq (sj D ▸ yw ⟨I7, rfl, L8, S9.drop⟩))))))))
def member_Find (p0 : List qJ) (p1 : By8) : Option (qJ × Bool) := (member_at p0 p1).bind (fun r10 => (bif (decide (r10 < 0)) then some (z_qJ, false) else (idx p0 r10).bind (fun x16 => (idx p0 r10).bind (fun x17 => (slices_Clone_string x17.In).bind (fun r23 => some ({ x16 with In := r23 }, true))))))
theorem member_Find_ok {p0 : List qJ} {p1 : By8} {a_p0 : Option Addr} {c_p0 : Nat} (h_p0 : RSl 2 R_qJ I a_p0 c_p0 p0) (hS : St E w I Os) {r : qJ × Bool} (D : member_Find p0 p1 = some r) :
    Calls P 43 #[(Sl a_p0 p0 c_p0), (.string p1)] w (fun e w' => ∃ I' w_rw0, e = .returned (.tuple #[(vJ r.1 w_rw0), (.bool r.2)]) ∧ I.Le I' ∧ St E w' I' Os ∧ ok_qJ I' r.1 w_rw0) := by
 refine calls_W (fn := Tryz.f43) rfl rfl rfl ?_
 unfold member_Find at D
 refine yf nL2 (yz hS (cs_qJ z_qJ zw_qJ) 74 z fun b1 w4 S3 => ya 1 1 z (y0 nL4 (ya 0 2 z (bsk D fun r10 Xr5 D => WO.c1 (member_at_ok h_p0 S3 Xr5) z fun I7 w6 L8 S9 => ya 3 1 z (yb (W.seq (yf nL2 (ya 0 2 z (yb (yy D (fun G D => ?_) (fun G D => ?_)))))))))))
 exact yf nL3 (y8 0 12 (vJ z_qJ zw_qJ) (y7 S9 0 (cs_qJ z_qJ zw_qJ) fun w12 S11 => ya 2 1 z (yb (yq (yh (sj D ▸ ya1 _ (S11.rd m0) ⟨I7, zw_qJ, rfl, L8, S11.drop, zok_qJ⟩))))))
 refine W.skip (ye (W.seq (have S14 := S9.drew; yba nL14 11 (yad S14.im) ?_)))
 generalize World.drew _ = w15 at *
 refine ya 0 2 z ?_
 obtain ⟨x16, D, Hx16, _, ⟨w_x16, rfl, h_x16⟩, Zx16⟩ := sx I7 h_p0 D
 refine yaa 74 2 Hx16 z (yg 3 1 [0] z (yao Zx16 (rd_i S14.im) z (ya 5 2 z ?_)))
 obtain ⟨x17, D, Hx17, _, ⟨w_x17, rfl, h_x17⟩, Zx17⟩ := sx I7 h_p0 D
 refine yaa 74 2 Hx17 z (yg 8 1 [1] z (yaz Zx17 1 (rd_i S14.im) z (bsk D fun r23 Xr18 D => yai (slices_Clone_string_ok h_x17.In S14 Xr18) ?_)))
 rintro _ w19 ⟨I20, a_r23, c_r23, C_r23, rfl, L21, S22, h_r23⟩
 refine ⟨_, rfl, (yad (S22.im.of_le L21)), ?_⟩
 refine WO.tail z ?_
 obtain ⟨I24, L25, S27, hp26⟩ := yac h_r23 S22
 refine y8 11 24 (.agg (cs_qJ ({ x16 with In := r23 }) (⟨⟨a_r23, c_r23⟩⟩ : W_qJ)).toArray) (y7 S27 0 (cs_qJ ({ x16 with In := r23 }) (⟨⟨a_r23, c_r23⟩⟩ : W_qJ)) fun w29 S28 => ya 13 1 z (yb (yq ?_)))
 have hk31 : ok_qJ I24 ({ x16 with In := r23 }) (⟨⟨a_r23, c_r23⟩⟩ : W_qJ) := ⟨hp26⟩
 exact sj D ▸ ya1 _ (S28.rd m0) ⟨I24, (⟨⟨a_r23, c_r23⟩⟩ : W_qJ), rfl, le, S28.drop, hk31⟩
theorem sorted66_67_ok {ν : Type} {val : Mem → Value → ν → Prop} {E w : World} {I C : Mem} {Os : List Mem} {m b : Nat} {l : List (By8 × ν)} (h : OwnMap Value.string val I C m l) (hS : St E w I (Gv.one b (.cells #[.map (some m)] 125 (0, 0)) :: C :: Os)) {r : List By8} (D : keysO l = some r) :
    Calls P 66 #[.func (.func 100) #[] #[.pointer (some ⟨b, 0, none⟩)]] w (fun e w' => ∃ (I' : Mem) (a : Option Addr) (c : Nat), e = .returned (.slice a r.length c) ∧ I.Le I' ∧ St E w' I' (Gv.one b (.cells #[.map (some m)] 125 (0, 0)) :: C :: Os) ∧ RSl 1 RStr I' a c r) :=
  keys_own h hS (kt := 9) kr (fun b' nn D0 R w h1 h2 h3 h4 h5 => Tryz.sortedAt66_67 b b' nn D0 R w h1 h2 h3 h4 h5) D
theorem keys67_ok {m : Nat} (hS : St E w I Os) : Calls P 67 #[.map (some m)] w (fun e w' => ∃ b, e = .returned (.func (.func 100) #[] #[.pointer (some ⟨b, 0, none⟩)]) ∧ St E w' I (Gv.one b (.cells #[.map (some m)] 125 (0, 0)) :: Os)) := by
  refine (Tryz.maps_Keys_67 (some m) w).mono ?_
  rintro e w' ⟨rfl, rfl⟩
  exact ⟨_, rfl, hS.alloc _⟩
end Go.Proofs.YtlfphpegelclpaaGreat
