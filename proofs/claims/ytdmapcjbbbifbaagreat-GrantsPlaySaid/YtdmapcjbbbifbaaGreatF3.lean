/- What functions of the program come to, each by a plain one. Conditions: none. -/
import Derived.Test.YtdmapcjbbbifbaaGreatF2
import Derived.Test.YtdmapcjbbbifbaaGreatProg
set_option maxRecDepth 100000
namespace Go.Proofs.YtdmapcjbbbifbaaGreat
open Go.Gv
set_option maxHeartbeats 1000000
variable {E w : World} {I : Mem} {Os : List Mem}
noncomputable def r14_Check (p0 : qT) : Option Int := (r14_wrong p0).bind (fun r10 => (bif (r10 != 0) then some r10 else (r14_Names p0).bind (fun (r17, r18) => (r14_Used p0).bind (fun r24 => (forN (fun (i28 : Nat) (_s : Unit) => (idx r24 (i28 : Int)).bind (fun x35 => (r14_Has r17 x35).bind (fun r41 => (bif (!r41) then some (.inr (4 : Int)) else some (.inl ()))))) r24.length 0 ()).bind (fun (t : Unit ⊕ (Int)) => match t with | .inl _ => (forN (fun (i52 : Nat) (s51 : Bool) => ((idx p0.Cons (i52 : Int)).bind (fun x63 => (bif (x63.Kind != 2) then some (.inl s51) else (idx p0.Cons (i52 : Int)).bind (fun x65 => (r10_Check x65.Check false).bind (fun r71 => (bif (r71 == 17) then some (.inr 17) else ((bif (s51 || (r71 != 0)) then some true else (idx p0.Cons (i52 : Int)).bind (fun x85 => (r10_Params x85.Check).bind (fun r91 => some (decide (r91 > 0)))))).bind (fun (j81 : Bool) => some (.inl j81)))))))).bind (fun (t : Bool ⊕ Int) => match t with | (.inl s64) => some (.inl s64) | (.inr s73) => some (.inr s73))) p0.Cons.length 0 false).bind (fun (t : Bool ⊕ (Int)) => match t with | .inl s51 => (bif s51 then some 2 else (forN (fun (i102 : Nat) (_s : Unit) => (idx p0.Cons (i102 : Int)).bind (fun x109 => ((bif (x109.Kind != 2) then (r12_None x109.Check).bind (fun r125 => some (!r125)) else some false)).bind (fun (j116 : Bool) => (some (j116 || ((x109.Kind == 2) && (decide ((x109.Cols.length : Int) > 0))))).bind (fun (q132 : Bool) => (bif q132 then some (.inr (2 : Int)) else ((bif (x109.Kind == 3) then (r09_IsName x109.Table).bind (fun r151 => (some ((!r151) || ((x109.Refs.length : Int) != (x109.Cols.length : Int)))).bind (fun (q152 : Bool) => some q152)) else some false)).bind (fun (j142 : Bool) => (some (j142 || ((x109.Kind != 3) && ((!sEq x109.Table eB) || (decide ((x109.Refs.length : Int) > 0)))))).bind (fun (q163 : Bool) => (bif q163 then some (.inr (2 : Int)) else some (.inl ()))))))))) p0.Cons.length 0 ()).bind (fun (t : Unit ⊕ (Int)) => match t with | .inl _ => some 0 | .inr s138 => some s138)) | .inr s75 => some s75) | .inr s43 => some s43)))))
theorem r14_Check_ok {p0 : qT} {w_p0 : W_qT} (h_p0 : ok_qT I p0 w_p0) (hS : St E w I Os) {r : Int} (D : r14_Check p0 = some r) :
    Calls P 90 #[(vT p0 w_p0)] w (RT E I Os (Iv r)) := by
 refine calls_W (fn := Tryz.f90) rfl rfl rfl ?_
 unfold r14_Check at D
 refine yf nL2 (yad hS (cs_qT p0 w_p0) 89 z fun b1 w4 S3 => ya 1 1 z (yz nL3 (yab ((cs_qT p0 w_p0)) (S3.rf m0) z (bsk D fun r10 Xr5 D => WO.c1 (r14_wrong_ok h_p0 S3 Xr5) z fun I7 w6 L8 S9 => ya 2 1 z (yb (yi (yf nL2 (ya 0 2 z (yb (y6 D (fun G D => ?_) (fun G D => ?_)))))))))))
 exact yf nL2 (ya 0 2 z (yb (yp (ye (sj D ▸ yy ⟨I7, rfl, L8, S9.drop⟩)))))
 refine ym (yc (yf nL7 (yab ((cs_qT p0 w_p0)) (S9.rf m0) z ?_)))
 obtain ⟨⟨r17, r18⟩, Xr12, D⟩ := bsm D
 refine yaj (r14_Names_ok (h_p0.mono L8) S9 Xr12) ?_
 rintro _ w13 ⟨I14, a_r17, c_r17, a_r18, c_r18, rfl, L15, S16, h_r17, h_r18⟩
 refine cv (ya 2 5 z (yz nL3 (yab ((cs_qT p0 w_p0)) (S16.rf m0) z (bsk D fun r24 Xr19 D => yaj (r14_Used_ok (h_p0.mono le) S16 Xr19) ?_))))
 rintro _ w20 ⟨I21, a_r24, c_r24, rfl, L22, S23, h_r24⟩
 refine cv (ya 2 1 z (yb (yi (yf [0] (ya 0 1 z (yb (yo (bsk D fun t25 hloop29 D => have hlt33 := (h_r24).len_lt; W.wk (yas (m := r24.length) hloop29 (fun (i28 : Nat) (_s : Unit) => JI E I21 [(1, Pt b1 0), (4, Sl a_r17 r17 c_r17), (6, Sl a_r24 r24 c_r24), (7, Nv i28)] (bT b1 p0 w_p0 :: Os)) ⟨I21, rfl, lr, S23⟩ ?_ ?_)))))))))
 rintro i28 _ _ w30 hi34 ⟨I26, rfl, L27, S31⟩ x32 R1 hext25
 refine yi (yf nL4 (ya 0 4 z (yb (yaw fun _ => ym (yc (yi (yo (yf nL7 (ya 0 3 z ?_)))))))))
 obtain ⟨x35, R1, Hx35, _, rfl, Zx35⟩ := sx I26 h_r24 R1
 refine yac 9 1 Hx35 z (yar Zx35 S31.rm z (bsk R1 fun r41 Xr36 R1 => WO.c1 (r14_Has_ok (up h_r17) S31 Xr36) z fun I38 w37 L39 S40 => ya 6 1 z (yb (y6 R1 (fun G R1 => ?_) (fun G R1 => ?_)))))
 refine yf [0] (ya 0 1 z (yb (yp (yl (ye (yw ?_))))))
 obtain rfl := hext25 _ (sj R1).symm
 exact yl (ye (sj D ▸ yy ⟨I38, rfl, le, S40.drop⟩))
 exact ym (yn (yc (yak nL3 (ya 0 1 z (yaq i28 z (ya 2 1 z (yq (yx ⟨(), (sj R1).symm, I38, rfl, le, S40⟩))))))))
 rintro _ _ w46 ⟨I26, rfl, L27, S47⟩ he
 cases he
 refine yi (yf nL4 (ya 0 4 z (yb (yax fun _ => yae (yr (yu (yv (yc (yf [0] (ya 0 1 z (yb (yi (yf [0] (ya 0 1 z (yb (yo (bsk D fun t48 hloop53 D => have hlt57 := ((RSl.mono h_p0.Cons (((L8.trans L15).trans L22).trans L27))).len_lt; W.wk (yas (m := p0.Cons.length) hloop53 (fun (i52 : Nat) (s51 : Bool) => JI E I26 [(1, Pt b1 0), (8, .bool s51), (9, Nv i52)] (bT b1 p0 w_p0 :: Os)) ⟨I26, rfl, lr, S47⟩ ?_ ?_))))))))))))))))))
 rintro i52 s51 _ w54 hi58 ⟨I49, rfl, L50, S55⟩ x56 R1 hext48
 refine yi (yf nL5 (yg 0 2 [4] z (yj (S55.rf m0) z (ya 3 2 z (yb (yaw fun _ => ym (yc (yi (bsk R1 fun j59 R2 R1 => ya0 (J := (fun fr w => ∃ (s64 : Bool), ∃ I61, (.inl s64) = j59 ∧ fr = [(1, Pt b1 0), (8, .bool s64), (9, Nv i52)] ∧ I49.Le I61 ∧ St E w I61 (bT b1 p0 w_p0 :: Os))) ?_ ?_)))))))))
 refine yo (yi (yf nL7 (yg 0 1 [4] z (yj (S55.rf m0) z (ya 2 1 z ?_)))))
 obtain ⟨x63, R2, Hx63, _, ⟨w_x63, rfl, h_x63⟩, Zx63⟩ := sx I49 h_p0.Cons R2
 refine yac 100 12 Hx63 z (yg 4 1 [1] z (ya2 Zx63 1 S55.rm z (ya 6 1 z (yb (y6 R2 (fun G R2 => ?_) (fun G R2 => ?_))))))
 exact yae (yr (yv (yx ⟨s51, I49, sj R2, rfl, lr, S55⟩)))
 refine ym (yc (yf nL8 (yg 0 1 [4] z (yj (S55.rf m0) z (ya 2 1 z ?_)))))
 obtain ⟨x65, R2, Hx65, _, ⟨w_x65, rfl, h_x65⟩, Zx65⟩ := sx I49 h_p0.Cons R2
 refine yac 100 12 Hx65 z (yg 4 1 [3] z (yau ((cs_qE x65.Check w_x65.Check)) Zx65 3 S55.rm z (bsk R2 fun r71 Xr66 R2 => WO.c1 (r10_Check_ok h_x65.Check S55 Xr66) z fun I68 w67 L69 S70 => ya 7 1 z (yb (yi (yf nL2 (ya 0 2 z (yb (y6 R2 (fun G R2 => ?_) (fun G R2 => ?_))))))))))
 refine yf [0] (ya 0 1 z (yb (yp (ye (yl (yw ?_))))))
 obtain rfl := sj R2
 refine ye (yw ?_)
 obtain rfl := hext48 _ (sj R1).symm
 exact yl (ye (sj D ▸ yy ⟨I68, rfl, le, S70.drop⟩))
 refine ym (yc (yak nL16 (ya 0 2 z (ya3 [2, 3] 4 62 65 (.refl (s51 || (r71 != 0))) (fun _ => ya 2 3 z yal) (ya 5 1 z (bsk R2 fun j81 R3 R2 => yap (l1 := [6, 7, 8, 9, 10, 11, 12, 13, 14]) (J := JI E I68 [(1, Pt b1 0), (9, Nv i52), (75, .bool j81)] (bT b1 p0 w_p0 :: Os)) ?_ ?_))))))
 refine yao R3 (fun G R3 => ?_) (fun G R3 => ?_)
 refine y4 66 G ?_
 iterate 8 refine yan ?_
 exact ya 14 1 z (sj R3 ▸ y3 ⟨I68, rfl, lr, S70⟩)
 refine y4 66 G (yg 6 1 [4] z (yj (S70.rf m0) z (ya 8 1 z ?_)))
 obtain ⟨x85, R3, Hx85, _, ⟨w_x85, rfl, h_x85⟩, Zx85⟩ := sx I68 h_p0.Cons R3
 exact yac 100 12 Hx85 z (yg 10 1 [3] z (yau ((cs_qE x85.Check w_x85.Check)) Zx85 3 S70.rm z (bsk R3 fun r91 Xr86 R3 => WO.c1 (r10_Params_ok h_x85.Check S70 Xr86) z fun I88 w87 L89 S90 => ya 13 2 z (sj R3 ▸ y3 ⟨I88, rfl, L89, S90⟩))))
 rintro _ w92 ⟨I83, rfl, L84, S93⟩
 exact ya 15 1 z (yq (yn (yx ⟨j81, I83, sj R2, rfl, le, S93⟩)))
 rintro _ w94 ⟨s64, I61, rfl, rfl, L62, S95⟩
 exact yc (yak nL3 (ya 0 1 z (yaq i52 z (ya 2 1 z (yq (yx ⟨s64, (sj R1).symm, I61, rfl, le, S95⟩))))))
 rintro s51 _ w96 ⟨I49, rfl, L50, S97⟩ he
 cases he
 refine yi (yf nL5 (yg 0 2 [4] z (yj (S97.rf m0) z (ya 3 2 z (yb (yax fun _ => yae (yr (yu (yv (yc (yi (yf [0] (ya 0 1 z (yb (y6 D (fun G D => ?_) (fun G D => ?_))))))))))))))))
 exact yf [0] (ya 0 1 z (yb (yp (ye (sj D ▸ yy ⟨I49, rfl, le, S97.drop⟩)))))
 refine ym (yc (yi (yf [0] (ya 0 1 z (yb (yo (bsk D fun t99 hloop103 D => have hlt107 := ((RSl.mono h_p0.Cons ((((L8.trans L15).trans L22).trans L27).trans L50))).len_lt; W.wk (yas (m := p0.Cons.length) hloop103 (fun (i102 : Nat) (_s : Unit) => JI E I49 [(1, Pt b1 0), (11, Nv i102)] (bT b1 p0 w_p0 :: Os)) ⟨I49, rfl, lr, S97⟩ ?_ ?_))))))))
 rintro i102 _ _ w104 hi108 ⟨I100, rfl, L101, S105⟩ x106 R1 hext99
 refine yi (yf nL5 (yg 0 2 [4] z (yj (S105.rf m0) z (ya 3 2 z (yb (yaw fun _ => ym (yc (yi (yo (yf nL7 (yg 0 1 [4] z (yj (S105.rf m0) z (ya 2 1 z ?_)))))))))))))
 obtain ⟨x109, R1, Hx109, _, ⟨w_x109, rfl, h_x109⟩, Zx109⟩ := sx I100 h_p0.Cons R1
 refine yac 100 12 Hx109 z (yau ((cs_qK x109 w_x109)) Zx109 0 S105.rm z (yad S105 (cs_qK z_qK zw_qK) 100 z fun b110 w113 S112 => yaf S112 0 (cs_qK x109 w_x109) fun w115 S114 => yb (yi (yf nL20 (yg 0 1 [1] z (yj (S114.rf m0) z (ya 2 2 z (bsk R1 fun j116 R2 R1 => yap (l1 := [4, 5, 6, 7, 8]) (J := JI E I100 [(1, Pt b1 0), (11, Nv i102), (12, Pt b110 0), (97, .bool j116)] (bT b1 p0 w_p0 :: (bK b110 x109 w_x109) :: Os)) ?_ ?_))))))))
 refine yao R2 (fun G R2 => ?_) (fun G R2 => ?_)
 exact y4 92 G (yg 4 1 [3] z (yab ((cs_qE x109.Check w_x109.Check)) (S114.rf m0) z (bsk R2 fun r125 Xr120 R2 => WO.c1 (r12_None_ok h_x109.Check S114 Xr120) z fun I122 w121 L123 S124 => ya 7 2 z (sj R2 ▸ y3 ⟨I122, rfl, L123, S124.front1⟩))))
 refine y4 92 G ?_
 iterate 4 refine yan ?_
 exact ya 8 1 z (sj R2 ▸ y3 ⟨I100, rfl, lr, S114.front1⟩)
 rintro _ w128 ⟨I118, rfl, L119, S129⟩
 refine ya 9 1 z (bsq R1 fun q132 Xq132 R1 => ya3 [10, 11, 12, 13, 14, 15, 16, 17, 18] 19 98 108 Xq132 (fun _ => yg 10 1 [1] z (yj (S129.rf m1) z (ya 12 2 z (yay [14, 15, 16, 17] 18 102 107 (.refl ((x109.Kind == 2) && (decide ((x109.Cols.length : Int) > 0)))) (fun _ => yg 14 1 [2] z (yj (S129.rf m1) z (ya 16 3 z yal))) (ya 19 1 z yal))))) (yb (y6 R1 (fun G R1 => ?_) (fun G R1 => ?_))))
 refine yf [0] (ya 0 1 z (yb (yp (ye (yl (ye (yw ?_)))))))
 obtain rfl := hext99 _ (sj R1).symm
 exact yl (ye (sj D ▸ yy ⟨I118, rfl, le, S129.d2⟩))
 refine ym (yc (yf nL34 (yg 0 1 [1] z (yj (S129.rf m1) z (ya 2 2 z (bsk R1 fun j142 R2 R1 => yap (l1 := [4, 5, 6, 7, 8, 9, 10, 11, 12, 13, 14, 15, 16, 17]) (J := JI E I118 [(1, Pt b1 0), (11, Nv i102), (12, Pt b110 0), (126, .bool j142)] (bT b1 p0 w_p0 :: (bK b110 x109 w_x109) :: Os)) ?_ ?_))))))
 refine yao R2 (fun G R2 => ?_) (fun G R2 => ?_)
 exact y4 112 G (yg 4 1 [10] z (yj (S129.rf m1) z (bsk R2 fun r151 Xr146 R2 => WO.c1 (r09_IsName_ok  S129 Xr146) z fun I148 w147 L149 S150 => ya 7 2 z (bsq R2 fun q152 Xq152 R2 => ya3 [9, 10, 11, 12, 13, 14, 15] 16 117 125 Xq152 (fun _ => yg 9 1 [11] z (yj (S150.rf m1) z (yg 11 2 [2] z (yj (S150.rf m1) z (ya 14 3 z yal))))) (ya 17 1 z (sj R2 ▸ y3 ⟨I148, rfl, L149, S150⟩))))))
 refine y4 112 G ?_
 iterate 13 refine yan ?_
 exact ya 17 1 z (sj R2 ▸ y3 ⟨I118, rfl, lr, S129⟩)
 rintro _ w155 ⟨I144, rfl, L145, S156⟩
 refine ya 18 1 z (bsq R1 fun q163 Xq163 R1 => ya3 [19, 20, 21, 22, 23, 24, 25, 26, 27, 28, 29, 30, 31, 32] 33 127 142 Xq163 (fun _ => yg 19 1 [1] z (yj (S156.rf m1) z (ya 21 2 z (yay [23, 24, 25, 26, 27, 28, 29, 30, 31] 32 131 141 (.refl ((x109.Kind != 3) && ((!sEq x109.Table eB) || (decide ((x109.Refs.length : Int) > 0))))) (fun _ => yg 23 1 [10] z (yj (S156.rf m1) z (ya 25 2 z (ya3 [27, 28, 29, 30] 31 135 140 (.refl ((!sEq x109.Table eB) || (decide ((x109.Refs.length : Int) > 0)))) (fun _ => yg 27 1 [11] z (yj (S156.rf m1) z (ya 29 3 z yal))) (ya 32 1 z yal))))) (ya 33 1 z yal))))) (yb (y6 R1 (fun G R1 => ?_) (fun G R1 => ?_))))
 refine yf [0] (ya 0 1 z (yb (yp (yl (ye (yw ?_))))))
 obtain rfl := hext99 _ (sj R1).symm
 exact yl (ye (sj D ▸ yy ⟨I144, rfl, le, S156.d2⟩))
 exact ym (yn (yc (yak nL3 (ya 0 1 z (yaq i102 z (ya 2 1 z (yq (yx ⟨(), (sj R1).symm, I144, rfl, le, S156.front1.drop⟩))))))))
 rintro _ _ w176 ⟨I100, rfl, L101, S177⟩ he
 cases he
 exact yi (yf nL5 (yg 0 2 [4] z (yj (S177.rf m0) z (ya 3 2 z (yb (yax fun _ => yae (yr (yu (yv (yc (yf [0] (ya 0 1 z (yb (yp (sj D ▸ yy ⟨I100, rfl, le, S177.drop⟩)))))))))))))))
def r15_Place_fu : Nat → qT → qE → Option qE
  | 0, _, _ => none
  | fu + 1, p0, p1 => (bif (p1.Kind == 2) then (r14_Col p0 p1.Name).bind (fun r18 => some { z_qE with Kind := 8, Op := r18 }) else (forE (fun (i35 : Nat) (s34 : List qE) => (idx p1.Kids (i35 : Int)).bind (fun x50 => (r15_Place_fu fu p0 x50).bind (fun r56 => (app 88 s34 ([r56] : List qE)).bind (fun x65 => some x65)))) p1.Kids.length 0 ([] : List qE)).bind (fun s34 => some { p1 with Kids := s34 }))
noncomputable def r15_Place (p0 : qT) (p1 : qE) : Option qE := anyFuel (fun fu => r15_Place_fu fu p0 p1)
theorem r15_Place_fu_ok : ∀ (fu : Nat) {E w : World} {I : Mem} {Os : List Mem} {p0 : qT} {p1 : qE} {w_p0 : W_qT} {w_p1 : W_qE} (h_p0 : ok_qT I p0 w_p0) (h_p1 : ok_qE I p1 w_p1) (hS : St E w I Os) {r : qE} (D : r15_Place_fu fu p0 p1 = some r),
    Calls P 129 #[(vT p0 w_p0), (vE p1 w_p1)] w (fun e w' => ∃ I' w_rw0, e = .returned (vE r w_rw0) ∧ I.Le I' ∧ St E w' I' Os ∧ ok_qE I' r w_rw0) := by
 intro fu
 induction fu with
 | zero => intro E w I Os p0 p1 w_p0 w_p1 h_p0 h_p1 hS r D; cases D
 | succ fu ih =>
 intro E w I Os p0 p1 w_p0 w_p1 h_p0 h_p1 hS r D
 refine calls_W (fn := Tryz.f129) rfl rfl rfl ?_
 unfold r15_Place_fu at D
 refine yf nL3 (yad hS (cs_qT p0 w_p0) 89 z fun b1 w4 S3 => yad S3 (cs_qE p1 w_p1) 39 z fun b5 w8 S7 => yad S7 (cs_qE z_qE zw_qE) 39 z fun b9 w12 S11 => yb (yi (yf nL3 (yg 0 1 [0] z (yj (S11.rf m1) z (ya 2 1 z (yb (y6 D (fun G D => ?_) (fun G D => ?_)))))))))
 refine yf nL6 (yab ((cs_qT p0 w_p0)) (S11.rf m2) z (yg 1 1 [5] z (yj (S11.rf m1) z (bsk D fun r18 Xr13 D => WO.c1 (r14_Col_ok h_p0 S11 Xr13) z fun I15 w14 L16 S17 => y7 4 14 (.agg (cs_qE ({ z_qE with Kind := 8, Op := r18 }) zw_qE).toArray) (yaf S17 0 (cs_qE ({ z_qE with Kind := 8, Op := r18 }) zw_qE) fun w20 S19 => yb (yp (ye ?_)))))))
 have hk24 : ok_qE I15 ({ z_qE with Kind := 8, Op := r18 }) zw_qE := ⟨SlAt.nil⟩
 exact sj D ▸ En.c1 _ (S19.rd m0) ⟨I15, zw_qE, rfl, L16, S19.d3, hk24⟩
 refine ym (yc (yf nL11 (yg 0 1 [0] z (yj (S11.rf m1) z (yg 2 1 [1] z (yj (S11.rf m1) z (yg 4 1 [2] z (yab ((cs_qV p1.V)) (S11.rf m1) z (yg 6 1 [5] z (yj (S11.rf m1) z (y7 8 23 (.agg (cs_qE ({ p1 with Kids := ([] : List qE) }) (⟨⟨none, 0⟩⟩ : W_qE)).toArray) (yad S11 (cs_qE z_qE zw_qE) 39 z fun b25 w28 S27 => yaf S27 0 (cs_qE ({ p1 with Kids := ([] : List qE) }) (⟨⟨none, 0⟩⟩ : W_qE)) fun w30 S29 => yb (yi (yf [0] (ya 0 1 z (yb (yo (bsk D fun s34 hloop36 D => have hlt46 := (h_p1.Kids).len_lt; W.wk (ya5 (m := p1.Kids.length) hloop36 (fun (i35 : Nat) (s34 : List qE) fr w => ∃ I32 a_s34 c_s34 C_s34, fr = [(2, Pt b1 0), (3, Pt b5 0), (4, Pt b9 0), (5, Pt b25 0), (6, Nv i35)] ∧ I.Le I32 ∧ St E w I32 (bT b1 p0 w_p0 :: (bE b5 p1 w_p1) :: (bE b9 z_qE zw_qE) :: (Bx b25 (cs_qE ({ p1 with Kids := s34 }) (⟨⟨a_s34, c_s34⟩⟩ : W_qE)) 39) :: (C_s34) :: Os) ∧ OwnSl 39 7 Q_qE I32 C_s34 a_s34 c_s34 s34) ⟨I, none, 0, Mem.no, rfl, lr, S29.no.front1.front2.front3.front4, OwnSl.nil⟩ ?_ ?_)))))))))))))))))))
 rintro i35 s34 _ w43 hi47 ⟨I32, a_s34, c_s34, C_s34, rfl, L33, S44, h_s34⟩ x45 R1
 refine yi (yf nL5 (yg 0 2 [6] z (yj (S44.rf m1) z (ya 3 2 z (yb (yaw fun _ => ym (yc (yi (yo (have S48 := S44.drew; ybd nL13 10 (yt (S48.rd m0) (yt (S48.rd m1) (yt (S48.rd m3) (y8 S48.im)))) ?_))))))))))
 generalize World.drew _ = w49 at *
 refine yg 0 1 [6] z (yj (rd_c m2 (S48.rd m3)) z (yab ((cs_qT p0 w_p0)) (rd_c m0 (S48.rd m0)) z (yg 3 1 [6] z (yj (rd_c m1 (S48.rd m1)) z (ya 5 1 z ?_)))))
 obtain ⟨x50, Xx50, R1⟩ := bsm R1
 obtain ⟨h0_x50, h1_x50, Xx50⟩ := idx_some Xx50
 obtain ⟨ha_x50, cs_x50, hn_x50, hr_x50, Zx50⟩ := ((RSl.mono h_p1.Kids L33)).el _ _ Xx50
 obtain ⟨w_x50, rfl, h_x50⟩ := Q_qE_iff.1 hr_x50
 refine ybe 39 7 ha_x50 h0_x50 h1_x50 ?_
 refine yau ((cs_qE x50 w_x50)) Zx50 0 (rd_i S48.im) z (bsk R1 fun r56 Xr51 R1 => yaj (ih (h_p0.mono L33) h_x50 S48 Xr51) ?_)
 rintro _ w52 ⟨I53, w_r56, rfl, L54, S55, h_r56⟩
 refine ⟨_, rfl, (yt (S55.rd m0) (yt (S55.rd m1) (yt (S55.rd m3) (y8 (S55.im.of_le L54))))), ?_⟩
 refine yai (rel := Q_qE) (xs := ([r56] : List qE)) S55 z kr z 39 7 [(cs_qE r56 w_r56)] kr z ((Elr.cons (Q_qE_iff.2 ⟨w_r56, rfl, h_r56⟩) Elr.nil)) (fun C58 w62 S61 => (yt (S61.rd m1) (yt (S61.rd m2) (yt (S61.rd m4) (y8 (S61.im.of_le L54)))))) ?_
 intro a60 C58 w62 S61 ho59
 exact WO.tail z (have S64 := S61.front5; apk R1 fun x65 h0_x65 he_x65 R1 => yaz 39 88 (cs_qE z_qE zw_qE) S64 (OwnSl.mono h_s34 L54) ho59.sl (S64.rd m1) h0_x65 he_x65 z fun a66 c67 w68 C69 S70 ho71 => yg 11 1 [6] z (yaf S70.front1.drop.front4 6 (cs_qE ({ p1 with Kids := x65 }) (⟨⟨a66, c67⟩⟩ : W_qE)) fun w76 S75 => yq (yn (yc (yak nL3 (ya 0 1 z (yaq i35 z (ya 2 1 z (yq (sj R1 ▸ yx ⟨I53, a66, c67, C69, rfl, le, S75.front1.front1.front4.front4.front4, ho71⟩))))))))))
 rintro _ w82 ⟨I32, a_s34, c_s34, C_s34, rfl, L33, S83, h_s34⟩
 refine yi (yf nL5 (yg 0 2 [6] z (yj (S83.rf m1) z (ya 3 2 z (yb (yax fun _ => yae (yr (yu (yv (yc (yf nL2 (yab ((cs_qE ({ p1 with Kids := s34 }) (⟨⟨a_s34, c_s34⟩⟩ : W_qE))) (S83.rf m3) z ?_))))))))))))
 obtain ⟨I85, L86, S88, hp87⟩ := OwnSl.pub h_s34 S83.front4
 refine yaf S88.front2 0 (cs_qE ({ p1 with Kids := s34 }) (⟨⟨a_s34, c_s34⟩⟩ : W_qE)) fun w91 S90 => yb (yp ?_)
 have hk96 : ok_qE I85 ({ p1 with Kids := s34 }) (⟨⟨a_s34, c_s34⟩⟩ : W_qE) := ⟨hp87⟩
 exact sj D ▸ En.c1 _ (S90.rd m0) ⟨I85, (⟨⟨a_s34, c_s34⟩⟩ : W_qE), rfl, le, S90.d4, hk96⟩
theorem r15_Place_ok {p0 : qT} {p1 : qE} {w_p0 : W_qT} {w_p1 : W_qE} (h_p0 : ok_qT I p0 w_p0) (h_p1 : ok_qE I p1 w_p1) (hS : St E w I Os) {r : qE} (D : r15_Place p0 p1 = some r) :
    Calls P 129 #[(vT p0 w_p0), (vE p1 w_p1)] w (fun e w' => ∃ I' w_rw0, e = .returned (vE r w_rw0) ∧ I.Le I' ∧ St E w' I' Os ∧ ok_qE I' r w_rw0) := by
 obtain ⟨fu, hf⟩ := anyFuel_some D
 exact r15_Place_fu_ok fu h_p0 h_p1 hS hf
noncomputable def r15_Resolve (p0 : qT) (p1 : qE) : Option (qE × Int) := (r10_Check p1 false).bind (fun r18 => (bif (r18 != 0) then some (z_qE, r18) else (r10_Names p1).bind (fun r29 => (forN (fun (i34 : Nat) (s33 : qE) => (idx r29 (i34 : Int)).bind (fun x45 => (r14_Col p0 x45).bind (fun r51 => (bif ((decide (r51 < 0)) || (decide (r51 > 5))) then some (.inr ((4 : Int), z_qE)) else some (.inl s33))))) r29.length 0 z_qE).bind (fun (t : qE ⊕ ((Int × qE))) => match t with | .inl s33 => (r15_Place p0 p1).bind (fun r73 => some (r73, 0)) | .inr (s58, s59) => some (s59, s58)))))
theorem r15_Resolve_ok {p0 : qT} {p1 : qE} {w_p0 : W_qT} {w_p1 : W_qE} (h_p0 : ok_qT I p0 w_p0) (h_p1 : ok_qE I p1 w_p1) (hS : St E w I Os) {r : qE × Int} (D : r15_Resolve p0 p1 = some r) :
    Calls P 91 #[(vT p0 w_p0), (vE p1 w_p1)] w (fun e w' => ∃ I' w_rw0, e = .returned (.tuple #[(vE r.1 w_rw0), (Iv r.2)]) ∧ I.Le I' ∧ St E w' I' Os ∧ ok_qE I' r.1 w_rw0) := by
 refine calls_W (fn := Tryz.f91) rfl rfl rfl ?_
 unfold r15_Resolve at D
 refine yf nL4 (yad hS (cs_qT p0 w_p0) 89 z fun b1 w4 S3 => yad S3 (cs_qE p1 w_p1) 39 z fun b5 w8 S7 => yad S7 (cs_qE z_qE zw_qE) 39 z fun b9 w12 S11 => ya 3 1 z (yz nL3 (yab ((cs_qE p1 w_p1)) (S11.rf m1) z (bsk D fun r18 Xr13 D => WO.c1 (r10_Check_ok h_p1 S11 Xr13) z fun I15 w14 L16 S17 => ya 2 1 z (yb (yi (yf nL2 (ya 0 2 z (yb (y6 D (fun G D => ?_) (fun G D => ?_)))))))))))
 exact yf nL4 (y7 0 14 (vE z_qE zw_qE) (ya 1 1 z (yaf S17 0 (cs_qE z_qE zw_qE) fun w20 S19 => ya 3 1 z (yb (yp (ye (sj D ▸ yba _ (S19.rd m0) ⟨I15, zw_qE, rfl, L16, S19.d3, zok_qE⟩)))))))
 refine ym (yc (yf nL3 (yab ((cs_qE p1 w_p1)) (S17.rf m1) z (bsk D fun r29 Xr24 D => yaj (r10_Names_ok (h_p1.mono L16) S17 Xr24) ?_))))
 rintro _ w25 ⟨I26, a_r29, c_r29, rfl, L27, S28, h_r29⟩
 refine cv (ya 2 1 z (yb (yi (yf [0] (ya 0 1 z (yb (yo (bsk D fun t30 hloop35 D => have hlt41 := (h_r29).len_lt; W.wk (yas (m := r29.length) hloop35 (fun (i34 : Nat) (s33 : qE) fr w => ∃ I31 w_s33, fr = [(2, Pt b1 0), (3, Pt b5 0), (4, Pt b9 0), (7, Sl a_r29 r29 c_r29), (8, Nv i34)] ∧ I26.Le I31 ∧ St E w I31 (bT b1 p0 w_p0 :: (bE b5 p1 w_p1) :: (bE b9 s33 w_s33) :: Os) ∧ ok_qE I31 s33 w_s33) ⟨I26, zw_qE, rfl, lr, S28.front1.front2, zok_qE⟩ ?_ ?_)))))))))
 rintro i34 s33 _ w38 hi42 ⟨I31, w_s33, rfl, L32, S39, h_s33⟩ x40 R1 hext30
 refine yi (yf nL4 (ya 0 4 z (yb (yaw fun _ => ym (yc (yi (yo (yi (have S43 := S39.drew; ybd nL7 5 (yt (S43.rd m0) (y8 S43.im)) ?_)))))))))
 generalize World.drew _ = w44 at *
 refine yab ((cs_qT p0 w_p0)) (rd_c m0 (S43.rd m0)) z (ya 1 2 z ?_)
 obtain ⟨x45, R1, Hx45, _, rfl, Zx45⟩ := sx I31 h_r29 R1
 refine yac 9 1 Hx45 z (yar Zx45 (rd_i S43.im) z (WO.tail z (bsk R1 fun r51 Xr46 R1 => WO.c1 (r14_Col_ok (h_p0.mono le) S43 Xr46) z fun I48 w47 L49 S50 => ya 6 1 z (yz nL6 (ya 0 3 z (ya3 [3, 4] 5 32 35 (.refl ((decide (r51 < 0)) || (decide (r51 > 5)))) (fun _ => ya 3 3 z yal) (yb (y6 R1 (fun G R1 => ?_) (fun G R1 => ?_)))))))))
 refine yf nL3 (y7 0 36 (vE z_qE zw_qE) (yaf S50.front2 0 (cs_qE z_qE zw_qE) fun w56 S55 => ya 2 1 z (yb (yp (yl (ye (yw ?_)))))))
 obtain rfl := hext30 _ (sj R1).symm
 exact yl (ye (sj D ▸ yba _ (S55.rd m0) ⟨I48, zw_qE, rfl, le, S55.d3, zok_qE⟩))
 exact ym (yn (yc (yak nL3 (ya 0 1 z (yaq i34 z (ya 2 1 z (yq (yx ⟨s33, (sj R1).symm, I48, w_s33, rfl, le, S50, (h_s33.mono L49)⟩))))))))
 rintro s33 _ w66 ⟨I31, w_s33, rfl, L32, S67, h_s33⟩ he
 cases he
 refine yi (yf nL4 (ya 0 4 z (yb (yax fun _ => yae (yr (yu (yv (yc (yf nL5 (yab ((cs_qT p0 w_p0)) (S67.rf m0) z (yab ((cs_qE p1 w_p1)) (S67.rf m1) z (bsk D fun r73 Xr68 D => yaj (r15_Place_ok (h_p0.mono le) (h_p1.mono le) S67 Xr68) ?_))))))))))))
 rintro _ w69 ⟨I70, w_r73, rfl, L71, S72, h_r73⟩
 exact cv (yaf S72.front2 0 (cs_qE r73 w_r73) fun w76 S75 => ya 4 1 z (yb (yp (sj D ▸ yba _ (S75.rd m0) ⟨I70, w_r73, rfl, le, S75.d3, h_r73⟩))))
def r15_Cols (p0 : qT) : Option (List Int) := (forE (fun (i9 : Nat) (s8 : List Int) => (idx p0.Cols (i9 : Int)).bind (fun x19 => (app 8 s8 ([x19.Type_] : List Int)).bind (fun x28 => some x28))) p0.Cols.length 0 ([] : List Int)).bind (fun s8 => some s8)
theorem r15_Cols_ok {p0 : qT} {w_p0 : W_qT} (h_p0 : ok_qT I p0 w_p0) (hS : St E w I Os) {r : (List Int)} (D : r15_Cols p0 = some r) :
    Calls P 93 #[(vT p0 w_p0)] w (fun e w' => ∃ (I' : Mem) (ra0 : Option Addr) (rc0 : Nat), e = .returned (Sl ra0 r rc0) ∧ I.Le I' ∧ St E w' I' Os ∧ RSl 1 (RInt .i64) I' ra0 rc0 r) := by
 refine calls_W (fn := Tryz.f93) rfl rfl rfl ?_
 unfold r15_Cols at D
 refine yf nL2 (yad hS (cs_qT p0 w_p0) 89 z fun b1 w4 S3 => y7 1 2 (.slice none 0 0) (yz [0] (y7 0 3 (.slice none 0 0) (yb (yi (yf [0] (ya 0 1 z (yb (yo (bsk D fun s8 hloop10 D => have hlt17 := (h_p0.Cols).len_lt; W.wk (ya5 (m := p0.Cols.length) hloop10 (fun (i9 : Nat) (s8 : List Int) fr w => ∃ I6 a_s8 c_s8 C_s8, fr = [(1, Pt b1 0), (3, Sl a_s8 s8 c_s8), (4, Nv i9)] ∧ I.Le I6 ∧ St E w I6 (bT b1 p0 w_p0 :: (C_s8) :: Os) ∧ OwnSl 3 1 (RInt .i64) I6 C_s8 a_s8 c_s8 s8) ⟨I, none, 0, Mem.no, rfl, lr, S3.no.front1, OwnSl.nil⟩ ?_ ?_)))))))))))
 rintro i9 s8 _ w14 hi18 ⟨I6, a_s8, c_s8, C_s8, rfl, L7, S15, h_s8⟩ x16 R1
 refine yi (yf nL5 (yg 0 2 [3] z (yj (S15.rf m0) z (ya 3 2 z (yb (yaw fun _ => ym (yc (yi (yo (yak nL10 (yg 0 2 [3] z (yj (S15.rf m0) z (ya 3 1 z ?_)))))))))))))
 obtain ⟨x19, R1, Hx19, _, rfl, Zx19⟩ := sx I6 h_p0.Cols R1
 refine yac 73 3 Hx19 z (yg 5 1 [1] z (ya2 Zx19 1 S15.rm z (yai (rel := (RInt .i64)) (xs := ([x19.Type_] : List Int)) S15 z kr z 3 1 [[(Iv x19.Type_)]] kr z ((Elr.cons z Elr.nil)) tv ?_)))
 intro a23 C21 w25 S24 ho22
 have S27 := S24.front2
 exact apk R1 fun x28 h0_x28 he_x28 R1 => yaz 3 8 [(Iv 0)] S27 h_s8 ho22.sl (S27.rd m1) h0_x28 he_x28 z fun a29 c30 w31 C32 S33 ho34 => ya 9 1 z (yq (yn (yc (yak nL3 (ya 0 1 z (yaq i9 z (ya 2 1 z (yq (sj R1 ▸ yx ⟨I6, a29, c30, C32, rfl, L7, S33.front1.drop.front1, ho34⟩)))))))))
 rintro _ w38 ⟨I6, a_s8, c_s8, C_s8, rfl, L7, S39, h_s8⟩
 refine yi (yf nL5 (yg 0 2 [3] z (yj (S39.rf m0) z (ya 3 2 z (yb (yax fun _ => yae (yr (yu (yv (yc (yf nL2 (ya 0 1 z ?_))))))))))))
 obtain ⟨I41, L42, S44, hp43⟩ := OwnSl.pub h_s8 S39.front1
 exact ya 1 1 z (yb (yp (sj D ▸ yy ⟨I41, a_s8, c_s8, rfl, le, S44.drop, hp43⟩)))
def r15_first (p0 : List Int) : Option Int := (forN (fun (i4 : Nat) (_s : Unit) => (idx p0 (i4 : Int)).bind (fun x11 => (bif (x11 != 0) then (idx p0 (i4 : Int)).bind (fun x12 => some (.inr x12)) else some (.inl ())))) p0.length 0 ()).bind (fun (t : Unit ⊕ (Int)) => match t with | .inl _ => some 0 | .inr s14 => some s14)
theorem r15_first_ok {p0 : List Int} {a_p0 : Option Addr} {c_p0 : Nat} (h_p0 : RSl 1 (RInt .i64) I a_p0 c_p0 p0) (hS : St E w I Os) {r : Int} (D : r15_first p0 = some r) :
    Calls P 192 #[(Sl a_p0 p0 c_p0)] w (RT E I Os (Iv r)) := by
 refine calls_W (fn := Tryz.f192) rfl rfl rfl ?_
 unfold r15_first at D
 refine yf [0] (ya 0 1 z (yb (yi (yf [0] (ya 0 1 z (yb (yo (bsk D fun t1 hloop5 D => have hlt9 := (h_p0).len_lt; W.wk (yas (m := p0.length) hloop5 (fun (i4 : Nat) (_s : Unit) => JI E I [(0, Sl a_p0 p0 c_p0), (3, Nv i4)] Os) ⟨I, rfl, lr, hS⟩ ?_ ?_)))))))))
 rintro i4 _ _ w6 hi10 ⟨I2, rfl, L3, S7⟩ x8 R1 hext1
 refine yi (yf nL4 (ya 0 4 z (yb (yaw fun _ => ym (yc (yi (yo (yf nL5 (ya 0 2 z ?_)))))))))
 obtain ⟨x11, R1, Hx11, _, rfl, Zx11⟩ := sx I2 h_p0 R1
 refine yac 3 1 Hx11 z (yar Zx11 S7.rm z (ya 4 1 z (yb (y6 R1 (fun G R1 => ?_) (fun G R1 => ?_)))))
 refine yf nL5 (ya 0 2 z ?_)
 obtain ⟨x12, R1, Hx12, _, rfl, Zx12⟩ := sx I2 h_p0 R1
 refine yac 3 1 Hx12 z (yar Zx12 S7.rm z (ya 4 1 z (yb (yp (yl (ye (yw ?_)))))))
 obtain rfl := hext1 _ (sj R1).symm
 exact yl (ye (sj D ▸ yy ⟨I2, rfl, L3, S7⟩))
 exact ym (yn (yc (yak nL3 (ya 0 1 z (yaq i4 z (ya 2 1 z (yq (yx ⟨(), (sj R1).symm, I2, rfl, L3, S7⟩))))))))
 rintro _ _ w15 ⟨I2, rfl, L3, S16⟩ he
 cases he
 exact yi (yf nL4 (ya 0 4 z (yb (yax fun _ => yae (yr (yu (yv (yc (yf [0] (ya 0 1 z (yb (yp (sj D ▸ yy ⟨I2, rfl, L3, S16⟩)))))))))))))
def r15_all (p0 : List Int) (p1 : Int) : Option Bool := (forN (fun (i4 : Nat) (_s : Unit) => (idx p0 (i4 : Int)).bind (fun x11 => ((bif (x11 != 0) then (idx p0 (i4 : Int)).bind (fun x16 => some (x16 != p1)) else some false)).bind (fun (j12 : Bool) => (bif j12 then some (.inr false) else some (.inl ()))))) p0.length 0 ()).bind (fun (t : Unit ⊕ (Bool)) => match t with | .inl _ => some true | .inr s20 => some s20)
theorem r15_all_ok {p0 : List Int} {p1 : Int} {a_p0 : Option Addr} {c_p0 : Nat} (h_p0 : RSl 1 (RInt .i64) I a_p0 c_p0 p0) (hS : St E w I Os) {r : Bool} (D : r15_all p0 p1 = some r) :
    Calls P 193 #[(Sl a_p0 p0 c_p0), (Iv p1)] w (RT E I Os (.bool r)) := by
 refine calls_W (fn := Tryz.f193) rfl rfl rfl ?_
 unfold r15_all at D
 refine yf [0] (ya 0 1 z (yb (yi (yf [0] (ya 0 1 z (yb (yo (bsk D fun t1 hloop5 D => have hlt9 := (h_p0).len_lt; W.wk (yas (m := p0.length) hloop5 (fun (i4 : Nat) (_s : Unit) => JI E I [(0, Sl a_p0 p0 c_p0), (1, Iv p1), (5, Nv i4)] Os) ⟨I, rfl, lr, hS⟩ ?_ ?_)))))))))
 rintro i4 _ _ w6 hi10 ⟨I2, rfl, L3, S7⟩ x8 R1 hext1
 refine yi (yf nL4 (ya 0 4 z (yb (yaw fun _ => ym (yc (yi (yo (yf nL13 (ya 0 2 z ?_)))))))))
 obtain ⟨x11, R1, Hx11, _, rfl, Zx11⟩ := sx I2 h_p0 R1
 refine yac 3 1 Hx11 z (yar Zx11 S7.rm z (ya 4 2 z (bsk R1 fun j12 R2 R1 => yap (l1 := [6, 7, 8, 9, 10, 11, 12]) (J := JI E I2 [(0, Sl a_p0 p0 c_p0), (1, Iv p1), (5, Nv i4), (24, .bool j12)] Os) ?_ ?_)))
 refine yao R2 (fun G R2 => ?_) (fun G R2 => ?_)
 refine y4 17 G (ya 6 2 z ?_)
 obtain ⟨x16, R2, Hx16, _, rfl, Zx16⟩ := sx I2 h_p0 R2
 exact yac 3 1 Hx16 z (yar Zx16 S7.rm z (ya 10 3 z (sj R2 ▸ y3 ⟨I2, rfl, lr, S7⟩)))
 refine y4 17 G ?_
 iterate 6 refine yan ?_
 exact ya 12 1 z (sj R2 ▸ y3 ⟨I2, rfl, lr, S7⟩)
 rintro _ w17 ⟨I14, rfl, L15, S18⟩
 refine yb (y6 R1 (fun G R1 => ?_) (fun G R1 => ?_))
 refine yf [0] (ya 0 1 z (yb (yp (yl (ye (yw ?_))))))
 obtain rfl := hext1 _ (sj R1).symm
 exact yl (ye (sj D ▸ yy ⟨I14, rfl, le, S18⟩))
 exact ym (yn (yc (yak nL3 (ya 0 1 z (yaq i4 z (ya 2 1 z (yq (yx ⟨(), (sj R1).symm, I14, rfl, le, S18⟩))))))))
 rintro _ _ w21 ⟨I2, rfl, L3, S22⟩ he
 cases he
 exact yi (yf nL4 (ya 0 4 z (yb (yax fun _ => yae (yr (yu (yv (yc (yf [0] (ya 0 1 z (yb (yp (sj D ▸ yy ⟨I2, rfl, L3, S22⟩)))))))))))))
def r15_made (p0 : qE) (p1 : List Int) : Option Int := (bif ((p0.Kind == 4) && (decide (p0.Op > 2))) then some 2 else (some (((p0.Kind == 4) && (p0.Op == 2)) || ((p0.Kind == 5) && (decide (p0.Op ≤ 2))))).bind (fun (q12 : Bool) => ((bif q12 then some (.inl ((2 : Int), (2 : Int))) else ((bif ((p0.Kind == 5) && (decide (p0.Op ≤ 8))) then (r15_first p1).bind (fun r35 => some (.inl (r35, (2 : Int)))) else ((bif ((p0.Kind == 5) && (p0.Op == 14)) then some (.inl ((3 : Int), (3 : Int))) else ((bif (p0.Kind == 6) then (idx p1 0).bind (fun x52 => some (x52 == 0)) else some false)).bind (fun (j48 : Bool) => (bif j48 then some (.inr 2) else ((bif (p0.Kind == 6) then (idx p1 0).bind (fun x69 => some (x69, (2 : Int))) else (some ((p0.Kind == 7) && (sEq p0.Name (⟨#[108, 101, 110, 103, 116, 104]⟩ : By8)))).bind (fun (q73 : Bool) => ((bif q73 then some ((3 : Int), (1 : Int)) else (some ((p0.Kind == 7) && (sEq p0.Name (⟨#[99, 111, 97, 108, 101, 115, 99, 101]⟩ : By8)))).bind (fun (q83 : Bool) => ((bif q83 then (r15_first p1).bind (fun r95 => (r15_first p1).bind (fun r101 => some (r95, r101))) else some ((1 : Int), (1 : Int)))).bind (fun ((s102, s103) : Int × Int) => some (s102, s103))))).bind (fun ((s80, s81) : Int × Int) => some (s80, s81))))).bind (fun ((s70, s71) : Int × Int) => some (.inl (s70, s71))))))).bind (fun (t : (Int × Int) ⊕ Int) => match t with | (.inl (s45, s46)) => some (.inl (s45, s46)) | (.inr s56) => some (.inr s56)))).bind (fun (t : (Int × Int) ⊕ Int) => match t with | (.inl (s36, s37)) => some (.inl (s36, s37)) | (.inr s58) => some (.inr s58)))).bind (fun (t : (Int × Int) ⊕ Int) => match t with | (.inl (s21, s22)) => (r15_all p1 s21).bind (fun r123 => (bif (!r123) then some (-1) else some s22)) | (.inr s60) => some s60)))
theorem r15_made_ok {p0 : qE} {p1 : List Int} {w_p0 : W_qE} {a_p1 : Option Addr} {c_p1 : Nat} (h_p0 : ok_qE I p0 w_p0) (h_p1 : RSl 1 (RInt .i64) I a_p1 c_p1 p1) (hS : St E w I Os) {r : Int} (D : r15_made p0 p1 = some r) :
    Calls P 169 #[(vE p0 w_p0), (Sl a_p1 p1 c_p1)] w (RT E I Os (Iv r)) := by
 refine calls_W (fn := Tryz.f169) rfl rfl rfl ?_
 unfold r15_made at D
 refine yf nL2 (yad hS (cs_qE p0 w_p0) 39 z fun b1 w4 S3 => ya 1 1 z (yz nL2 (ya 0 2 z (yb (yi (yo (yf nL9 (yg 0 1 [0] z (yj (S3.rf m0) z (ya 2 2 z (yay [4, 5, 6] 7 11 15 (.refl ((p0.Kind == 4) && (decide (p0.Op > 2)))) (fun _ => yg 4 1 [1] z (yj (S3.rf m0) z (ya 6 2 z yal))) (ya 8 1 z (yb (y6 D (fun G D => ?_) (fun G D => ?_)))))))))))))))
 exact yf [0] (ya 0 1 z (yb (yp (yl (ye (sj D ▸ yy ⟨I, rfl, lr, S3.drop⟩))))))
 refine yf nL19 (yg 0 1 [0] z (yj (S3.rf m0) z (ya 2 2 z (yay [4, 5, 6] 7 20 24 (.refl ((p0.Kind == 4) && (p0.Op == 2))) (fun _ => yg 4 1 [1] z (yj (S3.rf m0) z (ya 6 2 z yal))) (ya 8 1 z (bsq D fun q12 Xq12 D => ya3 [9, 10, 11, 12, 13, 14, 15, 16] 17 25 34 Xq12 (fun _ => yg 9 1 [0] z (yj (S3.rf m0) z (ya 11 2 z (yay [13, 14, 15] 16 29 33 (.refl ((p0.Kind == 5) && (decide (p0.Op ≤ 2)))) (fun _ => yg 13 1 [1] z (yj (S3.rf m0) z (ya 15 2 z yal))) (ya 17 1 z yal))))) (ya 18 1 z (yb (bsk D fun j17 R1 D => ya0 (J := (fun fr w => ∃ (s21 : Int) (s22 : Int), ∃ I19, (.inl (s21, s22)) = j17 ∧ fr = [(1, Sl a_p1 p1 c_p1), (5, Iv s21), (6, Iv s22)] ∧ I.Le I19 ∧ St E w I19 Os)) ?_ ?_)))))))))
 refine y6 R1 (fun G R1 => ?_) (fun G R1 => ?_)
 exact yf [0] (ya 0 1 z (yb (yak [0] (ya 0 1 z (yq (yx ⟨2, 2, I, sj R1, rfl, lr, S3.drop⟩))))))
 refine yf nL9 (yg 0 1 [0] z (yj (S3.rf m0) z (ya 2 2 z (yay [4, 5, 6] 7 39 43 (.refl ((p0.Kind == 5) && (decide (p0.Op ≤ 8)))) (fun _ => yg 4 1 [1] z (yj (S3.rf m0) z (ya 6 2 z yal))) (ya 8 1 z (yb (bsk R1 fun j26 R2 R1 => ya0 (J := (fun fr w => ∃ (s36 : Int) (s37 : Int), ∃ I28, (.inl (s36, s37)) = j26 ∧ fr = [(1, Sl a_p1 p1 c_p1), (5, Iv s36), (6, Iv s37)] ∧ I.Le I28 ∧ St E w I28 Os)) ?_ ?_)))))))
 refine y6 R2 (fun G R2 => ?_) (fun G R2 => ?_)
 exact yf nL3 (ya 0 1 z (bsk R2 fun r35 Xr30 R2 => WO.c1 (r15_first_ok h_p1 S3 Xr30) z fun I32 w31 L33 S34 => ya 2 1 z (yb (yak [0] (ya 0 1 z (yq (yx ⟨r35, 2, I32, sj R2, rfl, L33, S34.drop⟩)))))))
 refine yf nL9 (yg 0 1 [0] z (yj (S3.rf m0) z (ya 2 2 z (yay [4, 5, 6] 7 50 54 (.refl ((p0.Kind == 5) && (p0.Op == 14))) (fun _ => yg 4 1 [1] z (yj (S3.rf m0) z (ya 6 2 z yal))) (ya 8 1 z (yb (bsk R2 fun j41 R3 R2 => ya0 (J := (fun fr w => ∃ (s45 : Int) (s46 : Int), ∃ I43, (.inl (s45, s46)) = j41 ∧ fr = [(1, Sl a_p1 p1 c_p1), (5, Iv s45), (6, Iv s46)] ∧ I.Le I43 ∧ St E w I43 Os)) ?_ ?_)))))))
 refine y6 R3 (fun G R3 => ?_) (fun G R3 => ?_)
 exact yf [0] (ya 0 1 z (yb (yak [0] (ya 0 1 z (yq (yx ⟨3, 3, I, sj R3, rfl, lr, S3.drop⟩))))))
 refine yf nL10 (yg 0 1 [0] z (yj (S3.rf m0) z (ya 2 2 z (bsk R3 fun j48 R4 R3 => yap (l1 := [4, 5, 6, 7, 8]) (J := JI E I [(1, Sl a_p1 p1 c_p1), (2, Pt b1 0), (5, Iv 1), (6, Iv 1), (64, .bool j48)] (bE b1 p0 w_p0 :: Os)) ?_ ?_))))
 refine yao R4 (fun G R4 => ?_) (fun G R4 => ?_)
 refine y4 59 G (ya 4 1 z ?_)
 obtain ⟨x52, R4, Hx52, _, rfl, Zx52⟩ := sl_ix (h_p1) R4
 exact yac 3 1 Hx52 z (yar Zx52 S3.rm z (ya 7 2 z (sj R4 ▸ y3 ⟨I, rfl, lr, S3⟩)))
 refine y4 59 G ?_
 iterate 4 refine yan ?_
 exact ya 8 1 z (sj R4 ▸ y3 ⟨I, rfl, lr, S3⟩)
 rintro _ w53 ⟨I50, rfl, L51, S54⟩
 refine ya 9 1 z (yb (y6 R3 (fun G R3 => ?_) (fun G R3 => ?_)))
 refine yf [0] (ya 0 1 z (yb (yp (yw ?_))))
 obtain rfl := sj R3
 refine yw ?_
 obtain rfl := sj R2
 refine yw ?_
 obtain rfl := sj R1
 exact yl (ye (sj D ▸ yy ⟨I50, rfl, L51, S54.drop⟩))
 refine yf nL4 (yg 0 1 [0] z (yj (S54.rf m0) z (ya 2 2 z (yb (bsk R3 fun j65 R4 R3 => ya0 (J := (fun fr w => ∃ (s70 : Int) (s71 : Int), ∃ I67, (s70, s71) = j65 ∧ fr = [(1, Sl a_p1 p1 c_p1), (5, Iv s70), (6, Iv s71)] ∧ I50.Le I67 ∧ St E w I67 Os)) ?_ ?_)))))
 refine y6 R4 (fun G R4 => ?_) (fun G R4 => ?_)
 refine yf nL4 (ya 0 1 z ?_)
 obtain ⟨x69, R4, Hx69, _, rfl, Zx69⟩ := sx I50 h_p1 R4
 exact yac 3 1 Hx69 z (yar Zx69 S54.rm z (ya 3 1 z (yb (yak [0] (ya 0 1 z (yq (yx ⟨x69, 2, I50, sj R4, rfl, lr, S54.drop⟩)))))))
 refine yf nL9 (yg 0 1 [0] z (yj (S54.rf m0) z (ya 2 2 z (bsq R4 fun q73 Xq73 R4 => yay [4, 5, 6] 7 76 80 Xq73 (fun _ => yg 4 1 [5] z (yj (S54.rf m0) z (ya 6 2 z yal))) (ya 8 1 z (yb (bsk R4 fun j76 R5 R4 => ya0 (J := (fun fr w => ∃ (s80 : Int) (s81 : Int), ∃ I78, (s80, s81) = j76 ∧ fr = [(1, Sl a_p1 p1 c_p1), (5, Iv s80), (6, Iv s81)] ∧ I50.Le I78 ∧ St E w I78 Os)) ?_ ?_)))))))
 refine y6 R5 (fun G R5 => ?_) (fun G R5 => ?_)
 exact yak [0] (ya 0 1 z (yq (yx ⟨3, 1, I50, sj R5, rfl, lr, S54.drop⟩)))
 refine yf nL9 (yg 0 1 [0] z (yj (S54.rf m0) z (ya 2 2 z (bsq R5 fun q83 Xq83 R5 => yay [4, 5, 6] 7 85 89 Xq83 (fun _ => yg 4 1 [5] z (yj (S54.rf m0) z (ya 6 2 z yal))) (ya 8 1 z (yb (bsk R5 fun j86 R6 R5 => ya0 (J := (fun fr w => ∃ (s102 : Int) (s103 : Int), ∃ I88, (s102, s103) = j86 ∧ fr = [(1, Sl a_p1 p1 c_p1), (5, Iv s102), (6, Iv s103)] ∧ I50.Le I88 ∧ St E w I88 Os)) ?_ ?_)))))))
 refine y6 R6 (fun G R6 => ?_) (fun G R6 => ?_)
 exact yf nL3 (ya 0 1 z (bsk R6 fun r95 Xr90 R6 => WO.c1 (r15_first_ok (RSl.mono h_p1 L51) S54 Xr90) z fun I92 w91 L93 S94 => ya 2 1 z (yb (yak nL3 (ya 0 1 z (bsk R6 fun r101 Xr96 R6 => WO.c1 (r15_first_ok (up h_p1) S94 Xr96) z fun I98 w97 L99 S100 => ya 2 1 z (yq (yx ⟨r95, r101, I98, sj R6, rfl, le, S100.drop⟩))))))))
 exact ym (yx ⟨1, 1, I50, sj R6, rfl, lr, S54.drop⟩)
 rintro _ w106 ⟨s102, s103, I88, rfl, rfl, L89, S107⟩
 exact yx ⟨s102, s103, I88, sj R5, rfl, L89, S107⟩
 rintro _ w108 ⟨s80, s81, I78, rfl, rfl, L79, S109⟩
 exact yx ⟨s80, s81, I78, sj R4, rfl, L79, S109⟩
 rintro _ w110 ⟨s70, s71, I67, rfl, rfl, L68, S111⟩
 exact yx ⟨s70, s71, I67, sj R3, rfl, le, S111⟩
 rintro _ w112 ⟨s45, s46, I43, rfl, rfl, L44, S113⟩
 exact yx ⟨s45, s46, I43, sj R2, rfl, L44, S113⟩
 rintro _ w114 ⟨s36, s37, I28, rfl, rfl, L29, S115⟩
 exact yx ⟨s36, s37, I28, sj R1, rfl, L29, S115⟩
 rintro _ w116 ⟨s21, s22, I19, rfl, rfl, L20, S117⟩
 refine yn (yc (yi (yf nL4 (ya 0 2 z (bsk D fun r123 Xr118 D => WO.c1 (r15_all_ok (RSl.mono h_p1 L20) S117 Xr118) z fun I120 w119 L121 S122 => ya 3 1 z (yb (y6 D (fun G D => ?_) (fun G D => ?_))))))))
 exact yf [0] (ya 0 1 z (yb (yp (ye (sj D ▸ yy ⟨I120, rfl, le, S122⟩)))))
 exact ym (yc (yf nL2 (ya 0 2 z (yb (yp (sj D ▸ yy ⟨I120, rfl, le, S122⟩))))))
def r15_find_fu : Nat → qE → (List Int) → (List Int) → Option (Int × Int)
  | 0, _, _, _ => none
  | fu + 1, p0, p1, p2 => (bif (p0.Kind == 1) then some (p0.V.Kind, 0) else (bif (p0.Kind == 2) then some (0, 4) else ((bif (p0.Kind == 3) then some (p2, (w64 (p0.Op - 1))) else some (p1, p0.Op))).bind (fun ((s13, s14) : (List Int) × Int) => (bif ((p0.Kind == 3) || (p0.Kind == 8)) then (bif (decide (s14 ≥ (s13.length : Int))) then some (0, 37) else (idx s13 s14).bind (fun x20 => ((bif (decide (x20 < 0)) then some true else (idx s13 s14).bind (fun x26 => some (decide (x26 > 3))))).bind (fun (j21 : Bool) => (bif j21 then some (0, 11) else (idx s13 s14).bind (fun x30 => some (x30, 0)))))) else (forN (fun (i35 : Nat) (s34 : List Int) => (idx p0.Kids (i35 : Int)).bind (fun x45 => (r15_find_fu fu x45 p1 p2).bind (fun (r51, r52) => (bif (r52 != 0) then some (.inr ((0 : Int), r52)) else (app 8 s34 ([r51] : List Int)).bind (fun x68 => some (.inl x68)))))) p0.Kids.length 0 ([] : List Int)).bind (fun (t : (List Int) ⊕ ((Int × Int))) => match t with | .inl s34 => (r15_made p0 s34).bind (fun r88 => (bif (decide (r88 < 0)) then some (0, 11) else some (r88, 0))) | .inr (s54, s55) => some (s54, s55))))))
noncomputable def r15_find (p0 : qE) (p1 : List Int) (p2 : List Int) : Option (Int × Int) := anyFuel (fun fu => r15_find_fu fu p0 p1 p2)
theorem r15_find_fu_ok : ∀ (fu : Nat) {E w : World} {I : Mem} {Os : List Mem} {p0 : qE} {p1 : List Int} {p2 : List Int} {w_p0 : W_qE} {a_p1 : Option Addr} {c_p1 : Nat} {a_p2 : Option Addr} {c_p2 : Nat} (h_p0 : ok_qE I p0 w_p0) (h_p1 : RSl 1 (RInt .i64) I a_p1 c_p1 p1) (h_p2 : RSl 1 (RInt .i64) I a_p2 c_p2 p2) (hS : St E w I Os) {r : Int × Int} (D : r15_find_fu fu p0 p1 p2 = some r),
    Calls P 156 #[(vE p0 w_p0), (Sl a_p1 p1 c_p1), (Sl a_p2 p2 c_p2)] w (RT E I Os (.tuple #[(Iv r.1), (Iv r.2)])) := by
 intro fu
 induction fu with
 | zero => intro E w I Os p0 p1 p2 w_p0 a_p1 c_p1 a_p2 c_p2 h_p0 h_p1 h_p2 hS r D; cases D
 | succ fu ih =>
 intro E w I Os p0 p1 p2 w_p0 a_p1 c_p1 a_p2 c_p2 h_p0 h_p1 h_p2 hS r D
 refine calls_W (fn := Tryz.f156) rfl rfl rfl ?_
 unfold r15_find_fu at D
 refine yf nL3 (yad hS (cs_qE p0 w_p0) 39 z fun b1 w4 S3 => ya 1 2 z (yb (yi (have S5 := S3.drew; yb0 (l := nL5) kr 4 (KR I [bE b1 p0 w_p0]) qR (.ords nL5 [0, 3, 1, 2, 4] kr kr kr kr kr) kr (yt (S5.rd m0) (y8 S5.im)) ?_))))
 generalize World.drew _ = w6 at *
 refine yg 0 2 [1] z (yj (rd_c m0 (S5.rd m0)) z (ya 3 1 z (WO.tail z (ya 4 1 z (yb (yi (yf nL2 (yg 0 1 [0] z (yj (S5.rf m0) z (yb (yo (yf nL2 (ya 0 2 z (yb (y6 D (fun G D => ?_) (fun G D => ?_))))))))))))))))
 exact yf nL5 (yg 0 2 [2, 0] z (yj (S5.rf m0) z (ya 3 2 z (yb (yp (yl (ye (sj D ▸ yat ⟨I, rfl, lr, S5.drop⟩))))))))
 refine yf nL2 (ya 0 2 z (yb (y6 D (fun G D => ?_) (fun G D => ?_))))
 exact yf nL2 (ya 0 2 z (yb (yp (yl (ye (sj D ▸ yat ⟨I, rfl, lr, S5.drop⟩))))))
 refine yf nL2 (ya 0 2 z (yb (bsk D fun j9 R1 D => ya0 (J := (fun fr w => ∃ (s13 : List Int) (s14 : Int), ∃ I11 a_s13 c_s13, (s13, s14) = j9 ∧ fr = [(1, Sl a_p1 p1 c_p1), (2, Sl a_p2 p2 c_p2), (3, Pt b1 0), (8, Sl a_s13 s13 c_s13), (9, Iv s14)] ∧ I.Le I11 ∧ St E w I11 (bE b1 p0 w_p0 :: Os) ∧ RSl 1 (RInt .i64) I11 a_s13 c_s13 s13)) ?_ ?_)))
 refine y6 R1 (fun G R1 => ?_) (fun G R1 => ?_)
 exact yf nL2 (ya 0 2 z (yb (yak nL4 (yg 0 1 [1] z (yj (S5.rf m0) z (ya 2 2 z (yq (yx ⟨p2, (w64 (p0.Op - 1)), I, a_p2, c_p2, sj R1, rfl, lr, S5, h_p2⟩))))))))
 exact ym (yx ⟨p1, p0.Op, I, a_p1, c_p1, sj R1, rfl, lr, S5, h_p1⟩)
 rintro _ w15 ⟨s13, s14, I11, a_s13, c_s13, rfl, rfl, L12, S16, h_s13⟩
 refine yn (yc (yi (yf nL8 (yg 0 1 [0] z (yj (S16.rf m0) z (ya 2 2 z (ya3 [4, 5, 6] 7 36 40 (.refl ((p0.Kind == 3) || (p0.Kind == 8))) (fun _ => yg 4 1 [0] z (yj (S16.rf m0) z (ya 6 2 z yal))) (yb (y6 D (fun G D => ?_) (fun G D => ?_))))))))))
 refine yi (yf nL4 (ya 0 4 z (yb (y6 D (fun G D => ?_) (fun G D => ?_)))))
 exact yf nL2 (ya 0 2 z (yb (yp (ye (ye (sj D ▸ yat ⟨I11, rfl, L12, S16.drop⟩))))))
 refine ym (yc (yi (yf nL12 (ya 0 2 z ?_))))
 obtain ⟨x20, D, Hx20, _, rfl, Zx20⟩ := sl_ix (h_s13) D
 refine yac 3 1 Hx20 z (yar Zx20 S16.rm z (ya 4 2 z (bsk D fun j21 R1 D => yap (l1 := [6, 7, 8, 9, 10, 11]) (J := JI E I11 [(8, Sl a_s13 s13 c_s13), (9, Iv s14), (56, .bool j21)] Os) ?_ ?_)))
 refine yao R1 (fun G R1 => ?_) (fun G R1 => ?_)
 refine y4 50 G ?_
 iterate 5 refine yan ?_
 exact ya 11 1 z (sj R1 ▸ y3 ⟨I11, rfl, lr, S16.drop⟩)
 refine y4 50 G (ya 6 2 z ?_)
 obtain ⟨x26, R1, Hx26, _, rfl, Zx26⟩ := sl_ix (h_s13) R1
 exact yac 3 1 Hx26 z (yar Zx26 S16.rm z (ya 10 2 z (sj R1 ▸ y3 ⟨I11, rfl, lr, S16.drop⟩)))
 rintro _ w28 ⟨I23, rfl, L24, S29⟩
 refine yb (y6 D (fun G D => ?_) (fun G D => ?_))
 exact yf nL2 (ya 0 2 z (yb (yp (ye (ye (sj D ▸ yat ⟨I23, rfl, le, S29⟩))))))
 refine ym (yc (yf nL6 (ya 0 2 z ?_)))
 obtain ⟨x30, D, Hx30, _, rfl, Zx30⟩ := sx I23 h_s13 D
 exact yac 3 1 Hx30 z (yar Zx30 S29.rm z (ya 4 2 z (yb (yp (ye (sj D ▸ yat ⟨I23, rfl, le, S29⟩))))))
 refine ym (yc (yf [0] (y7 0 10 (.slice none 0 0) (yb (yi (yf [0] (ya 0 1 z (yb (yo (bsk D fun t31 hloop36 D => have hlt43 := ((RSl.mono h_p0.Kids L12)).len_lt; W.wk (yas (m := p0.Kids.length) hloop36 (fun (i35 : Nat) (s34 : List Int) fr w => ∃ I32 a_s34 c_s34 C_s34, fr = [(1, Sl a_p1 p1 c_p1), (2, Sl a_p2 p2 c_p2), (3, Pt b1 0), (10, Sl a_s34 s34 c_s34), (11, Nv i35)] ∧ I11.Le I32 ∧ St E w I32 (bE b1 p0 w_p0 :: (C_s34) :: Os) ∧ OwnSl 3 1 (RInt .i64) I32 C_s34 a_s34 c_s34 s34) ⟨I11, none, 0, Mem.no, rfl, lr, S16.no.front1, OwnSl.nil⟩ ?_ ?_)))))))))))
 rintro i35 s34 _ w40 hi44 ⟨I32, a_s34, c_s34, C_s34, rfl, L33, S41, h_s34⟩ x42 R1 hext31
 refine yi (yf nL5 (yg 0 2 [6] z (yj (S41.rf m0) z (ya 3 2 z (yb (yaw fun _ => ym (yc (yi (yo (yf nL13 (yg 0 1 [6] z (yj (S41.rf m0) z (ya 2 1 z ?_)))))))))))))
 obtain ⟨x45, Xx45, R1⟩ := bsm R1
 obtain ⟨h0_x45, h1_x45, Xx45⟩ := idx_some Xx45
 obtain ⟨ha_x45, cs_x45, hn_x45, hr_x45, Zx45⟩ := ((RSl.mono h_p0.Kids (L12.trans L33))).el _ _ Xx45
 obtain ⟨w_x45, rfl, h_x45⟩ := Q_qE_iff.1 hr_x45
 refine ybe 39 7 ha_x45 h0_x45 h1_x45 ?_
 refine yau ((cs_qE x45 w_x45)) Zx45 0 S41.rm z (ya 5 2 z ?_)
 obtain ⟨⟨r51, r52⟩, Xr46, R1⟩ := bsm R1
 refine WO.c1 (ih h_x45 (up h_p1) (up h_p2) S41 Xr46) z fun I48 w47 L49 S50 => ya 8 5 z (yb (yi (yf nL2 (ya 0 2 z (yb (y6 R1 (fun G R1 => ?_) (fun G R1 => ?_)))))))
 refine yf nL3 (ya 0 3 z (yb (yp (ye (yl (ye (yw ?_)))))))
 obtain rfl := hext31 _ (sj R1).symm
 exact yl (ye (sj D ▸ yat ⟨I48, rfl, le, S50.d2⟩))
 refine ym (yc (yak nL5 (ya 0 2 z (yai (rel := (RInt .i64)) (xs := ([r51] : List Int)) S50 z kr z 3 1 [[(Iv r51)]] kr z ((Elr.cons z Elr.nil)) tv ?_))))
 intro a62 C60 w65 S63 ho61
 have S67 := S63.front2
 exact apk R1 fun x68 h0_x68 he_x68 R1 => yaz 3 8 [(Iv 0)] S67 (OwnSl.mono h_s34 L49) ho61.sl (S67.rd m1) h0_x68 he_x68 z fun a69 c70 w71 C72 S73 ho74 => ya 4 1 z (yq (yn (yc (yak nL3 (ya 0 1 z (yaq i35 z (ya 2 1 z (yq (yx ⟨x68, (sj R1).symm, I48, a69, c70, C72, rfl, le, S73.front1.drop.front1, ho74⟩)))))))))
 rintro s34 _ w78 ⟨I32, a_s34, c_s34, C_s34, rfl, L33, S79, h_s34⟩ he
 cases he
 refine yi (yf nL5 (yg 0 2 [6] z (yj (S79.rf m0) z (ya 3 2 z (yb (yax fun _ => yae (yr (yu (yv (yc (yf nL4 (yab ((cs_qE p0 w_p0)) (S79.rf m0) z (ya 1 1 z (have S80 := S79.front1; have hp82 := (h_s34).publish S80; bsk D fun r88 Xr83 D => yaj (r15_made_ok (h_p0.mono ((L12.trans L33).trans (ybg I32 C_s34))) hp82 S80.publish Xr83) ?_))))))))))))))
 rintro _ w84 ⟨I85, rfl, L86, S87⟩
 have S89 := St.back S80 L86 S87
 refine cv (ya 3 1 z (yb (yi (yf nL2 (ya 0 2 z (yb (y6 D (fun G D => ?_) (fun G D => ?_))))))))
 exact yf nL2 (ya 0 2 z (yb (yp (ye (sj D ▸ yat ⟨I32, rfl, le, S89.d2⟩)))))
 exact ym (yc (yf nL3 (ya 0 3 z (yb (yp (sj D ▸ yat ⟨I32, rfl, le, S89.d2⟩))))))
theorem r15_find_ok {p0 : qE} {p1 : List Int} {p2 : List Int} {w_p0 : W_qE} {a_p1 : Option Addr} {c_p1 : Nat} {a_p2 : Option Addr} {c_p2 : Nat} (h_p0 : ok_qE I p0 w_p0) (h_p1 : RSl 1 (RInt .i64) I a_p1 c_p1 p1) (h_p2 : RSl 1 (RInt .i64) I a_p2 c_p2 p2) (hS : St E w I Os) {r : Int × Int} (D : r15_find p0 p1 p2 = some r) :
    Calls P 156 #[(vE p0 w_p0), (Sl a_p1 p1 c_p1), (Sl a_p2 p2 c_p2)] w (RT E I Os (.tuple #[(Iv r.1), (Iv r.2)])) := by
 obtain ⟨fu, hf⟩ := anyFuel_some D
 exact r15_find_fu_ok fu h_p0 h_p1 h_p2 hS hf
noncomputable def r15_Type (p0 : qE) (p1 : List Int) (p2 : List Int) : Option (Int × Int) := (r10_Check p0 true).bind (fun r10 => (bif (r10 != 0) then some (0, r10) else (r15_find p0 p1 p2).bind (fun (r17, r18) => some (r17, r18))))
theorem r15_Type_ok {p0 : qE} {p1 : List Int} {p2 : List Int} {w_p0 : W_qE} {a_p1 : Option Addr} {c_p1 : Nat} {a_p2 : Option Addr} {c_p2 : Nat} (h_p0 : ok_qE I p0 w_p0) (h_p1 : RSl 1 (RInt .i64) I a_p1 c_p1 p1) (h_p2 : RSl 1 (RInt .i64) I a_p2 c_p2 p2) (hS : St E w I Os) {r : Int × Int} (D : r15_Type p0 p1 p2 = some r) :
    Calls P 130 #[(vE p0 w_p0), (Sl a_p1 p1 c_p1), (Sl a_p2 p2 c_p2)] w (RT E I Os (.tuple #[(Iv r.1), (Iv r.2)])) := by
 refine calls_W (fn := Tryz.f130) rfl rfl rfl ?_
 unfold r15_Type at D
 refine yf nL3 (yad hS (cs_qE p0 w_p0) 39 z fun b1 w4 S3 => ya 1 2 z (yz nL3 (yab ((cs_qE p0 w_p0)) (S3.rf m0) z (bsk D fun r10 Xr5 D => WO.c1 (r10_Check_ok h_p0 S3 Xr5) z fun I7 w6 L8 S9 => ya 2 1 z (yb (yi (yf nL2 (ya 0 2 z (yb (y6 D (fun G D => ?_) (fun G D => ?_)))))))))))
 exact yf nL3 (ya 0 3 z (yb (yp (ye (sj D ▸ yat ⟨I7, rfl, L8, S9.drop⟩)))))
 refine ym (yc (yf nL8 (yab ((cs_qE p0 w_p0)) (S9.rf m0) z (ya 1 2 z ?_))))
 obtain ⟨⟨r17, r18⟩, Xr12, D⟩ := bsm D
 exact WO.c1 (r15_find_ok (h_p0.mono L8) (RSl.mono h_p1 L8) (RSl.mono h_p2 L8) S9 Xr12) z fun I14 w13 L15 S16 => ya 4 4 z (yb (yp (sj D ▸ yat ⟨I14, rfl, le, S16.drop⟩)))
noncomputable def r15_Bool (p0 : qE) (p1 : List Int) (p2 : List Int) : Option Int := (r15_Type p0 p1 p2).bind (fun (r10, r11) => (bif (r11 != 0) then some r11 else (bif ((r10 != 2) && (r10 != 0)) then some 11 else some 0)))
theorem r15_Bool_ok {p0 : qE} {p1 : List Int} {p2 : List Int} {w_p0 : W_qE} {a_p1 : Option Addr} {c_p1 : Nat} {a_p2 : Option Addr} {c_p2 : Nat} (h_p0 : ok_qE I p0 w_p0) (h_p1 : RSl 1 (RInt .i64) I a_p1 c_p1 p1) (h_p2 : RSl 1 (RInt .i64) I a_p2 c_p2 p2) (hS : St E w I Os) {r : Int} (D : r15_Bool p0 p1 p2 = some r) :
    Calls P 92 #[(vE p0 w_p0), (Sl a_p1 p1 c_p1), (Sl a_p2 p2 c_p2)] w (RT E I Os (Iv r)) := by
 refine calls_W (fn := Tryz.f92) rfl rfl rfl ?_
 unfold r15_Bool at D
 refine yf nL2 (yad hS (cs_qE p0 w_p0) 39 z fun b1 w4 S3 => ya 1 1 z (yz nL9 (yab ((cs_qE p0 w_p0)) (S3.rf m0) z (ya 1 2 z ?_))))
 obtain ⟨⟨r10, r11⟩, Xr5, D⟩ := bsm D
 refine WO.c1 (r15_Type_ok h_p0 h_p1 h_p2 S3 Xr5) z fun I7 w6 L8 S9 => ya 4 5 z (yb (yi (yf nL2 (ya 0 2 z (yb (y6 D (fun G D => ?_) (fun G D => ?_)))))))
 exact yf nL2 (ya 0 2 z (yb (yp (ye (sj D ▸ yy ⟨I7, rfl, L8, S9.drop⟩)))))
 refine ym (yc (yi (yf nL6 (ya 0 3 z (yay [3, 4] 5 21 24 (.refl ((r10 != 2) && (r10 != 0))) (fun _ => ya 3 3 z yal) (yb (y6 D (fun G D => ?_) (fun G D => ?_))))))))
 exact yf [0] (ya 0 1 z (yb (yp (ye (sj D ▸ yy ⟨I7, rfl, L8, S9.drop⟩)))))
 exact ym (yc (yf [0] (ya 0 1 z (yb (yp (sj D ▸ yy ⟨I7, rfl, L8, S9.drop⟩))))))
def r14_Places (p0 : qT) (p1 : List By8) : Option ((List Int) × Int) := (forN (fun (i9 : Nat) (s8 : List Int) => (idx p1 (i9 : Int)).bind (fun x21 => (r14_Col p0 x21).bind (fun r27 => (bif (decide (r27 < 0)) then some (.inr (([] : List Int), (4 : Int))) else (app 8 s8 ([r27] : List Int)).bind (fun x42 => some (.inl x42)))))) p1.length 0 ([] : List Int)).bind (fun (t : (List Int) ⊕ (((List Int) × Int))) => match t with | .inl s8 => some (s8, 0) | .inr (s29, s30) => some (s29, s30))
theorem r14_Places_ok {p0 : qT} {p1 : List By8} {w_p0 : W_qT} {a_p1 : Option Addr} {c_p1 : Nat} (h_p0 : ok_qT I p0 w_p0) (h_p1 : RSl 1 RStr I a_p1 c_p1 p1) (hS : St E w I Os) {r : (List Int) × Int} (D : r14_Places p0 p1 = some r) :
    Calls P 131 #[(vT p0 w_p0), (Sl a_p1 p1 c_p1)] w (fun e w' => ∃ (I' : Mem) (ra0 : Option Addr) (rc0 : Nat), e = .returned (.tuple #[(Sl ra0 r.1 rc0), (Iv r.2)]) ∧ I.Le I' ∧ St E w' I' Os ∧ RSl 1 (RInt .i64) I' ra0 rc0 r.1) := by
 refine calls_W (fn := Tryz.f131) rfl rfl rfl ?_
 unfold r14_Places at D
 refine yf nL3 (yad hS (cs_qT p0 w_p0) 89 z fun b1 w4 S3 => y7 1 4 (.slice none 0 0) (ya 2 1 z (yz [0] (y7 0 6 (.slice none 0 0) (yb (yi (yf [0] (ya 0 1 z (yb (yo (bsk D fun t5 hloop10 D => have hlt17 := (h_p1).len_lt; W.wk (yas (m := p1.length) hloop10 (fun (i9 : Nat) (s8 : List Int) fr w => ∃ I6 a_s8 c_s8 C_s8, fr = [(1, Sl a_p1 p1 c_p1), (2, Pt b1 0), (6, Sl a_s8 s8 c_s8), (7, Nv i9)] ∧ I.Le I6 ∧ St E w I6 (bT b1 p0 w_p0 :: (C_s8) :: Os) ∧ OwnSl 3 1 (RInt .i64) I6 C_s8 a_s8 c_s8 s8) ⟨I, none, 0, Mem.no, rfl, lr, S3.no.front1, OwnSl.nil⟩ ?_ ?_))))))))))))
 rintro i9 s8 _ w14 hi18 ⟨I6, a_s8, c_s8, C_s8, rfl, L7, S15, h_s8⟩ x16 R1 hext5
 refine yi (yf nL4 (ya 0 4 z (yb (yaw fun _ => ym (yc (yi (yo (yi (have S19 := S15.drew; ybd nL7 5 (yt (S19.rd m0) (y8 S19.im)) ?_)))))))))
 generalize World.drew _ = w20 at *
 refine yab ((cs_qT p0 w_p0)) (rd_c m0 (S19.rd m0)) z (ya 1 2 z ?_)
 obtain ⟨x21, R1, Hx21, _, rfl, Zx21⟩ := sx I6 h_p1 R1
 refine yac 9 1 Hx21 z (yar Zx21 (rd_i S19.im) z (WO.tail z (bsk R1 fun r27 Xr22 R1 => WO.c1 (r14_Col_ok (h_p0.mono L7) S19 Xr22) z fun I24 w23 L25 S26 => ya 6 1 z (yb (yi (yf nL2 (ya 0 2 z (yb (y6 R1 (fun G R1 => ?_) (fun G R1 => ?_))))))))))
 refine yf nL2 (y7 0 4 (.slice none 0 0) (ya 1 1 z (yb (yp (ye (yl (ye (yw ?_))))))))
 obtain rfl := hext5 _ (sj R1).symm
 exact yl (ye (sj D ▸ yat ⟨I24, none, 0, rfl, le, S26.d2, SlAt.nil⟩))
 refine ym (yc (yak nL5 (ya 0 2 z (yai (rel := (RInt .i64)) (xs := ([r27] : List Int)) S26 z kr z 3 1 [[(Iv r27)]] kr z ((Elr.cons z Elr.nil)) tv ?_))))
 intro a37 C35 w39 S38 ho36
 have S41 := S38.front2
 exact apk R1 fun x42 h0_x42 he_x42 R1 => yaz 3 8 [(Iv 0)] S41 (OwnSl.mono h_s8 L25) ho36.sl (S41.rd m1) h0_x42 he_x42 z fun a43 c44 w45 C46 S47 ho48 => ya 4 1 z (yq (yn (yc (yak nL3 (ya 0 1 z (yaq i9 z (ya 2 1 z (yq (yx ⟨x42, (sj R1).symm, I24, a43, c44, C46, rfl, le, S47.front1.drop.front1, ho48⟩)))))))))
 rintro s8 _ w52 ⟨I6, a_s8, c_s8, C_s8, rfl, L7, S53, h_s8⟩ he
 cases he
 refine yi (yf nL4 (ya 0 4 z (yb (yax fun _ => yae (yr (yu (yv (yc (yf nL3 (ya 0 1 z ?_))))))))))
 obtain ⟨I55, L56, S58, hp57⟩ := OwnSl.pub h_s8 S53.front1
 exact ya 1 2 z (yb (yp (sj D ▸ yat ⟨I55, a_s8, c_s8, rfl, le, S58.drop, hp57⟩)))
def r17_foreign (p0 : qC) (p1 : qT) (p2 : qK) : Option Int := ((bif (!sEq p2.Table p1.Name) then (r17_At p0 p2.Table).bind (fun r28 => (bif (decide (r28 < 0)) then some (.inl (4, p1)) else (idx p0.Tables r28).bind (fun x40 => some (.inr x40)))) else some (.inr p1))).bind (fun (t : (Int × qT) ⊕ qT) => match t with | (.inl (s30, s31)) => some s30 | (.inr s43) => (r14_Places s43 p2.Refs).bind (fun (r59, r60) => (r14_Places p1 p2.Cols).bind (fun (r66, r67) => (bif (r60 != 0) then some r60 else (forN (fun (i74 : Nat) (_s : Unit) => (idx r66 (i74 : Int)).bind (fun x83 => (idx p1.Cols x83).bind (fun x84 => (idx r59 (i74 : Int)).bind (fun x85 => (idx s43.Cols x85).bind (fun x86 => (bif (x84.Type_ != x86.Type_) then some (.inr (11 : Int)) else some (.inl ()))))))) r59.length 0 ()).bind (fun (t : Unit ⊕ (Int)) => match t with | .inl _ => (r17_keys s43 p2.Refs).bind (fun r102 => (bif (r102 == 0) then some 2 else some 0)) | .inr s88 => some s88)))))
theorem r17_foreign_ok {p0 : qC} {p1 : qT} {p2 : qK} {w_p0 : W_qC} {w_p1 : W_qT} {w_p2 : W_qK} (h_p0 : ok_qC I p0 w_p0) (h_p1 : ok_qT I p1 w_p1) (h_p2 : ok_qK I p2 w_p2) (hS : St E w I Os) {r : Int} (D : r17_foreign p0 p1 p2 = some r) :
    Calls P 94 #[(vC p0 w_p0), (vT p1 w_p1), (vK p2 w_p2)] w (RT E I Os (Iv r)) := by
 refine calls_W (fn := Tryz.f94) rfl rfl rfl ?_
 unfold r17_foreign at D
 refine yf nL4 (yad hS (cs_qC p0 w_p0) 29 z fun b1 w4 S3 => yad S3 (cs_qT p1 w_p1) 89 z fun b5 w8 S7 => yad S7 (cs_qK p2 w_p2) 100 z fun b9 w12 S11 => ya 3 1 z (yz nL3 (yab ((cs_qT p1 w_p1)) (S11.rf m1) z (yad S11 (cs_qT z_qT zw_qT) 89 z fun b13 w16 S15 => yaf S15 0 (cs_qT p1 w_p1) fun w18 S17 => yb (yi (yf nL5 (yg 0 1 [10] z (yj (S17.rf m1) z (yg 2 1 [0] z (yj (S17.rf m2) z (ya 4 1 z (yb (bsk D fun j19 R1 D => ya0 (J := (fun fr w => ∃ (s43 : qT), ∃ I21 w_s43, (.inr s43) = j19 ∧ fr = [(4, Pt b5 0), (5, Pt b9 0), (7, Pt b13 0)] ∧ I.Le I21 ∧ St E w I21 (bT b5 p1 w_p1 :: (bK b9 p2 w_p2) :: (bT b13 s43 w_s43) :: Os) ∧ ok_qT I21 s43 w_s43)) ?_ ?_)))))))))))))
 refine y6 R1 (fun G R1 => ?_) (fun G R1 => ?_)
 refine yf nL5 (yab ((cs_qC p0 w_p0)) (S17.rf m3) z (yg 1 1 [10] z (yj (S17.rf m1) z (bsk R1 fun r28 Xr23 R1 => WO.c1 (r17_At_ok h_p0 S17 Xr23) z fun I25 w24 L26 S27 => ya 4 1 z (yb (yi (yf nL2 (ya 0 2 z (yb (y6 R1 (fun G R1 => ?_) (fun G R1 => ?_)))))))))))
 refine yf [0] (ya 0 1 z (yb (yp (ye (yw ?_)))))
 obtain rfl := sj R1
 exact ye (sj D ▸ yy ⟨I25, rfl, L26, S27.d4⟩)
 refine ym (yc (yak nL6 (yg 0 1 [1] z (yj (S27.rf m3) z (ya 2 1 z ?_)))))
 obtain ⟨x40, R1, Hx40, _, ⟨w_x40, rfl, h_x40⟩, Zx40⟩ := sx I25 h_p0.Tables R1
 exact yac 89 6 Hx40 z (yau ((cs_qT x40 w_x40)) Zx40 0 S27.rm z (yaf S27 0 (cs_qT x40 w_x40) fun w42 S41 => yq (yx ⟨x40, I25, w_x40, sj R1, rfl, L26, S41.front3.drop.front1.front2, h_x40⟩)))
 exact ym (yx ⟨p1, I, w_p1, sj R1, rfl, lr, S17.front3.drop.front1.front2, h_p1⟩)
 rintro _ w52 ⟨s43, I21, w_s43, rfl, rfl, L22, S53, h_s43⟩
 refine yc (yf nL9 (yab ((cs_qT s43 w_s43)) (S53.rf m2) z (yg 1 1 [11] z (yj (S53.rf m1) z ?_))))
 obtain ⟨⟨r59, r60⟩, Xr54, D⟩ := bsm D
 refine yaj (r14_Places_ok h_s43 (RSl.mono h_p2.Refs L22) S53 Xr54) ?_
 rintro _ w55 ⟨I56, a_r59, c_r59, rfl, L57, S58, h_r59⟩
 refine cv (ya 4 5 z (yz nL9 (yab ((cs_qT p1 w_p1)) (S58.rf m0) z (yg 1 1 [2] z (yj (S58.rf m1) z ?_)))))
 obtain ⟨⟨r66, r67⟩, Xr61, D⟩ := bsm D
 refine yaj (r14_Places_ok (h_p1.mono le) (up h_p2.Cols) S58 Xr61) ?_
 rintro _ w62 ⟨I63, a_r66, c_r66, rfl, L64, S65, h_r66⟩
 refine cv (ya 4 5 z (yb (yi (yf nL2 (ya 0 2 z (yb (y6 D (fun G D => ?_) (fun G D => ?_))))))))
 exact yf nL2 (ya 0 2 z (yb (yp (ye (sj D ▸ yy ⟨I63, rfl, le, S65.d3⟩)))))
 refine ym (yc (yi (yf [0] (ya 0 1 z (yb (yo (bsk D fun t71 hloop75 D => have hlt79 := ((RSl.mono h_r59 L64)).len_lt; W.wk (yas (m := r59.length) hloop75 (fun (i74 : Nat) (_s : Unit) => JI E I63 [(4, Pt b5 0), (5, Pt b9 0), (7, Pt b13 0), (9, Sl a_r59 r59 c_r59), (11, Sl a_r66 r66 c_r66), (13, Nv i74)] (bT b5 p1 w_p1 :: (bK b9 p2 w_p2) :: (bT b13 s43 w_s43) :: Os)) ⟨I63, rfl, lr, S65⟩ ?_ ?_))))))))
 rintro i74 _ _ w76 hi80 ⟨I72, rfl, L73, S77⟩ x78 R1 hext71
 refine yi (yf nL4 (ya 0 4 z (yb (yaw fun _ => ym (yc (yi (yo (yi (have S81 := S77.drew; ybd nL19 18 (yt (S81.rd m0) (yt (S81.rd m2) (y8 S81.im))) ?_)))))))))
 generalize World.drew _ = w82 at *
 refine yg 0 1 [3] z (yj (rd_c m0 (S81.rd m0)) z (ya 2 2 z ?_))
 obtain ⟨x83, R1, Hx83, _, rfl, Zx83⟩ := sx I72 h_r66 R1
 refine yac 3 1 Hx83 z (yar Zx83 (rd_i S81.im) z ?_)
 obtain ⟨x84, R1, Hx84, _, rfl, Zx84⟩ := sx I72 h_p1.Cols R1
 refine yac 73 3 Hx84 z (yg 7 1 [1] z (ya2 Zx84 1 (rd_i S81.im) z (yg 9 1 [3] z (yj (rd_c m1 (S81.rd m2)) z (ya 11 2 z ?_)))))
 obtain ⟨x85, R1, Hx85, _, rfl, Zx85⟩ := sx I72 h_r59 R1
 refine yac 3 1 Hx85 z (yar Zx85 (rd_i S81.im) z ?_)
 obtain ⟨x86, R1, Hx86, _, rfl, Zx86⟩ := sx I72 h_s43.Cols R1
 refine yac 73 3 Hx86 z (yg 16 1 [1] z (ya2 Zx86 1 (rd_i S81.im) z (WO.tail z (ya 18 1 z (yb (y6 R1 (fun G R1 => ?_) (fun G R1 => ?_)))))))
 refine yf [0] (ya 0 1 z (yb (yp (yl (ye (yw ?_))))))
 obtain rfl := hext71 _ (sj R1).symm
 exact yl (ye (sj D ▸ yy ⟨I72, rfl, le, S81.d3⟩))
 exact ym (yn (yc (yak nL3 (ya 0 1 z (yaq i74 z (ya 2 1 z (yq (yx ⟨(), (sj R1).symm, I72, rfl, L73, S81⟩))))))))
 rintro _ _ w95 ⟨I72, rfl, L73, S96⟩ he
 cases he
 refine yi (yf nL4 (ya 0 4 z (yb (yax fun _ => yae (yr (yu (yv (yc (yi (yf nL5 (yab ((cs_qT s43 w_s43)) (S96.rf m2) z (yg 1 1 [11] z (yj (S96.rf m1) z (bsk D fun r102 Xr97 D => WO.c1 (r17_keys_ok (h_s43.mono le) (up h_p2.Refs) S96 Xr97) z fun I99 w98 L100 S101 => ya 4 1 z (yb (y6 D (fun G D => ?_) (fun G D => ?_)))))))))))))))))
 exact yf [0] (ya 0 1 z (yb (yp (ye (sj D ▸ yy ⟨I99, rfl, le, S101.d3⟩)))))
 exact ym (yc (yf [0] (ya 0 1 z (yb (yp (sj D ▸ yy ⟨I99, rfl, le, S101.d3⟩))))))
noncomputable def r17_Sound (p0 : qC) (p1 : qT) : Option Int := (r14_Check p1).bind (fun r14 => (bif (r14 != 0) then some r14 else (forN (fun (i20 : Nat) (_s : Unit) => (idx p1.Cons (i20 : Int)).bind (fun x28 => ((bif (x28.Kind == 2) then (r15_Resolve p1 x28.Check).bind (fun (r44, r45) => ((bif (r45 == 0) then (r15_Cols p1).bind (fun r63 => (r15_Bool r44 r63 ([] : List Int)).bind (fun r69 => some r69)) else some r45)).bind (fun (j52 : Int) => some j52)) else some 0)).bind (fun (j35 : Int) => ((bif (x28.Kind == 3) then (r17_foreign p0 p1 x28).bind (fun r91 => some r91) else some j35)).bind (fun (j82 : Int) => (bif (j82 != 0) then some (.inr j82) else some (.inl ())))))) p1.Cons.length 0 ()).bind (fun (t : Unit ⊕ (Int)) => match t with | .inl _ => some 0 | .inr s99 => some s99)))
theorem r17_Sound_ok {p0 : qC} {p1 : qT} {w_p0 : W_qC} {w_p1 : W_qT} (h_p0 : ok_qC I p0 w_p0) (h_p1 : ok_qT I p1 w_p1) (hS : St E w I Os) {r : Int} (D : r17_Sound p0 p1 = some r) :
    Calls P 54 #[(vC p0 w_p0), (vT p1 w_p1)] w (RT E I Os (Iv r)) := by
 refine calls_W (fn := Tryz.f54) rfl rfl rfl ?_
 unfold r17_Sound at D
 refine yf nL3 (yad hS (cs_qC p0 w_p0) 29 z fun b1 w4 S3 => yad S3 (cs_qT p1 w_p1) 89 z fun b5 w8 S7 => ya 2 1 z (yz nL3 (yab ((cs_qT p1 w_p1)) (S7.rf m0) z (bsk D fun r14 Xr9 D => WO.c1 (r14_Check_ok h_p1 S7 Xr9) z fun I11 w10 L12 S13 => ya 2 1 z (yb (yi (yf nL2 (ya 0 2 z (yb (y6 D (fun G D => ?_) (fun G D => ?_)))))))))))
 exact yf nL2 (ya 0 2 z (yb (yp (ye (sj D ▸ yy ⟨I11, rfl, L12, S13.d2⟩)))))
 refine ym (yc (yi (yf [0] (ya 0 1 z (yb (yo (bsk D fun t17 hloop21 D => have hlt26 := ((RSl.mono h_p1.Cons L12)).len_lt; W.wk (yas (m := p1.Cons.length) hloop21 (fun (i20 : Nat) (_s : Unit) => JI E I11 [(2, Pt b1 0), (3, Pt b5 0), (6, Nv i20)] (bC b1 p0 w_p0 :: (bT b5 p1 w_p1) :: Os)) ⟨I11, rfl, lr, S13.front1⟩ ?_ ?_))))))))
 rintro i20 _ _ w23 hi27 ⟨I18, rfl, L19, S24⟩ x25 R1 hext17
 refine yi (yf nL5 (yg 0 2 [4] z (yj (S24.rf m1) z (ya 3 2 z (yb (yaw fun _ => ym (yc (yi (yo (yf nL7 (yg 0 1 [4] z (yj (S24.rf m1) z (ya 2 1 z ?_)))))))))))))
 obtain ⟨x28, R1, Hx28, _, ⟨w_x28, rfl, h_x28⟩, Zx28⟩ := sx I18 h_p1.Cons R1
 refine yac 100 12 Hx28 z (yau ((cs_qK x28 w_x28)) Zx28 0 S24.rm z (yad S24 (cs_qK z_qK zw_qK) 100 z fun b29 w32 S31 => yaf S31 0 (cs_qK x28 w_x28) fun w34 S33 => yz [0] (ya 0 1 z (yb (yi (yf nL3 (yg 0 1 [1] z (yj (S33.rf m0) z (ya 2 1 z (yb (bsk R1 fun j35 R2 R1 => ya0 (J := JI E I18 [(2, Pt b1 0), (3, Pt b5 0), (6, Nv i20), (7, Pt b29 0), (8, Iv j35)] (bC b1 p0 w_p0 :: (bT b5 p1 w_p1) :: (bK b29 x28 w_x28) :: Os)) ?_ ?_)))))))))))
 refine y6 R2 (fun G R2 => ?_) (fun G R2 => ?_)
 refine yf nL10 (yab ((cs_qT p1 w_p1)) (S33.rf m2) z (yg 1 1 [3] z (yab ((cs_qE x28.Check w_x28.Check)) (S33.rf m0) z ?_)))
 obtain ⟨⟨r44, r45⟩, Xr39, R2⟩ := bsm R2
 refine yaj (r15_Resolve_ok (h_p1.mono le) h_x28.Check S33 Xr39) ?_
 rintro _ w40 ⟨I41, w_r44, rfl, L42, S43, h_r44⟩
 refine cv (ya 4 3 z (yad S43 (cs_qE z_qE zw_qE) 39 z fun b46 w49 S48 => yaf S48 0 (cs_qE r44 w_r44) fun w51 S50 => ya 9 1 z (yz nL2 (ya 0 2 z (yz nL2 (ya 0 2 z (yb (bsk R2 fun j52 R3 R2 => ya0 (J := JI E I41 [(2, Pt b1 0), (3, Pt b5 0), (6, Nv i20), (7, Pt b29 0), (8, Iv j52)] (bC b1 p0 w_p0 :: (bT b5 p1 w_p1) :: (bK b29 x28 w_x28) :: Os)) ?_ ?_))))))))
 refine y6 R3 (fun G R3 => ?_) (fun G R3 => ?_)
 have S56 := S50.drew
 refine ybd nL5 3 (yt (S56.rd m0) (yt (S56.rd m3) (y8 S56.im))) ?_
 generalize World.drew _ = w57 at *
 refine yab ((cs_qE r44 w_r44)) (rd_c m0 (S56.rd m0)) z (yab ((cs_qT p1 w_p1)) (rd_c m1 (S56.rd m3)) z (bsk R3 fun r63 Xr58 R3 => yaj (r15_Cols_ok (h_p1.mono le) S56 Xr58) ?_))
 rintro _ w59 ⟨I60, a_r63, c_r63, rfl, L61, S62, h_r63⟩
 refine ⟨_, rfl, (yt (S62.rd m0) (yt (S62.rd m3) (y8 (S62.im.of_le L61)))), ?_⟩
 exact WO.tail z (bsk R3 fun r69 Xr64 R3 => WO.c1 (r15_Bool_ok (h_r44.mono L61) h_r63 SlAt.nil S62 Xr64) z fun I66 w65 L67 S68 => ya 4 1 z (yq (sj R3 ▸ yx ⟨I66, rfl, le, S68.drop.front2.front2⟩)))
 exact ym (sj R3 ▸ yx ⟨I41, rfl, lr, S50.drop.front2.front2⟩)
 rintro _ w76 ⟨I54, rfl, L55, S77⟩
 exact sj R2 ▸ yx ⟨I54, rfl, le, S77⟩
 exact ym (sj R2 ▸ yx ⟨I18, rfl, lr, S33.front2.front2⟩)
 rintro _ w80 ⟨I37, rfl, L38, S81⟩
 refine yc (yi (yf nL3 (yg 0 1 [1] z (yj (S81.rf m2) z (ya 2 1 z (yb (bsk R1 fun j82 R2 R1 => ya0 (J := JI E I37 [(2, Pt b1 0), (3, Pt b5 0), (6, Nv i20), (8, Iv j82)] (bC b1 p0 w_p0 :: (bT b5 p1 w_p1) :: Os)) ?_ ?_)))))))
 refine y6 R2 (fun G R2 => ?_) (fun G R2 => ?_)
 exact yak nL5 (yab ((cs_qC p0 w_p0)) (S81.rf m0) z (yab ((cs_qT p1 w_p1)) (S81.rf m1) z (yab ((cs_qK x28 w_x28)) (S81.rf m2) z (bsk R2 fun r91 Xr86 R2 => WO.c1 (r17_foreign_ok (h_p0.mono le) (h_p1.mono le) (h_x28.mono L38) S81 Xr86) z fun I88 w87 L89 S90 => ya 4 1 z (yq (sj R2 ▸ yx ⟨I88, rfl, L89, S90.front2.drop⟩))))))
 exact ym (sj R2 ▸ yx ⟨I37, rfl, lr, S81.front2.drop⟩)
 rintro _ w96 ⟨I84, rfl, L85, S97⟩
 refine yc (yf nL2 (ya 0 2 z (yb (y6 R1 (fun G R1 => ?_) (fun G R1 => ?_)))))
 refine yf nL2 (ya 0 2 z (yb (yp (yl (ye (yw ?_))))))
 obtain rfl := hext17 _ (sj R1).symm
 exact yl (ye (sj D ▸ yy ⟨I84, rfl, le, S97.d2⟩))
 exact ym (yn (yc (yak nL3 (ya 0 1 z (yaq i20 z (ya 2 1 z (yq (yx ⟨(), (sj R1).symm, I84, rfl, le, S97⟩))))))))
 rintro _ _ w104 ⟨I18, rfl, L19, S105⟩ he
 cases he
 exact yi (yf nL5 (yg 0 2 [4] z (yj (S105.rf m1) z (ya 3 2 z (yb (yax fun _ => yae (yr (yu (yv (yc (yf [0] (ya 0 1 z (yb (yp (sj D ▸ yy ⟨I18, rfl, le, S105.d2⟩)))))))))))))))
noncomputable def r17_with (p0 : qC) (p1 : qT) : Option qC := (loopO (fun (s24 : Int) => ((bif (decide (s24 < (p0.Tables.length : Int))) then (idx p0.Tables s24).bind (fun x38 => some (sLt x38.Name p1.Name)) else some false)).bind (fun (j34 : Bool) => (bif j34 then some (.inl (w64 (s24 + 1))) else some (.inr s24)))) 0).bind (fun (s42 : Int) => (sub p0.Tables 0 s42).bind (fun x45 => (app 112 ([] : List qT) x45).bind (fun x48 => (app 112 x48 ([p1] : List qT)).bind (fun x66 => (sub p0.Tables s42 (p0.Tables.length : Int)).bind (fun x80 => (app 112 x66 x80).bind (fun x82 => some { p0 with Tables := x82 }))))))
theorem r17_with_ok {p0 : qC} {p1 : qT} {w_p0 : W_qC} {w_p1 : W_qT} (h_p0 : ok_qC I p0 w_p0) (h_p1 : ok_qT I p1 w_p1) (hS : St E w I Os) {r : qC} (D : r17_with p0 p1 = some r) :
    Calls P 55 #[(vC p0 w_p0), (vT p1 w_p1)] w (fun e w' => ∃ I' w_rw0, e = .returned (vC r w_rw0) ∧ I.Le I' ∧ St E w' I' Os ∧ ok_qC I' r w_rw0) := by
 refine calls_W (fn := Tryz.f55) rfl rfl rfl ?_
 unfold r17_with at D
 refine yf nL3 (yad hS (cs_qC p0 w_p0) 29 z fun b1 w4 S3 => yad S3 (cs_qT p1 w_p1) 89 z fun b5 w8 S7 => yad S7 (cs_qC z_qC zw_qC) 29 z fun b9 w12 S11 => yz nL3 (yab ((cs_qC p0 w_p0)) (S11.rf m2) z (yad S11 (cs_qC z_qC zw_qC) 29 z fun b13 w16 S15 => yaf S15 0 (cs_qC p0 w_p0) fun w18 S17 => yz nL2 (yg 0 1 [1] z (yaf S17 1 (cs_qC ({ p0 with Tables := ([] : List qT) }) ({ w_p0 with Tables := ⟨none, 0⟩ })) fun w20 S19 => yz [0] (ya 0 1 z (yb (yi (yo (bsk D fun t21 hloop25 D => W.wk (ybf hloop25 (fun (s24 : Int) => JI E I [(2, Pt b1 0), (3, Pt b5 0), (4, Pt b9 0), (5, Pt b13 0), (6, Iv s24)] (bC b1 p0 w_p0 :: (bT b5 p1 w_p1) :: (bC b9 z_qC zw_qC) :: (Bx b13 (cs_qC ({ p0 with Tables := ([] : List qT) }) ({ w_p0 with Tables := ⟨none, 0⟩ })) 29) :: Os)) ⟨I, rfl, lr, S19.front1.front2.front3⟩ ?_)))))))))))
 rintro s24 _ w29 ⟨I22, rfl, L23, S30⟩ x31 R1 hext21
 refine yi (yi (have S32 := S30.drew; ybd nL16 16 (yt (S32.rd m0) (yt (S32.rd m1) (y8 S32.im))) ?_))
 generalize World.drew _ = w33 at *
 refine yg 0 2 [1] z (yj (rd_c m0 (S32.rd m0)) z (ya 3 3 z (bsk R1 fun j34 R2 R1 => yap (l1 := [6, 7, 8, 9, 10, 11, 12, 13, 14, 15]) (J := JI E I22 [(2, Pt b1 0), (3, Pt b5 0), (4, Pt b9 0), (5, Pt b13 0), (6, Iv s24), (24, .bool j34)] (bC b1 p0 w_p0 :: (bT b5 p1 w_p1) :: (bC b9 z_qC zw_qC) :: (Bx b13 (cs_qC ({ p0 with Tables := ([] : List qT) }) ({ w_p0 with Tables := ⟨none, 0⟩ })) 29) :: Os)) ?_ ?_)))
 refine yao R2 (fun G R2 => ?_) (fun G R2 => ?_)
 refine y4 14 G (yg 6 1 [1] z (yj (rd_c m0 (S32.rd m0)) z (ya 8 1 z ?_)))
 obtain ⟨x38, R2, Hx38, _, ⟨w_x38, rfl, h_x38⟩, Zx38⟩ := sx I22 h_p0.Tables R2
 exact yac 89 6 Hx38 z (yg 10 1 [0] z (yar Zx38 (rd_i S32.im) z (yg 12 1 [0] z (yj (rd_c m1 (S32.rd m1)) z (y7 14 23 (.bool (sLt x38.Name p1.Name)) (ya 15 1 z (sj R2 ▸ y3 ⟨I22, rfl, lr, S32⟩)))))))
 refine y4 14 G ?_
 iterate 9 refine yan ?_
 exact ya 15 1 z (sj R2 ▸ y3 ⟨I22, rfl, lr, S32⟩)
 rintro _ w39 ⟨I36, rfl, L37, S40⟩
 refine yb (y6 R1 (fun G R1 => ?_) (fun G R1 => ?_))
 exact ym (yc (yo (yak nL3 (ya 0 3 z (yq (yn (yx ⟨(w64 (s24 + 1)), (sj R1).symm, I36, rfl, le, S40⟩)))))))
 refine yae (yr (yu ?_))
 obtain rfl := hext21 _ (sj R1).symm
 refine yv (yc (yi (have S105 := S40.drew; ybd nL9 6 (yt (S105.rd m0) (yt (S105.rd m3) (y8 S105.im))) ?_)))
 generalize World.drew _ = w106 at *
 refine yg 0 1 [1] z (yj (rd_c m1 (S105.rd m3)) z (yg 2 1 [1] z (yj (rd_c m0 (S105.rd m0)) z (ya 4 1 z ?_))))
 obtain ⟨x107, Xx107, D⟩ := bsm D
 obtain ⟨h0_x107, h1_x107, h2_x107, he_x107⟩ := sub_some Xx107
 have hl_x107 : (s24 : Int) ≤ (w_p0.Tables.c : Int) := Int.le_trans h2_x107 (Int.ofNat_le.2 ((RSl.mono h_p0.Tables (L23.trans L37))).le)
 refine ya4 (e := 89) (sz := 6) z kr kr kr z (0 : Int) (s24 : Int) h0_x107 (.inl ⟨rfl, rfl⟩) (.inr ⟨_, _, rfl, rfl⟩) h1_x107 hl_x107 ?_
 obtain ⟨a_x107, c_x107, h_x107, ev_x107⟩ := sub_ok ((RSl.mono h_p0.Tables (L23.trans L37))) h0_x107 h1_x107 h2_x107 he_x107
 refine yaa 32 z ev_x107 ?_
 refine WO.tail z (have S109 := S105.no; apk D fun x110 h0_x110 he_x110 D => ybh (e' := 89) (b := 112) (zs := (cs_qT z_qT zw_qT).toArray) S109 (OwnSl.nil (T := 89) (rel := R_qT) (I := I36)) z kr z kr kr kr z z z z h_x107 S109.im h0_x110 he_x110 tv ?_)
 intro a111 c112 w113 C114 S115 ho116
 refine yg 7 1 [1] z (yaf S115.front4 1 (cs_qC ({ p0 with Tables := x110 }) ({ w_p0 with Tables := ⟨a111, c112⟩ })) fun w119 S118 => yz nL7 (yg 0 1 [1] z (yj (S118.rf m0) z (yab ((cs_qT p1 w_p1)) (S118.rf m3) z (yai (rel := R_qT) (xs := ([p1] : List qT)) S118 z kr z 89 6 [(cs_qT p1 w_p1)] kr z ((Elr.cons ⟨w_p1, rfl, (h_p1.mono le)⟩ Elr.nil)) tv ?_)))))
 intro a123 C121 w125 S124 ho122
 have S127 := S124.front2
 refine apk D fun x128 h0_x128 he_x128 D => yaz 89 112 (cs_qT z_qT zw_qT) S127 ho116 ho122.sl (S127.rd m1) h0_x128 he_x128 z fun a129 c130 w131 C132 S133 ho134 => yg 5 1 [1] z (yaf S133.front1.drop.front1 1 (cs_qC ({ p0 with Tables := x128 }) ({ w_p0 with Tables := ⟨a129, c130⟩ })) fun w139 S138 => yb (yi (have S140 := S138.drew; ybd nL9 6 (yt (S140.rd m0) (yt (S140.rd m2) (y8 S140.im))) ?_)))
 generalize World.drew _ = w141 at *
 refine yg 0 1 [1] z (yj (rd_c m0 (S140.rd m0)) z (yg 2 1 [1] z (yj (rd_c m1 (S140.rd m2)) z (ya 4 1 z ?_))))
 obtain ⟨x142, Xx142, D⟩ := bsm D
 obtain ⟨h0_x142, h1_x142, h2_x142, he_x142⟩ := sub_some Xx142
 have hl_x142 : ((p0.Tables.length : Int) : Int) ≤ (w_p0.Tables.c : Int) := Int.le_trans h2_x142 (Int.ofNat_le.2 ((RSl.mono h_p0.Tables (L23.trans L37))).le)
 refine ya4 (e := 89) (sz := 6) z kr kr kr z (s24 : Int) ((p0.Tables.length : Int) : Int) h0_x142 (.inr ⟨_, _, rfl, rfl⟩) (.inl ⟨rfl, rfl⟩) h1_x142 hl_x142 ?_
 obtain ⟨a_x142, c_x142, h_x142, ev_x142⟩ := sub_ok ((RSl.mono h_p0.Tables (L23.trans L37))) h0_x142 h1_x142 h2_x142 he_x142
 refine yaa 46 z ev_x142 ?_
 refine WO.tail z (have S143 := S140.front1; apk D fun x144 h0_x144 he_x144 D => yaz 89 112 (cs_qT z_qT zw_qT) S143 ho134 h_x142 S143.im h0_x144 he_x144 z fun a145 c146 w147 C148 S149 ho150 => yg 7 1 [1] z (yaf S149.front1 1 (cs_qC ({ p0 with Tables := x144 }) ({ w_p0 with Tables := ⟨a145, c146⟩ })) fun w153 S152 => yz nL2 (yab ((cs_qC ({ p0 with Tables := x144 }) ({ w_p0 with Tables := ⟨a145, c146⟩ }))) (S152.rf m0) z ?_)))
 obtain ⟨I155, L156, S158, hp157⟩ := OwnSl.pub ho150 S152.front1
 refine yaf S158.front3 0 (cs_qC ({ p0 with Tables := x144 }) ({ w_p0 with Tables := ⟨a145, c146⟩ })) fun w161 S160 => yb (yp ?_)
 have hk166 : ok_qC I155 ({ p0 with Tables := x144 }) ({ w_p0 with Tables := ⟨a145, c146⟩ }) := ⟨hp157, (RSl.mono h_p0.Roles ((L23.trans L37).trans L156)), (RSl.mono h_p0.Grants ((L23.trans L37).trans L156))⟩
 exact sj D ▸ En.c1 _ (S160.rd m0) ⟨I155, ({ w_p0 with Tables := ⟨a145, c146⟩ }), rfl, le, S160.d4, hk166⟩
noncomputable def r17_Make (p0 : qC) (p1 : qS) (p2 : By8) (p3 : Int) : Option (qC × Int) := (bif ((decide (p1.Kind < 1)) || (decide (p1.Kind > 9))) then some (z_qC, 2) else (r17_At p0 p1.Table).bind (fun r25 => (bif ((p1.Kind == 1) && (decide (r25 ≥ 0))) then some (z_qC, 19) else (bif ((p1.Kind == 1) && (decide ((p0.Tables.length : Int) ≥ 8))) then some (z_qC, 5) else (bif ((p1.Kind != 1) && (decide (r25 < 0))) then some (z_qC, 4) else (r17_without p0 p1.Table).bind (fun r52 => ((bif (p1.Kind == 1) then some (.inl ((0 : Int), z_qC, r52.Version, r52.Tables, r52.Roles, r52.Grants, { z_qT with Name := p1.Table, Owner := p2, Cols := p1.Cols, Cons := p1.Cons })) else ((bif (p1.Kind == 2) then (r17_refers_nilsl p0 p1.Table p1.Table eB).bind (fun r90 => (bif r90 then some (.inl (34, z_qC, z_qT)) else (forE (fun (i124 : Nat) (s123 : List qG) => (idx p0.Grants (i124 : Int)).bind (fun x140 => ((bif (!sEq x140.Table p1.Table) then (idx p0.Grants (i124 : Int)).bind (fun x147 => (app 64 s123 ([x147] : List qG)).bind (fun x156 => some x156)) else some s123)).bind (fun (j141 : List qG) => some j141))) p0.Grants.length 0 ([] : List qG)).bind (fun s123 => some (.inr ((0 : Int), z_qC, r52.Version, r52.Tables, r52.Roles, s123, z_qT))))) else ((bif (p1.Kind == 5) then (r17_At p0 p1.Name).bind (fun r199 => (bif (decide (r199 ≥ 0)) then some (.inl (19, z_qC, z_qT)) else (idx p0.Tables r25).bind (fun x219 => (r17_renamed p0 x219 p1.Name).bind (fun (r225, r226) => some (.inr ((0 : Int), z_qC, r225.Version, r225.Tables, r225.Roles, r225.Grants, r226)))))) else (idx p0.Tables r25).bind (fun x246 => (r17_turned p0 x246 p1).bind (fun (r252, r253) => some (.inr (r253, z_qC, r52.Version, r52.Tables, r52.Roles, r52.Grants, r252)))))).bind (fun (t : (Int × qC × qT) ⊕ (Int × qC × Int × (List qT) × (List qJ) × (List qG) × qT)) => match t with | (.inl (s204, s205, s206)) => some (.inl (s204, s205, s206)) | (.inr (s233, s234, s235, s236, s237, s238, s239)) => some (.inr (s233, s234, s235, s236, s237, s238, s239))))).bind (fun (t : (Int × qC × qT) ⊕ (Int × qC × Int × (List qT) × (List qJ) × (List qG) × qT)) => match t with | (.inl (s95, s96, s97)) => some (.inr (s95, s96, s97)) | (.inr (s178, s179, s180, s181, s182, s183, s184)) => some (.inl (s178, s179, s180, s181, s182, s183, s184))))).bind (fun (t : (Int × qC × Int × (List qT) × (List qJ) × (List qG) × qT) ⊕ (Int × qC × qT)) => match t with | (.inl (s69, s70, s71, s72, s73, s74, s75)) => ((bif ((s69 == 0) && (p1.Kind != 2)) then (r17_Sound (⟨s71, s72, s73, s74⟩ : qC) s75).bind (fun r278 => some r278) else some s69)).bind (fun (j268 : Int) => ((bif ((j268 == 0) && (decide (p0.Version ≥ p3))) then some 52 else some j268)).bind (fun (j283 : Int) => (bif (j283 != 0) then some (z_qC, j283) else ((bif (p1.Kind != 2) then (r17_with (⟨s71, s72, s73, s74⟩ : qC) ({ s75 with Version := (w64 (p0.Version + 1)) })).bind (fun r311 => some (r311.Version, r311.Tables, r311.Roles, r311.Grants, { s75 with Version := (w64 (p0.Version + 1)) })) else some (s71, s72, s73, s74, s75))).bind (fun ((s315, s316, s317, s318, s319) : Int × (List qT) × (List qJ) × (List qG) × qT) => some ((⟨(w64 (p0.Version + 1)), s316, s317, s318⟩ : qC), 0))))) | (.inr (s99, s100, s101)) => some (s100, s99))))))))
theorem r17_Make_ok {p0 : qC} {p1 : qS} {p2 : By8} {p3 : Int} {w_p0 : W_qC} {w_p1 : W_qS} (h_p0 : ok_qC I p0 w_p0) (h_p1 : ok_qS I p1 w_p1) (hS : St E w I Os) {r : qC × Int} (D : r17_Make p0 p1 p2 p3 = some r) :
    Calls P 31 #[(vC p0 w_p0), (vS p1 w_p1), (.string p2), (Iv p3)] w (fun e w' => ∃ I' w_rw0, e = .returned (.tuple #[(vC r.1 w_rw0), (Iv r.2)]) ∧ I.Le I' ∧ St E w' I' Os ∧ ok_qC I' r.1 w_rw0) := by
 refine calls_W (fn := Tryz.f31) rfl rfl rfl ?_
 unfold r17_Make at D
 refine yf nL4 (yad hS (cs_qC p0 w_p0) 29 z fun b1 w4 S3 => yad S3 (cs_qS p1 w_p1) 44 z fun b5 w8 S7 => yad S7 (cs_qC z_qC zw_qC) 29 z fun b9 w12 S11 => ya 3 1 z (yb (yi (yf nL8 (yg 0 1 [0] z (yj (S11.rf m1) z (ya 2 2 z (ya3 [4, 5, 6] 7 18 22 (.refl ((decide (p1.Kind < 1)) || (decide (p1.Kind > 9)))) (fun _ => yg 4 1 [0] z (yj (S11.rf m1) z (ya 6 2 z yal))) (yb (y6 D (fun G D => ?_) (fun G D => ?_)))))))))))
 exact yf nL3 (y7 0 23 (vC z_qC zw_qC) (yaf S11 0 (cs_qC z_qC zw_qC) fun w16 S15 => ya 2 1 z (yb (yp (ye (sj D ▸ yba _ (S15.rd m0) ⟨I, zw_qC, rfl, lr, S15.d3, zok_qC⟩))))))
 refine ym (yc (yf nL5 (yab ((cs_qC p0 w_p0)) (S11.rf m2) z (yg 1 1 [1] z (yj (S11.rf m1) z (bsk D fun r25 Xr20 D => WO.c1 (r17_At_ok h_p0 S11 Xr20) z fun I22 w21 L23 S24 => ya 4 1 z (yb (yi (yf nL7 (yg 0 1 [0] z (yj (S24.rf m1) z (ya 2 2 z (yay [4, 5] 6 31 34 (.refl ((p1.Kind == 1) && (decide (r25 ≥ 0)))) (fun _ => ya 4 3 z yal) (yb (y6 D (fun G D => ?_) (fun G D => ?_))))))))))))))))
 exact yf nL3 (y7 0 35 (vC z_qC zw_qC) (yaf S24 0 (cs_qC z_qC zw_qC) fun w29 S28 => ya 2 1 z (yb (yp (ye (sj D ▸ yba _ (S28.rd m0) ⟨I22, zw_qC, rfl, L23, S28.d3, zok_qC⟩))))))
 refine ym (yc (yi (yf nL9 (yg 0 1 [0] z (yj (S24.rf m1) z (ya 2 2 z (yay [4, 5, 6, 7] 8 39 44 (.refl ((p1.Kind == 1) && (decide ((p0.Tables.length : Int) ≥ 8)))) (fun _ => yg 4 1 [1] z (yj (S24.rf m2) z (ya 6 3 z yal))) (yb (y6 D (fun G D => ?_) (fun G D => ?_))))))))))
 exact yf nL3 (y7 0 45 (vC z_qC zw_qC) (yaf S24 0 (cs_qC z_qC zw_qC) fun w36 S35 => ya 2 1 z (yb (yp (ye (sj D ▸ yba _ (S35.rd m0) ⟨I22, zw_qC, rfl, L23, S35.d3, zok_qC⟩))))))
 refine ym (yc (yi (yf nL7 (yg 0 1 [0] z (yj (S24.rf m1) z (ya 2 2 z (yay [4, 5] 6 49 52 (.refl ((p1.Kind != 1) && (decide (r25 < 0)))) (fun _ => ya 4 3 z yal) (yb (y6 D (fun G D => ?_) (fun G D => ?_))))))))))
 exact yf nL3 (y7 0 53 (vC z_qC zw_qC) (yaf S24 0 (cs_qC z_qC zw_qC) fun w43 S42 => ya 2 1 z (yb (yp (ye (sj D ▸ yba _ (S42.rd m0) ⟨I22, zw_qC, rfl, L23, S42.d3, zok_qC⟩))))))
 refine ym (yc (yf nL6 (yab ((cs_qC p0 w_p0)) (S24.rf m2) z (yg 1 1 [1] z (yj (S24.rf m1) z (bsk D fun r52 Xr47 D => yaj (r17_without_ok (h_p0.mono L23) S24 Xr47) ?_))))))
 rintro _ w48 ⟨I49, w_r52, rfl, L50, S51, h_r52⟩
 refine cv (yad S51 (cs_qC z_qC zw_qC) 29 z fun b53 w56 S55 => yaf S55 0 (cs_qC r52 w_r52) fun w58 S57 => yz [0] (yad S57 (cs_qT z_qT zw_qT) 89 z fun b59 w62 S61 => yz [0] (ya 0 1 z (yb (yi (yf nL2 (yg 0 1 [0] z (yj (S61.rf m3) z (yb (yo (yf nL2 (ya 0 2 z (yb (bsk D fun j63 R1 D => ya0 (J := (fun fr w => ∃ (s69 : Int) (s70 : qC) (s71 : Int) (s72 : List qT) (s73 : List qJ) (s74 : List qG) (s75 : qT), ∃ I65 w_s70 a_s72 c_s72 a_s73 c_s73 a_s74 c_s74 w_s75, (.inl (s69, s70, s71, s72, s73, s74, s75)) = j63 ∧ fr = [(3, Iv p3), (4, Pt b1 0), (5, Pt b5 0), (8, Pt b9 0), (11, Pt b53 0), (12, Pt b59 0), (13, Iv s69)] ∧ I49.Le I65 ∧ St E w I65 (bC b1 p0 w_p0 :: (bS b5 p1 w_p1) :: (bC b9 s70 w_s70) :: (Bx b53 (cs_qC (⟨s71, s72, s73, s74⟩ : qC) (⟨⟨a_s72, c_s72⟩, ⟨a_s73, c_s73⟩, ⟨a_s74, c_s74⟩⟩ : W_qC)) 29) :: (bT b59 s75 w_s75) :: Os) ∧ ok_qC I65 s70 w_s70 ∧ RSl 6 R_qT I65 a_s72 c_s72 s72 ∧ RSl 2 R_qJ I65 a_s73 c_s73 s73 ∧ RSl 5 R_qG I65 a_s74 c_s74 s74 ∧ ok_qT I65 s75 w_s75)) ?_ ?_))))))))))))))
 refine y6 R1 (fun G R1 => ?_) (fun G R1 => ?_)
 refine yak nL9 (yg 0 1 [1] z (yj (S61.rf m3) z (yg 2 2 [4] z (yj (S61.rf m3) z (yg 5 1 [5] z (yj (S61.rf m3) z (y7 7 80 (.agg (cs_qT ({ z_qT with Name := p1.Table, Owner := p2, Cols := p1.Cols, Cons := p1.Cons }) ({ zw_qT with Cols := ⟨w_p1.Cols.a, w_p1.Cols.c⟩, Cons := ⟨w_p1.Cons.a, w_p1.Cons.c⟩ })).toArray) (yaf S61 0 (cs_qT ({ z_qT with Name := p1.Table, Owner := p2, Cols := p1.Cols, Cons := p1.Cons }) ({ zw_qT with Cols := ⟨w_p1.Cols.a, w_p1.Cols.c⟩, Cons := ⟨w_p1.Cons.a, w_p1.Cons.c⟩ })) fun w68 S67 => yq ?_))))))))
 have hk76 : ok_qT I49 ({ z_qT with Name := p1.Table, Owner := p2, Cols := p1.Cols, Cons := p1.Cons }) ({ zw_qT with Cols := ⟨w_p1.Cols.a, w_p1.Cols.c⟩, Cons := ⟨w_p1.Cons.a, w_p1.Cons.c⟩ }) := ⟨(RSl.mono h_p1.Cols (L23.trans L50)), (RSl.mono h_p1.Cons (L23.trans L50)), SlAt.nil⟩
 exact yx ⟨0, z_qC, r52.Version, r52.Tables, r52.Roles, r52.Grants, { z_qT with Name := p1.Table, Owner := p2, Cols := p1.Cols, Cons := p1.Cons }, I49, zw_qC, w_r52.Tables.a, w_r52.Tables.c, w_r52.Roles.a, w_r52.Roles.c, w_r52.Grants.a, w_r52.Grants.c, ({ zw_qT with Cols := ⟨w_p1.Cols.a, w_p1.Cols.c⟩, Cons := ⟨w_p1.Cons.a, w_p1.Cons.c⟩ }), sj R1, rfl, lr, S67.front1.front2.front3.front4, zok_qC, h_r52.Tables, h_r52.Roles, h_r52.Grants, hk76⟩
 refine yf nL2 (ya 0 2 z (yb (bsk R1 fun j81 R2 R1 => ya0 (J := (fun fr w => ∃ (s178 : Int) (s179 : qC) (s180 : Int) (s181 : List qT) (s182 : List qJ) (s183 : List qG) (s184 : qT), ∃ I83 w_s179 a_s181 c_s181 a_s182 c_s182 a_s183 c_s183 w_s184, (.inr (s178, s179, s180, s181, s182, s183, s184)) = j81 ∧ fr = [(3, Iv p3), (4, Pt b1 0), (5, Pt b5 0), (8, Pt b9 0), (11, Pt b53 0), (12, Pt b59 0), (13, Iv s178)] ∧ I49.Le I83 ∧ St E w I83 (bC b1 p0 w_p0 :: (bS b5 p1 w_p1) :: (bC b9 s179 w_s179) :: (Bx b53 (cs_qC (⟨s180, s181, s182, s183⟩ : qC) (⟨⟨a_s181, c_s181⟩, ⟨a_s182, c_s182⟩, ⟨a_s183, c_s183⟩⟩ : W_qC)) 29) :: (bT b59 s184 w_s184) :: Os) ∧ ok_qC I83 s179 w_s179 ∧ RSl 6 R_qT I83 a_s181 c_s181 s181 ∧ RSl 2 R_qJ I83 a_s182 c_s182 s182 ∧ RSl 5 R_qG I83 a_s183 c_s183 s183 ∧ ok_qT I83 s184 w_s184)) ?_ ?_)))
 refine y6 R2 (fun G R2 => ?_) (fun G R2 => ?_)
 refine yi (yf nL6 (yab ((cs_qC p0 w_p0)) (S61.rf m4) z (yg 1 1 [1] z (yj (S61.rf m3) z (yg 3 1 [1] z (yj (S61.rf m3) z (bsk R2 fun r90 Xr85 R2 => WO.c1 (r17_refers_nilsl_ok (h_p0.mono le) S61 Xr85) z fun I87 w86 L88 S89 => yb (y6 R2 (fun G R2 => ?_) (fun G R2 => ?_)))))))))
 refine yf nL3 (y7 0 89 (vC z_qC zw_qC) (yaf S89.front2 0 (cs_qC z_qC zw_qC) fun w93 S92 => ya 2 1 z (yb (yp (ye (yw ?_))))))
 obtain rfl := sj R2
 refine yw ?_
 obtain rfl := sj R1
 exact yl (ye (sj D ▸ yba _ (S92.rd m0) ⟨I87, zw_qC, rfl, le, S92.d5, zok_qC⟩))
 refine ym (yc (yf nL2 (yg 0 1 [3] z (yaf S89.front1 3 (cs_qC ({ r52 with Grants := ([] : List qG) }) ({ w_r52 with Grants := ⟨none, 0⟩ })) fun w119 S118 => yz [0] (ya 0 1 z (yb (yo (bsk R2 fun s123 hloop125 R2 => have hlt136 := ((RSl.mono h_p0.Grants ((L23.trans L50).trans L88))).len_lt; W.wk (ya5 (m := p0.Grants.length) hloop125 (fun (i124 : Nat) (s123 : List qG) fr w => ∃ I121 a_s123 c_s123 C_s123, fr = [(3, Iv p3), (4, Pt b1 0), (5, Pt b5 0), (8, Pt b9 0), (11, Pt b53 0), (12, Pt b59 0), (13, Iv 0), (14, Nv i124)] ∧ I87.Le I121 ∧ St E w I121 (bC b1 p0 w_p0 :: (bS b5 p1 w_p1) :: (bC b9 z_qC zw_qC) :: (Bx b53 (cs_qC ({ r52 with Grants := s123 }) ({ w_r52 with Grants := ⟨a_s123, c_s123⟩ })) 29) :: (bT b59 z_qT zw_qT) :: (C_s123) :: Os) ∧ OwnSl 67 5 R_qG I121 C_s123 a_s123 c_s123 s123) ⟨I87, none, 0, Mem.no, rfl, lr, S118.no.front2.front2.front3.front4.front5, OwnSl.nil⟩ ?_ ?_)))))))))
 rintro i124 s123 _ w133 hi137 ⟨I121, a_s123, c_s123, C_s123, rfl, L122, S134, h_s123⟩ x135 R3
 refine yi (yf nL5 (yg 0 2 [3] z (yj (S134.rf m0) z (ya 3 2 z (yb (yaw fun _ => ym (yc (yi (yo (yi (have S138 := S134.drew; ybd nL9 8 (yt (S138.rd m0) (yt (S138.rd m1) (y8 S138.im))) ?_)))))))))))
 generalize World.drew _ = w139 at *
 refine yg 0 1 [3] z (yj (rd_c m0 (S138.rd m0)) z (ya 2 1 z ?_))
 obtain ⟨x140, R3, Hx140, _, rfl, Zx140⟩ := sx I121 h_p0.Grants R3
 refine yac 67 5 Hx140 z (yg 4 1 [2] z (ya2 Zx140 2 (rd_i S138.im) z (yg 6 1 [1] z (yj (rd_c m1 (S138.rd m1)) z (WO.tail z (ya 8 1 z (yb (bsk R3 fun j141 R4 R3 => ya0 (J := (fun fr w => ∃ I143 a_j141 c_j141 C_j141, fr = [(3, Iv p3), (4, Pt b1 0), (5, Pt b5 0), (8, Pt b9 0), (11, Pt b53 0), (12, Pt b59 0), (13, Iv 0), (14, Nv i124)] ∧ I121.Le I143 ∧ St E w I143 (bC b1 p0 w_p0 :: (bS b5 p1 w_p1) :: (bC b9 z_qC zw_qC) :: (Bx b53 (cs_qC ({ r52 with Grants := j141 }) ({ w_r52 with Grants := ⟨a_j141, c_j141⟩ })) 29) :: (bT b59 z_qT zw_qT) :: (C_j141) :: Os) ∧ OwnSl 67 5 R_qG I143 C_j141 a_j141 c_j141 j141)) ?_ ?_))))))))
 refine y6 R4 (fun G R4 => ?_) (fun G R4 => ?_)
 have S145 := S138.drew
 refine ybd nL11 8 (yt (S145.rd m0) (yt (S145.rd m3) (y8 S145.im))) ?_
 generalize World.drew _ = w146 at *
 refine yg 0 1 [3] z (yj (rd_c m1 (S145.rd m3)) z (yg 2 1 [3] z (yj (rd_c m0 (S145.rd m0)) z (ya 4 1 z ?_))))
 obtain ⟨x147, R4, Hx147, _, rfl, Zx147⟩ := sx I121 h_p0.Grants R4
 refine yac 67 5 Hx147 z (yau ((cs_qG x147)) Zx147 0 (rd_i S145.im) z (yai (rel := R_qG) (xs := ([x147] : List qG)) S145 z kr z 67 5 [(cs_qG x147)] kr z ((Elr.cons z Elr.nil)) (fun C149 w153 S152 => (yt (S152.rd m1) (yt (S152.rd m4) (y8 S152.im)))) ?_))
 intro a151 C149 w153 S152 ho150
 exact WO.tail z (have S155 := S152.front6; apk R4 fun x156 h0_x156 he_x156 R4 => yaz 67 64 (cs_qG z_qG) S155 h_s123 ho150.sl (S155.rd m1) h0_x156 he_x156 z fun a157 c158 w159 C160 S161 ho162 => yg 9 1 [3] z (yaf S161.front1.drop.front4 3 (cs_qC ({ r52 with Grants := x156 }) ({ w_r52 with Grants := ⟨a157, c158⟩ })) fun w167 S166 => yq (sj R4 ▸ yx ⟨I121, a157, c158, C160, rfl, lr, S166.front1.front5.front2.front5.front5.front5, ho162⟩)))
 exact ym (sj R4 ▸ yx ⟨I121, a_s123, c_s123, C_s123, rfl, lr, S138, h_s123⟩)
 rintro _ w174 ⟨I143, a_j141, c_j141, C_j141, rfl, L144, S175, h_j141⟩
 exact yn (yc (yak nL3 (ya 0 1 z (yaq i124 z (ya 2 1 z (yq (sj R3 ▸ yx ⟨I143, a_j141, c_j141, C_j141, rfl, le, S175, h_j141⟩)))))))
 rintro _ w176 ⟨I121, a_s123, c_s123, C_s123, rfl, L122, S177, h_s123⟩
 refine yi (yf nL5 (yg 0 2 [3] z (yj (S177.rf m0) z (ya 3 2 z (yb (yax fun _ => yae (yr (yu (yv ?_)))))))))
 obtain ⟨I186, L187, S189, hp188⟩ := OwnSl.pub h_s123 S177.front5
 exact yx ⟨0, z_qC, r52.Version, r52.Tables, r52.Roles, s123, z_qT, I186, zw_qC, w_r52.Tables.a, w_r52.Tables.c, w_r52.Roles.a, w_r52.Roles.c, a_s123, c_s123, zw_qT, sj R2, rfl, le, S189, zok_qC, (up h_r52.Tables), (up h_r52.Roles), hp188, zok_qT⟩
 refine yf nL2 (ya 0 2 z (yb (bsk R2 fun j190 R3 R2 => ya0 (J := (fun fr w => ∃ (s233 : Int) (s234 : qC) (s235 : Int) (s236 : List qT) (s237 : List qJ) (s238 : List qG) (s239 : qT), ∃ I192 w_s234 a_s236 c_s236 a_s237 c_s237 a_s238 c_s238 w_s239, (.inr (s233, s234, s235, s236, s237, s238, s239)) = j190 ∧ fr = [(3, Iv p3), (4, Pt b1 0), (5, Pt b5 0), (8, Pt b9 0), (11, Pt b53 0), (12, Pt b59 0), (13, Iv s233)] ∧ I49.Le I192 ∧ St E w I192 (bC b1 p0 w_p0 :: (bS b5 p1 w_p1) :: (bC b9 s234 w_s234) :: (Bx b53 (cs_qC (⟨s235, s236, s237, s238⟩ : qC) (⟨⟨a_s236, c_s236⟩, ⟨a_s237, c_s237⟩, ⟨a_s238, c_s238⟩⟩ : W_qC)) 29) :: (bT b59 s239 w_s239) :: Os) ∧ ok_qC I192 s234 w_s234 ∧ RSl 6 R_qT I192 a_s236 c_s236 s236 ∧ RSl 2 R_qJ I192 a_s237 c_s237 s237 ∧ RSl 5 R_qG I192 a_s238 c_s238 s238 ∧ ok_qT I192 s239 w_s239)) ?_ ?_)))
 refine y6 R3 (fun G R3 => ?_) (fun G R3 => ?_)
 refine yi (yf nL5 (yab ((cs_qC p0 w_p0)) (S61.rf m4) z (yg 1 1 [2] z (yj (S61.rf m3) z (bsk R3 fun r199 Xr194 R3 => WO.c1 (r17_At_ok (h_p0.mono le) S61 Xr194) z fun I196 w195 L197 S198 => ya 4 1 z (yb (y6 R3 (fun G R3 => ?_) (fun G R3 => ?_))))))))
 refine yf nL3 (y7 0 124 (vC z_qC zw_qC) (yaf S198.front2 0 (cs_qC z_qC zw_qC) fun w202 S201 => ya 2 1 z (yb (yp (ye (yw ?_))))))
 obtain rfl := sj R3
 refine yw ?_
 obtain rfl := sj R2
 refine yw ?_
 obtain rfl := sj R1
 exact yl (ye (sj D ▸ yba _ (S201.rd m0) ⟨I196, zw_qC, rfl, le, S201.d5, zok_qC⟩))
 refine ym (yc (have S217 := S198.drew; yb0 (l := nL14) kr 12 (KR I196 [bS b5 p1 w_p1, bC b1 p0 w_p0]) qR (.ords nL14 [0, 1, 2, 3, 4, 5, 6, 7, 8, 9, 10, 12, 11, 13] kr kr kr kr kr) kr (yt (S217.rd m3) (yt (S217.rd m4) (y8 S217.im))) ?_))
 generalize World.drew _ = w218 at *
 refine yab ((cs_qC p0 w_p0)) (rd_c m1 (S217.rd m4)) z (yg 1 1 [1] z (yj (rd_c m1 (S217.rd m4)) z (ya 3 1 z ?_)))
 obtain ⟨x219, R3, Hx219, _, ⟨w_x219, rfl, h_x219⟩, Zx219⟩ := sx I196 h_p0.Tables R3
 refine yac 89 6 Hx219 z (yau ((cs_qT x219 w_x219)) Zx219 0 (rd_i S217.im) z (yg 6 1 [2] z (yj (rd_c m0 (S217.rd m3)) z ?_)))
 obtain ⟨⟨r225, r226⟩, Xr220, R3⟩ := bsm R3
 refine yaj (r17_renamed_ok (h_p0.mono le) h_x219 S217 Xr220) ?_
 rintro _ w221 ⟨I222, w_r225, w_r226, rfl, L223, S224, h_r225, h_r226⟩
 refine ⟨_, rfl, (yt (S224.rd m3) (yt (S224.rd m4) (y8 (S224.im.of_le L223)))), ?_⟩
 exact ya 9 3 z (WO.tail z (yaf S224.front1 0 (cs_qC r225 w_r225) fun w229 S228 => yaf S228.front1 0 (cs_qT r226 w_r226) fun w232 S231 => yq (yx ⟨0, z_qC, r225.Version, r225.Tables, r225.Roles, r225.Grants, r226, I222, zw_qC, w_r225.Tables.a, w_r225.Tables.c, w_r225.Roles.a, w_r225.Roles.c, w_r225.Grants.a, w_r225.Grants.c, w_r226, sj R3, rfl, le, S231.front1.front2.front3.front4, zok_qC, h_r225.Tables, h_r225.Roles, h_r225.Grants, h_r226⟩)))
 have S244 := S61.drew
 refine yb0 (l := nL13) kr 11 (KR I49 [bS b5 p1 w_p1, bC b1 p0 w_p0]) qR (.ords nL13 [0, 1, 2, 3, 4, 5, 6, 7, 8, 9, 11, 10, 12] kr kr kr kr kr) kr (yt (S244.rd m3) (yt (S244.rd m4) (y8 S244.im))) ?_
 generalize World.drew _ = w245 at *
 refine yab ((cs_qC p0 w_p0)) (rd_c m1 (S244.rd m4)) z (yg 1 1 [1] z (yj (rd_c m1 (S244.rd m4)) z (ya 3 1 z ?_)))
 obtain ⟨x246, R3, Hx246, _, ⟨w_x246, rfl, h_x246⟩, Zx246⟩ := sx I49 h_p0.Tables R3
 refine yac 89 6 Hx246 z (yau ((cs_qT x246 w_x246)) Zx246 0 (rd_i S244.im) z (yab ((cs_qS p1 w_p1)) (rd_c m0 (S244.rd m3)) z ?_))
 obtain ⟨⟨r252, r253⟩, Xr247, R3⟩ := bsm R3
 refine yaj (r17_turned_ok (h_p0.mono le) h_x246 (h_p1.mono le) S244 Xr247) ?_
 rintro _ w248 ⟨I249, w_r252, rfl, L250, S251, h_r252⟩
 refine ⟨_, rfl, (yt (S251.rd m3) (yt (S251.rd m4) (y8 (S251.im.of_le L250)))), ?_⟩
 exact ya 8 3 z (WO.tail z (yaf S251 0 (cs_qT r252 w_r252) fun w255 S254 => ya 12 1 z (yq (yx ⟨r253, z_qC, r52.Version, r52.Tables, r52.Roles, r52.Grants, r252, I249, zw_qC, w_r52.Tables.a, w_r52.Tables.c, w_r52.Roles.a, w_r52.Roles.c, w_r52.Grants.a, w_r52.Grants.c, w_r252, sj R3, rfl, L250, S254.front1.front2.front3.front4, zok_qC, (RSl.mono h_r52.Tables L250), (RSl.mono h_r52.Roles L250), (RSl.mono h_r52.Grants L250), h_r252⟩))))
 rintro _ w260 ⟨s233, s234, s235, s236, s237, s238, s239, I192, w_s234, a_s236, c_s236, a_s237, c_s237, a_s238, c_s238, w_s239, rfl, rfl, L193, S261, h_s234, h_s236, h_s237, h_s238, h_s239⟩
 exact yx ⟨s233, s234, s235, s236, s237, s238, s239, I192, w_s234, a_s236, c_s236, a_s237, c_s237, a_s238, c_s238, w_s239, sj R2, rfl, L193, S261, h_s234, h_s236, h_s237, h_s238, h_s239⟩
 rintro _ w262 ⟨s178, s179, s180, s181, s182, s183, s184, I83, w_s179, a_s181, c_s181, a_s182, c_s182, a_s183, c_s183, w_s184, rfl, rfl, L84, S263, h_s179, h_s181, h_s182, h_s183, h_s184⟩
 exact yx ⟨s178, s179, s180, s181, s182, s183, s184, I83, w_s179, a_s181, c_s181, a_s182, c_s182, a_s183, c_s183, w_s184, sj R1, rfl, L84, S263, h_s179, h_s181, h_s182, h_s183, h_s184⟩
 rintro _ w264 ⟨s69, s70, s71, s72, s73, s74, s75, I65, w_s70, a_s72, c_s72, a_s73, c_s73, a_s74, c_s74, w_s75, rfl, rfl, L66, S265, h_s70, h_s72, h_s73, h_s74, h_s75⟩
 refine yn (yc (yi (yf nL7 (ya 0 3 z (yay [3, 4, 5] 6 139 143 (.refl ((s69 == 0) && (p1.Kind != 2))) (fun _ => yg 3 1 [0] z (yj (S265.rf m1) z (ya 5 2 z yal))) (yb (bsk D fun j268 R1 D => ya0 (J := JI E I65 [(3, Iv p3), (4, Pt b1 0), (5, Pt b5 0), (8, Pt b9 0), (11, Pt b53 0), (12, Pt b59 0), (13, Iv j268)] (bC b1 p0 w_p0 :: (bS b5 p1 w_p1) :: (bC b9 s70 w_s70) :: (Bx b53 (cs_qC (⟨s71, s72, s73, s74⟩ : qC) (⟨⟨a_s72, c_s72⟩, ⟨a_s73, c_s73⟩, ⟨a_s74, c_s74⟩⟩ : W_qC)) 29) :: (bT b59 s75 w_s75) :: Os)) ?_ ?_)))))))
 refine y6 R1 (fun G R1 => ?_) (fun G R1 => ?_)
 refine yak nL4 (yab ((cs_qC (⟨s71, s72, s73, s74⟩ : qC) (⟨⟨a_s72, c_s72⟩, ⟨a_s73, c_s73⟩, ⟨a_s74, c_s74⟩⟩ : W_qC))) (S265.rf m3) z (yab ((cs_qT s75 w_s75)) (S265.rf m4) z ?_))
 have hk272 : ok_qC I65 (⟨s71, s72, s73, s74⟩ : qC) (⟨⟨a_s72, c_s72⟩, ⟨a_s73, c_s73⟩, ⟨a_s74, c_s74⟩⟩ : W_qC) := ⟨h_s72, h_s73, h_s74⟩
 exact bsk R1 fun r278 Xr273 R1 => WO.c1 (r17_Sound_ok hk272 h_s75 S265 Xr273) z fun I275 w274 L276 S277 => ya 3 1 z (yq (sj R1 ▸ yx ⟨I275, rfl, L276, S277⟩))
 exact ym (sj R1 ▸ yx ⟨I65, rfl, lr, S265⟩)
 rintro _ w279 ⟨I270, rfl, L271, S280⟩
 refine yc (yi (yf nL8 (ya 0 3 z (yay [3, 4, 5, 6] 7 149 154 (.refl ((j268 == 0) && (decide (p0.Version ≥ p3)))) (fun _ => yg 3 1 [0] z (yj (S280.rf m0) z (ya 5 3 z yal))) (yb (bsk D fun j283 R1 D => ya0 (J := JI E I270 [(4, Pt b1 0), (5, Pt b5 0), (8, Pt b9 0), (11, Pt b53 0), (12, Pt b59 0), (13, Iv j283)] (bC b1 p0 w_p0 :: (bS b5 p1 w_p1) :: (bC b9 s70 w_s70) :: (Bx b53 (cs_qC (⟨s71, s72, s73, s74⟩ : qC) (⟨⟨a_s72, c_s72⟩, ⟨a_s73, c_s73⟩, ⟨a_s74, c_s74⟩⟩ : W_qC)) 29) :: (bT b59 s75 w_s75) :: Os)) ?_ ?_))))))
 refine y6 R1 (fun G R1 => ?_) (fun G R1 => ?_)
 exact yak [0] (ya 0 1 z (yq (sj R1 ▸ yx ⟨I270, rfl, lr, S280⟩)))
 exact ym (sj R1 ▸ yx ⟨I270, rfl, lr, S280⟩)
 rintro _ w287 ⟨I285, rfl, L286, S288⟩
 refine yc (yi (yf nL2 (ya 0 2 z (yb (y6 D (fun G D => ?_) (fun G D => ?_))))))
 exact yf nL4 (y7 0 157 (vC z_qC zw_qC) (ya 1 1 z (yaf S288.front2 0 (cs_qC z_qC zw_qC) fun w291 S290 => ya 3 1 z (yb (yp (ye (sj D ▸ yba _ (S290.rd m0) ⟨I285, zw_qC, rfl, le, S290.d5, zok_qC⟩)))))))
 refine ym (yc (yi (yf nL3 (yg 0 1 [0] z (yj (S288.rf m1) z (ya 2 1 z (yb (bsk D fun j297 R1 D => ya0 (J := (fun fr w => ∃ (s315 : Int) (s316 : List qT) (s317 : List qJ) (s318 : List qG) (s319 : qT), ∃ I299 a_s316 c_s316 a_s317 c_s317 a_s318 c_s318 w_s319, (s315, s316, s317, s318, s319) = j297 ∧ fr = [(4, Pt b1 0), (8, Pt b9 0), (11, Pt b53 0)] ∧ I285.Le I299 ∧ St E w I299 (bC b1 p0 w_p0 :: (bC b9 s70 w_s70) :: (Bx b53 (cs_qC (⟨s315, s316, s317, s318⟩ : qC) (⟨⟨a_s316, c_s316⟩, ⟨a_s317, c_s317⟩, ⟨a_s318, c_s318⟩⟩ : W_qC)) 29) :: Os) ∧ RSl 6 R_qT I299 a_s316 c_s316 s316 ∧ RSl 2 R_qJ I299 a_s317 c_s317 s317 ∧ RSl 5 R_qG I299 a_s318 c_s318 s318 ∧ ok_qT I299 s319 w_s319)) ?_ ?_))))))))
 refine y6 R1 (fun G R1 => ?_) (fun G R1 => ?_)
 refine yf nL5 (yg 0 1 [0] z (yj (S288.rf m0) z (yg 2 2 [2] z (yaf S288.front4 2 (cs_qT ({ s75 with Version := (w64 (p0.Version + 1)) }) w_s75) fun w303 S302 => yb (yak nL4 (yab ((cs_qC (⟨s71, s72, s73, s74⟩ : qC) (⟨⟨a_s72, c_s72⟩, ⟨a_s73, c_s73⟩, ⟨a_s74, c_s74⟩⟩ : W_qC))) (S302.rf m4) z (yab ((cs_qT ({ s75 with Version := (w64 (p0.Version + 1)) }) w_s75)) (S302.rf m0) z ?_)))))))
 have hk304 : ok_qC I285 (⟨s71, s72, s73, s74⟩ : qC) (⟨⟨a_s72, c_s72⟩, ⟨a_s73, c_s73⟩, ⟨a_s74, c_s74⟩⟩ : W_qC) := ⟨(RSl.mono h_s72 (L271.trans L286)), (RSl.mono h_s73 (L271.trans L286)), (RSl.mono h_s74 (L271.trans L286))⟩
 have hk305 : ok_qT I285 ({ s75 with Version := (w64 (p0.Version + 1)) }) w_s75 := ⟨(RSl.mono h_s75.Cols (L271.trans L286)), (RSl.mono h_s75.Cons (L271.trans L286)), (RSl.mono h_s75.Idx (L271.trans L286))⟩
 refine bsk R1 fun r311 Xr306 R1 => yaj (r17_with_ok hk304 hk305 S302 Xr306) ?_
 rintro _ w307 ⟨I308, w_r311, rfl, L309, S310, h_r311⟩
 refine cv (yaf S310.front4 0 (cs_qC r311 w_r311) fun w314 S313 => yq ?_)
 have hk320 : ok_qT I308 ({ s75 with Version := (w64 (p0.Version + 1)) }) w_s75 := ⟨(RSl.mono h_s75.Cols ((L271.trans L286).trans L309)), (RSl.mono h_s75.Cons ((L271.trans L286).trans L309)), (RSl.mono h_s75.Idx ((L271.trans L286).trans L309))⟩
 exact yx ⟨r311.Version, r311.Tables, r311.Roles, r311.Grants, { s75 with Version := (w64 (p0.Version + 1)) }, I308, w_r311.Tables.a, w_r311.Tables.c, w_r311.Roles.a, w_r311.Roles.c, w_r311.Grants.a, w_r311.Grants.c, w_s75, sj R1, rfl, L309, S313.front1.drop.front2.drop.front2.front2, h_r311.Tables, h_r311.Roles, h_r311.Grants, hk320⟩
 exact ym (yx ⟨s71, s72, s73, s74, s75, I285, a_s72, c_s72, a_s73, c_s73, a_s74, c_s74, w_s75, sj R1, rfl, lr, S288.front1.drop.front3.drop, (up h_s72), (up h_s73), (up h_s74), (h_s75.mono le)⟩)
 rintro _ w331 ⟨s315, s316, s317, s318, s319, I299, a_s316, c_s316, a_s317, c_s317, a_s318, c_s318, w_s319, rfl, rfl, L300, S332, h_s316, h_s317, h_s318, h_s319⟩
 refine yc (yf nL5 (yg 0 1 [0] z (yj (S332.rf m0) z (yg 2 2 [0] z (yaf S332.front2 0 (cs_qC (⟨(w64 (p0.Version + 1)), s316, s317, s318⟩ : qC) (⟨⟨a_s316, c_s316⟩, ⟨a_s317, c_s317⟩, ⟨a_s318, c_s318⟩⟩ : W_qC)) fun w335 S334 => yz nL3 (yab ((cs_qC (⟨(w64 (p0.Version + 1)), s316, s317, s318⟩ : qC) (⟨⟨a_s316, c_s316⟩, ⟨a_s317, c_s317⟩, ⟨a_s318, c_s318⟩⟩ : W_qC))) (S334.rf m0) z (yaf S334.front2 0 (cs_qC (⟨(w64 (p0.Version + 1)), s316, s317, s318⟩ : qC) (⟨⟨a_s316, c_s316⟩, ⟨a_s317, c_s317⟩, ⟨a_s318, c_s318⟩⟩ : W_qC)) fun w338 S337 => ya 2 1 z (yb (yp ?_)))))))))
 have hk342 : ok_qC I299 (⟨(w64 (p0.Version + 1)), s316, s317, s318⟩ : qC) (⟨⟨a_s316, c_s316⟩, ⟨a_s317, c_s317⟩, ⟨a_s318, c_s318⟩⟩ : W_qC) := ⟨h_s316, h_s317, h_s318⟩
 exact sj D ▸ yba _ (S337.rd m0) ⟨I299, (⟨⟨a_s316, c_s316⟩, ⟨a_s317, c_s317⟩, ⟨a_s318, c_s318⟩⟩ : W_qC), rfl, le, S337.d3, hk342⟩
noncomputable def law19_first  : Option qC := (r17_New).bind (fun r10 => (forE (fun (i32 : Nat) (s31 : qC) => ((idx ([(⟨#[97, 110, 110]⟩ : By8), (⟨#[98, 111, 98]⟩ : By8), (⟨#[99, 121]⟩ : By8)] : List By8) (i32 : Int)).bind (fun x46 => (r19_Make s31 ({ z_qS with Kind := 10, Name := x46 }) (⟨#[114, 111, 111, 116]⟩ : By8) 1000).bind (fun (r57, r58) => some (r57, r58)))).bind (fun ((s61, s62) : qC × Int) => ((bif (s62 == 0) then some s61 else some s31)).bind (fun (j101 : qC) => some j101))) 3 0 r10).bind (fun s31 => (r17_Make s31 ({ z_qS with Kind := 1, Table := (⟨#[116]⟩ : By8), Cols := ([{ z_qL with Name := (⟨#[97]⟩ : By8), Type_ := 1 }] : List qL) }) (⟨#[97, 110, 110]⟩ : By8) 1000).bind (fun (r134, r135) => ((bif (r135 == 0) then some r134 else some s31)).bind (fun (j142 : qC) => some j142))))
theorem law19_first_ok (hS : St E w I Os) {r : qC} (D : law19_first = some r) :
    Calls P 9 #[] w (fun e w' => ∃ I' w_rw0, e = .returned (vC r w_rw0) ∧ I.Le I' ∧ St E w' I' Os ∧ ok_qC I' r w_rw0) := by
 refine calls_W (fn := Tryz.f9) rfl rfl rfl ?_
 unfold law19_first at D
 refine yf [0] (yad hS (cs_qC z_qC zw_qC) 29 z fun b1 w4 S3 => yz nL3 (bsk D fun r10 Xr5 D => yaj (r17_New_ok  S3 Xr5) ?_))
 rintro _ w6 ⟨I7, w_r10, rfl, L8, S9, h_r10⟩
 refine cv (yad S9 (cs_qC z_qC zw_qC) 29 z fun b11 w14 S13 => yaf S13 0 (cs_qC r10 w_r10) fun w16 S15 => yz nL2 (yai (rel := RStr) (xs := ([(⟨#[97, 110, 110]⟩ : By8), (⟨#[98, 111, 98]⟩ : By8), (⟨#[99, 121]⟩ : By8)] : List By8)) S15 z kr z 9 1 [[(.string (⟨#[97, 110, 110]⟩ : By8))], [(.string (⟨#[98, 111, 98]⟩ : By8))], [(.string (⟨#[99, 121]⟩ : By8))]] kr z ((Elr.cons z (Elr.cons z (Elr.cons z Elr.nil)))) tv ?_))
 intro a20 C18 w22 S21 ho19
 obtain ⟨I24, L25, S27, hp26⟩ := OwnSl.pub ho19 S21
 refine ya 1 1 z (yb (yi (yf [0] (ya 0 1 z (yb (yo (bsk D fun s31 hloop33 D => have hlt38 := (hp26).len_lt; W.wk (ya5 (m := 3) hloop33 (fun (i32 : Nat) (s31 : qC) fr w => ∃ I29 w_s31, fr = [(0, Pt b1 0), (1, Pt b11 0), (2, .slice a20 3 3), (3, Nv i32)] ∧ I24.Le I29 ∧ St E w I29 (bC b1 z_qC zw_qC :: (bC b11 s31 w_s31) :: Os) ∧ ok_qC I29 s31 w_s31) ⟨I24, w_r10, rfl, lr, S27.front1, (h_r10.mono L25)⟩ ?_ ?_))))))))
 rintro i32 s31 _ w35 hi39 ⟨I29, w_s31, rfl, L30, S36, h_s31⟩ x37 R1
 refine yi (yf nL4 (ya 0 4 z (yb (yaw fun _ => ym (yc (yi (yo (yi (bsk R1 fun j40 R2 R1 => ya0 (J := (fun fr w => ∃ (s61 : qC) (s62 : Int), ∃ I42 w_s61 b_s61, (s61, s62) = j40 ∧ fr = [(0, Pt b1 0), (1, Pt b11 0), (2, .slice a20 3 3), (3, Nv i32), (4, Pt b_s61 0), (5, Iv s62)] ∧ I29.Le I42 ∧ St E w I42 (bC b1 z_qC zw_qC :: (bC b11 s31 w_s31) :: (bC b_s61 s61 w_s61) :: Os) ∧ ok_qC I42 s61 w_s61)) ?_ ?_)))))))))
 have S44 := S36.drew
 refine yb1 (.split 10 5 (.leaf [0, 1, 2, 3, 4, 10, 5, 6, 7, 8, 9, 11, 12]) (.split 10 6 (.leaf [0, 1, 2, 3, 4, 5, 10, 6, 7, 8, 9, 11, 12]) (.leaf nL13))) 11 (KR I29 [bC b11 s31 w_s31]) qR (.ords nL13 [0, 1, 2, 3, 4, 5, 6, 7, 8, 10, 11, 9, 12] kr kr kr kr kr) kr (yt (S44.rd m1) (y8 S44.im)) ?_
 generalize World.drew _ = w45 at *
 refine ⟨?_, ?_⟩
 show WO _ _ _ _ _ _ _ [0, 1, 2, 3, 4, 10, 5, 6, 7, 8, 9, 11, 12] _ _
 refine yab ((cs_qC s31 w_s31)) (rd_c m0 (S44.rd m1)) z (ya 1 2 z (yaa 18 z (show Value.slice a20 3 3 = Value.slice a20 ([(⟨#[97, 110, 110]⟩ : By8), (⟨#[98, 111, 98]⟩ : By8), (⟨#[99, 121]⟩ : By8)] : List By8).length 3 from z) ?_))
 obtain ⟨x46, R2, Hx46, _, rfl, Zx46⟩ := sx I29 hp26 R2
 refine yac 9 1 Hx46 z (yar Zx46 (rd_i S44.im) z (ybk S44 z kr z (.cells (cs_qC z_qC zw_qC).toArray 29 (0, 0)) (fun b => .pointer (some ⟨b, 0, none⟩)) kr (fun b47 w50 S49 => (yt (S49.rd m2) (y8 S49.im))) ?_))
 intro b47 w50 S49
 refine y7 5 22 (.agg (cs_qS ({ z_qS with Kind := 10, Name := x46 }) zw_qS).toArray) ?_
 have hk51 : ok_qS I29 ({ z_qS with Kind := 10, Name := x46 }) zw_qS := ⟨SlAt.nil, SlAt.nil, SlAt.nil, SlAt.nil, zok_qS.Where, SlAt.nil, SlAt.nil, SlAt.nil⟩
 obtain ⟨⟨r57, r58⟩, Xr52, R2⟩ := bsm R2
 refine yaj (r19_Make_ok h_s31 hk51 S49 Xr52) ?_
 rintro _ w53 ⟨I54, w_r57, rfl, L55, S56, h_r57⟩
 refine ⟨_, rfl, (yt (S56.rd m2) (y8 (S56.im.of_le L55))), ?_⟩
 exact ya 7 3 z (WO.tail z (yaf S56 0 (cs_qC r57 w_r57) fun w60 S59 => ya 12 1 z (yq (yx ⟨r57, r58, I54, w_r57, b47, sj R2, rfl, L55, S59.front2.front2, h_r57⟩))))
 refine ⟨?_, ?_⟩
 show WO _ _ _ _ _ _ _ [0, 1, 2, 3, 4, 5, 10, 6, 7, 8, 9, 11, 12] _ _
 refine yab ((cs_qC s31 w_s31)) (rd_c m0 (S44.rd m1)) z (ya 1 2 z (yaa 18 z (show Value.slice a20 3 3 = Value.slice a20 ([(⟨#[97, 110, 110]⟩ : By8), (⟨#[98, 111, 98]⟩ : By8), (⟨#[99, 121]⟩ : By8)] : List By8).length 3 from z) ?_))
 obtain ⟨x65, R2, Hx65, _, rfl, Zx65⟩ := sx I29 hp26 R2
 refine yac 9 1 Hx65 z (yar Zx65 (rd_i S44.im) z (y7 5 22 (.agg (cs_qS ({ z_qS with Kind := 10, Name := x65 }) zw_qS).toArray) (ybk S44 z kr z (.cells (cs_qC z_qC zw_qC).toArray 29 (0, 0)) (fun b => .pointer (some ⟨b, 0, none⟩)) kr (fun b66 w69 S68 => (yt (S68.rd m2) (y8 S68.im))) ?_)))
 intro b66 w69 S68
 have hk70 : ok_qS I29 ({ z_qS with Kind := 10, Name := x65 }) zw_qS := ⟨SlAt.nil, SlAt.nil, SlAt.nil, SlAt.nil, zok_qS.Where, SlAt.nil, SlAt.nil, SlAt.nil⟩
 obtain ⟨⟨r76, r77⟩, Xr71, R2⟩ := bsm R2
 refine yaj (r19_Make_ok h_s31 hk70 S68 Xr71) ?_
 rintro _ w72 ⟨I73, w_r76, rfl, L74, S75, h_r76⟩
 refine ⟨_, rfl, (yt (S75.rd m2) (y8 (S75.im.of_le L74))), ?_⟩
 exact ya 7 3 z (WO.tail z (yaf S75 0 (cs_qC r76 w_r76) fun w79 S78 => ya 12 1 z (yq (yx ⟨r76, r77, I73, w_r76, b66, sj R2, rfl, L74, S78.front2.front2, h_r76⟩))))
 show WO _ _ _ _ _ _ _ nL13 _ _
 refine yab ((cs_qC s31 w_s31)) (rd_c m0 (S44.rd m1)) z (ya 1 2 z (yaa 18 z (show Value.slice a20 3 3 = Value.slice a20 ([(⟨#[97, 110, 110]⟩ : By8), (⟨#[98, 111, 98]⟩ : By8), (⟨#[99, 121]⟩ : By8)] : List By8).length 3 from z) ?_))
 obtain ⟨x82, R2, Hx82, _, rfl, Zx82⟩ := sx I29 hp26 R2
 refine yac 9 1 Hx82 z (yar Zx82 (rd_i S44.im) z (y7 5 22 (.agg (cs_qS ({ z_qS with Kind := 10, Name := x82 }) zw_qS).toArray) ?_))
 have hk83 : ok_qS I29 ({ z_qS with Kind := 10, Name := x82 }) zw_qS := ⟨SlAt.nil, SlAt.nil, SlAt.nil, SlAt.nil, zok_qS.Where, SlAt.nil, SlAt.nil, SlAt.nil⟩
 obtain ⟨⟨r89, r90⟩, Xr84, R2⟩ := bsm R2
 refine yaj (r19_Make_ok h_s31 hk83 S44 Xr84) ?_
 rintro _ w85 ⟨I86, w_r89, rfl, L87, S88, h_r89⟩
 refine ⟨_, rfl, (yt (S88.rd m1) (y8 (S88.im.of_le L87))), ?_⟩
 refine ya 7 3 z (ybk S88 z kr z (.cells (cs_qC z_qC zw_qC).toArray 29 (0, 0)) (fun b => .pointer (some ⟨b, 0, none⟩)) kr (fun b91 w94 S93 => (yt (S93.rd m2) (y8 (S93.im.of_le L87)))) ?_)
 intro b91 w94 S93
 exact WO.tail z (yaf S93 0 (cs_qC r89 w_r89) fun w96 S95 => ya 12 1 z (yq (yx ⟨r89, r90, I86, w_r89, b91, sj R2, rfl, L87, S95.front2.front2, h_r89⟩)))
 rintro _ w99 ⟨s61, s62, I42, w_s61, b_s61, rfl, rfl, L43, S100, h_s61⟩
 refine yc (yf nL2 (ya 0 2 z (yb (bsk R1 fun j101 R2 R1 => ya0 (J := (fun fr w => ∃ I103 w_j101, fr = [(0, Pt b1 0), (1, Pt b11 0), (2, .slice a20 3 3), (3, Nv i32)] ∧ I42.Le I103 ∧ St E w I103 (bC b1 z_qC zw_qC :: (bC b11 j101 w_j101) :: Os) ∧ ok_qC I103 j101 w_j101)) ?_ ?_))))
 refine y6 R2 (fun G R2 => ?_) (fun G R2 => ?_)
 exact yak nL2 (yab ((cs_qC s61 w_s61)) (S100.rf m2) z (yaf S100.front1 0 (cs_qC s61 w_s61) fun w107 S106 => yq (sj R2 ▸ yx ⟨I42, w_s61, rfl, lr, S106.front2.drop.front1, h_s61⟩)))
 exact ym (sj R2 ▸ yx ⟨I42, w_s31, rfl, lr, S100.front2.drop, (h_s31.mono L43)⟩)
 rintro _ w113 ⟨I103, w_j101, rfl, L104, S114, h_j101⟩
 exact yn (yc (yak nL3 (ya 0 1 z (yaq i32 z (ya 2 1 z (yq (sj R1 ▸ yx ⟨I103, w_j101, rfl, le, S114, h_j101⟩)))))))
 rintro _ w115 ⟨I29, w_s31, rfl, L30, S116, h_s31⟩
 refine yi (yf nL4 (ya 0 4 z (yb (yax fun _ => yae (yr (yu (yv (yc (yf nL11 (yab ((cs_qC s31 w_s31)) (S116.rf m1) z (y7 1 31 (.agg (cs_qL ({ z_qL with Name := (⟨#[97]⟩ : By8), Type_ := 1 })).toArray) (yai (rel := R_qL) (xs := ([{ z_qL with Name := (⟨#[97]⟩ : By8), Type_ := 1 }] : List qL)) S116 z kr z 73 3 [(cs_qL ({ z_qL with Name := (⟨#[97]⟩ : By8), Type_ := 1 }))] kr z ((Elr.cons z Elr.nil)) tv ?_))))))))))))
 intro a120 C118 w122 S121 ho119
 obtain ⟨I124, L125, S127, hp126⟩ := OwnSl.pub ho119 S121
 refine y7 3 33 (.agg #[(Iv 1), (.string (⟨#[116]⟩ : By8)), (.string eB), (.string eB), (.slice a120 1 1), (.slice none 0 0), (.slice none 0 0), (.slice none 0 0), (Iv 0), (Iv 0), (Iv 0), (Iv 0), (.string eB), (.string eB), (.slice none 0 0), (.slice none 0 0), (.slice none 0 0), (Iv 0), (Iv 0), (.bool false), (.slice none 0 0)]) ?_
 have hk128 : ok_qS I124 ({ z_qS with Kind := 1, Table := (⟨#[116]⟩ : By8), Cols := ([{ z_qL with Name := (⟨#[97]⟩ : By8), Type_ := 1 }] : List qL) }) ({ zw_qS with Cols := ⟨a120, 1⟩ }) := ⟨hp126, SlAt.nil, SlAt.nil, SlAt.nil, zok_qS.Where, SlAt.nil, SlAt.nil, SlAt.nil⟩
 obtain ⟨⟨r134, r135⟩, Xr129, D⟩ := bsm D
 refine yaj (r17_Make_ok (h_s31.mono L125) hk128 S127 Xr129) ?_
 rintro _ w130 ⟨I131, w_r134, rfl, L132, S133, h_r134⟩
 refine cv (ya 5 3 z (yad S133 (cs_qC z_qC zw_qC) 29 z fun b136 w139 S138 => yaf S138 0 (cs_qC r134 w_r134) fun w141 S140 => ya 10 1 z (yb (yi (yf nL2 (ya 0 2 z (yb (bsk D fun j142 R1 D => ya0 (J := (fun fr w => ∃ I144 w_j142, fr = [(0, Pt b1 0), (1, Pt b11 0)] ∧ I131.Le I144 ∧ St E w I144 (bC b1 z_qC zw_qC :: (bC b11 j142 w_j142) :: Os) ∧ ok_qC I144 j142 w_j142)) ?_ ?_))))))))
 refine y6 R1 (fun G R1 => ?_) (fun G R1 => ?_)
 exact yak nL2 (yab ((cs_qC r134 w_r134)) (S140.rf m0) z (yaf S140.front2 0 (cs_qC r134 w_r134) fun w148 S147 => yq (sj R1 ▸ yx ⟨I131, w_r134, rfl, lr, S147.front1.drop.front1, h_r134⟩)))
 exact ym (sj R1 ▸ yx ⟨I131, w_s31, rfl, lr, S140.drop, (h_s31.mono le)⟩)
 rintro _ w153 ⟨I144, w_j142, rfl, L145, S154, h_j142⟩
 exact yc (yf nL2 (yab ((cs_qC j142 w_j142)) (S154.rf m1) z (yaf S154 0 (cs_qC j142 w_j142) fun w156 S155 => yb (yp (sj D ▸ En.c1 _ (S155.rd m0) ⟨I144, w_j142, rfl, le, S155.d2, h_j142⟩)))))
noncomputable def law19_Next (p0 : qC) (p1 : law19_Act) : Option (qC × Int) := (r19_Make p0 p1.S p1.By 1000).bind (fun (r18, r19) => ((bif (decide (p1.S.Kind < 10)) then (r17_Make p0 p1.S p1.By 1000).bind (fun (r35, r36) => some (r36, r35)) else some (r19, r18))).bind (fun ((s39, s40) : Int × qC) => (bif (s39 != 0) then some (p0, s39) else some (s40, s39))))
theorem law19_Next_ok {p0 : qC} {p1 : law19_Act} {w_p0 : W_qC} {w_p1 : W_law19_Act} (h_p0 : ok_qC I p0 w_p0) (h_p1 : ok_law19_Act I p1 w_p1) (hS : St E w I Os) {r : qC × Int} (D : law19_Next p0 p1 = some r) :
    Calls P 10 #[(vC p0 w_p0), (.agg (cs_law19_Act p1 w_p1).toArray)] w (fun e w' => ∃ I' w_rw0, e = .returned (.tuple #[(vC r.1 w_rw0), (Iv r.2)]) ∧ I.Le I' ∧ St E w' I' Os ∧ ok_qC I' r.1 w_rw0) := by
 refine calls_W (fn := Tryz.f10) rfl rfl rfl ?_
 unfold law19_Next at D
 refine yf nL4 (yad hS (cs_qC p0 w_p0) 29 z fun b1 w4 S3 => yad S3 (cs_law19_Act p1 w_p1) 46 z fun b5 w8 S7 => yad S7 (cs_qC z_qC zw_qC) 29 z fun b9 w12 S11 => ya 3 1 z (yz nL12 (yab ((cs_qC p0 w_p0)) (S11.rf m2) z (yg 1 1 [0] z (yab ((cs_qS p1.S w_p1.S)) (S11.rf m1) z (yg 3 1 [21] z (yj (S11.rf m1) z ?_)))))))
 obtain ⟨⟨r18, r19⟩, Xr13, D⟩ := bsm D
 refine yaj (r19_Make_ok h_p0 h_p1.S S11 Xr13) ?_
 rintro _ w14 ⟨I15, w_r18, rfl, L16, S17, h_r18⟩
 refine cv (ya 6 3 z (yad S17 (cs_qC z_qC zw_qC) 29 z fun b20 w23 S22 => yaf S22 0 (cs_qC r18 w_r18) fun w25 S24 => ya 11 1 z (yb (yi (yf nL4 (yg 0 2 [0, 0] z (yj (S24.rf m2) z (ya 3 1 z (yb (bsk D fun j26 R1 D => ya0 (J := (fun fr w => ∃ (s39 : Int) (s40 : qC), ∃ I28 w_s40, (s39, s40) = j26 ∧ fr = [(2, Pt b1 0), (4, Pt b9 0), (6, Pt b20 0), (7, Iv s39)] ∧ I15.Le I28 ∧ St E w I28 (bC b1 p0 w_p0 :: (bC b9 z_qC zw_qC) :: (bC b20 s40 w_s40) :: Os) ∧ ok_qC I28 s40 w_s40)) ?_ ?_))))))))))
 refine y6 R1 (fun G R1 => ?_) (fun G R1 => ?_)
 refine yak nL11 (yab ((cs_qC p0 w_p0)) (S24.rf m3) z (yg 1 1 [0] z (yab ((cs_qS p1.S w_p1.S)) (S24.rf m2) z (yg 3 1 [21] z (yj (S24.rf m2) z ?_)))))
 obtain ⟨⟨r35, r36⟩, Xr30, R1⟩ := bsm R1
 refine yaj (r17_Make_ok (h_p0.mono L16) (h_p1.S.mono L16) S24 Xr30) ?_
 rintro _ w31 ⟨I32, w_r35, rfl, L33, S34, h_r35⟩
 exact cv (ya 6 3 z (yaf S34 0 (cs_qC r35 w_r35) fun w38 S37 => ya 10 1 z (yq (yx ⟨r36, r35, I32, w_r35, sj R1, rfl, L33, S37.front2.drop.front1.front2, h_r35⟩))))
 exact ym (yx ⟨r19, r18, I15, w_r18, sj R1, rfl, lr, S24.front2.drop.front1.front2, h_r18⟩)
 rintro _ w49 ⟨s39, s40, I28, w_s40, rfl, rfl, L29, S50, h_s40⟩
 refine yc (yi (yf nL2 (ya 0 2 z (yb (y6 D (fun G D => ?_) (fun G D => ?_))))))
 exact yf nL4 (yab ((cs_qC p0 w_p0)) (S50.rf m0) z (ya 1 1 z (yaf S50.front1 0 (cs_qC p0 w_p0) fun w53 S52 => ya 3 1 z (yb (yp (ye (sj D ▸ yba _ (S52.rd m0) ⟨I28, w_p0, rfl, le, S52.d3, (h_p0.mono le)⟩)))))))
 exact ym (yc (yf nL4 (yab ((cs_qC s40 w_s40)) (S50.rf m2) z (ya 1 1 z (yaf S50.front1 0 (cs_qC s40 w_s40) fun w59 S58 => ya 3 1 z (yb (yp (sj D ▸ yba _ (S58.rd m0) ⟨I28, w_s40, rfl, le, S58.d3, h_s40⟩))))))))
noncomputable def law19_Grown (p0 : List law19_Act) : Option qC := (law19_first).bind (fun r10 => (forE (fun (i21 : Nat) (s20 : qC) => (idx p0 (i21 : Int)).bind (fun x31 => (law19_Next s20 x31).bind (fun (r37, r38) => some r37))) p0.length 0 r10).bind (fun s20 => some s20))
theorem law19_Grown_ok {p0 : List law19_Act} {a_p0 : Option Addr} {c_p0 : Nat} (h_p0 : RSl 22 R_law19_Act I a_p0 c_p0 p0) (hS : St E w I Os) {r : qC} (D : law19_Grown p0 = some r) :
    Calls P 16 #[(Sl a_p0 p0 c_p0)] w (fun e w' => ∃ I' w_rw0, e = .returned (vC r w_rw0) ∧ I.Le I' ∧ St E w' I' Os ∧ ok_qC I' r w_rw0) := by
 refine calls_W (fn := Tryz.f16) rfl rfl rfl ?_
 unfold law19_Grown at D
 refine yf [0] (yad hS (cs_qC z_qC zw_qC) 29 z fun b1 w4 S3 => yz nL3 (bsk D fun r10 Xr5 D => yaj (law19_first_ok  S3 Xr5) ?_))
 rintro _ w6 ⟨I7, w_r10, rfl, L8, S9, h_r10⟩
 refine cv (yad S9 (cs_qC z_qC zw_qC) 29 z fun b11 w14 S13 => yaf S13 0 (cs_qC r10 w_r10) fun w16 S15 => yb (yi (yf [0] (ya 0 1 z (yb (yo (bsk D fun s20 hloop22 D => have hlt27 := ((RSl.mono h_p0 L8)).len_lt; W.wk (ya5 (m := p0.length) hloop22 (fun (i21 : Nat) (s20 : qC) fr w => ∃ I18 w_s20, fr = [(0, Sl a_p0 p0 c_p0), (2, Pt b1 0), (3, Pt b11 0), (4, Nv i21)] ∧ I7.Le I18 ∧ St E w I18 (bC b1 z_qC zw_qC :: (bC b11 s20 w_s20) :: Os) ∧ ok_qC I18 s20 w_s20) ⟨I7, w_r10, rfl, lr, S15.front1, h_r10⟩ ?_ ?_))))))))
 rintro i21 s20 _ w24 hi28 ⟨I18, w_s20, rfl, L19, S25, h_s20⟩ x26 R1
 refine yi (yf nL4 (ya 0 4 z (yb (yaw fun _ => ym (yc (yi (yo (have S29 := S25.drew; yb0 (l := nL10) kr 9 (KR I18 [bC b11 s20 w_s20]) qR (.ords nL10 [0, 1, 2, 3, 4, 5, 6, 7, 9, 8] kr kr kr kr kr) kr (yt (S29.rd m1) (y8 S29.im)) ?_))))))))
 generalize World.drew _ = w30 at *
 refine yab ((cs_qC s20 w_s20)) (rd_c m0 (S29.rd m1)) z (ya 1 2 z ?_)
 obtain ⟨x31, R1, Hx31, _, ⟨w_x31, rfl, h_x31⟩, Zx31⟩ := sx I18 h_p0 R1
 refine yac 46 22 Hx31 z (yau ((cs_law19_Act x31 w_x31)) Zx31 0 (rd_i S29.im) z ?_)
 obtain ⟨⟨r37, r38⟩, Xr32, R1⟩ := bsm R1
 refine yaj (law19_Next_ok h_s20 h_x31 S29 Xr32) ?_
 rintro _ w33 ⟨I34, w_r37, rfl, L35, S36, h_r37⟩
 refine ⟨_, rfl, (yt (S36.rd m1) (y8 (S36.im.of_le L35))), ?_⟩
 exact ya 6 3 z (WO.tail z (yaf S36.front1 0 (cs_qC r37 w_r37) fun w41 S40 => yq (yn (yc (yak nL3 (ya 0 1 z (yaq i21 z (ya 2 1 z (yq (sj R1 ▸ yx ⟨I34, w_r37, rfl, le, S40.front1, h_r37⟩))))))))))
 rintro _ w43 ⟨I18, w_s20, rfl, L19, S44, h_s20⟩
 exact yi (yf nL4 (ya 0 4 z (yb (yax fun _ => yae (yr (yu (yv (yc (yf nL2 (yab ((cs_qC s20 w_s20)) (S44.rf m1) z (yaf S44 0 (cs_qC s20 w_s20) fun w46 S45 => yb (yp (sj D ▸ En.c1 _ (S45.rd m0) ⟨I18, w_s20, rfl, le, S45.d2, h_s20⟩)))))))))))))
def slices_IndexFunc_qJ (p0 : List qJ) (p1 : qJ → Option Bool) : Option Int := (forN (fun (i4 : Nat) (_s : Unit) => (idx p0 (i4 : Int)).bind (fun x11 => (p1 x11).bind (fun (r17 : Bool) => (bif r17 then some (.inr (i4 : Int)) else some (.inl ()))))) p0.length 0 ()).bind (fun (t : Unit ⊕ (Int)) => match t with | .inl _ => some (-1) | .inr s19 => some s19)
theorem slices_IndexFunc_qJ_ok {p0 : List qJ} {p1 : qJ → Option Bool} {a_p0 : Option Addr} {c_p0 : Nat} {g_p1 : FuncId} {k_p1 : List Value} (h_p0 : RSl 2 R_qJ I a_p0 c_p0 p0) (h_p1 : ∀ {F : List Mem} {I' : Mem} {w : World} {u0 : qJ} {w_u0 : W_qJ}, I.Le I' → St E w I' (F ++ Os) → ok_qJ I' u0 w_u0 → ∀ {r : Bool}, p1 u0 = some r → Calls P g_p1 (([(vJ u0 w_u0)] : List Value) ++ k_p1).toArray w (fun e w' => ∃ (I'' : Mem), e = .returned (.bool r) ∧ I'.Le I'' ∧ St E w' I'' (F ++ Os))) (hcall_p1 : Callable P g_p1) (hS : St E w I Os) {r : Int} (D : slices_IndexFunc_qJ p0 p1 = some r) :
    Calls P 95 #[(Sl a_p0 p0 c_p0), (.func (.func g_p1) #[] k_p1.toArray)] w (RT E I Os (Iv r)) := by
 refine calls_W (fn := Tryz.f95) rfl rfl rfl ?_
 unfold slices_IndexFunc_qJ at D
 refine yf [0] (ya 0 1 z (yb (yi (yf nL3 (ya 0 3 z (yb (yo (bsk D fun t1 hloop5 D => have hlt9 := (h_p0).len_lt; W.wk (yas (m := p0.length) hloop5 (fun (i4 : Nat) (_s : Unit) => JI E I [(0, Sl a_p0 p0 c_p0), (1, .func (.func g_p1) #[] k_p1.toArray), (7, Nv p0.length), (8, Nv i4)] Os) ⟨I, rfl, lr, hS⟩ ?_ ?_)))))))))
 rintro i4 _ _ w6 hi10 ⟨I2, rfl, L3, S7⟩ x8 R1 hext1
 refine yf [0] (ya 0 1 z (yb (yi (yaw fun _ => ym (yc (yi (yo (yf nL2 (ya 0 2 z (yz nL6 (y7 0 11 (.func (.func g_p1) #[] k_p1.toArray) (ya 1 2 z ?_))))))))))))
 obtain ⟨x11, R1, Hx11, _, ⟨w_x11, rfl, h_x11⟩, Zx11⟩ := sx I2 h_p0 R1
 refine yac 62 2 Hx11 z (yau ((cs_qJ x11 w_x11)) Zx11 0 S7.rm z (bsk R1 fun r17 Xr12 R1 => yby z kr z (g := g_p1) (kk := k_p1) (args := [(vJ x11 w_x11)]) z kr hcall_p1 (h_p1 (F := []) L3 S7 h_x11 Xr12) ?_))
 rintro _ w13 ⟨I14, rfl, L15, S16⟩
 refine cv (yb (y6 R1 (fun G R1 => ?_) (fun G R1 => ?_)))
 refine yf nL2 (ya 0 2 z (yb (yp (yl (ye (yw ?_))))))
 obtain rfl := hext1 _ (sj R1).symm
 exact yl (ye (sj D ▸ yy ⟨I14, rfl, le, S16⟩))
 exact ym (yn (yc (yak nL2 (yaq i4 z (ya 1 1 z (yq (yx ⟨(), (sj R1).symm, I14, rfl, le, S16⟩)))))))
 rintro _ _ w20 ⟨I2, rfl, L3, S21⟩ he
 cases he
 exact yf [0] (ya 0 1 z (yb (yi (yax fun _ => yae (yr (yu (yv (yc (yf [0] (ya 0 1 z (yb (yp (sj D ▸ yy ⟨I2, rfl, L3, S21⟩)))))))))))))
def member_at_1 (p0 : qJ) (q1 : By8) : Option Bool := some (sEq p0.Name q1)
theorem member_at_1_ok {p0 : qJ} {q1 : By8} {w_p0 : W_qJ} {kb1 : Nat} (h_p0 : ok_qJ I p0 w_p0) (hm1 : (Bx kb1 [(.string q1)] 9) ∈ Os) (hS : St E w I Os) {r : Bool} (D : member_at_1 p0 q1 = some r) :
    Calls P 96 #[(vJ p0 w_p0), (Pt kb1 0)] w (RT E I Os (.bool r)) := by
 refine calls_W (fn := Tryz.f96) rfl rfl rfl ?_
 unfold member_at_1 at D
 exact yf nL2 (yad hS (cs_qJ p0 w_p0) 62 z fun b1 w4 S3 => ya 1 1 z (yz nL5 (yg 0 1 [0] z (yj (S3.rf m0) z (yj (rd_f (S3.rd (List.Mem.tail _ hm1))) z (ya 3 2 z (yb (yp (sj D ▸ yy ⟨I, rfl, lr, S3.drop⟩)))))))))
def member_at (p0 : List qJ) (p1 : By8) : Option Int := (slices_IndexFunc_qJ p0 (fun (u0 : qJ) => member_at_1 u0 p1)).bind (fun r10 => some r10)
theorem member_at_ok {p0 : List qJ} {p1 : By8} {a_p0 : Option Addr} {c_p0 : Nat} (h_p0 : RSl 2 R_qJ I a_p0 c_p0 p0) (hS : St E w I Os) {r : Int} (D : member_at p0 p1 = some r) :
    Calls P 56 #[(Sl a_p0 p0 c_p0), (.string p1)] w (RT E I Os (Iv r)) := by
 refine calls_W (fn := Tryz.f56) rfl rfl rfl ?_
 unfold member_at at D
 exact yf nL2 (yad hS [(.string p1)] 9 z fun b1 w4 S3 => ya 1 1 z (yz nL4 (ya 0 1 z (y7 1 6 (.func (.func 96) #[] #[(Pt b1 0)]) (bsk D fun r10 Xr5 D => WO.c1 (slices_IndexFunc_qJ_ok h_p0 (fun {F Ic wc} {_} {_} hlc hSc h_u0 {rc} hrc => member_at_1_ok h_u0 (List.mem_append_right _ m0) hSc hrc) (fun _ _ => by kernel_rfl) S3 Xr5) z fun I7 w6 L8 S9 => ya 3 1 z (yb (yp (sj D ▸ yy ⟨I7, rfl, L8, S9.drop⟩))))))))
def slices_Clone_string (p0 : List By8) : Option (List By8) := (app 16 ([] : List By8) p0).bind (fun x10 => some x10)
theorem slices_Clone_string_ok {p0 : List By8} {a_p0 : Option Addr} {c_p0 : Nat} (h_p0 : RSl 1 RStr I a_p0 c_p0 p0) (hS : St E w I Os) {r : (List By8)} (D : slices_Clone_string p0 = some r) :
    Calls P 57 #[(Sl a_p0 p0 c_p0)] w (fun e w' => ∃ (I' : Mem) (ra0 : Option Addr) (rc0 : Nat) (rC0 : Mem), e = .returned (Sl ra0 r rc0) ∧ I.Le I' ∧ St E w' I' (rC0 :: Os) ∧ OwnSl 9 1 RStr I' rC0 ra0 rc0 r) := by
 refine calls_W (fn := Tryz.f57) rfl rfl rfl ?_
 unfold slices_Clone_string at D
 refine yf [0] (y7 0 2 (.slice none 0 0) (yb (yi (yf nL2 (ya 0 1 z (ybt (e := 9) z kr kr z z ?_))))))
 refine yb (ybz (fun G => ?_) (fun G => ?_))
 have ha0 := Option.isNone_iff_eq_none.1 G
 subst ha0
 have hx0 := (h_p0).none_nil
 subst hx0
 replace D : some ([] : List By8) = some r := by simpa [app] using D
 exact yf [0] (y7 0 2 (.slice none 0 0) (yb (yp (ye (sj D ▸ yy ⟨I, none, 0, Mem.no, rfl, lr, hS.no, OwnSl.nil⟩)))))
 clear G
 refine ym (yc (yf nL4 (yai (rel := RStr) (xs := ([] : List By8)) hS z kr z 9 1 [] kr z (Elr.nil) tv ?_)))
 intro a6 C4 w8 S7 ho5
 exact ya 1 1 z (apk D fun x10 h0_x10 he_x10 D => yaz 9 16 [(.string eB)] S7 ho5 h_p0 S7.im h0_x10 he_x10 z fun a11 c12 w13 C14 S15 ho16 => ya 3 1 z (yb (yp (sj D ▸ yy ⟨I, a11, c12, C14, rfl, lr, S15, ho16⟩))))
def member_Find (p0 : List qJ) (p1 : By8) : Option (qJ × Bool) := (member_at p0 p1).bind (fun r10 => (bif (decide (r10 < 0)) then some (z_qJ, false) else (idx p0 r10).bind (fun x16 => (idx p0 r10).bind (fun x17 => (slices_Clone_string x17.In).bind (fun r23 => some ({ x16 with In := r23 }, true))))))
theorem member_Find_ok {p0 : List qJ} {p1 : By8} {a_p0 : Option Addr} {c_p0 : Nat} (h_p0 : RSl 2 R_qJ I a_p0 c_p0 p0) (hS : St E w I Os) {r : qJ × Bool} (D : member_Find p0 p1 = some r) :
    Calls P 32 #[(Sl a_p0 p0 c_p0), (.string p1)] w (fun e w' => ∃ I' w_rw0, e = .returned (.tuple #[(vJ r.1 w_rw0), (.bool r.2)]) ∧ I.Le I' ∧ St E w' I' Os ∧ ok_qJ I' r.1 w_rw0) := by
 refine calls_W (fn := Tryz.f32) rfl rfl rfl ?_
 unfold member_Find at D
 refine yf nL2 (yad hS (cs_qJ z_qJ zw_qJ) 62 z fun b1 w4 S3 => ya 1 1 z (yz nL4 (ya 0 2 z (bsk D fun r10 Xr5 D => WO.c1 (member_at_ok h_p0 S3 Xr5) z fun I7 w6 L8 S9 => ya 3 1 z (yb (yi (yf nL2 (ya 0 2 z (yb (y6 D (fun G D => ?_) (fun G D => ?_)))))))))))
 exact yf nL3 (y7 0 12 (vJ z_qJ zw_qJ) (yaf S9 0 (cs_qJ z_qJ zw_qJ) fun w12 S11 => ya 2 1 z (yb (yp (ye (sj D ▸ yba _ (S11.rd m0) ⟨I7, zw_qJ, rfl, L8, S11.drop, zok_qJ⟩))))))
 refine ym (yc (yi (have S14 := S9.drew; ybd nL14 11 (y8 S14.im) ?_)))
 generalize World.drew _ = w15 at *
 refine ya 0 2 z ?_
 obtain ⟨x16, D, Hx16, _, ⟨w_x16, rfl, h_x16⟩, Zx16⟩ := sx I7 h_p0 D
 refine yac 62 2 Hx16 z (yg 3 1 [0] z (yar Zx16 (rd_i S14.im) z (ya 5 2 z ?_)))
 obtain ⟨x17, D, Hx17, _, ⟨w_x17, rfl, h_x17⟩, Zx17⟩ := sx I7 h_p0 D
 refine yac 62 2 Hx17 z (yg 8 1 [1] z (ya2 Zx17 1 (rd_i S14.im) z (bsk D fun r23 Xr18 D => yaj (slices_Clone_string_ok h_x17.In S14 Xr18) ?_)))
 rintro _ w19 ⟨I20, a_r23, c_r23, C_r23, rfl, L21, S22, h_r23⟩
 refine ⟨_, rfl, (y8 (S22.im.of_le L21)), ?_⟩
 refine WO.tail z ?_
 obtain ⟨I24, L25, S27, hp26⟩ := OwnSl.pub h_r23 S22
 refine y7 11 24 (.agg (cs_qJ ({ x16 with In := r23 }) (⟨⟨a_r23, c_r23⟩⟩ : W_qJ)).toArray) (yaf S27 0 (cs_qJ ({ x16 with In := r23 }) (⟨⟨a_r23, c_r23⟩⟩ : W_qJ)) fun w29 S28 => ya 13 1 z (yb (yp ?_)))
 have hk31 : ok_qJ I24 ({ x16 with In := r23 }) (⟨⟨a_r23, c_r23⟩⟩ : W_qJ) := ⟨hp26⟩
 exact sj D ▸ yba _ (S28.rd m0) ⟨I24, (⟨⟨a_r23, c_r23⟩⟩ : W_qJ), rfl, le, S28.drop, hk31⟩
theorem sorted98_99_ok {ν : Type} {val : Mem → Value → ν → Prop} {E w : World} {I C : Mem} {Os : List Mem} {m b : Nat} {l : List (By8 × ν)} (h : OwnMap Value.string val I C m l) (hS : St E w I (Gv.one b (.cells #[.map (some m)] 150 (0, 0)) :: C :: Os)) {r : List By8} (D : keysO l = some r) :
    Calls P 98 #[.func (.func 134) #[] #[.pointer (some ⟨b, 0, none⟩)]] w (fun e w' => ∃ (I' : Mem) (a : Option Addr) (c : Nat), e = .returned (.slice a r.length c) ∧ I.Le I' ∧ St E w' I' (Gv.one b (.cells #[.map (some m)] 150 (0, 0)) :: C :: Os) ∧ RSl 1 RStr I' a c r) :=
  keys_own h hS (kt := 9) kr (fun b' nn D0 R w h1 h2 h3 h4 h5 => Tryz.sortedAt98_99 b b' nn D0 R w h1 h2 h3 h4 h5) D
theorem keys99_ok {m : Nat} (hS : St E w I Os) : Calls P 99 #[.map (some m)] w (fun e w' => ∃ b, e = .returned (.func (.func 134) #[] #[.pointer (some ⟨b, 0, none⟩)]) ∧ St E w' I (Gv.one b (.cells #[.map (some m)] 150 (0, 0)) :: Os)) := by
  refine (Tryz.maps_Keys_99 (some m) w).mono ?_
  rintro e w' ⟨rfl, rfl⟩
  exact ⟨_, rfl, hS.alloc _⟩
noncomputable def member_AllM (p0 : List qJ) (p1 : By8) : M (List By8) := bindM (optM (member_at p0 p1)) (fun (r6 : Int) => (bif (decide (r6 < 0)) then retM ([] : List By8) else bindM (loopM (fun (s : Bool × (List (By8 × Bool))) => match s with | (s18, s19) => (bif s18 then bindM (rangeM (fun (k71 : By8) (x72 : Bool) (s33 : List By8) => (member_Find p0 k71).bind (fun ((r91, r92) : qJ × Bool) => (forE (fun (i103 : Nat) (s102 : List By8) => (idx r91.In (i103 : Int)).bind (fun (x114 : By8) => (some ((mget sEq s19 x114).getD false)).bind (fun (x115 : Bool) => ((bif (!x115) then (member_at p0 x114).bind (fun (r125 : Int) => some (decide (r125 ≥ 0))) else some false)).bind (fun (j116 : Bool) => ((bif j116 then (app 16 s102 ([x114] : List By8)).bind (fun (x140 : List By8) => some x140) else some s102)).bind (fun (j128 : List By8) => some j128))))) r91.In.length 0 s33).bind (fun (s102 : (List By8)) => some (.inl s102)))) s19 ([] : List By8)) (fun (t : (List By8) ⊕ Unit) => Sum.elim (fun (s33 : List By8) => bindM (optM (forE (fun (i53 : Nat) (s52 : List (By8 × Bool)) => (idx s33 (i53 : Int)).bind (fun (x61 : By8) => some (mset sEq s52 x61 true))) s33.length 0 s19)) (fun (s52 : List (By8 × Bool)) => retM (.inl ((decide ((s33.length : Int) > 0)), s52)))) (fun _ _ => False) t) else retM (.inr s19))) (true, (mset sEq ([] : List (By8 × Bool)) p1 true))) (fun (s156 : List (By8 × Bool)) => bindM (optM (keysO s156)) (fun (r163 : List By8) => retM r163))))
noncomputable def member_All (p0 : List qJ) (p1 : By8) : Option (List By8) := ofM (member_AllM p0 p1)
theorem member_All_ok {p0 : List qJ} {p1 : By8} {a_p0 : Option Addr} {c_p0 : Nat} (h_p0 : RSl 2 R_qJ I a_p0 c_p0 p0) (hS : St E w I Os) {r : (List By8)} (D : member_All p0 p1 = some r) :
    Calls P 59 #[(.slice a_p0 p0.length c_p0), (.string p1)] w (fun e w' => ∃ (I' : Mem) (ra0 : Option Addr) (rc0 : Nat), e = .returned (.slice ra0 r.length rc0) ∧ I.Le I' ∧ St E w' I' Os ∧ RSl 1 RStr I' ra0 rc0 r) := by
  refine calls_W (args := [(.slice a_p0 p0.length c_p0), (.string p1)]) (fn := Tryz.f59) rfl rfl rfl ?_
  replace D := ofM_some (m := member_AllM p0 p1) D
  unfold member_AllM at D
  refine yi ?_
  refine yah (l := [0]) kr ?_
  refine yag [(0, 4, (.slice none 0 0))] kr (fun _ => by kernel_rfl) ?_
  refine yq ?_
  refine yc ?_
  refine yi ?_
  refine yi ?_
  refine yah (l := [0, 1, 2, 3]) kr ?_
  refine yag [(0, 15, (.slice a_p0 p0.length c_p0)), (1, 16, (.string p1))] kr (fun _ => by kernel_rfl) ?_
  obtain ⟨r6, Xr1, D⟩ := optM_some D
  refine ya9 z kr z (f := 56) (args := #[(.slice a_p0 p0.length c_p0), (.string p1)]) kr (member_at_ok h_p0 hS Xr1) ?_
  rintro _ w2 ⟨I3, rfl, L4, S5⟩
  refine ⟨_, rfl, trivial, ?_⟩
  refine yag [(3, 18, (.bool (decide (r6 < 0))))] kr (fun _ => by kernel_rfl) ?_
  refine yq ?_
  refine yc ?_
  refine W.cond (b := (decide (r6 < 0))) z z (fun G => ?_) (fun G => ?_)
  · replace D := condM_t G D
    refine yi ?_
    refine yah (l := [0]) kr ?_
    refine yag [(0, 4, (.slice none 0 0))] kr (fun _ => by kernel_rfl) ?_
    refine yq ?_
    refine yc ?_
    refine yp ?_
    refine ye ?_
    have he : ([] : List By8) = r := D
    subst r
    exact En.ret1 z (.slice none 0 0) z ⟨I3, none, 0, rfl, L4, S5, SlAt.nil⟩
  · replace D := condM_f G D
    refine ym ?_
    refine yc ?_
    refine yi ?_
    refine yah (l := [0, 1, 2, 3, 4]) kr ?_
    refine ybk S5 z kr z (.map #[] 0) (fun b => .map (some b)) kr tv ?_
    intro b7 w10 S9
    refine yag [(1, 20, (.string p1))] kr (fun _ => by kernel_rfl) ?_
    refine WO.update (OwnMap.nil (enc := Value.string) (val := (val1 RBool)) (I := I3) (m := b7)) S9 (t := 150) (kt := 9) (et := 4) kr (keyLaw_str (kt := 9) kr) z kr z (.inr z) z p1 z z (xv := true) z tv ?_
    intro w13 C11 S12 hm14
    refine yag [(3, 21, (.map (some b7))), (4, 5, (.map (some b7)))] kr (fun _ => by kernel_rfl) ?_
    refine yq ?_
    refine yc ?_
    refine yi ?_
    refine yi ?_
    refine yah (l := [0]) kr ?_
    refine yag [(0, 6, (.bool true))] kr (fun _ => by kernel_rfl) ?_
    refine yq ?_
    refine yc ?_
    refine yo ?_
    have hloop20 : Gv.loopM _ _ _ := D
    refine W.weaken (fr' := [(0, (.slice a_p0 p0.length c_p0)), (5, (.map (some b7))), (6, (.bool true))]) (W.loopM hloop20 (fun (s : Bool × (List (By8 × Bool))) fr w => match s with | (s18, s19) => ∃ (I16 : Mem), ∃ (C_s19 : Mem), fr = [(0, (.slice a_p0 p0.length c_p0)), (5, (.map (some b7))), (6, (.bool s18))] ∧ I3.Le I16 ∧ St E w I16 ((C_s19) :: Os) ∧ OwnMap Value.string (val1 RBool) I16 C_s19 b7 s19) ⟨I3, C11, rfl, Mem.Le.refl _, S12, hm14⟩ ?_) (Sub.cons z (Sub.cons z (Sub.cons z Sub.nil)))
    rintro ⟨s18, s19⟩ _ w21 ⟨I16, C_s19, rfl, L17, S22, h_s19⟩ Kx23 R1
    refine yi ?_
    refine yi ?_
    refine yah (l := [0]) kr ?_
    refine yag [(0, 22, (.bool s18))] kr (fun _ => by kernel_rfl) ?_
    refine yq ?_
    refine yc ?_
    refine W.cond (b := s18) z z (fun G => ?_) (fun G => ?_)
    · replace R1 := condM_t G R1
      refine ym ?_
      refine yc ?_
      refine yo ?_
      refine yi ?_
      refine yah (l := [0]) kr ?_
      refine yag [(0, 7, (.slice none 0 0))] kr (fun _ => by kernel_rfl) ?_
      refine yq ?_
      refine yc ?_
      refine yi ?_
      refine yi ?_
      refine yah (l := [0, 1]) kr ?_
      refine yag [(0, 23, (.map (some b7)))] kr (fun _ => by kernel_rfl) ?_
      refine WO.rangeMap h_s19 S22 (t := 150) (kt := 9) (et := 4) kr z kr z z tv ?_
      intro b24 w25 D26 S27 hit28
      refine yq ?_
      refine yc ?_
      refine yo ?_
      have hloop38 : Gv.rangeM _ _ _ _ := R1
      have S40 := S27.no
      have S41 := S40.front1
      have S42 := S41.front2
      refine W.weaken (fr' := [(0, (.slice a_p0 p0.length c_p0)), (5, (.map (some b7))), (7, (.slice none ([] : List By8).length 0)), (24, (.pointer (some ⟨b24, 0, none⟩)))]) (W.rangeM hloop38 (fun (rm34 : List (By8 × Bool)) (s33 : List By8) fr w => ∃ (I31 : Mem), ∃ (a_s33 : Option Addr), ∃ (c_s33 : Nat), ∃ (C_s33 : Mem), ∃ (D35 : Mem), ∃ (lst37 : Option (Value × Value)), fr = [(0, (.slice a_p0 p0.length c_p0)), (5, (.map (some b7))), (7, (.slice a_s33 s33.length c_s33)), (24, (.pointer (some ⟨b24, 0, none⟩)))] ∧ I16.Le I31 ∧ St E w I31 ((C_s19) :: (D35) :: (C_s33) :: Os) ∧ OwnSl 9 1 RStr I31 C_s33 a_s33 c_s33 s33 ∧ IterSt Value.string (val1 RBool) I31 C_s19 b7 s19 D35 b24 rm34 lst37) ⟨I16, none, 0, Mem.no, D26, _, rfl, Mem.Le.refl _, S42, OwnSl.nil, hit28⟩ ?_) (Sub.cons z (Sub.cons z (Sub.cons z (Sub.cons z Sub.nil))))
      rintro rm34 s33 _ w43 ⟨I31, a_s33, c_s33, C_s33, D35, lst37, rfl, L32, S44, h_s33, hit36⟩ hst45 hend46
      refine yi ?_
      refine yah (l := [0, 1]) kr ?_
      have S47 := S44.front1
      refine WO.next hit36 S47 z kr z z tv (fun he48 => ?_) ?_
      · skip
        replace R1 := hend46 he48
        refine yag [(1, 26, (.bool false))] kr (fun _ => by kernel_rfl) ?_
        refine yq ?_
        refine yc ?_
        refine yi ?_
        refine W.cond (b := false) z z (fun G => ?_) (fun G => ?_)
        · cases G
        clear G
        refine yae ?_
        refine yr ?_
        refine yu ?_
        refine yv ?_
        refine yc ?_
        refine yi ?_
        refine yah (l := [0, 1, 2, 3]) kr ?_
        refine yag [(0, 57, (.slice a_s33 s33.length c_s33)), (1, 58, (.int .i64 (s33.length : Int))), (2, 59, (.bool (decide ((s33.length : Int) > 0)))), (3, 6, (.bool (decide ((s33.length : Int) > 0))))] kr (fun _ => by kernel_rfl) ?_
        refine yq ?_
        refine yc ?_
        refine yi ?_
        refine yah (l := [0, 1, 2]) kr ?_
        refine yag [(0, 60, (.slice a_s33 s33.length c_s33)), (1, 61, (.int .i64 (s33.length : Int))), (2, 62, (.int .i64 0))] kr (fun _ => by kernel_rfl) ?_
        refine yq ?_
        refine yc ?_
        refine yo ?_
        obtain ⟨s52, hloop54, R1⟩ := optM_some R1
        have S55 := S47.drop
        have hlt59 := (h_s33.sl).len_lt
        refine W.weaken (fr' := [(0, (.slice a_p0 p0.length c_p0)), (5, (.map (some b7))), (6, (.bool (decide ((s33.length : Int) > 0)))), (60, (.slice a_s33 s33.length c_s33)), (61, (.int .i64 (s33.length : Int))), (62, (.int .i64 ((0 : Nat) : Int)))]) (ya5 (m := s33.length) hloop54 (fun (i53 : Nat) (s52 : List (By8 × Bool)) fr w => ∃ (I50 : Mem), ∃ (C_s52 : Mem), fr = [(0, (.slice a_p0 p0.length c_p0)), (5, (.map (some b7))), (6, (.bool (decide ((s33.length : Int) > 0)))), (60, (.slice a_s33 s33.length c_s33)), (61, (.int .i64 (s33.length : Int))), (62, (.int .i64 (i53 : Int)))] ∧ I31.Le I50 ∧ St E w I50 ((C_s52) :: (C_s33) :: Os) ∧ OwnMap Value.string (val1 RBool) I50 C_s52 b7 s52) ⟨I31, C_s19, rfl, Mem.Le.refl _, S55, (OwnMap.mono h_s19 L32)⟩ ?roundt49 ?lastt49) (Sub.cons z (Sub.cons z (Sub.cons z (Sub.cons z (Sub.cons z (Sub.cons z Sub.nil))))))
        case roundt49 =>
          rintro i53 s52 _ w56 hi60 ⟨I50, C_s52, rfl, L51, S57, h_s52⟩ x58 R2
          refine yi ?_
          refine yah (l := [0]) kr ?_
          refine yag [(0, 63, (.bool (decide ((i53 : Int) < (s33.length : Int)))))] kr (fun _ => by kernel_rfl) ?_
          refine yq ?_
          refine yc ?_
          refine yi ?_
          refine W.cond (b := (decide ((i53 : Int) < (s33.length : Int)))) z z (fun G => ?_) (fun G => ?_)
          rotate_left
          · exact absurd G (by first | (simp; done) | (simp; omega))
          clear G
          refine ym ?_
          refine yc ?_
          refine yi ?_
          refine yo ?_
          refine yi ?_
          refine yah (l := [0, 1, 2]) kr ?_
          obtain ⟨x61, Xx61, R2⟩ := bind_some R2
          obtain ⟨h0_x61, h1_x61, Xx61⟩ := idx_some Xx61
          obtain ⟨ha_x61, cs_x61, hn_x61, hr_x61, Zx61⟩ := ((h_s33.mono L51).sl).el _ _ Xx61
          obtain rfl := hr_x61
          refine ya6 (e := 9) (sz := 1) z kr kr kr z ha_x61 z h0_x61 h1_x61 ?_
          refine ybj z kr kr z (v := (.string x61)) (fun w' hw' => Zx61.cell0 kr ((rd_f (S57.rd (List.Mem.tail _ (List.Mem.head _)))) w' hw')) ?_
          refine yag [(2, 14, (.string x61))] kr (fun _ => by kernel_rfl) ?_
          refine yq ?_
          refine yc ?_
          refine yah (l := [0, 1, 2]) kr ?_
          refine yag [(0, 66, (.map (some b7))), (1, 67, (.string x61))] kr (fun _ => by kernel_rfl) ?_
          refine WO.update h_s52 S57 (t := 150) (kt := 9) (et := 4) kr (keyLaw_str (kt := 9) kr) z kr z (.inl z) z x61 z z (xv := true) z tv ?_
          intro w65 C62 S63 hm66
          refine yq ?_
          refine yn ?_
          refine yc ?_
          refine yah (l := [0, 1]) kr ?_
          refine yb6 (j := i53) z kr z (by first | omega | (dsimp only at *; omega)) ?_
          refine yag [(1, 62, (.int .i64 ((i53 + 1 : Nat) : Int)))] kr (fun _ => by kernel_rfl) ?_
          refine yq ?_
          have he := Option.some.inj R2
          subst x58
          refine En.weaken (fr' := [(0, (.slice a_p0 p0.length c_p0)), (5, (.map (some b7))), (6, (.bool (decide ((s33.length : Int) > 0)))), (60, (.slice a_s33 s33.length c_s33)), (61, (.int .i64 (s33.length : Int))), (62, (.int .i64 ((i53 + 1 : Nat) : Int)))]) (ybo ⟨I50, C62, rfl, L51, S63, hm66⟩) (Sub.cons z (Sub.cons z (Sub.cons z (Sub.cons z (Sub.cons z (Sub.cons z Sub.nil))))))
        case lastt49 =>
          rintro _ w67 ⟨I50, C_s52, rfl, L51, S68, h_s52⟩
          refine yi ?_
          refine yah (l := [0]) kr ?_
          refine yag [(0, 63, (.bool (decide ((s33.length : Int) < (s33.length : Int)))))] kr (fun _ => by kernel_rfl) ?_
          refine yq ?_
          refine yc ?_
          refine yi ?_
          refine W.cond (b := (decide ((s33.length : Int) < (s33.length : Int)))) z z (fun G => ?_) (fun G => ?_)
          · exact absurd G (by first | (simp; done) | (simp; omega))
          clear G
          refine yae ?_
          refine yr ?_
          refine yu ?_
          refine yv ?_
          refine yn ?_
          have S69 := S68.front1
          have S70 := S69.drop
          refine En.weaken (fr' := [(0, (.slice a_p0 p0.length c_p0)), (5, (.map (some b7))), (6, (.bool (decide ((s33.length : Int) > 0))))]) (ybo ⟨((decide ((s33.length : Int) > 0)), s52), R1, I50, C_s52, rfl, ((L17.trans L32).trans L51), S70, h_s52⟩) (Sub.cons z (Sub.cons z (Sub.cons z Sub.nil)))
      · skip
        intro k71 x72 rm73 v74 w75 D76 hp77 hv78 S79 hit80
        obtain ⟨y81, hy82, hex83⟩ := hst45 k71 x72 rm73 hp77
        have R2 := hy82
        obtain rfl := (List.cons.inj hv78).1
        refine yag [(1, 26, (.bool true))] kr (fun _ => by kernel_rfl) ?_
        refine yq ?_
        refine yc ?_
        refine yi ?_
        refine W.cond (b := true) z z (fun G => ?_) (fun G => ?_)
        rotate_left
        · cases G
        clear G
        refine ym ?_
        refine yc ?_
        refine yo ?_
        refine yi ?_
        refine yah (l := [0, 1, 2]) kr ?_
        have S84 := S79.front1
        have S85 := S84.front1
        refine WO.entry hit80 S85 z kr z z trivial ?_
        refine yag [(1, 28, (.string k71)), (2, 8, (.string k71))] kr (fun _ => by kernel_rfl) ?_
        refine yq ?_
        refine yc ?_
        refine yi ?_
        refine yah (l := [0, 1, 2, 3, 4, 5, 6, 7, 8]) kr ?_
        refine yag [(0, 30, (.slice a_p0 p0.length c_p0)), (1, 31, (.string k71))] kr (fun _ => by kernel_rfl) ?_
        obtain ⟨⟨r91, r92⟩, Xr86, R2⟩ := bind_some R2
        refine ya9 z kr z (f := 32) (args := #[(.slice a_p0 p0.length c_p0), (.string k71)]) kr (member_Find_ok (RSl.mono h_p0 ((L4.trans L17).trans L32)) S85 Xr86) ?_
        rintro _ w87 ⟨I88, w_r91, rfl, L89, S90, h_r91⟩
        refine ⟨_, rfl, trivial, ?_⟩
        refine yag [(3, 29, (.tuple #[(vJ r91 w_r91), (.bool r92)])), (4, 33, (vJ r91 w_r91)), (5, 34, (.bool r92))] kr (fun _ => by kernel_rfl) ?_
        refine ybk S90 z kr z (.cells (cs_qJ z_qJ zw_qJ).toArray 62 (0, 0)) (fun b => .pointer (some ⟨b, 0, none⟩)) kr tv ?_
        intro b93 w96 S95
        refine ybs S95 z kr z 0 z z kr kr kr ((cs_qJ r91 w_r91).toArray) kr tv ?_
        intro w98 S97
        refine yag [(8, 10, (.bool r92))] kr (fun _ => by kernel_rfl) ?_
        refine yq ?_
        refine yc ?_
        refine yi ?_
        refine yah (l := [0, 1, 2, 3]) kr ?_
        refine yag [(0, 35, (.pointer (some ⟨b93, 1, none⟩)))] kr (fun _ => by kernel_rfl) ?_
        refine ybj z kr kr z (v := (.slice w_r91.In.a r91.In.length w_r91.In.c)) (fun w' hw' => cell_one ((rd_f (S97.rd (List.Mem.head _))) w' hw') kr) ?_
        refine yag [(2, 37, (.int .i64 (r91.In.length : Int))), (3, 38, (.int .i64 0))] kr (fun _ => by kernel_rfl) ?_
        refine yq ?_
        refine yc ?_
        refine yo ?_
        obtain ⟨s102, hloop104, R2⟩ := bind_some R2
        have S105 := S97.drop
        have S106 := S105.front2
        have S107 := S106.front1
        have S108 := S107.front2
        have hlt112 := (h_r91.In).len_lt
        refine W.weaken (fr' := [(0, (.slice a_p0 p0.length c_p0)), (5, (.map (some b7))), (7, (.slice a_s33 s33.length c_s33)), (24, (.pointer (some ⟨b24, 0, none⟩))), (36, (.slice w_r91.In.a r91.In.length w_r91.In.c)), (37, (.int .i64 (r91.In.length : Int))), (38, (.int .i64 ((0 : Nat) : Int)))]) (ya5 (m := r91.In.length) hloop104 (fun (i103 : Nat) (s102 : List By8) fr w => ∃ (I100 : Mem), ∃ (a_s102 : Option Addr), ∃ (c_s102 : Nat), ∃ (C_s102 : Mem), fr = [(0, (.slice a_p0 p0.length c_p0)), (5, (.map (some b7))), (7, (.slice a_s102 s102.length c_s102)), (24, (.pointer (some ⟨b24, 0, none⟩))), (36, (.slice w_r91.In.a r91.In.length w_r91.In.c)), (37, (.int .i64 (r91.In.length : Int))), (38, (.int .i64 (i103 : Int)))] ∧ I88.Le I100 ∧ St E w I100 ((C_s19) :: (D76) :: (C_s102) :: Os) ∧ OwnSl 9 1 RStr I100 C_s102 a_s102 c_s102 s102) ⟨I88, a_s33, c_s33, C_s33, rfl, Mem.Le.refl _, S108, (OwnSl.mono h_s33 L89)⟩ ?roundt99 ?lastt99) (Sub.cons z (Sub.cons z (Sub.cons z (Sub.cons z (Sub.cons z (Sub.cons z (Sub.cons z Sub.nil)))))))
        case roundt99 =>
          rintro i103 s102 _ w109 hi113 ⟨I100, a_s102, c_s102, C_s102, rfl, L101, S110, h_s102⟩ x111 R3
          refine yi ?_
          refine yah (l := [0]) kr ?_
          refine yag [(0, 39, (.bool (decide ((i103 : Int) < (r91.In.length : Int)))))] kr (fun _ => by kernel_rfl) ?_
          refine yq ?_
          refine yc ?_
          refine yi ?_
          refine W.cond (b := (decide ((i103 : Int) < (r91.In.length : Int)))) z z (fun G => ?_) (fun G => ?_)
          rotate_left
          · exact absurd G (by first | (simp; done) | (simp; omega))
          clear G
          refine ym ?_
          refine yc ?_
          refine yi ?_
          refine yo ?_
          refine yi ?_
          refine yah (l := [0, 1, 2]) kr ?_
          obtain ⟨x114, Xx114, R3⟩ := bind_some R3
          obtain ⟨h0_x114, h1_x114, Xx114⟩ := idx_some Xx114
          obtain ⟨ha_x114, cs_x114, hn_x114, hr_x114, Zx114⟩ := ((RSl.mono h_r91.In L101)).el _ _ Xx114
          obtain rfl := hr_x114
          refine ya6 (e := 9) (sz := 1) z kr kr kr z ha_x114 z h0_x114 h1_x114 ?_
          refine ybj z kr kr z (v := (.string x114)) (fun w' hw' => Zx114.cell0 kr ((rd_f S110.im) w' hw')) ?_
          refine yag [(2, 12, (.string x114))] kr (fun _ => by kernel_rfl) ?_
          refine yq ?_
          refine yc ?_
          refine yi ?_
          refine yah (l := [0, 1, 2, 3, 4, 5, 6, 7, 8, 9]) kr ?_
          refine yag [(0, 42, (.map (some b7))), (1, 43, (.string x114))] kr (fun _ => by kernel_rfl) ?_
          obtain ⟨x115, Xx115, R3⟩ := bind_some R3
          obtain ⟨v_x115, hv_x115, hq_x115⟩ := OwnMap.lookup (OwnMap.mono h_s19 ((L32.trans L89).trans L101)) (t := 150) (kt := 9) (et := 4) kr (keyLaw_str (kt := 9) kr) x114 (zv := (.bool false)) (z0 := false) kr rfl
          rw [Option.some.inj Xx115] at hv_x115
          obtain rfl := (List.cons.inj hv_x115).1
          refine WO.lookup z kr z z hq_x115 ((rd_f (S110.rd (List.Mem.head _)))) (.bool x115) z ?_
          refine yag [(3, 45, (.bool (!x115))), (4, 46, (.bool (!x115)))] kr (fun _ => by kernel_rfl) ?_
          obtain ⟨j116, R4, R3⟩ := bind_some R3
          refine WO.join (l1 := [5, 6, 7, 8, 9]) (l2 := []) (J := (fun fr w => ∃ (I118 : Mem), fr = [(0, (.slice a_p0 p0.length c_p0)), (5, (.map (some b7))), (7, (.slice a_s102 s102.length c_s102)), (12, (.string x114)), (24, (.pointer (some ⟨b24, 0, none⟩))), (36, (.slice w_r91.In.a r91.In.length w_r91.In.c)), (37, (.int .i64 (r91.In.length : Int))), (38, (.int .i64 (i103 : Int))), (51, (.bool j116))] ∧ I100.Le I118 ∧ St E w I118 ((C_s19) :: (D76) :: (C_s102) :: Os))) ?restj116 ?waysj116
          case waysj116 =>
            refine yb7 (!x115) (fun G => ?_) (fun G => ?_)
            · replace R4 := cond_t G R4
              refine yaa 46 z (show Value.bool (!x115) = Value.bool true by rw [G]) ?_
              refine yag [(5, 47, (.slice a_p0 p0.length c_p0)), (6, 48, (.string x114))] kr (fun _ => by kernel_rfl) ?_
              obtain ⟨r125, Xr120, R4⟩ := bind_some R4
              refine ya9 z kr z (f := 56) (args := #[(.slice a_p0 p0.length c_p0), (.string x114)]) kr (member_at_ok (RSl.mono h_p0 ((((L4.trans L17).trans L32).trans L89).trans L101)) S110 Xr120) ?_
              rintro _ w121 ⟨I122, rfl, L123, S124⟩
              refine ⟨_, rfl, trivial, ?_⟩
              refine yag [(8, 50, (.bool (decide (r125 ≥ 0)))), (9, 51, (.bool (decide (r125 ≥ 0))))] kr (fun _ => by kernel_rfl) ?_
              have he := Option.some.inj R4
              subst j116
              refine WO.weaken (fr' := [(0, (.slice a_p0 p0.length c_p0)), (5, (.map (some b7))), (7, (.slice a_s102 s102.length c_s102)), (12, (.string x114)), (24, (.pointer (some ⟨b24, 0, none⟩))), (36, (.slice w_r91.In.a r91.In.length w_r91.In.c)), (37, (.int .i64 (r91.In.length : Int))), (38, (.int .i64 (i103 : Int))), (51, (.bool (decide (r125 ≥ 0))))]) (ybw ⟨I122, rfl, L123, S124⟩) (Sub.cons z (Sub.cons z (Sub.cons z (Sub.cons z (Sub.cons z (Sub.cons z (Sub.cons z (Sub.cons z (Sub.cons z Sub.nil)))))))))
            · replace R4 := cond_f G R4
              refine yaa 46 z (show Value.bool (!x115) = Value.bool false by rw [G]) ?_
              refine ybi z kr z ?_
              refine ybi z kr z ?_
              refine ybi z kr z ?_
              refine ybi z kr z ?_
              refine yag [(9, 51, (.bool false))] kr (fun _ => by kernel_rfl) ?_
              have he := Option.some.inj R4
              subst j116
              refine WO.weaken (fr' := [(0, (.slice a_p0 p0.length c_p0)), (5, (.map (some b7))), (7, (.slice a_s102 s102.length c_s102)), (12, (.string x114)), (24, (.pointer (some ⟨b24, 0, none⟩))), (36, (.slice w_r91.In.a r91.In.length w_r91.In.c)), (37, (.int .i64 (r91.In.length : Int))), (38, (.int .i64 (i103 : Int))), (51, (.bool false))]) (ybw ⟨I100, rfl, Mem.Le.refl _, S110⟩) (Sub.cons z (Sub.cons z (Sub.cons z (Sub.cons z (Sub.cons z (Sub.cons z (Sub.cons z (Sub.cons z (Sub.cons z Sub.nil)))))))))
          case restj116 =>
            rintro _ w126 ⟨I118, rfl, L119, S127⟩
            refine yq ?_
            refine yc ?_
            obtain ⟨j128, R4, R3⟩ := bind_some R3
            refine W.join (J := (fun fr w => ∃ (I130 : Mem), ∃ (a_j128 : Option Addr), ∃ (c_j128 : Nat), ∃ (C_j128 : Mem), fr = [(0, (.slice a_p0 p0.length c_p0)), (5, (.map (some b7))), (7, (.slice a_j128 j128.length c_j128)), (24, (.pointer (some ⟨b24, 0, none⟩))), (36, (.slice w_r91.In.a r91.In.length w_r91.In.c)), (37, (.int .i64 (r91.In.length : Int))), (38, (.int .i64 (i103 : Int)))] ∧ I118.Le I130 ∧ St E w I130 ((C_s19) :: (D76) :: (C_j128) :: Os) ∧ OwnSl 9 1 RStr I130 C_j128 a_j128 c_j128 j128)) ?restj128 ?waysj128
            case waysj128 =>
              refine W.cond (b := j116) z z (fun G => ?_) (fun G => ?_)
              · replace R4 := cond_t G R4
                refine yah (l := [0, 1, 2, 3, 4]) kr ?_
                refine yag [(0, 52, (.slice a_s102 s102.length c_s102)), (1, 53, (.string x114))] kr (fun _ => by kernel_rfl) ?_
                refine yai (rel := RStr) (xs := ([x114] : List By8)) S127 z kr z 9 1 [[(.string x114)]] kr z ((Elr.cons z Elr.nil)) tv ?_
                intro a135 C133 w137 S136 ho134
                have S139 := S136.front3
                obtain ⟨x140, Xx140, R4⟩ := bind_some R4
                obtain ⟨h0_x140, he_x140⟩ := app_some Xx140
                refine ybh (e' := 9) (b := 16) (zs := #[(.string eB)]) S139 (OwnSl.mono h_s102 L119) z kr z kr kr kr z z z z ho134.sl (S139.rd (List.Mem.tail _ (List.Mem.head _))) h0_x140 he_x140 tv ?_
                intro a141 c142 w143 C144 S145 ho146
                have S147 := S145.front1
                have S148 := S147.drop
                refine yag [(4, 7, (.slice a141 x140.length c142))] kr (fun _ => by kernel_rfl) ?_
                refine yq ?_
                have S149 := S148.front2
                have S150 := S149.front2
                have he := Option.some.inj R4
                subst j128
                refine En.weaken (fr' := [(0, (.slice a_p0 p0.length c_p0)), (5, (.map (some b7))), (7, (.slice a141 x140.length c142)), (24, (.pointer (some ⟨b24, 0, none⟩))), (36, (.slice w_r91.In.a r91.In.length w_r91.In.c)), (37, (.int .i64 (r91.In.length : Int))), (38, (.int .i64 (i103 : Int)))]) (ybo ⟨I118, a141, c142, C144, rfl, Mem.Le.refl _, S150, ho146⟩) (Sub.cons z (Sub.cons z (Sub.cons z (Sub.cons z (Sub.cons z (Sub.cons z (Sub.cons z Sub.nil)))))))
              · replace R4 := cond_f G R4
                refine ym ?_
                have he := Option.some.inj R4
                subst j128
                refine En.weaken (fr' := [(0, (.slice a_p0 p0.length c_p0)), (5, (.map (some b7))), (7, (.slice a_s102 s102.length c_s102)), (24, (.pointer (some ⟨b24, 0, none⟩))), (36, (.slice w_r91.In.a r91.In.length w_r91.In.c)), (37, (.int .i64 (r91.In.length : Int))), (38, (.int .i64 (i103 : Int)))]) (ybo ⟨I118, a_s102, c_s102, C_s102, rfl, Mem.Le.refl _, S127, (OwnSl.mono h_s102 L119)⟩) (Sub.cons z (Sub.cons z (Sub.cons z (Sub.cons z (Sub.cons z (Sub.cons z (Sub.cons z Sub.nil)))))))
            case restj128 =>
              rintro _ w151 ⟨I130, a_j128, c_j128, C_j128, rfl, L131, S152, h_j128⟩
              refine yn ?_
              refine yc ?_
              refine yah (l := [0, 1]) kr ?_
              refine yb6 (j := i103) z kr z (by first | omega | (dsimp only at *; omega)) ?_
              refine yag [(1, 38, (.int .i64 ((i103 + 1 : Nat) : Int)))] kr (fun _ => by kernel_rfl) ?_
              refine yq ?_
              have he := Option.some.inj R3
              subst x111
              refine En.weaken (fr' := [(0, (.slice a_p0 p0.length c_p0)), (5, (.map (some b7))), (7, (.slice a_j128 j128.length c_j128)), (24, (.pointer (some ⟨b24, 0, none⟩))), (36, (.slice w_r91.In.a r91.In.length w_r91.In.c)), (37, (.int .i64 (r91.In.length : Int))), (38, (.int .i64 ((i103 + 1 : Nat) : Int)))]) (ybo ⟨I130, a_j128, c_j128, C_j128, rfl, ((L101.trans L119).trans L131), S152, h_j128⟩) (Sub.cons z (Sub.cons z (Sub.cons z (Sub.cons z (Sub.cons z (Sub.cons z (Sub.cons z Sub.nil)))))))
        case lastt99 =>
          rintro _ w153 ⟨I100, a_s102, c_s102, C_s102, rfl, L101, S154, h_s102⟩
          refine yi ?_
          refine yah (l := [0]) kr ?_
          refine yag [(0, 39, (.bool (decide ((r91.In.length : Int) < (r91.In.length : Int)))))] kr (fun _ => by kernel_rfl) ?_
          refine yq ?_
          refine yc ?_
          refine yi ?_
          refine W.cond (b := (decide ((r91.In.length : Int) < (r91.In.length : Int)))) z z (fun G => ?_) (fun G => ?_)
          · exact absurd G (by first | (simp; done) | (simp; omega))
          clear G
          refine yae ?_
          refine yr ?_
          refine yu ?_
          refine yv ?_
          refine yn ?_
          refine En.weaken (fr' := [(0, (.slice a_p0 p0.length c_p0)), (5, (.map (some b7))), (7, (.slice a_s102 s102.length c_s102)), (24, (.pointer (some ⟨b24, 0, none⟩)))]) (ybo ⟨k71, x72, rm73, s102, hp77, hy82.trans (congrArg some (Option.some.inj R2).symm), I100, a_s102, c_s102, C_s102, D76, _, rfl, ((L32.trans L89).trans L101), S154, h_s102, (IterSt.mono hit80 (L89.trans L101))⟩) (Sub.cons z (Sub.cons z (Sub.cons z (Sub.cons z Sub.nil))))
    · replace R1 := condM_f G R1
      refine yae ?_
      refine yr ?_
      refine yu ?_
      replace D := R1
      refine yv ?_
      refine yc ?_
      refine yi ?_
      refine yah (l := [0, 1, 2, 3]) kr ?_
      refine yag [(0, 69, (.map (some b7)))] kr (fun _ => by kernel_rfl) ?_
      refine ya9 z kr z (f := 99) (args := #[(.map (some b7))]) kr (keys99_ok S22) ?_
      rintro _ w176 ⟨b174, rfl, S175⟩
      refine ⟨_, rfl, trivial, ?_⟩
      have S178 := S175.front1
      have S179 := S178.front1
      obtain ⟨r180, hx181, D⟩ := optM_some D
      refine ya9 z kr z (f := 98) (args := #[(.func (.func 134) #[] #[(.pointer (some ⟨b174, 0, none⟩))])]) kr (sorted98_99_ok h_s19 S179 hx181) ?_
      rintro _ w188 ⟨I182, a183, c184, rfl, L185, S186, hp187⟩
      refine ⟨_, rfl, trivial, ?_⟩
      refine yag [(3, 4, (.slice a183 r180.length c184))] kr (fun _ => by kernel_rfl) ?_
      refine yq ?_
      refine yc ?_
      refine yp ?_
      have S189 := S186.drop
      have S190 := S189.drop
      have he : r180 = r := D
      subst r
      exact En.ret1 z (.slice a183 r180.length c184) z ⟨I182, a183, c184, rfl, ((L4.trans L17).trans L185), S190, hp187⟩
def slices_Index_string (p0 : List By8) (p1 : By8) : Option Int := (forN (fun (i4 : Nat) (_s : Unit) => (idx p0 (i4 : Int)).bind (fun x11 => (bif (sEq p1 x11) then some (.inr (i4 : Int)) else some (.inl ())))) p0.length 0 ()).bind (fun (t : Unit ⊕ (Int)) => match t with | .inl _ => some (-1) | .inr s13 => some s13)
theorem slices_Index_string_ok {p0 : List By8} {p1 : By8} {a_p0 : Option Addr} {c_p0 : Nat} (h_p0 : RSl 1 RStr I a_p0 c_p0 p0) (hS : St E w I Os) {r : Int} (D : slices_Index_string p0 p1 = some r) :
    Calls P 97 #[(Sl a_p0 p0 c_p0), (.string p1)] w (RT E I Os (Iv r)) := by
 refine calls_W (fn := Tryz.f97) rfl rfl rfl ?_
 unfold slices_Index_string at D
 refine yf [0] (ya 0 1 z (yb (yi (yf nL3 (ya 0 3 z (yb (yo (bsk D fun t1 hloop5 D => have hlt9 := (h_p0).len_lt; W.wk (yas (m := p0.length) hloop5 (fun (i4 : Nat) (_s : Unit) => JI E I [(0, Sl a_p0 p0 c_p0), (1, .string p1), (7, Nv p0.length), (8, Nv i4)] Os) ⟨I, rfl, lr, hS⟩ ?_ ?_)))))))))
 rintro i4 _ _ w6 hi10 ⟨I2, rfl, L3, S7⟩ x8 R1 hext1
 refine yf [0] (ya 0 1 z (yb (yi (yaw fun _ => ym (yc (yi (yo (yf nL2 (ya 0 2 z (yz nL6 (ya 0 3 z ?_)))))))))))
 obtain ⟨x11, R1, Hx11, _, rfl, Zx11⟩ := sx I2 h_p0 R1
 refine yac 9 1 Hx11 z (yar Zx11 S7.rm z (ya 5 1 z (yb (y6 R1 (fun G R1 => ?_) (fun G R1 => ?_)))))
 refine yf nL2 (ya 0 2 z (yb (yp (yl (ye (yw ?_))))))
 obtain rfl := hext1 _ (sj R1).symm
 exact yl (ye (sj D ▸ yy ⟨I2, rfl, L3, S7⟩))
 exact ym (yn (yc (yak nL2 (yaq i4 z (ya 1 1 z (yq (yx ⟨(), (sj R1).symm, I2, rfl, L3, S7⟩)))))))
 rintro _ _ w14 ⟨I2, rfl, L3, S15⟩ he
 cases he
 exact yf [0] (ya 0 1 z (yb (yi (yax fun _ => yae (yr (yu (yv (yc (yf [0] (ya 0 1 z (yb (yp (sj D ▸ yy ⟨I2, rfl, L3, S15⟩)))))))))))))
def slices_Contains_string (p0 : List By8) (p1 : By8) : Option Bool := (slices_Index_string p0 p1).bind (fun r6 => some (decide (r6 ≥ 0)))
theorem slices_Contains_string_ok {p0 : List By8} {p1 : By8} {a_p0 : Option Addr} {c_p0 : Nat} (h_p0 : RSl 1 RStr I a_p0 c_p0 p0) (hS : St E w I Os) {r : Bool} (D : slices_Contains_string p0 p1 = some r) :
    Calls P 58 #[(Sl a_p0 p0 c_p0), (.string p1)] w (RT E I Os (.bool r)) := by
 refine calls_W (fn := Tryz.f58) rfl rfl rfl ?_
 unfold slices_Contains_string at D
 exact yf [0] (ya 0 1 z (yz nL5 (ya 0 2 z (bsk D fun r6 Xr1 D => WO.c1 (slices_Index_string_ok h_p0 hS Xr1) z fun I3 w2 L4 S5 => ya 3 2 z (yb (yp (sj D ▸ yy ⟨I3, rfl, L4, S5⟩)))))))
noncomputable def member_Is (p0 : List qJ) (p1 : By8) (p2 : By8) : Option Bool := (member_All p0 p1).bind (fun r6 => (slices_Contains_string r6 p2).bind (fun r12 => some r12))
theorem member_Is_ok {p0 : List qJ} {p1 : By8} {p2 : By8} {a_p0 : Option Addr} {c_p0 : Nat} (h_p0 : RSl 2 R_qJ I a_p0 c_p0 p0) (hS : St E w I Os) {r : Bool} (D : member_Is p0 p1 p2 = some r) :
    Calls P 33 #[(Sl a_p0 p0 c_p0), (.string p1), (.string p2)] w (RT E I Os (.bool r)) := by
 refine calls_W (fn := Tryz.f33) rfl rfl rfl ?_
 unfold member_Is at D
 refine yf [0] (ya 0 1 z (yz nL6 (ya 0 2 z (bsk D fun r6 Xr1 D => yaj (member_All_ok h_p0 hS Xr1) ?_))))
 rintro _ w2 ⟨I3, a_r6, c_r6, rfl, L4, S5, h_r6⟩
 exact cv (ya 3 1 z (bsk D fun r12 Xr7 D => WO.c1 (slices_Contains_string_ok h_r6 S5 Xr7) z fun I9 w8 L10 S11 => ya 5 1 z (yb (yp (sj D ▸ yy ⟨I9, rfl, le, S11⟩)))))
def member_names (p0 : List qJ) : Option (List By8) := (forE (fun (i5 : Nat) (s4 : List By8) => (idx p0 (i5 : Int)).bind (fun x14 => (app 16 s4 ([x14.Name] : List By8)).bind (fun x29 => some x29))) p0.length 0 ([] : List By8)).bind (fun s4 => some s4)
theorem member_names_ok {p0 : List qJ} {a_p0 : Option Addr} {c_p0 : Nat} (h_p0 : RSl 2 R_qJ I a_p0 c_p0 p0) (hS : St E w I Os) {r : (List By8)} (D : member_names p0 = some r) :
    Calls P 104 #[(Sl a_p0 p0 c_p0)] w (fun e w' => ∃ (I' : Mem) (ra0 : Option Addr) (rc0 : Nat) (rC0 : Mem), e = .returned (Sl ra0 r rc0) ∧ I.Le I' ∧ St E w' I' (rC0 :: Os) ∧ OwnSl 9 1 RStr I' rC0 ra0 rc0 r) := by
 refine calls_W (fn := Tryz.f104) rfl rfl rfl ?_
 unfold member_names at D
 refine yf [0] (y7 0 2 (.slice none 0 0) (yz [0] (y7 0 3 (.slice none 0 0) (yb (yi (yf nL3 (ya 0 3 z (yb (yo (bsk D fun s4 hloop6 D => have hlt12 := (h_p0).len_lt; W.wk (ya5 (m := p0.length) hloop6 (fun (i5 : Nat) (s4 : List By8) fr w => ∃ I2 a_s4 c_s4 C_s4, fr = [(3, Sl a_s4 s4 c_s4), (6, Sl a_p0 p0 c_p0), (7, Nv p0.length), (8, Nv i5)] ∧ I.Le I2 ∧ St E w I2 ((C_s4) :: Os) ∧ OwnSl 9 1 RStr I2 C_s4 a_s4 c_s4 s4) ⟨I, none, 0, Mem.no, rfl, lr, hS.no, OwnSl.nil⟩ ?_ ?_)))))))))))
 rintro i5 s4 _ w9 hi13 ⟨I2, a_s4, c_s4, C_s4, rfl, L3, S10, h_s4⟩ x11 R1
 refine yf [0] (ya 0 1 z (yb (yi (yaw fun _ => ym (yc (yi (yo (yf nL4 ?_))))))))
 obtain ⟨x14, R1, Hx14, _, ⟨w_x14, rfl, h_x14⟩, Zx14⟩ := sx I2 h_p0 R1
 refine yac 62 2 Hx14 z (yau ((cs_qJ x14 w_x14)) Zx14 0 S10.rm z (yad S10 (cs_qJ z_qJ zw_qJ) 62 z fun b15 w18 S17 => yaf S17 0 (cs_qJ x14 w_x14) fun w20 S19 => yb (yak nL6 (yg 0 2 [0] z (yj (S19.rf m0) z (yai (rel := RStr) (xs := ([x14.Name] : List By8)) S19 z kr z 9 1 [[(.string x14.Name)]] kr z ((Elr.cons z Elr.nil)) tv ?_))))))
 intro a24 C22 w26 S25 ho23
 have S28 := S25.front2
 exact apk R1 fun x29 h0_x29 he_x29 R1 => yaz 9 16 [(.string eB)] S28 h_s4 ho23.sl (S28.rd m1) h0_x29 he_x29 z fun a30 c31 w32 C33 S34 ho35 => ya 5 1 z (yq (yn (yc (yak nL2 (yaq i5 z (ya 1 1 z (yq (sj R1 ▸ yx ⟨I2, a30, c31, C33, rfl, L3, S34.front1.drop.front1.drop, ho35⟩))))))))
 rintro _ w40 ⟨I2, a_s4, c_s4, C_s4, rfl, L3, S41, h_s4⟩
 exact yf [0] (ya 0 1 z (yb (yi (yax fun _ => yae (yr (yu (yv (yc (yf nL2 (ya 0 2 z (yb (yp (sj D ▸ yy ⟨I2, a_s4, c_s4, C_s4, rfl, L3, S41, h_s4⟩)))))))))))))
noncomputable def member_rising (p0 : List By8) : Option Bool := (loopO (fun (s4 : Int) => (bif (decide (s4 < (p0.length : Int))) then (idx p0 (w64 (s4 - 1))).bind (fun x11 => (idx p0 s4).bind (fun x12 => (bif (!sLt x11 x12) then some (.inr (.inl false)) else some (.inl (w64 (s4 + 1)))))) else some (.inr (.inr ())))) 1).bind (fun (t : Bool ⊕ Unit) => match t with | (.inl s14) => some s14 | (.inr ()) => some true)
theorem member_rising_ok {p0 : List By8} {a_p0 : Option Addr} {c_p0 : Nat} (h_p0 : RSl 1 RStr I a_p0 c_p0 p0) (hS : St E w I Os) {r : Bool} (D : member_rising p0 = some r) :
    Calls P 135 #[(Sl a_p0 p0 c_p0)] w (RT E I Os (.bool r)) := by
 refine calls_W (fn := Tryz.f135) rfl rfl rfl ?_
 unfold member_rising at D
 refine yf [0] (ya 0 1 z (yb (yi (yf [0] (ya 0 1 z (yb (yo (bsk D fun t1 hloop5 D => W.wk (ybf hloop5 (fun (s4 : Int) => JI E I [(0, Sl a_p0 p0 c_p0), (3, Iv s4)] Os) ⟨I, rfl, lr, hS⟩ ?_)))))))))
 rintro s4 _ w6 ⟨I2, rfl, L3, S7⟩ x8 R1 hext1
 refine yi (yf nL4 (ya 0 4 z (yb (y6 R1 (fun G R1 => ?_) (fun G R1 => ?_)))))
 refine ym (yc (yi (yo (yi (have S9 := S7.drew; ybd nL10 9 (y8 S9.im) ?_)))))
 generalize World.drew _ = w10 at *
 refine ya 0 3 z ?_
 obtain ⟨x11, R1, Hx11, _, rfl, Zx11⟩ := sx I2 h_p0 R1
 refine yac 9 1 Hx11 z (yar Zx11 (rd_i S9.im) z (ya 5 2 z ?_))
 obtain ⟨x12, R1, Hx12, _, rfl, Zx12⟩ := sx I2 h_p0 R1
 refine yac 9 1 Hx12 z (yar Zx12 (rd_i S9.im) z (WO.tail z (y7 9 19 (.bool (!sLt x11 x12)) (yb (y6 R1 (fun G R1 => ?_) (fun G R1 => ?_))))))
 refine yf [0] (ya 0 1 z (yb (yp (yl (ye (yw ?_))))))
 obtain rfl := hext1 _ (sj R1).symm
 exact yl (ye (sj D ▸ yy ⟨I2, rfl, L3, S9⟩))
 exact ym (yn (yc (yak nL3 (ya 0 3 z (yq (yx ⟨(w64 (s4 + 1)), (sj R1).symm, I2, rfl, L3, S9⟩))))))
 refine yae (yr (yu ?_))
 obtain rfl := hext1 _ (sj R1).symm
 exact yv (yc (yf [0] (ya 0 1 z (yb (yp (sj D ▸ yy ⟨I2, rfl, L3, S7⟩))))))
def lex_small (p0 : Int) : Option Bool := some ((decide (p0 ≥ 97)) && (decide (p0 ≤ 122)))
theorem lex_small_ok {p0 : Int} (hS : St E w I Os) {r : Bool} (D : lex_small p0 = some r) :
    Calls P 180 #[(.int .u8 p0)] w (RT E I Os (.bool r)) := by
 refine calls_W (fn := Tryz.f180) rfl rfl rfl ?_
 unfold lex_small at D
 exact yf [0] (ya 0 1 z (yz nL7 (ya 0 3 z (yay [3, 4] 5 5 8 (.refl ((decide (p0 ≥ 97)) && (decide (p0 ≤ 122)))) (fun _ => ya 3 3 z yal) (ya 6 1 z (yb (yp (sj D ▸ yy ⟨I, rfl, lr, hS⟩))))))))
noncomputable def lex_while (p0 : By8) (p1 : Int) (p2 : Int) (p3 : Int → Option Bool) : Option Int := (loopO (fun (s4 : Int) => ((bif ((decide ((w64 (p1 + s4)) < (p0.size : Int))) && (decide (s4 < p2))) then (sAt p0 (w64 (p1 + s4))).bind (fun y15 => (p3 y15).bind (fun (r21 : Bool) => some r21)) else some false)).bind (fun (j11 : Bool) => (bif j11 then some (.inl (w64 (s4 + 1))) else some (.inr s4)))) 0).bind (fun (s25 : Int) => some s25)
theorem lex_while_ok {p0 : By8} {p1 : Int} {p2 : Int} {p3 : Int → Option Bool} {g_p3 : FuncId} {k_p3 : List Value} (h_p3 : ∀ {F : List Mem} {I' : Mem} {w : World} {u0 : Int}, I.Le I' → St E w I' (F ++ Os) → ∀ {r : Bool}, p3 u0 = some r → Calls P g_p3 (([(.int .u8 u0)] : List Value) ++ k_p3).toArray w (fun e w' => ∃ (I'' : Mem), e = .returned (.bool r) ∧ I'.Le I'' ∧ St E w' I'' (F ++ Os))) (hcall_p3 : Callable P g_p3) (hS : St E w I Os) {r : Int} (D : lex_while p0 p1 p2 p3 = some r) :
    Calls P 181 #[(.string p0), (Iv p1), (Iv p2), (.func (.func g_p3) #[] k_p3.toArray)] w (RT E I Os (Iv r)) := by
 refine calls_W (fn := Tryz.f181) rfl rfl rfl ?_
 unfold lex_while at D
 refine yf [0] (ya 0 1 z (yz [0] (ya 0 1 z (yb (yi (yo (bsk D fun t1 hloop5 D => W.wk (ybf hloop5 (fun (s4 : Int) => JI E I [(0, .string p0), (1, Iv p1), (2, Iv p2), (3, .func (.func g_p3) #[] k_p3.toArray), (9, Iv s4)] Os) ⟨I, rfl, lr, hS⟩ ?_))))))))
 rintro s4 _ w6 ⟨I2, rfl, L3, S7⟩ x8 R1 hext1
 refine yi (yf nL20 (ya 0 7 z (yay [7, 8, 9] 10 16 20 (.refl ((decide ((w64 (p1 + s4)) < (p0.size : Int))) && (decide (s4 < p2)))) (fun _ => ya 7 4 z yal) (ya 11 1 z (bsk R1 fun j11 R2 R1 => yap (l1 := [12, 13, 14, 15, 16, 17, 18, 19]) (J := JI E I2 [(0, .string p0), (1, Iv p1), (2, Iv p2), (3, .func (.func g_p3) #[] k_p3.toArray), (9, Iv s4), (29, .bool j11)] Os) ?_ ?_)))))
 refine yao R2 (fun G R2 => ?_) (fun G R2 => ?_)
 refine y4 21 G (y7 12 22 (.func (.func g_p3) #[] k_p3.toArray) (ya 13 4 z (bsk R2 fun y15 Xy15 R2 => yav z kr kr z z Xy15 ?_)))
 refine bsk R2 fun r21 Xr16 R2 => yby z kr z (g := g_p3) (kk := k_p3) (args := [(.int .u8 y15)]) z kr hcall_p3 (h_p3 (F := []) L3 S7  Xr16) ?_
 rintro _ w17 ⟨I18, rfl, L19, S20⟩
 exact cv (ya 19 1 z (sj R2 ▸ y3 ⟨I18, rfl, L19, S20⟩))
 refine y4 21 G ?_
 iterate 7 refine yan ?_
 exact ya 19 1 z (sj R2 ▸ y3 ⟨I2, rfl, lr, S7⟩)
 rintro _ w22 ⟨I13, rfl, L14, S23⟩
 refine yb (y6 R1 (fun G R1 => ?_) (fun G R1 => ?_))
 exact ym (yc (yo (yak nL3 (ya 0 3 z (yq (yn (yx ⟨(w64 (s4 + 1)), (sj R1).symm, I13, rfl, le, S23⟩)))))))
 refine yae (yr (yu ?_))
 obtain rfl := hext1 _ (sj R1).symm
 exact yv (yc (yf nL2 (ya 0 2 z (yb (yp (sj D ▸ yy ⟨I13, rfl, le, S23⟩))))))
def lex_digit (p0 : Int) : Option Bool := some ((decide (p0 ≥ 48)) && (decide (p0 ≤ 57)))
theorem lex_digit_ok {p0 : Int} (hS : St E w I Os) {r : Bool} (D : lex_digit p0 = some r) :
    Calls P 183 #[(.int .u8 p0)] w (RT E I Os (.bool r)) := by
 refine calls_W (fn := Tryz.f183) rfl rfl rfl ?_
 unfold lex_digit at D
 exact yf [0] (ya 0 1 z (yz nL7 (ya 0 3 z (yay [3, 4] 5 5 8 (.refl ((decide (p0 ≥ 48)) && (decide (p0 ≤ 57)))) (fun _ => ya 3 3 z yal) (ya 6 1 z (yb (yp (sj D ▸ yy ⟨I, rfl, lr, hS⟩))))))))
def lex_one_1 (p0 : Int) : Option Bool := (lex_small p0).bind (fun r6 => ((bif r6 then some true else (lex_digit p0).bind (fun r16 => some r16))).bind (fun (j7 : Bool) => some (j7 || (p0 == 95))))
theorem lex_one_1_ok {p0 : Int} (hS : St E w I Os) {r : Bool} (D : lex_one_1 p0 = some r) :
    Calls P 182 #[(.int .u8 p0)] w (RT E I Os (.bool r)) := by
 refine calls_W (fn := Tryz.f182) rfl rfl rfl ?_
 unfold lex_one_1 at D
 refine yf [0] (ya 0 1 z (yz nL11 (ya 0 1 z (bsk D fun r6 Xr1 D => WO.c1 (lex_small_ok  hS Xr1) z fun I3 w2 L4 S5 => ya 2 1 z (bsk D fun j7 R1 D => yap (l1 := [3, 4, 5]) (J := JI E I3 [(0, .int .u8 p0), (8, .bool j7)] Os) ?_ ?_)))))
 refine yao R1 (fun G R1 => ?_) (fun G R1 => ?_)
 refine y4 5 G ?_
 iterate 2 refine yan ?_
 exact ya 5 1 z (sj R1 ▸ y3 ⟨I3, rfl, lr, S5⟩)
 exact y4 5 G (ya 3 1 z (bsk R1 fun r16 Xr11 R1 => WO.c1 (lex_digit_ok  S5 Xr11) z fun I13 w12 L14 S15 => ya 5 1 z (sj R1 ▸ y3 ⟨I13, rfl, L14, S15⟩)))
 rintro _ w17 ⟨I9, rfl, L10, S18⟩
 exact ya 6 1 z (ya3 [7, 8] 9 9 12 (.refl (j7 || (p0 == 95))) (fun _ => ya 7 3 z yal) (ya 10 1 z (yb (yp (sj D ▸ yy ⟨I9, rfl, le, S18⟩)))))
def lex_capital (p0 : Int) : Option Bool := some ((decide (p0 ≥ 65)) && (decide (p0 ≤ 90)))
theorem lex_capital_ok {p0 : Int} (hS : St E w I Os) {r : Bool} (D : lex_capital p0 = some r) :
    Calls P 185 #[(.int .u8 p0)] w (RT E I Os (.bool r)) := by
 refine calls_W (fn := Tryz.f185) rfl rfl rfl ?_
 unfold lex_capital at D
 exact yf [0] (ya 0 1 z (yz nL7 (ya 0 3 z (yay [3, 4] 5 5 8 (.refl ((decide (p0 ≥ 65)) && (decide (p0 ≤ 90)))) (fun _ => ya 3 3 z yal) (ya 6 1 z (yb (yp (sj D ▸ yy ⟨I, rfl, lr, hS⟩))))))))
def lex_glued (p0 : Int) : Option Bool := (lex_small p0).bind (fun r6 => ((bif r6 then some true else (lex_capital p0).bind (fun r16 => some r16))).bind (fun (j7 : Bool) => ((bif j7 then some true else (lex_digit p0).bind (fun r28 => some r28))).bind (fun (j19 : Bool) => some ((j19 || (p0 == 95)) || (p0 == 36)))))
theorem lex_glued_ok {p0 : Int} (hS : St E w I Os) {r : Bool} (D : lex_glued p0 = some r) :
    Calls P 199 #[(.int .u8 p0)] w (RT E I Os (.bool r)) := by
 refine calls_W (fn := Tryz.f199) rfl rfl rfl ?_
 unfold lex_glued at D
 refine yf [0] (ya 0 1 z (yz nL19 (ya 0 1 z (bsk D fun r6 Xr1 D => WO.c1 (lex_small_ok  hS Xr1) z fun I3 w2 L4 S5 => ya 2 1 z (bsk D fun j7 R1 D => yap (l1 := [3, 4, 5]) (J := JI E I3 [(0, .int .u8 p0), (8, .bool j7)] Os) ?_ ?_)))))
 refine yao R1 (fun G R1 => ?_) (fun G R1 => ?_)
 refine y4 5 G ?_
 iterate 2 refine yan ?_
 exact ya 5 1 z (sj R1 ▸ y3 ⟨I3, rfl, lr, S5⟩)
 exact y4 5 G (ya 3 1 z (bsk R1 fun r16 Xr11 R1 => WO.c1 (lex_capital_ok  S5 Xr11) z fun I13 w12 L14 S15 => ya 5 1 z (sj R1 ▸ y3 ⟨I13, rfl, L14, S15⟩)))
 rintro _ w17 ⟨I9, rfl, L10, S18⟩
 refine ya 6 1 z (bsk D fun j19 R1 D => yap (l1 := [7, 8, 9]) (J := JI E I9 [(0, .int .u8 p0), (12, .bool j19)] Os) ?_ ?_)
 refine yao R1 (fun G R1 => ?_) (fun G R1 => ?_)
 refine y4 9 G ?_
 iterate 2 refine yan ?_
 exact ya 9 1 z (sj R1 ▸ y3 ⟨I9, rfl, lr, S18⟩)
 exact y4 9 G (ya 7 1 z (bsk R1 fun r28 Xr23 R1 => WO.c1 (lex_digit_ok  S18 Xr23) z fun I25 w24 L26 S27 => ya 9 1 z (sj R1 ▸ y3 ⟨I25, rfl, L26, S27⟩)))
 rintro _ w29 ⟨I21, rfl, L22, S30⟩
 exact ya 10 1 z (ya3 [11, 12] 13 13 16 (.refl (j19 || (p0 == 95))) (fun _ => ya 11 3 z yal) (ya 14 1 z (ya3 [15, 16] 17 17 20 (.refl ((j19 || (p0 == 95)) || (p0 == 36))) (fun _ => ya 15 3 z yal) (ya 18 1 z (yb (yp (sj D ▸ yy ⟨I21, rfl, le, S30⟩)))))))
def lex_alone (p0 : By8) (p1 : Int) : Option Int := ((bif (decide (p1 < (p0.size : Int))) then (sAt p0 p1).bind (fun y5 => (lex_glued y5).bind (fun r11 => some r11)) else some false)).bind (fun (j1 : Bool) => (bif j1 then some 0 else some p1))
theorem lex_alone_ok {p0 : By8} {p1 : Int} (hS : St E w I Os) {r : Int} (D : lex_alone p0 p1 = some r) :
    Calls P 184 #[(.string p0), (Iv p1)] w (RT E I Os (Iv r)) := by
 refine calls_W (fn := Tryz.f184) rfl rfl rfl ?_
 unfold lex_alone at D
 refine yf [0] (ya 0 1 z (yb (yi (yf nL10 (ya 0 5 z (bsk D fun j1 R1 D => yap (l1 := [5, 6, 7, 8, 9]) (J := JI E I [(1, Iv p1), (14, .bool j1)] Os) ?_ ?_))))))
 refine yao R1 (fun G R1 => ?_) (fun G R1 => ?_)
 refine y4 9 G (ya 5 2 z (bsk R1 fun y5 Xy5 R1 => yav z kr kr z z Xy5 ?_))
 exact bsk R1 fun r11 Xr6 R1 => WO.c1 (lex_glued_ok  hS Xr6) z fun I8 w7 L9 S10 => ya 9 1 z (sj R1 ▸ y3 ⟨I8, rfl, L9, S10⟩)
 refine y4 9 G ?_
 iterate 4 refine yan ?_
 exact ya 9 1 z (sj R1 ▸ y3 ⟨I, rfl, lr, hS⟩)
 rintro _ w12 ⟨I3, rfl, L4, S13⟩
 refine yb (y6 D (fun G D => ?_) (fun G D => ?_))
 exact yf [0] (ya 0 1 z (yb (yp (ye (sj D ▸ yy ⟨I3, rfl, L4, S13⟩)))))
 exact ym (yc (yf nL2 (ya 0 2 z (yb (yp (sj D ▸ yy ⟨I3, rfl, L4, S13⟩))))))
def lex_one_2 (p0 : Int) : Option Bool := (lex_capital p0).bind (fun r6 => some (r6 || (p0 == 95)))
theorem lex_one_2_ok {p0 : Int} (hS : St E w I Os) {r : Bool} (D : lex_one_2 p0 = some r) :
    Calls P 186 #[(.int .u8 p0)] w (RT E I Os (.bool r)) := by
 refine calls_W (fn := Tryz.f186) rfl rfl rfl ?_
 unfold lex_one_2 at D
 exact yf [0] (ya 0 1 z (yz nL7 (ya 0 1 z (bsk D fun r6 Xr1 D => WO.c1 (lex_capital_ok  hS Xr1) z fun I3 w2 L4 S5 => ya 2 1 z (ya3 [3, 4] 5 5 8 (.refl (r6 || (p0 == 95))) (fun _ => ya 3 3 z yal) (ya 6 1 z (yb (yp (sj D ▸ yy ⟨I3, rfl, L4, S5⟩)))))))))
end Go.Proofs.YtdmapcjbbbifbaaGreat
