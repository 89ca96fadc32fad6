/- What functions of the program come to, each by a plain one. Conditions: none. -/
import Derived.Test.YtlfphpegelclpaaGreatF1
import Derived.Test.YtlfphpegelclpaaGreatProg
set_option maxRecDepth 100000
namespace Go.Proofs.YtlfphpegelclpaaGreat
open Go.Gv
set_option maxHeartbeats 1000000
variable {E w : World} {I : Mem} {Os : List Mem}
def r17_alike (p0 : List By8) (p1 : List By8) : Option Bool := (bif ((p0.length : Int) != (p1.length : Int)) then some false else (forN (fun (i4 : Nat) (_s : Unit) => (forE (fun (i16 : Nat) (s : Int × Int) => match s with | (s14, s15) => (idx p0 (i16 : Int)).bind (fun x25 => (idx p0 (i4 : Int)).bind (fun x26 => ((bif (sEq x25 x26) then some (w64 (s14 + 1)) else some s14)).bind (fun (j27 : Int) => (idx p1 (i16 : Int)).bind (fun x35 => (idx p0 (i4 : Int)).bind (fun x36 => ((bif (sEq x35 x36) then some (w64 (s15 + 1)) else some s15)).bind (fun (j37 : Int) => some (j27, j37)))))))) p0.length 0 (0, 0)).bind (fun (s14, s15) => (bif (s14 != s15) then some (.inr false) else some (.inl ())))) p0.length 0 ()).bind (fun (t : Unit ⊕ (Bool)) => match t with | .inl _ => some true | .inr s46 => some s46))
theorem r17_alike_ok {p0 : List By8} {p1 : List By8} {a_p0 : Option Addr} {c_p0 : Nat} {a_p1 : Option Addr} {c_p1 : Nat} (h_p0 : RSl 1 RStr I a_p0 c_p0 p0) (h_p1 : RSl 1 RStr I a_p1 c_p1 p1) (hS : St E w I Os) {r : Bool} (D : r17_alike p0 p1 = some r) :
    Calls P 124 #[(Sl a_p0 p0 c_p0), (Sl a_p1 p1 c_p1)] w (RT E I Os (.bool r)) := by
 refine calls_W (fn := Tryz.f124) rfl rfl rfl ?_
 unfold r17_alike at D
 refine yf [0] (ya 0 1 z (yb (W.seq (yf nL5 (ya 0 5 z (yb (yy D (fun G D => ?_) (fun G D => ?_))))))))
 exact yf [0] (ya 0 1 z (yb (yq (yh (sj D ▸ yw ⟨I, rfl, lr, hS⟩)))))
 refine W.skip (ye (W.seq (yf [0] (ya 0 1 z (yb (yl (bsk D fun t1 hloop5 D => have hlt9 := (h_p0).len_lt; W.wk (yap (m := p0.length) hloop5 (fun (i4 : Nat) (_s : Unit) => JI E I [(0, Sl a_p0 p0 c_p0), (1, Sl a_p1 p1 c_p1), (5, Nv i4)] Os) ⟨I, rfl, lr, hS⟩ ?_ ?_))))))))
 rintro i4 _ _ w6 hi10 ⟨I2, rfl, L3, S7⟩ x8 R1 hext1
 refine W.seq (yf nL4 (ya 0 4 z (yb (yar fun _ => W.skip (ye (W.seq (yl (yf nL2 (ya 0 2 z (yb (W.seq (yf [0] (ya 0 1 z (yb (yl ?_)))))))))))))))
 obtain ⟨⟨s14, s15⟩, hloop17, R1⟩ := bsm R1
 have hlt21 := ((RSl.mono h_p0 L3)).len_lt
 refine W.wk (yat (m := p0.length) hloop17 (fun (i16 : Nat) (s : Int × Int) fr w => match s with | (s14, s15) => ∃ I12, fr = [(0, Sl a_p0 p0 c_p0), (1, Sl a_p1 p1 c_p1), (5, Nv i4), (6, Iv s14), (7, Iv s15), (8, Nv i16)] ∧ I2.Le I12 ∧ St E w I12 Os) ⟨I2, rfl, lr, S7⟩ ?_ ?_)
 rintro i16 ⟨s14, s15⟩ _ w18 hi22 ⟨I12, rfl, L13, S19⟩ x20 R2
 refine W.seq (yf nL4 (ya 0 4 z (yb (yar fun _ => W.skip (ye (W.seq (yl (W.seq (W.seq (have S23 := S19.drew; yba nL9 8 (yad S23.im) ?_))))))))))
 generalize World.drew _ = w24 at *
 refine ya 0 2 z ?_
 obtain ⟨x25, R2, Hx25, _, rfl, Zx25⟩ := sx I12 h_p0 R2
 refine yaa 9 1 Hx25 z (yao Zx25 (rd_i S23.im) z (ya 4 2 z ?_))
 obtain ⟨x26, R2, Hx26, _, rfl, Zx26⟩ := sx I12 h_p0 R2
 refine yaa 9 1 Hx26 z (yao Zx26 (rd_i S23.im) z (WO.tail z (ya 8 1 z (yb (bsk R2 fun j27 R3 R2 => yav (J := JI E I12 [(0, Sl a_p0 p0 c_p0), (1, Sl a_p1 p1 c_p1), (5, Nv i4), (6, Iv j27), (7, Iv s15), (8, Nv i16)] Os) ?_ ?_)))))
 refine yy R3 (fun G R3 => ?_) (fun G R3 => ?_)
 exact yag nL3 (ya 0 3 z (yp (sj R3 ▸ yt ⟨I12, rfl, lr, S23⟩)))
 exact W.skip (sj R3 ▸ yt ⟨I12, rfl, lr, S23⟩)
 rintro _ w31 ⟨I29, rfl, L30, S32⟩
 refine ye (W.seq (have S33 := S32.drew; yba nL9 8 (yad S33.im) ?_))
 generalize World.drew _ = w34 at *
 refine ya 0 2 z ?_
 obtain ⟨x35, R2, Hx35, _, rfl, Zx35⟩ := sx I29 h_p1 R2
 refine yaa 9 1 Hx35 z (yao Zx35 (rd_i S33.im) z (ya 4 2 z ?_))
 obtain ⟨x36, R2, Hx36, _, rfl, Zx36⟩ := sx I29 h_p0 R2
 refine yaa 9 1 Hx36 z (yao Zx36 (rd_i S33.im) z (WO.tail z (ya 8 1 z (yb (bsk R2 fun j37 R3 R2 => yav (J := JI E I29 [(0, Sl a_p0 p0 c_p0), (1, Sl a_p1 p1 c_p1), (5, Nv i4), (6, Iv j27), (7, Iv j37), (8, Nv i16)] Os) ?_ ?_)))))
 refine yy R3 (fun G R3 => ?_) (fun G R3 => ?_)
 exact yag nL3 (ya 0 3 z (yp (sj R3 ▸ yt ⟨I29, rfl, lr, S33⟩)))
 exact W.skip (sj R3 ▸ yt ⟨I29, rfl, lr, S33⟩)
 rintro _ w41 ⟨I39, rfl, L40, S42⟩
 exact yk (ye (yag nL3 (ya 0 1 z (yam i16 z (ya 2 1 z (yp (sj R2 ▸ yt ⟨I39, rfl, le, S42⟩)))))))
 rintro _ w43 ⟨I12, rfl, L13, S44⟩
 refine W.seq (yf nL4 (ya 0 4 z (yb (yas fun _ => W.exit (yn (yo (yr (ye (yf nL3 (ya 0 3 z (yb (yy R1 (fun G R1 => ?_) (fun G R1 => ?_)))))))))))))
 refine yf [0] (ya 0 1 z (yb (yq (ym (yh (yu ?_))))))
 obtain rfl := hext1 _ (sj R1).symm
 exact ym (yh (sj D ▸ yw ⟨I12, rfl, le, S44⟩))
 exact W.skip (yk (ye (yag nL3 (ya 0 1 z (yam i4 z (ya 2 1 z (yp (yt ⟨(), (sj R1).symm, I12, rfl, le, S44⟩))))))))
 rintro _ _ w47 ⟨I2, rfl, L3, S48⟩ he
 cases he
 exact W.seq (yf nL4 (ya 0 4 z (yb (yas fun _ => W.exit (yn (yo (yr (ye (yf [0] (ya 0 1 z (yb (yq (sj D ▸ yw ⟨I2, rfl, L3, S48⟩)))))))))))))
def r17_Copy (p0 : qT) : Option qT := (app 32 ([] : List qL) p0.Cols).bind (fun x17 => (app 176 ([] : List qK) p0.Cons).bind (fun x29 => (app 40 ([] : List qI) p0.Idx).bind (fun x41 => some { p0 with Cols := x17, Cons := x29, Idx := x41 })))
theorem r17_Copy_ok {p0 : qT} {w_p0 : W_qT} (h_p0 : ok_qT I p0 w_p0) (hS : St E w I Os) {r : qT} (D : r17_Copy p0 = some r) :
    Calls P 126 #[(vT p0 w_p0)] w (fun e w' => ∃ (I' : Mem) (w_rw0 : W_qT) (rC0_3 : Mem) (rC0_4 : Mem) (rC0_5 : Mem), e = .returned (vT r w_rw0) ∧ I.Le I' ∧ St E w' I' (rC0_3 :: rC0_4 :: rC0_5 :: Os) ∧ OwnSl 114 3 R_qL I' rC0_3 w_rw0.Cols.a w_rw0.Cols.c r.Cols ∧ OwnSl 116 12 R_qK I' rC0_4 w_rw0.Cons.a w_rw0.Cons.c r.Cons ∧ OwnSl 163 2 R_qI I' rC0_5 w_rw0.Idx.a w_rw0.Idx.c r.Idx) := by
 refine calls_W (fn := Tryz.f126) rfl rfl rfl ?_
 unfold r17_Copy at D
 refine yf nL2 (yz hS (cs_qT p0 w_p0) 104 z fun b1 w4 S3 => yz S3 (cs_qT z_qT zw_qT) 104 z fun b5 w8 S7 => y0 nL9 (yg 0 1 [0] z (yj (S7.rf m1) z (yg 2 1 [1] z (yj (S7.rf m1) z (yg 4 1 [2] z (yj (S7.rf m1) z (y8 6 10 (.agg (cs_qT ({ p0 with Cols := ([] : List qL), Cons := ([] : List qK), Idx := ([] : List qI) }) (⟨⟨none, 0⟩, ⟨none, 0⟩, ⟨none, 0⟩⟩ : W_qT)).toArray) (yz S7 (cs_qT z_qT zw_qT) 104 z fun b9 w12 S11 => y7 S11 0 (cs_qT ({ p0 with Cols := ([] : List qL), Cons := ([] : List qK), Idx := ([] : List qI) }) (⟨⟨none, 0⟩, ⟨none, 0⟩, ⟨none, 0⟩⟩ : W_qT)) fun w14 S13 => y0 nL7 (yg 0 1 [3] z (yj (S13.rf m0) z (yg 2 1 [3] z (yj (S13.rf m2) z (have S16 := S13.no; apk D fun x17 h0_x17 he_x17 D => ya7 (e' := 114) (b := 32) (zs := (cs_qL z_qL).toArray) S16 (OwnSl.nil (T := 114) (rel := R_qL) (I := I)) z kr z kr kr kr z z z z h_p0.Cols S16.im h0_x17 he_x17 tv ?_))))))))))))))
 intro a18 c19 w20 C21 S22 ho23
 refine yg 5 1 [3] z (y7 S22.front1 3 (cs_qT ({ p0 with Cols := x17, Cons := ([] : List qK), Idx := ([] : List qI) }) (⟨⟨a18, c19⟩, ⟨none, 0⟩, ⟨none, 0⟩⟩ : W_qT)) fun w26 S25 => y0 nL7 (yg 0 1 [4] z (yj (S25.rf m0) z (yg 2 1 [4] z (yj (S25.rf m3) z (have S28 := S25.no; apk D fun x29 h0_x29 he_x29 D => ya7 (e' := 116) (b := 176) (zs := (cs_qK z_qK zw_qK).toArray) S28 (OwnSl.nil (T := 116) (rel := R_qK) (I := I)) z kr z kr kr kr z z z z h_p0.Cons S28.im h0_x29 he_x29 tv ?_))))))
 intro a30 c31 w32 C33 S34 ho35
 refine yg 5 1 [4] z (y7 S34.front1 4 (cs_qT ({ p0 with Cols := x17, Cons := x29, Idx := ([] : List qI) }) (⟨⟨a18, c19⟩, ⟨a30, c31⟩, ⟨none, 0⟩⟩ : W_qT)) fun w38 S37 => y0 nL7 (yg 0 1 [5] z (yj (S37.rf m0) z (yg 2 1 [5] z (yj (S37.rf m4) z (have S40 := S37.no; apk D fun x41 h0_x41 he_x41 D => ya7 (e' := 163) (b := 40) (zs := (cs_qI z_qI zw_qI).toArray) S40 (OwnSl.nil (T := 163) (rel := R_qI) (I := I)) z kr z kr kr kr z z z z h_p0.Idx S40.im h0_x41 he_x41 tv ?_))))))
 intro a42 c43 w44 C45 S46 ho47
 exact yg 5 1 [5] z (y7 S46.front1 5 (cs_qT ({ p0 with Cols := x17, Cons := x29, Idx := x41 }) (⟨⟨a18, c19⟩, ⟨a30, c31⟩, ⟨a42, c43⟩⟩ : W_qT)) fun w50 S49 => y0 nL2 (yx ((cs_qT ({ p0 with Cols := x17, Cons := x29, Idx := x41 }) (⟨⟨a18, c19⟩, ⟨a30, c31⟩, ⟨a42, c43⟩⟩ : W_qT))) (S49.rf m0) z (y7 S49.front4 0 (cs_qT ({ p0 with Cols := x17, Cons := x29, Idx := x41 }) (⟨⟨a18, c19⟩, ⟨a30, c31⟩, ⟨a42, c43⟩⟩ : W_qT)) fun w53 S52 => yb (yq (sj D ▸ En.c1 _ (S52.rd m0) ⟨I, (⟨⟨a18, c19⟩, ⟨a30, c31⟩, ⟨a42, c43⟩⟩ : W_qT), C21, C33, C45, rfl, lr, S52.d2.front3.drop.front1.front2, ho23, ho35, ho47⟩)))))
noncomputable def r17_pointed (p0 : qT) (p1 : By8) (p2 : By8) : Option (qT × Bool) := (r17_Copy p0).bind (fun r14 => (loopO (fun (s : Bool × Int × (List qK)) => match s with | (s34, s35, s36) => (bif (decide (s35 < (s36.length : Int))) then (idx s36 s35).bind (fun x46 => ((bif (x46.Kind == 3) then (idx s36 s35).bind (fun x51 => some (sEq x51.Table p1)) else some false)).bind (fun (j47 : Bool) => ((bif j47 then (idx s36 s35).bind (fun x58 => some (true, (s36.set (s35).toNat ({ x58 with Table := p2 })))) else some (s34, s36))).bind (fun ((s66, s67) : Bool × (List qK)) => some (.inl (s66, (w64 (s35 + 1)), s67))))) else some (.inr (s34, s36)))) (false, 0, r14.Cons)).bind (fun ((s73, s74) : Bool × (List qK)) => some ({ r14 with Cols := r14.Cols, Cons := s74, Idx := r14.Idx }, s73)))
theorem r17_pointed_ok {p0 : qT} {p1 : By8} {p2 : By8} {w_p0 : W_qT} (h_p0 : ok_qT I p0 w_p0) (hS : St E w I Os) {r : qT × Bool} (D : r17_pointed p0 p1 p2 = some r) :
    Calls P 125 #[(vT p0 w_p0), (.string p1), (.string p2)] w (fun e w' => ∃ I' w_rw0, e = .returned (.tuple #[(vT r.1 w_rw0), (.bool r.2)]) ∧ I.Le I' ∧ St E w' I' Os ∧ ok_qT I' r.1 w_rw0) := by
 refine calls_W (fn := Tryz.f125) rfl rfl rfl ?_
 unfold r17_pointed at D
 refine yf nL3 (yz hS (cs_qT p0 w_p0) 104 z fun b1 w4 S3 => yz S3 (cs_qT z_qT zw_qT) 104 z fun b5 w8 S7 => ya 2 1 z (y0 nL4 (yx ((cs_qT p0 w_p0)) (S7.rf m1) z (bsk D fun r14 Xr9 D => yai (r17_Copy_ok h_p0 S7 Xr9) ?_))))
 rintro _ w10 ⟨I11, w_r14, C_r14_3, C_r14_4, C_r14_5, rfl, L12, S13, h_r14_3, h_r14_4, h_r14_5⟩
 refine cv (yz S13 (cs_qT z_qT zw_qT) 104 z ?_)
 intro b15 w18 S17
 obtain ⟨I20, L21, S23, hp22⟩ := yac h_r14_3 S17.front1
 obtain ⟨I25, L26, S28, hp27⟩ := yac (h_r14_5.mono L21) S23.front2
 refine y7 S28 0 (cs_qT ({ r14 with Cols := r14.Cols, Cons := r14.Cons, Idx := r14.Idx }) (⟨⟨w_r14.Cols.a, w_r14.Cols.c⟩, ⟨w_r14.Cons.a, w_r14.Cons.c⟩, ⟨w_r14.Idx.a, w_r14.Idx.c⟩⟩ : W_qT)) fun w30 S29 => y0 [0] (ya 0 1 z (yb (W.seq (yf [0] (ya 0 1 z (yb (yl (bsk D fun t31 hloop37 D => W.wk (ya6 hloop37 (fun (s : Bool × Int × (List qK)) fr w => match s with | (s34, s35, s36) => ∃ I32 C_s36, fr = [(1, .string p1), (2, .string p2), (6, Pt b5 0), (8, Pt b15 0), (9, .bool s34), (10, Iv s35)] ∧ I25.Le I32 ∧ St E w I32 (bT b5 z_qT zw_qT :: (Bx b15 (cs_qT ({ r14 with Cols := r14.Cols, Cons := s36, Idx := r14.Idx }) (⟨⟨w_r14.Cols.a, w_r14.Cols.c⟩, ⟨w_r14.Cons.a, w_r14.Cons.c⟩, ⟨w_r14.Idx.a, w_r14.Idx.c⟩⟩ : W_qT)) 104) :: (C_s36) :: Os) ∧ OwnSl 116 12 R_qK I32 C_s36 w_r14.Cons.a w_r14.Cons.c s36) ⟨I25, C_r14_4, rfl, lr, S29.front3.drop.front1.front1.front2, (OwnSl.mono h_r14_4 le)⟩ ?_)))))))))
 rintro ⟨s34, s35, s36⟩ _ w43 ⟨I32, C_s36, rfl, L33, S44, h_s36⟩ x45 R1 hext31
 refine W.seq (yf nL5 (yg 0 2 [4] z (yj (S44.rf m1) z (ya 3 2 z (yb (yy R1 (fun G R1 => ?_) (fun G R1 => ?_)))))))
 refine W.skip (ye (W.seq (yl (yf nL17 (yg 0 1 [4] z (yj (S44.rf m1) z (ya 2 1 z ?_)))))))
 obtain ⟨x46, R1, Hx46, _, ⟨w_x46, rfl, h_x46⟩, Zx46⟩ := sl_ix (h_s36.sl) R1
 refine yaa 116 12 Hx46 z (yg 4 1 [1] z (yaz Zx46 1 (S44.rf m2) z (ya 6 2 z (bsk R1 fun j47 R2 R1 => yal (l1 := [8, 9, 10, 11, 12, 13, 14, 15, 16]) (J := JI E I32 [(1, .string p1), (2, .string p2), (6, Pt b5 0), (8, Pt b15 0), (9, .bool s34), (10, Iv s35), (36, .bool j47)] (bT b5 z_qT zw_qT :: (Bx b15 (cs_qT ({ r14 with Cols := r14.Cols, Cons := s36, Idx := r14.Idx }) (⟨⟨w_r14.Cols.a, w_r14.Cols.c⟩, ⟨w_r14.Cons.a, w_r14.Cons.c⟩, ⟨w_r14.Idx.a, w_r14.Idx.c⟩⟩ : W_qT)) 104) :: (C_s36) :: Os)) ?_ ?_))))
 refine yak R2 (fun G R2 => ?_) (fun G R2 => ?_)
 refine y6 27 G (yg 8 1 [4] z (yj (S44.rf m1) z (ya 10 1 z ?_)))
 obtain ⟨x51, R2, Hx51, _, ⟨w_x51, rfl, h_x51⟩, Zx51⟩ := sl_ix (h_s36.sl) R2
 exact yaa 116 12 Hx51 z (yg 12 1 [10] z (yaz Zx51 10 (S44.rf m2) z (ya 14 3 z (sj R2 ▸ y4 ⟨I32, rfl, lr, S44⟩))))
 refine y6 27 G ?_
 iterate 8 refine yaj ?_
 exact ya 16 1 z (sj R2 ▸ y4 ⟨I32, rfl, lr, S44⟩)
 rintro _ w52 ⟨I49, rfl, L50, S53⟩
 refine yb (bsk R1 fun j54 R2 R1 => yav (J := (fun fr w => ∃ (s66 : Bool) (s67 : List qK), ∃ I56 C_s67, (s66, s67) = j54 ∧ fr = [(1, .string p1), (2, .string p2), (6, Pt b5 0), (8, Pt b15 0), (9, .bool s66), (10, Iv s35)] ∧ I49.Le I56 ∧ St E w I56 (bT b5 z_qT zw_qT :: (Bx b15 (cs_qT ({ r14 with Cols := r14.Cols, Cons := s67, Idx := r14.Idx }) (⟨⟨w_r14.Cols.a, w_r14.Cols.c⟩, ⟨w_r14.Cons.a, w_r14.Cons.c⟩, ⟨w_r14.Idx.a, w_r14.Idx.c⟩⟩ : W_qT)) 104) :: (C_s67) :: Os) ∧ OwnSl 116 12 R_qK I56 C_s67 w_r14.Cons.a w_r14.Cons.c s67)) ?_ ?_)
 refine yy R2 (fun G R2 => ?_) (fun G R2 => ?_)
 refine yf nL7 (yg 0 1 [4] z (yj (S53.rf m1) z (ya 2 2 z ?_)))
 obtain ⟨x58, R2, h0_x58, h1_x58, Xx58, ha_x58, _, _, ⟨w_x58, rfl, h_x58⟩, Zx58⟩ := sl_at ((h_s36.mono L50).sl) R2
 refine ya5 116 12 ha_x58 h0_x58 h1_x58 ?_
 refine yg 5 1 [10] z ?_
 have hk64 : ok_qK I49 ({ x58 with Table := p2 }) w_x58 := ⟨h_x58.Cols, h_x58.Check, h_x58.Refs⟩
 refine ya9 S53.front2 (OwnSl.mono h_s36 L50) z kr z Xx58 (u' := { x58 with Table := p2 }) 10 z z kr z z (fun cs hrel => (by obtain ⟨w_zz, rfl, h_zz⟩ := hrel; exact ⟨w_zz, rfl, { h_zz with }⟩)) tv ?_
 intro w61 C62 S60 ho63
 refine yae 38 z (show Value.slice w_r14.Cons.a s36.length w_r14.Cons.c = Value.slice w_r14.Cons.a (s36.set (s35).toNat ({ x58 with Table := p2 })).length w_r14.Cons.c by simp only [List.length_set]) ?_
 have S65 : St E w61 I49 ((C62) :: (bT b5 z_qT zw_qT) :: (Bx b15 (cs_qT ({ r14 with Cols := r14.Cols, Cons := (s36.set (s35).toNat ({ x58 with Table := p2 })), Idx := r14.Idx }) (⟨⟨w_r14.Cols.a, w_r14.Cols.c⟩, ⟨w_r14.Cons.a, w_r14.Cons.c⟩, ⟨w_r14.Idx.a, w_r14.Idx.c⟩⟩ : W_qT)) 104) :: Os) := by have hq := S60; simp only [cs_qT, List.length_set] at hq ⊢; exact hq
 exact yb (yag [0] (ya 0 1 z (yp (yt ⟨true, (s36.set (s35).toNat ({ x58 with Table := p2 })), I49, C62, sj R2, rfl, lr, S65.front2.front2, ho63⟩))))
 exact W.skip (yt ⟨s34, s36, I49, C_s36, sj R2, rfl, lr, S53, (OwnSl.mono h_s36 L50)⟩)
 rintro _ w70 ⟨s66, s67, I56, C_s67, rfl, rfl, L57, S71, h_s67⟩
 exact yk (ye (yag nL3 (ya 0 3 z (yp (yt ⟨(s66, (w64 (s35 + 1)), s67), (sj R1).symm, I56, C_s67, rfl, le, S71, h_s67⟩)))))
 refine W.exit (yn (yo ?_))
 obtain rfl := hext31 _ (sj R1).symm
 refine yr (ye (yf nL4 (yx ((cs_qT ({ r14 with Cols := r14.Cols, Cons := s36, Idx := r14.Idx }) (⟨⟨w_r14.Cols.a, w_r14.Cols.c⟩, ⟨w_r14.Cons.a, w_r14.Cons.c⟩, ⟨w_r14.Idx.a, w_r14.Idx.c⟩⟩ : W_qT))) (S44.rf m1) z (ya 1 1 z ?_))))
 obtain ⟨I88, L89, S91, hp90⟩ := yac h_s36 S44.front2
 refine y7 S91 0 (cs_qT ({ r14 with Cols := r14.Cols, Cons := s36, Idx := r14.Idx }) (⟨⟨w_r14.Cols.a, w_r14.Cols.c⟩, ⟨w_r14.Cons.a, w_r14.Cons.c⟩, ⟨w_r14.Idx.a, w_r14.Idx.c⟩⟩ : W_qT)) fun w93 S92 => ya 3 1 z (yb (yq ?_))
 have hk96 : ok_qT I88 ({ r14 with Cols := r14.Cols, Cons := s36, Idx := r14.Idx }) (⟨⟨w_r14.Cols.a, w_r14.Cols.c⟩, ⟨w_r14.Cons.a, w_r14.Cons.c⟩, ⟨w_r14.Idx.a, w_r14.Idx.c⟩⟩ : W_qT) := ⟨(RSl.mono hp22 ((L26.trans L33).trans L89)), hp90, (RSl.mono hp27 (L33.trans L89))⟩
 exact sj D ▸ ya1 _ (S92.rd m0) ⟨I88, (⟨⟨w_r14.Cols.a, w_r14.Cols.c⟩, ⟨w_r14.Cons.a, w_r14.Cons.c⟩, ⟨w_r14.Idx.a, w_r14.Idx.c⟩⟩ : W_qT), rfl, le, S92.d2, hk96⟩
noncomputable def r17_renamed (p0 : qC) (p1 : qT) (p2 : By8) : Option (qC × qT) := (r17_pointed p1 p1.Name p2).bind (fun (r22, r23) => (forE (fun (i46 : Nat) (s45 : List qT) => ((idx p0.Tables (i46 : Int)).bind (fun x67 => (r17_pointed x67 p1.Name p2).bind (fun (r77, r78) => some (r77, r78)))).bind (fun ((s81, s82) : qT × Bool) => ((bif s82 then some { s81 with Version := (w64 (p0.Version + 1)) } else some s81)).bind (fun (j115 : qT) => (idx p0.Tables (i46 : Int)).bind (fun x135 => ((bif (!sEq x135.Name p1.Name) then (app 112 s45 ([j115] : List qT)).bind (fun x148 => some x148) else some s45)).bind (fun (j136 : List qT) => some j136))))) p0.Tables.length 0 ([] : List qT)).bind (fun s45 => (forE (fun (i179 : Nat) (s178 : List qG) => (idx p0.Grants (i179 : Int)).bind (fun x195 => ((bif (sEq x195.Table p1.Name) then some { x195 with Table := p2 } else some x195)).bind (fun (j202 : qG) => (app 64 s178 ([j202] : List qG)).bind (fun x236 => some x236)))) p0.Grants.length 0 ([] : List qG)).bind (fun s178 => some ({ p0 with Tables := s45, Grants := s178 }, { r22 with Name := p2 }))))
theorem r17_renamed_ok {p0 : qC} {p1 : qT} {p2 : By8} {w_p0 : W_qC} {w_p1 : W_qT} (h_p0 : ok_qC I p0 w_p0) (h_p1 : ok_qT I p1 w_p1) (hS : St E w I Os) {r : qC × qT} (D : r17_renamed p0 p1 p2 = some r) :
    Calls P 90 #[(vC p0 w_p0), (vT p1 w_p1), (.string p2)] w (fun e w' => ∃ I' w_rw0 w_rw1, e = .returned (.tuple #[(vC r.1 w_rw0), (vT r.2 w_rw1)]) ∧ I.Le I' ∧ St E w' I' Os ∧ ok_qC I' r.1 w_rw0 ∧ ok_qT I' r.2 w_rw1) := by
 refine calls_W (fn := Tryz.f90) rfl rfl rfl ?_
 unfold r17_renamed at D
 refine yf nL4 (yz hS (cs_qC p0 w_p0) 33 z fun b1 w4 S3 => yz S3 (cs_qT p1 w_p1) 104 z fun b5 w8 S7 => yz S7 (cs_qC z_qC zw_qC) 33 z fun b9 w12 S11 => yz S11 (cs_qT z_qT zw_qT) 104 z fun b13 w16 S15 => y0 nL11 (yx ((cs_qT p1 w_p1)) (S15.rf m2) z (yg 1 1 [0] z (yj (S15.rf m2) z (ya 3 1 z ?_)))))
 obtain ⟨⟨r22, r23⟩, Xr17, D⟩ := bsm D
 refine yai (r17_pointed_ok h_p1 S15 Xr17) ?_
 rintro _ w18 ⟨I19, w_r22, rfl, L20, S21, h_r22⟩
 refine cv (ya 5 3 z (yz S21 (cs_qT z_qT zw_qT) 104 z fun b24 w27 S26 => y7 S26 0 (cs_qT r22 w_r22) fun w29 S28 => ya 10 1 z (y0 nL3 (yg 0 2 [0] z (y7 S28 0 (cs_qT ({ r22 with Name := p2 }) w_r22) fun w31 S30 => y0 nL3 (yx ((cs_qC p0 w_p0)) (S30.rf m4) z (yz S30 (cs_qC z_qC zw_qC) 33 z fun b32 w35 S34 => y7 S34 0 (cs_qC p0 w_p0) fun w37 S36 => y0 nL2 (yg 0 1 [1] z (y7 S36 1 (cs_qC ({ p0 with Tables := ([] : List qT) }) ({ w_p0 with Tables := ⟨none, 0⟩ })) fun w39 S38 => y0 nL2 (yg 0 1 [3] z (y7 S38 3 (cs_qC ({ p0 with Tables := ([] : List qT), Grants := ([] : List qG) }) ({ w_p0 with Tables := ⟨none, 0⟩, Grants := ⟨none, 0⟩ })) fun w41 S40 => yb (W.seq (yf [0] (ya 0 1 z (yb (yl (bsk D fun s45 hloop47 D => have hlt59 := ((RSl.mono h_p0.Tables L20)).len_lt; W.wk (yat (m := p0.Tables.length) hloop47 (fun (i46 : Nat) (s45 : List qT) fr w => ∃ I43 a_s45 c_s45 C_s45, fr = [(2, .string p2), (3, Pt b1 0), (4, Pt b5 0), (6, Pt b9 0), (7, Pt b13 0), (8, Pt b24 0), (10, Pt b32 0), (11, Nv i46)] ∧ I19.Le I43 ∧ St E w I43 (bC b1 p0 w_p0 :: (bT b5 p1 w_p1) :: (bC b9 z_qC zw_qC) :: (bT b13 z_qT zw_qT) :: (Bx b24 (cs_qT ({ r22 with Name := p2 }) w_r22) 104) :: (Bx b32 (cs_qC ({ p0 with Tables := s45, Grants := ([] : List qG) }) ({ w_p0 with Tables := ⟨a_s45, c_s45⟩, Grants := ⟨none, 0⟩ })) 33) :: (C_s45) :: Os) ∧ OwnSl 104 6 R_qT I43 C_s45 a_s45 c_s45 s45) ⟨I19, none, 0, Mem.no, rfl, lr, S40.no.front1.front2.front3.front4.front5.front6, OwnSl.nil⟩ ?_ ?_))))))))))))))))))
 rintro i46 s45 _ w56 hi60 ⟨I43, a_s45, c_s45, C_s45, rfl, L44, S57, h_s45⟩ x58 R1
 refine W.seq (yf nL5 (yg 0 2 [1] z (yj (S57.rf m0) z (ya 3 2 z (yb (yar fun _ => W.skip (ye (W.seq (yl (W.seq (bsk R1 fun j61 R2 R1 => yav (J := (fun fr w => ∃ (s81 : qT) (s82 : Bool), ∃ I63 w_s81 b_s81, (s81, s82) = j61 ∧ fr = [(2, .string p2), (3, Pt b1 0), (4, Pt b5 0), (6, Pt b9 0), (7, Pt b13 0), (8, Pt b24 0), (10, Pt b32 0), (11, Nv i46), (12, Pt b_s81 0), (13, .bool s82)] ∧ I43.Le I63 ∧ St E w I63 (bC b1 p0 w_p0 :: (bT b5 p1 w_p1) :: (bC b9 z_qC zw_qC) :: (bT b13 z_qT zw_qT) :: (Bx b24 (cs_qT ({ r22 with Name := p2 }) w_r22) 104) :: (Bx b32 (cs_qC ({ p0 with Tables := s45, Grants := ([] : List qG) }) ({ w_p0 with Tables := ⟨a_s45, c_s45⟩, Grants := ⟨none, 0⟩ })) 33) :: (bT b_s81 s81 w_s81) :: (C_s45) :: Os) ∧ ok_qT I63 s81 w_s81)) ?_ ?_)))))))))))
 have S65 := S57.drew
 refine W.draws (.split 12 8 (.leaf [0, 1, 2, 3, 4, 5, 6, 7, 12, 8, 9, 10, 11, 13, 14]) (.leaf nL15)) 13 (KR I43 [bC b1 p0 w_p0, bT b5 p1 w_p1]) qR (.ords nL15 [0, 1, 2, 3, 4, 5, 6, 7, 8, 9, 10, 12, 13, 11, 14] kr kr kr kr kr) kr (yv (S65.rd m0) (yv (S65.rd m1) (yad S65.im))) ?_
 generalize World.drew _ = w66 at *
 refine ⟨?_, ?_⟩
 show WO _ _ _ _ _ _ _ [0, 1, 2, 3, 4, 5, 6, 7, 12, 8, 9, 10, 11, 13, 14] _ _
 refine yg 0 1 [1] z (yj (rd_c m0 (S65.rd m0)) z (ya 2 1 z ?_))
 obtain ⟨x67, R2, Hx67, _, ⟨w_x67, rfl, h_x67⟩, Zx67⟩ := sx I43 h_p0.Tables R2
 refine yaa 104 6 Hx67 z (yau ((cs_qT x67 w_x67)) Zx67 0 (rd_i S65.im) z (yg 5 1 [0] z (yj (rd_c m1 (S65.rd m1)) z (ya 7 1 z (ybj S65 z kr z (.cells (cs_qT z_qT zw_qT).toArray 104 (0, 0)) (fun b => .pointer (some ⟨b, 0, none⟩)) kr (fun b68 w71 S70 => (yv (S70.rd m1) (yv (S70.rd m2) (yad S70.im)))) ?_)))))
 intro b68 w71 S70
 obtain ⟨⟨r77, r78⟩, Xr72, R2⟩ := bsm R2
 refine yai (r17_pointed_ok h_x67 S70 Xr72) ?_
 rintro _ w73 ⟨I74, w_r77, rfl, L75, S76, h_r77⟩
 refine ⟨_, rfl, (yv (S76.rd m1) (yv (S76.rd m2) (yad (S76.im.of_le L75)))), ?_⟩
 exact ya 9 3 z (WO.tail z (y7 S76 0 (cs_qT r77 w_r77) fun w80 S79 => ya 14 1 z (yp (yt ⟨r77, r78, I74, w_r77, b68, sj R2, rfl, L75, S79.front7.front1.front7.front7.front7.front7.front7.front7, h_r77⟩))))
 show WO _ _ _ _ _ _ _ nL15 _ _
 refine yg 0 1 [1] z (yj (rd_c m0 (S65.rd m0)) z (ya 2 1 z ?_))
 obtain ⟨x91, R2, Hx91, _, ⟨w_x91, rfl, h_x91⟩, Zx91⟩ := sx I43 h_p0.Tables R2
 refine yaa 104 6 Hx91 z (yau ((cs_qT x91 w_x91)) Zx91 0 (rd_i S65.im) z (yg 5 1 [0] z (yj (rd_c m1 (S65.rd m1)) z (ya 7 1 z ?_))))
 obtain ⟨⟨r97, r98⟩, Xr92, R2⟩ := bsm R2
 refine yai (r17_pointed_ok h_x91 S65 Xr92) ?_
 rintro _ w93 ⟨I94, w_r97, rfl, L95, S96, h_r97⟩
 refine ⟨_, rfl, (yv (S96.rd m0) (yv (S96.rd m1) (yad (S96.im.of_le L95)))), ?_⟩
 refine ya 9 3 z (ybj S96 z kr z (.cells (cs_qT z_qT zw_qT).toArray 104 (0, 0)) (fun b => .pointer (some ⟨b, 0, none⟩)) kr (fun b99 w102 S101 => (yv (S101.rd m1) (yv (S101.rd m2) (yad (S101.im.of_le L95))))) ?_)
 intro b99 w102 S101
 exact WO.tail z (y7 S101 0 (cs_qT r97 w_r97) fun w104 S103 => ya 14 1 z (yp (yt ⟨r97, r98, I94, w_r97, b99, sj R2, rfl, L95, S103.front7.front1.front7.front7.front7.front7.front7.front7, h_r97⟩)))
 rintro _ w113 ⟨s81, s82, I63, w_s81, b_s81, rfl, rfl, L64, S114, h_s81⟩
 refine ye (W.seq (yf [0] (ya 0 1 z (yb (bsk R1 fun j115 R2 R1 => yav (J := (fun fr w => ∃ I117 w_j115, fr = [(2, .string p2), (3, Pt b1 0), (4, Pt b5 0), (6, Pt b9 0), (7, Pt b13 0), (8, Pt b24 0), (10, Pt b32 0), (11, Nv i46), (12, Pt b_s81 0)] ∧ I63.Le I117 ∧ St E w I117 (bC b1 p0 w_p0 :: (bT b5 p1 w_p1) :: (bC b9 z_qC zw_qC) :: (bT b13 z_qT zw_qT) :: (Bx b24 (cs_qT ({ r22 with Name := p2 }) w_r22) 104) :: (Bx b32 (cs_qC ({ p0 with Tables := s45, Grants := ([] : List qG) }) ({ w_p0 with Tables := ⟨a_s45, c_s45⟩, Grants := ⟨none, 0⟩ })) 33) :: (bT b_s81 j115 w_j115) :: (C_s45) :: Os) ∧ ok_qT I117 j115 w_j115)) ?_ ?_)))))
 refine yy R2 (fun G R2 => ?_) (fun G R2 => ?_)
 refine yag nL5 (yg 0 1 [0] z (yj (S114.rf m0) z (yg 2 2 [2] z (y7 S114.front6 2 (cs_qT ({ s81 with Version := (w64 (p0.Version + 1)) }) w_s81) fun w121 S120 => yp ?_))))
 have hk122 : ok_qT I63 ({ s81 with Version := (w64 (p0.Version + 1)) }) w_s81 := ⟨h_s81.Cols, h_s81.Cons, h_s81.Idx⟩
 exact sj R2 ▸ yt ⟨I63, w_s81, rfl, lr, S120.front7.front1.front7.front7.front7.front7.front7.front7, hk122⟩
 exact W.skip (sj R2 ▸ yt ⟨I63, w_s81, rfl, lr, S114, h_s81⟩)
 rintro _ w131 ⟨I117, w_j115, rfl, L118, S132, h_j115⟩
 refine ye (W.seq (have S133 := S132.drew; yba nL9 8 (yv (S133.rd m0) (yv (S133.rd m1) (yad S133.im))) ?_))
 generalize World.drew _ = w134 at *
 refine yg 0 1 [1] z (yj (rd_c m0 (S133.rd m0)) z (ya 2 1 z ?_))
 obtain ⟨x135, R1, Hx135, _, ⟨w_x135, rfl, h_x135⟩, Zx135⟩ := sx I117 h_p0.Tables R1
 refine yaa 104 6 Hx135 z (yg 4 1 [0] z (yao Zx135 (rd_i S133.im) z (yg 6 1 [0] z (yj (rd_c m1 (S133.rd m1)) z (WO.tail z (ya 8 1 z (yb (bsk R1 fun j136 R2 R1 => yav (J := (fun fr w => ∃ I138 a_j136 c_j136 C_j136, fr = [(2, .string p2), (3, Pt b1 0), (4, Pt b5 0), (6, Pt b9 0), (7, Pt b13 0), (8, Pt b24 0), (10, Pt b32 0), (11, Nv i46)] ∧ I117.Le I138 ∧ St E w I138 (bC b1 p0 w_p0 :: (bT b5 p1 w_p1) :: (bC b9 z_qC zw_qC) :: (bT b13 z_qT zw_qT) :: (Bx b24 (cs_qT ({ r22 with Name := p2 }) w_r22) 104) :: (Bx b32 (cs_qC ({ p0 with Tables := j136, Grants := ([] : List qG) }) ({ w_p0 with Tables := ⟨a_j136, c_j136⟩, Grants := ⟨none, 0⟩ })) 33) :: (C_j136) :: Os) ∧ OwnSl 104 6 R_qT I138 C_j136 a_j136 c_j136 j136)) ?_ ?_))))))))
 refine yy R2 (fun G R2 => ?_) (fun G R2 => ?_)
 refine yag nL7 (yg 0 1 [1] z (yj (S133.rf m5) z (yx ((cs_qT j115 w_j115)) (S133.rf m6) z (yab (rel := R_qT) (xs := ([j115] : List qT)) S133 z kr z 104 6 [(cs_qT j115 w_j115)] kr z ((Elr.cons ⟨w_j115, rfl, h_j115⟩ Elr.nil)) tv ?_))))
 intro a143 C141 w145 S144 ho142
 have S147 := S144.front8
 exact apk R2 fun x148 h0_x148 he_x148 R2 => yax 104 112 (cs_qT z_qT zw_qT) S147 (OwnSl.mono h_s45 le) ho142.sl (S147.rd m1) h0_x148 he_x148 z fun a149 c150 w151 C152 S153 ho154 => yg 5 1 [1] z (y7 S153.front1.drop.front6 1 (cs_qC ({ p0 with Tables := x148, Grants := ([] : List qG) }) ({ w_p0 with Tables := ⟨a149, c150⟩, Grants := ⟨none, 0⟩ })) fun w159 S158 => yp (sj R2 ▸ yt ⟨I117, a149, c150, C152, rfl, lr, S158.front7.drop.front1.front1.front6.front6.front6.front6.front6, ho154⟩))
 exact W.skip (sj R2 ▸ yt ⟨I117, a_s45, c_s45, C_s45, rfl, lr, S133.front6.drop, (OwnSl.mono h_s45 le)⟩)
 rintro _ w171 ⟨I138, a_j136, c_j136, C_j136, rfl, L139, S172, h_j136⟩
 exact yk (ye (yag nL3 (ya 0 1 z (yam i46 z (ya 2 1 z (yp (sj R1 ▸ yt ⟨I138, a_j136, c_j136, C_j136, rfl, le, S172, h_j136⟩)))))))
 rintro _ w173 ⟨I43, a_s45, c_s45, C_s45, rfl, L44, S174, h_s45⟩
 refine W.seq (yf nL5 (yg 0 2 [1] z (yj (S174.rf m0) z (ya 3 2 z (yb (yas fun _ => W.exit (yn (yo (yr (ye (W.seq (yf [0] (ya 0 1 z (yb (yl (bsk D fun s178 hloop180 D => have hlt193 := ((RSl.mono h_p0.Grants (L20.trans L44))).len_lt; W.wk (yat (m := p0.Grants.length) hloop180 (fun (i179 : Nat) (s178 : List qG) fr w => ∃ I176 a_s178 c_s178 C_s178, fr = [(2, .string p2), (3, Pt b1 0), (4, Pt b5 0), (6, Pt b9 0), (7, Pt b13 0), (8, Pt b24 0), (10, Pt b32 0), (14, Nv i179)] ∧ I43.Le I176 ∧ St E w I176 (bC b1 p0 w_p0 :: (bT b5 p1 w_p1) :: (bC b9 z_qC zw_qC) :: (bT b13 z_qT zw_qT) :: (Bx b24 (cs_qT ({ r22 with Name := p2 }) w_r22) 104) :: (Bx b32 (cs_qC ({ p0 with Tables := s45, Grants := s178 }) ({ w_p0 with Tables := ⟨a_s45, c_s45⟩, Grants := ⟨a_s178, c_s178⟩ })) 33) :: (C_s45) :: (C_s178) :: Os) ∧ OwnSl 50 5 R_qG I176 C_s178 a_s178 c_s178 s178) ⟨I43, none, 0, Mem.no, rfl, lr, S174.no.front7.front7.front7.front7.front7.front7.front7, OwnSl.nil⟩ ?_ ?_)))))))))))))))))
 rintro i179 s178 _ w190 hi194 ⟨I176, a_s178, c_s178, C_s178, rfl, L177, S191, h_s178⟩ x192 R1
 refine W.seq (yf nL5 (yg 0 2 [3] z (yj (S191.rf m0) z (ya 3 2 z (yb (yar fun _ => W.skip (ye (W.seq (yl (yf nL7 (yg 0 1 [3] z (yj (S191.rf m0) z (ya 2 1 z ?_)))))))))))))
 obtain ⟨x195, R1, Hx195, _, rfl, Zx195⟩ := sx I176 h_p0.Grants R1
 refine yaa 50 5 Hx195 z (yau ((cs_qG x195)) Zx195 0 S191.rm z (yz S191 (cs_qG z_qG) 50 z fun b196 w199 S198 => y7 S198 0 (cs_qG x195) fun w201 S200 => yb (W.seq (yf nL5 (yg 0 1 [2] z (yj (S200.rf m0) z (yg 2 1 [0] z (yj (S200.rf m2) z (ya 4 1 z (yb (bsk R1 fun j202 R2 R1 => yav (J := JI E I176 [(2, .string p2), (3, Pt b1 0), (4, Pt b5 0), (6, Pt b9 0), (7, Pt b13 0), (8, Pt b24 0), (10, Pt b32 0), (14, Nv i179), (15, Pt b196 0)] (bC b1 p0 w_p0 :: (bT b5 p1 w_p1) :: (bC b9 z_qC zw_qC) :: (bT b13 z_qT zw_qT) :: (Bx b24 (cs_qT ({ r22 with Name := p2 }) w_r22) 104) :: (Bx b32 (cs_qC ({ p0 with Tables := s45, Grants := s178 }) ({ w_p0 with Tables := ⟨a_s45, c_s45⟩, Grants := ⟨a_s178, c_s178⟩ })) 33) :: (bG b196 j202) :: (C_s45) :: (C_s178) :: Os)) ?_ ?_)))))))))))
 refine yy R2 (fun G R2 => ?_) (fun G R2 => ?_)
 exact yag nL3 (yg 0 2 [2] z (y7 S200 2 (cs_qG ({ x195 with Table := p2 })) fun w207 S206 => yp (sj R2 ▸ yt ⟨I176, rfl, lr, S206.front8.front8.front2.front8.front8.front8.front8.front8.front8⟩)))
 exact W.skip (sj R2 ▸ yt ⟨I176, rfl, lr, S200.front8.front8.front2.front8.front8.front8.front8.front8.front8⟩)
 rintro _ w226 ⟨I204, rfl, L205, S227⟩
 refine ye (yag nL7 (yg 0 1 [3] z (yj (S227.rf m5) z (yx ((cs_qG j202)) (S227.rf m6) z (yab (rel := R_qG) (xs := ([j202] : List qG)) S227 z kr z 50 5 [(cs_qG j202)] kr z ((Elr.cons z Elr.nil)) tv ?_)))))
 intro a231 C229 w233 S232 ho230
 have S235 := S232.front9
 exact apk R1 fun x236 h0_x236 he_x236 R1 => yax 50 64 (cs_qG z_qG) S235 (OwnSl.mono h_s178 L205) ho230.sl (S235.rd m1) h0_x236 he_x236 z fun a237 c238 w239 C240 S241 ho242 => yg 5 1 [3] z (y7 S241.front1.drop.front6 3 (cs_qC ({ p0 with Tables := s45, Grants := x236 }) ({ w_p0 with Tables := ⟨a_s45, c_s45⟩, Grants := ⟨a237, c238⟩ })) fun w247 S246 => yp (yk (ye (yag nL3 (ya 0 1 z (yam i179 z (ya 2 1 z (yp (sj R1 ▸ yt ⟨I204, a237, c238, C240, rfl, le, S246.front7.drop.front1.front7.front2.front7.front7.front7.front7.front7, ho242⟩)))))))))
 rintro _ w258 ⟨I176, a_s178, c_s178, C_s178, rfl, L177, S259, h_s178⟩
 refine W.seq (yf nL5 (yg 0 2 [3] z (yj (S259.rf m0) z (ya 3 2 z (yb (yas fun _ => W.exit (yn (yo (yr (ye (W.seq (have S260 := S259.drew; ybr (l := nL4) kr 3 (KR I176 [Bx b24 (cs_qT ({ r22 with Name := p2 }) w_r22) 104, Bx b32 (cs_qC ({ p0 with Tables := s45, Grants := s178 }) ({ w_p0 with Tables := ⟨a_s45, c_s45⟩, Grants := ⟨a_s178, c_s178⟩ })) 33]) qR (.ords nL4 [0, 2, 1, 3] kr kr kr kr kr) kr (yv (S260.rd m4) (yv (S260.rd m5) (yad S260.im))) ?_))))))))))))
 generalize World.drew _ = w261 at *
 refine yx ((cs_qC ({ p0 with Tables := s45, Grants := s178 }) ({ w_p0 with Tables := ⟨a_s45, c_s45⟩, Grants := ⟨a_s178, c_s178⟩ }))) (rd_c m1 (S260.rd m5)) z (yx ((cs_qT ({ r22 with Name := p2 }) w_r22)) (rd_c m0 (S260.rd m4)) z ?_)
 obtain ⟨I263, L264, S266, hp265⟩ := yac (h_s45.mono L177) S260.front6
 obtain ⟨I268, L269, S271, hp270⟩ := yac (h_s178.mono L264) S266.front6
 refine ybp S271.front2 z kr z 0 z z kr kr kr ((cs_qC ({ p0 with Tables := s45, Grants := s178 }) ({ w_p0 with Tables := ⟨a_s45, c_s45⟩, Grants := ⟨a_s178, c_s178⟩ })).toArray) kr (fun w274 S273 => (yv (S273.rd m4) (yv (S273.rd m5) (yad (S273.im.of_le le))))) ?_
 intro w274 S273
 refine WO.tail z (y7 S273.front3 0 (cs_qT ({ r22 with Name := p2 }) w_r22) fun w277 S276 => yb (yq ?_))
 have hk284 : ok_qC I268 ({ p0 with Tables := s45, Grants := s178 }) ({ w_p0 with Tables := ⟨a_s45, c_s45⟩, Grants := ⟨a_s178, c_s178⟩ }) := ⟨(RSl.mono hp265 L269), (RSl.mono h_p0.Roles ((((L20.trans L44).trans L177).trans L264).trans L269)), hp270⟩
 have hk285 : ok_qT I268 ({ r22 with Name := p2 }) w_r22 := ⟨(RSl.mono h_r22.Cols (((L44.trans L177).trans L264).trans L269)), (RSl.mono h_r22.Cons (((L44.trans L177).trans L264).trans L269)), (RSl.mono h_r22.Idx (((L44.trans L177).trans L264).trans L269))⟩
 exact sj D ▸ En.retc2 z (.agg (cs_qC ({ p0 with Tables := s45, Grants := s178 }) ({ w_p0 with Tables := ⟨a_s45, c_s45⟩, Grants := ⟨a_s178, c_s178⟩ })).toArray) (.agg (cs_qT ({ r22 with Name := p2 }) w_r22).toArray) ⟨_, _, rfl, run_loadVarN (cs := (cs_qC ({ p0 with Tables := s45, Grants := s178 }) ({ w_p0 with Tables := ⟨a_s45, c_s45⟩, Grants := ⟨a_s178, c_s178⟩ }))) kr kr (cells_one (S276.rd m1) kr)⟩ ⟨_, _, rfl, run_loadVarN (cs := (cs_qT ({ r22 with Name := p2 }) w_r22)) kr kr (cells_one (S276.rd m0) kr)⟩ ⟨I268, ({ w_p0 with Tables := ⟨a_s45, c_s45⟩, Grants := ⟨a_s178, c_s178⟩ }), w_r22, rfl, le, S276.d6, hk284, hk285⟩
def r14_Names (p0 : qT) : Option ((List By8) × (List By8)) := (forE (fun (i9 : Nat) (s8 : List By8) => (idx p0.Cols (i9 : Int)).bind (fun x19 => (app 16 s8 ([x19.Name] : List By8)).bind (fun x28 => some x28))) p0.Cols.length 0 ([] : List By8)).bind (fun s8 => (forE (fun (i44 : Nat) (s43 : List By8) => (idx p0.Cons (i44 : Int)).bind (fun x55 => (app 16 s43 ([x55.Name] : List By8)).bind (fun x64 => some x64))) p0.Cons.length 0 ([] : List By8)).bind (fun s43 => (forE (fun (i81 : Nat) (s80 : List By8) => (idx p0.Idx (i81 : Int)).bind (fun x88 => (app 16 s80 ([x88.Name] : List By8)).bind (fun x97 => some x97))) p0.Idx.length 0 s43).bind (fun s80 => some (s8, s80))))
theorem r14_Names_ok {p0 : qT} {w_p0 : W_qT} (h_p0 : ok_qT I p0 w_p0) (hS : St E w I Os) {r : (List By8) × (List By8)} (D : r14_Names p0 = some r) :
    Calls P 127 #[(vT p0 w_p0)] w (fun e w' => ∃ (I' : Mem) (ra0 : Option Addr) (rc0 : Nat) (ra1 : Option Addr) (rc1 : Nat), e = .returned (.tuple #[(Sl ra0 r.1 rc0), (Sl ra1 r.2 rc1)]) ∧ I.Le I' ∧ St E w' I' Os ∧ RSl 1 RStr I' ra0 rc0 r.1 ∧ RSl 1 RStr I' ra1 rc1 r.2) := by
 refine calls_W (fn := Tryz.f127) rfl rfl rfl ?_
 unfold r14_Names at D
 refine yf nL3 (yz hS (cs_qT p0 w_p0) 104 z fun b1 w4 S3 => WO.vs 1 [(2, .slice none 0 0), (3, .slice none 0 0)] (y0 nL2 (WO.vs 0 [(4, .slice none 0 0), (5, .slice none 0 0)] (yb (W.seq (yf [0] (ya 0 1 z (yb (yl (bsk D fun s8 hloop10 D => have hlt17 := (h_p0.Cols).len_lt; W.wk (yat (m := p0.Cols.length) hloop10 (fun (i9 : Nat) (s8 : List By8) fr w => ∃ I6 a_s8 c_s8 C_s8, fr = [(1, Pt b1 0), (4, Sl a_s8 s8 c_s8), (5, .slice none 0 0), (6, Nv i9)] ∧ I.Le I6 ∧ St E w I6 (bT b1 p0 w_p0 :: (C_s8) :: Os) ∧ OwnSl 9 1 RStr I6 C_s8 a_s8 c_s8 s8) ⟨I, none, 0, Mem.no, rfl, lr, S3.no.front1, OwnSl.nil⟩ ?_ ?_)))))))))))
 rintro i9 s8 _ w14 hi18 ⟨I6, a_s8, c_s8, C_s8, rfl, L7, S15, h_s8⟩ x16 R1
 refine W.seq (yf nL5 (yg 0 2 [3] z (yj (S15.rf m0) z (ya 3 2 z (yb (yar fun _ => W.skip (ye (W.seq (yl (yag nL10 (yg 0 2 [3] z (yj (S15.rf m0) z (ya 3 1 z ?_)))))))))))))
 obtain ⟨x19, R1, Hx19, _, rfl, Zx19⟩ := sx I6 h_p0.Cols R1
 refine yaa 114 3 Hx19 z (yg 5 1 [0] z (yao Zx19 S15.rm z (yab (rel := RStr) (xs := ([x19.Name] : List By8)) S15 z kr z 9 1 [[(.string x19.Name)]] kr z ((Elr.cons z Elr.nil)) tv ?_)))
 intro a23 C21 w25 S24 ho22
 have S27 := S24.front2
 exact apk R1 fun x28 h0_x28 he_x28 R1 => yax 9 16 [(.string eB)] S27 h_s8 ho22.sl (S27.rd m1) h0_x28 he_x28 z fun a29 c30 w31 C32 S33 ho34 => ya 9 1 z (yp (yk (ye (yag nL3 (ya 0 1 z (yam i9 z (ya 2 1 z (yp (sj R1 ▸ yt ⟨I6, a29, c30, C32, rfl, L7, S33.front1.drop.front1, ho34⟩)))))))))
 rintro _ w38 ⟨I6, a_s8, c_s8, C_s8, rfl, L7, S39, h_s8⟩
 refine W.seq (yf nL5 (yg 0 2 [3] z (yj (S39.rf m0) z (ya 3 2 z (yb (yas fun _ => W.exit (yn (yo (yr (ye (W.seq (yf [0] (ya 0 1 z (yb (yl (bsk D fun s43 hloop45 D => have hlt53 := ((RSl.mono h_p0.Cons L7)).len_lt; W.wk (yat (m := p0.Cons.length) hloop45 (fun (i44 : Nat) (s43 : List By8) fr w => ∃ I41 a_s43 c_s43 C_s43, fr = [(1, Pt b1 0), (4, Sl a_s8 s8 c_s8), (5, Sl a_s43 s43 c_s43), (7, Nv i44)] ∧ I6.Le I41 ∧ St E w I41 (bT b1 p0 w_p0 :: (C_s8) :: (C_s43) :: Os) ∧ OwnSl 9 1 RStr I41 C_s43 a_s43 c_s43 s43) ⟨I6, none, 0, Mem.no, rfl, lr, S39.no.front2.front2, OwnSl.nil⟩ ?_ ?_)))))))))))))))))
 rintro i44 s43 _ w50 hi54 ⟨I41, a_s43, c_s43, C_s43, rfl, L42, S51, h_s43⟩ x52 R1
 refine W.seq (yf nL5 (yg 0 2 [4] z (yj (S51.rf m0) z (ya 3 2 z (yb (yar fun _ => W.skip (ye (W.seq (yl (yag nL10 (yg 0 2 [4] z (yj (S51.rf m0) z (ya 3 1 z ?_)))))))))))))
 obtain ⟨x55, R1, Hx55, _, ⟨w_x55, rfl, h_x55⟩, Zx55⟩ := sx I41 h_p0.Cons R1
 refine yaa 116 12 Hx55 z (yg 5 1 [0] z (yao Zx55 S51.rm z (yab (rel := RStr) (xs := ([x55.Name] : List By8)) S51 z kr z 9 1 [[(.string x55.Name)]] kr z ((Elr.cons z Elr.nil)) tv ?_)))
 intro a59 C57 w61 S60 ho58
 have S63 := S60.front3
 exact apk R1 fun x64 h0_x64 he_x64 R1 => yax 9 16 [(.string eB)] S63 h_s43 ho58.sl (S63.rd m1) h0_x64 he_x64 z fun a65 c66 w67 C68 S69 ho70 => ya 9 1 z (yp (yk (ye (yag nL3 (ya 0 1 z (yam i44 z (ya 2 1 z (yp (sj R1 ▸ yt ⟨I41, a65, c66, C68, rfl, L42, S69.front1.drop.front2.front2, ho70⟩)))))))))
 rintro _ w75 ⟨I41, a_s43, c_s43, C_s43, rfl, L42, S76, h_s43⟩
 refine W.seq (yf nL5 (yg 0 2 [4] z (yj (S76.rf m0) z (ya 3 2 z (yb (yas fun _ => W.exit (yn (yo (yr (ye (W.seq (yf [0] (ya 0 1 z (yb (yl (bsk D fun s80 hloop82 D => have hlt86 := ((RSl.mono h_p0.Idx (L7.trans L42))).len_lt; W.wk (yat (m := p0.Idx.length) hloop82 (fun (i81 : Nat) (s80 : List By8) fr w => ∃ I78 a_s80 c_s80 C_s80, fr = [(1, Pt b1 0), (4, Sl a_s8 s8 c_s8), (5, Sl a_s80 s80 c_s80), (8, Nv i81)] ∧ I41.Le I78 ∧ St E w I78 (bT b1 p0 w_p0 :: (C_s8) :: (C_s80) :: Os) ∧ OwnSl 9 1 RStr I78 C_s80 a_s80 c_s80 s80) ⟨I41, a_s43, c_s43, C_s43, rfl, lr, S76, h_s43⟩ ?_ ?_)))))))))))))))))
 rintro i81 s80 _ w83 hi87 ⟨I78, a_s80, c_s80, C_s80, rfl, L79, S84, h_s80⟩ x85 R1
 refine W.seq (yf nL5 (yg 0 2 [5] z (yj (S84.rf m0) z (ya 3 2 z (yb (yar fun _ => W.skip (ye (W.seq (yl (yag nL10 (yg 0 2 [5] z (yj (S84.rf m0) z (ya 3 1 z ?_)))))))))))))
 obtain ⟨x88, R1, Hx88, _, ⟨w_x88, rfl, h_x88⟩, Zx88⟩ := sx I78 h_p0.Idx R1
 refine yaa 163 2 Hx88 z (yg 5 1 [0] z (yao Zx88 S84.rm z (yab (rel := RStr) (xs := ([x88.Name] : List By8)) S84 z kr z 9 1 [[(.string x88.Name)]] kr z ((Elr.cons z Elr.nil)) tv ?_)))
 intro a92 C90 w94 S93 ho91
 have S96 := S93.front3
 exact apk R1 fun x97 h0_x97 he_x97 R1 => yax 9 16 [(.string eB)] S96 h_s80 ho91.sl (S96.rd m1) h0_x97 he_x97 z fun a98 c99 w100 C101 S102 ho103 => ya 9 1 z (yp (yk (ye (yag nL3 (ya 0 1 z (yam i81 z (ya 2 1 z (yp (sj R1 ▸ yt ⟨I78, a98, c99, C101, rfl, L79, S102.front1.drop.front2.front2, ho103⟩)))))))))
 rintro _ w108 ⟨I78, a_s80, c_s80, C_s80, rfl, L79, S109, h_s80⟩
 refine W.seq (yf nL5 (yg 0 2 [5] z (yj (S109.rf m0) z (ya 3 2 z (yb (yas fun _ => W.exit (yn (yo (yr (ye (yf nL4 (ya 0 2 z ?_))))))))))))
 obtain ⟨I111, L112, S114, hp113⟩ := yac (h_s8.mono (L42.trans L79)) S109.front1
 refine ya 2 1 z ?_
 obtain ⟨I116, L117, S119, hp118⟩ := yac (h_s80.mono L112) S114.front1
 exact ya 3 1 z (yb (yq (sj D ▸ yay ⟨I116, a_s8, c_s8, a_s80, c_s80, rfl, le, S119.drop, (RSl.mono hp113 L117), hp118⟩)))
def r14_Col (p0 : qT) (p1 : By8) : Option Int := (forN (fun (i8 : Nat) (_s : Unit) => (idx p0.Cols (i8 : Int)).bind (fun x15 => (bif (sEq x15.Name p1) then some (.inr (i8 : Int)) else some (.inl ())))) p0.Cols.length 0 ()).bind (fun (t : Unit ⊕ (Int)) => match t with | .inl _ => some (-1) | .inr s17 => some s17)
theorem r14_Col_ok {p0 : qT} {p1 : By8} {w_p0 : W_qT} (h_p0 : ok_qT I p0 w_p0) (hS : St E w I Os) {r : Int} (D : r14_Col p0 p1 = some r) :
    Calls P 128 #[(vT p0 w_p0), (.string p1)] w (RT E I Os (Iv r)) := by
 refine calls_W (fn := Tryz.f128) rfl rfl rfl ?_
 unfold r14_Col at D
 refine yf nL2 (yz hS (cs_qT p0 w_p0) 104 z fun b1 w4 S3 => ya 1 1 z (yb (W.seq (yf [0] (ya 0 1 z (yb (yl (bsk D fun t5 hloop9 D => have hlt13 := (h_p0.Cols).len_lt; W.wk (yap (m := p0.Cols.length) hloop9 (fun (i8 : Nat) (_s : Unit) => JI E I [(1, .string p1), (2, Pt b1 0), (5, Nv i8)] (bT b1 p0 w_p0 :: Os)) ⟨I, rfl, lr, S3⟩ ?_ ?_)))))))))
 rintro i8 _ _ w10 hi14 ⟨I6, rfl, L7, S11⟩ x12 R1 hext5
 refine W.seq (yf nL5 (yg 0 2 [3] z (yj (S11.rf m0) z (ya 3 2 z (yb (yar fun _ => W.skip (ye (W.seq (yl (yf nL8 (yg 0 1 [3] z (yj (S11.rf m0) z (ya 2 1 z ?_)))))))))))))
 obtain ⟨x15, R1, Hx15, _, rfl, Zx15⟩ := sx I6 h_p0.Cols R1
 refine yaa 114 3 Hx15 z (yg 4 1 [0] z (yao Zx15 S11.rm z (ya 6 2 z (yb (yy R1 (fun G R1 => ?_) (fun G R1 => ?_))))))
 refine yf nL2 (ya 0 2 z (yb (yq (ym (yh (yu ?_))))))
 obtain rfl := hext5 _ (sj R1).symm
 exact ym (yh (sj D ▸ yw ⟨I6, rfl, L7, S11.drop⟩))
 exact W.skip (yk (ye (yag nL3 (ya 0 1 z (yam i8 z (ya 2 1 z (yp (yt ⟨(), (sj R1).symm, I6, rfl, L7, S11⟩))))))))
 rintro _ _ w20 ⟨I6, rfl, L7, S21⟩ he
 cases he
 exact W.seq (yf nL5 (yg 0 2 [3] z (yj (S21.rf m0) z (ya 3 2 z (yb (yas fun _ => W.exit (yn (yo (yr (ye (yf [0] (ya 0 1 z (yb (yq (sj D ▸ yw ⟨I6, rfl, L7, S21.drop⟩)))))))))))))))
def r14_lists (p0 : qT) : Option (List (List By8)) := (forE (fun (i9 : Nat) (s8 : List (List By8)) => (idx p0.Cons (i9 : Int)).bind (fun x19 => (app 24 s8 ([x19.Cols] : List (List By8))).bind (fun x28 => some x28))) p0.Cons.length 0 ([] : List (List By8))).bind (fun s8 => (forE (fun (i44 : Nat) (s43 : List (List By8)) => (idx p0.Idx (i44 : Int)).bind (fun x51 => (app 24 s43 ([x51.Cols] : List (List By8))).bind (fun x60 => some x60))) p0.Idx.length 0 s8).bind (fun s43 => some s43))
theorem r14_lists_ok {p0 : qT} {w_p0 : W_qT} (h_p0 : ok_qT I p0 w_p0) (hS : St E w I Os) {r : (List (List By8))} (D : r14_lists p0 = some r) :
    Calls P 158 #[(vT p0 w_p0)] w (fun e w' => ∃ (I' : Mem) (ra0 : Option Addr) (rc0 : Nat), e = .returned (Sl ra0 r rc0) ∧ I.Le I' ∧ St E w' I' Os ∧ RSl 1 (RSlC 1 RStr) I' ra0 rc0 r) := by
 refine calls_W (fn := Tryz.f158) rfl rfl rfl ?_
 unfold r14_lists at D
 refine yf nL2 (yz hS (cs_qT p0 w_p0) 104 z fun b1 w4 S3 => y8 1 2 (.slice none 0 0) (y0 [0] (y8 0 3 (.slice none 0 0) (yb (W.seq (yf [0] (ya 0 1 z (yb (yl (bsk D fun s8 hloop10 D => have hlt17 := (h_p0.Cons).len_lt; W.wk (yat (m := p0.Cons.length) hloop10 (fun (i9 : Nat) (s8 : List (List By8)) fr w => ∃ I6 a_s8 c_s8 C_s8, fr = [(1, Pt b1 0), (3, Sl a_s8 s8 c_s8), (4, Nv i9)] ∧ I.Le I6 ∧ St E w I6 (bT b1 p0 w_p0 :: (C_s8) :: Os) ∧ OwnSl 41 1 (RSlC 1 RStr) I6 C_s8 a_s8 c_s8 s8) ⟨I, none, 0, Mem.no, rfl, lr, S3.no.front1, OwnSl.nil⟩ ?_ ?_)))))))))))
 rintro i9 s8 _ w14 hi18 ⟨I6, a_s8, c_s8, C_s8, rfl, L7, S15, h_s8⟩ x16 R1
 refine W.seq (yf nL5 (yg 0 2 [4] z (yj (S15.rf m0) z (ya 3 2 z (yb (yar fun _ => W.skip (ye (W.seq (yl (yag nL10 (yg 0 2 [4] z (yj (S15.rf m0) z (ya 3 1 z ?_)))))))))))))
 obtain ⟨x19, R1, Hx19, _, ⟨w_x19, rfl, h_x19⟩, Zx19⟩ := sx I6 h_p0.Cons R1
 refine yaa 116 12 Hx19 z (yg 5 1 [2] z (yaz Zx19 2 S15.rm z (yab (rel := (RSlC 1 RStr)) (xs := ([x19.Cols] : List (List By8))) S15 z kr z 41 1 [[(Sl w_x19.Cols.a x19.Cols w_x19.Cols.c)]] kr z ((Elr.cons ⟨w_x19.Cols.a, w_x19.Cols.c, rfl, h_x19.Cols⟩ Elr.nil)) tv ?_)))
 intro a23 C21 w25 S24 ho22
 have S27 := S24.front2
 exact apk R1 fun x28 h0_x28 he_x28 R1 => yax 41 24 [(.slice none 0 0)] S27 h_s8 ho22.sl (S27.rd m1) h0_x28 he_x28 z fun a29 c30 w31 C32 S33 ho34 => ya 9 1 z (yp (yk (ye (yag nL3 (ya 0 1 z (yam i9 z (ya 2 1 z (yp (sj R1 ▸ yt ⟨I6, a29, c30, C32, rfl, L7, S33.front1.drop.front1, ho34⟩)))))))))
 rintro _ w38 ⟨I6, a_s8, c_s8, C_s8, rfl, L7, S39, h_s8⟩
 refine W.seq (yf nL5 (yg 0 2 [4] z (yj (S39.rf m0) z (ya 3 2 z (yb (yas fun _ => W.exit (yn (yo (yr (ye (W.seq (yf [0] (ya 0 1 z (yb (yl (bsk D fun s43 hloop45 D => have hlt49 := ((RSl.mono h_p0.Idx L7)).len_lt; W.wk (yat (m := p0.Idx.length) hloop45 (fun (i44 : Nat) (s43 : List (List By8)) fr w => ∃ I41 a_s43 c_s43 C_s43, fr = [(1, Pt b1 0), (3, Sl a_s43 s43 c_s43), (5, Nv i44)] ∧ I6.Le I41 ∧ St E w I41 (bT b1 p0 w_p0 :: (C_s43) :: Os) ∧ OwnSl 41 1 (RSlC 1 RStr) I41 C_s43 a_s43 c_s43 s43) ⟨I6, a_s8, c_s8, C_s8, rfl, lr, S39, h_s8⟩ ?_ ?_)))))))))))))))))
 rintro i44 s43 _ w46 hi50 ⟨I41, a_s43, c_s43, C_s43, rfl, L42, S47, h_s43⟩ x48 R1
 refine W.seq (yf nL5 (yg 0 2 [5] z (yj (S47.rf m0) z (ya 3 2 z (yb (yar fun _ => W.skip (ye (W.seq (yl (yag nL10 (yg 0 2 [5] z (yj (S47.rf m0) z (ya 3 1 z ?_)))))))))))))
 obtain ⟨x51, R1, Hx51, _, ⟨w_x51, rfl, h_x51⟩, Zx51⟩ := sx I41 h_p0.Idx R1
 refine yaa 163 2 Hx51 z (yg 5 1 [1] z (yaz Zx51 1 S47.rm z (yab (rel := (RSlC 1 RStr)) (xs := ([x51.Cols] : List (List By8))) S47 z kr z 41 1 [[(Sl w_x51.Cols.a x51.Cols w_x51.Cols.c)]] kr z ((Elr.cons ⟨w_x51.Cols.a, w_x51.Cols.c, rfl, h_x51.Cols⟩ Elr.nil)) tv ?_)))
 intro a55 C53 w57 S56 ho54
 have S59 := S56.front2
 exact apk R1 fun x60 h0_x60 he_x60 R1 => yax 41 24 [(.slice none 0 0)] S59 h_s43 ho54.sl (S59.rd m1) h0_x60 he_x60 z fun a61 c62 w63 C64 S65 ho66 => ya 9 1 z (yp (yk (ye (yag nL3 (ya 0 1 z (yam i44 z (ya 2 1 z (yp (sj R1 ▸ yt ⟨I41, a61, c62, C64, rfl, L42, S65.front1.drop.front1, ho66⟩)))))))))
 rintro _ w70 ⟨I41, a_s43, c_s43, C_s43, rfl, L42, S71, h_s43⟩
 refine W.seq (yf nL5 (yg 0 2 [5] z (yj (S71.rf m0) z (ya 3 2 z (yb (yas fun _ => W.exit (yn (yo (yr (ye (yf nL2 (ya 0 1 z ?_))))))))))))
 obtain ⟨I73, L74, S76, hp75⟩ := yac h_s43 S71.front1
 exact ya 1 1 z (yb (yq (sj D ▸ yw ⟨I73, a_s43, c_s43, rfl, le, S76.drop, hp75⟩)))
def r10_Parts_fu : Nat → qE → Option (List qE)
  | 0, _ => none
  | fu + 1, p0 => (forE (fun (i16 : Nat) (s15 : List qE) => (idx p0.Kids (i16 : Int)).bind (fun x24 => (r10_Parts_fu fu x24).bind (fun r30 => (app 88 s15 r30).bind (fun x32 => some x32)))) p0.Kids.length 0 ([p0] : List qE)).bind (fun s15 => some s15)
noncomputable def r10_Parts (p0 : qE) : Option (List qE) := anyFuel (fun fu => r10_Parts_fu fu p0)
theorem r10_Parts_fu_ok : ∀ (fu : Nat) {E w : World} {I : Mem} {Os : List Mem} {p0 : qE} {w_p0 : W_qE} (h_p0 : ok_qE I p0 w_p0) (hS : St E w I Os) {r : (List qE)} (D : r10_Parts_fu fu p0 = some r),
    Calls P 184 #[(vE p0 w_p0)] w (fun e w' => ∃ (I' : Mem) (ra0 : Option Addr) (rc0 : Nat), e = .returned (Sl ra0 r rc0) ∧ I.Le I' ∧ St E w' I' Os ∧ RSl 7 Q_qE I' ra0 rc0 r) := by
 intro fu
 induction fu with
 | zero => intro E w I Os p0 w_p0 h_p0 hS r D; cases D
 | succ fu ih =>
 intro E w I Os p0 w_p0 h_p0 hS r D
 refine calls_W (fn := Tryz.f184) rfl rfl rfl ?_
 unfold r10_Parts_fu at D
 refine yf nL2 (yz hS (cs_qE p0 w_p0) 61 z fun b1 w4 S3 => y8 1 2 (.slice none 0 0) (y0 nL3 (yx ((cs_qE p0 w_p0)) (S3.rf m0) z (yab (rel := Q_qE) (xs := ([p0] : List qE)) S3 z kr z 61 7 [(cs_qE p0 w_p0)] kr z ((Elr.cons (Q_qE_iff.2 ⟨w_p0, rfl, h_p0⟩) Elr.nil)) tv ?_))))
 intro a8 C6 w10 S9 ho7
 refine ya 2 1 z (yb (W.seq (yf [0] (ya 0 1 z (yb (yl (bsk D fun s15 hloop17 D => have hlt22 := (h_p0.Kids).len_lt; W.wk (yat (m := p0.Kids.length) hloop17 (fun (i16 : Nat) (s15 : List qE) fr w => ∃ I13 a_s15 c_s15 C_s15, fr = [(1, Pt b1 0), (3, Sl a_s15 s15 c_s15), (4, Nv i16)] ∧ I.Le I13 ∧ St E w I13 (bE b1 p0 w_p0 :: (C_s15) :: Os) ∧ OwnSl 61 7 Q_qE I13 C_s15 a_s15 c_s15 s15) ⟨I, a8, 1, C6, rfl, lr, S9.front1, ho7⟩ ?_ ?_))))))))
 rintro i16 s15 _ w19 hi23 ⟨I13, a_s15, c_s15, C_s15, rfl, L14, S20, h_s15⟩ x21 R1
 refine W.seq (yf nL5 (yg 0 2 [6] z (yj (S20.rf m0) z (ya 3 2 z (yb (yar fun _ => W.skip (ye (W.seq (yl (yag nL9 (yg 0 2 [6] z (yj (S20.rf m0) z (ya 3 1 z ?_)))))))))))))
 obtain ⟨x24, Xx24, R1⟩ := bsm R1
 obtain ⟨h0_x24, h1_x24, Xx24⟩ := idx_some Xx24
 obtain ⟨ha_x24, cs_x24, hn_x24, hr_x24, Zx24⟩ := ((RSl.mono h_p0.Kids L14)).el _ _ Xx24
 obtain ⟨w_x24, rfl, h_x24⟩ := Q_qE_iff.1 hr_x24
 refine ya5 61 7 ha_x24 h0_x24 h1_x24 ?_
 refine yau ((cs_qE x24 w_x24)) Zx24 0 S20.rm z (bsk R1 fun r30 Xr25 R1 => yai (ih h_x24 S20 Xr25) ?_)
 rintro _ w26 ⟨I27, a_r30, c_r30, rfl, L28, S29, h_r30⟩
 exact cv (have S31 := S29.front1; apk R1 fun x32 h0_x32 he_x32 R1 => yax 61 88 (cs_qE z_qE zw_qE) S31 (OwnSl.mono h_s15 L28) h_r30 S31.im h0_x32 he_x32 z fun a33 c34 w35 C36 S37 ho38 => ya 8 1 z (yp (yk (ye (yag nL3 (ya 0 1 z (yam i16 z (ya 2 1 z (yp (sj R1 ▸ yt ⟨I27, a33, c34, C36, rfl, le, S37.front1, ho38⟩))))))))))
 rintro _ w40 ⟨I13, a_s15, c_s15, C_s15, rfl, L14, S41, h_s15⟩
 refine W.seq (yf nL5 (yg 0 2 [6] z (yj (S41.rf m0) z (ya 3 2 z (yb (yas fun _ => W.exit (yn (yo (yr (ye (yf nL2 (ya 0 1 z ?_))))))))))))
 obtain ⟨I43, L44, S46, hp45⟩ := yac h_s15 S41.front1
 exact ya 1 1 z (yb (yq (sj D ▸ yw ⟨I43, a_s15, c_s15, rfl, le, S46.drop, hp45⟩)))
theorem r10_Parts_ok {p0 : qE} {w_p0 : W_qE} (h_p0 : ok_qE I p0 w_p0) (hS : St E w I Os) {r : (List qE)} (D : r10_Parts p0 = some r) :
    Calls P 184 #[(vE p0 w_p0)] w (fun e w' => ∃ (I' : Mem) (ra0 : Option Addr) (rc0 : Nat), e = .returned (Sl ra0 r rc0) ∧ I.Le I' ∧ St E w' I' Os ∧ RSl 7 Q_qE I' ra0 rc0 r) := by
 obtain ⟨fu, hf⟩ := anyFuel_some D
 exact r10_Parts_fu_ok fu h_p0 hS hf
noncomputable def r10_Names (p0 : qE) : Option (List By8) := (r10_Parts p0).bind (fun r10 => (forE (fun (i15 : Nat) (s14 : List By8) => (idx r10 (i15 : Int)).bind (fun x26 => (forE (fun (i31 : Nat) (s30 : Bool) => ((bif s30 then some true else (idx s14 (i31 : Int)).bind (fun x44 => (idx r10 (i15 : Int)).bind (fun x45 => some (sEq x44 x45.Name))))).bind (fun (j40 : Bool) => some j40)) s14.length 0 (x26.Kind != 2)).bind (fun s30 => ((bif (!s30) then (idx r10 (i15 : Int)).bind (fun x54 => (app 16 s14 ([x54.Name] : List By8)).bind (fun x63 => some x63)) else some s14)).bind (fun (j50 : List By8) => some j50)))) r10.length 0 ([] : List By8)).bind (fun s14 => some s14))
theorem r10_Names_ok {p0 : qE} {w_p0 : W_qE} (h_p0 : ok_qE I p0 w_p0) (hS : St E w I Os) {r : (List By8)} (D : r10_Names p0 = some r) :
    Calls P 159 #[(vE p0 w_p0)] w (fun e w' => ∃ (I' : Mem) (ra0 : Option Addr) (rc0 : Nat), e = .returned (Sl ra0 r rc0) ∧ I.Le I' ∧ St E w' I' Os ∧ RSl 1 RStr I' ra0 rc0 r) := by
 refine calls_W (fn := Tryz.f159) rfl rfl rfl ?_
 unfold r10_Names at D
 refine yf nL2 (yz hS (cs_qE p0 w_p0) 61 z fun b1 w4 S3 => y8 1 2 (.slice none 0 0) (y0 nL3 (yx ((cs_qE p0 w_p0)) (S3.rf m0) z (bsk D fun r10 Xr5 D => yai (r10_Parts_ok h_p0 S3 Xr5) ?_))))
 rintro _ w6 ⟨I7, a_r10, c_r10, rfl, L8, S9, h_r10⟩
 refine cv (ya 2 1 z (y0 [0] (y8 0 4 (.slice none 0 0) (yb (W.seq (yf [0] (ya 0 1 z (yb (yl (bsk D fun s14 hloop16 D => have hlt24 := (h_r10).len_lt; W.wk (yat (m := r10.length) hloop16 (fun (i15 : Nat) (s14 : List By8) fr w => ∃ I12 a_s14 c_s14 C_s14, fr = [(3, Sl a_r10 r10 c_r10), (4, Sl a_s14 s14 c_s14), (5, Nv i15)] ∧ I7.Le I12 ∧ St E w I12 ((C_s14) :: Os) ∧ OwnSl 9 1 RStr I12 C_s14 a_s14 c_s14 s14) ⟨I7, none, 0, Mem.no, rfl, lr, S9.no.front1.drop, OwnSl.nil⟩ ?_ ?_)))))))))))
 rintro i15 s14 _ w21 hi25 ⟨I12, a_s14, c_s14, C_s14, rfl, L13, S22, h_s14⟩ x23 R1
 refine W.seq (yf nL4 (ya 0 4 z (yb (yar fun _ => W.skip (ye (W.seq (yl (yf nL7 (ya 0 2 z ?_)))))))))
 obtain ⟨x26, Xx26, R1⟩ := bsm R1
 obtain ⟨h0_x26, h1_x26, Xx26⟩ := idx_some Xx26
 obtain ⟨ha_x26, cs_x26, hn_x26, hr_x26, Zx26⟩ := ((RSl.mono h_r10 L13)).el _ _ Xx26
 obtain ⟨w_x26, rfl, h_x26⟩ := Q_qE_iff.1 hr_x26
 refine ya5 61 7 ha_x26 h0_x26 h1_x26 ?_
 refine yg 3 1 [0] z (yao Zx26 S22.rm z (ya 5 2 z (yb (W.seq (yf [0] (ya 0 1 z (yb (yl (bsk R1 fun s30 hloop32 R1 => have hlt36 := (h_s14.sl).len_lt; W.wk (yat (m := s14.length) hloop32 (fun (i31 : Nat) (s30 : Bool) => JI E I12 [(3, Sl a_r10 r10 c_r10), (4, Sl a_s14 s14 c_s14), (5, Nv i15), (6, .bool s30), (7, Nv i31)] ((C_s14) :: Os)) ⟨I12, rfl, lr, S22⟩ ?_ ?_))))))))))
 rintro i31 s30 _ w33 hi37 ⟨I28, rfl, L29, S34⟩ x35 R2
 refine W.seq (yf nL4 (ya 0 4 z (yb (yar fun _ => W.skip (ye (W.seq (yl (have S38 := S34.drew; yba nL14 13 (yv (S38.rd m0) (yad S38.im)) ?_))))))))
 generalize World.drew _ = w39 at *
 refine ya 0 2 z (bsk R2 fun j40 R3 R2 => yal (l1 := [2, 3, 4, 5, 6, 7, 8, 9, 10, 11, 12]) (J := JI E I28 [(3, Sl a_r10 r10 c_r10), (4, Sl a_s14 s14 c_s14), (5, Nv i15), (7, Nv i31), (40, .bool j40)] ((C_s14) :: Os)) ?_ ?_)
 refine yak R3 (fun G R3 => ?_) (fun G R3 => ?_)
 refine y6 29 G ?_
 iterate 10 refine yaj ?_
 exact ya 12 1 z (sj R3 ▸ y4 ⟨I28, rfl, lr, S38⟩)
 refine y6 29 G (ya 2 2 z ?_)
 obtain ⟨x44, R3, Hx44, _, rfl, Zx44⟩ := sl_ix ((h_s14.mono L29).sl) R3
 refine yaa 9 1 Hx44 z (yao Zx44 (rd_c m0 (S38.rd m0)) z (ya 6 2 z ?_))
 obtain ⟨x45, Xx45, R3⟩ := bsm R3
 obtain ⟨h0_x45, h1_x45, Xx45⟩ := idx_some Xx45
 obtain ⟨ha_x45, cs_x45, hn_x45, hr_x45, Zx45⟩ := ((RSl.mono h_r10 (L13.trans L29))).el _ _ Xx45
 obtain ⟨w_x45, rfl, h_x45⟩ := Q_qE_iff.1 hr_x45
 refine ya5 61 7 ha_x45 h0_x45 h1_x45 ?_
 exact yg 9 1 [5] z (yaz Zx45 5 (rd_i S38.im) z (ya 11 2 z (sj R3 ▸ y4 ⟨I28, rfl, lr, S38⟩)))
 rintro _ w46 ⟨I42, rfl, L43, S47⟩
 exact WO.tail z (ya 13 1 z (yp (yk (ye (yag nL3 (ya 0 1 z (yam i31 z (ya 2 1 z (yp (sj R2 ▸ yt ⟨I42, rfl, le, S47⟩))))))))))
 rintro _ w48 ⟨I28, rfl, L29, S49⟩
 refine W.seq (yf nL4 (ya 0 4 z (yb (yas fun _ => W.exit (yn (yo (yr (ye (yf nL2 (ya 0 2 z (yb (bsk R1 fun j50 R2 R1 => yav (J := (fun fr w => ∃ I52 a_j50 c_j50 C_j50, fr = [(3, Sl a_r10 r10 c_r10), (4, Sl a_j50 j50 c_j50), (5, Nv i15)] ∧ I28.Le I52 ∧ St E w I52 ((C_j50) :: Os) ∧ OwnSl 9 1 RStr I52 C_j50 a_j50 c_j50 j50)) ?_ ?_))))))))))))
 refine yy R2 (fun G R2 => ?_) (fun G R2 => ?_)
 refine yag nL9 (ya 0 3 z ?_)
 obtain ⟨x54, Xx54, R2⟩ := bsm R2
 obtain ⟨h0_x54, h1_x54, Xx54⟩ := idx_some Xx54
 obtain ⟨ha_x54, cs_x54, hn_x54, hr_x54, Zx54⟩ := ((RSl.mono h_r10 (L13.trans L29))).el _ _ Xx54
 obtain ⟨w_x54, rfl, h_x54⟩ := Q_qE_iff.1 hr_x54
 refine ya5 61 7 ha_x54 h0_x54 h1_x54 ?_
 refine yg 4 1 [5] z (yaz Zx54 5 S49.rm z (yab (rel := RStr) (xs := ([x54.Name] : List By8)) S49 z kr z 9 1 [[(.string x54.Name)]] kr z ((Elr.cons z Elr.nil)) tv ?_))
 intro a58 C56 w60 S59 ho57
 have S62 := S59.front1
 exact apk R2 fun x63 h0_x63 he_x63 R2 => yax 9 16 [(.string eB)] S62 (OwnSl.mono h_s14 L29) ho57.sl (S62.rd m1) h0_x63 he_x63 z fun a64 c65 w66 C67 S68 ho69 => ya 8 1 z (yp (sj R2 ▸ yt ⟨I28, a64, c65, C67, rfl, lr, S68.front1.drop, ho69⟩))
 exact W.skip (sj R2 ▸ yt ⟨I28, a_s14, c_s14, C_s14, rfl, lr, S49, (OwnSl.mono h_s14 L29)⟩)
 rintro _ w72 ⟨I52, a_j50, c_j50, C_j50, rfl, L53, S73, h_j50⟩
 exact yk (ye (yag nL3 (ya 0 1 z (yam i15 z (ya 2 1 z (yp (sj R1 ▸ yt ⟨I52, a_j50, c_j50, C_j50, rfl, le, S73, h_j50⟩)))))))
 rintro _ w74 ⟨I12, a_s14, c_s14, C_s14, rfl, L13, S75, h_s14⟩
 refine W.seq (yf nL4 (ya 0 4 z (yb (yas fun _ => W.exit (yn (yo (yr (ye (yf nL2 (ya 0 1 z ?_))))))))))
 obtain ⟨I76, L77, S79, hp78⟩ := yac h_s14 S75
 exact ya 1 1 z (yb (yq (sj D ▸ yw ⟨I76, a_s14, c_s14, rfl, le, S79, hp78⟩)))
noncomputable def r14_Used (p0 : qT) : Option (List By8) := (r14_lists p0).bind (fun r10 => (forE (fun (i15 : Nat) (s14 : List By8) => (idx r10 (i15 : Int)).bind (fun x25 => (app 16 s14 x25).bind (fun x27 => some x27))) r10.length 0 ([] : List By8)).bind (fun s14 => (forE (fun (i41 : Nat) (s40 : List By8) => (idx p0.Cons (i41 : Int)).bind (fun x48 => ((bif (x48.Kind == 2) then (idx p0.Cons (i41 : Int)).bind (fun x53 => (r10_Names x53.Check).bind (fun r59 => (app 16 s40 r59).bind (fun x61 => some x61))) else some s40)).bind (fun (j49 : List By8) => some j49))) p0.Cons.length 0 s14).bind (fun s40 => some s40)))
theorem r14_Used_ok {p0 : qT} {w_p0 : W_qT} (h_p0 : ok_qT I p0 w_p0) (hS : St E w I Os) {r : (List By8)} (D : r14_Used p0 = some r) :
    Calls P 129 #[(vT p0 w_p0)] w (fun e w' => ∃ (I' : Mem) (ra0 : Option Addr) (rc0 : Nat), e = .returned (Sl ra0 r rc0) ∧ I.Le I' ∧ St E w' I' Os ∧ RSl 1 RStr I' ra0 rc0 r) := by
 refine calls_W (fn := Tryz.f129) rfl rfl rfl ?_
 unfold r14_Used at D
 refine yf nL2 (yz hS (cs_qT p0 w_p0) 104 z fun b1 w4 S3 => y8 1 2 (.slice none 0 0) (y0 nL3 (yx ((cs_qT p0 w_p0)) (S3.rf m0) z (bsk D fun r10 Xr5 D => yai (r14_lists_ok h_p0 S3 Xr5) ?_))))
 rintro _ w6 ⟨I7, a_r10, c_r10, rfl, L8, S9, h_r10⟩
 refine cv (ya 2 1 z (y0 [0] (y8 0 4 (.slice none 0 0) (yb (W.seq (yf [0] (ya 0 1 z (yb (yl (bsk D fun s14 hloop16 D => have hlt23 := (h_r10).len_lt; W.wk (yat (m := r10.length) hloop16 (fun (i15 : Nat) (s14 : List By8) fr w => ∃ I12 a_s14 c_s14 C_s14, fr = [(1, Pt b1 0), (3, Sl a_r10 r10 c_r10), (4, Sl a_s14 s14 c_s14), (5, Nv i15)] ∧ I7.Le I12 ∧ St E w I12 (bT b1 p0 w_p0 :: (C_s14) :: Os) ∧ OwnSl 9 1 RStr I12 C_s14 a_s14 c_s14 s14) ⟨I7, none, 0, Mem.no, rfl, lr, S9.no.front1, OwnSl.nil⟩ ?_ ?_)))))))))))
 rintro i15 s14 _ w20 hi24 ⟨I12, a_s14, c_s14, C_s14, rfl, L13, S21, h_s14⟩ x22 R1
 refine W.seq (yf nL4 (ya 0 4 z (yb (yar fun _ => W.skip (ye (W.seq (yl (yag nL7 (ya 0 3 z ?_)))))))))
 obtain ⟨x25, Xx25, R1⟩ := bsm R1
 obtain ⟨h0_x25, h1_x25, Xx25⟩ := idx_some Xx25
 obtain ⟨ha_x25, cs_x25, hn_x25, hr_x25, Zx25⟩ := ((RSl.mono h_r10 L13)).el _ _ Xx25
 obtain ⟨a_x25, c_x25, rfl, h_x25⟩ := hr_x25
 refine ya5 41 1 ha_x25 h0_x25 h1_x25 ?_
 exact yao Zx25 S21.rm z (have S26 := S21.front1; apk R1 fun x27 h0_x27 he_x27 R1 => yax 9 16 [(.string eB)] S26 h_s14 h_x25 S26.im h0_x27 he_x27 z fun a28 c29 w30 C31 S32 ho33 => ya 6 1 z (yp (yk (ye (yag nL3 (ya 0 1 z (yam i15 z (ya 2 1 z (yp (sj R1 ▸ yt ⟨I12, a28, c29, C31, rfl, L13, S32.front1, ho33⟩))))))))))
 rintro _ w35 ⟨I12, a_s14, c_s14, C_s14, rfl, L13, S36, h_s14⟩
 refine W.seq (yf nL4 (ya 0 4 z (yb (yas fun _ => W.exit (yn (yo (yr (ye (W.seq (yf [0] (ya 0 1 z (yb (yl (bsk D fun s40 hloop42 D => have hlt46 := ((RSl.mono h_p0.Cons (L8.trans L13))).len_lt; W.wk (yat (m := p0.Cons.length) hloop42 (fun (i41 : Nat) (s40 : List By8) fr w => ∃ I38 a_s40 c_s40 C_s40, fr = [(1, Pt b1 0), (4, Sl a_s40 s40 c_s40), (6, Nv i41)] ∧ I12.Le I38 ∧ St E w I38 (bT b1 p0 w_p0 :: (C_s40) :: Os) ∧ OwnSl 9 1 RStr I38 C_s40 a_s40 c_s40 s40) ⟨I12, a_s14, c_s14, C_s14, rfl, lr, S36, h_s14⟩ ?_ ?_)))))))))))))))
 rintro i41 s40 _ w43 hi47 ⟨I38, a_s40, c_s40, C_s40, rfl, L39, S44, h_s40⟩ x45 R1
 refine W.seq (yf nL5 (yg 0 2 [4] z (yj (S44.rf m0) z (ya 3 2 z (yb (yar fun _ => W.skip (ye (W.seq (yl (yf nL7 (yg 0 1 [4] z (yj (S44.rf m0) z (ya 2 1 z ?_)))))))))))))
 obtain ⟨x48, R1, Hx48, _, ⟨w_x48, rfl, h_x48⟩, Zx48⟩ := sx I38 h_p0.Cons R1
 refine yaa 116 12 Hx48 z (yg 4 1 [1] z (yaz Zx48 1 S44.rm z (ya 6 1 z (yb (bsk R1 fun j49 R2 R1 => yav (J := (fun fr w => ∃ I51 a_j49 c_j49 C_j49, fr = [(1, Pt b1 0), (4, Sl a_j49 j49 c_j49), (6, Nv i41)] ∧ I38.Le I51 ∧ St E w I51 (bT b1 p0 w_p0 :: (C_j49) :: Os) ∧ OwnSl 9 1 RStr I51 C_j49 a_j49 c_j49 j49)) ?_ ?_)))))
 refine yy R2 (fun G R2 => ?_) (fun G R2 => ?_)
 refine yag nL10 (yg 0 2 [4] z (yj (S44.rf m0) z (ya 3 1 z ?_)))
 obtain ⟨x53, R2, Hx53, _, ⟨w_x53, rfl, h_x53⟩, Zx53⟩ := sx I38 h_p0.Cons R2
 refine yaa 116 12 Hx53 z (yg 5 1 [3] z (yau ((cs_qE x53.Check w_x53.Check)) Zx53 3 S44.rm z (bsk R2 fun r59 Xr54 R2 => yai (r10_Names_ok h_x53.Check S44 Xr54) ?_)))
 rintro _ w55 ⟨I56, a_r59, c_r59, rfl, L57, S58, h_r59⟩
 exact cv (have S60 := S58.front1; apk R2 fun x61 h0_x61 he_x61 R2 => yax 9 16 [(.string eB)] S60 (OwnSl.mono h_s40 L57) h_r59 S60.im h0_x61 he_x61 z fun a62 c63 w65 C66 S67 ho68 => ya 9 1 z (yp (sj R2 ▸ yt ⟨I56, a62, c63, C66, rfl, L57, S67.front1, ho68⟩)))
 exact W.skip (sj R2 ▸ yt ⟨I38, a_s40, c_s40, C_s40, rfl, lr, S44, h_s40⟩)
 rintro _ w70 ⟨I51, a_j49, c_j49, C_j49, rfl, L52, S71, h_j49⟩
 exact yk (ye (yag nL3 (ya 0 1 z (yam i41 z (ya 2 1 z (yp (sj R1 ▸ yt ⟨I51, a_j49, c_j49, C_j49, rfl, le, S71, h_j49⟩)))))))
 rintro _ w72 ⟨I38, a_s40, c_s40, C_s40, rfl, L39, S73, h_s40⟩
 refine W.seq (yf nL5 (yg 0 2 [4] z (yj (S73.rf m0) z (ya 3 2 z (yb (yas fun _ => W.exit (yn (yo (yr (ye (yf nL2 (ya 0 1 z ?_))))))))))))
 obtain ⟨I75, L76, S78, hp77⟩ := yac h_s40 S73.front1
 exact ya 1 1 z (yb (yq (sj D ▸ yw ⟨I75, a_s40, c_s40, rfl, le, S78.drop, hp77⟩)))
def r17_keys (p0 : qT) (p1 : List By8) : Option Int := (forE (fun (i9 : Nat) (s8 : Int) => (idx p0.Cons (i9 : Int)).bind (fun x16 => ((bif (x16.Kind == 1) then (idx p0.Cons (i9 : Int)).bind (fun x21 => (r17_alike x21.Cols p1).bind (fun r27 => some r27)) else some false)).bind (fun (j17 : Bool) => ((bif j17 then some (w64 (s8 + 1)) else some s8)).bind (fun (j30 : Int) => some j30)))) p0.Cons.length 0 0).bind (fun s8 => some s8)
theorem r17_keys_ok {p0 : qT} {p1 : List By8} {w_p0 : W_qT} {a_p1 : Option Addr} {c_p1 : Nat} (h_p0 : ok_qT I p0 w_p0) (h_p1 : RSl 1 RStr I a_p1 c_p1 p1) (hS : St E w I Os) {r : Int} (D : r17_keys p0 p1 = some r) :
    Calls P 160 #[(vT p0 w_p0), (Sl a_p1 p1 c_p1)] w (RT E I Os (Iv r)) := by
 refine calls_W (fn := Tryz.f160) rfl rfl rfl ?_
 unfold r17_keys at D
 refine yf nL2 (yz hS (cs_qT p0 w_p0) 104 z fun b1 w4 S3 => ya 1 1 z (y0 [0] (ya 0 1 z (yb (W.seq (yf [0] (ya 0 1 z (yb (yl (bsk D fun s8 hloop10 D => have hlt14 := (h_p0.Cons).len_lt; W.wk (yat (m := p0.Cons.length) hloop10 (fun (i9 : Nat) (s8 : Int) => JI E I [(1, Sl a_p1 p1 c_p1), (2, Pt b1 0), (5, Iv s8), (6, Nv i9)] (bT b1 p0 w_p0 :: Os)) ⟨I, rfl, lr, S3⟩ ?_ ?_)))))))))))
 rintro i9 s8 _ w11 hi15 ⟨I6, rfl, L7, S12⟩ x13 R1
 refine W.seq (yf nL5 (yg 0 2 [4] z (yj (S12.rf m0) z (ya 3 2 z (yb (yar fun _ => W.skip (ye (W.seq (yl (yf nL17 (yg 0 1 [4] z (yj (S12.rf m0) z (ya 2 1 z ?_)))))))))))))
 obtain ⟨x16, R1, Hx16, _, ⟨w_x16, rfl, h_x16⟩, Zx16⟩ := sx I6 h_p0.Cons R1
 refine yaa 116 12 Hx16 z (yg 4 1 [1] z (yaz Zx16 1 S12.rm z (ya 6 2 z (bsk R1 fun j17 R2 R1 => yal (l1 := [8, 9, 10, 11, 12, 13, 14, 15, 16]) (J := JI E I6 [(1, Sl a_p1 p1 c_p1), (2, Pt b1 0), (5, Iv s8), (6, Nv i9), (30, .bool j17)] (bT b1 p0 w_p0 :: Os)) ?_ ?_))))
 refine yak R2 (fun G R2 => ?_) (fun G R2 => ?_)
 refine y6 21 G (yg 8 1 [4] z (yj (S12.rf m0) z (ya 10 1 z ?_)))
 obtain ⟨x21, R2, Hx21, _, ⟨w_x21, rfl, h_x21⟩, Zx21⟩ := sx I6 h_p0.Cons R2
 exact yaa 116 12 Hx21 z (yg 12 1 [2] z (yaz Zx21 2 S12.rm z (ya 14 1 z (bsk R2 fun r27 Xr22 R2 => WO.c1 (r17_alike_ok h_x21.Cols (RSl.mono h_p1 L7) S12 Xr22) z fun I24 w23 L25 S26 => ya 16 1 z (sj R2 ▸ y4 ⟨I24, rfl, L25, S26⟩)))))
 refine y6 21 G ?_
 iterate 8 refine yaj ?_
 exact ya 16 1 z (sj R2 ▸ y4 ⟨I6, rfl, lr, S12⟩)
 rintro _ w28 ⟨I19, rfl, L20, S29⟩
 refine yb (bsk R1 fun j30 R2 R1 => yav (J := JI E I19 [(1, Sl a_p1 p1 c_p1), (2, Pt b1 0), (5, Iv j30), (6, Nv i9)] (bT b1 p0 w_p0 :: Os)) ?_ ?_)
 refine yy R2 (fun G R2 => ?_) (fun G R2 => ?_)
 exact yag nL3 (ya 0 3 z (yp (sj R2 ▸ yt ⟨I19, rfl, lr, S29⟩)))
 exact W.skip (sj R2 ▸ yt ⟨I19, rfl, lr, S29⟩)
 rintro _ w34 ⟨I32, rfl, L33, S35⟩
 exact yk (ye (yag nL3 (ya 0 1 z (yam i9 z (ya 2 1 z (yp (sj R1 ▸ yt ⟨I32, rfl, le, S35⟩)))))))
 rintro _ w36 ⟨I6, rfl, L7, S37⟩
 exact W.seq (yf nL5 (yg 0 2 [4] z (yj (S37.rf m0) z (ya 3 2 z (yb (yas fun _ => W.exit (yn (yo (yr (ye (yf nL2 (ya 0 2 z (yb (yq (sj D ▸ yw ⟨I6, rfl, L7, S37.drop⟩)))))))))))))))
noncomputable def r17_refers_nnsl (p0 : qC) (p1 : By8) (p2 : By8) (p3 : By8) (p4 : List By8) : Option Bool := (forN (fun (i8 : Nat) (_s : Unit) => (idx p0.Tables (i8 : Int)).bind (fun x15 => (loopO (fun (s25 : Int) => (some ((decide (s25 < (x15.Cons.length : Int))) && (!sEq x15.Name p2))).bind (fun (q31 : Bool) => (bif q31 then ((idx x15.Cons s25).bind (fun x38 => (bif ((x38.Kind != 3) || (!sEq x38.Table p1)) then some (.inl ()) else (r17_alike x38.Refs p4).bind (fun r53 => (bif r53 then some (.inr true) else some (.inl ())))))).bind (fun (t : Unit ⊕ Bool) => match t with | (.inl ()) => some (.inl (w64 (s25 + 1))) | (.inr s55) => some (.inr (.inl s55))) else some (.inr (.inr ()))))) 0).bind (fun (t : Bool ⊕ Unit) => match t with | (.inl s57) => some (.inr s57) | (.inr ()) => some (.inl ())))) p0.Tables.length 0 ()).bind (fun (t : Unit ⊕ (Bool)) => match t with | .inl _ => some false | .inr s59 => some s59)
theorem r17_refers_nnsl_ok {p0 : qC} {p1 : By8} {p2 : By8} {p3 : By8} {p4 : List By8} {w_p0 : W_qC} {a_p4 : Option Addr} {c_p4 : Nat} (h_p0 : ok_qC I p0 w_p0) (h_p4 : RSl 1 RStr I a_p4 c_p4 p4) (hnn_p4 : a_p4.isNone = false) (hS : St E w I Os) {r : Bool} (D : r17_refers_nnsl p0 p1 p2 p3 p4 = some r) :
    Calls P 89 #[(vC p0 w_p0), (.string p1), (.string p2), (.string p3), (Sl a_p4 p4 c_p4)] w (RT E I Os (.bool r)) := by
 refine calls_W (fn := Tryz.f89) rfl rfl rfl ?_
 unfold r17_refers_nnsl at D
 refine yf nL2 (yz hS (cs_qC p0 w_p0) 33 z fun b1 w4 S3 => ya 1 1 z (yb (W.seq (yf [0] (ya 0 1 z (yb (yl (bsk D fun t5 hloop9 D => have hlt13 := (h_p0.Tables).len_lt; W.wk (yap (m := p0.Tables.length) hloop9 (fun (i8 : Nat) (_s : Unit) => JI E I [(1, .string p1), (2, .string p2), (3, .string p3), (4, Sl a_p4 p4 c_p4), (5, Pt b1 0), (11, Nv i8)] (bC b1 p0 w_p0 :: Os)) ⟨I, rfl, lr, S3⟩ ?_ ?_)))))))))
 rintro i8 _ _ w10 hi14 ⟨I6, rfl, L7, S11⟩ x12 R1 hext5
 refine W.seq (yf nL5 (yg 0 2 [1] z (yj (S11.rf m0) z (ya 3 2 z (yb (yar fun _ => W.skip (ye (W.seq (yl (yf nL7 (yg 0 1 [1] z (yj (S11.rf m0) z (ya 2 1 z ?_)))))))))))))
 obtain ⟨x15, R1, Hx15, _, ⟨w_x15, rfl, h_x15⟩, Zx15⟩ := sx I6 h_p0.Tables R1
 refine yaa 104 6 Hx15 z (yau ((cs_qT x15 w_x15)) Zx15 0 S11.rm z (yz S11 (cs_qT z_qT zw_qT) 104 z fun b16 w19 S18 => y7 S18 0 (cs_qT x15 w_x15) fun w21 S20 => y0 [0] (ya 0 1 z (yb (yl (bsk R1 fun t22 hloop26 R1 => W.wk (ya6 hloop26 (fun (s25 : Int) => JI E I6 [(1, .string p1), (2, .string p2), (3, .string p3), (4, Sl a_p4 p4 c_p4), (5, Pt b1 0), (11, Nv i8), (12, Pt b16 0), (13, Iv s25)] (bC b1 p0 w_p0 :: (bT b16 x15 w_x15) :: Os)) ⟨I6, rfl, lr, S20.front1⟩ ?_)))))))
 rintro s25 _ w28 ⟨I23, rfl, L24, S29⟩ x30 R2 hext22
 refine W.seq (yf nL11 (yg 0 2 [4] z (yj (S29.rf m1) z (ya 3 3 z (bsq R2 fun q31 Xq31 R2 => yaq [6, 7, 8, 9] 10 32 37 Xq31 (fun _ => yg 6 1 [0] z (yj (S29.rf m1) z (ya 8 3 z yah))) (yb (yy R2 (fun G R2 => ?_) (fun G R2 => ?_))))))))
 refine W.skip (ye (W.seq (bsk R2 fun j34 R3 R2 => yav (J := (fun fr w => ∃ I36, (.inl ()) = j34 ∧ fr = [(1, .string p1), (2, .string p2), (3, .string p3), (4, Sl a_p4 p4 c_p4), (5, Pt b1 0), (11, Nv i8), (12, Pt b16 0), (13, Iv s25)] ∧ I23.Le I36 ∧ St E w I36 (bC b1 p0 w_p0 :: (bT b16 x15 w_x15) :: Os))) ?_ ?_)))
 refine yl (yf nL7 (yg 0 1 [4] z (yj (S29.rf m1) z (ya 2 1 z ?_))))
 obtain ⟨x38, R3, Hx38, _, ⟨w_x38, rfl, h_x38⟩, Zx38⟩ := sx I23 h_x15.Cons R3
 refine yaa 116 12 Hx38 z (yau ((cs_qK x38 w_x38)) Zx38 0 S29.rm z (yz S29 (cs_qK z_qK zw_qK) 116 z fun b39 w42 S41 => y7 S41 0 (cs_qK x38 w_x38) fun w44 S43 => yb (W.seq (yf nL9 (yg 0 1 [1] z (yj (S43.rf m0) z (ya 2 2 z (ya2 [4, 5, 6, 7] 8 48 53 (.refl ((x38.Kind != 3) || (!sEq x38.Table p1))) (fun _ => yg 4 1 [10] z (yj (S43.rf m0) z (ya 6 3 z yah))) (yb (yy R3 (fun G R3 => ?_) (fun G R3 => ?_)))))))))))
 exact W.exit (yn (yr (yt ⟨I23, sj R3, rfl, lr, S43.drop⟩)))
 refine W.skip (ye (yf nL22 (ya 0 1 z (ybk (e := 9) z kr kr z z ?_))))
 refine yae 55 z (v := .bool false) (by rw [hnn_p4] <;> rfl) ?_
 refine ya 2 1 z ?_
 iterate 8 refine yaj ?_
 refine ya 11 3 z (WO.neNil (e := 9) z kr kr z z ?_)
 refine yae 68 z (v := .bool true) (by rw [hnn_p4] <;> rfl) ?_
 refine yg 15 2 [11] z (yj (S43.rf m0) z (ya 18 1 z (bsk R3 fun r53 Xr48 R3 => WO.c1 (r17_alike_ok h_x38.Refs (up h_p4) S43 Xr48) z fun I50 w49 L51 S52 => ya 20 2 z (yb (yy R3 (fun G R3 => ?_) (fun G R3 => ?_))))))
 refine yf [0] (ya 0 1 z (yb (yq (ym (yu ?_)))))
 obtain rfl := sj R3
 refine yh (yu ?_)
 obtain rfl := hext22 _ (sj R2).symm
 refine ym (ym (yh (yu ?_)))
 obtain rfl := hext5 _ (sj R1).symm
 exact ym (yh (sj D ▸ yw ⟨I50, rfl, le, S52.d3⟩))
 exact W.skip (yk (yt ⟨I50, sj R3, rfl, L51, S52.drop⟩))
 rintro _ w69 ⟨I36, rfl, rfl, L37, S70⟩
 exact ye (yag nL3 (ya 0 3 z (yp (yt ⟨(w64 (s25 + 1)), (sj R2).symm, I36, rfl, le, S70⟩))))
 refine W.exit (yn (yo ?_))
 obtain rfl := hext22 _ (sj R2).symm
 exact yr (yk (ye (yag nL3 (ya 0 1 z (yam i8 z (ya 2 1 z (yp (yt ⟨(), (sj R1).symm, I23, rfl, le, S29.front1.drop⟩))))))))
 rintro _ _ w75 ⟨I6, rfl, L7, S76⟩ he
 cases he
 exact W.seq (yf nL5 (yg 0 2 [1] z (yj (S76.rf m0) z (ya 3 2 z (yb (yas fun _ => W.exit (yn (yo (yr (ye (yf [0] (ya 0 1 z (yb (yq (sj D ▸ yw ⟨I6, rfl, L7, S76.drop⟩)))))))))))))))
noncomputable def r17_dropped (p0 : qC) (p1 : qT) (p2 : By8) : Option (qT × Int) := (forN (fun (i17 : Nat) (s16 : qT) => (idx p1.Cons (i17 : Int)).bind (fun x26 => (bif (!sEq x26.Name p2) then some (.inl s16) else (app 16 ([] : List By8) x26.Cols).bind (fun x41 => ((bif (x26.Kind == 1) then (r17_keys p1 x41).bind (fun r61 => some (r61 == 1)) else some false)).bind (fun (j52 : Bool) => ((bif j52 then (must (!(x41).isEmpty)).bind (fun _ => (r17_refers_nnsl p0 p1.Name eB eB x41).bind (fun r77 => some r77)) else some false)).bind (fun (j67 : Bool) => (bif j67 then some (.inr ((34 : Int), p1)) else (r17_Copy p1).bind (fun r98 => (sub p1.Cons 0 (i17 : Int)).bind (fun x121 => (app 176 ([] : List qK) x121).bind (fun x124 => (sub p1.Cons (w64 ((i17 : Int) + 1)) (p1.Cons.length : Int)).bind (fun x136 => (app 176 x124 x136).bind (fun x138 => some (.inr ((0 : Int), { r98 with Cols := r98.Cols, Cons := x138, Idx := r98.Idx })))))))))))))) p1.Cons.length 0 z_qT).bind (fun (t : qT ⊕ ((Int × qT))) => match t with | .inl s16 => some (p1, 4) | .inr (s86, s87) => some (s87, s86))
theorem r17_dropped_ok {p0 : qC} {p1 : qT} {p2 : By8} {w_p0 : W_qC} {w_p1 : W_qT} (h_p0 : ok_qC I p0 w_p0) (h_p1 : ok_qT I p1 w_p1) (hS : St E w I Os) {r : qT × Int} (D : r17_dropped p0 p1 p2 = some r) :
    Calls P 130 #[(vC p0 w_p0), (vT p1 w_p1), (.string p2)] w (fun e w' => ∃ I' w_rw0, e = .returned (.tuple #[(vT r.1 w_rw0), (Iv r.2)]) ∧ I.Le I' ∧ St E w' I' Os ∧ ok_qT I' r.1 w_rw0) := by
 refine calls_W (fn := Tryz.f130) rfl rfl rfl ?_
 unfold r17_dropped at D
 refine yf nL4 (yz hS (cs_qC p0 w_p0) 33 z fun b1 w4 S3 => yz S3 (cs_qT p1 w_p1) 104 z fun b5 w8 S7 => yz S7 (cs_qT z_qT zw_qT) 104 z fun b9 w12 S11 => ya 3 1 z (yb (W.seq (yf [0] (ya 0 1 z (yb (yl (bsk D fun t13 hloop18 D => have hlt24 := (h_p1.Cons).len_lt; W.wk (yap (m := p1.Cons.length) hloop18 (fun (i17 : Nat) (s16 : qT) fr w => ∃ I14 w_s16, fr = [(2, .string p2), (3, Pt b1 0), (4, Pt b5 0), (6, Pt b9 0), (8, Nv i17)] ∧ I.Le I14 ∧ St E w I14 (bC b1 p0 w_p0 :: (bT b5 p1 w_p1) :: (bT b9 s16 w_s16) :: Os) ∧ ok_qT I14 s16 w_s16) ⟨I, zw_qT, rfl, lr, S11.front1.front2, zok_qT⟩ ?_ ?_)))))))))
 rintro i17 s16 _ w21 hi25 ⟨I14, w_s16, rfl, L15, S22, h_s16⟩ x23 R1 hext13
 refine W.seq (yf nL5 (yg 0 2 [4] z (yj (S22.rf m1) z (ya 3 2 z (yb (yar fun _ => W.skip (ye (W.seq (yl (yf nL7 (yg 0 1 [4] z (yj (S22.rf m1) z (ya 2 1 z ?_)))))))))))))
 obtain ⟨x26, R1, Hx26, _, ⟨w_x26, rfl, h_x26⟩, Zx26⟩ := sx I14 h_p1.Cons R1
 refine yaa 116 12 Hx26 z (yau ((cs_qK x26 w_x26)) Zx26 0 S22.rm z (yz S22 (cs_qK z_qK zw_qK) 116 z fun b27 w30 S29 => y7 S29 0 (cs_qK x26 w_x26) fun w32 S31 => yb (W.seq (yf nL4 (yg 0 1 [0] z (yj (S31.rf m0) z (ya 2 2 z (yb (yy R1 (fun G R1 => ?_) (fun G R1 => ?_))))))))))
 exact W.exit (yn (yr (ye (yag nL3 (ya 0 1 z (yam i17 z (ya 2 1 z (yp (yt ⟨s16, (sj R1).symm, I14, w_s16, rfl, L15, S31.drop, h_s16⟩)))))))))
 refine W.skip (ye (yf nL5 (yab (rel := RStr) (xs := ([] : List By8)) S31 z kr z 9 1 [] kr z (Elr.nil) tv ?_)))
 intro a37 C35 w39 S38 ho36
 refine yg 1 1 [2] z (yj (S38.rf m1) z (apk R1 fun x41 h0_x41 he_x41 R1 => yax 9 16 [(.string eB)] S38 ho36 h_x26.Cols S38.im h0_x41 he_x41 z ?_))
 intro a42 c43 w44 C45 S46 ho47
 obtain ⟨I48, L49, S51, hp50⟩ := yac ho47 S46
 refine ya 4 1 z (yb (W.seq (yf nL16 (yg 0 1 [1] z (yj (S51.rf m0) z (ya 2 2 z (bsk R1 fun j52 R2 R1 => yal (l1 := [4, 5, 6, 7, 8]) (J := JI E I48 [(3, Pt b1 0), (4, Pt b5 0), (6, Pt b9 0), (8, Nv i17), (10, Sl a42 x41 c43), (40, .bool j52)] (bC b1 p0 w_p0 :: (bT b5 p1 w_p1) :: (bT b9 s16 w_s16) :: Os)) ?_ ?_)))))))
 refine yak R2 (fun G R2 => ?_) (fun G R2 => ?_)
 exact y6 35 G (yx ((cs_qT p1 w_p1)) (S51.rf m2) z (ya 5 1 z (bsk R2 fun r61 Xr56 R2 => WO.c1 (r17_keys_ok (h_p1.mono le) hp50 S51 Xr56) z fun I58 w57 L59 S60 => ya 7 2 z (sj R2 ▸ y4 ⟨I58, rfl, L59, S60.drop⟩))))
 refine y6 35 G ?_
 iterate 4 refine yaj ?_
 exact ya 8 1 z (sj R2 ▸ y4 ⟨I48, rfl, lr, S51.drop⟩)
 rintro _ w65 ⟨I54, rfl, L55, S66⟩
 refine ya 9 1 z (bsk R1 fun j67 R2 R1 => yal (l1 := [10, 11, 12, 13, 14, 15]) (J := JI E I54 [(4, Pt b5 0), (6, Pt b9 0), (8, Nv i17), (47, .bool j67)] (bT b5 p1 w_p1 :: (bT b9 s16 w_s16) :: Os)) ?_ ?_)
 refine yak R2 (fun G R2 => ?_) (fun G R2 => ?_)
 exact y6 41 G (yx ((cs_qC p0 w_p0)) (S66.rf m0) z (yg 11 1 [0] z (yj (S66.rf m1) z (ya 13 1 z (bsk R2 fun _ hm71 R2 => have nn_hm71 := nn_of (RSl.mono hp50 L55) (must_some hm71); bsk R2 fun r77 Xr72 R2 => WO.c1 (r17_refers_nnsl_ok (h_p0.mono le) (RSl.mono hp50 L55) nn_hm71 S66 Xr72) z fun I74 w73 L75 S76 => ya 15 1 z (sj R2 ▸ y4 ⟨I74, rfl, L75, S76.drop⟩))))))
 refine y6 41 G ?_
 iterate 5 refine yaj ?_
 exact ya 15 1 z (sj R2 ▸ y4 ⟨I54, rfl, lr, S66.drop⟩)
 rintro _ w80 ⟨I69, rfl, L70, S81⟩
 refine yb (yy R1 (fun G R1 => ?_) (fun G R1 => ?_))
 refine yf nL3 (yx ((cs_qT p1 w_p1)) (S81.rf m0) z (y7 S81.front1 0 (cs_qT p1 w_p1) fun w84 S83 => ya 2 1 z (yb (yq (yh (ym (yh (yu ?_))))))))
 obtain rfl := hext13 _ (sj R1).symm
 exact ym (yh (sj D ▸ ya1 _ (S83.rd m0) ⟨I69, w_p1, rfl, le, S83.d2, (h_p1.mono le)⟩))
 refine W.skip (ye (yf nL4 (yx ((cs_qT p1 w_p1)) (S81.rf m0) z (bsk R1 fun r98 Xr93 R1 => yai (r17_Copy_ok (h_p1.mono le) S81 Xr93) ?_))))
 rintro _ w94 ⟨I95, w_r98, C_r98_3, C_r98_4, C_r98_5, rfl, L96, S97, h_r98_3, h_r98_4, h_r98_5⟩
 refine cv (yz S97 (cs_qT z_qT zw_qT) 104 z ?_)
 intro b99 w102 S101
 obtain ⟨I104, L105, S107, hp106⟩ := yac h_r98_3 S101.front1
 obtain ⟨I109, L110, S112, hp111⟩ := yac (h_r98_5.mono L105) S107.front2
 refine y7 S112 0 (cs_qT ({ r98 with Cols := r98.Cols, Cons := r98.Cons, Idx := r98.Idx }) (⟨⟨w_r98.Cols.a, w_r98.Cols.c⟩, ⟨w_r98.Cons.a, w_r98.Cons.c⟩, ⟨w_r98.Idx.a, w_r98.Idx.c⟩⟩ : W_qT)) fun w114 S113 => y0 nL2 (yg 0 1 [4] z (y7 S113 4 (cs_qT ({ r98 with Cols := r98.Cols, Cons := ([] : List qK), Idx := r98.Idx }) (⟨⟨w_r98.Cols.a, w_r98.Cols.c⟩, ⟨none, 0⟩, ⟨w_r98.Idx.a, w_r98.Idx.c⟩⟩ : W_qT)) fun w116 S115 => yb (W.seq (have S119 := S115.front1.drop.drew; yba nL9 6 (yv (S119.rd m0) (yv (S119.rd m1) (yad S119.im))) ?_))))
 generalize World.drew _ = w120 at *
 refine yg 0 1 [4] z (yj (rd_c m0 (S119.rd m0)) z (yg 2 1 [4] z (yj (rd_c m1 (S119.rd m1)) z (ya 4 1 z ?_))))
 obtain ⟨x121, Xx121, R1⟩ := bsm R1
 obtain ⟨h0_x121, h1_x121, h2_x121, he_x121⟩ := sub_some Xx121
 have hl_x121 : ((i17 : Int) : Int) ≤ (w_p1.Cons.c : Int) := Int.le_trans h2_x121 (Int.ofNat_le.2 ((RSl.mono h_p1.Cons ((((((L15.trans L49).trans L55).trans L70).trans L96).trans L105).trans L110))).le)
 refine ya3 (e := 116) (sz := 12) z kr kr kr z (0 : Int) ((i17 : Int) : Int) h0_x121 (.inl ⟨rfl, rfl⟩) (.inr ⟨_, _, rfl, rfl⟩) h1_x121 hl_x121 ?_
 obtain ⟨a_x121, c_x121, h_x121, ev_x121⟩ := sub_ok ((RSl.mono h_p1.Cons ((((((L15.trans L49).trans L55).trans L70).trans L96).trans L105).trans L110))) h0_x121 h1_x121 h2_x121 he_x121
 refine yae 57 z ev_x121 ?_
 refine WO.tail z (have S123 := S119.no; apk R1 fun x124 h0_x124 he_x124 R1 => ya7 (e' := 116) (b := 176) (zs := (cs_qK z_qK zw_qK).toArray) S123 (OwnSl.nil (T := 116) (rel := R_qK) (I := I109)) z kr z kr kr kr z z z z h_x121 S123.im h0_x124 he_x124 tv ?_)
 intro a125 c126 w127 C128 S129 ho130
 refine yg 7 1 [4] z (y7 S129.front1 4 (cs_qT ({ r98 with Cols := r98.Cols, Cons := x124, Idx := r98.Idx }) (⟨⟨w_r98.Cols.a, w_r98.Cols.c⟩, ⟨a125, c126⟩, ⟨w_r98.Idx.a, w_r98.Idx.c⟩⟩ : W_qT)) fun w133 S132 => yb (W.seq (have S134 := S132.drew; yba nL10 7 (yv (S134.rd m0) (yv (S134.rd m2) (yad S134.im))) ?_)))
 generalize World.drew _ = w135 at *
 refine yg 0 1 [4] z (yj (rd_c m0 (S134.rd m0)) z (yg 2 1 [4] z (yj (rd_c m1 (S134.rd m2)) z (ya 4 2 z ?_))))
 obtain ⟨x136, Xx136, R1⟩ := bsm R1
 obtain ⟨h0_x136, h1_x136, h2_x136, he_x136⟩ := sub_some Xx136
 have hl_x136 : ((p1.Cons.length : Int) : Int) ≤ (w_p1.Cons.c : Int) := Int.le_trans h2_x136 (Int.ofNat_le.2 ((RSl.mono h_p1.Cons ((((((L15.trans L49).trans L55).trans L70).trans L96).trans L105).trans L110))).le)
 refine ya3 (e := 116) (sz := 12) z kr kr kr z ((w64 ((i17 : Int) + 1)) : Int) ((p1.Cons.length : Int) : Int) h0_x136 (.inr ⟨_, _, rfl, rfl⟩) (.inl ⟨rfl, rfl⟩) h1_x136 hl_x136 ?_
 obtain ⟨a_x136, c_x136, h_x136, ev_x136⟩ := sub_ok ((RSl.mono h_p1.Cons ((((((L15.trans L49).trans L55).trans L70).trans L96).trans L105).trans L110))) h0_x136 h1_x136 h2_x136 he_x136
 refine yae 66 z ev_x136 ?_
 refine WO.tail z (have S137 := S134.front1; apk R1 fun x138 h0_x138 he_x138 R1 => yax 116 176 (cs_qK z_qK zw_qK) S137 ho130 h_x136 S137.im h0_x138 he_x138 z fun a139 c140 w141 C142 S143 ho144 => yg 8 1 [4] z (y7 S143.front1 4 (cs_qT ({ r98 with Cols := r98.Cols, Cons := x138, Idx := r98.Idx }) (⟨⟨w_r98.Cols.a, w_r98.Cols.c⟩, ⟨a139, c140⟩, ⟨w_r98.Idx.a, w_r98.Idx.c⟩⟩ : W_qT)) fun w147 S146 => y0 nL3 (yx ((cs_qT ({ r98 with Cols := r98.Cols, Cons := x138, Idx := r98.Idx }) (⟨⟨w_r98.Cols.a, w_r98.Cols.c⟩, ⟨a139, c140⟩, ⟨w_r98.Idx.a, w_r98.Idx.c⟩⟩ : W_qT))) (S146.rf m0) z ?_)))
 obtain ⟨I149, L150, S152, hp151⟩ := yac ho144 S146.front1
 refine y7 S152.front2 0 (cs_qT ({ r98 with Cols := r98.Cols, Cons := x138, Idx := r98.Idx }) (⟨⟨w_r98.Cols.a, w_r98.Cols.c⟩, ⟨a139, c140⟩, ⟨w_r98.Idx.a, w_r98.Idx.c⟩⟩ : W_qT)) fun w155 S154 => ya 2 1 z (yb (yq (ym (yh (yu ?_)))))
 have hk156 : ok_qT I149 ({ r98 with Cols := r98.Cols, Cons := x138, Idx := r98.Idx }) (⟨⟨w_r98.Cols.a, w_r98.Cols.c⟩, ⟨a139, c140⟩, ⟨w_r98.Idx.a, w_r98.Idx.c⟩⟩ : W_qT) := ⟨(RSl.mono hp106 (L110.trans L150)), hp151, (RSl.mono hp111 L150)⟩
 obtain rfl := hext13 _ (sj R1).symm
 refine ym (yh ?_)
 have hk160 : ok_qT I149 ({ r98 with Cols := r98.Cols, Cons := x138, Idx := r98.Idx }) (⟨⟨w_r98.Cols.a, w_r98.Cols.c⟩, ⟨a139, c140⟩, ⟨w_r98.Idx.a, w_r98.Idx.c⟩⟩ : W_qT) := ⟨(RSl.mono hp106 (L110.trans L150)), hp151, (RSl.mono hp111 L150)⟩
 exact sj D ▸ ya1 _ (S154.rd m0) ⟨I149, (⟨⟨w_r98.Cols.a, w_r98.Cols.c⟩, ⟨a139, c140⟩, ⟨w_r98.Idx.a, w_r98.Idx.c⟩⟩ : W_qT), rfl, le, S154.d3, hk160⟩
 rintro s16 _ w161 ⟨I14, w_s16, rfl, L15, S162, h_s16⟩ he
 cases he
 exact W.seq (yf nL5 (yg 0 2 [4] z (yj (S162.rf m1) z (ya 3 2 z (yb (yas fun _ => W.exit (yn (yo (yr (ye (yf nL3 (yx ((cs_qT p1 w_p1)) (S162.rf m1) z (y7 S162.front2 0 (cs_qT p1 w_p1) fun w165 S164 => ya 2 1 z (yb (yq (sj D ▸ ya1 _ (S164.rd m0) ⟨I14, w_p1, rfl, L15, S164.d3, (h_p1.mono L15)⟩))))))))))))))))
noncomputable def r17_refers_nilsl (p0 : qC) (p1 : By8) (p2 : By8) (p3 : By8) : Option Bool := (forN (fun (i8 : Nat) (_s : Unit) => (idx p0.Tables (i8 : Int)).bind (fun x15 => (loopO (fun (s25 : Int) => (some ((decide (s25 < (x15.Cons.length : Int))) && (!sEq x15.Name p2))).bind (fun (q31 : Bool) => (bif q31 then ((idx x15.Cons s25).bind (fun x38 => (bif ((x38.Kind != 3) || (!sEq x38.Table p1)) then some (.inl ()) else ((bif (sEq p3 eB) then some true else (r14_Has x38.Refs p3).bind (fun r59 => some r59))).bind (fun (j48 : Bool) => ((bif j48 then some true else some false)).bind (fun (j64 : Bool) => (bif j64 then some (.inr true) else some (.inl ()))))))).bind (fun (t : Unit ⊕ Bool) => match t with | (.inl ()) => some (.inl (w64 (s25 + 1))) | (.inr s75) => some (.inr (.inl s75))) else some (.inr (.inr ()))))) 0).bind (fun (t : Bool ⊕ Unit) => match t with | (.inl s77) => some (.inr s77) | (.inr ()) => some (.inl ())))) p0.Tables.length 0 ()).bind (fun (t : Unit ⊕ (Bool)) => match t with | .inl _ => some false | .inr s79 => some s79)
theorem r17_refers_nilsl_ok {p0 : qC} {p1 : By8} {p2 : By8} {p3 : By8} {w_p0 : W_qC} (h_p0 : ok_qC I p0 w_p0) (hS : St E w I Os) {r : Bool} (D : r17_refers_nilsl p0 p1 p2 p3 = some r) :
    Calls P 89 #[(vC p0 w_p0), (.string p1), (.string p2), (.string p3), (.slice none 0 0)] w (RT E I Os (.bool r)) := by
 refine calls_W (fn := Tryz.f89) rfl rfl rfl ?_
 unfold r17_refers_nilsl at D
 refine yf nL2 (yz hS (cs_qC p0 w_p0) 33 z fun b1 w4 S3 => ya 1 1 z (yb (W.seq (yf [0] (ya 0 1 z (yb (yl (bsk D fun t5 hloop9 D => have hlt13 := (h_p0.Tables).len_lt; W.wk (yap (m := p0.Tables.length) hloop9 (fun (i8 : Nat) (_s : Unit) => JI E I [(1, .string p1), (2, .string p2), (3, .string p3), (4, .slice none 0 0), (5, Pt b1 0), (11, Nv i8)] (bC b1 p0 w_p0 :: Os)) ⟨I, rfl, lr, S3⟩ ?_ ?_)))))))))
 rintro i8 _ _ w10 hi14 ⟨I6, rfl, L7, S11⟩ x12 R1 hext5
 refine W.seq (yf nL5 (yg 0 2 [1] z (yj (S11.rf m0) z (ya 3 2 z (yb (yar fun _ => W.skip (ye (W.seq (yl (yf nL7 (yg 0 1 [1] z (yj (S11.rf m0) z (ya 2 1 z ?_)))))))))))))
 obtain ⟨x15, R1, Hx15, _, ⟨w_x15, rfl, h_x15⟩, Zx15⟩ := sx I6 h_p0.Tables R1
 refine yaa 104 6 Hx15 z (yau ((cs_qT x15 w_x15)) Zx15 0 S11.rm z (yz S11 (cs_qT z_qT zw_qT) 104 z fun b16 w19 S18 => y7 S18 0 (cs_qT x15 w_x15) fun w21 S20 => y0 [0] (ya 0 1 z (yb (yl (bsk R1 fun t22 hloop26 R1 => W.wk (ya6 hloop26 (fun (s25 : Int) => JI E I6 [(1, .string p1), (2, .string p2), (3, .string p3), (4, .slice none 0 0), (5, Pt b1 0), (11, Nv i8), (12, Pt b16 0), (13, Iv s25)] (bC b1 p0 w_p0 :: (bT b16 x15 w_x15) :: Os)) ⟨I6, rfl, lr, S20.front1⟩ ?_)))))))
 rintro s25 _ w28 ⟨I23, rfl, L24, S29⟩ x30 R2 hext22
 refine W.seq (yf nL11 (yg 0 2 [4] z (yj (S29.rf m1) z (ya 3 3 z (bsq R2 fun q31 Xq31 R2 => yaq [6, 7, 8, 9] 10 32 37 Xq31 (fun _ => yg 6 1 [0] z (yj (S29.rf m1) z (ya 8 3 z yah))) (yb (yy R2 (fun G R2 => ?_) (fun G R2 => ?_))))))))
 refine W.skip (ye (W.seq (bsk R2 fun j34 R3 R2 => yav (J := (fun fr w => ∃ I36, (.inl ()) = j34 ∧ fr = [(1, .string p1), (2, .string p2), (3, .string p3), (4, .slice none 0 0), (5, Pt b1 0), (11, Nv i8), (12, Pt b16 0), (13, Iv s25)] ∧ I23.Le I36 ∧ St E w I36 (bC b1 p0 w_p0 :: (bT b16 x15 w_x15) :: Os))) ?_ ?_)))
 refine yl (yf nL7 (yg 0 1 [4] z (yj (S29.rf m1) z (ya 2 1 z ?_))))
 obtain ⟨x38, R3, Hx38, _, ⟨w_x38, rfl, h_x38⟩, Zx38⟩ := sx I23 h_x15.Cons R3
 refine yaa 116 12 Hx38 z (yau ((cs_qK x38 w_x38)) Zx38 0 S29.rm z (yz S29 (cs_qK z_qK zw_qK) 116 z fun b39 w42 S41 => y7 S41 0 (cs_qK x38 w_x38) fun w44 S43 => yb (W.seq (yf nL9 (yg 0 1 [1] z (yj (S43.rf m0) z (ya 2 2 z (ya2 [4, 5, 6, 7] 8 48 53 (.refl ((x38.Kind != 3) || (!sEq x38.Table p1))) (fun _ => yg 4 1 [10] z (yj (S43.rf m0) z (ya 6 3 z yah))) (yb (yy R3 (fun G R3 => ?_) (fun G R3 => ?_)))))))))))
 exact W.exit (yn (yr (yt ⟨I23, sj R3, rfl, lr, S43.drop⟩)))
 refine W.skip (ye (yf nL22 (ya 0 1 z (ybk (e := 9) z kr kr z z ?_))))
 refine yae 55 z (v := .bool true) z ?_
 refine ya 2 4 z (bsk R3 fun j48 R4 R3 => yal (l1 := [6, 7, 8, 9, 10]) (J := JI E I23 [(1, .string p1), (2, .string p2), (3, .string p3), (4, .slice none 0 0), (5, Pt b1 0), (11, Nv i8), (12, Pt b16 0), (13, Iv s25), (14, Pt b39 0), (56, .bool true), (64, .bool j48)] (bC b1 p0 w_p0 :: (bT b16 x15 w_x15) :: (bK b39 x38 w_x38) :: Os)) ?_ ?_)
 refine yak R4 (fun G R4 => ?_) (fun G R4 => ?_)
 refine y6 59 G ?_
 iterate 4 refine yaj ?_
 exact ya 10 1 z (sj R4 ▸ y4 ⟨I23, rfl, lr, S43.front2.front2⟩)
 exact y6 59 G (yg 6 1 [11] z (yj (S43.rf m0) z (ya 8 1 z (bsk R4 fun r59 Xr54 R4 => WO.c1 (r14_Has_ok h_x38.Refs S43 Xr54) z fun I56 w55 L57 S58 => ya 10 1 z (sj R4 ▸ y4 ⟨I56, rfl, L57, S58.front2.front2⟩)))))
 rintro _ w62 ⟨I50, rfl, L51, S63⟩
 refine ya 11 2 z (bsk R3 fun j64 R4 R3 => yal (l1 := [13, 14, 15, 16, 17, 18, 19, 20, 21]) (J := JI E I50 [(1, .string p1), (2, .string p2), (3, .string p3), (4, .slice none 0 0), (5, Pt b1 0), (11, Nv i8), (12, Pt b16 0), (13, Iv s25), (75, .bool j64)] (bC b1 p0 w_p0 :: (bT b16 x15 w_x15) :: Os)) ?_ ?_)
 refine yak R4 (fun G R4 => ?_) (fun G R4 => ?_)
 refine y6 66 G ?_
 iterate 8 refine yaj ?_
 exact ya 21 1 z (sj R4 ▸ y4 ⟨I50, rfl, lr, S63.front2.drop⟩)
 refine y6 66 G (ya 13 1 z (WO.neNil (e := 9) z kr kr z z ?_))
 refine yae 68 z (v := .bool false) z ?_
 refine ya 15 1 z ?_
 iterate 4 refine yaj ?_
 exact ya 20 2 z (sj R4 ▸ y4 ⟨I50, rfl, lr, S63.front2.drop⟩)
 rintro _ w72 ⟨I66, rfl, L67, S73⟩
 refine yb (yy R3 (fun G R3 => ?_) (fun G R3 => ?_))
 refine yf [0] (ya 0 1 z (yb (yq (ym (yu ?_)))))
 obtain rfl := sj R3
 refine yh (yu ?_)
 obtain rfl := hext22 _ (sj R2).symm
 refine ym (ym (yh (yu ?_)))
 obtain rfl := hext5 _ (sj R1).symm
 exact ym (yh (sj D ▸ yw ⟨I66, rfl, le, S73.d2⟩))
 exact W.skip (yk (yt ⟨I66, sj R3, rfl, le, S73⟩))
 rintro _ w87 ⟨I36, rfl, rfl, L37, S88⟩
 exact ye (yag nL3 (ya 0 3 z (yp (yt ⟨(w64 (s25 + 1)), (sj R2).symm, I36, rfl, le, S88⟩))))
 refine W.exit (yn (yo ?_))
 obtain rfl := hext22 _ (sj R2).symm
 exact yr (yk (ye (yag nL3 (ya 0 1 z (yam i8 z (ya 2 1 z (yp (yt ⟨(), (sj R1).symm, I23, rfl, le, S29.front1.drop⟩))))))))
 rintro _ _ w93 ⟨I6, rfl, L7, S94⟩ he
 cases he
 exact W.seq (yf nL5 (yg 0 2 [1] z (yj (S94.rf m0) z (ya 3 2 z (yb (yas fun _ => W.exit (yn (yo (yr (ye (yf [0] (ya 0 1 z (yb (yq (sj D ▸ yw ⟨I6, rfl, L7, S94.drop⟩)))))))))))))))
noncomputable def r17_turned (p0 : qC) (p1 : qT) (p2 : qS) : Option (qT × Int) := (r17_Copy p1).bind (fun r22 => (r14_Names p1).bind (fun (r34, r35) => ((bif (p2.Kind == 3) then (bif ((p2.Cols.length : Int) != 1) then some (.inl (2, p1)) else (idx p2.Cols 0).bind (fun x64 => (r14_Col p1 x64.Name).bind (fun r70 => (bif (decide (r70 ≥ 0)) then some (.inl (19, p1)) else (idx p2.Cols 0).bind (fun x84 => (app 32 r22.Cols ([x84] : List qL)).bind (fun x93 => some (.inr (z_qT, x93, r22.Cons, r22.Idx)))))))) else ((bif (p2.Kind == 4) then (r14_Col p1 p2.Name).bind (fun r129 => (bif (decide (r129 < 0)) then some (.inl (4, p1)) else ((bif ((p1.Cols.length : Int) == 1) then some true else (r14_Used p1).bind (fun r171 => (r14_Has r171 p2.Name).bind (fun r177 => some r177)))).bind (fun (j154 : Bool) => ((bif j154 then some true else ((bif (!sEq p2.Name eB) then (r17_refers_nilsl p0 p1.Name eB p2.Name).bind (fun r201 => some r201) else some false)).bind (fun (j192 : Bool) => some j192))).bind (fun (j188 : Bool) => (bif j188 then some (.inl (34, p1)) else (sub p1.Cols 0 r129).bind (fun x224 => (app 32 ([] : List qL) x224).bind (fun x227 => (sub p1.Cols (w64 (r129 + 1)) (p1.Cols.length : Int)).bind (fun x239 => (app 32 x227 x239).bind (fun x241 => some (.inr (z_qT, x241, r22.Cons, r22.Idx))))))))))) else ((bif (p2.Kind == 6) then (bif ((p2.Cons.length : Int) != 1) then some (.inl (2, p1)) else (idx p2.Cons 0).bind (fun x292 => (r14_Has r35 x292.Name).bind (fun r298 => (bif r298 then some (.inl (19, p1)) else (bif (decide ((p1.Cons.length : Int) ≥ 6)) then some (.inl (5, p1)) else (idx p2.Cons 0).bind (fun x323 => (app 176 r22.Cons ([x323] : List qK)).bind (fun x332 => some (.inr (z_qT, x332, r22.Idx))))))))) else ((bif (p2.Kind == 8) then (r14_Has r35 p2.Name).bind (fun r367 => (bif r367 then some (.inl (19, p1)) else (bif (decide ((p1.Idx.length : Int) ≥ 3)) then some (.inl (5, p1)) else (app 40 r22.Idx ([(⟨p2.Name, p2.Names⟩ : qI)] : List qI)).bind (fun x410 => some (.inr (z_qT, x410)))))) else (bif (p2.Kind == 7) then (r17_dropped p0 p1 p2.Name).bind (fun (r440, r441) => some (.inl (r441, r440))) else (bif (p2.Kind == 9) then (forN (fun (i458 : Nat) (s : qT × (List qI)) => match s with | (s456, s457) => (idx p1.Idx (i458 : Int)).bind (fun x476 => (bif (sEq x476.Name p2.Name) then (sub p1.Idx 0 (i458 : Int)).bind (fun x484 => (app 40 ([] : List qI) x484).bind (fun x487 => (sub p1.Idx (w64 ((i458 : Int) + 1)) (p1.Idx.length : Int)).bind (fun x499 => (app 40 x487 x499).bind (fun x501 => some (.inr ((0 : Int), { r22 with Cols := r22.Cols, Cons := r22.Cons, Idx := x501 })))))) else some (.inl (s456, s457))))) p1.Idx.length 0 (z_qT, r22.Idx)).bind (fun (t : (qT × (List qI)) ⊕ ((Int × qT))) => match t with | .inl (s456, s457) => some (.inl (4, p1)) | .inr (s530, s531) => some (.inl (s530, s531))) else some (.inr (z_qT, r22.Idx)))))).bind (fun (t : (Int × qT) ⊕ (qT × (List qI))) => match t with | (.inl (s372, s373)) => some (.inl (s372, s373)) | (.inr (s422, s423)) => some (.inr (s422, r22.Cons, s423))))).bind (fun (t : (Int × qT) ⊕ (qT × (List qK) × (List qI))) => match t with | (.inl (s274, s275)) => some (.inl (s274, s275)) | (.inr (s344, s345, s346)) => some (.inr (s344, r22.Cols, s345, s346))))).bind (fun (t : (Int × qT) ⊕ (qT × (List qL) × (List qK) × (List qI))) => match t with | (.inl (s134, s135)) => some (.inl (s134, s135)) | (.inr (s251, s252, s253, s254)) => some (.inr (s251, s252, s253, s254))))).bind (fun (t : (Int × qT) ⊕ (qT × (List qL) × (List qK) × (List qI))) => match t with | (.inl (s44, s45)) => some (s45, s44) | (.inr (s105, s106, s107, s108)) => some ({ r22 with Cols := s106, Cons := s107, Idx := s108 }, 0))))
theorem r17_turned_ok {p0 : qC} {p1 : qT} {p2 : qS} {w_p0 : W_qC} {w_p1 : W_qT} {w_p2 : W_qS} (h_p0 : ok_qC I p0 w_p0) (h_p1 : ok_qT I p1 w_p1) (h_p2 : ok_qS I p2 w_p2) (hS : St E w I Os) {r : qT × Int} (D : r17_turned p0 p1 p2 = some r) :
    Calls P 91 #[(vC p0 w_p0), (vT p1 w_p1), (vS p2 w_p2)] w (fun e w' => ∃ I' w_rw0, e = .returned (.tuple #[(vT r.1 w_rw0), (Iv r.2)]) ∧ I.Le I' ∧ St E w' I' Os ∧ ok_qT I' r.1 w_rw0) := by
 refine calls_W (fn := Tryz.f91) rfl rfl rfl ?_
 unfold r17_turned at D
 refine yf nL5 (yz hS (cs_qC p0 w_p0) 33 z fun b1 w4 S3 => yz S3 (cs_qT p1 w_p1) 104 z fun b5 w8 S7 => yz S7 (cs_qS p2 w_p2) 66 z fun b9 w12 S11 => yz S11 (cs_qT z_qT zw_qT) 104 z fun b13 w16 S15 => ya 4 1 z (y0 nL4 (yx ((cs_qT p1 w_p1)) (S15.rf m2) z (bsk D fun r22 Xr17 D => yai (r17_Copy_ok h_p1 S15 Xr17) ?_))))
 rintro _ w18 ⟨I19, w_r22, C_r22_3, C_r22_4, C_r22_5, rfl, L20, S21, h_r22_3, h_r22_4, h_r22_5⟩
 refine cv (yz S21 (cs_qT z_qT zw_qT) 104 z fun b23 w26 S25 => y7 S25 0 (cs_qT ({ r22 with Cols := r22.Cols, Cons := r22.Cons, Idx := r22.Idx }) (⟨⟨w_r22.Cols.a, w_r22.Cols.c⟩, ⟨w_r22.Cons.a, w_r22.Cons.c⟩, ⟨w_r22.Idx.a, w_r22.Idx.c⟩⟩ : W_qT)) fun w28 S27 => y0 nL7 (yx ((cs_qT p1 w_p1)) (S27.rf m6) z ?_))
 obtain ⟨⟨r34, r35⟩, Xr29, D⟩ := bsm D
 refine yai (r14_Names_ok (h_p1.mono L20) S27 Xr29) ?_
 rintro _ w30 ⟨I31, a_r34, c_r34, a_r35, c_r35, rfl, L32, S33, h_r34, h_r35⟩
 refine cv (ya 2 5 z (yb (W.seq (yf nL2 (yg 0 1 [0] z (yj (S33.rf m5) z (yb (yl (yf nL2 (ya 0 2 z (yb (bsk D fun j36 R1 D => yav (J := (fun fr w => ∃ (s105 : qT) (s106 : List qL) (s107 : List qK) (s108 : List qI), ∃ I38 w_s105 a_s106 c_s106 C_s106 a_s107 c_s107 C_s107 a_s108 c_s108 C_s108, (.inr (s105, s106, s107, s108)) = j36 ∧ fr = [(6, Pt b13 0), (8, Pt b23 0)] ∧ I31.Le I38 ∧ St E w I38 (bT b13 s105 w_s105 :: (Bx b23 (cs_qT ({ r22 with Cols := s106, Cons := s107, Idx := s108 }) (⟨⟨a_s106, c_s106⟩, ⟨a_s107, c_s107⟩, ⟨a_s108, c_s108⟩⟩ : W_qT)) 104) :: (C_s106) :: (C_s107) :: (C_s108) :: Os) ∧ ok_qT I38 s105 w_s105 ∧ OwnSl 114 3 R_qL I38 C_s106 a_s106 c_s106 s106 ∧ OwnSl 116 12 R_qK I38 C_s107 a_s107 c_s107 s107 ∧ OwnSl 163 2 R_qI I38 C_s108 a_s108 c_s108 s108)) ?_ ?_))))))))))))
 refine yy R1 (fun G R1 => ?_) (fun G R1 => ?_)
 refine W.seq (yf nL4 (yg 0 1 [4] z (yj (S33.rf m5) z (ya 2 2 z (yb (yy R1 (fun G R1 => ?_) (fun G R1 => ?_)))))))
 refine yf nL3 (yx ((cs_qT p1 w_p1)) (S33.rf m6) z (y7 S33.front4 0 (cs_qT p1 w_p1) fun w42 S41 => ya 2 1 z (yb (yq (yh (yu ?_))))))
 obtain rfl := sj R1
 exact ym (yh (sj D ▸ ya1 _ (S41.rd m0) ⟨I31, w_p1, rfl, le, S41.d8, (h_p1.mono le)⟩))
 refine W.skip (ye (W.seq (W.seq (have S62 := S33.drew; yba nL8 6 (yv (S62.rd m5) (yv (S62.rd m6) (yad S62.im))) ?_))))
 generalize World.drew _ = w63 at *
 refine yx ((cs_qT p1 w_p1)) (rd_c m1 (S62.rd m6)) z (yg 1 1 [4] z (yj (rd_c m0 (S62.rd m5)) z ?_))
 obtain ⟨x64, R1, Hx64, _, rfl, Zx64⟩ := sx I31 h_p2.Cols R1
 refine yaa 114 3 Hx64 z (yg 4 1 [0] z (yao Zx64 (rd_i S62.im) z (WO.tail z (bsk R1 fun r70 Xr65 R1 => WO.c1 (r14_Col_ok (h_p1.mono le) S62 Xr65) z fun I67 w66 L68 S69 => ya 7 1 z (yb (yy R1 (fun G R1 => ?_) (fun G R1 => ?_)))))))
 refine yf nL3 (yx ((cs_qT p1 w_p1)) (S69.rf m6) z (y7 S69.front4 0 (cs_qT p1 w_p1) fun w73 S72 => ya 2 1 z (yb (yq (yh (yu ?_))))))
 obtain rfl := sj R1
 exact ym (yh (sj D ▸ ya1 _ (S72.rd m0) ⟨I67, w_p1, rfl, le, S72.d8, (h_p1.mono le)⟩))
 refine W.skip (ye (have S82 := S69.drew; yba nL10 7 (yv (S82.rd m0) (yv (S82.rd m5) (yad S82.im))) ?_))
 generalize World.drew _ = w83 at *
 refine yg 0 1 [3] z (yj (rd_c m0 (S82.rd m0)) z (yg 2 1 [4] z (yj (rd_c m1 (S82.rd m5)) z ?_)))
 obtain ⟨x84, R1, Hx84, _, rfl, Zx84⟩ := sx I67 h_p2.Cols R1
 refine yaa 114 3 Hx84 z (yau ((cs_qL x84)) Zx84 0 (rd_i S82.im) z (yab (rel := R_qL) (xs := ([x84] : List qL)) S82 z kr z 114 3 [(cs_qL x84)] kr z ((Elr.cons z Elr.nil)) (fun C86 w90 S89 => (yv (S89.rd m1) (yv (S89.rd m6) (yad S89.im)))) ?_))
 intro a88 C86 w90 S89 ho87
 exact WO.tail z (have S92 := S89.front2; apk R1 fun x93 h0_x93 he_x93 R1 => yax 114 32 (cs_qL z_qL) S92 (OwnSl.mono h_r22_3 le) ho87.sl (S92.rd m1) h0_x93 he_x93 z fun a94 c95 w96 C97 S98 ho99 => yg 8 1 [3] z (y7 S98.front1.drop.front1 3 (cs_qT ({ r22 with Cols := x93, Cons := r22.Cons, Idx := r22.Idx }) (⟨⟨a94, c95⟩, ⟨w_r22.Cons.a, w_r22.Cons.c⟩, ⟨w_r22.Idx.a, w_r22.Idx.c⟩⟩ : W_qT)) fun w104 S103 => yp (yt ⟨z_qT, x93, r22.Cons, r22.Idx, I67, zw_qT, a94, c95, C97, w_r22.Cons.a, w_r22.Cons.c, C_r22_4, w_r22.Idx.a, w_r22.Idx.c, C_r22_5, sj R1, rfl, L68, S103.front5.drop.front5.drop.front5.drop.front3.front3.front3.front3.front4, zok_qT, ho99, (OwnSl.mono h_r22_4 le), (OwnSl.mono h_r22_5 le)⟩)))
 refine yf nL2 (ya 0 2 z (yb (bsk R1 fun j120 R2 R1 => yav (J := (fun fr w => ∃ (s251 : qT) (s252 : List qL) (s253 : List qK) (s254 : List qI), ∃ I122 w_s251 a_s252 c_s252 C_s252 a_s253 c_s253 C_s253 a_s254 c_s254 C_s254, (.inr (s251, s252, s253, s254)) = j120 ∧ fr = [(6, Pt b13 0), (8, Pt b23 0)] ∧ I31.Le I122 ∧ St E w I122 (bT b13 s251 w_s251 :: (Bx b23 (cs_qT ({ r22 with Cols := s252, Cons := s253, Idx := s254 }) (⟨⟨a_s252, c_s252⟩, ⟨a_s253, c_s253⟩, ⟨a_s254, c_s254⟩⟩ : W_qT)) 104) :: (C_s252) :: (C_s253) :: (C_s254) :: Os) ∧ ok_qT I122 s251 w_s251 ∧ OwnSl 114 3 R_qL I122 C_s252 a_s252 c_s252 s252 ∧ OwnSl 116 12 R_qK I122 C_s253 a_s253 c_s253 s253 ∧ OwnSl 163 2 R_qI I122 C_s254 a_s254 c_s254 s254)) ?_ ?_)))
 refine yy R2 (fun G R2 => ?_) (fun G R2 => ?_)
 refine yf nL5 (yx ((cs_qT p1 w_p1)) (S33.rf m6) z (yg 1 1 [2] z (yj (S33.rf m5) z (bsk R2 fun r129 Xr124 R2 => WO.c1 (r14_Col_ok (h_p1.mono le) S33 Xr124) z fun I126 w125 L127 S128 => ya 4 1 z (yb (W.seq (yf nL2 (ya 0 2 z (yb (yy R2 (fun G R2 => ?_) (fun G R2 => ?_)))))))))))
 refine yf nL3 (yx ((cs_qT p1 w_p1)) (S128.rf m6) z (y7 S128.front4 0 (cs_qT p1 w_p1) fun w132 S131 => ya 2 1 z (yb (yq (yh (yu ?_))))))
 obtain rfl := sj R2
 refine yu ?_
 obtain rfl := sj R1
 exact ym (yh (sj D ▸ ya1 _ (S131.rd m0) ⟨I126, w_p1, rfl, le, S131.d8, (h_p1.mono le)⟩))
 refine W.skip (ye (W.seq (W.seq (have S152 := S128.drew; yba nL24 24 (yv (S152.rd m5) (yv (S152.rd m6) (yv (S152.rd m7) (yad S152.im)))) ?_))))
 generalize World.drew _ = w153 at *
 refine yg 0 1 [3] z (yj (rd_c m1 (S152.rd m6)) z (ya 2 3 z (bsk R2 fun j154 R3 R2 => yal (l1 := [5, 6, 7, 8, 9, 10]) (J := JI E I126 [(3, Pt b1 0), (4, Pt b5 0), (5, Pt b9 0), (6, Pt b13 0), (8, Pt b23 0), (11, Iv r129), (66, .bool j154)] (bC b1 p0 w_p0 :: (bT b5 p1 w_p1) :: (bS b9 p2 w_p2) :: (bT b13 z_qT zw_qT) :: (Bx b23 (cs_qT ({ r22 with Cols := r22.Cols, Cons := r22.Cons, Idx := r22.Idx }) (⟨⟨w_r22.Cols.a, w_r22.Cols.c⟩, ⟨w_r22.Cons.a, w_r22.Cons.c⟩, ⟨w_r22.Idx.a, w_r22.Idx.c⟩⟩ : W_qT)) 104) :: (C_r22_3) :: (C_r22_4) :: (C_r22_5) :: Os)) ?_ ?_)))
 refine yak R3 (fun G R3 => ?_) (fun G R3 => ?_)
 refine y6 60 G ?_
 iterate 5 refine yaj ?_
 exact ya 10 1 z (sj R3 ▸ y4 ⟨I126, rfl, lr, S152.front3.front3.front3.front3.front4.front5.front6.front7⟩)
 refine y6 60 G (yx ((cs_qT p1 w_p1)) (rd_c m1 (S152.rd m6)) z (bsk R3 fun r171 Xr166 R3 => yai (r14_Used_ok (h_p1.mono le) S152 Xr166) ?_))
 rintro _ w167 ⟨I168, a_r171, c_r171, rfl, L169, S170, h_r171⟩
 refine ⟨_, rfl, (yv (S170.rd m5) (yv (S170.rd m6) (yv (S170.rd m7) (yad (S170.im.of_le L169))))), ?_⟩
 refine yg 7 1 [2] z (yj (rd_c m0 (S170.rd m5)) z (bsk R3 fun r177 Xr172 R3 => yai (r14_Has_ok h_r171 S170 Xr172) ?_))
 rintro _ w173 ⟨I174, rfl, L175, S176⟩
 refine ⟨_, rfl, (yv (S176.rd m5) (yv (S176.rd m6) (yv (S176.rd m7) (yad (S176.im.of_le le))))), ?_⟩
 exact ya 10 1 z (sj R3 ▸ y4 ⟨I174, rfl, le, S176.front3.front3.front3.front3.front4.front5.front6.front7⟩)
 rintro _ w186 ⟨I156, rfl, L157, S187⟩
 refine ya 11 1 z (bsk R2 fun j188 R3 R2 => yal (l1 := [12, 13, 14, 15, 16, 17, 18, 19, 20, 21, 22, 23]) (J := JI E I156 [(4, Pt b5 0), (6, Pt b13 0), (8, Pt b23 0), (11, Iv r129), (79, .bool j188)] (bC b1 p0 w_p0 :: (bT b5 p1 w_p1) :: (bS b9 p2 w_p2) :: (bT b13 z_qT zw_qT) :: (Bx b23 (cs_qT ({ r22 with Cols := r22.Cols, Cons := r22.Cons, Idx := r22.Idx }) (⟨⟨w_r22.Cols.a, w_r22.Cols.c⟩, ⟨w_r22.Cons.a, w_r22.Cons.c⟩, ⟨w_r22.Idx.a, w_r22.Idx.c⟩⟩ : W_qT)) 104) :: (C_r22_3) :: (C_r22_4) :: (C_r22_5) :: Os)) ?_ ?_)
 refine yak R3 (fun G R3 => ?_) (fun G R3 => ?_)
 refine y6 67 G ?_
 iterate 11 refine yaj ?_
 exact ya 23 1 z (sj R3 ▸ y4 ⟨I156, rfl, lr, S187⟩)
 refine y6 67 G (yg 12 1 [2] z (yj (rd_c m0 (S187.rd m2)) z (ya 14 2 z (bsk R3 fun j192 R4 R3 => yal (l1 := [16, 17, 18, 19, 20, 21, 22]) (J := JI E I156 [(4, Pt b5 0), (6, Pt b13 0), (8, Pt b23 0), (11, Iv r129), (67, .bool false), (78, .bool j192)] (bC b1 p0 w_p0 :: (bT b5 p1 w_p1) :: (bS b9 p2 w_p2) :: (bT b13 z_qT zw_qT) :: (Bx b23 (cs_qT ({ r22 with Cols := r22.Cols, Cons := r22.Cons, Idx := r22.Idx }) (⟨⟨w_r22.Cols.a, w_r22.Cols.c⟩, ⟨w_r22.Cons.a, w_r22.Cons.c⟩, ⟨w_r22.Idx.a, w_r22.Idx.c⟩⟩ : W_qT)) 104) :: (C_r22_3) :: (C_r22_4) :: (C_r22_5) :: Os)) ?_ ?_))))
 refine yak R4 (fun G R4 => ?_) (fun G R4 => ?_)
 refine y6 71 G (yx ((cs_qC p0 w_p0)) (rd_c m2 (S187.rd m0)) z (yg 17 1 [0] z (yj (rd_c m1 (S187.rd m1)) z (yg 19 1 [2] z (yj (rd_c m0 (S187.rd m2)) z (bsk R4 fun r201 Xr196 R4 => yai (r17_refers_nilsl_ok (h_p0.mono le) S187 Xr196) ?_))))))
 rintro _ w197 ⟨I198, rfl, L199, S200⟩
 refine ⟨_, rfl, (yv (S200.rd m2) (yv (S200.rd m1) (yv (S200.rd m0) (yad (S200.im.of_le le))))), ?_⟩
 exact ya 22 1 z (sj R4 ▸ y4 ⟨I198, rfl, L199, S200⟩)
 refine y6 71 G ?_
 iterate 6 refine yaj ?_
 exact ya 22 1 z (sj R4 ▸ y4 ⟨I156, rfl, lr, S187⟩)
 rintro _ w202 ⟨I194, rfl, L195, S203⟩
 exact ya 23 1 z (sj R3 ▸ y4 ⟨I194, rfl, L195, S203⟩)
 rintro _ w204 ⟨I190, rfl, L191, S205⟩
 refine yb (yy R2 (fun G R2 => ?_) (fun G R2 => ?_))
 refine yf nL3 (yx ((cs_qT p1 w_p1)) (S205.rf m1) z (y7 S205.front3 0 (cs_qT p1 w_p1) fun w208 S207 => ya 2 1 z (yb (yq (yh (yu ?_))))))
 obtain rfl := sj R2
 refine yu ?_
 obtain rfl := sj R1
 exact ym (yh (sj D ▸ ya1 _ (S207.rd m0) ⟨I190, w_p1, rfl, le, S207.d8, (h_p1.mono le)⟩))
 refine W.skip (ye (yf nL2 (yg 0 1 [3] z (y7 S205.front4 3 (cs_qT ({ r22 with Cols := ([] : List qL), Cons := r22.Cons, Idx := r22.Idx }) (⟨⟨none, 0⟩, ⟨w_r22.Cons.a, w_r22.Cons.c⟩, ⟨w_r22.Idx.a, w_r22.Idx.c⟩⟩ : W_qT)) fun w219 S218 => yb (W.seq (have S222 := S218.front5.drop.drew; yba nL9 6 (yv (S222.rd m0) (yv (S222.rd m2) (yad S222.im))) ?_))))))
 generalize World.drew _ = w223 at *
 refine yg 0 1 [3] z (yj (rd_c m0 (S222.rd m0)) z (yg 2 1 [3] z (yj (rd_c m1 (S222.rd m2)) z (ya 4 1 z ?_))))
 obtain ⟨x224, Xx224, R2⟩ := bsm R2
 obtain ⟨h0_x224, h1_x224, h2_x224, he_x224⟩ := sub_some Xx224
 have hl_x224 : (r129 : Int) ≤ (w_p1.Cols.c : Int) := Int.le_trans h2_x224 (Int.ofNat_le.2 ((RSl.mono h_p1.Cols ((((L20.trans L32).trans L127).trans L157).trans L191))).le)
 refine ya3 (e := 114) (sz := 3) z kr kr kr z (0 : Int) (r129 : Int) h0_x224 (.inl ⟨rfl, rfl⟩) (.inr ⟨_, _, rfl, rfl⟩) h1_x224 hl_x224 ?_
 obtain ⟨a_x224, c_x224, h_x224, ev_x224⟩ := sub_ok ((RSl.mono h_p1.Cols ((((L20.trans L32).trans L127).trans L157).trans L191))) h0_x224 h1_x224 h2_x224 he_x224
 refine yae 87 z ev_x224 ?_
 refine WO.tail z (have S226 := S222.no; apk R2 fun x227 h0_x227 he_x227 R2 => ya7 (e' := 114) (b := 32) (zs := (cs_qL z_qL).toArray) S226 (OwnSl.nil (T := 114) (rel := R_qL) (I := I190)) z kr z kr kr kr z z z z h_x224 S226.im h0_x227 he_x227 tv ?_)
 intro a228 c229 w230 C231 S232 ho233
 refine yg 7 1 [3] z (y7 S232.front1 3 (cs_qT ({ r22 with Cols := x227, Cons := r22.Cons, Idx := r22.Idx }) (⟨⟨a228, c229⟩, ⟨w_r22.Cons.a, w_r22.Cons.c⟩, ⟨w_r22.Idx.a, w_r22.Idx.c⟩⟩ : W_qT)) fun w236 S235 => yb (have S237 := S235.drew; yba nL10 7 (yv (S237.rd m0) (yv (S237.rd m3) (yad S237.im))) ?_))
 generalize World.drew _ = w238 at *
 refine yg 0 1 [3] z (yj (rd_c m0 (S237.rd m0)) z (yg 2 1 [3] z (yj (rd_c m1 (S237.rd m3)) z (ya 4 2 z ?_))))
 obtain ⟨x239, Xx239, R2⟩ := bsm R2
 obtain ⟨h0_x239, h1_x239, h2_x239, he_x239⟩ := sub_some Xx239
 have hl_x239 : ((p1.Cols.length : Int) : Int) ≤ (w_p1.Cols.c : Int) := Int.le_trans h2_x239 (Int.ofNat_le.2 ((RSl.mono h_p1.Cols ((((L20.trans L32).trans L127).trans L157).trans L191))).le)
 refine ya3 (e := 114) (sz := 3) z kr kr kr z ((w64 (r129 + 1)) : Int) ((p1.Cols.length : Int) : Int) h0_x239 (.inr ⟨_, _, rfl, rfl⟩) (.inl ⟨rfl, rfl⟩) h1_x239 hl_x239 ?_
 obtain ⟨a_x239, c_x239, h_x239, ev_x239⟩ := sub_ok ((RSl.mono h_p1.Cols ((((L20.trans L32).trans L127).trans L157).trans L191))) h0_x239 h1_x239 h2_x239 he_x239
 refine yae 96 z ev_x239 ?_
 exact WO.tail z (have S240 := S237.front1; apk R2 fun x241 h0_x241 he_x241 R2 => yax 114 32 (cs_qL z_qL) S240 ho233 h_x239 S240.im h0_x241 he_x241 z fun a242 c243 w244 C245 S246 ho247 => yg 8 1 [3] z (y7 S246.front1 3 (cs_qT ({ r22 with Cols := x241, Cons := r22.Cons, Idx := r22.Idx }) (⟨⟨a242, c243⟩, ⟨w_r22.Cons.a, w_r22.Cons.c⟩, ⟨w_r22.Idx.a, w_r22.Idx.c⟩⟩ : W_qT)) fun w250 S249 => yp (yt ⟨z_qT, x241, r22.Cons, r22.Idx, I190, zw_qT, a242, c243, C245, w_r22.Cons.a, w_r22.Cons.c, C_r22_4, w_r22.Idx.a, w_r22.Idx.c, C_r22_5, sj R2, rfl, le, S249.front2.drop.front2.drop.front2.drop.front4.front4.front3.front3.front4, zok_qT, ho247, (OwnSl.mono h_r22_4 le), (OwnSl.mono h_r22_5 le)⟩)))
 refine yf nL2 (ya 0 2 z (yb (bsk R2 fun j266 R3 R2 => yav (J := (fun fr w => ∃ (s344 : qT) (s345 : List qK) (s346 : List qI), ∃ I268 w_s344 a_s345 c_s345 C_s345 a_s346 c_s346 C_s346, (.inr (s344, s345, s346)) = j266 ∧ fr = [(6, Pt b13 0), (8, Pt b23 0)] ∧ I31.Le I268 ∧ St E w I268 (bT b13 s344 w_s344 :: (Bx b23 (cs_qT ({ r22 with Cols := r22.Cols, Cons := s345, Idx := s346 }) (⟨⟨w_r22.Cols.a, w_r22.Cols.c⟩, ⟨a_s345, c_s345⟩, ⟨a_s346, c_s346⟩⟩ : W_qT)) 104) :: (C_r22_3) :: (C_s345) :: (C_s346) :: Os) ∧ ok_qT I268 s344 w_s344 ∧ OwnSl 116 12 R_qK I268 C_s345 a_s345 c_s345 s345 ∧ OwnSl 163 2 R_qI I268 C_s346 a_s346 c_s346 s346)) ?_ ?_)))
 refine yy R3 (fun G R3 => ?_) (fun G R3 => ?_)
 refine W.seq (yf nL4 (yg 0 1 [5] z (yj (S33.rf m5) z (ya 2 2 z (yb (yy R3 (fun G R3 => ?_) (fun G R3 => ?_)))))))
 refine yf nL3 (yx ((cs_qT p1 w_p1)) (S33.rf m6) z (y7 S33.front4 0 (cs_qT p1 w_p1) fun w272 S271 => ya 2 1 z (yb (yq (yh (yu ?_))))))
 obtain rfl := sj R3
 refine yu ?_
 obtain rfl := sj R2
 refine yu ?_
 obtain rfl := sj R1
 exact ym (yh (sj D ▸ ya1 _ (S271.rd m0) ⟨I31, w_p1, rfl, le, S271.d8, (h_p1.mono le)⟩))
 refine W.skip (ye (W.seq (yf nL7 (yg 0 2 [5] z (yj (S33.rf m5) z ?_)))))
 obtain ⟨x292, R3, Hx292, _, ⟨w_x292, rfl, h_x292⟩, Zx292⟩ := sx I31 h_p2.Cons R3
 refine yaa 116 12 Hx292 z (yg 4 1 [0] z (yao Zx292 S33.rm z (bsk R3 fun r298 Xr293 R3 => WO.c1 (r14_Has_ok h_r35 S33 Xr293) z fun I295 w294 L296 S297 => yb (yy R3 (fun G R3 => ?_) (fun G R3 => ?_)))))
 refine yf nL3 (yx ((cs_qT p1 w_p1)) (S297.rf m6) z (y7 S297.front4 0 (cs_qT p1 w_p1) fun w301 S300 => ya 2 1 z (yb (yq (yh (yu ?_))))))
 obtain rfl := sj R3
 refine yu ?_
 obtain rfl := sj R2
 refine yu ?_
 obtain rfl := sj R1
 exact ym (yh (sj D ▸ ya1 _ (S300.rd m0) ⟨I295, w_p1, rfl, le, S300.d8, (h_p1.mono le)⟩))
 refine W.skip (ye (W.seq (yf nL4 (yg 0 1 [4] z (yj (S297.rf m6) z (ya 2 2 z (yb (yy R3 (fun G R3 => ?_) (fun G R3 => ?_)))))))))
 refine yf nL3 (yx ((cs_qT p1 w_p1)) (S297.rf m6) z (y7 S297.front4 0 (cs_qT p1 w_p1) fun w312 S311 => ya 2 1 z (yb (yq (yh (yu ?_))))))
 obtain rfl := sj R3
 refine yu ?_
 obtain rfl := sj R2
 refine yu ?_
 obtain rfl := sj R1
 exact ym (yh (sj D ▸ ya1 _ (S311.rd m0) ⟨I295, w_p1, rfl, le, S311.d8, (h_p1.mono le)⟩))
 refine W.skip (ye (have S321 := S297.drew; yba nL10 7 (yv (S321.rd m0) (yv (S321.rd m5) (yad S321.im))) ?_))
 generalize World.drew _ = w322 at *
 refine yg 0 1 [4] z (yj (rd_c m0 (S321.rd m0)) z (yg 2 1 [5] z (yj (rd_c m1 (S321.rd m5)) z ?_)))
 obtain ⟨x323, R3, Hx323, _, ⟨w_x323, rfl, h_x323⟩, Zx323⟩ := sx I295 h_p2.Cons R3
 refine yaa 116 12 Hx323 z (yau ((cs_qK x323 w_x323)) Zx323 0 (rd_i S321.im) z (yab (rel := R_qK) (xs := ([x323] : List qK)) S321 z kr z 116 12 [(cs_qK x323 w_x323)] kr z ((Elr.cons ⟨w_x323, rfl, h_x323⟩ Elr.nil)) (fun C325 w329 S328 => (yv (S328.rd m1) (yv (S328.rd m6) (yad S328.im)))) ?_))
 intro a327 C325 w329 S328 ho326
 exact WO.tail z (have S331 := S328.front3; apk R3 fun x332 h0_x332 he_x332 R3 => yax 116 176 (cs_qK z_qK zw_qK) S331 (OwnSl.mono h_r22_4 le) ho326.sl (S331.rd m1) h0_x332 he_x332 z fun a333 c334 w335 C336 S337 ho338 => yg 8 1 [4] z (y7 S337.front1.drop.front1 4 (cs_qT ({ r22 with Cols := r22.Cols, Cons := x332, Idx := r22.Idx }) (⟨⟨w_r22.Cols.a, w_r22.Cols.c⟩, ⟨a333, c334⟩, ⟨w_r22.Idx.a, w_r22.Idx.c⟩⟩ : W_qT)) fun w343 S342 => yp (yt ⟨z_qT, x332, r22.Idx, I295, zw_qT, a333, c334, C336, w_r22.Idx.a, w_r22.Idx.c, C_r22_5, sj R3, rfl, L296, S342.front5.drop.front5.drop.front5.drop.front3.front2.front3.front3.front4, zok_qT, ho338, (OwnSl.mono h_r22_5 le)⟩)))
 refine yf nL2 (ya 0 2 z (yb (bsk R3 fun j358 R4 R3 => yav (J := (fun fr w => ∃ (s422 : qT) (s423 : List qI), ∃ I360 w_s422 a_s423 c_s423 C_s423, (.inr (s422, s423)) = j358 ∧ fr = [(6, Pt b13 0), (8, Pt b23 0)] ∧ I31.Le I360 ∧ St E w I360 (bT b13 s422 w_s422 :: (Bx b23 (cs_qT ({ r22 with Cols := r22.Cols, Cons := r22.Cons, Idx := s423 }) (⟨⟨w_r22.Cols.a, w_r22.Cols.c⟩, ⟨w_r22.Cons.a, w_r22.Cons.c⟩, ⟨a_s423, c_s423⟩⟩ : W_qT)) 104) :: (C_r22_3) :: (C_r22_4) :: (C_s423) :: Os) ∧ ok_qT I360 s422 w_s422 ∧ OwnSl 163 2 R_qI I360 C_s423 a_s423 c_s423 s423)) ?_ ?_)))
 refine yy R4 (fun G R4 => ?_) (fun G R4 => ?_)
 refine W.seq (yf nL4 (yg 0 2 [2] z (yj (S33.rf m5) z (bsk R4 fun r367 Xr362 R4 => WO.c1 (r14_Has_ok h_r35 S33 Xr362) z fun I364 w363 L365 S366 => yb (yy R4 (fun G R4 => ?_) (fun G R4 => ?_))))))
 refine yf nL3 (yx ((cs_qT p1 w_p1)) (S366.rf m6) z (y7 S366.front4 0 (cs_qT p1 w_p1) fun w370 S369 => ya 2 1 z (yb (yq (yh (yu ?_))))))
 obtain rfl := sj R4
 refine yu ?_
 obtain rfl := sj R3
 refine yu ?_
 obtain rfl := sj R2
 refine yu ?_
 obtain rfl := sj R1
 exact ym (yh (sj D ▸ ya1 _ (S369.rd m0) ⟨I364, w_p1, rfl, le, S369.d8, (h_p1.mono le)⟩))
 refine W.skip (ye (W.seq (yf nL4 (yg 0 1 [5] z (yj (S366.rf m6) z (ya 2 2 z (yb (yy R4 (fun G R4 => ?_) (fun G R4 => ?_)))))))))
 refine yf nL3 (yx ((cs_qT p1 w_p1)) (S366.rf m6) z (y7 S366.front4 0 (cs_qT p1 w_p1) fun w392 S391 => ya 2 1 z (yb (yq (yh (yu ?_))))))
 obtain rfl := sj R4
 refine yu ?_
 obtain rfl := sj R3
 refine yu ?_
 obtain rfl := sj R2
 refine yu ?_
 obtain rfl := sj R1
 exact ym (yh (sj D ▸ ya1 _ (S391.rd m0) ⟨I364, w_p1, rfl, le, S391.d8, (h_p1.mono le)⟩))
 refine W.skip (ye (yag nL11 (yg 0 1 [5] z (yj (S366.rf m0) z (yg 2 1 [2] z (yj (S366.rf m5) z (yg 4 1 [6] z (yj (S366.rf m5) z (y8 6 146 (.agg (cs_qI (⟨p2.Name, p2.Names⟩ : qI) (⟨⟨w_p2.Names.a, w_p2.Names.c⟩⟩ : W_qI)).toArray) ?_)))))))))
 have hk408 : ok_qI I364 (⟨p2.Name, p2.Names⟩ : qI) (⟨⟨w_p2.Names.a, w_p2.Names.c⟩⟩ : W_qI) := ⟨(RSl.mono h_p2.Names ((L20.trans L32).trans L365))⟩
 refine yab (rel := R_qI) (xs := ([(⟨p2.Name, p2.Names⟩ : qI)] : List qI)) S366 z kr z 163 2 [(cs_qI (⟨p2.Name, p2.Names⟩ : qI) (⟨⟨w_p2.Names.a, w_p2.Names.c⟩⟩ : W_qI))] kr z ((Elr.cons ⟨(⟨⟨w_p2.Names.a, w_p2.Names.c⟩⟩ : W_qI), rfl, hk408⟩ Elr.nil)) tv ?_
 intro a404 C402 w406 S405 ho403
 have S409 := S405.front4
 exact apk R4 fun x410 h0_x410 he_x410 R4 => yax 163 40 (cs_qI z_qI zw_qI) S409 (OwnSl.mono h_r22_5 le) ho403.sl (S409.rd m1) h0_x410 he_x410 z fun a411 c412 w413 C414 S415 ho416 => yg 9 1 [5] z (y7 S415.front1.drop.front1 5 (cs_qT ({ r22 with Cols := r22.Cols, Cons := r22.Cons, Idx := x410 }) (⟨⟨w_r22.Cols.a, w_r22.Cols.c⟩, ⟨w_r22.Cons.a, w_r22.Cons.c⟩, ⟨a411, c412⟩⟩ : W_qT)) fun w421 S420 => yp (yt ⟨z_qT, x410, I364, zw_qT, a411, c412, C414, sj R4, rfl, L365, S420.front5.drop.front5.drop.front5.drop.front1.front3.front3.front3.front4, zok_qT, ho416⟩))
 refine yf nL2 (ya 0 2 z (yb (yy R4 (fun G R4 => ?_) (fun G R4 => ?_))))
 refine yf nL9 (yx ((cs_qC p0 w_p0)) (S33.rf m7) z (yx ((cs_qT p1 w_p1)) (S33.rf m6) z (yg 2 1 [2] z (yj (S33.rf m5) z ?_))))
 obtain ⟨⟨r440, r441⟩, Xr435, R4⟩ := bsm R4
 refine yai (r17_dropped_ok (h_p0.mono le) (h_p1.mono le) S33 Xr435) ?_
 rintro _ w436 ⟨I437, w_r440, rfl, L438, S439, h_r440⟩
 refine cv (ya 5 2 z (y7 S439.front4 0 (cs_qT r440 w_r440) fun w444 S443 => ya 8 1 z (yb (yq (yu ?_)))))
 obtain rfl := sj R4
 refine yu ?_
 obtain rfl := sj R3
 refine yu ?_
 obtain rfl := sj R2
 refine yu ?_
 obtain rfl := sj R1
 exact ym (yh (sj D ▸ ya1 _ (S443.rd m0) ⟨I437, w_r440, rfl, le, S443.d8, h_r440⟩))
 refine yf nL2 (ya 0 2 z (yb (yy R4 (fun G R4 => ?_) (fun G R4 => ?_))))
 refine W.seq (yf [0] (ya 0 1 z (yb (yl (bsk R4 fun t453 hloop459 R4 => have hlt472 := ((RSl.mono h_p1.Idx (L20.trans L32))).len_lt; W.wk (yap (m := p1.Idx.length) hloop459 (fun (i458 : Nat) (s : qT × (List qI)) fr w => match s with | (s456, s457) => ∃ I454 w_s456 a_s457 c_s457 C_s457, fr = [(4, Pt b5 0), (5, Pt b9 0), (6, Pt b13 0), (8, Pt b23 0), (12, Nv i458)] ∧ I31.Le I454 ∧ St E w I454 (bT b5 p1 w_p1 :: (bS b9 p2 w_p2) :: (bT b13 s456 w_s456) :: (Bx b23 (cs_qT ({ r22 with Cols := r22.Cols, Cons := r22.Cons, Idx := s457 }) (⟨⟨w_r22.Cols.a, w_r22.Cols.c⟩, ⟨w_r22.Cons.a, w_r22.Cons.c⟩, ⟨a_s457, c_s457⟩⟩ : W_qT)) 104) :: (C_r22_3) :: (C_r22_4) :: (C_s457) :: Os) ∧ ok_qT I454 s456 w_s456 ∧ OwnSl 163 2 R_qI I454 C_s457 a_s457 c_s457 s457) ⟨I31, zw_qT, w_r22.Idx.a, w_r22.Idx.c, C_r22_5, rfl, lr, S33.front7.drop.front3.front3.front3.front3.front4.front5.front6, zok_qT, (OwnSl.mono h_r22_5 L32)⟩ ?_ ?_))))))
 rintro i458 ⟨s456, s457⟩ _ w469 hi473 ⟨I454, w_s456, a_s457, c_s457, C_s457, rfl, L455, S470, h_s456, h_s457⟩ x471 R5 hext453
 refine W.seq (yf nL5 (yg 0 2 [5] z (yj (S470.rf m0) z (ya 3 2 z (yb (yar fun _ => W.skip (ye (W.seq (yl (W.seq (have S474 := S470.drew; yba nL9 8 (yv (S474.rd m0) (yv (S474.rd m1) (yad S474.im))) ?_)))))))))))
 generalize World.drew _ = w475 at *
 refine yg 0 1 [5] z (yj (rd_c m0 (S474.rd m0)) z (ya 2 1 z ?_))
 obtain ⟨x476, R5, Hx476, _, ⟨w_x476, rfl, h_x476⟩, Zx476⟩ := sx I454 h_p1.Idx R5
 refine yaa 163 2 Hx476 z (yg 4 1 [0] z (yao Zx476 (rd_i S474.im) z (yg 6 1 [2] z (yj (rd_c m1 (S474.rd m1)) z (WO.tail z (ya 8 1 z (yb (yy R5 (fun G R5 => ?_) (fun G R5 => ?_)))))))))
 refine yf nL2 (yg 0 1 [5] z (y7 S474.front3 5 (cs_qT ({ r22 with Cols := r22.Cols, Cons := r22.Cons, Idx := ([] : List qI) }) (⟨⟨w_r22.Cols.a, w_r22.Cols.c⟩, ⟨w_r22.Cons.a, w_r22.Cons.c⟩, ⟨none, 0⟩⟩ : W_qT)) fun w479 S478 => yb (W.seq (have S482 := S478.front6.drop.drew; yba nL9 6 (yv (S482.rd m0) (yv (S482.rd m1) (yad S482.im))) ?_))))
 generalize World.drew _ = w483 at *
 refine yg 0 1 [5] z (yj (rd_c m0 (S482.rd m0)) z (yg 2 1 [5] z (yj (rd_c m1 (S482.rd m1)) z (ya 4 1 z ?_))))
 obtain ⟨x484, Xx484, R5⟩ := bsm R5
 obtain ⟨h0_x484, h1_x484, h2_x484, he_x484⟩ := sub_some Xx484
 have hl_x484 : ((i458 : Int) : Int) ≤ (w_p1.Idx.c : Int) := Int.le_trans h2_x484 (Int.ofNat_le.2 ((RSl.mono h_p1.Idx ((L20.trans L32).trans L455))).le)
 refine ya3 (e := 163) (sz := 2) z kr kr kr z (0 : Int) ((i458 : Int) : Int) h0_x484 (.inl ⟨rfl, rfl⟩) (.inr ⟨_, _, rfl, rfl⟩) h1_x484 hl_x484 ?_
 obtain ⟨a_x484, c_x484, h_x484, ev_x484⟩ := sub_ok ((RSl.mono h_p1.Idx ((L20.trans L32).trans L455))) h0_x484 h1_x484 h2_x484 he_x484
 refine yae 183 z ev_x484 ?_
 refine WO.tail z (have S486 := S482.no; apk R5 fun x487 h0_x487 he_x487 R5 => ya7 (e' := 163) (b := 40) (zs := (cs_qI z_qI zw_qI).toArray) S486 (OwnSl.nil (T := 163) (rel := R_qI) (I := I454)) z kr z kr kr kr z z z z h_x484 S486.im h0_x487 he_x487 tv ?_)
 intro a488 c489 w490 C491 S492 ho493
 refine yg 7 1 [5] z (y7 S492.front1 5 (cs_qT ({ r22 with Cols := r22.Cols, Cons := r22.Cons, Idx := x487 }) (⟨⟨w_r22.Cols.a, w_r22.Cols.c⟩, ⟨w_r22.Cons.a, w_r22.Cons.c⟩, ⟨a488, c489⟩⟩ : W_qT)) fun w496 S495 => yb (W.seq (have S497 := S495.drew; yba nL10 7 (yv (S497.rd m0) (yv (S497.rd m2) (yad S497.im))) ?_)))
 generalize World.drew _ = w498 at *
 refine yg 0 1 [5] z (yj (rd_c m0 (S497.rd m0)) z (yg 2 1 [5] z (yj (rd_c m1 (S497.rd m2)) z (ya 4 2 z ?_))))
 obtain ⟨x499, Xx499, R5⟩ := bsm R5
 obtain ⟨h0_x499, h1_x499, h2_x499, he_x499⟩ := sub_some Xx499
 have hl_x499 : ((p1.Idx.length : Int) : Int) ≤ (w_p1.Idx.c : Int) := Int.le_trans h2_x499 (Int.ofNat_le.2 ((RSl.mono h_p1.Idx ((L20.trans L32).trans L455))).le)
 refine ya3 (e := 163) (sz := 2) z kr kr kr z ((w64 ((i458 : Int) + 1)) : Int) ((p1.Idx.length : Int) : Int) h0_x499 (.inr ⟨_, _, rfl, rfl⟩) (.inl ⟨rfl, rfl⟩) h1_x499 hl_x499 ?_
 obtain ⟨a_x499, c_x499, h_x499, ev_x499⟩ := sub_ok ((RSl.mono h_p1.Idx ((L20.trans L32).trans L455))) h0_x499 h1_x499 h2_x499 he_x499
 refine yae 192 z ev_x499 ?_
 refine WO.tail z (have S500 := S497.front1; apk R5 fun x501 h0_x501 he_x501 R5 => yax 163 40 (cs_qI z_qI zw_qI) S500 ho493 h_x499 S500.im h0_x501 he_x501 z fun a502 c503 w504 C505 S506 ho507 => yg 8 1 [5] z (y7 S506.front1 5 (cs_qT ({ r22 with Cols := r22.Cols, Cons := r22.Cons, Idx := x501 }) (⟨⟨w_r22.Cols.a, w_r22.Cols.c⟩, ⟨w_r22.Cons.a, w_r22.Cons.c⟩, ⟨a502, c503⟩⟩ : W_qT)) fun w510 S509 => y0 nL3 (yx ((cs_qT ({ r22 with Cols := r22.Cols, Cons := r22.Cons, Idx := x501 }) (⟨⟨w_r22.Cols.a, w_r22.Cols.c⟩, ⟨w_r22.Cons.a, w_r22.Cons.c⟩, ⟨a502, c503⟩⟩ : W_qT))) (S509.rf m0) z ?_)))
 obtain ⟨I512, L513, S515, hp514⟩ := yac (h_r22_3.mono (L32.trans L455)) S509.front5
 obtain ⟨I517, L518, S520, hp519⟩ := yac (h_r22_4.mono ((L32.trans L455).trans L513)) S515.front5
 obtain ⟨I522, L523, S525, hp524⟩ := yac (ho507.mono (L513.trans L518)) S520.front1
 refine y7 S525.front3 0 (cs_qT ({ r22 with Cols := r22.Cols, Cons := r22.Cons, Idx := x501 }) (⟨⟨w_r22.Cols.a, w_r22.Cols.c⟩, ⟨w_r22.Cons.a, w_r22.Cons.c⟩, ⟨a502, c503⟩⟩ : W_qT)) fun w528 S527 => ya 2 1 z (yb (yq (ym (yh (yu ?_)))))
 have hk540 : ok_qT I522 ({ r22 with Cols := r22.Cols, Cons := r22.Cons, Idx := x501 }) (⟨⟨w_r22.Cols.a, w_r22.Cols.c⟩, ⟨w_r22.Cons.a, w_r22.Cons.c⟩, ⟨a502, c503⟩⟩ : W_qT) := ⟨(RSl.mono hp514 (L518.trans L523)), (RSl.mono hp519 L523), hp524⟩
 obtain rfl := hext453 _ (sj R5).symm
 refine ym (yh (yu ?_))
 have hk541 : ok_qT I522 ({ r22 with Cols := r22.Cols, Cons := r22.Cons, Idx := x501 }) (⟨⟨w_r22.Cols.a, w_r22.Cols.c⟩, ⟨w_r22.Cons.a, w_r22.Cons.c⟩, ⟨a502, c503⟩⟩ : W_qT) := ⟨(RSl.mono hp514 (L518.trans L523)), (RSl.mono hp519 L523), hp524⟩
 obtain rfl := sj R4
 refine yu ?_
 have hk542 : ok_qT I522 ({ r22 with Cols := r22.Cols, Cons := r22.Cons, Idx := x501 }) (⟨⟨w_r22.Cols.a, w_r22.Cols.c⟩, ⟨w_r22.Cons.a, w_r22.Cons.c⟩, ⟨a502, c503⟩⟩ : W_qT) := ⟨(RSl.mono hp514 (L518.trans L523)), (RSl.mono hp519 L523), hp524⟩
 obtain rfl := sj R3
 refine yu ?_
 have hk543 : ok_qT I522 ({ r22 with Cols := r22.Cols, Cons := r22.Cons, Idx := x501 }) (⟨⟨w_r22.Cols.a, w_r22.Cols.c⟩, ⟨w_r22.Cons.a, w_r22.Cons.c⟩, ⟨a502, c503⟩⟩ : W_qT) := ⟨(RSl.mono hp514 (L518.trans L523)), (RSl.mono hp519 L523), hp524⟩
 obtain rfl := sj R2
 refine yu ?_
 have hk544 : ok_qT I522 ({ r22 with Cols := r22.Cols, Cons := r22.Cons, Idx := x501 }) (⟨⟨w_r22.Cols.a, w_r22.Cols.c⟩, ⟨w_r22.Cons.a, w_r22.Cons.c⟩, ⟨a502, c503⟩⟩ : W_qT) := ⟨(RSl.mono hp514 (L518.trans L523)), (RSl.mono hp519 L523), hp524⟩
 obtain rfl := sj R1
 refine ym (yh ?_)
 have hk549 : ok_qT I522 ({ r22 with Cols := r22.Cols, Cons := r22.Cons, Idx := x501 }) (⟨⟨w_r22.Cols.a, w_r22.Cols.c⟩, ⟨w_r22.Cons.a, w_r22.Cons.c⟩, ⟨a502, c503⟩⟩ : W_qT) := ⟨(RSl.mono hp514 (L518.trans L523)), (RSl.mono hp519 L523), hp524⟩
 exact sj D ▸ ya1 _ (S527.rd m0) ⟨I522, (⟨⟨w_r22.Cols.a, w_r22.Cols.c⟩, ⟨w_r22.Cons.a, w_r22.Cons.c⟩, ⟨a502, c503⟩⟩ : W_qT), rfl, le, S527.d4, hk549⟩
 exact W.skip (yk (ye (yag nL3 (ya 0 1 z (yam i458 z (ya 2 1 z (yp (yt ⟨(s456, s457), (sj R5).symm, I454, w_s456, a_s457, c_s457, C_s457, rfl, L455, S474, h_s456, h_s457⟩))))))))
 rintro ⟨s456, s457⟩ _ w550 ⟨I454, w_s456, a_s457, c_s457, C_s457, rfl, L455, S551, h_s456, h_s457⟩ he
 cases he
 refine W.seq (yf nL5 (yg 0 2 [5] z (yj (S551.rf m0) z (ya 3 2 z (yb (yas fun _ => W.exit (yn (yo (yr (ye (yf nL3 (yx ((cs_qT p1 w_p1)) (S551.rf m0) z (y7 S551.front2 0 (cs_qT p1 w_p1) fun w554 S553 => ya 2 1 z (yb (yq (yu ?_))))))))))))))))
 obtain rfl := sj R4
 refine yu ?_
 obtain rfl := sj R3
 refine yu ?_
 obtain rfl := sj R2
 refine yu ?_
 obtain rfl := sj R1
 exact ym (yh (sj D ▸ ya1 _ (S553.rd m0) ⟨I454, w_p1, rfl, le, S553.d7, (h_p1.mono le)⟩))
 exact W.skip (yt ⟨z_qT, r22.Idx, I31, zw_qT, w_r22.Idx.a, w_r22.Idx.c, C_r22_5, sj R4, rfl, lr, S33.front5.drop.front5.drop.front5.drop.front3.front3.front3.front3.front4, zok_qT, (OwnSl.mono h_r22_5 L32)⟩)
 rintro _ w573 ⟨s422, s423, I360, w_s422, a_s423, c_s423, C_s423, rfl, rfl, L361, S574, h_s422, h_s423⟩
 exact yt ⟨s422, r22.Cons, s423, I360, w_s422, w_r22.Cons.a, w_r22.Cons.c, C_r22_4, a_s423, c_s423, C_s423, sj R3, rfl, L361, S574, h_s422, (OwnSl.mono h_r22_4 le), h_s423⟩
 rintro _ w575 ⟨s344, s345, s346, I268, w_s344, a_s345, c_s345, C_s345, a_s346, c_s346, C_s346, rfl, rfl, L269, S576, h_s344, h_s345, h_s346⟩
 exact yt ⟨s344, r22.Cols, s345, s346, I268, w_s344, w_r22.Cols.a, w_r22.Cols.c, C_r22_3, a_s345, c_s345, C_s345, a_s346, c_s346, C_s346, sj R2, rfl, L269, S576, h_s344, (OwnSl.mono h_r22_3 le), h_s345, h_s346⟩
 rintro _ w577 ⟨s251, s252, s253, s254, I122, w_s251, a_s252, c_s252, C_s252, a_s253, c_s253, C_s253, a_s254, c_s254, C_s254, rfl, rfl, L123, S578, h_s251, h_s252, h_s253, h_s254⟩
 exact yt ⟨s251, s252, s253, s254, I122, w_s251, a_s252, c_s252, C_s252, a_s253, c_s253, C_s253, a_s254, c_s254, C_s254, sj R1, rfl, L123, S578, h_s251, h_s252, h_s253, h_s254⟩
 rintro _ w579 ⟨s105, s106, s107, s108, I38, w_s105, a_s106, c_s106, C_s106, a_s107, c_s107, C_s107, a_s108, c_s108, C_s108, rfl, rfl, L39, S580, h_s105, h_s106, h_s107, h_s108⟩
 refine yk (ye (yf nL3 (yx ((cs_qT ({ r22 with Cols := s106, Cons := s107, Idx := s108 }) (⟨⟨a_s106, c_s106⟩, ⟨a_s107, c_s107⟩, ⟨a_s108, c_s108⟩⟩ : W_qT))) (S580.rf m1) z ?_)))
 obtain ⟨I582, L583, S585, hp584⟩ := yac h_s106 S580.front2
 obtain ⟨I587, L588, S590, hp589⟩ := yac (h_s107.mono L583) S585.front2
 obtain ⟨I592, L593, S595, hp594⟩ := yac (h_s108.mono (L583.trans L588)) S590.front2
 refine y7 S595 0 (cs_qT ({ r22 with Cols := s106, Cons := s107, Idx := s108 }) (⟨⟨a_s106, c_s106⟩, ⟨a_s107, c_s107⟩, ⟨a_s108, c_s108⟩⟩ : W_qT)) fun w597 S596 => ya 2 1 z (yb (yq ?_))
 have hk600 : ok_qT I592 ({ r22 with Cols := s106, Cons := s107, Idx := s108 }) (⟨⟨a_s106, c_s106⟩, ⟨a_s107, c_s107⟩, ⟨a_s108, c_s108⟩⟩ : W_qT) := ⟨(RSl.mono hp584 (L588.trans L593)), (RSl.mono hp589 L593), hp594⟩
 exact sj D ▸ ya1 _ (S596.rd m0) ⟨I592, (⟨⟨a_s106, c_s106⟩, ⟨a_s107, c_s107⟩, ⟨a_s108, c_s108⟩⟩ : W_qT), rfl, le, S596.d2, hk600⟩
def r14_twice (p0 : List By8) : Option Bool := (forN (fun (i4 : Nat) (_s : Unit) => (sub p0 0 (i4 : Int)).bind (fun x13 => (idx p0 (i4 : Int)).bind (fun x14 => (r14_Has x13 x14).bind (fun r20 => (bif r20 then some (.inr true) else some (.inl ())))))) p0.length 0 ()).bind (fun (t : Unit ⊕ (Bool)) => match t with | .inl _ => some false | .inr s22 => some s22)
theorem r14_twice_ok {p0 : List By8} {a_p0 : Option Addr} {c_p0 : Nat} (h_p0 : RSl 1 RStr I a_p0 c_p0 p0) (hS : St E w I Os) {r : Bool} (D : r14_twice p0 = some r) :
    Calls P 185 #[(Sl a_p0 p0 c_p0)] w (RT E I Os (.bool r)) := by
 refine calls_W (fn := Tryz.f185) rfl rfl rfl ?_
 unfold r14_twice at D
 refine yf [0] (ya 0 1 z (yb (W.seq (yf [0] (ya 0 1 z (yb (yl (bsk D fun t1 hloop5 D => have hlt9 := (h_p0).len_lt; W.wk (yap (m := p0.length) hloop5 (fun (i4 : Nat) (_s : Unit) => JI E I [(0, Sl a_p0 p0 c_p0), (3, Nv i4)] Os) ⟨I, rfl, lr, hS⟩ ?_ ?_)))))))))
 rintro i4 _ _ w6 hi10 ⟨I2, rfl, L3, S7⟩ x8 R1 hext1
 refine W.seq (yf nL4 (ya 0 4 z (yb (yar fun _ => W.skip (ye (W.seq (yl (W.seq (have S11 := S7.drew; yba nL8 7 (yad S11.im) ?_)))))))))
 generalize World.drew _ = w12 at *
 refine ya 0 2 z ?_
 obtain ⟨x13, Xx13, R1⟩ := bsm R1
 obtain ⟨h0_x13, h1_x13, h2_x13, he_x13⟩ := sub_some Xx13
 have hl_x13 : ((i4 : Int) : Int) ≤ (c_p0 : Int) := Int.le_trans h2_x13 (Int.ofNat_le.2 ((RSl.mono h_p0 L3)).le)
 refine ya3 (e := 9) (sz := 1) z kr kr kr z (0 : Int) ((i4 : Int) : Int) h0_x13 (.inl ⟨rfl, rfl⟩) (.inr ⟨_, _, rfl, rfl⟩) h1_x13 hl_x13 ?_
 obtain ⟨a_x13, c_x13, h_x13, ev_x13⟩ := sub_ok ((RSl.mono h_p0 L3)) h0_x13 h1_x13 h2_x13 he_x13
 refine yae 12 z ev_x13 ?_
 refine ya 3 2 z ?_
 obtain ⟨x14, R1, Hx14, _, rfl, Zx14⟩ := sx I2 h_p0 R1
 refine yaa 9 1 Hx14 z (yao Zx14 (rd_i S11.im) z (WO.tail z (bsk R1 fun r20 Xr15 R1 => WO.c1 (r14_Has_ok h_x13 S11 Xr15) z fun I17 w16 L18 S19 => yb (yy R1 (fun G R1 => ?_) (fun G R1 => ?_)))))
 refine yf [0] (ya 0 1 z (yb (yq (ym (yh (yu ?_))))))
 obtain rfl := hext1 _ (sj R1).symm
 exact ym (yh (sj D ▸ yw ⟨I17, rfl, le, S19⟩))
 exact W.skip (yk (ye (yag nL3 (ya 0 1 z (yam i4 z (ya 2 1 z (yp (yt ⟨(), (sj R1).symm, I17, rfl, le, S19⟩))))))))
 rintro _ _ w23 ⟨I2, rfl, L3, S24⟩ he
 cases he
 exact W.seq (yf nL4 (ya 0 4 z (yb (yas fun _ => W.exit (yn (yo (yr (ye (yf [0] (ya 0 1 z (yb (yq (sj D ▸ yw ⟨I2, rfl, L3, S24⟩)))))))))))))
noncomputable def r14_wrong (p0 : qT) : Option Int := (r14_Names p0).bind (fun (r10, r11) => (app 16 ([p0.Name, p0.Owner] : List By8) r10).bind (fun x19 => (app 16 x19 r11).bind (fun x26 => (forN (fun (i40 : Nat) (_s : Unit) => (idx x26 (i40 : Int)).bind (fun x47 => (r09_IsName x47).bind (fun r53 => (bif (!r53) then some (.inr (18 : Int)) else some (.inl ()))))) x26.length 0 ()).bind (fun (t : Unit ⊕ (Int)) => match t with | .inl _ => (bif (decide (p0.Version < 0)) then some 2 else (forN (fun (i64 : Nat) (_s : Unit) => (idx p0.Cols (i64 : Int)).bind (fun x71 => ((bif (decide (x71.Type_ < 1)) then some true else (idx p0.Cols (i64 : Int)).bind (fun x76 => some (decide (x76.Type_ > 3))))).bind (fun (j72 : Bool) => (bif j72 then some (.inr (2 : Int)) else some (.inl ()))))) p0.Cols.length 0 ()).bind (fun (t : Unit ⊕ (Int)) => match t with | .inl _ => (forN (fun (i88 : Nat) (_s : Unit) => (idx p0.Cons (i88 : Int)).bind (fun x95 => ((bif (decide (x95.Kind < 1)) then some true else (idx p0.Cons (i88 : Int)).bind (fun x100 => some (decide (x100.Kind > 3))))).bind (fun (j96 : Bool) => (bif j96 then some (.inr (2 : Int)) else some (.inl ()))))) p0.Cons.length 0 ()).bind (fun (t : Unit ⊕ (Int)) => match t with | .inl _ => (some ((decide ((p0.Cols.length : Int) < 1)) || (decide ((p0.Cols.length : Int) > 6)))).bind (fun (q109 : Bool) => (some ((q109 || (decide ((p0.Cons.length : Int) > 6))) || (decide ((p0.Idx.length : Int) > 3)))).bind (fun (q114 : Bool) => (bif q114 then some 3 else (r14_lists p0).bind (fun r123 => (forN (fun (i127 : Nat) (_s : Unit) => ((bif (decide ((i127 : Int) < (p0.Cons.length : Int))) then (idx p0.Cons (i127 : Int)).bind (fun x138 => some (x138.Kind == 2)) else some false)).bind (fun (j134 : Bool) => ((bif (!j134) then (idx r123 (i127 : Int)).bind (fun x145 => ((bif (decide ((x145.length : Int) < 1)) then some true else (idx r123 (i127 : Int)).bind (fun x150 => some (decide ((x150.length : Int) > 3))))).bind (fun (j146 : Bool) => some j146)) else some false)).bind (fun (j141 : Bool) => (bif j141 then some (.inr (3 : Int)) else ((bif (decide ((i127 : Int) < (p0.Cons.length : Int))) then (idx p0.Cons (i127 : Int)).bind (fun x163 => some (x163.Kind == 3)) else some false)).bind (fun (j159 : Bool) => ((bif j159 then (idx p0.Cons (i127 : Int)).bind (fun x170 => ((bif (decide ((x170.Refs.length : Int) < 1)) then some true else (idx p0.Cons (i127 : Int)).bind (fun x175 => some (decide ((x175.Refs.length : Int) > 3))))).bind (fun (j171 : Bool) => some j171)) else some false)).bind (fun (j166 : Bool) => (bif j166 then some (.inr (3 : Int)) else some (.inl ())))))))) r123.length 0 ()).bind (fun (t : Unit ⊕ (Int)) => match t with | .inl _ => (r14_twice r10).bind (fun r188 => ((bif r188 then some true else (r14_twice r11).bind (fun r198 => some r198))).bind (fun (j189 : Bool) => (bif j189 then some 19 else (forN (fun (i205 : Nat) (_s : Unit) => (idx r123 (i205 : Int)).bind (fun x212 => (r14_twice x212).bind (fun r218 => ((bif r218 then some true else ((bif (decide ((i205 : Int) < (p0.Cons.length : Int))) then (idx p0.Cons (i205 : Int)).bind (fun x227 => (r14_twice x227.Refs).bind (fun r233 => some r233)) else some false)).bind (fun (j223 : Bool) => some j223))).bind (fun (j219 : Bool) => (bif j219 then some (.inr (19 : Int)) else some (.inl ())))))) r123.length 0 ()).bind (fun (t : Unit ⊕ (Int)) => match t with | .inl _ => some 0 | .inr s239 => some s239)))) | .inr s156 => some s156))))) | .inr s104 => some s104) | .inr s80 => some s80)) | .inr s55 => some s55))))
theorem r14_wrong_ok {p0 : qT} {w_p0 : W_qT} (h_p0 : ok_qT I p0 w_p0) (hS : St E w I Os) {r : Int} (D : r14_wrong p0 = some r) :
    Calls P 161 #[(vT p0 w_p0)] w (RT E I Os (Iv r)) := by
 refine calls_W (fn := Tryz.f161) rfl rfl rfl ?_
 unfold r14_wrong at D
 refine yf nL2 (yz hS (cs_qT p0 w_p0) 104 z fun b1 w4 S3 => ya 1 1 z (y0 nL7 (yx ((cs_qT p0 w_p0)) (S3.rf m0) z ?_)))
 obtain ⟨⟨r10, r11⟩, Xr5, D⟩ := bsm D
 refine yai (r14_Names_ok h_p0 S3 Xr5) ?_
 rintro _ w6 ⟨I7, a_r10, c_r10, a_r11, c_r11, rfl, L8, S9, h_r10, h_r11⟩
 refine cv (ya 2 5 z (y0 nL10 (yg 0 1 [0] z (yj (S9.rf m0) z (yg 2 1 [1] z (yj (S9.rf m0) z (yab (rel := RStr) (xs := ([p0.Name, p0.Owner] : List By8)) S9 z kr z 9 1 [[(.string p0.Name)], [(.string p0.Owner)]] kr z ((Elr.cons z (Elr.cons z Elr.nil))) tv ?_)))))))
 intro a15 C13 w17 S16 ho14
 refine ya 5 1 z (apk D fun x19 h0_x19 he_x19 D => yax 9 16 [(.string eB)] S16 ho14 h_r10 S16.im h0_x19 he_x19 z fun a20 c21 w22 C23 S24 ho25 => ya 7 1 z (apk D fun x26 h0_x26 he_x26 D => yax 9 16 [(.string eB)] S24 ho25 h_r11 S24.im h0_x26 he_x26 z ?_))
 intro a27 c28 w29 C30 S31 ho32
 obtain ⟨I33, L34, S36, hp35⟩ := yac ho32 S31
 refine ya 9 1 z (yb (W.seq (yf [0] (ya 0 1 z (yb (yl (bsk D fun t37 hloop41 D => have hlt45 := (hp35).len_lt; W.wk (yap (m := x26.length) hloop41 (fun (i40 : Nat) (_s : Unit) => JI E I33 [(1, Pt b1 0), (3, Sl a_r10 r10 c_r10), (4, Sl a_r11 r11 c_r11), (5, Sl a27 x26 c28), (6, Nv i40)] (bT b1 p0 w_p0 :: Os)) ⟨I33, rfl, lr, S36⟩ ?_ ?_))))))))
 rintro i40 _ _ w42 hi46 ⟨I38, rfl, L39, S43⟩ x44 R1 hext37
 refine W.seq (yf nL4 (ya 0 4 z (yb (yar fun _ => W.skip (ye (W.seq (yl (yf nL6 (ya 0 2 z ?_)))))))))
 obtain ⟨x47, R1, Hx47, _, rfl, Zx47⟩ := sx I38 hp35 R1
 refine yaa 9 1 Hx47 z (yao Zx47 S43.rm z (bsk R1 fun r53 Xr48 R1 => WO.c1 (r09_IsName_ok  S43 Xr48) z fun I50 w49 L51 S52 => ya 5 1 z (yb (yy R1 (fun G R1 => ?_) (fun G R1 => ?_)))))
 refine yf [0] (ya 0 1 z (yb (yq (ym (yh (yu ?_))))))
 obtain rfl := hext37 _ (sj R1).symm
 exact ym (yh (sj D ▸ yw ⟨I50, rfl, le, S52.drop⟩))
 exact W.skip (yk (ye (yag nL3 (ya 0 1 z (yam i40 z (ya 2 1 z (yp (yt ⟨(), (sj R1).symm, I50, rfl, le, S52⟩))))))))
 rintro _ _ w58 ⟨I38, rfl, L39, S59⟩ he
 cases he
 refine W.seq (yf nL4 (ya 0 4 z (yb (yas fun _ => W.exit (yn (yo (yr (ye (W.seq (yf nL3 (yg 0 1 [2] z (yj (S59.rf m0) z (ya 2 1 z (yb (yy D (fun G D => ?_) (fun G D => ?_))))))))))))))))
 exact yf [0] (ya 0 1 z (yb (yq (yh (sj D ▸ yw ⟨I38, rfl, le, S59.drop⟩)))))
 refine W.skip (ye (W.seq (yf [0] (ya 0 1 z (yb (yl (bsk D fun t61 hloop65 D => have hlt69 := ((RSl.mono h_p0.Cols ((L8.trans L34).trans L39))).len_lt; W.wk (yap (m := p0.Cols.length) hloop65 (fun (i64 : Nat) (_s : Unit) => JI E I38 [(1, Pt b1 0), (3, Sl a_r10 r10 c_r10), (4, Sl a_r11 r11 c_r11), (7, Nv i64)] (bT b1 p0 w_p0 :: Os)) ⟨I38, rfl, lr, S59⟩ ?_ ?_))))))))
 rintro i64 _ _ w66 hi70 ⟨I62, rfl, L63, S67⟩ x68 R1 hext61
 refine W.seq (yf nL5 (yg 0 2 [3] z (yj (S67.rf m0) z (ya 3 2 z (yb (yar fun _ => W.skip (ye (W.seq (yl (yf nL16 (yg 0 1 [3] z (yj (S67.rf m0) z (ya 2 1 z ?_)))))))))))))
 obtain ⟨x71, R1, Hx71, _, rfl, Zx71⟩ := sx I62 h_p0.Cols R1
 refine yaa 114 3 Hx71 z (yg 4 1 [1] z (yaz Zx71 1 S67.rm z (ya 6 2 z (bsk R1 fun j72 R2 R1 => yal (l1 := [8, 9, 10, 11, 12, 13, 14, 15]) (J := JI E I62 [(1, Pt b1 0), (3, Sl a_r10 r10 c_r10), (4, Sl a_r11 r11 c_r11), (7, Nv i64), (64, .bool j72)] (bT b1 p0 w_p0 :: Os)) ?_ ?_))))
 refine yak R2 (fun G R2 => ?_) (fun G R2 => ?_)
 refine y6 56 G ?_
 iterate 7 refine yaj ?_
 exact ya 15 1 z (sj R2 ▸ y4 ⟨I62, rfl, lr, S67⟩)
 refine y6 56 G (yg 8 1 [3] z (yj (S67.rf m0) z (ya 10 1 z ?_)))
 obtain ⟨x76, R2, Hx76, _, rfl, Zx76⟩ := sx I62 h_p0.Cols R2
 exact yaa 114 3 Hx76 z (yg 12 1 [1] z (yaz Zx76 1 S67.rm z (ya 14 2 z (sj R2 ▸ y4 ⟨I62, rfl, lr, S67⟩))))
 rintro _ w77 ⟨I74, rfl, L75, S78⟩
 refine yb (yy R1 (fun G R1 => ?_) (fun G R1 => ?_))
 refine yf [0] (ya 0 1 z (yb (yq (ym (yh (yu ?_))))))
 obtain rfl := hext61 _ (sj R1).symm
 exact ym (yh (sj D ▸ yw ⟨I74, rfl, le, S78.drop⟩))
 exact W.skip (yk (ye (yag nL3 (ya 0 1 z (yam i64 z (ya 2 1 z (yp (yt ⟨(), (sj R1).symm, I74, rfl, le, S78⟩))))))))
 rintro _ _ w83 ⟨I62, rfl, L63, S84⟩ he
 cases he
 refine W.seq (yf nL5 (yg 0 2 [3] z (yj (S84.rf m0) z (ya 3 2 z (yb (yas fun _ => W.exit (yn (yo (yr (ye (W.seq (yf [0] (ya 0 1 z (yb (yl (bsk D fun t85 hloop89 D => have hlt93 := ((RSl.mono h_p0.Cons (((L8.trans L34).trans L39).trans L63))).len_lt; W.wk (yap (m := p0.Cons.length) hloop89 (fun (i88 : Nat) (_s : Unit) => JI E I62 [(1, Pt b1 0), (3, Sl a_r10 r10 c_r10), (4, Sl a_r11 r11 c_r11), (8, Nv i88)] (bT b1 p0 w_p0 :: Os)) ⟨I62, rfl, lr, S84⟩ ?_ ?_)))))))))))))))))
 rintro i88 _ _ w90 hi94 ⟨I86, rfl, L87, S91⟩ x92 R1 hext85
 refine W.seq (yf nL5 (yg 0 2 [4] z (yj (S91.rf m0) z (ya 3 2 z (yb (yar fun _ => W.skip (ye (W.seq (yl (yf nL16 (yg 0 1 [4] z (yj (S91.rf m0) z (ya 2 1 z ?_)))))))))))))
 obtain ⟨x95, R1, Hx95, _, ⟨w_x95, rfl, h_x95⟩, Zx95⟩ := sx I86 h_p0.Cons R1
 refine yaa 116 12 Hx95 z (yg 4 1 [1] z (yaz Zx95 1 S91.rm z (ya 6 2 z (bsk R1 fun j96 R2 R1 => yal (l1 := [8, 9, 10, 11, 12, 13, 14, 15]) (J := JI E I86 [(1, Pt b1 0), (3, Sl a_r10 r10 c_r10), (4, Sl a_r11 r11 c_r11), (8, Nv i88), (87, .bool j96)] (bT b1 p0 w_p0 :: Os)) ?_ ?_))))
 refine yak R2 (fun G R2 => ?_) (fun G R2 => ?_)
 refine y6 79 G ?_
 iterate 7 refine yaj ?_
 exact ya 15 1 z (sj R2 ▸ y4 ⟨I86, rfl, lr, S91⟩)
 refine y6 79 G (yg 8 1 [4] z (yj (S91.rf m0) z (ya 10 1 z ?_)))
 obtain ⟨x100, R2, Hx100, _, ⟨w_x100, rfl, h_x100⟩, Zx100⟩ := sx I86 h_p0.Cons R2
 exact yaa 116 12 Hx100 z (yg 12 1 [1] z (yaz Zx100 1 S91.rm z (ya 14 2 z (sj R2 ▸ y4 ⟨I86, rfl, lr, S91⟩))))
 rintro _ w101 ⟨I98, rfl, L99, S102⟩
 refine yb (yy R1 (fun G R1 => ?_) (fun G R1 => ?_))
 refine yf [0] (ya 0 1 z (yb (yq (ym (yh (yu ?_))))))
 obtain rfl := hext85 _ (sj R1).symm
 exact ym (yh (sj D ▸ yw ⟨I98, rfl, le, S102.drop⟩))
 exact W.skip (yk (ye (yag nL3 (ya 0 1 z (yam i88 z (ya 2 1 z (yp (yt ⟨(), (sj R1).symm, I98, rfl, le, S102⟩))))))))
 rintro _ _ w107 ⟨I86, rfl, L87, S108⟩ he
 cases he
 refine W.seq (yf nL5 (yg 0 2 [4] z (yj (S108.rf m0) z (ya 3 2 z (yb (yas fun _ => W.exit (yn (yo (yr (ye (W.seq (yf nL22 (yg 0 1 [3] z (yj (S108.rf m0) z (ya 2 3 z (bsq D fun q109 Xq109 D => ya2 [5, 6, 7, 8] 9 92 97 Xq109 (fun _ => yg 5 1 [3] z (yj (S108.rf m0) z (ya 7 3 z yah))) (ya 10 1 z (ya2 [11, 12, 13, 14] 15 98 103 (.refl (q109 || (decide ((p0.Cons.length : Int) > 6)))) (fun _ => yg 11 1 [4] z (yj (S108.rf m0) z (ya 13 3 z yah))) (ya 16 1 z (bsq D fun q114 Xq114 D => ya2 [17, 18, 19, 20] 21 104 109 Xq114 (fun _ => yg 17 1 [5] z (yj (S108.rf m0) z (ya 19 3 z yah))) (yb (yy D (fun G D => ?_) (fun G D => ?_)))))))))))))))))))))))
 exact yf [0] (ya 0 1 z (yb (yq (yh (sj D ▸ yw ⟨I86, rfl, le, S108.drop⟩)))))
 refine W.skip (ye (yf nL3 (yx ((cs_qT p0 w_p0)) (S108.rf m0) z (bsk D fun r123 Xr118 D => yai (r14_lists_ok (h_p0.mono le) S108 Xr118) ?_))))
 rintro _ w119 ⟨I120, a_r123, c_r123, rfl, L121, S122, h_r123⟩
 refine cv (ya 2 1 z (yb (W.seq (yf [0] (ya 0 1 z (yb (yl (bsk D fun t124 hloop128 D => have hlt132 := (h_r123).len_lt; W.wk (yap (m := r123.length) hloop128 (fun (i127 : Nat) (_s : Unit) => JI E I120 [(1, Pt b1 0), (3, Sl a_r10 r10 c_r10), (4, Sl a_r11 r11 c_r11), (9, Sl a_r123 r123 c_r123), (10, Nv i127)] (bT b1 p0 w_p0 :: Os)) ⟨I120, rfl, lr, S122⟩ ?_ ?_)))))))))
 rintro i127 _ _ w129 hi133 ⟨I125, rfl, L126, S130⟩ x131 R1 hext124
 refine W.seq (yf nL4 (ya 0 4 z (yb (yar fun _ => W.skip (ye (W.seq (yl (yf nL15 (yg 0 2 [4] z (yj (S130.rf m0) z (ya 3 3 z (bsk R1 fun j134 R2 R1 => yal (l1 := [6, 7, 8, 9, 10, 11, 12, 13]) (J := JI E I125 [(1, Pt b1 0), (3, Sl a_r10 r10 c_r10), (4, Sl a_r11 r11 c_r11), (9, Sl a_r123 r123 c_r123), (10, Nv i127), (131, .bool j134)] (bT b1 p0 w_p0 :: Os)) ?_ ?_))))))))))))
 refine yak R2 (fun G R2 => ?_) (fun G R2 => ?_)
 refine y6 123 G (yg 6 1 [4] z (yj (S130.rf m0) z (ya 8 1 z ?_)))
 obtain ⟨x138, R2, Hx138, _, ⟨w_x138, rfl, h_x138⟩, Zx138⟩ := sx I125 h_p0.Cons R2
 exact yaa 116 12 Hx138 z (yg 10 1 [1] z (yaz Zx138 1 S130.rm z (ya 12 2 z (sj R2 ▸ y4 ⟨I125, rfl, lr, S130⟩))))
 refine y6 123 G ?_
 iterate 7 refine yaj ?_
 exact ya 13 1 z (sj R2 ▸ y4 ⟨I125, rfl, lr, S130⟩)
 rintro _ w139 ⟨I136, rfl, L137, S140⟩
 refine ya 14 1 z (yb (W.seq (yf nL18 (ya 0 3 z (bsk R1 fun j141 R2 R1 => yal (l1 := [3, 4, 5, 6, 7, 8, 9, 10, 11, 12, 13, 14, 15, 16, 17]) (J := JI E I136 [(1, Pt b1 0), (3, Sl a_r10 r10 c_r10), (4, Sl a_r11 r11 c_r11), (9, Sl a_r123 r123 c_r123), (10, Nv i127), (149, .bool j141)] (bT b1 p0 w_p0 :: Os)) ?_ ?_)))))
 refine yak R2 (fun G R2 => ?_) (fun G R2 => ?_)
 refine y6 134 G (ya 3 2 z ?_)
 obtain ⟨x145, Xx145, R2⟩ := bsm R2
 obtain ⟨h0_x145, h1_x145, Xx145⟩ := idx_some Xx145
 obtain ⟨ha_x145, cs_x145, hn_x145, hr_x145, Zx145⟩ := ((RSl.mono h_r123 (L126.trans L137))).el _ _ Xx145
 obtain ⟨a_x145, c_x145, rfl, h_x145⟩ := hr_x145
 refine ya5 41 1 ha_x145 h0_x145 h1_x145 ?_
 refine yao Zx145 S140.rm z (ya 7 3 z (bsk R2 fun j146 R3 R2 => yal (l1 := [10, 11, 12, 13, 14, 15, 16]) (J := JI E I136 [(1, Pt b1 0), (3, Sl a_r10 r10 c_r10), (4, Sl a_r11 r11 c_r11), (9, Sl a_r123 r123 c_r123), (10, Nv i127), (134, .bool true), (148, .bool j146)] (bT b1 p0 w_p0 :: Os)) ?_ ?_))
 refine yak R3 (fun G R3 => ?_) (fun G R3 => ?_)
 refine y6 141 G ?_
 iterate 6 refine yaj ?_
 exact ya 16 1 z (sj R3 ▸ y4 ⟨I136, rfl, lr, S140⟩)
 refine y6 141 G (ya 10 2 z ?_)
 obtain ⟨x150, Xx150, R3⟩ := bsm R3
 obtain ⟨h0_x150, h1_x150, Xx150⟩ := idx_some Xx150
 obtain ⟨ha_x150, cs_x150, hn_x150, hr_x150, Zx150⟩ := ((RSl.mono h_r123 (L126.trans L137))).el _ _ Xx150
 obtain ⟨a_x150, c_x150, rfl, h_x150⟩ := hr_x150
 refine ya5 41 1 ha_x150 h0_x150 h1_x150 ?_
 exact yao Zx150 S140.rm z (ya 14 3 z (sj R3 ▸ y4 ⟨I136, rfl, lr, S140⟩))
 rintro _ w151 ⟨I148, rfl, L149, S152⟩
 exact ya 17 1 z (sj R2 ▸ y4 ⟨I148, rfl, L149, S152⟩)
 refine y6 134 G ?_
 iterate 14 refine yaj ?_
 exact ya 17 1 z (sj R2 ▸ y4 ⟨I136, rfl, lr, S140⟩)
 rintro _ w153 ⟨I143, rfl, L144, S154⟩
 refine yb (yy R1 (fun G R1 => ?_) (fun G R1 => ?_))
 refine yf [0] (ya 0 1 z (yb (yq (yh (ym (yh (yu ?_)))))))
 obtain rfl := hext124 _ (sj R1).symm
 exact ym (yh (sj D ▸ yw ⟨I143, rfl, le, S154.drop⟩))
 refine W.skip (ye (yf nL34 (yg 0 2 [4] z (yj (S154.rf m0) z (ya 3 3 z (bsk R1 fun j159 R2 R1 => yal (l1 := [6, 7, 8, 9, 10, 11, 12, 13]) (J := JI E I143 [(1, Pt b1 0), (3, Sl a_r10 r10 c_r10), (4, Sl a_r11 r11 c_r11), (9, Sl a_r123 r123 c_r123), (10, Nv i127), (163, .bool j159)] (bT b1 p0 w_p0 :: Os)) ?_ ?_))))))
 refine yak R2 (fun G R2 => ?_) (fun G R2 => ?_)
 refine y6 155 G (yg 6 1 [4] z (yj (S154.rf m0) z (ya 8 1 z ?_)))
 obtain ⟨x163, R2, Hx163, _, ⟨w_x163, rfl, h_x163⟩, Zx163⟩ := sx I143 h_p0.Cons R2
 exact yaa 116 12 Hx163 z (yg 10 1 [1] z (yaz Zx163 1 S154.rm z (ya 12 2 z (sj R2 ▸ y4 ⟨I143, rfl, lr, S154⟩))))
 refine y6 155 G ?_
 iterate 7 refine yaj ?_
 exact ya 13 1 z (sj R2 ▸ y4 ⟨I143, rfl, lr, S154⟩)
 rintro _ w164 ⟨I161, rfl, L162, S165⟩
 refine ya 14 1 z (bsk R1 fun j166 R2 R1 => yal (l1 := [15, 16, 17, 18, 19, 20, 21, 22, 23, 24, 25, 26, 27, 28, 29, 30, 31, 32, 33]) (J := JI E I161 [(1, Pt b1 0), (3, Sl a_r10 r10 c_r10), (4, Sl a_r11 r11 c_r11), (9, Sl a_r123 r123 c_r123), (10, Nv i127), (183, .bool j166)] (bT b1 p0 w_p0 :: Os)) ?_ ?_)
 refine yak R2 (fun G R2 => ?_) (fun G R2 => ?_)
 refine y6 164 G (yg 15 1 [4] z (yj (S165.rf m0) z (ya 17 1 z ?_)))
 obtain ⟨x170, R2, Hx170, _, ⟨w_x170, rfl, h_x170⟩, Zx170⟩ := sx I161 h_p0.Cons R2
 refine yaa 116 12 Hx170 z (yg 19 1 [11] z (yaz Zx170 11 S165.rm z (ya 21 3 z (bsk R2 fun j171 R3 R2 => yal (l1 := [24, 25, 26, 27, 28, 29, 30, 31, 32]) (J := JI E I161 [(1, Pt b1 0), (3, Sl a_r10 r10 c_r10), (4, Sl a_r11 r11 c_r11), (9, Sl a_r123 r123 c_r123), (10, Nv i127), (164, .bool true), (182, .bool j171)] (bT b1 p0 w_p0 :: Os)) ?_ ?_))))
 refine yak R3 (fun G R3 => ?_) (fun G R3 => ?_)
 refine y6 173 G ?_
 iterate 8 refine yaj ?_
 exact ya 32 1 z (sj R3 ▸ y4 ⟨I161, rfl, lr, S165⟩)
 refine y6 173 G (yg 24 1 [4] z (yj (S165.rf m0) z (ya 26 1 z ?_)))
 obtain ⟨x175, R3, Hx175, _, ⟨w_x175, rfl, h_x175⟩, Zx175⟩ := sx I161 h_p0.Cons R3
 exact yaa 116 12 Hx175 z (yg 28 1 [11] z (yaz Zx175 11 S165.rm z (ya 30 3 z (sj R3 ▸ y4 ⟨I161, rfl, lr, S165⟩))))
 rintro _ w176 ⟨I173, rfl, L174, S177⟩
 exact ya 33 1 z (sj R2 ▸ y4 ⟨I173, rfl, L174, S177⟩)
 refine y6 164 G ?_
 iterate 18 refine yaj ?_
 exact ya 33 1 z (sj R2 ▸ y4 ⟨I161, rfl, lr, S165⟩)
 rintro _ w178 ⟨I168, rfl, L169, S179⟩
 refine yb (yy R1 (fun G R1 => ?_) (fun G R1 => ?_))
 refine yf [0] (ya 0 1 z (yb (yq (ym (yh (yu ?_))))))
 obtain rfl := hext124 _ (sj R1).symm
 exact ym (yh (sj D ▸ yw ⟨I168, rfl, le, S179.drop⟩))
 exact W.skip (yk (ye (yag nL3 (ya 0 1 z (yam i127 z (ya 2 1 z (yp (yt ⟨(), (sj R1).symm, I168, rfl, le, S179⟩))))))))
 rintro _ _ w181 ⟨I125, rfl, L126, S182⟩ he
 cases he
 refine W.seq (yf nL4 (ya 0 4 z (yb (yas fun _ => W.exit (yn (yo (yr (ye (W.seq (yf nL6 (ya 0 1 z (bsk D fun r188 Xr183 D => WO.c1 (r14_twice_ok (up h_r10) S182 Xr183) z fun I185 w184 L186 S187 => ya 2 1 z (bsk D fun j189 R1 D => yal (l1 := [3, 4, 5]) (J := JI E I185 [(1, Pt b1 0), (9, Sl a_r123 r123 c_r123), (189, .bool j189)] (bT b1 p0 w_p0 :: Os)) ?_ ?_)))))))))))))
 refine yak R1 (fun G R1 => ?_) (fun G R1 => ?_)
 refine y6 186 G ?_
 iterate 2 refine yaj ?_
 exact ya 5 1 z (sj R1 ▸ y4 ⟨I185, rfl, lr, S187⟩)
 exact y6 186 G (ya 3 1 z (bsk R1 fun r198 Xr193 R1 => WO.c1 (r14_twice_ok (up h_r11) S187 Xr193) z fun I195 w194 L196 S197 => ya 5 1 z (sj R1 ▸ y4 ⟨I195, rfl, L196, S197⟩)))
 rintro _ w199 ⟨I191, rfl, L192, S200⟩
 refine yb (yy D (fun G D => ?_) (fun G D => ?_))
 exact yf [0] (ya 0 1 z (yb (yq (yh (sj D ▸ yw ⟨I191, rfl, le, S200.drop⟩)))))
 refine W.skip (ye (W.seq (yf [0] (ya 0 1 z (yb (yl (bsk D fun t202 hloop206 D => have hlt210 := ((RSl.mono h_r123 ((L126.trans L186).trans L192))).len_lt; W.wk (yap (m := r123.length) hloop206 (fun (i205 : Nat) (_s : Unit) => JI E I191 [(1, Pt b1 0), (9, Sl a_r123 r123 c_r123), (12, Nv i205)] (bT b1 p0 w_p0 :: Os)) ⟨I191, rfl, lr, S200⟩ ?_ ?_))))))))
 rintro i205 _ _ w207 hi211 ⟨I203, rfl, L204, S208⟩ x209 R1 hext202
 refine W.seq (yf nL4 (ya 0 4 z (yb (yar fun _ => W.skip (ye (W.seq (yl (yf nL21 (ya 0 2 z ?_)))))))))
 obtain ⟨x212, Xx212, R1⟩ := bsm R1
 obtain ⟨h0_x212, h1_x212, Xx212⟩ := idx_some Xx212
 obtain ⟨ha_x212, cs_x212, hn_x212, hr_x212, Zx212⟩ := ((RSl.mono h_r123 (((L126.trans L186).trans L192).trans L204))).el _ _ Xx212
 obtain ⟨a_x212, c_x212, rfl, h_x212⟩ := hr_x212
 refine ya5 41 1 ha_x212 h0_x212 h1_x212 ?_
 refine yao Zx212 S208.rm z (bsk R1 fun r218 Xr213 R1 => WO.c1 (r14_twice_ok h_x212 S208 Xr213) z fun I215 w214 L216 S217 => ya 5 1 z (bsk R1 fun j219 R2 R1 => yal (l1 := [6, 7, 8, 9, 10, 11, 12, 13, 14, 15, 16, 17, 18, 19, 20]) (J := JI E I215 [(1, Pt b1 0), (9, Sl a_r123 r123 c_r123), (12, Nv i205), (216, .bool j219)] (bT b1 p0 w_p0 :: Os)) ?_ ?_))
 refine yak R2 (fun G R2 => ?_) (fun G R2 => ?_)
 refine y6 201 G ?_
 iterate 14 refine yaj ?_
 exact ya 20 1 z (sj R2 ▸ y4 ⟨I215, rfl, lr, S217⟩)
 refine y6 201 G (yg 6 2 [4] z (yj (S217.rf m0) z (ya 9 3 z (bsk R2 fun j223 R3 R2 => yal (l1 := [12, 13, 14, 15, 16, 17, 18, 19]) (J := JI E I215 [(1, Pt b1 0), (9, Sl a_r123 r123 c_r123), (12, Nv i205), (201, .bool false), (215, .bool j223)] (bT b1 p0 w_p0 :: Os)) ?_ ?_))))
 refine yak R3 (fun G R3 => ?_) (fun G R3 => ?_)
 refine y6 207 G (yg 12 1 [4] z (yj (S217.rf m0) z (ya 14 1 z ?_)))
 obtain ⟨x227, R3, Hx227, _, ⟨w_x227, rfl, h_x227⟩, Zx227⟩ := sx I215 h_p0.Cons R3
 exact yaa 116 12 Hx227 z (yg 16 1 [11] z (yaz Zx227 11 S217.rm z (bsk R3 fun r233 Xr228 R3 => WO.c1 (r14_twice_ok h_x227.Refs S217 Xr228) z fun I230 w229 L231 S232 => ya 19 1 z (sj R3 ▸ y4 ⟨I230, rfl, L231, S232⟩))))
 refine y6 207 G ?_
 iterate 7 refine yaj ?_
 exact ya 19 1 z (sj R3 ▸ y4 ⟨I215, rfl, lr, S217⟩)
 rintro _ w234 ⟨I225, rfl, L226, S235⟩
 exact ya 20 1 z (sj R2 ▸ y4 ⟨I225, rfl, L226, S235⟩)
 rintro _ w236 ⟨I221, rfl, L222, S237⟩
 refine yb (yy R1 (fun G R1 => ?_) (fun G R1 => ?_))
 refine yf [0] (ya 0 1 z (yb (yq (ym (yh (yu ?_))))))
 obtain rfl := hext202 _ (sj R1).symm
 exact ym (yh (sj D ▸ yw ⟨I221, rfl, le, S237.drop⟩))
 exact W.skip (yk (ye (yag nL3 (ya 0 1 z (yam i205 z (ya 2 1 z (yp (yt ⟨(), (sj R1).symm, I221, rfl, le, S237⟩))))))))
 rintro _ _ w242 ⟨I203, rfl, L204, S243⟩ he
 cases he
 exact W.seq (yf nL4 (ya 0 4 z (yb (yas fun _ => W.exit (yn (yo (yr (ye (yf [0] (ya 0 1 z (yb (yq (sj D ▸ yw ⟨I203, rfl, le, S243.drop⟩)))))))))))))
def r10_Height_fu : Nat → qE → Option Int
  | 0, _ => none
  | fu + 1, p0 => (forE (fun (i9 : Nat) (s8 : Int) => (idx p0.Kids (i9 : Int)).bind (fun x16 => (r10_Height_fu fu x16).bind (fun r22 => ((bif (decide (r22 > s8)) then some r22 else some s8)).bind (fun (j23 : Int) => some j23)))) p0.Kids.length 0 0).bind (fun s8 => some (w64 (s8 + 1)))
noncomputable def r10_Height (p0 : qE) : Option Int := anyFuel (fun fu => r10_Height_fu fu p0)
theorem r10_Height_fu_ok : ∀ (fu : Nat) {E w : World} {I : Mem} {Os : List Mem} {p0 : qE} {w_p0 : W_qE} (h_p0 : ok_qE I p0 w_p0) (hS : St E w I Os) {r : Int} (D : r10_Height_fu fu p0 = some r),
    Calls P 186 #[(vE p0 w_p0)] w (RT E I Os (Iv r)) := by
 intro fu
 induction fu with
 | zero => intro E w I Os p0 w_p0 h_p0 hS r D; cases D
 | succ fu ih =>
 intro E w I Os p0 w_p0 h_p0 hS r D
 refine calls_W (fn := Tryz.f186) rfl rfl rfl ?_
 unfold r10_Height_fu at D
 refine yf nL2 (yz hS (cs_qE p0 w_p0) 61 z fun b1 w4 S3 => ya 1 1 z (y0 [0] (ya 0 1 z (yb (W.seq (yf [0] (ya 0 1 z (yb (yl (bsk D fun s8 hloop10 D => have hlt14 := (h_p0.Kids).len_lt; W.wk (yat (m := p0.Kids.length) hloop10 (fun (i9 : Nat) (s8 : Int) => JI E I [(1, Pt b1 0), (3, Iv s8), (4, Nv i9)] (bE b1 p0 w_p0 :: Os)) ⟨I, rfl, lr, S3⟩ ?_ ?_)))))))))))
 rintro i9 s8 _ w11 hi15 ⟨I6, rfl, L7, S12⟩ x13 R1
 refine W.seq (yf nL5 (yg 0 2 [6] z (yj (S12.rf m0) z (ya 3 2 z (yb (yar fun _ => W.skip (ye (W.seq (yl (yf nL7 (yg 0 1 [6] z (yj (S12.rf m0) z (ya 2 1 z ?_)))))))))))))
 obtain ⟨x16, Xx16, R1⟩ := bsm R1
 obtain ⟨h0_x16, h1_x16, Xx16⟩ := idx_some Xx16
 obtain ⟨ha_x16, cs_x16, hn_x16, hr_x16, Zx16⟩ := ((RSl.mono h_p0.Kids L7)).el _ _ Xx16
 obtain ⟨w_x16, rfl, h_x16⟩ := Q_qE_iff.1 hr_x16
 refine ya5 61 7 ha_x16 h0_x16 h1_x16 ?_
 refine yau ((cs_qE x16 w_x16)) Zx16 0 S12.rm z (bsk R1 fun r22 Xr17 R1 => WO.c1 (ih h_x16 S12 Xr17) z fun I19 w18 L20 S21 => ya 6 1 z (y0 nL3 (ya 0 3 z (yb (bsk R1 fun j23 R2 R1 => yav (J := JI E I19 [(1, Pt b1 0), (3, Iv j23), (4, Nv i9)] (bE b1 p0 w_p0 :: Os)) ?_ ?_)))))
 refine yy R2 (fun G R2 => ?_) (fun G R2 => ?_)
 exact yag nL2 (ya 0 2 z (yp (sj R2 ▸ yt ⟨I19, rfl, lr, S21⟩)))
 exact W.skip (sj R2 ▸ yt ⟨I19, rfl, lr, S21⟩)
 rintro _ w27 ⟨I25, rfl, L26, S28⟩
 exact yk (ye (yag nL3 (ya 0 1 z (yam i9 z (ya 2 1 z (yp (sj R1 ▸ yt ⟨I25, rfl, le, S28⟩)))))))
 rintro _ w29 ⟨I6, rfl, L7, S30⟩
 exact W.seq (yf nL5 (yg 0 2 [6] z (yj (S30.rf m0) z (ya 3 2 z (yb (yas fun _ => W.exit (yn (yo (yr (ye (yf nL3 (ya 0 3 z (yb (yq (sj D ▸ yw ⟨I6, rfl, L7, S30.drop⟩)))))))))))))))
theorem r10_Height_ok {p0 : qE} {w_p0 : W_qE} (h_p0 : ok_qE I p0 w_p0) (hS : St E w I Os) {r : Int} (D : r10_Height p0 = some r) :
    Calls P 186 #[(vE p0 w_p0)] w (RT E I Os (Iv r)) := by
 obtain ⟨fu, hf⟩ := anyFuel_some D
 exact r10_Height_fu_ok fu h_p0 hS hf
noncomputable def r03_Right (p0 : qV) : Option Bool := (bif (p0.Kind == 0) then some ((p0.N == 0) && (sEq p0.S eB)) else (bif (p0.Kind == 1) then some (sEq p0.S eB) else (bif (p0.Kind == 2) then (some (((sEq p0.S eB) && (decide (p0.N ≥ 0))) && (decide (p0.N ≤ 1)))).bind (fun (q11 : Bool) => some q11) else (bif (p0.Kind == 3) then ((bif ((p0.N == 0) && (decide ((p0.S.size : Int) ≤ 32))) then (r03_Plain p0.S).bind (fun r26 => some r26) else some false)).bind (fun (j17 : Bool) => some j17) else some false))))
theorem r03_Right_ok {p0 : qV} (hS : St E w I Os) {r : Bool} (D : r03_Right p0 = some r) :
    Calls P 209 #[(vV p0)] w (RT E I Os (.bool r)) := by
 refine calls_W (fn := Tryz.f209) rfl rfl rfl ?_
 unfold r03_Right at D
 refine yf nL2 (yz hS (cs_qV p0) 58 z fun b1 w4 S3 => ya 1 1 z (yb (W.seq (yf nL2 (yg 0 1 [0] z (yj (S3.rf m0) z (yb (yl (yf nL2 (ya 0 2 z (yb (yy D (fun G D => ?_) (fun G D => ?_)))))))))))))
 exact yf nL9 (yg 0 1 [1] z (yj (S3.rf m0) z (ya 2 2 z (yaq [4, 5, 6] 7 10 14 (.refl ((p0.N == 0) && (sEq p0.S eB))) (fun _ => yg 4 1 [2] z (yj (S3.rf m0) z (ya 6 2 z yah))) (ya 8 1 z (yb (yq (ym (yh (sj D ▸ yw ⟨I, rfl, lr, S3.drop⟩))))))))))
 refine yf nL2 (ya 0 2 z (yb (yy D (fun G D => ?_) (fun G D => ?_))))
 exact yf nL4 (yg 0 1 [2] z (yj (S3.rf m0) z (ya 2 2 z (yb (yq (ym (yh (sj D ▸ yw ⟨I, rfl, lr, S3.drop⟩))))))))
 refine yf nL2 (ya 0 2 z (yb (yy D (fun G D => ?_) (fun G D => ?_))))
 exact yf nL14 (yg 0 1 [2] z (yj (S3.rf m0) z (ya 2 2 z (yaq [4, 5, 6] 7 25 29 (.refl ((sEq p0.S eB) && (decide (p0.N ≥ 0)))) (fun _ => yg 4 1 [1] z (yj (S3.rf m0) z (ya 6 2 z yah))) (ya 8 1 z (bsq D fun q11 Xq11 D => yaq [9, 10, 11] 12 30 34 Xq11 (fun _ => yg 9 1 [1] z (yj (S3.rf m0) z (ya 11 2 z yah))) (ya 13 1 z (yb (yq (ym (yh (sj D ▸ yw ⟨I, rfl, lr, S3.drop⟩))))))))))))
 refine yf nL2 (ya 0 2 z (yb (yy D (fun G D => ?_) (fun G D => ?_))))
 refine yf nL15 (yg 0 1 [1] z (yj (S3.rf m0) z (ya 2 2 z (yaq [4, 5, 6, 7] 8 40 45 (.refl ((p0.N == 0) && (decide ((p0.S.size : Int) ≤ 32)))) (fun _ => yg 4 1 [2] z (yj (S3.rf m0) z (ya 6 3 z yah))) (ya 9 1 z (bsk D fun j17 R1 D => yal (l1 := [10, 11, 12, 13]) (J := JI E I [(50, .bool j17)] Os) ?_ ?_))))))
 refine yak R1 (fun G R1 => ?_) (fun G R1 => ?_)
 exact y6 46 G (yg 10 1 [2] z (yj (S3.rf m0) z (bsk R1 fun r26 Xr21 R1 => WO.c1 (r03_Plain_ok  S3 Xr21) z fun I23 w22 L24 S25 => ya 13 1 z (sj R1 ▸ y4 ⟨I23, rfl, L24, S25.drop⟩))))
 refine y6 46 G ?_
 iterate 3 refine yaj ?_
 exact ya 13 1 z (sj R1 ▸ y4 ⟨I, rfl, lr, S3.drop⟩)
 rintro _ w29 ⟨I19, rfl, L20, S30⟩
 exact ya 14 1 z (yb (yq (ym (yh (sj D ▸ yw ⟨I19, rfl, L20, S30⟩)))))
 exact W.skip (yk (ye (yf [0] (ya 0 1 z (yb (yq (sj D ▸ yw ⟨I, rfl, lr, S3.drop⟩)))))))
noncomputable def r10_Right_fu : Nat → qE → Bool → Option Bool
  | 0, _, _ => none
  | fu + 1, p0, p1 => (forN (fun (i8 : Nat) (_s : Unit) => (idx p0.Kids (i8 : Int)).bind (fun x15 => (r10_Right_fu fu x15 p1).bind (fun r21 => (bif (!r21) then some (.inr false) else some (.inl ()))))) p0.Kids.length 0 ()).bind (fun (t : Unit ⊕ (Bool)) => match t with | .inl _ => (some ((p0.Kind != 1) && (!((p0.V.Kind == 0) && ((p0.V.N == 0) && sEq p0.V.S eB))))).bind (fun (q32 : Bool) => (some (q32 || (((p0.Kind != 2) && (p0.Kind != 7)) && (!sEq p0.Name eB)))).bind (fun (q39 : Bool) => (bif q39 then some false else (some ((((p0.Kind == 1) || (p0.Kind == 2)) || (p0.Kind == 6)) || (p0.Kind == 7))).bind (fun (q52 : Bool) => (bif (q52 && (p0.Op != 0)) then some false else (bif (p0.Kind == 1) then ((bif ((p0.Kids.length : Int) == 0) then (r03_Right p0.V).bind (fun r69 => some r69) else some false)).bind (fun (j59 : Bool) => some (j59 && (!((p0.V.Kind == 1) && (decide (p0.V.N < 0)))))) else (bif (p0.Kind == 2) then ((bif ((p0.Kids.length : Int) == 0) then (r09_IsName p0.Name).bind (fun r90 => some r90) else some false)).bind (fun (j81 : Bool) => some j81) else (bif (p0.Kind == 3) then (some ((((p0.Kids.length : Int) == 0) && (decide (p0.Op ≥ 1))) && (decide (p0.Op ≤ 6)))).bind (fun (q99 : Bool) => some q99) else (bif (p0.Kind == 4) then (some ((((p0.Kids.length : Int) == 1) && (decide (p0.Op ≥ 1))) && (decide (p0.Op ≤ 4)))).bind (fun (q106 : Bool) => some q106) else (bif (p0.Kind == 5) then (some ((((p0.Kids.length : Int) == 2) && (decide (p0.Op ≥ 1))) && (decide (p0.Op ≤ 14)))).bind (fun (q113 : Bool) => some q113) else (bif (p0.Kind == 6) then (some ((decide ((p0.Kids.length : Int) ≥ 2)) && (decide ((p0.Kids.length : Int) ≤ 9)))).bind (fun (q118 : Bool) => some q118) else (bif (p0.Kind == 7) then (some ((sEq p0.Name (⟨#[99, 111, 97, 108, 101, 115, 99, 101]⟩ : By8)) && (decide ((p0.Kids.length : Int) ≥ 1)))).bind (fun (q123 : Bool) => (some ((q123 && (decide ((p0.Kids.length : Int) ≤ 4))) || (((sEq p0.Name (⟨#[108, 101, 110, 103, 116, 104]⟩ : By8)) || (sEq p0.Name (⟨#[97, 98, 115]⟩ : By8))) && ((p0.Kids.length : Int) == 1)))).bind (fun (q132 : Bool) => some q132)) else (bif (p0.Kind == 8) then (some ((p1 && ((p0.Kids.length : Int) == 0)) && (decide (p0.Op ≥ 0)))).bind (fun (q143 : Bool) => some (q143 && (decide (p0.Op ≤ 5)))) else some false))))))))))))) | .inr s23 => some s23)
noncomputable def r10_Right (p0 : qE) (p1 : Bool) : Option Bool := anyFuel (fun fu => r10_Right_fu fu p0 p1)
theorem r10_Right_fu_ok : ∀ (fu : Nat) {E w : World} {I : Mem} {Os : List Mem} {p0 : qE} {p1 : Bool} {w_p0 : W_qE} (h_p0 : ok_qE I p0 w_p0) (hS : St E w I Os) {r : Bool} (D : r10_Right_fu fu p0 p1 = some r),
    Calls P 187 #[(vE p0 w_p0), (.bool p1)] w (RT E I Os (.bool r)) := by
 intro fu
 induction fu with
 | zero => intro E w I Os p0 p1 w_p0 h_p0 hS r D; cases D
 | succ fu ih =>
 intro E w I Os p0 p1 w_p0 h_p0 hS r D
 refine calls_W (fn := Tryz.f187) rfl rfl rfl ?_
 unfold r10_Right_fu at D
 refine yf nL2 (yz hS (cs_qE p0 w_p0) 61 z fun b1 w4 S3 => ya 1 1 z (yb (W.seq (yf [0] (ya 0 1 z (yb (yl (bsk D fun t5 hloop9 D => have hlt13 := (h_p0.Kids).len_lt; W.wk (yap (m := p0.Kids.length) hloop9 (fun (i8 : Nat) (_s : Unit) => JI E I [(1, .bool p1), (2, Pt b1 0), (5, Nv i8)] (bE b1 p0 w_p0 :: Os)) ⟨I, rfl, lr, S3⟩ ?_ ?_)))))))))
 rintro i8 _ _ w10 hi14 ⟨I6, rfl, L7, S11⟩ x12 R1 hext5
 refine W.seq (yf nL5 (yg 0 2 [6] z (yj (S11.rf m0) z (ya 3 2 z (yb (yar fun _ => W.skip (ye (W.seq (yl (yf nL8 (yg 0 1 [6] z (yj (S11.rf m0) z (ya 2 1 z ?_)))))))))))))
 obtain ⟨x15, Xx15, R1⟩ := bsm R1
 obtain ⟨h0_x15, h1_x15, Xx15⟩ := idx_some Xx15
 obtain ⟨ha_x15, cs_x15, hn_x15, hr_x15, Zx15⟩ := ((RSl.mono h_p0.Kids L7)).el _ _ Xx15
 obtain ⟨w_x15, rfl, h_x15⟩ := Q_qE_iff.1 hr_x15
 refine ya5 61 7 ha_x15 h0_x15 h1_x15 ?_
 refine yau ((cs_qE x15 w_x15)) Zx15 0 S11.rm z (ya 5 1 z (bsk R1 fun r21 Xr16 R1 => WO.c1 (ih h_x15 S11 Xr16) z fun I18 w17 L19 S20 => ya 7 1 z (yb (yy R1 (fun G R1 => ?_) (fun G R1 => ?_)))))
 refine yf [0] (ya 0 1 z (yb (yq (ym (yh (yu ?_))))))
 obtain rfl := hext5 _ (sj R1).symm
 exact ym (yh (sj D ▸ yw ⟨I18, rfl, le, S20.drop⟩))
 exact W.skip (yk (ye (yag nL3 (ya 0 1 z (yam i8 z (ya 2 1 z (yp (yt ⟨(), (sj R1).symm, I18, rfl, le, S20⟩))))))))
 rintro _ _ w26 ⟨I6, rfl, L7, S27⟩ he
 cases he
 refine W.seq (yf nL5 (yg 0 2 [6] z (yj (S27.rf m0) z (ya 3 2 z (yb (yas fun _ => W.exit (yn (yo (yr (ye (yf nL4 (yg 0 1 [6] z (yj (S27.rf m0) z (ya 2 2 z (y0 [0] (yz S27 (cs_qV z_qV) 58 z fun b28 w31 S30 => yb (W.seq (yf nL24 (yg 0 1 [0] z (yj (S30.rf m1) z (ya 2 2 z (bsq D fun q32 Xq32 D => yaq [4, 5, 6, 7] 8 29 34 Xq32 (fun G => ?_) ?_))))))))))))))))))))))
 refine yg 4 1 [2] z (yx ((cs_qV p0.V)) (S30.rf m1) z (yx ((cs_qV z_qV)) (S30.rf m0) z (ybn z kr z z kr 50 z (b := ((p0.V.Kind == 0) && ((p0.V.N == 0) && (sEq p0.V.S eB && true)))) kr (!((p0.V.Kind == 0) && ((p0.V.N == 0) && sEq p0.V.S eB))) (.inr ⟨rfl, by simp only [Bool.and_true]⟩) ?_)))
 exact ya 8 1 z yah
 refine ya 9 1 z (bsq D fun q39 Xq39 D => ya2 [10, 11, 12, 13, 14, 15, 16, 17, 18, 19, 20, 21, 22] 23 35 49 Xq39 (fun _ => yg 10 1 [0] z (yj (S30.rf m1) z (ya 12 2 z (yaq [14, 15, 16] 17 39 43 (.refl ((p0.Kind != 2) && (p0.Kind != 7))) (fun _ => yg 14 1 [0] z (yj (S30.rf m1) z (ya 16 2 z yah))) (ya 18 1 z (yaq [19, 20, 21] 22 44 48 (.refl (((p0.Kind != 2) && (p0.Kind != 7)) && (!sEq p0.Name eB))) (fun _ => yg 19 1 [5] z (yj (S30.rf m1) z (ya 21 2 z yah))) (ya 23 1 z yah))))))) (yb (yy D (fun G D => ?_) (fun G D => ?_))))
 exact yf [0] (ya 0 1 z (yb (yq (yh (sj D ▸ yw ⟨I6, rfl, L7, S30.d2⟩)))))
 refine W.skip (ye (W.seq (yf nL23 (yg 0 1 [0] z (yj (S30.rf m1) z (ya 2 2 z (ya2 [4, 5, 6] 7 53 57 (.refl ((p0.Kind == 1) || (p0.Kind == 2))) (fun _ => yg 4 1 [0] z (yj (S30.rf m1) z (ya 6 2 z yah))) (ya 8 1 z (ya2 [9, 10, 11] 12 58 62 (.refl (((p0.Kind == 1) || (p0.Kind == 2)) || (p0.Kind == 6))) (fun _ => yg 9 1 [0] z (yj (S30.rf m1) z (ya 11 2 z yah))) (ya 13 1 z (bsq D fun q52 Xq52 D => ya2 [14, 15, 16] 17 63 67 Xq52 (fun _ => yg 14 1 [0] z (yj (S30.rf m1) z (ya 16 2 z yah))) (ya 18 1 z (yaq [19, 20, 21] 22 68 72 (.refl (q52 && (p0.Op != 0))) (fun _ => yg 19 1 [1] z (yj (S30.rf m1) z (ya 21 2 z yah))) (yb (yy D (fun G D => ?_) (fun G D => ?_))))))))))))))))
 exact yf [0] (ya 0 1 z (yb (yq (yh (sj D ▸ yw ⟨I6, rfl, L7, S30.d2⟩)))))
 refine W.skip (ye (W.seq (yf nL2 (yg 0 1 [0] z (yj (S30.rf m1) z (yb (yl (yf nL2 (ya 0 2 z (yb (yy D (fun G D => ?_) (fun G D => ?_))))))))))))
 refine yf nL21 (ya 0 3 z (bsk D fun j59 R1 D => yal (l1 := [3, 4, 5, 6]) (J := JI E I6 [(2, Pt b1 0), (83, .bool j59)] (bE b1 p0 w_p0 :: Os)) ?_ ?_))
 refine yak R1 (fun G R1 => ?_) (fun G R1 => ?_)
 exact y6 79 G (yg 3 1 [2] z (yx ((cs_qV p0.V)) (S30.rf m1) z (bsk R1 fun r69 Xr63 R1 => WO.c1 (r03_Right_ok  S30 Xr63) z fun I66 w65 L67 S68 => ya 6 1 z (sj R1 ▸ y4 ⟨I66, rfl, L67, S68.drop⟩))))
 refine y6 79 G ?_
 iterate 3 refine yaj ?_
 exact ya 6 1 z (sj R1 ▸ y4 ⟨I6, rfl, lr, S30.drop⟩)
 rintro _ w72 ⟨I61, rfl, L62, S73⟩
 exact ya 7 1 z (yaq [8, 9, 10, 11, 12, 13, 14, 15, 16, 17, 18] 19 84 96 (.refl (j59 && (!((p0.V.Kind == 1) && (decide (p0.V.N < 0)))))) (fun _ => yg 8 2 [2, 0] z (yj (S73.rf m0) z (ya 11 2 z (yaq [13, 14, 15, 16] 17 89 94 (.refl ((p0.V.Kind == 1) && (decide (p0.V.N < 0)))) (fun _ => yg 13 2 [2, 1] z (yj (S73.rf m0) z (ya 16 2 z yah))) (ya 18 2 z yah))))) (ya 20 1 z (yb (yq (ym (yh (sj D ▸ yw ⟨I61, rfl, le, S73.drop⟩)))))))
 refine yf nL2 (ya 0 2 z (yb (yy D (fun G D => ?_) (fun G D => ?_))))
 refine yf nL8 (ya 0 3 z (bsk D fun j81 R1 D => yal (l1 := [3, 4, 5, 6]) (J := JI E I6 [(105, .bool j81)] Os) ?_ ?_))
 refine yak R1 (fun G R1 => ?_) (fun G R1 => ?_)
 exact y6 101 G (yg 3 1 [5] z (yj (S30.rf m1) z (bsk R1 fun r90 Xr85 R1 => WO.c1 (r09_IsName_ok  S30 Xr85) z fun I87 w86 L88 S89 => ya 6 1 z (sj R1 ▸ y4 ⟨I87, rfl, L88, S89.d2⟩))))
 refine y6 101 G ?_
 iterate 3 refine yaj ?_
 exact ya 6 1 z (sj R1 ▸ y4 ⟨I6, rfl, lr, S30.d2⟩)
 rintro _ w95 ⟨I83, rfl, L84, S96⟩
 exact ya 7 1 z (yb (yq (ym (yh (sj D ▸ yw ⟨I83, rfl, le, S96⟩)))))
 refine yf nL2 (ya 0 2 z (yb (yy D (fun G D => ?_) (fun G D => ?_))))
 exact yf nL13 (ya 0 3 z (yaq [3, 4, 5] 6 110 114 (.refl (((p0.Kids.length : Int) == 0) && (decide (p0.Op ≥ 1)))) (fun _ => yg 3 1 [1] z (yj (S30.rf m1) z (ya 5 2 z yah))) (ya 7 1 z (bsq D fun q99 Xq99 D => yaq [8, 9, 10] 11 115 119 Xq99 (fun _ => yg 8 1 [1] z (yj (S30.rf m1) z (ya 10 2 z yah))) (ya 12 1 z (yb (yq (ym (yh (sj D ▸ yw ⟨I6, rfl, L7, S30.d2⟩))))))))))
 refine yf nL2 (ya 0 2 z (yb (yy D (fun G D => ?_) (fun G D => ?_))))
 exact yf nL13 (ya 0 3 z (yaq [3, 4, 5] 6 124 128 (.refl (((p0.Kids.length : Int) == 1) && (decide (p0.Op ≥ 1)))) (fun _ => yg 3 1 [1] z (yj (S30.rf m1) z (ya 5 2 z yah))) (ya 7 1 z (bsq D fun q106 Xq106 D => yaq [8, 9, 10] 11 129 133 Xq106 (fun _ => yg 8 1 [1] z (yj (S30.rf m1) z (ya 10 2 z yah))) (ya 12 1 z (yb (yq (ym (yh (sj D ▸ yw ⟨I6, rfl, L7, S30.d2⟩))))))))))
 refine yf nL2 (ya 0 2 z (yb (yy D (fun G D => ?_) (fun G D => ?_))))
 exact yf nL13 (ya 0 3 z (yaq [3, 4, 5] 6 138 142 (.refl (((p0.Kids.length : Int) == 2) && (decide (p0.Op ≥ 1)))) (fun _ => yg 3 1 [1] z (yj (S30.rf m1) z (ya 5 2 z yah))) (ya 7 1 z (bsq D fun q113 Xq113 D => yaq [8, 9, 10] 11 143 147 Xq113 (fun _ => yg 8 1 [1] z (yj (S30.rf m1) z (ya 10 2 z yah))) (ya 12 1 z (yb (yq (ym (yh (sj D ▸ yw ⟨I6, rfl, L7, S30.d2⟩))))))))))
 refine yf nL2 (ya 0 2 z (yb (yy D (fun G D => ?_) (fun G D => ?_))))
 exact yf nL7 (ya 0 3 z (bsq D fun q118 Xq118 D => yaq [3, 4] 5 152 155 Xq118 (fun _ => ya 3 3 z yah) (ya 6 1 z (yb (yq (ym (yh (sj D ▸ yw ⟨I6, rfl, L7, S30.d2⟩))))))))
 refine yf nL2 (ya 0 2 z (yb (yy D (fun G D => ?_) (fun G D => ?_))))
 exact yf nL26 (yg 0 1 [5] z (yj (S30.rf m1) z (ya 2 2 z (bsq D fun q123 Xq123 D => yaq [4, 5] 6 161 164 Xq123 (fun _ => ya 4 3 z yah) (ya 7 1 z (yaq [8, 9] 10 165 168 (.refl (q123 && (decide ((p0.Kids.length : Int) ≤ 4)))) (fun _ => ya 8 3 z yah) (ya 11 1 z (bsq D fun q132 Xq132 D => ya2 [12, 13, 14, 15, 16, 17, 18, 19, 20, 21, 22, 23] 24 169 182 Xq132 (fun _ => yg 12 1 [5] z (yj (S30.rf m1) z (ya 14 2 z (ya2 [16, 17, 18] 19 173 177 (.refl ((sEq p0.Name (⟨#[108, 101, 110, 103, 116, 104]⟩ : By8)) || (sEq p0.Name (⟨#[97, 98, 115]⟩ : By8)))) (fun _ => yg 16 1 [5] z (yj (S30.rf m1) z (ya 18 2 z yah))) (ya 20 1 z (yaq [21, 22] 23 178 181 (.refl (((sEq p0.Name (⟨#[108, 101, 110, 103, 116, 104]⟩ : By8)) || (sEq p0.Name (⟨#[97, 98, 115]⟩ : By8))) && ((p0.Kids.length : Int) == 1))) (fun _ => ya 21 3 z yah) (ya 24 1 z yah))))))) (ya 25 1 z (yb (yq (ym (yh (sj D ▸ yw ⟨I6, rfl, L7, S30.d2⟩))))))))))))))
 refine yf nL2 (ya 0 2 z (yb (yy D (fun G D => ?_) (fun G D => ?_))))
 exact yf nL16 (ya 0 2 z (yaq [2, 3] 4 186 189 (.refl (p1 && ((p0.Kids.length : Int) == 0))) (fun _ => ya 2 3 z yah) (ya 5 1 z (bsq D fun q143 Xq143 D => yaq [6, 7, 8] 9 190 194 Xq143 (fun _ => yg 6 1 [1] z (yj (S30.rf m1) z (ya 8 2 z yah))) (ya 10 1 z (yaq [11, 12, 13] 14 195 199 (.refl (q143 && (decide (p0.Op ≤ 5)))) (fun _ => yg 11 1 [1] z (yj (S30.rf m1) z (ya 13 2 z yah))) (ya 15 1 z (yb (yq (ym (yh (sj D ▸ yw ⟨I6, rfl, L7, S30.d2⟩))))))))))))
 exact W.skip (yk (ye (yf [0] (ya 0 1 z (yb (yq (sj D ▸ yw ⟨I6, rfl, L7, S30.d2⟩)))))))
theorem r10_Right_ok {p0 : qE} {p1 : Bool} {w_p0 : W_qE} (h_p0 : ok_qE I p0 w_p0) (hS : St E w I Os) {r : Bool} (D : r10_Right p0 p1 = some r) :
    Calls P 187 #[(vE p0 w_p0), (.bool p1)] w (RT E I Os (.bool r)) := by
 obtain ⟨fu, hf⟩ := anyFuel_some D
 exact r10_Right_fu_ok fu h_p0 hS hf
noncomputable def r10_Check (p0 : qE) (p1 : Bool) : Option Int := (r10_Height p0).bind (fun r10 => (bif (decide (r10 > 8)) then some 17 else (r10_Right p0 p1).bind (fun r17 => (bif (!r17) then some 2 else some 0))))
theorem r10_Check_ok {p0 : qE} {p1 : Bool} {w_p0 : W_qE} (h_p0 : ok_qE I p0 w_p0) (hS : St E w I Os) {r : Int} (D : r10_Check p0 p1 = some r) :
    Calls P 162 #[(vE p0 w_p0), (.bool p1)] w (RT E I Os (Iv r)) := by
 refine calls_W (fn := Tryz.f162) rfl rfl rfl ?_
 unfold r10_Check at D
 refine yf nL2 (yz hS (cs_qE p0 w_p0) 61 z fun b1 w4 S3 => ya 1 1 z (yb (W.seq (yf nL3 (yx ((cs_qE p0 w_p0)) (S3.rf m0) z (bsk D fun r10 Xr5 D => WO.c1 (r10_Height_ok h_p0 S3 Xr5) z fun I7 w6 L8 S9 => ya 2 1 z (yb (yy D (fun G D => ?_) (fun G D => ?_)))))))))
 exact yf [0] (ya 0 1 z (yb (yq (yh (sj D ▸ yw ⟨I7, rfl, L8, S9.drop⟩)))))
 refine W.skip (ye (W.seq (yf nL4 (yx ((cs_qE p0 w_p0)) (S9.rf m0) z (ya 1 1 z (bsk D fun r17 Xr12 D => WO.c1 (r10_Right_ok (h_p0.mono L8) S9 Xr12) z fun I14 w13 L15 S16 => ya 3 1 z (yb (yy D (fun G D => ?_) (fun G D => ?_)))))))))
 exact yf [0] (ya 0 1 z (yb (yq (yh (sj D ▸ yw ⟨I14, rfl, le, S16.drop⟩)))))
 exact W.skip (ye (yf [0] (ya 0 1 z (yb (yq (sj D ▸ yw ⟨I14, rfl, le, S16.drop⟩))))))
noncomputable def r10_Params (p0 : qE) : Option Int := (r10_Parts p0).bind (fun r10 => (forE (fun (i15 : Nat) (s14 : Int) => (idx r10 (i15 : Int)).bind (fun x23 => ((bif (x23.Kind == 3) then (idx r10 (i15 : Int)).bind (fun x28 => some (decide (x28.Op > s14))) else some false)).bind (fun (j24 : Bool) => ((bif j24 then (idx r10 (i15 : Int)).bind (fun x35 => some x35.Op) else some s14)).bind (fun (j31 : Int) => some j31)))) r10.length 0 0).bind (fun s14 => some s14))
theorem r10_Params_ok {p0 : qE} {w_p0 : W_qE} (h_p0 : ok_qE I p0 w_p0) (hS : St E w I Os) {r : Int} (D : r10_Params p0 = some r) :
    Calls P 163 #[(vE p0 w_p0)] w (RT E I Os (Iv r)) := by
 refine calls_W (fn := Tryz.f163) rfl rfl rfl ?_
 unfold r10_Params at D
 refine yf nL2 (yz hS (cs_qE p0 w_p0) 61 z fun b1 w4 S3 => ya 1 1 z (y0 nL3 (yx ((cs_qE p0 w_p0)) (S3.rf m0) z (bsk D fun r10 Xr5 D => yai (r10_Parts_ok h_p0 S3 Xr5) ?_))))
 rintro _ w6 ⟨I7, a_r10, c_r10, rfl, L8, S9, h_r10⟩
 refine cv (ya 2 1 z (y0 [0] (ya 0 1 z (yb (W.seq (yf [0] (ya 0 1 z (yb (yl (bsk D fun s14 hloop16 D => have hlt21 := (h_r10).len_lt; W.wk (yat (m := r10.length) hloop16 (fun (i15 : Nat) (s14 : Int) => JI E I7 [(3, Sl a_r10 r10 c_r10), (4, Iv s14), (5, Nv i15)] Os) ⟨I7, rfl, lr, S9.drop⟩ ?_ ?_)))))))))))
 rintro i15 s14 _ w18 hi22 ⟨I12, rfl, L13, S19⟩ x20 R1
 refine W.seq (yf nL4 (ya 0 4 z (yb (yar fun _ => W.skip (ye (W.seq (yl (yf nL15 (ya 0 2 z ?_)))))))))
 obtain ⟨x23, Xx23, R1⟩ := bsm R1
 obtain ⟨h0_x23, h1_x23, Xx23⟩ := idx_some Xx23
 obtain ⟨ha_x23, cs_x23, hn_x23, hr_x23, Zx23⟩ := ((RSl.mono h_r10 L13)).el _ _ Xx23
 obtain ⟨w_x23, rfl, h_x23⟩ := Q_qE_iff.1 hr_x23
 refine ya5 61 7 ha_x23 h0_x23 h1_x23 ?_
 refine yg 3 1 [0] z (yao Zx23 S19.rm z (ya 5 2 z (bsk R1 fun j24 R2 R1 => yal (l1 := [7, 8, 9, 10, 11, 12, 13, 14]) (J := JI E I12 [(3, Sl a_r10 r10 c_r10), (4, Iv s14), (5, Nv i15), (28, .bool j24)] Os) ?_ ?_)))
 refine yak R2 (fun G R2 => ?_) (fun G R2 => ?_)
 refine y6 20 G (ya 7 2 z ?_)
 obtain ⟨x28, Xx28, R2⟩ := bsm R2
 obtain ⟨h0_x28, h1_x28, Xx28⟩ := idx_some Xx28
 obtain ⟨ha_x28, cs_x28, hn_x28, hr_x28, Zx28⟩ := ((RSl.mono h_r10 L13)).el _ _ Xx28
 obtain ⟨w_x28, rfl, h_x28⟩ := Q_qE_iff.1 hr_x28
 refine ya5 61 7 ha_x28 h0_x28 h1_x28 ?_
 exact yg 10 1 [1] z (yaz Zx28 1 S19.rm z (ya 12 3 z (sj R2 ▸ y4 ⟨I12, rfl, lr, S19⟩)))
 refine y6 20 G ?_
 iterate 7 refine yaj ?_
 exact ya 14 1 z (sj R2 ▸ y4 ⟨I12, rfl, lr, S19⟩)
 rintro _ w29 ⟨I26, rfl, L27, S30⟩
 refine yb (bsk R1 fun j31 R2 R1 => yav (J := JI E I26 [(3, Sl a_r10 r10 c_r10), (4, Iv j31), (5, Nv i15)] Os) ?_ ?_)
 refine yy R2 (fun G R2 => ?_) (fun G R2 => ?_)
 refine yag nL6 (ya 0 2 z ?_)
 obtain ⟨x35, Xx35, R2⟩ := bsm R2
 obtain ⟨h0_x35, h1_x35, Xx35⟩ := idx_some Xx35
 obtain ⟨ha_x35, cs_x35, hn_x35, hr_x35, Zx35⟩ := ((RSl.mono h_r10 (L13.trans L27))).el _ _ Xx35
 obtain ⟨w_x35, rfl, h_x35⟩ := Q_qE_iff.1 hr_x35
 refine ya5 61 7 ha_x35 h0_x35 h1_x35 ?_
 exact yg 3 1 [1] z (yaz Zx35 1 S30.rm z (ya 5 1 z (yp (sj R2 ▸ yt ⟨I26, rfl, lr, S30⟩))))
 exact W.skip (sj R2 ▸ yt ⟨I26, rfl, lr, S30⟩)
 rintro _ w36 ⟨I33, rfl, L34, S37⟩
 exact yk (ye (yag nL3 (ya 0 1 z (yam i15 z (ya 2 1 z (yp (sj R1 ▸ yt ⟨I33, rfl, le, S37⟩)))))))
 rintro _ w38 ⟨I12, rfl, L13, S39⟩
 exact W.seq (yf nL4 (ya 0 4 z (yb (yas fun _ => W.exit (yn (yo (yr (ye (yf nL2 (ya 0 2 z (yb (yq (sj D ▸ yw ⟨I12, rfl, le, S39⟩)))))))))))))
end Go.Proofs.YtlfphpegelclpaaGreat
