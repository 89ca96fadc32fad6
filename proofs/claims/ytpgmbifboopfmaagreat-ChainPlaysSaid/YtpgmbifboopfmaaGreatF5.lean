/- What functions of the program come to, each by a plain one. Conditions: none. -/
import Derived.Test.YtpgmbifboopfmaaGreatF4
import Derived.Test.YtpgmbifboopfmaaGreatProg
set_option maxRecDepth 100000
namespace Go.Proofs.YtpgmbifboopfmaaGreat
open Go.Gv
set_option maxHeartbeats 1000000
variable {E w : World} {I : Mem} {Os : List Mem}
noncomputable def law22_ChainPlays (p0 : List law22_Act) : Option Bool := (law22_few p0).bind (fun r6 => (bif (!r6) then (law22_works).bind (fun r12 => some r12) else (law19_Grown ([] : List law19_Act)).bind (fun r18 => (chain_New r18).bind (fun r30 => (r22_New r18).bind (fun r36 => (forN (fun (i42 : Nat) (s : chain_Chain × r22_Chain) => match s with | (s40, s41) => (idx p0 (i42 : Int)).bind (fun x59 => (law22_done s40 s41 x59).bind (fun (r73, r74, r75) => ((bif (!r73) then some true else (chain_Chain_Live r74).bind (fun r97 => (r22_Chain_Live r75).bind (fun r107 => (law22_numbers r97 r107).bind (fun r113 => some (!r113)))))).bind (fun (j76 : Bool) => ((bif j76 then some true else (chain_Chain_Now r74).bind (fun r137 => (r22_Chain_Now r75).bind (fun r147 => (r17_Same r137 r147).bind (fun r153 => some (!r153)))))).bind (fun (j124 : Bool) => (bif j124 then some (.inr (false, r74, r75)) else (forN (fun (i188 : Nat) (_s : Unit) => (chain_Chain_At r74 (i188 : Int)).bind (fun (r204, r205) => (r22_Chain_At r75 (i188 : Int)).bind (fun (r221, r222) => ((bif (!(r205 == r222)) then some true else (r17_Same r204 r221).bind (fun r249 => some (!r249)))).bind (fun (j229 : Bool) => (bif j229 then some (.inr false) else some (.inl ())))))) 10 0 ()).bind (fun (t : Unit ⊕ (Bool)) => match t with | .inl _ => some (.inl (r74, r75)) | .inr s264 => some (.inr (s264, r74, r75))))))))) p0.length 0 (r30, r36)).bind (fun (t : (chain_Chain × r22_Chain) ⊕ ((Bool × chain_Chain × r22_Chain))) => match t with | .inl (s40, s41) => (law22_works).bind (fun r290 => some r290) | .inr (s165, s166, s167) => some s165))))))
theorem law22_ChainPlays_ok {p0 : List law22_Act} {a_p0 : Option Addr} {c_p0 : Nat} (h_p0 : RSl 24 R_law22_Act I a_p0 c_p0 p0) (hS : St E w I Os) {r : Bool} (D : law22_ChainPlays p0 = some r) :
    Calls P 4 #[(Sl a_p0 p0 c_p0)] w (RT E I Os (.bool r)) := by
 refine calls_W (fn := Tryz.f4) rfl rfl rfl ?_
 unfold law22_ChainPlays at D
 refine yh [0] (ya 0 1 z (yb (W.seq (yh nL3 (ya 0 1 z (bsk D fun r6 Xr1 D => WO.c1 (law22_few_ok h_p0 hS Xr1) z fun I3 w2 L4 S5 => ya 2 1 z (yb (yz D (fun G D => ?_) (fun G D => ?_)))))))))
 exact yh nL2 (bsk D fun r12 Xr7 D => WO.c1 (law22_works_ok  S5 Xr7) z fun I9 w8 L10 S11 => ya 1 1 z (yb (yp (yg (sj D ▸ yw ⟨I9, rfl, le, S11⟩)))))
 refine W.skip (ye (yh nL3 (bsk D fun r18 Xr13 D => yag (law19_Grown_ok SlAt.nil S5 Xr13) ?_)))
 rintro _ w14 ⟨I15, w_r18, rfl, L16, S17, h_r18⟩
 refine cv (yab S17 (cs_qC z_qC zw_qC) 29 z fun b19 w22 S21 => yaa S21 0 (cs_qC r18 w_r18) fun w24 S23 => yad nL3 (y7 ((cs_qC r18 w_r18)) (S23.rf m0) z (bsk D fun r30 Xr25 D => yag (chain_New_ok h_r18 S23 Xr25) ?_)))
 rintro _ w26 ⟨I27, b_r30, w_r30, rfl, L28, S29, h_r30⟩
 refine cv (ya 2 1 z (yad nL3 (y7 ((cs_qC r18 w_r18)) (S29.rf m4) z (bsk D fun r36 Xr31 D => yag (r22_New_ok (h_r18.mono L28) S29 Xr31) ?_))))
 rintro _ w32 ⟨I33, b_r36, w_r36, rfl, L34, S35, h_r36⟩
 refine cv (ya 2 1 z (yb (W.seq (yh [0] (ya 0 1 z (yb (yn (bsk D fun t37 hloop43 D => have hlt57 := ((RSl.mono h_p0 (((L4.trans L16).trans L28).trans L34))).len_lt; W.wk (yaq (m := p0.length) hloop43 (fun (i42 : Nat) (s : chain_Chain × r22_Chain) fr w => match s with | (s40, s41) => ∃ I38 w_s40 w_s41, fr = [(0, Sl a_p0 p0 c_p0), (4, Pt b_r30 0), (5, Pt b_r36 0), (6, Nv i42)] ∧ I33.Le I38 ∧ St E w I38 ((Bx b_r30 (cs_chain_Chain s40 w_s40) 88) :: (Bx b_r36 (cs_r22_Chain s41 w_s41) 98) :: (w_s40.live.C) :: (w_s40.pins.C) :: (w_s40.news.C) :: (w_s41.All.C) :: (w_s41.Pins.C) :: (w_s41.Heard.C) :: Os) ∧ ok_chain_Chain I38 s40 w_s40 ∧ ok_r22_Chain I38 s41 w_s41) ⟨I33, w_r30, w_r36, rfl, lr, S35.front8.drop.front3.front3.front3.front7.front7.front7.front6.front7, (h_r30.mono L34), h_r36⟩ ?_ ?_)))))))))
 rintro i42 ⟨s40, s41⟩ _ w54 hi58 ⟨I38, w_s40, w_s41, rfl, L39, S55, h_s40, h_s41⟩ x56 R1 hext37
 refine W.seq (yh nL4 (ya 0 4 z (yb (yau fun _ => W.skip (ye (W.seq (yn (W.seq (yh nL24 (ya 0 4 z ?_))))))))))
 obtain ⟨x59, R1, Hx59, _, ⟨w_x59, rfl, h_x59⟩, Zx59⟩ := sx I38 h_p0 R1
 refine yy 50 24 Hx59 z (yar ((cs_law22_Act x59 w_x59)) Zx59 0 S55.rm z ?_)
 obtain ⟨⟨r73, r74, r75⟩, Xr68, R1⟩ := bsm R1
 refine yag (law22_done_ok h_s40 h_s41 h_x59 S55.front7.front7.front7.front4.front7.front7.front7.front7 Xr68) ?_
 rintro _ w69 ⟨I70, w_r74, w_r75, rfl, L71, S72, h_r74, h_r75⟩
 refine cv (ya 7 2 z (bsk R1 fun j76 R2 R1 => yao (l1 := [9, 10, 11, 12, 13, 14, 15]) (J := JI E I70 [(0, Sl a_p0 p0 c_p0), (4, Pt b_r30 0), (5, Pt b_r36 0), (6, Nv i42), (42, .bool j76)] ((Bx b_r30 (cs_chain_Chain r74 w_r74) 88) :: (Bx b_r36 (cs_r22_Chain r75 w_r75) 98) :: (w_r74.live.C) :: (w_r74.pins.C) :: (w_r74.news.C) :: (w_r75.All.C) :: (w_r75.Pins.C) :: (w_r75.Heard.C) :: Os)) ?_ ?_))
 refine yan R2 (fun G R2 => ?_) (fun G R2 => ?_)
 refine y6 35 G ?_
 iterate 6 refine yam ?_
 exact ya 15 1 z (sj R2 ▸ y0 ⟨I70, rfl, lr, S72.front7.front7.front7.front6.front6.front6.front7.front7⟩)
 refine y6 35 G (ya 9 1 z (bsk R2 fun r97 Xr92 R2 => yag (chain_Chain_Live_ok h_r74 S72.front3.front3.front3.front3 Xr92) ?_))
 rintro _ w93 ⟨I94, a_r97, c_r97, rfl, L95, S96, h_r97⟩
 refine cv (ya 11 1 z (bsk R2 fun r107 Xr102 R2 => yag (r22_Chain_Live_ok (h_r75.mono L95) S96.front7.front7.front7.front7 Xr102) ?_))
 rintro _ w103 ⟨I104, a_r107, c_r107, rfl, L105, S106, h_r107⟩
 exact cv (bsk R2 fun r113 Xr108 R2 => WO.c1 (law22_numbers_ok (RSl.mono h_r97 L105) h_r107 S106 Xr108) z fun I110 w109 L111 S112 => ya 14 2 z (sj R2 ▸ y0 ⟨I110, rfl, le, S112.front3.front3.front3.front7.front7.front7.front6.front7⟩))
 rintro _ w122 ⟨I78, rfl, L79, S123⟩
 refine ya 16 1 z (bsk R1 fun j124 R2 R1 => yao (l1 := [17, 18, 19, 20, 21, 22, 23]) (J := JI E I78 [(0, Sl a_p0 p0 c_p0), (4, Pt b_r30 0), (5, Pt b_r36 0), (6, Nv i42), (50, .bool j124)] ((Bx b_r30 (cs_chain_Chain r74 w_r74) 88) :: (Bx b_r36 (cs_r22_Chain r75 w_r75) 98) :: (w_r74.live.C) :: (w_r74.pins.C) :: (w_r74.news.C) :: (w_r75.All.C) :: (w_r75.Pins.C) :: (w_r75.Heard.C) :: Os)) ?_ ?_)
 refine yan R2 (fun G R2 => ?_) (fun G R2 => ?_)
 refine y6 43 G ?_
 iterate 6 refine yam ?_
 exact ya 23 1 z (sj R2 ▸ y0 ⟨I78, rfl, lr, S123⟩)
 refine y6 43 G (ya 17 1 z (bsk R2 fun r137 Xr132 R2 => yag (chain_Chain_Now_ok (h_r74.mono L79) S123.front4.front4.front4.front3 Xr132) ?_))
 rintro _ w133 ⟨I134, w_r137, rfl, L135, S136, h_r137⟩
 refine cv (ya 19 1 z (bsk R2 fun r147 Xr142 R2 => yag (r22_Chain_Now_ok (h_r75.mono le) S136.front7.front7.front7.front7 Xr142) ?_))
 rintro _ w143 ⟨I144, w_r147, rfl, L145, S146, h_r147⟩
 exact cv (bsk R2 fun r153 Xr148 R2 => WO.c1 (r17_Same_ok (h_r137.mono L145) h_r147 S146 Xr148) z fun I150 w149 L151 S152 => ya 22 2 z (sj R2 ▸ y0 ⟨I150, rfl, le, S152.front3.front3.front3.front7.front7.front7.front6.front7⟩))
 rintro _ w162 ⟨I126, rfl, L127, S163⟩
 refine yb (yz R1 (fun G R1 => ?_) (fun G R1 => ?_))
 refine yh [0] (ya 0 1 z (yb (yp (yg (yk (yg (yr ?_)))))))
 obtain rfl := hext37 _ (sj R1).symm
 exact yk (yg (sj D ▸ yw ⟨I126, rfl, le, S163.d8⟩))
 refine W.skip (ye (yh [0] (ya 0 1 z (yb (yn ?_)))))
 obtain ⟨t185, hloop189, R1⟩ := bsm R1
 have hlt193 : (10 : Nat) < big := by decide
 refine W.wk (yaq (m := 10) hloop189 (fun (i188 : Nat) (_s : Unit) => JI E I126 [(0, Sl a_p0 p0 c_p0), (4, Pt b_r30 0), (5, Pt b_r36 0), (6, Nv i42), (7, Nv i188)] ((Bx b_r30 (cs_chain_Chain r74 w_r74) 88) :: (Bx b_r36 (cs_r22_Chain r75 w_r75) 98) :: (w_r74.live.C) :: (w_r74.pins.C) :: (w_r74.news.C) :: (w_r75.All.C) :: (w_r75.Pins.C) :: (w_r75.Heard.C) :: Os)) ⟨I126, rfl, lr, S163⟩ ?_ ?_)
 rintro i188 _ _ w190 hi194 ⟨I186, rfl, L187, S191⟩ x192 R2 hext185
 refine W.seq (yh nL2 (ya 0 2 z (yb (yau fun _ => W.skip (ye (W.seq (yn (yh nL9 (ya 0 2 z ?_)))))))))
 obtain ⟨⟨r204, r205⟩, Xr199, R2⟩ := bsm R2
 refine yag (chain_Chain_At_ok (h_r74.mono le) S191.front4.front4.front4.front3 Xr199) ?_
 rintro _ w200 ⟨I201, w_r204, rfl, L202, S203, h_r204⟩
 refine cv (ya 3 3 z (yab S203 (cs_qC z_qC zw_qC) 29 z fun b206 w209 S208 => yaa S208 0 (cs_qC r204 w_r204) fun w211 S210 => ya 8 1 z (yad nL9 (ya 0 2 z ?_))))
 obtain ⟨⟨r221, r222⟩, Xr216, R2⟩ := bsm R2
 refine yag (r22_Chain_At_ok (h_r75.mono le) S210.front8.front8.front8.front8 Xr216) ?_
 rintro _ w217 ⟨I218, w_r221, rfl, L219, S220, h_r221⟩
 refine cv (ya 3 3 z (yab S220 (cs_qC z_qC zw_qC) 29 z fun b223 w226 S225 => yaa S225 0 (cs_qC r221 w_r221) fun w228 S227 => ya 8 1 z (yad nL9 (ya 0 2 z (yae 2 69 (.bool (!(r205 == r222))) (ya 3 1 z (bsk R2 fun j229 R3 R2 => yao (l1 := [4, 5, 6, 7, 8]) (J := JI E I218 [(0, Sl a_p0 p0 c_p0), (4, Pt b_r30 0), (5, Pt b_r36 0), (6, Nv i42), (7, Nv i188), (75, .bool j229)] ((Bx b_r30 (cs_chain_Chain r74 w_r74) 88) :: (Bx b_r36 (cs_r22_Chain r75 w_r75) 98) :: (w_r74.live.C) :: (w_r74.pins.C) :: (w_r74.news.C) :: (w_r75.All.C) :: (w_r75.Pins.C) :: (w_r75.Heard.C) :: Os)) ?_ ?_)))))))
 refine yan R3 (fun G R3 => ?_) (fun G R3 => ?_)
 refine y6 70 G ?_
 iterate 4 refine yam ?_
 exact ya 8 1 z (sj R3 ▸ y0 ⟨I218, rfl, lr, S227.drop.front4.drop.front3.front3.front3.front7.front7.front7.front6.front7⟩)
 exact y6 70 G (y7 ((cs_qC r204 w_r204)) (S227.rf m5) z (y7 ((cs_qC r221 w_r221)) (S227.rf m0) z (bsk R3 fun r249 Xr244 R3 => WO.c1 (r17_Same_ok (h_r204.mono L219) h_r221 S227 Xr244) z fun I246 w245 L247 S248 => ya 7 2 z (sj R3 ▸ y0 ⟨I246, rfl, L247, S248.drop.front4.drop.front3.front3.front3.front7.front7.front7.front6.front7⟩))))
 rintro _ w261 ⟨I231, rfl, L232, S262⟩
 refine yb (yz R2 (fun G R2 => ?_) (fun G R2 => ?_))
 refine yh [0] (ya 0 1 z (yb (yp (yk (yg (yr ?_))))))
 obtain rfl := hext185 _ (sj R2).symm
 refine yk (yk (yg (yr ?_)))
 obtain rfl := hext37 _ (sj R1).symm
 exact yk (yg (sj D ▸ yw ⟨I231, rfl, le, S262.d8⟩))
 exact W.skip (yl (ye (yai nL3 (ya 0 1 z (yap i188 z (ya 2 1 z (yu (yv ⟨(), (sj R2).symm, I231, rfl, le, S262⟩))))))))
 rintro _ _ w281 ⟨I186, rfl, L187, S282⟩ he
 cases he
 exact W.seq (yh nL2 (ya 0 2 z (yb (yas fun _ => W.exit (yo (yq (yt (yl (ye (yai nL3 (ya 0 1 z (yap i42 z (ya 2 1 z (yu (yv ⟨(r74, r75), (sj R1).symm, I186, w_r74, w_r75, rfl, le, S282, (h_r74.mono le), (h_r75.mono le)⟩)))))))))))))))
 rintro ⟨s40, s41⟩ _ w283 ⟨I38, w_s40, w_s41, rfl, L39, S284, h_s40, h_s41⟩ he
 cases he
 exact W.seq (yh nL4 (ya 0 4 z (yb (yas fun _ => W.exit (yo (yq (yt (ye (yh nL2 (bsk D fun r290 Xr285 D => WO.c1 (law22_works_ok  S284 Xr285) z fun I287 w286 L288 S289 => ya 1 1 z (yb (yp (sj D ▸ yw ⟨I287, rfl, le, S289.d8⟩)))))))))))))
end Go.Proofs.YtpgmbifboopfmaaGreat
