/- What functions of the program come to, each by a plain one. Conditions: none. -/
import Derived.Test.YtpgmbifboopfmaaGreatF4
import Derived.Test.YtpgmbifboopfmaaGreatProg
set_option maxRecDepth 100000
namespace Go.Proofs.YtpgmbifboopfmaaGreat
open Go.Gv
set_option maxHeartbeats 1000000
variable {E w : World} {I : Mem} {Os : List Mem}
noncomputable def law22_ChainKeeps (p0 : List law22_Act) (p1 : Int) : Option Bool := (law22_few p0).bind (fun r6 => (bif (((!r6) || (decide (p1 < 1))) || (decide (p1 > 8))) then (law22_works).bind (fun r16 => some r16) else (law19_Grown ([] : List law19_Act)).bind (fun r22 => (chain_New r22).bind (fun r34 => (r22_New r22).bind (fun r40 => (chain_Chain_Pin r34 p1).bind (fun (r50, r51, r52) => (r22_Chain_Pin r40 p1).bind (fun (r62, r63, r64) => (bif (((r51 != 0) || (r63 != 0)) || (r50 != r22.Version)) then some false else (forN (fun (i83 : Nat) (s : chain_Chain × r22_Chain) => match s with | (s81, s82) => ((idx p0 (i83 : Int)).bind (fun x103 => ((bif (x103.Do == 2) then (idx p0 (i83 : Int)).bind (fun x108 => some (x108.Who == p1)) else some false)).bind (fun (j104 : Bool) => (bif j104 then some (.inl (s81, s82)) else (idx p0 (i83 : Int)).bind (fun x113 => (law22_done s81 s82 x113).bind (fun (r127, r128, r129) => (chain_Chain_At r128 p1).bind (fun (r139, r140) => ((bif (!r140) then some true else (r17_Same r139 r22).bind (fun r168 => some (!r168)))).bind (fun (j149 : Bool) => ((bif j149 then some true else (chain_Chain_Live r128).bind (fun r194 => some ((r194.length : Int) == 0)))).bind (fun (j181 : Bool) => ((bif j181 then some true else (chain_Chain_Live r128).bind (fun r220 => (idx r220 0).bind (fun x221 => some (x221 != r22.Version))))).bind (fun (j207 : Bool) => (bif j207 then some (.inr (false, r128, r129)) else some (.inl (r128, r129))))))))))))).bind (fun (t : (chain_Chain × r22_Chain) ⊕ (Bool × chain_Chain × r22_Chain)) => match t with | (.inl (s111, s112)) => some (.inl (s111, s112)) | (.inr (s235, s236, s237)) => some (.inr (s235, s236, s237)))) p0.length 0 (r52, r64)).bind (fun (t : (chain_Chain × r22_Chain) ⊕ ((Bool × chain_Chain × r22_Chain))) => match t with | .inl (s81, s82) => (loopO (fun (s : Bool × Int) => match s with | (s279, s280) => (bif (decide (s280 ≤ 8)) then (chain_Chain_At s81 s280).bind (fun (r303, r304) => some (.inl ((s279 || (((s280 != p1) && r304) && (r303.Version == r50))), (w64 (s280 + 1))))) else some (.inr s279))) (false, 1)).bind (fun (s323 : Bool) => (chain_Chain_Unpin s81 p1).bind (fun (r333, r334) => (((bif (r333 == 0) then (chain_Chain_Live r334).bind (fun r354 => some (decide ((r354.length : Int) > 0))) else some false)).bind (fun (j341 : Bool) => ((bif j341 then (chain_Chain_Live r334).bind (fun r390 => (idx r390 0).bind (fun x391 => ((bif s323 then some true else (chain_Chain_Now r334).bind (fun r409 => some (r409.Version == r50)))).bind (fun (j392 : Bool) => some ((x391 == r50) == j392)))) else some false)).bind (fun (j377 : Bool) => ((bif j377 then (law22_works).bind (fun r431 => some r431) else some false)).bind (fun (j422 : Bool) => some j422)))).bind (fun (j335 : Bool) => some j335))) | .inr (s239, s240, s241) => some s239)))))))))
theorem law22_ChainKeeps_ok {p0 : List law22_Act} {p1 : Int} {a_p0 : Option Addr} {c_p0 : Nat} (h_p0 : RSl 24 R_law22_Act I a_p0 c_p0 p0) (hS : St E w I Os) {r : Bool} (D : law22_ChainKeeps p0 p1 = some r) :
    Calls P 5 #[(Sl a_p0 p0 c_p0), (Iv p1)] w (RT E I Os (.bool r)) := by
 refine calls_W (fn := Tryz.f5) rfl rfl rfl ?_
 unfold law22_ChainKeeps at D
 refine yg [0] (ya 0 1 z (yb (W.seq (yg nL11 (ya 0 1 z (bsk D fun r6 Xr1 D => WO.c1 (law22_few_ok h_p0 hS Xr1) z fun I3 w2 L4 S5 => ya 2 2 z (yav [4, 5] 6 23 26 (.refl ((!r6) || (decide (p1 < 1)))) (fun _ => ya 4 3 z yak) (ya 7 1 z (yav [8, 9] 10 27 30 (.refl (((!r6) || (decide (p1 < 1))) || (decide (p1 > 8)))) (fun _ => ya 8 3 z yak) (yb (y6 D (fun G D => ?_) (fun G D => ?_))))))))))))
 exact yg nL2 (bsk D fun r16 Xr11 D => WO.c1 (law22_works_ok  S5 Xr11) z fun I13 w12 L14 S15 => ya 1 1 z (yb (yp (yh (sj D ▸ yw ⟨I13, rfl, le, S15⟩)))))
 refine W.skip (ye (yg nL3 (bsk D fun r22 Xr17 D => yae (law19_Grown_ok SlAt.nil S5 Xr17) ?_)))
 rintro _ w18 ⟨I19, w_r22, rfl, L20, S21, h_r22⟩
 refine cv (yab S21 (cs_qC z_qC zw_qC) 29 z fun b23 w26 S25 => yaa S25 0 (cs_qC r22 w_r22) fun w28 S27 => yac nL3 (y7 ((cs_qC r22 w_r22)) (S27.rf m0) z (bsk D fun r34 Xr29 D => yae (chain_New_ok h_r22 S27 Xr29) ?_)))
 rintro _ w30 ⟨I31, b_r34, w_r34, rfl, L32, S33, h_r34⟩
 refine cv (ya 2 1 z (yac nL3 (y7 ((cs_qC r22 w_r22)) (S33.rf m4) z (bsk D fun r40 Xr35 D => yae (r22_New_ok (h_r22.mono L32) S33 Xr35) ?_))))
 rintro _ w36 ⟨I37, b_r40, w_r40, rfl, L38, S39, h_r40⟩
 refine cv (ya 2 1 z (yac nL8 (ya 0 2 z ?_)))
 obtain ⟨⟨r50, r51, r52⟩, Xr45, D⟩ := bsm D
 refine yae (chain_Chain_Pin_ok (h_r34.mono L38) S39.front7.front7.front7.front7 Xr45) ?_
 rintro _ w46 ⟨I47, w_r52, rfl, L48, S49, h_r52⟩
 refine cv (ya 3 5 z (yac nL8 (ya 0 2 z ?_)))
 obtain ⟨⟨r62, r63, r64⟩, Xr57, D⟩ := bsm D
 refine yae (r22_Chain_Pin_ok (h_r40.mono L48) S49.front7.front7.front7.front7 Xr57) ?_
 rintro _ w58 ⟨I59, w_r64, rfl, L60, S61, h_r64⟩
 refine cv (ya 3 5 z (yb (W.seq (yg nL12 (ya 0 3 z (yav [3, 4] 5 51 54 (.refl ((r51 != 0) || (r63 != 0))) (fun _ => ya 3 3 z yak) (ya 6 1 z (yav [7, 8, 9, 10] 11 55 60 (.refl (((r51 != 0) || (r63 != 0)) || (r50 != r22.Version))) (fun _ => yf 7 2 [0] z (yj (S61.rf m8) z (ya 10 2 z yak))) (yb (y6 D (fun G D => ?_) (fun G D => ?_)))))))))))
 exact yg [0] (ya 0 1 z (yb (yp (yh (sj D ▸ yw ⟨I59, rfl, le, S61.d8.drop⟩)))))
 refine W.skip (ye (W.seq (yg [0] (ya 0 1 z (yb (yn (bsk D fun t78 hloop84 D => have hlt97 := ((RSl.mono h_p0 (((((L4.trans L20).trans L32).trans L38).trans L48).trans L60))).len_lt; W.wk (yap (m := p0.length) hloop84 (fun (i83 : Nat) (s : chain_Chain × r22_Chain) fr w => match s with | (s81, s82) => ∃ I79 w_s81 w_s82, fr = [(0, Sl a_p0 p0 c_p0), (1, Iv p1), (5, Pt b23 0), (6, Pt b_r34 0), (7, Pt b_r40 0), (8, Iv r50), (12, Nv i83)] ∧ I59.Le I79 ∧ St E w I79 (bC b23 r22 w_r22 :: (Bx b_r34 (cs_chain_Chain s81 w_s81) 88) :: (Bx b_r40 (cs_r22_Chain s82 w_s82) 98) :: (w_s81.live.C) :: (w_s81.pins.C) :: (w_s81.news.C) :: (w_s82.All.C) :: (w_s82.Pins.C) :: (w_s82.Heard.C) :: Os) ∧ ok_chain_Chain I79 s81 w_s81 ∧ ok_r22_Chain I79 s82 w_s82) ⟨I59, w_r52, w_r64, rfl, lr, S61.front3.front3.front3.front7.front7.front7.front6.front7.front8, (h_r52.mono L60), h_r64⟩ ?_ ?_))))))))
 rintro i83 ⟨s81, s82⟩ _ w94 hi98 ⟨I79, w_s81, w_s82, rfl, L80, S95, h_s81, h_s82⟩ x96 R1 hext78
 refine W.seq (yg nL4 (ya 0 4 z (yb (yat fun _ => W.skip (ye (W.seq (bsk R1 fun j99 R2 R1 => yay (J := (fun fr w => ∃ (s111 : chain_Chain) (s112 : r22_Chain), ∃ I101 w_s111 w_s112, (.inl (s111, s112)) = j99 ∧ fr = [(0, Sl a_p0 p0 c_p0), (1, Iv p1), (5, Pt b23 0), (6, Pt b_r34 0), (7, Pt b_r40 0), (8, Iv r50), (12, Nv i83)] ∧ I79.Le I101 ∧ St E w I101 (bC b23 r22 w_r22 :: (Bx b_r34 (cs_chain_Chain s111 w_s111) 88) :: (Bx b_r40 (cs_r22_Chain s112 w_s112) 98) :: (w_s111.live.C) :: (w_s111.pins.C) :: (w_s111.news.C) :: (w_s112.All.C) :: (w_s112.Pins.C) :: (w_s112.Heard.C) :: Os) ∧ ok_chain_Chain I101 s111 w_s111 ∧ ok_r22_Chain I101 s112 w_s112)) ?_ ?_)))))))
 refine yn (W.seq (yg nL15 (ya 0 2 z ?_)))
 obtain ⟨x103, R2, Hx103, _, ⟨w_x103, rfl, h_x103⟩, Zx103⟩ := sx I79 h_p0 R2
 refine y0 50 24 Hx103 z (yf 3 1 [0] z (yan Zx103 S95.rm z (ya 5 2 z (bsk R2 fun j104 R3 R2 => yam (l1 := [7, 8, 9, 10, 11, 12, 13, 14]) (J := JI E I79 [(0, Sl a_p0 p0 c_p0), (1, Iv p1), (5, Pt b23 0), (6, Pt b_r34 0), (7, Pt b_r40 0), (8, Iv r50), (12, Nv i83), (81, .bool j104)] (bC b23 r22 w_r22 :: (Bx b_r34 (cs_chain_Chain s81 w_s81) 88) :: (Bx b_r40 (cs_r22_Chain s82 w_s82) 98) :: (w_s81.live.C) :: (w_s81.pins.C) :: (w_s81.news.C) :: (w_s82.All.C) :: (w_s82.Pins.C) :: (w_s82.Heard.C) :: Os)) ?_ ?_))))
 refine yal R3 (fun G R3 => ?_) (fun G R3 => ?_)
 refine yz 73 G (ya 7 2 z ?_)
 obtain ⟨x108, R3, Hx108, _, ⟨w_x108, rfl, h_x108⟩, Zx108⟩ := sx I79 h_p0 R3
 exact y0 50 24 Hx108 z (yf 10 1 [1] z (yar Zx108 1 S95.rm z (ya 12 3 z (sj R3 ▸ yy ⟨I79, rfl, lr, S95⟩))))
 refine yz 73 G ?_
 iterate 7 refine WO.ps ?_
 exact ya 14 1 z (sj R3 ▸ yy ⟨I79, rfl, lr, S95⟩)
 rintro _ w109 ⟨I106, rfl, L107, S110⟩
 refine yb (y6 R2 (fun G R2 => ?_) (fun G R2 => ?_))
 exact W.exit (yo (yu (yv ⟨s81, s82, I106, w_s81, w_s82, sj R2, rfl, L107, S110, (h_s81.mono L107), (h_s82.mono L107)⟩)))
 refine W.skip (ye (yg nL7 (ya 0 4 z ?_)))
 obtain ⟨x113, R2, Hx113, _, ⟨w_x113, rfl, h_x113⟩, Zx113⟩ := sx I106 h_p0 R2
 refine y0 50 24 Hx113 z (yaq ((cs_law22_Act x113 w_x113)) Zx113 0 S110.rm z ?_)
 obtain ⟨⟨r127, r128, r129⟩, Xr122, R2⟩ := bsm R2
 refine yae (law22_done_ok (h_s81.mono L107) (h_s82.mono L107) h_x113 S110.front8.front8.front8.front5.front8.front8.front8.front8 Xr122) ?_
 rintro _ w123 ⟨I124, w_r128, w_r129, rfl, L125, S126, h_r128, h_r129⟩
 refine cv (yac nL9 (ya 0 2 z ?_))
 obtain ⟨⟨r139, r140⟩, Xr134, R2⟩ := bsm R2
 refine yae (chain_Chain_At_ok h_r128 S126.front3.front3.front3.front3 Xr134) ?_
 rintro _ w135 ⟨I136, w_r139, rfl, L137, S138, h_r139⟩
 refine cv (ya 3 3 z (yab S138 (cs_qC z_qC zw_qC) 29 z fun b141 w144 S143 => yaa S143 0 (cs_qC r139 w_r139) fun w146 S145 => ya 8 1 z (yb (W.seq (have S147 := S145.drew; ybl (l := nL23) kr 23 (KR I136 [bC b141 r139 w_r139, bC b23 r22 w_r22]) (qX [112]) (.back kr) kr (ym (S147.rd m0) (ym (S147.rd m9) (yx S147.im))) ?_)))))
 generalize World.drew _ = w148 at *
 refine ya 0 3 z (bsk R2 fun j149 R3 R2 => yam (l1 := [3, 4, 5, 6, 7]) (J := JI E I136 [(0, Sl a_p0 p0 c_p0), (1, Iv p1), (5, Pt b23 0), (6, Pt b_r34 0), (7, Pt b_r40 0), (8, Iv r50), (12, Nv i83), (102, .bool j149)] (bC b23 r22 w_r22 :: (Bx b_r34 (cs_chain_Chain r128 w_r128) 88) :: (Bx b_r40 (cs_r22_Chain r129 w_r129) 98) :: (bC b141 r139 w_r139) :: (w_r128.live.C) :: (w_r128.pins.C) :: (w_r128.news.C) :: (w_r129.All.C) :: (w_r129.Pins.C) :: (w_r129.Heard.C) :: Os)) ?_ ?_)
 refine yal R3 (fun G R3 => ?_) (fun G R3 => ?_)
 refine yz 97 G ?_
 iterate 4 refine WO.ps ?_
 exact ya 7 1 z (sj R3 ▸ yy ⟨I136, rfl, lr, S147.front8.front8.front8.front7.front7.front7.front6.front8.front8.front9⟩)
 refine yz 97 G (y7 ((cs_qC r139 w_r139)) (rd_c m0 (S147.rd m0)) z (y7 ((cs_qC r22 w_r22)) (rd_c m1 (S147.rd m9)) z (bsk R3 fun r168 Xr163 R3 => yae (r17_Same_ok h_r139 (h_r22.mono le) S147 Xr163) ?_)))
 rintro _ w164 ⟨I165, rfl, L166, S167⟩
 refine ⟨_, rfl, (ym (S167.rd m0) (ym (S167.rd m9) (yx (S167.im.of_le L166)))), ?_⟩
 exact ya 6 2 z (sj R3 ▸ yy ⟨I165, rfl, L166, S167.front8.front8.front8.front7.front7.front7.front6.front8.front8.front9⟩)
 rintro _ w179 ⟨I151, rfl, L152, S180⟩
 refine ya 8 1 z (bsk R2 fun j181 R3 R2 => yam (l1 := [9, 10, 11, 12, 13]) (J := JI E I151 [(0, Sl a_p0 p0 c_p0), (1, Iv p1), (5, Pt b23 0), (6, Pt b_r34 0), (7, Pt b_r40 0), (8, Iv r50), (12, Nv i83), (108, .bool j181)] (bC b23 r22 w_r22 :: (Bx b_r34 (cs_chain_Chain r128 w_r128) 88) :: (Bx b_r40 (cs_r22_Chain r129 w_r129) 98) :: (bC b141 r139 w_r139) :: (w_r128.live.C) :: (w_r128.pins.C) :: (w_r128.news.C) :: (w_r129.All.C) :: (w_r129.Pins.C) :: (w_r129.Heard.C) :: Os)) ?_ ?_)
 refine yal R3 (fun G R3 => ?_) (fun G R3 => ?_)
 refine yz 103 G ?_
 iterate 4 refine WO.ps ?_
 exact ya 13 1 z (sj R3 ▸ yy ⟨I151, rfl, lr, S180⟩)
 refine yz 103 G (ya 9 1 z (bsk R3 fun r194 Xr189 R3 => yae (chain_Chain_Live_ok (h_r128.mono le) S180.front6.front6.front6.front4 Xr189) ?_))
 rintro _ w190 ⟨I191, a_r194, c_r194, rfl, L192, S193, h_r194⟩
 refine ⟨_, rfl, (ym (S193.rd m6) (ym (S193.rd m4) (yx (S193.im.of_le le)))), ?_⟩
 exact ya 11 3 z (sj R3 ▸ yy ⟨I191, rfl, L192, S193.front9.front9.front9.front6.front6.front6.front9.front9.front8.front9⟩)
 rintro _ w205 ⟨I183, rfl, L184, S206⟩
 refine ya 14 1 z (bsk R2 fun j207 R3 R2 => yam (l1 := [15, 16, 17, 18, 19, 20, 21, 22]) (J := JI E I183 [(0, Sl a_p0 p0 c_p0), (1, Iv p1), (5, Pt b23 0), (6, Pt b_r34 0), (7, Pt b_r40 0), (8, Iv r50), (12, Nv i83), (117, .bool j207)] (bC b23 r22 w_r22 :: (Bx b_r34 (cs_chain_Chain r128 w_r128) 88) :: (Bx b_r40 (cs_r22_Chain r129 w_r129) 98) :: (bC b141 r139 w_r139) :: (w_r128.live.C) :: (w_r128.pins.C) :: (w_r128.news.C) :: (w_r129.All.C) :: (w_r129.Pins.C) :: (w_r129.Heard.C) :: Os)) ?_ ?_)
 refine yal R3 (fun G R3 => ?_) (fun G R3 => ?_)
 refine yz 109 G ?_
 iterate 7 refine WO.ps ?_
 exact ya 22 1 z (sj R3 ▸ yy ⟨I183, rfl, lr, S206⟩)
 refine yz 109 G (ya 15 1 z (bsk R3 fun r220 Xr215 R3 => yae (chain_Chain_Live_ok (h_r128.mono le) S206.front6.front6.front6.front4 Xr215) ?_))
 rintro _ w216 ⟨I217, a_r220, c_r220, rfl, L218, S219, h_r220⟩
 refine ⟨_, rfl, (ym (S219.rd m6) (ym (S219.rd m4) (yx (S219.im.of_le le)))), ?_⟩
 obtain ⟨x221, R3, Hx221, _, rfl, Zx221⟩ := sl_ix (h_r220) R3
 exact y0 3 1 Hx221 z (yan Zx221 S219.rm z (yf 19 1 [0] z (yj (rd_c m1 (S219.rd m4)) z (ya 21 2 z (sj R3 ▸ yy ⟨I217, rfl, L218, S219.front9.front9.front9.front6.front6.front6.front9.front9.front8.front9⟩)))))
 rintro _ w232 ⟨I209, rfl, L210, S233⟩
 refine yb (y6 R2 (fun G R2 => ?_) (fun G R2 => ?_))
 refine yg [0] (ya 0 1 z (yb (yp (yk (yr ?_)))))
 obtain rfl := sj R2
 refine yh (yr ?_)
 obtain rfl := hext78 _ (sj R1).symm
 exact yk (yh (sj D ▸ yw ⟨I209, rfl, le, S233.d8.d2⟩))
 exact W.skip (yl (yv ⟨r128, r129, I209, w_r128, w_r129, sj R2, rfl, le, S233.front3.drop, (h_r128.mono le), (h_r129.mono le)⟩))
 rintro _ w272 ⟨s111, s112, I101, w_s111, w_s112, rfl, rfl, L102, S273, h_s111, h_s112⟩
 exact ye (yai nL3 (ya 0 1 z (yao i83 z (ya 2 1 z (yt (yv ⟨(s111, s112), (sj R1).symm, I101, w_s111, w_s112, rfl, le, S273, h_s111, h_s112⟩))))))
 rintro ⟨s81, s82⟩ _ w274 ⟨I79, w_s81, w_s82, rfl, L80, S275, h_s81, h_s82⟩ he
 cases he
 refine W.seq (yg nL4 (ya 0 4 z (yb (yas fun _ => W.exit (yo (yq (yu (ye (yg [0] (ya 0 1 z (yb (W.seq (yg [0] (ya 0 1 z (yb (yn (bsk D fun t276 hloop281 D => W.wk (ya7 hloop281 (fun (s : Bool × Int) fr w => match s with | (s279, s280) => ∃ I277, fr = [(1, Iv p1), (6, Pt b_r34 0), (8, Iv r50), (15, .bool s279), (16, Iv s280)] ∧ I79.Le I277 ∧ St E w I277 ((Bx b_r34 (cs_chain_Chain s81 w_s81) 88) :: (w_s81.live.C) :: (w_s81.pins.C) :: (w_s81.news.C) :: Os)) ⟨I79, rfl, lr, S275.drop.front1.drop.front4.drop.front4.drop.front4.drop⟩ ?_))))))))))))))))))
 rintro ⟨s279, s280⟩ _ w291 ⟨I277, rfl, L278, S292⟩ x293 R1 hext276
 refine W.seq (yg nL2 (ya 0 2 z (yb (y6 R1 (fun G R1 => ?_) (fun G R1 => ?_)))))
 refine W.skip (ye (W.seq (yn (yg nL9 (ya 0 2 z ?_)))))
 obtain ⟨⟨r303, r304⟩, Xr298, R1⟩ := bsm R1
 refine yae (chain_Chain_At_ok (h_s81.mono L278) S292.front3.front3.front3.front3 Xr298) ?_
 rintro _ w299 ⟨I300, w_r303, rfl, L301, S302, h_r303⟩
 exact cv (ya 3 3 z (yab S302 (cs_qC z_qC zw_qC) 29 z fun b305 w308 S307 => yaa S307 0 (cs_qC r303 w_r303) fun w310 S309 => ya 8 1 z (yb (yai nL16 (ya 0 2 z (yav [2, 3, 4, 5, 6, 7, 8, 9, 10, 11, 12, 13] 14 129 142 (.refl (s279 || (((s280 != p1) && r304) && (r303.Version == r50)))) (fun _ => ya 2 4 z (yaw [6] 7 133 135 (.refl ((s280 != p1) && r304)) (fun _ => ya 6 2 z yak) (ya 8 1 z (yaw [9, 10, 11, 12] 13 136 141 (.refl (((s280 != p1) && r304) && (r303.Version == r50))) (fun _ => yf 9 1 [0] z (yj (S309.rf m0) z (ya 11 3 z yak))) (ya 14 1 z yak))))) (ya 15 1 z (yt (yl (ye (yai nL3 (ya 0 3 z (yt (yv ⟨((s279 || (((s280 != p1) && r304) && (r303.Version == r50))), (w64 (s280 + 1))), (sj R1).symm, I300, rfl, le, S309.drop⟩))))))))))))))
 refine W.exit (yo (yq ?_))
 obtain rfl := hext276 _ (sj R1).symm
 refine yu (ye (yg nL4 (ya 0 2 z ?_)))
 obtain ⟨⟨r538, r539⟩, Xr533, D⟩ := bsm D
 refine yae (chain_Chain_Unpin_ok (h_s81.mono L278) S292.front3.front3.front3.front3 Xr533) ?_
 rintro _ w534 ⟨I535, w_r539, rfl, L536, S537, h_r539⟩
 refine cv (ya 3 1 z (yb (W.seq (bsk D fun j540 R1 D => yay (J := JI E I535 [(4, .bool j540)] Os) ?_ ?_))))
 have S544 := S537.drew
 refine ybs (.split 18 12 (.leaf [0, 1, 2, 3, 4, 5, 6, 7, 8, 9, 13, 15, 10, 11, 16, 17, 20, 18, 19, 21, 22, 12, 14, 23, 24, 25, 26, 27, 28]) (.leaf [0, 1, 2, 3, 4, 5, 6, 7, 8, 9, 13, 15, 10, 11, 12, 14, 16, 17, 20, 18, 19, 21, 22, 23, 24, 25, 26, 27, 28])) 25 (KR I535 []) (qX [157]) (.back kr) kr (yx S544.im) ?_
 generalize World.drew _ = w545 at *
 refine ⟨?_, ?_⟩
 show WO _ _ _ _ _ _ _ [0, 1, 2, 3, 4, 5, 6, 7, 8, 9, 13, 15, 10, 11, 16, 17, 20, 18, 19, 21, 22, 12, 14, 23, 24, 25, 26, 27, 28] _ _
 refine ya 0 3 z (bsk R1 fun j546 R2 R1 => yam (l1 := [3, 4, 5, 6, 7]) (J := JI E I535 [(6, Pt b_r34 0), (8, Iv r50), (15, .bool s279), (153, .bool j546)] ((Bx b_r34 (cs_chain_Chain r539 w_r539) 88) :: (w_r539.live.C) :: (w_r539.pins.C) :: (w_r539.news.C) :: Os)) ?_ ?_)
 refine yal R2 (fun G R2 => ?_) (fun G R2 => ?_)
 refine yz 148 G (ya 3 1 z (bsk R2 fun r559 Xr554 R2 => yae (chain_Chain_Live_ok h_r539 S544.front3.front3.front3.front3 Xr554) ?_))
 rintro _ w555 ⟨I556, a_r559, c_r559, rfl, L557, S558, h_r559⟩
 refine ⟨_, rfl, (yx (S558.im.of_le L557)), ?_⟩
 exact ya 5 3 z (sj R2 ▸ yy ⟨I556, rfl, L557, S558⟩)
 refine yz 148 G ?_
 iterate 4 refine WO.ps ?_
 exact ya 7 1 z (sj R2 ▸ yy ⟨I535, rfl, lr, S544⟩)
 rintro _ w560 ⟨I548, rfl, L549, S561⟩
 refine ya 8 1 z (bsk R1 fun j562 R2 R1 => yam (l1 := [9, 13, 15, 10, 11, 16, 17, 20, 18, 19, 21, 22, 12, 14, 23, 24]) (J := JI E I548 [(170, .bool j562)] Os) ?_ ?_)
 refine yal R2 (fun G R2 => ?_) (fun G R2 => ?_)
 refine yz 154 G (ya 9 1 z (ya 13 1 z (ya 15 1 z (bsk R2 fun r575 Xr570 R2 => yae (chain_Chain_Live_ok (h_r539.mono L549) S561.front3.front3.front3.front3 Xr570) ?_))))
 rintro _ w571 ⟨I572, a_r575, c_r575, rfl, L573, S574, h_r575⟩
 refine ⟨_, rfl, (yx (S574.im.of_le le)), ?_⟩
 obtain ⟨x576, R2, Hx576, _, rfl, Zx576⟩ := sl_ix (h_r575) R2
 refine y0 3 1 Hx576 z (ya 16 1 z (bsk R2 fun j577 R3 R2 => yam (l1 := [17, 20, 18, 19, 21, 22]) (J := JI E I572 [(154, .bool true), (157, .pointer (some ⟨bl a_r575, of a_r575 + (0 : Int).toNat * 1, none⟩)), (159, Iv r50), (168, .bool j577)] Os) ?_ ?_))
 refine yal R3 (fun G R3 => ?_) (fun G R3 => ?_)
 refine yz 162 G ?_
 iterate 5 refine WO.ps ?_
 exact ya 22 1 z (sj R3 ▸ yy ⟨I572, rfl, lr, S574.d4⟩)
 refine yz 162 G (ya 17 1 z (ya 20 1 z (bsk R3 fun r594 Xr589 R3 => yae (chain_Chain_Now_ok (h_r539.mono le) S574.front3.front3.front3.front3 Xr589) ?_)))
 rintro _ w590 ⟨I591, w_r594, rfl, L592, S593, h_r594⟩
 refine ⟨_, rfl, (yx (S593.im.of_le le)), ?_⟩
 exact yaf 19 165 (Iv r594.Version) (ya 21 2 z (sj R3 ▸ yy ⟨I591, rfl, L592, S593.d4⟩))
 rintro _ w599 ⟨I579, rfl, L580, S600⟩
 refine ybn z kr kr z (v := (Iv x576)) (fun w' hw' => (CellsAt.mono Zx576 L580).cell0 kr (S600.rm w' hw')) ?_
 exact ya 14 1 z (ya 23 2 z (sj R2 ▸ yy ⟨I579, rfl, le, S600⟩))
 refine yz 154 G ?_
 iterate 15 refine WO.ps ?_
 exact ya 24 1 z (sj R2 ▸ yy ⟨I548, rfl, lr, S561.d4⟩)
 rintro _ w605 ⟨I564, rfl, L565, S606⟩
 refine WO.tail z (ya 25 1 z (bsk R1 fun j607 R2 R1 => yam (l1 := [26, 27]) (J := JI E I564 [(173, .bool j607)] Os) ?_ ?_))
 refine yal R2 (fun G R2 => ?_) (fun G R2 => ?_)
 exact yz 171 G (bsk R2 fun r616 Xr611 R2 => WO.c1 (law22_works_ok  S606 Xr611) z fun I613 w612 L614 S615 => ya 27 1 z (sj R2 ▸ yy ⟨I613, rfl, L614, S615⟩))
 refine yz 171 G (WO.ps ?_)
 exact ya 27 1 z (sj R2 ▸ yy ⟨I564, rfl, lr, S606⟩)
 rintro _ w617 ⟨I609, rfl, L610, S618⟩
 exact ya 28 1 z (yt (sj R1 ▸ yv ⟨I609, rfl, le, S618⟩))
 show WO _ _ _ _ _ _ _ [0, 1, 2, 3, 4, 5, 6, 7, 8, 9, 13, 15, 10, 11, 12, 14, 16, 17, 20, 18, 19, 21, 22, 23, 24, 25, 26, 27, 28] _ _
 refine ya 0 3 z (bsk R1 fun j619 R2 R1 => yam (l1 := [3, 4, 5, 6, 7]) (J := JI E I535 [(6, Pt b_r34 0), (8, Iv r50), (15, .bool s279), (153, .bool j619)] ((Bx b_r34 (cs_chain_Chain r539 w_r539) 88) :: (w_r539.live.C) :: (w_r539.pins.C) :: (w_r539.news.C) :: Os)) ?_ ?_)
 refine yal R2 (fun G R2 => ?_) (fun G R2 => ?_)
 refine yz 148 G (ya 3 1 z (bsk R2 fun r632 Xr627 R2 => yae (chain_Chain_Live_ok h_r539 S544.front3.front3.front3.front3 Xr627) ?_))
 rintro _ w628 ⟨I629, a_r632, c_r632, rfl, L630, S631, h_r632⟩
 refine ⟨_, rfl, (yx (S631.im.of_le L630)), ?_⟩
 exact ya 5 3 z (sj R2 ▸ yy ⟨I629, rfl, L630, S631⟩)
 refine yz 148 G ?_
 iterate 4 refine WO.ps ?_
 exact ya 7 1 z (sj R2 ▸ yy ⟨I535, rfl, lr, S544⟩)
 rintro _ w633 ⟨I621, rfl, L622, S634⟩
 refine ya 8 1 z (bsk R1 fun j635 R2 R1 => yam (l1 := [9, 13, 15, 10, 11, 12, 14, 16, 17, 20, 18, 19, 21, 22, 23, 24]) (J := JI E I621 [(170, .bool j635)] Os) ?_ ?_)
 refine yal R2 (fun G R2 => ?_) (fun G R2 => ?_)
 refine yz 154 G (ya 9 1 z (ya 13 1 z (ya 15 1 z (bsk R2 fun r648 Xr643 R2 => yae (chain_Chain_Live_ok (h_r539.mono L622) S634.front3.front3.front3.front3 Xr643) ?_))))
 rintro _ w644 ⟨I645, a_r648, c_r648, rfl, L646, S647, h_r648⟩
 refine ⟨_, rfl, (yx (S647.im.of_le le)), ?_⟩
 obtain ⟨x649, R2, Hx649, _, rfl, Zx649⟩ := sl_ix (h_r648) R2
 refine y0 3 1 Hx649 z (yan Zx649 S647.rm z (ya 14 1 z (ya 16 1 z (bsk R2 fun j650 R3 R2 => yam (l1 := [17, 20, 18, 19, 21, 22]) (J := JI E I645 [(154, .bool true), (160, .bool (x649 == r50)), (168, .bool j650)] Os) ?_ ?_))))
 refine yal R3 (fun G R3 => ?_) (fun G R3 => ?_)
 refine yz 162 G ?_
 iterate 5 refine WO.ps ?_
 exact ya 22 1 z (sj R3 ▸ yy ⟨I645, rfl, lr, S647.d4⟩)
 refine yz 162 G (ya 17 1 z (ya 20 1 z (bsk R3 fun r667 Xr662 R3 => yae (chain_Chain_Now_ok (h_r539.mono le) S647.front3.front3.front3.front3 Xr662) ?_)))
 rintro _ w663 ⟨I664, w_r667, rfl, L665, S666, h_r667⟩
 refine ⟨_, rfl, (yx (S666.im.of_le le)), ?_⟩
 exact yaf 19 165 (Iv r667.Version) (ya 21 2 z (sj R3 ▸ yy ⟨I664, rfl, L665, S666.d4⟩))
 rintro _ w672 ⟨I652, rfl, L653, S673⟩
 exact ya 23 2 z (sj R2 ▸ yy ⟨I652, rfl, le, S673⟩)
 refine yz 154 G ?_
 iterate 15 refine WO.ps ?_
 exact ya 24 1 z (sj R2 ▸ yy ⟨I621, rfl, lr, S634.d4⟩)
 rintro _ w678 ⟨I637, rfl, L638, S679⟩
 refine WO.tail z (ya 25 1 z (bsk R1 fun j680 R2 R1 => yam (l1 := [26, 27]) (J := JI E I637 [(173, .bool j680)] Os) ?_ ?_))
 refine yal R2 (fun G R2 => ?_) (fun G R2 => ?_)
 exact yz 171 G (bsk R2 fun r689 Xr684 R2 => WO.c1 (law22_works_ok  S679 Xr684) z fun I686 w685 L687 S688 => ya 27 1 z (sj R2 ▸ yy ⟨I686, rfl, L687, S688⟩))
 refine yz 171 G (WO.ps ?_)
 exact ya 27 1 z (sj R2 ▸ yy ⟨I637, rfl, lr, S679⟩)
 rintro _ w690 ⟨I682, rfl, L683, S691⟩
 exact ya 28 1 z (yt (sj R1 ▸ yv ⟨I682, rfl, le, S691⟩))
 rintro _ w692 ⟨I542, rfl, L543, S693⟩
 exact ye (yp (sj D ▸ yw ⟨I542, rfl, le, S693⟩))
end Go.Proofs.YtpgmbifboopfmaaGreat
