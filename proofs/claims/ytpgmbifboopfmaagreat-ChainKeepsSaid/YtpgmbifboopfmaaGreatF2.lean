/- What functions of the program come to, each by a plain one. Conditions: none. -/
import Derived.Test.YtpgmbifboopfmaaGreatF1
import Derived.Test.YtpgmbifboopfmaaGreatProg
set_option maxRecDepth 100000
namespace Go.Proofs.YtpgmbifboopfmaaGreat
open Go.Gv
set_option maxHeartbeats 1000000
variable {E w : World} {I : Mem} {Os : List Mem}
def r09_sign (p0 : By8) : Option Bool := ((bif (sEq p0 (⟨#[40]⟩ : By8)) then some (sEq p0 (⟨#[40]⟩ : By8)) else ((bif (sEq p0 (⟨#[41]⟩ : By8)) then some (sEq p0 (⟨#[41]⟩ : By8)) else ((bif (sEq p0 (⟨#[44]⟩ : By8)) then some (sEq p0 (⟨#[44]⟩ : By8)) else ((bif (sEq p0 (⟨#[61]⟩ : By8)) then some (sEq p0 (⟨#[61]⟩ : By8)) else ((bif (sEq p0 (⟨#[60, 62]⟩ : By8)) then some (sEq p0 (⟨#[60, 62]⟩ : By8)) else ((bif (sEq p0 (⟨#[60]⟩ : By8)) then some (sEq p0 (⟨#[60]⟩ : By8)) else ((bif (sEq p0 (⟨#[60, 61]⟩ : By8)) then some (sEq p0 (⟨#[60, 61]⟩ : By8)) else ((bif (sEq p0 (⟨#[62]⟩ : By8)) then some (sEq p0 (⟨#[62]⟩ : By8)) else ((bif (sEq p0 (⟨#[62, 61]⟩ : By8)) then some (sEq p0 (⟨#[62, 61]⟩ : By8)) else ((bif (sEq p0 (⟨#[43]⟩ : By8)) then some (sEq p0 (⟨#[43]⟩ : By8)) else ((bif (sEq p0 (⟨#[45]⟩ : By8)) then some (sEq p0 (⟨#[45]⟩ : By8)) else ((bif (sEq p0 (⟨#[42]⟩ : By8)) then some (sEq p0 (⟨#[42]⟩ : By8)) else ((bif (sEq p0 (⟨#[47]⟩ : By8)) then some (sEq p0 (⟨#[47]⟩ : By8)) else ((bif (sEq p0 (⟨#[37]⟩ : By8)) then some (sEq p0 (⟨#[37]⟩ : By8)) else some (sEq p0 (⟨#[124, 124]⟩ : By8)))).bind (fun (j53 : Bool) => some j53))).bind (fun (j49 : Bool) => some j49))).bind (fun (j45 : Bool) => some j45))).bind (fun (j41 : Bool) => some j41))).bind (fun (j37 : Bool) => some j37))).bind (fun (j33 : Bool) => some j33))).bind (fun (j29 : Bool) => some j29))).bind (fun (j25 : Bool) => some j25))).bind (fun (j21 : Bool) => some j21))).bind (fun (j17 : Bool) => some j17))).bind (fun (j13 : Bool) => some j13))).bind (fun (j9 : Bool) => some j9))).bind (fun (j5 : Bool) => some j5))).bind (fun (j1 : Bool) => (bif j1 then some true else some false))
theorem r09_sign_ok {p0 : By8} (hS : St E w I Os) {r : Bool} (D : r09_sign p0 = some r) :
    Calls P 167 #[(.string p0)] w (RT E I Os (.bool r)) := by
 refine calls_W (fn := Tryz.f167) rfl rfl rfl ?_
 unfold r09_sign at D
 refine yg [0] (ya 0 1 z (yb (W.seq (yg [0] (ya 0 1 z (yb (yn (W.seq (yg nL2 (ya 0 2 z (yb (bsk D fun j1 R1 D => yay (J := JI E I [(4, .bool j1)] Os) ?_ ?_))))))))))))
 refine y6 R1 (fun G R1 => ?_) (fun G R1 => ?_)
 exact W.skip (sj R1 ▸ yv ⟨I, rfl, lr, hS⟩)
 refine yg nL2 (ya 0 2 z (yb (bsk R1 fun j5 R2 R1 => yay (J := JI E I [(4, .bool j5)] Os) ?_ ?_)))
 refine y6 R2 (fun G R2 => ?_) (fun G R2 => ?_)
 exact W.skip (sj R2 ▸ yv ⟨I, rfl, lr, hS⟩)
 refine yg nL2 (ya 0 2 z (yb (bsk R2 fun j9 R3 R2 => yay (J := JI E I [(4, .bool j9)] Os) ?_ ?_)))
 refine y6 R3 (fun G R3 => ?_) (fun G R3 => ?_)
 exact W.skip (sj R3 ▸ yv ⟨I, rfl, lr, hS⟩)
 refine yg nL2 (ya 0 2 z (yb (bsk R3 fun j13 R4 R3 => yay (J := JI E I [(4, .bool j13)] Os) ?_ ?_)))
 refine y6 R4 (fun G R4 => ?_) (fun G R4 => ?_)
 exact W.skip (sj R4 ▸ yv ⟨I, rfl, lr, hS⟩)
 refine yg nL2 (ya 0 2 z (yb (bsk R4 fun j17 R5 R4 => yay (J := JI E I [(4, .bool j17)] Os) ?_ ?_)))
 refine y6 R5 (fun G R5 => ?_) (fun G R5 => ?_)
 exact W.skip (sj R5 ▸ yv ⟨I, rfl, lr, hS⟩)
 refine yg nL2 (ya 0 2 z (yb (bsk R5 fun j21 R6 R5 => yay (J := JI E I [(4, .bool j21)] Os) ?_ ?_)))
 refine y6 R6 (fun G R6 => ?_) (fun G R6 => ?_)
 exact W.skip (sj R6 ▸ yv ⟨I, rfl, lr, hS⟩)
 refine yg nL2 (ya 0 2 z (yb (bsk R6 fun j25 R7 R6 => yay (J := JI E I [(4, .bool j25)] Os) ?_ ?_)))
 refine y6 R7 (fun G R7 => ?_) (fun G R7 => ?_)
 exact W.skip (sj R7 ▸ yv ⟨I, rfl, lr, hS⟩)
 refine yg nL2 (ya 0 2 z (yb (bsk R7 fun j29 R8 R7 => yay (J := JI E I [(4, .bool j29)] Os) ?_ ?_)))
 refine y6 R8 (fun G R8 => ?_) (fun G R8 => ?_)
 exact W.skip (sj R8 ▸ yv ⟨I, rfl, lr, hS⟩)
 refine yg nL2 (ya 0 2 z (yb (bsk R8 fun j33 R9 R8 => yay (J := JI E I [(4, .bool j33)] Os) ?_ ?_)))
 refine y6 R9 (fun G R9 => ?_) (fun G R9 => ?_)
 exact W.skip (sj R9 ▸ yv ⟨I, rfl, lr, hS⟩)
 refine yg nL2 (ya 0 2 z (yb (bsk R9 fun j37 R10 R9 => yay (J := JI E I [(4, .bool j37)] Os) ?_ ?_)))
 refine y6 R10 (fun G R10 => ?_) (fun G R10 => ?_)
 exact W.skip (sj R10 ▸ yv ⟨I, rfl, lr, hS⟩)
 refine yg nL2 (ya 0 2 z (yb (bsk R10 fun j41 R11 R10 => yay (J := JI E I [(4, .bool j41)] Os) ?_ ?_)))
 refine y6 R11 (fun G R11 => ?_) (fun G R11 => ?_)
 exact W.skip (sj R11 ▸ yv ⟨I, rfl, lr, hS⟩)
 refine yg nL2 (ya 0 2 z (yb (bsk R11 fun j45 R12 R11 => yay (J := JI E I [(4, .bool j45)] Os) ?_ ?_)))
 refine y6 R12 (fun G R12 => ?_) (fun G R12 => ?_)
 exact W.skip (sj R12 ▸ yv ⟨I, rfl, lr, hS⟩)
 refine yg nL2 (ya 0 2 z (yb (bsk R12 fun j49 R13 R12 => yay (J := JI E I [(4, .bool j49)] Os) ?_ ?_)))
 refine y6 R13 (fun G R13 => ?_) (fun G R13 => ?_)
 exact W.skip (sj R13 ▸ yv ⟨I, rfl, lr, hS⟩)
 refine yg nL2 (ya 0 2 z (yb (bsk R13 fun j53 R14 R13 => yay (J := JI E I [(4, .bool j53)] Os) ?_ ?_)))
 refine y6 R14 (fun G R14 => ?_) (fun G R14 => ?_)
 exact W.skip (sj R14 ▸ yv ⟨I, rfl, lr, hS⟩)
 exact yai nL2 (ya 0 2 z (yt (sj R14 ▸ yv ⟨I, rfl, lr, hS⟩)))
 rintro _ w57 ⟨I55, rfl, L56, S58⟩
 exact sj R13 ▸ yv ⟨I55, rfl, L56, S58⟩
 rintro _ w59 ⟨I51, rfl, L52, S60⟩
 exact sj R12 ▸ yv ⟨I51, rfl, L52, S60⟩
 rintro _ w61 ⟨I47, rfl, L48, S62⟩
 exact sj R11 ▸ yv ⟨I47, rfl, L48, S62⟩
 rintro _ w63 ⟨I43, rfl, L44, S64⟩
 exact sj R10 ▸ yv ⟨I43, rfl, L44, S64⟩
 rintro _ w65 ⟨I39, rfl, L40, S66⟩
 exact sj R9 ▸ yv ⟨I39, rfl, L40, S66⟩
 rintro _ w67 ⟨I35, rfl, L36, S68⟩
 exact sj R8 ▸ yv ⟨I35, rfl, L36, S68⟩
 rintro _ w69 ⟨I31, rfl, L32, S70⟩
 exact sj R7 ▸ yv ⟨I31, rfl, L32, S70⟩
 rintro _ w71 ⟨I27, rfl, L28, S72⟩
 exact sj R6 ▸ yv ⟨I27, rfl, L28, S72⟩
 rintro _ w73 ⟨I23, rfl, L24, S74⟩
 exact sj R5 ▸ yv ⟨I23, rfl, L24, S74⟩
 rintro _ w75 ⟨I19, rfl, L20, S76⟩
 exact sj R4 ▸ yv ⟨I19, rfl, L20, S76⟩
 rintro _ w77 ⟨I15, rfl, L16, S78⟩
 exact sj R3 ▸ yv ⟨I15, rfl, L16, S78⟩
 rintro _ w79 ⟨I11, rfl, L12, S80⟩
 exact sj R2 ▸ yv ⟨I11, rfl, L12, S80⟩
 rintro _ w81 ⟨I7, rfl, L8, S82⟩
 exact sj R1 ▸ yv ⟨I7, rfl, L8, S82⟩
 rintro _ w83 ⟨I3, rfl, L4, S84⟩
 refine ye (y6 D (fun G D => ?_) (fun G D => ?_))
 exact yg [0] (ya 0 1 z (yb (yp (yk (yh (sj D ▸ yw ⟨I3, rfl, L4, S84⟩))))))
 exact W.skip (yl (ye (yg [0] (ya 0 1 z (yb (yp (sj D ▸ yw ⟨I3, rfl, L4, S84⟩)))))))
noncomputable def r09_Kind (p0 : By8) : Option Int := (bif (sEq p0 eB) then some 7 else ((bif (decide ((p0.size : Int) ≤ 12)) then (ssub p0 0 1).bind (fun x5 => (r09_all x5 0 (⟨#[97, 98, 99, 100, 101, 102, 103, 104, 105, 106, 107, 108, 109, 110, 111, 112, 113, 114, 115, 116, 117, 118, 119, 120, 121, 122]⟩ : By8)).bind (fun r11 => some r11)) else some false)).bind (fun (j1 : Bool) => ((bif j1 then (r09_all p0 1 (⟨#[97, 98, 99, 100, 101, 102, 103, 104, 105, 106, 107, 108, 109, 110, 111, 112, 113, 114, 115, 116, 117, 118, 119, 120, 121, 122, 48, 49, 50, 51, 52, 53, 54, 55, 56, 57, 95]⟩ : By8)).bind (fun r23 => some r23) else some false)).bind (fun (j14 : Bool) => (bif j14 then some 1 else ((bif (decide ((p0.size : Int) ≤ 16)) then (ssub p0 0 1).bind (fun x30 => (r09_all x30 0 (⟨#[65, 66, 67, 68, 69, 70, 71, 72, 73, 74, 75, 76, 77, 78, 79, 80, 81, 82, 83, 84, 85, 86, 87, 88, 89, 90]⟩ : By8)).bind (fun r36 => some r36)) else some false)).bind (fun (j26 : Bool) => ((bif j26 then (r09_all p0 1 (⟨#[65, 66, 67, 68, 69, 70, 71, 72, 73, 74, 75, 76, 77, 78, 79, 80, 81, 82, 83, 84, 85, 86, 87, 88, 89, 90, 95]⟩ : By8)).bind (fun r48 => some r48) else some false)).bind (fun (j39 : Bool) => (bif j39 then some 2 else ((bif (decide ((p0.size : Int) ≤ 19)) then (r09_all p0 0 (⟨#[48, 49, 50, 51, 52, 53, 54, 55, 56, 57]⟩ : By8)).bind (fun r60 => some r60) else some false)).bind (fun (j51 : Bool) => ((bif j51 then ((bif (sEq p0 (⟨#[48]⟩ : By8)) then some true else (sAt p0 0).bind (fun y71 => some (y71 != 48)))).bind (fun (j67 : Bool) => some j67) else some false)).bind (fun (j63 : Bool) => (bif j63 then some 3 else (r09_quoted p0).bind (fun r81 => (bif r81 then some 4 else ((bif ((p0.size : Int) == 2) then (sAt p0 0).bind (fun y86 => some (y86 == 36)) else some false)).bind (fun (j82 : Bool) => ((bif j82 then (sAt p0 1).bind (fun y93 => some (decide (y93 ≥ 49))) else some false)).bind (fun (j89 : Bool) => ((bif j89 then (sAt p0 1).bind (fun y100 => some (decide (y100 ≤ 54))) else some false)).bind (fun (j96 : Bool) => (bif j96 then some 5 else (r09_sign p0).bind (fun r108 => (bif r108 then some 6 else some 0))))))))))))))))))
theorem r09_Kind_ok {p0 : By8} (hS : St E w I Os) {r : Int} (D : r09_Kind p0 = some r) :
    Calls P 149 #[(.string p0)] w (RT E I Os (Iv r)) := by
 refine calls_W (fn := Tryz.f149) rfl rfl rfl ?_
 unfold r09_Kind at D
 refine yg [0] (ya 0 1 z (yb (W.seq (yn (yg nL3 (ya 0 3 z (yb (y6 D (fun G D => ?_) (fun G D => ?_)))))))))
 exact yg [0] (ya 0 1 z (yb (yp (yk (yh (sj D ▸ yw ⟨I, rfl, lr, hS⟩))))))
 refine yg nL13 (ya 0 4 z (bsk D fun j1 R1 D => yam (l1 := [4, 5, 6, 7]) (J := JI E I [(0, .string p0), (14, .bool j1)] Os) ?_ ?_))
 refine yal R1 (fun G R1 => ?_) (fun G R1 => ?_)
 refine yz 10 G (ya 4 1 z (bsk R1 fun x5 Xx5 R1 => WO.sliceS z kr kr z (0 : Int) (1 : Int) (.inl ⟨rfl, rfl⟩) (.inr ⟨_, _, rfl, rfl⟩) Xx5 ?_))
 exact bsk R1 fun r11 Xr6 R1 => WO.c1 (r09_all_ok  hS Xr6) z fun I8 w7 L9 S10 => ya 7 1 z (sj R1 ▸ yy ⟨I8, rfl, L9, S10⟩)
 refine yz 10 G ?_
 iterate 3 refine WO.ps ?_
 exact ya 7 1 z (sj R1 ▸ yy ⟨I, rfl, lr, hS⟩)
 rintro _ w12 ⟨I3, rfl, L4, S13⟩
 refine ya 8 1 z (bsk D fun j14 R1 D => yam (l1 := [9, 10, 11]) (J := JI E I3 [(0, .string p0), (18, .bool j14)] Os) ?_ ?_)
 refine yal R1 (fun G R1 => ?_) (fun G R1 => ?_)
 exact yz 15 G (ya 9 1 z (bsk R1 fun r23 Xr18 R1 => WO.c1 (r09_all_ok  S13 Xr18) z fun I20 w19 L21 S22 => ya 11 1 z (sj R1 ▸ yy ⟨I20, rfl, L21, S22⟩)))
 refine yz 15 G ?_
 iterate 2 refine WO.ps ?_
 exact ya 11 1 z (sj R1 ▸ yy ⟨I3, rfl, lr, S13⟩)
 rintro _ w24 ⟨I16, rfl, L17, S25⟩
 refine ya 12 1 z (yb (y6 D (fun G D => ?_) (fun G D => ?_)))
 exact yg [0] (ya 0 1 z (yb (yp (yk (yh (sj D ▸ yw ⟨I16, rfl, le, S25⟩))))))
 refine yg nL13 (ya 0 4 z (bsk D fun j26 R1 D => yam (l1 := [4, 5, 6, 7]) (J := JI E I16 [(0, .string p0), (27, .bool j26)] Os) ?_ ?_))
 refine yal R1 (fun G R1 => ?_) (fun G R1 => ?_)
 refine yz 23 G (ya 4 1 z (bsk R1 fun x30 Xx30 R1 => WO.sliceS z kr kr z (0 : Int) (1 : Int) (.inl ⟨rfl, rfl⟩) (.inr ⟨_, _, rfl, rfl⟩) Xx30 ?_))
 exact bsk R1 fun r36 Xr31 R1 => WO.c1 (r09_all_ok  S25 Xr31) z fun I33 w32 L34 S35 => ya 7 1 z (sj R1 ▸ yy ⟨I33, rfl, L34, S35⟩)
 refine yz 23 G ?_
 iterate 3 refine WO.ps ?_
 exact ya 7 1 z (sj R1 ▸ yy ⟨I16, rfl, lr, S25⟩)
 rintro _ w37 ⟨I28, rfl, L29, S38⟩
 refine ya 8 1 z (bsk D fun j39 R1 D => yam (l1 := [9, 10, 11]) (J := JI E I28 [(0, .string p0), (31, .bool j39)] Os) ?_ ?_)
 refine yal R1 (fun G R1 => ?_) (fun G R1 => ?_)
 exact yz 28 G (ya 9 1 z (bsk R1 fun r48 Xr43 R1 => WO.c1 (r09_all_ok  S38 Xr43) z fun I45 w44 L46 S47 => ya 11 1 z (sj R1 ▸ yy ⟨I45, rfl, L46, S47⟩)))
 refine yz 28 G ?_
 iterate 2 refine WO.ps ?_
 exact ya 11 1 z (sj R1 ▸ yy ⟨I28, rfl, lr, S38⟩)
 rintro _ w49 ⟨I41, rfl, L42, S50⟩
 refine ya 12 1 z (yb (y6 D (fun G D => ?_) (fun G D => ?_)))
 exact yg [0] (ya 0 1 z (yb (yp (yk (yh (sj D ▸ yw ⟨I41, rfl, le, S50⟩))))))
 refine yg nL17 (ya 0 4 z (bsk D fun j51 R1 D => yam (l1 := [4, 5, 6]) (J := JI E I41 [(0, .string p0), (39, .bool j51)] Os) ?_ ?_))
 refine yal R1 (fun G R1 => ?_) (fun G R1 => ?_)
 exact yz 36 G (ya 4 1 z (bsk R1 fun r60 Xr55 R1 => WO.c1 (r09_all_ok  S50 Xr55) z fun I57 w56 L58 S59 => ya 6 1 z (sj R1 ▸ yy ⟨I57, rfl, L58, S59⟩)))
 refine yz 36 G ?_
 iterate 2 refine WO.ps ?_
 exact ya 6 1 z (sj R1 ▸ yy ⟨I41, rfl, lr, S50⟩)
 rintro _ w61 ⟨I53, rfl, L54, S62⟩
 refine ya 7 1 z (bsk D fun j63 R1 D => yam (l1 := [8, 9, 10, 11, 12, 13, 14, 15]) (J := JI E I53 [(0, .string p0), (48, .bool j63)] Os) ?_ ?_)
 refine yal R1 (fun G R1 => ?_) (fun G R1 => ?_)
 refine yz 40 G (ya 8 3 z (bsk R1 fun j67 R2 R1 => yam (l1 := [11, 12, 13, 14]) (J := JI E I53 [(0, .string p0), (40, .bool true), (47, .bool j67)] Os) ?_ ?_))
 refine yal R2 (fun G R2 => ?_) (fun G R2 => ?_)
 refine yz 43 G ?_
 iterate 3 refine WO.ps ?_
 exact ya 14 1 z (sj R2 ▸ yy ⟨I53, rfl, lr, S62⟩)
 refine yz 43 G (ya 11 1 z (bsk R2 fun y71 Xy71 R2 => ya8 z kr kr z z Xy71 ?_))
 exact ya 13 2 z (sj R2 ▸ yy ⟨I53, rfl, lr, S62⟩)
 rintro _ w72 ⟨I69, rfl, L70, S73⟩
 exact ya 15 1 z (sj R1 ▸ yy ⟨I69, rfl, L70, S73⟩)
 refine yz 40 G ?_
 iterate 7 refine WO.ps ?_
 exact ya 15 1 z (sj R1 ▸ yy ⟨I53, rfl, lr, S62⟩)
 rintro _ w74 ⟨I65, rfl, L66, S75⟩
 refine ya 16 1 z (yb (y6 D (fun G D => ?_) (fun G D => ?_)))
 exact yg [0] (ya 0 1 z (yb (yp (yk (yh (sj D ▸ yw ⟨I65, rfl, le, S75⟩))))))
 refine yg nL3 (ya 0 1 z (bsk D fun r81 Xr76 D => WO.c1 (r09_quoted_ok  S75 Xr76) z fun I78 w77 L79 S80 => ya 2 1 z (yb (y6 D (fun G D => ?_) (fun G D => ?_)))))
 exact yg [0] (ya 0 1 z (yb (yp (yk (yh (sj D ▸ yw ⟨I78, rfl, le, S80⟩))))))
 refine yg nL19 (ya 0 4 z (bsk D fun j82 R1 D => yam (l1 := [4, 5, 6, 7]) (J := JI E I78 [(0, .string p0), (60, .bool j82)] Os) ?_ ?_))
 refine yal R1 (fun G R1 => ?_) (fun G R1 => ?_)
 refine yz 56 G (ya 4 1 z (bsk R1 fun y86 Xy86 R1 => ya8 z kr kr z z Xy86 ?_))
 exact ya 6 2 z (sj R1 ▸ yy ⟨I78, rfl, lr, S80⟩)
 refine yz 56 G ?_
 iterate 3 refine WO.ps ?_
 exact ya 7 1 z (sj R1 ▸ yy ⟨I78, rfl, lr, S80⟩)
 rintro _ w87 ⟨I84, rfl, L85, S88⟩
 refine ya 8 1 z (bsk D fun j89 R1 D => yam (l1 := [9, 10, 11, 12]) (J := JI E I84 [(0, .string p0), (65, .bool j89)] Os) ?_ ?_)
 refine yal R1 (fun G R1 => ?_) (fun G R1 => ?_)
 refine yz 61 G (ya 9 1 z (bsk R1 fun y93 Xy93 R1 => ya8 z kr kr z z Xy93 ?_))
 exact ya 11 2 z (sj R1 ▸ yy ⟨I84, rfl, lr, S88⟩)
 refine yz 61 G ?_
 iterate 3 refine WO.ps ?_
 exact ya 12 1 z (sj R1 ▸ yy ⟨I84, rfl, lr, S88⟩)
 rintro _ w94 ⟨I91, rfl, L92, S95⟩
 refine ya 13 1 z (bsk D fun j96 R1 D => yam (l1 := [14, 15, 16, 17]) (J := JI E I91 [(0, .string p0), (70, .bool j96)] Os) ?_ ?_)
 refine yal R1 (fun G R1 => ?_) (fun G R1 => ?_)
 refine yz 66 G (ya 14 1 z (bsk R1 fun y100 Xy100 R1 => ya8 z kr kr z z Xy100 ?_))
 exact ya 16 2 z (sj R1 ▸ yy ⟨I91, rfl, lr, S95⟩)
 refine yz 66 G ?_
 iterate 3 refine WO.ps ?_
 exact ya 17 1 z (sj R1 ▸ yy ⟨I91, rfl, lr, S95⟩)
 rintro _ w101 ⟨I98, rfl, L99, S102⟩
 refine ya 18 1 z (yb (y6 D (fun G D => ?_) (fun G D => ?_)))
 exact yg [0] (ya 0 1 z (yb (yp (yk (yh (sj D ▸ yw ⟨I98, rfl, le, S102⟩))))))
 refine yg nL3 (ya 0 1 z (bsk D fun r108 Xr103 D => WO.c1 (r09_sign_ok  S102 Xr103) z fun I105 w104 L106 S107 => ya 2 1 z (yb (y6 D (fun G D => ?_) (fun G D => ?_)))))
 exact yg [0] (ya 0 1 z (yb (yp (yk (yh (sj D ▸ yw ⟨I105, rfl, le, S107⟩))))))
 exact W.skip (yl (ye (yg [0] (ya 0 1 z (yb (yp (sj D ▸ yw ⟨I105, rfl, le, S107⟩)))))))
noncomputable def r09_IsName (p0 : By8) : Option Bool := (r09_Kind p0).bind (fun r6 => some (r6 == 1))
theorem r09_IsName_ok {p0 : By8} (hS : St E w I Os) {r : Bool} (D : r09_IsName p0 = some r) :
    Calls P 111 #[(.string p0)] w (RT E I Os (.bool r)) := by
 refine calls_W (fn := Tryz.f111) rfl rfl rfl ?_
 unfold r09_IsName at D
 exact yg [0] (ya 0 1 z (yac nL4 (ya 0 1 z (bsk D fun r6 Xr1 D => WO.c1 (r09_Kind_ok  hS Xr1) z fun I3 w2 L4 S5 => ya 2 2 z (yb (yp (sj D ▸ yw ⟨I3, rfl, L4, S5⟩)))))))
noncomputable def r18_Check (p0 : List qJ) : Option Int := (bif (decide ((p0.length : Int) > 8)) then some 2 else (forN (fun (i4 : Nat) (_s : Unit) => (idx p0 (i4 : Int)).bind (fun x13 => (r09_IsName x13.Name).bind (fun r19 => ((bif (!r19) then some true else ((bif (decide ((i4 : Int) > 0)) then (idx p0 (w64 ((i4 : Int) - 1))).bind (fun x28 => (idx p0 (i4 : Int)).bind (fun x29 => some (!sLt x28.Name x29.Name))) else some false)).bind (fun (j24 : Bool) => some j24))).bind (fun (j20 : Bool) => (bif j20 then some (.inr (2 : Int)) else (loopO (fun (s39 : Int) => (idx p0 (i4 : Int)).bind (fun x44 => (bif (decide (s39 < (x44.In.length : Int))) then (idx p0 (i4 : Int)).bind (fun x47 => (idx x47.In s39).bind (fun x48 => (r18_At p0 x48).bind (fun r54 => ((bif (decide (r54 < 0)) then some true else ((bif (decide (s39 > 0)) then (idx p0 (i4 : Int)).bind (fun x63 => (idx x63.In (w64 (s39 - 1))).bind (fun x64 => (idx p0 (i4 : Int)).bind (fun x65 => (idx x65.In s39).bind (fun x66 => some (!sLt x64 x66))))) else some false)).bind (fun (j59 : Bool) => some j59))).bind (fun (j55 : Bool) => (bif j55 then some (.inr (.inl (2 : Int))) else some (.inl (w64 (s39 + 1)))))))) else some (.inr (.inr ()))))) 0).bind (fun (t : Int ⊕ Unit) => match t with | (.inl s72) => some (.inr s72) | (.inr ()) => some (.inl ()))))))) p0.length 0 ()).bind (fun (t : Unit ⊕ (Int)) => match t with | .inl _ => (forN (fun (i79 : Nat) (_s : Unit) => (loopO (fun (s89 : Int) => (idx p0 (i79 : Int)).bind (fun x94 => (bif (decide (s89 < (x94.In.length : Int))) then (idx p0 (i79 : Int)).bind (fun x97 => (idx x97.In s89).bind (fun x98 => (idx p0 (i79 : Int)).bind (fun x99 => (r18_Is p0 x98 x99.Name).bind (fun r105 => (bif r105 then some (.inr (.inl (2 : Int))) else some (.inl (w64 (s89 + 1)))))))) else some (.inr (.inr ()))))) 0).bind (fun (t : Int ⊕ Unit) => match t with | (.inl s107) => some (.inr s107) | (.inr ()) => some (.inl ()))) p0.length 0 ()).bind (fun (t : Unit ⊕ (Int)) => match t with | .inl _ => some 0 | .inr s109 => some s109) | .inr s35 => some s35))
theorem r18_Check_ok {p0 : List qJ} {a_p0 : Option Addr} {c_p0 : Nat} (h_p0 : RSl 2 R_qJ I a_p0 c_p0 p0) (hS : St E w I Os) {r : Int} (D : r18_Check p0 = some r) :
    Calls P 110 #[(Sl a_p0 p0 c_p0)] w (RT E I Os (Iv r)) := by
 refine calls_W (fn := Tryz.f110) rfl rfl rfl ?_
 unfold r18_Check at D
 refine yg [0] (ya 0 1 z (yb (W.seq (yg nL3 (ya 0 3 z (yb (y6 D (fun G D => ?_) (fun G D => ?_))))))))
 exact yg [0] (ya 0 1 z (yb (yp (yh (sj D ▸ yw ⟨I, rfl, lr, hS⟩)))))
 refine W.skip (ye (W.seq (yg [0] (ya 0 1 z (yb (yn (bsk D fun t1 hloop5 D => have hlt9 := (h_p0).len_lt; W.wk (yap (m := p0.length) hloop5 (fun (i4 : Nat) (_s : Unit) => JI E I [(0, Sl a_p0 p0 c_p0), (3, Nv i4)] Os) ⟨I, rfl, lr, hS⟩ ?_ ?_))))))))
 rintro i4 _ _ w6 hi10 ⟨I2, rfl, L3, S7⟩ x8 R1 hext1
 refine W.seq (yg nL4 (ya 0 4 z (yb (yat fun _ => W.skip (ye (W.seq (yn (W.seq (W.seq (have S11 := S7.drew; ya1 nL25 25 (yx S11.im) ?_))))))))))
 generalize World.drew _ = w12 at *
 refine ya 0 2 z ?_
 obtain ⟨x13, R1, Hx13, _, ⟨w_x13, rfl, h_x13⟩, Zx13⟩ := sx I2 h_p0 R1
 refine y0 107 2 Hx13 z (yf 3 1 [0] z (yan Zx13 (rd_i S11.im) z (bsk R1 fun r19 Xr14 R1 => yae (r09_IsName_ok  S11 Xr14) ?_)))
 rintro _ w15 ⟨I16, rfl, L17, S18⟩
 refine ⟨_, rfl, (yx (S18.im.of_le L17)), ?_⟩
 refine ya 6 2 z (bsk R1 fun j20 R2 R1 => yam (l1 := [8, 9, 10, 11, 12, 13, 14, 15, 16, 17, 18, 19, 20, 21, 22, 23, 24]) (J := JI E I16 [(0, Sl a_p0 p0 c_p0), (3, Nv i4), (40, .bool j20)] Os) ?_ ?_)
 refine yal R2 (fun G R2 => ?_) (fun G R2 => ?_)
 refine yz 23 G ?_
 iterate 16 refine WO.ps ?_
 exact ya 24 1 z (sj R2 ▸ yy ⟨I16, rfl, lr, S18⟩)
 refine yz 23 G (ya 8 3 z (bsk R2 fun j24 R3 R2 => yam (l1 := [11, 12, 13, 14, 15, 16, 17, 18, 19, 20, 21, 22, 23]) (J := JI E I16 [(0, Sl a_p0 p0 c_p0), (3, Nv i4), (23, .bool false), (39, .bool j24)] Os) ?_ ?_))
 refine yal R3 (fun G R3 => ?_) (fun G R3 => ?_)
 refine yz 26 G (ya 11 3 z ?_)
 obtain ⟨x28, R3, Hx28, _, ⟨w_x28, rfl, h_x28⟩, Zx28⟩ := sx I2 h_p0 R3
 refine y0 107 2 Hx28 z (yf 15 1 [0] z (yan Zx28 (rd_i (S18.im.of_le L17)) z (ya 17 2 z ?_)))
 obtain ⟨x29, R3, Hx29, _, ⟨w_x29, rfl, h_x29⟩, Zx29⟩ := sx I2 h_p0 R3
 exact y0 107 2 Hx29 z (yf 20 1 [0] z (yan Zx29 (rd_i (S18.im.of_le L17)) z (yaf 22 38 (.bool (!sLt x28.Name x29.Name)) (ya 23 1 z (sj R3 ▸ yy ⟨I16, rfl, lr, S18⟩)))))
 refine yz 26 G ?_
 iterate 12 refine WO.ps ?_
 exact ya 23 1 z (sj R3 ▸ yy ⟨I16, rfl, lr, S18⟩)
 rintro _ w30 ⟨I26, rfl, L27, S31⟩
 exact ya 24 1 z (sj R2 ▸ yy ⟨I26, rfl, L27, S31⟩)
 rintro _ w32 ⟨I22, rfl, L23, S33⟩
 refine yb (y6 R1 (fun G R1 => ?_) (fun G R1 => ?_))
 refine yg [0] (ya 0 1 z (yb (yp (yh (yk (yh (yr ?_)))))))
 obtain rfl := hext1 _ (sj R1).symm
 exact yk (yh (sj D ▸ yw ⟨I22, rfl, le, S33⟩))
 refine W.skip (ye (yg [0] (ya 0 1 z (yb (yn (bsk R1 fun t36 hloop40 R1 => W.wk (ya7 hloop40 (fun (s39 : Int) => JI E I22 [(0, Sl a_p0 p0 c_p0), (3, Nv i4), (4, Iv s39)] Os) ⟨I22, rfl, lr, S33⟩ ?_)))))))
 rintro s39 _ w41 ⟨I37, rfl, L38, S42⟩ x43 R2 hext36
 refine W.seq (yg nL8 (ya 0 3 z ?_))
 obtain ⟨x44, R2, Hx44, _, ⟨w_x44, rfl, h_x44⟩, Zx44⟩ := sx I37 h_p0 R2
 refine y0 107 2 Hx44 z (yf 4 1 [1] z (yar Zx44 1 S42.rm z (ya 6 2 z (yb (y6 R2 (fun G R2 => ?_) (fun G R2 => ?_))))))
 refine W.skip (ye (W.seq (yn (W.seq (have S45 := S42.drew; ya1 nL35 35 (yx S45.im) ?_)))))
 generalize World.drew _ = w46 at *
 refine ya 0 3 z ?_
 obtain ⟨x47, R2, Hx47, _, ⟨w_x47, rfl, h_x47⟩, Zx47⟩ := sx I37 h_p0 R2
 refine y0 107 2 Hx47 z (yf 4 1 [1] z (yar Zx47 1 (rd_i S45.im) z (ya 6 1 z ?_)))
 obtain ⟨x48, R2, Hx48, _, rfl, Zx48⟩ := sl_ix (h_x47.In) R2
 refine y0 9 1 Hx48 z (yan Zx48 (rd_i S45.im) z (bsk R2 fun r54 Xr49 R2 => yae (r18_At_ok (up h_p0) S45 Xr49) ?_))
 rintro _ w50 ⟨I51, rfl, L52, S53⟩
 refine ⟨_, rfl, (yx (S53.im.of_le L52)), ?_⟩
 refine ya 10 2 z (bsk R2 fun j55 R3 R2 => yam (l1 := [12, 13, 14, 15, 16, 17, 18, 19, 20, 21, 22, 23, 24, 25, 26, 27, 28, 29, 30, 31, 32, 33, 34]) (J := JI E I51 [(0, Sl a_p0 p0 c_p0), (3, Nv i4), (4, Iv s39), (85, .bool j55)] Os) ?_ ?_)
 refine yal R3 (fun G R3 => ?_) (fun G R3 => ?_)
 refine yz 62 G ?_
 iterate 22 refine WO.ps ?_
 exact ya 34 1 z (sj R3 ▸ yy ⟨I51, rfl, lr, S53⟩)
 refine yz 62 G (ya 12 3 z (bsk R3 fun j59 R4 R3 => yam (l1 := [15, 16, 17, 18, 19, 20, 21, 22, 23, 24, 25, 26, 27, 28, 29, 30, 31, 32, 33]) (J := JI E I51 [(0, Sl a_p0 p0 c_p0), (3, Nv i4), (4, Iv s39), (62, .bool false), (84, .bool j59)] Os) ?_ ?_))
 refine yal R4 (fun G R4 => ?_) (fun G R4 => ?_)
 refine yz 65 G (ya 15 2 z ?_)
 obtain ⟨x63, R4, Hx63, _, ⟨w_x63, rfl, h_x63⟩, Zx63⟩ := sx I37 h_p0 R4
 refine y0 107 2 Hx63 z (yf 18 1 [1] z (yar Zx63 1 (rd_i (S53.im.of_le L52)) z (ya 20 2 z ?_)))
 obtain ⟨x64, R4, Hx64, _, rfl, Zx64⟩ := sl_ix (h_x63.In) R4
 refine y0 9 1 Hx64 z (yan Zx64 (rd_i (S53.im.of_le L52)) z (ya 24 2 z ?_))
 obtain ⟨x65, R4, Hx65, _, ⟨w_x65, rfl, h_x65⟩, Zx65⟩ := sx I37 h_p0 R4
 refine y0 107 2 Hx65 z (yf 27 1 [1] z (yar Zx65 1 (rd_i (S53.im.of_le L52)) z (ya 29 1 z ?_)))
 obtain ⟨x66, R4, Hx66, _, rfl, Zx66⟩ := sl_ix (h_x65.In) R4
 exact y0 9 1 Hx66 z (yan Zx66 (rd_i (S53.im.of_le L52)) z (yaf 32 83 (.bool (!sLt x64 x66)) (ya 33 1 z (sj R4 ▸ yy ⟨I51, rfl, lr, S53⟩))))
 refine yz 65 G ?_
 iterate 18 refine WO.ps ?_
 exact ya 33 1 z (sj R4 ▸ yy ⟨I51, rfl, lr, S53⟩)
 rintro _ w67 ⟨I61, rfl, L62, S68⟩
 exact ya 34 1 z (sj R3 ▸ yy ⟨I61, rfl, L62, S68⟩)
 rintro _ w69 ⟨I57, rfl, L58, S70⟩
 refine yb (y6 R2 (fun G R2 => ?_) (fun G R2 => ?_))
 refine yg [0] (ya 0 1 z (yb (yp (yk (yh (yr ?_))))))
 obtain rfl := hext36 _ (sj R2).symm
 refine yk (yk (yh (yr ?_)))
 obtain rfl := hext1 _ (sj R1).symm
 exact yk (yh (sj D ▸ yw ⟨I57, rfl, le, S70⟩))
 exact W.skip (yl (ye (yai nL3 (ya 0 3 z (yt (yv ⟨(w64 (s39 + 1)), (sj R2).symm, I57, rfl, le, S70⟩))))))
 refine W.exit (yo (yq ?_))
 obtain rfl := hext36 _ (sj R2).symm
 exact yu (yl (ye (yai nL3 (ya 0 1 z (yao i4 z (ya 2 1 z (yt (yv ⟨(), (sj R1).symm, I37, rfl, le, S42⟩))))))))
 rintro _ _ w74 ⟨I2, rfl, L3, S75⟩ he
 cases he
 refine W.seq (yg nL4 (ya 0 4 z (yb (yas fun _ => W.exit (yo (yq (yu (ye (W.seq (yg [0] (ya 0 1 z (yb (yn (bsk D fun t76 hloop80 D => have hlt84 := ((RSl.mono h_p0 L3)).len_lt; W.wk (yap (m := p0.length) hloop80 (fun (i79 : Nat) (_s : Unit) => JI E I2 [(0, Sl a_p0 p0 c_p0), (5, Nv i79)] Os) ⟨I2, rfl, lr, S75⟩ ?_ ?_)))))))))))))))
 rintro i79 _ _ w81 hi85 ⟨I77, rfl, L78, S82⟩ x83 R1 hext76
 refine W.seq (yg nL4 (ya 0 4 z (yb (yat fun _ => W.skip (ye (W.seq (yn (yg [0] (ya 0 1 z (yb (yn (bsk R1 fun t86 hloop90 R1 => W.wk (ya7 hloop90 (fun (s89 : Int) => JI E I77 [(0, Sl a_p0 p0 c_p0), (5, Nv i79), (6, Iv s89)] Os) ⟨I77, rfl, lr, S82⟩ ?_)))))))))))))
 rintro s89 _ w91 ⟨I87, rfl, L88, S92⟩ x93 R2 hext86
 refine W.seq (yg nL8 (ya 0 3 z ?_))
 obtain ⟨x94, R2, Hx94, _, ⟨w_x94, rfl, h_x94⟩, Zx94⟩ := sx I87 h_p0 R2
 refine y0 107 2 Hx94 z (yf 4 1 [1] z (yar Zx94 1 S92.rm z (ya 6 2 z (yb (y6 R2 (fun G R2 => ?_) (fun G R2 => ?_))))))
 refine W.skip (ye (W.seq (yn (W.seq (have S95 := S92.drew; ya1 nL15 14 (yx S95.im) ?_)))))
 generalize World.drew _ = w96 at *
 refine ya 0 3 z ?_
 obtain ⟨x97, R2, Hx97, _, ⟨w_x97, rfl, h_x97⟩, Zx97⟩ := sx I87 h_p0 R2
 refine y0 107 2 Hx97 z (yf 4 1 [1] z (yar Zx97 1 (rd_i S95.im) z (ya 6 1 z ?_)))
 obtain ⟨x98, R2, Hx98, _, rfl, Zx98⟩ := sl_ix (h_x97.In) R2
 refine y0 9 1 Hx98 z (yan Zx98 (rd_i S95.im) z (ya 9 2 z ?_))
 obtain ⟨x99, R2, Hx99, _, ⟨w_x99, rfl, h_x99⟩, Zx99⟩ := sx I87 h_p0 R2
 refine y0 107 2 Hx99 z (yf 12 1 [0] z (yan Zx99 (rd_i S95.im) z (WO.tail z (bsk R2 fun r105 Xr100 R2 => WO.c1 (r18_Is_ok (up h_p0) S95 Xr100) z fun I102 w101 L103 S104 => yb (y6 R2 (fun G R2 => ?_) (fun G R2 => ?_))))))
 refine yg [0] (ya 0 1 z (yb (yp (yk (yh (yr ?_))))))
 obtain rfl := hext86 _ (sj R2).symm
 refine yk (yk (yh (yr ?_)))
 obtain rfl := hext76 _ (sj R1).symm
 exact yk (yh (sj D ▸ yw ⟨I102, rfl, le, S104⟩))
 exact W.skip (yl (ye (yai nL3 (ya 0 3 z (yt (yv ⟨(w64 (s89 + 1)), (sj R2).symm, I102, rfl, le, S104⟩))))))
 refine W.exit (yo (yq ?_))
 obtain rfl := hext86 _ (sj R2).symm
 exact yu (yl (ye (yai nL3 (ya 0 1 z (yao i79 z (ya 2 1 z (yt (yv ⟨(), (sj R1).symm, I87, rfl, le, S92⟩))))))))
 rintro _ _ w111 ⟨I77, rfl, L78, S112⟩ he
 cases he
 exact W.seq (yg nL4 (ya 0 4 z (yb (yas fun _ => W.exit (yo (yq (yu (ye (yg [0] (ya 0 1 z (yb (yp (sj D ▸ yw ⟨I77, rfl, le, S112⟩)))))))))))))
noncomputable def r18_Create (p0 : List qJ) (p1 : By8) : Option ((List qJ) × Int) := (r18_Check p0).bind (fun r6 => (bif (r6 != 0) then some (([] : List qJ), r6) else (r09_IsName p1).bind (fun r12 => (bif (!r12) then some (([] : List qJ), 18) else (r18_At p0 p1).bind (fun r18 => (bif (decide (r18 ≥ 0)) then some (([] : List qJ), 19) else (bif ((p0.length : Int) == 8) then some (([] : List qJ), 5) else (loopO (fun (s22 : Int) => ((bif (decide (s22 < (p0.length : Int))) then (idx p0 s22).bind (fun x31 => some (sLt x31.Name p1)) else some false)).bind (fun (j27 : Bool) => (bif j27 then some (.inl (w64 (s22 + 1))) else some (.inr s22)))) 0).bind (fun (s35 : Int) => (sub p0 0 s35).bind (fun x36 => (app 40 ([] : List qJ) x36).bind (fun x39 => (app 40 x39 ([{ z_qJ with Name := p1 }] : List qJ)).bind (fun x55 => (sub p0 s35 (p0.length : Int)).bind (fun x64 => (app 40 x55 x64).bind (fun x65 => some (x65, 0))))))))))))))
theorem r18_Create_ok {p0 : List qJ} {p1 : By8} {a_p0 : Option Addr} {c_p0 : Nat} (h_p0 : RSl 2 R_qJ I a_p0 c_p0 p0) (hS : St E w I Os) {r : (List qJ) × Int} (D : r18_Create p0 p1 = some r) :
    Calls P 80 #[(Sl a_p0 p0 c_p0), (.string p1)] w (fun e w' => ∃ (I' : Mem) (ra0 : Option Addr) (rc0 : Nat), e = .returned (.tuple #[(Sl ra0 r.1 rc0), (Iv r.2)]) ∧ I.Le I' ∧ St E w' I' Os ∧ RSl 2 R_qJ I' ra0 rc0 r.1) := by
 refine calls_W (fn := Tryz.f80) rfl rfl rfl ?_
 unfold r18_Create at D
 refine yg nL2 (yaf 0 4 (.slice none 0 0) (ya 1 1 z (yac nL3 (ya 0 1 z (bsk D fun r6 Xr1 D => WO.c1 (r18_Check_ok h_p0 hS Xr1) z fun I3 w2 L4 S5 => ya 2 1 z (yb (W.seq (yg nL2 (ya 0 2 z (yb (y6 D (fun G D => ?_) (fun G D => ?_))))))))))))
 exact yg nL3 (ya 0 1 z (yaf 1 4 (.slice none 0 0) (ya 2 1 z (yb (yp (yh (sj D ▸ yaz ⟨I3, none, 0, rfl, L4, S5, SlAt.nil⟩)))))))
 refine W.skip (ye (W.seq (yg nL3 (ya 0 1 z (bsk D fun r12 Xr7 D => WO.c1 (r09_IsName_ok  S5 Xr7) z fun I9 w8 L10 S11 => ya 2 1 z (yb (y6 D (fun G D => ?_) (fun G D => ?_))))))))
 exact yg nL2 (yaf 0 4 (.slice none 0 0) (ya 1 1 z (yb (yp (yh (sj D ▸ yaz ⟨I9, none, 0, rfl, le, S11, SlAt.nil⟩))))))
 refine W.skip (ye (W.seq (yg nL4 (ya 0 2 z (bsk D fun r18 Xr13 D => WO.c1 (r18_At_ok (up h_p0) S11 Xr13) z fun I15 w14 L16 S17 => ya 3 1 z (yb (y6 D (fun G D => ?_) (fun G D => ?_))))))))
 exact yg nL2 (yaf 0 4 (.slice none 0 0) (ya 1 1 z (yb (yp (yh (sj D ▸ yaz ⟨I15, none, 0, rfl, le, S17, SlAt.nil⟩))))))
 refine W.skip (ye (W.seq (yg nL3 (ya 0 3 z (yb (y6 D (fun G D => ?_) (fun G D => ?_)))))))
 exact yg nL2 (yaf 0 4 (.slice none 0 0) (ya 1 1 z (yb (yp (yh (sj D ▸ yaz ⟨I15, none, 0, rfl, le, S17, SlAt.nil⟩))))))
 refine W.skip (ye (yg [0] (ya 0 1 z (yb (W.seq (yn (bsk D fun t19 hloop23 D => W.wk (ya7 hloop23 (fun (s22 : Int) => JI E I15 [(0, Sl a_p0 p0 c_p0), (1, .string p1), (7, Iv s22)] Os) ⟨I15, rfl, lr, S17⟩ ?_))))))))
 rintro s22 _ w24 ⟨I20, rfl, L21, S25⟩ x26 R1 hext19
 refine W.seq (yg nL13 (ya 0 5 z (bsk R1 fun j27 R2 R1 => yam (l1 := [5, 6, 7, 8, 9, 10, 11, 12]) (J := JI E I20 [(0, Sl a_p0 p0 c_p0), (1, .string p1), (7, Iv s22), (36, .bool j27)] Os) ?_ ?_)))
 refine yal R2 (fun G R2 => ?_) (fun G R2 => ?_)
 refine yz 28 G (ya 5 2 z ?_)
 obtain ⟨x31, R2, Hx31, _, ⟨w_x31, rfl, h_x31⟩, Zx31⟩ := sx I20 h_p0 R2
 exact y0 107 2 Hx31 z (yf 8 1 [0] z (yan Zx31 S25.rm z (ya 10 1 z (yaf 11 35 (.bool (sLt x31.Name p1)) (ya 12 1 z (sj R2 ▸ yy ⟨I20, rfl, lr, S25⟩))))))
 refine yz 28 G ?_
 iterate 7 refine WO.ps ?_
 exact ya 12 1 z (sj R2 ▸ yy ⟨I20, rfl, lr, S25⟩)
 rintro _ w32 ⟨I29, rfl, L30, S33⟩
 refine yb (y6 R1 (fun G R1 => ?_) (fun G R1 => ?_))
 exact W.skip (ye (yn (yai nL3 (ya 0 3 z (yt (yl (yv ⟨(w64 (s22 + 1)), (sj R1).symm, I29, rfl, le, S33⟩)))))))
 refine W.exit (yo (yq ?_))
 obtain rfl := hext19 _ (sj R1).symm
 refine yu (ye (yg [0] (yaf 0 8 (.slice none 0 0) (yac nL6 (ya 0 3 z ?_)))))
 obtain ⟨x76, Xx76, D⟩ := bsm D
 obtain ⟨h0_x76, h1_x76, h2_x76, he_x76⟩ := sub_some Xx76
 have hl_x76 : (s22 : Int) ≤ (c_p0 : Int) := Int.le_trans h2_x76 (Int.ofNat_le.2 ((RSl.mono h_p0 ((((L4.trans L10).trans L16).trans L21).trans L30))).le)
 refine ya3 (e := 107) (sz := 2) z kr kr kr z (0 : Int) (s22 : Int) h0_x76 (.inl ⟨rfl, rfl⟩) (.inr ⟨_, _, rfl, rfl⟩) h1_x76 hl_x76 ?_
 obtain ⟨a_x76, c_x76, h_x76, ev_x76⟩ := sub_ok ((RSl.mono h_p0 ((((L4.trans L10).trans L16).trans L21).trans L30))) h0_x76 h1_x76 h2_x76 he_x76
 refine y8 42 z ev_x76 ?_
 have S78 := S33.no
 refine apk D fun x79 h0_x79 he_x79 D => ya6 (e' := 107) (b := 40) (zs := (cs_qJ z_qJ zw_qJ).toArray) S78 (OwnSl.nil (T := 107) (rel := R_qJ) (I := I29)) z kr z kr kr kr z z z z h_x76 S78.im h0_x79 he_x79 tv ?_
 intro a80 c81 w82 C83 S84 ho85
 refine ya 5 1 z (yac nL6 (ya 0 2 z (yaf 2 46 (.agg (cs_qJ ({ z_qJ with Name := p1 }) zw_qJ).toArray) ?_)))
 have hk93 : ok_qJ I29 ({ z_qJ with Name := p1 }) zw_qJ := ⟨SlAt.nil⟩
 refine yad (rel := R_qJ) (xs := ([{ z_qJ with Name := p1 }] : List qJ)) S84 z kr z 107 2 [(cs_qJ ({ z_qJ with Name := p1 }) zw_qJ)] kr z ((Elr.cons ⟨zw_qJ, rfl, hk93⟩ Elr.nil)) tv ?_
 intro a89 C87 w91 S90 ho88
 have S94 := S90.front1
 refine apk D fun x95 h0_x95 he_x95 D => yau 107 40 (cs_qJ z_qJ zw_qJ) S94 ho85 ho88.sl (S94.rd m1) h0_x95 he_x95 z fun a96 c97 w98 C99 S100 ho101 => have S103 := S100.front1.drop; ya 5 1 z (yac nL7 (ya 0 3 z ?_))
 obtain ⟨x104, Xx104, D⟩ := bsm D
 obtain ⟨h0_x104, h1_x104, h2_x104, he_x104⟩ := sub_some Xx104
 have hl_x104 : ((p0.length : Int) : Int) ≤ (c_p0 : Int) := Int.le_trans h2_x104 (Int.ofNat_le.2 ((RSl.mono h_p0 ((((L4.trans L10).trans L16).trans L21).trans L30))).le)
 refine ya3 (e := 107) (sz := 2) z kr kr kr z (s22 : Int) ((p0.length : Int) : Int) h0_x104 (.inr ⟨_, _, rfl, rfl⟩) (.inl ⟨rfl, rfl⟩) h1_x104 hl_x104 ?_
 obtain ⟨a_x104, c_x104, h_x104, ev_x104⟩ := sub_ok ((RSl.mono h_p0 ((((L4.trans L10).trans L16).trans L21).trans L30))) h0_x104 h1_x104 h2_x104 he_x104
 refine y8 52 z ev_x104 ?_
 refine apk D fun x105 h0_x105 he_x105 D => yau 107 40 (cs_qJ z_qJ zw_qJ) S103 ho101 h_x104 S103.im h0_x105 he_x105 z ?_
 intro a106 c107 w108 C109 S110 ho111
 obtain ⟨I112, L113, S115, hp114⟩ := yag ho111 S110
 exact ya 5 2 z (yb (yp (sj D ▸ yaz ⟨I112, a106, c107, rfl, le, S115, hp114⟩)))
def r18_turned (p0 : List qJ) (p1 : Int) (p2 : List By8) : Option (List qJ) := (app 40 ([] : List qJ) p0).bind (fun x3 => (idx x3 p1).bind (fun x10 => some (x3.set (p1).toNat ({ x10 with In := p2 }))))
theorem r18_turned_ok {p0 : List qJ} {p1 : Int} {p2 : List By8} {a_p0 : Option Addr} {c_p0 : Nat} {a_p2 : Option Addr} {c_p2 : Nat} (h_p0 : RSl 2 R_qJ I a_p0 c_p0 p0) (h_p2 : RSl 1 RStr I a_p2 c_p2 p2) (hS : St E w I Os) {r : (List qJ)} (D : r18_turned p0 p1 p2 = some r) :
    Calls P 112 #[(Sl a_p0 p0 c_p0), (Iv p1), (Sl a_p2 p2 c_p2)] w (fun e w' => ∃ (I' : Mem) (ra0 : Option Addr) (rc0 : Nat), e = .returned (Sl ra0 r rc0) ∧ I.Le I' ∧ St E w' I' Os ∧ RSl 2 R_qJ I' ra0 rc0 r) := by
 refine calls_W (fn := Tryz.f112) rfl rfl rfl ?_
 unfold r18_turned at D
 refine yg [0] (yaf 0 6 (.slice none 0 0) (yac [0] (yaf 0 7 (.slice none 0 0) (yac nL4 (ya 0 2 z (have S2 := hS.no; apk D fun x3 h0_x3 he_x3 D => ya6 (e' := 107) (b := 40) (zs := (cs_qJ z_qJ zw_qJ).toArray) S2 (OwnSl.nil (T := 107) (rel := R_qJ) (I := I)) z kr z kr kr kr z z z z h_p0 S2.im h0_x3 he_x3 tv ?_))))))
 intro a4 c5 w6 C7 S8 ho9
 refine ya 3 1 z (yac nL6 (ya 0 3 z ?_))
 obtain ⟨x10, D, h0_x10, h1_x10, Xx10, ha_x10, _, _, ⟨w_x10, rfl, h_x10⟩, Zx10⟩ := sl_at (ho9.sl) D
 refine ya4 107 2 ha_x10 h0_x10 h1_x10 ?_
 refine yf 4 1 [1] z ?_
 have hk15 : ok_qJ I ({ x10 with In := p2 }) (⟨⟨a_p2, c_p2⟩⟩ : W_qJ) := ⟨h_p2⟩
 refine ya2 S8 ho9 z kr z Xx10 (u' := { x10 with In := p2 }) 1 z z kr z z (fun cs hrel => (by obtain ⟨w_zz, rfl, h_zz⟩ := hrel; exact ⟨{ w_zz with In := ⟨a_p2, c_p2⟩ }, rfl, { h_zz with In := h_p2 }⟩)) tv ?_
 intro w12 C13 S11 ho14
 refine y8 7 z (show Value.slice a4 x3.length c5 = Value.slice a4 (x3.set (p1).toNat ({ x10 with In := p2 })).length c5 by simp only [List.length_set]) ?_
 refine yac nL2 (ya 0 1 z ?_)
 obtain ⟨I16, L17, S19, hp18⟩ := yag ho14 S11
 exact ya 1 1 z (yb (yp (sj D ▸ yw ⟨I16, a4, c5, rfl, L17, S19, hp18⟩)))
noncomputable def r18_Grant (p0 : List qJ) (p1 : By8) (p2 : By8) : Option ((List qJ) × Int) := (r18_Check p0).bind (fun r6 => (bif (r6 != 0) then some (([] : List qJ), r6) else (r18_At p0 p2).bind (fun r12 => ((bif (decide (r12 < 0)) then some true else (r18_At p0 p1).bind (fun r22 => some (decide (r22 < 0))))).bind (fun (j13 : Bool) => (bif j13 then some (([] : List qJ), 4) else (idx p0 r12).bind (fun x25 => (r14_Has x25.In p1).bind (fun r31 => (bif r31 then some (([] : List qJ), 19) else (r18_Is p0 p1 p2).bind (fun r37 => (bif r37 then some (([] : List qJ), 35) else (idx p0 r12).bind (fun x38 => (r18_into x38.In p1).bind (fun r44 => (r18_turned p0 r12 r44).bind (fun r50 => some (r50, 0))))))))))))))
theorem r18_Grant_ok {p0 : List qJ} {p1 : By8} {p2 : By8} {a_p0 : Option Addr} {c_p0 : Nat} (h_p0 : RSl 2 R_qJ I a_p0 c_p0 p0) (hS : St E w I Os) {r : (List qJ) × Int} (D : r18_Grant p0 p1 p2 = some r) :
    Calls P 81 #[(Sl a_p0 p0 c_p0), (.string p1), (.string p2)] w (fun e w' => ∃ (I' : Mem) (ra0 : Option Addr) (rc0 : Nat), e = .returned (.tuple #[(Sl ra0 r.1 rc0), (Iv r.2)]) ∧ I.Le I' ∧ St E w' I' Os ∧ RSl 2 R_qJ I' ra0 rc0 r.1) := by
 refine calls_W (fn := Tryz.f81) rfl rfl rfl ?_
 unfold r18_Grant at D
 refine yg nL2 (yaf 0 6 (.slice none 0 0) (ya 1 1 z (yac nL3 (ya 0 1 z (bsk D fun r6 Xr1 D => WO.c1 (r18_Check_ok h_p0 hS Xr1) z fun I3 w2 L4 S5 => ya 2 1 z (yb (W.seq (yg nL2 (ya 0 2 z (yb (y6 D (fun G D => ?_) (fun G D => ?_))))))))))))
 exact yg nL3 (ya 0 1 z (yaf 1 6 (.slice none 0 0) (ya 2 1 z (yb (yp (yh (sj D ▸ yaz ⟨I3, none, 0, rfl, L4, S5, SlAt.nil⟩)))))))
 refine W.skip (ye (yg nL4 (ya 0 2 z (bsk D fun r12 Xr7 D => WO.c1 (r18_At_ok (RSl.mono h_p0 L4) S5 Xr7) z fun I9 w8 L10 S11 => ya 3 1 z (yb (W.seq (yg nL8 (ya 0 3 z (bsk D fun j13 R1 D => yam (l1 := [3, 4, 5, 6, 7]) (J := JI E I9 [(0, Sl a_p0 p0 c_p0), (1, .string p1), (2, .string p2), (9, Iv r12), (25, .bool j13)] Os) ?_ ?_)))))))))
 refine yal R1 (fun G R1 => ?_) (fun G R1 => ?_)
 refine yz 20 G ?_
 iterate 4 refine WO.ps ?_
 exact ya 7 1 z (sj R1 ▸ yy ⟨I9, rfl, lr, S11⟩)
 exact yz 20 G (ya 3 2 z (bsk R1 fun r22 Xr17 R1 => WO.c1 (r18_At_ok (up h_p0) S11 Xr17) z fun I19 w18 L20 S21 => ya 6 2 z (sj R1 ▸ yy ⟨I19, rfl, L20, S21⟩)))
 rintro _ w23 ⟨I15, rfl, L16, S24⟩
 refine yb (y6 D (fun G D => ?_) (fun G D => ?_))
 exact yg nL2 (yaf 0 6 (.slice none 0 0) (ya 1 1 z (yb (yp (yh (sj D ▸ yaz ⟨I15, none, 0, rfl, le, S24, SlAt.nil⟩))))))
 refine W.skip (ye (W.seq (yg nL7 (ya 0 2 z ?_))))
 obtain ⟨x25, D, Hx25, _, ⟨w_x25, rfl, h_x25⟩, Zx25⟩ := sx I15 h_p0 D
 refine y0 107 2 Hx25 z (yf 3 1 [1] z (yar Zx25 1 S24.rm z (ya 5 1 z (bsk D fun r31 Xr26 D => WO.c1 (r14_Has_ok h_x25.In S24 Xr26) z fun I28 w27 L29 S30 => yb (y6 D (fun G D => ?_) (fun G D => ?_))))))
 exact yg nL2 (yaf 0 6 (.slice none 0 0) (ya 1 1 z (yb (yp (yh (sj D ▸ yaz ⟨I28, none, 0, rfl, le, S30, SlAt.nil⟩))))))
 refine W.skip (ye (W.seq (yg nL4 (ya 0 3 z (bsk D fun r37 Xr32 D => WO.c1 (r18_Is_ok (up h_p0) S30 Xr32) z fun I34 w33 L35 S36 => yb (y6 D (fun G D => ?_) (fun G D => ?_)))))))
 exact yg nL2 (yaf 0 6 (.slice none 0 0) (ya 1 1 z (yb (yp (yh (sj D ▸ yaz ⟨I34, none, 0, rfl, le, S36, SlAt.nil⟩))))))
 refine W.skip (ye (yg nL12 (ya 0 4 z ?_)))
 obtain ⟨x38, D, Hx38, _, ⟨w_x38, rfl, h_x38⟩, Zx38⟩ := sx I34 h_p0 D
 refine y0 107 2 Hx38 z (yf 5 1 [1] z (yar Zx38 1 S36.rm z (ya 7 1 z (bsk D fun r44 Xr39 D => yae (r18_into_ok h_x38.In S36 Xr39) ?_))))
 rintro _ w40 ⟨I41, a_r44, c_r44, rfl, L42, S43, h_r44⟩
 refine cv (bsk D fun r50 Xr45 D => yae (r18_turned_ok (up h_p0) h_r44 S43 Xr45) ?_)
 rintro _ w46 ⟨I47, a_r50, c_r50, rfl, L48, S49, h_r50⟩
 exact cv (ya 10 2 z (yb (yp (sj D ▸ yaz ⟨I47, a_r50, c_r50, rfl, le, S49, h_r50⟩))))
def r18_without (p0 : List By8) (p1 : By8) : Option (List By8) := (forE (fun (i5 : Nat) (s4 : List By8) => (idx p0 (i5 : Int)).bind (fun x14 => ((bif (!sEq x14 p1) then (idx p0 (i5 : Int)).bind (fun x19 => (app 16 s4 ([x19] : List By8)).bind (fun x28 => some x28)) else some s4)).bind (fun (j15 : List By8) => some j15))) p0.length 0 ([] : List By8)).bind (fun s4 => some s4)
theorem r18_without_ok {p0 : List By8} {p1 : By8} {a_p0 : Option Addr} {c_p0 : Nat} (h_p0 : RSl 1 RStr I a_p0 c_p0 p0) (hS : St E w I Os) {r : (List By8)} (D : r18_without p0 p1 = some r) :
    Calls P 113 #[(Sl a_p0 p0 c_p0), (.string p1)] w (fun e w' => ∃ (I' : Mem) (ra0 : Option Addr) (rc0 : Nat), e = .returned (Sl ra0 r rc0) ∧ I.Le I' ∧ St E w' I' Os ∧ RSl 1 RStr I' ra0 rc0 r) := by
 refine calls_W (fn := Tryz.f113) rfl rfl rfl ?_
 unfold r18_without at D
 refine yg [0] (yaf 0 4 (.slice none 0 0) (yac [0] (yaf 0 5 (.slice none 0 0) (yb (W.seq (yg [0] (ya 0 1 z (yb (yn (bsk D fun s4 hloop6 D => have hlt12 := (h_p0).len_lt; W.wk (ya0 (m := p0.length) hloop6 (fun (i5 : Nat) (s4 : List By8) fr w => ∃ I2 a_s4 c_s4 C_s4, fr = [(0, Sl a_p0 p0 c_p0), (1, .string p1), (5, Sl a_s4 s4 c_s4), (6, Nv i5)] ∧ I.Le I2 ∧ St E w I2 ((C_s4) :: Os) ∧ OwnSl 9 1 RStr I2 C_s4 a_s4 c_s4 s4) ⟨I, none, 0, Mem.no, rfl, lr, hS.no, OwnSl.nil⟩ ?_ ?_)))))))))))
 rintro i5 s4 _ w9 hi13 ⟨I2, a_s4, c_s4, C_s4, rfl, L3, S10, h_s4⟩ x11 R1
 refine W.seq (yg nL4 (ya 0 4 z (yb (yat fun _ => W.skip (ye (W.seq (yn (yg nL6 (ya 0 2 z ?_)))))))))
 obtain ⟨x14, R1, Hx14, _, rfl, Zx14⟩ := sx I2 h_p0 R1
 refine y0 9 1 Hx14 z (yan Zx14 S10.rm z (ya 4 2 z (yb (bsk R1 fun j15 R2 R1 => yay (J := (fun fr w => ∃ I17 a_j15 c_j15 C_j15, fr = [(0, Sl a_p0 p0 c_p0), (1, .string p1), (5, Sl a_j15 j15 c_j15), (6, Nv i5)] ∧ I2.Le I17 ∧ St E w I17 ((C_j15) :: Os) ∧ OwnSl 9 1 RStr I17 C_j15 a_j15 c_j15 j15)) ?_ ?_))))
 refine y6 R2 (fun G R2 => ?_) (fun G R2 => ?_)
 refine yai nL8 (ya 0 3 z ?_)
 obtain ⟨x19, R2, Hx19, _, rfl, Zx19⟩ := sx I2 h_p0 R2
 refine y0 9 1 Hx19 z (yan Zx19 S10.rm z (yad (rel := RStr) (xs := ([x19] : List By8)) S10 z kr z 9 1 [[(.string x19)]] kr z ((Elr.cons z Elr.nil)) tv ?_))
 intro a23 C21 w25 S24 ho22
 have S27 := S24.front1
 exact apk R2 fun x28 h0_x28 he_x28 R2 => yau 9 16 [(.string eB)] S27 h_s4 ho22.sl (S27.rd m1) h0_x28 he_x28 z fun a29 c30 w31 C32 S33 ho34 => ya 7 1 z (yt (sj R2 ▸ yv ⟨I2, a29, c30, C32, rfl, lr, S33.front1.drop, ho34⟩))
 exact W.skip (sj R2 ▸ yv ⟨I2, a_s4, c_s4, C_s4, rfl, lr, S10, h_s4⟩)
 rintro _ w37 ⟨I17, a_j15, c_j15, C_j15, rfl, L18, S38, h_j15⟩
 exact yl (ye (yai nL3 (ya 0 1 z (yao i5 z (ya 2 1 z (yt (sj R1 ▸ yv ⟨I17, a_j15, c_j15, C_j15, rfl, le, S38, h_j15⟩)))))))
 rintro _ w39 ⟨I2, a_s4, c_s4, C_s4, rfl, L3, S40, h_s4⟩
 refine W.seq (yg nL4 (ya 0 4 z (yb (yas fun _ => W.exit (yo (yq (yu (ye (yg nL2 (ya 0 1 z ?_))))))))))
 obtain ⟨I41, L42, S44, hp43⟩ := yag h_s4 S40
 exact ya 1 1 z (yb (yp (sj D ▸ yw ⟨I41, a_s4, c_s4, rfl, le, S44, hp43⟩)))
noncomputable def r18_Revoke (p0 : List qJ) (p1 : By8) (p2 : By8) : Option ((List qJ) × Int) := (r18_Check p0).bind (fun r6 => (bif (r6 != 0) then some (([] : List qJ), r6) else (r18_At p0 p2).bind (fun r12 => ((bif (decide (r12 < 0)) then some true else (idx p0 r12).bind (fun x17 => (r14_Has x17.In p1).bind (fun r23 => some (!r23))))).bind (fun (j13 : Bool) => (bif j13 then some (([] : List qJ), 4) else (idx p0 r12).bind (fun x26 => (r18_without x26.In p1).bind (fun r32 => (r18_turned p0 r12 r32).bind (fun r38 => some (r38, 0)))))))))
theorem r18_Revoke_ok {p0 : List qJ} {p1 : By8} {p2 : By8} {a_p0 : Option Addr} {c_p0 : Nat} (h_p0 : RSl 2 R_qJ I a_p0 c_p0 p0) (hS : St E w I Os) {r : (List qJ) × Int} (D : r18_Revoke p0 p1 p2 = some r) :
    Calls P 82 #[(Sl a_p0 p0 c_p0), (.string p1), (.string p2)] w (fun e w' => ∃ (I' : Mem) (ra0 : Option Addr) (rc0 : Nat), e = .returned (.tuple #[(Sl ra0 r.1 rc0), (Iv r.2)]) ∧ I.Le I' ∧ St E w' I' Os ∧ RSl 2 R_qJ I' ra0 rc0 r.1) := by
 refine calls_W (fn := Tryz.f82) rfl rfl rfl ?_
 unfold r18_Revoke at D
 refine yg nL2 (yaf 0 6 (.slice none 0 0) (ya 1 1 z (yac nL3 (ya 0 1 z (bsk D fun r6 Xr1 D => WO.c1 (r18_Check_ok h_p0 hS Xr1) z fun I3 w2 L4 S5 => ya 2 1 z (yb (W.seq (yg nL2 (ya 0 2 z (yb (y6 D (fun G D => ?_) (fun G D => ?_))))))))))))
 exact yg nL3 (ya 0 1 z (yaf 1 6 (.slice none 0 0) (ya 2 1 z (yb (yp (yh (sj D ▸ yaz ⟨I3, none, 0, rfl, L4, S5, SlAt.nil⟩)))))))
 refine W.skip (ye (yg nL4 (ya 0 2 z (bsk D fun r12 Xr7 D => WO.c1 (r18_At_ok (RSl.mono h_p0 L4) S5 Xr7) z fun I9 w8 L10 S11 => ya 3 1 z (yb (W.seq (yg nL12 (ya 0 3 z (bsk D fun j13 R1 D => yam (l1 := [3, 4, 5, 6, 7, 8, 9, 10, 11]) (J := JI E I9 [(0, Sl a_p0 p0 c_p0), (1, .string p1), (9, Iv r12), (29, .bool j13)] Os) ?_ ?_)))))))))
 refine yal R1 (fun G R1 => ?_) (fun G R1 => ?_)
 refine yz 20 G ?_
 iterate 8 refine WO.ps ?_
 exact ya 11 1 z (sj R1 ▸ yy ⟨I9, rfl, lr, S11⟩)
 refine yz 20 G (ya 3 2 z ?_)
 obtain ⟨x17, R1, Hx17, _, ⟨w_x17, rfl, h_x17⟩, Zx17⟩ := sx I9 h_p0 R1
 exact y0 107 2 Hx17 z (yf 6 1 [1] z (yar Zx17 1 S11.rm z (ya 8 1 z (bsk R1 fun r23 Xr18 R1 => WO.c1 (r14_Has_ok h_x17.In S11 Xr18) z fun I20 w19 L21 S22 => ya 10 2 z (sj R1 ▸ yy ⟨I20, rfl, L21, S22⟩)))))
 rintro _ w24 ⟨I15, rfl, L16, S25⟩
 refine yb (y6 D (fun G D => ?_) (fun G D => ?_))
 exact yg nL2 (yaf 0 6 (.slice none 0 0) (ya 1 1 z (yb (yp (yh (sj D ▸ yaz ⟨I15, none, 0, rfl, le, S25, SlAt.nil⟩))))))
 refine W.skip (ye (yg nL12 (ya 0 4 z ?_)))
 obtain ⟨x26, D, Hx26, _, ⟨w_x26, rfl, h_x26⟩, Zx26⟩ := sx I15 h_p0 D
 refine y0 107 2 Hx26 z (yf 5 1 [1] z (yar Zx26 1 S25.rm z (ya 7 1 z (bsk D fun r32 Xr27 D => yae (r18_without_ok h_x26.In S25 Xr27) ?_))))
 rintro _ w28 ⟨I29, a_r32, c_r32, rfl, L30, S31, h_r32⟩
 refine cv (bsk D fun r38 Xr33 D => yae (r18_turned_ok (up h_p0) h_r32 S31 Xr33) ?_)
 rintro _ w34 ⟨I35, a_r38, c_r38, rfl, L36, S37, h_r38⟩
 exact cv (ya 10 2 z (yb (yp (sj D ▸ yaz ⟨I35, a_r38, c_r38, rfl, le, S37, h_r38⟩))))
noncomputable def r18_Drop (p0 : List qJ) (p1 : By8) : Option ((List qJ) × Int) := (r18_Check p0).bind (fun r6 => (bif (r6 != 0) then some (([] : List qJ), r6) else (r18_At p0 p1).bind (fun r12 => (bif (decide (r12 < 0)) then some (([] : List qJ), 4) else (bif (sEq p1 (⟨#[114, 111, 111, 116]⟩ : By8)) then some (([] : List qJ), 34) else (forE (fun (i17 : Nat) (s16 : List qJ) => (idx p0 (i17 : Int)).bind (fun x26 => ((bif (!sEq x26.Name p1) then (idx p0 (i17 : Int)).bind (fun x33 => (idx p0 (i17 : Int)).bind (fun x34 => (r18_without x34.In p1).bind (fun r40 => (app 40 s16 ([{ x33 with In := r40 }] : List qJ)).bind (fun x50 => some x50)))) else some s16)).bind (fun (j27 : List qJ) => some j27))) p0.length 0 ([] : List qJ)).bind (fun s16 => some (s16, 0)))))))
theorem r18_Drop_ok {p0 : List qJ} {p1 : By8} {a_p0 : Option Addr} {c_p0 : Nat} (h_p0 : RSl 2 R_qJ I a_p0 c_p0 p0) (hS : St E w I Os) {r : (List qJ) × Int} (D : r18_Drop p0 p1 = some r) :
    Calls P 83 #[(Sl a_p0 p0 c_p0), (.string p1)] w (fun e w' => ∃ (I' : Mem) (ra0 : Option Addr) (rc0 : Nat), e = .returned (.tuple #[(Sl ra0 r.1 rc0), (Iv r.2)]) ∧ I.Le I' ∧ St E w' I' Os ∧ RSl 2 R_qJ I' ra0 rc0 r.1) := by
 refine calls_W (fn := Tryz.f83) rfl rfl rfl ?_
 unfold r18_Drop at D
 refine yg nL2 (yaf 0 4 (.slice none 0 0) (ya 1 1 z (yac nL3 (ya 0 1 z (bsk D fun r6 Xr1 D => WO.c1 (r18_Check_ok h_p0 hS Xr1) z fun I3 w2 L4 S5 => ya 2 1 z (yb (W.seq (yg nL2 (ya 0 2 z (yb (y6 D (fun G D => ?_) (fun G D => ?_))))))))))))
 exact yg nL3 (ya 0 1 z (yaf 1 4 (.slice none 0 0) (ya 2 1 z (yb (yp (yh (sj D ▸ yaz ⟨I3, none, 0, rfl, L4, S5, SlAt.nil⟩)))))))
 refine W.skip (ye (W.seq (yg nL4 (ya 0 2 z (bsk D fun r12 Xr7 D => WO.c1 (r18_At_ok (RSl.mono h_p0 L4) S5 Xr7) z fun I9 w8 L10 S11 => ya 3 1 z (yb (y6 D (fun G D => ?_) (fun G D => ?_))))))))
 exact yg nL2 (yaf 0 4 (.slice none 0 0) (ya 1 1 z (yb (yp (yh (sj D ▸ yaz ⟨I9, none, 0, rfl, le, S11, SlAt.nil⟩))))))
 refine W.skip (ye (W.seq (yg nL2 (ya 0 2 z (yb (y6 D (fun G D => ?_) (fun G D => ?_)))))))
 exact yg nL2 (yaf 0 4 (.slice none 0 0) (ya 1 1 z (yb (yp (yh (sj D ▸ yaz ⟨I9, none, 0, rfl, le, S11, SlAt.nil⟩))))))
 refine W.skip (ye (yg [0] (yaf 0 7 (.slice none 0 0) (yb (W.seq (yg [0] (ya 0 1 z (yb (yn (bsk D fun s16 hloop18 D => have hlt24 := ((RSl.mono h_p0 (L4.trans L10))).len_lt; W.wk (ya0 (m := p0.length) hloop18 (fun (i17 : Nat) (s16 : List qJ) fr w => ∃ I14 a_s16 c_s16 C_s16, fr = [(0, Sl a_p0 p0 c_p0), (1, .string p1), (7, Sl a_s16 s16 c_s16), (8, Nv i17)] ∧ I9.Le I14 ∧ St E w I14 ((C_s16) :: Os) ∧ OwnSl 107 2 R_qJ I14 C_s16 a_s16 c_s16 s16) ⟨I9, none, 0, Mem.no, rfl, lr, S11.no, OwnSl.nil⟩ ?_ ?_)))))))))))
 rintro i17 s16 _ w21 hi25 ⟨I14, a_s16, c_s16, C_s16, rfl, L15, S22, h_s16⟩ x23 R1
 refine W.seq (yg nL4 (ya 0 4 z (yb (yat fun _ => W.skip (ye (W.seq (yn (yg nL7 (ya 0 2 z ?_)))))))))
 obtain ⟨x26, R1, Hx26, _, ⟨w_x26, rfl, h_x26⟩, Zx26⟩ := sx I14 h_p0 R1
 refine y0 107 2 Hx26 z (yf 3 1 [0] z (yan Zx26 S22.rm z (ya 5 2 z (yb (bsk R1 fun j27 R2 R1 => yay (J := (fun fr w => ∃ I29 a_j27 c_j27 C_j27, fr = [(0, Sl a_p0 p0 c_p0), (1, .string p1), (7, Sl a_j27 j27 c_j27), (8, Nv i17)] ∧ I14.Le I29 ∧ St E w I29 ((C_j27) :: Os) ∧ OwnSl 107 2 R_qJ I29 C_j27 a_j27 c_j27 j27)) ?_ ?_)))))
 refine y6 R2 (fun G R2 => ?_) (fun G R2 => ?_)
 have S31 := S22.drew
 refine ya1 nL17 13 (yx S31.im) ?_
 generalize World.drew _ = w32 at *
 refine ya 0 3 z ?_
 obtain ⟨x33, R2, Hx33, _, ⟨w_x33, rfl, h_x33⟩, Zx33⟩ := sx I14 h_p0 R2
 refine y0 107 2 Hx33 z (yf 4 1 [0] z (yan Zx33 (rd_i S31.im) z (ya 6 2 z ?_)))
 obtain ⟨x34, R2, Hx34, _, ⟨w_x34, rfl, h_x34⟩, Zx34⟩ := sx I14 h_p0 R2
 refine y0 107 2 Hx34 z (yf 9 1 [1] z (yar Zx34 1 (rd_i S31.im) z (ya 11 1 z (bsk R2 fun r40 Xr35 R2 => yae (r18_without_ok h_x34.In S31 Xr35) ?_))))
 rintro _ w36 ⟨I37, a_r40, c_r40, rfl, L38, S39, h_r40⟩
 refine ⟨_, rfl, (yx (S39.im.of_le L38)), ?_⟩
 refine WO.tail z (yaf 13 46 (.agg (cs_qJ ({ x33 with In := r40 }) (⟨⟨a_r40, c_r40⟩⟩ : W_qJ)).toArray) ?_)
 have hk48 : ok_qJ I37 ({ x33 with In := r40 }) (⟨⟨a_r40, c_r40⟩⟩ : W_qJ) := ⟨h_r40⟩
 refine yad (rel := R_qJ) (xs := ([{ x33 with In := r40 }] : List qJ)) S39 z kr z 107 2 [(cs_qJ ({ x33 with In := r40 }) (⟨⟨a_r40, c_r40⟩⟩ : W_qJ))] kr z ((Elr.cons ⟨(⟨⟨a_r40, c_r40⟩⟩ : W_qJ), rfl, hk48⟩ Elr.nil)) tv ?_
 intro a44 C42 w46 S45 ho43
 have S49 := S45.front1
 exact apk R2 fun x50 h0_x50 he_x50 R2 => yau 107 40 (cs_qJ z_qJ zw_qJ) S49 (OwnSl.mono h_s16 L38) ho43.sl (S49.rd m1) h0_x50 he_x50 z fun a51 c52 w53 C54 S55 ho56 => ya 16 1 z (yt (sj R2 ▸ yv ⟨I37, a51, c52, C54, rfl, L38, S55.front1.drop, ho56⟩))
 exact W.skip (sj R2 ▸ yv ⟨I14, a_s16, c_s16, C_s16, rfl, lr, S22, h_s16⟩)
 rintro _ w59 ⟨I29, a_j27, c_j27, C_j27, rfl, L30, S60, h_j27⟩
 exact yl (ye (yai nL3 (ya 0 1 z (yao i17 z (ya 2 1 z (yt (sj R1 ▸ yv ⟨I29, a_j27, c_j27, C_j27, rfl, le, S60, h_j27⟩)))))))
 rintro _ w61 ⟨I14, a_s16, c_s16, C_s16, rfl, L15, S62, h_s16⟩
 refine W.seq (yg nL4 (ya 0 4 z (yb (yas fun _ => W.exit (yo (yq (yu (ye (yg nL3 (ya 0 1 z ?_))))))))))
 obtain ⟨I63, L64, S66, hp65⟩ := yag h_s16 S62
 exact ya 1 2 z (yb (yp (sj D ▸ yaz ⟨I63, a_s16, c_s16, rfl, le, S66, hp65⟩)))
noncomputable def r19_roles (p0 : qC) (p1 : qS) : Option ((List qJ) × Int) := (bif (p1.Kind == 10) then (r18_Create p0.Roles p1.Name).bind (fun (r14, r15) => some (r14, r15)) else (bif (p1.Kind == 12) then (r18_Grant p0.Roles p1.Name p1.Role).bind (fun (r23, r24) => some (r23, r24)) else (bif (p1.Kind == 13) then (r18_Revoke p0.Roles p1.Name p1.Role).bind (fun (r32, r33) => some (r32, r33)) else (forN (fun (i39 : Nat) (_s : Unit) => (idx p0.Tables (i39 : Int)).bind (fun x49 => (bif (sEq x49.Owner p1.Name) then some (.inr (([] : List qJ), (34 : Int))) else some (.inl ())))) p0.Tables.length 0 ()).bind (fun (t : Unit ⊕ (((List qJ) × Int))) => match t with | .inl _ => (r18_Drop p0.Roles p1.Name).bind (fun (r64, r65) => some (r64, r65)) | .inr (s51, s52) => some (s51, s52)))))
theorem r19_roles_ok {p0 : qC} {p1 : qS} {w_p0 : W_qC} {w_p1 : W_qS} (h_p0 : ok_qC I p0 w_p0) (h_p1 : ok_qS I p1 w_p1) (hS : St E w I Os) {r : (List qJ) × Int} (D : r19_roles p0 p1 = some r) :
    Calls P 54 #[(vC p0 w_p0), (vS p1 w_p1)] w (fun e w' => ∃ (I' : Mem) (ra0 : Option Addr) (rc0 : Nat), e = .returned (.tuple #[(Sl ra0 r.1 rc0), (Iv r.2)]) ∧ I.Le I' ∧ St E w' I' Os ∧ RSl 2 R_qJ I' ra0 rc0 r.1) := by
 refine calls_W (fn := Tryz.f54) rfl rfl rfl ?_
 unfold r19_roles at D
 refine yg nL4 (yab hS (cs_qC p0 w_p0) 29 z fun b1 w4 S3 => yab S3 (cs_qS p1 w_p1) 46 z fun b5 w8 S7 => yaf 2 4 (.slice none 0 0) (ya 3 1 z (yb (W.seq (yg nL2 (yf 0 1 [0] z (yj (S7.rf m0) z (yb (yn (yg nL2 (ya 0 2 z (yb (y6 D (fun G D => ?_) (fun G D => ?_))))))))))))))
 refine yg nL9 (yf 0 1 [2] z (yj (S7.rf m1) z (yf 2 1 [2] z (yj (S7.rf m0) z ?_))))
 obtain ⟨⟨r14, r15⟩, Xr9, D⟩ := bsm D
 refine yae (r18_Create_ok h_p0.Roles S7 Xr9) ?_
 rintro _ w10 ⟨I11, a_r14, c_r14, rfl, L12, S13, h_r14⟩
 exact cv (ya 5 4 z (yb (yp (yk (yh (sj D ▸ yaz ⟨I11, a_r14, c_r14, rfl, L12, S13.d2, h_r14⟩))))))
 refine yg nL2 (ya 0 2 z (yb (y6 D (fun G D => ?_) (fun G D => ?_))))
 refine yg nL11 (yf 0 1 [2] z (yj (S7.rf m1) z (yf 2 1 [2] z (yj (S7.rf m0) z (yf 4 1 [3] z (yj (S7.rf m0) z ?_))))))
 obtain ⟨⟨r23, r24⟩, Xr18, D⟩ := bsm D
 refine yae (r18_Grant_ok h_p0.Roles S7 Xr18) ?_
 rintro _ w19 ⟨I20, a_r23, c_r23, rfl, L21, S22, h_r23⟩
 exact cv (ya 7 4 z (yb (yp (yk (yh (sj D ▸ yaz ⟨I20, a_r23, c_r23, rfl, L21, S22.d2, h_r23⟩))))))
 refine yg nL2 (ya 0 2 z (yb (y6 D (fun G D => ?_) (fun G D => ?_))))
 refine yg nL11 (yf 0 1 [2] z (yj (S7.rf m1) z (yf 2 1 [2] z (yj (S7.rf m0) z (yf 4 1 [3] z (yj (S7.rf m0) z ?_))))))
 obtain ⟨⟨r32, r33⟩, Xr27, D⟩ := bsm D
 refine yae (r18_Revoke_ok h_p0.Roles S7 Xr27) ?_
 rintro _ w28 ⟨I29, a_r32, c_r32, rfl, L30, S31, h_r32⟩
 exact cv (ya 7 4 z (yb (yp (yk (yh (sj D ▸ yaz ⟨I29, a_r32, c_r32, rfl, L30, S31.d2, h_r32⟩))))))
 refine W.skip (yl (ye (W.seq (yg [0] (ya 0 1 z (yb (yn (bsk D fun t36 hloop40 D => have hlt45 := (h_p0.Tables).len_lt; W.wk (yap (m := p0.Tables.length) hloop40 (fun (i39 : Nat) (_s : Unit) => JI E I [(2, Pt b1 0), (3, Pt b5 0), (6, Nv i39)] (bC b1 p0 w_p0 :: (bS b5 p1 w_p1) :: Os)) ⟨I, rfl, lr, S7.front1⟩ ?_ ?_)))))))))
 rintro i39 _ _ w42 hi46 ⟨I37, rfl, L38, S43⟩ x44 R1 hext36
 refine W.seq (yg nL5 (yf 0 2 [1] z (yj (S43.rf m0) z (ya 3 2 z (yb (yat fun _ => W.skip (ye (W.seq (yn (W.seq (have S47 := S43.drew; ya1 nL9 8 (ym (S47.rd m0) (ym (S47.rd m1) (yx S47.im))) ?_)))))))))))
 generalize World.drew _ = w48 at *
 refine yf 0 1 [1] z (yj (rd_c m0 (S47.rd m0)) z (ya 2 1 z ?_))
 obtain ⟨x49, R1, Hx49, _, ⟨w_x49, rfl, h_x49⟩, Zx49⟩ := sx I37 h_p0.Tables R1
 refine y0 78 6 Hx49 z (yf 4 1 [1] z (yar Zx49 1 (rd_i S47.im) z (yf 6 1 [2] z (yj (rd_c m1 (S47.rd m1)) z (WO.tail z (ya 8 1 z (yb (y6 R1 (fun G R1 => ?_) (fun G R1 => ?_)))))))))
 refine yg nL2 (yaf 0 4 (.slice none 0 0) (ya 1 1 z (yb (yp (yk (yh (yr ?_)))))))
 obtain rfl := hext36 _ (sj R1).symm
 exact yk (yh (sj D ▸ yaz ⟨I37, none, 0, rfl, L38, S47.d2, SlAt.nil⟩))
 exact W.skip (yl (ye (yai nL3 (ya 0 1 z (yao i39 z (ya 2 1 z (yt (yv ⟨(), (sj R1).symm, I37, rfl, L38, S47⟩))))))))
 rintro _ _ w57 ⟨I37, rfl, L38, S58⟩ he
 cases he
 refine W.seq (yg nL5 (yf 0 2 [1] z (yj (S58.rf m0) z (ya 3 2 z (yb (yas fun _ => W.exit (yo (yq (yu (ye (yg nL9 (yf 0 1 [2] z (yj (S58.rf m0) z (yf 2 1 [2] z (yj (S58.rf m1) z ?_)))))))))))))))
 obtain ⟨⟨r64, r65⟩, Xr59, D⟩ := bsm D
 refine yae (r18_Drop_ok (RSl.mono h_p0.Roles L38) S58 Xr59) ?_
 rintro _ w60 ⟨I61, a_r64, c_r64, rfl, L62, S63, h_r64⟩
 exact cv (ya 5 4 z (yb (yp (sj D ▸ yaz ⟨I61, a_r64, c_r64, rfl, le, S63.d2, h_r64⟩))))
def r17_At (p0 : qC) (p1 : By8) : Option Int := (forN (fun (i8 : Nat) (_s : Unit) => (idx p0.Tables (i8 : Int)).bind (fun x15 => (bif (sEq x15.Name p1) then some (.inr (i8 : Int)) else some (.inl ())))) p0.Tables.length 0 ()).bind (fun (t : Unit ⊕ (Int)) => match t with | .inl _ => some (-1) | .inr s17 => some s17)
theorem r17_At_ok {p0 : qC} {p1 : By8} {w_p0 : W_qC} (h_p0 : ok_qC I p0 w_p0) (hS : St E w I Os) {r : Int} (D : r17_At p0 p1 = some r) :
    Calls P 37 #[(vC p0 w_p0), (.string p1)] w (RT E I Os (Iv r)) := by
 refine calls_W (fn := Tryz.f37) rfl rfl rfl ?_
 unfold r17_At at D
 refine yg nL2 (yab hS (cs_qC p0 w_p0) 29 z fun b1 w4 S3 => ya 1 1 z (yb (W.seq (yg [0] (ya 0 1 z (yb (yn (bsk D fun t5 hloop9 D => have hlt13 := (h_p0.Tables).len_lt; W.wk (yap (m := p0.Tables.length) hloop9 (fun (i8 : Nat) (_s : Unit) => JI E I [(1, .string p1), (2, Pt b1 0), (5, Nv i8)] (bC b1 p0 w_p0 :: Os)) ⟨I, rfl, lr, S3⟩ ?_ ?_)))))))))
 rintro i8 _ _ w10 hi14 ⟨I6, rfl, L7, S11⟩ x12 R1 hext5
 refine W.seq (yg nL5 (yf 0 2 [1] z (yj (S11.rf m0) z (ya 3 2 z (yb (yat fun _ => W.skip (ye (W.seq (yn (yg nL8 (yf 0 1 [1] z (yj (S11.rf m0) z (ya 2 1 z ?_)))))))))))))
 obtain ⟨x15, R1, Hx15, _, ⟨w_x15, rfl, h_x15⟩, Zx15⟩ := sx I6 h_p0.Tables R1
 refine y0 78 6 Hx15 z (yf 4 1 [0] z (yan Zx15 S11.rm z (ya 6 2 z (yb (y6 R1 (fun G R1 => ?_) (fun G R1 => ?_))))))
 refine yg nL2 (ya 0 2 z (yb (yp (yk (yh (yr ?_))))))
 obtain rfl := hext5 _ (sj R1).symm
 exact yk (yh (sj D ▸ yw ⟨I6, rfl, L7, S11.drop⟩))
 exact W.skip (yl (ye (yai nL3 (ya 0 1 z (yao i8 z (ya 2 1 z (yt (yv ⟨(), (sj R1).symm, I6, rfl, L7, S11⟩))))))))
 rintro _ _ w20 ⟨I6, rfl, L7, S21⟩ he
 cases he
 exact W.seq (yg nL5 (yf 0 2 [1] z (yj (S21.rf m0) z (ya 3 2 z (yb (yas fun _ => W.exit (yo (yq (yu (ye (yg [0] (ya 0 1 z (yb (yp (sj D ▸ yw ⟨I6, rfl, L7, S21.drop⟩)))))))))))))))
noncomputable def r19_Owns (p0 : qC) (p1 : By8) (p2 : By8) : Option Bool := (r17_At p0 p2).bind (fun r10 => ((bif (decide (r10 ≥ 0)) then (idx p0.Tables r10).bind (fun x17 => (r18_Is p0.Roles p1 x17.Owner).bind (fun r23 => some r23)) else some false)).bind (fun (j13 : Bool) => some j13))
theorem r19_Owns_ok {p0 : qC} {p1 : By8} {p2 : By8} {w_p0 : W_qC} (h_p0 : ok_qC I p0 w_p0) (hS : St E w I Os) {r : Bool} (D : r19_Owns p0 p1 p2 = some r) :
    Calls P 85 #[(vC p0 w_p0), (.string p1), (.string p2)] w (RT E I Os (.bool r)) := by
 refine calls_W (fn := Tryz.f85) rfl rfl rfl ?_
 unfold r19_Owns at D
 refine yg nL2 (yab hS (cs_qC p0 w_p0) 29 z fun b1 w4 S3 => ya 1 1 z (yac nL4 (y7 ((cs_qC p0 w_p0)) (S3.rf m0) z (ya 1 1 z (bsk D fun r10 Xr5 D => WO.c1 (r17_At_ok h_p0 S3 Xr5) z fun I7 w6 L8 S9 => ya 3 1 z (yb (W.seq (have S11 := S9.drew; ya1 nL15 14 (ym (S11.rd m0) (yx S11.im)) ?_))))))))
 generalize World.drew _ = w12 at *
 refine ya 0 3 z (bsk D fun j13 R1 D => yam (l1 := [3, 4, 5, 6, 7, 8, 9, 10, 11, 12, 13]) (J := JI E I7 [(24, .bool j13)] (bC b1 p0 w_p0 :: Os)) ?_ ?_)
 refine yal R1 (fun G R1 => ?_) (fun G R1 => ?_)
 refine yz 13 G (yf 3 1 [2] z (yj (rd_c m0 (S11.rd m0)) z (yf 5 2 [1] z (yj (rd_c m0 (S11.rd m0)) z (ya 8 1 z ?_)))))
 obtain ⟨x17, R1, Hx17, _, ⟨w_x17, rfl, h_x17⟩, Zx17⟩ := sx I7 h_p0.Tables R1
 refine y0 78 6 Hx17 z (yf 10 1 [1] z (yar Zx17 1 (rd_i S11.im) z (bsk R1 fun r23 Xr18 R1 => yae (r18_Is_ok (RSl.mono h_p0.Roles L8) S11 Xr18) ?_)))
 rintro _ w19 ⟨I20, rfl, L21, S22⟩
 refine ⟨_, rfl, (ym (S22.rd m0) (yx (S22.im.of_le L21))), ?_⟩
 exact ya 13 1 z (sj R1 ▸ yy ⟨I20, rfl, L21, S22⟩)
 refine yz 13 G ?_
 iterate 10 refine WO.ps ?_
 exact ya 13 1 z (sj R1 ▸ yy ⟨I7, rfl, lr, S11⟩)
 rintro _ w24 ⟨I15, rfl, L16, S25⟩
 exact WO.tail z (ya 14 1 z (yb (yp (sj D ▸ yw ⟨I15, rfl, le, S25.drop⟩))))
noncomputable def r19_has (p0 : qC) (p1 : List qG) (p2 : By8) (p3 : Int) (p4 : By8) (p5 : Bool) : Option Bool := (forN (fun (i8 : Nat) (_s : Unit) => (idx p1 (i8 : Int)).bind (fun x17 => ((bif (x17.Priv == p3) then (idx p1 (i8 : Int)).bind (fun x22 => some (sEq x22.Table p4)) else some false)).bind (fun (j18 : Bool) => ((bif j18 then (idx p1 (i8 : Int)).bind (fun x29 => some (x29.Option || (!p5))) else some false)).bind (fun (j25 : Bool) => ((bif j25 then (idx p1 (i8 : Int)).bind (fun x38 => (r18_Is p0.Roles p2 x38.To).bind (fun r44 => some r44)) else some false)).bind (fun (j34 : Bool) => (bif j34 then some (.inr true) else some (.inl ()))))))) p1.length 0 ()).bind (fun (t : Unit ⊕ (Bool)) => match t with | .inl _ => some false | .inr s48 => some s48)
theorem r19_has_ok {p0 : qC} {p1 : List qG} {p2 : By8} {p3 : Int} {p4 : By8} {p5 : Bool} {w_p0 : W_qC} {a_p1 : Option Addr} {c_p1 : Nat} (h_p0 : ok_qC I p0 w_p0) (h_p1 : RSl 5 R_qG I a_p1 c_p1 p1) (hS : St E w I Os) {r : Bool} (D : r19_has p0 p1 p2 p3 p4 p5 = some r) :
    Calls P 86 #[(vC p0 w_p0), (Sl a_p1 p1 c_p1), (.string p2), (Iv p3), (.string p4), (.bool p5)] w (RT E I Os (.bool r)) := by
 refine calls_W (fn := Tryz.f86) rfl rfl rfl ?_
 unfold r19_has at D
 refine yg nL2 (yab hS (cs_qC p0 w_p0) 29 z fun b1 w4 S3 => ya 1 1 z (yb (W.seq (yg [0] (ya 0 1 z (yb (yn (bsk D fun t5 hloop9 D => have hlt13 := (h_p1).len_lt; W.wk (yap (m := p1.length) hloop9 (fun (i8 : Nat) (_s : Unit) => JI E I [(1, Sl a_p1 p1 c_p1), (2, .string p2), (3, Iv p3), (4, .string p4), (5, .bool p5), (6, Pt b1 0), (13, Nv i8)] (bC b1 p0 w_p0 :: Os)) ⟨I, rfl, lr, S3⟩ ?_ ?_)))))))))
 rintro i8 _ _ w10 hi14 ⟨I6, rfl, L7, S11⟩ x12 R1 hext5
 refine W.seq (yg nL4 (ya 0 4 z (yb (yat fun _ => W.skip (ye (W.seq (yn (W.seq (have S15 := S11.drew; ya1 nL38 38 (ym (S15.rd m0) (yx S15.im)) ?_)))))))))
 generalize World.drew _ = w16 at *
 refine ya 0 2 z ?_
 obtain ⟨x17, R1, Hx17, _, rfl, Zx17⟩ := sx I6 h_p1 R1
 refine y0 92 5 Hx17 z (yf 3 1 [3] z (yar Zx17 3 (rd_i S15.im) z (ya 5 3 z (bsk R1 fun j18 R2 R1 => yam (l1 := [8, 9, 10, 11, 12, 13, 14, 15]) (J := JI E I6 [(1, Sl a_p1 p1 c_p1), (2, .string p2), (3, Iv p3), (4, .string p4), (5, .bool p5), (6, Pt b1 0), (13, Nv i8), (35, .bool j18)] (bC b1 p0 w_p0 :: Os)) ?_ ?_))))
 refine yal R2 (fun G R2 => ?_) (fun G R2 => ?_)
 refine yz 27 G (ya 8 2 z ?_)
 obtain ⟨x22, R2, Hx22, _, rfl, Zx22⟩ := sx I6 h_p1 R2
 exact y0 92 5 Hx22 z (yf 11 1 [2] z (yar Zx22 2 (rd_i S15.im) z (ya 13 3 z (sj R2 ▸ yy ⟨I6, rfl, lr, S15⟩))))
 refine yz 27 G ?_
 iterate 7 refine WO.ps ?_
 exact ya 15 1 z (sj R2 ▸ yy ⟨I6, rfl, lr, S15⟩)
 rintro _ w23 ⟨I20, rfl, L21, S24⟩
 refine ya 16 1 z (bsk R1 fun j25 R2 R1 => yam (l1 := [17, 18, 19, 20, 21, 22, 23, 24, 25, 26]) (J := JI E I20 [(1, Sl a_p1 p1 c_p1), (2, .string p2), (3, Iv p3), (4, .string p4), (5, .bool p5), (6, Pt b1 0), (13, Nv i8), (46, .bool j25)] (bC b1 p0 w_p0 :: Os)) ?_ ?_)
 refine yal R2 (fun G R2 => ?_) (fun G R2 => ?_)
 refine yz 36 G (ya 17 2 z ?_)
 obtain ⟨x29, R2, Hx29, _, rfl, Zx29⟩ := sx I6 h_p1 R2
 exact y0 92 5 Hx29 z (yf 20 1 [4] z (yar Zx29 4 (rd_i (S24.im.of_le L21)) z (ya 22 1 z (yav [23, 24] 25 42 45 (.refl (x29.Option || (!p5))) (fun _ => ya 23 3 z yak) (ya 26 1 z (sj R2 ▸ yy ⟨I20, rfl, lr, S24⟩))))))
 refine yz 36 G ?_
 iterate 9 refine WO.ps ?_
 exact ya 26 1 z (sj R2 ▸ yy ⟨I20, rfl, lr, S24⟩)
 rintro _ w32 ⟨I27, rfl, L28, S33⟩
 refine ya 27 1 z (bsk R1 fun j34 R2 R1 => yam (l1 := [28, 29, 30, 31, 32, 33, 34, 35, 36, 37]) (J := JI E I27 [(1, Sl a_p1 p1 c_p1), (2, .string p2), (3, Iv p3), (4, .string p4), (5, .bool p5), (6, Pt b1 0), (13, Nv i8), (57, .bool j34)] (bC b1 p0 w_p0 :: Os)) ?_ ?_)
 refine yal R2 (fun G R2 => ?_) (fun G R2 => ?_)
 refine yz 47 G (yf 28 1 [2] z (yj (rd_c m0 (S33.rd m0)) z (ya 30 3 z ?_)))
 obtain ⟨x38, R2, Hx38, _, rfl, Zx38⟩ := sx I6 h_p1 R2
 refine y0 92 5 Hx38 z (yf 34 1 [0] z (yan Zx38 (rd_i (S33.im.of_le le)) z (bsk R2 fun r44 Xr39 R2 => yae (r18_Is_ok (up h_p0.Roles) S33 Xr39) ?_)))
 rintro _ w40 ⟨I41, rfl, L42, S43⟩
 refine ⟨_, rfl, (ym (S43.rd m0) (yx (S43.im.of_le le))), ?_⟩
 exact ya 37 1 z (sj R2 ▸ yy ⟨I41, rfl, L42, S43⟩)
 refine yz 47 G ?_
 iterate 9 refine WO.ps ?_
 exact ya 37 1 z (sj R2 ▸ yy ⟨I27, rfl, lr, S33⟩)
 rintro _ w45 ⟨I36, rfl, L37, S46⟩
 refine yb (y6 R1 (fun G R1 => ?_) (fun G R1 => ?_))
 refine yg [0] (ya 0 1 z (yb (yp (yk (yh (yr ?_))))))
 obtain rfl := hext5 _ (sj R1).symm
 exact yk (yh (sj D ▸ yw ⟨I36, rfl, le, S46.drop⟩))
 exact W.skip (yl (ye (yai nL3 (ya 0 1 z (yao i8 z (ya 2 1 z (yt (yv ⟨(), (sj R1).symm, I36, rfl, le, S46⟩))))))))
 rintro _ _ w51 ⟨I6, rfl, L7, S52⟩ he
 cases he
 exact W.seq (yg nL4 (ya 0 4 z (yb (yas fun _ => W.exit (yo (yq (yu (ye (yg [0] (ya 0 1 z (yb (yp (sj D ▸ yw ⟨I6, rfl, L7, S52.drop⟩)))))))))))))
noncomputable def r19_Held (p0 : qC) : Option (List qG) := (loopO (fun (s : (List qG) × Int) => match s with | (s8, s9) => (bif (decide (s9 ≤ (p0.Grants.length : Int))) then (forE (fun (i18 : Nat) (s17 : List qG) => ((idx p0.Grants (i18 : Int)).bind (fun x32 => (r17_At p0 x32.Table).bind (fun r44 => ((bif (decide (r44 < 0)) then some true else (r18_At p0.Roles x32.To).bind (fun r56 => some (decide (r56 < 0))))).bind (fun (j45 : Bool) => (bif j45 then some s17 else (r19_Owns p0 x32.By x32.Table).bind (fun r69 => ((bif r69 then some true else (r19_has p0 s8 x32.By x32.Priv x32.Table true).bind (fun r79 => some r79))).bind (fun (j70 : Bool) => ((bif j70 then (app 64 s17 ([x32] : List qG)).bind (fun x94 => some x94) else some s17)).bind (fun (j82 : List qG) => some j82)))))))).bind (fun (j28 : List qG) => some j28)) p0.Grants.length 0 ([] : List qG)).bind (fun s17 => some (.inl (s17, (w64 (s9 + 1))))) else some (.inr s8))) (([] : List qG), 0)).bind (fun (s120 : List qG) => some s120)
theorem r19_Held_ok {p0 : qC} {w_p0 : W_qC} (h_p0 : ok_qC I p0 w_p0) (hS : St E w I Os) {r : (List qG)} (D : r19_Held p0 = some r) :
    Calls P 57 #[(vC p0 w_p0)] w (fun e w' => ∃ (I' : Mem) (ra0 : Option Addr) (rc0 : Nat), e = .returned (Sl ra0 r rc0) ∧ I.Le I' ∧ St E w' I' Os ∧ RSl 5 R_qG I' ra0 rc0 r) := by
 refine calls_W (fn := Tryz.f57) rfl rfl rfl ?_
 unfold r19_Held at D
 refine yg nL2 (yab hS (cs_qC p0 w_p0) 29 z fun b1 w4 S3 => yaf 1 2 (.slice none 0 0) (yac [0] (yaf 0 3 (.slice none 0 0) (yb (W.seq (yg [0] (ya 0 1 z (yb (yn (bsk D fun t5 hloop10 D => W.wk (ya7 hloop10 (fun (s : (List qG) × Int) fr w => match s with | (s8, s9) => ∃ I6 a_s8 c_s8, fr = [(1, Pt b1 0), (3, Sl a_s8 s8 c_s8), (4, Iv s9)] ∧ I.Le I6 ∧ St E w I6 (bC b1 p0 w_p0 :: Os) ∧ RSl 5 R_qG I6 a_s8 c_s8 s8) ⟨I, none, 0, rfl, lr, S3, SlAt.nil⟩ ?_)))))))))))
 rintro ⟨s8, s9⟩ _ w11 ⟨I6, a_s8, c_s8, rfl, L7, S12, h_s8⟩ x13 R1 hext5
 refine W.seq (yg nL5 (yf 0 2 [3] z (yj (S12.rf m0) z (ya 3 2 z (yb (y6 R1 (fun G R1 => ?_) (fun G R1 => ?_)))))))
 refine W.skip (ye (W.seq (yn (yg [0] (yaf 0 5 (.slice none 0 0) (yb (W.seq (yg [0] (ya 0 1 z (yb (yn (bsk R1 fun s17 hloop19 R1 => have hlt26 := ((RSl.mono h_p0.Grants L7)).len_lt; W.wk (ya0 (m := p0.Grants.length) hloop19 (fun (i18 : Nat) (s17 : List qG) fr w => ∃ I15 a_s17 c_s17 C_s17, fr = [(1, Pt b1 0), (3, Sl a_s8 s8 c_s8), (4, Iv s9), (5, Sl a_s17 s17 c_s17), (6, Nv i18)] ∧ I6.Le I15 ∧ St E w I15 (bC b1 p0 w_p0 :: (C_s17) :: Os) ∧ OwnSl 92 5 R_qG I15 C_s17 a_s17 c_s17 s17) ⟨I6, none, 0, Mem.no, rfl, lr, S12.no.front1, OwnSl.nil⟩ ?_ ?_)))))))))))))
 rintro i18 s17 _ w23 hi27 ⟨I15, a_s17, c_s17, C_s17, rfl, L16, S24, h_s17⟩ x25 R2
 refine W.seq (yg nL5 (yf 0 2 [3] z (yj (S24.rf m0) z (ya 3 2 z (yb (yat fun _ => W.skip (ye (W.seq (bsk R2 fun j28 R3 R2 => yay (J := (fun fr w => ∃ I30 a_j28 c_j28 C_j28, fr = [(1, Pt b1 0), (3, Sl a_s8 s8 c_s8), (4, Iv s9), (5, Sl a_j28 j28 c_j28), (6, Nv i18)] ∧ I15.Le I30 ∧ St E w I30 (bC b1 p0 w_p0 :: (C_j28) :: Os) ∧ OwnSl 92 5 R_qG I30 C_j28 a_j28 c_j28 j28)) ?_ ?_)))))))))
 refine yn (yg nL7 (yf 0 1 [3] z (yj (S24.rf m0) z (ya 2 1 z ?_))))
 obtain ⟨x32, R3, Hx32, _, rfl, Zx32⟩ := sx I15 h_p0.Grants R3
 refine y0 92 5 Hx32 z (yaq ((cs_qG x32)) Zx32 0 S24.rm z (yab S24 (cs_qG z_qG) 92 z fun b33 w36 S35 => yaa S35 0 (cs_qG x32) fun w38 S37 => yb (W.seq (yg nL13 (y7 ((cs_qC p0 w_p0)) (S37.rf m1) z (yf 1 1 [2] z (yj (S37.rf m0) z (bsk R3 fun r44 Xr39 R3 => WO.c1 (r17_At_ok (h_p0.mono le) S37 Xr39) z fun I41 w40 L42 S43 => ya 4 2 z (bsk R3 fun j45 R4 R3 => yam (l1 := [6, 7, 8, 9, 10, 11, 12]) (J := JI E I41 [(1, Pt b1 0), (3, Sl a_s8 s8 c_s8), (4, Iv s9), (5, Sl a_s17 s17 c_s17), (6, Nv i18), (7, Pt b33 0), (39, .bool j45)] (bC b1 p0 w_p0 :: (C_s17) :: (bG b33 x32) :: Os)) ?_ ?_)))))))))
 refine yal R4 (fun G R4 => ?_) (fun G R4 => ?_)
 refine yz 32 G ?_
 iterate 6 refine WO.ps ?_
 exact ya 12 1 z (sj R4 ▸ yy ⟨I41, rfl, lr, S43.front2.front2⟩)
 exact yz 32 G (yf 6 1 [2] z (yj (S43.rf m1) z (yf 8 1 [0] z (yj (S43.rf m0) z (bsk R4 fun r56 Xr51 R4 => WO.c1 (r18_At_ok (up h_p0.Roles) S43 Xr51) z fun I53 w52 L54 S55 => ya 11 2 z (sj R4 ▸ yy ⟨I53, rfl, L54, S55.front2.front2⟩))))))
 rintro _ w59 ⟨I47, rfl, L48, S60⟩
 refine yb (y6 R3 (fun G R3 => ?_) (fun G R3 => ?_))
 exact W.exit (yo (yu (sj R3 ▸ yv ⟨I47, a_s17, c_s17, C_s17, rfl, le, S60.front2.drop, (OwnSl.mono h_s17 le)⟩)))
 refine W.skip (ye (yg nL17 (y7 ((cs_qC p0 w_p0)) (S60.rf m0) z (yf 1 1 [1] z (yj (S60.rf m2) z (yf 3 1 [2] z (yj (S60.rf m2) z (bsk R3 fun r69 Xr63 R3 => WO.c1 (r19_Owns_ok (h_p0.mono le) S60 Xr63) z fun I66 w65 L67 S68 => ya 6 1 z (bsk R3 fun j70 R4 R3 => yam (l1 := [7, 8, 9, 10, 11, 12, 13, 14, 15, 16]) (J := JI E I66 [(1, Pt b1 0), (3, Sl a_s8 s8 c_s8), (4, Iv s9), (5, Sl a_s17 s17 c_s17), (6, Nv i18), (7, Pt b33 0), (56, .bool j70)] (bC b1 p0 w_p0 :: (C_s17) :: (bG b33 x32) :: Os)) ?_ ?_)))))))))
 refine yal R4 (fun G R4 => ?_) (fun G R4 => ?_)
 refine yz 46 G ?_
 iterate 9 refine WO.ps ?_
 exact ya 16 1 z (sj R4 ▸ yy ⟨I66, rfl, lr, S68⟩)
 exact yz 46 G (y7 ((cs_qC p0 w_p0)) (S68.rf m0) z (yf 8 2 [1] z (yj (S68.rf m2) z (yf 11 1 [3] z (yj (S68.rf m2) z (yf 13 1 [2] z (yj (S68.rf m2) z (bsk R4 fun r79 Xr74 R4 => WO.c1 (r19_has_ok (h_p0.mono le) (up h_s8) S68 Xr74) z fun I76 w75 L77 S78 => ya 16 1 z (sj R4 ▸ yy ⟨I76, rfl, L77, S78⟩)))))))))
 rintro _ w80 ⟨I72, rfl, L73, S81⟩
 refine yb (bsk R3 fun j82 R4 R3 => yay (J := (fun fr w => ∃ I84 a_j82 c_j82 C_j82, fr = [(1, Pt b1 0), (3, Sl a_s8 s8 c_s8), (4, Iv s9), (5, Sl a_j82 j82 c_j82), (6, Nv i18)] ∧ I72.Le I84 ∧ St E w I84 (bC b1 p0 w_p0 :: (C_j82) :: Os) ∧ OwnSl 92 5 R_qG I84 C_j82 a_j82 c_j82 j82)) ?_ ?_)
 refine y6 R4 (fun G R4 => ?_) (fun G R4 => ?_)
 refine yai nL5 (ya 0 1 z (y7 ((cs_qG x32)) (S81.rf m2) z (yad (rel := R_qG) (xs := ([x32] : List qG)) S81 z kr z 92 5 [(cs_qG x32)] kr z ((Elr.cons z Elr.nil)) tv ?_)))
 intro a89 C87 w91 S90 ho88
 have S93 := S90.front2
 exact apk R4 fun x94 h0_x94 he_x94 R4 => yau 92 64 (cs_qG z_qG) S93 (OwnSl.mono h_s17 le) ho88.sl (S93.rd m1) h0_x94 he_x94 z fun a95 c96 w97 C98 S99 ho100 => ya 4 1 z (yt (sj R4 ▸ yv ⟨I72, a95, c96, C98, rfl, lr, S99.front1.drop.front2.drop.front1, ho100⟩))
 exact W.skip (sj R4 ▸ yv ⟨I72, a_s17, c_s17, C_s17, rfl, lr, S81.front2.drop, (OwnSl.mono h_s17 le)⟩)
 rintro _ w108 ⟨I84, a_j82, c_j82, C_j82, rfl, L85, S109, h_j82⟩
 exact yl (sj R3 ▸ yv ⟨I84, a_j82, c_j82, C_j82, rfl, le, S109, h_j82⟩)
 rintro _ w110 ⟨I30, a_j28, c_j28, C_j28, rfl, L31, S111, h_j28⟩
 exact ye (yai nL3 (ya 0 1 z (yao i18 z (ya 2 1 z (yt (sj R2 ▸ yv ⟨I30, a_j28, c_j28, C_j28, rfl, le, S111, h_j28⟩))))))
 rintro _ w112 ⟨I15, a_s17, c_s17, C_s17, rfl, L16, S113, h_s17⟩
 refine W.seq (yg nL5 (yf 0 2 [3] z (yj (S113.rf m0) z (ya 3 2 z (yb (yas fun _ => W.exit (yo (yq (yu (ye (yai nL2 (ya 0 1 z ?_))))))))))))
 obtain ⟨I115, L116, S118, hp117⟩ := yag h_s17 S113.front1
 exact ya 1 1 z (yt (yl (ye (yai nL3 (ya 0 3 z (yt (yv ⟨(s17, (w64 (s9 + 1))), (sj R1).symm, I115, a_s17, c_s17, rfl, le, S118, hp117⟩)))))))
 refine W.exit (yo (yq ?_))
 obtain rfl := hext5 _ (sj R1).symm
 exact yu (ye (yg nL2 (ya 0 2 z (yb (yp (sj D ▸ yw ⟨I6, a_s8, c_s8, rfl, L7, S12.drop, h_s8⟩))))))
noncomputable def r19_Can (p0 : qC) (p1 : By8) (p2 : Int) (p3 : By8) : Option Bool := (r19_Owns p0 p1 p3).bind (fun r12 => ((bif r12 then some true else (r19_Held p0).bind (fun r22 => (r19_has p0 r22 p1 p2 p3 true).bind (fun r28 => some r28)))).bind (fun (j13 : Bool) => some j13))
theorem r19_Can_ok {p0 : qC} {p1 : By8} {p2 : Int} {p3 : By8} {w_p0 : W_qC} (h_p0 : ok_qC I p0 w_p0) (hS : St E w I Os) {r : Bool} (D : r19_Can p0 p1 p2 p3 = some r) :
    Calls P 84 #[(vC p0 w_p0), (.string p1), (Iv p2), (.string p3)] w (RT E I Os (.bool r)) := by
 refine calls_W (fn := Tryz.f84) rfl rfl rfl ?_
 unfold r19_Can at D
 refine yg nL2 (yab hS (cs_qC p0 w_p0) 29 z fun b1 w4 S3 => ya 1 1 z (yb (W.seq (have S5 := S3.drew; ya1 nL14 13 (ym (S5.rd m0) (yx S5.im)) ?_))))
 generalize World.drew _ = w6 at *
 refine y7 ((cs_qC p0 w_p0)) (rd_c m0 (S5.rd m0)) z (ya 1 2 z (bsk D fun r12 Xr7 D => yae (r19_Owns_ok h_p0 S5 Xr7) ?_))
 rintro _ w8 ⟨I9, rfl, L10, S11⟩
 refine ⟨_, rfl, (ym (S11.rd m0) (yx (S11.im.of_le L10))), ?_⟩
 refine ya 4 1 z (bsk D fun j13 R1 D => yam (l1 := [5, 6, 7, 8, 9, 10, 11, 12]) (J := JI E I9 [(21, .bool j13)] (bC b1 p0 w_p0 :: Os)) ?_ ?_)
 refine yal R1 (fun G R1 => ?_) (fun G R1 => ?_)
 refine yz 13 G ?_
 iterate 7 refine WO.ps ?_
 exact ya 12 1 z (sj R1 ▸ yy ⟨I9, rfl, lr, S11⟩)
 refine yz 13 G (y7 ((cs_qC p0 w_p0)) (rd_c m0 (S11.rd m0)) z (y7 ((cs_qC p0 w_p0)) (rd_c m0 (S11.rd m0)) z (bsk R1 fun r22 Xr17 R1 => yae (r19_Held_ok (h_p0.mono L10) S11 Xr17) ?_)))
 rintro _ w18 ⟨I19, a_r22, c_r22, rfl, L20, S21, h_r22⟩
 refine ⟨_, rfl, (ym (S21.rd m0) (yx (S21.im.of_le le))), ?_⟩
 refine ya 8 3 z (bsk R1 fun r28 Xr23 R1 => yae (r19_has_ok (h_p0.mono le) h_r22 S21 Xr23) ?_)
 rintro _ w24 ⟨I25, rfl, L26, S27⟩
 refine ⟨_, rfl, (ym (S27.rd m0) (yx (S27.im.of_le le))), ?_⟩
 exact ya 12 1 z (sj R1 ▸ yy ⟨I25, rfl, le, S27⟩)
 rintro _ w29 ⟨I15, rfl, L16, S30⟩
 exact WO.tail z (ya 13 1 z (yb (yp (sj D ▸ yw ⟨I15, rfl, le, S30.drop⟩))))
def r19_place (p0 : qC) (p1 : qS) (p2 : By8) : Option Int := (forN (fun (i12 : Nat) (_s : Unit) => (idx p0.Grants (i12 : Int)).bind (fun x20 => (some (((sEq x20.To p1.Role) && (sEq x20.By p2)) && (sEq x20.Table p1.Table))).bind (fun (q29 : Bool) => (bif (q29 && (x20.Priv == p1.Priv)) then some (.inr (i12 : Int)) else some (.inl ()))))) p0.Grants.length 0 ()).bind (fun (t : Unit ⊕ (Int)) => match t with | .inl _ => some (-1) | .inr s35 => some s35)
theorem r19_place_ok {p0 : qC} {p1 : qS} {p2 : By8} {w_p0 : W_qC} {w_p1 : W_qS} (h_p0 : ok_qC I p0 w_p0) (h_p1 : ok_qS I p1 w_p1) (hS : St E w I Os) {r : Int} (D : r19_place p0 p1 p2 = some r) :
    Calls P 56 #[(vC p0 w_p0), (vS p1 w_p1), (.string p2)] w (RT E I Os (Iv r)) := by
 refine calls_W (fn := Tryz.f56) rfl rfl rfl ?_
 unfold r19_place at D
 refine yg nL3 (yab hS (cs_qC p0 w_p0) 29 z fun b1 w4 S3 => yab S3 (cs_qS p1 w_p1) 46 z fun b5 w8 S7 => ya 2 1 z (yb (W.seq (yg [0] (ya 0 1 z (yb (yn (bsk D fun t9 hloop13 D => have hlt18 := (h_p0.Grants).len_lt; W.wk (yap (m := p0.Grants.length) hloop13 (fun (i12 : Nat) (_s : Unit) => JI E I [(2, .string p2), (3, Pt b1 0), (4, Pt b5 0), (7, Nv i12)] (bC b1 p0 w_p0 :: (bS b5 p1 w_p1) :: Os)) ⟨I, rfl, lr, S7.front1⟩ ?_ ?_)))))))))
 rintro i12 _ _ w15 hi19 ⟨I10, rfl, L11, S16⟩ x17 R1 hext9
 refine W.seq (yg nL5 (yf 0 2 [3] z (yj (S16.rf m0) z (ya 3 2 z (yb (yat fun _ => W.skip (ye (W.seq (yn (yg nL7 (yf 0 1 [3] z (yj (S16.rf m0) z (ya 2 1 z ?_)))))))))))))
 obtain ⟨x20, R1, Hx20, _, rfl, Zx20⟩ := sx I10 h_p0.Grants R1
 refine y0 92 5 Hx20 z (yaq ((cs_qG x20)) Zx20 0 S16.rm z (yab S16 (cs_qG z_qG) 92 z fun b21 w24 S23 => yaa S23 0 (cs_qG x20) fun w26 S25 => yac nL25 (yf 0 1 [0] z (yj (S25.rf m0) z (yf 2 1 [3] z (yj (S25.rf m2) z (ya 4 2 z (yaw [6, 7, 8, 9] 10 26 31 (.refl ((sEq x20.To p1.Role) && (sEq x20.By p2))) (fun _ => yf 6 1 [1] z (yj (S25.rf m0) z (ya 8 3 z yak))) (ya 11 1 z (bsq R1 fun q29 Xq29 R1 => yaw [12, 13, 14, 15, 16] 17 32 38 Xq29 (fun _ => yf 12 1 [2] z (yj (S25.rf m0) z (yf 14 1 [1] z (yj (S25.rf m2) z (ya 16 2 z yak))))) (ya 18 1 z (yaw [19, 20, 21, 22, 23] 24 39 45 (.refl (q29 && (x20.Priv == p1.Priv))) (fun _ => yf 19 1 [3] z (yj (S25.rf m0) z (yf 21 1 [18] z (yj (S25.rf m2) z (ya 23 2 z yak))))) (yb (y6 R1 (fun G R1 => ?_) (fun G R1 => ?_)))))))))))))))
 refine yg nL2 (ya 0 2 z (yb (yp (yk (yh (yr ?_))))))
 obtain rfl := hext9 _ (sj R1).symm
 exact yk (yh (sj D ▸ yw ⟨I10, rfl, L11, S25.d3⟩))
 exact W.skip (yl (ye (yai nL3 (ya 0 1 z (yao i12 z (ya 2 1 z (yt (yv ⟨(), (sj R1).symm, I10, rfl, L11, S25.drop⟩))))))))
 rintro _ _ w42 ⟨I10, rfl, L11, S43⟩ he
 cases he
 exact W.seq (yg nL5 (yf 0 2 [3] z (yj (S43.rf m0) z (ya 3 2 z (yb (yas fun _ => W.exit (yo (yq (yu (ye (yg [0] (ya 0 1 z (yb (yp (sj D ▸ yw ⟨I10, rfl, L11, S43.d2⟩)))))))))))))))
noncomputable def r19_given (p0 : qC) (p1 : qS) (p2 : By8) : Option ((List qG) × Int) := (r17_At p0 p1.Table).bind (fun r14 => ((bif (decide (r14 < 0)) then some true else (r18_At p0.Roles p1.Role).bind (fun r25 => some (decide (r25 < 0))))).bind (fun (j15 : Bool) => (bif j15 then some (([] : List qG), 4) else (r19_Can p0 p2 p1.Priv p1.Table).bind (fun r36 => (bif (!r36) then some (([] : List qG), 36) else (r19_place p0 p1 p2).bind (fun r44 => (app 64 ([] : List qG) p0.Grants).bind (fun x47 => (bif (decide (r44 ≥ 0)) then (idx x47 r44).bind (fun x54 => (bif (x54.Option || (!p1.Option)) then some (([] : List qG), 19) else (idx x47 r44).bind (fun x60 => some ((x47.set (r44).toNat ({ x60 with Option := true })), 0)))) else (bif (decide ((x47.length : Int) ≥ 40)) then some (([] : List qG), 5) else (app 64 x47 ([(⟨p1.Role, p2, p1.Table, p1.Priv, p1.Option⟩ : qG)] : List qG)).bind (fun x82 => some (x82, 0)))))))))))
theorem r19_given_ok {p0 : qC} {p1 : qS} {p2 : By8} {w_p0 : W_qC} {w_p1 : W_qS} (h_p0 : ok_qC I p0 w_p0) (h_p1 : ok_qS I p1 w_p1) (hS : St E w I Os) {r : (List qG) × Int} (D : r19_given p0 p1 p2 = some r) :
    Calls P 55 #[(vC p0 w_p0), (vS p1 w_p1), (.string p2)] w (fun e w' => ∃ (I' : Mem) (ra0 : Option Addr) (rc0 : Nat), e = .returned (.tuple #[(Sl ra0 r.1 rc0), (Iv r.2)]) ∧ I.Le I' ∧ St E w' I' Os ∧ RSl 5 R_qG I' ra0 rc0 r.1) := by
 refine calls_W (fn := Tryz.f55) rfl rfl rfl ?_
 unfold r19_given at D
 refine yg nL4 (yab hS (cs_qC p0 w_p0) 29 z fun b1 w4 S3 => yab S3 (cs_qS p1 w_p1) 46 z fun b5 w8 S7 => yaf 2 6 (.slice none 0 0) (ya 3 1 z (yb (W.seq (yg nL13 (y7 ((cs_qC p0 w_p0)) (S7.rf m1) z (yf 1 1 [1] z (yj (S7.rf m0) z (bsk D fun r14 Xr9 D => WO.c1 (r17_At_ok h_p0 S7 Xr9) z fun I11 w10 L12 S13 => ya 4 2 z (bsk D fun j15 R1 D => yam (l1 := [6, 7, 8, 9, 10, 11, 12]) (J := JI E I11 [(2, .string p2), (3, Pt b1 0), (4, Pt b5 0), (22, .bool j15)] (bC b1 p0 w_p0 :: (bS b5 p1 w_p1) :: Os)) ?_ ?_))))))))))
 refine yal R1 (fun G R1 => ?_) (fun G R1 => ?_)
 refine yz 15 G ?_
 iterate 6 refine WO.ps ?_
 exact ya 12 1 z (sj R1 ▸ yy ⟨I11, rfl, lr, S13.front1⟩)
 exact yz 15 G (yf 6 1 [2] z (yj (S13.rf m1) z (yf 8 1 [3] z (yj (S13.rf m0) z (bsk R1 fun r25 Xr20 R1 => WO.c1 (r18_At_ok (RSl.mono h_p0.Roles L12) S13 Xr20) z fun I22 w21 L23 S24 => ya 11 2 z (sj R1 ▸ yy ⟨I22, rfl, L23, S24.front1⟩))))))
 rintro _ w27 ⟨I17, rfl, L18, S28⟩
 refine yb (y6 D (fun G D => ?_) (fun G D => ?_))
 exact yg nL2 (yaf 0 6 (.slice none 0 0) (ya 1 1 z (yb (yp (yh (sj D ▸ yaz ⟨I17, none, 0, rfl, le, S28.d2, SlAt.nil⟩))))))
 refine W.skip (ye (W.seq (yg nL8 (y7 ((cs_qC p0 w_p0)) (S28.rf m0) z (yf 1 2 [18] z (yj (S28.rf m1) z (yf 4 1 [1] z (yj (S28.rf m1) z (bsk D fun r36 Xr31 D => WO.c1 (r19_Can_ok (h_p0.mono le) S28 Xr31) z fun I33 w32 L34 S35 => ya 7 1 z (yb (y6 D (fun G D => ?_) (fun G D => ?_))))))))))))
 exact yg nL2 (yaf 0 6 (.slice none 0 0) (ya 1 1 z (yb (yp (yh (sj D ▸ yaz ⟨I33, none, 0, rfl, le, S35.d2, SlAt.nil⟩))))))
 refine W.skip (ye (yg nL5 (y7 ((cs_qC p0 w_p0)) (S35.rf m0) z (y7 ((cs_qS p1 w_p1)) (S35.rf m1) z (ya 2 1 z (bsk D fun r44 Xr39 D => WO.c1 (r19_place_ok (h_p0.mono le) (h_p1.mono le) S35 Xr39) z fun I41 w40 L42 S43 => ya 4 1 z (yac [0] (yaf 0 9 (.slice none 0 0) (yac nL5 (yf 0 2 [3] z (yj (S43.rf m0) z (have S46 := S43.no; apk D fun x47 h0_x47 he_x47 D => ya6 (e' := 92) (b := 64) (zs := (cs_qG z_qG).toArray) S46 (OwnSl.nil (T := 92) (rel := R_qG) (I := I41)) z kr z kr kr kr z z z z (up h_p0.Grants) S46.im h0_x47 he_x47 tv ?_))))))))))))
 intro a48 c49 w50 C51 S52 ho53
 refine ya 4 1 z (yb (W.seq (yg nL2 (ya 0 2 z (yb (y6 D (fun G D => ?_) (fun G D => ?_)))))))
 refine W.seq (yg nL10 (ya 0 2 z ?_))
 obtain ⟨x54, D, Hx54, _, rfl, Zx54⟩ := sl_ix (ho53.sl) D
 refine y0 92 5 Hx54 z (yf 3 1 [4] z (yar Zx54 4 (S52.rf m0) z (ya 5 1 z (yav [6, 7, 8] 9 46 50 (.refl (x54.Option || (!p1.Option))) (fun _ => yf 6 1 [19] z (yj (S52.rf m2) z (ya 8 2 z yak))) (yb (y6 D (fun G D => ?_) (fun G D => ?_)))))))
 exact yg nL2 (yaf 0 6 (.slice none 0 0) (ya 1 1 z (yb (yp (yh (yh (sj D ▸ yaz ⟨I41, none, 0, rfl, le, S52.d3, SlAt.nil⟩)))))))
 refine W.skip (ye (yg nL5 (ya 0 2 z ?_)))
 obtain ⟨x60, D, h0_x60, h1_x60, Xx60, ha_x60, _, _, rfl, Zx60⟩ := sl_at (ho53.sl) D
 refine ya4 92 5 ha_x60 h0_x60 h1_x60 ?_
 refine yf 3 1 [4] z (ya2 S52 ho53 z kr z Xx60 (u' := { x60 with Option := true }) 4 z z kr z z (fun cs hrel => (by obtain rfl := hrel; exact z)) tv ?_)
 intro w62 C63 S61 ho64
 refine y8 9 z (show Value.slice a48 x47.length c49 = Value.slice a48 (x47.set (r44).toNat ({ x60 with Option := true })).length c49 by simp only [List.length_set]) ?_
 refine yac nL3 (ya 0 1 z ?_)
 obtain ⟨I65, L66, S68, hp67⟩ := yag ho64 S61
 exact ya 1 2 z (yb (yp (yh (sj D ▸ yaz ⟨I65, a48, c49, rfl, le, S68.d2, hp67⟩))))
 refine W.skip (ye (W.seq (yg nL3 (ya 0 3 z (yb (y6 D (fun G D => ?_) (fun G D => ?_)))))))
 exact yg nL2 (yaf 0 6 (.slice none 0 0) (ya 1 1 z (yb (yp (yh (sj D ▸ yaz ⟨I41, none, 0, rfl, le, S52.d3, SlAt.nil⟩))))))
 refine W.skip (ye (yg nL15 (yf 0 2 [3] z (yj (S52.rf m2) z (yf 3 2 [1] z (yj (S52.rf m2) z (yf 6 1 [18] z (yj (S52.rf m2) z (yf 8 1 [19] z (yj (S52.rf m2) z (yaf 10 69 (.agg (cs_qG (⟨p1.Role, p2, p1.Table, p1.Priv, p1.Option⟩ : qG)).toArray) (yad (rel := R_qG) (xs := ([(⟨p1.Role, p2, p1.Table, p1.Priv, p1.Option⟩ : qG)] : List qG)) S52 z kr z 92 5 [(cs_qG (⟨p1.Role, p2, p1.Table, p1.Priv, p1.Option⟩ : qG))] kr z ((Elr.cons z Elr.nil)) tv ?_))))))))))))
 intro a77 C75 w79 S78 ho76
 have S81 := S78.front1
 refine apk D fun x82 h0_x82 he_x82 D => yau 92 64 (cs_qG z_qG) S81 ho53 ho76.sl (S81.rd m1) h0_x82 he_x82 z ?_
 intro a83 c84 w85 C86 S87 ho88
 obtain ⟨I91, L92, S94, hp93⟩ := yag ho88 S87.front1.drop
 exact ya 13 2 z (yb (yp (sj D ▸ yaz ⟨I91, a83, c84, rfl, le, S94.d2, hp93⟩)))
noncomputable def r19_Make (p0 : qC) (p1 : qS) (p2 : By8) (p3 : Int) : Option (qC × Int) := (bif ((decide (p1.Kind < 10)) || (decide (p1.Kind > 15))) then some (z_qC, 2) else (r18_At p0.Roles p2).bind (fun r25 => (bif (decide (r25 < 0)) then some (z_qC, 4) else ((bif (decide (p1.Kind ≤ 13)) then (r18_Is p0.Roles p2 (⟨#[114, 111, 111, 116]⟩ : By8)).bind (fun r46 => some (!r46)) else some false)).bind (fun (j37 : Bool) => ((bif j37 then some (.inl ((36 : Int), z_qC, p0.Roles, p0.Grants)) else ((bif (decide (p1.Kind ≤ 13)) then (r19_roles p0 p1).bind (fun (r74, r75) => some (.inl (r75, z_qC, r74, p0.Grants))) else ((bif (p1.Kind == 14) then (r19_given p0 p1 p2).bind (fun (r96, r97) => some (.inl (r97, z_qC, r96))) else (r19_place p0 p1 p2).bind (fun r113 => (bif (decide (r113 < 0)) then some (.inr (4, z_qC)) else (sub p0.Grants 0 r113).bind (fun x147 => (app 64 ([] : List qG) x147).bind (fun x150 => (sub p0.Grants (w64 (r113 + 1)) (p0.Grants.length : Int)).bind (fun x162 => (app 64 x150 x162).bind (fun x164 => some (.inl ((0 : Int), z_qC, x164)))))))))).bind (fun (t : (Int × qC × (List qG)) ⊕ (Int × qC)) => match t with | (.inl (s101, s102, s103)) => some (.inl (s101, s102, p0.Roles, s103)) | (.inr (s118, s119)) => some (.inr (s118, s119))))).bind (fun (t : (Int × qC × (List qJ) × (List qG)) ⊕ (Int × qC)) => match t with | (.inl (s79, s80, s81, s82)) => some (.inl (s79, s80, s81, s82)) | (.inr (s121, s122)) => some (.inr (s121, s122))))).bind (fun (t : (Int × qC × (List qJ) × (List qG)) ⊕ (Int × qC)) => match t with | (.inl (s59, s60, s61, s62)) => ((bif ((s59 == 0) && (decide (p0.Version ≥ p3))) then some 52 else some s59)).bind (fun (j191 : Int) => (bif (j191 != 0) then some (z_qC, j191) else (r19_Held ({ p0 with Version := (w64 (p0.Version + 1)), Roles := s61, Grants := s62 })).bind (fun r212 => some ({ p0 with Version := (w64 (p0.Version + 1)), Roles := s61, Grants := r212 }, 0)))) | (.inr (s124, s125)) => some (s125, s124))))))
theorem r19_Make_ok {p0 : qC} {p1 : qS} {p2 : By8} {p3 : Int} {w_p0 : W_qC} {w_p1 : W_qS} (h_p0 : ok_qC I p0 w_p0) (h_p1 : ok_qS I p1 w_p1) (hS : St E w I Os) {r : qC × Int} (D : r19_Make p0 p1 p2 p3 = some r) :
    Calls P 31 #[(vC p0 w_p0), (vS p1 w_p1), (.string p2), (Iv p3)] w (fun e w' => ∃ I' w_rw0, e = .returned (.tuple #[(vC r.1 w_rw0), (Iv r.2)]) ∧ I.Le I' ∧ St E w' I' Os ∧ ok_qC I' r.1 w_rw0) := by
 refine calls_W (fn := Tryz.f31) rfl rfl rfl ?_
 unfold r19_Make at D
 refine yg nL4 (yab hS (cs_qC p0 w_p0) 29 z fun b1 w4 S3 => yab S3 (cs_qS p1 w_p1) 46 z fun b5 w8 S7 => yab S7 (cs_qC z_qC zw_qC) 29 z fun b9 w12 S11 => ya 3 1 z (yb (W.seq (yg nL8 (yf 0 1 [0] z (yj (S11.rf m1) z (ya 2 2 z (yav [4, 5, 6] 7 16 20 (.refl ((decide (p1.Kind < 10)) || (decide (p1.Kind > 15)))) (fun _ => yf 4 1 [0] z (yj (S11.rf m1) z (ya 6 2 z yak))) (yb (y6 D (fun G D => ?_) (fun G D => ?_)))))))))))
 exact yg nL3 (yaf 0 21 (vC z_qC zw_qC) (yaa S11 0 (cs_qC z_qC zw_qC) fun w16 S15 => ya 2 1 z (yb (yp (yh (sj D ▸ ya5 _ (S15.rd m0) ⟨I, zw_qC, rfl, lr, S15.d3, zok_qC⟩))))))
 refine W.skip (ye (W.seq (yg nL5 (yf 0 1 [2] z (yj (S11.rf m2) z (ya 2 1 z (bsk D fun r25 Xr20 D => WO.c1 (r18_At_ok h_p0.Roles S11 Xr20) z fun I22 w21 L23 S24 => ya 4 1 z (yb (y6 D (fun G D => ?_) (fun G D => ?_))))))))))
 exact yg nL3 (yaf 0 27 (vC z_qC zw_qC) (yaa S24 0 (cs_qC z_qC zw_qC) fun w27 S26 => ya 2 1 z (yb (yp (yh (sj D ▸ ya5 _ (S26.rd m0) ⟨I22, zw_qC, rfl, L23, S26.d3, zok_qC⟩))))))
 refine W.skip (ye (yg nL3 (y7 ((cs_qC p0 w_p0)) (S24.rf m2) z (yab S24 (cs_qC z_qC zw_qC) 29 z fun b31 w34 S33 => yaa S33 0 (cs_qC p0 w_p0) fun w36 S35 => yac [0] (ya 0 1 z (yb (W.seq (yn (yg nL11 (yf 0 1 [0] z (yj (S35.rf m2) z (ya 2 2 z (bsk D fun j37 R1 D => yam (l1 := [4, 5, 6, 7, 8, 9]) (J := JI E I22 [(2, .string p2), (3, Iv p3), (4, Pt b1 0), (5, Pt b5 0), (8, Pt b9 0), (10, Pt b31 0), (11, Iv 0), (64, .bool j37)] (bC b1 p0 w_p0 :: (bS b5 p1 w_p1) :: (bC b9 z_qC zw_qC) :: (bC b31 p0 w_p0) :: Os)) ?_ ?_)))))))))))))
 refine yal R1 (fun G R1 => ?_) (fun G R1 => ?_)
 exact yz 58 G (yf 4 1 [2] z (yj (S35.rf m3) z (ya 6 1 z (bsk R1 fun r46 Xr41 R1 => WO.c1 (r18_Is_ok (RSl.mono h_p0.Roles L23) S35 Xr41) z fun I43 w42 L44 S45 => ya 8 2 z (sj R1 ▸ yy ⟨I43, rfl, L44, S45.front1.front2.front3⟩)))))
 refine yz 58 G ?_
 iterate 5 refine WO.ps ?_
 exact ya 9 1 z (sj R1 ▸ yy ⟨I22, rfl, lr, S35.front1.front2.front3⟩)
 rintro _ w53 ⟨I39, rfl, L40, S54⟩
 refine ya 10 1 z (yb (bsk D fun j55 R1 D => yay (J := (fun fr w => ∃ (s59 : Int) (s60 : qC) (s61 : List qJ) (s62 : List qG), ∃ I57 w_s60 a_s61 c_s61 a_s62 c_s62, (.inl (s59, s60, s61, s62)) = j55 ∧ fr = [(3, Iv p3), (4, Pt b1 0), (8, Pt b9 0), (10, Pt b31 0), (11, Iv s59)] ∧ I39.Le I57 ∧ St E w I57 (bC b1 p0 w_p0 :: (bC b9 s60 w_s60) :: (Bx b31 (cs_qC ({ p0 with Roles := s61, Grants := s62 }) ({ w_p0 with Roles := ⟨a_s61, c_s61⟩, Grants := ⟨a_s62, c_s62⟩ })) 29) :: Os) ∧ ok_qC I57 s60 w_s60 ∧ RSl 2 R_qJ I57 a_s61 c_s61 s61 ∧ RSl 5 R_qG I57 a_s62 c_s62 s62)) ?_ ?_))
 refine y6 R1 (fun G R1 => ?_) (fun G R1 => ?_)
 exact yai [0] (ya 0 1 z (yt (yv ⟨36, z_qC, p0.Roles, p0.Grants, I39, zw_qC, w_p0.Roles.a, w_p0.Roles.c, w_p0.Grants.a, w_p0.Grants.c, sj R1, rfl, lr, S54.front1.drop, zok_qC, (up h_p0.Roles), (up h_p0.Grants)⟩)))
 refine yg nL4 (yf 0 1 [0] z (yj (S54.rf m1) z (ya 2 2 z (yb (bsk R1 fun j65 R2 R1 => yay (J := (fun fr w => ∃ (s79 : Int) (s80 : qC) (s81 : List qJ) (s82 : List qG), ∃ I67 w_s80 a_s81 c_s81 a_s82 c_s82, (.inl (s79, s80, s81, s82)) = j65 ∧ fr = [(3, Iv p3), (4, Pt b1 0), (8, Pt b9 0), (10, Pt b31 0), (11, Iv s79)] ∧ I39.Le I67 ∧ St E w I67 (bC b1 p0 w_p0 :: (bC b9 s80 w_s80) :: (Bx b31 (cs_qC ({ p0 with Roles := s81, Grants := s82 }) ({ w_p0 with Roles := ⟨a_s81, c_s81⟩, Grants := ⟨a_s82, c_s82⟩ })) 29) :: Os) ∧ ok_qC I67 s80 w_s80 ∧ RSl 2 R_qJ I67 a_s81 c_s81 s81 ∧ RSl 5 R_qG I67 a_s82 c_s82 s82)) ?_ ?_)))))
 refine y6 R2 (fun G R2 => ?_) (fun G R2 => ?_)
 refine yai nL9 (y7 ((cs_qC p0 w_p0)) (S54.rf m0) z (y7 ((cs_qS p1 w_p1)) (S54.rf m1) z ?_))
 obtain ⟨⟨r74, r75⟩, Xr69, R2⟩ := bsm R2
 refine yae (r19_roles_ok (h_p0.mono le) (h_p1.mono le) S54 Xr69) ?_
 rintro _ w70 ⟨I71, a_r74, c_r74, rfl, L72, S73, h_r74⟩
 exact cv (yf 3 4 [2] z (yaa S73.front3 2 (cs_qC ({ p0 with Roles := r74 }) ({ w_p0 with Roles := ⟨a_r74, c_r74⟩ })) fun w78 S77 => ya 8 1 z (yt (yv ⟨r75, z_qC, r74, p0.Grants, I71, zw_qC, a_r74, c_r74, w_p0.Grants.a, w_p0.Grants.c, sj R2, rfl, L72, S77.front2.drop.front2.front2, zok_qC, h_r74, (up h_p0.Grants)⟩))))
 refine yg nL4 (yf 0 1 [0] z (yj (S54.rf m1) z (ya 2 2 z (yb (bsk R2 fun j87 R3 R2 => yay (J := (fun fr w => ∃ (s101 : Int) (s102 : qC) (s103 : List qG), ∃ I89 w_s102 a_s103 c_s103, (.inl (s101, s102, s103)) = j87 ∧ fr = [(3, Iv p3), (4, Pt b1 0), (8, Pt b9 0), (10, Pt b31 0), (11, Iv s101)] ∧ I39.Le I89 ∧ St E w I89 (bC b1 p0 w_p0 :: (bC b9 s102 w_s102) :: (Bx b31 (cs_qC ({ p0 with Grants := s103 }) ({ w_p0 with Grants := ⟨a_s103, c_s103⟩ })) 29) :: Os) ∧ ok_qC I89 s102 w_s102 ∧ RSl 5 R_qG I89 a_s103 c_s103 s103)) ?_ ?_)))))
 refine y6 R3 (fun G R3 => ?_) (fun G R3 => ?_)
 refine yai nL10 (y7 ((cs_qC p0 w_p0)) (S54.rf m0) z (y7 ((cs_qS p1 w_p1)) (S54.rf m1) z (ya 2 1 z ?_)))
 obtain ⟨⟨r96, r97⟩, Xr91, R3⟩ := bsm R3
 refine yae (r19_given_ok (h_p0.mono le) (h_p1.mono le) S54 Xr91) ?_
 rintro _ w92 ⟨I93, a_r96, c_r96, rfl, L94, S95, h_r96⟩
 exact cv (yf 4 4 [3] z (yaa S95.front3 3 (cs_qC ({ p0 with Grants := r96 }) ({ w_p0 with Grants := ⟨a_r96, c_r96⟩ })) fun w100 S99 => ya 9 1 z (yt (yv ⟨r97, z_qC, r96, I93, zw_qC, a_r96, c_r96, sj R3, rfl, L94, S99.front2.drop.front2.front2, zok_qC, h_r96⟩))))
 refine yg nL5 (y7 ((cs_qC p0 w_p0)) (S54.rf m0) z (y7 ((cs_qS p1 w_p1)) (S54.rf m1) z (ya 2 1 z (bsk R3 fun r113 Xr108 R3 => WO.c1 (r19_place_ok (h_p0.mono le) (h_p1.mono le) S54 Xr108) z fun I110 w109 L111 S112 => ya 4 1 z (yb (W.seq (yg nL2 (ya 0 2 z (yb (y6 R3 (fun G R3 => ?_) (fun G R3 => ?_)))))))))))
 refine yg nL3 (yaf 0 35 (vC z_qC zw_qC) (yaa S112.front2 0 (cs_qC z_qC zw_qC) fun w116 S115 => ya 2 1 z (yb (yp (yh (yr ?_))))))
 obtain rfl := sj R3
 refine yr ?_
 obtain rfl := sj R2
 refine yr ?_
 obtain rfl := sj R1
 exact yk (yh (sj D ▸ ya5 _ (S115.rd m0) ⟨I110, zw_qC, rfl, le, S115.d4, zok_qC⟩))
 refine W.skip (ye (yg nL2 (yf 0 1 [3] z (yaa S112.front3 3 (cs_qC ({ p0 with Grants := ([] : List qG) }) ({ w_p0 with Grants := ⟨none, 0⟩ })) fun w144 S143 => yb (W.seq (have S145 := S143.drew; ya1 nL9 6 (ym (S145.rd m0) (ym (S145.rd m1) (yx S145.im))) ?_))))))
 generalize World.drew _ = w146 at *
 refine yf 0 1 [3] z (yj (rd_c m0 (S145.rd m0)) z (yf 2 1 [3] z (yj (rd_c m1 (S145.rd m1)) z (ya 4 1 z ?_))))
 obtain ⟨x147, Xx147, R3⟩ := bsm R3
 obtain ⟨h0_x147, h1_x147, h2_x147, he_x147⟩ := sub_some Xx147
 have hl_x147 : (r113 : Int) ≤ (w_p0.Grants.c : Int) := Int.le_trans h2_x147 (Int.ofNat_le.2 ((RSl.mono h_p0.Grants ((L23.trans L40).trans L111))).le)
 refine ya3 (e := 92) (sz := 5) z kr kr kr z (0 : Int) (r113 : Int) h0_x147 (.inl ⟨rfl, rfl⟩) (.inr ⟨_, _, rfl, rfl⟩) h1_x147 hl_x147 ?_
 obtain ⟨a_x147, c_x147, h_x147, ev_x147⟩ := sub_ok ((RSl.mono h_p0.Grants ((L23.trans L40).trans L111))) h0_x147 h1_x147 h2_x147 he_x147
 refine y8 42 z ev_x147 ?_
 refine WO.tail z (have S149 := S145.no; apk R3 fun x150 h0_x150 he_x150 R3 => ya6 (e' := 92) (b := 64) (zs := (cs_qG z_qG).toArray) S149 (OwnSl.nil (T := 92) (rel := R_qG) (I := I110)) z kr z kr kr kr z z z z h_x147 S149.im h0_x150 he_x150 tv ?_)
 intro a151 c152 w153 C154 S155 ho156
 refine yf 7 1 [3] z (yaa S155.front1 3 (cs_qC ({ p0 with Grants := x150 }) ({ w_p0 with Grants := ⟨a151, c152⟩ })) fun w159 S158 => yb (have S160 := S158.drew; ya1 nL10 7 (ym (S160.rd m0) (ym (S160.rd m2) (yx S160.im))) ?_))
 generalize World.drew _ = w161 at *
 refine yf 0 1 [3] z (yj (rd_c m0 (S160.rd m0)) z (yf 2 1 [3] z (yj (rd_c m1 (S160.rd m2)) z (ya 4 2 z ?_))))
 obtain ⟨x162, Xx162, R3⟩ := bsm R3
 obtain ⟨h0_x162, h1_x162, h2_x162, he_x162⟩ := sub_some Xx162
 have hl_x162 : ((p0.Grants.length : Int) : Int) ≤ (w_p0.Grants.c : Int) := Int.le_trans h2_x162 (Int.ofNat_le.2 ((RSl.mono h_p0.Grants ((L23.trans L40).trans L111))).le)
 refine ya3 (e := 92) (sz := 5) z kr kr kr z ((w64 (r113 + 1)) : Int) ((p0.Grants.length : Int) : Int) h0_x162 (.inr ⟨_, _, rfl, rfl⟩) (.inl ⟨rfl, rfl⟩) h1_x162 hl_x162 ?_
 obtain ⟨a_x162, c_x162, h_x162, ev_x162⟩ := sub_ok ((RSl.mono h_p0.Grants ((L23.trans L40).trans L111))) h0_x162 h1_x162 h2_x162 he_x162
 refine y8 51 z ev_x162 ?_
 refine WO.tail z (have S163 := S160.front1; apk R3 fun x164 h0_x164 he_x164 R3 => yau 92 64 (cs_qG z_qG) S163 ho156 h_x162 S163.im h0_x164 he_x164 z fun a165 c166 w167 C168 S169 ho170 => yf 8 1 [3] z (yaa S169.front1 3 (cs_qC ({ p0 with Grants := x164 }) ({ w_p0 with Grants := ⟨a165, c166⟩ })) fun w173 S172 => yt ?_))
 obtain ⟨I175, L176, S178, hp177⟩ := yag ho170 S172.front1
 exact yv ⟨0, z_qC, x164, I175, zw_qC, a165, c166, sj R3, rfl, le, S178.front2.drop.front2.front2, zok_qC, hp177⟩
 rintro _ w183 ⟨s101, s102, s103, I89, w_s102, a_s103, c_s103, rfl, rfl, L90, S184, h_s102, h_s103⟩
 exact yv ⟨s101, s102, p0.Roles, s103, I89, w_s102, w_p0.Roles.a, w_p0.Roles.c, a_s103, c_s103, sj R2, rfl, L90, S184, h_s102, (up h_p0.Roles), h_s103⟩
 rintro _ w185 ⟨s79, s80, s81, s82, I67, w_s80, a_s81, c_s81, a_s82, c_s82, rfl, rfl, L68, S186, h_s80, h_s81, h_s82⟩
 exact yv ⟨s79, s80, s81, s82, I67, w_s80, a_s81, c_s81, a_s82, c_s82, sj R1, rfl, L68, S186, h_s80, h_s81, h_s82⟩
 rintro _ w187 ⟨s59, s60, s61, s62, I57, w_s60, a_s61, c_s61, a_s62, c_s62, rfl, rfl, L58, S188, h_s60, h_s61, h_s62⟩
 refine yl (ye (W.seq (yg nL8 (ya 0 3 z (yaw [3, 4, 5, 6] 7 90 95 (.refl ((s59 == 0) && (decide (p0.Version ≥ p3)))) (fun _ => yf 3 1 [0] z (yj (S188.rf m0) z (ya 5 3 z yak))) (yb (bsk D fun j191 R1 D => yay (J := JI E I57 [(4, Pt b1 0), (8, Pt b9 0), (10, Pt b31 0), (11, Iv j191)] (bC b1 p0 w_p0 :: (bC b9 s60 w_s60) :: (Bx b31 (cs_qC ({ p0 with Roles := s61, Grants := s62 }) ({ w_p0 with Roles := ⟨a_s61, c_s61⟩, Grants := ⟨a_s62, c_s62⟩ })) 29) :: Os)) ?_ ?_)))))))
 refine y6 R1 (fun G R1 => ?_) (fun G R1 => ?_)
 exact yai [0] (ya 0 1 z (yt (sj R1 ▸ yv ⟨I57, rfl, lr, S188⟩)))
 exact W.skip (sj R1 ▸ yv ⟨I57, rfl, lr, S188⟩)
 rintro _ w195 ⟨I193, rfl, L194, S196⟩
 refine ye (W.seq (yg nL2 (ya 0 2 z (yb (y6 D (fun G D => ?_) (fun G D => ?_))))))
 exact yg nL4 (yaf 0 98 (vC z_qC zw_qC) (ya 1 1 z (yaa S196.front1 0 (cs_qC z_qC zw_qC) fun w199 S198 => ya 3 1 z (yb (yp (yh (sj D ▸ ya5 _ (S198.rd m0) ⟨I193, zw_qC, rfl, le, S198.d3, zok_qC⟩)))))))
 refine W.skip (ye (yg nL5 (yf 0 1 [0] z (yj (S196.rf m0) z (yf 2 2 [0] z (yaa S196.front2 0 (cs_qC ({ p0 with Version := (w64 (p0.Version + 1)), Roles := s61, Grants := s62 }) ({ w_p0 with Roles := ⟨a_s61, c_s61⟩, Grants := ⟨a_s62, c_s62⟩ })) fun w205 S204 => yac nL4 (y7 ((cs_qC ({ p0 with Version := (w64 (p0.Version + 1)), Roles := s61, Grants := s62 }) ({ w_p0 with Roles := ⟨a_s61, c_s61⟩, Grants := ⟨a_s62, c_s62⟩ }))) (S204.rf m0) z ?_)))))))
 have hk206 : ok_qC I193 ({ p0 with Version := (w64 (p0.Version + 1)), Roles := s61, Grants := s62 }) ({ w_p0 with Roles := ⟨a_s61, c_s61⟩, Grants := ⟨a_s62, c_s62⟩ }) := ⟨(RSl.mono h_p0.Tables (((L23.trans L40).trans L58).trans L194)), (RSl.mono h_s61 L194), (RSl.mono h_s62 L194)⟩
 refine bsk D fun r212 Xr207 D => yae (r19_Held_ok hk206 S204 Xr207) ?_
 rintro _ w208 ⟨I209, a_r212, c_r212, rfl, L210, S211, h_r212⟩
 refine cv (yf 2 1 [3] z (yaa S211 3 (cs_qC ({ p0 with Version := (w64 (p0.Version + 1)), Roles := s61, Grants := r212 }) ({ w_p0 with Roles := ⟨a_s61, c_s61⟩, Grants := ⟨a_r212, c_r212⟩ })) fun w214 S213 => yac nL3 (y7 ((cs_qC ({ p0 with Version := (w64 (p0.Version + 1)), Roles := s61, Grants := r212 }) ({ w_p0 with Roles := ⟨a_s61, c_s61⟩, Grants := ⟨a_r212, c_r212⟩ }))) (S213.rf m0) z (yaa S213.front2 0 (cs_qC ({ p0 with Version := (w64 (p0.Version + 1)), Roles := s61, Grants := r212 }) ({ w_p0 with Roles := ⟨a_s61, c_s61⟩, Grants := ⟨a_r212, c_r212⟩ })) fun w217 S216 => ya 2 1 z (yb (yp ?_))))))
 have hk221 : ok_qC I209 ({ p0 with Version := (w64 (p0.Version + 1)), Roles := s61, Grants := r212 }) ({ w_p0 with Roles := ⟨a_s61, c_s61⟩, Grants := ⟨a_r212, c_r212⟩ }) := ⟨(RSl.mono h_p0.Tables ((((L23.trans L40).trans L58).trans L194).trans L210)), (RSl.mono h_s61 (L194.trans L210)), h_r212⟩
 exact sj D ▸ ya5 _ (S216.rd m0) ⟨I209, ({ w_p0 with Roles := ⟨a_s61, c_s61⟩, Grants := ⟨a_r212, c_r212⟩ }), rfl, le, S216.d3, hk221⟩
def r17_without (p0 : qC) (p1 : By8) : Option qC := (forE (fun (i21 : Nat) (s20 : List qT) => (idx p0.Tables (i21 : Int)).bind (fun x33 => ((bif (!sEq x33.Name p1) then (idx p0.Tables (i21 : Int)).bind (fun x40 => (app 112 s20 ([x40] : List qT)).bind (fun x49 => some x49)) else some s20)).bind (fun (j34 : List qT) => some j34))) p0.Tables.length 0 ([] : List qT)).bind (fun s20 => some { p0 with Tables := s20 })
theorem r17_without_ok {p0 : qC} {p1 : By8} {w_p0 : W_qC} (h_p0 : ok_qC I p0 w_p0) (hS : St E w I Os) {r : qC} (D : r17_without p0 p1 = some r) :
    Calls P 58 #[(vC p0 w_p0), (.string p1)] w (fun e w' => ∃ I' w_rw0, e = .returned (vC r w_rw0) ∧ I.Le I' ∧ St E w' I' Os ∧ ok_qC I' r w_rw0) := by
 refine calls_W (fn := Tryz.f58) rfl rfl rfl ?_
 unfold r17_without at D
 refine yg nL2 (yab hS (cs_qC p0 w_p0) 29 z fun b1 w4 S3 => yab S3 (cs_qC z_qC zw_qC) 29 z fun b5 w8 S7 => yac nL3 (y7 ((cs_qC p0 w_p0)) (S7.rf m1) z (yab S7 (cs_qC z_qC zw_qC) 29 z fun b9 w12 S11 => yaa S11 0 (cs_qC p0 w_p0) fun w14 S13 => yac nL2 (yf 0 1 [1] z (yaa S13 1 (cs_qC ({ p0 with Tables := ([] : List qT) }) ({ w_p0 with Tables := ⟨none, 0⟩ })) fun w16 S15 => yb (W.seq (yg [0] (ya 0 1 z (yb (yn (bsk D fun s20 hloop22 D => have hlt31 := (h_p0.Tables).len_lt; W.wk (ya0 (m := p0.Tables.length) hloop22 (fun (i21 : Nat) (s20 : List qT) fr w => ∃ I18 a_s20 c_s20 C_s20, fr = [(1, .string p1), (2, Pt b1 0), (4, Pt b5 0), (5, Pt b9 0), (6, Nv i21)] ∧ I.Le I18 ∧ St E w I18 (bC b1 p0 w_p0 :: (bC b5 z_qC zw_qC) :: (Bx b9 (cs_qC ({ p0 with Tables := s20 }) ({ w_p0 with Tables := ⟨a_s20, c_s20⟩ })) 29) :: (C_s20) :: Os) ∧ OwnSl 78 6 R_qT I18 C_s20 a_s20 c_s20 s20) ⟨I, none, 0, Mem.no, rfl, lr, S15.no.front1.front2.front3, OwnSl.nil⟩ ?_ ?_))))))))))))
 rintro i21 s20 _ w28 hi32 ⟨I18, a_s20, c_s20, C_s20, rfl, L19, S29, h_s20⟩ x30 R1
 refine W.seq (yg nL5 (yf 0 2 [1] z (yj (S29.rf m0) z (ya 3 2 z (yb (yat fun _ => W.skip (ye (W.seq (yn (yg nL8 (yf 0 1 [1] z (yj (S29.rf m0) z (ya 2 1 z ?_)))))))))))))
 obtain ⟨x33, R1, Hx33, _, ⟨w_x33, rfl, h_x33⟩, Zx33⟩ := sx I18 h_p0.Tables R1
 refine y0 78 6 Hx33 z (yf 4 1 [0] z (yan Zx33 S29.rm z (ya 6 2 z (yb (bsk R1 fun j34 R2 R1 => yay (J := (fun fr w => ∃ I36 a_j34 c_j34 C_j34, fr = [(1, .string p1), (2, Pt b1 0), (4, Pt b5 0), (5, Pt b9 0), (6, Nv i21)] ∧ I18.Le I36 ∧ St E w I36 (bC b1 p0 w_p0 :: (bC b5 z_qC zw_qC) :: (Bx b9 (cs_qC ({ p0 with Tables := j34 }) ({ w_p0 with Tables := ⟨a_j34, c_j34⟩ })) 29) :: (C_j34) :: Os) ∧ OwnSl 78 6 R_qT I36 C_j34 a_j34 c_j34 j34)) ?_ ?_)))))
 refine y6 R2 (fun G R2 => ?_) (fun G R2 => ?_)
 have S38 := S29.drew
 refine ya1 nL11 8 (ym (S38.rd m0) (ym (S38.rd m2) (yx S38.im))) ?_
 generalize World.drew _ = w39 at *
 refine yf 0 1 [1] z (yj (rd_c m1 (S38.rd m2)) z (yf 2 1 [1] z (yj (rd_c m0 (S38.rd m0)) z (ya 4 1 z ?_))))
 obtain ⟨x40, R2, Hx40, _, ⟨w_x40, rfl, h_x40⟩, Zx40⟩ := sx I18 h_p0.Tables R2
 refine y0 78 6 Hx40 z (yaq ((cs_qT x40 w_x40)) Zx40 0 (rd_i S38.im) z (yad (rel := R_qT) (xs := ([x40] : List qT)) S38 z kr z 78 6 [(cs_qT x40 w_x40)] kr z ((Elr.cons ⟨w_x40, rfl, h_x40⟩ Elr.nil)) (fun C42 w46 S45 => (ym (S45.rd m1) (ym (S45.rd m3) (yx S45.im)))) ?_))
 intro a44 C42 w46 S45 ho43
 exact WO.tail z (have S48 := S45.front4; apk R2 fun x49 h0_x49 he_x49 R2 => yau 78 112 (cs_qT z_qT zw_qT) S48 h_s20 ho43.sl (S48.rd m1) h0_x49 he_x49 z fun a50 c51 w52 C53 S54 ho55 => yf 9 1 [1] z (yaa S54.front1.drop.front3 1 (cs_qC ({ p0 with Tables := x49 }) ({ w_p0 with Tables := ⟨a50, c51⟩ })) fun w60 S59 => yt (sj R2 ▸ yv ⟨I18, a50, c51, C53, rfl, lr, S59.front1.front1.front3.front3, ho55⟩)))
 exact W.skip (sj R2 ▸ yv ⟨I18, a_s20, c_s20, C_s20, rfl, lr, S29, h_s20⟩)
 rintro _ w65 ⟨I36, a_j34, c_j34, C_j34, rfl, L37, S66, h_j34⟩
 exact yl (ye (yai nL3 (ya 0 1 z (yao i21 z (ya 2 1 z (yt (sj R1 ▸ yv ⟨I36, a_j34, c_j34, C_j34, rfl, le, S66, h_j34⟩)))))))
 rintro _ w67 ⟨I18, a_s20, c_s20, C_s20, rfl, L19, S68, h_s20⟩
 refine W.seq (yg nL5 (yf 0 2 [1] z (yj (S68.rf m0) z (ya 3 2 z (yb (yas fun _ => W.exit (yo (yq (yu (ye (yg nL2 (y7 ((cs_qC ({ p0 with Tables := s20 }) ({ w_p0 with Tables := ⟨a_s20, c_s20⟩ }))) (S68.rf m2) z ?_))))))))))))
 obtain ⟨I70, L71, S73, hp72⟩ := yag h_s20 S68.front3
 refine yaa S73.front1 0 (cs_qC ({ p0 with Tables := s20 }) ({ w_p0 with Tables := ⟨a_s20, c_s20⟩ })) fun w76 S75 => yb (yp ?_)
 have hk80 : ok_qC I70 ({ p0 with Tables := s20 }) ({ w_p0 with Tables := ⟨a_s20, c_s20⟩ }) := ⟨hp72, (RSl.mono h_p0.Roles (L19.trans L71)), (RSl.mono h_p0.Grants (L19.trans L71))⟩
 exact sj D ▸ En.c1 _ (S75.rd m0) ⟨I70, ({ w_p0 with Tables := ⟨a_s20, c_s20⟩ }), rfl, le, S75.d3, hk80⟩
def r17_alike (p0 : List By8) (p1 : List By8) : Option Bool := (bif ((p0.length : Int) != (p1.length : Int)) then some false else (forN (fun (i4 : Nat) (_s : Unit) => (forE (fun (i16 : Nat) (s : Int × Int) => match s with | (s14, s15) => (idx p0 (i16 : Int)).bind (fun x25 => (idx p0 (i4 : Int)).bind (fun x26 => ((bif (sEq x25 x26) then some (w64 (s14 + 1)) else some s14)).bind (fun (j27 : Int) => (idx p1 (i16 : Int)).bind (fun x35 => (idx p0 (i4 : Int)).bind (fun x36 => ((bif (sEq x35 x36) then some (w64 (s15 + 1)) else some s15)).bind (fun (j37 : Int) => some (j27, j37)))))))) p0.length 0 (0, 0)).bind (fun (s14, s15) => (bif (s14 != s15) then some (.inr false) else some (.inl ())))) p0.length 0 ()).bind (fun (t : Unit ⊕ (Bool)) => match t with | .inl _ => some true | .inr s46 => some s46))
theorem r17_alike_ok {p0 : List By8} {p1 : List By8} {a_p0 : Option Addr} {c_p0 : Nat} {a_p1 : Option Addr} {c_p1 : Nat} (h_p0 : RSl 1 RStr I a_p0 c_p0 p0) (h_p1 : RSl 1 RStr I a_p1 c_p1 p1) (hS : St E w I Os) {r : Bool} (D : r17_alike p0 p1 = some r) :
    Calls P 87 #[(Sl a_p0 p0 c_p0), (Sl a_p1 p1 c_p1)] w (RT E I Os (.bool r)) := by
 refine calls_W (fn := Tryz.f87) rfl rfl rfl ?_
 unfold r17_alike at D
 refine yg [0] (ya 0 1 z (yb (W.seq (yg nL5 (ya 0 5 z (yb (y6 D (fun G D => ?_) (fun G D => ?_))))))))
 exact yg [0] (ya 0 1 z (yb (yp (yh (sj D ▸ yw ⟨I, rfl, lr, hS⟩)))))
 refine W.skip (ye (W.seq (yg [0] (ya 0 1 z (yb (yn (bsk D fun t1 hloop5 D => have hlt9 := (h_p0).len_lt; W.wk (yap (m := p0.length) hloop5 (fun (i4 : Nat) (_s : Unit) => JI E I [(0, Sl a_p0 p0 c_p0), (1, Sl a_p1 p1 c_p1), (5, Nv i4)] Os) ⟨I, rfl, lr, hS⟩ ?_ ?_))))))))
 rintro i4 _ _ w6 hi10 ⟨I2, rfl, L3, S7⟩ x8 R1 hext1
 refine W.seq (yg nL4 (ya 0 4 z (yb (yat fun _ => W.skip (ye (W.seq (yn (yg nL2 (ya 0 2 z (yb (W.seq (yg [0] (ya 0 1 z (yb (yn ?_)))))))))))))))
 obtain ⟨⟨s14, s15⟩, hloop17, R1⟩ := bsm R1
 have hlt21 := ((RSl.mono h_p0 L3)).len_lt
 refine W.wk (ya0 (m := p0.length) hloop17 (fun (i16 : Nat) (s : Int × Int) fr w => match s with | (s14, s15) => ∃ I12, fr = [(0, Sl a_p0 p0 c_p0), (1, Sl a_p1 p1 c_p1), (5, Nv i4), (6, Iv s14), (7, Iv s15), (8, Nv i16)] ∧ I2.Le I12 ∧ St E w I12 Os) ⟨I2, rfl, lr, S7⟩ ?_ ?_)
 rintro i16 ⟨s14, s15⟩ _ w18 hi22 ⟨I12, rfl, L13, S19⟩ x20 R2
 refine W.seq (yg nL4 (ya 0 4 z (yb (yat fun _ => W.skip (ye (W.seq (yn (W.seq (W.seq (have S23 := S19.drew; ya1 nL9 8 (yx S23.im) ?_))))))))))
 generalize World.drew _ = w24 at *
 refine ya 0 2 z ?_
 obtain ⟨x25, R2, Hx25, _, rfl, Zx25⟩ := sx I12 h_p0 R2
 refine y0 9 1 Hx25 z (yan Zx25 (rd_i S23.im) z (ya 4 2 z ?_))
 obtain ⟨x26, R2, Hx26, _, rfl, Zx26⟩ := sx I12 h_p0 R2
 refine y0 9 1 Hx26 z (yan Zx26 (rd_i S23.im) z (WO.tail z (ya 8 1 z (yb (bsk R2 fun j27 R3 R2 => yay (J := JI E I12 [(0, Sl a_p0 p0 c_p0), (1, Sl a_p1 p1 c_p1), (5, Nv i4), (6, Iv j27), (7, Iv s15), (8, Nv i16)] Os) ?_ ?_)))))
 refine y6 R3 (fun G R3 => ?_) (fun G R3 => ?_)
 exact yai nL3 (ya 0 3 z (yt (sj R3 ▸ yv ⟨I12, rfl, lr, S23⟩)))
 exact W.skip (sj R3 ▸ yv ⟨I12, rfl, lr, S23⟩)
 rintro _ w31 ⟨I29, rfl, L30, S32⟩
 refine ye (W.seq (have S33 := S32.drew; ya1 nL9 8 (yx S33.im) ?_))
 generalize World.drew _ = w34 at *
 refine ya 0 2 z ?_
 obtain ⟨x35, R2, Hx35, _, rfl, Zx35⟩ := sx I29 h_p1 R2
 refine y0 9 1 Hx35 z (yan Zx35 (rd_i S33.im) z (ya 4 2 z ?_))
 obtain ⟨x36, R2, Hx36, _, rfl, Zx36⟩ := sx I29 h_p0 R2
 refine y0 9 1 Hx36 z (yan Zx36 (rd_i S33.im) z (WO.tail z (ya 8 1 z (yb (bsk R2 fun j37 R3 R2 => yay (J := JI E I29 [(0, Sl a_p0 p0 c_p0), (1, Sl a_p1 p1 c_p1), (5, Nv i4), (6, Iv j27), (7, Iv j37), (8, Nv i16)] Os) ?_ ?_)))))
 refine y6 R3 (fun G R3 => ?_) (fun G R3 => ?_)
 exact yai nL3 (ya 0 3 z (yt (sj R3 ▸ yv ⟨I29, rfl, lr, S33⟩)))
 exact W.skip (sj R3 ▸ yv ⟨I29, rfl, lr, S33⟩)
 rintro _ w41 ⟨I39, rfl, L40, S42⟩
 exact yl (ye (yai nL3 (ya 0 1 z (yao i16 z (ya 2 1 z (yt (sj R2 ▸ yv ⟨I39, rfl, le, S42⟩)))))))
 rintro _ w43 ⟨I12, rfl, L13, S44⟩
 refine W.seq (yg nL4 (ya 0 4 z (yb (yas fun _ => W.exit (yo (yq (yu (ye (yg nL3 (ya 0 3 z (yb (y6 R1 (fun G R1 => ?_) (fun G R1 => ?_)))))))))))))
 refine yg [0] (ya 0 1 z (yb (yp (yk (yh (yr ?_))))))
 obtain rfl := hext1 _ (sj R1).symm
 exact yk (yh (sj D ▸ yw ⟨I12, rfl, le, S44⟩))
 exact W.skip (yl (ye (yai nL3 (ya 0 1 z (yao i4 z (ya 2 1 z (yt (yv ⟨(), (sj R1).symm, I12, rfl, le, S44⟩))))))))
 rintro _ _ w47 ⟨I2, rfl, L3, S48⟩ he
 cases he
 exact W.seq (yg nL4 (ya 0 4 z (yb (yas fun _ => W.exit (yo (yq (yu (ye (yg [0] (ya 0 1 z (yb (yp (sj D ▸ yw ⟨I2, rfl, L3, S48⟩)))))))))))))
def r17_Copy (p0 : qT) : Option qT := (app 32 ([] : List qL) p0.Cols).bind (fun x17 => (app 176 ([] : List qK) p0.Cons).bind (fun x29 => (app 40 ([] : List qI) p0.Idx).bind (fun x41 => some { p0 with Cols := x17, Cons := x29, Idx := x41 })))
theorem r17_Copy_ok {p0 : qT} {w_p0 : W_qT} (h_p0 : ok_qT I p0 w_p0) (hS : St E w I Os) {r : qT} (D : r17_Copy p0 = some r) :
    Calls P 89 #[(vT p0 w_p0)] w (fun e w' => ∃ (I' : Mem) (w_rw0 : W_qT) (rC0_3 : Mem) (rC0_4 : Mem) (rC0_5 : Mem), e = .returned (vT r w_rw0) ∧ I.Le I' ∧ St E w' I' (rC0_3 :: rC0_4 :: rC0_5 :: Os) ∧ OwnSl 111 3 R_qL I' rC0_3 w_rw0.Cols.a w_rw0.Cols.c r.Cols ∧ OwnSl 137 12 R_qK I' rC0_4 w_rw0.Cons.a w_rw0.Cons.c r.Cons ∧ OwnSl 139 2 R_qI I' rC0_5 w_rw0.Idx.a w_rw0.Idx.c r.Idx) := by
 refine calls_W (fn := Tryz.f89) rfl rfl rfl ?_
 unfold r17_Copy at D
 refine yg nL2 (yab hS (cs_qT p0 w_p0) 78 z fun b1 w4 S3 => yab S3 (cs_qT z_qT zw_qT) 78 z fun b5 w8 S7 => yac nL9 (yf 0 1 [0] z (yj (S7.rf m1) z (yf 2 1 [1] z (yj (S7.rf m1) z (yf 4 1 [2] z (yj (S7.rf m1) z (yaf 6 10 (.agg (cs_qT ({ p0 with Cols := ([] : List qL), Cons := ([] : List qK), Idx := ([] : List qI) }) (⟨⟨none, 0⟩, ⟨none, 0⟩, ⟨none, 0⟩⟩ : W_qT)).toArray) (yab S7 (cs_qT z_qT zw_qT) 78 z fun b9 w12 S11 => yaa S11 0 (cs_qT ({ p0 with Cols := ([] : List qL), Cons := ([] : List qK), Idx := ([] : List qI) }) (⟨⟨none, 0⟩, ⟨none, 0⟩, ⟨none, 0⟩⟩ : W_qT)) fun w14 S13 => yac nL7 (yf 0 1 [3] z (yj (S13.rf m0) z (yf 2 1 [3] z (yj (S13.rf m2) z (have S16 := S13.no; apk D fun x17 h0_x17 he_x17 D => ya6 (e' := 111) (b := 32) (zs := (cs_qL z_qL).toArray) S16 (OwnSl.nil (T := 111) (rel := R_qL) (I := I)) z kr z kr kr kr z z z z h_p0.Cols S16.im h0_x17 he_x17 tv ?_))))))))))))))
 intro a18 c19 w20 C21 S22 ho23
 refine yf 5 1 [3] z (yaa S22.front1 3 (cs_qT ({ p0 with Cols := x17, Cons := ([] : List qK), Idx := ([] : List qI) }) (⟨⟨a18, c19⟩, ⟨none, 0⟩, ⟨none, 0⟩⟩ : W_qT)) fun w26 S25 => yac nL7 (yf 0 1 [4] z (yj (S25.rf m0) z (yf 2 1 [4] z (yj (S25.rf m3) z (have S28 := S25.no; apk D fun x29 h0_x29 he_x29 D => ya6 (e' := 137) (b := 176) (zs := (cs_qK z_qK zw_qK).toArray) S28 (OwnSl.nil (T := 137) (rel := R_qK) (I := I)) z kr z kr kr kr z z z z h_p0.Cons S28.im h0_x29 he_x29 tv ?_))))))
 intro a30 c31 w32 C33 S34 ho35
 refine yf 5 1 [4] z (yaa S34.front1 4 (cs_qT ({ p0 with Cols := x17, Cons := x29, Idx := ([] : List qI) }) (⟨⟨a18, c19⟩, ⟨a30, c31⟩, ⟨none, 0⟩⟩ : W_qT)) fun w38 S37 => yac nL7 (yf 0 1 [5] z (yj (S37.rf m0) z (yf 2 1 [5] z (yj (S37.rf m4) z (have S40 := S37.no; apk D fun x41 h0_x41 he_x41 D => ya6 (e' := 139) (b := 40) (zs := (cs_qI z_qI zw_qI).toArray) S40 (OwnSl.nil (T := 139) (rel := R_qI) (I := I)) z kr z kr kr kr z z z z h_p0.Idx S40.im h0_x41 he_x41 tv ?_))))))
 intro a42 c43 w44 C45 S46 ho47
 exact yf 5 1 [5] z (yaa S46.front1 5 (cs_qT ({ p0 with Cols := x17, Cons := x29, Idx := x41 }) (⟨⟨a18, c19⟩, ⟨a30, c31⟩, ⟨a42, c43⟩⟩ : W_qT)) fun w50 S49 => yac nL2 (y7 ((cs_qT ({ p0 with Cols := x17, Cons := x29, Idx := x41 }) (⟨⟨a18, c19⟩, ⟨a30, c31⟩, ⟨a42, c43⟩⟩ : W_qT))) (S49.rf m0) z (yaa S49.front4 0 (cs_qT ({ p0 with Cols := x17, Cons := x29, Idx := x41 }) (⟨⟨a18, c19⟩, ⟨a30, c31⟩, ⟨a42, c43⟩⟩ : W_qT)) fun w53 S52 => yb (yp (sj D ▸ En.c1 _ (S52.rd m0) ⟨I, (⟨⟨a18, c19⟩, ⟨a30, c31⟩, ⟨a42, c43⟩⟩ : W_qT), C21, C33, C45, rfl, lr, S52.d2.front3.drop.front1.front2, ho23, ho35, ho47⟩)))))
noncomputable def r17_pointed (p0 : qT) (p1 : By8) (p2 : By8) : Option (qT × Bool) := (r17_Copy p0).bind (fun r14 => (loopO (fun (s : Bool × Int × (List qK)) => match s with | (s34, s35, s36) => (bif (decide (s35 < (s36.length : Int))) then (idx s36 s35).bind (fun x46 => ((bif (x46.Kind == 3) then (idx s36 s35).bind (fun x51 => some (sEq x51.Table p1)) else some false)).bind (fun (j47 : Bool) => ((bif j47 then (idx s36 s35).bind (fun x58 => some (true, (s36.set (s35).toNat ({ x58 with Table := p2 })))) else some (s34, s36))).bind (fun ((s66, s67) : Bool × (List qK)) => some (.inl (s66, (w64 (s35 + 1)), s67))))) else some (.inr (s34, s36)))) (false, 0, r14.Cons)).bind (fun ((s73, s74) : Bool × (List qK)) => some ({ r14 with Cols := r14.Cols, Cons := s74, Idx := r14.Idx }, s73)))
theorem r17_pointed_ok {p0 : qT} {p1 : By8} {p2 : By8} {w_p0 : W_qT} (h_p0 : ok_qT I p0 w_p0) (hS : St E w I Os) {r : qT × Bool} (D : r17_pointed p0 p1 p2 = some r) :
    Calls P 88 #[(vT p0 w_p0), (.string p1), (.string p2)] w (fun e w' => ∃ I' w_rw0, e = .returned (.tuple #[(vT r.1 w_rw0), (.bool r.2)]) ∧ I.Le I' ∧ St E w' I' Os ∧ ok_qT I' r.1 w_rw0) := by
 refine calls_W (fn := Tryz.f88) rfl rfl rfl ?_
 unfold r17_pointed at D
 refine yg nL3 (yab hS (cs_qT p0 w_p0) 78 z fun b1 w4 S3 => yab S3 (cs_qT z_qT zw_qT) 78 z fun b5 w8 S7 => ya 2 1 z (yac nL4 (y7 ((cs_qT p0 w_p0)) (S7.rf m1) z (bsk D fun r14 Xr9 D => yae (r17_Copy_ok h_p0 S7 Xr9) ?_))))
 rintro _ w10 ⟨I11, w_r14, C_r14_3, C_r14_4, C_r14_5, rfl, L12, S13, h_r14_3, h_r14_4, h_r14_5⟩
 refine cv (yab S13 (cs_qT z_qT zw_qT) 78 z ?_)
 intro b15 w18 S17
 obtain ⟨I20, L21, S23, hp22⟩ := yag h_r14_3 S17.front1
 obtain ⟨I25, L26, S28, hp27⟩ := yag (h_r14_5.mono L21) S23.front2
 refine yaa S28 0 (cs_qT ({ r14 with Cols := r14.Cols, Cons := r14.Cons, Idx := r14.Idx }) (⟨⟨w_r14.Cols.a, w_r14.Cols.c⟩, ⟨w_r14.Cons.a, w_r14.Cons.c⟩, ⟨w_r14.Idx.a, w_r14.Idx.c⟩⟩ : W_qT)) fun w30 S29 => yac [0] (ya 0 1 z (yb (W.seq (yg [0] (ya 0 1 z (yb (yn (bsk D fun t31 hloop37 D => W.wk (ya7 hloop37 (fun (s : Bool × Int × (List qK)) fr w => match s with | (s34, s35, s36) => ∃ I32 C_s36, fr = [(1, .string p1), (2, .string p2), (6, Pt b5 0), (8, Pt b15 0), (9, .bool s34), (10, Iv s35)] ∧ I25.Le I32 ∧ St E w I32 (bT b5 z_qT zw_qT :: (Bx b15 (cs_qT ({ r14 with Cols := r14.Cols, Cons := s36, Idx := r14.Idx }) (⟨⟨w_r14.Cols.a, w_r14.Cols.c⟩, ⟨w_r14.Cons.a, w_r14.Cons.c⟩, ⟨w_r14.Idx.a, w_r14.Idx.c⟩⟩ : W_qT)) 78) :: (C_s36) :: Os) ∧ OwnSl 137 12 R_qK I32 C_s36 w_r14.Cons.a w_r14.Cons.c s36) ⟨I25, C_r14_4, rfl, lr, S29.front3.drop.front1.front1.front2, (OwnSl.mono h_r14_4 le)⟩ ?_)))))))))
 rintro ⟨s34, s35, s36⟩ _ w43 ⟨I32, C_s36, rfl, L33, S44, h_s36⟩ x45 R1 hext31
 refine W.seq (yg nL5 (yf 0 2 [4] z (yj (S44.rf m1) z (ya 3 2 z (yb (y6 R1 (fun G R1 => ?_) (fun G R1 => ?_)))))))
 refine W.skip (ye (W.seq (yn (yg nL17 (yf 0 1 [4] z (yj (S44.rf m1) z (ya 2 1 z ?_)))))))
 obtain ⟨x46, R1, Hx46, _, ⟨w_x46, rfl, h_x46⟩, Zx46⟩ := sl_ix (h_s36.sl) R1
 refine y0 137 12 Hx46 z (yf 4 1 [1] z (yar Zx46 1 (S44.rf m2) z (ya 6 2 z (bsk R1 fun j47 R2 R1 => yam (l1 := [8, 9, 10, 11, 12, 13, 14, 15, 16]) (J := JI E I32 [(1, .string p1), (2, .string p2), (6, Pt b5 0), (8, Pt b15 0), (9, .bool s34), (10, Iv s35), (36, .bool j47)] (bT b5 z_qT zw_qT :: (Bx b15 (cs_qT ({ r14 with Cols := r14.Cols, Cons := s36, Idx := r14.Idx }) (⟨⟨w_r14.Cols.a, w_r14.Cols.c⟩, ⟨w_r14.Cons.a, w_r14.Cons.c⟩, ⟨w_r14.Idx.a, w_r14.Idx.c⟩⟩ : W_qT)) 78) :: (C_s36) :: Os)) ?_ ?_))))
 refine yal R2 (fun G R2 => ?_) (fun G R2 => ?_)
 refine yz 27 G (yf 8 1 [4] z (yj (S44.rf m1) z (ya 10 1 z ?_)))
 obtain ⟨x51, R2, Hx51, _, ⟨w_x51, rfl, h_x51⟩, Zx51⟩ := sl_ix (h_s36.sl) R2
 exact y0 137 12 Hx51 z (yf 12 1 [10] z (yar Zx51 10 (S44.rf m2) z (ya 14 3 z (sj R2 ▸ yy ⟨I32, rfl, lr, S44⟩))))
 refine yz 27 G ?_
 iterate 8 refine WO.ps ?_
 exact ya 16 1 z (sj R2 ▸ yy ⟨I32, rfl, lr, S44⟩)
 rintro _ w52 ⟨I49, rfl, L50, S53⟩
 refine yb (bsk R1 fun j54 R2 R1 => yay (J := (fun fr w => ∃ (s66 : Bool) (s67 : List qK), ∃ I56 C_s67, (s66, s67) = j54 ∧ fr = [(1, .string p1), (2, .string p2), (6, Pt b5 0), (8, Pt b15 0), (9, .bool s66), (10, Iv s35)] ∧ I49.Le I56 ∧ St E w I56 (bT b5 z_qT zw_qT :: (Bx b15 (cs_qT ({ r14 with Cols := r14.Cols, Cons := s67, Idx := r14.Idx }) (⟨⟨w_r14.Cols.a, w_r14.Cols.c⟩, ⟨w_r14.Cons.a, w_r14.Cons.c⟩, ⟨w_r14.Idx.a, w_r14.Idx.c⟩⟩ : W_qT)) 78) :: (C_s67) :: Os) ∧ OwnSl 137 12 R_qK I56 C_s67 w_r14.Cons.a w_r14.Cons.c s67)) ?_ ?_)
 refine y6 R2 (fun G R2 => ?_) (fun G R2 => ?_)
 refine yg nL7 (yf 0 1 [4] z (yj (S53.rf m1) z (ya 2 2 z ?_)))
 obtain ⟨x58, R2, h0_x58, h1_x58, Xx58, ha_x58, _, _, ⟨w_x58, rfl, h_x58⟩, Zx58⟩ := sl_at ((h_s36.mono L50).sl) R2
 refine ya4 137 12 ha_x58 h0_x58 h1_x58 ?_
 refine yf 5 1 [10] z ?_
 have hk64 : ok_qK I49 ({ x58 with Table := p2 }) w_x58 := ⟨h_x58.Cols, h_x58.Check, h_x58.Refs⟩
 refine ya2 S53.front2 (OwnSl.mono h_s36 L50) z kr z Xx58 (u' := { x58 with Table := p2 }) 10 z z kr z z (fun cs hrel => (by obtain ⟨w_zz, rfl, h_zz⟩ := hrel; exact ⟨w_zz, rfl, { h_zz with }⟩)) tv ?_
 intro w61 C62 S60 ho63
 refine y8 38 z (show Value.slice w_r14.Cons.a s36.length w_r14.Cons.c = Value.slice w_r14.Cons.a (s36.set (s35).toNat ({ x58 with Table := p2 })).length w_r14.Cons.c by simp only [List.length_set]) ?_
 have S65 : St E w61 I49 ((C62) :: (bT b5 z_qT zw_qT) :: (Bx b15 (cs_qT ({ r14 with Cols := r14.Cols, Cons := (s36.set (s35).toNat ({ x58 with Table := p2 })), Idx := r14.Idx }) (⟨⟨w_r14.Cols.a, w_r14.Cols.c⟩, ⟨w_r14.Cons.a, w_r14.Cons.c⟩, ⟨w_r14.Idx.a, w_r14.Idx.c⟩⟩ : W_qT)) 78) :: Os) := by have hq := S60; simp only [cs_qT, List.length_set] at hq ⊢; exact hq
 exact yb (yai [0] (ya 0 1 z (yt (yv ⟨true, (s36.set (s35).toNat ({ x58 with Table := p2 })), I49, C62, sj R2, rfl, lr, S65.front2.front2, ho63⟩))))
 exact W.skip (yv ⟨s34, s36, I49, C_s36, sj R2, rfl, lr, S53, (OwnSl.mono h_s36 L50)⟩)
 rintro _ w70 ⟨s66, s67, I56, C_s67, rfl, rfl, L57, S71, h_s67⟩
 exact yl (ye (yai nL3 (ya 0 3 z (yt (yv ⟨(s66, (w64 (s35 + 1)), s67), (sj R1).symm, I56, C_s67, rfl, le, S71, h_s67⟩)))))
 refine W.exit (yo (yq ?_))
 obtain rfl := hext31 _ (sj R1).symm
 refine yu (ye (yg nL4 (y7 ((cs_qT ({ r14 with Cols := r14.Cols, Cons := s36, Idx := r14.Idx }) (⟨⟨w_r14.Cols.a, w_r14.Cols.c⟩, ⟨w_r14.Cons.a, w_r14.Cons.c⟩, ⟨w_r14.Idx.a, w_r14.Idx.c⟩⟩ : W_qT))) (S44.rf m1) z (ya 1 1 z ?_))))
 obtain ⟨I88, L89, S91, hp90⟩ := yag h_s36 S44.front2
 refine yaa S91 0 (cs_qT ({ r14 with Cols := r14.Cols, Cons := s36, Idx := r14.Idx }) (⟨⟨w_r14.Cols.a, w_r14.Cols.c⟩, ⟨w_r14.Cons.a, w_r14.Cons.c⟩, ⟨w_r14.Idx.a, w_r14.Idx.c⟩⟩ : W_qT)) fun w93 S92 => ya 3 1 z (yb (yp ?_))
 have hk96 : ok_qT I88 ({ r14 with Cols := r14.Cols, Cons := s36, Idx := r14.Idx }) (⟨⟨w_r14.Cols.a, w_r14.Cols.c⟩, ⟨w_r14.Cons.a, w_r14.Cons.c⟩, ⟨w_r14.Idx.a, w_r14.Idx.c⟩⟩ : W_qT) := ⟨(RSl.mono hp22 ((L26.trans L33).trans L89)), hp90, (RSl.mono hp27 (L33.trans L89))⟩
 exact sj D ▸ ya5 _ (S92.rd m0) ⟨I88, (⟨⟨w_r14.Cols.a, w_r14.Cols.c⟩, ⟨w_r14.Cons.a, w_r14.Cons.c⟩, ⟨w_r14.Idx.a, w_r14.Idx.c⟩⟩ : W_qT), rfl, le, S92.d2, hk96⟩
noncomputable def r17_renamed (p0 : qC) (p1 : qT) (p2 : By8) : Option (qC × qT) := (r17_pointed p1 p1.Name p2).bind (fun (r22, r23) => (forE (fun (i46 : Nat) (s45 : List qT) => ((idx p0.Tables (i46 : Int)).bind (fun x67 => (r17_pointed x67 p1.Name p2).bind (fun (r77, r78) => some (r77, r78)))).bind (fun ((s81, s82) : qT × Bool) => ((bif s82 then some { s81 with Version := (w64 (p0.Version + 1)) } else some s81)).bind (fun (j115 : qT) => (idx p0.Tables (i46 : Int)).bind (fun x135 => ((bif (!sEq x135.Name p1.Name) then (app 112 s45 ([j115] : List qT)).bind (fun x148 => some x148) else some s45)).bind (fun (j136 : List qT) => some j136))))) p0.Tables.length 0 ([] : List qT)).bind (fun s45 => (forE (fun (i179 : Nat) (s178 : List qG) => (idx p0.Grants (i179 : Int)).bind (fun x195 => ((bif (sEq x195.Table p1.Name) then some { x195 with Table := p2 } else some x195)).bind (fun (j202 : qG) => (app 64 s178 ([j202] : List qG)).bind (fun x236 => some x236)))) p0.Grants.length 0 ([] : List qG)).bind (fun s178 => some ({ p0 with Tables := s45, Grants := s178 }, { r22 with Name := p2 }))))
theorem r17_renamed_ok {p0 : qC} {p1 : qT} {p2 : By8} {w_p0 : W_qC} {w_p1 : W_qT} (h_p0 : ok_qC I p0 w_p0) (h_p1 : ok_qT I p1 w_p1) (hS : St E w I Os) {r : qC × qT} (D : r17_renamed p0 p1 p2 = some r) :
    Calls P 60 #[(vC p0 w_p0), (vT p1 w_p1), (.string p2)] w (fun e w' => ∃ I' w_rw0 w_rw1, e = .returned (.tuple #[(vC r.1 w_rw0), (vT r.2 w_rw1)]) ∧ I.Le I' ∧ St E w' I' Os ∧ ok_qC I' r.1 w_rw0 ∧ ok_qT I' r.2 w_rw1) := by
 refine calls_W (fn := Tryz.f60) rfl rfl rfl ?_
 unfold r17_renamed at D
 refine yg nL4 (yab hS (cs_qC p0 w_p0) 29 z fun b1 w4 S3 => yab S3 (cs_qT p1 w_p1) 78 z fun b5 w8 S7 => yab S7 (cs_qC z_qC zw_qC) 29 z fun b9 w12 S11 => yab S11 (cs_qT z_qT zw_qT) 78 z fun b13 w16 S15 => yac nL11 (y7 ((cs_qT p1 w_p1)) (S15.rf m2) z (yf 1 1 [0] z (yj (S15.rf m2) z (ya 3 1 z ?_)))))
 obtain ⟨⟨r22, r23⟩, Xr17, D⟩ := bsm D
 refine yae (r17_pointed_ok h_p1 S15 Xr17) ?_
 rintro _ w18 ⟨I19, w_r22, rfl, L20, S21, h_r22⟩
 refine cv (ya 5 3 z (yab S21 (cs_qT z_qT zw_qT) 78 z fun b24 w27 S26 => yaa S26 0 (cs_qT r22 w_r22) fun w29 S28 => ya 10 1 z (yac nL3 (yf 0 2 [0] z (yaa S28 0 (cs_qT ({ r22 with Name := p2 }) w_r22) fun w31 S30 => yac nL3 (y7 ((cs_qC p0 w_p0)) (S30.rf m4) z (yab S30 (cs_qC z_qC zw_qC) 29 z fun b32 w35 S34 => yaa S34 0 (cs_qC p0 w_p0) fun w37 S36 => yac nL2 (yf 0 1 [1] z (yaa S36 1 (cs_qC ({ p0 with Tables := ([] : List qT) }) ({ w_p0 with Tables := ⟨none, 0⟩ })) fun w39 S38 => yac nL2 (yf 0 1 [3] z (yaa S38 3 (cs_qC ({ p0 with Tables := ([] : List qT), Grants := ([] : List qG) }) ({ w_p0 with Tables := ⟨none, 0⟩, Grants := ⟨none, 0⟩ })) fun w41 S40 => yb (W.seq (yg [0] (ya 0 1 z (yb (yn (bsk D fun s45 hloop47 D => have hlt59 := ((RSl.mono h_p0.Tables L20)).len_lt; W.wk (ya0 (m := p0.Tables.length) hloop47 (fun (i46 : Nat) (s45 : List qT) fr w => ∃ I43 a_s45 c_s45 C_s45, fr = [(2, .string p2), (3, Pt b1 0), (4, Pt b5 0), (6, Pt b9 0), (7, Pt b13 0), (8, Pt b24 0), (10, Pt b32 0), (11, Nv i46)] ∧ I19.Le I43 ∧ St E w I43 (bC b1 p0 w_p0 :: (bT b5 p1 w_p1) :: (bC b9 z_qC zw_qC) :: (bT b13 z_qT zw_qT) :: (Bx b24 (cs_qT ({ r22 with Name := p2 }) w_r22) 78) :: (Bx b32 (cs_qC ({ p0 with Tables := s45, Grants := ([] : List qG) }) ({ w_p0 with Tables := ⟨a_s45, c_s45⟩, Grants := ⟨none, 0⟩ })) 29) :: (C_s45) :: Os) ∧ OwnSl 78 6 R_qT I43 C_s45 a_s45 c_s45 s45) ⟨I19, none, 0, Mem.no, rfl, lr, S40.no.front1.front2.front3.front4.front5.front6, OwnSl.nil⟩ ?_ ?_))))))))))))))))))
 rintro i46 s45 _ w56 hi60 ⟨I43, a_s45, c_s45, C_s45, rfl, L44, S57, h_s45⟩ x58 R1
 refine W.seq (yg nL5 (yf 0 2 [1] z (yj (S57.rf m0) z (ya 3 2 z (yb (yat fun _ => W.skip (ye (W.seq (yn (W.seq (bsk R1 fun j61 R2 R1 => yay (J := (fun fr w => ∃ (s81 : qT) (s82 : Bool), ∃ I63 w_s81 b_s81, (s81, s82) = j61 ∧ fr = [(2, .string p2), (3, Pt b1 0), (4, Pt b5 0), (6, Pt b9 0), (7, Pt b13 0), (8, Pt b24 0), (10, Pt b32 0), (11, Nv i46), (12, Pt b_s81 0), (13, .bool s82)] ∧ I43.Le I63 ∧ St E w I63 (bC b1 p0 w_p0 :: (bT b5 p1 w_p1) :: (bC b9 z_qC zw_qC) :: (bT b13 z_qT zw_qT) :: (Bx b24 (cs_qT ({ r22 with Name := p2 }) w_r22) 78) :: (Bx b32 (cs_qC ({ p0 with Tables := s45, Grants := ([] : List qG) }) ({ w_p0 with Tables := ⟨a_s45, c_s45⟩, Grants := ⟨none, 0⟩ })) 29) :: (bT b_s81 s81 w_s81) :: (C_s45) :: Os) ∧ ok_qT I63 s81 w_s81)) ?_ ?_)))))))))))
 have S65 := S57.drew
 refine ybs (.split 12 8 (.leaf [0, 1, 2, 3, 4, 5, 6, 7, 12, 8, 9, 10, 11, 13, 14]) (.leaf nL15)) 13 (KR I43 [bC b1 p0 w_p0, bT b5 p1 w_p1]) qR (.ords nL15 [0, 1, 2, 3, 4, 5, 6, 7, 8, 9, 10, 12, 13, 11, 14] kr kr kr kr kr) kr (ym (S65.rd m0) (ym (S65.rd m1) (yx S65.im))) ?_
 generalize World.drew _ = w66 at *
 refine ⟨?_, ?_⟩
 show WO _ _ _ _ _ _ _ [0, 1, 2, 3, 4, 5, 6, 7, 12, 8, 9, 10, 11, 13, 14] _ _
 refine yf 0 1 [1] z (yj (rd_c m0 (S65.rd m0)) z (ya 2 1 z ?_))
 obtain ⟨x67, R2, Hx67, _, ⟨w_x67, rfl, h_x67⟩, Zx67⟩ := sx I43 h_p0.Tables R2
 refine y0 78 6 Hx67 z (yaq ((cs_qT x67 w_x67)) Zx67 0 (rd_i S65.im) z (yf 5 1 [0] z (yj (rd_c m1 (S65.rd m1)) z (ya 7 1 z (ybb S65 z kr z (.cells (cs_qT z_qT zw_qT).toArray 78 (0, 0)) (fun b => .pointer (some ⟨b, 0, none⟩)) kr (fun b68 w71 S70 => (ym (S70.rd m1) (ym (S70.rd m2) (yx S70.im)))) ?_)))))
 intro b68 w71 S70
 obtain ⟨⟨r77, r78⟩, Xr72, R2⟩ := bsm R2
 refine yae (r17_pointed_ok h_x67 S70 Xr72) ?_
 rintro _ w73 ⟨I74, w_r77, rfl, L75, S76, h_r77⟩
 refine ⟨_, rfl, (ym (S76.rd m1) (ym (S76.rd m2) (yx (S76.im.of_le L75)))), ?_⟩
 exact ya 9 3 z (WO.tail z (yaa S76 0 (cs_qT r77 w_r77) fun w80 S79 => ya 14 1 z (yt (yv ⟨r77, r78, I74, w_r77, b68, sj R2, rfl, L75, S79.front7.front1.front7.front7.front7.front7.front7.front7, h_r77⟩))))
 show WO _ _ _ _ _ _ _ nL15 _ _
 refine yf 0 1 [1] z (yj (rd_c m0 (S65.rd m0)) z (ya 2 1 z ?_))
 obtain ⟨x91, R2, Hx91, _, ⟨w_x91, rfl, h_x91⟩, Zx91⟩ := sx I43 h_p0.Tables R2
 refine y0 78 6 Hx91 z (yaq ((cs_qT x91 w_x91)) Zx91 0 (rd_i S65.im) z (yf 5 1 [0] z (yj (rd_c m1 (S65.rd m1)) z (ya 7 1 z ?_))))
 obtain ⟨⟨r97, r98⟩, Xr92, R2⟩ := bsm R2
 refine yae (r17_pointed_ok h_x91 S65 Xr92) ?_
 rintro _ w93 ⟨I94, w_r97, rfl, L95, S96, h_r97⟩
 refine ⟨_, rfl, (ym (S96.rd m0) (ym (S96.rd m1) (yx (S96.im.of_le L95)))), ?_⟩
 refine ya 9 3 z (ybb S96 z kr z (.cells (cs_qT z_qT zw_qT).toArray 78 (0, 0)) (fun b => .pointer (some ⟨b, 0, none⟩)) kr (fun b99 w102 S101 => (ym (S101.rd m1) (ym (S101.rd m2) (yx (S101.im.of_le L95))))) ?_)
 intro b99 w102 S101
 exact WO.tail z (yaa S101 0 (cs_qT r97 w_r97) fun w104 S103 => ya 14 1 z (yt (yv ⟨r97, r98, I94, w_r97, b99, sj R2, rfl, L95, S103.front7.front1.front7.front7.front7.front7.front7.front7, h_r97⟩)))
 rintro _ w113 ⟨s81, s82, I63, w_s81, b_s81, rfl, rfl, L64, S114, h_s81⟩
 refine ye (W.seq (yg [0] (ya 0 1 z (yb (bsk R1 fun j115 R2 R1 => yay (J := (fun fr w => ∃ I117 w_j115, fr = [(2, .string p2), (3, Pt b1 0), (4, Pt b5 0), (6, Pt b9 0), (7, Pt b13 0), (8, Pt b24 0), (10, Pt b32 0), (11, Nv i46), (12, Pt b_s81 0)] ∧ I63.Le I117 ∧ St E w I117 (bC b1 p0 w_p0 :: (bT b5 p1 w_p1) :: (bC b9 z_qC zw_qC) :: (bT b13 z_qT zw_qT) :: (Bx b24 (cs_qT ({ r22 with Name := p2 }) w_r22) 78) :: (Bx b32 (cs_qC ({ p0 with Tables := s45, Grants := ([] : List qG) }) ({ w_p0 with Tables := ⟨a_s45, c_s45⟩, Grants := ⟨none, 0⟩ })) 29) :: (bT b_s81 j115 w_j115) :: (C_s45) :: Os) ∧ ok_qT I117 j115 w_j115)) ?_ ?_)))))
 refine y6 R2 (fun G R2 => ?_) (fun G R2 => ?_)
 refine yai nL5 (yf 0 1 [0] z (yj (S114.rf m0) z (yf 2 2 [2] z (yaa S114.front6 2 (cs_qT ({ s81 with Version := (w64 (p0.Version + 1)) }) w_s81) fun w121 S120 => yt ?_))))
 have hk122 : ok_qT I63 ({ s81 with Version := (w64 (p0.Version + 1)) }) w_s81 := ⟨h_s81.Cols, h_s81.Cons, h_s81.Idx⟩
 exact sj R2 ▸ yv ⟨I63, w_s81, rfl, lr, S120.front7.front1.front7.front7.front7.front7.front7.front7, hk122⟩
 exact W.skip (sj R2 ▸ yv ⟨I63, w_s81, rfl, lr, S114, h_s81⟩)
 rintro _ w131 ⟨I117, w_j115, rfl, L118, S132, h_j115⟩
 refine ye (W.seq (have S133 := S132.drew; ya1 nL9 8 (ym (S133.rd m0) (ym (S133.rd m1) (yx S133.im))) ?_))
 generalize World.drew _ = w134 at *
 refine yf 0 1 [1] z (yj (rd_c m0 (S133.rd m0)) z (ya 2 1 z ?_))
 obtain ⟨x135, R1, Hx135, _, ⟨w_x135, rfl, h_x135⟩, Zx135⟩ := sx I117 h_p0.Tables R1
 refine y0 78 6 Hx135 z (yf 4 1 [0] z (yan Zx135 (rd_i S133.im) z (yf 6 1 [0] z (yj (rd_c m1 (S133.rd m1)) z (WO.tail z (ya 8 1 z (yb (bsk R1 fun j136 R2 R1 => yay (J := (fun fr w => ∃ I138 a_j136 c_j136 C_j136, fr = [(2, .string p2), (3, Pt b1 0), (4, Pt b5 0), (6, Pt b9 0), (7, Pt b13 0), (8, Pt b24 0), (10, Pt b32 0), (11, Nv i46)] ∧ I117.Le I138 ∧ St E w I138 (bC b1 p0 w_p0 :: (bT b5 p1 w_p1) :: (bC b9 z_qC zw_qC) :: (bT b13 z_qT zw_qT) :: (Bx b24 (cs_qT ({ r22 with Name := p2 }) w_r22) 78) :: (Bx b32 (cs_qC ({ p0 with Tables := j136, Grants := ([] : List qG) }) ({ w_p0 with Tables := ⟨a_j136, c_j136⟩, Grants := ⟨none, 0⟩ })) 29) :: (C_j136) :: Os) ∧ OwnSl 78 6 R_qT I138 C_j136 a_j136 c_j136 j136)) ?_ ?_))))))))
 refine y6 R2 (fun G R2 => ?_) (fun G R2 => ?_)
 refine yai nL7 (yf 0 1 [1] z (yj (S133.rf m5) z (y7 ((cs_qT j115 w_j115)) (S133.rf m6) z (yad (rel := R_qT) (xs := ([j115] : List qT)) S133 z kr z 78 6 [(cs_qT j115 w_j115)] kr z ((Elr.cons ⟨w_j115, rfl, h_j115⟩ Elr.nil)) tv ?_))))
 intro a143 C141 w145 S144 ho142
 have S147 := S144.front8
 exact apk R2 fun x148 h0_x148 he_x148 R2 => yau 78 112 (cs_qT z_qT zw_qT) S147 (OwnSl.mono h_s45 le) ho142.sl (S147.rd m1) h0_x148 he_x148 z fun a149 c150 w151 C152 S153 ho154 => yf 5 1 [1] z (yaa S153.front1.drop.front6 1 (cs_qC ({ p0 with Tables := x148, Grants := ([] : List qG) }) ({ w_p0 with Tables := ⟨a149, c150⟩, Grants := ⟨none, 0⟩ })) fun w159 S158 => yt (sj R2 ▸ yv ⟨I117, a149, c150, C152, rfl, lr, S158.front7.drop.front1.front1.front6.front6.front6.front6.front6, ho154⟩))
 exact W.skip (sj R2 ▸ yv ⟨I117, a_s45, c_s45, C_s45, rfl, lr, S133.front6.drop, (OwnSl.mono h_s45 le)⟩)
 rintro _ w171 ⟨I138, a_j136, c_j136, C_j136, rfl, L139, S172, h_j136⟩
 exact yl (ye (yai nL3 (ya 0 1 z (yao i46 z (ya 2 1 z (yt (sj R1 ▸ yv ⟨I138, a_j136, c_j136, C_j136, rfl, le, S172, h_j136⟩)))))))
 rintro _ w173 ⟨I43, a_s45, c_s45, C_s45, rfl, L44, S174, h_s45⟩
 refine W.seq (yg nL5 (yf 0 2 [1] z (yj (S174.rf m0) z (ya 3 2 z (yb (yas fun _ => W.exit (yo (yq (yu (ye (W.seq (yg [0] (ya 0 1 z (yb (yn (bsk D fun s178 hloop180 D => have hlt193 := ((RSl.mono h_p0.Grants (L20.trans L44))).len_lt; W.wk (ya0 (m := p0.Grants.length) hloop180 (fun (i179 : Nat) (s178 : List qG) fr w => ∃ I176 a_s178 c_s178 C_s178, fr = [(2, .string p2), (3, Pt b1 0), (4, Pt b5 0), (6, Pt b9 0), (7, Pt b13 0), (8, Pt b24 0), (10, Pt b32 0), (14, Nv i179)] ∧ I43.Le I176 ∧ St E w I176 (bC b1 p0 w_p0 :: (bT b5 p1 w_p1) :: (bC b9 z_qC zw_qC) :: (bT b13 z_qT zw_qT) :: (Bx b24 (cs_qT ({ r22 with Name := p2 }) w_r22) 78) :: (Bx b32 (cs_qC ({ p0 with Tables := s45, Grants := s178 }) ({ w_p0 with Tables := ⟨a_s45, c_s45⟩, Grants := ⟨a_s178, c_s178⟩ })) 29) :: (C_s45) :: (C_s178) :: Os) ∧ OwnSl 92 5 R_qG I176 C_s178 a_s178 c_s178 s178) ⟨I43, none, 0, Mem.no, rfl, lr, S174.no.front7.front7.front7.front7.front7.front7.front7, OwnSl.nil⟩ ?_ ?_)))))))))))))))))
 rintro i179 s178 _ w190 hi194 ⟨I176, a_s178, c_s178, C_s178, rfl, L177, S191, h_s178⟩ x192 R1
 refine W.seq (yg nL5 (yf 0 2 [3] z (yj (S191.rf m0) z (ya 3 2 z (yb (yat fun _ => W.skip (ye (W.seq (yn (yg nL7 (yf 0 1 [3] z (yj (S191.rf m0) z (ya 2 1 z ?_)))))))))))))
 obtain ⟨x195, R1, Hx195, _, rfl, Zx195⟩ := sx I176 h_p0.Grants R1
 refine y0 92 5 Hx195 z (yaq ((cs_qG x195)) Zx195 0 S191.rm z (yab S191 (cs_qG z_qG) 92 z fun b196 w199 S198 => yaa S198 0 (cs_qG x195) fun w201 S200 => yb (W.seq (yg nL5 (yf 0 1 [2] z (yj (S200.rf m0) z (yf 2 1 [0] z (yj (S200.rf m2) z (ya 4 1 z (yb (bsk R1 fun j202 R2 R1 => yay (J := JI E I176 [(2, .string p2), (3, Pt b1 0), (4, Pt b5 0), (6, Pt b9 0), (7, Pt b13 0), (8, Pt b24 0), (10, Pt b32 0), (14, Nv i179), (15, Pt b196 0)] (bC b1 p0 w_p0 :: (bT b5 p1 w_p1) :: (bC b9 z_qC zw_qC) :: (bT b13 z_qT zw_qT) :: (Bx b24 (cs_qT ({ r22 with Name := p2 }) w_r22) 78) :: (Bx b32 (cs_qC ({ p0 with Tables := s45, Grants := s178 }) ({ w_p0 with Tables := ⟨a_s45, c_s45⟩, Grants := ⟨a_s178, c_s178⟩ })) 29) :: (bG b196 j202) :: (C_s45) :: (C_s178) :: Os)) ?_ ?_)))))))))))
 refine y6 R2 (fun G R2 => ?_) (fun G R2 => ?_)
 exact yai nL3 (yf 0 2 [2] z (yaa S200 2 (cs_qG ({ x195 with Table := p2 })) fun w207 S206 => yt (sj R2 ▸ yv ⟨I176, rfl, lr, S206.front8.front8.front2.front8.front8.front8.front8.front8.front8⟩)))
 exact W.skip (sj R2 ▸ yv ⟨I176, rfl, lr, S200.front8.front8.front2.front8.front8.front8.front8.front8.front8⟩)
 rintro _ w226 ⟨I204, rfl, L205, S227⟩
 refine ye (yai nL7 (yf 0 1 [3] z (yj (S227.rf m5) z (y7 ((cs_qG j202)) (S227.rf m6) z (yad (rel := R_qG) (xs := ([j202] : List qG)) S227 z kr z 92 5 [(cs_qG j202)] kr z ((Elr.cons z Elr.nil)) tv ?_)))))
 intro a231 C229 w233 S232 ho230
 have S235 := S232.front9
 exact apk R1 fun x236 h0_x236 he_x236 R1 => yau 92 64 (cs_qG z_qG) S235 (OwnSl.mono h_s178 L205) ho230.sl (S235.rd m1) h0_x236 he_x236 z fun a237 c238 w239 C240 S241 ho242 => yf 5 1 [3] z (yaa S241.front1.drop.front6 3 (cs_qC ({ p0 with Tables := s45, Grants := x236 }) ({ w_p0 with Tables := ⟨a_s45, c_s45⟩, Grants := ⟨a237, c238⟩ })) fun w247 S246 => yt (yl (ye (yai nL3 (ya 0 1 z (yao i179 z (ya 2 1 z (yt (sj R1 ▸ yv ⟨I204, a237, c238, C240, rfl, le, S246.front7.drop.front1.front7.front2.front7.front7.front7.front7.front7, ho242⟩)))))))))
 rintro _ w258 ⟨I176, a_s178, c_s178, C_s178, rfl, L177, S259, h_s178⟩
 refine W.seq (yg nL5 (yf 0 2 [3] z (yj (S259.rf m0) z (ya 3 2 z (yb (yas fun _ => W.exit (yo (yq (yu (ye (W.seq (have S260 := S259.drew; ybl (l := nL4) kr 3 (KR I176 [Bx b24 (cs_qT ({ r22 with Name := p2 }) w_r22) 78, Bx b32 (cs_qC ({ p0 with Tables := s45, Grants := s178 }) ({ w_p0 with Tables := ⟨a_s45, c_s45⟩, Grants := ⟨a_s178, c_s178⟩ })) 29]) qR (.ords nL4 [0, 2, 1, 3] kr kr kr kr kr) kr (ym (S260.rd m4) (ym (S260.rd m5) (yx S260.im))) ?_))))))))))))
 generalize World.drew _ = w261 at *
 refine y7 ((cs_qC ({ p0 with Tables := s45, Grants := s178 }) ({ w_p0 with Tables := ⟨a_s45, c_s45⟩, Grants := ⟨a_s178, c_s178⟩ }))) (rd_c m1 (S260.rd m5)) z (y7 ((cs_qT ({ r22 with Name := p2 }) w_r22)) (rd_c m0 (S260.rd m4)) z ?_)
 obtain ⟨I263, L264, S266, hp265⟩ := yag (h_s45.mono L177) S260.front6
 obtain ⟨I268, L269, S271, hp270⟩ := yag (h_s178.mono L264) S266.front6
 refine ybj S271.front2 z kr z 0 z z kr kr kr ((cs_qC ({ p0 with Tables := s45, Grants := s178 }) ({ w_p0 with Tables := ⟨a_s45, c_s45⟩, Grants := ⟨a_s178, c_s178⟩ })).toArray) kr (fun w274 S273 => (ym (S273.rd m4) (ym (S273.rd m5) (yx (S273.im.of_le le))))) ?_
 intro w274 S273
 refine WO.tail z (yaa S273.front3 0 (cs_qT ({ r22 with Name := p2 }) w_r22) fun w277 S276 => yb (yp ?_))
 have hk284 : ok_qC I268 ({ p0 with Tables := s45, Grants := s178 }) ({ w_p0 with Tables := ⟨a_s45, c_s45⟩, Grants := ⟨a_s178, c_s178⟩ }) := ⟨(RSl.mono hp265 L269), (RSl.mono h_p0.Roles ((((L20.trans L44).trans L177).trans L264).trans L269)), hp270⟩
 have hk285 : ok_qT I268 ({ r22 with Name := p2 }) w_r22 := ⟨(RSl.mono h_r22.Cols (((L44.trans L177).trans L264).trans L269)), (RSl.mono h_r22.Cons (((L44.trans L177).trans L264).trans L269)), (RSl.mono h_r22.Idx (((L44.trans L177).trans L264).trans L269))⟩
 exact sj D ▸ En.retc2 z (.agg (cs_qC ({ p0 with Tables := s45, Grants := s178 }) ({ w_p0 with Tables := ⟨a_s45, c_s45⟩, Grants := ⟨a_s178, c_s178⟩ })).toArray) (.agg (cs_qT ({ r22 with Name := p2 }) w_r22).toArray) ⟨_, _, rfl, run_loadVarN (cs := (cs_qC ({ p0 with Tables := s45, Grants := s178 }) ({ w_p0 with Tables := ⟨a_s45, c_s45⟩, Grants := ⟨a_s178, c_s178⟩ }))) kr kr (cells_one (S276.rd m1) kr)⟩ ⟨_, _, rfl, run_loadVarN (cs := (cs_qT ({ r22 with Name := p2 }) w_r22)) kr kr (cells_one (S276.rd m0) kr)⟩ ⟨I268, ({ w_p0 with Tables := ⟨a_s45, c_s45⟩, Grants := ⟨a_s178, c_s178⟩ }), w_r22, rfl, le, S276.d6, hk284, hk285⟩
def r14_Names (p0 : qT) : Option ((List By8) × (List By8)) := (forE (fun (i9 : Nat) (s8 : List By8) => (idx p0.Cols (i9 : Int)).bind (fun x19 => (app 16 s8 ([x19.Name] : List By8)).bind (fun x28 => some x28))) p0.Cols.length 0 ([] : List By8)).bind (fun s8 => (forE (fun (i44 : Nat) (s43 : List By8) => (idx p0.Cons (i44 : Int)).bind (fun x55 => (app 16 s43 ([x55.Name] : List By8)).bind (fun x64 => some x64))) p0.Cons.length 0 ([] : List By8)).bind (fun s43 => (forE (fun (i81 : Nat) (s80 : List By8) => (idx p0.Idx (i81 : Int)).bind (fun x88 => (app 16 s80 ([x88.Name] : List By8)).bind (fun x97 => some x97))) p0.Idx.length 0 s43).bind (fun s80 => some (s8, s80))))
theorem r14_Names_ok {p0 : qT} {w_p0 : W_qT} (h_p0 : ok_qT I p0 w_p0) (hS : St E w I Os) {r : (List By8) × (List By8)} (D : r14_Names p0 = some r) :
    Calls P 90 #[(vT p0 w_p0)] w (fun e w' => ∃ (I' : Mem) (ra0 : Option Addr) (rc0 : Nat) (ra1 : Option Addr) (rc1 : Nat), e = .returned (.tuple #[(Sl ra0 r.1 rc0), (Sl ra1 r.2 rc1)]) ∧ I.Le I' ∧ St E w' I' Os ∧ RSl 1 RStr I' ra0 rc0 r.1 ∧ RSl 1 RStr I' ra1 rc1 r.2) := by
 refine calls_W (fn := Tryz.f90) rfl rfl rfl ?_
 unfold r14_Names at D
 refine yg nL3 (yab hS (cs_qT p0 w_p0) 78 z fun b1 w4 S3 => WO.vs 1 [(2, .slice none 0 0), (3, .slice none 0 0)] (yac nL2 (WO.vs 0 [(4, .slice none 0 0), (5, .slice none 0 0)] (yb (W.seq (yg [0] (ya 0 1 z (yb (yn (bsk D fun s8 hloop10 D => have hlt17 := (h_p0.Cols).len_lt; W.wk (ya0 (m := p0.Cols.length) hloop10 (fun (i9 : Nat) (s8 : List By8) fr w => ∃ I6 a_s8 c_s8 C_s8, fr = [(1, Pt b1 0), (4, Sl a_s8 s8 c_s8), (5, .slice none 0 0), (6, Nv i9)] ∧ I.Le I6 ∧ St E w I6 (bT b1 p0 w_p0 :: (C_s8) :: Os) ∧ OwnSl 9 1 RStr I6 C_s8 a_s8 c_s8 s8) ⟨I, none, 0, Mem.no, rfl, lr, S3.no.front1, OwnSl.nil⟩ ?_ ?_)))))))))))
 rintro i9 s8 _ w14 hi18 ⟨I6, a_s8, c_s8, C_s8, rfl, L7, S15, h_s8⟩ x16 R1
 refine W.seq (yg nL5 (yf 0 2 [3] z (yj (S15.rf m0) z (ya 3 2 z (yb (yat fun _ => W.skip (ye (W.seq (yn (yai nL10 (yf 0 2 [3] z (yj (S15.rf m0) z (ya 3 1 z ?_)))))))))))))
 obtain ⟨x19, R1, Hx19, _, rfl, Zx19⟩ := sx I6 h_p0.Cols R1
 refine y0 111 3 Hx19 z (yf 5 1 [0] z (yan Zx19 S15.rm z (yad (rel := RStr) (xs := ([x19.Name] : List By8)) S15 z kr z 9 1 [[(.string x19.Name)]] kr z ((Elr.cons z Elr.nil)) tv ?_)))
 intro a23 C21 w25 S24 ho22
 have S27 := S24.front2
 exact apk R1 fun x28 h0_x28 he_x28 R1 => yau 9 16 [(.string eB)] S27 h_s8 ho22.sl (S27.rd m1) h0_x28 he_x28 z fun a29 c30 w31 C32 S33 ho34 => ya 9 1 z (yt (yl (ye (yai nL3 (ya 0 1 z (yao i9 z (ya 2 1 z (yt (sj R1 ▸ yv ⟨I6, a29, c30, C32, rfl, L7, S33.front1.drop.front1, ho34⟩)))))))))
 rintro _ w38 ⟨I6, a_s8, c_s8, C_s8, rfl, L7, S39, h_s8⟩
 refine W.seq (yg nL5 (yf 0 2 [3] z (yj (S39.rf m0) z (ya 3 2 z (yb (yas fun _ => W.exit (yo (yq (yu (ye (W.seq (yg [0] (ya 0 1 z (yb (yn (bsk D fun s43 hloop45 D => have hlt53 := ((RSl.mono h_p0.Cons L7)).len_lt; W.wk (ya0 (m := p0.Cons.length) hloop45 (fun (i44 : Nat) (s43 : List By8) fr w => ∃ I41 a_s43 c_s43 C_s43, fr = [(1, Pt b1 0), (4, Sl a_s8 s8 c_s8), (5, Sl a_s43 s43 c_s43), (7, Nv i44)] ∧ I6.Le I41 ∧ St E w I41 (bT b1 p0 w_p0 :: (C_s8) :: (C_s43) :: Os) ∧ OwnSl 9 1 RStr I41 C_s43 a_s43 c_s43 s43) ⟨I6, none, 0, Mem.no, rfl, lr, S39.no.front2.front2, OwnSl.nil⟩ ?_ ?_)))))))))))))))))
 rintro i44 s43 _ w50 hi54 ⟨I41, a_s43, c_s43, C_s43, rfl, L42, S51, h_s43⟩ x52 R1
 refine W.seq (yg nL5 (yf 0 2 [4] z (yj (S51.rf m0) z (ya 3 2 z (yb (yat fun _ => W.skip (ye (W.seq (yn (yai nL10 (yf 0 2 [4] z (yj (S51.rf m0) z (ya 3 1 z ?_)))))))))))))
 obtain ⟨x55, R1, Hx55, _, ⟨w_x55, rfl, h_x55⟩, Zx55⟩ := sx I41 h_p0.Cons R1
 refine y0 137 12 Hx55 z (yf 5 1 [0] z (yan Zx55 S51.rm z (yad (rel := RStr) (xs := ([x55.Name] : List By8)) S51 z kr z 9 1 [[(.string x55.Name)]] kr z ((Elr.cons z Elr.nil)) tv ?_)))
 intro a59 C57 w61 S60 ho58
 have S63 := S60.front3
 exact apk R1 fun x64 h0_x64 he_x64 R1 => yau 9 16 [(.string eB)] S63 h_s43 ho58.sl (S63.rd m1) h0_x64 he_x64 z fun a65 c66 w67 C68 S69 ho70 => ya 9 1 z (yt (yl (ye (yai nL3 (ya 0 1 z (yao i44 z (ya 2 1 z (yt (sj R1 ▸ yv ⟨I41, a65, c66, C68, rfl, L42, S69.front1.drop.front2.front2, ho70⟩)))))))))
 rintro _ w75 ⟨I41, a_s43, c_s43, C_s43, rfl, L42, S76, h_s43⟩
 refine W.seq (yg nL5 (yf 0 2 [4] z (yj (S76.rf m0) z (ya 3 2 z (yb (yas fun _ => W.exit (yo (yq (yu (ye (W.seq (yg [0] (ya 0 1 z (yb (yn (bsk D fun s80 hloop82 D => have hlt86 := ((RSl.mono h_p0.Idx (L7.trans L42))).len_lt; W.wk (ya0 (m := p0.Idx.length) hloop82 (fun (i81 : Nat) (s80 : List By8) fr w => ∃ I78 a_s80 c_s80 C_s80, fr = [(1, Pt b1 0), (4, Sl a_s8 s8 c_s8), (5, Sl a_s80 s80 c_s80), (8, Nv i81)] ∧ I41.Le I78 ∧ St E w I78 (bT b1 p0 w_p0 :: (C_s8) :: (C_s80) :: Os) ∧ OwnSl 9 1 RStr I78 C_s80 a_s80 c_s80 s80) ⟨I41, a_s43, c_s43, C_s43, rfl, lr, S76, h_s43⟩ ?_ ?_)))))))))))))))))
 rintro i81 s80 _ w83 hi87 ⟨I78, a_s80, c_s80, C_s80, rfl, L79, S84, h_s80⟩ x85 R1
 refine W.seq (yg nL5 (yf 0 2 [5] z (yj (S84.rf m0) z (ya 3 2 z (yb (yat fun _ => W.skip (ye (W.seq (yn (yai nL10 (yf 0 2 [5] z (yj (S84.rf m0) z (ya 3 1 z ?_)))))))))))))
 obtain ⟨x88, R1, Hx88, _, ⟨w_x88, rfl, h_x88⟩, Zx88⟩ := sx I78 h_p0.Idx R1
 refine y0 139 2 Hx88 z (yf 5 1 [0] z (yan Zx88 S84.rm z (yad (rel := RStr) (xs := ([x88.Name] : List By8)) S84 z kr z 9 1 [[(.string x88.Name)]] kr z ((Elr.cons z Elr.nil)) tv ?_)))
 intro a92 C90 w94 S93 ho91
 have S96 := S93.front3
 exact apk R1 fun x97 h0_x97 he_x97 R1 => yau 9 16 [(.string eB)] S96 h_s80 ho91.sl (S96.rd m1) h0_x97 he_x97 z fun a98 c99 w100 C101 S102 ho103 => ya 9 1 z (yt (yl (ye (yai nL3 (ya 0 1 z (yao i81 z (ya 2 1 z (yt (sj R1 ▸ yv ⟨I78, a98, c99, C101, rfl, L79, S102.front1.drop.front2.front2, ho103⟩)))))))))
 rintro _ w108 ⟨I78, a_s80, c_s80, C_s80, rfl, L79, S109, h_s80⟩
 refine W.seq (yg nL5 (yf 0 2 [5] z (yj (S109.rf m0) z (ya 3 2 z (yb (yas fun _ => W.exit (yo (yq (yu (ye (yg nL4 (ya 0 2 z ?_))))))))))))
 obtain ⟨I111, L112, S114, hp113⟩ := yag (h_s8.mono (L42.trans L79)) S109.front1
 refine ya 2 1 z ?_
 obtain ⟨I116, L117, S119, hp118⟩ := yag (h_s80.mono L112) S114.front1
 exact ya 3 1 z (yb (yp (sj D ▸ yaz ⟨I116, a_s8, c_s8, a_s80, c_s80, rfl, le, S119.drop, (RSl.mono hp113 L117), hp118⟩)))
def r14_Col (p0 : qT) (p1 : By8) : Option Int := (forN (fun (i8 : Nat) (_s : Unit) => (idx p0.Cols (i8 : Int)).bind (fun x15 => (bif (sEq x15.Name p1) then some (.inr (i8 : Int)) else some (.inl ())))) p0.Cols.length 0 ()).bind (fun (t : Unit ⊕ (Int)) => match t with | .inl _ => some (-1) | .inr s17 => some s17)
theorem r14_Col_ok {p0 : qT} {p1 : By8} {w_p0 : W_qT} (h_p0 : ok_qT I p0 w_p0) (hS : St E w I Os) {r : Int} (D : r14_Col p0 p1 = some r) :
    Calls P 91 #[(vT p0 w_p0), (.string p1)] w (RT E I Os (Iv r)) := by
 refine calls_W (fn := Tryz.f91) rfl rfl rfl ?_
 unfold r14_Col at D
 refine yg nL2 (yab hS (cs_qT p0 w_p0) 78 z fun b1 w4 S3 => ya 1 1 z (yb (W.seq (yg [0] (ya 0 1 z (yb (yn (bsk D fun t5 hloop9 D => have hlt13 := (h_p0.Cols).len_lt; W.wk (yap (m := p0.Cols.length) hloop9 (fun (i8 : Nat) (_s : Unit) => JI E I [(1, .string p1), (2, Pt b1 0), (5, Nv i8)] (bT b1 p0 w_p0 :: Os)) ⟨I, rfl, lr, S3⟩ ?_ ?_)))))))))
 rintro i8 _ _ w10 hi14 ⟨I6, rfl, L7, S11⟩ x12 R1 hext5
 refine W.seq (yg nL5 (yf 0 2 [3] z (yj (S11.rf m0) z (ya 3 2 z (yb (yat fun _ => W.skip (ye (W.seq (yn (yg nL8 (yf 0 1 [3] z (yj (S11.rf m0) z (ya 2 1 z ?_)))))))))))))
 obtain ⟨x15, R1, Hx15, _, rfl, Zx15⟩ := sx I6 h_p0.Cols R1
 refine y0 111 3 Hx15 z (yf 4 1 [0] z (yan Zx15 S11.rm z (ya 6 2 z (yb (y6 R1 (fun G R1 => ?_) (fun G R1 => ?_))))))
 refine yg nL2 (ya 0 2 z (yb (yp (yk (yh (yr ?_))))))
 obtain rfl := hext5 _ (sj R1).symm
 exact yk (yh (sj D ▸ yw ⟨I6, rfl, L7, S11.drop⟩))
 exact W.skip (yl (ye (yai nL3 (ya 0 1 z (yao i8 z (ya 2 1 z (yt (yv ⟨(), (sj R1).symm, I6, rfl, L7, S11⟩))))))))
 rintro _ _ w20 ⟨I6, rfl, L7, S21⟩ he
 cases he
 exact W.seq (yg nL5 (yf 0 2 [3] z (yj (S21.rf m0) z (ya 3 2 z (yb (yas fun _ => W.exit (yo (yq (yu (ye (yg [0] (ya 0 1 z (yb (yp (sj D ▸ yw ⟨I6, rfl, L7, S21.drop⟩)))))))))))))))
def r14_lists (p0 : qT) : Option (List (List By8)) := (forE (fun (i9 : Nat) (s8 : List (List By8)) => (idx p0.Cons (i9 : Int)).bind (fun x19 => (app 24 s8 ([x19.Cols] : List (List By8))).bind (fun x28 => some x28))) p0.Cons.length 0 ([] : List (List By8))).bind (fun s8 => (forE (fun (i44 : Nat) (s43 : List (List By8)) => (idx p0.Idx (i44 : Int)).bind (fun x51 => (app 24 s43 ([x51.Cols] : List (List By8))).bind (fun x60 => some x60))) p0.Idx.length 0 s8).bind (fun s43 => some s43))
theorem r14_lists_ok {p0 : qT} {w_p0 : W_qT} (h_p0 : ok_qT I p0 w_p0) (hS : St E w I Os) {r : (List (List By8))} (D : r14_lists p0 = some r) :
    Calls P 114 #[(vT p0 w_p0)] w (fun e w' => ∃ (I' : Mem) (ra0 : Option Addr) (rc0 : Nat), e = .returned (Sl ra0 r rc0) ∧ I.Le I' ∧ St E w' I' Os ∧ RSl 1 (RSlC 1 RStr) I' ra0 rc0 r) := by
 refine calls_W (fn := Tryz.f114) rfl rfl rfl ?_
 unfold r14_lists at D
 refine yg nL2 (yab hS (cs_qT p0 w_p0) 78 z fun b1 w4 S3 => yaf 1 2 (.slice none 0 0) (yac [0] (yaf 0 3 (.slice none 0 0) (yb (W.seq (yg [0] (ya 0 1 z (yb (yn (bsk D fun s8 hloop10 D => have hlt17 := (h_p0.Cons).len_lt; W.wk (ya0 (m := p0.Cons.length) hloop10 (fun (i9 : Nat) (s8 : List (List By8)) fr w => ∃ I6 a_s8 c_s8 C_s8, fr = [(1, Pt b1 0), (3, Sl a_s8 s8 c_s8), (4, Nv i9)] ∧ I.Le I6 ∧ St E w I6 (bT b1 p0 w_p0 :: (C_s8) :: Os) ∧ OwnSl 35 1 (RSlC 1 RStr) I6 C_s8 a_s8 c_s8 s8) ⟨I, none, 0, Mem.no, rfl, lr, S3.no.front1, OwnSl.nil⟩ ?_ ?_)))))))))))
 rintro i9 s8 _ w14 hi18 ⟨I6, a_s8, c_s8, C_s8, rfl, L7, S15, h_s8⟩ x16 R1
 refine W.seq (yg nL5 (yf 0 2 [4] z (yj (S15.rf m0) z (ya 3 2 z (yb (yat fun _ => W.skip (ye (W.seq (yn (yai nL10 (yf 0 2 [4] z (yj (S15.rf m0) z (ya 3 1 z ?_)))))))))))))
 obtain ⟨x19, R1, Hx19, _, ⟨w_x19, rfl, h_x19⟩, Zx19⟩ := sx I6 h_p0.Cons R1
 refine y0 137 12 Hx19 z (yf 5 1 [2] z (yar Zx19 2 S15.rm z (yad (rel := (RSlC 1 RStr)) (xs := ([x19.Cols] : List (List By8))) S15 z kr z 35 1 [[(Sl w_x19.Cols.a x19.Cols w_x19.Cols.c)]] kr z ((Elr.cons ⟨w_x19.Cols.a, w_x19.Cols.c, rfl, h_x19.Cols⟩ Elr.nil)) tv ?_)))
 intro a23 C21 w25 S24 ho22
 have S27 := S24.front2
 exact apk R1 fun x28 h0_x28 he_x28 R1 => yau 35 24 [(.slice none 0 0)] S27 h_s8 ho22.sl (S27.rd m1) h0_x28 he_x28 z fun a29 c30 w31 C32 S33 ho34 => ya 9 1 z (yt (yl (ye (yai nL3 (ya 0 1 z (yao i9 z (ya 2 1 z (yt (sj R1 ▸ yv ⟨I6, a29, c30, C32, rfl, L7, S33.front1.drop.front1, ho34⟩)))))))))
 rintro _ w38 ⟨I6, a_s8, c_s8, C_s8, rfl, L7, S39, h_s8⟩
 refine W.seq (yg nL5 (yf 0 2 [4] z (yj (S39.rf m0) z (ya 3 2 z (yb (yas fun _ => W.exit (yo (yq (yu (ye (W.seq (yg [0] (ya 0 1 z (yb (yn (bsk D fun s43 hloop45 D => have hlt49 := ((RSl.mono h_p0.Idx L7)).len_lt; W.wk (ya0 (m := p0.Idx.length) hloop45 (fun (i44 : Nat) (s43 : List (List By8)) fr w => ∃ I41 a_s43 c_s43 C_s43, fr = [(1, Pt b1 0), (3, Sl a_s43 s43 c_s43), (5, Nv i44)] ∧ I6.Le I41 ∧ St E w I41 (bT b1 p0 w_p0 :: (C_s43) :: Os) ∧ OwnSl 35 1 (RSlC 1 RStr) I41 C_s43 a_s43 c_s43 s43) ⟨I6, a_s8, c_s8, C_s8, rfl, lr, S39, h_s8⟩ ?_ ?_)))))))))))))))))
 rintro i44 s43 _ w46 hi50 ⟨I41, a_s43, c_s43, C_s43, rfl, L42, S47, h_s43⟩ x48 R1
 refine W.seq (yg nL5 (yf 0 2 [5] z (yj (S47.rf m0) z (ya 3 2 z (yb (yat fun _ => W.skip (ye (W.seq (yn (yai nL10 (yf 0 2 [5] z (yj (S47.rf m0) z (ya 3 1 z ?_)))))))))))))
 obtain ⟨x51, R1, Hx51, _, ⟨w_x51, rfl, h_x51⟩, Zx51⟩ := sx I41 h_p0.Idx R1
 refine y0 139 2 Hx51 z (yf 5 1 [1] z (yar Zx51 1 S47.rm z (yad (rel := (RSlC 1 RStr)) (xs := ([x51.Cols] : List (List By8))) S47 z kr z 35 1 [[(Sl w_x51.Cols.a x51.Cols w_x51.Cols.c)]] kr z ((Elr.cons ⟨w_x51.Cols.a, w_x51.Cols.c, rfl, h_x51.Cols⟩ Elr.nil)) tv ?_)))
 intro a55 C53 w57 S56 ho54
 have S59 := S56.front2
 exact apk R1 fun x60 h0_x60 he_x60 R1 => yau 35 24 [(.slice none 0 0)] S59 h_s43 ho54.sl (S59.rd m1) h0_x60 he_x60 z fun a61 c62 w63 C64 S65 ho66 => ya 9 1 z (yt (yl (ye (yai nL3 (ya 0 1 z (yao i44 z (ya 2 1 z (yt (sj R1 ▸ yv ⟨I41, a61, c62, C64, rfl, L42, S65.front1.drop.front1, ho66⟩)))))))))
 rintro _ w70 ⟨I41, a_s43, c_s43, C_s43, rfl, L42, S71, h_s43⟩
 refine W.seq (yg nL5 (yf 0 2 [5] z (yj (S71.rf m0) z (ya 3 2 z (yb (yas fun _ => W.exit (yo (yq (yu (ye (yg nL2 (ya 0 1 z ?_))))))))))))
 obtain ⟨I73, L74, S76, hp75⟩ := yag h_s43 S71.front1
 exact ya 1 1 z (yb (yp (sj D ▸ yw ⟨I73, a_s43, c_s43, rfl, le, S76.drop, hp75⟩)))
def r10_Parts_fu : Nat → qE → Option (List qE)
  | 0, _ => none
  | fu + 1, p0 => (forE (fun (i16 : Nat) (s15 : List qE) => (idx p0.Kids (i16 : Int)).bind (fun x24 => (r10_Parts_fu fu x24).bind (fun r30 => (app 88 s15 r30).bind (fun x32 => some x32)))) p0.Kids.length 0 ([p0] : List qE)).bind (fun s15 => some s15)
noncomputable def r10_Parts (p0 : qE) : Option (List qE) := anyFuel (fun fu => r10_Parts_fu fu p0)
theorem r10_Parts_fu_ok : ∀ (fu : Nat) {E w : World} {I : Mem} {Os : List Mem} {p0 : qE} {w_p0 : W_qE} (h_p0 : ok_qE I p0 w_p0) (hS : St E w I Os) {r : (List qE)} (D : r10_Parts_fu fu p0 = some r),
    Calls P 150 #[(vE p0 w_p0)] w (fun e w' => ∃ (I' : Mem) (ra0 : Option Addr) (rc0 : Nat), e = .returned (Sl ra0 r rc0) ∧ I.Le I' ∧ St E w' I' Os ∧ RSl 7 Q_qE I' ra0 rc0 r) := by
 intro fu
 induction fu with
 | zero => intro E w I Os p0 w_p0 h_p0 hS r D; cases D
 | succ fu ih =>
 intro E w I Os p0 w_p0 h_p0 hS r D
 refine calls_W (fn := Tryz.f150) rfl rfl rfl ?_
 unfold r10_Parts_fu at D
 refine yg nL2 (yab hS (cs_qE p0 w_p0) 41 z fun b1 w4 S3 => yaf 1 2 (.slice none 0 0) (yac nL3 (y7 ((cs_qE p0 w_p0)) (S3.rf m0) z (yad (rel := Q_qE) (xs := ([p0] : List qE)) S3 z kr z 41 7 [(cs_qE p0 w_p0)] kr z ((Elr.cons (Q_qE_iff.2 ⟨w_p0, rfl, h_p0⟩) Elr.nil)) tv ?_))))
 intro a8 C6 w10 S9 ho7
 refine ya 2 1 z (yb (W.seq (yg [0] (ya 0 1 z (yb (yn (bsk D fun s15 hloop17 D => have hlt22 := (h_p0.Kids).len_lt; W.wk (ya0 (m := p0.Kids.length) hloop17 (fun (i16 : Nat) (s15 : List qE) fr w => ∃ I13 a_s15 c_s15 C_s15, fr = [(1, Pt b1 0), (3, Sl a_s15 s15 c_s15), (4, Nv i16)] ∧ I.Le I13 ∧ St E w I13 (bE b1 p0 w_p0 :: (C_s15) :: Os) ∧ OwnSl 41 7 Q_qE I13 C_s15 a_s15 c_s15 s15) ⟨I, a8, 1, C6, rfl, lr, S9.front1, ho7⟩ ?_ ?_))))))))
 rintro i16 s15 _ w19 hi23 ⟨I13, a_s15, c_s15, C_s15, rfl, L14, S20, h_s15⟩ x21 R1
 refine W.seq (yg nL5 (yf 0 2 [6] z (yj (S20.rf m0) z (ya 3 2 z (yb (yat fun _ => W.skip (ye (W.seq (yn (yai nL9 (yf 0 2 [6] z (yj (S20.rf m0) z (ya 3 1 z ?_)))))))))))))
 obtain ⟨x24, Xx24, R1⟩ := bsm R1
 obtain ⟨h0_x24, h1_x24, Xx24⟩ := idx_some Xx24
 obtain ⟨ha_x24, cs_x24, hn_x24, hr_x24, Zx24⟩ := ((RSl.mono h_p0.Kids L14)).el _ _ Xx24
 obtain ⟨w_x24, rfl, h_x24⟩ := Q_qE_iff.1 hr_x24
 refine ya4 41 7 ha_x24 h0_x24 h1_x24 ?_
 refine yaq ((cs_qE x24 w_x24)) Zx24 0 S20.rm z (bsk R1 fun r30 Xr25 R1 => yae (ih h_x24 S20 Xr25) ?_)
 rintro _ w26 ⟨I27, a_r30, c_r30, rfl, L28, S29, h_r30⟩
 exact cv (have S31 := S29.front1; apk R1 fun x32 h0_x32 he_x32 R1 => yau 41 88 (cs_qE z_qE zw_qE) S31 (OwnSl.mono h_s15 L28) h_r30 S31.im h0_x32 he_x32 z fun a33 c34 w35 C36 S37 ho38 => ya 8 1 z (yt (yl (ye (yai nL3 (ya 0 1 z (yao i16 z (ya 2 1 z (yt (sj R1 ▸ yv ⟨I27, a33, c34, C36, rfl, le, S37.front1, ho38⟩))))))))))
 rintro _ w40 ⟨I13, a_s15, c_s15, C_s15, rfl, L14, S41, h_s15⟩
 refine W.seq (yg nL5 (yf 0 2 [6] z (yj (S41.rf m0) z (ya 3 2 z (yb (yas fun _ => W.exit (yo (yq (yu (ye (yg nL2 (ya 0 1 z ?_))))))))))))
 obtain ⟨I43, L44, S46, hp45⟩ := yag h_s15 S41.front1
 exact ya 1 1 z (yb (yp (sj D ▸ yw ⟨I43, a_s15, c_s15, rfl, le, S46.drop, hp45⟩)))
theorem r10_Parts_ok {p0 : qE} {w_p0 : W_qE} (h_p0 : ok_qE I p0 w_p0) (hS : St E w I Os) {r : (List qE)} (D : r10_Parts p0 = some r) :
    Calls P 150 #[(vE p0 w_p0)] w (fun e w' => ∃ (I' : Mem) (ra0 : Option Addr) (rc0 : Nat), e = .returned (Sl ra0 r rc0) ∧ I.Le I' ∧ St E w' I' Os ∧ RSl 7 Q_qE I' ra0 rc0 r) := by
 obtain ⟨fu, hf⟩ := anyFuel_some D
 exact r10_Parts_fu_ok fu h_p0 hS hf
noncomputable def r10_Names (p0 : qE) : Option (List By8) := (r10_Parts p0).bind (fun r10 => (forE (fun (i15 : Nat) (s14 : List By8) => (idx r10 (i15 : Int)).bind (fun x26 => (forE (fun (i31 : Nat) (s30 : Bool) => ((bif s30 then some true else (idx s14 (i31 : Int)).bind (fun x44 => (idx r10 (i15 : Int)).bind (fun x45 => some (sEq x44 x45.Name))))).bind (fun (j40 : Bool) => some j40)) s14.length 0 (x26.Kind != 2)).bind (fun s30 => ((bif (!s30) then (idx r10 (i15 : Int)).bind (fun x54 => (app 16 s14 ([x54.Name] : List By8)).bind (fun x63 => some x63)) else some s14)).bind (fun (j50 : List By8) => some j50)))) r10.length 0 ([] : List By8)).bind (fun s14 => some s14))
theorem r10_Names_ok {p0 : qE} {w_p0 : W_qE} (h_p0 : ok_qE I p0 w_p0) (hS : St E w I Os) {r : (List By8)} (D : r10_Names p0 = some r) :
    Calls P 115 #[(vE p0 w_p0)] w (fun e w' => ∃ (I' : Mem) (ra0 : Option Addr) (rc0 : Nat), e = .returned (Sl ra0 r rc0) ∧ I.Le I' ∧ St E w' I' Os ∧ RSl 1 RStr I' ra0 rc0 r) := by
 refine calls_W (fn := Tryz.f115) rfl rfl rfl ?_
 unfold r10_Names at D
 refine yg nL2 (yab hS (cs_qE p0 w_p0) 41 z fun b1 w4 S3 => yaf 1 2 (.slice none 0 0) (yac nL3 (y7 ((cs_qE p0 w_p0)) (S3.rf m0) z (bsk D fun r10 Xr5 D => yae (r10_Parts_ok h_p0 S3 Xr5) ?_))))
 rintro _ w6 ⟨I7, a_r10, c_r10, rfl, L8, S9, h_r10⟩
 refine cv (ya 2 1 z (yac [0] (yaf 0 4 (.slice none 0 0) (yb (W.seq (yg [0] (ya 0 1 z (yb (yn (bsk D fun s14 hloop16 D => have hlt24 := (h_r10).len_lt; W.wk (ya0 (m := r10.length) hloop16 (fun (i15 : Nat) (s14 : List By8) fr w => ∃ I12 a_s14 c_s14 C_s14, fr = [(3, Sl a_r10 r10 c_r10), (4, Sl a_s14 s14 c_s14), (5, Nv i15)] ∧ I7.Le I12 ∧ St E w I12 ((C_s14) :: Os) ∧ OwnSl 9 1 RStr I12 C_s14 a_s14 c_s14 s14) ⟨I7, none, 0, Mem.no, rfl, lr, S9.no.front1.drop, OwnSl.nil⟩ ?_ ?_)))))))))))
 rintro i15 s14 _ w21 hi25 ⟨I12, a_s14, c_s14, C_s14, rfl, L13, S22, h_s14⟩ x23 R1
 refine W.seq (yg nL4 (ya 0 4 z (yb (yat fun _ => W.skip (ye (W.seq (yn (yg nL7 (ya 0 2 z ?_)))))))))
 obtain ⟨x26, Xx26, R1⟩ := bsm R1
 obtain ⟨h0_x26, h1_x26, Xx26⟩ := idx_some Xx26
 obtain ⟨ha_x26, cs_x26, hn_x26, hr_x26, Zx26⟩ := ((RSl.mono h_r10 L13)).el _ _ Xx26
 obtain ⟨w_x26, rfl, h_x26⟩ := Q_qE_iff.1 hr_x26
 refine ya4 41 7 ha_x26 h0_x26 h1_x26 ?_
 refine yf 3 1 [0] z (yan Zx26 S22.rm z (ya 5 2 z (yb (W.seq (yg [0] (ya 0 1 z (yb (yn (bsk R1 fun s30 hloop32 R1 => have hlt36 := (h_s14.sl).len_lt; W.wk (ya0 (m := s14.length) hloop32 (fun (i31 : Nat) (s30 : Bool) => JI E I12 [(3, Sl a_r10 r10 c_r10), (4, Sl a_s14 s14 c_s14), (5, Nv i15), (6, .bool s30), (7, Nv i31)] ((C_s14) :: Os)) ⟨I12, rfl, lr, S22⟩ ?_ ?_))))))))))
 rintro i31 s30 _ w33 hi37 ⟨I28, rfl, L29, S34⟩ x35 R2
 refine W.seq (yg nL4 (ya 0 4 z (yb (yat fun _ => W.skip (ye (W.seq (yn (have S38 := S34.drew; ya1 nL14 13 (ym (S38.rd m0) (yx S38.im)) ?_))))))))
 generalize World.drew _ = w39 at *
 refine ya 0 2 z (bsk R2 fun j40 R3 R2 => yam (l1 := [2, 3, 4, 5, 6, 7, 8, 9, 10, 11, 12]) (J := JI E I28 [(3, Sl a_r10 r10 c_r10), (4, Sl a_s14 s14 c_s14), (5, Nv i15), (7, Nv i31), (40, .bool j40)] ((C_s14) :: Os)) ?_ ?_)
 refine yal R3 (fun G R3 => ?_) (fun G R3 => ?_)
 refine yz 29 G ?_
 iterate 10 refine WO.ps ?_
 exact ya 12 1 z (sj R3 ▸ yy ⟨I28, rfl, lr, S38⟩)
 refine yz 29 G (ya 2 2 z ?_)
 obtain ⟨x44, R3, Hx44, _, rfl, Zx44⟩ := sl_ix ((h_s14.mono L29).sl) R3
 refine y0 9 1 Hx44 z (yan Zx44 (rd_c m0 (S38.rd m0)) z (ya 6 2 z ?_))
 obtain ⟨x45, Xx45, R3⟩ := bsm R3
 obtain ⟨h0_x45, h1_x45, Xx45⟩ := idx_some Xx45
 obtain ⟨ha_x45, cs_x45, hn_x45, hr_x45, Zx45⟩ := ((RSl.mono h_r10 (L13.trans L29))).el _ _ Xx45
 obtain ⟨w_x45, rfl, h_x45⟩ := Q_qE_iff.1 hr_x45
 refine ya4 41 7 ha_x45 h0_x45 h1_x45 ?_
 exact yf 9 1 [5] z (yar Zx45 5 (rd_i S38.im) z (ya 11 2 z (sj R3 ▸ yy ⟨I28, rfl, lr, S38⟩)))
 rintro _ w46 ⟨I42, rfl, L43, S47⟩
 exact WO.tail z (ya 13 1 z (yt (yl (ye (yai nL3 (ya 0 1 z (yao i31 z (ya 2 1 z (yt (sj R2 ▸ yv ⟨I42, rfl, le, S47⟩))))))))))
 rintro _ w48 ⟨I28, rfl, L29, S49⟩
 refine W.seq (yg nL4 (ya 0 4 z (yb (yas fun _ => W.exit (yo (yq (yu (ye (yg nL2 (ya 0 2 z (yb (bsk R1 fun j50 R2 R1 => yay (J := (fun fr w => ∃ I52 a_j50 c_j50 C_j50, fr = [(3, Sl a_r10 r10 c_r10), (4, Sl a_j50 j50 c_j50), (5, Nv i15)] ∧ I28.Le I52 ∧ St E w I52 ((C_j50) :: Os) ∧ OwnSl 9 1 RStr I52 C_j50 a_j50 c_j50 j50)) ?_ ?_))))))))))))
 refine y6 R2 (fun G R2 => ?_) (fun G R2 => ?_)
 refine yai nL9 (ya 0 3 z ?_)
 obtain ⟨x54, Xx54, R2⟩ := bsm R2
 obtain ⟨h0_x54, h1_x54, Xx54⟩ := idx_some Xx54
 obtain ⟨ha_x54, cs_x54, hn_x54, hr_x54, Zx54⟩ := ((RSl.mono h_r10 (L13.trans L29))).el _ _ Xx54
 obtain ⟨w_x54, rfl, h_x54⟩ := Q_qE_iff.1 hr_x54
 refine ya4 41 7 ha_x54 h0_x54 h1_x54 ?_
 refine yf 4 1 [5] z (yar Zx54 5 S49.rm z (yad (rel := RStr) (xs := ([x54.Name] : List By8)) S49 z kr z 9 1 [[(.string x54.Name)]] kr z ((Elr.cons z Elr.nil)) tv ?_))
 intro a58 C56 w60 S59 ho57
 have S62 := S59.front1
 exact apk R2 fun x63 h0_x63 he_x63 R2 => yau 9 16 [(.string eB)] S62 (OwnSl.mono h_s14 L29) ho57.sl (S62.rd m1) h0_x63 he_x63 z fun a64 c65 w66 C67 S68 ho69 => ya 8 1 z (yt (sj R2 ▸ yv ⟨I28, a64, c65, C67, rfl, lr, S68.front1.drop, ho69⟩))
 exact W.skip (sj R2 ▸ yv ⟨I28, a_s14, c_s14, C_s14, rfl, lr, S49, (OwnSl.mono h_s14 L29)⟩)
 rintro _ w72 ⟨I52, a_j50, c_j50, C_j50, rfl, L53, S73, h_j50⟩
 exact yl (ye (yai nL3 (ya 0 1 z (yao i15 z (ya 2 1 z (yt (sj R1 ▸ yv ⟨I52, a_j50, c_j50, C_j50, rfl, le, S73, h_j50⟩)))))))
 rintro _ w74 ⟨I12, a_s14, c_s14, C_s14, rfl, L13, S75, h_s14⟩
 refine W.seq (yg nL4 (ya 0 4 z (yb (yas fun _ => W.exit (yo (yq (yu (ye (yg nL2 (ya 0 1 z ?_))))))))))
 obtain ⟨I76, L77, S79, hp78⟩ := yag h_s14 S75
 exact ya 1 1 z (yb (yp (sj D ▸ yw ⟨I76, a_s14, c_s14, rfl, le, S79, hp78⟩)))
noncomputable def r14_Used (p0 : qT) : Option (List By8) := (r14_lists p0).bind (fun r10 => (forE (fun (i15 : Nat) (s14 : List By8) => (idx r10 (i15 : Int)).bind (fun x25 => (app 16 s14 x25).bind (fun x27 => some x27))) r10.length 0 ([] : List By8)).bind (fun s14 => (forE (fun (i41 : Nat) (s40 : List By8) => (idx p0.Cons (i41 : Int)).bind (fun x48 => ((bif (x48.Kind == 2) then (idx p0.Cons (i41 : Int)).bind (fun x53 => (r10_Names x53.Check).bind (fun r59 => (app 16 s40 r59).bind (fun x61 => some x61))) else some s40)).bind (fun (j49 : List By8) => some j49))) p0.Cons.length 0 s14).bind (fun s40 => some s40)))
theorem r14_Used_ok {p0 : qT} {w_p0 : W_qT} (h_p0 : ok_qT I p0 w_p0) (hS : St E w I Os) {r : (List By8)} (D : r14_Used p0 = some r) :
    Calls P 92 #[(vT p0 w_p0)] w (fun e w' => ∃ (I' : Mem) (ra0 : Option Addr) (rc0 : Nat), e = .returned (Sl ra0 r rc0) ∧ I.Le I' ∧ St E w' I' Os ∧ RSl 1 RStr I' ra0 rc0 r) := by
 refine calls_W (fn := Tryz.f92) rfl rfl rfl ?_
 unfold r14_Used at D
 refine yg nL2 (yab hS (cs_qT p0 w_p0) 78 z fun b1 w4 S3 => yaf 1 2 (.slice none 0 0) (yac nL3 (y7 ((cs_qT p0 w_p0)) (S3.rf m0) z (bsk D fun r10 Xr5 D => yae (r14_lists_ok h_p0 S3 Xr5) ?_))))
 rintro _ w6 ⟨I7, a_r10, c_r10, rfl, L8, S9, h_r10⟩
 refine cv (ya 2 1 z (yac [0] (yaf 0 4 (.slice none 0 0) (yb (W.seq (yg [0] (ya 0 1 z (yb (yn (bsk D fun s14 hloop16 D => have hlt23 := (h_r10).len_lt; W.wk (ya0 (m := r10.length) hloop16 (fun (i15 : Nat) (s14 : List By8) fr w => ∃ I12 a_s14 c_s14 C_s14, fr = [(1, Pt b1 0), (3, Sl a_r10 r10 c_r10), (4, Sl a_s14 s14 c_s14), (5, Nv i15)] ∧ I7.Le I12 ∧ St E w I12 (bT b1 p0 w_p0 :: (C_s14) :: Os) ∧ OwnSl 9 1 RStr I12 C_s14 a_s14 c_s14 s14) ⟨I7, none, 0, Mem.no, rfl, lr, S9.no.front1, OwnSl.nil⟩ ?_ ?_)))))))))))
 rintro i15 s14 _ w20 hi24 ⟨I12, a_s14, c_s14, C_s14, rfl, L13, S21, h_s14⟩ x22 R1
 refine W.seq (yg nL4 (ya 0 4 z (yb (yat fun _ => W.skip (ye (W.seq (yn (yai nL7 (ya 0 3 z ?_)))))))))
 obtain ⟨x25, Xx25, R1⟩ := bsm R1
 obtain ⟨h0_x25, h1_x25, Xx25⟩ := idx_some Xx25
 obtain ⟨ha_x25, cs_x25, hn_x25, hr_x25, Zx25⟩ := ((RSl.mono h_r10 L13)).el _ _ Xx25
 obtain ⟨a_x25, c_x25, rfl, h_x25⟩ := hr_x25
 refine ya4 35 1 ha_x25 h0_x25 h1_x25 ?_
 exact yan Zx25 S21.rm z (have S26 := S21.front1; apk R1 fun x27 h0_x27 he_x27 R1 => yau 9 16 [(.string eB)] S26 h_s14 h_x25 S26.im h0_x27 he_x27 z fun a28 c29 w30 C31 S32 ho33 => ya 6 1 z (yt (yl (ye (yai nL3 (ya 0 1 z (yao i15 z (ya 2 1 z (yt (sj R1 ▸ yv ⟨I12, a28, c29, C31, rfl, L13, S32.front1, ho33⟩))))))))))
 rintro _ w35 ⟨I12, a_s14, c_s14, C_s14, rfl, L13, S36, h_s14⟩
 refine W.seq (yg nL4 (ya 0 4 z (yb (yas fun _ => W.exit (yo (yq (yu (ye (W.seq (yg [0] (ya 0 1 z (yb (yn (bsk D fun s40 hloop42 D => have hlt46 := ((RSl.mono h_p0.Cons (L8.trans L13))).len_lt; W.wk (ya0 (m := p0.Cons.length) hloop42 (fun (i41 : Nat) (s40 : List By8) fr w => ∃ I38 a_s40 c_s40 C_s40, fr = [(1, Pt b1 0), (4, Sl a_s40 s40 c_s40), (6, Nv i41)] ∧ I12.Le I38 ∧ St E w I38 (bT b1 p0 w_p0 :: (C_s40) :: Os) ∧ OwnSl 9 1 RStr I38 C_s40 a_s40 c_s40 s40) ⟨I12, a_s14, c_s14, C_s14, rfl, lr, S36, h_s14⟩ ?_ ?_)))))))))))))))
 rintro i41 s40 _ w43 hi47 ⟨I38, a_s40, c_s40, C_s40, rfl, L39, S44, h_s40⟩ x45 R1
 refine W.seq (yg nL5 (yf 0 2 [4] z (yj (S44.rf m0) z (ya 3 2 z (yb (yat fun _ => W.skip (ye (W.seq (yn (yg nL7 (yf 0 1 [4] z (yj (S44.rf m0) z (ya 2 1 z ?_)))))))))))))
 obtain ⟨x48, R1, Hx48, _, ⟨w_x48, rfl, h_x48⟩, Zx48⟩ := sx I38 h_p0.Cons R1
 refine y0 137 12 Hx48 z (yf 4 1 [1] z (yar Zx48 1 S44.rm z (ya 6 1 z (yb (bsk R1 fun j49 R2 R1 => yay (J := (fun fr w => ∃ I51 a_j49 c_j49 C_j49, fr = [(1, Pt b1 0), (4, Sl a_j49 j49 c_j49), (6, Nv i41)] ∧ I38.Le I51 ∧ St E w I51 (bT b1 p0 w_p0 :: (C_j49) :: Os) ∧ OwnSl 9 1 RStr I51 C_j49 a_j49 c_j49 j49)) ?_ ?_)))))
 refine y6 R2 (fun G R2 => ?_) (fun G R2 => ?_)
 refine yai nL10 (yf 0 2 [4] z (yj (S44.rf m0) z (ya 3 1 z ?_)))
 obtain ⟨x53, R2, Hx53, _, ⟨w_x53, rfl, h_x53⟩, Zx53⟩ := sx I38 h_p0.Cons R2
 refine y0 137 12 Hx53 z (yf 5 1 [3] z (yaq ((cs_qE x53.Check w_x53.Check)) Zx53 3 S44.rm z (bsk R2 fun r59 Xr54 R2 => yae (r10_Names_ok h_x53.Check S44 Xr54) ?_)))
 rintro _ w55 ⟨I56, a_r59, c_r59, rfl, L57, S58, h_r59⟩
 exact cv (have S60 := S58.front1; apk R2 fun x61 h0_x61 he_x61 R2 => yau 9 16 [(.string eB)] S60 (OwnSl.mono h_s40 L57) h_r59 S60.im h0_x61 he_x61 z fun a62 c63 w65 C66 S67 ho68 => ya 9 1 z (yt (sj R2 ▸ yv ⟨I56, a62, c63, C66, rfl, L57, S67.front1, ho68⟩)))
 exact W.skip (sj R2 ▸ yv ⟨I38, a_s40, c_s40, C_s40, rfl, lr, S44, h_s40⟩)
 rintro _ w70 ⟨I51, a_j49, c_j49, C_j49, rfl, L52, S71, h_j49⟩
 exact yl (ye (yai nL3 (ya 0 1 z (yao i41 z (ya 2 1 z (yt (sj R1 ▸ yv ⟨I51, a_j49, c_j49, C_j49, rfl, le, S71, h_j49⟩)))))))
 rintro _ w72 ⟨I38, a_s40, c_s40, C_s40, rfl, L39, S73, h_s40⟩
 refine W.seq (yg nL5 (yf 0 2 [4] z (yj (S73.rf m0) z (ya 3 2 z (yb (yas fun _ => W.exit (yo (yq (yu (ye (yg nL2 (ya 0 1 z ?_))))))))))))
 obtain ⟨I75, L76, S78, hp77⟩ := yag h_s40 S73.front1
 exact ya 1 1 z (yb (yp (sj D ▸ yw ⟨I75, a_s40, c_s40, rfl, le, S78.drop, hp77⟩)))
def r17_keys (p0 : qT) (p1 : List By8) : Option Int := (forE (fun (i9 : Nat) (s8 : Int) => (idx p0.Cons (i9 : Int)).bind (fun x16 => ((bif (x16.Kind == 1) then (idx p0.Cons (i9 : Int)).bind (fun x21 => (r17_alike x21.Cols p1).bind (fun r27 => some r27)) else some false)).bind (fun (j17 : Bool) => ((bif j17 then some (w64 (s8 + 1)) else some s8)).bind (fun (j30 : Int) => some j30)))) p0.Cons.length 0 0).bind (fun s8 => some s8)
theorem r17_keys_ok {p0 : qT} {p1 : List By8} {w_p0 : W_qT} {a_p1 : Option Addr} {c_p1 : Nat} (h_p0 : ok_qT I p0 w_p0) (h_p1 : RSl 1 RStr I a_p1 c_p1 p1) (hS : St E w I Os) {r : Int} (D : r17_keys p0 p1 = some r) :
    Calls P 116 #[(vT p0 w_p0), (Sl a_p1 p1 c_p1)] w (RT E I Os (Iv r)) := by
 refine calls_W (fn := Tryz.f116) rfl rfl rfl ?_
 unfold r17_keys at D
 refine yg nL2 (yab hS (cs_qT p0 w_p0) 78 z fun b1 w4 S3 => ya 1 1 z (yac [0] (ya 0 1 z (yb (W.seq (yg [0] (ya 0 1 z (yb (yn (bsk D fun s8 hloop10 D => have hlt14 := (h_p0.Cons).len_lt; W.wk (ya0 (m := p0.Cons.length) hloop10 (fun (i9 : Nat) (s8 : Int) => JI E I [(1, Sl a_p1 p1 c_p1), (2, Pt b1 0), (5, Iv s8), (6, Nv i9)] (bT b1 p0 w_p0 :: Os)) ⟨I, rfl, lr, S3⟩ ?_ ?_)))))))))))
 rintro i9 s8 _ w11 hi15 ⟨I6, rfl, L7, S12⟩ x13 R1
 refine W.seq (yg nL5 (yf 0 2 [4] z (yj (S12.rf m0) z (ya 3 2 z (yb (yat fun _ => W.skip (ye (W.seq (yn (yg nL17 (yf 0 1 [4] z (yj (S12.rf m0) z (ya 2 1 z ?_)))))))))))))
 obtain ⟨x16, R1, Hx16, _, ⟨w_x16, rfl, h_x16⟩, Zx16⟩ := sx I6 h_p0.Cons R1
 refine y0 137 12 Hx16 z (yf 4 1 [1] z (yar Zx16 1 S12.rm z (ya 6 2 z (bsk R1 fun j17 R2 R1 => yam (l1 := [8, 9, 10, 11, 12, 13, 14, 15, 16]) (J := JI E I6 [(1, Sl a_p1 p1 c_p1), (2, Pt b1 0), (5, Iv s8), (6, Nv i9), (30, .bool j17)] (bT b1 p0 w_p0 :: Os)) ?_ ?_))))
 refine yal R2 (fun G R2 => ?_) (fun G R2 => ?_)
 refine yz 21 G (yf 8 1 [4] z (yj (S12.rf m0) z (ya 10 1 z ?_)))
 obtain ⟨x21, R2, Hx21, _, ⟨w_x21, rfl, h_x21⟩, Zx21⟩ := sx I6 h_p0.Cons R2
 exact y0 137 12 Hx21 z (yf 12 1 [2] z (yar Zx21 2 S12.rm z (ya 14 1 z (bsk R2 fun r27 Xr22 R2 => WO.c1 (r17_alike_ok h_x21.Cols (RSl.mono h_p1 L7) S12 Xr22) z fun I24 w23 L25 S26 => ya 16 1 z (sj R2 ▸ yy ⟨I24, rfl, L25, S26⟩)))))
 refine yz 21 G ?_
 iterate 8 refine WO.ps ?_
 exact ya 16 1 z (sj R2 ▸ yy ⟨I6, rfl, lr, S12⟩)
 rintro _ w28 ⟨I19, rfl, L20, S29⟩
 refine yb (bsk R1 fun j30 R2 R1 => yay (J := JI E I19 [(1, Sl a_p1 p1 c_p1), (2, Pt b1 0), (5, Iv j30), (6, Nv i9)] (bT b1 p0 w_p0 :: Os)) ?_ ?_)
 refine y6 R2 (fun G R2 => ?_) (fun G R2 => ?_)
 exact yai nL3 (ya 0 3 z (yt (sj R2 ▸ yv ⟨I19, rfl, lr, S29⟩)))
 exact W.skip (sj R2 ▸ yv ⟨I19, rfl, lr, S29⟩)
 rintro _ w34 ⟨I32, rfl, L33, S35⟩
 exact yl (ye (yai nL3 (ya 0 1 z (yao i9 z (ya 2 1 z (yt (sj R1 ▸ yv ⟨I32, rfl, le, S35⟩)))))))
 rintro _ w36 ⟨I6, rfl, L7, S37⟩
 exact W.seq (yg nL5 (yf 0 2 [4] z (yj (S37.rf m0) z (ya 3 2 z (yb (yas fun _ => W.exit (yo (yq (yu (ye (yg nL2 (ya 0 2 z (yb (yp (sj D ▸ yw ⟨I6, rfl, L7, S37.drop⟩)))))))))))))))
end Go.Proofs.YtpgmbifboopfmaaGreat
