/- What functions of the program come to, each by a plain one. Conditions: none. -/
import Derived.Test.YtdmapcjbbbifbaaGreatF3
import Derived.Test.YtdmapcjbbbifbaaGreatProg
set_option maxRecDepth 100000
namespace Go.Proofs.YtdmapcjbbbifbaaGreat
open Go.Gv
set_option maxHeartbeats 1000000
variable {E w : World} {I : Mem} {Os : List Mem}
noncomputable def lex_quoted (p0 : By8) : Option Int := (loopO (fun (s4 : Int) => (bif (decide (s4 < (p0.size : Int))) then (sAt p0 s4).bind (fun y9 => ((bif (decide (y9 < 32)) then some true else (sAt p0 s4).bind (fun y14 => some (decide (y14 > 126))))).bind (fun (j10 : Bool) => (bif j10 then some (.inr (.inl (0 : Int))) else (sAt p0 s4).bind (fun y19 => ((bif (y19 != 39) then some (.inl s4) else ((bif (decide ((w64 (s4 + 1)) < (p0.size : Int))) then (sAt p0 (w64 (s4 + 1))).bind (fun y29 => some (y29 == 39)) else some false)).bind (fun (j25 : Bool) => (bif j25 then some (.inl (w64 (s4 + 1))) else some (.inr (w64 (s4 + 1))))))).bind (fun (t : Int ⊕ Int) => match t with | (.inl s24) => some (.inl (w64 (s24 + 1))) | (.inr s33) => some (.inr (.inl s33))))))) else some (.inr (.inr ())))) 1).bind (fun (t : Int ⊕ Unit) => match t with | (.inl s18) => some s18 | (.inr ()) => some 0)
theorem lex_quoted_ok {p0 : By8} (hS : St E w I Os) {r : Int} (H : lex_quoted p0 = some r) :
    Calls P 187 #[(.string p0)] w (RT E I Os (Iv r)) := by
 refine calls_W (fn := Tryz.f187) rfl rfl rfl ?_
 unfold lex_quoted at H
 refine yf [0] (ya 0 1 z (yb (yi (yf [0] (ya 0 1 z (yb (yo (bsk H fun t1 hloop5 H => W.wk (ybf hloop5 (fun (s4 : Int) => JI E I [(0, .string p0), (3, Iv s4)] Os) ⟨I, rfl, lr, hS⟩ ?_)))))))))
 rintro s4 _ w6 ⟨I2, rfl, L3, S7⟩ x8 R1 hext1
 refine yi (yf nL4 (ya 0 4 z (yb (y6 R1 (fun K R1 => ?_) (fun K R1 => ?_)))))
 refine ym (yc (yi (yo (yo (yf nL11 (ya 0 2 z (bsk R1 fun y9 Xy9 R1 => yav z kr kr z z Xy9 ?_)))))))
 refine ya 3 2 z (bsk R1 fun j10 R2 R1 => yap (l1 := [5, 6, 7, 8, 9]) (J := JI E I2 [(0, .string p0), (3, Iv s4), (22, .bool j10)] Os) ?_ ?_)
 refine yao R2 (fun K R2 => ?_) (fun K R2 => ?_)
 refine y4 17 K ?_
 iterate 4 refine yan ?_
 exact ya 9 1 z (sj R2 ▸ y3 ⟨I2, rfl, lr, S7⟩)
 refine y4 17 K (ya 5 2 z (bsk R2 fun y14 Xy14 R2 => yav z kr kr z z Xy14 ?_))
 exact ya 8 2 z (sj R2 ▸ y3 ⟨I2, rfl, lr, S7⟩)
 rintro _ w15 ⟨I12, rfl, L13, S16⟩
 refine ya 10 1 z (yb (y6 R1 (fun K R1 => ?_) (fun K R1 => ?_)))
 refine yf [0] (ya 0 1 z (yb (yp (yl (yl (ye (yw ?_)))))))
 obtain rfl := hext1 _ (sj R1).symm
 exact yl (ye (sj H ▸ yy ⟨I12, rfl, le, S16⟩))
 refine yf nL5 (ya 0 2 z (bsk R1 fun y19 Xy19 R1 => yav z kr kr z z Xy19 ?_))
 refine ya 3 2 z (yb (bsk R1 fun j20 R2 R1 => ya0 (J := (fun fr w => ∃ (s24 : Int), ∃ I22, (.inl s24) = j20 ∧ fr = [(0, .string p0), (3, Iv s24)] ∧ I12.Le I22 ∧ St E w I22 Os)) ?_ ?_))
 refine y6 R2 (fun K R2 => ?_) (fun K R2 => ?_)
 exact ym (yx ⟨s4, I12, sj R2, rfl, lr, S16⟩)
 refine yf nL13 (ya 0 6 z (bsk R2 fun j25 R3 R2 => yap (l1 := [6, 7, 8, 9, 10, 11]) (J := JI E I12 [(0, .string p0), (3, Iv s4), (40, .bool j25)] Os) ?_ ?_))
 refine yao R3 (fun K R3 => ?_) (fun K R3 => ?_)
 refine y4 34 K (ya 6 3 z (bsk R3 fun y29 Xy29 R3 => yav z kr kr z z Xy29 ?_))
 exact ya 10 2 z (sj R3 ▸ y3 ⟨I12, rfl, lr, S16⟩)
 refine y4 34 K ?_
 iterate 5 refine yan ?_
 exact ya 11 1 z (sj R3 ▸ y3 ⟨I12, rfl, lr, S16⟩)
 rintro _ w30 ⟨I27, rfl, L28, S31⟩
 refine ya 12 1 z (yb (y6 R2 (fun K R2 => ?_) (fun K R2 => ?_)))
 exact yak nL3 (ya 0 3 z (yq (yx ⟨(w64 (s4 + 1)), I27, sj R2, rfl, L28, S31⟩)))
 refine yf nL3 (ya 0 3 z (yb (yp (yw ?_))))
 obtain rfl := sj R2
 refine yl (yl (ye (yw ?_)))
 obtain rfl := hext1 _ (sj R1).symm
 exact yl (ye (sj H ▸ yy ⟨I27, rfl, le, S31⟩))
 rintro _ w34 ⟨s24, I22, rfl, rfl, L23, S35⟩
 exact yn (yn (yc (yak nL3 (ya 0 3 z (yq (yx ⟨(w64 (s24 + 1)), (sj R1).symm, I22, rfl, le, S35⟩))))))
 refine yae (yr (yu ?_))
 obtain rfl := hext1 _ (sj R1).symm
 exact yv (yc (yf [0] (ya 0 1 z (yb (yp (sj H ▸ yy ⟨I2, rfl, L3, S7⟩))))))
def internal_stringslite_HasPrefix (p0 : By8) (p1 : By8) : Option Bool := ((bif (decide ((p0.size : Int) ≥ (p1.size : Int))) then (ssub p0 0 (p1.size : Int)).bind (fun x5 => some (sEq x5 p1)) else some false)).bind (fun (j1 : Bool) => some j1)
theorem internal_stringslite_HasPrefix_ok {p0 : By8} {p1 : By8} (hS : St E w I Os) {r : Bool} (H : internal_stringslite_HasPrefix p0 p1 = some r) :
    Calls P 202 #[(.string p0), (.string p1)] w (RT E I Os (.bool r)) := by
 refine calls_W (fn := Tryz.f202) rfl rfl rfl ?_
 unfold internal_stringslite_HasPrefix at H
 refine yf [0] (ya 0 1 z (yz nL14 (ya 0 6 z (bsk H fun j1 R1 H => yap (l1 := [6, 7, 8, 9, 10, 11, 12]) (J := JI E I [(17, .bool j1)] Os) ?_ ?_))))
 refine yao R1 (fun K R1 => ?_) (fun K R1 => ?_)
 refine y4 10 K (ya 6 3 z (bsk R1 fun x5 Xx5 R1 => yb8 z kr kr z (0 : Int) ((p1.size : Int) : Int) (.inl ⟨rfl, rfl⟩) (.inr ⟨_, _, rfl, rfl⟩) Xx5 ?_))
 exact ya 10 3 z (sj R1 ▸ y3 ⟨I, rfl, lr, hS⟩)
 refine y4 10 K ?_
 iterate 6 refine yan ?_
 exact ya 12 1 z (sj R1 ▸ y3 ⟨I, rfl, lr, hS⟩)
 rintro _ w6 ⟨I3, rfl, L4, S7⟩
 exact ya 13 1 z (yb (yp (sj H ▸ yy ⟨I3, rfl, L4, S7⟩)))
def strings_HasPrefix (p0 : By8) (p1 : By8) : Option Bool := (internal_stringslite_HasPrefix p0 p1).bind (fun r6 => some r6)
theorem strings_HasPrefix_ok {p0 : By8} {p1 : By8} (hS : St E w I Os) {r : Bool} (H : strings_HasPrefix p0 p1 = some r) :
    Calls P 200 #[(.string p0), (.string p1)] w (RT E I Os (.bool r)) := by
 refine calls_W (fn := Tryz.f200) rfl rfl rfl ?_
 unfold strings_HasPrefix at H
 exact yf [0] (ya 0 1 z (yz nL4 (ya 0 2 z (bsk H fun r6 Xr1 H => WO.c1 (internal_stringslite_HasPrefix_ok  hS Xr1) z fun I3 w2 L4 S5 => ya 3 1 z (yb (yp (sj H ▸ yy ⟨I3, rfl, L4, S5⟩)))))))
def lex_sign (p0 : By8) : Option Int := ((forN (fun (i32 : Nat) (s31 : Int) => (idx ([(⟨#[60, 62]⟩ : By8), (⟨#[60, 61]⟩ : By8), (⟨#[62, 61]⟩ : By8), (⟨#[124, 124]⟩ : By8)] : List By8) (i32 : Int)).bind (fun x39 => (strings_HasPrefix p0 x39).bind (fun r45 => (bif r45 then some (.inr (x39.size : Int)) else some (.inl s31))))) 4 0 0).bind (fun (t : Int ⊕ (Int)) => match t with | .inl s31 => (forN (fun (i54 : Nat) (s53 : Int) => (idx ([(⟨#[40]⟩ : By8), (⟨#[41]⟩ : By8), (⟨#[44]⟩ : By8), (⟨#[61]⟩ : By8), (⟨#[60]⟩ : By8), (⟨#[62]⟩ : By8), (⟨#[43]⟩ : By8), (⟨#[45]⟩ : By8), (⟨#[42]⟩ : By8), (⟨#[47]⟩ : By8), (⟨#[37]⟩ : By8)] : List By8) (i54 : Int)).bind (fun x61 => (strings_HasPrefix p0 x61).bind (fun r67 => (bif r67 then some (.inr (x61.size : Int)) else some (.inl s53))))) 11 0 s31).bind (fun (t : Int ⊕ (Int)) => match t with | .inl s53 => some s53 | .inr s69 => some s69) | .inr s47 => some s47)).bind (fun (j24 : Int) => some j24)
theorem lex_sign_ok {p0 : By8} (hS : St E w I Os) {r : Int} (H : lex_sign p0 = some r) :
    Calls P 188 #[(.string p0)] w (RT E I Os (Iv r)) := by
 refine calls_W (fn := Tryz.f188) rfl rfl rfl ?_
 unfold lex_sign at H
 refine yf [0] (ya 0 1 z (yb (W.scope (yf [0] (ya 0 1 z (yb (yi (W.label (yc (yi (yf nL4 (yai (rel := RStr) (xs := ([(⟨#[60, 62]⟩ : By8), (⟨#[60, 61]⟩ : By8), (⟨#[62, 61]⟩ : By8), (⟨#[124, 124]⟩ : By8)] : List By8)) hS z kr z 9 1 [[(.string (⟨#[60, 62]⟩ : By8))], [(.string (⟨#[60, 61]⟩ : By8))], [(.string (⟨#[62, 61]⟩ : By8))], [(.string (⟨#[124, 124]⟩ : By8))]] kr z ((Elr.cons z (Elr.cons z (Elr.cons z (Elr.cons z Elr.nil))))) tv ?_))))))))))))
 intro a4 C2 w6 S5 ho3
 refine yai (rel := RStr) (xs := ([(⟨#[40]⟩ : By8), (⟨#[41]⟩ : By8), (⟨#[44]⟩ : By8), (⟨#[61]⟩ : By8), (⟨#[60]⟩ : By8), (⟨#[62]⟩ : By8), (⟨#[43]⟩ : By8), (⟨#[45]⟩ : By8), (⟨#[42]⟩ : By8), (⟨#[47]⟩ : By8), (⟨#[37]⟩ : By8)] : List By8)) S5 z kr z 9 1 [[(.string (⟨#[40]⟩ : By8))], [(.string (⟨#[41]⟩ : By8))], [(.string (⟨#[44]⟩ : By8))], [(.string (⟨#[61]⟩ : By8))], [(.string (⟨#[60]⟩ : By8))], [(.string (⟨#[62]⟩ : By8))], [(.string (⟨#[43]⟩ : By8))], [(.string (⟨#[45]⟩ : By8))], [(.string (⟨#[42]⟩ : By8))], [(.string (⟨#[47]⟩ : By8))], [(.string (⟨#[37]⟩ : By8))]] kr z ((Elr.cons z (Elr.cons z (Elr.cons z (Elr.cons z (Elr.cons z (Elr.cons z (Elr.cons z (Elr.cons z (Elr.cons z (Elr.cons z (Elr.cons z Elr.nil)))))))))))) tv ?_
 intro a11 C9 w13 S12 ho10
 obtain ⟨I16, L17, S19, hp18⟩ := OwnSl.pub ho3 S12.front1
 obtain ⟨I20, L21, S23, hp22⟩ := OwnSl.pub (ho10.mono L17) S19
 refine y7 2 10 (.agg #[(.slice a4 4 4), (.slice a11 11 11)]) (ya 3 1 z (yb (bsk H fun j24 R1 H => ya0 (J := JI E I20 [(3, Iv j24)] Os) ?_ ?_)))
 ·
  refine yo (W.unroll 2 ?_)
  refine yf [0] (y7 0 12 (.bool true) (yb (yi (ybz (fun K => ?_) (fun K => ?_)))))
  rotate_left
  cases K
  clear K
  refine ym (yc (yi (yo (yf nL2 (y7 0 13 (.slice a4 4 4) (ya 1 1 z (yz nL3 (ya 0 3 z (yb (yo (bsk R1 fun t28 hloop33 R1 => have hlt37 := ((RSl.mono hp18 L21)).len_lt; W.wk (yas (m := 4) hloop33 (fun (i32 : Nat) (s31 : Int) => JI E I20 [(0, .string p0), (3, Iv s31), (10, .agg #[(.slice a4 4 4), (.slice a11 11 11)]), (11, Iv 0), (14, .slice a4 4 4), (15, Iv (4 : Int)), (16, Nv i32)] Os) ⟨I20, rfl, lr, S23⟩ ?_ ?_))))))))))))
  rintro i32 s31 _ w34 hi38 ⟨I29, rfl, L30, S35⟩ x36 R2 hext28
  refine yf [0] (ya 0 1 z (yb (yi (yaw fun _ => ym (yc (yi (yo (yf nL3 (yaa 14 z (show Value.slice a4 4 4 = Value.slice a4 ([(⟨#[60, 62]⟩ : By8), (⟨#[60, 61]⟩ : By8), (⟨#[62, 61]⟩ : By8), (⟨#[124, 124]⟩ : By8)] : List By8).length 4 from z) ?_)))))))))
  obtain ⟨x39, R2, Hx39, _, rfl, Zx39⟩ := sx I29 hp18 R2
  refine yac 9 1 Hx39 z (yar Zx39 S35.rm z (ya 2 1 z (yz nL3 (ya 0 2 z (bsk R2 fun r45 Xr40 R2 => WO.c1 (strings_HasPrefix_ok  S35 Xr40) z fun I42 w41 L43 S44 => yb (y6 R2 (fun K R2 => ?_) (fun K R2 => ?_)))))))
  refine yf nL3 (ya 0 3 z (yb (yae (ybc z ?_))))
  refine yr (yu ?_)
  obtain rfl := hext28 _ (sj R2).symm
  refine ybc z ?_
  refine ybc z ?_
  exact yr (yb4 (yv (sj R1 ▸ yx ⟨I42, rfl, le, S44⟩)))
  exact ym (yn (yc (yak nL2 (yaq i32 z (ya 1 1 z (yq (yx ⟨s31, (sj R2).symm, I42, rfl, le, S44⟩)))))))
  ·
   rintro s31 _ w48 ⟨I29, rfl, L30, S49⟩ he
   cases he
   refine yf [0] (ya 0 1 z (yb (yi (yax fun _ => yae (yr (yu (yv (yn (yc (yak nL2 (y7 0 26 (Iv 1) (ya 1 1 z (yq (En.again ?_))))))))))))))
   show W _ _ _ _ _ _
   refine yf [0] (y7 0 12 (.bool true) (yb (yi (ybz (fun K => ?_) (fun K => ?_)))))
   rotate_left
   cases K
   clear K
   refine ym (yc (yi (yo (yf nL2 (y7 0 13 (.slice a11 11 11) (ya 1 1 z (yz nL3 (ya 0 3 z (yb (yo (bsk R1 fun t50 hloop55 R1 => have hlt59 := ((RSl.mono hp22 L30)).len_lt; W.wk (yas (m := 11) hloop55 (fun (i54 : Nat) (s53 : Int) => JI E I29 [(0, .string p0), (3, Iv s53), (10, .agg #[(.slice a4 4 4), (.slice a11 11 11)]), (11, Iv 1), (14, .slice a11 11 11), (15, Iv (11 : Int)), (16, Nv i54)] Os) ⟨I29, rfl, lr, S49⟩ ?_ ?_))))))))))))
   rintro i54 s53 _ w56 hi60 ⟨I51, rfl, L52, S57⟩ x58 R2 hext50
   refine yf [0] (ya 0 1 z (yb (yi (yaw fun _ => ym (yc (yi (yo (yf nL3 (yaa 14 z (show Value.slice a11 11 11 = Value.slice a11 ([(⟨#[40]⟩ : By8), (⟨#[41]⟩ : By8), (⟨#[44]⟩ : By8), (⟨#[61]⟩ : By8), (⟨#[60]⟩ : By8), (⟨#[62]⟩ : By8), (⟨#[43]⟩ : By8), (⟨#[45]⟩ : By8), (⟨#[42]⟩ : By8), (⟨#[47]⟩ : By8), (⟨#[37]⟩ : By8)] : List By8).length 11 from z) ?_)))))))))
   obtain ⟨x61, R2, Hx61, _, rfl, Zx61⟩ := sx I51 hp22 R2
   refine yac 9 1 Hx61 z (yar Zx61 S57.rm z (ya 2 1 z (yz nL3 (ya 0 2 z (bsk R2 fun r67 Xr62 R2 => WO.c1 (strings_HasPrefix_ok  S57 Xr62) z fun I64 w63 L65 S66 => yb (y6 R2 (fun K R2 => ?_) (fun K R2 => ?_)))))))
   refine yf nL3 (ya 0 3 z (yb (yae (ybc z ?_))))
   refine yr (yu ?_)
   obtain rfl := hext50 _ (sj R2).symm
   refine ybc z ?_
   refine ybc z ?_
   exact yr (yb4 (yv (sj R1 ▸ yx ⟨I64, rfl, le, S66⟩)))
   exact ym (yn (yc (yak nL2 (yaq i54 z (ya 1 1 z (yq (yx ⟨s53, (sj R2).symm, I64, rfl, le, S66⟩)))))))
   rintro s53 _ w70 ⟨I51, rfl, L52, S71⟩ he
   cases he
   refine yf [0] (ya 0 1 z (yb (yi (yax fun _ => yae (yr (yu (yv (yn (yc (yak nL2 (y7 0 26 (Iv 2) (ya 1 1 z (yq (En.again ?_))))))))))))))
   show W _ _ _ _ _ _
   refine yf [0] (y7 0 12 (.bool false) (yb (yi (ybz (fun K => ?_) (fun K => ?_)))))
   cases K
   clear K
   exact yae (yr (yb4 (yv (sj R1 ▸ yx ⟨I51, rfl, le, S71⟩))))
 rintro _ w72 ⟨I26, rfl, L27, S73⟩
 exact yc (yf nL2 (ya 0 2 z (yb (yp (En.sc_ret (sj H ▸ yy ⟨I26, rfl, le, S73⟩))))))
noncomputable def lex_one (p0 : By8) : Option (Int × Int) := (sAt p0 0).bind (fun y1 => (lex_small y1).bind (fun r7 => (bif r7 then (lex_while p0 0 12 (fun (u0 : Int) => lex_one_1 u0)).bind (fun r13 => (lex_alone p0 r13).bind (fun r19 => some (1, r19))) else (lex_capital y1).bind (fun r25 => (bif r25 then (lex_while p0 0 16 (fun (u0 : Int) => lex_one_2 u0)).bind (fun r31 => (lex_alone p0 r31).bind (fun r37 => some (2, r37))) else (bif (y1 == 48) then (lex_alone p0 1).bind (fun r43 => some (3, r43)) else (lex_digit y1).bind (fun r49 => (bif r49 then (lex_while p0 0 19 (fun (u0 : Int) => lex_digit u0)).bind (fun r55 => (lex_alone p0 r55).bind (fun r61 => some (3, r61))) else (bif (y1 == 39) then (lex_quoted p0).bind (fun r67 => some (4, r67)) else (bif (y1 == 36) then ((bif (decide ((p0.size : Int) < 2)) then some true else (sAt p0 1).bind (fun y72 => some (decide (y72 < 49))))).bind (fun (j68 : Bool) => ((bif j68 then some true else (sAt p0 1).bind (fun y79 => some (decide (y79 > 54))))).bind (fun (j75 : Bool) => (bif j75 then some (5, 0) else (lex_alone p0 2).bind (fun r87 => some (5, r87))))) else (lex_sign p0).bind (fun r93 => some (6, r93))))))))))))
theorem lex_one_ok {p0 : By8} (hS : St E w I Os) {r : Int × Int} (H : lex_one p0 = some r) :
    Calls P 161 #[(.string p0)] w (RT E I Os (.tuple #[(Iv r.1), (Iv r.2)])) := by
 refine calls_W (fn := Tryz.f161) rfl rfl rfl ?_
 unfold lex_one at H
 refine yf nL2 (ya 0 2 z (yz nL3 (ya 0 1 z (bsk H fun y1 Xy1 H => yav z kr kr z z Xy1 ?_))))
 refine ya 2 1 z (yb (yi (yo (yf nL3 (ya 0 1 z (bsk H fun r7 Xr2 H => WO.c1 (lex_small_ok  hS Xr2) z fun I4 w3 L5 S6 => ya 2 1 z (yb (y6 H (fun K H => ?_) (fun K H => ?_)))))))))
 exact yf nL3 (ya 0 1 z (bsk H fun r13 Xr8 H => WO.c1 (lex_while_ok (fun {F Ic wc} {_} hlc hSc  {rc} hrc => lex_one_1_ok   hSc hrc) (fun _ _ => by kernel_rfl) S6 Xr8) z fun I10 w9 L11 S12 => ya 2 1 z (yz nL5 (ya 0 2 z (bsk H fun r19 Xr14 H => WO.c1 (lex_alone_ok  S12 Xr14) z fun I16 w15 L17 S18 => ya 3 2 z (yb (yp (yl (ye (sj H ▸ yat ⟨I16, rfl, le, S18⟩))))))))))
 refine yf nL3 (ya 0 1 z (bsk H fun r25 Xr20 H => WO.c1 (lex_capital_ok  S6 Xr20) z fun I22 w21 L23 S24 => ya 2 1 z (yb (y6 H (fun K H => ?_) (fun K H => ?_)))))
 exact yf nL3 (ya 0 1 z (bsk H fun r31 Xr26 H => WO.c1 (lex_while_ok (fun {F Ic wc} {_} hlc hSc  {rc} hrc => lex_one_2_ok   hSc hrc) (fun _ _ => by kernel_rfl) S24 Xr26) z fun I28 w27 L29 S30 => ya 2 1 z (yz nL5 (ya 0 2 z (bsk H fun r37 Xr32 H => WO.c1 (lex_alone_ok  S30 Xr32) z fun I34 w33 L35 S36 => ya 3 2 z (yb (yp (yl (ye (sj H ▸ yat ⟨I34, rfl, le, S36⟩))))))))))
 refine yf nL3 (ya 0 3 z (yb (y6 H (fun K H => ?_) (fun K H => ?_))))
 exact yf nL4 (ya 0 1 z (bsk H fun r43 Xr38 H => WO.c1 (lex_alone_ok  S24 Xr38) z fun I40 w39 L41 S42 => ya 2 2 z (yb (yp (yl (ye (sj H ▸ yat ⟨I40, rfl, le, S42⟩)))))))
 refine yf nL3 (ya 0 1 z (bsk H fun r49 Xr44 H => WO.c1 (lex_digit_ok  S24 Xr44) z fun I46 w45 L47 S48 => ya 2 1 z (yb (y6 H (fun K H => ?_) (fun K H => ?_)))))
 exact yf nL6 (ya 0 2 z (bsk H fun r55 Xr50 H => WO.c1 (lex_while_ok (fun {F Ic wc} {_} hlc hSc  {rc} hrc => lex_digit_ok   hSc hrc) (fun _ _ => by kernel_rfl) S48 Xr50) z fun I52 w51 L53 S54 => bsk H fun r61 Xr56 H => WO.c1 (lex_alone_ok  S54 Xr56) z fun I58 w57 L59 S60 => ya 4 2 z (yb (yp (yl (ye (sj H ▸ yat ⟨I58, rfl, le, S60⟩)))))))
 refine yf nL3 (ya 0 3 z (yb (y6 H (fun K H => ?_) (fun K H => ?_))))
 exact yf nL4 (ya 0 1 z (bsk H fun r67 Xr62 H => WO.c1 (lex_quoted_ok  S48 Xr62) z fun I64 w63 L65 S66 => ya 2 2 z (yb (yp (yl (ye (sj H ▸ yat ⟨I64, rfl, le, S66⟩)))))))
 refine yf nL3 (ya 0 3 z (yb (y6 H (fun K H => ?_) (fun K H => ?_))))
 refine yi (yf nL13 (ya 0 4 z (bsk H fun j68 R1 H => yap (l1 := [4, 5, 6, 7]) (J := JI E I46 [(0, .string p0), (52, .bool j68)] Os) ?_ ?_)))
 refine yao R1 (fun K R1 => ?_) (fun K R1 => ?_)
 refine y4 48 K ?_
 iterate 3 refine yan ?_
 exact ya 7 1 z (sj R1 ▸ y3 ⟨I46, rfl, lr, S48⟩)
 refine y4 48 K (ya 4 1 z (bsk R1 fun y72 Xy72 R1 => yav z kr kr z z Xy72 ?_))
 exact ya 6 2 z (sj R1 ▸ y3 ⟨I46, rfl, lr, S48⟩)
 rintro _ w73 ⟨I70, rfl, L71, S74⟩
 refine ya 8 1 z (bsk H fun j75 R1 H => yap (l1 := [9, 10, 11, 12]) (J := JI E I70 [(0, .string p0), (57, .bool j75)] Os) ?_ ?_)
 refine yao R1 (fun K R1 => ?_) (fun K R1 => ?_)
 refine y4 53 K ?_
 iterate 3 refine yan ?_
 exact ya 12 1 z (sj R1 ▸ y3 ⟨I70, rfl, lr, S74⟩)
 refine y4 53 K (ya 9 1 z (bsk R1 fun y79 Xy79 R1 => yav z kr kr z z Xy79 ?_))
 exact ya 11 2 z (sj R1 ▸ y3 ⟨I70, rfl, lr, S74⟩)
 rintro _ w80 ⟨I77, rfl, L78, S81⟩
 refine yb (y6 H (fun K H => ?_) (fun K H => ?_))
 exact yf nL2 (ya 0 2 z (yb (yp (ye (yl (ye (sj H ▸ yat ⟨I77, rfl, le, S81⟩)))))))
 exact ym (yc (yf nL4 (ya 0 1 z (bsk H fun r87 Xr82 H => WO.c1 (lex_alone_ok  S81 Xr82) z fun I84 w83 L85 S86 => ya 2 2 z (yb (yp (yl (ye (sj H ▸ yat ⟨I84, rfl, le, S86⟩)))))))))
 exact ym (yn (yc (yf nL4 (ya 0 1 z (bsk H fun r93 Xr88 H => WO.c1 (lex_sign_ok  S48 Xr88) z fun I90 w89 L91 S92 => ya 2 2 z (yb (yp (sj H ▸ yat ⟨I90, rfl, le, S92⟩))))))))
noncomputable def lex_Right (p0 : lex_Token) : Option Bool := (bif (decide (p0.At < 0)) then some false else (bif (sEq p0.Text eB) then some (p0.Kind == 7) else (lex_one p0.Text).bind (fun (r12, r13) => some ((r13 == (p0.Text.size : Int)) && (r12 == p0.Kind)))))
theorem lex_Right_ok {p0 : lex_Token} (hS : St E w I Os) {r : Bool} (H : lex_Right p0 = some r) :
    Calls P 141 #[(.agg (cs_lex_Token p0).toArray)] w (RT E I Os (.bool r)) := by
 refine calls_W (fn := Tryz.f141) rfl rfl rfl ?_
 unfold lex_Right at H
 refine yf nL2 (yad hS (cs_lex_Token p0) 191 z fun b1 w4 S3 => ya 1 1 z (yb (yi (yf nL3 (yg 0 1 [2] z (yj (S3.rf m0) z (ya 2 1 z (yb (y6 H (fun K H => ?_) (fun K H => ?_))))))))))
 exact yf [0] (ya 0 1 z (yb (yp (ye (sj H ▸ yy ⟨I, rfl, lr, S3.drop⟩)))))
 refine ym (yc (yi (yf nL3 (yg 0 1 [1] z (yj (S3.rf m0) z (ya 2 1 z (yb (y6 H (fun K H => ?_) (fun K H => ?_)))))))))
 exact yf nL4 (yg 0 1 [0] z (yj (S3.rf m0) z (ya 2 2 z (yb (yp (ye (sj H ▸ yy ⟨I, rfl, lr, S3.drop⟩)))))))
 refine ym (yc (yf nL8 (yg 0 1 [1] z (yj (S3.rf m0) z ?_))))
 obtain ⟨⟨r12, r13⟩, Xr7, H⟩ := bsm H
 exact WO.c1 (lex_one_ok  S3 Xr7) z fun I9 w8 L10 S11 => ya 3 5 z (yz nL12 (yg 0 2 [1] z (yj (S11.rf m0) z (ya 3 3 z (yay [6, 7, 8, 9] 10 25 30 (.refl ((r13 == (p0.Text.size : Int)) && (r12 == p0.Kind))) (fun _ => yg 6 2 [0] z (yj (S11.rf m0) z (ya 9 2 z yal))) (ya 11 1 z (yb (yp (sj H ▸ yy ⟨I9, rfl, L10, S11.drop⟩)))))))))
noncomputable def lex_IsName (p0 : By8) : Option Bool := (lex_Right ({ z_lex_Token with Kind := 1, Text := p0 })).bind (fun r6 => some r6)
theorem lex_IsName_ok {p0 : By8} (hS : St E w I Os) {r : Bool} (H : lex_IsName p0 = some r) :
    Calls P 101 #[(.string p0)] w (RT E I Os (.bool r)) := by
 refine calls_W (fn := Tryz.f101) rfl rfl rfl ?_
 unfold lex_IsName at H
 exact yf [0] (ya 0 1 z (yz nL4 (ya 0 1 z (y7 1 4 (.agg (cs_lex_Token ({ z_lex_Token with Kind := 1, Text := p0 })).toArray) (bsk H fun r6 Xr1 H => WO.c1 (lex_Right_ok  hS Xr1) z fun I3 w2 L4 S5 => ya 3 1 z (yb (yp (sj H ▸ yy ⟨I3, rfl, L4, S5⟩))))))))
def slices_IndexFunc_string (p0 : List By8) (p1 : By8 → Option Bool) : Option Int := (forN (fun (i4 : Nat) (_s : Unit) => (idx p0 (i4 : Int)).bind (fun x11 => (p1 x11).bind (fun (r17 : Bool) => (bif r17 then some (.inr (i4 : Int)) else some (.inl ()))))) p0.length 0 ()).bind (fun (t : Unit ⊕ (Int)) => match t with | .inl _ => some (-1) | .inr s19 => some s19)
theorem slices_IndexFunc_string_ok {p0 : List By8} {p1 : By8 → Option Bool} {a_p0 : Option Addr} {c_p0 : Nat} {g_p1 : FuncId} {k_p1 : List Value} (h_p0 : RSl 1 RStr I a_p0 c_p0 p0) (h_p1 : ∀ {F : List Mem} {I' : Mem} {w : World} {u0 : By8}, I.Le I' → St E w I' (F ++ Os) → ∀ {r : Bool}, p1 u0 = some r → Calls P g_p1 (([(.string u0)] : List Value) ++ k_p1).toArray w (fun e w' => ∃ (I'' : Mem), e = .returned (.bool r) ∧ I'.Le I'' ∧ St E w' I'' (F ++ Os))) (hcall_p1 : Callable P g_p1) (hS : St E w I Os) {r : Int} (H : slices_IndexFunc_string p0 p1 = some r) :
    Calls P 149 #[(Sl a_p0 p0 c_p0), (.func (.func g_p1) #[] k_p1.toArray)] w (RT E I Os (Iv r)) := by
 refine calls_W (fn := Tryz.f149) rfl rfl rfl ?_
 unfold slices_IndexFunc_string at H
 refine yf [0] (ya 0 1 z (yb (yi (yf nL3 (ya 0 3 z (yb (yo (bsk H fun t1 hloop5 H => have hlt9 := (h_p0).len_lt; W.wk (yas (m := p0.length) hloop5 (fun (i4 : Nat) (_s : Unit) => JI E I [(0, Sl a_p0 p0 c_p0), (1, .func (.func g_p1) #[] k_p1.toArray), (7, Nv p0.length), (8, Nv i4)] Os) ⟨I, rfl, lr, hS⟩ ?_ ?_)))))))))
 rintro i4 _ _ w6 hi10 ⟨I2, rfl, L3, S7⟩ x8 R1 hext1
 refine yf [0] (ya 0 1 z (yb (yi (yaw fun _ => ym (yc (yi (yo (yf nL2 (ya 0 2 z (yz nL6 (y7 0 11 (.func (.func g_p1) #[] k_p1.toArray) (ya 1 2 z ?_))))))))))))
 obtain ⟨x11, R1, Hx11, _, rfl, Zx11⟩ := sx I2 h_p0 R1
 refine yac 9 1 Hx11 z (yar Zx11 S7.rm z (bsk R1 fun r17 Xr12 R1 => yby z kr z (g := g_p1) (kk := k_p1) (args := [(.string x11)]) z kr hcall_p1 (h_p1 (F := []) L3 S7  Xr12) ?_))
 rintro _ w13 ⟨I14, rfl, L15, S16⟩
 refine cv (yb (y6 R1 (fun K R1 => ?_) (fun K R1 => ?_)))
 refine yf nL2 (ya 0 2 z (yb (yp (yl (ye (yw ?_))))))
 obtain rfl := hext1 _ (sj R1).symm
 exact yl (ye (sj H ▸ yy ⟨I14, rfl, le, S16⟩))
 exact ym (yn (yc (yak nL2 (yaq i4 z (ya 1 1 z (yq (yx ⟨(), (sj R1).symm, I14, rfl, le, S16⟩)))))))
 rintro _ _ w20 ⟨I2, rfl, L3, S21⟩ he
 cases he
 exact yf [0] (ya 0 1 z (yb (yi (yax fun _ => yae (yr (yu (yv (yc (yf [0] (ya 0 1 z (yb (yp (sj H ▸ yy ⟨I2, rfl, L3, S21⟩)))))))))))))
def slices_ContainsFunc_string (p0 : List By8) (p1 : By8 → Option Bool) : Option Bool := (slices_IndexFunc_string p0 p1).bind (fun r6 => some (decide (r6 ≥ 0)))
theorem slices_ContainsFunc_string_ok {p0 : List By8} {p1 : By8 → Option Bool} {a_p0 : Option Addr} {c_p0 : Nat} {g_p1 : FuncId} {k_p1 : List Value} (h_p0 : RSl 1 RStr I a_p0 c_p0 p0) (h_p1 : ∀ {F : List Mem} {I' : Mem} {w : World} {u0 : By8}, I.Le I' → St E w I' (F ++ Os) → ∀ {r : Bool}, p1 u0 = some r → Calls P g_p1 (([(.string u0)] : List Value) ++ k_p1).toArray w (fun e w' => ∃ (I'' : Mem), e = .returned (.bool r) ∧ I'.Le I'' ∧ St E w' I'' (F ++ Os))) (hcall_p1 : Callable P g_p1) (hS : St E w I Os) {r : Bool} (H : slices_ContainsFunc_string p0 p1 = some r) :
    Calls P 136 #[(Sl a_p0 p0 c_p0), (.func (.func g_p1) #[] k_p1.toArray)] w (RT E I Os (.bool r)) := by
 refine calls_W (fn := Tryz.f136) rfl rfl rfl ?_
 unfold slices_ContainsFunc_string at H
 exact yf [0] (ya 0 1 z (yz nL5 (ya 0 1 z (y7 1 6 (.func (.func g_p1) #[] k_p1.toArray) (bsk H fun r6 Xr1 H => WO.c1 (slices_IndexFunc_string_ok h_p0 (fun {F Ic wc} {_} hlc hSc  {rc} hrc => h_p1 hlc hSc  hrc) hcall_p1 hS Xr1) z fun I3 w2 L4 S5 => ya 3 2 z (yb (yp (sj H ▸ yy ⟨I3, rfl, L4, S5⟩))))))))
noncomputable def member_round_1 (p0 : By8) (q1 : List qJ) (q2 : qJ) : Option Bool := (member_Is q1 p0 q2.Name).bind (fun r6 => some r6)
theorem member_round_1_ok {p0 : By8} {q1 : List qJ} {q2 : qJ} {kb1 : Nat} {a_q1 : Option Addr} {c_q1 : Nat} {kb2 : Nat} {w_q2 : W_qJ} (h_q1 : RSl 2 R_qJ I a_q1 c_q1 q1) (h_q2 : ok_qJ I q2 w_q2) (hm1 : (Bx kb1 [(Sl a_q1 q1 c_q1)] 26) ∈ Os) (hm2 : (bJ kb2 q2 w_q2) ∈ Os) (hS : St E w I Os) {r : Bool} (H : member_round_1 p0 q1 q2 = some r) :
    Calls P 160 #[(.string p0), (Pt kb1 0), (Pt kb2 0)] w (RT E I Os (.bool r)) := by
 refine calls_W (fn := Tryz.f160) rfl rfl rfl ?_
 unfold member_round_1 at H
 exact yf [0] (ya 0 1 z (yz nL6 (yj (rd_f (hS.rd hm1)) z (yg 1 2 [0] z (yj (rd_f (hS.rd hm2)) z (bsk H fun r6 Xr1 H => WO.c1 (member_Is_ok h_q1 hS Xr1) z fun I3 w2 L4 S5 => ya 5 1 z (yb (yp (sj H ▸ yy ⟨I3, rfl, L4, S5⟩)))))))))
noncomputable def member_round (p0 : List qJ) (p1 : qJ) : Option Bool := (slices_ContainsFunc_string p1.In (fun (u0 : By8) => member_round_1 u0 p0 p1)).bind (fun r14 => some r14)
theorem member_round_ok {p0 : List qJ} {p1 : qJ} {a_p0 : Option Addr} {c_p0 : Nat} {w_p1 : W_qJ} (h_p0 : RSl 2 R_qJ I a_p0 c_p0 p0) (h_p1 : ok_qJ I p1 w_p1) (hS : St E w I Os) {r : Bool} (H : member_round p0 p1 = some r) :
    Calls P 140 #[(Sl a_p0 p0 c_p0), (vJ p1 w_p1)] w (RT E I Os (.bool r)) := by
 refine calls_W (fn := Tryz.f140) rfl rfl rfl ?_
 unfold member_round at H
 exact yf nL3 (yad hS [(Sl a_p0 p0 c_p0)] 26 z fun b1 w4 S3 => yad S3 (cs_qJ p1 w_p1) 62 z fun b5 w8 S7 => ya 2 1 z (yz nL5 (yg 0 1 [1] z (yj (S7.rf m0) z (y7 2 7 (.func (.func 160) #[] #[(Pt b1 0), (Pt b5 0)]) (bsk H fun r14 Xr9 H => WO.c1 (slices_ContainsFunc_string_ok h_p1.In (fun {F Ic wc} {_} hlc hSc  {rc} hrc => member_round_1_ok (RSl.mono h_p0 hlc) (h_p1.mono hlc) (List.mem_append_right _ m1) (List.mem_append_right _ m0) hSc hrc) (fun _ _ => by kernel_rfl) S7 Xr9) z fun I11 w10 L12 S13 => ya 4 1 z (yb (yp (sj H ▸ yy ⟨I11, rfl, L12, S13.d2⟩)))))))))
def slices_ContainsFunc_qJ (p0 : List qJ) (p1 : qJ → Option Bool) : Option Bool := (slices_IndexFunc_qJ p0 p1).bind (fun r6 => some (decide (r6 ≥ 0)))
theorem slices_ContainsFunc_qJ_ok {p0 : List qJ} {p1 : qJ → Option Bool} {a_p0 : Option Addr} {c_p0 : Nat} {g_p1 : FuncId} {k_p1 : List Value} (h_p0 : RSl 2 R_qJ I a_p0 c_p0 p0) (h_p1 : ∀ {F : List Mem} {I' : Mem} {w : World} {u0 : qJ} {w_u0 : W_qJ}, I.Le I' → St E w I' (F ++ Os) → ok_qJ I' u0 w_u0 → ∀ {r : Bool}, p1 u0 = some r → Calls P g_p1 (([(vJ u0 w_u0)] : List Value) ++ k_p1).toArray w (fun e w' => ∃ (I'' : Mem), e = .returned (.bool r) ∧ I'.Le I'' ∧ St E w' I'' (F ++ Os))) (hcall_p1 : Callable P g_p1) (hS : St E w I Os) {r : Bool} (H : slices_ContainsFunc_qJ p0 p1 = some r) :
    Calls P 138 #[(Sl a_p0 p0 c_p0), (.func (.func g_p1) #[] k_p1.toArray)] w (RT E I Os (.bool r)) := by
 refine calls_W (fn := Tryz.f138) rfl rfl rfl ?_
 unfold slices_ContainsFunc_qJ at H
 exact yf [0] (ya 0 1 z (yz nL5 (ya 0 1 z (y7 1 6 (.func (.func g_p1) #[] k_p1.toArray) (bsk H fun r6 Xr1 H => WO.c1 (slices_IndexFunc_qJ_ok h_p0 (fun {F Ic wc} {_} {_} hlc hSc h_u0 {rc} hrc => h_p1 hlc hSc h_u0 hrc) hcall_p1 hS Xr1) z fun I3 w2 L4 S5 => ya 3 2 z (yb (yp (sj H ▸ yy ⟨I3, rfl, L4, S5⟩))))))))
def member_Check_1 (p0 : By8) (q1 : List By8) : Option Bool := (slices_Contains_string q1 p0).bind (fun r6 => some (!r6))
theorem member_Check_1_ok {p0 : By8} {q1 : List By8} {kb1 : Nat} {a_q1 : Option Addr} {c_q1 : Nat} (h_q1 : RSl 1 RStr I a_q1 c_q1 q1) (hm1 : (Bx kb1 [(Sl a_q1 q1 c_q1)] 33) ∈ Os) (hS : St E w I Os) {r : Bool} (H : member_Check_1 p0 q1 = some r) :
    Calls P 137 #[(.string p0), (Pt kb1 0)] w (RT E I Os (.bool r)) := by
 refine calls_W (fn := Tryz.f137) rfl rfl rfl ?_
 unfold member_Check_1 at H
 exact yf [0] (ya 0 1 z (yz nL5 (yj (rd_f (hS.rd hm1)) z (ya 1 1 z (bsk H fun r6 Xr1 H => WO.c1 (slices_Contains_string_ok h_q1 hS Xr1) z fun I3 w2 L4 S5 => ya 3 2 z (yb (yp (sj H ▸ yy ⟨I3, rfl, L4, S5⟩))))))))
noncomputable def member_Check_2 (p0 : qJ) (q1 : List qJ) : Option Bool := (member_round q1 p0).bind (fun r10 => some r10)
theorem member_Check_2_ok {p0 : qJ} {q1 : List qJ} {w_p0 : W_qJ} {kb1 : Nat} {a_q1 : Option Addr} {c_q1 : Nat} (h_p0 : ok_qJ I p0 w_p0) (h_q1 : RSl 2 R_qJ I a_q1 c_q1 q1) (hm1 : (Bx kb1 [(Sl a_q1 q1 c_q1)] 26) ∈ Os) (hS : St E w I Os) {r : Bool} (H : member_Check_2 p0 q1 = some r) :
    Calls P 139 #[(vJ p0 w_p0), (Pt kb1 0)] w (RT E I Os (.bool r)) := by
 refine calls_W (fn := Tryz.f139) rfl rfl rfl ?_
 unfold member_Check_2 at H
 exact yf nL2 (yad hS (cs_qJ p0 w_p0) 62 z fun b1 w4 S3 => ya 1 1 z (yz nL4 (yj (rd_f (S3.rd (List.Mem.tail _ hm1))) z (yab ((cs_qJ p0 w_p0)) (S3.rf m0) z (bsk H fun r10 Xr5 H => WO.c1 (member_round_ok h_q1 h_p0 S3 Xr5) z fun I7 w6 L8 S9 => ya 3 1 z (yb (yp (sj H ▸ yy ⟨I7, rfl, L8, S9.drop⟩))))))))
noncomputable def member_Check (p0 : List qJ) : Option Int := (member_names p0).bind (fun r10 => ((bif (decide ((p0.length : Int) > 8)) then some true else (member_rising r10).bind (fun r32 => some (!r32)))).bind (fun (j22 : Bool) => (bif j22 then some 2 else (forN (fun (i41 : Nat) (_s : Unit) => (idx p0 (i41 : Int)).bind (fun x48 => (lex_IsName x48.Name).bind (fun r60 => ((bif (!r60) then some true else (member_rising x48.In).bind (fun r72 => some (!r72)))).bind (fun (j61 : Bool) => ((bif j61 then some true else (slices_ContainsFunc_string x48.In (fun (u0 : By8) => member_Check_1 u0 r10)).bind (fun r88 => some r88))).bind (fun (j77 : Bool) => (bif j77 then some (.inr (2 : Int)) else some (.inl ()))))))) p0.length 0 ()).bind (fun (t : Unit ⊕ (Int)) => match t with | .inl _ => (slices_ContainsFunc_qJ p0 (fun (u0 : qJ) => member_Check_2 u0 p0)).bind (fun r106 => (bif r106 then some 2 else some 0)) | .inr s94 => some s94))))
theorem member_Check_ok {p0 : List qJ} {a_p0 : Option Addr} {c_p0 : Nat} (h_p0 : RSl 2 R_qJ I a_p0 c_p0 p0) (hS : St E w I Os) {r : Int} (H : member_Check p0 = some r) :
    Calls P 100 #[(Sl a_p0 p0 c_p0)] w (RT E I Os (Iv r)) := by
 refine calls_W (fn := Tryz.f100) rfl rfl rfl ?_
 unfold member_Check at H
 refine yf nL2 (yad hS [(Sl a_p0 p0 c_p0)] 26 z fun b1 w4 S3 => ya 1 1 z (yz nL4 (yj (S3.rf m0) z (bsk H fun r10 Xr5 H => yaj (member_names_ok h_p0 S3 Xr5) ?_))))
 rintro _ w6 ⟨I7, a_r10, c_r10, C_r10, rfl, L8, S9, h_r10⟩
 refine cv (yad S9 [(.slice none 0 0)] 33 z ?_)
 intro b11 w14 S13
 obtain ⟨I16, L17, S19, hp18⟩ := OwnSl.pub h_r10 S13.front1
 refine yaf S19 0 [(Sl a_r10 r10 c_r10)] fun w21 S20 => yb (yi (yf nL8 (yj (S20.rf m1) z (ya 1 3 z (bsk H fun j22 R1 H => yap (l1 := [4, 5, 6, 7]) (J := JI E I16 [(1, Pt b1 0), (3, Pt b11 0), (15, .bool j22)] ((Bx b1 [(Sl a_p0 p0 c_p0)] 26) :: (Bx b11 [(Sl a_r10 r10 c_r10)] 33) :: Os)) ?_ ?_)))))
 refine yao R1 (fun K R1 => ?_) (fun K R1 => ?_)
 refine y4 11 K ?_
 iterate 3 refine yan ?_
 exact ya 7 1 z (sj R1 ▸ y3 ⟨I16, rfl, lr, S20.front1⟩)
 exact y4 11 K (yj (S20.rf m0) z (bsk R1 fun r32 Xr27 R1 => WO.c1 (member_rising_ok hp18 S20 Xr27) z fun I29 w28 L30 S31 => ya 6 2 z (sj R1 ▸ y3 ⟨I29, rfl, L30, S31.front1⟩)))
 rintro _ w34 ⟨I24, rfl, L25, S35⟩
 refine yb (y6 H (fun K H => ?_) (fun K H => ?_))
 exact yf [0] (ya 0 1 z (yb (yp (ye (sj H ▸ yy ⟨I24, rfl, le, S35.d2⟩)))))
 refine ym (yc (yi (yf nL3 (yj (S35.rf m0) z (ya 1 2 z (yb (yo (bsk H fun t38 hloop42 H => have hlt46 := ((RSl.mono h_p0 ((L8.trans L17).trans L25))).len_lt; W.wk (yas (m := p0.length) hloop42 (fun (i41 : Nat) (_s : Unit) => JI E I24 [(1, Pt b1 0), (3, Pt b11 0), (16, Sl a_p0 p0 c_p0), (17, Nv p0.length), (18, Nv i41)] ((Bx b1 [(Sl a_p0 p0 c_p0)] 26) :: (Bx b11 [(Sl a_r10 r10 c_r10)] 33) :: Os)) ⟨I24, rfl, lr, S35⟩ ?_ ?_)))))))))
 rintro i41 _ _ w43 hi47 ⟨I39, rfl, L40, S44⟩ x45 R1 hext38
 refine yf [0] (ya 0 1 z (yb (yi (yaw fun _ => ym (yc (yi (yo (yf nL4 ?_))))))))
 obtain ⟨x48, R1, Hx48, _, ⟨w_x48, rfl, h_x48⟩, Zx48⟩ := sx I39 h_p0 R1
 refine yac 62 2 Hx48 z (yau ((cs_qJ x48 w_x48)) Zx48 0 S44.rm z (yad S44 (cs_qJ z_qJ zw_qJ) 62 z fun b49 w52 S51 => yaf S51 0 (cs_qJ x48 w_x48) fun w54 S53 => yz nL16 (yg 0 1 [0] z (yj (S53.rf m0) z (bsk R1 fun r60 Xr55 R1 => WO.c1 (lex_IsName_ok  S53 Xr55) z fun I57 w56 L58 S59 => ya 3 2 z (bsk R1 fun j61 R2 R1 => yap (l1 := [5, 6, 7, 8, 9]) (J := JI E I57 [(1, Pt b1 0), (3, Pt b11 0), (5, Pt b49 0), (16, Sl a_p0 p0 c_p0), (17, Nv p0.length), (18, Nv i41), (31, .bool j61)] ((Bx b1 [(Sl a_p0 p0 c_p0)] 26) :: (Bx b11 [(Sl a_r10 r10 c_r10)] 33) :: (bJ b49 x48 w_x48) :: Os)) ?_ ?_))))))
 refine yao R2 (fun K R2 => ?_) (fun K R2 => ?_)
 refine y4 26 K ?_
 iterate 4 refine yan ?_
 exact ya 9 1 z (sj R2 ▸ y3 ⟨I57, rfl, lr, S59.front2.front2⟩)
 exact y4 26 K (yg 5 1 [1] z (yj (S59.rf m0) z (bsk R2 fun r72 Xr67 R2 => WO.c1 (member_rising_ok (RSl.mono h_x48.In L58) S59 Xr67) z fun I69 w68 L70 S71 => ya 8 2 z (sj R2 ▸ y3 ⟨I69, rfl, L70, S71.front2.front2⟩))))
 rintro _ w75 ⟨I63, rfl, L64, S76⟩
 refine ya 10 1 z (bsk R1 fun j77 R2 R1 => yap (l1 := [11, 12, 13, 14, 15]) (J := JI E I63 [(1, Pt b1 0), (3, Pt b11 0), (16, Sl a_p0 p0 c_p0), (17, Nv p0.length), (18, Nv i41), (37, .bool j77)] ((Bx b1 [(Sl a_p0 p0 c_p0)] 26) :: (Bx b11 [(Sl a_r10 r10 c_r10)] 33) :: Os)) ?_ ?_)
 refine yao R2 (fun K R2 => ?_) (fun K R2 => ?_)
 refine y4 32 K ?_
 iterate 4 refine yan ?_
 exact ya 15 1 z (sj R2 ▸ y3 ⟨I63, rfl, lr, S76.front2.drop⟩)
 exact y4 32 K (yg 11 1 [1] z (yj (S76.rf m2) z (y7 13 35 (.func (.func 137) #[] #[(Pt b11 0)]) (bsk R2 fun r88 Xr83 R2 => WO.c1 (slices_ContainsFunc_string_ok (up h_x48.In) (fun {F Ic wc} {_} hlc hSc  {rc} hrc => member_Check_1_ok (RSl.mono (up hp18) hlc) (List.mem_append_right _ m1) hSc hrc) (fun _ _ => by kernel_rfl) S76 Xr83) z fun I85 w84 L86 S87 => ya 15 1 z (sj R2 ▸ y3 ⟨I85, rfl, L86, S87.front2.drop⟩)))))
 rintro _ w91 ⟨I79, rfl, L80, S92⟩
 refine yb (y6 R1 (fun K R1 => ?_) (fun K R1 => ?_))
 refine yf [0] (ya 0 1 z (yb (yp (yl (ye (yw ?_))))))
 obtain rfl := hext38 _ (sj R1).symm
 exact yl (ye (sj H ▸ yy ⟨I79, rfl, le, S92.d2⟩))
 exact ym (yn (yc (yak nL2 (yaq i41 z (ya 1 1 z (yq (yx ⟨(), (sj R1).symm, I79, rfl, le, S92⟩)))))))
 rintro _ _ w99 ⟨I39, rfl, L40, S100⟩ he
 cases he
 refine yf [0] (ya 0 1 z (yb (yi (yax fun _ => yae (yr (yu (yv (yc (yi (yf nL3 (yj (S100.rf m0) z (y7 1 40 (.func (.func 139) #[] #[(Pt b1 0)]) (bsk H fun r106 Xr101 H => WO.c1 (slices_ContainsFunc_qJ_ok (up h_p0) (fun {F Ic wc} {_} {_} hlc hSc h_u0 {rc} hrc => member_Check_2_ok h_u0 (RSl.mono (up h_p0) hlc) (List.mem_append_right _ m0) hSc hrc) (fun _ _ => by kernel_rfl) S100 Xr101) z fun I103 w102 L104 S105 => yb (y6 H (fun K H => ?_) (fun K H => ?_)))))))))))))))
 exact yf [0] (ya 0 1 z (yb (yp (ye (sj H ▸ yy ⟨I103, rfl, le, S105.d2⟩)))))
 exact ym (yc (yf [0] (ya 0 1 z (yb (yp (sj H ▸ yy ⟨I103, rfl, le, S105.d2⟩))))))
def cmp_isNaN_string (p0 : By8) : Option Bool := some (!sEq p0 p0)
theorem cmp_isNaN_string_ok {p0 : By8} (hS : St E w I Os) {r : Bool} (H : cmp_isNaN_string p0 = some r) :
    Calls P 162 #[(.string p0)] w (RT E I Os (.bool r)) := by
 refine calls_W (fn := Tryz.f162) rfl rfl rfl ?_
 unfold cmp_isNaN_string at H
 exact yf [0] (ya 0 1 z (yz nL4 (ya 0 4 z (yb (yp (sj H ▸ yy ⟨I, rfl, lr, hS⟩))))))
def cmp_Less_string (p0 : By8) (p1 : By8) : Option Bool := (cmp_isNaN_string p0).bind (fun r6 => ((bif r6 then (cmp_isNaN_string p1).bind (fun r16 => some (!r16)) else some false)).bind (fun (j7 : Bool) => some (j7 || (sLt p0 p1))))
theorem cmp_Less_string_ok {p0 : By8} {p1 : By8} (hS : St E w I Os) {r : Bool} (H : cmp_Less_string p0 p1 = some r) :
    Calls P 143 #[(.string p0), (.string p1)] w (RT E I Os (.bool r)) := by
 refine calls_W (fn := Tryz.f143) rfl rfl rfl ?_
 unfold cmp_Less_string at H
 refine yf [0] (ya 0 1 z (yz nL13 (ya 0 1 z (bsk H fun r6 Xr1 H => WO.c1 (cmp_isNaN_string_ok  hS Xr1) z fun I3 w2 L4 S5 => ya 2 1 z (bsk H fun j7 R1 H => yap (l1 := [3, 4, 5, 6]) (J := JI E I3 [(0, .string p0), (1, .string p1), (11, .bool j7)] Os) ?_ ?_)))))
 refine yao R1 (fun K R1 => ?_) (fun K R1 => ?_)
 exact y4 7 K (ya 3 1 z (bsk R1 fun r16 Xr11 R1 => WO.c1 (cmp_isNaN_string_ok  S5 Xr11) z fun I13 w12 L14 S15 => ya 5 2 z (sj R1 ▸ y3 ⟨I13, rfl, L14, S15⟩)))
 refine y4 7 K ?_
 iterate 3 refine yan ?_
 exact ya 6 1 z (sj R1 ▸ y3 ⟨I3, rfl, lr, S5⟩)
 rintro _ w17 ⟨I9, rfl, L10, S18⟩
 exact ya 7 1 z (ya3 [8, 9, 10] 11 12 16 (.refl (j7 || (sLt p0 p1))) (fun _ => ya 8 2 z (y7 10 15 (.bool (sLt p0 p1)) (ya 11 1 z yal))) (ya 12 1 z (yb (yp (sj H ▸ yy ⟨I9, rfl, le, S18⟩)))))
def slices_isNaN_string (p0 : By8) : Option Bool := some (!sEq p0 p0)
theorem slices_isNaN_string_ok {p0 : By8} (hS : St E w I Os) {r : Bool} (H : slices_isNaN_string p0 = some r) :
    Calls P 144 #[(.string p0)] w (RT E I Os (.bool r)) := by
 refine calls_W (fn := Tryz.f144) rfl rfl rfl ?_
 unfold slices_isNaN_string at H
 exact yf [0] (ya 0 1 z (yz nL4 (ya 0 4 z (yb (yp (sj H ▸ yy ⟨I, rfl, lr, hS⟩))))))
noncomputable def slices_BinarySearch_string (p0 : List By8) (p1 : By8) : Option (Int × Bool) := (loopO (fun (s : Int × Int) => match s with | (s4, s5) => (bif (decide (s4 < s5)) then (idx p0 (w64 (Int.fdiv (IntKind.wrap .u64 (w64 (s4 + s5))) (2 ^ 1)))).bind (fun x10 => (cmp_Less_string x10 p1).bind (fun r16 => ((bif r16 then some ((w64 ((w64 (Int.fdiv (IntKind.wrap .u64 (w64 (s4 + s5))) (2 ^ 1))) + 1)), s5) else some (s4, (w64 (Int.fdiv (IntKind.wrap .u64 (w64 (s4 + s5))) (2 ^ 1)))))).bind (fun ((s21, s22) : Int × Int) => some (.inl (s21, s22))))) else some (.inr s4))) (0, (p0.length : Int))).bind (fun (s26 : Int) => ((bif (decide (s26 < (p0.length : Int))) then (idx p0 s26).bind (fun x31 => ((bif (sEq x31 p1) then some true else (idx p0 s26).bind (fun x36 => (slices_isNaN_string x36).bind (fun r42 => ((bif r42 then (slices_isNaN_string p1).bind (fun r52 => some r52) else some false)).bind (fun (j43 : Bool) => some j43))))).bind (fun (j32 : Bool) => some j32)) else some false)).bind (fun (j27 : Bool) => some (s26, j27)))
theorem slices_BinarySearch_string_ok {p0 : List By8} {p1 : By8} {a_p0 : Option Addr} {c_p0 : Nat} (h_p0 : RSl 1 RStr I a_p0 c_p0 p0) (hS : St E w I Os) {r : Int × Bool} (H : slices_BinarySearch_string p0 p1 = some r) :
    Calls P 103 #[(Sl a_p0 p0 c_p0), (.string p1)] w (RT E I Os (.tuple #[(Iv r.1), (.bool r.2)])) := by
 refine calls_W (fn := Tryz.f103) rfl rfl rfl ?_
 unfold slices_BinarySearch_string at H
 refine yf nL2 (ya 0 2 z (yz nL3 (ya 0 3 z (yz nL3 (ya 0 3 z (yb (yi (yo (bsk H fun t1 hloop6 H => W.wk (ybf hloop6 (fun (s : Int × Int) fr w => match s with | (s4, s5) => ∃ I2, fr = [(0, Sl a_p0 p0 c_p0), (1, .string p1), (6, Nv p0.length), (7, Iv s4), (8, Iv s5)] ∧ I.Le I2 ∧ St E w I2 Os) ⟨I, rfl, lr, hS⟩ ?_))))))))))
 rintro ⟨s4, s5⟩ _ w7 ⟨I2, rfl, L3, S8⟩ x9 R1 hext1
 refine yi (yf nL3 (ya 0 3 z (yb (y6 R1 (fun K R1 => ?_) (fun K R1 => ?_)))))
 refine ym (yc (yo (yf nL7 (ya 0 3 z (WO.vs 3 [(19, .int .u64 (IntKind.wrap .u64 (w64 (s4 + s5)))), (20, .int .u64 (Int.fdiv (IntKind.wrap .u64 (w64 (s4 + s5))) (2 ^ 1))), (21, Iv (w64 (Int.fdiv (IntKind.wrap .u64 (w64 (s4 + s5))) (2 ^ 1))))] (ya 6 1 z (yz nL6 (ya 0 2 z ?_))))))))
 obtain ⟨x10, R1, Hx10, _, rfl, Zx10⟩ := sx I2 h_p0 R1
 refine yac 9 1 Hx10 z (yar Zx10 S8.rm z (ya 4 1 z (bsk R1 fun r16 Xr11 R1 => WO.c1 (cmp_Less_string_ok  S8 Xr11) z fun I13 w12 L14 S15 => yb (bsk R1 fun j17 R2 R1 => ya0 (J := (fun fr w => ∃ (s21 : Int) (s22 : Int), ∃ I19, (s21, s22) = j17 ∧ fr = [(0, Sl a_p0 p0 c_p0), (1, .string p1), (6, Nv p0.length), (7, Iv s21), (8, Iv s22)] ∧ I13.Le I19 ∧ St E w I19 Os)) ?_ ?_))))
 refine y6 R2 (fun K R2 => ?_) (fun K R2 => ?_)
 exact yak nL3 (ya 0 3 z (yq (yx ⟨(w64 ((w64 (Int.fdiv (IntKind.wrap .u64 (w64 (s4 + s5))) (2 ^ 1))) + 1)), s5, I13, sj R2, rfl, lr, S15⟩)))
 exact yak nL2 (ya 0 2 z (yq (yx ⟨s4, (w64 (Int.fdiv (IntKind.wrap .u64 (w64 (s4 + s5))) (2 ^ 1))), I13, sj R2, rfl, lr, S15⟩)))
 rintro _ w23 ⟨s21, s22, I19, rfl, rfl, L20, S24⟩
 exact yn (yx ⟨(s21, s22), (sj R1).symm, I19, rfl, le, S24⟩)
 refine yae (yr (yu ?_))
 obtain rfl := hext1 _ (sj R1).symm
 refine yv (yc (yf nL25 (ya 0 5 z (bsk H fun j59 R1 H => yap (l1 := [5, 6, 7, 8, 9, 10, 11, 12, 13, 14, 15, 16, 17, 18, 19, 20, 21, 22]) (J := JI E I2 [(31, Iv s4), (53, .bool j59)] Os) ?_ ?_))))
 refine yao R1 (fun K R1 => ?_) (fun K R1 => ?_)
 refine y4 35 K (ya 5 2 z ?_)
 obtain ⟨x63, R1, Hx63, _, rfl, Zx63⟩ := sx I2 h_p0 R1
 refine yac 9 1 Hx63 z (yar Zx63 S8.rm z (ya 9 3 z (bsk R1 fun j64 R2 R1 => yap (l1 := [12, 13, 14, 15, 16, 17, 18, 19, 20, 21]) (J := JI E I2 [(31, Iv s4), (35, .bool true), (52, .bool j64)] Os) ?_ ?_)))
 refine yao R2 (fun K R2 => ?_) (fun K R2 => ?_)
 refine y4 42 K ?_
 iterate 9 refine yan ?_
 exact ya 21 1 z (sj R2 ▸ y3 ⟨I2, rfl, lr, S8⟩)
 refine y4 42 K (ya 12 2 z ?_)
 obtain ⟨x68, R2, Hx68, _, rfl, Zx68⟩ := sx I2 h_p0 R2
 refine yac 9 1 Hx68 z (yar Zx68 S8.rm z (bsk R2 fun r74 Xr69 R2 => WO.c1 (slices_isNaN_string_ok  S8 Xr69) z fun I71 w70 L72 S73 => ya 17 1 z (bsk R2 fun j75 R3 R2 => yap (l1 := [18, 19, 20]) (J := JI E I71 [(31, Iv s4), (35, .bool true), (42, .bool false), (51, .bool j75)] Os) ?_ ?_)))
 refine yao R3 (fun K R3 => ?_) (fun K R3 => ?_)
 exact y4 48 K (ya 18 1 z (bsk R3 fun r84 Xr79 R3 => WO.c1 (slices_isNaN_string_ok  S73 Xr79) z fun I81 w80 L82 S83 => ya 20 1 z (sj R3 ▸ y3 ⟨I81, rfl, L82, S83⟩)))
 refine y4 48 K ?_
 iterate 2 refine yan ?_
 exact ya 20 1 z (sj R3 ▸ y3 ⟨I71, rfl, lr, S73⟩)
 rintro _ w85 ⟨I77, rfl, L78, S86⟩
 exact ya 21 1 z (sj R2 ▸ y3 ⟨I77, rfl, le, S86⟩)
 rintro _ w87 ⟨I66, rfl, L67, S88⟩
 exact ya 22 1 z (sj R1 ▸ y3 ⟨I66, rfl, L67, S88⟩)
 refine y4 35 K ?_
 iterate 17 refine yan ?_
 exact ya 22 1 z (sj R1 ▸ y3 ⟨I2, rfl, lr, S8⟩)
 rintro _ w89 ⟨I61, rfl, L62, S90⟩
 exact ya 23 2 z (yb (yp (sj H ▸ yat ⟨I61, rfl, le, S90⟩)))
def slices_Clone_qJ (p0 : List qJ) : Option (List qJ) := (app 40 ([] : List qJ) p0).bind (fun x10 => some x10)
theorem slices_Clone_qJ_ok {p0 : List qJ} {a_p0 : Option Addr} {c_p0 : Nat} (h_p0 : RSl 2 R_qJ I a_p0 c_p0 p0) (hS : St E w I Os) {r : (List qJ)} (H : slices_Clone_qJ p0 = some r) :
    Calls P 142 #[(Sl a_p0 p0 c_p0)] w (fun e w' => ∃ (I' : Mem) (ra0 : Option Addr) (rc0 : Nat) (rC0 : Mem), e = .returned (Sl ra0 r rc0) ∧ I.Le I' ∧ St E w' I' (rC0 :: Os) ∧ OwnSl 62 2 R_qJ I' rC0 ra0 rc0 r) := by
 refine calls_W (fn := Tryz.f142) rfl rfl rfl ?_
 unfold slices_Clone_qJ at H
 refine yf [0] (y7 0 2 (.slice none 0 0) (yb (yi (yf nL2 (ya 0 1 z (ybt (e := 62) z kr kr z z ?_))))))
 refine yb (ybz (fun K => ?_) (fun K => ?_))
 have ha0 := Option.isNone_iff_eq_none.1 K
 subst ha0
 have hx0 := (h_p0).none_nil
 subst hx0
 replace H : some ([] : List qJ) = some r := by simpa [app] using H
 exact yf [0] (y7 0 2 (.slice none 0 0) (yb (yp (ye (sj H ▸ yy ⟨I, none, 0, Mem.no, rfl, lr, hS.no, OwnSl.nil⟩)))))
 clear K
 refine ym (yc (yf nL4 (yai (rel := R_qJ) (xs := ([] : List qJ)) hS z kr z 62 2 [] kr z (Elr.nil) tv ?_)))
 intro a6 C4 w8 S7 ho5
 exact ya 1 1 z (apk H fun x10 h0_x10 he_x10 H => yaz 62 40 (cs_qJ z_qJ zw_qJ) S7 ho5 h_p0 S7.im h0_x10 he_x10 z fun a11 c12 w13 C14 S15 ho16 => ya 3 1 z (yb (yp (sj H ▸ yy ⟨I, a11, c12, C14, rfl, lr, S15, ho16⟩))))
structure RawRole where
  Name : By8
  a : Option Addr
  c : Nat
  n : Nat
def R_Raw (_ : Mem) (cs : List Value) (x : RawRole) : Prop := cs = [.string x.Name, .slice x.a x.n x.c]
instance : Mono R_Raw := ⟨fun _ h => h, fun h v hv => by rw [h] at hv; simp only [List.mem_cons, List.not_mem_nil, or_false] at hv; rcases hv with rfl | rfl <;> rfl⟩
structure Nest (I : Mem) (rs : List RawRole) (Ds : List Mem) (xs : List qJ) : Prop where
  l1 : rs.length = xs.length
  l2 : Ds.length = xs.length
  el : ∀ (k : Nat) (r : RawRole) (D : Mem) (x : qJ), rs[k]? = some r → Ds[k]? = some D → xs[k]? = some x → r.Name = x.Name ∧ r.n = x.In.length ∧ OwnSl 9 1 RStr I D r.a r.c x.In
theorem Nest.mono {I J : Mem} {rs : List RawRole} {Ds : List Mem} {xs : List qJ} (h : Nest I rs Ds xs) (hl : I.Le J) : Nest J rs Ds xs :=
  ⟨h.l1, h.l2, fun k r D x h1 h2 h3 => by obtain ⟨g1, g2, g3⟩ := h.el k r D x h1 h2 h3; exact ⟨g1, g2, g3.mono hl⟩⟩
theorem Nest.get {I : Mem} {rs : List RawRole} {Ds : List Mem} {xs : List qJ} (h : Nest I rs Ds xs) {k : Nat} {x : qJ} (hx : xs[k]? = some x) : ∃ r D, rs[k]? = some r ∧ Ds[k]? = some D ∧ r.Name = x.Name ∧ r.n = x.In.length ∧ OwnSl 9 1 RStr I D r.a r.c x.In := by
  have hk := (List.getElem?_eq_some_iff.1 hx).1
  have h1 : rs[k]? = some (rs[k]'(by rw [h.l1]; exact hk)) := List.getElem?_eq_getElem _
  have h2 : Ds[k]? = some (Ds[k]'(by rw [h.l2]; exact hk)) := List.getElem?_eq_getElem _
  exact ⟨_, _, h1, h2, h.el k _ _ x h1 h2 hx⟩
theorem Nest.set {I : Mem} {rs : List RawRole} {Ds : List Mem} {xs : List qJ} (h : Nest I rs Ds xs) (k : Nat) {r : RawRole} {D : Mem} {x : qJ} (h1 : r.Name = x.Name) (h2 : r.n = x.In.length) (h3 : OwnSl 9 1 RStr I D r.a r.c x.In) : Nest I (rs.set k r) (Ds.set k D) (xs.set k x) := by
  refine ⟨by simpa using h.l1, by simpa using h.l2, fun j r' D' x' g1 g2 g3 => ?_⟩
  rw [List.getElem?_set] at g1 g2 g3
  by_cases e : k = j
  · subst e
    rw [if_pos rfl] at g1 g2 g3
    split at g1
    · split at g2
      · split at g3
        · injection g1 with g1; injection g2 with g2; injection g3 with g3
          subst g1 g2 g3
          exact ⟨h1, h2, h3⟩
        · cases g3
      · cases g2
    · cases g1
  · rw [if_neg e] at g1 g2 g3
    exact h.el j r' D' x' g1 g2 g3
theorem Nest.del {I : Mem} {rs : List RawRole} {Ds : List Mem} {xs : List qJ} (h : Nest I rs Ds xs) {p q : Nat} (hpq : p ≤ q) (hq : q ≤ xs.length) : Nest I (rs.take p ++ rs.drop q) (Ds.take p ++ Ds.drop q) (xs.take p ++ xs.drop q) := by
  have h1 := h.l1
  have h2 := h.l2
  refine ⟨by simp; omega, by simp; omega, fun j r D x g1 g2 g3 => ?_⟩
  by_cases hj : j < p
  · rw [List.getElem?_append_left (by simp; omega), List.getElem?_take, if_pos hj] at g1 g2 g3
    exact h.el j r D x g1 g2 g3
  · rw [List.getElem?_append_right (by simp; omega), List.getElem?_drop] at g1 g2 g3
    have e1 : (rs.take p).length = p := by simp; omega
    have e2 : (Ds.take p).length = p := by simp; omega
    have e3 : (xs.take p).length = p := by simp; omega
    rw [e1] at g1
    rw [e2] at g2
    rw [e3] at g3
    exact h.el _ r D x g1 g2 g3
theorem pick_perm {α : Type} : ∀ (Ds : List α) (k : Nat) (D : α), Ds[k]? = some D → Ds.Perm (D :: Ds.eraseIdx k)
  | [], k, D, h => by cases h
  | X :: Ds, 0, D, h => by
    simp only [List.getElem?_cons_zero, Option.some.injEq] at h
    subst h
    exact List.Perm.refl _
  | X :: Ds, k + 1, D, h => ((pick_perm Ds k D (by simpa using h)).cons X).trans (.swap ..)
theorem set_perm {α : Type} : ∀ (Ds : List α) (k : Nat) (D : α), k < Ds.length → (Ds.set k D).Perm (D :: Ds.eraseIdx k)
  | [], k, D, h => by simp at h
  | X :: Ds, 0, D, h => List.Perm.refl _
  | X :: Ds, k + 1, D, h => ((set_perm Ds k D (by simpa using h)).cons X).trans (.swap ..)
theorem st_pick {E w : World} {I C : Mem} {Ds Os : List Mem} (h : St E w I (C :: (Ds ++ Os))) {k : Nat} {D : Mem} (hk : Ds[k]? = some D) : St E w I (D :: C :: (Ds.eraseIdx k ++ Os)) := by
  refine h.perm ?_
  exact (((pick_perm Ds k D hk).append_right Os).cons C).trans (.swap ..)
theorem st_unpick {E w : World} {I C D : Mem} {Ds Os : List Mem} {k : Nat} (h : St E w I (D :: C :: (Ds.eraseIdx k ++ Os))) (hlt : k < Ds.length) : St E w I (C :: (Ds.set k D ++ Os)) := by
  refine h.perm ?_
  exact (List.Perm.swap ..).trans (((set_perm Ds k D hlt).symm.append_right Os).cons C)
theorem st_pubs {E w : World} {Os : List Mem} : ∀ {Ds : List Mem} {I : Mem}, St E w I (Ds ++ Os) → ∃ I', I.Le I' ∧ St E w I' Os ∧ ∀ D ∈ Ds, D.Le I'
  | [], I, h => ⟨I, Mem.Le.refl _, h, fun D hD => by cases hD⟩
  | D :: Ds, I, h => by
    obtain ⟨I', h1, h2, h3⟩ := st_pubs (Ds := Ds) (St.publish h)
    refine ⟨I', (ybg I D).trans h1, h2, fun X hX => ?_⟩
    rcases List.mem_cons.1 hX with rfl | hX
    · exact (St.with_right h).trans h1
    · exact h3 X hX
theorem Nest.pub {E w : World} {I C : Mem} {Ds Os : List Mem} {rs : List RawRole} {xs : List qJ} {a : Option Addr} {c : Nat} (h : Nest I rs Ds xs) (ho : OwnSl 62 2 R_Raw I C a c rs) (hS : St E w I (C :: (Ds ++ Os))) : ∃ I', I.Le I' ∧ St E w I' Os ∧ RSl 2 R_qJ I' a c xs := by
  obtain ⟨I', h1, h2, h3⟩ := st_pubs (Ds := C :: Ds) (Os := Os) hS
  have hm := (ho.sl.mono h1).moved (h3 C (by simp))
  refine ⟨I', h1, h2, by rw [← h.l1]; exact hm.le, hm.lt, fun i x hx => ?_⟩
  obtain ⟨r, D, e1, e2, g1, g2, g3⟩ := h.get hx
  obtain ⟨k1, cs, k2, k3, k4⟩ := hm.el i r e1
  refine ⟨k1, cs, k2, ⟨⟨⟨r.a, r.c⟩⟩, ?_, ⟨?_⟩⟩, k4⟩
  · rw [k3, g1, g2]; rfl
  · exact (g3.sl.mono h1).moved (h3 D (List.mem_cons_of_mem _ (List.mem_of_getElem? e2)))
theorem raw_of {I C : Mem} {a : Option Addr} {c : Nat} {l : List qJ} (h : OwnSl 62 2 R_qJ I C a c l) : ∃ rs : List RawRole, OwnSl 62 2 R_Raw I C a c rs ∧ rs.length = l.length ∧ ∀ (k : Nat) (r : RawRole) (x : qJ), rs[k]? = some r → l[k]? = some x → r.Name = x.Name ∧ r.n = x.In.length ∧ RSl 1 RStr I r.a r.c x.In := by
  have key : ∀ i : Fin l.length, ∃ r : RawRole, (a = some ⟨bl a, of a, none⟩ ∧ ∃ cs, cs.length = 2 ∧ R_Raw I cs r ∧ CellsAt C (bl a) (of a + i.1 * 2) cs) ∧ r.Name = l[i].Name ∧ r.n = l[i].In.length ∧ RSl 1 RStr I r.a r.c l[i].In := by
    intro i
    obtain ⟨h1, cs, h2, h3, h4⟩ := h.sl.el i.1 l[i] (List.getElem?_eq_getElem i.2)
    obtain ⟨v, rfl, hv⟩ := h3
    exact ⟨⟨l[i].Name, v.In.a, v.In.c, l[i].In.length⟩, ⟨h1, _, h2, rfl, h4⟩, rfl, rfl, hv.In⟩
  obtain ⟨f, hf⟩ := Classical.axiomOfChoice key
  refine ⟨List.ofFn f, ⟨⟨by rw [List.length_ofFn]; exact h.sl.le, h.sl.lt, fun i r H => ?_⟩, h.own⟩, List.length_ofFn, fun k r x H hx => ?_⟩
  · rw [List.getElem?_ofFn] at H
    split at H
    · injection H with H
      subst H
      exact (hf _).1
    · cases H
  · rw [List.getElem?_ofFn] at H
    split at H
    · rename_i hk
      injection H with H
      subst H
      rw [List.getElem?_eq_getElem hk] at hx
      injection hx with hx
      subst hx
      exact (hf ⟨k, hk⟩).2
    · cases H
theorem forE_unit : ∀ n i, forE (fun _ (_ : Unit) => some ()) n i () = some ()
  | 0, _ => rfl
  | n + 1, i => by simp only [forE, Option.bind_some]; exact forE_unit n (i + 1)
def fits (l : List qJ) : Prop := l.length * 40 ≤ 140737488355328 ∧ ∀ x ∈ l, x.In.length * 16 ≤ 140737488355328
theorem clone2_ok {p0 : List qJ} {a_p0 : Option Addr} {c_p0 : Nat} (h_p0 : RSl 2 R_qJ I a_p0 c_p0 p0) (hS : St E w I Os) (hf : fits p0) :
    Calls P 102 #[(.slice a_p0 p0.length c_p0)] w (fun e w' => ∃ (I' : Mem) (a : Option Addr) (c : Nat) (C : Mem) (rs : List RawRole) (Ds : List Mem), e = .returned (.slice a p0.length c) ∧ I.Le I' ∧ St E w' I' (C :: (Ds ++ Os)) ∧ OwnSl 62 2 R_Raw I' C a c rs ∧ Nest I' rs Ds p0) := by
  refine calls_W (args := [(.slice a_p0 p0.length c_p0)]) (fn := Tryz.f102) rfl rfl rfl ?_
  refine yi ?_
  refine yah (l := [0]) kr ?_
  refine yag [(0, 2, (.slice none 0 0))] kr (fun _ => by kernel_rfl) ?_
  refine yq ?_
  refine yc ?_
  refine yi ?_
  refine yah (l := [0, 1, 2]) kr ?_
  refine yag [(0, 5, (.slice a_p0 p0.length c_p0))] kr (fun _ => by kernel_rfl) ?_
  have hcl : slices_Clone_qJ p0 = some p0 := by
    unfold slices_Clone_qJ
    rw [app_le (by simpa using hf.1)]
    rfl
  refine ya9 z kr z (f := 142) (args := #[(.slice a_p0 p0.length c_p0)]) kr (slices_Clone_qJ_ok h_p0 hS hcl) ?_
  rintro _ w2 ⟨I3, a, c, C, rfl, L4, S5, h_r6⟩
  refine ⟨_, rfl, trivial, ?_⟩
  refine yag [(2, 3, (.slice a p0.length c))] kr (fun _ => by kernel_rfl) ?_
  refine yq ?_
  refine yc ?_
  refine yi ?_
  refine yi ?_
  refine yah (l := [0, 1, 2]) kr ?_
  refine yag [(0, 7, (.slice a p0.length c)), (1, 8, (.int .i64 (p0.length : Int))), (2, 9, (.int .i64 0))] kr (fun _ => by kernel_rfl) ?_
  refine yq ?_
  refine yc ?_
  refine yo ?_
  have hlt16 := (h_r6.sl).len_lt
  obtain ⟨rs, hrs1, hrs2, hrs3⟩ := raw_of h_r6
  refine W.weaken (fr' := [(3, (.slice a p0.length c)), (8, (.int .i64 (p0.length : Int))), (9, (.int .i64 ((0 : Nat) : Int)))]) (ya5 (m := p0.length) (forE_unit p0.length 0) (fun (i : Nat) (_ : Unit) fr w => ∃ (J C' : Mem) (rs : List RawRole) (Ds : List Mem), fr = [(3, (.slice a p0.length c)), (8, (.int .i64 (p0.length : Int))), (9, (.int .i64 (i : Int)))] ∧ I3.Le J ∧ St E w J (C' :: (Ds ++ Os)) ∧ OwnSl 62 2 R_Raw J C' a c rs ∧ rs.length = p0.length ∧ Ds.length = i ∧ ∀ (k : Nat) (r : RawRole) (x : qJ), rs[k]? = some r → p0[k]? = some x → r.Name = x.Name ∧ r.n = x.In.length ∧ (i ≤ k → RSl 1 RStr J r.a r.c x.In) ∧ ∀ D, Ds[k]? = some D → OwnSl 9 1 RStr J D r.a r.c x.In) ⟨I3, C, rs, [], rfl, Mem.Le.refl _, S5, hrs1, hrs2, rfl, fun k r x h1 h2 => ⟨(hrs3 k r x h1 h2).1, (hrs3 k r x h1 h2).2.1, fun _ => (hrs3 k r x h1 h2).2.2, fun D hD => by cases hD⟩⟩ ?roundt7 ?lastt7) (Sub.cons z (Sub.cons z (Sub.cons z Sub.nil)))
  case roundt7 =>
    rintro i _ _ w13 hi ⟨J, C', rs, Ds, rfl, L9, S14, ho, hn1, hn2, hel⟩ x15 R1
    refine yi ?_
    refine yah (l := [0]) kr ?_
    refine yag [(0, 10, (.bool (decide ((i : Int) < (p0.length : Int)))))] kr (fun _ => by kernel_rfl) ?_
    refine yq ?_
    refine yc ?_
    refine yi ?_
    refine W.cond (b := (decide ((i : Int) < (p0.length : Int)))) z z (fun K => ?_) (fun K => ?_)
    rotate_left
    · exact absurd K (by first | (simp; done) | (simp; omega))
    clear K
    refine ym ?_
    refine yc ?_
    refine yi ?_
    refine yo ?_
    refine yi ?_
    refine yah (l := [0, 1]) kr ?_
    refine yag [(0, 11, (.int .i64 (i : Int))), (1, 4, (.int .i64 (i : Int)))] kr (fun _ => by kernel_rfl) ?_
    refine yq ?_
    refine yc ?_
    refine yah (l := [0, 1, 2, 3, 4, 5, 6, 7, 8, 9, 10]) kr ?_
    refine yag [(0, 12, (.slice a p0.length c)), (1, 13, (.int .i64 (i : Int))), (2, 14, (.slice a p0.length c)), (3, 15, (.int .i64 (i : Int)))] kr (fun _ => by kernel_rfl) ?_
    have hx : p0[i]? = some p0[i] := List.getElem?_eq_getElem hi
    have R0 : rs[i]? = some (rs[i]'(by omega)) := List.getElem?_eq_getElem _
    generalize rs[i]'(by omega) = r0 at R0
    obtain ⟨g1, g2, g3, _⟩ := hel i r0 _ R0 hx
    obtain ⟨ha, cs, hn, hrr, hcc⟩ := ho.sl.el _ _ R0
    obtain rfl := hrr
    refine ya6 (e := 62) (sz := 2) z kr kr kr z ha z (by omega) (by omega) ?_
    refine yag [(5, 17, (.pointer (some ⟨bl a, of a + ((i : Int)).toNat * 2 + 1, none⟩)))] kr (fun _ => by kernel_rfl) ?_
    refine ybj z kr kr z (v := (.slice r0.a r0.n r0.c)) (fun w' hw' => hcc.cellk 1 kr ((rd_f (S14.rd (List.Mem.head _))) w' hw')) ?_
    rw [g2]
    have hcs : slices_Clone_string p0[i].In = some p0[i].In := by
      unfold slices_Clone_string
      rw [app_le (by simpa using hf.2 _ (List.getElem_mem hi))]
      rfl
    refine ya9 z kr z (f := 57) (args := #[(.slice r0.a p0[i].In.length r0.c)]) kr (slices_Clone_string_ok (g3 (Nat.le_refl _)) S14 hcs) ?_
    rintro _ w20 ⟨J2, a2, c2, D, rfl, L22, S23, h_r24⟩
    refine ⟨_, rfl, trivial, ?_⟩
    refine ya6 (e := 62) (sz := 2) z kr kr kr z ha z (by omega) (by omega) ?_
    refine yag [(9, 21, (.pointer (some ⟨bl a, of a + ((i : Int)).toNat * 2 + 1, none⟩)))] kr (fun _ => by kernel_rfl) ?_
    have S24 : St E w20 J2 (C' :: ((Ds ++ [D]) ++ Os)) := S23.perm ((List.Perm.swap ..).trans (List.Perm.cons _ (by rw [List.append_assoc]; exact List.perm_middle.symm)))
    refine ya7 (m := i) S24 (OwnSl.mono ho L22) z kr z R0 (u' := { r0 with a := a2, c := c2 }) 1 z z kr z z (fun cs hrel => (by obtain rfl := hrel; show _ = _; first | (rw [← g2]; rfl) | (rw [g2]; rfl))) tv ?_
    intro w31 C32 S30 ho33
    refine yq ?_
    refine yn ?_
    refine yc ?_
    refine yah (l := [0, 1]) kr ?_
    refine yb6 (j := i) z kr z (by first | omega | (dsimp only at *; omega)) ?_
    refine yag [(1, 9, (.int .i64 ((i + 1 : Nat) : Int)))] kr (fun _ => by kernel_rfl) ?_
    refine yq ?_
    refine En.weaken (fr' := [(3, (.slice a p0.length c)), (8, (.int .i64 (p0.length : Int))), (9, (.int .i64 ((i + 1 : Nat) : Int)))]) (ybo ⟨J2, C32, rs.set i { r0 with a := a2, c := c2 }, Ds ++ [D], rfl, L9.trans L22, S30, ho33, by rw [List.length_set]; exact hn1, by rw [List.length_append, hn2]; rfl, fun k r x h1 h2 => ?_⟩) (Sub.cons z (Sub.cons z (Sub.cons z Sub.nil)))
    rw [List.getElem?_set] at h1
    by_cases e : i = k
    · subst e
      rw [if_pos rfl, if_pos (by omega)] at h1
      injection h1 with h1
      subst h1
      rw [hx] at h2
      injection h2 with h2
      subst h2
      refine ⟨g1, g2, fun h => by omega, fun D' hD' => ?_⟩
      rw [List.getElem?_append_right (by omega), hn2, Nat.sub_self] at hD'
      injection hD' with hD'
      subst hD'
      exact h_r24
    · rw [if_neg e] at h1
      obtain ⟨k1, k2, k3, k4⟩ := hel k r x h1 h2
      refine ⟨k1, k2, fun h => (k3 (by omega)).mono L22, fun D' hD' => ?_⟩
      have hlt := (List.getElem?_eq_some_iff.1 hD').1
      rw [List.length_append, hn2] at hlt
      simp only [List.length_cons, List.length_nil] at hlt
      rw [List.getElem?_append_left (by omega)] at hD'
      exact (k4 D' hD').mono L22
  case lastt7 =>
    rintro _ w35 ⟨J, C', rs, Ds, rfl, L9, S36, ho, hn1, hn2, hel⟩
    refine yi ?_
    refine yah (l := [0]) kr ?_
    refine yag [(0, 10, (.bool (decide ((p0.length : Int) < (p0.length : Int)))))] kr (fun _ => by kernel_rfl) ?_
    refine yq ?_
    refine yc ?_
    refine yi ?_
    refine W.cond (b := (decide ((p0.length : Int) < (p0.length : Int)))) z z (fun K => ?_) (fun K => ?_)
    · exact absurd K (by first | (simp; done) | (simp; omega))
    clear K
    refine yae ?_
    refine yr ?_
    refine yu ?_
    refine yv ?_
    refine yc ?_
    refine yi ?_
    refine yah (l := [0, 1]) kr ?_
    refine yag [(0, 23, (.slice a p0.length c)), (1, 2, (.slice a p0.length c))] kr (fun _ => by kernel_rfl) ?_
    refine yq ?_
    refine yc ?_
    refine yp ?_
    exact En.ret1 z (.slice a p0.length c) z ⟨J, a, c, C', rs, Ds, rfl, L4.trans L9, S36, ho, hn1, hn2, fun k r D x h1 h2 h3 => ⟨(hel k r x h1 h3).1, (hel k r x h1 h3).2.1, (hel k r x h1 h3).2.2.2 D h2⟩⟩
theorem Nest.own {E w : World} {I C : Mem} {Ds Os : List Mem} {rs : List RawRole} {xs : List qJ} {a : Option Addr} {c : Nat} (h : Nest I rs Ds xs) (ho : OwnSl 62 2 R_Raw I C a c rs) (hS : St E w I (C :: (Ds ++ Os))) : ∃ I', I.Le I' ∧ St E w I' (C :: Os) ∧ OwnSl 62 2 R_qJ I' C a c xs := by
  obtain ⟨I', h1, h2, h3⟩ := st_pubs (Ds := Ds) (Os := C :: Os) (hS.perm List.perm_middle.symm)
  refine ⟨I', h1, h2, ⟨by rw [← h.l1]; exact ho.sl.le, ho.sl.lt, fun i x hx => ?_⟩, ho.own⟩
  obtain ⟨r, D, e1, e2, g1, g2, g3⟩ := h.get hx
  obtain ⟨k1, cs, k2, k3, k4⟩ := ho.sl.el i r e1
  refine ⟨k1, cs, k2, ⟨⟨⟨r.a, r.c⟩⟩, ?_, ⟨?_⟩⟩, k4⟩
  · rw [k3, g1, g2]; rfl
  · exact (g3.sl.mono h1).moved (h3 D (List.mem_of_getElem? e2))
theorem st_back1 {E w w' : World} {I I' C R : Mem} {Os : List Mem} (h0 : St E w I (C :: Os)) (hl : (I.with C).Le I') (h : St E w' I' (R :: Os)) : St E w' I (R :: C :: Os) := by
  have hb := St.back h0 hl h.drop
  have hR := h.ow R (by simp)
  have hp := List.pairwise_cons.1 h.dj
  have hno : ∀ b, R b = none ∨ (I.with C) b = none := fun b => by
    rcases hR.2 b with e | e
    · exact .inl e
    · right
      cases hx : (I.with C) b with
      | none => rfl
      | some o => rw [hl b o hx] at e; cases e
  refine ⟨hb.os, hb.tape, hb.output, hb.im, fun D hD => ?_, List.pairwise_cons.2 ⟨fun D hD => ?_, hb.dj⟩⟩
  · rcases List.mem_cons.1 hD with rfl | hD
    · refine ⟨hR.1, fun b => ?_⟩
      rcases hno b with e | e
      · exact .inl e
      · right
        cases hx : I b with
        | none => rfl
        | some o => rw [ybg I C b o hx] at e; cases e
    · exact hb.ow D hD
  · rcases List.mem_cons.1 hD with rfl | hD
    · intro b
      rcases hno b with e | e
      · exact .inl e
      · right
        cases hx : D b with
        | none => rfl
        | some o => rw [h0.with_right b o hx] at e; cases e
    · exact hp.1 D hD
theorem own_str {I J C : Mem} {a : Option Addr} {c : Nat} {xs : List By8} (h : OwnSl 9 1 RStr I C a c xs) : OwnSl 9 1 RStr J C a c xs := ⟨⟨h.sl.le, h.sl.lt, h.sl.el⟩, h.own⟩
theorem ins105_ok {E w : World} {I C D : Mem} {Os : List Mem} {xs vs : List qJ} {a va : Option Addr} {cap vc : Nat} (h : OwnSl 62 2 R_qJ I C a cap xs) (hv : OwnSl 62 2 R_qJ I D va vc vs) (hS : St E w I (C :: D :: Os)) {i : Nat} (hi : i ≤ xs.length) (hm : vs ≠ []) (hfit : (xs.length + vs.length) * 40 ≤ 140737488355328) :
    Calls P 105 #[.slice a xs.length cap, .int .i64 (i : Int), .slice va vs.length vc] w (fun e w' => ∃ (a' : Option Addr) (c' : Nat) (C' : Mem), e = .returned (.slice a' (xs.take i ++ vs ++ xs.drop i).length c') ∧ St E w' I (C' :: D :: Os) ∧ OwnSl 62 2 R_qJ I C' a' c' (xs.take i ++ vs ++ xs.drop i)) := by
 have hxl := h.sl.le
 have hxc := h.sl.lt
 have hvl := List.length_pos_iff.2 hm
 have hlen : (xs.take i ++ vs ++ xs.drop i).length = xs.length + vs.length := by simp; omega
 refine calls_W (fn := Tryz.f105) rfl rfl rfl ?_
 refine yf [0] (y7 0 6 (.slice none 0 0) (yz nL3 (WO.vs 0 [(10, Sl a xs cap), (11, Iv (i : Int))] (ya4 (e := 62) (sz := 2) z kr kr kr z (i : Int) (xs.length : Int) (by omega) (.inr ⟨_, _, rfl, rfl⟩) (.inl ⟨rfl, rfl⟩) (by omega) (by omega) ?_))))
 refine yz nL3 (WO.vs 0 [(13, Sl va vs vc), (14, Nv vs.length), (7, Nv vs.length)] (yb (yi (yf nL2 (WO.vs 0 [(15, Nv vs.length), (16, .bool ((vs.length : Int) == 0))] (yb (ybz (fun K => ?_) (fun K => ?_))))))))
 exfalso
 simp at K
 exact hm K
 clear K
 refine ym (yc (yf nL3 (WO.vs 0 [(18, Sl a xs cap), (19, Nv xs.length), (8, Nv xs.length)] (yb (yi (yf nL3 (WO.vs 0 [(20, Iv (i : Int)), (21, Nv xs.length), (22, .bool ((i : Int) == (xs.length : Int)))] (yb (ybz (fun K => ?_) (fun K => ?_))))))))))
 have hin : i = xs.length := by simp at K; omega
 refine yf nL4 (WO.vs 0 [(23, Sl a xs cap), (24, Sl va vs vc)] (yaz 62 40 [(.string eB), (.slice none 0 0)] hS h hv.sl hS.drop.rd0 hfit z z ?_))
 intro a' c' w' C' hS' ho'
 refine y7 3 6 (.slice a' (xs ++ vs).length c') (yb (yp (ye ?_)))
 have e : xs.take i ++ vs ++ xs.drop i = xs ++ vs := by rw [hin, List.take_length, List.drop_length, List.append_nil]
 rw [e]
 exact yy ⟨a', c', C', rfl, hS', ho'⟩
 have hin : i < xs.length := by simp at K; omega
 clear K
 obtain ⟨b, off, c, rfl, rfl, hcs⟩ := h.block (h.ne (by rintro rfl; simp at hin))
 obtain ⟨b2, o2, c2, rfl, rfl, hcs2⟩ := hv.block (hv.ne hm)
 obtain ⟨csx, hcx, hrx⟩ := h.sl.cel
 obtain ⟨csv, hcv, hrv⟩ := hv.sl.cel
 have hxh : Hol c off csx := Hol.rd (T := 62) hrx hS.rd0
 have hcxl := hcx.len
 have hcvl := hcv.len
 have hbig : xs.length + vs.length < 9223372036854775808 := by omega
 have hw1 : w64 ((xs.length : Int) + (vs.length : Int)) = ((xs.length + vs.length : Nat) : Int) := by rw [w64_id (by omega) (by omega)]; omega
 have hw2 : w64 ((i : Int) + (vs.length : Int)) = ((i + vs.length : Nat) : Int) := by rw [w64_id (by omega) (by omega)]; omega
 refine ym (yc (yi (yf nL6 (WO.vs 0 [(26, Nv xs.length), (27, Nv vs.length), (28, Iv (w64 ((xs.length : Int) + (vs.length : Int)))), (29, .slice (some ⟨b, off, none⟩) xs.length cap), (30, Iv (cap : Int)), (31, .bool (decide (w64 ((xs.length : Int) + (vs.length : Int)) > (cap : Int))))] (yb (ybz (fun K => ?_) (fun K => ?_)))))))
 have hgr : cap < xs.length + vs.length := by rw [hw1] at K; simp at K; omega
 clear K
 have hw3 : w64 ((xs.length + vs.length : Nat) - (i : Int)) = ((xs.length + vs.length - i : Nat) : Int) := by rw [w64_id (by omega) (by omega)]; omega
 have htl : (xs.take i).length = i := by rw [List.length_take]; omega
 refine yf nL10 (WO.vs 0 [(32, .slice (some ⟨b, off, none⟩) xs.length cap), (33, Iv (i : Int))] (ybb (e := 62) (sz := 2) z kr kr kr z 0 i (.inl ⟨rfl, rfl⟩) (.inr ⟨_, _, rfl, rfl⟩) (by omega) (by omega) (by omega) ?_))
 refine WO.vs 3 [(35, Nv xs.length), (36, Nv vs.length), (37, Iv (w64 ((xs.length : Int) + (vs.length : Int))))] (yaa 37 z (congrArg (Value.int .i64) hw1) ?_)
 refine WO.vs 6 [(38, Iv (i : Int)), (39, Iv (w64 ((xs.length + vs.length : Nat) - (i : Int))))] (yaa 39 z (congrArg (Value.int .i64) hw3) ?_)
 refine yb2 (T := 62) (b := 40) (zs := #[(.string eB), (.slice none 0 0)]) (kn := .i64) hS hS.drew.rd0 (h.sl.take i) z kr z kr kr kr z z z (by rw [htl]; rfl) (k := xs.length + vs.length - i) z (by omega) (by rw [htl]; omega) (by rw [htl, show i + (xs.length + vs.length - i) = xs.length + vs.length by omega]; exact hfit) tv ?_
 intro w1 nb G d cs1 S1 hc1 hh1 hG1 hG2 hG3
 have hc1l := hc1.len
 rw [htl] at hG1 hc1l
 refine yaa 40 z (v := .slice (some ⟨nb, 0, none⟩) (xs.length + vs.length) G) (by rw [htl, show i + (xs.length + vs.length - i) = xs.length + vs.length by omega]) ?_
 refine y7 9 9 (.slice (some ⟨nb, 0, none⟩) (xs.length + vs.length) G) (yb ?_)
 have hGn : (xs.length + vs.length) * 2 ≤ G * 2 := Nat.mul_le_mul_right _ (by omega)
 refine yf nL5 (WO.vs 0 [(41, .slice (some ⟨nb, 0, none⟩) (xs.length + vs.length) G), (42, Iv (i : Int))] (ybb (e := 62) (sz := 2) z kr kr kr z i (xs.length + vs.length) (.inr ⟨_, _, rfl, rfl⟩) (.inl ⟨rfl, rfl⟩) (by omega) (by omega) (by omega) ?_))
 refine y7 3 44 (.slice (some ⟨b2, o2, none⟩) vs.length vc) (ybu (T := 62) (sz := 2) (e := 62) S1 z kr z kr kr z z csv (by rw [hcvl]; congr 1; simp only [Nat.min_def]; split <;> omega) (fun x hx j v hj => by injection hx with hx; subst hx; rw [add_plain]; exact hrv w1 (S1.rd (.tail _ (.tail _ (.head _)))) j v hj) (fun hx => by cases hx) hcv.one (by rw [hcvl]; omega) tv ?_)
 intro w2 S2
 refine yb (yi (have S3 := S2.drew; ybd nL9 8 (y8 S3.im) ?_))
 generalize World.drew _ = w3 at *
 refine WO.vs 0 [(46, .slice (some ⟨nb, 0, none⟩) (xs.length + vs.length) G), (47, Iv (i : Int)), (48, Nv vs.length), (49, Iv (w64 ((i : Int) + (vs.length : Int))))] (yaa 49 z (congrArg (Value.int .i64) hw2) ?_)
 refine ybb (e := 62) (sz := 2) z kr kr kr z (i + vs.length) (xs.length + vs.length) (.inr ⟨_, _, rfl, rfl⟩) (.inl ⟨rfl, rfl⟩) (by omega) (by omega) (by omega) ?_
 refine WO.vs 5 [(51, .slice (some ⟨b, off, none⟩) xs.length cap), (52, Iv (i : Int))] (ybb (e := 62) (sz := 2) z kr kr kr z i xs.length (.inr ⟨_, _, rfl, rfl⟩) (.inl ⟨rfl, rfl⟩) (by omega) (by omega) (by omega) ?_)
 refine WO.tail z ?_
 have hdl : (csx.drop (i * 2)).length = (xs.length - i) * 2 := by rw [List.length_drop, hcxl, Nat.sub_mul]
 refine ybu (T := 62) (sz := 2) (e := 62) S3 z kr z kr kr z z (csx.drop (i * 2)) (by rw [hdl]; congr 1; simp only [Nat.min_def]; split <;> omega) (fun x hx j v hj => by
  injection hx with hx
  subst hx
  rw [List.getElem?_drop] at hj
  have := hrx w3 (S3.rd (.tail _ (.head _))) _ v hj
  rw [add_plain, Nat.add_assoc]
  exact this) (fun hx => by cases hx) (fun v hv => hcx.one v (List.mem_of_mem_drop hv)) (by rw [hdl, wrt_size]; omega) tv ?_
 intro w4 S4
 refine yz nL2 (WO.vs 0 [(55, .slice (some ⟨nb, 0, none⟩) (xs.length + vs.length) G), (6, .slice (some ⟨nb, 0, none⟩) (xs.length + vs.length) G)] (yb (yp (ye ?_))))
 rw [hlen]
 refine yy ⟨_, G, _, rfl, S4.front1.drop, ?_⟩
 refine Cel.own ((hc1.append hcv).append (hcx.drop i)) (Hol.append (Hol.append ((hh1.apart (.inl ?_)).apart (.inl ?_)) ((Hol.apart ?_ (.inl ?_)))) ?_) (by rw [hlen]; exact Nat.le_trans (by omega) hG1) hG2 (by rw [wrt_size, wrt_size]; omega)
 rw [hc1l]; omega
 rw [hc1l]; omega
 rw [hc1l]; exact Hol.wrt _ (by rw [hcvl]; omega)
 rw [hc1l, hcvl]; omega
 have e : 0 + (cs1 ++ csv).length = 0 + (i + vs.length) * 2 := by rw [List.length_append, hc1l, hcvl, Nat.add_mul]
 rw [e]
 exact Hol.wrt _ (by rw [hdl, wrt_size]; omega)
 have hroom : xs.length + vs.length ≤ cap := by rw [hw1] at K; simp at K; omega
 clear K
 have hcap : (xs.length + vs.length) * 2 ≤ cap * 2 := Nat.mul_le_mul_right _ hroom
 refine ym (yc (yf nL6 (WO.vs 0 [(56, .slice (some ⟨b, off, none⟩) xs.length cap), (57, Nv xs.length), (58, Nv vs.length), (59, Iv (w64 ((xs.length : Int) + (vs.length : Int))))] (yaa 59 z (congrArg (Value.int .i64) hw1) ?_))))
 refine ybb (e := 62) (sz := 2) z kr kr kr z 0 (xs.length + vs.length) (.inl ⟨rfl, rfl⟩) (.inr ⟨_, _, rfl, rfl⟩) (by omega) (by omega) (by omega) ?_
 refine yaa 60 z (v := .slice (some ⟨b, off, none⟩) (xs.length + vs.length) cap) (by rw [Nat.zero_mul, Nat.add_zero, Nat.sub_zero, Nat.sub_zero]) ?_
 refine y7 5 0 (.slice (some ⟨b, off, none⟩) (xs.length + vs.length) cap) (yb (yi (yf nL8 (WO.vs 0 [(61, .slice (some ⟨b2, o2, none⟩) vs.length vc), (62, .slice (some ⟨b, off, none⟩) (xs.length + vs.length) cap), (63, Iv (i : Int)), (64, Nv vs.length), (65, Iv (w64 ((i : Int) + (vs.length : Int))))] (yaa 65 z (congrArg (Value.int .i64) hw2) ?_)))))
 refine ybb (e := 62) (sz := 2) z kr kr kr z (i + vs.length) (xs.length + vs.length) (.inr ⟨_, _, rfl, rfl⟩) (.inl ⟨rfl, rfl⟩) (by omega) (by omega) (by omega) ?_
 refine WO.extern (f := 145) (fn := Tryz.f145) (e := Extern.SlicesOverlaps.overlaps #[26, 26] #[4]) z kr z kr kr kr (by rfl) (args := #[.slice (some ⟨b2, o2, none⟩) vs.length vc, .slice (some ⟨b, off + (i + vs.length) * 2, none⟩) (xs.length + vs.length - (i + vs.length)) (cap - (i + vs.length))]) kr (.bool false) (fun w' hw' => ?_) ?_
 rcases hw' with ⟨hw', _⟩ | rfl
 cases hw'
 exact run_over (sz := 2) (e := 62) kr kr hS (by omega) _ _ _ _
 refine y7 7 68 (.bool true) (yb (ybz (fun K => ?_) (fun K => ?_)))
 rotate_left
 cases K
 clear K
 refine yi (have S1 := hS.drew; ybd nL9 8 (y8 S1.im) ?_)
 generalize World.drew _ = w1 at *
 refine WO.vs 0 [(69, .slice (some ⟨b, off, none⟩) (xs.length + vs.length) cap), (70, Iv (i : Int)), (71, Nv vs.length), (72, Iv (w64 ((i : Int) + (vs.length : Int))))] (yaa 72 z (congrArg (Value.int .i64) hw2) ?_)
 refine ybb (e := 62) (sz := 2) z kr kr kr z (i + vs.length) (xs.length + vs.length) (.inr ⟨_, _, rfl, rfl⟩) (.inl ⟨rfl, rfl⟩) (by omega) (by omega) (by omega) ?_
 refine WO.vs 5 [(74, .slice (some ⟨b, off, none⟩) (xs.length + vs.length) cap), (75, Iv (i : Int))] (ybb (e := 62) (sz := 2) z kr kr kr z i (xs.length + vs.length) (.inr ⟨_, _, rfl, rfl⟩) (.inl ⟨rfl, rfl⟩) (by omega) (by omega) (by omega) ?_)
 refine WO.tail z ?_
 have hdl : (csx.drop (i * 2)).length = (xs.length - i) * 2 := by rw [List.length_drop, hcxl, Nat.sub_mul]
 refine ybu (T := 62) (sz := 2) (e := 62) S1 z kr z kr kr z z (csx.drop (i * 2)) (by rw [hdl]; congr 1; simp only [Nat.min_def]; split <;> omega) (fun x hx j v hj => by
  injection hx with hx
  subst hx
  rw [List.getElem?_drop] at hj
  have := hrx w1 S1.rd0 _ v hj
  rw [add_plain, Nat.add_assoc]
  exact this) (fun hx => by cases hx) (fun v hv => hcx.one v (List.mem_of_mem_drop hv)) (by rw [hdl]; omega) tv ?_
 intro w2 S2
 refine yz nL5 (WO.vs 0 [(78, .slice (some ⟨b, off, none⟩) (xs.length + vs.length) cap), (79, Iv (i : Int))] (ybb (e := 62) (sz := 2) z kr kr kr z i (xs.length + vs.length) (.inr ⟨_, _, rfl, rfl⟩) (.inl ⟨rfl, rfl⟩) (by omega) (by omega) (by omega) ?_))
 refine y7 3 81 (.slice (some ⟨b2, o2, none⟩) vs.length vc) (ybu (T := 62) (sz := 2) (e := 62) S2 z kr z kr kr z z csv (by rw [hcvl]; congr 1; simp only [Nat.min_def]; split <;> omega) (fun x hx j v hj => by injection hx with hx; subst hx; rw [add_plain]; exact hrv w2 (S2.rd (.tail _ (.head _))) j v hj) (fun hx => by cases hx) hcv.one (by rw [hcvl, wrt_size]; omega) tv ?_)
 intro w3 S3
 refine yz nL2 (WO.vs 0 [(83, .slice (some ⟨b, off, none⟩) (xs.length + vs.length) cap), (6, .slice (some ⟨b, off, none⟩) (xs.length + vs.length) cap)] (yb (yp (ye ?_))))
 rw [hlen]
 refine yy ⟨_, cap, _, rfl, S3, ?_⟩
 have htl : (csx.take (i * 2)).length = i * 2 := by rw [List.length_take, hcxl]; omega
 refine Cel.own (((hcx.take i).append hcv).append (hcx.drop i)) (Hol.append (Hol.append (((hxh.take _).apart (.inl ?_)).apart (.inl ?_)) ?_) (Hol.apart ?_ (.inr ?_))) (by rw [hlen]; exact hroom) h.sl.lt (by rw [wrt_size, wrt_size]; exact hcs)
 rw [htl]; omega
 rw [htl]; omega
 rw [htl]; exact Hol.wrt _ (by rw [hcvl, wrt_size]; omega)
 have e : off + (csx.take (i * 2) ++ csv).length = off + (i + vs.length) * 2 := by rw [List.length_append, htl, hcvl, Nat.add_mul]
 rw [e]
 exact Hol.wrt _ (by rw [hdl]; omega)
 rw [List.length_append, htl, hcvl]; omega
noncomputable def createT (l : List qJ) (n : By8) : Option (List qJ × Int) := open Classical in if fits l then (member_names l).bind fun ns => (slices_BinarySearch_string ns n).bind fun (k, _) => (insO 40 l k [{ z_qJ with Name := n }]).bind fun y => some (y, 0) else none
noncomputable def member_Create (p0 : List qJ) (p1 : By8) : Option ((List qJ) × Int) := (member_Check p0).bind (fun r6 => (bif (r6 != 0) then some (([] : List qJ), r6) else (lex_IsName p1).bind (fun r12 => (bif (!r12) then some (([] : List qJ), 18) else (member_at p0 p1).bind (fun r18 => (bif (decide (r18 ≥ 0)) then some (([] : List qJ), 19) else (bif ((p0.length : Int) == 8) then some (([] : List qJ), 5) else (createT p0 p1))))))))
theorem member_Create_ok {p0 : List qJ} {p1 : By8} {a_p0 : Option Addr} {c_p0 : Nat} (h_p0 : RSl 2 R_qJ I a_p0 c_p0 p0) (hS : St E w I Os) {r : (List qJ) × Int} (H : member_Create p0 p1 = some r) :
    Calls P 60 #[(Sl a_p0 p0 c_p0), (.string p1)] w (fun e w' => ∃ (I' : Mem) (ra0 : Option Addr) (rc0 : Nat), e = .returned (.tuple #[(Sl ra0 r.1 rc0), (Iv r.2)]) ∧ I.Le I' ∧ St E w' I' Os ∧ RSl 2 R_qJ I' ra0 rc0 r.1) := by
 refine calls_W (fn := Tryz.f60) rfl rfl rfl ?_
 unfold member_Create at H
 refine yf nL2 (y7 0 4 (.slice none 0 0) (ya 1 1 z (yb (yi (yf nL3 (ya 0 1 z (bsk H fun r6 Xr1 H => WO.c1 (member_Check_ok h_p0 hS Xr1) z fun I3 w2 L4 S5 => ya 2 1 z (yz nL2 (ya 0 2 z (yb (y6 H (fun K H => ?_) (fun K H => ?_))))))))))))
 exact yf nL3 (ya 0 1 z (y7 1 4 (.slice none 0 0) (ya 2 1 z (yb (yp (ye (sj H ▸ yat ⟨I3, none, 0, rfl, L4, S5, SlAt.nil⟩)))))))
 refine ym (yc (yi (yo (yf nL4 (ya 0 1 z (bsk H fun r12 Xr7 H => WO.c1 (lex_IsName_ok  S5 Xr7) z fun I9 w8 L10 S11 => ya 2 2 z (yb (y6 H (fun K H => ?_) (fun K H => ?_)))))))))
 exact yf nL2 (y7 0 4 (.slice none 0 0) (ya 1 1 z (yb (yp (yl (ye (sj H ▸ yat ⟨I9, none, 0, rfl, le, S11, SlAt.nil⟩)))))))
 refine yf nL5 (ya 0 2 z (bsk H fun r18 Xr13 H => WO.c1 (member_at_ok (up h_p0) S11 Xr13) z fun I15 w14 L16 S17 => ya 3 2 z (yb (y6 H (fun K H => ?_) (fun K H => ?_)))))
 exact yf nL2 (y7 0 4 (.slice none 0 0) (ya 1 1 z (yb (yp (yl (ye (sj H ▸ yat ⟨I15, none, 0, rfl, le, S17, SlAt.nil⟩)))))))
 refine yf nL4 (ya 0 4 z (yb (ybz (fun K => ?_) (fun K => ?_))))
 replace H := cond_t K H
 exact yf nL2 (y7 0 4 (.slice none 0 0) (ya 1 1 z (yb (yp (yl (ye (sj H ▸ yat ⟨I15, none, 0, rfl, le, S17, SlAt.nil⟩)))))))
 ·
  replace H := cond_f K H
  refine ym (yn (yc (yf nL3 (ya 0 1 z ?_))))
  have R0 := H
  unfold createT at R0
  split at R0
  rotate_left
  cases R0
  rename_i hfit
  obtain ⟨ns, hns, R0⟩ := bsm R0
  obtain ⟨⟨k0, f0⟩, hk0, R0⟩ := bsm R0
  obtain ⟨y0, hy0, R0⟩ := bsm R0
  obtain ⟨kn, rfl, j1, j2, rfl⟩ := insO_some hy0
  obtain rfl := sj R0
  refine yaj (clone2_ok (up h_p0) S17 hfit) ?_
  rintro _ qw1 ⟨QI0, a, c, C, rs, Ds, rfl, ql0, qS0, ho0, hn0⟩
  refine cv (y7 2 7 (Sl a p0 c) (yb (yi ?_)))
  obtain ⟨QI1, ql1, qS1, ho1⟩ := hn0.own ho0 qS0
  refine yak nL9 (y7 0 31 (Sl a p0 c) (yaj (member_names_ok (ho1.publish qS1) qS1.publish hns) ?_))
  rintro _ qw2 ⟨QI2, na, nc, R, rfl, ql2, qS2, hR⟩
  have qS3 := st_back1 qS1 ql2 qS2
  have hR3 : OwnSl 9 1 RStr QI1 R na nc ns := own_str hR
  refine cv ?_
  obtain ⟨QI4, ql4, qS4, hp4⟩ := OwnSl.pub hR3 qS3
  refine y7 2 33 (.string p1) (WO.c1 (slices_BinarySearch_string_ok hp4 qS4 hk0) z fun QI5 qw5 ql5 qS5 => WO.vs 4 [(30, .tuple #[(Iv (kn : Int)), (.bool f0)]), (35, Iv (kn : Int)), (36, .bool f0), (8, Iv (kn : Int)), (9, .bool f0)] (yz nL8 (WO.vs 0 [(37, Sl a p0 c), (38, Iv (kn : Int)), (39, .string p1), (40, .agg (cs_qJ ({ z_qJ with Name := p1 }) (⟨⟨none, 0⟩⟩ : W_qJ)).toArray)] (yai (rel := R_qJ) (xs := ([{ z_qJ with Name := p1 }] : List qJ)) qS5 z kr z 62 2 [(cs_qJ ({ z_qJ with Name := p1 }) (⟨⟨none, 0⟩⟩ : W_qJ))] kr z (Elr.cons ⟨⟨⟨none, 0⟩⟩, rfl, ⟨SlAt.nil⟩⟩ Elr.nil) tv ?_))))
  intro va V qw6 qS6 hv
  refine yaj (ins105_ok (ho1.mono (ql4.trans ql5)) hv qS6.front1 (i := kn) j1 (by simp) j2) ?_
  rintro _ qw7 ⟨a2, c2, C2, rfl, qS7, h7⟩
  refine cv ?_
  obtain ⟨QI9, ql9, qS9, hp9⟩ := OwnSl.pub h7 qS7
  exact WO.vs 6 [(4, .slice a2 (p0.take kn ++ [{ z_qJ with Name := p1 }] ++ p0.drop kn).length c2), (5, Iv 0)] (yb (yp (yat ⟨QI9, a2, c2, rfl, ((L4.trans L10).trans L16).trans (ql0.trans (ql1.trans (ql4.trans (ql5.trans ql9)))), qS9.drop, hp9⟩)))
theorem ins106_ok {E w : World} {I C D : Mem} {Os : List Mem} {xs vs : List By8} {a va : Option Addr} {cap vc : Nat} (h : OwnSl 9 1 RStr I C a cap xs) (hv : OwnSl 9 1 RStr I D va vc vs) (hS : St E w I (C :: D :: Os)) {i : Nat} (hi : i ≤ xs.length) (hm : vs ≠ []) (hfit : (xs.length + vs.length) * 16 ≤ 140737488355328) :
    Calls P 106 #[.slice a xs.length cap, .int .i64 (i : Int), .slice va vs.length vc] w (fun e w' => ∃ (a' : Option Addr) (c' : Nat) (C' : Mem), e = .returned (.slice a' (xs.take i ++ vs ++ xs.drop i).length c') ∧ St E w' I (C' :: D :: Os) ∧ OwnSl 9 1 RStr I C' a' c' (xs.take i ++ vs ++ xs.drop i)) := by
 have hxl := h.sl.le
 have hxc := h.sl.lt
 have hvl := List.length_pos_iff.2 hm
 have hlen : (xs.take i ++ vs ++ xs.drop i).length = xs.length + vs.length := by simp; omega
 refine calls_W (fn := Tryz.f106) rfl rfl rfl ?_
 refine yf [0] (y7 0 6 (.slice none 0 0) (yz nL3 (WO.vs 0 [(10, Sl a xs cap), (11, Iv (i : Int))] (ya4 (e := 9) (sz := 1) z kr kr kr z (i : Int) (xs.length : Int) (by omega) (.inr ⟨_, _, rfl, rfl⟩) (.inl ⟨rfl, rfl⟩) (by omega) (by omega) ?_))))
 refine yz nL3 (WO.vs 0 [(13, Sl va vs vc), (14, Nv vs.length), (7, Nv vs.length)] (yb (yi (yf nL2 (WO.vs 0 [(15, Nv vs.length), (16, .bool ((vs.length : Int) == 0))] (yb (ybz (fun K => ?_) (fun K => ?_))))))))
 exfalso
 simp at K
 exact hm K
 clear K
 refine ym (yc (yf nL3 (WO.vs 0 [(18, Sl a xs cap), (19, Nv xs.length), (8, Nv xs.length)] (yb (yi (yf nL3 (WO.vs 0 [(20, Iv (i : Int)), (21, Nv xs.length), (22, .bool ((i : Int) == (xs.length : Int)))] (yb (ybz (fun K => ?_) (fun K => ?_))))))))))
 have hin : i = xs.length := by simp at K; omega
 refine yf nL4 (WO.vs 0 [(23, Sl a xs cap), (24, Sl va vs vc)] (yaz 9 16 [(.string eB)] hS h hv.sl hS.drop.rd0 hfit z z ?_))
 intro a' c' w' C' hS' ho'
 refine y7 3 6 (.slice a' (xs ++ vs).length c') (yb (yp (ye ?_)))
 have e : xs.take i ++ vs ++ xs.drop i = xs ++ vs := by rw [hin, List.take_length, List.drop_length, List.append_nil]
 rw [e]
 exact yy ⟨a', c', C', rfl, hS', ho'⟩
 have hin : i < xs.length := by simp at K; omega
 clear K
 obtain ⟨b, off, c, rfl, rfl, hcs⟩ := h.block (h.ne (by rintro rfl; simp at hin))
 obtain ⟨b2, o2, c2, rfl, rfl, hcs2⟩ := hv.block (hv.ne hm)
 obtain ⟨csx, hcx, hrx⟩ := h.sl.cel
 obtain ⟨csv, hcv, hrv⟩ := hv.sl.cel
 have hxh : Hol c off csx := Hol.rd (T := 9) hrx hS.rd0
 have hcxl := hcx.len
 have hcvl := hcv.len
 have hbig : xs.length + vs.length < 9223372036854775808 := by omega
 have hw1 : w64 ((xs.length : Int) + (vs.length : Int)) = ((xs.length + vs.length : Nat) : Int) := by rw [w64_id (by omega) (by omega)]; omega
 have hw2 : w64 ((i : Int) + (vs.length : Int)) = ((i + vs.length : Nat) : Int) := by rw [w64_id (by omega) (by omega)]; omega
 refine ym (yc (yi (yf nL6 (WO.vs 0 [(26, Nv xs.length), (27, Nv vs.length), (28, Iv (w64 ((xs.length : Int) + (vs.length : Int)))), (29, .slice (some ⟨b, off, none⟩) xs.length cap), (30, Iv (cap : Int)), (31, .bool (decide (w64 ((xs.length : Int) + (vs.length : Int)) > (cap : Int))))] (yb (ybz (fun K => ?_) (fun K => ?_)))))))
 have hgr : cap < xs.length + vs.length := by rw [hw1] at K; simp at K; omega
 clear K
 have hw3 : w64 ((xs.length + vs.length : Nat) - (i : Int)) = ((xs.length + vs.length - i : Nat) : Int) := by rw [w64_id (by omega) (by omega)]; omega
 have htl : (xs.take i).length = i := by rw [List.length_take]; omega
 refine yf nL10 (WO.vs 0 [(32, .slice (some ⟨b, off, none⟩) xs.length cap), (33, Iv (i : Int))] (ybb (e := 9) (sz := 1) z kr kr kr z 0 i (.inl ⟨rfl, rfl⟩) (.inr ⟨_, _, rfl, rfl⟩) (by omega) (by omega) (by omega) ?_))
 refine WO.vs 3 [(35, Nv xs.length), (36, Nv vs.length), (37, Iv (w64 ((xs.length : Int) + (vs.length : Int))))] (yaa 37 z (congrArg (Value.int .i64) hw1) ?_)
 refine WO.vs 6 [(38, Iv (i : Int)), (39, Iv (w64 ((xs.length + vs.length : Nat) - (i : Int))))] (yaa 39 z (congrArg (Value.int .i64) hw3) ?_)
 refine yb2 (T := 9) (b := 16) (zs := #[(.string eB)]) (kn := .i64) hS hS.drew.rd0 (h.sl.take i) z kr z kr kr kr z z z (by rw [htl]; rfl) (k := xs.length + vs.length - i) z (by omega) (by rw [htl]; omega) (by rw [htl, show i + (xs.length + vs.length - i) = xs.length + vs.length by omega]; exact hfit) tv ?_
 intro w1 nb G d cs1 S1 hc1 hh1 hG1 hG2 hG3
 have hc1l := hc1.len
 rw [htl] at hG1 hc1l
 refine yaa 40 z (v := .slice (some ⟨nb, 0, none⟩) (xs.length + vs.length) G) (by rw [htl, show i + (xs.length + vs.length - i) = xs.length + vs.length by omega]) ?_
 refine y7 9 9 (.slice (some ⟨nb, 0, none⟩) (xs.length + vs.length) G) (yb ?_)
 have hGn : (xs.length + vs.length) * 1 ≤ G * 1 := Nat.mul_le_mul_right _ (by omega)
 refine yf nL5 (WO.vs 0 [(41, .slice (some ⟨nb, 0, none⟩) (xs.length + vs.length) G), (42, Iv (i : Int))] (ybb (e := 9) (sz := 1) z kr kr kr z i (xs.length + vs.length) (.inr ⟨_, _, rfl, rfl⟩) (.inl ⟨rfl, rfl⟩) (by omega) (by omega) (by omega) ?_))
 refine y7 3 44 (.slice (some ⟨b2, o2, none⟩) vs.length vc) (ybu (T := 9) (sz := 1) (e := 9) S1 z kr z kr kr z z csv (by rw [hcvl]; congr 1; simp only [Nat.min_def]; split <;> omega) (fun x hx j v hj => by injection hx with hx; subst hx; rw [add_plain]; exact hrv w1 (S1.rd (.tail _ (.tail _ (.head _)))) j v hj) (fun hx => by cases hx) hcv.one (by rw [hcvl]; omega) tv ?_)
 intro w2 S2
 refine yb (yi (have S3 := S2.drew; ybd nL9 8 (y8 S3.im) ?_))
 generalize World.drew _ = w3 at *
 refine WO.vs 0 [(46, .slice (some ⟨nb, 0, none⟩) (xs.length + vs.length) G), (47, Iv (i : Int)), (48, Nv vs.length), (49, Iv (w64 ((i : Int) + (vs.length : Int))))] (yaa 49 z (congrArg (Value.int .i64) hw2) ?_)
 refine ybb (e := 9) (sz := 1) z kr kr kr z (i + vs.length) (xs.length + vs.length) (.inr ⟨_, _, rfl, rfl⟩) (.inl ⟨rfl, rfl⟩) (by omega) (by omega) (by omega) ?_
 refine WO.vs 5 [(51, .slice (some ⟨b, off, none⟩) xs.length cap), (52, Iv (i : Int))] (ybb (e := 9) (sz := 1) z kr kr kr z i xs.length (.inr ⟨_, _, rfl, rfl⟩) (.inl ⟨rfl, rfl⟩) (by omega) (by omega) (by omega) ?_)
 refine WO.tail z ?_
 have hdl : (csx.drop (i * 1)).length = (xs.length - i) * 1 := by rw [List.length_drop, hcxl, Nat.sub_mul]
 refine ybu (T := 9) (sz := 1) (e := 9) S3 z kr z kr kr z z (csx.drop (i * 1)) (by rw [hdl]; congr 1; simp only [Nat.min_def]; split <;> omega) (fun x hx j v hj => by
  injection hx with hx
  subst hx
  rw [List.getElem?_drop] at hj
  have := hrx w3 (S3.rd (.tail _ (.head _))) _ v hj
  rw [add_plain, Nat.add_assoc]
  exact this) (fun hx => by cases hx) (fun v hv => hcx.one v (List.mem_of_mem_drop hv)) (by rw [hdl, wrt_size]; omega) tv ?_
 intro w4 S4
 refine yz nL2 (WO.vs 0 [(55, .slice (some ⟨nb, 0, none⟩) (xs.length + vs.length) G), (6, .slice (some ⟨nb, 0, none⟩) (xs.length + vs.length) G)] (yb (yp (ye ?_))))
 rw [hlen]
 refine yy ⟨_, G, _, rfl, S4.front1.drop, ?_⟩
 refine Cel.own ((hc1.append hcv).append (hcx.drop i)) (Hol.append (Hol.append ((hh1.apart (.inl ?_)).apart (.inl ?_)) ((Hol.apart ?_ (.inl ?_)))) ?_) (by rw [hlen]; exact Nat.le_trans (by omega) hG1) hG2 (by rw [wrt_size, wrt_size]; omega)
 rw [hc1l]; omega
 rw [hc1l]; omega
 rw [hc1l]; exact Hol.wrt _ (by rw [hcvl]; omega)
 rw [hc1l, hcvl]; omega
 have e : 0 + (cs1 ++ csv).length = 0 + (i + vs.length) * 1 := by rw [List.length_append, hc1l, hcvl, Nat.add_mul]
 rw [e]
 exact Hol.wrt _ (by rw [hdl, wrt_size]; omega)
 have hroom : xs.length + vs.length ≤ cap := by rw [hw1] at K; simp at K; omega
 clear K
 have hcap : (xs.length + vs.length) * 1 ≤ cap * 1 := Nat.mul_le_mul_right _ hroom
 refine ym (yc (yf nL6 (WO.vs 0 [(56, .slice (some ⟨b, off, none⟩) xs.length cap), (57, Nv xs.length), (58, Nv vs.length), (59, Iv (w64 ((xs.length : Int) + (vs.length : Int))))] (yaa 59 z (congrArg (Value.int .i64) hw1) ?_))))
 refine ybb (e := 9) (sz := 1) z kr kr kr z 0 (xs.length + vs.length) (.inl ⟨rfl, rfl⟩) (.inr ⟨_, _, rfl, rfl⟩) (by omega) (by omega) (by omega) ?_
 refine yaa 60 z (v := .slice (some ⟨b, off, none⟩) (xs.length + vs.length) cap) (by rw [Nat.zero_mul, Nat.add_zero, Nat.sub_zero, Nat.sub_zero]) ?_
 refine y7 5 0 (.slice (some ⟨b, off, none⟩) (xs.length + vs.length) cap) (yb (yi (yf nL8 (WO.vs 0 [(61, .slice (some ⟨b2, o2, none⟩) vs.length vc), (62, .slice (some ⟨b, off, none⟩) (xs.length + vs.length) cap), (63, Iv (i : Int)), (64, Nv vs.length), (65, Iv (w64 ((i : Int) + (vs.length : Int))))] (yaa 65 z (congrArg (Value.int .i64) hw2) ?_)))))
 refine ybb (e := 9) (sz := 1) z kr kr kr z (i + vs.length) (xs.length + vs.length) (.inr ⟨_, _, rfl, rfl⟩) (.inl ⟨rfl, rfl⟩) (by omega) (by omega) (by omega) ?_
 refine WO.extern (f := 147) (fn := Tryz.f147) (e := Extern.SlicesOverlaps.overlaps #[33, 33] #[4]) z kr z kr kr kr (by rfl) (args := #[.slice (some ⟨b2, o2, none⟩) vs.length vc, .slice (some ⟨b, off + (i + vs.length) * 1, none⟩) (xs.length + vs.length - (i + vs.length)) (cap - (i + vs.length))]) kr (.bool false) (fun w' hw' => ?_) ?_
 rcases hw' with ⟨hw', _⟩ | rfl
 cases hw'
 exact run_over (sz := 1) (e := 9) kr kr hS (by omega) _ _ _ _
 refine y7 7 68 (.bool true) (yb (ybz (fun K => ?_) (fun K => ?_)))
 rotate_left
 cases K
 clear K
 refine yi (have S1 := hS.drew; ybd nL9 8 (y8 S1.im) ?_)
 generalize World.drew _ = w1 at *
 refine WO.vs 0 [(69, .slice (some ⟨b, off, none⟩) (xs.length + vs.length) cap), (70, Iv (i : Int)), (71, Nv vs.length), (72, Iv (w64 ((i : Int) + (vs.length : Int))))] (yaa 72 z (congrArg (Value.int .i64) hw2) ?_)
 refine ybb (e := 9) (sz := 1) z kr kr kr z (i + vs.length) (xs.length + vs.length) (.inr ⟨_, _, rfl, rfl⟩) (.inl ⟨rfl, rfl⟩) (by omega) (by omega) (by omega) ?_
 refine WO.vs 5 [(74, .slice (some ⟨b, off, none⟩) (xs.length + vs.length) cap), (75, Iv (i : Int))] (ybb (e := 9) (sz := 1) z kr kr kr z i (xs.length + vs.length) (.inr ⟨_, _, rfl, rfl⟩) (.inl ⟨rfl, rfl⟩) (by omega) (by omega) (by omega) ?_)
 refine WO.tail z ?_
 have hdl : (csx.drop (i * 1)).length = (xs.length - i) * 1 := by rw [List.length_drop, hcxl, Nat.sub_mul]
 refine ybu (T := 9) (sz := 1) (e := 9) S1 z kr z kr kr z z (csx.drop (i * 1)) (by rw [hdl]; congr 1; simp only [Nat.min_def]; split <;> omega) (fun x hx j v hj => by
  injection hx with hx
  subst hx
  rw [List.getElem?_drop] at hj
  have := hrx w1 S1.rd0 _ v hj
  rw [add_plain, Nat.add_assoc]
  exact this) (fun hx => by cases hx) (fun v hv => hcx.one v (List.mem_of_mem_drop hv)) (by rw [hdl]; omega) tv ?_
 intro w2 S2
 refine yz nL5 (WO.vs 0 [(78, .slice (some ⟨b, off, none⟩) (xs.length + vs.length) cap), (79, Iv (i : Int))] (ybb (e := 9) (sz := 1) z kr kr kr z i (xs.length + vs.length) (.inr ⟨_, _, rfl, rfl⟩) (.inl ⟨rfl, rfl⟩) (by omega) (by omega) (by omega) ?_))
 refine y7 3 81 (.slice (some ⟨b2, o2, none⟩) vs.length vc) (ybu (T := 9) (sz := 1) (e := 9) S2 z kr z kr kr z z csv (by rw [hcvl]; congr 1; simp only [Nat.min_def]; split <;> omega) (fun x hx j v hj => by injection hx with hx; subst hx; rw [add_plain]; exact hrv w2 (S2.rd (.tail _ (.head _))) j v hj) (fun hx => by cases hx) hcv.one (by rw [hcvl, wrt_size]; omega) tv ?_)
 intro w3 S3
 refine yz nL2 (WO.vs 0 [(83, .slice (some ⟨b, off, none⟩) (xs.length + vs.length) cap), (6, .slice (some ⟨b, off, none⟩) (xs.length + vs.length) cap)] (yb (yp (ye ?_))))
 rw [hlen]
 refine yy ⟨_, cap, _, rfl, S3, ?_⟩
 have htl : (csx.take (i * 1)).length = i * 1 := by rw [List.length_take, hcxl]; omega
 refine Cel.own (((hcx.take i).append hcv).append (hcx.drop i)) (Hol.append (Hol.append (((hxh.take _).apart (.inl ?_)).apart (.inl ?_)) ?_) (Hol.apart ?_ (.inr ?_))) (by rw [hlen]; exact hroom) h.sl.lt (by rw [wrt_size, wrt_size]; exact hcs)
 rw [htl]; omega
 rw [htl]; omega
 rw [htl]; exact Hol.wrt _ (by rw [hcvl, wrt_size]; omega)
 have e : off + (csx.take (i * 1) ++ csv).length = off + (i + vs.length) * 1 := by rw [List.length_append, htl, hcvl, Nat.add_mul]
 rw [e]
 exact Hol.wrt _ (by rw [hdl]; omega)
 rw [List.length_append, htl, hcvl]; omega
noncomputable def grantT (l : List qJ) (i : Int) (n : By8) : Option (List qJ × Int) := open Classical in if fits l then (idx l i).bind fun x => (slices_BinarySearch_string x.In n).bind fun (k, _) => (insO 16 x.In k [n]).bind fun y => some (l.set i.toNat { x with In := y }, 0) else none
noncomputable def member_Grant (p0 : List qJ) (p1 : By8) (p2 : By8) : Option ((List qJ) × Int) := (member_Check p0).bind (fun r6 => (bif (r6 != 0) then some (([] : List qJ), r6) else (member_at p0 p2).bind (fun r12 => ((bif (decide (r12 < 0)) then some true else (member_at p0 p1).bind (fun r22 => some (decide (r22 < 0))))).bind (fun (j13 : Bool) => (bif j13 then some (([] : List qJ), 4) else (idx p0 r12).bind (fun x25 => (slices_Contains_string x25.In p1).bind (fun r31 => (bif r31 then some (([] : List qJ), 19) else (member_Is p0 p1 p2).bind (fun r37 => (bif r37 then some (([] : List qJ), 35) else (grantT p0 r12 p1)))))))))))
theorem member_Grant_ok {p0 : List qJ} {p1 : By8} {p2 : By8} {a_p0 : Option Addr} {c_p0 : Nat} (h_p0 : RSl 2 R_qJ I a_p0 c_p0 p0) (hS : St E w I Os) {r : (List qJ) × Int} (H : member_Grant p0 p1 p2 = some r) :
    Calls P 61 #[(.slice a_p0 p0.length c_p0), (.string p1), (.string p2)] w (fun e w' => ∃ (I' : Mem) (ra0 : Option Addr) (rc0 : Nat), e = .returned (.tuple #[(.slice ra0 r.1.length rc0), (.int .i64 r.2)]) ∧ I.Le I' ∧ St E w' I' Os ∧ RSl 2 R_qJ I' ra0 rc0 r.1) := by
  refine calls_W (args := [(.slice a_p0 p0.length c_p0), (.string p1), (.string p2)]) (fn := Tryz.f61) rfl rfl rfl ?_
  unfold member_Grant at H
  refine yi ?_
  refine yah (l := [0, 1]) kr ?_
  refine yag [(0, 6, (.slice none 0 0))] kr (fun _ => by kernel_rfl) ?_
  refine ya 1 1 z ?_
  refine yq ?_
  refine yc ?_
  refine yi ?_
  refine yi ?_
  refine yah (l := [0, 1, 2]) kr ?_
  refine ya 0 1 z ?_
  obtain ⟨r6, Xr1, H⟩ := bind_some H
  refine ya9 z kr z (f := 100) (args := #[(.slice a_p0 p0.length c_p0)]) kr (member_Check_ok h_p0 hS Xr1) ?_
  rintro _ w2 ⟨I3, rfl, L4, S5⟩
  refine ⟨_, rfl, trivial, ?_⟩
  refine ya 2 1 z ?_
  refine yq ?_
  refine yc ?_
  refine yi ?_
  refine yah (l := [0, 1]) kr ?_
  refine ya 0 2 z ?_
  refine yq ?_
  refine yc ?_
  refine W.cond (b := (r6 != 0)) z z (fun K => ?_) (fun K => ?_)
  · replace H := cond_t K H
    refine yi ?_
    refine yah (l := [0, 1, 2]) kr ?_
    refine ya 0 1 z ?_
    refine yag [(1, 6, (.slice none 0 0))] kr (fun _ => by kernel_rfl) ?_
    refine ya 2 1 z ?_
    refine yq ?_
    refine yc ?_
    refine yp ?_
    refine ye ?_
    have he := Option.some.inj H
    subst r
    exact ybm z (.slice none 0 0) (.int .i64 r6) z z ⟨I3, none, 0, rfl, L4, S5, SlAt.nil⟩
  · replace H := cond_f K H
    refine ym ?_
    refine yc ?_
    refine yi ?_
    refine yah (l := [0, 1, 2, 3]) kr ?_
    refine ya 0 2 z ?_
    obtain ⟨r12, Xr7, H⟩ := bind_some H
    refine ya9 z kr z (f := 56) (args := #[(.slice a_p0 p0.length c_p0), (.string p2)]) kr (member_at_ok (RSl.mono h_p0 L4) S5 Xr7) ?_
    rintro _ w8 ⟨I9, rfl, L10, S11⟩
    refine ⟨_, rfl, trivial, ?_⟩
    refine ya 3 1 z ?_
    refine yq ?_
    refine yc ?_
    refine yi ?_
    refine yo ?_
    refine yi ?_
    refine yah (l := [0, 1, 2, 3, 4, 5, 6, 7, 8]) kr ?_
    refine ya 0 3 z ?_
    obtain ⟨j13, R1, H⟩ := bind_some H
    refine WO.join (l1 := [3, 4, 5, 6, 7]) (l2 := [8]) (J := (fun fr w => ∃ (I15 : Mem), fr = [(0, (.slice a_p0 p0.length c_p0)), (1, (.string p1)), (2, (.string p2)), (9, (.int .i64 r12)), (29, (.bool j13))] ∧ I9.Le I15 ∧ St E w I15 Os)) ?restj13 ?waysj13
    case waysj13 =>
      refine yb7 (decide (r12 < 0)) (fun K => ?_) (fun K => ?_)
      · replace R1 := cond_t K R1
        refine yaa 24 z (show Value.bool (decide (r12 < 0)) = Value.bool true by rw [K]) ?_
        refine ybi z kr z ?_
        refine ybi z kr z ?_
        refine ybi z kr z ?_
        refine ybi z kr z ?_
        refine ya 7 1 z ?_
        have he := Option.some.inj R1
        subst j13
        refine WO.weaken (fr' := [(0, (.slice a_p0 p0.length c_p0)), (1, (.string p1)), (2, (.string p2)), (9, (.int .i64 r12)), (29, (.bool true))]) (ybw ⟨I9, rfl, Mem.Le.refl _, S11⟩) (Sub.cons z (Sub.cons z (Sub.cons z (Sub.cons z (Sub.cons z Sub.nil)))))
      · replace R1 := cond_f K R1
        refine yaa 24 z (show Value.bool (decide (r12 < 0)) = Value.bool false by rw [K]) ?_
        refine ya 3 2 z ?_
        obtain ⟨r22, Xr17, R1⟩ := bind_some R1
        refine ya9 z kr z (f := 56) (args := #[(.slice a_p0 p0.length c_p0), (.string p1)]) kr (member_at_ok (RSl.mono h_p0 (L4.trans L10)) S11 Xr17) ?_
        rintro _ w18 ⟨I19, rfl, L20, S21⟩
        refine ⟨_, rfl, trivial, ?_⟩
        refine ya 6 2 z ?_
        have he := Option.some.inj R1
        subst j13
        refine WO.weaken (fr' := [(0, (.slice a_p0 p0.length c_p0)), (1, (.string p1)), (2, (.string p2)), (9, (.int .i64 r12)), (29, (.bool (decide (r22 < 0))))]) (ybw ⟨I19, rfl, L20, S21⟩) (Sub.cons z (Sub.cons z (Sub.cons z (Sub.cons z (Sub.cons z Sub.nil)))))
    case restj13 =>
      rintro _ w23 ⟨I15, rfl, L16, S24⟩
      refine ya 8 1 z ?_
      refine yq ?_
      refine yc ?_
      refine W.cond (b := j13) z z (fun K => ?_) (fun K => ?_)
      · replace H := cond_t K H
        refine yi ?_
        refine yah (l := [0, 1]) kr ?_
        refine yag [(0, 6, (.slice none 0 0))] kr (fun _ => by kernel_rfl) ?_
        refine ya 1 1 z ?_
        refine yq ?_
        refine yc ?_
        refine yp ?_
        refine yl ?_
        refine ye ?_
        have he := Option.some.inj H
        subst r
        exact ybm z (.slice none 0 0) (.int .i64 4) z z ⟨I15, none, 0, rfl, ((L4.trans L10).trans L16), S24, SlAt.nil⟩
      · replace H := cond_f K H
        refine yi ?_
        refine yah (l := [0, 1, 2, 3, 4, 5, 6, 7]) kr ?_
        refine ya 0 2 z ?_
        obtain ⟨x25, Xx25, H⟩ := bind_some H
        obtain ⟨h0_x25, h1_x25, Xx25⟩ := idx_some Xx25
        obtain ⟨ha_x25, cs_x25, hn_x25, hr_x25, Zx25⟩ := ((RSl.mono h_p0 ((L4.trans L10).trans L16))).el _ _ Xx25
        obtain ⟨w_x25, rfl, h_x25⟩ := hr_x25
        refine ya6 (e := 62) (sz := 2) z kr kr kr z ha_x25 z h0_x25 h1_x25 ?_
        refine yg 3 1 [1] z ?_
        refine ybj z kr kr z (v := (.slice w_x25.In.a x25.In.length w_x25.In.c)) (fun w' hw' => Zx25.cellk 1 kr ((rd_f S24.im) w' hw')) ?_
        refine ya 5 1 z ?_
        obtain ⟨r31, Xr26, H⟩ := bind_some H
        refine ya9 z kr z (f := 58) (args := #[(.slice w_x25.In.a x25.In.length w_x25.In.c), (.string p1)]) kr (slices_Contains_string_ok h_x25.In S24 Xr26) ?_
        rintro _ w27 ⟨I28, rfl, L29, S30⟩
        refine ⟨_, rfl, trivial, ?_⟩
        refine ya 7 1 z ?_
        refine yq ?_
        refine yc ?_
        refine W.cond (b := r31) z z (fun K => ?_) (fun K => ?_)
        · replace H := cond_t K H
          refine yi ?_
          refine yah (l := [0, 1]) kr ?_
          refine yag [(0, 6, (.slice none 0 0))] kr (fun _ => by kernel_rfl) ?_
          refine ya 1 1 z ?_
          refine yq ?_
          refine yc ?_
          refine yp ?_
          refine yl ?_
          refine ye ?_
          have he := Option.some.inj H
          subst r
          exact ybm z (.slice none 0 0) (.int .i64 19) z z ⟨I28, none, 0, rfl, (((L4.trans L10).trans L16).trans L29), S30, SlAt.nil⟩
        · replace H := cond_f K H
          refine yi ?_
          refine yah (l := [0, 1, 2, 3, 4]) kr ?_
          refine ya 0 3 z ?_
          obtain ⟨r37, Xr32, H⟩ := bind_some H
          refine ya9 z kr z (f := 33) (args := #[(.slice a_p0 p0.length c_p0), (.string p1), (.string p2)]) kr (member_Is_ok (RSl.mono h_p0 (((L4.trans L10).trans L16).trans L29)) S30 Xr32) ?_
          rintro _ w33 ⟨I34, rfl, L35, S36⟩
          refine ⟨_, rfl, trivial, ?_⟩
          refine ya 4 1 z ?_
          refine yq ?_
          refine yc ?_
          refine W.cond (b := r37) z z (fun K => ?_) (fun K => ?_)
          · replace H := cond_t K H
            refine yi ?_
            refine yah (l := [0, 1]) kr ?_
            refine yag [(0, 6, (.slice none 0 0))] kr (fun _ => by kernel_rfl) ?_
            refine ya 1 1 z ?_
            refine yq ?_
            refine yc ?_
            refine yp ?_
            refine yl ?_
            refine ye ?_
            have he := Option.some.inj H
            subst r
            exact ybm z (.slice none 0 0) (.int .i64 35) z z ⟨I34, none, 0, rfl, ((((L4.trans L10).trans L16).trans L29).trans L35), S36, SlAt.nil⟩
          · replace H := cond_f K H
            refine ym ?_
            refine yn ?_
            refine yc ?_
            refine yi ?_
            refine yah (l := [0, 1, 2]) kr ?_
            refine ya 0 1 z ?_
            have R0 := H
            unfold grantT at R0
            split at R0
            rotate_left
            · cases R0
            rename_i hfit
            obtain ⟨x0, hx0, R0⟩ := bind_some R0
            obtain ⟨i0, i1, hx0⟩ := idx_some hx0
            obtain ⟨⟨k0, f0⟩, hk0, R0⟩ := bind_some R0
            obtain ⟨y0, hy0, R0⟩ := bind_some R0
            obtain ⟨kn, rfl, j1, j2, rfl⟩ := insO_some hy0
            have he := Option.some.inj R0
            subst he
            refine ya9 z kr z (f := 102) (args := #[(.slice a_p0 p0.length c_p0)]) kr (clone2_ok (RSl.mono h_p0 ((((L4.trans L10).trans L16).trans L29).trans L35)) S36 hfit) ?_
            rintro _ qw1 ⟨QI1, a, c, C, rs, Ds, rfl, ql1, qS1, ho1, hn1⟩
            refine ⟨_, rfl, trivial, ?_⟩
            refine yag [(2, 10, (.slice a p0.length c))] kr (fun _ => by kernel_rfl) ?_
            refine yq ?_
            refine yc ?_
            refine yi ?_
            obtain ⟨r1, D1, e1, e2, g1, g2, g3⟩ := hn1.get hx0
            have hlt := (List.getElem?_eq_some_iff.1 e2).1
            refine yah (l := [0, 1, 2, 3, 4, 5, 6, 7, 8, 9, 10, 11]) kr ?_
            refine yag [(0, 46, (.slice a p0.length c)), (1, 47, (.int .i64 r12))] kr (fun _ => by kernel_rfl) ?_
            obtain ⟨ha, cs, hcn, hrr, hcc⟩ := ho1.sl.el _ _ e1
            obtain rfl := hrr
            refine ya6 (e := 62) (sz := 2) z kr kr kr z ha z i0 i1 ?_
            refine yag [(3, 49, (.pointer (some ⟨bl a, of a + (r12).toNat * 2 + 1, none⟩)))] kr (fun _ => by kernel_rfl) ?_
            refine ybj z kr kr z (v := (.slice r1.a r1.n r1.c)) (fun w' hw' => hcc.cellk 1 kr ((rd_f (qS1.rd (List.Mem.head _))) w' hw')) ?_
            rw [g2]
            refine yag [(5, 51, (.string p1))] kr (fun _ => by kernel_rfl) ?_
            have qS1p := st_pick qS1 e2
            refine ya9 z kr z (f := 103) (args := #[(.slice r1.a x0.In.length r1.c), (.string p1)]) kr (slices_BinarySearch_string_ok (g3.publish qS1p) qS1p.publish hk0) ?_
            rintro _ qw2 ⟨QI2, rfl, ql2, qS3⟩
            have qS4 := St.back qS1p ql2 qS3
            refine ⟨_, rfl, trivial, ?_⟩
            refine yag [(7, 45, (.tuple #[(.int .i64 (kn : Int)), (.bool f0)])), (8, 53, (.int .i64 (kn : Int))), (9, 54, (.bool f0)), (10, 11, (.int .i64 (kn : Int))), (11, 12, (.bool f0))] kr (fun _ => by kernel_rfl) ?_
            refine yq ?_
            refine yc ?_
            refine yi ?_
            refine yah (l := [0, 1, 2, 3, 4, 5, 6, 7, 8, 9, 10, 11, 12, 13]) kr ?_
            refine yag [(0, 55, (.slice a p0.length c)), (1, 56, (.int .i64 r12)), (2, 57, (.slice a p0.length c)), (3, 58, (.int .i64 r12))] kr (fun _ => by kernel_rfl) ?_
            refine ya6 (e := 62) (sz := 2) z kr kr kr z ha z i0 i1 ?_
            refine yag [(5, 60, (.pointer (some ⟨bl a, of a + (r12).toNat * 2 + 1, none⟩)))] kr (fun _ => by kernel_rfl) ?_
            refine ybj z kr kr z (v := (.slice r1.a r1.n r1.c)) (fun w' hw' => hcc.cellk 1 kr ((rd_f (qS4.rd (List.Mem.tail _ (List.Mem.head _)))) w' hw')) ?_
            rw [g2]
            refine yag [(7, 62, (.int .i64 (kn : Int))), (8, 63, (.string p1))] kr (fun _ => by kernel_rfl) ?_
            refine yai (rel := RStr) (xs := ([p1] : List By8)) qS4 z kr z 9 1 [[(.string p1)]] kr z (Elr.cons z Elr.nil) tv ?_
            intro va V qw3 qS5 hv
            refine ya9 z kr z (f := 106) (args := #[(.slice r1.a x0.In.length r1.c), (.int .i64 (kn : Int)), (.slice va ([p1] : List By8).length 1)]) kr (ins106_ok g3 hv qS5.front1 (i := kn) j1 (by simp) j2) ?_
            rintro _ qw4 ⟨a2, c2, D2, rfl, qS6, h6⟩
            refine ⟨_, rfl, trivial, ?_⟩
            refine ya6 (e := 62) (sz := 2) z kr kr kr z ha z i0 i1 ?_
            refine yag [(12, 67, (.pointer (some ⟨bl a, of a + (r12).toNat * 2 + 1, none⟩)))] kr (fun _ => by kernel_rfl) ?_
            have qS7 := st_unpick qS6.front1.drop hlt
            refine ya7 (m := (r12).toNat) qS7 ho1 z kr z e1 (u' := { r1 with a := a2, c := c2, n := (x0.In.take kn ++ [p1] ++ x0.In.drop kn).length }) 1 z z kr z z (fun cs hrel => (by obtain rfl := hrel; rfl)) tv ?_
            intro qw5 C5 qS8 ho8
            refine yq ?_
            refine yc ?_
            refine yi ?_
            refine yah (l := [0, 1, 2]) kr ?_
            refine yag [(0, 68, (.slice a p0.length c)), (1, 6, (.slice a p0.length c)), (2, 7, (.int .i64 0))] kr (fun _ => by kernel_rfl) ?_
            refine yq ?_
            refine yc ?_
            refine yp ?_
            obtain ⟨QI9, ql9, qS9, hp9⟩ := (hn1.set (r12).toNat (r := { r1 with a := a2, c := c2, n := (x0.In.take kn ++ [p1] ++ x0.In.drop kn).length }) (D := D2) (x := { x0 with In := x0.In.take kn ++ [p1] ++ x0.In.drop kn }) g1 rfl h6).pub ho8 qS8
            exact ybm z (.slice a p0.length c) (.int .i64 0) z z ⟨QI9, a, c, by simp only [List.length_set], ((((L4.trans L10).trans L16).trans L29).trans L35).trans (ql1.trans ql9), qS9, hp9⟩
noncomputable def slices_DeleteFunc_string (p0 : List By8) (p1 : By8 → Option Bool) : Option (List By8) := (slices_IndexFunc_string p0 p1).bind (fun r8 => (bif (r8 == (-1)) then some p0 else (loopO (fun (s : Int × Int × (List By8)) => match s with | (s13, s14, s15) => (bif (decide (s14 < (s15.length : Int))) then (idx s15 s14).bind (fun x20 => (p1 x20).bind (fun (r26 : Bool) => ((bif (!r26) then (idx s15 s13).bind (fun x31 => some ((w64 (s13 + 1)), (s15.set (s13).toNat x20))) else some (s13, s15))).bind (fun ((s36, s37) : Int × (List By8)) => some (.inl (s36, (w64 (s14 + 1)), s37))))) else some (.inr (s13, s15)))) (r8, (w64 (r8 + 1)), p0)).bind (fun ((s41, s42) : Int × (List By8)) => (sub s42 s41 (s42.length : Int)).bind (fun x43 => (sub (s42.take (s41).toNat ++ List.replicate (s42.length - (s41).toNat) eB) 0 s41).bind (fun x48 => some x48)))))
theorem slices_DeleteFunc_string_ok {p0 : List By8} {p1 : By8 → Option Bool} {a_p0 : Option Addr} {c_p0 : Nat} {C_p0 : Mem} {g_p1 : FuncId} {k_p1 : List Value} (h_p0 : OwnSl 9 1 RStr I C_p0 a_p0 c_p0 p0) (h_p1 : ∀ {F : List Mem} {I' : Mem} {w : World} {u0 : By8}, I.Le I' → St E w I' (F ++ Os) → ∀ {r : Bool}, p1 u0 = some r → Calls P g_p1 (([(.string u0)] : List Value) ++ k_p1).toArray w (fun e w' => ∃ (I'' : Mem), e = .returned (.bool r) ∧ I'.Le I'' ∧ St E w' I'' (F ++ Os))) (hcall_p1 : Callable P g_p1) (hS : St E w I ((C_p0) :: Os)) {r : (List By8)} (H : slices_DeleteFunc_string p0 p1 = some r) :
    Calls P 107 #[(Sl a_p0 p0 c_p0), (.func (.func g_p1) #[] k_p1.toArray)] w (fun e w' => ∃ (I' : Mem) (ra0 : Option Addr) (rc0 : Nat) (rC0 : Mem), e = .returned (Sl ra0 r rc0) ∧ I.Le I' ∧ St E w' I' (rC0 :: Os) ∧ OwnSl 9 1 RStr I' rC0 ra0 rc0 r) := by
 refine calls_W (fn := Tryz.f107) rfl rfl rfl ?_
 unfold slices_DeleteFunc_string at H
 refine yf [0] (y7 0 4 (.slice none 0 0) (yz nL4 (ya 0 1 z (y7 1 9 (.func (.func g_p1) #[] k_p1.toArray) (have hp2 := (h_p0).publish hS; bsk H fun r8 Xr3 H => yaj (slices_IndexFunc_string_ok hp2 (fun {F Ic wc} {_} hlc hSc  {rc} hrc => h_p1 ((ybg I C_p0).trans hlc) hSc  hrc) hcall_p1 hS.publish Xr3) ?_)))))
 rintro _ w4 ⟨I5, rfl, L6, S7⟩
 have S9 := St.back hS L6 S7
 refine cv (ya 3 1 z (yb (yi (yf nL2 (ya 0 2 z (yb (y6 H (fun K H => ?_) (fun K H => ?_))))))))
 exact yf nL2 (ya 0 2 z (yb (yp (ye (sj H ▸ yy ⟨I, a_p0, c_p0, C_p0, rfl, lr, S9, h_p0⟩)))))
 refine ym (yc (yi (yf nL3 (ya 0 3 z (yb (yo (bsk H fun t10 hloop16 H => W.wk (ybf hloop16 (fun (s : Int × Int × (List By8)) fr w => match s with | (s13, s14, s15) => ∃ I11 C_s15, fr = [(0, Sl a_p0 s15 c_p0), (1, .func (.func g_p1) #[] k_p1.toArray), (5, Iv s13), (6, Iv s14)] ∧ I.Le I11 ∧ St E w I11 ((C_s15) :: Os) ∧ OwnSl 9 1 RStr I11 C_s15 a_p0 c_p0 s15) ⟨I, C_p0, rfl, lr, S9, h_p0⟩ ?_))))))))
 rintro ⟨s13, s14, s15⟩ _ w17 ⟨I11, C_s15, rfl, L12, S18, h_s15⟩ x19 R1 hext10
 refine yi (yf nL4 (ya 0 4 z (yb (y6 R1 (fun K R1 => ?_) (fun K R1 => ?_)))))
 refine ym (yc (yi (yo (yf nL5 (ya 0 2 z ?_)))))
 obtain ⟨x20, R1, Hx20, _, rfl, Zx20⟩ := sl_ix (h_s15.sl) R1
 refine yac 9 1 Hx20 z (yar Zx20 (S18.rf m0) z (ya 4 1 z (yz nL4 (y7 0 26 (.func (.func g_p1) #[] k_p1.toArray) (ya 1 1 z (bsk R1 fun r26 Xr21 R1 => yby z kr z (g := g_p1) (kk := k_p1) (args := [(.string x20)]) z kr hcall_p1 (h_p1 (F := [C_s15]) L12 S18  Xr21) ?_))))))
 rintro _ w22 ⟨I23, rfl, L24, S25⟩
 refine cv (ya 3 1 z (yb (bsk R1 fun j27 R2 R1 => ya0 (J := (fun fr w => ∃ (s36 : Int) (s37 : List By8), ∃ I29 C_s37, (s36, s37) = j27 ∧ fr = [(0, Sl a_p0 s37 c_p0), (1, .func (.func g_p1) #[] k_p1.toArray), (5, Iv s36), (6, Iv s14)] ∧ I23.Le I29 ∧ St E w I29 ((C_s37) :: Os) ∧ OwnSl 9 1 RStr I29 C_s37 a_p0 c_p0 s37)) ?_ ?_)))
 refine y6 R2 (fun K R2 => ?_) (fun K R2 => ?_)
 refine yf nL5 (ya 0 3 z ?_)
 obtain ⟨x31, R2, h0_x31, h1_x31, Xx31, ha_x31, _, _, rfl, Zx31⟩ := sl_at ((h_s15.mono L24).sl) R2
 refine ybe 9 1 ha_x31 h0_x31 h1_x31 ?_
 refine ya7 S25 (OwnSl.mono h_s15 L24) z kr z Xx31 (u' := x20) 0 z z kr z z (fun cs hrel => (by obtain rfl := hrel; exact z)) tv ?_
 intro w33 C34 S32 ho35
 refine yaa 0 z (show Value.slice a_p0 s15.length c_p0 = Value.slice a_p0 (s15.set (s13).toNat x20).length c_p0 by simp only [List.length_set]) ?_
 exact yb (yak nL3 (ya 0 3 z (yq (yx ⟨(w64 (s13 + 1)), (s15.set (s13).toNat x20), I23, C34, sj R2, rfl, lr, S32, ho35⟩))))
 exact ym (yx ⟨s13, s15, I23, C_s15, sj R2, rfl, lr, S25, (OwnSl.mono h_s15 L24)⟩)
 rintro _ w38 ⟨s36, s37, I29, C_s37, rfl, rfl, L30, S39, h_s37⟩
 exact yn (yc (yak nL3 (ya 0 3 z (yq (yx ⟨(s36, (w64 (s14 + 1)), s37), (sj R1).symm, I29, C_s37, rfl, le, S39, h_s37⟩)))))
 refine yae (yr (yu ?_))
 obtain rfl := hext10 _ (sj R1).symm
 refine yv (yc (yf nL4 (ya 0 2 z ?_)))
 obtain ⟨x50, Xx50, H⟩ := bsm H
 obtain ⟨h0_x50, h1_x50, h2_x50, he_x50⟩ := sub_some Xx50
 have hl_x50 : ((s15.length : Int) : Int) ≤ (c_p0 : Int) := Int.le_trans h2_x50 (Int.ofNat_le.2 (h_s15).sl.le)
 refine ya4 (e := 9) (sz := 1) z kr kr kr z (s13 : Int) ((s15.length : Int) : Int) h0_x50 (.inr ⟨_, _, rfl, rfl⟩) (.inl ⟨rfl, rfl⟩) h1_x50 hl_x50 ?_
 refine yaa 38 z (show _ = Value.slice (subA a_p0 c_p0 (s13).toNat 1) (s15.length - (s13).toNat) (c_p0 - (s13).toNat) from z) ?_
 have hlo_C51 : (s13).toNat ≤ s15.length := by first | omega | (simp only [List.length_set]; omega)
 refine WO.clear S18 h_s15 (t := 33) (e := 9) kr (zs := [(.string eB)]) kr (z0 := eB) z kr kr kr z kr z (lo := (s13).toNat) hlo_C51 z tv ?_
 intro w53 C51 S52 ho54
 refine yaa 0 z (show Value.slice a_p0 s15.length c_p0 = Value.slice a_p0 (s15.take (s13).toNat ++ List.replicate (s15.length - (s13).toNat) eB).length c_p0 by congr 1; simp only [List.length_append, List.length_take, List.length_replicate]; omega) ?_
 refine yaa 17 z (show Value.slice a_p0 s15.length c_p0 = Value.slice a_p0 (s15.take (s13).toNat ++ List.replicate (s15.length - (s13).toNat) eB).length c_p0 by congr 1; simp only [List.length_append, List.length_take, List.length_replicate]; omega) ?_
 refine yaa 36 z (show Value.slice a_p0 s15.length c_p0 = Value.slice a_p0 (s15.take (s13).toNat ++ List.replicate (s15.length - (s13).toNat) eB).length c_p0 by congr 1; simp only [List.length_append, List.length_take, List.length_replicate]; omega) ?_
 refine yz nL4 (ya 0 2 z ?_)
 obtain ⟨x55, Xx55, H⟩ := bsm H
 obtain ⟨h0_x55, h1_x55, h2_x55, he_x55⟩ := sub_some Xx55
 have hl_x55 : (s13 : Int) ≤ (c_p0 : Int) := Int.le_trans h2_x55 (Int.ofNat_le.2 (ho54).sl.le)
 refine ya4 (e := 9) (sz := 1) z kr kr kr z (0 : Int) (s13 : Int) h0_x55 (.inl ⟨rfl, rfl⟩) (.inr ⟨_, _, rfl, rfl⟩) h1_x55 hl_x55 ?_
 obtain ⟨ho56, ev_x55⟩ := OwnSl.pre ho54 (Int.le_trans h0_x55 h1_x55) h2_x55 he_x55
 refine yaa 41 z ev_x55 ?_
 exact ya 3 1 z (yb (yp (sj H ▸ yy ⟨I11, a_p0, c_p0, C51, rfl, L12, S52, ho56⟩)))
def member_Revoke_1 (p0 : By8) (q1 : By8) : Option Bool := some (sEq p0 q1)
theorem member_Revoke_1_ok {p0 : By8} {q1 : By8} {kb1 : Nat} (hm1 : (Bx kb1 [(.string q1)] 9) ∈ Os) (hS : St E w I Os) {r : Bool} (H : member_Revoke_1 p0 q1 = some r) :
    Calls P 108 #[(.string p0), (Pt kb1 0)] w (RT E I Os (.bool r)) := by
 refine calls_W (fn := Tryz.f108) rfl rfl rfl ?_
 unfold member_Revoke_1 at H
 exact yf [0] (ya 0 1 z (yz nL4 (ya 0 1 z (yj (rd_f (hS.rd hm1)) z (ya 2 2 z (yb (yp (sj H ▸ yy ⟨I, rfl, lr, hS⟩))))))))
noncomputable def revokeT (l : List qJ) (i : Int) (n : By8) : Option (List qJ × Int) := open Classical in if fits l then (idx l i).bind fun x => (slices_DeleteFunc_string x.In (fun (u0 : By8) => member_Revoke_1 u0 n)).bind fun y => some (l.set i.toNat { x with In := y }, 0) else none
noncomputable def member_Revoke (p0 : List qJ) (p1 : By8) (p2 : By8) : Option ((List qJ) × Int) := (member_Check p0).bind (fun r10 => (bif (r10 != 0) then some (([] : List qJ), r10) else (member_at p0 p2).bind (fun r17 => ((bif (decide (r17 < 0)) then some true else (idx p0 r17).bind (fun x24 => (slices_Contains_string x24.In p1).bind (fun r30 => some (!r30))))).bind (fun (j20 : Bool) => (bif j20 then some (([] : List qJ), 4) else (revokeT p0 r17 p1))))))
theorem member_Revoke_ok {p0 : List qJ} {p1 : By8} {p2 : By8} {a_p0 : Option Addr} {c_p0 : Nat} (h_p0 : RSl 2 R_qJ I a_p0 c_p0 p0) (hS : St E w I Os) {r : (List qJ) × Int} (H : member_Revoke p0 p1 p2 = some r) :
    Calls P 62 #[(.slice a_p0 p0.length c_p0), (.string p1), (.string p2)] w (fun e w' => ∃ (I' : Mem) (ra0 : Option Addr) (rc0 : Nat), e = .returned (.tuple #[(.slice ra0 r.1.length rc0), (.int .i64 r.2)]) ∧ I.Le I' ∧ St E w' I' Os ∧ RSl 2 R_qJ I' ra0 rc0 r.1) := by
  refine calls_W (args := [(.slice a_p0 p0.length c_p0), (.string p1), (.string p2)]) (fn := Tryz.f62) rfl rfl rfl ?_
  unfold member_Revoke at H
  refine yi ?_
  refine yah (l := [0, 1, 2]) kr ?_
  refine ybk hS z kr z (.cells #[(.string p1)] 9 (0, 0)) (fun b => .pointer (some ⟨b, 0, none⟩)) kr tv ?_
  intro b1 w4 S3
  refine yag [(1, 6, (.slice none 0 0))] kr (fun _ => by kernel_rfl) ?_
  refine ya 2 1 z ?_
  refine yq ?_
  refine yc ?_
  refine yi ?_
  refine yi ?_
  refine yah (l := [0, 1, 2]) kr ?_
  refine ya 0 1 z ?_
  obtain ⟨r10, Xr5, H⟩ := bind_some H
  refine ya9 z kr z (f := 100) (args := #[(.slice a_p0 p0.length c_p0)]) kr (member_Check_ok h_p0 S3 Xr5) ?_
  rintro _ w6 ⟨I7, rfl, L8, S9⟩
  refine ⟨_, rfl, trivial, ?_⟩
  refine ya 2 1 z ?_
  refine yq ?_
  refine yc ?_
  refine yi ?_
  refine yah (l := [0, 1]) kr ?_
  refine ya 0 2 z ?_
  refine yq ?_
  refine yc ?_
  refine W.cond (b := (r10 != 0)) z z (fun K => ?_) (fun K => ?_)
  · replace H := cond_t K H
    refine yi ?_
    refine yah (l := [0, 1, 2]) kr ?_
    refine ya 0 1 z ?_
    refine yag [(1, 6, (.slice none 0 0))] kr (fun _ => by kernel_rfl) ?_
    refine ya 2 1 z ?_
    refine yq ?_
    refine yc ?_
    refine yp ?_
    refine ye ?_
    have S11 := S9.drop
    have he := Option.some.inj H
    subst r
    exact ybm z (.slice none 0 0) (.int .i64 r10) z z ⟨I7, none, 0, rfl, L8, S11, SlAt.nil⟩
  · replace H := cond_f K H
    refine ym ?_
    refine yc ?_
    refine yi ?_
    refine yah (l := [0, 1, 2, 3]) kr ?_
    refine ya 0 2 z ?_
    obtain ⟨r17, Xr12, H⟩ := bind_some H
    refine ya9 z kr z (f := 56) (args := #[(.slice a_p0 p0.length c_p0), (.string p2)]) kr (member_at_ok (RSl.mono h_p0 L8) S9 Xr12) ?_
    rintro _ w13 ⟨I14, rfl, L15, S16⟩
    refine ⟨_, rfl, trivial, ?_⟩
    refine ya 3 1 z ?_
    refine yq ?_
    refine yc ?_
    refine yi ?_
    refine yi ?_
    have S18 := S16.drew
    refine yb0 (l := [0, 1, 2, 3, 4, 5, 6, 7, 8, 9, 10, 11]) kr 12 (KR I14 [Gv.one b1 (.cells #[(.string p1)] 9 (0, 0))]) qR (.back kr) kr (yt (S18.rd (List.Mem.head _)) (y8 S18.im)) ?_
    generalize World.drew _ = w19 at *
    refine ya 0 3 z ?_
    obtain ⟨j20, R1, H⟩ := bind_some H
    refine WO.join (l1 := [3, 4, 5, 6, 7, 8, 9, 10, 11]) (l2 := []) (J := (fun fr w => ∃ (I22 : Mem), fr = [(0, (.slice a_p0 p0.length c_p0)), (4, (.pointer (some ⟨b1, 0, none⟩))), (9, (.int .i64 r17)), (30, (.bool j20))] ∧ I14.Le I22 ∧ St E w I22 ((Gv.one b1 (.cells #[(.string p1)] 9 (0, 0))) :: Os))) ?restj20 ?waysj20
    case waysj20 =>
      refine yb7 (decide (r17 < 0)) (fun K => ?_) (fun K => ?_)
      · replace R1 := cond_t K R1
        refine yaa 21 z (show Value.bool (decide (r17 < 0)) = Value.bool true by rw [K]) ?_
        refine ybi z kr z ?_
        refine ybi z kr z ?_
        refine ybi z kr z ?_
        refine ybi z kr z ?_
        refine ybi z kr z ?_
        refine ybi z kr z ?_
        refine ybi z kr z ?_
        refine ybi z kr z ?_
        refine ya 11 1 z ?_
        have he := Option.some.inj R1
        subst j20
        refine WO.weaken (fr' := [(0, (.slice a_p0 p0.length c_p0)), (4, (.pointer (some ⟨b1, 0, none⟩))), (9, (.int .i64 r17)), (30, (.bool true))]) (ybw ⟨I14, rfl, Mem.Le.refl _, S18⟩) (Sub.cons z (Sub.cons z (Sub.cons z (Sub.cons z Sub.nil))))
      · replace R1 := cond_f K R1
        refine yaa 21 z (show Value.bool (decide (r17 < 0)) = Value.bool false by rw [K]) ?_
        refine ya 3 2 z ?_
        obtain ⟨x24, Xx24, R1⟩ := bind_some R1
        obtain ⟨h0_x24, h1_x24, Xx24⟩ := idx_some Xx24
        obtain ⟨ha_x24, cs_x24, hn_x24, hr_x24, Zx24⟩ := ((RSl.mono h_p0 (L8.trans L15))).el _ _ Xx24
        obtain ⟨w_x24, rfl, h_x24⟩ := hr_x24
        refine ya6 (e := 62) (sz := 2) z kr kr kr z ha_x24 z h0_x24 h1_x24 ?_
        refine yg 6 1 [1] z ?_
        refine ybj z kr kr z (v := (.slice w_x24.In.a x24.In.length w_x24.In.c)) (fun w' hw' => Zx24.cellk 1 kr ((rd_i S18.im) w' hw')) ?_
        refine ybj z kr kr z (v := (.string p1)) (fun w' hw' => cell_one ((rd_c (List.Mem.head _) (S18.rd (List.Mem.head _))) w' hw') kr) ?_
        obtain ⟨r30, Xr25, R1⟩ := bind_some R1
        refine ya9 z kr z (f := 58) (args := #[(.slice w_x24.In.a x24.In.length w_x24.In.c), (.string p1)]) kr (slices_Contains_string_ok h_x24.In S18 Xr25) ?_
        rintro _ w26 ⟨I27, rfl, L28, S29⟩
        refine ⟨_, rfl, (yt (S29.rd (List.Mem.head _)) (y8 (S29.im.of_le L28))), ?_⟩
        refine ya 10 2 z ?_
        have he := Option.some.inj R1
        subst j20
        refine WO.weaken (fr' := [(0, (.slice a_p0 p0.length c_p0)), (4, (.pointer (some ⟨b1, 0, none⟩))), (9, (.int .i64 r17)), (30, (.bool (!r30)))]) (ybw ⟨I27, rfl, L28, S29⟩) (Sub.cons z (Sub.cons z (Sub.cons z (Sub.cons z Sub.nil))))
    case restj20 =>
      rintro _ w31 ⟨I22, rfl, L23, S32⟩
      refine yq ?_
      refine yc ?_
      refine W.cond (b := j20) z z (fun K => ?_) (fun K => ?_)
      · replace H := cond_t K H
        refine yi ?_
        refine yah (l := [0, 1]) kr ?_
        refine yag [(0, 6, (.slice none 0 0))] kr (fun _ => by kernel_rfl) ?_
        refine ya 1 1 z ?_
        refine yq ?_
        refine yc ?_
        refine yp ?_
        refine ye ?_
        have S33 := S32.drop
        have he := Option.some.inj H
        subst r
        exact ybm z (.slice none 0 0) (.int .i64 4) z z ⟨I22, none, 0, rfl, ((L8.trans L15).trans L23), S33, SlAt.nil⟩
      · replace H := cond_f K H
        refine ym ?_
        refine yc ?_
        refine yi ?_
        refine yah (l := [0, 1, 2]) kr ?_
        refine ya 0 1 z ?_
        have R0 := H
        unfold revokeT at R0
        split at R0
        rotate_left
        · cases R0
        rename_i hfit
        obtain ⟨x0, hx0, R0⟩ := bind_some R0
        obtain ⟨i0, i1, hx0⟩ := idx_some hx0
        obtain ⟨y0, hy0, R0⟩ := bind_some R0
        have he := Option.some.inj R0
        subst he
        refine ya9 z kr z (f := 102) (args := #[(.slice a_p0 p0.length c_p0)]) kr (clone2_ok (RSl.mono h_p0 ((L8.trans L15).trans L23)) S32 hfit) ?_
        rintro _ qw1 ⟨QI1, a, c, C, rs, Ds, rfl, ql1, qS1, ho1, hn1⟩
        refine ⟨_, rfl, trivial, ?_⟩
        refine yag [(2, 10, (.slice a p0.length c))] kr (fun _ => by kernel_rfl) ?_
        refine yq ?_
        refine yc ?_
        refine yi ?_
        obtain ⟨r1, D1, e1, e2, g1, g2, g3⟩ := hn1.get hx0
        have hlt := (List.getElem?_eq_some_iff.1 e2).1
        refine yah (l := [0, 1, 2, 3, 4, 5, 6, 7, 8, 9, 10, 11]) kr ?_
        refine yag [(0, 33, (.slice a p0.length c)), (1, 34, (.int .i64 r17)), (2, 35, (.slice a p0.length c)), (3, 36, (.int .i64 r17))] kr (fun _ => by kernel_rfl) ?_
        obtain ⟨ha, cs, hcn, hrr, hcc⟩ := ho1.sl.el _ _ e1
        obtain rfl := hrr
        refine ya6 (e := 62) (sz := 2) z kr kr kr z ha z i0 i1 ?_
        refine yag [(5, 38, (.pointer (some ⟨bl a, of a + (r17).toNat * 2 + 1, none⟩)))] kr (fun _ => by kernel_rfl) ?_
        refine ybj z kr kr z (v := (.slice r1.a r1.n r1.c)) (fun w' hw' => hcc.cellk 1 kr ((rd_f (qS1.rd (List.Mem.head _))) w' hw')) ?_
        rw [g2]
        refine yag [(7, 40, (.func (.func 108) #[] #[(.pointer (some ⟨b1, 0, none⟩))]))] kr (fun _ => by kernel_rfl) ?_
        have qS1p := st_pick qS1 e2
        refine ya9 z kr z (f := 107) (args := #[(.slice r1.a x0.In.length r1.c), (.func (.func 108) #[] #[(.pointer (some ⟨b1, 0, none⟩))])]) kr (slices_DeleteFunc_string_ok g3 (fun {F Ic wc} {_} hlc hSc {rc} hrc => member_Revoke_1_ok (List.mem_append_right _ (List.Mem.tail _ (List.mem_append_right _ (List.Mem.head _)))) hSc hrc) (fun _ _ => by kernel_rfl) qS1p hy0) ?_
        rintro _ qw2 ⟨QI2, a2, c2, D2, rfl, ql2, qS3, h6⟩
        refine ⟨_, rfl, trivial, ?_⟩
        refine ya6 (e := 62) (sz := 2) z kr kr kr z ha z i0 i1 ?_
        refine yag [(10, 43, (.pointer (some ⟨bl a, of a + (r17).toNat * 2 + 1, none⟩)))] kr (fun _ => by kernel_rfl) ?_
        have qS7 := st_unpick qS3 hlt
        refine ya7 (m := (r17).toNat) qS7 (ho1.mono ql2) z kr z e1 (u' := { r1 with a := a2, c := c2, n := y0.length }) 1 z z kr z z (fun cs hrel => (by obtain rfl := hrel; rfl)) tv ?_
        intro qw5 C5 qS8 ho8
        refine yq ?_
        refine yc ?_
        refine yi ?_
        refine yah (l := [0, 1, 2]) kr ?_
        refine yag [(0, 44, (.slice a p0.length c)), (1, 6, (.slice a p0.length c)), (2, 7, (.int .i64 0))] kr (fun _ => by kernel_rfl) ?_
        refine yq ?_
        refine yc ?_
        refine yp ?_
        obtain ⟨QI9, ql9, qS9, hp9⟩ := ((hn1.mono ql2).set (r17).toNat (r := { r1 with a := a2, c := c2, n := y0.length }) (D := D2) (x := { x0 with In := y0 }) g1 rfl h6).pub ho8 qS8
        exact ybm z (.slice a p0.length c) (.int .i64 0) z z ⟨QI9, a, c, by simp only [List.length_set], ((L8.trans L15).trans L23).trans (ql1.trans (ql2.trans ql9)), qS9.drop, hp9⟩
def slices_IndexFunc_qT (p0 : List qT) (p1 : qT → Option Bool) : Option Int := (forN (fun (i4 : Nat) (_s : Unit) => (idx p0 (i4 : Int)).bind (fun x11 => (p1 x11).bind (fun (r17 : Bool) => (bif r17 then some (.inr (i4 : Int)) else some (.inl ()))))) p0.length 0 ()).bind (fun (t : Unit ⊕ (Int)) => match t with | .inl _ => some (-1) | .inr s19 => some s19)
theorem slices_IndexFunc_qT_ok {p0 : List qT} {p1 : qT → Option Bool} {a_p0 : Option Addr} {c_p0 : Nat} {g_p1 : FuncId} {k_p1 : List Value} (h_p0 : RSl 6 R_qT I a_p0 c_p0 p0) (h_p1 : ∀ {F : List Mem} {I' : Mem} {w : World} {u0 : qT} {w_u0 : W_qT}, I.Le I' → St E w I' (F ++ Os) → ok_qT I' u0 w_u0 → ∀ {r : Bool}, p1 u0 = some r → Calls P g_p1 (([(vT u0 w_u0)] : List Value) ++ k_p1).toArray w (fun e w' => ∃ (I'' : Mem), e = .returned (.bool r) ∧ I'.Le I'' ∧ St E w' I'' (F ++ Os))) (hcall_p1 : Callable P g_p1) (hS : St E w I Os) {r : Int} (H : slices_IndexFunc_qT p0 p1 = some r) :
    Calls P 75 #[(Sl a_p0 p0 c_p0), (.func (.func g_p1) #[] k_p1.toArray)] w (RT E I Os (Iv r)) := by
 refine calls_W (fn := Tryz.f75) rfl rfl rfl ?_
 unfold slices_IndexFunc_qT at H
 refine yf [0] (ya 0 1 z (yb (yi (yf nL3 (ya 0 3 z (yb (yo (bsk H fun t1 hloop5 H => have hlt9 := (h_p0).len_lt; W.wk (yas (m := p0.length) hloop5 (fun (i4 : Nat) (_s : Unit) => JI E I [(0, Sl a_p0 p0 c_p0), (1, .func (.func g_p1) #[] k_p1.toArray), (7, Nv p0.length), (8, Nv i4)] Os) ⟨I, rfl, lr, hS⟩ ?_ ?_)))))))))
 rintro i4 _ _ w6 hi10 ⟨I2, rfl, L3, S7⟩ x8 R1 hext1
 refine yf [0] (ya 0 1 z (yb (yi (yaw fun _ => ym (yc (yi (yo (yf nL2 (ya 0 2 z (yz nL6 (y7 0 11 (.func (.func g_p1) #[] k_p1.toArray) (ya 1 2 z ?_))))))))))))
 obtain ⟨x11, R1, Hx11, _, ⟨w_x11, rfl, h_x11⟩, Zx11⟩ := sx I2 h_p0 R1
 refine yac 89 6 Hx11 z (yau ((cs_qT x11 w_x11)) Zx11 0 S7.rm z (bsk R1 fun r17 Xr12 R1 => yby z kr z (g := g_p1) (kk := k_p1) (args := [(vT x11 w_x11)]) z kr hcall_p1 (h_p1 (F := []) L3 S7 h_x11 Xr12) ?_))
 rintro _ w13 ⟨I14, rfl, L15, S16⟩
 refine cv (yb (y6 R1 (fun K R1 => ?_) (fun K R1 => ?_)))
 refine yf nL2 (ya 0 2 z (yb (yp (yl (ye (yw ?_))))))
 obtain rfl := hext1 _ (sj R1).symm
 exact yl (ye (sj H ▸ yy ⟨I14, rfl, le, S16⟩))
 exact ym (yn (yc (yak nL2 (yaq i4 z (ya 1 1 z (yq (yx ⟨(), (sj R1).symm, I14, rfl, le, S16⟩)))))))
 rintro _ _ w20 ⟨I2, rfl, L3, S21⟩ he
 cases he
 exact yf [0] (ya 0 1 z (yb (yi (yax fun _ => yae (yr (yu (yv (yc (yf [0] (ya 0 1 z (yb (yp (sj H ▸ yy ⟨I2, rfl, L3, S21⟩)))))))))))))
def slices_ContainsFunc_qT (p0 : List qT) (p1 : qT → Option Bool) : Option Bool := (slices_IndexFunc_qT p0 p1).bind (fun r6 => some (decide (r6 ≥ 0)))
theorem slices_ContainsFunc_qT_ok {p0 : List qT} {p1 : qT → Option Bool} {a_p0 : Option Addr} {c_p0 : Nat} {g_p1 : FuncId} {k_p1 : List Value} (h_p0 : RSl 6 R_qT I a_p0 c_p0 p0) (h_p1 : ∀ {F : List Mem} {I' : Mem} {w : World} {u0 : qT} {w_u0 : W_qT}, I.Le I' → St E w I' (F ++ Os) → ok_qT I' u0 w_u0 → ∀ {r : Bool}, p1 u0 = some r → Calls P g_p1 (([(vT u0 w_u0)] : List Value) ++ k_p1).toArray w (fun e w' => ∃ (I'' : Mem), e = .returned (.bool r) ∧ I'.Le I'' ∧ St E w' I'' (F ++ Os))) (hcall_p1 : Callable P g_p1) (hS : St E w I Os) {r : Bool} (H : slices_ContainsFunc_qT p0 p1 = some r) :
    Calls P 63 #[(Sl a_p0 p0 c_p0), (.func (.func g_p1) #[] k_p1.toArray)] w (RT E I Os (.bool r)) := by
 refine calls_W (fn := Tryz.f63) rfl rfl rfl ?_
 unfold slices_ContainsFunc_qT at H
 exact yf [0] (ya 0 1 z (yz nL5 (ya 0 1 z (y7 1 6 (.func (.func g_p1) #[] k_p1.toArray) (bsk H fun r6 Xr1 H => WO.c1 (slices_IndexFunc_qT_ok h_p0 (fun {F Ic wc} {_} {_} hlc hSc h_u0 {rc} hrc => h_p1 hlc hSc h_u0 hrc) hcall_p1 hS Xr1) z fun I3 w2 L4 S5 => ya 3 2 z (yb (yp (sj H ▸ yy ⟨I3, rfl, L4, S5⟩))))))))
theorem del109_ok {E w : World} {I C : Mem} {Os : List Mem} {xs : List RawRole} {a : Option Addr} {cap : Nat} (h : OwnSl 62 2 R_Raw I C a cap xs) (hS : St E w I (C :: Os)) {p q : Nat} (hpq : p < q) (hq : q ≤ xs.length) :
    Calls P 109 #[.slice a xs.length cap, .int .i64 (p : Int), .int .i64 (q : Int)] w (fun e w' => ∃ (C' : Mem), e = .returned (.slice a (xs.take p ++ xs.drop q).length cap) ∧ St E w' I (C' :: Os) ∧ OwnSl 62 2 R_Raw I C' a cap (xs.take p ++ xs.drop q)) := by
 have hxl := h.sl.le
 have hxc := h.sl.lt
 have hlen : (xs.take p ++ xs.drop q).length = p + (xs.length - q) := by simp; omega
 refine calls_W (fn := Tryz.f109) rfl rfl rfl ?_
 refine yf [0] (y7 0 6 (.slice none 0 0) (yz nL6 (WO.vs 0 [(8, Sl a xs cap), (9, Iv (p : Int)), (10, Iv (q : Int)), (11, Sl a xs cap), (12, Nv xs.length)] (WO.slice3 (e := 62) (sz := 2) z kr kr kr z p q xs.length z z z (by omega) hq hxl ?_))))
 refine yb (yi (yf nL3 (WO.vs 0 [(14, Iv (p : Int)), (15, Iv (q : Int)), (16, .bool ((p : Int) == (q : Int)))] (yb (ybz (fun K => ?_) (fun K => ?_))))))
 exfalso
 simp at K
 omega
 clear K
 refine ym (yc (yf nL3 (WO.vs 0 [(18, Sl a xs cap), (19, Nv xs.length), (7, Nv xs.length)] (yb (yi (have S1 := hS.drew; ybd nL8 6 (y8 S1.im) ?_))))))
 generalize World.drew _ = w1 at *
 refine WO.vs 0 [(20, Sl a xs cap), (21, Iv (p : Int))] (ya4 (e := 62) (sz := 2) z kr kr kr z (0 : Int) (p : Int) (by omega) (.inl ⟨rfl, rfl⟩) (.inr ⟨_, _, rfl, rfl⟩) (by omega) (by omega) ?_)
 refine WO.vs 3 [(23, Sl a xs cap), (24, Iv (q : Int))] (ya4 (e := 62) (sz := 2) z kr kr kr z (q : Int) (xs.length : Int) (by omega) (.inr ⟨_, _, rfl, rfl⟩) (.inl ⟨rfl, rfl⟩) (by omega) (by omega) ?_)
 refine WO.tail z (yb3 (T := 62) (e' := 62) (b := 40) (zs := #[(.string eB), (.slice none 0 0)]) S1 h z kr z kr kr kr (Nat.le_of_lt hpq) hq z z tv ?_)
 intro w2 C2 S2 h2
 refine y7 7 0 (.slice a (p + (xs.length - q)) cap) (yb ?_)
 have hfl : (xs.take p ++ xs.drop q ++ xs.drop (p + (xs.length - q))).length = xs.length := by simp; omega
 refine yf nL6 (WO.vs 0 [(27, .slice a (p + (xs.length - q)) cap), (28, .slice a (p + (xs.length - q)) cap), (29, Iv ((p + (xs.length - q) : Nat) : Int)), (30, Nv xs.length)] (ya4 (e := 62) (sz := 2) z kr kr kr z ((p + (xs.length - q) : Nat) : Int) (xs.length : Int) (by omega) (.inr ⟨_, _, rfl, rfl⟩) (.inr ⟨_, _, rfl, rfl⟩) (by omega) (by omega) ?_))
 refine WO.clear S2 h2 (e := 62) kr (zs := [(.string eB), (.slice none 0 0)]) kr (z0 := (⟨eB, none, 0, 0⟩ : RawRole)) z kr kr kr z kr z (lo := p + (xs.length - q)) (by rw [hfl]; omega) (by rw [hfl]; rfl) tv ?_
 intro w3 C3 S3 h3
 refine yz nL2 (WO.vs 0 [(32, .slice a (p + (xs.length - q)) cap), (6, .slice a (p + (xs.length - q)) cap)] (yb (yp ?_)))
 rw [hlen]
 refine yy ⟨C3, rfl, S3, ?_⟩
 have h4 := h3.shorter (p + (xs.length - q))
 rwa [List.take_append_of_le_length (by rw [List.length_take, hfl]; omega), List.take_take, Nat.min_self, List.take_append_of_le_length (by rw [hlen]; exact Nat.le_refl _), List.take_of_length_le (by rw [hlen]; exact Nat.le_refl _)] at h4
def member_Drop_1 (p0 : By8) (q1 : By8) : Option Bool := some (sEq p0 q1)
theorem member_Drop_1_ok {p0 : By8} {q1 : By8} {kb1 : Nat} (hm1 : (Bx kb1 [(.string q1)] 9) ∈ Os) (hS : St E w I Os) {r : Bool} (H : member_Drop_1 p0 q1 = some r) :
    Calls P 110 #[(.string p0), (Pt kb1 0)] w (RT E I Os (.bool r)) := by
 refine calls_W (fn := Tryz.f110) rfl rfl rfl ?_
 unfold member_Drop_1 at H
 exact yf [0] (ya 0 1 z (yz nL4 (ya 0 1 z (yj (rd_f (hS.rd hm1)) z (ya 2 2 z (yb (yp (sj H ▸ yy ⟨I, rfl, lr, hS⟩))))))))
noncomputable def dropAll (xs : List qJ) (n : By8) : Option (List qJ) := forE (fun (i : Nat) (s : List qJ) => (idx s (i : Int)).bind fun x => (slices_DeleteFunc_string x.In (fun (u0 : By8) => member_Drop_1 u0 n)).bind fun y => some (s.set i { x with In := y })) xs.length 0 xs
noncomputable def dropT (l : List qJ) (i : Int) (n : By8) : Option (List qJ × Int) := open Classical in if fits l ∧ 0 ≤ i ∧ i < (l.length : Int) then (dropAll (l.take i.toNat ++ l.drop (i + 1).toNat) n).bind fun y => some (y, 0) else none
noncomputable def member_Drop (p0 : List qJ) (p1 : By8) : Option ((List qJ) × Int) := (member_Check p0).bind (fun r10 => (bif (r10 != 0) then some (([] : List qJ), r10) else (member_at p0 p1).bind (fun r17 => (bif (decide (r17 < 0)) then some (([] : List qJ), 4) else (bif (sEq p1 (⟨#[114, 111, 111, 116]⟩ : By8)) then some (([] : List qJ), 34) else (dropT p0 r17 p1))))))
theorem member_Drop_ok {p0 : List qJ} {p1 : By8} {a_p0 : Option Addr} {c_p0 : Nat} (h_p0 : RSl 2 R_qJ I a_p0 c_p0 p0) (hS : St E w I Os) {r : (List qJ) × Int} (H : member_Drop p0 p1 = some r) :
    Calls P 65 #[(.slice a_p0 p0.length c_p0), (.string p1)] w (fun e w' => ∃ (I' : Mem) (ra0 : Option Addr) (rc0 : Nat), e = .returned (.tuple #[(.slice ra0 r.1.length rc0), (.int .i64 r.2)]) ∧ I.Le I' ∧ St E w' I' Os ∧ RSl 2 R_qJ I' ra0 rc0 r.1) := by
  refine calls_W (args := [(.slice a_p0 p0.length c_p0), (.string p1)]) (fn := Tryz.f65) rfl rfl rfl ?_
  unfold member_Drop at H
  refine yi ?_
  refine yah (l := [0, 1, 2]) kr ?_
  refine ybk hS z kr z (.cells #[(.string p1)] 9 (0, 0)) (fun b => .pointer (some ⟨b, 0, none⟩)) kr tv ?_
  intro b1 w4 S3
  refine yag [(1, 4, (.slice none 0 0))] kr (fun _ => by kernel_rfl) ?_
  refine ya 2 1 z ?_
  refine yq ?_
  refine yc ?_
  refine yi ?_
  refine yi ?_
  refine yah (l := [0, 1, 2]) kr ?_
  refine ya 0 1 z ?_
  obtain ⟨r10, Xr5, H⟩ := bind_some H
  refine ya9 z kr z (f := 100) (args := #[(.slice a_p0 p0.length c_p0)]) kr (member_Check_ok h_p0 S3 Xr5) ?_
  rintro _ w6 ⟨I7, rfl, L8, S9⟩
  refine ⟨_, rfl, trivial, ?_⟩
  refine ya 2 1 z ?_
  refine yq ?_
  refine yc ?_
  refine yi ?_
  refine yah (l := [0, 1]) kr ?_
  refine ya 0 2 z ?_
  refine yq ?_
  refine yc ?_
  refine W.cond (b := (r10 != 0)) z z (fun K => ?_) (fun K => ?_)
  · replace H := cond_t K H
    refine yi ?_
    refine yah (l := [0, 1, 2]) kr ?_
    refine ya 0 1 z ?_
    refine yag [(1, 4, (.slice none 0 0))] kr (fun _ => by kernel_rfl) ?_
    refine ya 2 1 z ?_
    refine yq ?_
    refine yc ?_
    refine yp ?_
    refine ye ?_
    have S11 := S9.drop
    have he := Option.some.inj H
    subst r
    exact ybm z (.slice none 0 0) (.int .i64 r10) z z ⟨I7, none, 0, rfl, L8, S11, SlAt.nil⟩
  · replace H := cond_f K H
    refine ym ?_
    refine yc ?_
    refine yi ?_
    refine yah (l := [0, 1, 2, 3]) kr ?_
    refine ya 0 1 z ?_
    refine ybj z kr kr z (v := (.string p1)) (fun w' hw' => cell_one ((rd_f (S9.rd (List.Mem.head _))) w' hw') kr) ?_
    obtain ⟨r17, Xr12, H⟩ := bind_some H
    refine ya9 z kr z (f := 56) (args := #[(.slice a_p0 p0.length c_p0), (.string p1)]) kr (member_at_ok (RSl.mono h_p0 L8) S9 Xr12) ?_
    rintro _ w13 ⟨I14, rfl, L15, S16⟩
    refine ⟨_, rfl, trivial, ?_⟩
    refine ya 3 1 z ?_
    refine yq ?_
    refine yc ?_
    refine yi ?_
    refine yo ?_
    refine yi ?_
    refine yah (l := [0, 1, 2]) kr ?_
    refine ya 0 3 z ?_
    refine yq ?_
    refine yc ?_
    refine W.cond (b := (decide (r17 < 0))) z z (fun K => ?_) (fun K => ?_)
    · replace H := cond_t K H
      refine yi ?_
      refine yah (l := [0, 1]) kr ?_
      refine yag [(0, 4, (.slice none 0 0))] kr (fun _ => by kernel_rfl) ?_
      refine ya 1 1 z ?_
      refine yq ?_
      refine yc ?_
      refine yp ?_
      refine yl ?_
      refine ye ?_
      have S18 := S16.drop
      have he := Option.some.inj H
      subst r
      exact ybm z (.slice none 0 0) (.int .i64 4) z z ⟨I14, none, 0, rfl, (L8.trans L15), S18, SlAt.nil⟩
    · replace H := cond_f K H
      refine yi ?_
      refine yah (l := [0, 1, 2]) kr ?_
      refine ybj z kr kr z (v := (.string p1)) (fun w' hw' => cell_one ((rd_f (S16.rd (List.Mem.head _))) w' hw') kr) ?_
      refine ya 1 2 z ?_
      refine yq ?_
      refine yc ?_
      refine W.cond (b := (sEq p1 (⟨#[114, 111, 111, 116]⟩ : By8))) z z (fun K => ?_) (fun K => ?_)
      · replace H := cond_t K H
        refine yi ?_
        refine yah (l := [0, 1]) kr ?_
        refine yag [(0, 4, (.slice none 0 0))] kr (fun _ => by kernel_rfl) ?_
        refine ya 1 1 z ?_
        refine yq ?_
        refine yc ?_
        refine yp ?_
        refine yl ?_
        refine ye ?_
        have S19 := S16.drop
        have he := Option.some.inj H
        subst r
        exact ybm z (.slice none 0 0) (.int .i64 34) z z ⟨I14, none, 0, rfl, (L8.trans L15), S19, SlAt.nil⟩
      · replace H := cond_f K H
        refine ym ?_
        refine yn ?_
        refine yc ?_
        refine yi ?_
        refine yah (l := [0, 1, 2, 3, 4, 5, 6]) kr ?_
        refine ya 0 1 z ?_
        have R0 := H
        unfold dropT at R0
        split at R0
        rotate_left
        · cases R0
        rename_i hfit
        obtain ⟨hfit, i0, i1⟩ := hfit
        obtain ⟨y0, hy0, R0⟩ := bind_some R0
        have he := Option.some.inj R0
        subst he
        unfold dropAll at hy0
        obtain ⟨kn, hkn⟩ := Int.eq_ofNat_of_zero_le i0
        have hk1 : kn < p0.length := by omega
        refine ya9 z kr z (f := 102) (args := #[(.slice a_p0 p0.length c_p0)]) kr (clone2_ok (RSl.mono h_p0 (L8.trans L15)) S16 hfit) ?_
        rintro _ qw1 ⟨QI1, a, c, C, rs, Ds, rfl, ql1, qS1, ho1, hn1⟩
        refine ⟨_, rfl, trivial, ?_⟩
        refine yag [(2, 26, (.int .i64 r17)), (3, 27, (.int .i64 r17)), (4, 28, (.int .i64 (w64 (r17 + 1))))] kr (fun _ => by kernel_rfl) ?_
        have hxc := ho1.sl.lt
        have hxl := ho1.sl.le
        have hn1l := hn1.l1
        have hw1 : w64 (r17 + 1) = ((kn + 1 : Nat) : Int) := by rw [hkn, w64_id (by omega) (by unfold big at hxc; omega)]; rfl
        refine yaa 28 z (congrArg (Value.int .i64) hw1) ?_
        refine yaa 26 z (congrArg (Value.int .i64) hkn) ?_
        refine ya9 z kr z (f := 109) (args := #[(.slice a rs.length c), (.int .i64 (kn : Int)), (.int .i64 ((kn + 1 : Nat) : Int))]) (by rw [hn1l]; kernel_rfl) (del109_ok ho1 qS1 (p := kn) (q := kn + 1) (by omega) (by omega)) ?_
        rintro _ qw2 ⟨C2, rfl, qS2, ho2⟩
        refine ⟨_, rfl, trivial, ?_⟩
        rw [hkn, Int.toNat_natCast, show ((kn : Int) + 1).toNat = kn + 1 by omega] at hy0
        have hn2 := hn1.del (p := kn) (q := kn + 1) (by omega) (by omega)
        have hn2l := hn2.l1
        rw [hn2l]
        have qS2b : St E qw2 QI1 (C2 :: ((Ds.take kn ++ Ds.drop (kn + 1)) ++ ((Gv.one b1 (.cells #[(.string p1)] 9 (0, 0))) :: Os))) := qS2.sub ((List.Sublist.append (del_sub Ds (by omega)) (List.Sublist.refl _)).cons_cons C2)
        generalize Ds.take kn ++ Ds.drop (kn + 1) = Ds2 at *
        generalize rs.take kn ++ rs.drop (kn + 1) = rs2 at *
        generalize p0.take kn ++ p0.drop (kn + 1) = xs0 at *
        refine yag [(6, 8, (.slice a xs0.length c))] kr (fun _ => by kernel_rfl) ?_
        refine yq ?_
        refine yc ?_
        refine yi ?_
        refine yi ?_
        refine yah (l := [0, 1, 2]) kr ?_
        refine yag [(0, 30, (.slice a xs0.length c)), (1, 31, (.int .i64 (xs0.length : Int))), (2, 32, (.int .i64 0))] kr (fun _ => by kernel_rfl) ?_
        refine yq ?_
        refine yc ?_
        refine yo ?_
        have hlt16 := (ho2.sl).len_lt
        refine W.weaken (fr' := [(3, (.pointer (some ⟨b1, 0, none⟩))), (8, (.slice a xs0.length c)), (31, (.int .i64 (xs0.length : Int))), (32, (.int .i64 ((0 : Nat) : Int)))]) (ya5 (m := xs0.length) hy0 (fun (i : Nat) (s : List qJ) fr w => ∃ (J C' : Mem) (rs : List RawRole) (Ds : List Mem), fr = [(3, (.pointer (some ⟨b1, 0, none⟩))), (8, (.slice a xs0.length c)), (31, (.int .i64 (xs0.length : Int))), (32, (.int .i64 (i : Int)))] ∧ QI1.Le J ∧ St E w J (C' :: (Ds ++ ((Gv.one b1 (.cells #[(.string p1)] 9 (0, 0))) :: Os))) ∧ OwnSl 62 2 R_Raw J C' a c rs ∧ Nest J rs Ds s ∧ s.length = xs0.length) ⟨QI1, C2, rs2, Ds2, rfl, Mem.Le.refl _, qS2b, ho2, hn2, rfl⟩ ?roundt7 ?lastt7) (Sub.cons z (Sub.cons z (Sub.cons z (Sub.cons z Sub.nil))))
        case roundt7 =>
          rintro i s _ qw13 hi ⟨J, C', rs, Ds, rfl, ql9, qS14, ho, hn, hsl⟩ x15 R1
          refine yi ?_
          refine yah (l := [0]) kr ?_
          refine yag [(0, 33, (.bool (decide ((i : Int) < (xs0.length : Int)))))] kr (fun _ => by kernel_rfl) ?_
          refine yq ?_
          refine yc ?_
          refine yi ?_
          refine W.cond (b := (decide ((i : Int) < (xs0.length : Int)))) z z (fun K => ?_) (fun K => ?_)
          rotate_left
          · exact absurd K (by first | (simp; done) | (simp; omega))
          clear K
          refine ym ?_
          refine yc ?_
          refine yi ?_
          refine yo ?_
          refine yi ?_
          refine yah (l := [0, 1]) kr ?_
          refine yag [(0, 34, (.int .i64 (i : Int))), (1, 9, (.int .i64 (i : Int)))] kr (fun _ => by kernel_rfl) ?_
          refine yq ?_
          refine yc ?_
          refine yah (l := [0, 1, 2, 3, 4, 5, 6, 7, 8, 9, 10, 11]) kr ?_
          refine yag [(0, 35, (.slice a xs0.length c)), (1, 36, (.int .i64 (i : Int))), (2, 37, (.slice a xs0.length c)), (3, 38, (.int .i64 (i : Int)))] kr (fun _ => by kernel_rfl) ?_
          obtain ⟨x0, hx0, R1⟩ := bind_some R1
          rw [idx_nat] at hx0
          obtain ⟨y1, hy1, R1⟩ := bind_some R1
          have he := Option.some.inj R1
          subst he
          obtain ⟨r1, D1, e1, e2, g1, g2, g3⟩ := hn.get hx0
          have hlt := (List.getElem?_eq_some_iff.1 e2).1
          obtain ⟨ha, cs, hcn, hrr, hcc⟩ := ho.sl.el _ _ e1
          obtain rfl := hrr
          refine ya6 (e := 62) (sz := 2) z kr kr kr z ha z (by omega) (by omega) ?_
          refine yag [(5, 40, (.pointer (some ⟨bl a, of a + ((i : Int)).toNat * 2 + 1, none⟩)))] kr (fun _ => by kernel_rfl) ?_
          refine ybj z kr kr z (v := (.slice r1.a r1.n r1.c)) (fun w' hw' => hcc.cellk 1 kr ((rd_f (qS14.rd (List.Mem.head _))) w' hw')) ?_
          rw [g2]
          refine yag [(7, 42, (.func (.func 110) #[] #[(.pointer (some ⟨b1, 0, none⟩))]))] kr (fun _ => by kernel_rfl) ?_
          have qS1p := st_pick qS14 e2
          refine ya9 z kr z (f := 107) (args := #[(.slice r1.a x0.In.length r1.c), (.func (.func 110) #[] #[(.pointer (some ⟨b1, 0, none⟩))])]) kr (slices_DeleteFunc_string_ok g3 (fun {F Ic wc} {_} hlc hSc {rc} hrc => member_Drop_1_ok (List.mem_append_right _ (List.Mem.tail _ (List.mem_append_right _ (List.Mem.head _)))) hSc hrc) (fun _ _ => by kernel_rfl) qS1p hy1) ?_
          rintro _ qw2 ⟨QI2, a2, c2, D2, rfl, ql2, qS3, h6⟩
          refine ⟨_, rfl, trivial, ?_⟩
          refine ya6 (e := 62) (sz := 2) z kr kr kr z ha z (by omega) (by omega) ?_
          refine yag [(10, 45, (.pointer (some ⟨bl a, of a + ((i : Int)).toNat * 2 + 1, none⟩)))] kr (fun _ => by kernel_rfl) ?_
          have qS7 := st_unpick qS3 hlt
          refine ya7 (m := i) qS7 (ho.mono ql2) z kr z e1 (u' := { r1 with a := a2, c := c2, n := y1.length }) 1 z z kr z z (fun cs hrel => (by obtain rfl := hrel; rfl)) tv ?_
          intro qw5 C5 qS8 ho8
          refine yq ?_
          refine yn ?_
          refine yc ?_
          refine yah (l := [0, 1]) kr ?_
          refine yb6 (j := i) z kr z (by first | omega | (dsimp only at *; omega)) ?_
          refine yag [(1, 32, (.int .i64 ((i + 1 : Nat) : Int)))] kr (fun _ => by kernel_rfl) ?_
          refine yq ?_
          refine En.weaken (fr' := [(3, (.pointer (some ⟨b1, 0, none⟩))), (8, (.slice a xs0.length c)), (31, (.int .i64 (xs0.length : Int))), (32, (.int .i64 ((i + 1 : Nat) : Int)))]) (ybo ⟨QI2, C5, _, _, rfl, ql9.trans ql2, qS8, ho8, (hn.mono ql2).set i (r := { r1 with a := a2, c := c2, n := y1.length }) (D := D2) (x := { x0 with In := y1 }) g1 z h6, by rw [List.length_set]; exact hsl⟩) (Sub.cons z (Sub.cons z (Sub.cons z (Sub.cons z Sub.nil))))
        case lastt7 =>
          rintro _ qw35 ⟨J, C', rs, Ds, rfl, ql9, qS36, ho, hn, hsl⟩
          refine yi ?_
          refine yah (l := [0]) kr ?_
          refine yag [(0, 33, (.bool (decide ((xs0.length : Int) < (xs0.length : Int)))))] kr (fun _ => by kernel_rfl) ?_
          refine yq ?_
          refine yc ?_
          refine yi ?_
          refine W.cond (b := (decide ((xs0.length : Int) < (xs0.length : Int)))) z z (fun K => ?_) (fun K => ?_)
          · exact absurd K (by first | (simp; done) | (simp; omega))
          clear K
          refine yae ?_
          refine yr ?_
          refine yu ?_
          refine yv ?_
          refine yc ?_
          refine yi ?_
          refine yah (l := [0, 1, 2]) kr ?_
          refine yag [(0, 47, (.slice a xs0.length c)), (1, 4, (.slice a xs0.length c)), (2, 5, (.int .i64 0))] kr (fun _ => by kernel_rfl) ?_
          refine yq ?_
          refine yc ?_
          refine yp ?_
          obtain ⟨QI9, ql9b, qS9, hp9⟩ := hn.pub ho qS36
          exact ybm z (.slice a xs0.length c) (.int .i64 0) z z ⟨QI9, a, c, by simp only [hsl], (L8.trans L15).trans (ql1.trans (ql9.trans ql9b)), qS9.drop, hp9⟩
def grants_roles_1 (p0 : qT) (q1 : qS) : Option Bool := some (sEq p0.Owner q1.Name)
theorem grants_roles_1_ok {p0 : qT} {q1 : qS} {w_p0 : W_qT} {kb1 : Nat} {w_q1 : W_qS} (h_p0 : ok_qT I p0 w_p0) (h_q1 : ok_qS I q1 w_q1) (hm1 : (bS kb1 q1 w_q1) ∈ Os) (hS : St E w I Os) {r : Bool} (H : grants_roles_1 p0 q1 = some r) :
    Calls P 64 #[(vT p0 w_p0), (Pt kb1 0)] w (RT E I Os (.bool r)) := by
 refine calls_W (fn := Tryz.f64) rfl rfl rfl ?_
 unfold grants_roles_1 at H
 exact yf nL2 (yad hS (cs_qT p0 w_p0) 89 z fun b1 w4 S3 => ya 1 1 z (yz nL6 (yg 0 1 [1] z (yj (S3.rf m0) z (yg 2 1 [2] z (yj (rd_f (S3.rd (List.Mem.tail _ hm1))) z (ya 4 2 z (yb (yp (sj H ▸ yy ⟨I, rfl, lr, S3.drop⟩))))))))))
noncomputable def grants_roles (p0 : qC) (p1 : qS) : Option ((List qJ) × Int) := (bif (p1.Kind == 10) then (member_Create p0.Roles p1.Name).bind (fun (r14, r15) => some (r14, r15)) else (bif (p1.Kind == 12) then (member_Grant p0.Roles p1.Name p1.Role).bind (fun (r23, r24) => some (r23, r24)) else (bif (p1.Kind == 13) then (member_Revoke p0.Roles p1.Name p1.Role).bind (fun (r32, r33) => some (r32, r33)) else (slices_ContainsFunc_qT p0.Tables (fun (u0 : qT) => grants_roles_1 u0 p1)).bind (fun r41 => (bif r41 then some (([] : List qJ), 34) else (member_Drop p0.Roles p1.Name).bind (fun (r49, r50) => some (r49, r50)))))))
theorem grants_roles_ok {p0 : qC} {p1 : qS} {w_p0 : W_qC} {w_p1 : W_qS} (h_p0 : ok_qC I p0 w_p0) (h_p1 : ok_qS I p1 w_p1) (hS : St E w I Os) {r : (List qJ) × Int} (H : grants_roles p0 p1 = some r) :
    Calls P 34 #[(vC p0 w_p0), (vS p1 w_p1)] w (fun e w' => ∃ (I' : Mem) (ra0 : Option Addr) (rc0 : Nat), e = .returned (.tuple #[(Sl ra0 r.1 rc0), (Iv r.2)]) ∧ I.Le I' ∧ St E w' I' Os ∧ RSl 2 R_qJ I' ra0 rc0 r.1) := by
 refine calls_W (fn := Tryz.f34) rfl rfl rfl ?_
 unfold grants_roles at H
 refine yf nL4 (yad hS (cs_qC p0 w_p0) 29 z fun b1 w4 S3 => yad S3 (cs_qS p1 w_p1) 44 z fun b5 w8 S7 => y7 2 4 (.slice none 0 0) (ya 3 1 z (yb (yi (yf nL2 (yg 0 1 [0] z (yj (S7.rf m0) z (yb (yo (yf nL2 (ya 0 2 z (yb (y6 H (fun K H => ?_) (fun K H => ?_))))))))))))))
 refine yf nL9 (yg 0 1 [2] z (yj (S7.rf m1) z (yg 2 1 [2] z (yj (S7.rf m0) z ?_))))
 obtain ⟨⟨r14, r15⟩, Xr9, H⟩ := bsm H
 refine yaj (member_Create_ok h_p0.Roles S7 Xr9) ?_
 rintro _ w10 ⟨I11, a_r14, c_r14, rfl, L12, S13, h_r14⟩
 exact cv (ya 5 4 z (yb (yp (yl (ye (sj H ▸ yat ⟨I11, a_r14, c_r14, rfl, L12, S13.d2, h_r14⟩))))))
 refine yf nL2 (ya 0 2 z (yb (y6 H (fun K H => ?_) (fun K H => ?_))))
 refine yf nL11 (yg 0 1 [2] z (yj (S7.rf m1) z (yg 2 1 [2] z (yj (S7.rf m0) z (yg 4 1 [3] z (yj (S7.rf m0) z ?_))))))
 obtain ⟨⟨r23, r24⟩, Xr18, H⟩ := bsm H
 refine yaj (member_Grant_ok h_p0.Roles S7 Xr18) ?_
 rintro _ w19 ⟨I20, a_r23, c_r23, rfl, L21, S22, h_r23⟩
 exact cv (ya 7 4 z (yb (yp (yl (ye (sj H ▸ yat ⟨I20, a_r23, c_r23, rfl, L21, S22.d2, h_r23⟩))))))
 refine yf nL2 (ya 0 2 z (yb (y6 H (fun K H => ?_) (fun K H => ?_))))
 refine yf nL11 (yg 0 1 [2] z (yj (S7.rf m1) z (yg 2 1 [2] z (yj (S7.rf m0) z (yg 4 1 [3] z (yj (S7.rf m0) z ?_))))))
 obtain ⟨⟨r32, r33⟩, Xr27, H⟩ := bsm H
 refine yaj (member_Revoke_ok h_p0.Roles S7 Xr27) ?_
 rintro _ w28 ⟨I29, a_r32, c_r32, rfl, L30, S31, h_r32⟩
 exact cv (ya 7 4 z (yb (yp (yl (ye (sj H ▸ yat ⟨I29, a_r32, c_r32, rfl, L30, S31.d2, h_r32⟩))))))
 refine ym (yn (yc (yi (yf nL4 (yg 0 1 [1] z (yj (S7.rf m1) z (y7 2 41 (.func (.func 64) #[] #[(Pt b5 0)]) (bsk H fun r41 Xr36 H => WO.c1 (slices_ContainsFunc_qT_ok h_p0.Tables (fun {F Ic wc} {_} {_} hlc hSc h_u0 {rc} hrc => grants_roles_1_ok h_u0 (h_p1.mono hlc) (List.mem_append_right _ m0) hSc hrc) (fun _ _ => by kernel_rfl) S7 Xr36) z fun I38 w37 L39 S40 => yb (y6 H (fun K H => ?_) (fun K H => ?_))))))))))
 exact yf nL2 (y7 0 4 (.slice none 0 0) (ya 1 1 z (yb (yp (ye (sj H ▸ yat ⟨I38, none, 0, rfl, L39, S40.d2, SlAt.nil⟩))))))
 refine ym (yc (yf nL9 (yg 0 1 [2] z (yj (S40.rf m1) z (yg 2 1 [2] z (yj (S40.rf m0) z ?_))))))
 obtain ⟨⟨r49, r50⟩, Xr44, H⟩ := bsm H
 refine yaj (member_Drop_ok (RSl.mono h_p0.Roles L39) S40 Xr44) ?_
 rintro _ w45 ⟨I46, a_r49, c_r49, rfl, L47, S48, h_r49⟩
 exact cv (ya 5 4 z (yb (yp (sj H ▸ yat ⟨I46, a_r49, c_r49, rfl, le, S48.d2, h_r49⟩))))
def slices_Clone_qL (p0 : List qL) : Option (List qL) := (app 32 ([] : List qL) p0).bind (fun x10 => some x10)
theorem slices_Clone_qL_ok {p0 : List qL} {a_p0 : Option Addr} {c_p0 : Nat} (h_p0 : RSl 3 R_qL I a_p0 c_p0 p0) (hS : St E w I Os) {r : (List qL)} (H : slices_Clone_qL p0 = some r) :
    Calls P 118 #[(Sl a_p0 p0 c_p0)] w (fun e w' => ∃ (I' : Mem) (ra0 : Option Addr) (rc0 : Nat) (rC0 : Mem), e = .returned (Sl ra0 r rc0) ∧ I.Le I' ∧ St E w' I' (rC0 :: Os) ∧ OwnSl 73 3 R_qL I' rC0 ra0 rc0 r) := by
 refine calls_W (fn := Tryz.f118) rfl rfl rfl ?_
 unfold slices_Clone_qL at H
 refine yf [0] (y7 0 2 (.slice none 0 0) (yb (yi (yf nL2 (ya 0 1 z (ybt (e := 73) z kr kr z z ?_))))))
 refine yb (ybz (fun K => ?_) (fun K => ?_))
 have ha0 := Option.isNone_iff_eq_none.1 K
 subst ha0
 have hx0 := (h_p0).none_nil
 subst hx0
 replace H : some ([] : List qL) = some r := by simpa [app] using H
 exact yf [0] (y7 0 2 (.slice none 0 0) (yb (yp (ye (sj H ▸ yy ⟨I, none, 0, Mem.no, rfl, lr, hS.no, OwnSl.nil⟩)))))
 clear K
 refine ym (yc (yf nL4 (yai (rel := R_qL) (xs := ([] : List qL)) hS z kr z 73 3 [] kr z (Elr.nil) tv ?_)))
 intro a6 C4 w8 S7 ho5
 exact ya 1 1 z (apk H fun x10 h0_x10 he_x10 H => yaz 73 32 (cs_qL z_qL) S7 ho5 h_p0 S7.im h0_x10 he_x10 z fun a11 c12 w13 C14 S15 ho16 => ya 3 1 z (yb (yp (sj H ▸ yy ⟨I, a11, c12, C14, rfl, lr, S15, ho16⟩))))
def slices_Clone_qK (p0 : List qK) : Option (List qK) := (app 176 ([] : List qK) p0).bind (fun x10 => some x10)
theorem slices_Clone_qK_ok {p0 : List qK} {a_p0 : Option Addr} {c_p0 : Nat} (h_p0 : RSl 12 R_qK I a_p0 c_p0 p0) (hS : St E w I Os) {r : (List qK)} (H : slices_Clone_qK p0 = some r) :
    Calls P 119 #[(Sl a_p0 p0 c_p0)] w (fun e w' => ∃ (I' : Mem) (ra0 : Option Addr) (rc0 : Nat) (rC0 : Mem), e = .returned (Sl ra0 r rc0) ∧ I.Le I' ∧ St E w' I' (rC0 :: Os) ∧ OwnSl 100 12 R_qK I' rC0 ra0 rc0 r) := by
 refine calls_W (fn := Tryz.f119) rfl rfl rfl ?_
 unfold slices_Clone_qK at H
 refine yf [0] (y7 0 2 (.slice none 0 0) (yb (yi (yf nL2 (ya 0 1 z (ybt (e := 100) z kr kr z z ?_))))))
 refine yb (ybz (fun K => ?_) (fun K => ?_))
 have ha0 := Option.isNone_iff_eq_none.1 K
 subst ha0
 have hx0 := (h_p0).none_nil
 subst hx0
 replace H : some ([] : List qK) = some r := by simpa [app] using H
 exact yf [0] (y7 0 2 (.slice none 0 0) (yb (yp (ye (sj H ▸ yy ⟨I, none, 0, Mem.no, rfl, lr, hS.no, OwnSl.nil⟩)))))
 clear K
 refine ym (yc (yf nL4 (yai (rel := R_qK) (xs := ([] : List qK)) hS z kr z 100 12 [] kr z (Elr.nil) tv ?_)))
 intro a6 C4 w8 S7 ho5
 exact ya 1 1 z (apk H fun x10 h0_x10 he_x10 H => yaz 100 176 (cs_qK z_qK zw_qK) S7 ho5 h_p0 S7.im h0_x10 he_x10 z fun a11 c12 w13 C14 S15 ho16 => ya 3 1 z (yb (yp (sj H ▸ yy ⟨I, a11, c12, C14, rfl, lr, S15, ho16⟩))))
def expr_Clone_fu : Nat → qE → Option qE
  | 0, _ => none
  | fu + 1, p0 => (forE (fun (i13 : Nat) (s12 : List qE) => (idx p0.Kids (i13 : Int)).bind (fun x24 => (expr_Clone_fu fu x24).bind (fun r36 => (app 88 s12 ([r36] : List qE)).bind (fun x45 => some x45)))) p0.Kids.length 0 ([] : List qE)).bind (fun s12 => some { p0 with Kids := s12 })
noncomputable def expr_Clone (p0 : qE) : Option qE := anyFuel (fun fu => expr_Clone_fu fu p0)
theorem expr_Clone_fu_ok : ∀ (fu : Nat) {E w : World} {I : Mem} {Os : List Mem} {p0 : qE} {w_p0 : W_qE} (h_p0 : ok_qE I p0 w_p0) (hS : St E w I Os) {r : qE} (H : expr_Clone_fu fu p0 = some r),
    Calls P 120 #[(vE p0 w_p0)] w (fun e w' => ∃ I' w_rw0, e = .returned (vE r w_rw0) ∧ I.Le I' ∧ St E w' I' Os ∧ ok_qE I' r w_rw0) := by
 intro fu
 induction fu with
 | zero => intro E w I Os p0 w_p0 h_p0 hS r H; cases H
 | succ fu ih =>
 intro E w I Os p0 w_p0 h_p0 hS r H
 refine calls_W (fn := Tryz.f120) rfl rfl rfl ?_
 unfold expr_Clone_fu at H
 refine yf nL2 (yad hS (cs_qE p0 w_p0) 39 z fun b1 w4 S3 => yad S3 (cs_qE z_qE zw_qE) 39 z fun b5 w8 S7 => yz [0] (y7 0 3 (.slice none 0 0) (yb (yi (yf nL4 (yg 0 1 [6] z (yj (S7.rf m1) z (ya 2 2 z (yb (yo (bsk H fun s12 hloop14 H => have hlt22 := (h_p0.Kids).len_lt; W.wk (ya5 (m := p0.Kids.length) hloop14 (fun (i13 : Nat) (s12 : List qE) fr w => ∃ I10 a_s12 c_s12 C_s12, fr = [(1, Pt b1 0), (2, Pt b5 0), (3, Sl a_s12 s12 c_s12), (7, Sl w_p0.Kids.a p0.Kids w_p0.Kids.c), (8, Nv p0.Kids.length), (9, Nv i13)] ∧ I.Le I10 ∧ St E w I10 (bE b1 p0 w_p0 :: (bE b5 z_qE zw_qE) :: (C_s12) :: Os) ∧ OwnSl 39 7 Q_qE I10 C_s12 a_s12 c_s12 s12) ⟨I, none, 0, Mem.no, rfl, lr, S7.no.front1.front2, OwnSl.nil⟩ ?_ ?_))))))))))))
 rintro i13 s12 _ w19 hi23 ⟨I10, a_s12, c_s12, C_s12, rfl, L11, S20, h_s12⟩ x21 R1
 refine yf [0] (ya 0 1 z (yb (yi (yaw fun _ => ym (yc (yi (yo (yf nL4 ?_))))))))
 obtain ⟨x24, Xx24, R1⟩ := bsm R1
 obtain ⟨h0_x24, h1_x24, Xx24⟩ := idx_some Xx24
 obtain ⟨ha_x24, cs_x24, hn_x24, hr_x24, Zx24⟩ := ((RSl.mono h_p0.Kids L11)).el _ _ Xx24
 obtain ⟨w_x24, rfl, h_x24⟩ := Q_qE_iff.1 hr_x24
 refine ybe 39 7 ha_x24 h0_x24 h1_x24 ?_
 refine yau ((cs_qE x24 w_x24)) Zx24 0 S20.rm z (yad S20 (cs_qE z_qE zw_qE) 39 z fun b25 w28 S27 => yaf S27 0 (cs_qE x24 w_x24) fun w30 S29 => yb (yak nL6 (ya 0 1 z (yab ((cs_qE x24 w_x24)) (S29.rf m0) z (bsk R1 fun r36 Xr31 R1 => yaj (ih h_x24 S29 Xr31) ?_)))))
 rintro _ w32 ⟨I33, w_r36, rfl, L34, S35, h_r36⟩
 refine cv (yai (rel := Q_qE) (xs := ([r36] : List qE)) S35 z kr z 39 7 [(cs_qE r36 w_r36)] kr z ((Elr.cons (Q_qE_iff.2 ⟨w_r36, rfl, h_r36⟩) Elr.nil)) tv ?_)
 intro a40 C38 w42 S41 ho39
 have S44 := S41.front4
 exact apk R1 fun x45 h0_x45 he_x45 R1 => yaz 39 88 (cs_qE z_qE zw_qE) S44 (OwnSl.mono h_s12 L34) ho39.sl (S44.rd m1) h0_x45 he_x45 z fun a46 c47 w48 C49 S50 ho51 => ya 5 1 z (yq (yn (yc (yak nL2 (yaq i13 z (ya 1 1 z (yq (sj R1 ▸ yx ⟨I33, a46, c47, C49, rfl, le, S50.front1.drop.front1.drop.front2.front2, ho51⟩))))))))
 rintro _ w58 ⟨I10, a_s12, c_s12, C_s12, rfl, L11, S59, h_s12⟩
 refine yf [0] (ya 0 1 z (yb (yi (yax fun _ => yae (yr (yu (yv (yc (yf nL3 (yg 0 2 [6] z ?_))))))))))
 obtain ⟨I61, L62, S64, hp63⟩ := OwnSl.pub h_s12 S59.front2
 refine yaf S64 6 (cs_qE ({ p0 with Kids := s12 }) (⟨⟨a_s12, c_s12⟩⟩ : W_qE)) fun w66 S65 => yz nL2 (yab ((cs_qE ({ p0 with Kids := s12 }) (⟨⟨a_s12, c_s12⟩⟩ : W_qE))) (S65.rf m0) z (yaf S65.front1 0 (cs_qE ({ p0 with Kids := s12 }) (⟨⟨a_s12, c_s12⟩⟩ : W_qE)) fun w69 S68 => yb (yp ?_)))
 have hk72 : ok_qE I61 ({ p0 with Kids := s12 }) (⟨⟨a_s12, c_s12⟩⟩ : W_qE) := ⟨hp63⟩
 exact sj H ▸ En.c1 _ (S68.rd m0) ⟨I61, (⟨⟨a_s12, c_s12⟩⟩ : W_qE), rfl, le, S68.d2, hk72⟩
theorem expr_Clone_ok {p0 : qE} {w_p0 : W_qE} (h_p0 : ok_qE I p0 w_p0) (hS : St E w I Os) {r : qE} (H : expr_Clone p0 = some r) :
    Calls P 120 #[(vE p0 w_p0)] w (fun e w' => ∃ I' w_rw0, e = .returned (vE r w_rw0) ∧ I.Le I' ∧ St E w' I' Os ∧ ok_qE I' r w_rw0) := by
 obtain ⟨fu, hf⟩ := anyFuel_some H
 exact expr_Clone_fu_ok fu h_p0 hS hf
def slices_Clone_qI (p0 : List qI) : Option (List qI) := (app 40 ([] : List qI) p0).bind (fun x10 => some x10)
theorem slices_Clone_qI_ok {p0 : List qI} {a_p0 : Option Addr} {c_p0 : Nat} (h_p0 : RSl 2 R_qI I a_p0 c_p0 p0) (hS : St E w I Os) {r : (List qI)} (H : slices_Clone_qI p0 = some r) :
    Calls P 121 #[(Sl a_p0 p0 c_p0)] w (fun e w' => ∃ (I' : Mem) (ra0 : Option Addr) (rc0 : Nat) (rC0 : Mem), e = .returned (Sl ra0 r rc0) ∧ I.Le I' ∧ St E w' I' (rC0 :: Os) ∧ OwnSl 124 2 R_qI I' rC0 ra0 rc0 r) := by
 refine calls_W (fn := Tryz.f121) rfl rfl rfl ?_
 unfold slices_Clone_qI at H
 refine yf [0] (y7 0 2 (.slice none 0 0) (yb (yi (yf nL2 (ya 0 1 z (ybt (e := 124) z kr kr z z ?_))))))
 refine yb (ybz (fun K => ?_) (fun K => ?_))
 have ha0 := Option.isNone_iff_eq_none.1 K
 subst ha0
 have hx0 := (h_p0).none_nil
 subst hx0
 replace H : some ([] : List qI) = some r := by simpa [app] using H
 exact yf [0] (y7 0 2 (.slice none 0 0) (yb (yp (ye (sj H ▸ yy ⟨I, none, 0, Mem.no, rfl, lr, hS.no, OwnSl.nil⟩)))))
 clear K
 refine ym (yc (yf nL4 (yai (rel := R_qI) (xs := ([] : List qI)) hS z kr z 124 2 [] kr z (Elr.nil) tv ?_)))
 intro a6 C4 w8 S7 ho5
 exact ya 1 1 z (apk H fun x10 h0_x10 he_x10 H => yaz 124 40 (cs_qI z_qI zw_qI) S7 ho5 h_p0 S7.im h0_x10 he_x10 z fun a11 c12 w13 C14 S15 ho16 => ya 3 1 z (yb (yp (sj H ▸ yy ⟨I, a11, c12, C14, rfl, lr, S15, ho16⟩))))
noncomputable def table_Clone (p0 : qT) : Option qT := (slices_Clone_qL p0.Cols).bind (fun r14 => (slices_Clone_qK p0.Cons).bind (fun r27 => (forE (fun (i35 : Nat) (s34 : List qK) => (idx s34 (i35 : Int)).bind (fun x45 => (slices_Clone_string x45.Cols).bind (fun r59 => (slices_Clone_string x45.Refs).bind (fun r65 => (expr_Clone x45.Check).bind (fun r71 => (idx s34 (i35 : Int)).bind (fun x72 => (idx (s34.set ((i35 : Int)).toNat ({ x72 with Cols := r59 })) (i35 : Int)).bind (fun x85 => (idx ((s34.set ((i35 : Int)).toNat ({ x72 with Cols := r59 })).set ((i35 : Int)).toNat ({ x85 with Refs := r65 })) (i35 : Int)).bind (fun x97 => some (((s34.set ((i35 : Int)).toNat ({ x72 with Cols := r59 })).set ((i35 : Int)).toNat ({ x85 with Refs := r65 })).set ((i35 : Int)).toNat ({ x97 with Check := r71 })))))))))) r27.length 0 r27).bind (fun s34 => (slices_Clone_qI p0.Idx).bind (fun r115 => (forE (fun (i123 : Nat) (s122 : List qI) => (idx s122 (i123 : Int)).bind (fun x134 => (slices_Clone_string x134.Cols).bind (fun r148 => (idx s122 (i123 : Int)).bind (fun x149 => some (s122.set ((i123 : Int)).toNat ({ x149 with Cols := r148 })))))) r115.length 0 r115).bind (fun s122 => some { p0 with Cols := r14, Cons := s34, Idx := s122 })))))
theorem table_Clone_ok {p0 : qT} {w_p0 : W_qT} (h_p0 : ok_qT I p0 w_p0) (hS : St E w I Os) {r : qT} (H : table_Clone p0 = some r) :
    Calls P 77 #[(vT p0 w_p0)] w (fun e w' => ∃ I' w_rw0, e = .returned (vT r w_rw0) ∧ I.Le I' ∧ St E w' I' Os ∧ ok_qT I' r w_rw0) := by
 refine calls_W (fn := Tryz.f77) rfl rfl rfl ?_
 unfold table_Clone at H
 refine yf nL2 (yad hS (cs_qT p0 w_p0) 89 z fun b1 w4 S3 => yad S3 (cs_qT z_qT zw_qT) 89 z fun b5 w8 S7 => yz nL5 (yg 0 1 [3] z (yj (S7.rf m1) z (bsk H fun r14 Xr9 H => yaj (slices_Clone_qL_ok h_p0.Cols S7 Xr9) ?_))))
 rintro _ w10 ⟨I11, a_r14, c_r14, C_r14, rfl, L12, S13, h_r14⟩
 refine cv (yg 3 1 [3] z ?_)
 obtain ⟨I15, L16, S18, hp17⟩ := OwnSl.pub h_r14 S13
 refine yaf S18.front1 3 (cs_qT ({ p0 with Cols := r14 }) ({ w_p0 with Cols := ⟨a_r14, c_r14⟩ })) fun w21 S20 => yz nL5 (yg 0 1 [4] z (yj (S20.rf m0) z (bsk H fun r27 Xr22 H => yaj (slices_Clone_qK_ok (up h_p0.Cons) S20 Xr22) ?_)))
 rintro _ w23 ⟨I24, a_r27, c_r27, C_r27, rfl, L25, S26, h_r27⟩
 refine cv (yg 3 1 [4] z (yaf S26.front1 4 (cs_qT ({ p0 with Cols := r14, Cons := r27 }) ({ w_p0 with Cols := ⟨a_r14, c_r14⟩, Cons := ⟨a_r27, c_r27⟩ })) fun w30 S29 => yb (yi (yf nL4 (yg 0 1 [4] z (yj (S29.rf m0) z (ya 2 2 z (yb (yo (bsk H fun s34 hloop36 H => have hlt43 := (h_r27.sl).len_lt; W.wk (ya5 (m := r27.length) hloop36 (fun (i35 : Nat) (s34 : List qK) fr w => ∃ I32 C_s34, fr = [(1, Pt b1 0), (2, Pt b5 0), (16, Sl a_r27 s34 c_r27), (17, Nv r27.length), (18, Nv i35)] ∧ I24.Le I32 ∧ St E w I32 ((Bx b1 (cs_qT ({ p0 with Cols := r14, Cons := s34 }) ({ w_p0 with Cols := ⟨a_r14, c_r14⟩, Cons := ⟨a_r27, c_r27⟩ })) 89) :: (bT b5 z_qT zw_qT) :: (C_s34) :: Os) ∧ OwnSl 100 12 R_qK I32 C_s34 a_r27 c_r27 s34) ⟨I24, C_r27, rfl, lr, S29.front1.front2.front2, h_r27⟩ ?_ ?_)))))))))))
 rintro i35 s34 _ w40 hi44 ⟨I32, C_s34, rfl, L33, S41, h_s34⟩ x42 R1
 refine yf [0] (ya 0 1 z (yb (yi (yaw fun _ => ym (yc (yi (yo (yf nL6 (ya 0 1 z ?_)))))))))
 obtain ⟨x45, R1, Hx45, _, ⟨w_x45, rfl, h_x45⟩, Zx45⟩ := sl_ix (h_s34.sl) R1
 refine yac 100 12 Hx45 z (yau ((cs_qK x45 w_x45)) Zx45 0 (S41.rf m2) z (yad S41 (cs_qK z_qK zw_qK) 100 z fun b46 w49 S48 => ya 4 1 z (yaf S48 0 (cs_qK x45 w_x45) fun w51 S50 => yb (have S52 := S50.drew; yb0 (l := nL27) kr 24 (KR I32 [bK b46 x45 w_x45, Bx b1 (cs_qT ({ p0 with Cols := r14, Cons := s34 }) ({ w_p0 with Cols := ⟨a_r14, c_r14⟩, Cons := ⟨a_r27, c_r27⟩ })) 89]) qR (.ords nL27 [0, 1, 2, 9, 10, 11, 12, 13, 14, 15, 16, 17, 18, 19, 20, 3, 4, 5, 21, 22, 23, 6, 7, 8, 24, 25, 26] kr kr kr kr kr) kr (yt (S52.rd m0) (yt (S52.rd m1) (y8 S52.im))) ?_))))
 generalize World.drew _ = w53 at *
 refine yg 0 1 [4] z (yj (rd_c m1 (S52.rd m1)) z (yg 2 2 [4] z (yj (rd_c m1 (S52.rd m1)) z (yg 5 2 [4] z (yj (rd_c m1 (S52.rd m1)) z (yg 8 2 [2] z (yj (rd_c m0 (S52.rd m0)) z (bsk R1 fun r59 Xr54 R1 => yaj (slices_Clone_string_ok h_x45.Cols S52 Xr54) ?_))))))))
 rintro _ w55 ⟨I56, a_r59, c_r59, C_r59, rfl, L57, S58, h_r59⟩
 refine ⟨_, rfl, (yt (S58.rd m1) (yt (S58.rd m2) (y8 (S58.im.of_le L57)))), ?_⟩
 refine yg 12 1 [11] z (yj (rd_c m0 (S58.rd m1)) z (bsk R1 fun r65 Xr60 R1 => yaj (slices_Clone_string_ok (RSl.mono h_x45.Refs L57) S58 Xr60) ?_))
 rintro _ w61 ⟨I62, a_r65, c_r65, C_r65, rfl, L63, S64, h_r65⟩
 refine ⟨_, rfl, (yt (S64.rd m2) (yt (S64.rd m3) (y8 (S64.im.of_le le)))), ?_⟩
 refine yg 15 1 [3] z (yab ((cs_qE x45.Check w_x45.Check)) (rd_c m0 (S64.rd m2)) z (bsk R1 fun r71 Xr66 R1 => yaj (expr_Clone_ok (h_x45.Check.mono le) S64 Xr66) ?_))
 rintro _ w67 ⟨I68, w_r71, rfl, L69, S70, h_r71⟩
 refine ⟨_, rfl, (yt (S70.rd m2) (yt (S70.rd m3) (y8 (S70.im.of_le le)))), ?_⟩
 obtain ⟨x72, R1, h0_x72, h1_x72, Xx72, ha_x72, _, _, ⟨w_x72, rfl, h_x72⟩, Zx72⟩ := sl_at (h_s34.sl) R1
 refine ybe 100 12 ha_x72 h0_x72 h1_x72 ?_
 refine yg 19 1 [2] z ?_
 obtain ⟨I74, L75, S77, hp76⟩ := OwnSl.pub (h_r59.mono (L63.trans L69)) S70.front1
 have hk83 : ok_qK I74 ({ x72 with Cols := r59 }) ({ w_x72 with Cols := ⟨a_r59, c_r59⟩ }) := ⟨hp76, (h_x72.Check.mono (((L57.trans L63).trans L69).trans L75)), (RSl.mono h_x72.Refs (((L57.trans L63).trans L69).trans L75))⟩
 refine ya7 S77.front4 (OwnSl.mono h_s34 le) z kr z Xx72 (u' := { x72 with Cols := r59 }) 2 z z kr z z (fun cs hrel => (by obtain ⟨w_zz, rfl, h_zz⟩ := hrel; exact ⟨{ w_zz with Cols := ⟨a_r59, c_r59⟩ }, rfl, { h_zz with Cols := hp76 }⟩)) (fun w80 C81 S79 => (yt (S79.rd m2) (yt (S79.rd m3) (y8 (S79.im.of_le le))))) ?_
 intro w80 C81 S79 ho82
 refine yaa 16 z (show Value.slice a_r27 s34.length c_r27 = Value.slice a_r27 (s34.set ((i35 : Int)).toNat ({ x72 with Cols := r59 })).length c_r27 by simp only [List.length_set]) ?_
 refine yaa 24 z (show Value.slice a_r27 s34.length c_r27 = Value.slice a_r27 (s34.set ((i35 : Int)).toNat ({ x72 with Cols := r59 })).length c_r27 by simp only [List.length_set]) ?_
 refine yaa 27 z (show Value.slice a_r27 s34.length c_r27 = Value.slice a_r27 (s34.set ((i35 : Int)).toNat ({ x72 with Cols := r59 })).length c_r27 by simp only [List.length_set]) ?_
 refine yaa 30 z (show Value.slice a_r27 s34.length c_r27 = Value.slice a_r27 (s34.set ((i35 : Int)).toNat ({ x72 with Cols := r59 })).length c_r27 by simp only [List.length_set]) ?_
 have S84 : St E w80 I74 ((C81) :: (C_r65) :: (bK b46 x45 w_x45) :: (Bx b1 (cs_qT ({ p0 with Cols := r14, Cons := (s34.set ((i35 : Int)).toNat ({ x72 with Cols := r59 })) }) ({ w_p0 with Cols := ⟨a_r14, c_r14⟩, Cons := ⟨a_r27, c_r27⟩ })) 89) :: (bT b5 z_qT zw_qT) :: Os) := by have hq := S79; simp only [cs_qT, List.length_set] at hq ⊢; exact hq
 obtain ⟨x85, R1, h0_x85, h1_x85, Xx85, ha_x85, _, _, ⟨w_x85, rfl, h_x85⟩, Zx85⟩ := sl_at (ho82.sl) R1
 refine ybe 100 12 ha_x85 h0_x85 h1_x85 ?_
 refine yg 22 1 [11] z ?_
 obtain ⟨I87, L88, S90, hp89⟩ := OwnSl.pub (h_r65.mono (L69.trans L75)) S84.front1
 have hk95 : ok_qK I87 ({ x85 with Refs := r65 }) ({ w_x85 with Refs := ⟨a_r65, c_r65⟩ }) := ⟨(RSl.mono h_x85.Cols L88), (h_x85.Check.mono L88), hp89⟩
 refine ya7 S90 (OwnSl.mono ho82 L88) z kr z Xx85 (u' := { x85 with Refs := r65 }) 11 z z kr z z (fun cs hrel => (by obtain ⟨w_zz, rfl, h_zz⟩ := hrel; exact ⟨{ w_zz with Refs := ⟨a_r65, c_r65⟩ }, rfl, { h_zz with Refs := hp89 }⟩)) (fun w92 C93 S91 => (yt (S91.rd m1) (yt (Rdb.eq (by simp only [cs_qT, List.length_set]) (S91.rd m2)) (y8 (S91.im.of_le le))))) ?_
 intro w92 C93 S91 ho94
 refine yaa 16 z (show Value.slice a_r27 (s34.set ((i35 : Int)).toNat ({ x72 with Cols := r59 })).length c_r27 = Value.slice a_r27 ((s34.set ((i35 : Int)).toNat ({ x72 with Cols := r59 })).set ((i35 : Int)).toNat ({ x85 with Refs := r65 })).length c_r27 by simp only [List.length_set]) ?_
 refine yaa 24 z (show Value.slice a_r27 (s34.set ((i35 : Int)).toNat ({ x72 with Cols := r59 })).length c_r27 = Value.slice a_r27 ((s34.set ((i35 : Int)).toNat ({ x72 with Cols := r59 })).set ((i35 : Int)).toNat ({ x85 with Refs := r65 })).length c_r27 by simp only [List.length_set]) ?_
 refine yaa 27 z (show Value.slice a_r27 (s34.set ((i35 : Int)).toNat ({ x72 with Cols := r59 })).length c_r27 = Value.slice a_r27 ((s34.set ((i35 : Int)).toNat ({ x72 with Cols := r59 })).set ((i35 : Int)).toNat ({ x85 with Refs := r65 })).length c_r27 by simp only [List.length_set]) ?_
 refine yaa 30 z (show Value.slice a_r27 (s34.set ((i35 : Int)).toNat ({ x72 with Cols := r59 })).length c_r27 = Value.slice a_r27 ((s34.set ((i35 : Int)).toNat ({ x72 with Cols := r59 })).set ((i35 : Int)).toNat ({ x85 with Refs := r65 })).length c_r27 by simp only [List.length_set]) ?_
 have S96 : St E w92 I87 ((C93) :: (bK b46 x45 w_x45) :: (Bx b1 (cs_qT ({ p0 with Cols := r14, Cons := ((s34.set ((i35 : Int)).toNat ({ x72 with Cols := r59 })).set ((i35 : Int)).toNat ({ x85 with Refs := r65 })) }) ({ w_p0 with Cols := ⟨a_r14, c_r14⟩, Cons := ⟨a_r27, c_r27⟩ })) 89) :: (bT b5 z_qT zw_qT) :: Os) := by have hq := S91; simp only [cs_qT, List.length_set] at hq ⊢; exact hq
 refine WO.tail z ?_
 obtain ⟨x97, R1, h0_x97, h1_x97, Xx97, ha_x97, _, _, ⟨w_x97, rfl, h_x97⟩, Zx97⟩ := sl_at (ho94.sl) R1
 refine ybe 100 12 ha_x97 h0_x97 h1_x97 ?_
 refine yg 25 1 [3] z ?_
 have hk102 : ok_qK I87 ({ x97 with Check := r71 }) ({ w_x97 with Check := w_r71 }) := ⟨h_x97.Cols, (h_r71.mono (L75.trans L88)), h_x97.Refs⟩
 refine ya7 S96 ho94 z kr z Xx97 (u' := { x97 with Check := r71 }) 3 z z kr z z (fun cs hrel => (by obtain ⟨w_zz, rfl, h_zz⟩ := hrel; exact ⟨{ w_zz with Check := w_r71 }, rfl, { h_zz with Check := (h_r71.mono le) }⟩)) tv ?_
 intro w99 C100 S98 ho101
 refine yaa 16 z (show Value.slice a_r27 ((s34.set ((i35 : Int)).toNat ({ x72 with Cols := r59 })).set ((i35 : Int)).toNat ({ x85 with Refs := r65 })).length c_r27 = Value.slice a_r27 (((s34.set ((i35 : Int)).toNat ({ x72 with Cols := r59 })).set ((i35 : Int)).toNat ({ x85 with Refs := r65 })).set ((i35 : Int)).toNat ({ x97 with Check := r71 })).length c_r27 by simp only [List.length_set]) ?_
 refine yaa 24 z (show Value.slice a_r27 ((s34.set ((i35 : Int)).toNat ({ x72 with Cols := r59 })).set ((i35 : Int)).toNat ({ x85 with Refs := r65 })).length c_r27 = Value.slice a_r27 (((s34.set ((i35 : Int)).toNat ({ x72 with Cols := r59 })).set ((i35 : Int)).toNat ({ x85 with Refs := r65 })).set ((i35 : Int)).toNat ({ x97 with Check := r71 })).length c_r27 by simp only [List.length_set]) ?_
 refine yaa 27 z (show Value.slice a_r27 ((s34.set ((i35 : Int)).toNat ({ x72 with Cols := r59 })).set ((i35 : Int)).toNat ({ x85 with Refs := r65 })).length c_r27 = Value.slice a_r27 (((s34.set ((i35 : Int)).toNat ({ x72 with Cols := r59 })).set ((i35 : Int)).toNat ({ x85 with Refs := r65 })).set ((i35 : Int)).toNat ({ x97 with Check := r71 })).length c_r27 by simp only [List.length_set]) ?_
 refine yaa 30 z (show Value.slice a_r27 ((s34.set ((i35 : Int)).toNat ({ x72 with Cols := r59 })).set ((i35 : Int)).toNat ({ x85 with Refs := r65 })).length c_r27 = Value.slice a_r27 (((s34.set ((i35 : Int)).toNat ({ x72 with Cols := r59 })).set ((i35 : Int)).toNat ({ x85 with Refs := r65 })).set ((i35 : Int)).toNat ({ x97 with Check := r71 })).length c_r27 by simp only [List.length_set]) ?_
 have S103 : St E w99 I87 ((C100) :: (bK b46 x45 w_x45) :: (Bx b1 (cs_qT ({ p0 with Cols := r14, Cons := (((s34.set ((i35 : Int)).toNat ({ x72 with Cols := r59 })).set ((i35 : Int)).toNat ({ x85 with Refs := r65 })).set ((i35 : Int)).toNat ({ x97 with Check := r71 })) }) ({ w_p0 with Cols := ⟨a_r14, c_r14⟩, Cons := ⟨a_r27, c_r27⟩ })) 89) :: (bT b5 z_qT zw_qT) :: Os) := by have hq := S98; simp only [cs_qT, List.length_set] at hq ⊢; exact hq
 exact yq (yn (yc (yak nL2 (yaq i35 z (ya 1 1 z (yq (sj R1 ▸ yx ⟨I87, C100, rfl, le, S103.front1.drop.front2.front2, ho101⟩)))))))
 rintro _ w108 ⟨I32, C_s34, rfl, L33, S109, h_s34⟩
 refine yf [0] (ya 0 1 z (yb (yi (yax fun _ => yae (yr (yu (yv (yc (yf nL5 (yg 0 1 [5] z (yj (S109.rf m0) z (bsk H fun r115 Xr110 H => yaj (slices_Clone_qI_ok (up h_p0.Idx) S109 Xr110) ?_))))))))))))
 rintro _ w111 ⟨I112, a_r115, c_r115, C_r115, rfl, L113, S114, h_r115⟩
 refine cv (yg 3 1 [5] z (yaf S114.front1 5 (cs_qT ({ p0 with Cols := r14, Cons := s34, Idx := r115 }) (⟨⟨a_r14, c_r14⟩, ⟨a_r27, c_r27⟩, ⟨a_r115, c_r115⟩⟩ : W_qT)) fun w118 S117 => yb (yi (yf nL4 (yg 0 1 [5] z (yj (S117.rf m0) z (ya 2 2 z (yb (yo (bsk H fun s122 hloop124 H => have hlt132 := (h_r115.sl).len_lt; W.wk (ya5 (m := r115.length) hloop124 (fun (i123 : Nat) (s122 : List qI) fr w => ∃ I120 C_s122, fr = [(1, Pt b1 0), (2, Pt b5 0), (53, Sl a_r115 s122 c_r115), (54, Nv r115.length), (55, Nv i123)] ∧ I112.Le I120 ∧ St E w I120 ((Bx b1 (cs_qT ({ p0 with Cols := r14, Cons := s34, Idx := s122 }) (⟨⟨a_r14, c_r14⟩, ⟨a_r27, c_r27⟩, ⟨a_r115, c_r115⟩⟩ : W_qT)) 89) :: (bT b5 z_qT zw_qT) :: (C_s122) :: (C_s34) :: Os) ∧ OwnSl 124 2 R_qI I120 C_s122 a_r115 c_r115 s122) ⟨I112, C_r115, rfl, lr, S117.front3.front2.front3.front3, h_r115⟩ ?_ ?_)))))))))))
 rintro i123 s122 _ w129 hi133 ⟨I120, C_s122, rfl, L121, S130, h_s122⟩ x131 R1
 refine yf [0] (ya 0 1 z (yb (yi (yaw fun _ => ym (yc (yi (yo (yf nL6 (ya 0 1 z ?_)))))))))
 obtain ⟨x134, R1, Hx134, _, ⟨w_x134, rfl, h_x134⟩, Zx134⟩ := sl_ix (h_s122.sl) R1
 refine yac 124 2 Hx134 z (yau ((cs_qI x134 w_x134)) Zx134 0 (S130.rf m2) z (yad S130 (cs_qI z_qI zw_qI) 124 z fun b135 w138 S137 => ya 4 1 z (yaf S137 0 (cs_qI x134 w_x134) fun w140 S139 => yb (have S141 := S139.drew; ybd nL9 6 (yt (S141.rd m0) (yt (S141.rd m1) (y8 S141.im))) ?_))))
 generalize World.drew _ = w142 at *
 refine yg 0 1 [5] z (yj (rd_c m1 (S141.rd m1)) z (yg 2 2 [1] z (yj (rd_c m0 (S141.rd m0)) z (bsk R1 fun r148 Xr143 R1 => yaj (slices_Clone_string_ok h_x134.Cols S141 Xr143) ?_))))
 rintro _ w144 ⟨I145, a_r148, c_r148, C_r148, rfl, L146, S147, h_r148⟩
 refine ⟨_, rfl, (yt (S147.rd m1) (yt (S147.rd m2) (y8 (S147.im.of_le L146)))), ?_⟩
 refine WO.tail z ?_
 obtain ⟨x149, R1, h0_x149, h1_x149, Xx149, ha_x149, _, _, ⟨w_x149, rfl, h_x149⟩, Zx149⟩ := sl_at ((h_s122.mono L146).sl) R1
 refine ybe 124 2 ha_x149 h0_x149 h1_x149 ?_
 refine yg 7 1 [1] z ?_
 obtain ⟨I150, L151, S153, hp152⟩ := OwnSl.pub h_r148 S147
 have hk159 : ok_qI I150 ({ x149 with Cols := r148 }) (⟨⟨a_r148, c_r148⟩⟩ : W_qI) := ⟨hp152⟩
 refine ya7 S153.front3 (OwnSl.mono h_s122 le) z kr z Xx149 (u' := { x149 with Cols := r148 }) 1 z z kr z z (fun cs hrel => (by obtain ⟨w_zz, rfl, h_zz⟩ := hrel; exact ⟨{ w_zz with Cols := ⟨a_r148, c_r148⟩ }, rfl, { h_zz with Cols := hp152 }⟩)) tv ?_
 intro w156 C157 S155 ho158
 refine yaa 53 z (show Value.slice a_r115 s122.length c_r115 = Value.slice a_r115 (s122.set ((i123 : Int)).toNat ({ x149 with Cols := r148 })).length c_r115 by simp only [List.length_set]) ?_
 refine yaa 61 z (show Value.slice a_r115 s122.length c_r115 = Value.slice a_r115 (s122.set ((i123 : Int)).toNat ({ x149 with Cols := r148 })).length c_r115 by simp only [List.length_set]) ?_
 have S160 : St E w156 I150 ((C157) :: (bI b135 x134 w_x134) :: (Bx b1 (cs_qT ({ p0 with Cols := r14, Cons := s34, Idx := (s122.set ((i123 : Int)).toNat ({ x149 with Cols := r148 })) }) (⟨⟨a_r14, c_r14⟩, ⟨a_r27, c_r27⟩, ⟨a_r115, c_r115⟩⟩ : W_qT)) 89) :: (bT b5 z_qT zw_qT) :: (C_s34) :: Os) := by have hq := S155; simp only [cs_qT, List.length_set] at hq ⊢; exact hq
 exact yq (yn (yc (yak nL2 (yaq i123 z (ya 1 1 z (yq (sj R1 ▸ yx ⟨I150, C157, rfl, le, S160.front1.drop.front3.front1.front3.front3, ho158⟩)))))))
 rintro _ w167 ⟨I120, C_s122, rfl, L121, S168, h_s122⟩
 refine yf [0] (ya 0 1 z (yb (yi (yax fun _ => yae (yr (yu (yv (yc (yf nL2 (yab ((cs_qT ({ p0 with Cols := r14, Cons := s34, Idx := s122 }) (⟨⟨a_r14, c_r14⟩, ⟨a_r27, c_r27⟩, ⟨a_r115, c_r115⟩⟩ : W_qT))) (S168.rf m0) z ?_))))))))))
 obtain ⟨I170, L171, S173, hp172⟩ := OwnSl.pub (h_s34.mono (L113.trans L121)) S168.front3
 obtain ⟨I175, L176, S178, hp177⟩ := OwnSl.pub (h_s122.mono L171) S173.front2
 refine yaf S178.front1 0 (cs_qT ({ p0 with Cols := r14, Cons := s34, Idx := s122 }) (⟨⟨a_r14, c_r14⟩, ⟨a_r27, c_r27⟩, ⟨a_r115, c_r115⟩⟩ : W_qT)) fun w181 S180 => yb (yp ?_)
 have hk184 : ok_qT I175 ({ p0 with Cols := r14, Cons := s34, Idx := s122 }) (⟨⟨a_r14, c_r14⟩, ⟨a_r27, c_r27⟩, ⟨a_r115, c_r115⟩⟩ : W_qT) := ⟨(RSl.mono hp17 (((((L25.trans L33).trans L113).trans L121).trans L171).trans L176)), (RSl.mono hp172 L176), hp177⟩
 exact sj H ▸ En.c1 _ (S180.rd m0) ⟨I175, (⟨⟨a_r14, c_r14⟩, ⟨a_r27, c_r27⟩, ⟨a_r115, c_r115⟩⟩ : W_qT), rfl, le, S180.d2, hk184⟩
def catalog_Find_1 (p0 : qT) (q1 : By8) : Option Bool := some (sEq p0.Name q1)
theorem catalog_Find_1_ok {p0 : qT} {q1 : By8} {w_p0 : W_qT} {kb1 : Nat} (h_p0 : ok_qT I p0 w_p0) (hm1 : (Bx kb1 [(.string q1)] 9) ∈ Os) (hS : St E w I Os) {r : Bool} (H : catalog_Find_1 p0 q1 = some r) :
    Calls P 76 #[(vT p0 w_p0), (Pt kb1 0)] w (RT E I Os (.bool r)) := by
 refine calls_W (fn := Tryz.f76) rfl rfl rfl ?_
 unfold catalog_Find_1 at H
 exact yf nL2 (yad hS (cs_qT p0 w_p0) 89 z fun b1 w4 S3 => ya 1 1 z (yz nL5 (yg 0 1 [0] z (yj (S3.rf m0) z (yj (rd_f (S3.rd (List.Mem.tail _ hm1))) z (ya 3 2 z (yb (yp (sj H ▸ yy ⟨I, rfl, lr, S3.drop⟩)))))))))
noncomputable def catalog_Find (p0 : qC) (p1 : By8) : Option (qT × Bool) := (slices_IndexFunc_qT p0.Tables (fun (u0 : qT) => catalog_Find_1 u0 p1)).bind (fun r18 => (bif (decide (r18 ≥ 0)) then (idx p0.Tables r18).bind (fun x19 => (table_Clone x19).bind (fun r25 => some (r25, true))) else some (z_qT, false)))
theorem catalog_Find_ok {p0 : qC} {p1 : By8} {w_p0 : W_qC} (h_p0 : ok_qC I p0 w_p0) (hS : St E w I Os) {r : qT × Bool} (H : catalog_Find p0 p1 = some r) :
    Calls P 43 #[(vC p0 w_p0), (.string p1)] w (fun e w' => ∃ I' w_rw0, e = .returned (.tuple #[(vT r.1 w_rw0), (.bool r.2)]) ∧ I.Le I' ∧ St E w' I' Os ∧ ok_qT I' r.1 w_rw0) := by
 refine calls_W (fn := Tryz.f43) rfl rfl rfl ?_
 unfold catalog_Find at H
 refine yf nL4 (yad hS (cs_qC p0 w_p0) 29 z fun b1 w4 S3 => yad S3 [(.string p1)] 9 z fun b5 w8 S7 => yad S7 (cs_qT z_qT zw_qT) 89 z fun b9 w12 S11 => ya 3 1 z (yb (yi (yf nL5 (yg 0 1 [1] z (yj (S11.rf m2) z (y7 2 9 (.func (.func 76) #[] #[(Pt b5 0)]) (bsk H fun r18 Xr13 H => WO.c1 (slices_IndexFunc_qT_ok h_p0.Tables (fun {F Ic wc} {_} {_} hlc hSc h_u0 {rc} hrc => catalog_Find_1_ok h_u0 (List.mem_append_right _ m1) hSc hrc) (fun _ _ => by kernel_rfl) S11 Xr13) z fun I15 w14 L16 S17 => ya 4 1 z (yz nL2 (ya 0 2 z (yb (y6 H (fun K H => ?_) (fun K H => ?_)))))))))))))
 refine yf nL8 (yg 0 1 [1] z (yj (S17.rf m2) z (ya 2 1 z ?_)))
 obtain ⟨x19, H, Hx19, _, ⟨w_x19, rfl, h_x19⟩, Zx19⟩ := sx I15 h_p0.Tables H
 refine yac 89 6 Hx19 z (yau ((cs_qT x19 w_x19)) Zx19 0 S17.rm z (bsk H fun r25 Xr20 H => yaj (table_Clone_ok h_x19 S17 Xr20) ?_))
 rintro _ w21 ⟨I22, w_r25, rfl, L23, S24, h_r25⟩
 exact cv (yaf S24 0 (cs_qT r25 w_r25) fun w27 S26 => ya 7 1 z (yb (yp (ye (sj H ▸ yba _ (S26.rd m0) ⟨I22, w_r25, rfl, le, S26.d3, h_r25⟩)))))
 exact ym (yc (yf nL3 (y7 0 19 (vT z_qT zw_qT) (yaf S17 0 (cs_qT z_qT zw_qT) fun w32 S31 => ya 2 1 z (yb (yp (sj H ▸ yba _ (S31.rd m0) ⟨I15, zw_qT, rfl, L16, S31.d3, zok_qT⟩)))))))
end Go.Proofs.YtdmapcjbbbifbaaGreat
