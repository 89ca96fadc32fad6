/- What functions of the program come to, each by a plain one. Conditions: none. -/
import Derived.Test.YtdmapcjbbbifbaaGreatF2
import Derived.Test.YtdmapcjbbbifbaaGreatProg
set_option maxRecDepth 100000
namespace Go.Proofs.YtdmapcjbbbifbaaGreat
open Go.Gv
set_option maxHeartbeats 1000000
variable {E w : World} {I : Mem} {Os : List Mem}
noncomputable def r14_wrong (p0 : qTable) : Option Int := (r14_Names p0).bind (fun (r10, r11) => (app 16 ([p0.Name, p0.Owner] : List ByteArray) r10).bind (fun x19 => (app 16 x19 r11).bind (fun x26 => (forN (fun (i40 : Nat) => fun (_s : Unit) => (idx x26 (i40 : Int)).bind (fun x47 => (r09_IsName x47).bind (fun r53 => (bif (!r53) then some (.inr (18 : Int)) else some (.inl ()))))) x26.length 0 ()).bind (fun (t : Unit ⊕ (Int)) => match t with | .inl _ => (bif (decide (p0.Version < 0)) then some 2 else (forN (fun (i64 : Nat) => fun (_s : Unit) => (idx p0.Cols (i64 : Int)).bind (fun x71 => ((bif (decide (x71.Type_ < 1)) then some true else (idx p0.Cols (i64 : Int)).bind (fun x76 => some (decide (x76.Type_ > 3))))).bind (fun (j72 : Bool) => (bif j72 then some (.inr (2 : Int)) else some (.inl ()))))) p0.Cols.length 0 ()).bind (fun (t : Unit ⊕ (Int)) => match t with | .inl _ => (forN (fun (i88 : Nat) => fun (_s : Unit) => (idx p0.Cons (i88 : Int)).bind (fun x95 => ((bif (decide (x95.Kind < 1)) then some true else (idx p0.Cons (i88 : Int)).bind (fun x100 => some (decide (x100.Kind > 3))))).bind (fun (j96 : Bool) => (bif j96 then some (.inr (2 : Int)) else some (.inl ()))))) p0.Cons.length 0 ()).bind (fun (t : Unit ⊕ (Int)) => match t with | .inl _ => (some ((decide ((p0.Cols.length : Int) < 1)) || (decide ((p0.Cols.length : Int) > 6)))).bind (fun (q109 : Bool) => (some ((q109 || (decide ((p0.Cons.length : Int) > 6))) || (decide ((p0.Idx.length : Int) > 3)))).bind (fun (q114 : Bool) => (bif q114 then some 3 else (r14_lists p0).bind (fun r123 => (forN (fun (i127 : Nat) => fun (_s : Unit) => ((bif (decide ((i127 : Int) < (p0.Cons.length : Int))) then (idx p0.Cons (i127 : Int)).bind (fun x138 => some (x138.Kind == 2)) else some false)).bind (fun (j134 : Bool) => ((bif (!j134) then (idx r123 (i127 : Int)).bind (fun x145 => ((bif (decide ((x145.length : Int) < 1)) then some true else (idx r123 (i127 : Int)).bind (fun x150 => some (decide ((x150.length : Int) > 3))))).bind (fun (j146 : Bool) => some j146)) else some false)).bind (fun (j141 : Bool) => (bif j141 then some (.inr (3 : Int)) else ((bif (decide ((i127 : Int) < (p0.Cons.length : Int))) then (idx p0.Cons (i127 : Int)).bind (fun x163 => some (x163.Kind == 3)) else some false)).bind (fun (j159 : Bool) => ((bif j159 then (idx p0.Cons (i127 : Int)).bind (fun x170 => ((bif (decide ((x170.Refs.length : Int) < 1)) then some true else (idx p0.Cons (i127 : Int)).bind (fun x175 => some (decide ((x175.Refs.length : Int) > 3))))).bind (fun (j171 : Bool) => some j171)) else some false)).bind (fun (j166 : Bool) => (bif j166 then some (.inr (3 : Int)) else some (.inl ())))))))) r123.length 0 ()).bind (fun (t : Unit ⊕ (Int)) => match t with | .inl _ => (r14_twice r10).bind (fun r188 => ((bif r188 then some true else (r14_twice r11).bind (fun r198 => some r198))).bind (fun (j189 : Bool) => (bif j189 then some 19 else (forN (fun (i205 : Nat) => fun (_s : Unit) => (idx r123 (i205 : Int)).bind (fun x212 => (r14_twice x212).bind (fun r218 => ((bif r218 then some true else ((bif (decide ((i205 : Int) < (p0.Cons.length : Int))) then (idx p0.Cons (i205 : Int)).bind (fun x227 => (r14_twice x227.Refs).bind (fun r233 => some r233)) else some false)).bind (fun (j223 : Bool) => some j223))).bind (fun (j219 : Bool) => (bif j219 then some (.inr (19 : Int)) else some (.inl ())))))) r123.length 0 ()).bind (fun (t : Unit ⊕ (Int)) => match t with | .inl _ => some 0 | .inr s239 => some s239)))) | .inr s156 => some s156))))) | .inr s104 => some s104) | .inr s80 => some s80)) | .inr s55 => some s55))))
theorem r14_wrong_ok {p0 : qTable} {w_p0 : W_qTable} (h_p0 : ok_qTable I p0 w_p0) (hS : St E w I Os) {r : Int} (hr : r14_wrong p0 = some r) :
    Calls P 125 #[(.agg (cs_qTable p0 w_p0).toArray)] w (fun e w' => ∃ I', e = .returned (Iv r) ∧ I.Le I' ∧ St E w' I' Os) := by
 refine calls_W (fn := Tryz.f125) rfl rfl rfl ?_
 unfold r14_wrong at hr
 refine yd nL2 (yy hS (cs_qTable p0 w_p0) 89 rfl fun b1 w4 hS3 => ya 1 1 rfl (y0 nL7 (yv ((cs_qTable p0 w_p0)) (hS3.rf m0) rfl ?_)))
 obtain ⟨⟨r10, r11⟩, hx_r5, hr⟩ := bsm hr
 refine yab (r14_Names_ok h_p0 hS3 hx_r5) ?_
 rintro _ w6 ⟨I7, a_r10, c_r10, a_r11, c_r11, rfl, hl8, hS9, h_r10, h_r11⟩
 refine ⟨_, rfl, trivial, ?_⟩
 refine ya 2 5 rfl (y0 nL10 (yc 0 1 [0] rfl (yg (hS9.rf m0) rfl (yc 2 1 [1] rfl (yg (hS9.rf m0) rfl (y4 (rel := RStr) (xs := ([p0.Name, p0.Owner] : List ByteArray)) hS9 rfl (by kernel_rfl) rfl 9 1 [[(.string p0.Name)], [(.string p0.Owner)]] (by kernel_rfl) rfl ((Elr.cons rfl (Elr.cons rfl Elr.nil))) (fun _ _ _ => trivial) ?_))))))
 intro a15 C13 w17 hS16 ho14
 refine ya 5 1 rfl ?_
 obtain ⟨x19, hx_x19, hr⟩ := bsm hr
 obtain ⟨h0_x19, he_x19⟩ := app_some hx_x19
 refine yaj 9 16 [(.string (⟨#[]⟩ : ByteArray))] hS16 ho14 h_r10 hS16.im h0_x19 he_x19 rfl fun a20 c21 w22 C23 hS24 ho25 => ya 7 1 rfl ?_
 obtain ⟨x26, hx_x26, hr⟩ := bsm hr
 obtain ⟨h0_x26, he_x26⟩ := app_some hx_x26
 refine yaj 9 16 [(.string (⟨#[]⟩ : ByteArray))] hS24 ho25 h_r11 hS24.im h0_x26 he_x26 rfl ?_
 intro a27 c28 w29 C30 hS31 ho32
 obtain ⟨I33, hl34, hS36, hp35⟩ := y6 ho32 hS31
 refine ya 9 1 rfl (yb (yf (yd [0] (ya 0 1 rfl (yb (W.block (bsk hr fun t37 hloop41 hr => have hlt45 := (hp35).len_lt; W.wk (W.forN (m := x26.length) hloop41 (fun (i40 : Nat) => fun (_s : Unit) fr w => ∃ I38, fr = [(1, Pt b1 0), (3, Sl a_r10 r10 c_r10), (4, Sl a_r11 r11 c_r11), (5, Sl a27 x26 c28), (6, Nv i40)] ∧ I33.Le I38 ∧ St E w I38 ((Bx b1 (cs_qTable p0 w_p0) 89) :: Os)) ⟨I33, rfl, lr, hS36⟩ ?_ ?_))))))))
 rintro i40 _ _ w42 hi46 ⟨I38, rfl, hl39, hS43⟩ x44 hr1 hext37
 refine yf (yd nL4 (ya 0 4 rfl (yb (yah fun _ => yi (En.next (yf (W.block (yd nL6 (ya 0 2 rfl ?_)))))))))
 obtain ⟨x47, hr1, hb_x47, _, rfl, hc_x47⟩ := sl_ix ((RSl.mono hp35 hl39)) hr1
 refine y3 9 1 hb_x47 rfl (yaf hc_x47 hS43.rm rfl (bsk hr1 fun r53 hx_r48 hr1 => WO.c1 (r09_IsName_ok  hS43 hx_r48) rfl fun I50 w49 hl51 hS52 => ya 5 1 rfl (yb (W.cb hr1 (fun hc hr1 => ?_) (fun hc hr1 => ?_)))))
 refine yd [0] (ya 0 1 rfl (yb (W.ret (yj (ye (yp ?_))))))
 obtain rfl := hext37 _ (sj hr1).symm
 refine yj (ye ?_)
 obtain rfl := sj hr
 exact yu ⟨I50, rfl, le, hS52.drop⟩
 exact yi (yk (En.next (yaa nL3 (ya 0 1 rfl (yae i40 rfl (ya 2 1 rfl (WO.nil (yq ⟨(), (sj hr1).symm, I50, rfl, le, hS52⟩))))))))
 rintro _ _ w58 ⟨I38, rfl, hl39, hS59⟩ he
 cases he
 refine yf (yd nL4 (ya 0 4 rfl (yb (yai fun _ => yz (ym (yn (yo (En.next (yf (yd nL3 (yc 0 1 [2] rfl (yg (hS59.rf m0) rfl (ya 2 1 rfl (yb (W.cb hr (fun hc hr => ?_) (fun hc hr => ?_))))))))))))))))
 refine yd [0] (ya 0 1 rfl (yb (W.ret (ye ?_))))
 obtain rfl := sj hr
 exact yu ⟨I38, rfl, le, hS59.drop⟩
 refine yi (En.next (yf (yd [0] (ya 0 1 rfl (yb (W.block (bsk hr fun t61 hloop65 hr => have hlt69 := ((RSl.mono h_p0.Cols ((hl8.trans hl34).trans hl39))).len_lt; W.wk (W.forN (m := p0.Cols.length) hloop65 (fun (i64 : Nat) => fun (_s : Unit) fr w => ∃ I62, fr = [(1, Pt b1 0), (3, Sl a_r10 r10 c_r10), (4, Sl a_r11 r11 c_r11), (7, Nv i64)] ∧ I38.Le I62 ∧ St E w I62 ((Bx b1 (cs_qTable p0 w_p0) 89) :: Os)) ⟨I38, rfl, lr, hS59⟩ ?_ ?_))))))))
 rintro i64 _ _ w66 hi70 ⟨I62, rfl, hl63, hS67⟩ x68 hr1 hext61
 refine yf (yd nL5 (yc 0 2 [3] rfl (yg (hS67.rf m0) rfl (ya 3 2 rfl (yb (yah fun _ => yi (En.next (yf (W.block (yd nL16 (yc 0 1 [3] rfl (yg (hS67.rf m0) rfl (ya 2 1 rfl ?_)))))))))))))
 obtain ⟨x71, hr1, hb_x71, _, rfl, hc_x71⟩ := sl_ix ((RSl.mono h_p0.Cols (((hl8.trans hl34).trans hl39).trans hl63))) hr1
 refine y3 73 3 hb_x71 rfl (yc 4 1 [1] rfl (yal hc_x71 1 hS67.rm rfl (ya 6 2 rfl (bsk hr1 fun j72 hr2 hr1 => WO.jw (l1 := [8, 9, 10, 11, 12, 13, 14, 15]) (J := (fun fr w => ∃ I74, fr = [(1, Pt b1 0), (3, Sl a_r10 r10 c_r10), (4, Sl a_r11 r11 c_r11), (7, Nv i64), (64, .bool j72)] ∧ I62.Le I74 ∧ St E w I74 ((Bx b1 (cs_qTable p0 w_p0) 89) :: Os))) ?_ ?_))))
 refine WO.cb hr2 (fun hc hr2 => ?_) (fun hc hr2 => ?_)
 refine yl 56 hc ?_
 iterate 7 refine yt ?_
 refine yh 15 64 (.bool true) ?_
 obtain rfl := sj hr2
 exact yw ⟨I62, rfl, lr, hS67⟩
 refine yl 56 hc (yc 8 1 [3] rfl (yg (hS67.rf m0) rfl (ya 10 1 rfl ?_)))
 obtain ⟨x76, hr2, hb_x76, _, rfl, hc_x76⟩ := sl_ix ((RSl.mono h_p0.Cols (((hl8.trans hl34).trans hl39).trans hl63))) hr2
 refine y3 73 3 hb_x76 rfl (yc 12 1 [1] rfl (yal hc_x76 1 hS67.rm rfl (ya 14 1 rfl (yh 15 64 (.bool (decide (x76.Type_ > 3))) ?_))))
 obtain rfl := sj hr2
 exact yw ⟨I62, rfl, lr, hS67⟩
 rintro _ w77 ⟨I74, rfl, hl75, hS78⟩
 refine yb (W.cb hr1 (fun hc hr1 => ?_) (fun hc hr1 => ?_))
 refine yd [0] (ya 0 1 rfl (yb (W.ret (yj (ye (yp ?_))))))
 obtain rfl := hext61 _ (sj hr1).symm
 refine yj (ye ?_)
 obtain rfl := sj hr
 exact yu ⟨I74, rfl, le, hS78.drop⟩
 exact yi (yk (En.next (yaa nL3 (ya 0 1 rfl (yae i64 rfl (ya 2 1 rfl (WO.nil (yq ⟨(), (sj hr1).symm, I74, rfl, le, hS78⟩))))))))
 rintro _ _ w83 ⟨I62, rfl, hl63, hS84⟩ he
 cases he
 refine yf (yd nL5 (yc 0 2 [3] rfl (yg (hS84.rf m0) rfl (ya 3 2 rfl (yb (yai fun _ => yz (ym (yn (yo (En.next (yf (yd [0] (ya 0 1 rfl (yb (W.block (bsk hr fun t85 hloop89 hr => have hlt93 := ((RSl.mono h_p0.Cons (((hl8.trans hl34).trans hl39).trans hl63))).len_lt; W.wk (W.forN (m := p0.Cons.length) hloop89 (fun (i88 : Nat) => fun (_s : Unit) fr w => ∃ I86, fr = [(1, Pt b1 0), (3, Sl a_r10 r10 c_r10), (4, Sl a_r11 r11 c_r11), (8, Nv i88)] ∧ I62.Le I86 ∧ St E w I86 ((Bx b1 (cs_qTable p0 w_p0) 89) :: Os)) ⟨I62, rfl, lr, hS84⟩ ?_ ?_)))))))))))))))))
 rintro i88 _ _ w90 hi94 ⟨I86, rfl, hl87, hS91⟩ x92 hr1 hext85
 refine yf (yd nL5 (yc 0 2 [4] rfl (yg (hS91.rf m0) rfl (ya 3 2 rfl (yb (yah fun _ => yi (En.next (yf (W.block (yd nL16 (yc 0 1 [4] rfl (yg (hS91.rf m0) rfl (ya 2 1 rfl ?_)))))))))))))
 obtain ⟨x95, hr1, hb_x95, _, ⟨w_x95, rfl, h_x95⟩, hc_x95⟩ := sl_ix ((RSl.mono h_p0.Cons ((((hl8.trans hl34).trans hl39).trans hl63).trans hl87))) hr1
 refine y3 100 12 hb_x95 rfl (yc 4 1 [1] rfl (yal hc_x95 1 hS91.rm rfl (ya 6 2 rfl (bsk hr1 fun j96 hr2 hr1 => WO.jw (l1 := [8, 9, 10, 11, 12, 13, 14, 15]) (J := (fun fr w => ∃ I98, fr = [(1, Pt b1 0), (3, Sl a_r10 r10 c_r10), (4, Sl a_r11 r11 c_r11), (8, Nv i88), (87, .bool j96)] ∧ I86.Le I98 ∧ St E w I98 ((Bx b1 (cs_qTable p0 w_p0) 89) :: Os))) ?_ ?_))))
 refine WO.cb hr2 (fun hc hr2 => ?_) (fun hc hr2 => ?_)
 refine yl 79 hc ?_
 iterate 7 refine yt ?_
 refine yh 15 87 (.bool true) ?_
 obtain rfl := sj hr2
 exact yw ⟨I86, rfl, lr, hS91⟩
 refine yl 79 hc (yc 8 1 [4] rfl (yg (hS91.rf m0) rfl (ya 10 1 rfl ?_)))
 obtain ⟨x100, hr2, hb_x100, _, ⟨w_x100, rfl, h_x100⟩, hc_x100⟩ := sl_ix ((RSl.mono h_p0.Cons ((((hl8.trans hl34).trans hl39).trans hl63).trans hl87))) hr2
 refine y3 100 12 hb_x100 rfl (yc 12 1 [1] rfl (yal hc_x100 1 hS91.rm rfl (ya 14 1 rfl (yh 15 87 (.bool (decide (x100.Kind > 3))) ?_))))
 obtain rfl := sj hr2
 exact yw ⟨I86, rfl, lr, hS91⟩
 rintro _ w101 ⟨I98, rfl, hl99, hS102⟩
 refine yb (W.cb hr1 (fun hc hr1 => ?_) (fun hc hr1 => ?_))
 refine yd [0] (ya 0 1 rfl (yb (W.ret (yj (ye (yp ?_))))))
 obtain rfl := hext85 _ (sj hr1).symm
 refine yj (ye ?_)
 obtain rfl := sj hr
 exact yu ⟨I98, rfl, le, hS102.drop⟩
 exact yi (yk (En.next (yaa nL3 (ya 0 1 rfl (yae i88 rfl (ya 2 1 rfl (WO.nil (yq ⟨(), (sj hr1).symm, I98, rfl, le, hS102⟩))))))))
 rintro _ _ w107 ⟨I86, rfl, hl87, hS108⟩ he
 cases he
 refine yf (yd nL5 (yc 0 2 [4] rfl (yg (hS108.rf m0) rfl (ya 3 2 rfl (yb (yai fun _ => yz (ym (yn (yo (En.next (yf (yd nL22 (yc 0 1 [3] rfl (yg (hS108.rf m0) rfl (ya 2 3 rfl ?_)))))))))))))))
 obtain ⟨q109, hx_q109, hr⟩ := bsm hr
 replace hx_q109 := sj hx_q109
 refine yac (l1 := [5, 6, 7, 8, 9]) 97 q109 ?_ ?_
 refine yr (decide ((p0.Cols.length : Int) < 1)) (fun hc => ?_) (fun hc => ?_)
 refine yl 92 hc ?_
 iterate 4 refine yt ?_
 exact yh 9 97 (.bool true) (WO.mk 92 hc (by rw [← hx_q109, hc]; rfl))
 exact yl 92 hc (yc 5 1 [3] rfl (yg (hS108.rf m0) rfl (ya 7 2 rfl (yh 9 97 (.bool (decide ((p0.Cols.length : Int) > 6))) (WO.mk 92 hc (by rw [← hx_q109, hc]; rfl))))))
 refine ya 10 1 rfl (yac (l1 := [11, 12, 13, 14, 15]) 103 (q109 || (decide ((p0.Cons.length : Int) > 6))) ?_ ?_)
 refine yr q109 (fun hc => ?_) (fun hc => ?_)
 refine yl 98 hc ?_
 iterate 4 refine yt ?_
 exact yh 15 103 (.bool true) (WO.mk 98 hc (by rw [hc]; rfl))
 exact yl 98 hc (yc 11 1 [4] rfl (yg (hS108.rf m0) rfl (ya 13 2 rfl (yh 15 103 (.bool (decide ((p0.Cons.length : Int) > 6))) (WO.mk 98 hc (by rw [hc]; rfl))))))
 refine ya 16 1 rfl ?_
 obtain ⟨q114, hx_q114, hr⟩ := bsm hr
 replace hx_q114 := sj hx_q114
 refine yac (l1 := [17, 18, 19, 20, 21]) 109 q114 ?_ ?_
 refine yr (q109 || (decide ((p0.Cons.length : Int) > 6))) (fun hc => ?_) (fun hc => ?_)
 refine yl 104 hc ?_
 iterate 4 refine yt ?_
 exact yh 21 109 (.bool true) (WO.mk 104 hc (by rw [← hx_q114, hc]; rfl))
 exact yl 104 hc (yc 17 1 [5] rfl (yg (hS108.rf m0) rfl (ya 19 2 rfl (yh 21 109 (.bool (decide ((p0.Idx.length : Int) > 3))) (WO.mk 104 hc (by rw [← hx_q114, hc]; rfl))))))
 refine yb (W.cb hr (fun hc hr => ?_) (fun hc hr => ?_))
 refine yd [0] (ya 0 1 rfl (yb (W.ret (ye ?_))))
 obtain rfl := sj hr
 exact yu ⟨I86, rfl, le, hS108.drop⟩
 refine yi (En.next (yd nL3 (yv ((cs_qTable p0 w_p0)) (hS108.rf m0) rfl (bsk hr fun r123 hx_r118 hr => yab (r14_lists_ok (h_p0.mono le) hS108 hx_r118) ?_))))
 rintro _ w119 ⟨I120, a_r123, c_r123, rfl, hl121, hS122, h_r123⟩
 refine ⟨_, rfl, trivial, ?_⟩
 refine ya 2 1 rfl (yb (yf (yd [0] (ya 0 1 rfl (yb (W.block (bsk hr fun t124 hloop128 hr => have hlt132 := (h_r123).len_lt; W.wk (W.forN (m := r123.length) hloop128 (fun (i127 : Nat) => fun (_s : Unit) fr w => ∃ I125, fr = [(1, Pt b1 0), (3, Sl a_r10 r10 c_r10), (4, Sl a_r11 r11 c_r11), (9, Sl a_r123 r123 c_r123), (10, Nv i127)] ∧ I120.Le I125 ∧ St E w I125 ((Bx b1 (cs_qTable p0 w_p0) 89) :: Os)) ⟨I120, rfl, lr, hS122⟩ ?_ ?_))))))))
 rintro i127 _ _ w129 hi133 ⟨I125, rfl, hl126, hS130⟩ x131 hr1 hext124
 refine yf (yd nL4 (ya 0 4 rfl (yb (yah fun _ => yi (En.next (yf (W.block (yd nL15 (yc 0 2 [4] rfl (yg (hS130.rf m0) rfl (ya 3 3 rfl (bsk hr1 fun j134 hr2 hr1 => WO.jw (l1 := [6, 7, 8, 9, 10, 11, 12, 13]) (J := (fun fr w => ∃ I136, fr = [(1, Pt b1 0), (3, Sl a_r10 r10 c_r10), (4, Sl a_r11 r11 c_r11), (9, Sl a_r123 r123 c_r123), (10, Nv i127), (131, .bool j134)] ∧ I125.Le I136 ∧ St E w I136 ((Bx b1 (cs_qTable p0 w_p0) 89) :: Os))) ?_ ?_))))))))))))
 refine WO.cb hr2 (fun hc hr2 => ?_) (fun hc hr2 => ?_)
 refine yl 123 hc (yc 6 1 [4] rfl (yg (hS130.rf m0) rfl (ya 8 1 rfl ?_)))
 obtain ⟨x138, hr2, hb_x138, _, ⟨w_x138, rfl, h_x138⟩, hc_x138⟩ := sl_ix ((RSl.mono h_p0.Cons ((((((hl8.trans hl34).trans hl39).trans hl63).trans hl87).trans hl121).trans hl126))) hr2
 refine y3 100 12 hb_x138 rfl (yc 10 1 [1] rfl (yal hc_x138 1 hS130.rm rfl (ya 12 1 rfl (yh 13 131 (.bool (x138.Kind == 2)) ?_))))
 obtain rfl := sj hr2
 exact yw ⟨I125, rfl, lr, hS130⟩
 refine yl 123 hc ?_
 iterate 7 refine yt ?_
 refine yh 13 131 (.bool false) ?_
 obtain rfl := sj hr2
 exact yw ⟨I125, rfl, lr, hS130⟩
 rintro _ w139 ⟨I136, rfl, hl137, hS140⟩
 refine ya 14 1 rfl (yb (yf (yd nL18 (ya 0 3 rfl (bsk hr1 fun j141 hr2 hr1 => WO.jw (l1 := [3, 4, 5, 6, 7, 8, 9, 10, 11, 12, 13, 14, 15, 16, 17]) (J := (fun fr w => ∃ I143, fr = [(1, Pt b1 0), (3, Sl a_r10 r10 c_r10), (4, Sl a_r11 r11 c_r11), (9, Sl a_r123 r123 c_r123), (10, Nv i127), (149, .bool j141)] ∧ I136.Le I143 ∧ St E w I143 ((Bx b1 (cs_qTable p0 w_p0) 89) :: Os))) ?_ ?_)))))
 refine WO.cb hr2 (fun hc hr2 => ?_) (fun hc hr2 => ?_)
 refine yl 134 hc (ya 3 2 rfl ?_)
 obtain ⟨x145, hx_x145, hr2⟩ := bsm hr2
 obtain ⟨h0_x145, h1_x145, hx_x145⟩ := idx_some hx_x145
 obtain ⟨ha_x145, cs_x145, hn_x145, hr_x145, hc_x145⟩ := ((RSl.mono h_r123 (hl126.trans hl137))).el _ _ hx_x145
 obtain ⟨a_x145, c_x145, rfl, h_x145⟩ := hr_x145
 refine yaq 33 1 ha_x145 h0_x145 h1_x145 ?_
 refine yaf hc_x145 hS140.rm rfl (ya 7 3 rfl (bsk hr2 fun j146 hr3 hr2 => WO.jw (l1 := [10, 11, 12, 13, 14, 15, 16]) (J := (fun fr w => ∃ I148, fr = [(1, Pt b1 0), (3, Sl a_r10 r10 c_r10), (4, Sl a_r11 r11 c_r11), (9, Sl a_r123 r123 c_r123), (10, Nv i127), (134, .bool true), (148, .bool j146)] ∧ I136.Le I148 ∧ St E w I148 ((Bx b1 (cs_qTable p0 w_p0) 89) :: Os))) ?_ ?_))
 refine WO.cb hr3 (fun hc hr3 => ?_) (fun hc hr3 => ?_)
 refine yl 141 hc ?_
 iterate 6 refine yt ?_
 refine yh 16 148 (.bool true) ?_
 obtain rfl := sj hr3
 exact yw ⟨I136, rfl, lr, hS140⟩
 refine yl 141 hc (ya 10 2 rfl ?_)
 obtain ⟨x150, hx_x150, hr3⟩ := bsm hr3
 obtain ⟨h0_x150, h1_x150, hx_x150⟩ := idx_some hx_x150
 obtain ⟨ha_x150, cs_x150, hn_x150, hr_x150, hc_x150⟩ := ((RSl.mono h_r123 (hl126.trans hl137))).el _ _ hx_x150
 obtain ⟨a_x150, c_x150, rfl, h_x150⟩ := hr_x150
 refine yaq 33 1 ha_x150 h0_x150 h1_x150 ?_
 refine yaf hc_x150 hS140.rm rfl (ya 14 2 rfl (yh 16 148 (.bool (decide ((x150.length : Int) > 3))) ?_))
 obtain rfl := sj hr3
 exact yw ⟨I136, rfl, lr, hS140⟩
 rintro _ w151 ⟨I148, rfl, hl149, hS152⟩
 refine yh 17 149 (.bool j146) ?_
 obtain rfl := sj hr2
 exact yw ⟨I148, rfl, hl149, hS152⟩
 refine yl 134 hc ?_
 iterate 14 refine yt ?_
 refine yh 17 149 (.bool false) ?_
 obtain rfl := sj hr2
 exact yw ⟨I136, rfl, lr, hS140⟩
 rintro _ w153 ⟨I143, rfl, hl144, hS154⟩
 refine yb (W.cb hr1 (fun hc hr1 => ?_) (fun hc hr1 => ?_))
 refine yd [0] (ya 0 1 rfl (yb (W.ret (ye (yj (ye (yp ?_)))))))
 obtain rfl := hext124 _ (sj hr1).symm
 refine yj (ye ?_)
 obtain rfl := sj hr
 exact yu ⟨I143, rfl, le, hS154.drop⟩
 refine yi (En.next (yd nL34 (yc 0 2 [4] rfl (yg (hS154.rf m0) rfl (ya 3 3 rfl (bsk hr1 fun j159 hr2 hr1 => WO.jw (l1 := [6, 7, 8, 9, 10, 11, 12, 13]) (J := (fun fr w => ∃ I161, fr = [(1, Pt b1 0), (3, Sl a_r10 r10 c_r10), (4, Sl a_r11 r11 c_r11), (9, Sl a_r123 r123 c_r123), (10, Nv i127), (163, .bool j159)] ∧ I143.Le I161 ∧ St E w I161 ((Bx b1 (cs_qTable p0 w_p0) 89) :: Os))) ?_ ?_))))))
 refine WO.cb hr2 (fun hc hr2 => ?_) (fun hc hr2 => ?_)
 refine yl 155 hc (yc 6 1 [4] rfl (yg (hS154.rf m0) rfl (ya 8 1 rfl ?_)))
 obtain ⟨x163, hr2, hb_x163, _, ⟨w_x163, rfl, h_x163⟩, hc_x163⟩ := sl_ix ((RSl.mono h_p0.Cons ((((((((hl8.trans hl34).trans hl39).trans hl63).trans hl87).trans hl121).trans hl126).trans hl137).trans hl144))) hr2
 refine y3 100 12 hb_x163 rfl (yc 10 1 [1] rfl (yal hc_x163 1 hS154.rm rfl (ya 12 1 rfl (yh 13 163 (.bool (x163.Kind == 3)) ?_))))
 obtain rfl := sj hr2
 exact yw ⟨I143, rfl, lr, hS154⟩
 refine yl 155 hc ?_
 iterate 7 refine yt ?_
 refine yh 13 163 (.bool false) ?_
 obtain rfl := sj hr2
 exact yw ⟨I143, rfl, lr, hS154⟩
 rintro _ w164 ⟨I161, rfl, hl162, hS165⟩
 refine ya 14 1 rfl (bsk hr1 fun j166 hr2 hr1 => WO.jw (l1 := [15, 16, 17, 18, 19, 20, 21, 22, 23, 24, 25, 26, 27, 28, 29, 30, 31, 32, 33]) (J := (fun fr w => ∃ I168, fr = [(1, Pt b1 0), (3, Sl a_r10 r10 c_r10), (4, Sl a_r11 r11 c_r11), (9, Sl a_r123 r123 c_r123), (10, Nv i127), (183, .bool j166)] ∧ I161.Le I168 ∧ St E w I168 ((Bx b1 (cs_qTable p0 w_p0) 89) :: Os))) ?_ ?_)
 refine WO.cb hr2 (fun hc hr2 => ?_) (fun hc hr2 => ?_)
 refine yl 164 hc (yc 15 1 [4] rfl (yg (hS165.rf m0) rfl (ya 17 1 rfl ?_)))
 obtain ⟨x170, hr2, hb_x170, _, ⟨w_x170, rfl, h_x170⟩, hc_x170⟩ := sl_ix ((RSl.mono h_p0.Cons (((((((((hl8.trans hl34).trans hl39).trans hl63).trans hl87).trans hl121).trans hl126).trans hl137).trans hl144).trans hl162))) hr2
 refine y3 100 12 hb_x170 rfl (yc 19 1 [11] rfl (yal hc_x170 11 hS165.rm rfl (ya 21 3 rfl (bsk hr2 fun j171 hr3 hr2 => WO.jw (l1 := [24, 25, 26, 27, 28, 29, 30, 31, 32]) (J := (fun fr w => ∃ I173, fr = [(1, Pt b1 0), (3, Sl a_r10 r10 c_r10), (4, Sl a_r11 r11 c_r11), (9, Sl a_r123 r123 c_r123), (10, Nv i127), (164, .bool true), (182, .bool j171)] ∧ I161.Le I173 ∧ St E w I173 ((Bx b1 (cs_qTable p0 w_p0) 89) :: Os))) ?_ ?_))))
 refine WO.cb hr3 (fun hc hr3 => ?_) (fun hc hr3 => ?_)
 refine yl 173 hc ?_
 iterate 8 refine yt ?_
 refine yh 32 182 (.bool true) ?_
 obtain rfl := sj hr3
 exact yw ⟨I161, rfl, lr, hS165⟩
 refine yl 173 hc (yc 24 1 [4] rfl (yg (hS165.rf m0) rfl (ya 26 1 rfl ?_)))
 obtain ⟨x175, hr3, hb_x175, _, ⟨w_x175, rfl, h_x175⟩, hc_x175⟩ := sl_ix ((RSl.mono h_p0.Cons (((((((((hl8.trans hl34).trans hl39).trans hl63).trans hl87).trans hl121).trans hl126).trans hl137).trans hl144).trans hl162))) hr3
 refine y3 100 12 hb_x175 rfl (yc 28 1 [11] rfl (yal hc_x175 11 hS165.rm rfl (ya 30 2 rfl (yh 32 182 (.bool (decide ((x175.Refs.length : Int) > 3))) ?_))))
 obtain rfl := sj hr3
 exact yw ⟨I161, rfl, lr, hS165⟩
 rintro _ w176 ⟨I173, rfl, hl174, hS177⟩
 refine yh 33 183 (.bool j171) ?_
 obtain rfl := sj hr2
 exact yw ⟨I173, rfl, hl174, hS177⟩
 refine yl 164 hc ?_
 iterate 18 refine yt ?_
 refine yh 33 183 (.bool false) ?_
 obtain rfl := sj hr2
 exact yw ⟨I161, rfl, lr, hS165⟩
 rintro _ w178 ⟨I168, rfl, hl169, hS179⟩
 refine yb (W.cb hr1 (fun hc hr1 => ?_) (fun hc hr1 => ?_))
 refine yd [0] (ya 0 1 rfl (yb (W.ret (yj (ye (yp ?_))))))
 obtain rfl := hext124 _ (sj hr1).symm
 refine yj (ye ?_)
 obtain rfl := sj hr
 exact yu ⟨I168, rfl, le, hS179.drop⟩
 exact yi (yk (En.next (yaa nL3 (ya 0 1 rfl (yae i127 rfl (ya 2 1 rfl (WO.nil (yq ⟨(), (sj hr1).symm, I168, rfl, le, hS179⟩))))))))
 rintro _ _ w181 ⟨I125, rfl, hl126, hS182⟩ he
 cases he
 refine yf (yd nL4 (ya 0 4 rfl (yb (yai fun _ => yz (ym (yn (yo (En.next (yf (yd nL6 (ya 0 1 rfl (bsk hr fun r188 hx_r183 hr => WO.c1 (r14_twice_ok (RSl.mono h_r10 le) hS182 hx_r183) rfl fun I185 w184 hl186 hS187 => ya 2 1 rfl (bsk hr fun j189 hr1 hr => WO.jw (l1 := [3, 4, 5]) (J := (fun fr w => ∃ I191, fr = [(1, Pt b1 0), (9, Sl a_r123 r123 c_r123), (189, .bool j189)] ∧ I185.Le I191 ∧ St E w I191 ((Bx b1 (cs_qTable p0 w_p0) 89) :: Os))) ?_ ?_)))))))))))))
 refine WO.cb hr1 (fun hc hr1 => ?_) (fun hc hr1 => ?_)
 refine yl 186 hc ?_
 iterate 2 refine yt ?_
 refine yh 5 189 (.bool true) ?_
 obtain rfl := sj hr1
 exact yw ⟨I185, rfl, lr, hS187⟩
 refine yl 186 hc (ya 3 1 rfl (bsk hr1 fun r198 hx_r193 hr1 => WO.c1 (r14_twice_ok (RSl.mono h_r11 le) hS187 hx_r193) rfl fun I195 w194 hl196 hS197 => yh 5 189 (.bool r198) ?_))
 obtain rfl := sj hr1
 exact yw ⟨I195, rfl, hl196, hS197⟩
 rintro _ w199 ⟨I191, rfl, hl192, hS200⟩
 refine yb (W.cb hr (fun hc hr => ?_) (fun hc hr => ?_))
 refine yd [0] (ya 0 1 rfl (yb (W.ret (ye ?_))))
 obtain rfl := sj hr
 exact yu ⟨I191, rfl, le, hS200.drop⟩
 refine yi (En.next (yf (yd [0] (ya 0 1 rfl (yb (W.block (bsk hr fun t202 hloop206 hr => have hlt210 := ((RSl.mono h_r123 ((hl126.trans hl186).trans hl192))).len_lt; W.wk (W.forN (m := r123.length) hloop206 (fun (i205 : Nat) => fun (_s : Unit) fr w => ∃ I203, fr = [(1, Pt b1 0), (9, Sl a_r123 r123 c_r123), (12, Nv i205)] ∧ I191.Le I203 ∧ St E w I203 ((Bx b1 (cs_qTable p0 w_p0) 89) :: Os)) ⟨I191, rfl, lr, hS200⟩ ?_ ?_))))))))
 rintro i205 _ _ w207 hi211 ⟨I203, rfl, hl204, hS208⟩ x209 hr1 hext202
 refine yf (yd nL4 (ya 0 4 rfl (yb (yah fun _ => yi (En.next (yf (W.block (yd nL21 (ya 0 2 rfl ?_)))))))))
 obtain ⟨x212, hx_x212, hr1⟩ := bsm hr1
 obtain ⟨h0_x212, h1_x212, hx_x212⟩ := idx_some hx_x212
 obtain ⟨ha_x212, cs_x212, hn_x212, hr_x212, hc_x212⟩ := ((RSl.mono h_r123 (((hl126.trans hl186).trans hl192).trans hl204))).el _ _ hx_x212
 obtain ⟨a_x212, c_x212, rfl, h_x212⟩ := hr_x212
 refine yaq 33 1 ha_x212 h0_x212 h1_x212 ?_
 refine yaf hc_x212 hS208.rm rfl (bsk hr1 fun r218 hx_r213 hr1 => WO.c1 (r14_twice_ok h_x212 hS208 hx_r213) rfl fun I215 w214 hl216 hS217 => ya 5 1 rfl (bsk hr1 fun j219 hr2 hr1 => WO.jw (l1 := [6, 7, 8, 9, 10, 11, 12, 13, 14, 15, 16, 17, 18, 19, 20]) (J := (fun fr w => ∃ I221, fr = [(1, Pt b1 0), (9, Sl a_r123 r123 c_r123), (12, Nv i205), (216, .bool j219)] ∧ I215.Le I221 ∧ St E w I221 ((Bx b1 (cs_qTable p0 w_p0) 89) :: Os))) ?_ ?_))
 refine WO.cb hr2 (fun hc hr2 => ?_) (fun hc hr2 => ?_)
 refine yl 201 hc ?_
 iterate 14 refine yt ?_
 refine yh 20 216 (.bool true) ?_
 obtain rfl := sj hr2
 exact yw ⟨I215, rfl, lr, hS217⟩
 refine yl 201 hc (yc 6 2 [4] rfl (yg (hS217.rf m0) rfl (ya 9 3 rfl (bsk hr2 fun j223 hr3 hr2 => WO.jw (l1 := [12, 13, 14, 15, 16, 17, 18, 19]) (J := (fun fr w => ∃ I225, fr = [(1, Pt b1 0), (9, Sl a_r123 r123 c_r123), (12, Nv i205), (201, .bool false), (215, .bool j223)] ∧ I215.Le I225 ∧ St E w I225 ((Bx b1 (cs_qTable p0 w_p0) 89) :: Os))) ?_ ?_))))
 refine WO.cb hr3 (fun hc hr3 => ?_) (fun hc hr3 => ?_)
 refine yl 207 hc (yc 12 1 [4] rfl (yg (hS217.rf m0) rfl (ya 14 1 rfl ?_)))
 obtain ⟨x227, hr3, hb_x227, _, ⟨w_x227, rfl, h_x227⟩, hc_x227⟩ := sl_ix ((RSl.mono h_p0.Cons ((((((((((hl8.trans hl34).trans hl39).trans hl63).trans hl87).trans hl121).trans hl126).trans hl186).trans hl192).trans hl204).trans hl216))) hr3
 refine y3 100 12 hb_x227 rfl (yc 16 1 [11] rfl (yal hc_x227 11 hS217.rm rfl (bsk hr3 fun r233 hx_r228 hr3 => WO.c1 (r14_twice_ok h_x227.Refs hS217 hx_r228) rfl fun I230 w229 hl231 hS232 => yh 19 215 (.bool r233) ?_)))
 obtain rfl := sj hr3
 exact yw ⟨I230, rfl, hl231, hS232⟩
 refine yl 207 hc ?_
 iterate 7 refine yt ?_
 refine yh 19 215 (.bool false) ?_
 obtain rfl := sj hr3
 exact yw ⟨I215, rfl, lr, hS217⟩
 rintro _ w234 ⟨I225, rfl, hl226, hS235⟩
 refine yh 20 216 (.bool j223) ?_
 obtain rfl := sj hr2
 exact yw ⟨I225, rfl, hl226, hS235⟩
 rintro _ w236 ⟨I221, rfl, hl222, hS237⟩
 refine yb (W.cb hr1 (fun hc hr1 => ?_) (fun hc hr1 => ?_))
 refine yd [0] (ya 0 1 rfl (yb (W.ret (yj (ye (yp ?_))))))
 obtain rfl := hext202 _ (sj hr1).symm
 refine yj (ye ?_)
 obtain rfl := sj hr
 exact yu ⟨I221, rfl, le, hS237.drop⟩
 exact yi (yk (En.next (yaa nL3 (ya 0 1 rfl (yae i205 rfl (ya 2 1 rfl (WO.nil (yq ⟨(), (sj hr1).symm, I221, rfl, le, hS237⟩))))))))
 rintro _ _ w242 ⟨I203, rfl, hl204, hS243⟩ he
 cases he
 refine yf (yd nL4 (ya 0 4 rfl (yb (yai fun _ => yz (ym (yn (yo (En.next (yd [0] (ya 0 1 rfl (yb (W.ret ?_))))))))))))
 obtain rfl := sj hr
 exact yu ⟨I203, rfl, le, hS243.drop⟩
def r10_Height_fu : Nat → qExpr → Option Int
  | 0, _ => none
  | fu + 1, p0 => (forE (fun (i9 : Nat) => fun (s8 : Int) => (idx p0.Kids (i9 : Int)).bind (fun x16 => (r10_Height_fu fu x16).bind (fun r22 => ((bif (decide (r22 > s8)) then some r22 else some s8)).bind (fun (j23 : Int) => some j23)))) p0.Kids.length 0 0).bind (fun s8 => some (w64 (s8 + 1)))
noncomputable def r10_Height (p0 : qExpr) : Option Int := anyFuel (fun fu => r10_Height_fu fu p0)
theorem r10_Height_fu_ok : ∀ (fu : Nat) {E w : World} {I : Mem} {Os : List Mem} {p0 : qExpr} {w_p0 : W_qExpr} (h_p0 : ok_qExpr I p0 w_p0) (hS : St E w I Os) {r : Int} (hr : r10_Height_fu fu p0 = some r),
    Calls P 154 #[(.agg (cs_qExpr p0 w_p0).toArray)] w (fun e w' => ∃ I', e = .returned (Iv r) ∧ I.Le I' ∧ St E w' I' Os) := by
 intro fu
 induction fu with
 | zero => intro E w I Os p0 w_p0 h_p0 hS r hr; cases hr
 | succ fu ih =>
 intro E w I Os p0 w_p0 h_p0 hS r hr
 refine calls_W (fn := Tryz.f154) rfl rfl rfl ?_
 unfold r10_Height_fu at hr
 refine yd nL2 (yy hS (cs_qExpr p0 w_p0) 39 rfl fun b1 w4 hS3 => ya 1 1 rfl (y0 [0] (ya 0 1 rfl (yb (yf (yd [0] (ya 0 1 rfl (yb (W.block (bsk hr fun s8 hloop10 hr => have hlt14 := (h_p0.Kids).len_lt; W.wk (W.forE (m := p0.Kids.length) hloop10 (fun (i9 : Nat) => fun (s8 : Int) fr w => ∃ I6, fr = [(1, Pt b1 0), (3, Iv s8), (4, Nv i9)] ∧ I.Le I6 ∧ St E w I6 ((Bx b1 (cs_qExpr p0 w_p0) 39) :: Os)) ⟨I, rfl, lr, hS3⟩ ?_ ?_)))))))))))
 rintro i9 s8 _ w11 hi15 ⟨I6, rfl, hl7, hS12⟩ x13 hr1
 refine yf (yd nL5 (yc 0 2 [6] rfl (yg (hS12.rf m0) rfl (ya 3 2 rfl (yb (yah fun _ => yi (En.next (yf (W.block (yd nL7 (yc 0 1 [6] rfl (yg (hS12.rf m0) rfl (ya 2 1 rfl ?_)))))))))))))
 obtain ⟨x16, hx_x16, hr1⟩ := bsm hr1
 obtain ⟨h0_x16, h1_x16, hx_x16⟩ := idx_some hx_x16
 obtain ⟨ha_x16, cs_x16, hn_x16, hr_x16, hc_x16⟩ := ((RSl.mono h_p0.Kids hl7)).el _ _ hx_x16
 obtain ⟨w_x16, rfl, h_x16⟩ := Q_qExpr_iff.1 hr_x16
 refine yaq 39 7 ha_x16 h0_x16 h1_x16 ?_
 refine yak ((cs_qExpr x16 w_x16)) hc_x16 0 hS12.rm rfl (bsk hr1 fun r22 hx_r17 hr1 => WO.c1 (ih h_x16 hS12 hx_r17) rfl fun I19 w18 hl20 hS21 => ya 6 1 rfl (y0 nL3 (ya 0 3 rfl (yb (bsk hr1 fun j23 hr2 hr1 => W.jw (J := (fun fr w => ∃ I25, fr = [(1, Pt b1 0), (3, Iv j23), (4, Nv i9)] ∧ I19.Le I25 ∧ St E w I25 ((Bx b1 (cs_qExpr p0 w_p0) 39) :: Os))) ?_ ?_)))))
 refine W.cb hr2 (fun hc hr2 => ?_) (fun hc hr2 => ?_)
 refine yaa nL2 (ya 0 2 rfl (WO.nil ?_))
 obtain rfl := sj hr2
 exact yq ⟨I19, rfl, lr, hS21⟩
 refine yi ?_
 obtain rfl := sj hr2
 exact yq ⟨I19, rfl, lr, hS21⟩
 rintro _ w27 ⟨I25, rfl, hl26, hS28⟩
 refine yk (En.next (yaa nL3 (ya 0 1 rfl (yae i9 rfl (ya 2 1 rfl (WO.nil ?_))))))
 obtain rfl := sj hr1
 exact yq ⟨I25, rfl, le, hS28⟩
 rintro _ w29 ⟨I6, rfl, hl7, hS30⟩
 refine yf (yd nL5 (yc 0 2 [6] rfl (yg (hS30.rf m0) rfl (ya 3 2 rfl (yb (yai fun _ => yz (ym (yn (yo (En.next (yd nL3 (ya 0 3 rfl (yb (W.ret ?_))))))))))))))
 obtain rfl := sj hr
 exact yu ⟨I6, rfl, hl7, hS30.drop⟩
theorem r10_Height_ok {p0 : qExpr} {w_p0 : W_qExpr} (h_p0 : ok_qExpr I p0 w_p0) (hS : St E w I Os) {r : Int} (hr : r10_Height p0 = some r) :
    Calls P 154 #[(.agg (cs_qExpr p0 w_p0).toArray)] w (fun e w' => ∃ I', e = .returned (Iv r) ∧ I.Le I' ∧ St E w' I' Os) := by
 obtain ⟨fu, hf⟩ := anyFuel_some hr
 exact r10_Height_fu_ok fu h_p0 hS hf
noncomputable def r03_Right (p0 : qValue) : Option Bool := (bif (p0.Kind == 0) then some ((p0.N == 0) && (sEq p0.S (⟨#[]⟩ : ByteArray))) else (bif (p0.Kind == 1) then some (sEq p0.S (⟨#[]⟩ : ByteArray)) else (bif (p0.Kind == 2) then (some (((sEq p0.S (⟨#[]⟩ : ByteArray)) && (decide (p0.N ≥ 0))) && (decide (p0.N ≤ 1)))).bind (fun (q11 : Bool) => some q11) else (bif (p0.Kind == 3) then ((bif ((p0.N == 0) && (decide ((p0.S.size : Int) ≤ 32))) then (r03_Plain p0.S).bind (fun r26 => some r26) else some false)).bind (fun (j17 : Bool) => some j17) else some false))))
theorem r03_Right_ok {p0 : qValue} (hS : St E w I Os) {r : Bool} (hr : r03_Right p0 = some r) :
    Calls P 168 #[(.agg (cs_qValue p0).toArray)] w (fun e w' => ∃ I', e = .returned (.bool r) ∧ I.Le I' ∧ St E w' I' Os) := by
 refine calls_W (fn := Tryz.f168) rfl rfl rfl ?_
 unfold r03_Right at hr
 refine yd nL2 (yy hS (cs_qValue p0) 36 rfl fun b1 w4 hS3 => ya 1 1 rfl (yb (yf (yd nL2 (yc 0 1 [0] rfl (yg (hS3.rf m0) rfl (yb (W.block (yd nL2 (ya 0 2 rfl (yb (W.cb hr (fun hc hr => ?_) (fun hc hr => ?_)))))))))))))
 refine yd nL9 (yc 0 1 [1] rfl (yg (hS3.rf m0) rfl (ya 2 2 rfl (yac (l1 := [4, 5, 6, 7]) 14 ((p0.N == 0) && (sEq p0.S (⟨#[]⟩ : ByteArray))) ?_ ?_))))
 refine yr (p0.N == 0) (fun hc => ?_) (fun hc => ?_)
 exact yl 10 hc (yc 4 1 [2] rfl (yg (hS3.rf m0) rfl (ya 6 1 rfl (yh 7 14 (.bool (sEq p0.S (⟨#[]⟩ : ByteArray))) (WO.mk 10 hc (by rw [hc]; rfl))))))
 refine yl 10 hc ?_
 iterate 3 refine yt ?_
 exact yh 7 14 (.bool false) (WO.mk 10 hc (by rw [hc]; rfl))
 refine ya 8 1 rfl (yb (W.ret (yj (ye ?_))))
 obtain rfl := sj hr
 exact yu ⟨I, rfl, lr, hS3.drop⟩
 refine yd nL2 (ya 0 2 rfl (yb (W.cb hr (fun hc hr => ?_) (fun hc hr => ?_))))
 refine yd nL4 (yc 0 1 [2] rfl (yg (hS3.rf m0) rfl (ya 2 2 rfl (yb (W.ret (yj (ye ?_)))))))
 obtain rfl := sj hr
 exact yu ⟨I, rfl, lr, hS3.drop⟩
 refine yd nL2 (ya 0 2 rfl (yb (W.cb hr (fun hc hr => ?_) (fun hc hr => ?_))))
 refine yd nL14 (yc 0 1 [2] rfl (yg (hS3.rf m0) rfl (ya 2 2 rfl (yac (l1 := [4, 5, 6, 7]) 29 ((sEq p0.S (⟨#[]⟩ : ByteArray)) && (decide (p0.N ≥ 0))) ?_ ?_))))
 refine yr (sEq p0.S (⟨#[]⟩ : ByteArray)) (fun hc => ?_) (fun hc => ?_)
 exact yl 25 hc (yc 4 1 [1] rfl (yg (hS3.rf m0) rfl (ya 6 1 rfl (yh 7 29 (.bool (decide (p0.N ≥ 0))) (WO.mk 25 hc (by rw [hc]; rfl))))))
 refine yl 25 hc ?_
 iterate 3 refine yt ?_
 exact yh 7 29 (.bool false) (WO.mk 25 hc (by rw [hc]; rfl))
 refine ya 8 1 rfl ?_
 obtain ⟨q11, hx_q11, hr⟩ := bsm hr
 replace hx_q11 := sj hx_q11
 refine yac (l1 := [9, 10, 11, 12]) 34 q11 ?_ ?_
 refine yr ((sEq p0.S (⟨#[]⟩ : ByteArray)) && (decide (p0.N ≥ 0))) (fun hc => ?_) (fun hc => ?_)
 exact yl 30 hc (yc 9 1 [1] rfl (yg (hS3.rf m0) rfl (ya 11 1 rfl (yh 12 34 (.bool (decide (p0.N ≤ 1))) (WO.mk 30 hc (by rw [← hx_q11, hc]; rfl))))))
 refine yl 30 hc ?_
 iterate 3 refine yt ?_
 exact yh 12 34 (.bool false) (WO.mk 30 hc (by rw [← hx_q11, hc]; rfl))
 refine ya 13 1 rfl (yb (W.ret (yj (ye ?_))))
 obtain rfl := sj hr
 exact yu ⟨I, rfl, lr, hS3.drop⟩
 refine yd nL2 (ya 0 2 rfl (yb (W.cb hr (fun hc hr => ?_) (fun hc hr => ?_))))
 refine yd nL15 (yc 0 1 [1] rfl (yg (hS3.rf m0) rfl (ya 2 2 rfl (yac (l1 := [4, 5, 6, 7, 8]) 45 ((p0.N == 0) && (decide ((p0.S.size : Int) ≤ 32))) ?_ ?_))))
 refine yr (p0.N == 0) (fun hc => ?_) (fun hc => ?_)
 exact yl 40 hc (yc 4 1 [2] rfl (yg (hS3.rf m0) rfl (ya 6 2 rfl (yh 8 45 (.bool (decide ((p0.S.size : Int) ≤ 32))) (WO.mk 40 hc (by rw [hc]; rfl))))))
 refine yl 40 hc ?_
 iterate 4 refine yt ?_
 exact yh 8 45 (.bool false) (WO.mk 40 hc (by rw [hc]; rfl))
 refine ya 9 1 rfl (bsk hr fun j17 hr1 hr => WO.jw (l1 := [10, 11, 12, 13]) (J := (fun fr w => ∃ I19, fr = [(50, .bool j17)] ∧ I.Le I19 ∧ St E w I19 Os)) ?_ ?_)
 refine WO.cb hr1 (fun hc hr1 => ?_) (fun hc hr1 => ?_)
 refine yl 46 hc (yc 10 1 [2] rfl (yg (hS3.rf m0) rfl (bsk hr1 fun r26 hx_r21 hr1 => WO.c1 (r03_Plain_ok  hS3 hx_r21) rfl fun I23 w22 hl24 hS25 => yh 13 50 (.bool r26) ?_)))
 obtain rfl := sj hr1
 exact yw ⟨I23, rfl, hl24, hS25.drop⟩
 refine yl 46 hc ?_
 iterate 3 refine yt ?_
 refine yh 13 50 (.bool false) ?_
 obtain rfl := sj hr1
 exact yw ⟨I, rfl, lr, hS3.drop⟩
 rintro _ w29 ⟨I19, rfl, hl20, hS30⟩
 refine ya 14 1 rfl (yb (W.ret (yj (ye ?_))))
 obtain rfl := sj hr
 exact yu ⟨I19, rfl, hl20, hS30⟩
 refine yi (yk (En.next (yd [0] (ya 0 1 rfl (yb (W.ret ?_))))))
 obtain rfl := sj hr
 exact yu ⟨I, rfl, lr, hS3.drop⟩
noncomputable def r10_Right_fu : Nat → qExpr → Bool → Option Bool
  | 0, _, _ => none
  | fu + 1, p0, p1 => (forN (fun (i8 : Nat) => fun (_s : Unit) => (idx p0.Kids (i8 : Int)).bind (fun x15 => (r10_Right_fu fu x15 p1).bind (fun r21 => (bif (!r21) then some (.inr false) else some (.inl ()))))) p0.Kids.length 0 ()).bind (fun (t : Unit ⊕ (Bool)) => match t with | .inl _ => (some ((p0.Kind != 1) && (!((p0.V.Kind == 0) && ((p0.V.N == 0) && sEq p0.V.S (⟨#[]⟩ : ByteArray)))))).bind (fun (q32 : Bool) => (some (q32 || (((p0.Kind != 2) && (p0.Kind != 7)) && (!sEq p0.Name (⟨#[]⟩ : ByteArray))))).bind (fun (q39 : Bool) => (bif q39 then some false else (some ((((p0.Kind == 1) || (p0.Kind == 2)) || (p0.Kind == 6)) || (p0.Kind == 7))).bind (fun (q52 : Bool) => (bif (q52 && (p0.Op != 0)) then some false else (bif (p0.Kind == 1) then ((bif ((p0.Kids.length : Int) == 0) then (r03_Right p0.V).bind (fun r69 => some r69) else some false)).bind (fun (j59 : Bool) => some (j59 && (!((p0.V.Kind == 1) && (decide (p0.V.N < 0)))))) else (bif (p0.Kind == 2) then ((bif ((p0.Kids.length : Int) == 0) then (r09_IsName p0.Name).bind (fun r90 => some r90) else some false)).bind (fun (j81 : Bool) => some j81) else (bif (p0.Kind == 3) then (some ((((p0.Kids.length : Int) == 0) && (decide (p0.Op ≥ 1))) && (decide (p0.Op ≤ 6)))).bind (fun (q99 : Bool) => some q99) else (bif (p0.Kind == 4) then (some ((((p0.Kids.length : Int) == 1) && (decide (p0.Op ≥ 1))) && (decide (p0.Op ≤ 4)))).bind (fun (q106 : Bool) => some q106) else (bif (p0.Kind == 5) then (some ((((p0.Kids.length : Int) == 2) && (decide (p0.Op ≥ 1))) && (decide (p0.Op ≤ 14)))).bind (fun (q113 : Bool) => some q113) else (bif (p0.Kind == 6) then (some ((decide ((p0.Kids.length : Int) ≥ 2)) && (decide ((p0.Kids.length : Int) ≤ 9)))).bind (fun (q118 : Bool) => some q118) else (bif (p0.Kind == 7) then (some ((sEq p0.Name (⟨#[99, 111, 97, 108, 101, 115, 99, 101]⟩ : ByteArray)) && (decide ((p0.Kids.length : Int) ≥ 1)))).bind (fun (q123 : Bool) => (some ((q123 && (decide ((p0.Kids.length : Int) ≤ 4))) || (((sEq p0.Name (⟨#[108, 101, 110, 103, 116, 104]⟩ : ByteArray)) || (sEq p0.Name (⟨#[97, 98, 115]⟩ : ByteArray))) && ((p0.Kids.length : Int) == 1)))).bind (fun (q132 : Bool) => some q132)) else (bif (p0.Kind == 8) then (some ((p1 && ((p0.Kids.length : Int) == 0)) && (decide (p0.Op ≥ 0)))).bind (fun (q143 : Bool) => some (q143 && (decide (p0.Op ≤ 5)))) else some false))))))))))))) | .inr s23 => some s23)
noncomputable def r10_Right (p0 : qExpr) (p1 : Bool) : Option Bool := anyFuel (fun fu => r10_Right_fu fu p0 p1)
theorem r10_Right_fu_ok : ∀ (fu : Nat) {E w : World} {I : Mem} {Os : List Mem} {p0 : qExpr} {p1 : Bool} {w_p0 : W_qExpr} (h_p0 : ok_qExpr I p0 w_p0) (hS : St E w I Os) {r : Bool} (hr : r10_Right_fu fu p0 p1 = some r),
    Calls P 155 #[(.agg (cs_qExpr p0 w_p0).toArray), (.bool p1)] w (fun e w' => ∃ I', e = .returned (.bool r) ∧ I.Le I' ∧ St E w' I' Os) := by
 intro fu
 induction fu with
 | zero => intro E w I Os p0 p1 w_p0 h_p0 hS r hr; cases hr
 | succ fu ih =>
 intro E w I Os p0 p1 w_p0 h_p0 hS r hr
 refine calls_W (fn := Tryz.f155) rfl rfl rfl ?_
 unfold r10_Right_fu at hr
 refine yd nL2 (yy hS (cs_qExpr p0 w_p0) 39 rfl fun b1 w4 hS3 => ya 1 1 rfl (yb (yf (yd [0] (ya 0 1 rfl (yb (W.block (bsk hr fun t5 hloop9 hr => have hlt13 := (h_p0.Kids).len_lt; W.wk (W.forN (m := p0.Kids.length) hloop9 (fun (i8 : Nat) => fun (_s : Unit) fr w => ∃ I6, fr = [(1, .bool p1), (2, Pt b1 0), (5, Nv i8)] ∧ I.Le I6 ∧ St E w I6 ((Bx b1 (cs_qExpr p0 w_p0) 39) :: Os)) ⟨I, rfl, lr, hS3⟩ ?_ ?_)))))))))
 rintro i8 _ _ w10 hi14 ⟨I6, rfl, hl7, hS11⟩ x12 hr1 hext5
 refine yf (yd nL5 (yc 0 2 [6] rfl (yg (hS11.rf m0) rfl (ya 3 2 rfl (yb (yah fun _ => yi (En.next (yf (W.block (yd nL8 (yc 0 1 [6] rfl (yg (hS11.rf m0) rfl (ya 2 1 rfl ?_)))))))))))))
 obtain ⟨x15, hx_x15, hr1⟩ := bsm hr1
 obtain ⟨h0_x15, h1_x15, hx_x15⟩ := idx_some hx_x15
 obtain ⟨ha_x15, cs_x15, hn_x15, hr_x15, hc_x15⟩ := ((RSl.mono h_p0.Kids hl7)).el _ _ hx_x15
 obtain ⟨w_x15, rfl, h_x15⟩ := Q_qExpr_iff.1 hr_x15
 refine yaq 39 7 ha_x15 h0_x15 h1_x15 ?_
 refine yak ((cs_qExpr x15 w_x15)) hc_x15 0 hS11.rm rfl (ya 5 1 rfl (bsk hr1 fun r21 hx_r16 hr1 => WO.c1 (ih h_x15 hS11 hx_r16) rfl fun I18 w17 hl19 hS20 => ya 7 1 rfl (yb (W.cb hr1 (fun hc hr1 => ?_) (fun hc hr1 => ?_)))))
 refine yd [0] (ya 0 1 rfl (yb (W.ret (yj (ye (yp ?_))))))
 obtain rfl := hext5 _ (sj hr1).symm
 refine yj (ye ?_)
 obtain rfl := sj hr
 exact yu ⟨I18, rfl, le, hS20.drop⟩
 exact yi (yk (En.next (yaa nL3 (ya 0 1 rfl (yae i8 rfl (ya 2 1 rfl (WO.nil (yq ⟨(), (sj hr1).symm, I18, rfl, le, hS20⟩))))))))
 rintro _ _ w26 ⟨I6, rfl, hl7, hS27⟩ he
 cases he
 refine yf (yd nL5 (yc 0 2 [6] rfl (yg (hS27.rf m0) rfl (ya 3 2 rfl (yb (yai fun _ => yz (ym (yn (yo (En.next (yd nL4 (yc 0 1 [6] rfl (yg (hS27.rf m0) rfl (ya 2 2 rfl (y0 [0] (yy hS27 (cs_qValue z_qValue) 36 rfl fun b28 w31 hS30 => yb (yf (yd nL24 (yc 0 1 [0] rfl (yg (hS30.rf m1) rfl (ya 2 2 rfl ?_)))))))))))))))))))))
 obtain ⟨q32, hx_q32, hr⟩ := bsm hr
 replace hx_q32 := sj hx_q32
 refine yac (l1 := [4, 5, 6, 7, 8]) 34 q32 ?_ ?_
 refine yr (p0.Kind != 1) (fun hc => ?_) (fun hc => ?_)
 refine yl 29 hc (yc 4 1 [2] rfl (yv ((cs_qValue p0.V)) (hS30.rf m1) rfl (yv ((cs_qValue z_qValue)) (hS30.rf m0) rfl (ya5 rfl (by kernel_rfl) rfl rfl (by kernel_rfl) 50 rfl (b := ((p0.V.Kind == 0) && ((p0.V.N == 0) && (sEq p0.V.S (⟨#[]⟩ : ByteArray) && true)))) (by kernel_rfl) (!((p0.V.Kind == 0) && ((p0.V.N == 0) && sEq p0.V.S (⟨#[]⟩ : ByteArray)))) (.inr ⟨rfl, by simp only [Bool.and_true]⟩) ?_))))
 exact yh 8 34 (.bool (!((p0.V.Kind == 0) && ((p0.V.N == 0) && sEq p0.V.S (⟨#[]⟩ : ByteArray))))) (WO.mk 29 hc (by rw [← hx_q32, hc]; rfl))
 refine yl 29 hc ?_
 iterate 4 refine yt ?_
 exact yh 8 34 (.bool false) (WO.mk 29 hc (by rw [← hx_q32, hc]; rfl))
 refine ya 9 1 rfl ?_
 obtain ⟨q39, hx_q39, hr⟩ := bsm hr
 replace hx_q39 := sj hx_q39
 refine yac (l1 := [10, 11, 12, 13, 14, 15, 16, 17, 18, 19, 20, 21, 22, 23]) 49 q39 ?_ ?_
 refine yr q32 (fun hc => ?_) (fun hc => ?_)
 refine yl 35 hc ?_
 iterate 13 refine yt ?_
 exact yh 23 49 (.bool true) (WO.mk 35 hc (by rw [← hx_q39, hc]; rfl))
 refine yl 35 hc (yc 10 1 [0] rfl (yg (hS30.rf m1) rfl (ya 12 2 rfl (yac (l1 := [14, 15, 16, 17]) 43 ((p0.Kind != 2) && (p0.Kind != 7)) ?_ ?_))))
 refine yr (p0.Kind != 2) (fun hc => ?_) (fun hc => ?_)
 exact yl 39 hc (yc 14 1 [0] rfl (yg (hS30.rf m1) rfl (ya 16 1 rfl (yh 17 43 (.bool (p0.Kind != 7)) (WO.mk 39 hc (by rw [hc]; rfl))))))
 refine yl 39 hc ?_
 iterate 3 refine yt ?_
 exact yh 17 43 (.bool false) (WO.mk 39 hc (by rw [hc]; rfl))
 refine ya 18 1 rfl (yac (l1 := [19, 20, 21, 22]) 48 (((p0.Kind != 2) && (p0.Kind != 7)) && (!sEq p0.Name (⟨#[]⟩ : ByteArray))) ?_ ?_)
 refine yr ((p0.Kind != 2) && (p0.Kind != 7)) (fun hc => ?_) (fun hc => ?_)
 exact yl 44 hc (yc 19 1 [5] rfl (yg (hS30.rf m1) rfl (ya 21 1 rfl (yh 22 48 (.bool (!sEq p0.Name (⟨#[]⟩ : ByteArray))) (WO.mk 44 hc (by rw [hc]; rfl))))))
 refine yl 44 hc ?_
 iterate 3 refine yt ?_
 exact yh 22 48 (.bool false) (WO.mk 44 hc (by rw [hc]; rfl))
 exact yh 23 49 (.bool (((p0.Kind != 2) && (p0.Kind != 7)) && (!sEq p0.Name (⟨#[]⟩ : ByteArray)))) (WO.mk 35 hc (by rw [← hx_q39, hc]; rfl))
 refine yb (W.cb hr (fun hc hr => ?_) (fun hc hr => ?_))
 refine yd [0] (ya 0 1 rfl (yb (W.ret (ye ?_))))
 obtain rfl := sj hr
 exact yu ⟨I6, rfl, hl7, hS30.drop.drop⟩
 refine yi (En.next (yf (yd nL23 (yc 0 1 [0] rfl (yg (hS30.rf m1) rfl (ya 2 2 rfl (yac (l1 := [4, 5, 6, 7]) 57 ((p0.Kind == 1) || (p0.Kind == 2)) ?_ ?_)))))))
 refine yr (p0.Kind == 1) (fun hc => ?_) (fun hc => ?_)
 refine yl 53 hc ?_
 iterate 3 refine yt ?_
 exact yh 7 57 (.bool true) (WO.mk 53 hc (by rw [hc]; rfl))
 exact yl 53 hc (yc 4 1 [0] rfl (yg (hS30.rf m1) rfl (ya 6 1 rfl (yh 7 57 (.bool (p0.Kind == 2)) (WO.mk 53 hc (by rw [hc]; rfl))))))
 refine ya 8 1 rfl (yac (l1 := [9, 10, 11, 12]) 62 (((p0.Kind == 1) || (p0.Kind == 2)) || (p0.Kind == 6)) ?_ ?_)
 refine yr ((p0.Kind == 1) || (p0.Kind == 2)) (fun hc => ?_) (fun hc => ?_)
 refine yl 58 hc ?_
 iterate 3 refine yt ?_
 exact yh 12 62 (.bool true) (WO.mk 58 hc (by rw [hc]; rfl))
 exact yl 58 hc (yc 9 1 [0] rfl (yg (hS30.rf m1) rfl (ya 11 1 rfl (yh 12 62 (.bool (p0.Kind == 6)) (WO.mk 58 hc (by rw [hc]; rfl))))))
 refine ya 13 1 rfl ?_
 obtain ⟨q52, hx_q52, hr⟩ := bsm hr
 replace hx_q52 := sj hx_q52
 refine yac (l1 := [14, 15, 16, 17]) 67 q52 ?_ ?_
 refine yr (((p0.Kind == 1) || (p0.Kind == 2)) || (p0.Kind == 6)) (fun hc => ?_) (fun hc => ?_)
 refine yl 63 hc ?_
 iterate 3 refine yt ?_
 exact yh 17 67 (.bool true) (WO.mk 63 hc (by rw [← hx_q52, hc]; rfl))
 exact yl 63 hc (yc 14 1 [0] rfl (yg (hS30.rf m1) rfl (ya 16 1 rfl (yh 17 67 (.bool (p0.Kind == 7)) (WO.mk 63 hc (by rw [← hx_q52, hc]; rfl))))))
 refine ya 18 1 rfl (yac (l1 := [19, 20, 21, 22]) 72 (q52 && (p0.Op != 0)) ?_ ?_)
 refine yr q52 (fun hc => ?_) (fun hc => ?_)
 exact yl 68 hc (yc 19 1 [1] rfl (yg (hS30.rf m1) rfl (ya 21 1 rfl (yh 22 72 (.bool (p0.Op != 0)) (WO.mk 68 hc (by rw [hc]; rfl))))))
 refine yl 68 hc ?_
 iterate 3 refine yt ?_
 exact yh 22 72 (.bool false) (WO.mk 68 hc (by rw [hc]; rfl))
 refine yb (W.cb hr (fun hc hr => ?_) (fun hc hr => ?_))
 refine yd [0] (ya 0 1 rfl (yb (W.ret (ye ?_))))
 obtain rfl := sj hr
 exact yu ⟨I6, rfl, hl7, hS30.drop.drop⟩
 refine yi (En.next (yf (yd nL2 (yc 0 1 [0] rfl (yg (hS30.rf m1) rfl (yb (W.block (yd nL2 (ya 0 2 rfl (yb (W.cb hr (fun hc hr => ?_) (fun hc hr => ?_))))))))))))
 refine yd nL21 (ya 0 3 rfl (bsk hr fun j59 hr1 hr => WO.jw (l1 := [3, 4, 5, 6]) (J := (fun fr w => ∃ I61, fr = [(2, Pt b1 0), (83, .bool j59)] ∧ I6.Le I61 ∧ St E w I61 ((Bx b1 (cs_qExpr p0 w_p0) 39) :: Os))) ?_ ?_))
 refine WO.cb hr1 (fun hc hr1 => ?_) (fun hc hr1 => ?_)
 refine yl 79 hc (yc 3 1 [2] rfl (yv ((cs_qValue p0.V)) (hS30.rf m1) rfl (bsk hr1 fun r69 hx_r63 hr1 => WO.c1 (r03_Right_ok  hS30 hx_r63) rfl fun I66 w65 hl67 hS68 => yh 6 83 (.bool r69) ?_)))
 obtain rfl := sj hr1
 exact yw ⟨I66, rfl, hl67, hS68.drop⟩
 refine yl 79 hc ?_
 iterate 3 refine yt ?_
 refine yh 6 83 (.bool false) ?_
 obtain rfl := sj hr1
 exact yw ⟨I6, rfl, lr, hS30.drop⟩
 rintro _ w72 ⟨I61, rfl, hl62, hS73⟩
 refine ya 7 1 rfl (yac (l1 := [8, 9, 10, 11, 12, 13, 14, 15, 16, 17, 18, 19]) 96 (j59 && (!((p0.V.Kind == 1) && (decide (p0.V.N < 0))))) ?_ ?_)
 refine yr j59 (fun hc => ?_) (fun hc => ?_)
 refine yl 84 hc (yc 8 2 [2, 0] rfl (yg (hS73.rf m0) rfl (ya 11 2 rfl (yac (l1 := [13, 14, 15, 16, 17]) 94 ((p0.V.Kind == 1) && (decide (p0.V.N < 0))) ?_ ?_))))
 refine yr (p0.V.Kind == 1) (fun hc => ?_) (fun hc => ?_)
 exact yl 89 hc (yc 13 2 [2, 1] rfl (yg (hS73.rf m0) rfl (ya 16 1 rfl (yh 17 94 (.bool (decide (p0.V.N < 0))) (WO.mk 89 hc (by rw [hc]; rfl))))))
 refine yl 89 hc ?_
 iterate 4 refine yt ?_
 exact yh 17 94 (.bool false) (WO.mk 89 hc (by rw [hc]; rfl))
 exact ya 18 1 rfl (yh 19 96 (.bool (!((p0.V.Kind == 1) && (decide (p0.V.N < 0))))) (WO.mk 84 hc (by rw [hc]; rfl)))
 refine yl 84 hc ?_
 iterate 11 refine yt ?_
 exact yh 19 96 (.bool false) (WO.mk 84 hc (by rw [hc]; rfl))
 refine ya 20 1 rfl (yb (W.ret (yj (ye ?_))))
 obtain rfl := sj hr
 exact yu ⟨I61, rfl, le, hS73.drop⟩
 refine yd nL2 (ya 0 2 rfl (yb (W.cb hr (fun hc hr => ?_) (fun hc hr => ?_))))
 refine yd nL8 (ya 0 3 rfl (bsk hr fun j81 hr1 hr => WO.jw (l1 := [3, 4, 5, 6]) (J := (fun fr w => ∃ I83, fr = [(105, .bool j81)] ∧ I6.Le I83 ∧ St E w I83 Os)) ?_ ?_))
 refine WO.cb hr1 (fun hc hr1 => ?_) (fun hc hr1 => ?_)
 refine yl 101 hc (yc 3 1 [5] rfl (yg (hS30.rf m1) rfl (bsk hr1 fun r90 hx_r85 hr1 => WO.c1 (r09_IsName_ok  hS30 hx_r85) rfl fun I87 w86 hl88 hS89 => yh 6 105 (.bool r90) ?_)))
 obtain rfl := sj hr1
 exact yw ⟨I87, rfl, hl88, hS89.drop.drop⟩
 refine yl 101 hc ?_
 iterate 3 refine yt ?_
 refine yh 6 105 (.bool false) ?_
 obtain rfl := sj hr1
 exact yw ⟨I6, rfl, lr, hS30.drop.drop⟩
 rintro _ w95 ⟨I83, rfl, hl84, hS96⟩
 refine ya 7 1 rfl (yb (W.ret (yj (ye ?_))))
 obtain rfl := sj hr
 exact yu ⟨I83, rfl, le, hS96⟩
 refine yd nL2 (ya 0 2 rfl (yb (W.cb hr (fun hc hr => ?_) (fun hc hr => ?_))))
 refine yd nL13 (ya 0 3 rfl (yac (l1 := [3, 4, 5, 6]) 114 (((p0.Kids.length : Int) == 0) && (decide (p0.Op ≥ 1))) ?_ ?_))
 refine yr ((p0.Kids.length : Int) == 0) (fun hc => ?_) (fun hc => ?_)
 exact yl 110 hc (yc 3 1 [1] rfl (yg (hS30.rf m1) rfl (ya 5 1 rfl (yh 6 114 (.bool (decide (p0.Op ≥ 1))) (WO.mk 110 hc (by rw [hc]; rfl))))))
 refine yl 110 hc ?_
 iterate 3 refine yt ?_
 exact yh 6 114 (.bool false) (WO.mk 110 hc (by rw [hc]; rfl))
 refine ya 7 1 rfl ?_
 obtain ⟨q99, hx_q99, hr⟩ := bsm hr
 replace hx_q99 := sj hx_q99
 refine yac (l1 := [8, 9, 10, 11]) 119 q99 ?_ ?_
 refine yr (((p0.Kids.length : Int) == 0) && (decide (p0.Op ≥ 1))) (fun hc => ?_) (fun hc => ?_)
 exact yl 115 hc (yc 8 1 [1] rfl (yg (hS30.rf m1) rfl (ya 10 1 rfl (yh 11 119 (.bool (decide (p0.Op ≤ 6))) (WO.mk 115 hc (by rw [← hx_q99, hc]; rfl))))))
 refine yl 115 hc ?_
 iterate 3 refine yt ?_
 exact yh 11 119 (.bool false) (WO.mk 115 hc (by rw [← hx_q99, hc]; rfl))
 refine ya 12 1 rfl (yb (W.ret (yj (ye ?_))))
 obtain rfl := sj hr
 exact yu ⟨I6, rfl, hl7, hS30.drop.drop⟩
 refine yd nL2 (ya 0 2 rfl (yb (W.cb hr (fun hc hr => ?_) (fun hc hr => ?_))))
 refine yd nL13 (ya 0 3 rfl (yac (l1 := [3, 4, 5, 6]) 128 (((p0.Kids.length : Int) == 1) && (decide (p0.Op ≥ 1))) ?_ ?_))
 refine yr ((p0.Kids.length : Int) == 1) (fun hc => ?_) (fun hc => ?_)
 exact yl 124 hc (yc 3 1 [1] rfl (yg (hS30.rf m1) rfl (ya 5 1 rfl (yh 6 128 (.bool (decide (p0.Op ≥ 1))) (WO.mk 124 hc (by rw [hc]; rfl))))))
 refine yl 124 hc ?_
 iterate 3 refine yt ?_
 exact yh 6 128 (.bool false) (WO.mk 124 hc (by rw [hc]; rfl))
 refine ya 7 1 rfl ?_
 obtain ⟨q106, hx_q106, hr⟩ := bsm hr
 replace hx_q106 := sj hx_q106
 refine yac (l1 := [8, 9, 10, 11]) 133 q106 ?_ ?_
 refine yr (((p0.Kids.length : Int) == 1) && (decide (p0.Op ≥ 1))) (fun hc => ?_) (fun hc => ?_)
 exact yl 129 hc (yc 8 1 [1] rfl (yg (hS30.rf m1) rfl (ya 10 1 rfl (yh 11 133 (.bool (decide (p0.Op ≤ 4))) (WO.mk 129 hc (by rw [← hx_q106, hc]; rfl))))))
 refine yl 129 hc ?_
 iterate 3 refine yt ?_
 exact yh 11 133 (.bool false) (WO.mk 129 hc (by rw [← hx_q106, hc]; rfl))
 refine ya 12 1 rfl (yb (W.ret (yj (ye ?_))))
 obtain rfl := sj hr
 exact yu ⟨I6, rfl, hl7, hS30.drop.drop⟩
 refine yd nL2 (ya 0 2 rfl (yb (W.cb hr (fun hc hr => ?_) (fun hc hr => ?_))))
 refine yd nL13 (ya 0 3 rfl (yac (l1 := [3, 4, 5, 6]) 142 (((p0.Kids.length : Int) == 2) && (decide (p0.Op ≥ 1))) ?_ ?_))
 refine yr ((p0.Kids.length : Int) == 2) (fun hc => ?_) (fun hc => ?_)
 exact yl 138 hc (yc 3 1 [1] rfl (yg (hS30.rf m1) rfl (ya 5 1 rfl (yh 6 142 (.bool (decide (p0.Op ≥ 1))) (WO.mk 138 hc (by rw [hc]; rfl))))))
 refine yl 138 hc ?_
 iterate 3 refine yt ?_
 exact yh 6 142 (.bool false) (WO.mk 138 hc (by rw [hc]; rfl))
 refine ya 7 1 rfl ?_
 obtain ⟨q113, hx_q113, hr⟩ := bsm hr
 replace hx_q113 := sj hx_q113
 refine yac (l1 := [8, 9, 10, 11]) 147 q113 ?_ ?_
 refine yr (((p0.Kids.length : Int) == 2) && (decide (p0.Op ≥ 1))) (fun hc => ?_) (fun hc => ?_)
 exact yl 143 hc (yc 8 1 [1] rfl (yg (hS30.rf m1) rfl (ya 10 1 rfl (yh 11 147 (.bool (decide (p0.Op ≤ 14))) (WO.mk 143 hc (by rw [← hx_q113, hc]; rfl))))))
 refine yl 143 hc ?_
 iterate 3 refine yt ?_
 exact yh 11 147 (.bool false) (WO.mk 143 hc (by rw [← hx_q113, hc]; rfl))
 refine ya 12 1 rfl (yb (W.ret (yj (ye ?_))))
 obtain rfl := sj hr
 exact yu ⟨I6, rfl, hl7, hS30.drop.drop⟩
 refine yd nL2 (ya 0 2 rfl (yb (W.cb hr (fun hc hr => ?_) (fun hc hr => ?_))))
 refine yd nL7 (ya 0 3 rfl ?_)
 obtain ⟨q118, hx_q118, hr⟩ := bsm hr
 replace hx_q118 := sj hx_q118
 refine yac (l1 := [3, 4, 5]) 155 q118 ?_ ?_
 refine yr (decide ((p0.Kids.length : Int) ≥ 2)) (fun hc => ?_) (fun hc => ?_)
 exact yl 152 hc (ya 3 2 rfl (yh 5 155 (.bool (decide ((p0.Kids.length : Int) ≤ 9))) (WO.mk 152 hc (by rw [← hx_q118, hc]; rfl))))
 refine yl 152 hc ?_
 iterate 2 refine yt ?_
 exact yh 5 155 (.bool false) (WO.mk 152 hc (by rw [← hx_q118, hc]; rfl))
 refine ya 6 1 rfl (yb (W.ret (yj (ye ?_))))
 obtain rfl := sj hr
 exact yu ⟨I6, rfl, hl7, hS30.drop.drop⟩
 refine yd nL2 (ya 0 2 rfl (yb (W.cb hr (fun hc hr => ?_) (fun hc hr => ?_))))
 refine yd nL26 (yc 0 1 [5] rfl (yg (hS30.rf m1) rfl (ya 2 2 rfl ?_)))
 obtain ⟨q123, hx_q123, hr⟩ := bsm hr
 replace hx_q123 := sj hx_q123
 refine yac (l1 := [4, 5, 6]) 164 q123 ?_ ?_
 refine yr (sEq p0.Name (⟨#[99, 111, 97, 108, 101, 115, 99, 101]⟩ : ByteArray)) (fun hc => ?_) (fun hc => ?_)
 exact yl 161 hc (ya 4 2 rfl (yh 6 164 (.bool (decide ((p0.Kids.length : Int) ≥ 1))) (WO.mk 161 hc (by rw [← hx_q123, hc]; rfl))))
 refine yl 161 hc ?_
 iterate 2 refine yt ?_
 exact yh 6 164 (.bool false) (WO.mk 161 hc (by rw [← hx_q123, hc]; rfl))
 refine ya 7 1 rfl (yac (l1 := [8, 9, 10]) 168 (q123 && (decide ((p0.Kids.length : Int) ≤ 4))) ?_ ?_)
 refine yr q123 (fun hc => ?_) (fun hc => ?_)
 exact yl 165 hc (ya 8 2 rfl (yh 10 168 (.bool (decide ((p0.Kids.length : Int) ≤ 4))) (WO.mk 165 hc (by rw [hc]; rfl))))
 refine yl 165 hc ?_
 iterate 2 refine yt ?_
 exact yh 10 168 (.bool false) (WO.mk 165 hc (by rw [hc]; rfl))
 refine ya 11 1 rfl ?_
 obtain ⟨q132, hx_q132, hr⟩ := bsm hr
 replace hx_q132 := sj hx_q132
 refine yac (l1 := [12, 13, 14, 15, 16, 17, 18, 19, 20, 21, 22, 23, 24]) 182 q132 ?_ ?_
 refine yr (q123 && (decide ((p0.Kids.length : Int) ≤ 4))) (fun hc => ?_) (fun hc => ?_)
 refine yl 169 hc ?_
 iterate 12 refine yt ?_
 exact yh 24 182 (.bool true) (WO.mk 169 hc (by rw [← hx_q132, hc]; rfl))
 refine yl 169 hc (yc 12 1 [5] rfl (yg (hS30.rf m1) rfl (ya 14 2 rfl (yac (l1 := [16, 17, 18, 19]) 177 ((sEq p0.Name (⟨#[108, 101, 110, 103, 116, 104]⟩ : ByteArray)) || (sEq p0.Name (⟨#[97, 98, 115]⟩ : ByteArray))) ?_ ?_))))
 refine yr (sEq p0.Name (⟨#[108, 101, 110, 103, 116, 104]⟩ : ByteArray)) (fun hc => ?_) (fun hc => ?_)
 refine yl 173 hc ?_
 iterate 3 refine yt ?_
 exact yh 19 177 (.bool true) (WO.mk 173 hc (by rw [hc]; rfl))
 exact yl 173 hc (yc 16 1 [5] rfl (yg (hS30.rf m1) rfl (ya 18 1 rfl (yh 19 177 (.bool (sEq p0.Name (⟨#[97, 98, 115]⟩ : ByteArray))) (WO.mk 173 hc (by rw [hc]; rfl))))))
 refine ya 20 1 rfl (yac (l1 := [21, 22, 23]) 181 (((sEq p0.Name (⟨#[108, 101, 110, 103, 116, 104]⟩ : ByteArray)) || (sEq p0.Name (⟨#[97, 98, 115]⟩ : ByteArray))) && ((p0.Kids.length : Int) == 1)) ?_ ?_)
 refine yr ((sEq p0.Name (⟨#[108, 101, 110, 103, 116, 104]⟩ : ByteArray)) || (sEq p0.Name (⟨#[97, 98, 115]⟩ : ByteArray))) (fun hc => ?_) (fun hc => ?_)
 exact yl 178 hc (ya 21 2 rfl (yh 23 181 (.bool ((p0.Kids.length : Int) == 1)) (WO.mk 178 hc (by rw [hc]; rfl))))
 refine yl 178 hc ?_
 iterate 2 refine yt ?_
 exact yh 23 181 (.bool false) (WO.mk 178 hc (by rw [hc]; rfl))
 exact yh 24 182 (.bool (((sEq p0.Name (⟨#[108, 101, 110, 103, 116, 104]⟩ : ByteArray)) || (sEq p0.Name (⟨#[97, 98, 115]⟩ : ByteArray))) && ((p0.Kids.length : Int) == 1))) (WO.mk 169 hc (by rw [← hx_q132, hc]; rfl))
 refine ya 25 1 rfl (yb (W.ret (yj (ye ?_))))
 obtain rfl := sj hr
 exact yu ⟨I6, rfl, hl7, hS30.drop.drop⟩
 refine yd nL2 (ya 0 2 rfl (yb (W.cb hr (fun hc hr => ?_) (fun hc hr => ?_))))
 refine yd nL16 (ya 0 2 rfl (yac (l1 := [2, 3, 4]) 189 (p1 && ((p0.Kids.length : Int) == 0)) ?_ ?_))
 refine yr p1 (fun hc => ?_) (fun hc => ?_)
 exact yl 186 hc (ya 2 2 rfl (yh 4 189 (.bool ((p0.Kids.length : Int) == 0)) (WO.mk 186 hc (by rw [hc]; rfl))))
 refine yl 186 hc ?_
 iterate 2 refine yt ?_
 exact yh 4 189 (.bool false) (WO.mk 186 hc (by rw [hc]; rfl))
 refine ya 5 1 rfl ?_
 obtain ⟨q143, hx_q143, hr⟩ := bsm hr
 replace hx_q143 := sj hx_q143
 refine yac (l1 := [6, 7, 8, 9]) 194 q143 ?_ ?_
 refine yr (p1 && ((p0.Kids.length : Int) == 0)) (fun hc => ?_) (fun hc => ?_)
 exact yl 190 hc (yc 6 1 [1] rfl (yg (hS30.rf m1) rfl (ya 8 1 rfl (yh 9 194 (.bool (decide (p0.Op ≥ 0))) (WO.mk 190 hc (by rw [← hx_q143, hc]; rfl))))))
 refine yl 190 hc ?_
 iterate 3 refine yt ?_
 exact yh 9 194 (.bool false) (WO.mk 190 hc (by rw [← hx_q143, hc]; rfl))
 refine ya 10 1 rfl (yac (l1 := [11, 12, 13, 14]) 199 (q143 && (decide (p0.Op ≤ 5))) ?_ ?_)
 refine yr q143 (fun hc => ?_) (fun hc => ?_)
 exact yl 195 hc (yc 11 1 [1] rfl (yg (hS30.rf m1) rfl (ya 13 1 rfl (yh 14 199 (.bool (decide (p0.Op ≤ 5))) (WO.mk 195 hc (by rw [hc]; rfl))))))
 refine yl 195 hc ?_
 iterate 3 refine yt ?_
 exact yh 14 199 (.bool false) (WO.mk 195 hc (by rw [hc]; rfl))
 refine ya 15 1 rfl (yb (W.ret (yj (ye ?_))))
 obtain rfl := sj hr
 exact yu ⟨I6, rfl, hl7, hS30.drop.drop⟩
 refine yi (yk (En.next (yd [0] (ya 0 1 rfl (yb (W.ret ?_))))))
 obtain rfl := sj hr
 exact yu ⟨I6, rfl, hl7, hS30.drop.drop⟩
theorem r10_Right_ok {p0 : qExpr} {p1 : Bool} {w_p0 : W_qExpr} (h_p0 : ok_qExpr I p0 w_p0) (hS : St E w I Os) {r : Bool} (hr : r10_Right p0 p1 = some r) :
    Calls P 155 #[(.agg (cs_qExpr p0 w_p0).toArray), (.bool p1)] w (fun e w' => ∃ I', e = .returned (.bool r) ∧ I.Le I' ∧ St E w' I' Os) := by
 obtain ⟨fu, hf⟩ := anyFuel_some hr
 exact r10_Right_fu_ok fu h_p0 hS hf
noncomputable def r10_Check (p0 : qExpr) (p1 : Bool) : Option Int := (r10_Height p0).bind (fun r10 => (bif (decide (r10 > 8)) then some 17 else (r10_Right p0 p1).bind (fun r17 => (bif (!r17) then some 2 else some 0))))
theorem r10_Check_ok {p0 : qExpr} {p1 : Bool} {w_p0 : W_qExpr} (h_p0 : ok_qExpr I p0 w_p0) (hS : St E w I Os) {r : Int} (hr : r10_Check p0 p1 = some r) :
    Calls P 126 #[(.agg (cs_qExpr p0 w_p0).toArray), (.bool p1)] w (fun e w' => ∃ I', e = .returned (Iv r) ∧ I.Le I' ∧ St E w' I' Os) := by
 refine calls_W (fn := Tryz.f126) rfl rfl rfl ?_
 unfold r10_Check at hr
 refine yd nL2 (yy hS (cs_qExpr p0 w_p0) 39 rfl fun b1 w4 hS3 => ya 1 1 rfl (yb (yf (yd nL3 (yv ((cs_qExpr p0 w_p0)) (hS3.rf m0) rfl (bsk hr fun r10 hx_r5 hr => WO.c1 (r10_Height_ok h_p0 hS3 hx_r5) rfl fun I7 w6 hl8 hS9 => ya 2 1 rfl (yb (W.cb hr (fun hc hr => ?_) (fun hc hr => ?_)))))))))
 refine yd [0] (ya 0 1 rfl (yb (W.ret (ye ?_))))
 obtain rfl := sj hr
 exact yu ⟨I7, rfl, hl8, hS9.drop⟩
 refine yi (En.next (yf (yd nL4 (yv ((cs_qExpr p0 w_p0)) (hS9.rf m0) rfl (ya 1 1 rfl (bsk hr fun r17 hx_r12 hr => WO.c1 (r10_Right_ok (h_p0.mono hl8) hS9 hx_r12) rfl fun I14 w13 hl15 hS16 => ya 3 1 rfl (yb (W.cb hr (fun hc hr => ?_) (fun hc hr => ?_)))))))))
 refine yd [0] (ya 0 1 rfl (yb (W.ret (ye ?_))))
 obtain rfl := sj hr
 exact yu ⟨I14, rfl, le, hS16.drop⟩
 refine yi (En.next (yd [0] (ya 0 1 rfl (yb (W.ret ?_)))))
 obtain rfl := sj hr
 exact yu ⟨I14, rfl, le, hS16.drop⟩
noncomputable def r10_Params (p0 : qExpr) : Option Int := (r10_Parts p0).bind (fun r10 => (forE (fun (i15 : Nat) => fun (s14 : Int) => (idx r10 (i15 : Int)).bind (fun x23 => ((bif (x23.Kind == 3) then (idx r10 (i15 : Int)).bind (fun x28 => some (decide (x28.Op > s14))) else some false)).bind (fun (j24 : Bool) => ((bif j24 then (idx r10 (i15 : Int)).bind (fun x35 => some x35.Op) else some s14)).bind (fun (j31 : Int) => some j31)))) r10.length 0 0).bind (fun s14 => some s14))
theorem r10_Params_ok {p0 : qExpr} {w_p0 : W_qExpr} (h_p0 : ok_qExpr I p0 w_p0) (hS : St E w I Os) {r : Int} (hr : r10_Params p0 = some r) :
    Calls P 127 #[(.agg (cs_qExpr p0 w_p0).toArray)] w (fun e w' => ∃ I', e = .returned (Iv r) ∧ I.Le I' ∧ St E w' I' Os) := by
 refine calls_W (fn := Tryz.f127) rfl rfl rfl ?_
 unfold r10_Params at hr
 refine yd nL2 (yy hS (cs_qExpr p0 w_p0) 39 rfl fun b1 w4 hS3 => ya 1 1 rfl (y0 nL3 (yv ((cs_qExpr p0 w_p0)) (hS3.rf m0) rfl (bsk hr fun r10 hx_r5 hr => yab (r10_Parts_ok h_p0 hS3 hx_r5) ?_))))
 rintro _ w6 ⟨I7, a_r10, c_r10, rfl, hl8, hS9, h_r10⟩
 refine ⟨_, rfl, trivial, ?_⟩
 refine ya 2 1 rfl (y0 [0] (ya 0 1 rfl (yb (yf (yd [0] (ya 0 1 rfl (yb (W.block (bsk hr fun s14 hloop16 hr => have hlt21 := (h_r10).len_lt; W.wk (W.forE (m := r10.length) hloop16 (fun (i15 : Nat) => fun (s14 : Int) fr w => ∃ I12, fr = [(3, Sl a_r10 r10 c_r10), (4, Iv s14), (5, Nv i15)] ∧ I7.Le I12 ∧ St E w I12 Os) ⟨I7, rfl, lr, hS9.drop⟩ ?_ ?_))))))))))
 rintro i15 s14 _ w18 hi22 ⟨I12, rfl, hl13, hS19⟩ x20 hr1
 refine yf (yd nL4 (ya 0 4 rfl (yb (yah fun _ => yi (En.next (yf (W.block (yd nL15 (ya 0 2 rfl ?_)))))))))
 obtain ⟨x23, hx_x23, hr1⟩ := bsm hr1
 obtain ⟨h0_x23, h1_x23, hx_x23⟩ := idx_some hx_x23
 obtain ⟨ha_x23, cs_x23, hn_x23, hr_x23, hc_x23⟩ := ((RSl.mono h_r10 hl13)).el _ _ hx_x23
 obtain ⟨w_x23, rfl, h_x23⟩ := Q_qExpr_iff.1 hr_x23
 refine yaq 39 7 ha_x23 h0_x23 h1_x23 ?_
 refine yc 3 1 [0] rfl (yaf hc_x23 hS19.rm rfl (ya 5 2 rfl (bsk hr1 fun j24 hr2 hr1 => WO.jw (l1 := [7, 8, 9, 10, 11, 12, 13, 14]) (J := (fun fr w => ∃ I26, fr = [(3, Sl a_r10 r10 c_r10), (4, Iv s14), (5, Nv i15), (28, .bool j24)] ∧ I12.Le I26 ∧ St E w I26 Os)) ?_ ?_)))
 refine WO.cb hr2 (fun hc hr2 => ?_) (fun hc hr2 => ?_)
 refine yl 20 hc (ya 7 2 rfl ?_)
 obtain ⟨x28, hx_x28, hr2⟩ := bsm hr2
 obtain ⟨h0_x28, h1_x28, hx_x28⟩ := idx_some hx_x28
 obtain ⟨ha_x28, cs_x28, hn_x28, hr_x28, hc_x28⟩ := ((RSl.mono h_r10 hl13)).el _ _ hx_x28
 obtain ⟨w_x28, rfl, h_x28⟩ := Q_qExpr_iff.1 hr_x28
 refine yaq 39 7 ha_x28 h0_x28 h1_x28 ?_
 refine yc 10 1 [1] rfl (yal hc_x28 1 hS19.rm rfl (ya 12 2 rfl (yh 14 28 (.bool (decide (x28.Op > s14))) ?_)))
 obtain rfl := sj hr2
 exact yw ⟨I12, rfl, lr, hS19⟩
 refine yl 20 hc ?_
 iterate 7 refine yt ?_
 refine yh 14 28 (.bool false) ?_
 obtain rfl := sj hr2
 exact yw ⟨I12, rfl, lr, hS19⟩
 rintro _ w29 ⟨I26, rfl, hl27, hS30⟩
 refine yb (bsk hr1 fun j31 hr2 hr1 => W.jw (J := (fun fr w => ∃ I33, fr = [(3, Sl a_r10 r10 c_r10), (4, Iv j31), (5, Nv i15)] ∧ I26.Le I33 ∧ St E w I33 Os)) ?_ ?_)
 refine W.cb hr2 (fun hc hr2 => ?_) (fun hc hr2 => ?_)
 refine yaa nL6 (ya 0 2 rfl ?_)
 obtain ⟨x35, hx_x35, hr2⟩ := bsm hr2
 obtain ⟨h0_x35, h1_x35, hx_x35⟩ := idx_some hx_x35
 obtain ⟨ha_x35, cs_x35, hn_x35, hr_x35, hc_x35⟩ := ((RSl.mono h_r10 (hl13.trans hl27))).el _ _ hx_x35
 obtain ⟨w_x35, rfl, h_x35⟩ := Q_qExpr_iff.1 hr_x35
 refine yaq 39 7 ha_x35 h0_x35 h1_x35 ?_
 refine yc 3 1 [1] rfl (yal hc_x35 1 hS30.rm rfl (ya 5 1 rfl (WO.nil ?_)))
 obtain rfl := sj hr2
 exact yq ⟨I26, rfl, lr, hS30⟩
 refine yi ?_
 obtain rfl := sj hr2
 exact yq ⟨I26, rfl, lr, hS30⟩
 rintro _ w36 ⟨I33, rfl, hl34, hS37⟩
 refine yk (En.next (yaa nL3 (ya 0 1 rfl (yae i15 rfl (ya 2 1 rfl (WO.nil ?_))))))
 obtain rfl := sj hr1
 exact yq ⟨I33, rfl, le, hS37⟩
 rintro _ w38 ⟨I12, rfl, hl13, hS39⟩
 refine yf (yd nL4 (ya 0 4 rfl (yb (yai fun _ => yz (ym (yn (yo (En.next (yd nL2 (ya 0 2 rfl (yb (W.ret ?_))))))))))))
 obtain rfl := sj hr
 exact yu ⟨I12, rfl, le, hS39⟩
def r10_SameList (f_117 : qExpr → qExpr → Option Bool) (p0 : List qExpr) (p1 : List qExpr) : Option Bool := (bif ((p0.length : Int) != (p1.length : Int)) then some false else (forN (fun (i4 : Nat) => fun (_s : Unit) => (idx p0 (i4 : Int)).bind (fun x13 => (idx p1 (i4 : Int)).bind (fun x14 => (f_117 x13 x14).bind (fun (r20 : Bool) => (bif (!r20) then some (.inr false) else some (.inl ())))))) p0.length 0 ()).bind (fun (t : Unit ⊕ (Bool)) => match t with | .inl _ => some true | .inr s22 => some s22))
theorem r10_SameList_ok {f_117 : qExpr → qExpr → Option Bool} {p0 : List qExpr} {p1 : List qExpr} {a_p0 : Option Addr} {c_p0 : Nat} {a_p1 : Option Addr} {c_p1 : Nat} (h_f_117 : ∀ {E w : World} {I : Mem} {Os : List Mem} {p0 : qExpr} {p1 : qExpr} {w_p0 : W_qExpr} {w_p1 : W_qExpr} (h_p0 : ok_qExpr I p0 w_p0) (h_p1 : ok_qExpr I p1 w_p1) (hS : St E w I Os) {r : Bool} (hr : f_117 p0 p1 = some r), Calls P 117 #[(.agg (cs_qExpr p0 w_p0).toArray), (.agg (cs_qExpr p1 w_p1).toArray)] w (fun e w' => ∃ I', e = .returned (.bool r) ∧ I.Le I' ∧ St E w' I' Os)) (h_p0 : RSl 7 Q_qExpr I a_p0 c_p0 p0) (h_p1 : RSl 7 Q_qExpr I a_p1 c_p1 p1) (hS : St E w I Os) {r : Bool} (hr : r10_SameList f_117 p0 p1 = some r) :
    Calls P 151 #[(Sl a_p0 p0 c_p0), (Sl a_p1 p1 c_p1)] w (fun e w' => ∃ I', e = .returned (.bool r) ∧ I.Le I' ∧ St E w' I' Os) := by
 refine calls_W (fn := Tryz.f151) rfl rfl rfl ?_
 unfold r10_SameList at hr
 refine yd [0] (ya 0 1 rfl (yb (yf (yd nL5 (ya 0 5 rfl (yb (W.cb hr (fun hc hr => ?_) (fun hc hr => ?_))))))))
 refine yd [0] (ya 0 1 rfl (yb (W.ret (ye ?_))))
 obtain rfl := sj hr
 exact yu ⟨I, rfl, lr, hS⟩
 refine yi (En.next (yf (yd [0] (ya 0 1 rfl (yb (W.block (bsk hr fun t1 hloop5 hr => have hlt9 := (h_p0).len_lt; W.wk (W.forN (m := p0.length) hloop5 (fun (i4 : Nat) => fun (_s : Unit) fr w => ∃ I2, fr = [(0, Sl a_p0 p0 c_p0), (1, Sl a_p1 p1 c_p1), (5, Nv i4)] ∧ I.Le I2 ∧ St E w I2 Os) ⟨I, rfl, lr, hS⟩ ?_ ?_))))))))
 rintro i4 _ _ w6 hi10 ⟨I2, rfl, hl3, hS7⟩ x8 hr1 hext1
 refine yf (yd nL4 (ya 0 4 rfl (yb (yah fun _ => yi (En.next (yf (W.block (yf (have hS11 := hS7.drew; yat nL10 8 (KR.nil hS11.im) ?_)))))))))
 generalize World.drew _ = w12 at *
 refine ya 0 2 rfl ?_
 obtain ⟨x13, hx_x13, hr1⟩ := bsm hr1
 obtain ⟨h0_x13, h1_x13, hx_x13⟩ := idx_some hx_x13
 obtain ⟨ha_x13, cs_x13, hn_x13, hr_x13, hc_x13⟩ := ((RSl.mono h_p0 hl3)).el _ _ hx_x13
 obtain ⟨w_x13, rfl, h_x13⟩ := Q_qExpr_iff.1 hr_x13
 refine yaq 39 7 ha_x13 h0_x13 h1_x13 ?_
 refine yak ((cs_qExpr x13 w_x13)) hc_x13 0 (rd_i hS11.im) rfl (ya 4 2 rfl ?_)
 obtain ⟨x14, hx_x14, hr1⟩ := bsm hr1
 obtain ⟨h0_x14, h1_x14, hx_x14⟩ := idx_some hx_x14
 obtain ⟨ha_x14, cs_x14, hn_x14, hr_x14, hc_x14⟩ := ((RSl.mono h_p1 hl3)).el _ _ hx_x14
 obtain ⟨w_x14, rfl, h_x14⟩ := Q_qExpr_iff.1 hr_x14
 refine yaq 39 7 ha_x14 h0_x14 h1_x14 ?_
 refine yak ((cs_qExpr x14 w_x14)) hc_x14 0 (rd_i hS11.im) rfl (WO.tail rfl (bsk hr1 fun r20 hx_r15 hr1 => WO.c1 (h_f_117 h_x13 h_x14 hS11 hx_r15) rfl fun I17 w16 hl18 hS19 => ya 9 1 rfl (yb (W.cb hr1 (fun hc hr1 => ?_) (fun hc hr1 => ?_)))))
 refine yd [0] (ya 0 1 rfl (yb (W.ret (yj (ye (yp ?_))))))
 obtain rfl := hext1 _ (sj hr1).symm
 refine yj (ye ?_)
 obtain rfl := sj hr
 exact yu ⟨I17, rfl, le, hS19⟩
 exact yi (yk (En.next (yaa nL3 (ya 0 1 rfl (yae i4 rfl (ya 2 1 rfl (WO.nil (yq ⟨(), (sj hr1).symm, I17, rfl, le, hS19⟩))))))))
 rintro _ _ w23 ⟨I2, rfl, hl3, hS24⟩ he
 cases he
 refine yf (yd nL4 (ya 0 4 rfl (yb (yai fun _ => yz (ym (yn (yo (En.next (yd [0] (ya 0 1 rfl (yb (W.ret ?_))))))))))))
 obtain rfl := sj hr
 exact yu ⟨I2, rfl, hl3, hS24⟩
def r10_Same_fu : Nat → qExpr → qExpr → Option Bool
  | 0, _, _ => none
  | fu + 1, p0, p1 => (some (((p0.Kind != p1.Kind) || (p0.Op != p1.Op)) || (!((p0.V.Kind == p1.V.Kind) && ((p0.V.N == p1.V.N) && sEq p0.V.S p1.V.S))))).bind (fun (q11 : Bool) => (bif (q11 || (!sEq p0.Name p1.Name)) then some false else (r10_SameList (r10_Same_fu fu) p0.Kids p1.Kids).bind (fun r23 => some r23)))
noncomputable def r10_Same (p0 : qExpr) (p1 : qExpr) : Option Bool := anyFuel (fun fu => r10_Same_fu fu p0 p1)
theorem r10_Same_fu_ok : ∀ (fu : Nat) {E w : World} {I : Mem} {Os : List Mem} {p0 : qExpr} {p1 : qExpr} {w_p0 : W_qExpr} {w_p1 : W_qExpr} (h_p0 : ok_qExpr I p0 w_p0) (h_p1 : ok_qExpr I p1 w_p1) (hS : St E w I Os) {r : Bool} (hr : r10_Same_fu fu p0 p1 = some r),
    Calls P 117 #[(.agg (cs_qExpr p0 w_p0).toArray), (.agg (cs_qExpr p1 w_p1).toArray)] w (fun e w' => ∃ I', e = .returned (.bool r) ∧ I.Le I' ∧ St E w' I' Os) := by
 intro fu
 induction fu with
 | zero => intro E w I Os p0 p1 w_p0 w_p1 h_p0 h_p1 hS r hr; cases hr
 | succ fu ih =>
 intro E w I Os p0 p1 w_p0 w_p1 h_p0 h_p1 hS r hr
 refine calls_W (fn := Tryz.f117) rfl rfl rfl ?_
 unfold r10_Same_fu at hr
 refine yd nL3 (yy hS (cs_qExpr p0 w_p0) 39 rfl fun b1 w4 hS3 => yy hS3 (cs_qExpr p1 w_p1) 39 rfl fun b5 w8 hS7 => ya 2 1 rfl (yb (yf (yd nL26 (yc 0 1 [0] rfl (yg (hS7.rf m1) rfl (yc 2 1 [0] rfl (yg (hS7.rf m0) rfl (ya 4 2 rfl (yac (l1 := [6, 7, 8, 9, 10, 11]) 16 ((p0.Kind != p1.Kind) || (p0.Op != p1.Op)) ?_ ?_))))))))))
 refine yr (p0.Kind != p1.Kind) (fun hc => ?_) (fun hc => ?_)
 refine yl 10 hc ?_
 iterate 5 refine yt ?_
 exact yh 11 16 (.bool true) (WO.mk 10 hc (by rw [hc]; rfl))
 exact yl 10 hc (yc 6 1 [1] rfl (yg (hS7.rf m1) rfl (yc 8 1 [1] rfl (yg (hS7.rf m0) rfl (ya 10 1 rfl (yh 11 16 (.bool (p0.Op != p1.Op)) (WO.mk 10 hc (by rw [hc]; rfl))))))))
 refine ya 12 1 rfl ?_
 obtain ⟨q11, hx_q11, hr⟩ := bsm hr
 replace hx_q11 := sj hx_q11
 refine yac (l1 := [13, 14, 15, 16, 17, 18]) 23 q11 ?_ ?_
 refine yr ((p0.Kind != p1.Kind) || (p0.Op != p1.Op)) (fun hc => ?_) (fun hc => ?_)
 refine yl 17 hc ?_
 iterate 5 refine yt ?_
 exact yh 18 23 (.bool true) (WO.mk 17 hc (by rw [← hx_q11, hc]; rfl))
 refine yl 17 hc (yc 13 1 [2] rfl (yv ((cs_qValue p0.V)) (hS7.rf m1) rfl (yc 15 1 [2] rfl (yv ((cs_qValue p1.V)) (hS7.rf m0) rfl (ya5 rfl (by kernel_rfl) rfl rfl (by kernel_rfl) 50 rfl (b := ((p0.V.Kind == p1.V.Kind) && ((p0.V.N == p1.V.N) && (sEq p0.V.S p1.V.S && true)))) (by kernel_rfl) (!((p0.V.Kind == p1.V.Kind) && ((p0.V.N == p1.V.N) && sEq p0.V.S p1.V.S))) (.inr ⟨rfl, by simp only [Bool.and_true]⟩) ?_)))))
 exact yh 18 23 (.bool (!((p0.V.Kind == p1.V.Kind) && ((p0.V.N == p1.V.N) && sEq p0.V.S p1.V.S)))) (WO.mk 17 hc (by rw [← hx_q11, hc]; rfl))
 refine ya 19 1 rfl (yac (l1 := [20, 21, 22, 23, 24, 25]) 30 (q11 || (!sEq p0.Name p1.Name)) ?_ ?_)
 refine yr q11 (fun hc => ?_) (fun hc => ?_)
 refine yl 24 hc ?_
 iterate 5 refine yt ?_
 exact yh 25 30 (.bool true) (WO.mk 24 hc (by rw [hc]; rfl))
 exact yl 24 hc (yc 20 1 [5] rfl (yg (hS7.rf m1) rfl (yc 22 1 [5] rfl (yg (hS7.rf m0) rfl (ya 24 1 rfl (yh 25 30 (.bool (!sEq p0.Name p1.Name)) (WO.mk 24 hc (by rw [hc]; rfl))))))))
 refine yb (W.cb hr (fun hc hr => ?_) (fun hc hr => ?_))
 refine yd [0] (ya 0 1 rfl (yb (W.ret (ye ?_))))
 obtain rfl := sj hr
 exact yu ⟨I, rfl, lr, hS7.drop.drop⟩
 refine yi (En.next (yd nL6 (yc 0 1 [6] rfl (yg (hS7.rf m1) rfl (yc 2 1 [6] rfl (yg (hS7.rf m0) rfl (bsk hr fun r23 hx_r18 hr => WO.c1 (r10_SameList_ok ih h_p0.Kids h_p1.Kids hS7 hx_r18) rfl fun I20 w19 hl21 hS22 => ya 5 1 rfl (yb (W.ret ?_)))))))))
 obtain rfl := sj hr
 exact yu ⟨I20, rfl, hl21, hS22.drop.drop⟩
theorem r10_Same_ok {p0 : qExpr} {p1 : qExpr} {w_p0 : W_qExpr} {w_p1 : W_qExpr} (h_p0 : ok_qExpr I p0 w_p0) (h_p1 : ok_qExpr I p1 w_p1) (hS : St E w I Os) {r : Bool} (hr : r10_Same p0 p1 = some r) :
    Calls P 117 #[(.agg (cs_qExpr p0 w_p0).toArray), (.agg (cs_qExpr p1 w_p1).toArray)] w (fun e w' => ∃ I', e = .returned (.bool r) ∧ I.Le I' ∧ St E w' I' Os) := by
 obtain ⟨fu, hf⟩ := anyFuel_some hr
 exact r10_Same_fu_ok fu h_p0 h_p1 hS hf
noncomputable def r12_None (p0 : qExpr) : Option Bool := (r10_Same p0 z_qExpr).bind (fun r10 => some r10)
theorem r12_None_ok {p0 : qExpr} {w_p0 : W_qExpr} (h_p0 : ok_qExpr I p0 w_p0) (hS : St E w I Os) {r : Bool} (hr : r12_None p0 = some r) :
    Calls P 128 #[(.agg (cs_qExpr p0 w_p0).toArray)] w (fun e w' => ∃ I', e = .returned (.bool r) ∧ I.Le I' ∧ St E w' I' Os) := by
 refine calls_W (fn := Tryz.f128) rfl rfl rfl ?_
 unfold r12_None at hr
 refine yd nL2 (yy hS (cs_qExpr p0 w_p0) 39 rfl fun b1 w4 hS3 => ya 1 1 rfl (y0 nL4 (yv ((cs_qExpr p0 w_p0)) (hS3.rf m0) rfl (yh 1 4 (.agg (cs_qExpr z_qExpr zw_qExpr).toArray) (bsk hr fun r10 hx_r5 hr => WO.c1 (r10_Same_ok h_p0 zok_qExpr hS3 hx_r5) rfl fun I7 w6 hl8 hS9 => ya 3 1 rfl (yb (W.ret ?_)))))))
 obtain rfl := sj hr
 exact yu ⟨I7, rfl, hl8, hS9.drop⟩
noncomputable def r14_Check (p0 : qTable) : Option Int := (r14_wrong p0).bind (fun r10 => (bif (r10 != 0) then some r10 else (r14_Names p0).bind (fun (r17, r18) => (r14_Used p0).bind (fun r24 => (forN (fun (i28 : Nat) => fun (_s : Unit) => (idx r24 (i28 : Int)).bind (fun x35 => (r14_Has r17 x35).bind (fun r41 => (bif (!r41) then some (.inr (4 : Int)) else some (.inl ()))))) r24.length 0 ()).bind (fun (t : Unit ⊕ (Int)) => match t with | .inl _ => (forN (fun (i52 : Nat) => fun (s51 : Bool) => ((idx p0.Cons (i52 : Int)).bind (fun x63 => (bif (x63.Kind != 2) then some (.inl s51) else (idx p0.Cons (i52 : Int)).bind (fun x65 => (r10_Check x65.Check false).bind (fun r71 => (bif (r71 == 17) then some (.inr 17) else ((bif (s51 || (r71 != 0)) then some true else (idx p0.Cons (i52 : Int)).bind (fun x85 => (r10_Params x85.Check).bind (fun r91 => some (decide (r91 > 0)))))).bind (fun (j81 : Bool) => some (.inl j81)))))))).bind (fun (t : Bool ⊕ Int) => match t with | (.inl s64) => some (.inl s64) | (.inr s73) => some (.inr s73))) p0.Cons.length 0 false).bind (fun (t : Bool ⊕ (Int)) => match t with | .inl s51 => (bif s51 then some 2 else (forN (fun (i102 : Nat) => fun (_s : Unit) => (idx p0.Cons (i102 : Int)).bind (fun x109 => ((bif (x109.Kind != 2) then (r12_None x109.Check).bind (fun r125 => some (!r125)) else some false)).bind (fun (j116 : Bool) => (some (j116 || ((x109.Kind == 2) && (decide ((x109.Cols.length : Int) > 0))))).bind (fun (q132 : Bool) => (bif q132 then some (.inr (2 : Int)) else ((bif (x109.Kind == 3) then (r09_IsName x109.Table).bind (fun r151 => (some ((!r151) || ((x109.Refs.length : Int) != (x109.Cols.length : Int)))).bind (fun (q152 : Bool) => some q152)) else some false)).bind (fun (j142 : Bool) => (some (j142 || ((x109.Kind != 3) && ((!sEq x109.Table (⟨#[]⟩ : ByteArray)) || (decide ((x109.Refs.length : Int) > 0)))))).bind (fun (q163 : Bool) => (bif q163 then some (.inr (2 : Int)) else some (.inl ()))))))))) p0.Cons.length 0 ()).bind (fun (t : Unit ⊕ (Int)) => match t with | .inl _ => some 0 | .inr s138 => some s138)) | .inr s75 => some s75) | .inr s43 => some s43)))))
theorem r14_Check_ok {p0 : qTable} {w_p0 : W_qTable} (h_p0 : ok_qTable I p0 w_p0) (hS : St E w I Os) {r : Int} (hr : r14_Check p0 = some r) :
    Calls P 90 #[(.agg (cs_qTable p0 w_p0).toArray)] w (fun e w' => ∃ I', e = .returned (Iv r) ∧ I.Le I' ∧ St E w' I' Os) := by
 refine calls_W (fn := Tryz.f90) rfl rfl rfl ?_
 unfold r14_Check at hr
 refine yd nL2 (yy hS (cs_qTable p0 w_p0) 89 rfl fun b1 w4 hS3 => ya 1 1 rfl (y0 nL3 (yv ((cs_qTable p0 w_p0)) (hS3.rf m0) rfl (bsk hr fun r10 hx_r5 hr => WO.c1 (r14_wrong_ok h_p0 hS3 hx_r5) rfl fun I7 w6 hl8 hS9 => ya 2 1 rfl (yb (yf (yd nL2 (ya 0 2 rfl (yb (W.cb hr (fun hc hr => ?_) (fun hc hr => ?_)))))))))))
 refine yd nL2 (ya 0 2 rfl (yb (W.ret (ye ?_))))
 obtain rfl := sj hr
 exact yu ⟨I7, rfl, hl8, hS9.drop⟩
 refine yi (En.next (yd nL7 (yv ((cs_qTable p0 w_p0)) (hS9.rf m0) rfl ?_)))
 obtain ⟨⟨r17, r18⟩, hx_r12, hr⟩ := bsm hr
 refine yab (r14_Names_ok (h_p0.mono hl8) hS9 hx_r12) ?_
 rintro _ w13 ⟨I14, a_r17, c_r17, a_r18, c_r18, rfl, hl15, hS16, h_r17, h_r18⟩
 refine ⟨_, rfl, trivial, ?_⟩
 refine ya 2 5 rfl (y0 nL3 (yv ((cs_qTable p0 w_p0)) (hS16.rf m0) rfl (bsk hr fun r24 hx_r19 hr => yab (r14_Used_ok (h_p0.mono le) hS16 hx_r19) ?_)))
 rintro _ w20 ⟨I21, a_r24, c_r24, rfl, hl22, hS23, h_r24⟩
 refine ⟨_, rfl, trivial, ?_⟩
 refine ya 2 1 rfl (yb (yf (yd [0] (ya 0 1 rfl (yb (W.block (bsk hr fun t25 hloop29 hr => have hlt33 := (h_r24).len_lt; W.wk (W.forN (m := r24.length) hloop29 (fun (i28 : Nat) => fun (_s : Unit) fr w => ∃ I26, fr = [(1, Pt b1 0), (4, Sl a_r17 r17 c_r17), (6, Sl a_r24 r24 c_r24), (7, Nv i28)] ∧ I21.Le I26 ∧ St E w I26 ((Bx b1 (cs_qTable p0 w_p0) 89) :: Os)) ⟨I21, rfl, lr, hS23⟩ ?_ ?_))))))))
 rintro i28 _ _ w30 hi34 ⟨I26, rfl, hl27, hS31⟩ x32 hr1 hext25
 refine yf (yd nL4 (ya 0 4 rfl (yb (yah fun _ => yi (En.next (yf (W.block (yd nL7 (ya 0 3 rfl ?_)))))))))
 obtain ⟨x35, hr1, hb_x35, _, rfl, hc_x35⟩ := sl_ix ((RSl.mono h_r24 hl27)) hr1
 refine y3 9 1 hb_x35 rfl (yaf hc_x35 hS31.rm rfl (bsk hr1 fun r41 hx_r36 hr1 => WO.c1 (r14_Has_ok (RSl.mono h_r17 le) hS31 hx_r36) rfl fun I38 w37 hl39 hS40 => ya 6 1 rfl (yb (W.cb hr1 (fun hc hr1 => ?_) (fun hc hr1 => ?_)))))
 refine yd [0] (ya 0 1 rfl (yb (W.ret (yj (ye (yp ?_))))))
 obtain rfl := hext25 _ (sj hr1).symm
 refine yj (ye ?_)
 obtain rfl := sj hr
 exact yu ⟨I38, rfl, le, hS40.drop⟩
 exact yi (yk (En.next (yaa nL3 (ya 0 1 rfl (yae i28 rfl (ya 2 1 rfl (WO.nil (yq ⟨(), (sj hr1).symm, I38, rfl, le, hS40⟩))))))))
 rintro _ _ w46 ⟨I26, rfl, hl27, hS47⟩ he
 cases he
 refine yf (yd nL4 (ya 0 4 rfl (yb (yai fun _ => yz (ym (yn (yo (En.next (yd [0] (ya 0 1 rfl (yb (yf (yd [0] (ya 0 1 rfl (yb (W.block (bsk hr fun t48 hloop53 hr => have hlt57 := ((RSl.mono h_p0.Cons (((hl8.trans hl15).trans hl22).trans hl27))).len_lt; W.wk (W.forN (m := p0.Cons.length) hloop53 (fun (i52 : Nat) => fun (s51 : Bool) fr w => ∃ I49, fr = [(1, Pt b1 0), (8, .bool s51), (9, Nv i52)] ∧ I26.Le I49 ∧ St E w I49 ((Bx b1 (cs_qTable p0 w_p0) 89) :: Os)) ⟨I26, rfl, lr, hS47⟩ ?_ ?_))))))))))))))))))
 rintro i52 s51 _ w54 hi58 ⟨I49, rfl, hl50, hS55⟩ x56 hr1 hext48
 refine yf (yd nL5 (yc 0 2 [4] rfl (yg (hS55.rf m0) rfl (ya 3 2 rfl (yb (yah fun _ => yi (En.next (yf (bsk hr1 fun j59 hr2 hr1 => W.jw (J := (fun fr w => ∃ (s64 : Bool), ∃ I61, (.inl s64) = j59 ∧ fr = [(1, Pt b1 0), (8, .bool s64), (9, Nv i52)] ∧ I49.Le I61 ∧ St E w I61 ((Bx b1 (cs_qTable p0 w_p0) 89) :: Os))) ?_ ?_)))))))))
 refine W.block (yf (yd nL7 (yc 0 1 [4] rfl (yg (hS55.rf m0) rfl (ya 2 1 rfl ?_)))))
 obtain ⟨x63, hr2, hb_x63, _, ⟨w_x63, rfl, h_x63⟩, hc_x63⟩ := sl_ix ((RSl.mono h_p0.Cons ((((hl8.trans hl15).trans hl22).trans hl27).trans hl50))) hr2
 refine y3 100 12 hb_x63 rfl (yc 4 1 [1] rfl (yal hc_x63 1 hS55.rm rfl (ya 6 1 rfl (yb (W.cb hr2 (fun hc hr2 => ?_) (fun hc hr2 => ?_))))))
 exact yz (ym (yo (yq ⟨s51, I49, sj hr2, rfl, lr, hS55⟩)))
 refine yi (En.next (yd nL8 (yc 0 1 [4] rfl (yg (hS55.rf m0) rfl (ya 2 1 rfl ?_)))))
 obtain ⟨x65, hr2, hb_x65, _, ⟨w_x65, rfl, h_x65⟩, hc_x65⟩ := sl_ix ((RSl.mono h_p0.Cons ((((hl8.trans hl15).trans hl22).trans hl27).trans hl50))) hr2
 refine y3 100 12 hb_x65 rfl (yc 4 1 [3] rfl (yak ((cs_qExpr x65.Check w_x65.Check)) hc_x65 3 hS55.rm rfl (bsk hr2 fun r71 hx_r66 hr2 => WO.c1 (r10_Check_ok h_x65.Check hS55 hx_r66) rfl fun I68 w67 hl69 hS70 => ya 7 1 rfl (yb (yf (yd nL2 (ya 0 2 rfl (yb (W.cb hr2 (fun hc hr2 => ?_) (fun hc hr2 => ?_))))))))))
 refine yd [0] (ya 0 1 rfl (yb (W.ret (ye (yj (yp ?_))))))
 obtain rfl := sj hr2
 refine ye (yp ?_)
 obtain rfl := hext48 _ (sj hr1).symm
 refine yj (ye ?_)
 obtain rfl := sj hr
 exact yu ⟨I68, rfl, le, hS70.drop⟩
 refine yi (En.next (yaa nL16 (ya 0 2 rfl (yac (l1 := [2, 3, 4]) 65 (s51 || (r71 != 0)) ?_ ?_))))
 refine yr s51 (fun hc => ?_) (fun hc => ?_)
 refine yl 62 hc ?_
 iterate 2 refine yt ?_
 exact yh 4 65 (.bool true) (WO.mk 62 hc (by rw [hc]; rfl))
 exact yl 62 hc (ya 2 2 rfl (yh 4 65 (.bool (r71 != 0)) (WO.mk 62 hc (by rw [hc]; rfl))))
 refine ya 5 1 rfl (bsk hr2 fun j81 hr3 hr2 => WO.jw (l1 := [6, 7, 8, 9, 10, 11, 12, 13, 14]) (J := (fun fr w => ∃ I83, fr = [(1, Pt b1 0), (9, Nv i52), (75, .bool j81)] ∧ I68.Le I83 ∧ St E w I83 ((Bx b1 (cs_qTable p0 w_p0) 89) :: Os))) ?_ ?_)
 refine WO.cb hr3 (fun hc hr3 => ?_) (fun hc hr3 => ?_)
 refine yl 66 hc ?_
 iterate 8 refine yt ?_
 refine yh 14 75 (.bool true) ?_
 obtain rfl := sj hr3
 exact yw ⟨I68, rfl, lr, hS70⟩
 refine yl 66 hc (yc 6 1 [4] rfl (yg (hS70.rf m0) rfl (ya 8 1 rfl ?_)))
 obtain ⟨x85, hr3, hb_x85, _, ⟨w_x85, rfl, h_x85⟩, hc_x85⟩ := sl_ix ((RSl.mono h_p0.Cons (((((hl8.trans hl15).trans hl22).trans hl27).trans hl50).trans hl69))) hr3
 refine y3 100 12 hb_x85 rfl (yc 10 1 [3] rfl (yak ((cs_qExpr x85.Check w_x85.Check)) hc_x85 3 hS70.rm rfl (bsk hr3 fun r91 hx_r86 hr3 => WO.c1 (r10_Params_ok h_x85.Check hS70 hx_r86) rfl fun I88 w87 hl89 hS90 => ya 13 1 rfl (yh 14 75 (.bool (decide (r91 > 0))) ?_))))
 obtain rfl := sj hr3
 exact yw ⟨I88, rfl, hl89, hS90⟩
 rintro _ w92 ⟨I83, rfl, hl84, hS93⟩
 exact ya 15 1 rfl (WO.nil (yk (yq ⟨j81, I83, sj hr2, rfl, le, hS93⟩)))
 rintro _ w94 ⟨s64, I61, rfl, rfl, hl62, hS95⟩
 exact En.next (yaa nL3 (ya 0 1 rfl (yae i52 rfl (ya 2 1 rfl (WO.nil (yq ⟨s64, (sj hr1).symm, I61, rfl, le, hS95⟩))))))
 rintro s51 _ w96 ⟨I49, rfl, hl50, hS97⟩ he
 cases he
 refine yf (yd nL5 (yc 0 2 [4] rfl (yg (hS97.rf m0) rfl (ya 3 2 rfl (yb (yai fun _ => yz (ym (yn (yo (En.next (yf (yd [0] (ya 0 1 rfl (yb (W.cb hr (fun hc hr => ?_) (fun hc hr => ?_))))))))))))))))
 refine yd [0] (ya 0 1 rfl (yb (W.ret (ye ?_))))
 obtain rfl := sj hr
 exact yu ⟨I49, rfl, le, hS97.drop⟩
 refine yi (En.next (yf (yd [0] (ya 0 1 rfl (yb (W.block (bsk hr fun t99 hloop103 hr => have hlt107 := ((RSl.mono h_p0.Cons ((((hl8.trans hl15).trans hl22).trans hl27).trans hl50))).len_lt; W.wk (W.forN (m := p0.Cons.length) hloop103 (fun (i102 : Nat) => fun (_s : Unit) fr w => ∃ I100, fr = [(1, Pt b1 0), (11, Nv i102)] ∧ I49.Le I100 ∧ St E w I100 ((Bx b1 (cs_qTable p0 w_p0) 89) :: Os)) ⟨I49, rfl, lr, hS97⟩ ?_ ?_))))))))
 rintro i102 _ _ w104 hi108 ⟨I100, rfl, hl101, hS105⟩ x106 hr1 hext99
 refine yf (yd nL5 (yc 0 2 [4] rfl (yg (hS105.rf m0) rfl (ya 3 2 rfl (yb (yah fun _ => yi (En.next (yf (W.block (yd nL7 (yc 0 1 [4] rfl (yg (hS105.rf m0) rfl (ya 2 1 rfl ?_)))))))))))))
 obtain ⟨x109, hr1, hb_x109, _, ⟨w_x109, rfl, h_x109⟩, hc_x109⟩ := sl_ix ((RSl.mono h_p0.Cons (((((hl8.trans hl15).trans hl22).trans hl27).trans hl50).trans hl101))) hr1
 refine y3 100 12 hb_x109 rfl (yak ((cs_qCons x109 w_x109)) hc_x109 0 hS105.rm rfl (yy hS105 (cs_qCons z_qCons zw_qCons) 100 rfl fun b110 w113 hS112 => yx hS112 0 (cs_qCons x109 w_x109) fun w115 hS114 => yb (yf (yd nL20 (yc 0 1 [1] rfl (yg (hS114.rf m0) rfl (ya 2 2 rfl (bsk hr1 fun j116 hr2 hr1 => WO.jw (l1 := [4, 5, 6, 7, 8]) (J := (fun fr w => ∃ I118, fr = [(1, Pt b1 0), (11, Nv i102), (12, Pt b110 0), (97, .bool j116)] ∧ I100.Le I118 ∧ St E w I118 ((Bx b1 (cs_qTable p0 w_p0) 89) :: (Bx b110 (cs_qCons x109 w_x109) 100) :: Os))) ?_ ?_))))))))
 refine WO.cb hr2 (fun hc hr2 => ?_) (fun hc hr2 => ?_)
 refine yl 92 hc (yc 4 1 [3] rfl (yv ((cs_qExpr x109.Check w_x109.Check)) (hS114.rf m0) rfl (bsk hr2 fun r125 hx_r120 hr2 => WO.c1 (r12_None_ok h_x109.Check hS114 hx_r120) rfl fun I122 w121 hl123 hS124 => ya 7 1 rfl (yh 8 97 (.bool (!r125)) ?_))))
 obtain rfl := sj hr2
 exact yw ⟨I122, rfl, hl123, hS124.front1⟩
 refine yl 92 hc ?_
 iterate 4 refine yt ?_
 refine yh 8 97 (.bool false) ?_
 obtain rfl := sj hr2
 exact yw ⟨I100, rfl, lr, hS114.front1⟩
 rintro _ w128 ⟨I118, rfl, hl119, hS129⟩
 refine ya 9 1 rfl ?_
 obtain ⟨q132, hx_q132, hr1⟩ := bsm hr1
 replace hx_q132 := sj hx_q132
 refine yac (l1 := [10, 11, 12, 13, 14, 15, 16, 17, 18, 19]) 108 q132 ?_ ?_
 refine yr j116 (fun hc => ?_) (fun hc => ?_)
 refine yl 98 hc ?_
 iterate 9 refine yt ?_
 exact yh 19 108 (.bool true) (WO.mk 98 hc (by rw [← hx_q132, hc]; rfl))
 refine yl 98 hc (yc 10 1 [1] rfl (yg (hS129.rf m1) rfl (ya 12 2 rfl (yac (l1 := [14, 15, 16, 17, 18]) 107 ((x109.Kind == 2) && (decide ((x109.Cols.length : Int) > 0))) ?_ ?_))))
 refine yr (x109.Kind == 2) (fun hc => ?_) (fun hc => ?_)
 exact yl 102 hc (yc 14 1 [2] rfl (yg (hS129.rf m1) rfl (ya 16 2 rfl (yh 18 107 (.bool (decide ((x109.Cols.length : Int) > 0))) (WO.mk 102 hc (by rw [hc]; rfl))))))
 refine yl 102 hc ?_
 iterate 4 refine yt ?_
 exact yh 18 107 (.bool false) (WO.mk 102 hc (by rw [hc]; rfl))
 exact yh 19 108 (.bool ((x109.Kind == 2) && (decide ((x109.Cols.length : Int) > 0)))) (WO.mk 98 hc (by rw [← hx_q132, hc]; rfl))
 refine yb (W.cb hr1 (fun hc hr1 => ?_) (fun hc hr1 => ?_))
 refine yd [0] (ya 0 1 rfl (yb (W.ret (ye (yj (ye (yp ?_)))))))
 obtain rfl := hext99 _ (sj hr1).symm
 refine yj (ye ?_)
 obtain rfl := sj hr
 exact yu ⟨I118, rfl, le, hS129.drop.drop⟩
 refine yi (En.next (yd nL34 (yc 0 1 [1] rfl (yg (hS129.rf m1) rfl (ya 2 2 rfl (bsk hr1 fun j142 hr2 hr1 => WO.jw (l1 := [4, 5, 6, 7, 8, 9, 10, 11, 12, 13, 14, 15, 16, 17]) (J := (fun fr w => ∃ I144, fr = [(1, Pt b1 0), (11, Nv i102), (12, Pt b110 0), (126, .bool j142)] ∧ I118.Le I144 ∧ St E w I144 ((Bx b1 (cs_qTable p0 w_p0) 89) :: (Bx b110 (cs_qCons x109 w_x109) 100) :: Os))) ?_ ?_))))))
 refine WO.cb hr2 (fun hc hr2 => ?_) (fun hc hr2 => ?_)
 refine yl 112 hc (yc 4 1 [10] rfl (yg (hS129.rf m1) rfl (bsk hr2 fun r151 hx_r146 hr2 => WO.c1 (r09_IsName_ok  hS129 hx_r146) rfl fun I148 w147 hl149 hS150 => ya 7 2 rfl ?_)))
 obtain ⟨q152, hx_q152, hr2⟩ := bsm hr2
 replace hx_q152 := sj hx_q152
 refine yac (l1 := [9, 10, 11, 12, 13, 14, 15, 16]) 125 q152 ?_ ?_
 refine yr (!r151) (fun hc => ?_) (fun hc => ?_)
 refine yl 117 hc ?_
 iterate 7 refine yt ?_
 exact yh 16 125 (.bool true) (WO.mk 117 hc (by rw [← hx_q152, hc]; rfl))
 exact yl 117 hc (yc 9 1 [11] rfl (yg (hS150.rf m1) rfl (yc 11 2 [2] rfl (yg (hS150.rf m1) rfl (ya 14 2 rfl (yh 16 125 (.bool ((x109.Refs.length : Int) != (x109.Cols.length : Int))) (WO.mk 117 hc (by rw [← hx_q152, hc]; rfl))))))))
 refine yh 17 126 (.bool q152) ?_
 obtain rfl := sj hr2
 exact yw ⟨I148, rfl, hl149, hS150⟩
 refine yl 112 hc ?_
 iterate 13 refine yt ?_
 refine yh 17 126 (.bool false) ?_
 obtain rfl := sj hr2
 exact yw ⟨I118, rfl, lr, hS129⟩
 rintro _ w155 ⟨I144, rfl, hl145, hS156⟩
 refine ya 18 1 rfl ?_
 obtain ⟨q163, hx_q163, hr1⟩ := bsm hr1
 replace hx_q163 := sj hx_q163
 refine yac (l1 := [19, 20, 21, 22, 23, 24, 25, 26, 27, 28, 29, 30, 31, 32, 33]) 142 q163 ?_ ?_
 refine yr j142 (fun hc => ?_) (fun hc => ?_)
 refine yl 127 hc ?_
 iterate 14 refine yt ?_
 exact yh 33 142 (.bool true) (WO.mk 127 hc (by rw [← hx_q163, hc]; rfl))
 refine yl 127 hc (yc 19 1 [1] rfl (yg (hS156.rf m1) rfl (ya 21 2 rfl (yac (l1 := [23, 24, 25, 26, 27, 28, 29, 30, 31, 32]) 141 ((x109.Kind != 3) && ((!sEq x109.Table (⟨#[]⟩ : ByteArray)) || (decide ((x109.Refs.length : Int) > 0)))) ?_ ?_))))
 refine yr (x109.Kind != 3) (fun hc => ?_) (fun hc => ?_)
 refine yl 131 hc (yc 23 1 [10] rfl (yg (hS156.rf m1) rfl (ya 25 2 rfl (yac (l1 := [27, 28, 29, 30, 31]) 140 ((!sEq x109.Table (⟨#[]⟩ : ByteArray)) || (decide ((x109.Refs.length : Int) > 0))) ?_ ?_))))
 refine yr (!sEq x109.Table (⟨#[]⟩ : ByteArray)) (fun hc => ?_) (fun hc => ?_)
 refine yl 135 hc ?_
 iterate 4 refine yt ?_
 exact yh 31 140 (.bool true) (WO.mk 135 hc (by rw [hc]; rfl))
 exact yl 135 hc (yc 27 1 [11] rfl (yg (hS156.rf m1) rfl (ya 29 2 rfl (yh 31 140 (.bool (decide ((x109.Refs.length : Int) > 0))) (WO.mk 135 hc (by rw [hc]; rfl))))))
 exact yh 32 141 (.bool ((!sEq x109.Table (⟨#[]⟩ : ByteArray)) || (decide ((x109.Refs.length : Int) > 0)))) (WO.mk 131 hc (by rw [hc]; rfl))
 refine yl 131 hc ?_
 iterate 9 refine yt ?_
 exact yh 32 141 (.bool false) (WO.mk 131 hc (by rw [hc]; rfl))
 exact yh 33 142 (.bool ((x109.Kind != 3) && ((!sEq x109.Table (⟨#[]⟩ : ByteArray)) || (decide ((x109.Refs.length : Int) > 0))))) (WO.mk 127 hc (by rw [← hx_q163, hc]; rfl))
 refine yb (W.cb hr1 (fun hc hr1 => ?_) (fun hc hr1 => ?_))
 refine yd [0] (ya 0 1 rfl (yb (W.ret (yj (ye (yp ?_))))))
 obtain rfl := hext99 _ (sj hr1).symm
 refine yj (ye ?_)
 obtain rfl := sj hr
 exact yu ⟨I144, rfl, le, hS156.drop.drop⟩
 exact yi (yk (En.next (yaa nL3 (ya 0 1 rfl (yae i102 rfl (ya 2 1 rfl (WO.nil (yq ⟨(), (sj hr1).symm, I144, rfl, le, hS156.front1.drop⟩))))))))
 rintro _ _ w176 ⟨I100, rfl, hl101, hS177⟩ he
 cases he
 refine yf (yd nL5 (yc 0 2 [4] rfl (yg (hS177.rf m0) rfl (ya 3 2 rfl (yb (yai fun _ => yz (ym (yn (yo (En.next (yd [0] (ya 0 1 rfl (yb (W.ret ?_))))))))))))))
 obtain rfl := sj hr
 exact yu ⟨I100, rfl, le, hS177.drop⟩
def r15_Place_fu : Nat → qTable → qExpr → Option qExpr
  | 0, _, _ => none
  | fu + 1, p0, p1 => (bif (p1.Kind == 2) then (r14_Col p0 p1.Name).bind (fun r18 => some { z_qExpr with Kind := 8, Op := r18 }) else (forE (fun (i35 : Nat) => fun (s34 : List qExpr) => (idx p1.Kids (i35 : Int)).bind (fun x50 => (r15_Place_fu fu p0 x50).bind (fun r56 => (app 88 s34 ([r56] : List qExpr)).bind (fun x65 => some x65)))) p1.Kids.length 0 ([] : List qExpr)).bind (fun s34 => some { p1 with Kids := s34 }))
noncomputable def r15_Place (p0 : qTable) (p1 : qExpr) : Option qExpr := anyFuel (fun fu => r15_Place_fu fu p0 p1)
theorem r15_Place_fu_ok : ∀ (fu : Nat) {E w : World} {I : Mem} {Os : List Mem} {p0 : qTable} {p1 : qExpr} {w_p0 : W_qTable} {w_p1 : W_qExpr} (h_p0 : ok_qTable I p0 w_p0) (h_p1 : ok_qExpr I p1 w_p1) (hS : St E w I Os) {r : qExpr} (hr : r15_Place_fu fu p0 p1 = some r),
    Calls P 129 #[(.agg (cs_qTable p0 w_p0).toArray), (.agg (cs_qExpr p1 w_p1).toArray)] w (fun e w' => ∃ I' w_rw0, e = .returned (.agg (cs_qExpr r w_rw0).toArray) ∧ I.Le I' ∧ St E w' I' Os ∧ ok_qExpr I' r w_rw0) := by
 intro fu
 induction fu with
 | zero => intro E w I Os p0 p1 w_p0 w_p1 h_p0 h_p1 hS r hr; cases hr
 | succ fu ih =>
 intro E w I Os p0 p1 w_p0 w_p1 h_p0 h_p1 hS r hr
 refine calls_W (fn := Tryz.f129) rfl rfl rfl ?_
 unfold r15_Place_fu at hr
 refine yd nL3 (yy hS (cs_qTable p0 w_p0) 89 rfl fun b1 w4 hS3 => yy hS3 (cs_qExpr p1 w_p1) 39 rfl fun b5 w8 hS7 => yy hS7 (cs_qExpr z_qExpr zw_qExpr) 39 rfl fun b9 w12 hS11 => yb (yf (yd nL3 (yc 0 1 [0] rfl (yg (hS11.rf m1) rfl (ya 2 1 rfl (yb (W.cb hr (fun hc hr => ?_) (fun hc hr => ?_)))))))))
 refine yd nL6 (yv ((cs_qTable p0 w_p0)) (hS11.rf m2) rfl (yc 1 1 [5] rfl (yg (hS11.rf m1) rfl (bsk hr fun r18 hx_r13 hr => WO.c1 (r14_Col_ok h_p0 hS11 hx_r13) rfl fun I15 w14 hl16 hS17 => yh 4 14 (.agg (cs_qExpr ({ z_qExpr with Kind := 8, Op := r18 }) zw_qExpr).toArray) (yx hS17 0 (cs_qExpr ({ z_qExpr with Kind := 8, Op := r18 }) zw_qExpr) fun w20 hS19 => yb (W.ret (ye ?_)))))))
 have hk24 : ok_qExpr I15 ({ z_qExpr with Kind := 8, Op := r18 }) zw_qExpr := ⟨SlAt.nil⟩
 obtain rfl := sj hr
 exact En.c1 _ (hS19.rd m0) ⟨I15, zw_qExpr, rfl, hl16, hS19.drop.drop.drop, hk24⟩
 refine yi (En.next (yd nL11 (yc 0 1 [0] rfl (yg (hS11.rf m1) rfl (yc 2 1 [1] rfl (yg (hS11.rf m1) rfl (yc 4 1 [2] rfl (yv ((cs_qValue p1.V)) (hS11.rf m1) rfl (yc 6 1 [5] rfl (yg (hS11.rf m1) rfl (yh 8 23 (.agg (cs_qExpr ({ p1 with Kids := ([] : List qExpr) }) (⟨⟨none, 0⟩⟩ : W_qExpr)).toArray) (yy hS11 (cs_qExpr z_qExpr zw_qExpr) 39 rfl fun b25 w28 hS27 => yx hS27 0 (cs_qExpr ({ p1 with Kids := ([] : List qExpr) }) (⟨⟨none, 0⟩⟩ : W_qExpr)) fun w30 hS29 => yb (yf (yd [0] (ya 0 1 rfl (yb (W.block (bsk hr fun s34 hloop36 hr => have hlt46 := (h_p1.Kids).len_lt; W.wk (W.forE (m := p1.Kids.length) hloop36 (fun (i35 : Nat) => fun (s34 : List qExpr) fr w => ∃ I32 a_s34 c_s34 C_s34, fr = [(2, Pt b1 0), (3, Pt b5 0), (4, Pt b9 0), (5, Pt b25 0), (6, Nv i35)] ∧ I.Le I32 ∧ St E w I32 ((Bx b1 (cs_qTable p0 w_p0) 89) :: (Bx b5 (cs_qExpr p1 w_p1) 39) :: (Bx b9 (cs_qExpr z_qExpr zw_qExpr) 39) :: (Bx b25 (cs_qExpr ({ p1 with Kids := s34 }) (⟨⟨a_s34, c_s34⟩⟩ : W_qExpr)) 39) :: (C_s34) :: Os) ∧ OwnSl 39 7 Q_qExpr I32 C_s34 a_s34 c_s34 s34) ⟨I, none, 0, Mem.no, rfl, lr, hS29.no.front1.front2.front3.front4, OwnSl.nil⟩ ?_ ?_)))))))))))))))))))
 rintro i35 s34 _ w43 hi47 ⟨I32, a_s34, c_s34, C_s34, rfl, hl33, hS44, h_s34⟩ x45 hr1
 refine yf (yd nL5 (yc 0 2 [6] rfl (yg (hS44.rf m1) rfl (ya 3 2 rfl (yb (yah fun _ => yi (En.next (yf (W.block (have hS48 := hS44.drew; yat nL13 10 (KR.cons (hS48.rd m0) (KR.cons (hS48.rd m1) (KR.cons (hS48.rd m3) (KR.nil hS48.im)))) ?_))))))))))
 generalize World.drew _ = w49 at *
 refine yc 0 1 [6] rfl (yg (rd_c m2 (hS48.rd m3)) rfl (yv ((cs_qTable p0 w_p0)) (rd_c m0 (hS48.rd m0)) rfl (yc 3 1 [6] rfl (yg (rd_c m1 (hS48.rd m1)) rfl (ya 5 1 rfl ?_)))))
 obtain ⟨x50, hx_x50, hr1⟩ := bsm hr1
 obtain ⟨h0_x50, h1_x50, hx_x50⟩ := idx_some hx_x50
 obtain ⟨ha_x50, cs_x50, hn_x50, hr_x50, hc_x50⟩ := ((RSl.mono h_p1.Kids hl33)).el _ _ hx_x50
 obtain ⟨w_x50, rfl, h_x50⟩ := Q_qExpr_iff.1 hr_x50
 refine yaq 39 7 ha_x50 h0_x50 h1_x50 ?_
 refine yak ((cs_qExpr x50 w_x50)) hc_x50 0 (rd_i hS48.im) rfl (bsk hr1 fun r56 hx_r51 hr1 => yab (ih (h_p0.mono hl33) h_x50 hS48 hx_r51) ?_)
 rintro _ w52 ⟨I53, w_r56, rfl, hl54, hS55, h_r56⟩
 refine ⟨_, rfl, (KR.cons (hS55.rd m0) (KR.cons (hS55.rd m1) (KR.cons (hS55.rd m3) (KR.nil (hS55.im.of_le hl54))))), ?_⟩
 refine y4 (rel := Q_qExpr) (xs := ([r56] : List qExpr)) hS55 rfl (by kernel_rfl) rfl 39 7 [(cs_qExpr r56 w_r56)] (by kernel_rfl) rfl ((Elr.cons (Q_qExpr_iff.2 ⟨w_r56, rfl, h_r56⟩) Elr.nil)) (fun C58 w62 hS61 => (KR.cons (hS61.rd m1) (KR.cons (hS61.rd m2) (KR.cons (hS61.rd m4) (KR.nil (hS61.im.of_le hl54)))))) ?_
 intro a60 C58 w62 hS61 ho59
 refine WO.tail rfl ?_
 have hS64 := hS61.front5
 obtain ⟨x65, hx_x65, hr1⟩ := bsm hr1
 obtain ⟨h0_x65, he_x65⟩ := app_some hx_x65
 refine yaj 39 88 (cs_qExpr z_qExpr zw_qExpr) hS64 (OwnSl.mono h_s34 hl54) ho59.sl (hS64.rd m1) h0_x65 he_x65 rfl fun a66 c67 w68 C69 hS70 ho71 => yc 11 1 [6] rfl (yx hS70.front1.drop.front4 6 (cs_qExpr ({ p1 with Kids := x65 }) (⟨⟨a66, c67⟩⟩ : W_qExpr)) fun w76 hS75 => WO.nil (yk (En.next (yaa nL3 (ya 0 1 rfl (yae i35 rfl (ya 2 1 rfl (WO.nil ?_))))))))
 obtain rfl := sj hr1
 exact yq ⟨I53, a66, c67, C69, rfl, le, hS75.front1.front1.front4.front4.front4, ho71⟩
 rintro _ w82 ⟨I32, a_s34, c_s34, C_s34, rfl, hl33, hS83, h_s34⟩
 refine yf (yd nL5 (yc 0 2 [6] rfl (yg (hS83.rf m1) rfl (ya 3 2 rfl (yb (yai fun _ => yz (ym (yn (yo (En.next (yd nL2 (yv ((cs_qExpr ({ p1 with Kids := s34 }) (⟨⟨a_s34, c_s34⟩⟩ : W_qExpr))) (hS83.rf m3) rfl ?_))))))))))))
 obtain ⟨I85, hl86, hS88, hp87⟩ := y6 h_s34 hS83.front4
 refine yx hS88.front2 0 (cs_qExpr ({ p1 with Kids := s34 }) (⟨⟨a_s34, c_s34⟩⟩ : W_qExpr)) fun w91 hS90 => yb (W.ret ?_)
 have hk96 : ok_qExpr I85 ({ p1 with Kids := s34 }) (⟨⟨a_s34, c_s34⟩⟩ : W_qExpr) := ⟨hp87⟩
 obtain rfl := sj hr
 exact En.c1 _ (hS90.rd m0) ⟨I85, (⟨⟨a_s34, c_s34⟩⟩ : W_qExpr), rfl, le, hS90.drop.drop.drop.drop, hk96⟩
theorem r15_Place_ok {p0 : qTable} {p1 : qExpr} {w_p0 : W_qTable} {w_p1 : W_qExpr} (h_p0 : ok_qTable I p0 w_p0) (h_p1 : ok_qExpr I p1 w_p1) (hS : St E w I Os) {r : qExpr} (hr : r15_Place p0 p1 = some r) :
    Calls P 129 #[(.agg (cs_qTable p0 w_p0).toArray), (.agg (cs_qExpr p1 w_p1).toArray)] w (fun e w' => ∃ I' w_rw0, e = .returned (.agg (cs_qExpr r w_rw0).toArray) ∧ I.Le I' ∧ St E w' I' Os ∧ ok_qExpr I' r w_rw0) := by
 obtain ⟨fu, hf⟩ := anyFuel_some hr
 exact r15_Place_fu_ok fu h_p0 h_p1 hS hf
noncomputable def r15_Resolve (p0 : qTable) (p1 : qExpr) : Option (qExpr × Int) := (r10_Check p1 false).bind (fun r18 => (bif (r18 != 0) then some (z_qExpr, r18) else (r10_Names p1).bind (fun r29 => (forN (fun (i34 : Nat) => fun (s33 : qExpr) => (idx r29 (i34 : Int)).bind (fun x45 => (r14_Col p0 x45).bind (fun r51 => (bif ((decide (r51 < 0)) || (decide (r51 > 5))) then some (.inr ((4 : Int), z_qExpr)) else some (.inl s33))))) r29.length 0 z_qExpr).bind (fun (t : qExpr ⊕ ((Int × qExpr))) => match t with | .inl s33 => (r15_Place p0 p1).bind (fun r73 => some (r73, 0)) | .inr (s58, s59) => some (s59, s58)))))
theorem r15_Resolve_ok {p0 : qTable} {p1 : qExpr} {w_p0 : W_qTable} {w_p1 : W_qExpr} (h_p0 : ok_qTable I p0 w_p0) (h_p1 : ok_qExpr I p1 w_p1) (hS : St E w I Os) {r : qExpr × Int} (hr : r15_Resolve p0 p1 = some r) :
    Calls P 91 #[(.agg (cs_qTable p0 w_p0).toArray), (.agg (cs_qExpr p1 w_p1).toArray)] w (fun e w' => ∃ I' w_rw0, e = .returned (.tuple #[(.agg (cs_qExpr r.1 w_rw0).toArray), (Iv r.2)]) ∧ I.Le I' ∧ St E w' I' Os ∧ ok_qExpr I' r.1 w_rw0) := by
 refine calls_W (fn := Tryz.f91) rfl rfl rfl ?_
 unfold r15_Resolve at hr
 refine yd nL4 (yy hS (cs_qTable p0 w_p0) 89 rfl fun b1 w4 hS3 => yy hS3 (cs_qExpr p1 w_p1) 39 rfl fun b5 w8 hS7 => yy hS7 (cs_qExpr z_qExpr zw_qExpr) 39 rfl fun b9 w12 hS11 => ya 3 1 rfl (y0 nL3 (yv ((cs_qExpr p1 w_p1)) (hS11.rf m1) rfl (bsk hr fun r18 hx_r13 hr => WO.c1 (r10_Check_ok h_p1 hS11 hx_r13) rfl fun I15 w14 hl16 hS17 => ya 2 1 rfl (yb (yf (yd nL2 (ya 0 2 rfl (yb (W.cb hr (fun hc hr => ?_) (fun hc hr => ?_)))))))))))
 refine yd nL4 (yh 0 14 (.agg (cs_qExpr z_qExpr zw_qExpr).toArray) (ya 1 1 rfl (yx hS17 0 (cs_qExpr z_qExpr zw_qExpr) fun w20 hS19 => ya 3 1 rfl (yb (W.ret (ye ?_))))))
 obtain rfl := sj hr
 exact yan _ (hS19.rd m0) ⟨I15, zw_qExpr, rfl, hl16, hS19.drop.drop.drop, zok_qExpr⟩
 refine yi (En.next (yd nL3 (yv ((cs_qExpr p1 w_p1)) (hS17.rf m1) rfl (bsk hr fun r29 hx_r24 hr => yab (r10_Names_ok (h_p1.mono hl16) hS17 hx_r24) ?_))))
 rintro _ w25 ⟨I26, a_r29, c_r29, rfl, hl27, hS28, h_r29⟩
 refine ⟨_, rfl, trivial, ?_⟩
 refine ya 2 1 rfl (yb (yf (yd [0] (ya 0 1 rfl (yb (W.block (bsk hr fun t30 hloop35 hr => have hlt41 := (h_r29).len_lt; W.wk (W.forN (m := r29.length) hloop35 (fun (i34 : Nat) => fun (s33 : qExpr) fr w => ∃ I31 w_s33, fr = [(2, Pt b1 0), (3, Pt b5 0), (4, Pt b9 0), (7, Sl a_r29 r29 c_r29), (8, Nv i34)] ∧ I26.Le I31 ∧ St E w I31 ((Bx b1 (cs_qTable p0 w_p0) 89) :: (Bx b5 (cs_qExpr p1 w_p1) 39) :: (Bx b9 (cs_qExpr s33 w_s33) 39) :: Os) ∧ ok_qExpr I31 s33 w_s33) ⟨I26, zw_qExpr, rfl, lr, hS28.front1.front2, zok_qExpr⟩ ?_ ?_))))))))
 rintro i34 s33 _ w38 hi42 ⟨I31, w_s33, rfl, hl32, hS39, h_s33⟩ x40 hr1 hext30
 refine yf (yd nL4 (ya 0 4 rfl (yb (yah fun _ => yi (En.next (yf (W.block (yf (have hS43 := hS39.drew; yat nL7 5 (KR.cons (hS43.rd m0) (KR.nil hS43.im)) ?_)))))))))
 generalize World.drew _ = w44 at *
 refine yv ((cs_qTable p0 w_p0)) (rd_c m0 (hS43.rd m0)) rfl (ya 1 2 rfl ?_)
 obtain ⟨x45, hr1, hb_x45, _, rfl, hc_x45⟩ := sl_ix ((RSl.mono h_r29 hl32)) hr1
 refine y3 9 1 hb_x45 rfl (yaf hc_x45 (rd_i hS43.im) rfl (WO.tail rfl (bsk hr1 fun r51 hx_r46 hr1 => WO.c1 (r14_Col_ok (h_p0.mono le) hS43 hx_r46) rfl fun I48 w47 hl49 hS50 => ya 6 1 rfl (y0 nL6 (ya 0 3 rfl (yac (l1 := [3, 4, 5]) 35 ((decide (r51 < 0)) || (decide (r51 > 5))) ?_ ?_))))))
 refine yr (decide (r51 < 0)) (fun hc => ?_) (fun hc => ?_)
 refine yl 32 hc ?_
 iterate 2 refine yt ?_
 exact yh 5 35 (.bool true) (WO.mk 32 hc (by rw [hc]; rfl))
 exact yl 32 hc (ya 3 2 rfl (yh 5 35 (.bool (decide (r51 > 5))) (WO.mk 32 hc (by rw [hc]; rfl))))
 refine yb (W.cb hr1 (fun hc hr1 => ?_) (fun hc hr1 => ?_))
 refine yd nL3 (yh 0 36 (.agg (cs_qExpr z_qExpr zw_qExpr).toArray) (yx hS50.front2 0 (cs_qExpr z_qExpr zw_qExpr) fun w56 hS55 => ya 2 1 rfl (yb (W.ret (yj (ye (yp ?_)))))))
 obtain rfl := hext30 _ (sj hr1).symm
 refine yj (ye ?_)
 obtain rfl := sj hr
 exact yan _ (hS55.rd m0) ⟨I48, zw_qExpr, rfl, le, hS55.drop.drop.drop, zok_qExpr⟩
 exact yi (yk (En.next (yaa nL3 (ya 0 1 rfl (yae i34 rfl (ya 2 1 rfl (WO.nil (yq ⟨s33, (sj hr1).symm, I48, w_s33, rfl, le, hS50, (h_s33.mono hl49)⟩))))))))
 rintro s33 _ w66 ⟨I31, w_s33, rfl, hl32, hS67, h_s33⟩ he
 cases he
 refine yf (yd nL4 (ya 0 4 rfl (yb (yai fun _ => yz (ym (yn (yo (En.next (yd nL5 (yv ((cs_qTable p0 w_p0)) (hS67.rf m0) rfl (yv ((cs_qExpr p1 w_p1)) (hS67.rf m1) rfl (bsk hr fun r73 hx_r68 hr => yab (r15_Place_ok (h_p0.mono le) (h_p1.mono le) hS67 hx_r68) ?_))))))))))))
 rintro _ w69 ⟨I70, w_r73, rfl, hl71, hS72, h_r73⟩
 refine ⟨_, rfl, trivial, ?_⟩
 refine yx hS72.front2 0 (cs_qExpr r73 w_r73) fun w76 hS75 => ya 4 1 rfl (yb (W.ret ?_))
 obtain rfl := sj hr
 exact yan _ (hS75.rd m0) ⟨I70, w_r73, rfl, le, hS75.drop.drop.drop, h_r73⟩
def r15_Cols (p0 : qTable) : Option (List Int) := (forE (fun (i9 : Nat) => fun (s8 : List Int) => (idx p0.Cols (i9 : Int)).bind (fun x19 => (app 8 s8 ([x19.Type_] : List Int)).bind (fun x28 => some x28))) p0.Cols.length 0 ([] : List Int)).bind (fun s8 => some s8)
theorem r15_Cols_ok {p0 : qTable} {w_p0 : W_qTable} (h_p0 : ok_qTable I p0 w_p0) (hS : St E w I Os) {r : (List Int)} (hr : r15_Cols p0 = some r) :
    Calls P 93 #[(.agg (cs_qTable p0 w_p0).toArray)] w (fun e w' => ∃ (I' : Mem) (ra0 : Option Addr) (rc0 : Nat), e = .returned (Sl ra0 r rc0) ∧ I.Le I' ∧ St E w' I' Os ∧ RSl 1 (RInt .i64) I' ra0 rc0 r) := by
 refine calls_W (fn := Tryz.f93) rfl rfl rfl ?_
 unfold r15_Cols at hr
 refine yd nL2 (yy hS (cs_qTable p0 w_p0) 89 rfl fun b1 w4 hS3 => yh 1 2 (.slice none 0 0) (y0 [0] (yh 0 3 (.slice none 0 0) (yb (yf (yd [0] (ya 0 1 rfl (yb (W.block (bsk hr fun s8 hloop10 hr => have hlt17 := (h_p0.Cols).len_lt; W.wk (W.forE (m := p0.Cols.length) hloop10 (fun (i9 : Nat) => fun (s8 : List Int) fr w => ∃ I6 a_s8 c_s8 C_s8, fr = [(1, Pt b1 0), (3, Sl a_s8 s8 c_s8), (4, Nv i9)] ∧ I.Le I6 ∧ St E w I6 ((Bx b1 (cs_qTable p0 w_p0) 89) :: (C_s8) :: Os) ∧ OwnSl 3 1 (RInt .i64) I6 C_s8 a_s8 c_s8 s8) ⟨I, none, 0, Mem.no, rfl, lr, hS3.no.front1, OwnSl.nil⟩ ?_ ?_)))))))))))
 rintro i9 s8 _ w14 hi18 ⟨I6, a_s8, c_s8, C_s8, rfl, hl7, hS15, h_s8⟩ x16 hr1
 refine yf (yd nL5 (yc 0 2 [3] rfl (yg (hS15.rf m0) rfl (ya 3 2 rfl (yb (yah fun _ => yi (En.next (yf (W.block (yaa nL10 (yc 0 2 [3] rfl (yg (hS15.rf m0) rfl (ya 3 1 rfl ?_)))))))))))))
 obtain ⟨x19, hr1, hb_x19, _, rfl, hc_x19⟩ := sl_ix ((RSl.mono h_p0.Cols hl7)) hr1
 refine y3 73 3 hb_x19 rfl (yc 5 1 [1] rfl (yal hc_x19 1 hS15.rm rfl (y4 (rel := (RInt .i64)) (xs := ([x19.Type_] : List Int)) hS15 rfl (by kernel_rfl) rfl 3 1 [[(Iv x19.Type_)]] (by kernel_rfl) rfl ((Elr.cons rfl Elr.nil)) (fun _ _ _ => trivial) ?_)))
 intro a23 C21 w25 hS24 ho22
 have hS27 := hS24.front2
 obtain ⟨x28, hx_x28, hr1⟩ := bsm hr1
 obtain ⟨h0_x28, he_x28⟩ := app_some hx_x28
 refine yaj 3 8 [(Iv 0)] hS27 h_s8 ho22.sl (hS27.rd m1) h0_x28 he_x28 rfl fun a29 c30 w31 C32 hS33 ho34 => ya 9 1 rfl (WO.nil (yk (En.next (yaa nL3 (ya 0 1 rfl (yae i9 rfl (ya 2 1 rfl (WO.nil ?_))))))))
 obtain rfl := sj hr1
 exact yq ⟨I6, a29, c30, C32, rfl, hl7, hS33.front1.drop.front1, ho34⟩
 rintro _ w38 ⟨I6, a_s8, c_s8, C_s8, rfl, hl7, hS39, h_s8⟩
 refine yf (yd nL5 (yc 0 2 [3] rfl (yg (hS39.rf m0) rfl (ya 3 2 rfl (yb (yai fun _ => yz (ym (yn (yo (En.next (yd nL2 (ya 0 1 rfl ?_))))))))))))
 obtain ⟨I41, hl42, hS44, hp43⟩ := y6 h_s8 hS39.front1
 refine ya 1 1 rfl (yb (W.ret ?_))
 obtain rfl := sj hr
 exact yu ⟨I41, a_s8, c_s8, rfl, le, hS44.drop, hp43⟩
def r15_first (p0 : List Int) : Option Int := (forN (fun (i4 : Nat) => fun (_s : Unit) => (idx p0 (i4 : Int)).bind (fun x11 => (bif (x11 != 0) then (idx p0 (i4 : Int)).bind (fun x12 => some (.inr x12)) else some (.inl ())))) p0.length 0 ()).bind (fun (t : Unit ⊕ (Int)) => match t with | .inl _ => some 0 | .inr s14 => some s14)
theorem r15_first_ok {p0 : List Int} {a_p0 : Option Addr} {c_p0 : Nat} (h_p0 : RSl 1 (RInt .i64) I a_p0 c_p0 p0) (hS : St E w I Os) {r : Int} (hr : r15_first p0 = some r) :
    Calls P 192 #[(Sl a_p0 p0 c_p0)] w (fun e w' => ∃ I', e = .returned (Iv r) ∧ I.Le I' ∧ St E w' I' Os) := by
 refine calls_W (fn := Tryz.f192) rfl rfl rfl ?_
 unfold r15_first at hr
 refine yd [0] (ya 0 1 rfl (yb (yf (yd [0] (ya 0 1 rfl (yb (W.block (bsk hr fun t1 hloop5 hr => have hlt9 := (h_p0).len_lt; W.wk (W.forN (m := p0.length) hloop5 (fun (i4 : Nat) => fun (_s : Unit) fr w => ∃ I2, fr = [(0, Sl a_p0 p0 c_p0), (3, Nv i4)] ∧ I.Le I2 ∧ St E w I2 Os) ⟨I, rfl, lr, hS⟩ ?_ ?_)))))))))
 rintro i4 _ _ w6 hi10 ⟨I2, rfl, hl3, hS7⟩ x8 hr1 hext1
 refine yf (yd nL4 (ya 0 4 rfl (yb (yah fun _ => yi (En.next (yf (W.block (yd nL5 (ya 0 2 rfl ?_)))))))))
 obtain ⟨x11, hr1, hb_x11, _, rfl, hc_x11⟩ := sl_ix ((RSl.mono h_p0 hl3)) hr1
 refine y3 3 1 hb_x11 rfl (yaf hc_x11 hS7.rm rfl (ya 4 1 rfl (yb (W.cb hr1 (fun hc hr1 => ?_) (fun hc hr1 => ?_)))))
 refine yd nL5 (ya 0 2 rfl ?_)
 obtain ⟨x12, hr1, hb_x12, _, rfl, hc_x12⟩ := sl_ix ((RSl.mono h_p0 hl3)) hr1
 refine y3 3 1 hb_x12 rfl (yaf hc_x12 hS7.rm rfl (ya 4 1 rfl (yb (W.ret (yj (ye (yp ?_)))))))
 obtain rfl := hext1 _ (sj hr1).symm
 refine yj (ye ?_)
 obtain rfl := sj hr
 exact yu ⟨I2, rfl, hl3, hS7⟩
 exact yi (yk (En.next (yaa nL3 (ya 0 1 rfl (yae i4 rfl (ya 2 1 rfl (WO.nil (yq ⟨(), (sj hr1).symm, I2, rfl, hl3, hS7⟩))))))))
 rintro _ _ w15 ⟨I2, rfl, hl3, hS16⟩ he
 cases he
 refine yf (yd nL4 (ya 0 4 rfl (yb (yai fun _ => yz (ym (yn (yo (En.next (yd [0] (ya 0 1 rfl (yb (W.ret ?_))))))))))))
 obtain rfl := sj hr
 exact yu ⟨I2, rfl, hl3, hS16⟩
def r15_all (p0 : List Int) (p1 : Int) : Option Bool := (forN (fun (i4 : Nat) => fun (_s : Unit) => (idx p0 (i4 : Int)).bind (fun x11 => ((bif (x11 != 0) then (idx p0 (i4 : Int)).bind (fun x16 => some (x16 != p1)) else some false)).bind (fun (j12 : Bool) => (bif j12 then some (.inr false) else some (.inl ()))))) p0.length 0 ()).bind (fun (t : Unit ⊕ (Bool)) => match t with | .inl _ => some true | .inr s20 => some s20)
theorem r15_all_ok {p0 : List Int} {p1 : Int} {a_p0 : Option Addr} {c_p0 : Nat} (h_p0 : RSl 1 (RInt .i64) I a_p0 c_p0 p0) (hS : St E w I Os) {r : Bool} (hr : r15_all p0 p1 = some r) :
    Calls P 193 #[(Sl a_p0 p0 c_p0), (Iv p1)] w (fun e w' => ∃ I', e = .returned (.bool r) ∧ I.Le I' ∧ St E w' I' Os) := by
 refine calls_W (fn := Tryz.f193) rfl rfl rfl ?_
 unfold r15_all at hr
 refine yd [0] (ya 0 1 rfl (yb (yf (yd [0] (ya 0 1 rfl (yb (W.block (bsk hr fun t1 hloop5 hr => have hlt9 := (h_p0).len_lt; W.wk (W.forN (m := p0.length) hloop5 (fun (i4 : Nat) => fun (_s : Unit) fr w => ∃ I2, fr = [(0, Sl a_p0 p0 c_p0), (1, Iv p1), (5, Nv i4)] ∧ I.Le I2 ∧ St E w I2 Os) ⟨I, rfl, lr, hS⟩ ?_ ?_)))))))))
 rintro i4 _ _ w6 hi10 ⟨I2, rfl, hl3, hS7⟩ x8 hr1 hext1
 refine yf (yd nL4 (ya 0 4 rfl (yb (yah fun _ => yi (En.next (yf (W.block (yd nL13 (ya 0 2 rfl ?_)))))))))
 obtain ⟨x11, hr1, hb_x11, _, rfl, hc_x11⟩ := sl_ix ((RSl.mono h_p0 hl3)) hr1
 refine y3 3 1 hb_x11 rfl (yaf hc_x11 hS7.rm rfl (ya 4 2 rfl (bsk hr1 fun j12 hr2 hr1 => WO.jw (l1 := [6, 7, 8, 9, 10, 11, 12]) (J := (fun fr w => ∃ I14, fr = [(0, Sl a_p0 p0 c_p0), (1, Iv p1), (5, Nv i4), (24, .bool j12)] ∧ I2.Le I14 ∧ St E w I14 Os)) ?_ ?_)))
 refine WO.cb hr2 (fun hc hr2 => ?_) (fun hc hr2 => ?_)
 refine yl 17 hc (ya 6 2 rfl ?_)
 obtain ⟨x16, hr2, hb_x16, _, rfl, hc_x16⟩ := sl_ix ((RSl.mono h_p0 hl3)) hr2
 refine y3 3 1 hb_x16 rfl (yaf hc_x16 hS7.rm rfl (ya 10 2 rfl (yh 12 24 (.bool (x16 != p1)) ?_)))
 obtain rfl := sj hr2
 exact yw ⟨I2, rfl, lr, hS7⟩
 refine yl 17 hc ?_
 iterate 6 refine yt ?_
 refine yh 12 24 (.bool false) ?_
 obtain rfl := sj hr2
 exact yw ⟨I2, rfl, lr, hS7⟩
 rintro _ w17 ⟨I14, rfl, hl15, hS18⟩
 refine yb (W.cb hr1 (fun hc hr1 => ?_) (fun hc hr1 => ?_))
 refine yd [0] (ya 0 1 rfl (yb (W.ret (yj (ye (yp ?_))))))
 obtain rfl := hext1 _ (sj hr1).symm
 refine yj (ye ?_)
 obtain rfl := sj hr
 exact yu ⟨I14, rfl, le, hS18⟩
 exact yi (yk (En.next (yaa nL3 (ya 0 1 rfl (yae i4 rfl (ya 2 1 rfl (WO.nil (yq ⟨(), (sj hr1).symm, I14, rfl, le, hS18⟩))))))))
 rintro _ _ w21 ⟨I2, rfl, hl3, hS22⟩ he
 cases he
 refine yf (yd nL4 (ya 0 4 rfl (yb (yai fun _ => yz (ym (yn (yo (En.next (yd [0] (ya 0 1 rfl (yb (W.ret ?_))))))))))))
 obtain rfl := sj hr
 exact yu ⟨I2, rfl, hl3, hS22⟩
def r15_made (p0 : qExpr) (p1 : List Int) : Option Int := (bif ((p0.Kind == 4) && (decide (p0.Op > 2))) then some 2 else (some (((p0.Kind == 4) && (p0.Op == 2)) || ((p0.Kind == 5) && (decide (p0.Op ≤ 2))))).bind (fun (q12 : Bool) => ((bif q12 then some (.inl ((2 : Int), (2 : Int))) else ((bif ((p0.Kind == 5) && (decide (p0.Op ≤ 8))) then (r15_first p1).bind (fun r35 => some (.inl (r35, (2 : Int)))) else ((bif ((p0.Kind == 5) && (p0.Op == 14)) then some (.inl ((3 : Int), (3 : Int))) else ((bif (p0.Kind == 6) then (idx p1 0).bind (fun x52 => some (x52 == 0)) else some false)).bind (fun (j48 : Bool) => (bif j48 then some (.inr 2) else ((bif (p0.Kind == 6) then (idx p1 0).bind (fun x69 => some (x69, (2 : Int))) else (some ((p0.Kind == 7) && (sEq p0.Name (⟨#[108, 101, 110, 103, 116, 104]⟩ : ByteArray)))).bind (fun (q73 : Bool) => ((bif q73 then some ((3 : Int), (1 : Int)) else (some ((p0.Kind == 7) && (sEq p0.Name (⟨#[99, 111, 97, 108, 101, 115, 99, 101]⟩ : ByteArray)))).bind (fun (q83 : Bool) => ((bif q83 then (r15_first p1).bind (fun r95 => (r15_first p1).bind (fun r101 => some (r95, r101))) else some ((1 : Int), (1 : Int)))).bind (fun ((s102, s103) : Int × Int) => some (s102, s103))))).bind (fun ((s80, s81) : Int × Int) => some (s80, s81))))).bind (fun ((s70, s71) : Int × Int) => some (.inl (s70, s71))))))).bind (fun (t : (Int × Int) ⊕ Int) => match t with | (.inl (s45, s46)) => some (.inl (s45, s46)) | (.inr s56) => some (.inr s56)))).bind (fun (t : (Int × Int) ⊕ Int) => match t with | (.inl (s36, s37)) => some (.inl (s36, s37)) | (.inr s58) => some (.inr s58)))).bind (fun (t : (Int × Int) ⊕ Int) => match t with | (.inl (s21, s22)) => (r15_all p1 s21).bind (fun r123 => (bif (!r123) then some (-1) else some s22)) | (.inr s60) => some s60)))
theorem r15_made_ok {p0 : qExpr} {p1 : List Int} {w_p0 : W_qExpr} {a_p1 : Option Addr} {c_p1 : Nat} (h_p0 : ok_qExpr I p0 w_p0) (h_p1 : RSl 1 (RInt .i64) I a_p1 c_p1 p1) (hS : St E w I Os) {r : Int} (hr : r15_made p0 p1 = some r) :
    Calls P 169 #[(.agg (cs_qExpr p0 w_p0).toArray), (Sl a_p1 p1 c_p1)] w (fun e w' => ∃ I', e = .returned (Iv r) ∧ I.Le I' ∧ St E w' I' Os) := by
 refine calls_W (fn := Tryz.f169) rfl rfl rfl ?_
 unfold r15_made at hr
 refine yd nL2 (yy hS (cs_qExpr p0 w_p0) 39 rfl fun b1 w4 hS3 => ya 1 1 rfl (y0 nL2 (ya 0 2 rfl (yb (yf (W.block (yd nL9 (yc 0 1 [0] rfl (yg (hS3.rf m0) rfl (ya 2 2 rfl (yac (l1 := [4, 5, 6, 7]) 15 ((p0.Kind == 4) && (decide (p0.Op > 2))) ?_ ?_)))))))))))
 refine yr (p0.Kind == 4) (fun hc => ?_) (fun hc => ?_)
 exact yl 11 hc (yc 4 1 [1] rfl (yg (hS3.rf m0) rfl (ya 6 1 rfl (yh 7 15 (.bool (decide (p0.Op > 2))) (WO.mk 11 hc (by rw [hc]; rfl))))))
 refine yl 11 hc ?_
 iterate 3 refine yt ?_
 exact yh 7 15 (.bool false) (WO.mk 11 hc (by rw [hc]; rfl))
 refine ya 8 1 rfl (yb (W.cb hr (fun hc hr => ?_) (fun hc hr => ?_)))
 refine yd [0] (ya 0 1 rfl (yb (W.ret (yj (ye ?_)))))
 obtain rfl := sj hr
 exact yu ⟨I, rfl, lr, hS3.drop⟩
 refine yd nL19 (yc 0 1 [0] rfl (yg (hS3.rf m0) rfl (ya 2 2 rfl (yac (l1 := [4, 5, 6, 7]) 24 ((p0.Kind == 4) && (p0.Op == 2)) ?_ ?_))))
 refine yr (p0.Kind == 4) (fun hc => ?_) (fun hc => ?_)
 exact yl 20 hc (yc 4 1 [1] rfl (yg (hS3.rf m0) rfl (ya 6 1 rfl (yh 7 24 (.bool (p0.Op == 2)) (WO.mk 20 hc (by rw [hc]; rfl))))))
 refine yl 20 hc ?_
 iterate 3 refine yt ?_
 exact yh 7 24 (.bool false) (WO.mk 20 hc (by rw [hc]; rfl))
 refine ya 8 1 rfl ?_
 obtain ⟨q12, hx_q12, hr⟩ := bsm hr
 replace hx_q12 := sj hx_q12
 refine yac (l1 := [9, 10, 11, 12, 13, 14, 15, 16, 17]) 34 q12 ?_ ?_
 refine yr ((p0.Kind == 4) && (p0.Op == 2)) (fun hc => ?_) (fun hc => ?_)
 refine yl 25 hc ?_
 iterate 8 refine yt ?_
 exact yh 17 34 (.bool true) (WO.mk 25 hc (by rw [← hx_q12, hc]; rfl))
 refine yl 25 hc (yc 9 1 [0] rfl (yg (hS3.rf m0) rfl (ya 11 2 rfl (yac (l1 := [13, 14, 15, 16]) 33 ((p0.Kind == 5) && (decide (p0.Op ≤ 2))) ?_ ?_))))
 refine yr (p0.Kind == 5) (fun hc => ?_) (fun hc => ?_)
 exact yl 29 hc (yc 13 1 [1] rfl (yg (hS3.rf m0) rfl (ya 15 1 rfl (yh 16 33 (.bool (decide (p0.Op ≤ 2))) (WO.mk 29 hc (by rw [hc]; rfl))))))
 refine yl 29 hc ?_
 iterate 3 refine yt ?_
 exact yh 16 33 (.bool false) (WO.mk 29 hc (by rw [hc]; rfl))
 exact yh 17 34 (.bool ((p0.Kind == 5) && (decide (p0.Op ≤ 2)))) (WO.mk 25 hc (by rw [← hx_q12, hc]; rfl))
 refine ya 18 1 rfl (yb (bsk hr fun j17 hr1 hr => W.jw (J := (fun fr w => ∃ (s21 : Int) (s22 : Int), ∃ I19, (.inl (s21, s22)) = j17 ∧ fr = [(1, Sl a_p1 p1 c_p1), (5, Iv s21), (6, Iv s22)] ∧ I.Le I19 ∧ St E w I19 Os)) ?_ ?_))
 refine W.cb hr1 (fun hc hr1 => ?_) (fun hc hr1 => ?_)
 exact yd [0] (ya 0 1 rfl (yb (yaa [0] (ya 0 1 rfl (WO.nil (yq ⟨2, 2, I, sj hr1, rfl, lr, hS3.drop⟩))))))
 refine yd nL9 (yc 0 1 [0] rfl (yg (hS3.rf m0) rfl (ya 2 2 rfl (yac (l1 := [4, 5, 6, 7]) 43 ((p0.Kind == 5) && (decide (p0.Op ≤ 8))) ?_ ?_))))
 refine yr (p0.Kind == 5) (fun hc => ?_) (fun hc => ?_)
 exact yl 39 hc (yc 4 1 [1] rfl (yg (hS3.rf m0) rfl (ya 6 1 rfl (yh 7 43 (.bool (decide (p0.Op ≤ 8))) (WO.mk 39 hc (by rw [hc]; rfl))))))
 refine yl 39 hc ?_
 iterate 3 refine yt ?_
 exact yh 7 43 (.bool false) (WO.mk 39 hc (by rw [hc]; rfl))
 refine ya 8 1 rfl (yb (bsk hr1 fun j26 hr2 hr1 => W.jw (J := (fun fr w => ∃ (s36 : Int) (s37 : Int), ∃ I28, (.inl (s36, s37)) = j26 ∧ fr = [(1, Sl a_p1 p1 c_p1), (5, Iv s36), (6, Iv s37)] ∧ I.Le I28 ∧ St E w I28 Os)) ?_ ?_))
 refine W.cb hr2 (fun hc hr2 => ?_) (fun hc hr2 => ?_)
 exact yd nL3 (ya 0 1 rfl (bsk hr2 fun r35 hx_r30 hr2 => WO.c1 (r15_first_ok h_p1 hS3 hx_r30) rfl fun I32 w31 hl33 hS34 => ya 2 1 rfl (yb (yaa [0] (ya 0 1 rfl (WO.nil (yq ⟨r35, 2, I32, sj hr2, rfl, hl33, hS34.drop⟩)))))))
 refine yd nL9 (yc 0 1 [0] rfl (yg (hS3.rf m0) rfl (ya 2 2 rfl (yac (l1 := [4, 5, 6, 7]) 54 ((p0.Kind == 5) && (p0.Op == 14)) ?_ ?_))))
 refine yr (p0.Kind == 5) (fun hc => ?_) (fun hc => ?_)
 exact yl 50 hc (yc 4 1 [1] rfl (yg (hS3.rf m0) rfl (ya 6 1 rfl (yh 7 54 (.bool (p0.Op == 14)) (WO.mk 50 hc (by rw [hc]; rfl))))))
 refine yl 50 hc ?_
 iterate 3 refine yt ?_
 exact yh 7 54 (.bool false) (WO.mk 50 hc (by rw [hc]; rfl))
 refine ya 8 1 rfl (yb (bsk hr2 fun j41 hr3 hr2 => W.jw (J := (fun fr w => ∃ (s45 : Int) (s46 : Int), ∃ I43, (.inl (s45, s46)) = j41 ∧ fr = [(1, Sl a_p1 p1 c_p1), (5, Iv s45), (6, Iv s46)] ∧ I.Le I43 ∧ St E w I43 Os)) ?_ ?_))
 refine W.cb hr3 (fun hc hr3 => ?_) (fun hc hr3 => ?_)
 exact yd [0] (ya 0 1 rfl (yb (yaa [0] (ya 0 1 rfl (WO.nil (yq ⟨3, 3, I, sj hr3, rfl, lr, hS3.drop⟩))))))
 refine yd nL10 (yc 0 1 [0] rfl (yg (hS3.rf m0) rfl (ya 2 2 rfl (bsk hr3 fun j48 hr4 hr3 => WO.jw (l1 := [4, 5, 6, 7, 8]) (J := (fun fr w => ∃ I50, fr = [(1, Sl a_p1 p1 c_p1), (2, Pt b1 0), (5, Iv 1), (6, Iv 1), (64, .bool j48)] ∧ I.Le I50 ∧ St E w I50 ((Bx b1 (cs_qExpr p0 w_p0) 39) :: Os))) ?_ ?_))))
 refine WO.cb hr4 (fun hc hr4 => ?_) (fun hc hr4 => ?_)
 refine yl 59 hc (ya 4 1 rfl ?_)
 obtain ⟨x52, hr4, hb_x52, _, rfl, hc_x52⟩ := sl_ix (h_p1) hr4
 refine y3 3 1 hb_x52 rfl (yaf hc_x52 hS3.rm rfl (ya 7 1 rfl (yh 8 64 (.bool (x52 == 0)) ?_)))
 obtain rfl := sj hr4
 exact yw ⟨I, rfl, lr, hS3⟩
 refine yl 59 hc ?_
 iterate 4 refine yt ?_
 refine yh 8 64 (.bool false) ?_
 obtain rfl := sj hr4
 exact yw ⟨I, rfl, lr, hS3⟩
 rintro _ w53 ⟨I50, rfl, hl51, hS54⟩
 refine ya 9 1 rfl (yb (W.cb hr3 (fun hc hr3 => ?_) (fun hc hr3 => ?_)))
 refine yd [0] (ya 0 1 rfl (yb (W.ret (yp ?_))))
 obtain rfl := sj hr3
 refine yp ?_
 obtain rfl := sj hr2
 refine yp ?_
 obtain rfl := sj hr1
 refine yj (ye ?_)
 obtain rfl := sj hr
 exact yu ⟨I50, rfl, hl51, hS54.drop⟩
 refine yd nL4 (yc 0 1 [0] rfl (yg (hS54.rf m0) rfl (ya 2 2 rfl (yb (bsk hr3 fun j65 hr4 hr3 => W.jw (J := (fun fr w => ∃ (s70 : Int) (s71 : Int), ∃ I67, (s70, s71) = j65 ∧ fr = [(1, Sl a_p1 p1 c_p1), (5, Iv s70), (6, Iv s71)] ∧ I50.Le I67 ∧ St E w I67 Os)) ?_ ?_)))))
 refine W.cb hr4 (fun hc hr4 => ?_) (fun hc hr4 => ?_)
 refine yd nL4 (ya 0 1 rfl ?_)
 obtain ⟨x69, hr4, hb_x69, _, rfl, hc_x69⟩ := sl_ix ((RSl.mono h_p1 hl51)) hr4
 exact y3 3 1 hb_x69 rfl (yaf hc_x69 hS54.rm rfl (ya 3 1 rfl (yb (yaa [0] (ya 0 1 rfl (WO.nil (yq ⟨x69, 2, I50, sj hr4, rfl, lr, hS54.drop⟩)))))))
 refine yd nL9 (yc 0 1 [0] rfl (yg (hS54.rf m0) rfl (ya 2 2 rfl ?_)))
 obtain ⟨q73, hx_q73, hr4⟩ := bsm hr4
 replace hx_q73 := sj hx_q73
 refine yac (l1 := [4, 5, 6, 7]) 80 q73 ?_ ?_
 refine yr (p0.Kind == 7) (fun hc => ?_) (fun hc => ?_)
 exact yl 76 hc (yc 4 1 [5] rfl (yg (hS54.rf m0) rfl (ya 6 1 rfl (yh 7 80 (.bool (sEq p0.Name (⟨#[108, 101, 110, 103, 116, 104]⟩ : ByteArray))) (WO.mk 76 hc (by rw [← hx_q73, hc]; rfl))))))
 refine yl 76 hc ?_
 iterate 3 refine yt ?_
 exact yh 7 80 (.bool false) (WO.mk 76 hc (by rw [← hx_q73, hc]; rfl))
 refine ya 8 1 rfl (yb (bsk hr4 fun j76 hr5 hr4 => W.jw (J := (fun fr w => ∃ (s80 : Int) (s81 : Int), ∃ I78, (s80, s81) = j76 ∧ fr = [(1, Sl a_p1 p1 c_p1), (5, Iv s80), (6, Iv s81)] ∧ I50.Le I78 ∧ St E w I78 Os)) ?_ ?_))
 refine W.cb hr5 (fun hc hr5 => ?_) (fun hc hr5 => ?_)
 exact yaa [0] (ya 0 1 rfl (WO.nil (yq ⟨3, 1, I50, sj hr5, rfl, lr, hS54.drop⟩)))
 refine yd nL9 (yc 0 1 [0] rfl (yg (hS54.rf m0) rfl (ya 2 2 rfl ?_)))
 obtain ⟨q83, hx_q83, hr5⟩ := bsm hr5
 replace hx_q83 := sj hx_q83
 refine yac (l1 := [4, 5, 6, 7]) 89 q83 ?_ ?_
 refine yr (p0.Kind == 7) (fun hc => ?_) (fun hc => ?_)
 exact yl 85 hc (yc 4 1 [5] rfl (yg (hS54.rf m0) rfl (ya 6 1 rfl (yh 7 89 (.bool (sEq p0.Name (⟨#[99, 111, 97, 108, 101, 115, 99, 101]⟩ : ByteArray))) (WO.mk 85 hc (by rw [← hx_q83, hc]; rfl))))))
 refine yl 85 hc ?_
 iterate 3 refine yt ?_
 exact yh 7 89 (.bool false) (WO.mk 85 hc (by rw [← hx_q83, hc]; rfl))
 refine ya 8 1 rfl (yb (bsk hr5 fun j86 hr6 hr5 => W.jw (J := (fun fr w => ∃ (s102 : Int) (s103 : Int), ∃ I88, (s102, s103) = j86 ∧ fr = [(1, Sl a_p1 p1 c_p1), (5, Iv s102), (6, Iv s103)] ∧ I50.Le I88 ∧ St E w I88 Os)) ?_ ?_))
 refine W.cb hr6 (fun hc hr6 => ?_) (fun hc hr6 => ?_)
 exact yd nL3 (ya 0 1 rfl (bsk hr6 fun r95 hx_r90 hr6 => WO.c1 (r15_first_ok (RSl.mono h_p1 hl51) hS54 hx_r90) rfl fun I92 w91 hl93 hS94 => ya 2 1 rfl (yb (yaa nL3 (ya 0 1 rfl (bsk hr6 fun r101 hx_r96 hr6 => WO.c1 (r15_first_ok (RSl.mono h_p1 le) hS94 hx_r96) rfl fun I98 w97 hl99 hS100 => ya 2 1 rfl (WO.nil (yq ⟨r95, r101, I98, sj hr6, rfl, le, hS100.drop⟩))))))))
 exact yi (yq ⟨1, 1, I50, sj hr6, rfl, lr, hS54.drop⟩)
 rintro _ w106 ⟨s102, s103, I88, rfl, rfl, hl89, hS107⟩
 exact yq ⟨s102, s103, I88, sj hr5, rfl, hl89, hS107⟩
 rintro _ w108 ⟨s80, s81, I78, rfl, rfl, hl79, hS109⟩
 exact yq ⟨s80, s81, I78, sj hr4, rfl, hl79, hS109⟩
 rintro _ w110 ⟨s70, s71, I67, rfl, rfl, hl68, hS111⟩
 exact yq ⟨s70, s71, I67, sj hr3, rfl, le, hS111⟩
 rintro _ w112 ⟨s45, s46, I43, rfl, rfl, hl44, hS113⟩
 exact yq ⟨s45, s46, I43, sj hr2, rfl, hl44, hS113⟩
 rintro _ w114 ⟨s36, s37, I28, rfl, rfl, hl29, hS115⟩
 exact yq ⟨s36, s37, I28, sj hr1, rfl, hl29, hS115⟩
 rintro _ w116 ⟨s21, s22, I19, rfl, rfl, hl20, hS117⟩
 refine yk (En.next (yf (yd nL4 (ya 0 2 rfl (bsk hr fun r123 hx_r118 hr => WO.c1 (r15_all_ok (RSl.mono h_p1 hl20) hS117 hx_r118) rfl fun I120 w119 hl121 hS122 => ya 3 1 rfl (yb (W.cb hr (fun hc hr => ?_) (fun hc hr => ?_))))))))
 refine yd [0] (ya 0 1 rfl (yb (W.ret (ye ?_))))
 obtain rfl := sj hr
 exact yu ⟨I120, rfl, le, hS122⟩
 refine yi (En.next (yd nL2 (ya 0 2 rfl (yb (W.ret ?_)))))
 obtain rfl := sj hr
 exact yu ⟨I120, rfl, le, hS122⟩
def r15_find_fu : Nat → qExpr → (List Int) → (List Int) → Option (Int × Int)
  | 0, _, _, _ => none
  | fu + 1, p0, p1, p2 => (bif (p0.Kind == 1) then some (p0.V.Kind, 0) else (bif (p0.Kind == 2) then some (0, 4) else ((bif (p0.Kind == 3) then some (p2, (w64 (p0.Op - 1))) else some (p1, p0.Op))).bind (fun ((s13, s14) : (List Int) × Int) => (bif ((p0.Kind == 3) || (p0.Kind == 8)) then (bif (decide (s14 ≥ (s13.length : Int))) then some (0, 37) else (idx s13 s14).bind (fun x20 => ((bif (decide (x20 < 0)) then some true else (idx s13 s14).bind (fun x26 => some (decide (x26 > 3))))).bind (fun (j21 : Bool) => (bif j21 then some (0, 11) else (idx s13 s14).bind (fun x30 => some (x30, 0)))))) else (forN (fun (i35 : Nat) => fun (s34 : List Int) => (idx p0.Kids (i35 : Int)).bind (fun x45 => (r15_find_fu fu x45 p1 p2).bind (fun (r51, r52) => (bif (r52 != 0) then some (.inr ((0 : Int), r52)) else (app 8 s34 ([r51] : List Int)).bind (fun x68 => some (.inl x68)))))) p0.Kids.length 0 ([] : List Int)).bind (fun (t : (List Int) ⊕ ((Int × Int))) => match t with | .inl s34 => (r15_made p0 s34).bind (fun r88 => (bif (decide (r88 < 0)) then some (0, 11) else some (r88, 0))) | .inr (s54, s55) => some (s54, s55))))))
noncomputable def r15_find (p0 : qExpr) (p1 : List Int) (p2 : List Int) : Option (Int × Int) := anyFuel (fun fu => r15_find_fu fu p0 p1 p2)
theorem r15_find_fu_ok : ∀ (fu : Nat) {E w : World} {I : Mem} {Os : List Mem} {p0 : qExpr} {p1 : List Int} {p2 : List Int} {w_p0 : W_qExpr} {a_p1 : Option Addr} {c_p1 : Nat} {a_p2 : Option Addr} {c_p2 : Nat} (h_p0 : ok_qExpr I p0 w_p0) (h_p1 : RSl 1 (RInt .i64) I a_p1 c_p1 p1) (h_p2 : RSl 1 (RInt .i64) I a_p2 c_p2 p2) (hS : St E w I Os) {r : Int × Int} (hr : r15_find_fu fu p0 p1 p2 = some r),
    Calls P 156 #[(.agg (cs_qExpr p0 w_p0).toArray), (Sl a_p1 p1 c_p1), (Sl a_p2 p2 c_p2)] w (fun e w' => ∃ I', e = .returned (.tuple #[(Iv r.1), (Iv r.2)]) ∧ I.Le I' ∧ St E w' I' Os) := by
 intro fu
 induction fu with
 | zero => intro E w I Os p0 p1 p2 w_p0 a_p1 c_p1 a_p2 c_p2 h_p0 h_p1 h_p2 hS r hr; cases hr
 | succ fu ih =>
 intro E w I Os p0 p1 p2 w_p0 a_p1 c_p1 a_p2 c_p2 h_p0 h_p1 h_p2 hS r hr
 refine calls_W (fn := Tryz.f156) rfl rfl rfl ?_
 unfold r15_find_fu at hr
 refine yd nL3 (yy hS (cs_qExpr p0 w_p0) 39 rfl fun b1 w4 hS3 => ya 1 2 rfl (yb (yf (have hS5 := hS3.drew; ya6 (l := nL5) (by kernel_rfl) 4 (KR I [Bx b1 (cs_qExpr p0 w_p0) 39]) qR (.ords nL5 [0, 3, 1, 2, 4] (by kernel_rfl) (by kernel_rfl) (by kernel_rfl) (by kernel_rfl) (by kernel_rfl)) (by kernel_rfl) (KR.cons (hS5.rd m0) (KR.nil hS5.im)) ?_))))
 generalize World.drew _ = w6 at *
 refine yc 0 2 [1] rfl (yg (rd_c m0 (hS5.rd m0)) rfl (ya 3 1 rfl (WO.tail rfl (ya 4 1 rfl (yb (yf (yd nL2 (yc 0 1 [0] rfl (yg (hS5.rf m0) rfl (yb (W.block (yd nL2 (ya 0 2 rfl (yb (W.cb hr (fun hc hr => ?_) (fun hc hr => ?_))))))))))))))))
 refine yd nL5 (yc 0 2 [2, 0] rfl (yg (hS5.rf m0) rfl (ya 3 2 rfl (yb (W.ret (yj (ye ?_)))))))
 obtain rfl := sj hr
 exact yam ⟨I, rfl, lr, hS5.drop⟩
 refine yd nL2 (ya 0 2 rfl (yb (W.cb hr (fun hc hr => ?_) (fun hc hr => ?_))))
 refine yd nL2 (ya 0 2 rfl (yb (W.ret (yj (ye ?_)))))
 obtain rfl := sj hr
 exact yam ⟨I, rfl, lr, hS5.drop⟩
 refine yd nL2 (ya 0 2 rfl (yb (bsk hr fun j9 hr1 hr => W.jw (J := (fun fr w => ∃ (s13 : List Int) (s14 : Int), ∃ I11 a_s13 c_s13, (s13, s14) = j9 ∧ fr = [(1, Sl a_p1 p1 c_p1), (2, Sl a_p2 p2 c_p2), (3, Pt b1 0), (8, Sl a_s13 s13 c_s13), (9, Iv s14)] ∧ I.Le I11 ∧ St E w I11 ((Bx b1 (cs_qExpr p0 w_p0) 39) :: Os) ∧ RSl 1 (RInt .i64) I11 a_s13 c_s13 s13)) ?_ ?_)))
 refine W.cb hr1 (fun hc hr1 => ?_) (fun hc hr1 => ?_)
 exact yd nL2 (ya 0 2 rfl (yb (yaa nL4 (yc 0 1 [1] rfl (yg (hS5.rf m0) rfl (ya 2 2 rfl (WO.nil (yq ⟨p2, (w64 (p0.Op - 1)), I, a_p2, c_p2, sj hr1, rfl, lr, hS5, h_p2⟩))))))))
 exact yi (yq ⟨p1, p0.Op, I, a_p1, c_p1, sj hr1, rfl, lr, hS5, h_p1⟩)
 rintro _ w15 ⟨s13, s14, I11, a_s13, c_s13, rfl, rfl, hl12, hS16, h_s13⟩
 refine yk (En.next (yf (yd nL8 (yc 0 1 [0] rfl (yg (hS16.rf m0) rfl (ya 2 2 rfl (yac (l1 := [4, 5, 6, 7]) 40 ((p0.Kind == 3) || (p0.Kind == 8)) ?_ ?_)))))))
 refine yr (p0.Kind == 3) (fun hc => ?_) (fun hc => ?_)
 refine yl 36 hc ?_
 iterate 3 refine yt ?_
 exact yh 7 40 (.bool true) (WO.mk 36 hc (by rw [hc]; rfl))
 exact yl 36 hc (yc 4 1 [0] rfl (yg (hS16.rf m0) rfl (ya 6 1 rfl (yh 7 40 (.bool (p0.Kind == 8)) (WO.mk 36 hc (by rw [hc]; rfl))))))
 refine yb (W.cb hr (fun hc hr => ?_) (fun hc hr => ?_))
 refine yf (yd nL4 (ya 0 4 rfl (yb (W.cb hr (fun hc hr => ?_) (fun hc hr => ?_)))))
 refine yd nL2 (ya 0 2 rfl (yb (W.ret (ye (ye ?_)))))
 obtain rfl := sj hr
 exact yam ⟨I11, rfl, hl12, hS16.drop⟩
 refine yi (En.next (yf (yd nL12 (ya 0 2 rfl ?_))))
 obtain ⟨x20, hr, hb_x20, _, rfl, hc_x20⟩ := sl_ix (h_s13) hr
 refine y3 3 1 hb_x20 rfl (yaf hc_x20 hS16.rm rfl (ya 4 2 rfl (bsk hr fun j21 hr1 hr => WO.jw (l1 := [6, 7, 8, 9, 10, 11]) (J := (fun fr w => ∃ I23, fr = [(8, Sl a_s13 s13 c_s13), (9, Iv s14), (56, .bool j21)] ∧ I11.Le I23 ∧ St E w I23 Os)) ?_ ?_)))
 refine WO.cb hr1 (fun hc hr1 => ?_) (fun hc hr1 => ?_)
 refine yl 50 hc ?_
 iterate 5 refine yt ?_
 refine yh 11 56 (.bool true) ?_
 obtain rfl := sj hr1
 exact yw ⟨I11, rfl, lr, hS16.drop⟩
 refine yl 50 hc (ya 6 2 rfl ?_)
 obtain ⟨x26, hr1, hb_x26, _, rfl, hc_x26⟩ := sl_ix (h_s13) hr1
 refine y3 3 1 hb_x26 rfl (yaf hc_x26 hS16.rm rfl (ya 10 1 rfl (yh 11 56 (.bool (decide (x26 > 3))) ?_)))
 obtain rfl := sj hr1
 exact yw ⟨I11, rfl, lr, hS16.drop⟩
 rintro _ w28 ⟨I23, rfl, hl24, hS29⟩
 refine yb (W.cb hr (fun hc hr => ?_) (fun hc hr => ?_))
 refine yd nL2 (ya 0 2 rfl (yb (W.ret (ye (ye ?_)))))
 obtain rfl := sj hr
 exact yam ⟨I23, rfl, le, hS29⟩
 refine yi (En.next (yd nL6 (ya 0 2 rfl ?_)))
 obtain ⟨x30, hr, hb_x30, _, rfl, hc_x30⟩ := sl_ix ((RSl.mono h_s13 hl24)) hr
 refine y3 3 1 hb_x30 rfl (yaf hc_x30 hS29.rm rfl (ya 4 2 rfl (yb (W.ret (ye ?_)))))
 obtain rfl := sj hr
 exact yam ⟨I23, rfl, le, hS29⟩
 refine yi (En.next (yd [0] (yh 0 10 (.slice none 0 0) (yb (yf (yd [0] (ya 0 1 rfl (yb (W.block (bsk hr fun t31 hloop36 hr => have hlt43 := ((RSl.mono h_p0.Kids hl12)).len_lt; W.wk (W.forN (m := p0.Kids.length) hloop36 (fun (i35 : Nat) => fun (s34 : List Int) fr w => ∃ I32 a_s34 c_s34 C_s34, fr = [(1, Sl a_p1 p1 c_p1), (2, Sl a_p2 p2 c_p2), (3, Pt b1 0), (10, Sl a_s34 s34 c_s34), (11, Nv i35)] ∧ I11.Le I32 ∧ St E w I32 ((Bx b1 (cs_qExpr p0 w_p0) 39) :: (C_s34) :: Os) ∧ OwnSl 3 1 (RInt .i64) I32 C_s34 a_s34 c_s34 s34) ⟨I11, none, 0, Mem.no, rfl, lr, hS16.no.front1, OwnSl.nil⟩ ?_ ?_)))))))))))
 rintro i35 s34 _ w40 hi44 ⟨I32, a_s34, c_s34, C_s34, rfl, hl33, hS41, h_s34⟩ x42 hr1 hext31
 refine yf (yd nL5 (yc 0 2 [6] rfl (yg (hS41.rf m0) rfl (ya 3 2 rfl (yb (yah fun _ => yi (En.next (yf (W.block (yd nL13 (yc 0 1 [6] rfl (yg (hS41.rf m0) rfl (ya 2 1 rfl ?_)))))))))))))
 obtain ⟨x45, hx_x45, hr1⟩ := bsm hr1
 obtain ⟨h0_x45, h1_x45, hx_x45⟩ := idx_some hx_x45
 obtain ⟨ha_x45, cs_x45, hn_x45, hr_x45, hc_x45⟩ := ((RSl.mono h_p0.Kids (hl12.trans hl33))).el _ _ hx_x45
 obtain ⟨w_x45, rfl, h_x45⟩ := Q_qExpr_iff.1 hr_x45
 refine yaq 39 7 ha_x45 h0_x45 h1_x45 ?_
 refine yak ((cs_qExpr x45 w_x45)) hc_x45 0 hS41.rm rfl (ya 5 2 rfl ?_)
 obtain ⟨⟨r51, r52⟩, hx_r46, hr1⟩ := bsm hr1
 refine WO.c1 (ih h_x45 (RSl.mono h_p1 le) (RSl.mono h_p2 le) hS41 hx_r46) rfl fun I48 w47 hl49 hS50 => ya 8 5 rfl (yb (yf (yd nL2 (ya 0 2 rfl (yb (W.cb hr1 (fun hc hr1 => ?_) (fun hc hr1 => ?_)))))))
 refine yd nL3 (ya 0 3 rfl (yb (W.ret (ye (yj (ye (yp ?_)))))))
 obtain rfl := hext31 _ (sj hr1).symm
 refine yj (ye ?_)
 obtain rfl := sj hr
 exact yam ⟨I48, rfl, le, hS50.drop.drop⟩
 refine yi (En.next (yaa nL5 (ya 0 2 rfl (y4 (rel := (RInt .i64)) (xs := ([r51] : List Int)) hS50 rfl (by kernel_rfl) rfl 3 1 [[(Iv r51)]] (by kernel_rfl) rfl ((Elr.cons rfl Elr.nil)) (fun _ _ _ => trivial) ?_))))
 intro a62 C60 w65 hS63 ho61
 have hS67 := hS63.front2
 obtain ⟨x68, hx_x68, hr1⟩ := bsm hr1
 obtain ⟨h0_x68, he_x68⟩ := app_some hx_x68
 exact yaj 3 8 [(Iv 0)] hS67 (OwnSl.mono h_s34 hl49) ho61.sl (hS67.rd m1) h0_x68 he_x68 rfl fun a69 c70 w71 C72 hS73 ho74 => ya 4 1 rfl (WO.nil (yk (En.next (yaa nL3 (ya 0 1 rfl (yae i35 rfl (ya 2 1 rfl (WO.nil (yq ⟨x68, (sj hr1).symm, I48, a69, c70, C72, rfl, le, hS73.front1.drop.front1, ho74⟩)))))))))
 rintro s34 _ w78 ⟨I32, a_s34, c_s34, C_s34, rfl, hl33, hS79, h_s34⟩ he
 cases he
 refine yf (yd nL5 (yc 0 2 [6] rfl (yg (hS79.rf m0) rfl (ya 3 2 rfl (yb (yai fun _ => yz (ym (yn (yo (En.next (yd nL4 (yv ((cs_qExpr p0 w_p0)) (hS79.rf m0) rfl (ya 1 1 rfl (have hS80 := hS79.front1; have hp82 := (h_s34).publish hS80; bsk hr fun r88 hx_r83 hr => yab (r15_made_ok (h_p0.mono ((hl12.trans hl33).trans (yaw I32 C_s34))) hp82 hS80.publish hx_r83) ?_))))))))))))))
 rintro _ w84 ⟨I85, rfl, hl86, hS87⟩
 have hS89 := St.back hS80 hl86 hS87
 refine ⟨_, rfl, trivial, ?_⟩
 refine ya 3 1 rfl (yb (yf (yd nL2 (ya 0 2 rfl (yb (W.cb hr (fun hc hr => ?_) (fun hc hr => ?_)))))))
 refine yd nL2 (ya 0 2 rfl (yb (W.ret (ye ?_))))
 obtain rfl := sj hr
 exact yam ⟨I32, rfl, le, hS89.drop.drop⟩
 refine yi (En.next (yd nL3 (ya 0 3 rfl (yb (W.ret ?_)))))
 obtain rfl := sj hr
 exact yam ⟨I32, rfl, le, hS89.drop.drop⟩
theorem r15_find_ok {p0 : qExpr} {p1 : List Int} {p2 : List Int} {w_p0 : W_qExpr} {a_p1 : Option Addr} {c_p1 : Nat} {a_p2 : Option Addr} {c_p2 : Nat} (h_p0 : ok_qExpr I p0 w_p0) (h_p1 : RSl 1 (RInt .i64) I a_p1 c_p1 p1) (h_p2 : RSl 1 (RInt .i64) I a_p2 c_p2 p2) (hS : St E w I Os) {r : Int × Int} (hr : r15_find p0 p1 p2 = some r) :
    Calls P 156 #[(.agg (cs_qExpr p0 w_p0).toArray), (Sl a_p1 p1 c_p1), (Sl a_p2 p2 c_p2)] w (fun e w' => ∃ I', e = .returned (.tuple #[(Iv r.1), (Iv r.2)]) ∧ I.Le I' ∧ St E w' I' Os) := by
 obtain ⟨fu, hf⟩ := anyFuel_some hr
 exact r15_find_fu_ok fu h_p0 h_p1 h_p2 hS hf
noncomputable def r15_Type (p0 : qExpr) (p1 : List Int) (p2 : List Int) : Option (Int × Int) := (r10_Check p0 true).bind (fun r10 => (bif (r10 != 0) then some (0, r10) else (r15_find p0 p1 p2).bind (fun (r17, r18) => some (r17, r18))))
theorem r15_Type_ok {p0 : qExpr} {p1 : List Int} {p2 : List Int} {w_p0 : W_qExpr} {a_p1 : Option Addr} {c_p1 : Nat} {a_p2 : Option Addr} {c_p2 : Nat} (h_p0 : ok_qExpr I p0 w_p0) (h_p1 : RSl 1 (RInt .i64) I a_p1 c_p1 p1) (h_p2 : RSl 1 (RInt .i64) I a_p2 c_p2 p2) (hS : St E w I Os) {r : Int × Int} (hr : r15_Type p0 p1 p2 = some r) :
    Calls P 130 #[(.agg (cs_qExpr p0 w_p0).toArray), (Sl a_p1 p1 c_p1), (Sl a_p2 p2 c_p2)] w (fun e w' => ∃ I', e = .returned (.tuple #[(Iv r.1), (Iv r.2)]) ∧ I.Le I' ∧ St E w' I' Os) := by
 refine calls_W (fn := Tryz.f130) rfl rfl rfl ?_
 unfold r15_Type at hr
 refine yd nL3 (yy hS (cs_qExpr p0 w_p0) 39 rfl fun b1 w4 hS3 => ya 1 2 rfl (y0 nL3 (yv ((cs_qExpr p0 w_p0)) (hS3.rf m0) rfl (bsk hr fun r10 hx_r5 hr => WO.c1 (r10_Check_ok h_p0 hS3 hx_r5) rfl fun I7 w6 hl8 hS9 => ya 2 1 rfl (yb (yf (yd nL2 (ya 0 2 rfl (yb (W.cb hr (fun hc hr => ?_) (fun hc hr => ?_)))))))))))
 refine yd nL3 (ya 0 3 rfl (yb (W.ret (ye ?_))))
 obtain rfl := sj hr
 exact yam ⟨I7, rfl, hl8, hS9.drop⟩
 refine yi (En.next (yd nL8 (yv ((cs_qExpr p0 w_p0)) (hS9.rf m0) rfl (ya 1 2 rfl ?_))))
 obtain ⟨⟨r17, r18⟩, hx_r12, hr⟩ := bsm hr
 refine WO.c1 (r15_find_ok (h_p0.mono hl8) (RSl.mono h_p1 hl8) (RSl.mono h_p2 hl8) hS9 hx_r12) rfl fun I14 w13 hl15 hS16 => ya 4 4 rfl (yb (W.ret ?_))
 obtain rfl := sj hr
 exact yam ⟨I14, rfl, le, hS16.drop⟩
noncomputable def r15_Bool (p0 : qExpr) (p1 : List Int) (p2 : List Int) : Option Int := (r15_Type p0 p1 p2).bind (fun (r10, r11) => (bif (r11 != 0) then some r11 else (bif ((r10 != 2) && (r10 != 0)) then some 11 else some 0)))
theorem r15_Bool_ok {p0 : qExpr} {p1 : List Int} {p2 : List Int} {w_p0 : W_qExpr} {a_p1 : Option Addr} {c_p1 : Nat} {a_p2 : Option Addr} {c_p2 : Nat} (h_p0 : ok_qExpr I p0 w_p0) (h_p1 : RSl 1 (RInt .i64) I a_p1 c_p1 p1) (h_p2 : RSl 1 (RInt .i64) I a_p2 c_p2 p2) (hS : St E w I Os) {r : Int} (hr : r15_Bool p0 p1 p2 = some r) :
    Calls P 92 #[(.agg (cs_qExpr p0 w_p0).toArray), (Sl a_p1 p1 c_p1), (Sl a_p2 p2 c_p2)] w (fun e w' => ∃ I', e = .returned (Iv r) ∧ I.Le I' ∧ St E w' I' Os) := by
 refine calls_W (fn := Tryz.f92) rfl rfl rfl ?_
 unfold r15_Bool at hr
 refine yd nL2 (yy hS (cs_qExpr p0 w_p0) 39 rfl fun b1 w4 hS3 => ya 1 1 rfl (y0 nL9 (yv ((cs_qExpr p0 w_p0)) (hS3.rf m0) rfl (ya 1 2 rfl ?_))))
 obtain ⟨⟨r10, r11⟩, hx_r5, hr⟩ := bsm hr
 refine WO.c1 (r15_Type_ok h_p0 h_p1 h_p2 hS3 hx_r5) rfl fun I7 w6 hl8 hS9 => ya 4 5 rfl (yb (yf (yd nL2 (ya 0 2 rfl (yb (W.cb hr (fun hc hr => ?_) (fun hc hr => ?_)))))))
 refine yd nL2 (ya 0 2 rfl (yb (W.ret (ye ?_))))
 obtain rfl := sj hr
 exact yu ⟨I7, rfl, hl8, hS9.drop⟩
 refine yi (En.next (yf (yd nL6 (ya 0 3 rfl (yac (l1 := [3, 4, 5]) 24 ((r10 != 2) && (r10 != 0)) ?_ ?_)))))
 refine yr (r10 != 2) (fun hc => ?_) (fun hc => ?_)
 exact yl 21 hc (ya 3 2 rfl (yh 5 24 (.bool (r10 != 0)) (WO.mk 21 hc (by rw [hc]; rfl))))
 refine yl 21 hc ?_
 iterate 2 refine yt ?_
 exact yh 5 24 (.bool false) (WO.mk 21 hc (by rw [hc]; rfl))
 refine yb (W.cb hr (fun hc hr => ?_) (fun hc hr => ?_))
 refine yd [0] (ya 0 1 rfl (yb (W.ret (ye ?_))))
 obtain rfl := sj hr
 exact yu ⟨I7, rfl, hl8, hS9.drop⟩
 refine yi (En.next (yd [0] (ya 0 1 rfl (yb (W.ret ?_)))))
 obtain rfl := sj hr
 exact yu ⟨I7, rfl, hl8, hS9.drop⟩
def r14_Places (p0 : qTable) (p1 : List ByteArray) : Option ((List Int) × Int) := (forN (fun (i9 : Nat) => fun (s8 : List Int) => (idx p1 (i9 : Int)).bind (fun x21 => (r14_Col p0 x21).bind (fun r27 => (bif (decide (r27 < 0)) then some (.inr (([] : List Int), (4 : Int))) else (app 8 s8 ([r27] : List Int)).bind (fun x42 => some (.inl x42)))))) p1.length 0 ([] : List Int)).bind (fun (t : (List Int) ⊕ (((List Int) × Int))) => match t with | .inl s8 => some (s8, 0) | .inr (s29, s30) => some (s29, s30))
theorem r14_Places_ok {p0 : qTable} {p1 : List ByteArray} {w_p0 : W_qTable} {a_p1 : Option Addr} {c_p1 : Nat} (h_p0 : ok_qTable I p0 w_p0) (h_p1 : RSl 1 RStr I a_p1 c_p1 p1) (hS : St E w I Os) {r : (List Int) × Int} (hr : r14_Places p0 p1 = some r) :
    Calls P 131 #[(.agg (cs_qTable p0 w_p0).toArray), (Sl a_p1 p1 c_p1)] w (fun e w' => ∃ (I' : Mem) (ra0 : Option Addr) (rc0 : Nat), e = .returned (.tuple #[(Sl ra0 r.1 rc0), (Iv r.2)]) ∧ I.Le I' ∧ St E w' I' Os ∧ RSl 1 (RInt .i64) I' ra0 rc0 r.1) := by
 refine calls_W (fn := Tryz.f131) rfl rfl rfl ?_
 unfold r14_Places at hr
 refine yd nL3 (yy hS (cs_qTable p0 w_p0) 89 rfl fun b1 w4 hS3 => yh 1 4 (.slice none 0 0) (ya 2 1 rfl (y0 [0] (yh 0 6 (.slice none 0 0) (yb (yf (yd [0] (ya 0 1 rfl (yb (W.block (bsk hr fun t5 hloop10 hr => have hlt17 := (h_p1).len_lt; W.wk (W.forN (m := p1.length) hloop10 (fun (i9 : Nat) => fun (s8 : List Int) fr w => ∃ I6 a_s8 c_s8 C_s8, fr = [(1, Sl a_p1 p1 c_p1), (2, Pt b1 0), (6, Sl a_s8 s8 c_s8), (7, Nv i9)] ∧ I.Le I6 ∧ St E w I6 ((Bx b1 (cs_qTable p0 w_p0) 89) :: (C_s8) :: Os) ∧ OwnSl 3 1 (RInt .i64) I6 C_s8 a_s8 c_s8 s8) ⟨I, none, 0, Mem.no, rfl, lr, hS3.no.front1, OwnSl.nil⟩ ?_ ?_))))))))))))
 rintro i9 s8 _ w14 hi18 ⟨I6, a_s8, c_s8, C_s8, rfl, hl7, hS15, h_s8⟩ x16 hr1 hext5
 refine yf (yd nL4 (ya 0 4 rfl (yb (yah fun _ => yi (En.next (yf (W.block (yf (have hS19 := hS15.drew; yat nL7 5 (KR.cons (hS19.rd m0) (KR.nil hS19.im)) ?_)))))))))
 generalize World.drew _ = w20 at *
 refine yv ((cs_qTable p0 w_p0)) (rd_c m0 (hS19.rd m0)) rfl (ya 1 2 rfl ?_)
 obtain ⟨x21, hr1, hb_x21, _, rfl, hc_x21⟩ := sl_ix ((RSl.mono h_p1 hl7)) hr1
 refine y3 9 1 hb_x21 rfl (yaf hc_x21 (rd_i hS19.im) rfl (WO.tail rfl (bsk hr1 fun r27 hx_r22 hr1 => WO.c1 (r14_Col_ok (h_p0.mono hl7) hS19 hx_r22) rfl fun I24 w23 hl25 hS26 => ya 6 1 rfl (yb (yf (yd nL2 (ya 0 2 rfl (yb (W.cb hr1 (fun hc hr1 => ?_) (fun hc hr1 => ?_))))))))))
 refine yd nL2 (yh 0 4 (.slice none 0 0) (ya 1 1 rfl (yb (W.ret (ye (yj (ye (yp ?_))))))))
 obtain rfl := hext5 _ (sj hr1).symm
 refine yj (ye ?_)
 obtain rfl := sj hr
 exact yam ⟨I24, none, 0, rfl, le, hS26.drop.drop, SlAt.nil⟩
 refine yi (En.next (yaa nL5 (ya 0 2 rfl (y4 (rel := (RInt .i64)) (xs := ([r27] : List Int)) hS26 rfl (by kernel_rfl) rfl 3 1 [[(Iv r27)]] (by kernel_rfl) rfl ((Elr.cons rfl Elr.nil)) (fun _ _ _ => trivial) ?_))))
 intro a37 C35 w39 hS38 ho36
 have hS41 := hS38.front2
 obtain ⟨x42, hx_x42, hr1⟩ := bsm hr1
 obtain ⟨h0_x42, he_x42⟩ := app_some hx_x42
 exact yaj 3 8 [(Iv 0)] hS41 (OwnSl.mono h_s8 hl25) ho36.sl (hS41.rd m1) h0_x42 he_x42 rfl fun a43 c44 w45 C46 hS47 ho48 => ya 4 1 rfl (WO.nil (yk (En.next (yaa nL3 (ya 0 1 rfl (yae i9 rfl (ya 2 1 rfl (WO.nil (yq ⟨x42, (sj hr1).symm, I24, a43, c44, C46, rfl, le, hS47.front1.drop.front1, ho48⟩)))))))))
 rintro s8 _ w52 ⟨I6, a_s8, c_s8, C_s8, rfl, hl7, hS53, h_s8⟩ he
 cases he
 refine yf (yd nL4 (ya 0 4 rfl (yb (yai fun _ => yz (ym (yn (yo (En.next (yd nL3 (ya 0 1 rfl ?_))))))))))
 obtain ⟨I55, hl56, hS58, hp57⟩ := y6 h_s8 hS53.front1
 refine ya 1 2 rfl (yb (W.ret ?_))
 obtain rfl := sj hr
 exact yam ⟨I55, a_s8, c_s8, rfl, le, hS58.drop, hp57⟩
def r17_foreign (p0 : qCatalog) (p1 : qTable) (p2 : qCons) : Option Int := ((bif (!sEq p2.Table p1.Name) then (r17_At p0 p2.Table).bind (fun r28 => (bif (decide (r28 < 0)) then some (.inl (4, p1)) else (idx p0.Tables r28).bind (fun x40 => some (.inr x40)))) else some (.inr p1))).bind (fun (t : (Int × qTable) ⊕ qTable) => match t with | (.inl (s30, s31)) => some s30 | (.inr s43) => (r14_Places s43 p2.Refs).bind (fun (r59, r60) => (r14_Places p1 p2.Cols).bind (fun (r66, r67) => (bif (r60 != 0) then some r60 else (forN (fun (i74 : Nat) => fun (_s : Unit) => (idx r66 (i74 : Int)).bind (fun x83 => (idx p1.Cols x83).bind (fun x84 => (idx r59 (i74 : Int)).bind (fun x85 => (idx s43.Cols x85).bind (fun x86 => (bif (x84.Type_ != x86.Type_) then some (.inr (11 : Int)) else some (.inl ()))))))) r59.length 0 ()).bind (fun (t : Unit ⊕ (Int)) => match t with | .inl _ => (r17_keys s43 p2.Refs).bind (fun r102 => (bif (r102 == 0) then some 2 else some 0)) | .inr s88 => some s88)))))
theorem r17_foreign_ok {p0 : qCatalog} {p1 : qTable} {p2 : qCons} {w_p0 : W_qCatalog} {w_p1 : W_qTable} {w_p2 : W_qCons} (h_p0 : ok_qCatalog I p0 w_p0) (h_p1 : ok_qTable I p1 w_p1) (h_p2 : ok_qCons I p2 w_p2) (hS : St E w I Os) {r : Int} (hr : r17_foreign p0 p1 p2 = some r) :
    Calls P 94 #[(.agg (cs_qCatalog p0 w_p0).toArray), (.agg (cs_qTable p1 w_p1).toArray), (.agg (cs_qCons p2 w_p2).toArray)] w (fun e w' => ∃ I', e = .returned (Iv r) ∧ I.Le I' ∧ St E w' I' Os) := by
 refine calls_W (fn := Tryz.f94) rfl rfl rfl ?_
 unfold r17_foreign at hr
 refine yd nL4 (yy hS (cs_qCatalog p0 w_p0) 29 rfl fun b1 w4 hS3 => yy hS3 (cs_qTable p1 w_p1) 89 rfl fun b5 w8 hS7 => yy hS7 (cs_qCons p2 w_p2) 100 rfl fun b9 w12 hS11 => ya 3 1 rfl (y0 nL3 (yv ((cs_qTable p1 w_p1)) (hS11.rf m1) rfl (yy hS11 (cs_qTable z_qTable zw_qTable) 89 rfl fun b13 w16 hS15 => yx hS15 0 (cs_qTable p1 w_p1) fun w18 hS17 => yb (yf (yd nL5 (yc 0 1 [10] rfl (yg (hS17.rf m1) rfl (yc 2 1 [0] rfl (yg (hS17.rf m2) rfl (ya 4 1 rfl (yb (bsk hr fun j19 hr1 hr => W.jw (J := (fun fr w => ∃ (s43 : qTable), ∃ I21 w_s43, (.inr s43) = j19 ∧ fr = [(4, Pt b5 0), (5, Pt b9 0), (7, Pt b13 0)] ∧ I.Le I21 ∧ St E w I21 ((Bx b5 (cs_qTable p1 w_p1) 89) :: (Bx b9 (cs_qCons p2 w_p2) 100) :: (Bx b13 (cs_qTable s43 w_s43) 89) :: Os) ∧ ok_qTable I21 s43 w_s43)) ?_ ?_)))))))))))))
 refine W.cb hr1 (fun hc hr1 => ?_) (fun hc hr1 => ?_)
 refine yd nL5 (yv ((cs_qCatalog p0 w_p0)) (hS17.rf m3) rfl (yc 1 1 [10] rfl (yg (hS17.rf m1) rfl (bsk hr1 fun r28 hx_r23 hr1 => WO.c1 (r17_At_ok h_p0 hS17 hx_r23) rfl fun I25 w24 hl26 hS27 => ya 4 1 rfl (yb (yf (yd nL2 (ya 0 2 rfl (yb (W.cb hr1 (fun hc hr1 => ?_) (fun hc hr1 => ?_)))))))))))
 refine yd [0] (ya 0 1 rfl (yb (W.ret (ye (yp ?_)))))
 obtain rfl := sj hr1
 refine ye ?_
 obtain rfl := sj hr
 exact yu ⟨I25, rfl, hl26, hS27.drop.drop.drop.drop⟩
 refine yi (En.next (yaa nL6 (yc 0 1 [1] rfl (yg (hS27.rf m3) rfl (ya 2 1 rfl ?_)))))
 obtain ⟨x40, hr1, hb_x40, _, ⟨w_x40, rfl, h_x40⟩, hc_x40⟩ := sl_ix ((RSl.mono h_p0.Tables hl26)) hr1
 exact y3 89 6 hb_x40 rfl (yak ((cs_qTable x40 w_x40)) hc_x40 0 hS27.rm rfl (yx hS27 0 (cs_qTable x40 w_x40) fun w42 hS41 => WO.nil (yq ⟨x40, I25, w_x40, sj hr1, rfl, hl26, hS41.front3.drop.front1.front2, h_x40⟩)))
 exact yi (yq ⟨p1, I, w_p1, sj hr1, rfl, lr, hS17.front3.drop.front1.front2, h_p1⟩)
 rintro _ w52 ⟨s43, I21, w_s43, rfl, rfl, hl22, hS53, h_s43⟩
 refine En.next (yd nL9 (yv ((cs_qTable s43 w_s43)) (hS53.rf m2) rfl (yc 1 1 [11] rfl (yg (hS53.rf m1) rfl ?_))))
 obtain ⟨⟨r59, r60⟩, hx_r54, hr⟩ := bsm hr
 refine yab (r14_Places_ok h_s43 (RSl.mono h_p2.Refs hl22) hS53 hx_r54) ?_
 rintro _ w55 ⟨I56, a_r59, c_r59, rfl, hl57, hS58, h_r59⟩
 refine ⟨_, rfl, trivial, ?_⟩
 refine ya 4 5 rfl (y0 nL9 (yv ((cs_qTable p1 w_p1)) (hS58.rf m0) rfl (yc 1 1 [2] rfl (yg (hS58.rf m1) rfl ?_))))
 obtain ⟨⟨r66, r67⟩, hx_r61, hr⟩ := bsm hr
 refine yab (r14_Places_ok (h_p1.mono le) (RSl.mono h_p2.Cols le) hS58 hx_r61) ?_
 rintro _ w62 ⟨I63, a_r66, c_r66, rfl, hl64, hS65, h_r66⟩
 refine ⟨_, rfl, trivial, ?_⟩
 refine ya 4 5 rfl (yb (yf (yd nL2 (ya 0 2 rfl (yb (W.cb hr (fun hc hr => ?_) (fun hc hr => ?_)))))))
 refine yd nL2 (ya 0 2 rfl (yb (W.ret (ye ?_))))
 obtain rfl := sj hr
 exact yu ⟨I63, rfl, le, hS65.drop.drop.drop⟩
 refine yi (En.next (yf (yd [0] (ya 0 1 rfl (yb (W.block (bsk hr fun t71 hloop75 hr => have hlt79 := ((RSl.mono h_r59 hl64)).len_lt; W.wk (W.forN (m := r59.length) hloop75 (fun (i74 : Nat) => fun (_s : Unit) fr w => ∃ I72, fr = [(4, Pt b5 0), (5, Pt b9 0), (7, Pt b13 0), (9, Sl a_r59 r59 c_r59), (11, Sl a_r66 r66 c_r66), (13, Nv i74)] ∧ I63.Le I72 ∧ St E w I72 ((Bx b5 (cs_qTable p1 w_p1) 89) :: (Bx b9 (cs_qCons p2 w_p2) 100) :: (Bx b13 (cs_qTable s43 w_s43) 89) :: Os)) ⟨I63, rfl, lr, hS65⟩ ?_ ?_))))))))
 rintro i74 _ _ w76 hi80 ⟨I72, rfl, hl73, hS77⟩ x78 hr1 hext71
 refine yf (yd nL4 (ya 0 4 rfl (yb (yah fun _ => yi (En.next (yf (W.block (yf (have hS81 := hS77.drew; yat nL19 18 (KR.cons (hS81.rd m0) (KR.cons (hS81.rd m2) (KR.nil hS81.im))) ?_)))))))))
 generalize World.drew _ = w82 at *
 refine yc 0 1 [3] rfl (yg (rd_c m0 (hS81.rd m0)) rfl (ya 2 2 rfl ?_))
 obtain ⟨x83, hr1, hb_x83, _, rfl, hc_x83⟩ := sl_ix ((RSl.mono h_r66 hl73)) hr1
 refine y3 3 1 hb_x83 rfl (yaf hc_x83 (rd_i hS81.im) rfl ?_)
 obtain ⟨x84, hr1, hb_x84, _, rfl, hc_x84⟩ := sl_ix ((RSl.mono h_p1.Cols (((hl22.trans hl57).trans hl64).trans hl73))) hr1
 refine y3 73 3 hb_x84 rfl (yc 7 1 [1] rfl (yal hc_x84 1 (rd_i hS81.im) rfl (yc 9 1 [3] rfl (yg (rd_c m1 (hS81.rd m2)) rfl (ya 11 2 rfl ?_)))))
 obtain ⟨x85, hr1, hb_x85, _, rfl, hc_x85⟩ := sl_ix ((RSl.mono h_r59 (hl64.trans hl73))) hr1
 refine y3 3 1 hb_x85 rfl (yaf hc_x85 (rd_i hS81.im) rfl ?_)
 obtain ⟨x86, hr1, hb_x86, _, rfl, hc_x86⟩ := sl_ix ((RSl.mono h_s43.Cols ((hl57.trans hl64).trans hl73))) hr1
 refine y3 73 3 hb_x86 rfl (yc 16 1 [1] rfl (yal hc_x86 1 (rd_i hS81.im) rfl (WO.tail rfl (ya 18 1 rfl (yb (W.cb hr1 (fun hc hr1 => ?_) (fun hc hr1 => ?_)))))))
 refine yd [0] (ya 0 1 rfl (yb (W.ret (yj (ye (yp ?_))))))
 obtain rfl := hext71 _ (sj hr1).symm
 refine yj (ye ?_)
 obtain rfl := sj hr
 exact yu ⟨I72, rfl, le, hS81.drop.drop.drop⟩
 exact yi (yk (En.next (yaa nL3 (ya 0 1 rfl (yae i74 rfl (ya 2 1 rfl (WO.nil (yq ⟨(), (sj hr1).symm, I72, rfl, hl73, hS81⟩))))))))
 rintro _ _ w95 ⟨I72, rfl, hl73, hS96⟩ he
 cases he
 refine yf (yd nL4 (ya 0 4 rfl (yb (yai fun _ => yz (ym (yn (yo (En.next (yf (yd nL5 (yv ((cs_qTable s43 w_s43)) (hS96.rf m2) rfl (yc 1 1 [11] rfl (yg (hS96.rf m1) rfl (bsk hr fun r102 hx_r97 hr => WO.c1 (r17_keys_ok (h_s43.mono le) (RSl.mono h_p2.Refs le) hS96 hx_r97) rfl fun I99 w98 hl100 hS101 => ya 4 1 rfl (yb (W.cb hr (fun hc hr => ?_) (fun hc hr => ?_)))))))))))))))))
 refine yd [0] (ya 0 1 rfl (yb (W.ret (ye ?_))))
 obtain rfl := sj hr
 exact yu ⟨I99, rfl, le, hS101.drop.drop.drop⟩
 refine yi (En.next (yd [0] (ya 0 1 rfl (yb (W.ret ?_)))))
 obtain rfl := sj hr
 exact yu ⟨I99, rfl, le, hS101.drop.drop.drop⟩
noncomputable def r17_Sound (p0 : qCatalog) (p1 : qTable) : Option Int := (r14_Check p1).bind (fun r14 => (bif (r14 != 0) then some r14 else (forN (fun (i20 : Nat) => fun (_s : Unit) => (idx p1.Cons (i20 : Int)).bind (fun x28 => ((bif (x28.Kind == 2) then (r15_Resolve p1 x28.Check).bind (fun (r44, r45) => ((bif (r45 == 0) then (r15_Cols p1).bind (fun r63 => (r15_Bool r44 r63 ([] : List Int)).bind (fun r69 => some r69)) else some r45)).bind (fun (j52 : Int) => some j52)) else some 0)).bind (fun (j35 : Int) => ((bif (x28.Kind == 3) then (r17_foreign p0 p1 x28).bind (fun r91 => some r91) else some j35)).bind (fun (j82 : Int) => (bif (j82 != 0) then some (.inr j82) else some (.inl ())))))) p1.Cons.length 0 ()).bind (fun (t : Unit ⊕ (Int)) => match t with | .inl _ => some 0 | .inr s99 => some s99)))
theorem r17_Sound_ok {p0 : qCatalog} {p1 : qTable} {w_p0 : W_qCatalog} {w_p1 : W_qTable} (h_p0 : ok_qCatalog I p0 w_p0) (h_p1 : ok_qTable I p1 w_p1) (hS : St E w I Os) {r : Int} (hr : r17_Sound p0 p1 = some r) :
    Calls P 54 #[(.agg (cs_qCatalog p0 w_p0).toArray), (.agg (cs_qTable p1 w_p1).toArray)] w (fun e w' => ∃ I', e = .returned (Iv r) ∧ I.Le I' ∧ St E w' I' Os) := by
 refine calls_W (fn := Tryz.f54) rfl rfl rfl ?_
 unfold r17_Sound at hr
 refine yd nL3 (yy hS (cs_qCatalog p0 w_p0) 29 rfl fun b1 w4 hS3 => yy hS3 (cs_qTable p1 w_p1) 89 rfl fun b5 w8 hS7 => ya 2 1 rfl (y0 nL3 (yv ((cs_qTable p1 w_p1)) (hS7.rf m0) rfl (bsk hr fun r14 hx_r9 hr => WO.c1 (r14_Check_ok h_p1 hS7 hx_r9) rfl fun I11 w10 hl12 hS13 => ya 2 1 rfl (yb (yf (yd nL2 (ya 0 2 rfl (yb (W.cb hr (fun hc hr => ?_) (fun hc hr => ?_)))))))))))
 refine yd nL2 (ya 0 2 rfl (yb (W.ret (ye ?_))))
 obtain rfl := sj hr
 exact yu ⟨I11, rfl, hl12, hS13.drop.drop⟩
 refine yi (En.next (yf (yd [0] (ya 0 1 rfl (yb (W.block (bsk hr fun t17 hloop21 hr => have hlt26 := ((RSl.mono h_p1.Cons hl12)).len_lt; W.wk (W.forN (m := p1.Cons.length) hloop21 (fun (i20 : Nat) => fun (_s : Unit) fr w => ∃ I18, fr = [(2, Pt b1 0), (3, Pt b5 0), (6, Nv i20)] ∧ I11.Le I18 ∧ St E w I18 ((Bx b1 (cs_qCatalog p0 w_p0) 29) :: (Bx b5 (cs_qTable p1 w_p1) 89) :: Os)) ⟨I11, rfl, lr, hS13.front1⟩ ?_ ?_))))))))
 rintro i20 _ _ w23 hi27 ⟨I18, rfl, hl19, hS24⟩ x25 hr1 hext17
 refine yf (yd nL5 (yc 0 2 [4] rfl (yg (hS24.rf m1) rfl (ya 3 2 rfl (yb (yah fun _ => yi (En.next (yf (W.block (yd nL7 (yc 0 1 [4] rfl (yg (hS24.rf m1) rfl (ya 2 1 rfl ?_)))))))))))))
 obtain ⟨x28, hr1, hb_x28, _, ⟨w_x28, rfl, h_x28⟩, hc_x28⟩ := sl_ix ((RSl.mono h_p1.Cons (hl12.trans hl19))) hr1
 refine y3 100 12 hb_x28 rfl (yak ((cs_qCons x28 w_x28)) hc_x28 0 hS24.rm rfl (yy hS24 (cs_qCons z_qCons zw_qCons) 100 rfl fun b29 w32 hS31 => yx hS31 0 (cs_qCons x28 w_x28) fun w34 hS33 => y0 [0] (ya 0 1 rfl (yb (yf (yd nL3 (yc 0 1 [1] rfl (yg (hS33.rf m0) rfl (ya 2 1 rfl (yb (bsk hr1 fun j35 hr2 hr1 => W.jw (J := (fun fr w => ∃ I37, fr = [(2, Pt b1 0), (3, Pt b5 0), (6, Nv i20), (7, Pt b29 0), (8, Iv j35)] ∧ I18.Le I37 ∧ St E w I37 ((Bx b1 (cs_qCatalog p0 w_p0) 29) :: (Bx b5 (cs_qTable p1 w_p1) 89) :: (Bx b29 (cs_qCons x28 w_x28) 100) :: Os))) ?_ ?_)))))))))))
 refine W.cb hr2 (fun hc hr2 => ?_) (fun hc hr2 => ?_)
 refine yd nL10 (yv ((cs_qTable p1 w_p1)) (hS33.rf m2) rfl (yc 1 1 [3] rfl (yv ((cs_qExpr x28.Check w_x28.Check)) (hS33.rf m0) rfl ?_)))
 obtain ⟨⟨r44, r45⟩, hx_r39, hr2⟩ := bsm hr2
 refine yab (r15_Resolve_ok (h_p1.mono le) h_x28.Check hS33 hx_r39) ?_
 rintro _ w40 ⟨I41, w_r44, rfl, hl42, hS43, h_r44⟩
 refine ⟨_, rfl, trivial, ?_⟩
 refine ya 4 3 rfl (yy hS43 (cs_qExpr z_qExpr zw_qExpr) 39 rfl fun b46 w49 hS48 => yx hS48 0 (cs_qExpr r44 w_r44) fun w51 hS50 => ya 9 1 rfl (y0 nL2 (ya 0 2 rfl (y0 nL2 (ya 0 2 rfl (yb (bsk hr2 fun j52 hr3 hr2 => W.jw (J := (fun fr w => ∃ I54, fr = [(2, Pt b1 0), (3, Pt b5 0), (6, Nv i20), (7, Pt b29 0), (8, Iv j52)] ∧ I41.Le I54 ∧ St E w I54 ((Bx b1 (cs_qCatalog p0 w_p0) 29) :: (Bx b5 (cs_qTable p1 w_p1) 89) :: (Bx b29 (cs_qCons x28 w_x28) 100) :: Os))) ?_ ?_)))))))
 refine W.cb hr3 (fun hc hr3 => ?_) (fun hc hr3 => ?_)
 have hS56 := hS50.drew
 refine yat nL5 3 (KR.cons (hS56.rd m0) (KR.cons (hS56.rd m3) (KR.nil hS56.im))) ?_
 generalize World.drew _ = w57 at *
 refine yv ((cs_qExpr r44 w_r44)) (rd_c m0 (hS56.rd m0)) rfl (yv ((cs_qTable p1 w_p1)) (rd_c m1 (hS56.rd m3)) rfl (bsk hr3 fun r63 hx_r58 hr3 => yab (r15_Cols_ok (h_p1.mono le) hS56 hx_r58) ?_))
 rintro _ w59 ⟨I60, a_r63, c_r63, rfl, hl61, hS62, h_r63⟩
 refine ⟨_, rfl, (KR.cons (hS62.rd m0) (KR.cons (hS62.rd m3) (KR.nil (hS62.im.of_le hl61)))), ?_⟩
 refine WO.tail rfl (bsk hr3 fun r69 hx_r64 hr3 => WO.c1 (r15_Bool_ok (h_r44.mono hl61) h_r63 SlAt.nil hS62 hx_r64) rfl fun I66 w65 hl67 hS68 => ya 4 1 rfl (WO.nil ?_))
 obtain rfl := sj hr3
 exact yq ⟨I66, rfl, le, hS68.drop.front2.front2⟩
 refine yi ?_
 obtain rfl := sj hr3
 exact yq ⟨I41, rfl, lr, hS50.drop.front2.front2⟩
 rintro _ w76 ⟨I54, rfl, hl55, hS77⟩
 obtain rfl := sj hr2
 exact yq ⟨I54, rfl, le, hS77⟩
 refine yi ?_
 obtain rfl := sj hr2
 exact yq ⟨I18, rfl, lr, hS33.front2.front2⟩
 rintro _ w80 ⟨I37, rfl, hl38, hS81⟩
 refine En.next (yf (yd nL3 (yc 0 1 [1] rfl (yg (hS81.rf m2) rfl (ya 2 1 rfl (yb (bsk hr1 fun j82 hr2 hr1 => W.jw (J := (fun fr w => ∃ I84, fr = [(2, Pt b1 0), (3, Pt b5 0), (6, Nv i20), (8, Iv j82)] ∧ I37.Le I84 ∧ St E w I84 ((Bx b1 (cs_qCatalog p0 w_p0) 29) :: (Bx b5 (cs_qTable p1 w_p1) 89) :: Os))) ?_ ?_)))))))
 refine W.cb hr2 (fun hc hr2 => ?_) (fun hc hr2 => ?_)
 refine yaa nL5 (yv ((cs_qCatalog p0 w_p0)) (hS81.rf m0) rfl (yv ((cs_qTable p1 w_p1)) (hS81.rf m1) rfl (yv ((cs_qCons x28 w_x28)) (hS81.rf m2) rfl (bsk hr2 fun r91 hx_r86 hr2 => WO.c1 (r17_foreign_ok (h_p0.mono le) (h_p1.mono le) (h_x28.mono hl38) hS81 hx_r86) rfl fun I88 w87 hl89 hS90 => ya 4 1 rfl (WO.nil ?_)))))
 obtain rfl := sj hr2
 exact yq ⟨I88, rfl, hl89, hS90.front2.drop⟩
 refine yi ?_
 obtain rfl := sj hr2
 exact yq ⟨I37, rfl, lr, hS81.front2.drop⟩
 rintro _ w96 ⟨I84, rfl, hl85, hS97⟩
 refine En.next (yd nL2 (ya 0 2 rfl (yb (W.cb hr1 (fun hc hr1 => ?_) (fun hc hr1 => ?_)))))
 refine yd nL2 (ya 0 2 rfl (yb (W.ret (yj (ye (yp ?_))))))
 obtain rfl := hext17 _ (sj hr1).symm
 refine yj (ye ?_)
 obtain rfl := sj hr
 exact yu ⟨I84, rfl, le, hS97.drop.drop⟩
 exact yi (yk (En.next (yaa nL3 (ya 0 1 rfl (yae i20 rfl (ya 2 1 rfl (WO.nil (yq ⟨(), (sj hr1).symm, I84, rfl, le, hS97⟩))))))))
 rintro _ _ w104 ⟨I18, rfl, hl19, hS105⟩ he
 cases he
 refine yf (yd nL5 (yc 0 2 [4] rfl (yg (hS105.rf m1) rfl (ya 3 2 rfl (yb (yai fun _ => yz (ym (yn (yo (En.next (yd [0] (ya 0 1 rfl (yb (W.ret ?_))))))))))))))
 obtain rfl := sj hr
 exact yu ⟨I18, rfl, le, hS105.drop.drop⟩
noncomputable def r17_with (p0 : qCatalog) (p1 : qTable) : Option qCatalog := (loopO (fun (s24 : Int) => ((bif (decide (s24 < (p0.Tables.length : Int))) then (idx p0.Tables s24).bind (fun x38 => some (sLt x38.Name p1.Name)) else some false)).bind (fun (j34 : Bool) => (bif j34 then some (.inl (w64 (s24 + 1))) else some (.inr s24)))) 0).bind (fun (s42 : Int) => (sub p0.Tables 0 s42).bind (fun x45 => (app 112 ([] : List qTable) x45).bind (fun x48 => (app 112 x48 ([p1] : List qTable)).bind (fun x66 => (sub p0.Tables s42 (p0.Tables.length : Int)).bind (fun x80 => (app 112 x66 x80).bind (fun x82 => some { p0 with Tables := x82 }))))))
theorem r17_with_ok {p0 : qCatalog} {p1 : qTable} {w_p0 : W_qCatalog} {w_p1 : W_qTable} (h_p0 : ok_qCatalog I p0 w_p0) (h_p1 : ok_qTable I p1 w_p1) (hS : St E w I Os) {r : qCatalog} (hr : r17_with p0 p1 = some r) :
    Calls P 55 #[(.agg (cs_qCatalog p0 w_p0).toArray), (.agg (cs_qTable p1 w_p1).toArray)] w (fun e w' => ∃ I' w_rw0, e = .returned (.agg (cs_qCatalog r w_rw0).toArray) ∧ I.Le I' ∧ St E w' I' Os ∧ ok_qCatalog I' r w_rw0) := by
 refine calls_W (fn := Tryz.f55) rfl rfl rfl ?_
 unfold r17_with at hr
 refine yd nL3 (yy hS (cs_qCatalog p0 w_p0) 29 rfl fun b1 w4 hS3 => yy hS3 (cs_qTable p1 w_p1) 89 rfl fun b5 w8 hS7 => yy hS7 (cs_qCatalog z_qCatalog zw_qCatalog) 29 rfl fun b9 w12 hS11 => y0 nL3 (yv ((cs_qCatalog p0 w_p0)) (hS11.rf m2) rfl (yy hS11 (cs_qCatalog z_qCatalog zw_qCatalog) 29 rfl fun b13 w16 hS15 => yx hS15 0 (cs_qCatalog p0 w_p0) fun w18 hS17 => y0 nL2 (yc 0 1 [1] rfl (yx hS17 1 (cs_qCatalog ({ p0 with Tables := ([] : List qTable) }) ({ w_p0 with Tables := ⟨none, 0⟩ })) fun w20 hS19 => y0 [0] (ya 0 1 rfl (yb (yf (W.block (bsk hr fun t21 hloop25 hr => W.wk (yau hloop25 (fun (s24 : Int) fr w => ∃ I22, fr = [(2, Pt b1 0), (3, Pt b5 0), (4, Pt b9 0), (5, Pt b13 0), (6, Iv s24)] ∧ I.Le I22 ∧ St E w I22 ((Bx b1 (cs_qCatalog p0 w_p0) 29) :: (Bx b5 (cs_qTable p1 w_p1) 89) :: (Bx b9 (cs_qCatalog z_qCatalog zw_qCatalog) 29) :: (Bx b13 (cs_qCatalog ({ p0 with Tables := ([] : List qTable) }) ({ w_p0 with Tables := ⟨none, 0⟩ })) 29) :: Os)) ⟨I, rfl, lr, hS19.front1.front2.front3⟩ ?_)))))))))))
 rintro s24 _ w29 ⟨I22, rfl, hl23, hS30⟩ x31 hr1 hext21
 refine yf (yf (have hS32 := hS30.drew; yat nL16 16 (KR.cons (hS32.rd m0) (KR.cons (hS32.rd m1) (KR.nil hS32.im))) ?_))
 generalize World.drew _ = w33 at *
 refine yc 0 2 [1] rfl (yg (rd_c m0 (hS32.rd m0)) rfl (ya 3 3 rfl (bsk hr1 fun j34 hr2 hr1 => WO.jw (l1 := [6, 7, 8, 9, 10, 11, 12, 13, 14, 15]) (J := (fun fr w => ∃ I36, fr = [(2, Pt b1 0), (3, Pt b5 0), (4, Pt b9 0), (5, Pt b13 0), (6, Iv s24), (24, .bool j34)] ∧ I22.Le I36 ∧ St E w I36 ((Bx b1 (cs_qCatalog p0 w_p0) 29) :: (Bx b5 (cs_qTable p1 w_p1) 89) :: (Bx b9 (cs_qCatalog z_qCatalog zw_qCatalog) 29) :: (Bx b13 (cs_qCatalog ({ p0 with Tables := ([] : List qTable) }) ({ w_p0 with Tables := ⟨none, 0⟩ })) 29) :: Os))) ?_ ?_)))
 refine WO.cb hr2 (fun hc hr2 => ?_) (fun hc hr2 => ?_)
 refine yl 14 hc (yc 6 1 [1] rfl (yg (rd_c m0 (hS32.rd m0)) rfl (ya 8 1 rfl ?_)))
 obtain ⟨x38, hr2, hb_x38, _, ⟨w_x38, rfl, h_x38⟩, hc_x38⟩ := sl_ix ((RSl.mono h_p0.Tables hl23)) hr2
 refine y3 89 6 hb_x38 rfl (yc 10 1 [0] rfl (yaf hc_x38 (rd_i hS32.im) rfl (yc 12 1 [0] rfl (yg (rd_c m1 (hS32.rd m1)) rfl (WO.vs 14 [(23, .bool (sLt x38.Name p1.Name)), (24, .bool (sLt x38.Name p1.Name))] ?_)))))
 obtain rfl := sj hr2
 exact yw ⟨I22, rfl, lr, hS32⟩
 refine yl 14 hc ?_
 iterate 9 refine yt ?_
 refine yh 15 24 (.bool false) ?_
 obtain rfl := sj hr2
 exact yw ⟨I22, rfl, lr, hS32⟩
 rintro _ w39 ⟨I36, rfl, hl37, hS40⟩
 refine yb (W.cb hr1 (fun hc hr1 => ?_) (fun hc hr1 => ?_))
 exact yi (En.next (W.block (yaa nL3 (ya 0 3 rfl (WO.nil (yk (yq ⟨(w64 (s24 + 1)), (sj hr1).symm, I36, rfl, le, hS40⟩)))))))
 refine yz (ym (yn ?_))
 obtain rfl := hext21 _ (sj hr1).symm
 refine yo (En.next (yf (have hS105 := hS40.drew; yat nL9 6 (KR.cons (hS105.rd m0) (KR.cons (hS105.rd m3) (KR.nil hS105.im))) ?_)))
 generalize World.drew _ = w106 at *
 refine yc 0 1 [1] rfl (yg (rd_c m1 (hS105.rd m3)) rfl (yc 2 1 [1] rfl (yg (rd_c m0 (hS105.rd m0)) rfl (ya 4 1 rfl ?_))))
 obtain ⟨x107, hx_x107, hr⟩ := bsm hr
 obtain ⟨h0_x107, h1_x107, h2_x107, he_x107⟩ := sub_some hx_x107
 have hl_x107 : (s24 : Int) ≤ (w_p0.Tables.c : Int) := Int.le_trans h2_x107 (Int.ofNat_le.2 ((RSl.mono h_p0.Tables (hl23.trans hl37))).le)
 refine WO.slice (e := 89) (sz := 6) rfl (by kernel_rfl) (by kernel_rfl) (by kernel_rfl) rfl (0 : Int) (s24 : Int) h0_x107 (.inl ⟨rfl, rfl⟩) (.inr ⟨_, _, rfl, rfl⟩) h1_x107 hl_x107 ?_
 obtain ⟨a_x107, c_x107, h_x107, ev_x107⟩ := sub_ok ((RSl.mono h_p0.Tables (hl23.trans hl37))) h0_x107 h1_x107 h2_x107 he_x107
 refine y7 32 rfl ev_x107 ?_
 refine WO.tail rfl ?_
 have hS109 := hS105.no
 obtain ⟨x110, hx_x110, hr⟩ := bsm hr
 obtain ⟨h0_x110, he_x110⟩ := app_some hx_x110
 refine WO.append (e' := 89) (b := 112) (zs := (cs_qTable z_qTable zw_qTable).toArray) hS109 (OwnSl.nil (T := 89) (rel := R_qTable) (I := I36)) rfl (by kernel_rfl) rfl (by kernel_rfl) (by kernel_rfl) (by kernel_rfl) rfl rfl rfl rfl h_x107 hS109.im h0_x110 he_x110 (fun _ _ _ => trivial) ?_
 intro a111 c112 w113 C114 hS115 ho116
 refine yc 7 1 [1] rfl (yx hS115.front4 1 (cs_qCatalog ({ p0 with Tables := x110 }) ({ w_p0 with Tables := ⟨a111, c112⟩ })) fun w119 hS118 => y0 nL7 (yc 0 1 [1] rfl (yg (hS118.rf m0) rfl (yv ((cs_qTable p1 w_p1)) (hS118.rf m3) rfl (y4 (rel := R_qTable) (xs := ([p1] : List qTable)) hS118 rfl (by kernel_rfl) rfl 89 6 [(cs_qTable p1 w_p1)] (by kernel_rfl) rfl ((Elr.cons ⟨w_p1, rfl, (h_p1.mono le)⟩ Elr.nil)) (fun _ _ _ => trivial) ?_)))))
 intro a123 C121 w125 hS124 ho122
 have hS127 := hS124.front2
 obtain ⟨x128, hx_x128, hr⟩ := bsm hr
 obtain ⟨h0_x128, he_x128⟩ := app_some hx_x128
 refine yaj 89 112 (cs_qTable z_qTable zw_qTable) hS127 ho116 ho122.sl (hS127.rd m1) h0_x128 he_x128 rfl fun a129 c130 w131 C132 hS133 ho134 => yc 5 1 [1] rfl (yx hS133.front1.drop.front1 1 (cs_qCatalog ({ p0 with Tables := x128 }) ({ w_p0 with Tables := ⟨a129, c130⟩ })) fun w139 hS138 => yb (yf (have hS140 := hS138.drew; yat nL9 6 (KR.cons (hS140.rd m0) (KR.cons (hS140.rd m2) (KR.nil hS140.im))) ?_)))
 generalize World.drew _ = w141 at *
 refine yc 0 1 [1] rfl (yg (rd_c m0 (hS140.rd m0)) rfl (yc 2 1 [1] rfl (yg (rd_c m1 (hS140.rd m2)) rfl (ya 4 1 rfl ?_))))
 obtain ⟨x142, hx_x142, hr⟩ := bsm hr
 obtain ⟨h0_x142, h1_x142, h2_x142, he_x142⟩ := sub_some hx_x142
 have hl_x142 : ((p0.Tables.length : Int) : Int) ≤ (w_p0.Tables.c : Int) := Int.le_trans h2_x142 (Int.ofNat_le.2 ((RSl.mono h_p0.Tables (hl23.trans hl37))).le)
 refine WO.slice (e := 89) (sz := 6) rfl (by kernel_rfl) (by kernel_rfl) (by kernel_rfl) rfl (s24 : Int) ((p0.Tables.length : Int) : Int) h0_x142 (.inr ⟨_, _, rfl, rfl⟩) (.inl ⟨rfl, rfl⟩) h1_x142 hl_x142 ?_
 obtain ⟨a_x142, c_x142, h_x142, ev_x142⟩ := sub_ok ((RSl.mono h_p0.Tables (hl23.trans hl37))) h0_x142 h1_x142 h2_x142 he_x142
 refine y7 46 rfl ev_x142 ?_
 refine WO.tail rfl ?_
 have hS143 := hS140.front1
 obtain ⟨x144, hx_x144, hr⟩ := bsm hr
 obtain ⟨h0_x144, he_x144⟩ := app_some hx_x144
 refine yaj 89 112 (cs_qTable z_qTable zw_qTable) hS143 ho134 h_x142 hS143.im h0_x144 he_x144 rfl fun a145 c146 w147 C148 hS149 ho150 => yc 7 1 [1] rfl (yx hS149.front1 1 (cs_qCatalog ({ p0 with Tables := x144 }) ({ w_p0 with Tables := ⟨a145, c146⟩ })) fun w153 hS152 => y0 nL2 (yv ((cs_qCatalog ({ p0 with Tables := x144 }) ({ w_p0 with Tables := ⟨a145, c146⟩ }))) (hS152.rf m0) rfl ?_))
 obtain ⟨I155, hl156, hS158, hp157⟩ := y6 ho150 hS152.front1
 refine yx hS158.front3 0 (cs_qCatalog ({ p0 with Tables := x144 }) ({ w_p0 with Tables := ⟨a145, c146⟩ })) fun w161 hS160 => yb (W.ret ?_)
 have hk166 : ok_qCatalog I155 ({ p0 with Tables := x144 }) ({ w_p0 with Tables := ⟨a145, c146⟩ }) := ⟨hp157, (RSl.mono h_p0.Roles ((hl23.trans hl37).trans hl156)), (RSl.mono h_p0.Grants ((hl23.trans hl37).trans hl156))⟩
 obtain rfl := sj hr
 exact En.c1 _ (hS160.rd m0) ⟨I155, ({ w_p0 with Tables := ⟨a145, c146⟩ }), rfl, le, hS160.drop.drop.drop.drop, hk166⟩
end Go.Proofs.YtdmapcjbbbifbaaGreat
