/- What functions of the program come to, each by a plain one. Conditions: none. -/
import Derived.Test.YtpgmbifboopfmaaF2
import Derived.Test.YtpgmbifboopfmaaProg
set_option maxRecDepth 100000
namespace Go.Proofs.Ytpgmbifboopfmaa
open Go.Gv
set_option maxHeartbeats 1000000
variable {E w : World} {I : Mem} {Os : List Mem}
def chain_New (c : qC) : Option chain_Chain := some ⟨[(c.Version, ⟨c, 0⟩)], c.Version, [], []⟩
theorem chain_New_ok {p0 : qC} {w_p0 : W_qC} (h_p0 : ok_qC I p0 w_p0) (hS : St E w I Os) {r : chain_Chain} (D : chain_New p0 = some r) :
    Calls P 21 #[(vC p0 w_p0)] w (fun e w' => ∃ (I' : Mem) (rb0 : Nat) (w_ro0 : W_chain_Chain), e = .returned (Pt rb0 0) ∧ I.Le I' ∧ St E w' I' (Bx rb0 (cs_chain_Chain r w_ro0) 27 :: w_ro0.live.C :: w_ro0.pins.C :: w_ro0.news.C :: Os) ∧ ok_chain_Chain I' r w_ro0) := by
  refine calls_W (args := [(vC p0 w_p0)]) (fn := Try.f21) rfl rfl rfl ?_
  unfold chain_New at D
  obtain rfl := Option.some.inj D
  refine y8 nL2 (WO.n1 hS (cs_qC p0 w_p0) 36 z fun b1 w1 S1 => WO.v1 1 2 (.pointer none) (yy (y8 nL15 ?_)))
  refine yu S1 z kr z (.map #[] 0) (fun b => .map (some b)) kr tv ?_
  intro bm w2 S2
  refine y7 1 1 [0] z (yaa (S2.rf m1) z (WO.m1 (cs_qC p0 w_p0) (S2.rf m1) z (WO.v1 4 7 (.agg (cs_chain_kept ⟨p0, 0⟩ ⟨w_p0⟩).toArray) (WO.n1 S2 (cs_chain_kept ⟨p0, 0⟩ ⟨w_p0⟩) 51 z fun kb w3 S3 => ?_))))
  refine WO.updP ieqP (PMap.nil1 (rel := R_chain_kept) (T := 51)) S3 (x := ⟨p0, 0⟩) ⟨⟨w_p0⟩, rfl, ⟨h_p0⟩⟩ (t := 23) (kt := 3) (et := 52) kr (keyLaw_int (kt := 3) kr) z kr (.inr z) z p0.Version z z ?_
  intro w4 C4 S4 hP4
  refine yv 7 1 z (y7 8 1 [0] z (yaa (S4.rf m1) z ?_))
  refine yu S4 z kr z (.map #[] 0) (fun b => .map (some b)) kr tv ?_
  intro b5 w5 S5
  refine yu S5 z kr z (.map #[] 0) (fun b => .map (some b)) kr tv ?_
  intro b6 w6 S6
  refine WO.v1 12 14 (.agg #[.map (some bm), Iv p0.Version, .map (some b5), .map (some b6)]) (WO.n1 S6 [.map (some bm), Iv p0.Version, .map (some b5), .map (some b6)] 27 z fun b7 w7 S7 => yv 14 1 z (yy (ym (yap ⟨I, b7, ⟨⟨bm, C4⟩, ⟨b5, _⟩, ⟨b6, _⟩⟩, rfl, Mem.Le.refl _, S7.front4.drop.front1.front2.front3.front3, ⟨hP4, OwnMap.nil, SMap.nil1⟩⟩))))
noncomputable def law22_works  : Option Bool := (chain_New ({ z_qC with Version := 3 })).bind (fun (r7 : chain_Chain) => (chain_Chain_Pin r7 1).bind (fun ((r17, r18, r19) : Int × Int × chain_Chain) => (chain_Chain_Publish r19 ({ z_qC with Version := 4, Tables := ([{ z_qT with Name := (⟨#[116]⟩ : By8) }] : List qT) })).bind (fun ((r42, r43) : Int × chain_Chain) => (chain_Chain_Publish r43 ({ z_qC with Version := 5 })).bind (fun ((r54, r55) : Int × chain_Chain) => (chain_Chain_Live r55).bind (fun (r65 : List Int) => (chain_Chain_Hear r55 2).bind (fun ((r75, r76) : (List By8) × chain_Chain) => ((bif (((((r17 == 3) && (r18 == 0)) && (r42 == 0)) && (r54 == 0)) && ((r65.length : Int) == 2)) then (idx r65 0).bind (fun (x89 : Int) => some (x89 == 3)) else some false)).bind (fun (j85 : Bool) => ((bif j85 then (idx r65 1).bind (fun (x104 : Int) => some (x104 == 5)) else some false)).bind (fun (j100 : Bool) => ((bif (j100 && ((r75.length : Int) == 1)) then (idx r75 0).bind (fun (x113 : By8) => some (sEq x113 (⟨#[116]⟩ : By8))) else some false)).bind (fun (j109 : Bool) => some j109)))))))))
theorem law22_works_ok (hS : St E w I Os) {r : Bool} (D : law22_works = some r) :
    Calls P 12 #[] w (fun e w' => ∃ (I' : Mem), e = .returned (.bool r) ∧ I.Le I' ∧ St E w' I' Os) := by
  refine calls_W (args := []) (fn := Try.f12) rfl rfl rfl ?_
  unfold law22_works at D
  refine W.seq ?_
  refine W.region (l := [0]) kr ?_
  refine ya [(0, 0, (.bool false))] kr (fun _ => by kernel_rfl) ?_
  refine yc ?_
  refine yb ?_
  refine W.seq ?_
  refine W.region (l := [0, 1, 2]) kr ?_
  refine ya [(0, 8, (.agg (cs_qC ({ z_qC with Version := 3 }) zw_qC).toArray))] kr (fun _ => by kernel_rfl) ?_
  have hk1 : ok_qC I ({ z_qC with Version := 3 }) zw_qC := ⟨SlAt.nil, SlAt.nil, SlAt.nil⟩
  obtain ⟨r7, Xr2, D⟩ := bind_some D
  refine yj z kr z (f := 21) (args := #[(.agg (cs_qC ({ z_qC with Version := 3 }) zw_qC).toArray)]) kr (chain_New_ok hk1 hS Xr2) ?_
  rintro _ w3 ⟨I4, b_r7, w_r7, rfl, L5, S6, h_r7⟩
  refine ⟨_, rfl, trivial, ?_⟩
  refine ya [(2, 1, (.pointer (some ⟨b_r7, 0, none⟩)))] kr (fun _ => by kernel_rfl) ?_
  refine yc ?_
  refine yb ?_
  refine W.seq ?_
  refine W.region (l := [0, 1, 2, 3, 4, 5, 6]) kr ?_
  refine ya [(0, 11, (.pointer (some ⟨b_r7, 0, none⟩)))] kr (fun _ => by kernel_rfl) ?_
  have S8 := S6.front3
  have S9 := S8.front3
  have S10 := S9.front3
  have S11 := S10.front3
  obtain ⟨⟨r17, r18, r19⟩, Xr12, D⟩ := bind_some D
  refine yj z kr z (f := 4) (args := #[(.pointer (some ⟨b_r7, 0, none⟩)), (.int .i64 1)]) kr (chain_Chain_Pin_ok h_r7 S11 Xr12) ?_
  rintro _ w13 ⟨I14, w_r19, rfl, L15, S16, h_r19⟩
  refine ⟨_, rfl, trivial, ?_⟩
  refine ya [(2, 10, (.tuple #[(.int .i64 r17), (.int .i64 r18)])), (3, 13, (.int .i64 r17)), (4, 14, (.int .i64 r18)), (5, 2, (.int .i64 r17)), (6, 3, (.int .i64 r18))] kr (fun _ => by kernel_rfl) ?_
  refine yc ?_
  refine yb ?_
  refine W.seq ?_
  refine W.region (l := [0, 1, 2, 3, 4, 5]) kr ?_
  refine ya [(0, 15, (.pointer (some ⟨b_r7, 0, none⟩))), (1, 16, (.agg (cs_qT ({ z_qT with Name := (⟨#[116]⟩ : By8) }) zw_qT).toArray))] kr (fun _ => by kernel_rfl) ?_
  have hk27 : ok_qT I14 ({ z_qT with Name := (⟨#[116]⟩ : By8) }) zw_qT := ⟨SlAt.nil, SlAt.nil, SlAt.nil⟩
  refine yac (rel := R_qT) (xs := ([{ z_qT with Name := (⟨#[116]⟩ : By8) }] : List qT)) S16 z kr z 64 6 [(cs_qT ({ z_qT with Name := (⟨#[116]⟩ : By8) }) zw_qT)] kr z ((Elr.cons ⟨zw_qT, rfl, hk27⟩ Elr.nil)) tv ?_
  intro a23 C21 w25 S24 ho22
  obtain ⟨I28, L29, S31, hp30⟩ := yab ho22 S24
  refine ya [(3, 18, (.agg #[(.int .i64 4), (.slice a23 1 1), (.slice none 0 0), (.slice none 0 0)]))] kr (fun _ => by kernel_rfl) ?_
  have S32 := S31.front3
  have S33 := S32.front3
  have S34 := S33.front3
  have S35 := S34.front3
  have hk36 : ok_qC I28 ({ z_qC with Version := 4, Tables := ([{ z_qT with Name := (⟨#[116]⟩ : By8) }] : List qT) }) ({ zw_qC with Tables := ⟨a23, 1⟩ }) := ⟨hp30, SlAt.nil, SlAt.nil⟩
  obtain ⟨⟨r42, r43⟩, Xr37, D⟩ := bind_some D
  refine yj z kr z (f := 7) (args := #[(.pointer (some ⟨b_r7, 0, none⟩)), (.agg #[(.int .i64 4), (.slice a23 1 1), (.slice none 0 0), (.slice none 0 0)])]) kr (chain_Chain_Publish_ok (h_r19.mono L29) hk36 S35 Xr37) ?_
  rintro _ w38 ⟨I39, w_r43, rfl, L40, S41, h_r43⟩
  refine ⟨_, rfl, trivial, ?_⟩
  refine ya [(5, 4, (.int .i64 r42))] kr (fun _ => by kernel_rfl) ?_
  refine yc ?_
  refine yb ?_
  refine W.seq ?_
  refine W.region (l := [0, 1, 2, 3]) kr ?_
  refine ya [(0, 20, (.pointer (some ⟨b_r7, 0, none⟩))), (1, 21, (.agg (cs_qC ({ z_qC with Version := 5 }) zw_qC).toArray))] kr (fun _ => by kernel_rfl) ?_
  have S44 := S41.front3
  have S45 := S44.front3
  have S46 := S45.front3
  have S47 := S46.front3
  have hk48 : ok_qC I39 ({ z_qC with Version := 5 }) zw_qC := ⟨SlAt.nil, SlAt.nil, SlAt.nil⟩
  obtain ⟨⟨r54, r55⟩, Xr49, D⟩ := bind_some D
  refine yj z kr z (f := 7) (args := #[(.pointer (some ⟨b_r7, 0, none⟩)), (.agg (cs_qC ({ z_qC with Version := 5 }) zw_qC).toArray)]) kr (chain_Chain_Publish_ok h_r43 hk48 S47 Xr49) ?_
  rintro _ w50 ⟨I51, w_r55, rfl, L52, S53, h_r55⟩
  refine ⟨_, rfl, trivial, ?_⟩
  refine ya [(3, 5, (.int .i64 r54))] kr (fun _ => by kernel_rfl) ?_
  refine yc ?_
  refine yb ?_
  refine W.seq ?_
  refine W.region (l := [0, 1, 2]) kr ?_
  refine ya [(0, 23, (.pointer (some ⟨b_r7, 0, none⟩)))] kr (fun _ => by kernel_rfl) ?_
  have S56 := S53.front3
  have S57 := S56.front3
  have S58 := S57.front3
  have S59 := S58.front3
  obtain ⟨r65, Xr60, D⟩ := bind_some D
  refine yj z kr z (f := 8) (args := #[(.pointer (some ⟨b_r7, 0, none⟩))]) kr (chain_Chain_Live_ok h_r55 S59 Xr60) ?_
  rintro _ w61 ⟨I62, a_r65, c_r65, rfl, L63, S64, h_r65⟩
  refine ⟨_, rfl, trivial, ?_⟩
  refine ya [(2, 6, (.slice a_r65 r65.length c_r65))] kr (fun _ => by kernel_rfl) ?_
  refine yc ?_
  refine yb ?_
  refine W.seq ?_
  refine W.region (l := [0, 1, 2]) kr ?_
  refine ya [(0, 25, (.pointer (some ⟨b_r7, 0, none⟩)))] kr (fun _ => by kernel_rfl) ?_
  have S66 := S64.front3
  have S67 := S66.front3
  have S68 := S67.front3
  have S69 := S68.front3
  obtain ⟨⟨r75, r76⟩, Xr70, D⟩ := bind_some D
  refine yj z kr z (f := 9) (args := #[(.pointer (some ⟨b_r7, 0, none⟩)), (.int .i64 2)]) kr (chain_Chain_Hear_ok (h_r55.mono L63) S69 Xr70) ?_
  rintro _ w71 ⟨I72, a_r75, c_r75, w_r76, rfl, L73, S74, h_r75, h_r76⟩
  refine ⟨_, rfl, trivial, ?_⟩
  refine ya [(2, 7, (.slice a_r75 r75.length c_r75))] kr (fun _ => by kernel_rfl) ?_
  refine yc ?_
  refine yb ?_
  refine W.seq ?_
  refine W.region (l := [0, 1, 2, 3, 4, 5, 6, 7, 8, 9, 10, 11, 12, 13, 14, 15, 16, 17, 18, 19, 20, 21, 22, 23, 24, 25, 26, 27, 28, 29, 30, 31, 32, 33, 34, 35, 36, 37, 38, 39, 40, 41, 42]) kr ?_
  refine ya [(0, 27, (.int .i64 r17)), (1, 28, (.bool (r17 == 3))), (2, 29, (.bool (r17 == 3)))] kr (fun _ => by kernel_rfl) ?_
  refine WO.join (l1 := [3, 4, 5]) (l2 := [6, 7, 8, 9, 10, 11, 12, 13, 14, 15, 16, 17, 18, 19, 20, 21, 22, 23, 24, 25, 26, 27, 28, 29, 30, 31, 32, 33, 34, 35, 36, 37, 38, 39, 40, 41, 42]) (J := fun frx wx => frx = [(32, (.bool ((r17 == 3) && (r18 == 0)))), (4, (.int .i64 r42)), (5, (.int .i64 r54)), (6, (.slice a_r65 r65.length c_r65)), (7, (.slice a_r75 r75.length c_r75))] ∧ w71 = wx) ?restm77 ?waysm77
  case waysm77 =>
    refine yt (r17 == 3) (fun G => ?_) (fun G => ?_)
    · skip
      refine ye 29 z (show Value.bool (r17 == 3) = Value.bool true by rw [G]) ?_
      refine ya [(3, 30, (.int .i64 r18)), (4, 31, (.bool (r18 == 0))), (5, 32, (.bool (r18 == 0)))] kr (fun _ => by kernel_rfl) ?_
      refine WO.weaken (fr' := [(32, (.bool ((r17 == 3) && (r18 == 0)))), (4, (.int .i64 r42)), (5, (.int .i64 r54)), (6, (.slice a_r65 r65.length c_r65)), (7, (.slice a_r75 r75.length c_r75))]) (yi ⟨rfl, rfl⟩) (Sub.cons (by rw [G]; rfl) (Sub.cons z (Sub.cons z (Sub.cons z (Sub.cons z Sub.nil)))))
    · skip
      refine ye 29 z (show Value.bool (r17 == 3) = Value.bool false by rw [G]) ?_
      refine yd z kr z ?_
      refine yd z kr z ?_
      refine ya [(5, 32, (.bool false))] kr (fun _ => by kernel_rfl) ?_
      refine WO.weaken (fr' := [(32, (.bool ((r17 == 3) && (r18 == 0)))), (4, (.int .i64 r42)), (5, (.int .i64 r54)), (6, (.slice a_r65 r65.length c_r65)), (7, (.slice a_r75 r75.length c_r75))]) (yi ⟨rfl, rfl⟩) (Sub.cons (by rw [G]; rfl) (Sub.cons z (Sub.cons z (Sub.cons z (Sub.cons z Sub.nil)))))
  case restm77 =>
    rintro _ _ ⟨rfl, rfl⟩
    refine ya [(6, 33, (.bool ((r17 == 3) && (r18 == 0))))] kr (fun _ => by kernel_rfl) ?_
    refine WO.join (l1 := [7, 8, 9]) (l2 := [10, 11, 12, 13, 14, 15, 16, 17, 18, 19, 20, 21, 22, 23, 24, 25, 26, 27, 28, 29, 30, 31, 32, 33, 34, 35, 36, 37, 38, 39, 40, 41, 42]) (J := fun frx wx => frx = [(36, (.bool (((r17 == 3) && (r18 == 0)) && (r42 == 0)))), (5, (.int .i64 r54)), (6, (.slice a_r65 r65.length c_r65)), (7, (.slice a_r75 r75.length c_r75))] ∧ w71 = wx) ?restm79 ?waysm79
    case waysm79 =>
      refine yt ((r17 == 3) && (r18 == 0)) (fun G => ?_) (fun G => ?_)
      · skip
        refine ye 33 z (show Value.bool ((r17 == 3) && (r18 == 0)) = Value.bool true by rw [G]) ?_
        refine ya [(7, 34, (.int .i64 r42)), (8, 35, (.bool (r42 == 0))), (9, 36, (.bool (r42 == 0)))] kr (fun _ => by kernel_rfl) ?_
        refine WO.weaken (fr' := [(36, (.bool (((r17 == 3) && (r18 == 0)) && (r42 == 0)))), (5, (.int .i64 r54)), (6, (.slice a_r65 r65.length c_r65)), (7, (.slice a_r75 r75.length c_r75))]) (yi ⟨rfl, rfl⟩) (Sub.cons (by rw [G]; rfl) (Sub.cons z (Sub.cons z (Sub.cons z Sub.nil))))
      · skip
        refine ye 33 z (show Value.bool ((r17 == 3) && (r18 == 0)) = Value.bool false by rw [G]) ?_
        refine yd z kr z ?_
        refine yd z kr z ?_
        refine ya [(9, 36, (.bool false))] kr (fun _ => by kernel_rfl) ?_
        refine WO.weaken (fr' := [(36, (.bool (((r17 == 3) && (r18 == 0)) && (r42 == 0)))), (5, (.int .i64 r54)), (6, (.slice a_r65 r65.length c_r65)), (7, (.slice a_r75 r75.length c_r75))]) (yi ⟨rfl, rfl⟩) (Sub.cons (by rw [G]; rfl) (Sub.cons z (Sub.cons z (Sub.cons z Sub.nil))))
    case restm79 =>
      rintro _ _ ⟨rfl, rfl⟩
      refine ya [(10, 37, (.bool (((r17 == 3) && (r18 == 0)) && (r42 == 0))))] kr (fun _ => by kernel_rfl) ?_
      refine WO.join (l1 := [11, 12, 13]) (l2 := [14, 15, 16, 17, 18, 19, 20, 21, 22, 23, 24, 25, 26, 27, 28, 29, 30, 31, 32, 33, 34, 35, 36, 37, 38, 39, 40, 41, 42]) (J := fun frx wx => frx = [(40, (.bool ((((r17 == 3) && (r18 == 0)) && (r42 == 0)) && (r54 == 0)))), (6, (.slice a_r65 r65.length c_r65)), (7, (.slice a_r75 r75.length c_r75))] ∧ w71 = wx) ?restm81 ?waysm81
      case waysm81 =>
        refine yt (((r17 == 3) && (r18 == 0)) && (r42 == 0)) (fun G => ?_) (fun G => ?_)
        · skip
          refine ye 37 z (show Value.bool (((r17 == 3) && (r18 == 0)) && (r42 == 0)) = Value.bool true by rw [G]) ?_
          refine ya [(11, 38, (.int .i64 r54)), (12, 39, (.bool (r54 == 0))), (13, 40, (.bool (r54 == 0)))] kr (fun _ => by kernel_rfl) ?_
          refine WO.weaken (fr' := [(40, (.bool ((((r17 == 3) && (r18 == 0)) && (r42 == 0)) && (r54 == 0)))), (6, (.slice a_r65 r65.length c_r65)), (7, (.slice a_r75 r75.length c_r75))]) (yi ⟨rfl, rfl⟩) (Sub.cons (by rw [G]; rfl) (Sub.cons z (Sub.cons z Sub.nil)))
        · skip
          refine ye 37 z (show Value.bool (((r17 == 3) && (r18 == 0)) && (r42 == 0)) = Value.bool false by rw [G]) ?_
          refine yd z kr z ?_
          refine yd z kr z ?_
          refine ya [(13, 40, (.bool false))] kr (fun _ => by kernel_rfl) ?_
          refine WO.weaken (fr' := [(40, (.bool ((((r17 == 3) && (r18 == 0)) && (r42 == 0)) && (r54 == 0)))), (6, (.slice a_r65 r65.length c_r65)), (7, (.slice a_r75 r75.length c_r75))]) (yi ⟨rfl, rfl⟩) (Sub.cons (by rw [G]; rfl) (Sub.cons z (Sub.cons z Sub.nil)))
      case restm81 =>
        rintro _ _ ⟨rfl, rfl⟩
        refine ya [(14, 41, (.bool ((((r17 == 3) && (r18 == 0)) && (r42 == 0)) && (r54 == 0))))] kr (fun _ => by kernel_rfl) ?_
        refine WO.join (l1 := [15, 16, 17, 18]) (l2 := [19, 20, 21, 22, 23, 24, 25, 26, 27, 28, 29, 30, 31, 32, 33, 34, 35, 36, 37, 38, 39, 40, 41, 42]) (J := fun frx wx => frx = [(45, (.bool (((((r17 == 3) && (r18 == 0)) && (r42 == 0)) && (r54 == 0)) && ((r65.length : Int) == 2)))), (6, (.slice a_r65 r65.length c_r65)), (7, (.slice a_r75 r75.length c_r75))] ∧ w71 = wx) ?restm83 ?waysm83
        case waysm83 =>
          refine yt ((((r17 == 3) && (r18 == 0)) && (r42 == 0)) && (r54 == 0)) (fun G => ?_) (fun G => ?_)
          · skip
            refine ye 41 z (show Value.bool ((((r17 == 3) && (r18 == 0)) && (r42 == 0)) && (r54 == 0)) = Value.bool true by rw [G]) ?_
            refine ya [(15, 42, (.slice a_r65 r65.length c_r65)), (16, 43, (.int .i64 (r65.length : Int))), (17, 44, (.bool ((r65.length : Int) == 2))), (18, 45, (.bool ((r65.length : Int) == 2)))] kr (fun _ => by kernel_rfl) ?_
            refine WO.weaken (fr' := [(45, (.bool (((((r17 == 3) && (r18 == 0)) && (r42 == 0)) && (r54 == 0)) && ((r65.length : Int) == 2)))), (6, (.slice a_r65 r65.length c_r65)), (7, (.slice a_r75 r75.length c_r75))]) (yi ⟨rfl, rfl⟩) (Sub.cons (by rw [G]; rfl) (Sub.cons z (Sub.cons z Sub.nil)))
          · skip
            refine ye 41 z (show Value.bool ((((r17 == 3) && (r18 == 0)) && (r42 == 0)) && (r54 == 0)) = Value.bool false by rw [G]) ?_
            refine yd z kr z ?_
            refine yd z kr z ?_
            refine yd z kr z ?_
            refine ya [(18, 45, (.bool false))] kr (fun _ => by kernel_rfl) ?_
            refine WO.weaken (fr' := [(45, (.bool (((((r17 == 3) && (r18 == 0)) && (r42 == 0)) && (r54 == 0)) && ((r65.length : Int) == 2)))), (6, (.slice a_r65 r65.length c_r65)), (7, (.slice a_r75 r75.length c_r75))]) (yi ⟨rfl, rfl⟩) (Sub.cons (by rw [G]; rfl) (Sub.cons z (Sub.cons z Sub.nil)))
        case restm83 =>
          rintro _ _ ⟨rfl, rfl⟩
          refine ya [(19, 46, (.bool (((((r17 == 3) && (r18 == 0)) && (r42 == 0)) && (r54 == 0)) && ((r65.length : Int) == 2))))] kr (fun _ => by kernel_rfl) ?_
          obtain ⟨j85, R1, D⟩ := bind_some D
          refine WO.join (l1 := [20, 21, 22, 23, 24]) (l2 := [25, 26, 27, 28, 29, 30, 31, 32, 33, 34, 35, 36, 37, 38, 39, 40, 41, 42]) (J := (fun fr w => ∃ (I87 : Mem), fr = [(6, (.slice a_r65 r65.length c_r65)), (7, (.slice a_r75 r75.length c_r75)), (51, (.bool j85))] ∧ I72.Le I87 ∧ St E w I87 Os)) ?restj85 ?waysj85
          case waysj85 =>
            refine yt (((((r17 == 3) && (r18 == 0)) && (r42 == 0)) && (r54 == 0)) && ((r65.length : Int) == 2)) (fun G => ?_) (fun G => ?_)
            · replace R1 := cond_t G R1
              refine ye 46 z (show Value.bool (((((r17 == 3) && (r18 == 0)) && (r42 == 0)) && (r54 == 0)) && ((r65.length : Int) == 2)) = Value.bool true by rw [G]) ?_
              refine ya [(20, 47, (.slice a_r65 r65.length c_r65))] kr (fun _ => by kernel_rfl) ?_
              obtain ⟨x89, Xx89, R1⟩ := bind_some R1
              obtain ⟨h0_x89, h1_x89, Xx89⟩ := idx_some Xx89
              obtain ⟨ha_x89, cs_x89, hn_x89, hr_x89, Zx89⟩ := ((RSl.mono h_r65 L73)).el _ _ Xx89
              obtain rfl := hr_x89
              refine yh (e := 3) (sz := 1) z kr kr kr z ha_x89 z h0_x89 h1_x89 ?_
              refine yf z kr kr z (v := (.int .i64 x89)) (fun w' hw' => Zx89.cell0 kr ((rd_f S74.im) w' hw')) ?_
              refine ya [(23, 50, (.bool (x89 == 3))), (24, 51, (.bool (x89 == 3)))] kr (fun _ => by kernel_rfl) ?_
              have S90 := S74.drop
              have S91 := S90.drop
              have S92 := S91.drop
              have S93 := S92.drop
              have he := Option.some.inj R1
              subst j85
              refine WO.weaken (fr' := [(6, (.slice a_r65 r65.length c_r65)), (7, (.slice a_r75 r75.length c_r75)), (51, (.bool (x89 == 3)))]) (yi ⟨I72, rfl, Mem.Le.refl _, S93⟩) (Sub.cons z (Sub.cons z (Sub.cons z Sub.nil)))
            · replace R1 := cond_f G R1
              refine ye 46 z (show Value.bool (((((r17 == 3) && (r18 == 0)) && (r42 == 0)) && (r54 == 0)) && ((r65.length : Int) == 2)) = Value.bool false by rw [G]) ?_
              refine yd z kr z ?_
              refine yd z kr z ?_
              refine yd z kr z ?_
              refine yd z kr z ?_
              refine ya [(24, 51, (.bool false))] kr (fun _ => by kernel_rfl) ?_
              have S94 := S74.drop
              have S95 := S94.drop
              have S96 := S95.drop
              have S97 := S96.drop
              have he := Option.some.inj R1
              subst j85
              refine WO.weaken (fr' := [(6, (.slice a_r65 r65.length c_r65)), (7, (.slice a_r75 r75.length c_r75)), (51, (.bool false))]) (yi ⟨I72, rfl, Mem.Le.refl _, S97⟩) (Sub.cons z (Sub.cons z (Sub.cons z Sub.nil)))
          case restj85 =>
            rintro _ w98 ⟨I87, rfl, L88, S99⟩
            refine ya [(25, 52, (.bool j85))] kr (fun _ => by kernel_rfl) ?_
            obtain ⟨j100, R1, D⟩ := bind_some D
            refine WO.join (l1 := [26, 27, 28, 29, 30]) (l2 := [31, 32, 33, 34, 35, 36, 37, 38, 39, 40, 41, 42]) (J := (fun fr w => ∃ (I102 : Mem), fr = [(7, (.slice a_r75 r75.length c_r75)), (57, (.bool j100))] ∧ I87.Le I102 ∧ St E w I102 Os)) ?restj100 ?waysj100
            case waysj100 =>
              refine yt j85 (fun G => ?_) (fun G => ?_)
              · replace R1 := cond_t G R1
                refine ye 52 z (show Value.bool j85 = Value.bool true by rw [G]) ?_
                refine ya [(26, 53, (.slice a_r65 r65.length c_r65))] kr (fun _ => by kernel_rfl) ?_
                obtain ⟨x104, Xx104, R1⟩ := bind_some R1
                obtain ⟨h0_x104, h1_x104, Xx104⟩ := idx_some Xx104
                obtain ⟨ha_x104, cs_x104, hn_x104, hr_x104, Zx104⟩ := ((RSl.mono h_r65 (L73.trans L88))).el _ _ Xx104
                obtain rfl := hr_x104
                refine yh (e := 3) (sz := 1) z kr kr kr z ha_x104 z h0_x104 h1_x104 ?_
                refine yf z kr kr z (v := (.int .i64 x104)) (fun w' hw' => Zx104.cell0 kr ((rd_f S99.im) w' hw')) ?_
                refine ya [(29, 56, (.bool (x104 == 5))), (30, 57, (.bool (x104 == 5)))] kr (fun _ => by kernel_rfl) ?_
                have he := Option.some.inj R1
                subst j100
                refine WO.weaken (fr' := [(7, (.slice a_r75 r75.length c_r75)), (57, (.bool (x104 == 5)))]) (yi ⟨I87, rfl, Mem.Le.refl _, S99⟩) (Sub.cons z (Sub.cons z Sub.nil))
              · replace R1 := cond_f G R1
                refine ye 52 z (show Value.bool j85 = Value.bool false by rw [G]) ?_
                refine yd z kr z ?_
                refine yd z kr z ?_
                refine yd z kr z ?_
                refine yd z kr z ?_
                refine ya [(30, 57, (.bool false))] kr (fun _ => by kernel_rfl) ?_
                have he := Option.some.inj R1
                subst j100
                refine WO.weaken (fr' := [(7, (.slice a_r75 r75.length c_r75)), (57, (.bool false))]) (yi ⟨I87, rfl, Mem.Le.refl _, S99⟩) (Sub.cons z (Sub.cons z Sub.nil))
            case restj100 =>
              rintro _ w105 ⟨I102, rfl, L103, S106⟩
              refine ya [(31, 58, (.bool j100))] kr (fun _ => by kernel_rfl) ?_
              refine WO.join (l1 := [32, 33, 34, 35]) (l2 := [36, 37, 38, 39, 40, 41, 42]) (J := fun frx wx => frx = [(62, (.bool (j100 && ((r75.length : Int) == 1)))), (7, (.slice a_r75 r75.length c_r75))] ∧ w105 = wx) ?restm107 ?waysm107
              case waysm107 =>
                refine yt j100 (fun G => ?_) (fun G => ?_)
                · skip
                  refine ye 58 z (show Value.bool j100 = Value.bool true by rw [G]) ?_
                  refine ya [(32, 59, (.slice a_r75 r75.length c_r75)), (33, 60, (.int .i64 (r75.length : Int))), (34, 61, (.bool ((r75.length : Int) == 1))), (35, 62, (.bool ((r75.length : Int) == 1)))] kr (fun _ => by kernel_rfl) ?_
                  refine WO.weaken (fr' := [(62, (.bool (j100 && ((r75.length : Int) == 1)))), (7, (.slice a_r75 r75.length c_r75))]) (yi ⟨rfl, rfl⟩) (Sub.cons (by rw [G]; rfl) (Sub.cons z Sub.nil))
                · skip
                  refine ye 58 z (show Value.bool j100 = Value.bool false by rw [G]) ?_
                  refine yd z kr z ?_
                  refine yd z kr z ?_
                  refine yd z kr z ?_
                  refine ya [(35, 62, (.bool false))] kr (fun _ => by kernel_rfl) ?_
                  refine WO.weaken (fr' := [(62, (.bool (j100 && ((r75.length : Int) == 1)))), (7, (.slice a_r75 r75.length c_r75))]) (yi ⟨rfl, rfl⟩) (Sub.cons (by rw [G]; rfl) (Sub.cons z Sub.nil))
              case restm107 =>
                rintro _ _ ⟨rfl, rfl⟩
                refine ya [(36, 63, (.bool (j100 && ((r75.length : Int) == 1))))] kr (fun _ => by kernel_rfl) ?_
                obtain ⟨j109, R1, D⟩ := bind_some D
                refine WO.join (l1 := [37, 38, 39, 40, 41]) (l2 := [42]) (J := (fun fr w => ∃ (I111 : Mem), fr = [(68, (.bool j109))] ∧ I102.Le I111 ∧ St E w I111 Os)) ?restj109 ?waysj109
                case waysj109 =>
                  refine yt (j100 && ((r75.length : Int) == 1)) (fun G => ?_) (fun G => ?_)
                  · replace R1 := cond_t G R1
                    refine ye 63 z (show Value.bool (j100 && ((r75.length : Int) == 1)) = Value.bool true by rw [G]) ?_
                    refine ya [(37, 64, (.slice a_r75 r75.length c_r75))] kr (fun _ => by kernel_rfl) ?_
                    obtain ⟨x113, Xx113, R1⟩ := bind_some R1
                    obtain ⟨h0_x113, h1_x113, Xx113⟩ := idx_some Xx113
                    obtain ⟨ha_x113, cs_x113, hn_x113, hr_x113, Zx113⟩ := ((RSl.mono h_r75 (L88.trans L103))).el _ _ Xx113
                    obtain rfl := hr_x113
                    refine yh (e := 9) (sz := 1) z kr kr kr z ha_x113 z h0_x113 h1_x113 ?_
                    refine yf z kr kr z (v := (.string x113)) (fun w' hw' => Zx113.cell0 kr ((rd_f S106.im) w' hw')) ?_
                    refine ya [(40, 67, (.bool (sEq x113 (⟨#[116]⟩ : By8)))), (41, 68, (.bool (sEq x113 (⟨#[116]⟩ : By8))))] kr (fun _ => by kernel_rfl) ?_
                    have he := Option.some.inj R1
                    subst j109
                    refine WO.weaken (fr' := [(68, (.bool (sEq x113 (⟨#[116]⟩ : By8))))]) (yi ⟨I102, rfl, Mem.Le.refl _, S106⟩) (Sub.cons z Sub.nil)
                  · replace R1 := cond_f G R1
                    refine ye 63 z (show Value.bool (j100 && ((r75.length : Int) == 1)) = Value.bool false by rw [G]) ?_
                    refine yd z kr z ?_
                    refine yd z kr z ?_
                    refine yd z kr z ?_
                    refine yd z kr z ?_
                    refine ya [(41, 68, (.bool false))] kr (fun _ => by kernel_rfl) ?_
                    have he := Option.some.inj R1
                    subst j109
                    refine WO.weaken (fr' := [(68, (.bool false))]) (yi ⟨I102, rfl, Mem.Le.refl _, S106⟩) (Sub.cons z Sub.nil)
                case restj109 =>
                  rintro _ w114 ⟨I111, rfl, L112, S115⟩
                  refine ya [(42, 0, (.bool j109))] kr (fun _ => by kernel_rfl) ?_
                  refine yc ?_
                  refine yb ?_
                  refine ym ?_
                  have he := Option.some.inj D
                  subst r
                  exact yl z (.bool j109) z ⟨I111, rfl, (((((((((L5.trans L15).trans L29).trans L40).trans L52).trans L63).trans L73).trans L88).trans L103).trans L112), S115⟩
def chain_Chain_dead_nil  : Option Bool := some true
theorem chain_Chain_dead_nil_ok (hS : St E w I Os) {r : Bool} (D : chain_Chain_dead_nil = some r) :
    Calls P 14 #[(.pointer none)] w (fun e w' => ∃ (I' : Mem), e = .returned (.bool r) ∧ I.Le I' ∧ St E w' I' Os) := by
  refine calls_W (args := [(.pointer none)]) (fn := Try.f14) rfl rfl rfl ?_
  unfold chain_Chain_dead_nil at D
  refine W.seq ?_
  refine W.region (l := [0]) kr ?_
  refine ya [(0, 2, (.bool false))] kr (fun _ => by kernel_rfl) ?_
  refine yc ?_
  refine yb ?_
  refine W.seq ?_
  refine W.region (l := [0, 1, 2, 3, 4, 5, 6, 7, 8, 9]) kr ?_
  refine ya [(0, 3, (.pointer none)), (1, 4, (.bool true)), (2, 5, (.bool true))] kr (fun _ => by kernel_rfl) ?_
  refine yd z kr z ?_
  refine yd z kr z ?_
  refine yd z kr z ?_
  refine yd z kr z ?_
  refine yd z kr z ?_
  refine ya [(8, 11, (.bool true)), (9, 2, (.bool true))] kr (fun _ => by kernel_rfl) ?_
  refine yc ?_
  refine yb ?_
  refine ym ?_
  have he := Option.some.inj D
  subst r
  exact yl z (.bool true) z ⟨I, rfl, Mem.Le.refl _, hS⟩
def chain_Chain_check_nil (p1 : Int) : Option Int := (chain_Chain_dead_nil).bind (fun (r6 : Bool) => some 1)
theorem chain_Chain_check_nil_ok {p1 : Int} (hS : St E w I Os) {r : Int} (D : chain_Chain_check_nil p1 = some r) :
    Calls P 13 #[(.pointer none), (.int .i64 p1)] w (fun e w' => ∃ (I' : Mem), e = .returned (.int .i64 r) ∧ I.Le I' ∧ St E w' I' Os) := by
  refine calls_W (args := [(.pointer none), (.int .i64 p1)]) (fn := Try.f13) rfl rfl rfl ?_
  unfold chain_Chain_check_nil at D
  refine W.seq ?_
  refine W.region (l := [0]) kr ?_
  refine ya [(0, 4, (.int .i64 0))] kr (fun _ => by kernel_rfl) ?_
  refine yc ?_
  refine yb ?_
  refine W.seq ?_
  refine yq ?_
  refine W.seq ?_
  refine W.region (l := [0, 1, 2]) kr ?_
  refine ya [(0, 6, (.pointer none))] kr (fun _ => by kernel_rfl) ?_
  obtain ⟨r6, Xr1, D⟩ := bind_some D
  obtain rfl : true = r6 := Option.some.inj Xr1
  refine yj z kr z (f := 14) (args := #[(.pointer none)]) kr (chain_Chain_dead_nil_ok  hS Xr1) ?_
  rintro _ w2 ⟨I3, rfl, L4, S5⟩
  refine ⟨_, rfl, trivial, ?_⟩
  refine ya [(2, 5, (.bool true))] kr (fun _ => by kernel_rfl) ?_
  refine yc ?_
  refine yb ?_
  refine W.cond (b := true) z z (fun G => ?_) (fun G => ?_)
  rotate_left
  · cases G
  clear G
  refine W.seq ?_
  refine W.region (l := [0]) kr ?_
  refine ya [(0, 4, (.int .i64 1))] kr (fun _ => by kernel_rfl) ?_
  refine yc ?_
  refine yb ?_
  refine ym ?_
  refine yn ?_
  refine yg ?_
  have he := Option.some.inj D
  subst r
  exact yl z (.int .i64 1) z ⟨I3, rfl, L4, S5⟩
def chain_Chain_Pin_nil (p1 : Int) : Option (Int × Int) := (chain_Chain_check_nil p1).bind (fun (r6 : Int) => some (0, 1))
theorem chain_Chain_Pin_nil_ok {p1 : Int} (hS : St E w I Os) {r : Int × Int} (D : chain_Chain_Pin_nil p1 = some r) :
    Calls P 4 #[(.pointer none), (.int .i64 p1)] w (fun e w' => ∃ (I' : Mem), e = .returned (.tuple #[(.int .i64 r.1), (.int .i64 r.2)]) ∧ I.Le I' ∧ St E w' I' Os) := by
  refine calls_W (args := [(.pointer none), (.int .i64 p1)]) (fn := Try.f4) rfl rfl rfl ?_
  unfold chain_Chain_Pin_nil at D
  refine W.seq ?_
  refine W.region (l := [0, 1]) kr ?_
  refine ya [(0, 4, (.int .i64 0)), (1, 5, (.int .i64 0))] kr (fun _ => by kernel_rfl) ?_
  refine yc ?_
  refine yb ?_
  refine W.seq ?_
  refine W.seq ?_
  refine W.region (l := [0, 1, 2, 3]) kr ?_
  refine ya [(0, 9, (.pointer none)), (1, 10, (.int .i64 p1))] kr (fun _ => by kernel_rfl) ?_
  obtain ⟨r6, Xr1, D⟩ := bind_some D
  obtain rfl : 1 = r6 := Option.some.inj Xr1
  refine yj z kr z (f := 13) (args := #[(.pointer none), (.int .i64 p1)]) kr (chain_Chain_check_nil_ok  hS Xr1) ?_
  rintro _ w2 ⟨I3, rfl, L4, S5⟩
  refine ⟨_, rfl, trivial, ?_⟩
  refine ya [(3, 6, (.int .i64 1))] kr (fun _ => by kernel_rfl) ?_
  refine yc ?_
  refine yb ?_
  refine W.seq ?_
  refine W.region (l := [0, 1]) kr ?_
  refine ya [(0, 12, (.int .i64 1)), (1, 13, (.bool true))] kr (fun _ => by kernel_rfl) ?_
  refine yc ?_
  refine yb ?_
  refine W.cond (b := true) z z (fun G => ?_) (fun G => ?_)
  rotate_left
  · cases G
  clear G
  refine W.seq ?_
  refine W.region (l := [0, 1, 2]) kr ?_
  refine ya [(0, 14, (.int .i64 1)), (1, 4, (.int .i64 0)), (2, 5, (.int .i64 1))] kr (fun _ => by kernel_rfl) ?_
  refine yc ?_
  refine yb ?_
  refine ym ?_
  refine yg ?_
  have he := Option.some.inj D
  subst r
  exact En.ret2 z (.int .i64 0) (.int .i64 1) z z ⟨I3, rfl, L4, S5⟩
def chain_Chain_At_nil (p1 : Int) : Option (qC × Bool) := (chain_Chain_dead_nil).bind (fun (r10 : Bool) => some (z_qC, false))
theorem chain_Chain_At_nil_ok {p1 : Int} (hS : St E w I Os) {r : qC × Bool} (D : chain_Chain_At_nil p1 = some r) :
    Calls P 5 #[(.pointer none), (.int .i64 p1)] w (fun e w' => ∃ (I' : Mem) (w_rw0 : W_qC), e = .returned (.tuple #[(vC r.1 w_rw0), (.bool r.2)]) ∧ I.Le I' ∧ St E w' I' Os ∧ ok_qC I' r.1 w_rw0) := by
  refine calls_W (args := [(.pointer none), (.int .i64 p1)]) (fn := Try.f5) rfl rfl rfl ?_
  unfold chain_Chain_At_nil at D
  refine W.seq ?_
  refine W.region (l := [0, 1]) kr ?_
  refine yu hS z kr z (.cells (cs_qC z_qC zw_qC).toArray 36 (0, 0)) (fun b => .pointer (some ⟨b, 0, none⟩)) kr tv ?_
  intro b1 w4 S3
  refine ya [(1, 5, (.bool false))] kr (fun _ => by kernel_rfl) ?_
  refine yc ?_
  refine yb ?_
  refine W.seq ?_
  refine W.seq ?_
  refine W.region (l := [0, 1]) kr ?_
  refine ya [(0, 8, (.pointer none))] kr (fun _ => by kernel_rfl) ?_
  obtain ⟨r10, Xr5, D⟩ := bind_some D
  obtain rfl : true = r10 := Option.some.inj Xr5
  refine yj z kr z (f := 14) (args := #[(.pointer none)]) kr (chain_Chain_dead_nil_ok  S3 Xr5) ?_
  rintro _ w6 ⟨I7, rfl, L8, S9⟩
  refine ⟨_, rfl, trivial, ?_⟩
  refine yc ?_
  refine yb ?_
  refine W.cond (b := true) z z (fun G => ?_) (fun G => ?_)
  rotate_left
  · cases G
  clear G
  refine W.seq ?_
  refine W.region (l := [0, 1, 2]) kr ?_
  refine ya [(0, 10, (vC z_qC zw_qC))] kr (fun _ => by kernel_rfl) ?_
  refine yr S9 z kr z 0 z z kr kr kr ((cs_qC z_qC zw_qC).toArray) kr tv ?_
  intro w12 S11
  refine ya [(2, 5, (.bool false))] kr (fun _ => by kernel_rfl) ?_
  refine yc ?_
  refine yb ?_
  refine ym ?_
  refine yg ?_
  have S13 := S11.drop
  have he := Option.some.inj D
  subst r
  exact yao z (vC z_qC zw_qC) (.bool false) ⟨_, _, rfl, run_loadVarN (cs := (cs_qC z_qC zw_qC)) kr kr (cells_one (S11.rd (List.Mem.head _)) kr)⟩ rfl ⟨I7, zw_qC, rfl, L8, S13, zok_qC⟩
def chain_Chain_Unpin_nil (p1 : Int) : Option Int := (chain_Chain_check_nil p1).bind (fun (r6 : Int) => some 1)
theorem chain_Chain_Unpin_nil_ok {p1 : Int} (hS : St E w I Os) {r : Int} (D : chain_Chain_Unpin_nil p1 = some r) :
    Calls P 6 #[(.pointer none), (.int .i64 p1)] w (fun e w' => ∃ (I' : Mem), e = .returned (.int .i64 r) ∧ I.Le I' ∧ St E w' I' Os) := by
  refine calls_W (args := [(.pointer none), (.int .i64 p1)]) (fn := Try.f6) rfl rfl rfl ?_
  unfold chain_Chain_Unpin_nil at D
  refine W.seq ?_
  refine W.region (l := [0]) kr ?_
  refine ya [(0, 4, (.int .i64 0))] kr (fun _ => by kernel_rfl) ?_
  refine yc ?_
  refine yb ?_
  refine W.seq ?_
  refine W.seq ?_
  refine W.region (l := [0, 1, 2, 3]) kr ?_
  refine ya [(0, 8, (.pointer none)), (1, 9, (.int .i64 p1))] kr (fun _ => by kernel_rfl) ?_
  obtain ⟨r6, Xr1, D⟩ := bind_some D
  obtain rfl : 1 = r6 := Option.some.inj Xr1
  refine yj z kr z (f := 13) (args := #[(.pointer none), (.int .i64 p1)]) kr (chain_Chain_check_nil_ok  hS Xr1) ?_
  rintro _ w2 ⟨I3, rfl, L4, S5⟩
  refine ⟨_, rfl, trivial, ?_⟩
  refine ya [(3, 5, (.int .i64 1))] kr (fun _ => by kernel_rfl) ?_
  refine yc ?_
  refine yb ?_
  refine W.seq ?_
  refine W.region (l := [0, 1]) kr ?_
  refine ya [(0, 11, (.int .i64 1)), (1, 12, (.bool true))] kr (fun _ => by kernel_rfl) ?_
  refine yc ?_
  refine yb ?_
  refine W.cond (b := true) z z (fun G => ?_) (fun G => ?_)
  rotate_left
  · cases G
  clear G
  refine W.seq ?_
  refine W.region (l := [0, 1]) kr ?_
  refine ya [(0, 13, (.int .i64 1)), (1, 4, (.int .i64 1))] kr (fun _ => by kernel_rfl) ?_
  refine yc ?_
  refine yb ?_
  refine ym ?_
  refine yg ?_
  have he := Option.some.inj D
  subst r
  exact yl z (.int .i64 1) z ⟨I3, rfl, L4, S5⟩
def chain_Chain_Publish_nil (p1 : qC) : Option Int := (chain_Chain_dead_nil).bind (fun (r10 : Bool) => some 1)
theorem chain_Chain_Publish_nil_ok {p1 : qC} {w_p1 : W_qC} (h_p1 : ok_qC I p1 w_p1) (hS : St E w I Os) {r : Int} (D : chain_Chain_Publish_nil p1 = some r) :
    Calls P 7 #[(.pointer none), (vC p1 w_p1)] w (fun e w' => ∃ (I' : Mem), e = .returned (.int .i64 r) ∧ I.Le I' ∧ St E w' I' Os) := by
  refine calls_W (args := [(.pointer none), (vC p1 w_p1)]) (fn := Try.f7) rfl rfl rfl ?_
  unfold chain_Chain_Publish_nil at D
  refine W.seq ?_
  refine W.region (l := [0, 1]) kr ?_
  refine yu hS z kr z (.cells (cs_qC p1 w_p1).toArray 36 (0, 0)) (fun b => .pointer (some ⟨b, 0, none⟩)) kr tv ?_
  intro b1 w4 S3
  refine ya [(1, 4, (.int .i64 0))] kr (fun _ => by kernel_rfl) ?_
  refine yc ?_
  refine yb ?_
  refine W.seq ?_
  refine W.seq ?_
  refine W.region (l := [0, 1]) kr ?_
  refine ya [(0, 7, (.pointer none))] kr (fun _ => by kernel_rfl) ?_
  obtain ⟨r10, Xr5, D⟩ := bind_some D
  obtain rfl : true = r10 := Option.some.inj Xr5
  refine yj z kr z (f := 14) (args := #[(.pointer none)]) kr (chain_Chain_dead_nil_ok  S3 Xr5) ?_
  rintro _ w6 ⟨I7, rfl, L8, S9⟩
  refine ⟨_, rfl, trivial, ?_⟩
  refine yc ?_
  refine yb ?_
  refine W.cond (b := true) z z (fun G => ?_) (fun G => ?_)
  rotate_left
  · cases G
  clear G
  refine W.seq ?_
  refine W.region (l := [0]) kr ?_
  refine ya [(0, 4, (.int .i64 1))] kr (fun _ => by kernel_rfl) ?_
  refine yc ?_
  refine yb ?_
  refine ym ?_
  refine yg ?_
  have S11 := S9.drop
  have he := Option.some.inj D
  subst r
  exact yl z (.int .i64 1) z ⟨I7, rfl, L8, S11⟩
def chain_Chain_Live_nil  : Option (List Int) := (chain_Chain_dead_nil).bind (fun (r6 : Bool) => some ([] : List Int))
theorem chain_Chain_Live_nil_ok (hS : St E w I Os) {r : (List Int)} (D : chain_Chain_Live_nil = some r) :
    Calls P 8 #[(.pointer none)] w (fun e w' => ∃ (I' : Mem) (ra0 : Option Addr) (rc0 : Nat), e = .returned (.slice ra0 r.length rc0) ∧ I.Le I' ∧ St E w' I' Os ∧ RSl 1 (RInt .i64) I' ra0 rc0 r) := by
  refine calls_W (args := [(.pointer none)]) (fn := Try.f8) rfl rfl rfl ?_
  unfold chain_Chain_Live_nil at D
  refine W.seq ?_
  refine W.region (l := [0]) kr ?_
  refine ya [(0, 2, (.slice none 0 0))] kr (fun _ => by kernel_rfl) ?_
  refine yc ?_
  refine yb ?_
  refine W.seq ?_
  refine W.seq ?_
  refine W.region (l := [0, 1]) kr ?_
  refine ya [(0, 3, (.pointer none))] kr (fun _ => by kernel_rfl) ?_
  obtain ⟨r6, Xr1, D⟩ := bind_some D
  obtain rfl : true = r6 := Option.some.inj Xr1
  refine yj z kr z (f := 14) (args := #[(.pointer none)]) kr (chain_Chain_dead_nil_ok  hS Xr1) ?_
  rintro _ w2 ⟨I3, rfl, L4, S5⟩
  refine ⟨_, rfl, trivial, ?_⟩
  refine yc ?_
  refine yb ?_
  refine W.cond (b := true) z z (fun G => ?_) (fun G => ?_)
  rotate_left
  · cases G
  clear G
  refine W.seq ?_
  refine W.region (l := [0]) kr ?_
  refine ya [(0, 2, (.slice none 0 0))] kr (fun _ => by kernel_rfl) ?_
  refine yc ?_
  refine yb ?_
  refine ym ?_
  refine yg ?_
  have he := Option.some.inj D
  subst r
  exact yl z (.slice none 0 0) z ⟨I3, none, 0, rfl, L4, S5, SlAt.nil⟩
def chain_Chain_Hear_nil (p1 : Int) : Option (List By8) := (chain_Chain_check_nil p1).bind (fun (r6 : Int) => some ([] : List By8))
theorem chain_Chain_Hear_nil_ok {p1 : Int} (hS : St E w I Os) {r : (List By8)} (D : chain_Chain_Hear_nil p1 = some r) :
    Calls P 9 #[(.pointer none), (.int .i64 p1)] w (fun e w' => ∃ (I' : Mem) (ra0 : Option Addr) (rc0 : Nat), e = .returned (.slice ra0 r.length rc0) ∧ I.Le I' ∧ St E w' I' Os ∧ RSl 1 RStr I' ra0 rc0 r) := by
  refine calls_W (args := [(.pointer none), (.int .i64 p1)]) (fn := Try.f9) rfl rfl rfl ?_
  unfold chain_Chain_Hear_nil at D
  refine W.seq ?_
  refine W.region (l := [0]) kr ?_
  refine ya [(0, 4, (.slice none 0 0))] kr (fun _ => by kernel_rfl) ?_
  refine yc ?_
  refine yb ?_
  refine W.seq ?_
  refine W.seq ?_
  refine W.region (l := [0, 1, 2, 3]) kr ?_
  refine ya [(0, 6, (.pointer none)), (1, 7, (.int .i64 p1))] kr (fun _ => by kernel_rfl) ?_
  obtain ⟨r6, Xr1, D⟩ := bind_some D
  obtain rfl : 1 = r6 := Option.some.inj Xr1
  refine yj z kr z (f := 13) (args := #[(.pointer none), (.int .i64 p1)]) kr (chain_Chain_check_nil_ok  hS Xr1) ?_
  rintro _ w2 ⟨I3, rfl, L4, S5⟩
  refine ⟨_, rfl, trivial, ?_⟩
  refine ya [(3, 9, (.bool true))] kr (fun _ => by kernel_rfl) ?_
  refine yc ?_
  refine yb ?_
  refine W.cond (b := true) z z (fun G => ?_) (fun G => ?_)
  rotate_left
  · cases G
  clear G
  refine W.seq ?_
  refine W.region (l := [0]) kr ?_
  refine ya [(0, 4, (.slice none 0 0))] kr (fun _ => by kernel_rfl) ?_
  refine yc ?_
  refine yb ?_
  refine ym ?_
  refine yg ?_
  have he := Option.some.inj D
  subst r
  exact yl z (.slice none 0 0) z ⟨I3, none, 0, rfl, L4, S5, SlAt.nil⟩
def chain_Chain_Now_nil  : Option qC := (chain_Chain_dead_nil).bind (fun (r10 : Bool) => some z_qC)
theorem chain_Chain_Now_nil_ok (hS : St E w I Os) {r : qC} (D : chain_Chain_Now_nil = some r) :
    Calls P 11 #[(.pointer none)] w (fun e w' => ∃ (I' : Mem) (w_rw0 : W_qC), e = .returned (vC r w_rw0) ∧ I.Le I' ∧ St E w' I' Os ∧ ok_qC I' r w_rw0) := by
  refine calls_W (args := [(.pointer none)]) (fn := Try.f11) rfl rfl rfl ?_
  unfold chain_Chain_Now_nil at D
  refine W.seq ?_
  refine W.region (l := [0]) kr ?_
  refine yu hS z kr z (.cells (cs_qC z_qC zw_qC).toArray 36 (0, 0)) (fun b => .pointer (some ⟨b, 0, none⟩)) kr tv ?_
  intro b1 w4 S3
  refine yc ?_
  refine yb ?_
  refine W.seq ?_
  refine W.seq ?_
  refine W.region (l := [0, 1]) kr ?_
  refine ya [(0, 3, (.pointer none))] kr (fun _ => by kernel_rfl) ?_
  obtain ⟨r10, Xr5, D⟩ := bind_some D
  obtain rfl : true = r10 := Option.some.inj Xr5
  refine yj z kr z (f := 14) (args := #[(.pointer none)]) kr (chain_Chain_dead_nil_ok  S3 Xr5) ?_
  rintro _ w6 ⟨I7, rfl, L8, S9⟩
  refine ⟨_, rfl, trivial, ?_⟩
  refine yc ?_
  refine yb ?_
  refine W.cond (b := true) z z (fun G => ?_) (fun G => ?_)
  rotate_left
  · cases G
  clear G
  refine W.seq ?_
  refine W.region (l := [0, 1]) kr ?_
  refine ya [(0, 5, (vC z_qC zw_qC))] kr (fun _ => by kernel_rfl) ?_
  refine yr S9 z kr z 0 z z kr kr kr ((cs_qC z_qC zw_qC).toArray) kr tv ?_
  intro w12 S11
  refine yc ?_
  refine yb ?_
  refine ym ?_
  refine yg ?_
  have S13 := S11.drop
  have he := Option.some.inj D
  subst r
  exact yan z (vC z_qC zw_qC) ⟨_, _, rfl, run_loadVarN (cs := (cs_qC z_qC zw_qC)) kr kr (cells_one (S11.rd (List.Mem.head _)) kr)⟩ ⟨I7, zw_qC, rfl, L8, S13, zok_qC⟩
def chain_Chain_dead_zero  : Option Bool := some true
theorem chain_Chain_dead_zero_ok {b_p0 : Nat} (hS : St E w I ((Gv.one b_p0 (.cells #[(.map none), (.int .i64 0), (.map none), (.map none)] 27 (0, 0))) :: Os)) {r : Bool} (D : chain_Chain_dead_zero = some r) :
    Calls P 14 #[(.pointer (some ⟨b_p0, 0, none⟩))] w (fun e w' => ∃ (I' : Mem), e = .returned (.bool r) ∧ I.Le I' ∧ St E w' I' ((Gv.one b_p0 (.cells #[(.map none), (.int .i64 0), (.map none), (.map none)] 27 (0, 0))) :: Os)) := by
  refine calls_W (args := [(.pointer (some ⟨b_p0, 0, none⟩))]) (fn := Try.f14) rfl rfl rfl ?_
  unfold chain_Chain_dead_zero at D
  refine W.seq ?_
  refine W.region (l := [0]) kr ?_
  refine ya [(0, 2, (.bool false))] kr (fun _ => by kernel_rfl) ?_
  refine yc ?_
  refine yb ?_
  refine W.seq ?_
  refine W.region (l := [0, 1, 2, 3, 4, 5, 6, 7, 8, 9]) kr ?_
  refine ya [(0, 3, (.pointer (some ⟨b_p0, 0, none⟩))), (1, 4, (.bool false)), (2, 5, (.bool false)), (3, 6, (.pointer (some ⟨b_p0, 0, none⟩))), (4, 7, (.pointer (some ⟨b_p0, 0, none⟩))), (5, 8, (.pointer (some ⟨b_p0, 0, none⟩)))] kr (fun _ => by kernel_rfl) ?_
  refine yf z kr kr z (v := (.map none)) (fun w' hw' => cell_one ((rd_f (hS.rd (List.Mem.head _))) w' hw') kr) ?_
  refine ya [(7, 10, (.bool true)), (8, 11, (.bool true)), (9, 2, (.bool true))] kr (fun _ => by kernel_rfl) ?_
  refine yc ?_
  refine yb ?_
  refine ym ?_
  have he := Option.some.inj D
  subst r
  exact yl z (.bool true) z ⟨I, rfl, Mem.Le.refl _, hS⟩
def chain_Chain_check_zero (p1 : Int) : Option Int := (chain_Chain_dead_zero).bind (fun (r6 : Bool) => some 1)
theorem chain_Chain_check_zero_ok {p1 : Int} {b_p0 : Nat} (hS : St E w I ((Gv.one b_p0 (.cells #[(.map none), (.int .i64 0), (.map none), (.map none)] 27 (0, 0))) :: Os)) {r : Int} (D : chain_Chain_check_zero p1 = some r) :
    Calls P 13 #[(.pointer (some ⟨b_p0, 0, none⟩)), (.int .i64 p1)] w (fun e w' => ∃ (I' : Mem), e = .returned (.int .i64 r) ∧ I.Le I' ∧ St E w' I' ((Gv.one b_p0 (.cells #[(.map none), (.int .i64 0), (.map none), (.map none)] 27 (0, 0))) :: Os)) := by
  refine calls_W (args := [(.pointer (some ⟨b_p0, 0, none⟩)), (.int .i64 p1)]) (fn := Try.f13) rfl rfl rfl ?_
  unfold chain_Chain_check_zero at D
  refine W.seq ?_
  refine W.region (l := [0]) kr ?_
  refine ya [(0, 4, (.int .i64 0))] kr (fun _ => by kernel_rfl) ?_
  refine yc ?_
  refine yb ?_
  refine W.seq ?_
  refine yq ?_
  refine W.seq ?_
  refine W.region (l := [0, 1, 2]) kr ?_
  refine ya [(0, 6, (.pointer (some ⟨b_p0, 0, none⟩)))] kr (fun _ => by kernel_rfl) ?_
  obtain ⟨r6, Xr1, D⟩ := bind_some D
  obtain rfl : true = r6 := Option.some.inj Xr1
  refine yj z kr z (f := 14) (args := #[(.pointer (some ⟨b_p0, 0, none⟩))]) kr (chain_Chain_dead_zero_ok  hS Xr1) ?_
  rintro _ w2 ⟨I3, rfl, L4, S5⟩
  refine ⟨_, rfl, trivial, ?_⟩
  refine ya [(2, 5, (.bool true))] kr (fun _ => by kernel_rfl) ?_
  refine yc ?_
  refine yb ?_
  refine W.cond (b := true) z z (fun G => ?_) (fun G => ?_)
  rotate_left
  · cases G
  clear G
  refine W.seq ?_
  refine W.region (l := [0]) kr ?_
  refine ya [(0, 4, (.int .i64 1))] kr (fun _ => by kernel_rfl) ?_
  refine yc ?_
  refine yb ?_
  refine ym ?_
  refine yn ?_
  refine yg ?_
  have he := Option.some.inj D
  subst r
  exact yl z (.int .i64 1) z ⟨I3, rfl, L4, S5⟩
def chain_Chain_Pin_zero (p1 : Int) : Option (Int × Int) := (chain_Chain_check_zero p1).bind (fun (r6 : Int) => some (0, 1))
theorem chain_Chain_Pin_zero_ok {p1 : Int} {b_p0 : Nat} (hS : St E w I ((Gv.one b_p0 (.cells #[(.map none), (.int .i64 0), (.map none), (.map none)] 27 (0, 0))) :: Os)) {r : Int × Int} (D : chain_Chain_Pin_zero p1 = some r) :
    Calls P 4 #[(.pointer (some ⟨b_p0, 0, none⟩)), (.int .i64 p1)] w (fun e w' => ∃ (I' : Mem), e = .returned (.tuple #[(.int .i64 r.1), (.int .i64 r.2)]) ∧ I.Le I' ∧ St E w' I' ((Gv.one b_p0 (.cells #[(.map none), (.int .i64 0), (.map none), (.map none)] 27 (0, 0))) :: Os)) := by
  refine calls_W (args := [(.pointer (some ⟨b_p0, 0, none⟩)), (.int .i64 p1)]) (fn := Try.f4) rfl rfl rfl ?_
  unfold chain_Chain_Pin_zero at D
  refine W.seq ?_
  refine W.region (l := [0, 1]) kr ?_
  refine ya [(0, 4, (.int .i64 0)), (1, 5, (.int .i64 0))] kr (fun _ => by kernel_rfl) ?_
  refine yc ?_
  refine yb ?_
  refine W.seq ?_
  refine W.seq ?_
  refine W.region (l := [0, 1, 2, 3]) kr ?_
  refine ya [(0, 9, (.pointer (some ⟨b_p0, 0, none⟩))), (1, 10, (.int .i64 p1))] kr (fun _ => by kernel_rfl) ?_
  obtain ⟨r6, Xr1, D⟩ := bind_some D
  obtain rfl : 1 = r6 := Option.some.inj Xr1
  refine yj z kr z (f := 13) (args := #[(.pointer (some ⟨b_p0, 0, none⟩)), (.int .i64 p1)]) kr (chain_Chain_check_zero_ok  hS Xr1) ?_
  rintro _ w2 ⟨I3, rfl, L4, S5⟩
  refine ⟨_, rfl, trivial, ?_⟩
  refine ya [(3, 6, (.int .i64 1))] kr (fun _ => by kernel_rfl) ?_
  refine yc ?_
  refine yb ?_
  refine W.seq ?_
  refine W.region (l := [0, 1]) kr ?_
  refine ya [(0, 12, (.int .i64 1)), (1, 13, (.bool true))] kr (fun _ => by kernel_rfl) ?_
  refine yc ?_
  refine yb ?_
  refine W.cond (b := true) z z (fun G => ?_) (fun G => ?_)
  rotate_left
  · cases G
  clear G
  refine W.seq ?_
  refine W.region (l := [0, 1, 2]) kr ?_
  refine ya [(0, 14, (.int .i64 1)), (1, 4, (.int .i64 0)), (2, 5, (.int .i64 1))] kr (fun _ => by kernel_rfl) ?_
  refine yc ?_
  refine yb ?_
  refine ym ?_
  refine yg ?_
  have he := Option.some.inj D
  subst r
  exact En.ret2 z (.int .i64 0) (.int .i64 1) z z ⟨I3, rfl, L4, S5⟩
def chain_Chain_At_zero (p1 : Int) : Option (qC × Bool) := (chain_Chain_dead_zero).bind (fun (r11 : Bool) => some (z_qC, false))
theorem chain_Chain_At_zero_ok {p1 : Int} {b_p0 : Nat} (hS : St E w I ((Gv.one b_p0 (.cells #[(.map none), (.int .i64 0), (.map none), (.map none)] 27 (0, 0))) :: Os)) {r : qC × Bool} (D : chain_Chain_At_zero p1 = some r) :
    Calls P 5 #[(.pointer (some ⟨b_p0, 0, none⟩)), (.int .i64 p1)] w (fun e w' => ∃ (I' : Mem) (w_rw0 : W_qC), e = .returned (.tuple #[(vC r.1 w_rw0), (.bool r.2)]) ∧ I.Le I' ∧ St E w' I' ((Gv.one b_p0 (.cells #[(.map none), (.int .i64 0), (.map none), (.map none)] 27 (0, 0))) :: Os) ∧ ok_qC I' r.1 w_rw0) := by
  refine calls_W (args := [(.pointer (some ⟨b_p0, 0, none⟩)), (.int .i64 p1)]) (fn := Try.f5) rfl rfl rfl ?_
  unfold chain_Chain_At_zero at D
  refine W.seq ?_
  refine W.region (l := [0, 1]) kr ?_
  refine yu hS z kr z (.cells (cs_qC z_qC zw_qC).toArray 36 (0, 0)) (fun b => .pointer (some ⟨b, 0, none⟩)) kr tv ?_
  intro b1 w4 S3
  refine ya [(1, 5, (.bool false))] kr (fun _ => by kernel_rfl) ?_
  refine yc ?_
  refine yb ?_
  refine W.seq ?_
  refine W.seq ?_
  refine W.region (l := [0, 1]) kr ?_
  refine ya [(0, 8, (.pointer (some ⟨b_p0, 0, none⟩)))] kr (fun _ => by kernel_rfl) ?_
  have S5 := S3.front1
  obtain ⟨r11, Xr6, D⟩ := bind_some D
  obtain rfl : true = r11 := Option.some.inj Xr6
  refine yj z kr z (f := 14) (args := #[(.pointer (some ⟨b_p0, 0, none⟩))]) kr (chain_Chain_dead_zero_ok  S5 Xr6) ?_
  rintro _ w7 ⟨I8, rfl, L9, S10⟩
  refine ⟨_, rfl, trivial, ?_⟩
  refine yc ?_
  refine yb ?_
  refine W.cond (b := true) z z (fun G => ?_) (fun G => ?_)
  rotate_left
  · cases G
  clear G
  refine W.seq ?_
  refine W.region (l := [0, 1, 2]) kr ?_
  refine ya [(0, 10, (vC z_qC zw_qC))] kr (fun _ => by kernel_rfl) ?_
  have S12 := S10.front1
  refine yr S12 z kr z 0 z z kr kr kr ((cs_qC z_qC zw_qC).toArray) kr tv ?_
  intro w14 S13
  refine ya [(2, 5, (.bool false))] kr (fun _ => by kernel_rfl) ?_
  refine yc ?_
  refine yb ?_
  refine ym ?_
  refine yg ?_
  have S15 := S13.drop
  have he := Option.some.inj D
  subst r
  exact yao z (vC z_qC zw_qC) (.bool false) ⟨_, _, rfl, run_loadVarN (cs := (cs_qC z_qC zw_qC)) kr kr (cells_one (S13.rd (List.Mem.head _)) kr)⟩ rfl ⟨I8, zw_qC, rfl, L9, S15, zok_qC⟩
def chain_Chain_Unpin_zero (p1 : Int) : Option Int := (chain_Chain_check_zero p1).bind (fun (r6 : Int) => some 1)
theorem chain_Chain_Unpin_zero_ok {p1 : Int} {b_p0 : Nat} (hS : St E w I ((Gv.one b_p0 (.cells #[(.map none), (.int .i64 0), (.map none), (.map none)] 27 (0, 0))) :: Os)) {r : Int} (D : chain_Chain_Unpin_zero p1 = some r) :
    Calls P 6 #[(.pointer (some ⟨b_p0, 0, none⟩)), (.int .i64 p1)] w (fun e w' => ∃ (I' : Mem), e = .returned (.int .i64 r) ∧ I.Le I' ∧ St E w' I' ((Gv.one b_p0 (.cells #[(.map none), (.int .i64 0), (.map none), (.map none)] 27 (0, 0))) :: Os)) := by
  refine calls_W (args := [(.pointer (some ⟨b_p0, 0, none⟩)), (.int .i64 p1)]) (fn := Try.f6) rfl rfl rfl ?_
  unfold chain_Chain_Unpin_zero at D
  refine W.seq ?_
  refine W.region (l := [0]) kr ?_
  refine ya [(0, 4, (.int .i64 0))] kr (fun _ => by kernel_rfl) ?_
  refine yc ?_
  refine yb ?_
  refine W.seq ?_
  refine W.seq ?_
  refine W.region (l := [0, 1, 2, 3]) kr ?_
  refine ya [(0, 8, (.pointer (some ⟨b_p0, 0, none⟩))), (1, 9, (.int .i64 p1))] kr (fun _ => by kernel_rfl) ?_
  obtain ⟨r6, Xr1, D⟩ := bind_some D
  obtain rfl : 1 = r6 := Option.some.inj Xr1
  refine yj z kr z (f := 13) (args := #[(.pointer (some ⟨b_p0, 0, none⟩)), (.int .i64 p1)]) kr (chain_Chain_check_zero_ok  hS Xr1) ?_
  rintro _ w2 ⟨I3, rfl, L4, S5⟩
  refine ⟨_, rfl, trivial, ?_⟩
  refine ya [(3, 5, (.int .i64 1))] kr (fun _ => by kernel_rfl) ?_
  refine yc ?_
  refine yb ?_
  refine W.seq ?_
  refine W.region (l := [0, 1]) kr ?_
  refine ya [(0, 11, (.int .i64 1)), (1, 12, (.bool true))] kr (fun _ => by kernel_rfl) ?_
  refine yc ?_
  refine yb ?_
  refine W.cond (b := true) z z (fun G => ?_) (fun G => ?_)
  rotate_left
  · cases G
  clear G
  refine W.seq ?_
  refine W.region (l := [0, 1]) kr ?_
  refine ya [(0, 13, (.int .i64 1)), (1, 4, (.int .i64 1))] kr (fun _ => by kernel_rfl) ?_
  refine yc ?_
  refine yb ?_
  refine ym ?_
  refine yg ?_
  have he := Option.some.inj D
  subst r
  exact yl z (.int .i64 1) z ⟨I3, rfl, L4, S5⟩
def chain_Chain_Publish_zero (p1 : qC) : Option Int := (chain_Chain_dead_zero).bind (fun (r11 : Bool) => some 1)
theorem chain_Chain_Publish_zero_ok {p1 : qC} {b_p0 : Nat} {w_p1 : W_qC} (h_p1 : ok_qC I p1 w_p1) (hS : St E w I ((Gv.one b_p0 (.cells #[(.map none), (.int .i64 0), (.map none), (.map none)] 27 (0, 0))) :: Os)) {r : Int} (D : chain_Chain_Publish_zero p1 = some r) :
    Calls P 7 #[(.pointer (some ⟨b_p0, 0, none⟩)), (vC p1 w_p1)] w (fun e w' => ∃ (I' : Mem), e = .returned (.int .i64 r) ∧ I.Le I' ∧ St E w' I' ((Gv.one b_p0 (.cells #[(.map none), (.int .i64 0), (.map none), (.map none)] 27 (0, 0))) :: Os)) := by
  refine calls_W (args := [(.pointer (some ⟨b_p0, 0, none⟩)), (vC p1 w_p1)]) (fn := Try.f7) rfl rfl rfl ?_
  unfold chain_Chain_Publish_zero at D
  refine W.seq ?_
  refine W.region (l := [0, 1]) kr ?_
  refine yu hS z kr z (.cells (cs_qC p1 w_p1).toArray 36 (0, 0)) (fun b => .pointer (some ⟨b, 0, none⟩)) kr tv ?_
  intro b1 w4 S3
  refine ya [(1, 4, (.int .i64 0))] kr (fun _ => by kernel_rfl) ?_
  refine yc ?_
  refine yb ?_
  refine W.seq ?_
  refine W.seq ?_
  refine W.region (l := [0, 1]) kr ?_
  refine ya [(0, 7, (.pointer (some ⟨b_p0, 0, none⟩)))] kr (fun _ => by kernel_rfl) ?_
  have S5 := S3.front1
  obtain ⟨r11, Xr6, D⟩ := bind_some D
  obtain rfl : true = r11 := Option.some.inj Xr6
  refine yj z kr z (f := 14) (args := #[(.pointer (some ⟨b_p0, 0, none⟩))]) kr (chain_Chain_dead_zero_ok  S5 Xr6) ?_
  rintro _ w7 ⟨I8, rfl, L9, S10⟩
  refine ⟨_, rfl, trivial, ?_⟩
  refine yc ?_
  refine yb ?_
  refine W.cond (b := true) z z (fun G => ?_) (fun G => ?_)
  rotate_left
  · cases G
  clear G
  refine W.seq ?_
  refine W.region (l := [0]) kr ?_
  refine ya [(0, 4, (.int .i64 1))] kr (fun _ => by kernel_rfl) ?_
  refine yc ?_
  refine yb ?_
  refine ym ?_
  refine yg ?_
  have S12 := S10.front1
  have S13 := S12.drop
  have he := Option.some.inj D
  subst r
  exact yl z (.int .i64 1) z ⟨I8, rfl, L9, S13⟩
def chain_Chain_Live_zero  : Option (List Int) := (chain_Chain_dead_zero).bind (fun (r6 : Bool) => some ([] : List Int))
theorem chain_Chain_Live_zero_ok {b_p0 : Nat} (hS : St E w I ((Gv.one b_p0 (.cells #[(.map none), (.int .i64 0), (.map none), (.map none)] 27 (0, 0))) :: Os)) {r : (List Int)} (D : chain_Chain_Live_zero = some r) :
    Calls P 8 #[(.pointer (some ⟨b_p0, 0, none⟩))] w (fun e w' => ∃ (I' : Mem) (ra0 : Option Addr) (rc0 : Nat), e = .returned (.slice ra0 r.length rc0) ∧ I.Le I' ∧ St E w' I' ((Gv.one b_p0 (.cells #[(.map none), (.int .i64 0), (.map none), (.map none)] 27 (0, 0))) :: Os) ∧ RSl 1 (RInt .i64) I' ra0 rc0 r) := by
  refine calls_W (args := [(.pointer (some ⟨b_p0, 0, none⟩))]) (fn := Try.f8) rfl rfl rfl ?_
  unfold chain_Chain_Live_zero at D
  refine W.seq ?_
  refine W.region (l := [0]) kr ?_
  refine ya [(0, 2, (.slice none 0 0))] kr (fun _ => by kernel_rfl) ?_
  refine yc ?_
  refine yb ?_
  refine W.seq ?_
  refine W.seq ?_
  refine W.region (l := [0, 1]) kr ?_
  refine ya [(0, 3, (.pointer (some ⟨b_p0, 0, none⟩)))] kr (fun _ => by kernel_rfl) ?_
  obtain ⟨r6, Xr1, D⟩ := bind_some D
  obtain rfl : true = r6 := Option.some.inj Xr1
  refine yj z kr z (f := 14) (args := #[(.pointer (some ⟨b_p0, 0, none⟩))]) kr (chain_Chain_dead_zero_ok  hS Xr1) ?_
  rintro _ w2 ⟨I3, rfl, L4, S5⟩
  refine ⟨_, rfl, trivial, ?_⟩
  refine yc ?_
  refine yb ?_
  refine W.cond (b := true) z z (fun G => ?_) (fun G => ?_)
  rotate_left
  · cases G
  clear G
  refine W.seq ?_
  refine W.region (l := [0]) kr ?_
  refine ya [(0, 2, (.slice none 0 0))] kr (fun _ => by kernel_rfl) ?_
  refine yc ?_
  refine yb ?_
  refine ym ?_
  refine yg ?_
  have he := Option.some.inj D
  subst r
  exact yl z (.slice none 0 0) z ⟨I3, none, 0, rfl, L4, S5, SlAt.nil⟩
def chain_Chain_Hear_zero (p1 : Int) : Option (List By8) := (chain_Chain_check_zero p1).bind (fun (r6 : Int) => some ([] : List By8))
theorem chain_Chain_Hear_zero_ok {p1 : Int} {b_p0 : Nat} (hS : St E w I ((Gv.one b_p0 (.cells #[(.map none), (.int .i64 0), (.map none), (.map none)] 27 (0, 0))) :: Os)) {r : (List By8)} (D : chain_Chain_Hear_zero p1 = some r) :
    Calls P 9 #[(.pointer (some ⟨b_p0, 0, none⟩)), (.int .i64 p1)] w (fun e w' => ∃ (I' : Mem) (ra0 : Option Addr) (rc0 : Nat), e = .returned (.slice ra0 r.length rc0) ∧ I.Le I' ∧ St E w' I' ((Gv.one b_p0 (.cells #[(.map none), (.int .i64 0), (.map none), (.map none)] 27 (0, 0))) :: Os) ∧ RSl 1 RStr I' ra0 rc0 r) := by
  refine calls_W (args := [(.pointer (some ⟨b_p0, 0, none⟩)), (.int .i64 p1)]) (fn := Try.f9) rfl rfl rfl ?_
  unfold chain_Chain_Hear_zero at D
  refine W.seq ?_
  refine W.region (l := [0]) kr ?_
  refine ya [(0, 4, (.slice none 0 0))] kr (fun _ => by kernel_rfl) ?_
  refine yc ?_
  refine yb ?_
  refine W.seq ?_
  refine W.seq ?_
  refine W.region (l := [0, 1, 2, 3]) kr ?_
  refine ya [(0, 6, (.pointer (some ⟨b_p0, 0, none⟩))), (1, 7, (.int .i64 p1))] kr (fun _ => by kernel_rfl) ?_
  obtain ⟨r6, Xr1, D⟩ := bind_some D
  obtain rfl : 1 = r6 := Option.some.inj Xr1
  refine yj z kr z (f := 13) (args := #[(.pointer (some ⟨b_p0, 0, none⟩)), (.int .i64 p1)]) kr (chain_Chain_check_zero_ok  hS Xr1) ?_
  rintro _ w2 ⟨I3, rfl, L4, S5⟩
  refine ⟨_, rfl, trivial, ?_⟩
  refine ya [(3, 9, (.bool true))] kr (fun _ => by kernel_rfl) ?_
  refine yc ?_
  refine yb ?_
  refine W.cond (b := true) z z (fun G => ?_) (fun G => ?_)
  rotate_left
  · cases G
  clear G
  refine W.seq ?_
  refine W.region (l := [0]) kr ?_
  refine ya [(0, 4, (.slice none 0 0))] kr (fun _ => by kernel_rfl) ?_
  refine yc ?_
  refine yb ?_
  refine ym ?_
  refine yg ?_
  have he := Option.some.inj D
  subst r
  exact yl z (.slice none 0 0) z ⟨I3, none, 0, rfl, L4, S5, SlAt.nil⟩
def chain_Chain_Now_zero  : Option qC := (chain_Chain_dead_zero).bind (fun (r11 : Bool) => some z_qC)
theorem chain_Chain_Now_zero_ok {b_p0 : Nat} (hS : St E w I ((Gv.one b_p0 (.cells #[(.map none), (.int .i64 0), (.map none), (.map none)] 27 (0, 0))) :: Os)) {r : qC} (D : chain_Chain_Now_zero = some r) :
    Calls P 11 #[(.pointer (some ⟨b_p0, 0, none⟩))] w (fun e w' => ∃ (I' : Mem) (w_rw0 : W_qC), e = .returned (vC r w_rw0) ∧ I.Le I' ∧ St E w' I' ((Gv.one b_p0 (.cells #[(.map none), (.int .i64 0), (.map none), (.map none)] 27 (0, 0))) :: Os) ∧ ok_qC I' r w_rw0) := by
  refine calls_W (args := [(.pointer (some ⟨b_p0, 0, none⟩))]) (fn := Try.f11) rfl rfl rfl ?_
  unfold chain_Chain_Now_zero at D
  refine W.seq ?_
  refine W.region (l := [0]) kr ?_
  refine yu hS z kr z (.cells (cs_qC z_qC zw_qC).toArray 36 (0, 0)) (fun b => .pointer (some ⟨b, 0, none⟩)) kr tv ?_
  intro b1 w4 S3
  refine yc ?_
  refine yb ?_
  refine W.seq ?_
  refine W.seq ?_
  refine W.region (l := [0, 1]) kr ?_
  refine ya [(0, 3, (.pointer (some ⟨b_p0, 0, none⟩)))] kr (fun _ => by kernel_rfl) ?_
  have S5 := S3.front1
  obtain ⟨r11, Xr6, D⟩ := bind_some D
  obtain rfl : true = r11 := Option.some.inj Xr6
  refine yj z kr z (f := 14) (args := #[(.pointer (some ⟨b_p0, 0, none⟩))]) kr (chain_Chain_dead_zero_ok  S5 Xr6) ?_
  rintro _ w7 ⟨I8, rfl, L9, S10⟩
  refine ⟨_, rfl, trivial, ?_⟩
  refine yc ?_
  refine yb ?_
  refine W.cond (b := true) z z (fun G => ?_) (fun G => ?_)
  rotate_left
  · cases G
  clear G
  refine W.seq ?_
  refine W.region (l := [0, 1]) kr ?_
  refine ya [(0, 5, (vC z_qC zw_qC))] kr (fun _ => by kernel_rfl) ?_
  have S12 := S10.front1
  refine yr S12 z kr z 0 z z kr kr kr ((cs_qC z_qC zw_qC).toArray) kr tv ?_
  intro w14 S13
  refine yc ?_
  refine yb ?_
  refine ym ?_
  refine yg ?_
  have S15 := S13.drop
  have he := Option.some.inj D
  subst r
  exact yan z (vC z_qC zw_qC) ⟨_, _, rfl, run_loadVarN (cs := (cs_qC z_qC zw_qC)) kr kr (cells_one (S13.rd (List.Mem.head _)) kr)⟩ ⟨I8, zw_qC, rfl, L9, S15, zok_qC⟩
noncomputable def law22_ChainNone (p0 : Int) (p1 : Int) : Option Bool := (chain_Chain_Pin_nil p0).bind (fun ((r14, r15) : Int × Int) => (chain_Chain_At_nil p0).bind (fun ((r21, r22) : qC × Bool) => (chain_Chain_Unpin_nil p0).bind (fun (r34 : Int) => ((bif (r34 != 1) then some true else (chain_Chain_Publish_nil ({ z_qC with Version := p1 })).bind (fun (r46 : Int) => some false))).bind (fun (j35 : Bool) => ((bif j35 then some true else (chain_Chain_Live_nil).bind (fun (r59 : List Int) => (chain_Chain_Hear_nil p0).bind (fun (r65 : List By8) => some ((w64 ((([] : List Int).length : Int) + (r65.length : Int))) != 0))))).bind (fun (j50 : Bool) => ((bif j50 then some true else (chain_Chain_Now_nil).bind (fun (r77 : qC) => (r17_Same r77 z_qC).bind (fun (r83 : Bool) => some (!r83))))).bind (fun (j68 : Bool) => (bif j68 then some false else (chain_Chain_Pin_zero p0).bind (fun ((r94, r95) : Int × Int) => (chain_Chain_At_zero p0).bind (fun ((r101, r102) : qC × Bool) => (chain_Chain_Unpin_zero p0).bind (fun (r115 : Int) => ((bif (r115 != 1) then some true else (chain_Chain_Publish_zero ({ z_qC with Version := p1 })).bind (fun (r128 : Int) => some false))).bind (fun (j116 : Bool) => ((bif j116 then some true else (chain_Chain_Live_zero).bind (fun (r142 : List Int) => (chain_Chain_Hear_zero p0).bind (fun (r148 : List By8) => some ((w64 ((([] : List Int).length : Int) + (r148.length : Int))) != 0))))).bind (fun (j133 : Bool) => ((bif j133 then some true else (chain_Chain_Now_zero).bind (fun (r161 : qC) => (r17_Same r161 z_qC).bind (fun (r167 : Bool) => some (!r167))))).bind (fun (j151 : Bool) => (bif j151 then some false else (law22_works).bind (fun (r178 : Bool) => some r178)))))))))))))))
theorem law22_ChainNone_ok {p0 : Int} {p1 : Int} (hS : St E w I Os) {r : Bool} (D : law22_ChainNone p0 p1 = some r) :
    Calls P 3 #[(.int .i64 p0), (.int .i64 p1)] w (fun e w' => ∃ (I' : Mem), e = .returned (.bool r) ∧ I.Le I' ∧ St E w' I' Os) := by
  refine calls_W (args := [(.int .i64 p0), (.int .i64 p1)]) (fn := Try.f3) rfl rfl rfl ?_
  unfold law22_ChainNone at D
  refine W.seq ?_
  refine W.region (l := [0]) kr ?_
  refine ya [(0, 4, (.bool false))] kr (fun _ => by kernel_rfl) ?_
  refine yc ?_
  refine yb ?_
  refine W.seq ?_
  refine W.region (l := [0]) kr ?_
  refine ya [(0, 5, (.pointer none))] kr (fun _ => by kernel_rfl) ?_
  refine yc ?_
  refine yb ?_
  refine W.seq ?_
  refine W.region (l := [0, 1, 2, 3, 4]) kr ?_
  refine ya [(0, 13, (.pointer none)), (1, 14, (.agg #[(.map none), (.int .i64 0), (.map none), (.map none)]))] kr (fun _ => by kernel_rfl) ?_
  refine yu hS z kr z (.cells #[(.map none), (.int .i64 0), (.map none), (.map none)] 27 (0, 0)) (fun b => .pointer (some ⟨b, 0, none⟩)) kr tv ?_
  intro b1 w4 S3
  refine yu S3 z kr z (.cells #[(.pointer none), (.pointer (some ⟨b1, 0, none⟩))] 22 (0, 0)) (fun b => .slice (some ⟨b, 0, none⟩) 2 2) kr tv ?_
  intro b5 w8 S7
  refine ya [(4, 6, (.slice (some ⟨b5, 0, none⟩) 2 2))] kr (fun _ => by kernel_rfl) ?_
  refine yc ?_
  refine yb ?_
  refine W.seq ?_
  refine W.seq ?_
  refine W.region (l := [0]) kr ?_
  refine ya [(0, 7, (.int .i64 0))] kr (fun _ => by kernel_rfl) ?_
  refine yc ?_
  refine yb ?_
  refine yq ?_
  refine W.unroll 2 ?_
  refine W.seq ?_
  refine W.seq ?_
  refine W.region (l := [0, 1, 2, 3]) kr ?_
  refine ya [(0, 17, (.int .i64 0)), (1, 18, (.slice (some ⟨b5, 0, none⟩) 2 2)), (2, 19, (.int .i64 2)), (3, 20, (.bool true))] kr (fun _ => by kernel_rfl) ?_
  refine yc ?_
  refine yb ?_
  refine W.cond (b := true) z z (fun G => ?_) (fun G => ?_)
  rotate_left
  · cases G
  clear G
  refine W.skip ?_
  refine yb ?_
  refine W.seq ?_
  refine yq ?_
  refine W.seq ?_
  refine W.region (l := [0, 1, 2, 3, 4]) kr ?_
  refine ya [(0, 23, (.slice (some ⟨b5, 0, none⟩) 2 2)), (1, 24, (.int .i64 0))] kr (fun _ => by kernel_rfl) ?_
  refine yh (e := 22) (sz := 1) z kr kr kr z (rfl : ((some ⟨b5, 0, none⟩) : Option Addr) = _) z (by decide) (by decide) ?_
  refine ye 25 z (show _ = Value.pointer (some ⟨b5, 0, none⟩) by kernel_rfl) ?_
  refine yf z kr kr z (v := (.pointer none)) (fun w' hw' => cell_one ((rd_f (S7.rd (List.Mem.head _))) w' hw') kr) ?_
  refine ya [(4, 8, (.pointer none))] kr (fun _ => by kernel_rfl) ?_
  refine yc ?_
  refine yb ?_
  refine W.seq ?_
  refine W.region (l := [0, 1, 2, 3, 4, 5, 6, 7]) kr ?_
  refine ya [(0, 28, (.pointer none)), (1, 29, (.int .i64 p0))] kr (fun _ => by kernel_rfl) ?_
  obtain ⟨⟨r14, r15⟩, Xr9, D⟩ := bind_some D
  obtain rfl : 0 = r14 := congrArg (fun t => t.1) (Option.some.inj (show some ((0 : Int), (1 : Int)) = some (r14, r15) from Xr9))
  obtain rfl : 1 = r15 := congrArg (fun t => t.2) (Option.some.inj (show some ((0 : Int), (1 : Int)) = some (0, r15) from Xr9))
  refine yj z kr z (f := 4) (args := #[(.pointer none), (.int .i64 p0)]) kr (chain_Chain_Pin_nil_ok  S7 Xr9) ?_
  rintro _ w10 ⟨I11, rfl, L12, S13⟩
  refine ⟨_, rfl, trivial, ?_⟩
  refine ya [(3, 27, (.tuple #[(.int .i64 0), (.int .i64 1)])), (4, 31, (.int .i64 0)), (5, 32, (.int .i64 1)), (6, 9, (.int .i64 0)), (7, 10, (.int .i64 1))] kr (fun _ => by kernel_rfl) ?_
  refine yc ?_
  refine yb ?_
  refine W.seq ?_
  refine W.region (l := [0, 1, 2, 3, 4, 5, 6, 7, 8]) kr ?_
  refine ya [(0, 34, (.pointer none)), (1, 35, (.int .i64 p0))] kr (fun _ => by kernel_rfl) ?_
  obtain ⟨⟨r21, r22⟩, Xr16, D⟩ := bind_some D
  obtain rfl : false = r22 := congrArg (fun t => t.2) (Option.some.inj (show some (_, false) = some (r21, r22) from Xr16))
  refine yj z kr z (f := 5) (args := #[(.pointer none), (.int .i64 p0)]) kr (chain_Chain_At_nil_ok  S13 Xr16) ?_
  rintro _ w17 ⟨I18, w_r21, rfl, L19, S20, h_r21⟩
  refine ⟨_, rfl, trivial, ?_⟩
  refine ya [(3, 33, (.tuple #[(vC r21 w_r21), (.bool false)])), (4, 37, (vC r21 w_r21)), (5, 38, (.bool false))] kr (fun _ => by kernel_rfl) ?_
  refine yu S20 z kr z (.cells (cs_qC z_qC zw_qC).toArray 36 (0, 0)) (fun b => .pointer (some ⟨b, 0, none⟩)) kr tv ?_
  intro b23 w26 S25
  refine yr S25 z kr z 0 z z kr kr kr ((cs_qC r21 w_r21).toArray) kr tv ?_
  intro w28 S27
  refine ya [(8, 12, (.bool false))] kr (fun _ => by kernel_rfl) ?_
  refine yc ?_
  refine yb ?_
  refine W.seq ?_
  refine W.region (l := [0, 1, 2, 3, 4, 5, 6, 7, 8, 9, 10, 11, 12, 13, 14, 15, 16, 17, 18, 19, 20, 21, 22, 23, 24, 25, 26, 27, 28, 29, 30, 31, 32, 33, 34, 35, 36, 37, 38, 39]) kr ?_
  refine ya [(0, 39, (.int .i64 0)), (1, 40, (.bool false)), (2, 41, (.bool false)), (3, 42, (.int .i64 1)), (4, 43, (.bool false)), (5, 44, (.bool false)), (6, 45, (.bool false)), (7, 46, (.bool false)), (8, 47, (.bool false)), (9, 48, (.bool false)), (10, 49, (.pointer none)), (11, 50, (.int .i64 p0))] kr (fun _ => by kernel_rfl) ?_
  obtain ⟨r34, Xr29, D⟩ := bind_some D
  refine yj z kr z (f := 6) (args := #[(.pointer none), (.int .i64 p0)]) kr (chain_Chain_Unpin_nil_ok  S27 Xr29) ?_
  rintro _ w30 ⟨I31, rfl, L32, S33⟩
  refine ⟨_, rfl, trivial, ?_⟩
  refine ya [(13, 52, (.bool (r34 != 1))), (14, 53, (.bool (r34 != 1))), (15, 54, (.bool (r34 != 1)))] kr (fun _ => by kernel_rfl) ?_
  obtain ⟨j35, R1, D⟩ := bind_some D
  refine WO.join (l1 := [16, 17, 18, 19, 20, 21]) (l2 := [22, 23, 24, 25, 26, 27, 28, 29, 30, 31, 32, 33, 34, 35, 36, 37, 38, 39]) (J := (fun fr w => ∃ (I37 : Mem), fr = [(0, (.int .i64 p0)), (1, (.int .i64 p1)), (6, (.slice (some ⟨b5, 0, none⟩) 2 2)), (7, (.int .i64 0)), (8, (.pointer none)), (60, (.bool j35))] ∧ I31.Le I37 ∧ St E w I37 ((Gv.one b5 (.cells #[(.pointer none), (.pointer (some ⟨b1, 0, none⟩))] 22 (0, 0))) :: (Gv.one b1 (.cells #[(.map none), (.int .i64 0), (.map none), (.map none)] 27 (0, 0))) :: Os))) ?restj35 ?waysj35
  case waysj35 =>
    refine yt (r34 != 1) (fun G => ?_) (fun G => ?_)
    · replace R1 := cond_t G R1
      refine ye 54 z (show Value.bool (r34 != 1) = Value.bool true by rw [G]) ?_
      refine yd z kr z ?_
      refine yd z kr z ?_
      refine yd z kr z ?_
      refine yd z kr z ?_
      refine yd z kr z ?_
      refine ya [(21, 60, (.bool true))] kr (fun _ => by kernel_rfl) ?_
      have S39 := S33.drop
      have he := Option.some.inj R1
      subst j35
      refine WO.weaken (fr' := [(0, (.int .i64 p0)), (1, (.int .i64 p1)), (6, (.slice (some ⟨b5, 0, none⟩) 2 2)), (7, (.int .i64 0)), (8, (.pointer none)), (60, (.bool true))]) (yi ⟨I31, rfl, Mem.Le.refl _, S39⟩) (Sub.cons z (Sub.cons z (Sub.cons z (Sub.cons z (Sub.cons z (Sub.cons z Sub.nil))))))
    · replace R1 := cond_f G R1
      refine ye 54 z (show Value.bool (r34 != 1) = Value.bool false by rw [G]) ?_
      refine ya [(16, 55, (.pointer none)), (17, 56, (.int .i64 p1)), (18, 57, (.agg (cs_qC ({ z_qC with Version := p1 }) zw_qC).toArray))] kr (fun _ => by kernel_rfl) ?_
      have hk40 : ok_qC I31 ({ z_qC with Version := p1 }) zw_qC := ⟨SlAt.nil, SlAt.nil, SlAt.nil⟩
      obtain ⟨r46, Xr41, R1⟩ := bind_some R1
      obtain rfl : 1 = r46 := Option.some.inj Xr41
      refine yj z kr z (f := 7) (args := #[(.pointer none), (.agg (cs_qC ({ z_qC with Version := p1 }) zw_qC).toArray)]) kr (chain_Chain_Publish_nil_ok hk40 S33 Xr41) ?_
      rintro _ w42 ⟨I43, rfl, L44, S45⟩
      refine ⟨_, rfl, trivial, ?_⟩
      refine ya [(20, 59, (.bool false)), (21, 60, (.bool false))] kr (fun _ => by kernel_rfl) ?_
      have S47 := S45.drop
      have he := Option.some.inj R1
      subst j35
      refine WO.weaken (fr' := [(0, (.int .i64 p0)), (1, (.int .i64 p1)), (6, (.slice (some ⟨b5, 0, none⟩) 2 2)), (7, (.int .i64 0)), (8, (.pointer none)), (60, (.bool false))]) (yi ⟨I43, rfl, L44, S47⟩) (Sub.cons z (Sub.cons z (Sub.cons z (Sub.cons z (Sub.cons z (Sub.cons z Sub.nil))))))
  case restj35 =>
    rintro _ w48 ⟨I37, rfl, L38, S49⟩
    refine ya [(22, 61, (.bool j35))] kr (fun _ => by kernel_rfl) ?_
    obtain ⟨j50, R1, D⟩ := bind_some D
    refine WO.join (l1 := [23, 24, 25, 26, 27, 28, 29, 30, 31, 32]) (l2 := [33, 34, 35, 36, 37, 38, 39]) (J := (fun fr w => ∃ (I52 : Mem), fr = [(0, (.int .i64 p0)), (1, (.int .i64 p1)), (6, (.slice (some ⟨b5, 0, none⟩) 2 2)), (7, (.int .i64 0)), (8, (.pointer none)), (71, (.bool j50))] ∧ I37.Le I52 ∧ St E w I52 ((Gv.one b5 (.cells #[(.pointer none), (.pointer (some ⟨b1, 0, none⟩))] 22 (0, 0))) :: (Gv.one b1 (.cells #[(.map none), (.int .i64 0), (.map none), (.map none)] 27 (0, 0))) :: Os))) ?restj50 ?waysj50
    case waysj50 =>
      refine yt j35 (fun G => ?_) (fun G => ?_)
      · replace R1 := cond_t G R1
        refine ye 61 z (show Value.bool j35 = Value.bool true by rw [G]) ?_
        refine yd z kr z ?_
        refine yd z kr z ?_
        refine yd z kr z ?_
        refine yd z kr z ?_
        refine yd z kr z ?_
        refine yd z kr z ?_
        refine yd z kr z ?_
        refine yd z kr z ?_
        refine yd z kr z ?_
        refine ya [(32, 71, (.bool true))] kr (fun _ => by kernel_rfl) ?_
        have he := Option.some.inj R1
        subst j50
        refine WO.weaken (fr' := [(0, (.int .i64 p0)), (1, (.int .i64 p1)), (6, (.slice (some ⟨b5, 0, none⟩) 2 2)), (7, (.int .i64 0)), (8, (.pointer none)), (71, (.bool true))]) (yi ⟨I37, rfl, Mem.Le.refl _, S49⟩) (Sub.cons z (Sub.cons z (Sub.cons z (Sub.cons z (Sub.cons z (Sub.cons z Sub.nil))))))
      · replace R1 := cond_f G R1
        refine ye 61 z (show Value.bool j35 = Value.bool false by rw [G]) ?_
        refine ya [(23, 62, (.pointer none))] kr (fun _ => by kernel_rfl) ?_
        obtain ⟨r59, Xr54, R1⟩ := bind_some R1
        obtain rfl : ([] : List Int) = r59 := Option.some.inj Xr54
        refine yj z kr z (f := 8) (args := #[(.pointer none)]) kr (chain_Chain_Live_nil_ok  S49 Xr54) ?_
        rintro _ w55 ⟨I56, a_r59, c_r59, rfl, L57, S58, h_r59⟩
        refine ⟨_, rfl, trivial, ?_⟩
        refine ya [(25, 64, (.int .i64 (([] : List Int).length : Int))), (26, 65, (.pointer none)), (27, 66, (.int .i64 p0))] kr (fun _ => by kernel_rfl) ?_
        obtain ⟨r65, Xr60, R1⟩ := bind_some R1
        refine yj z kr z (f := 9) (args := #[(.pointer none), (.int .i64 p0)]) kr (chain_Chain_Hear_nil_ok  S58 Xr60) ?_
        rintro _ w61 ⟨I62, a_r65, c_r65, rfl, L63, S64, h_r65⟩
        refine ⟨_, rfl, trivial, ?_⟩
        refine ya [(29, 68, (.int .i64 (r65.length : Int))), (30, 69, (.int .i64 (w64 ((([] : List Int).length : Int) + (r65.length : Int))))), (31, 70, (.bool ((w64 ((([] : List Int).length : Int) + (r65.length : Int))) != 0))), (32, 71, (.bool ((w64 ((([] : List Int).length : Int) + (r65.length : Int))) != 0)))] kr (fun _ => by kernel_rfl) ?_
        have he := Option.some.inj R1
        subst j50
        refine WO.weaken (fr' := [(0, (.int .i64 p0)), (1, (.int .i64 p1)), (6, (.slice (some ⟨b5, 0, none⟩) 2 2)), (7, (.int .i64 0)), (8, (.pointer none)), (71, (.bool ((w64 ((([] : List Int).length : Int) + (r65.length : Int))) != 0)))]) (yi ⟨I62, rfl, (L57.trans L63), S64⟩) (Sub.cons z (Sub.cons z (Sub.cons z (Sub.cons z (Sub.cons z (Sub.cons z Sub.nil))))))
    case restj50 =>
      rintro _ w66 ⟨I52, rfl, L53, S67⟩
      refine ya [(33, 72, (.bool j50))] kr (fun _ => by kernel_rfl) ?_
      obtain ⟨j68, R1, D⟩ := bind_some D
      refine WO.join (l1 := [34, 35, 36, 37, 38, 39]) (l2 := []) (J := (fun fr w => ∃ (I70 : Mem), fr = [(0, (.int .i64 p0)), (1, (.int .i64 p1)), (6, (.slice (some ⟨b5, 0, none⟩) 2 2)), (7, (.int .i64 0)), (78, (.bool j68))] ∧ I52.Le I70 ∧ St E w I70 ((Gv.one b5 (.cells #[(.pointer none), (.pointer (some ⟨b1, 0, none⟩))] 22 (0, 0))) :: (Gv.one b1 (.cells #[(.map none), (.int .i64 0), (.map none), (.map none)] 27 (0, 0))) :: Os))) ?restj68 ?waysj68
      case waysj68 =>
        refine yt j50 (fun G => ?_) (fun G => ?_)
        · replace R1 := cond_t G R1
          refine ye 72 z (show Value.bool j50 = Value.bool true by rw [G]) ?_
          refine yd z kr z ?_
          refine yd z kr z ?_
          refine yd z kr z ?_
          refine yd z kr z ?_
          refine yd z kr z ?_
          refine ya [(39, 78, (.bool true))] kr (fun _ => by kernel_rfl) ?_
          have he := Option.some.inj R1
          subst j68
          refine WO.weaken (fr' := [(0, (.int .i64 p0)), (1, (.int .i64 p1)), (6, (.slice (some ⟨b5, 0, none⟩) 2 2)), (7, (.int .i64 0)), (78, (.bool true))]) (yi ⟨I52, rfl, Mem.Le.refl _, S67⟩) (Sub.cons z (Sub.cons z (Sub.cons z (Sub.cons z (Sub.cons z Sub.nil)))))
        · replace R1 := cond_f G R1
          refine ye 72 z (show Value.bool j50 = Value.bool false by rw [G]) ?_
          refine ya [(34, 73, (.pointer none))] kr (fun _ => by kernel_rfl) ?_
          obtain ⟨r77, Xr72, R1⟩ := bind_some R1
          refine yj z kr z (f := 11) (args := #[(.pointer none)]) kr (chain_Chain_Now_nil_ok  S67 Xr72) ?_
          rintro _ w73 ⟨I74, w_r77, rfl, L75, S76, h_r77⟩
          refine ⟨_, rfl, trivial, ?_⟩
          refine ya [(36, 75, (vC z_qC zw_qC))] kr (fun _ => by kernel_rfl) ?_
          obtain ⟨r83, Xr78, R1⟩ := bind_some R1
          refine yj z kr z (f := 10) (args := #[(vC r77 w_r77), (vC z_qC zw_qC)]) kr (r17_Same_ok h_r77 zok_qC S76 Xr78) ?_
          rintro _ w79 ⟨I80, rfl, L81, S82⟩
          refine ⟨_, rfl, trivial, ?_⟩
          refine ya [(38, 77, (.bool (!r83))), (39, 78, (.bool (!r83)))] kr (fun _ => by kernel_rfl) ?_
          have he := Option.some.inj R1
          subst j68
          refine WO.weaken (fr' := [(0, (.int .i64 p0)), (1, (.int .i64 p1)), (6, (.slice (some ⟨b5, 0, none⟩) 2 2)), (7, (.int .i64 0)), (78, (.bool (!r83)))]) (yi ⟨I80, rfl, (L75.trans L81), S82⟩) (Sub.cons z (Sub.cons z (Sub.cons z (Sub.cons z (Sub.cons z Sub.nil)))))
      case restj68 =>
        rintro _ w84 ⟨I70, rfl, L71, S85⟩
        refine yc ?_
        refine yb ?_
        refine W.cond (b := j68) z z (fun G => ?_) (fun G => ?_)
        · replace D := cond_t G D
          refine W.seq ?_
          refine W.region (l := [0]) kr ?_
          refine ya [(0, 4, (.bool false))] kr (fun _ => by kernel_rfl) ?_
          refine yc ?_
          refine yb ?_
          refine ym ?_
          refine yn ?_
          refine yg ?_
          refine En.un_ret ?_
          refine yn ?_
          refine yg ?_
          have S86 := S85.drop
          have S87 := S86.drop
          have he := Option.some.inj D
          subst r
          exact yl z (.bool false) z ⟨I70, rfl, (((((L12.trans L19).trans L32).trans L38).trans L53).trans L71), S87⟩
        · replace D := cond_f G D
          refine W.skip ?_
          refine yo ?_
          refine yb ?_
          refine W.region (l := [0, 1, 2]) kr ?_
          refine ya [(0, 21, (.int .i64 0)), (1, 22, (.int .i64 1)), (2, 7, (.int .i64 1))] kr (fun _ => by kernel_rfl) ?_
          refine yc ?_
          refine En.again ?_
          show W _ _ _ _ _ _
          refine W.seq ?_
          refine W.seq ?_
          refine W.region (l := [0, 1, 2, 3]) kr ?_
          refine ya [(0, 17, (.int .i64 1)), (1, 18, (.slice (some ⟨b5, 0, none⟩) 2 2)), (2, 19, (.int .i64 2)), (3, 20, (.bool true))] kr (fun _ => by kernel_rfl) ?_
          refine yc ?_
          refine yb ?_
          refine W.cond (b := true) z z (fun G => ?_) (fun G => ?_)
          rotate_left
          · cases G
          clear G
          refine W.skip ?_
          refine yb ?_
          refine W.seq ?_
          refine yq ?_
          refine W.seq ?_
          refine W.region (l := [0, 1, 2, 3, 4]) kr ?_
          refine ya [(0, 23, (.slice (some ⟨b5, 0, none⟩) 2 2)), (1, 24, (.int .i64 1))] kr (fun _ => by kernel_rfl) ?_
          refine yh (e := 22) (sz := 1) z kr kr kr z (rfl : ((some ⟨b5, 0, none⟩) : Option Addr) = _) z (by decide) (by decide) ?_
          refine ye 25 z (show _ = Value.pointer (some ⟨b5, 1, none⟩) by kernel_rfl) ?_
          refine yf z kr kr z (v := (.pointer (some ⟨b1, 0, none⟩))) (fun w' hw' => cell_one ((rd_f (S85.rd (List.Mem.head _))) w' hw') kr) ?_
          refine ya [(4, 8, (.pointer (some ⟨b1, 0, none⟩)))] kr (fun _ => by kernel_rfl) ?_
          refine yc ?_
          refine yb ?_
          refine W.seq ?_
          refine W.region (l := [0, 1, 2, 3, 4, 5, 6, 7]) kr ?_
          refine ya [(0, 28, (.pointer (some ⟨b1, 0, none⟩))), (1, 29, (.int .i64 p0))] kr (fun _ => by kernel_rfl) ?_
          have S88 := S85.front1
          obtain ⟨⟨r94, r95⟩, Xr89, D⟩ := bind_some D
          obtain rfl : 0 = r94 := congrArg (fun t => t.1) (Option.some.inj (show some ((0 : Int), (1 : Int)) = some (r94, r95) from Xr89))
          obtain rfl : 1 = r95 := congrArg (fun t => t.2) (Option.some.inj (show some ((0 : Int), (1 : Int)) = some (0, r95) from Xr89))
          refine yj z kr z (f := 4) (args := #[(.pointer (some ⟨b1, 0, none⟩)), (.int .i64 p0)]) kr (chain_Chain_Pin_zero_ok  S88 Xr89) ?_
          rintro _ w90 ⟨I91, rfl, L92, S93⟩
          refine ⟨_, rfl, trivial, ?_⟩
          refine ya [(3, 27, (.tuple #[(.int .i64 0), (.int .i64 1)])), (4, 31, (.int .i64 0)), (5, 32, (.int .i64 1)), (6, 9, (.int .i64 0)), (7, 10, (.int .i64 1))] kr (fun _ => by kernel_rfl) ?_
          refine yc ?_
          refine yb ?_
          refine W.seq ?_
          refine W.region (l := [0, 1, 2, 3, 4, 5, 6, 7, 8]) kr ?_
          refine ya [(0, 34, (.pointer (some ⟨b1, 0, none⟩))), (1, 35, (.int .i64 p0))] kr (fun _ => by kernel_rfl) ?_
          obtain ⟨⟨r101, r102⟩, Xr96, D⟩ := bind_some D
          obtain rfl : false = r102 := congrArg (fun t => t.2) (Option.some.inj (show some (_, false) = some (r101, r102) from Xr96))
          refine yj z kr z (f := 5) (args := #[(.pointer (some ⟨b1, 0, none⟩)), (.int .i64 p0)]) kr (chain_Chain_At_zero_ok  S93 Xr96) ?_
          rintro _ w97 ⟨I98, w_r101, rfl, L99, S100, h_r101⟩
          refine ⟨_, rfl, trivial, ?_⟩
          refine ya [(3, 33, (.tuple #[(vC r101 w_r101), (.bool false)])), (4, 37, (vC r101 w_r101)), (5, 38, (.bool false))] kr (fun _ => by kernel_rfl) ?_
          refine yu S100 z kr z (.cells (cs_qC z_qC zw_qC).toArray 36 (0, 0)) (fun b => .pointer (some ⟨b, 0, none⟩)) kr tv ?_
          intro b103 w106 S105
          refine yr S105 z kr z 0 z z kr kr kr ((cs_qC r101 w_r101).toArray) kr tv ?_
          intro w108 S107
          refine ya [(8, 12, (.bool false))] kr (fun _ => by kernel_rfl) ?_
          refine yc ?_
          refine yb ?_
          refine W.seq ?_
          refine W.region (l := [0, 1, 2, 3, 4, 5, 6, 7, 8, 9, 10, 11, 12, 13, 14, 15, 16, 17, 18, 19, 20, 21, 22, 23, 24, 25, 26, 27, 28, 29, 30, 31, 32, 33, 34, 35, 36, 37, 38, 39]) kr ?_
          refine ya [(0, 39, (.int .i64 0)), (1, 40, (.bool false)), (2, 41, (.bool false)), (3, 42, (.int .i64 1)), (4, 43, (.bool false)), (5, 44, (.bool false)), (6, 45, (.bool false)), (7, 46, (.bool false)), (8, 47, (.bool false)), (9, 48, (.bool false)), (10, 49, (.pointer (some ⟨b1, 0, none⟩))), (11, 50, (.int .i64 p0))] kr (fun _ => by kernel_rfl) ?_
          have S109 := S107.front1
          obtain ⟨r115, Xr110, D⟩ := bind_some D
          refine yj z kr z (f := 6) (args := #[(.pointer (some ⟨b1, 0, none⟩)), (.int .i64 p0)]) kr (chain_Chain_Unpin_zero_ok  S109 Xr110) ?_
          rintro _ w111 ⟨I112, rfl, L113, S114⟩
          refine ⟨_, rfl, trivial, ?_⟩
          refine ya [(13, 52, (.bool (r115 != 1))), (14, 53, (.bool (r115 != 1))), (15, 54, (.bool (r115 != 1)))] kr (fun _ => by kernel_rfl) ?_
          obtain ⟨j116, R1, D⟩ := bind_some D
          refine WO.join (l1 := [16, 17, 18, 19, 20, 21]) (l2 := [22, 23, 24, 25, 26, 27, 28, 29, 30, 31, 32, 33, 34, 35, 36, 37, 38, 39]) (J := (fun fr w => ∃ (I118 : Mem), fr = [(0, (.int .i64 p0)), (1, (.int .i64 p1)), (6, (.slice (some ⟨b5, 0, none⟩) 2 2)), (7, (.int .i64 1)), (8, (.pointer (some ⟨b1, 0, none⟩))), (60, (.bool j116))] ∧ I112.Le I118 ∧ St E w I118 ((Gv.one b1 (.cells #[(.map none), (.int .i64 0), (.map none), (.map none)] 27 (0, 0))) :: (Gv.one b5 (.cells #[(.pointer none), (.pointer (some ⟨b1, 0, none⟩))] 22 (0, 0))) :: Os))) ?restj116 ?waysj116
          case waysj116 =>
            refine yt (r115 != 1) (fun G => ?_) (fun G => ?_)
            · replace R1 := cond_t G R1
              refine ye 54 z (show Value.bool (r115 != 1) = Value.bool true by rw [G]) ?_
              refine yd z kr z ?_
              refine yd z kr z ?_
              refine yd z kr z ?_
              refine yd z kr z ?_
              refine yd z kr z ?_
              refine ya [(21, 60, (.bool true))] kr (fun _ => by kernel_rfl) ?_
              have S120 := S114.front1
              have S121 := S120.drop
              have he := Option.some.inj R1
              subst j116
              refine WO.weaken (fr' := [(0, (.int .i64 p0)), (1, (.int .i64 p1)), (6, (.slice (some ⟨b5, 0, none⟩) 2 2)), (7, (.int .i64 1)), (8, (.pointer (some ⟨b1, 0, none⟩))), (60, (.bool true))]) (yi ⟨I112, rfl, Mem.Le.refl _, S121⟩) (Sub.cons z (Sub.cons z (Sub.cons z (Sub.cons z (Sub.cons z (Sub.cons z Sub.nil))))))
            · replace R1 := cond_f G R1
              refine ye 54 z (show Value.bool (r115 != 1) = Value.bool false by rw [G]) ?_
              refine ya [(16, 55, (.pointer (some ⟨b1, 0, none⟩))), (17, 56, (.int .i64 p1)), (18, 57, (.agg (cs_qC ({ z_qC with Version := p1 }) zw_qC).toArray))] kr (fun _ => by kernel_rfl) ?_
              have hk122 : ok_qC I112 ({ z_qC with Version := p1 }) zw_qC := ⟨SlAt.nil, SlAt.nil, SlAt.nil⟩
              obtain ⟨r128, Xr123, R1⟩ := bind_some R1
              obtain rfl : 1 = r128 := Option.some.inj Xr123
              refine yj z kr z (f := 7) (args := #[(.pointer (some ⟨b1, 0, none⟩)), (.agg (cs_qC ({ z_qC with Version := p1 }) zw_qC).toArray)]) kr (chain_Chain_Publish_zero_ok hk122 S114 Xr123) ?_
              rintro _ w124 ⟨I125, rfl, L126, S127⟩
              refine ⟨_, rfl, trivial, ?_⟩
              refine ya [(20, 59, (.bool false)), (21, 60, (.bool false))] kr (fun _ => by kernel_rfl) ?_
              have S129 := S127.front1
              have S130 := S129.drop
              have he := Option.some.inj R1
              subst j116
              refine WO.weaken (fr' := [(0, (.int .i64 p0)), (1, (.int .i64 p1)), (6, (.slice (some ⟨b5, 0, none⟩) 2 2)), (7, (.int .i64 1)), (8, (.pointer (some ⟨b1, 0, none⟩))), (60, (.bool false))]) (yi ⟨I125, rfl, L126, S130⟩) (Sub.cons z (Sub.cons z (Sub.cons z (Sub.cons z (Sub.cons z (Sub.cons z Sub.nil))))))
          case restj116 =>
            rintro _ w131 ⟨I118, rfl, L119, S132⟩
            refine ya [(22, 61, (.bool j116))] kr (fun _ => by kernel_rfl) ?_
            obtain ⟨j133, R1, D⟩ := bind_some D
            refine WO.join (l1 := [23, 24, 25, 26, 27, 28, 29, 30, 31, 32]) (l2 := [33, 34, 35, 36, 37, 38, 39]) (J := (fun fr w => ∃ (I135 : Mem), fr = [(0, (.int .i64 p0)), (1, (.int .i64 p1)), (6, (.slice (some ⟨b5, 0, none⟩) 2 2)), (7, (.int .i64 1)), (8, (.pointer (some ⟨b1, 0, none⟩))), (71, (.bool j133))] ∧ I118.Le I135 ∧ St E w I135 ((Gv.one b1 (.cells #[(.map none), (.int .i64 0), (.map none), (.map none)] 27 (0, 0))) :: (Gv.one b5 (.cells #[(.pointer none), (.pointer (some ⟨b1, 0, none⟩))] 22 (0, 0))) :: Os))) ?restj133 ?waysj133
            case waysj133 =>
              refine yt j116 (fun G => ?_) (fun G => ?_)
              · replace R1 := cond_t G R1
                refine ye 61 z (show Value.bool j116 = Value.bool true by rw [G]) ?_
                refine yd z kr z ?_
                refine yd z kr z ?_
                refine yd z kr z ?_
                refine yd z kr z ?_
                refine yd z kr z ?_
                refine yd z kr z ?_
                refine yd z kr z ?_
                refine yd z kr z ?_
                refine yd z kr z ?_
                refine ya [(32, 71, (.bool true))] kr (fun _ => by kernel_rfl) ?_
                have he := Option.some.inj R1
                subst j133
                refine WO.weaken (fr' := [(0, (.int .i64 p0)), (1, (.int .i64 p1)), (6, (.slice (some ⟨b5, 0, none⟩) 2 2)), (7, (.int .i64 1)), (8, (.pointer (some ⟨b1, 0, none⟩))), (71, (.bool true))]) (yi ⟨I118, rfl, Mem.Le.refl _, S132⟩) (Sub.cons z (Sub.cons z (Sub.cons z (Sub.cons z (Sub.cons z (Sub.cons z Sub.nil))))))
              · replace R1 := cond_f G R1
                refine ye 61 z (show Value.bool j116 = Value.bool false by rw [G]) ?_
                refine ya [(23, 62, (.pointer (some ⟨b1, 0, none⟩)))] kr (fun _ => by kernel_rfl) ?_
                obtain ⟨r142, Xr137, R1⟩ := bind_some R1
                obtain rfl : ([] : List Int) = r142 := Option.some.inj Xr137
                refine yj z kr z (f := 8) (args := #[(.pointer (some ⟨b1, 0, none⟩))]) kr (chain_Chain_Live_zero_ok  S132 Xr137) ?_
                rintro _ w138 ⟨I139, a_r142, c_r142, rfl, L140, S141, h_r142⟩
                refine ⟨_, rfl, trivial, ?_⟩
                refine ya [(25, 64, (.int .i64 (([] : List Int).length : Int))), (26, 65, (.pointer (some ⟨b1, 0, none⟩))), (27, 66, (.int .i64 p0))] kr (fun _ => by kernel_rfl) ?_
                obtain ⟨r148, Xr143, R1⟩ := bind_some R1
                refine yj z kr z (f := 9) (args := #[(.pointer (some ⟨b1, 0, none⟩)), (.int .i64 p0)]) kr (chain_Chain_Hear_zero_ok  S141 Xr143) ?_
                rintro _ w144 ⟨I145, a_r148, c_r148, rfl, L146, S147, h_r148⟩
                refine ⟨_, rfl, trivial, ?_⟩
                refine ya [(29, 68, (.int .i64 (r148.length : Int))), (30, 69, (.int .i64 (w64 ((([] : List Int).length : Int) + (r148.length : Int))))), (31, 70, (.bool ((w64 ((([] : List Int).length : Int) + (r148.length : Int))) != 0))), (32, 71, (.bool ((w64 ((([] : List Int).length : Int) + (r148.length : Int))) != 0)))] kr (fun _ => by kernel_rfl) ?_
                have he := Option.some.inj R1
                subst j133
                refine WO.weaken (fr' := [(0, (.int .i64 p0)), (1, (.int .i64 p1)), (6, (.slice (some ⟨b5, 0, none⟩) 2 2)), (7, (.int .i64 1)), (8, (.pointer (some ⟨b1, 0, none⟩))), (71, (.bool ((w64 ((([] : List Int).length : Int) + (r148.length : Int))) != 0)))]) (yi ⟨I145, rfl, (L140.trans L146), S147⟩) (Sub.cons z (Sub.cons z (Sub.cons z (Sub.cons z (Sub.cons z (Sub.cons z Sub.nil))))))
            case restj133 =>
              rintro _ w149 ⟨I135, rfl, L136, S150⟩
              refine ya [(33, 72, (.bool j133))] kr (fun _ => by kernel_rfl) ?_
              obtain ⟨j151, R1, D⟩ := bind_some D
              refine WO.join (l1 := [34, 35, 36, 37, 38, 39]) (l2 := []) (J := (fun fr w => ∃ (I153 : Mem), fr = [(0, (.int .i64 p0)), (1, (.int .i64 p1)), (6, (.slice (some ⟨b5, 0, none⟩) 2 2)), (7, (.int .i64 1)), (78, (.bool j151))] ∧ I135.Le I153 ∧ St E w I153 ((Gv.one b5 (.cells #[(.pointer none), (.pointer (some ⟨b1, 0, none⟩))] 22 (0, 0))) :: (Gv.one b1 (.cells #[(.map none), (.int .i64 0), (.map none), (.map none)] 27 (0, 0))) :: Os))) ?restj151 ?waysj151
              case waysj151 =>
                refine yt j133 (fun G => ?_) (fun G => ?_)
                · replace R1 := cond_t G R1
                  refine ye 72 z (show Value.bool j133 = Value.bool true by rw [G]) ?_
                  refine yd z kr z ?_
                  refine yd z kr z ?_
                  refine yd z kr z ?_
                  refine yd z kr z ?_
                  refine yd z kr z ?_
                  refine ya [(39, 78, (.bool true))] kr (fun _ => by kernel_rfl) ?_
                  have S155 := S150.front1
                  have he := Option.some.inj R1
                  subst j151
                  refine WO.weaken (fr' := [(0, (.int .i64 p0)), (1, (.int .i64 p1)), (6, (.slice (some ⟨b5, 0, none⟩) 2 2)), (7, (.int .i64 1)), (78, (.bool true))]) (yi ⟨I135, rfl, Mem.Le.refl _, S155⟩) (Sub.cons z (Sub.cons z (Sub.cons z (Sub.cons z (Sub.cons z Sub.nil)))))
                · replace R1 := cond_f G R1
                  refine ye 72 z (show Value.bool j133 = Value.bool false by rw [G]) ?_
                  refine ya [(34, 73, (.pointer (some ⟨b1, 0, none⟩)))] kr (fun _ => by kernel_rfl) ?_
                  obtain ⟨r161, Xr156, R1⟩ := bind_some R1
                  refine yj z kr z (f := 11) (args := #[(.pointer (some ⟨b1, 0, none⟩))]) kr (chain_Chain_Now_zero_ok  S150 Xr156) ?_
                  rintro _ w157 ⟨I158, w_r161, rfl, L159, S160, h_r161⟩
                  refine ⟨_, rfl, trivial, ?_⟩
                  refine ya [(36, 75, (vC z_qC zw_qC))] kr (fun _ => by kernel_rfl) ?_
                  obtain ⟨r167, Xr162, R1⟩ := bind_some R1
                  refine yj z kr z (f := 10) (args := #[(vC r161 w_r161), (vC z_qC zw_qC)]) kr (r17_Same_ok h_r161 zok_qC S160 Xr162) ?_
                  rintro _ w163 ⟨I164, rfl, L165, S166⟩
                  refine ⟨_, rfl, trivial, ?_⟩
                  refine ya [(38, 77, (.bool (!r167))), (39, 78, (.bool (!r167)))] kr (fun _ => by kernel_rfl) ?_
                  have S168 := S166.front1
                  have he := Option.some.inj R1
                  subst j151
                  refine WO.weaken (fr' := [(0, (.int .i64 p0)), (1, (.int .i64 p1)), (6, (.slice (some ⟨b5, 0, none⟩) 2 2)), (7, (.int .i64 1)), (78, (.bool (!r167)))]) (yi ⟨I164, rfl, (L159.trans L165), S168⟩) (Sub.cons z (Sub.cons z (Sub.cons z (Sub.cons z (Sub.cons z Sub.nil)))))
              case restj151 =>
                rintro _ w169 ⟨I153, rfl, L154, S170⟩
                refine yc ?_
                refine yb ?_
                refine W.cond (b := j151) z z (fun G => ?_) (fun G => ?_)
                · replace D := cond_t G D
                  refine W.seq ?_
                  refine W.region (l := [0]) kr ?_
                  refine ya [(0, 4, (.bool false))] kr (fun _ => by kernel_rfl) ?_
                  refine yc ?_
                  refine yb ?_
                  refine ym ?_
                  refine yn ?_
                  refine yg ?_
                  refine En.un_ret ?_
                  refine yn ?_
                  refine yg ?_
                  have S171 := S170.drop
                  have S172 := S171.drop
                  have he := Option.some.inj D
                  subst r
                  exact yl z (.bool false) z ⟨I153, rfl, (((((((((((L12.trans L19).trans L32).trans L38).trans L53).trans L71).trans L92).trans L99).trans L113).trans L119).trans L136).trans L154), S172⟩
                · replace D := cond_f G D
                  refine W.skip ?_
                  refine yo ?_
                  refine yb ?_
                  refine W.region (l := [0, 1, 2]) kr ?_
                  refine ya [(0, 21, (.int .i64 1)), (1, 22, (.int .i64 2)), (2, 7, (.int .i64 2))] kr (fun _ => by kernel_rfl) ?_
                  refine yc ?_
                  refine En.again ?_
                  show W _ _ _ _ _ _
                  refine W.seq ?_
                  refine W.seq ?_
                  refine W.region (l := [0, 1, 2, 3]) kr ?_
                  refine ya [(0, 17, (.int .i64 2)), (1, 18, (.slice (some ⟨b5, 0, none⟩) 2 2)), (2, 19, (.int .i64 2)), (3, 20, (.bool false))] kr (fun _ => by kernel_rfl) ?_
                  refine yc ?_
                  refine yb ?_
                  refine W.cond (b := false) z z (fun G => ?_) (fun G => ?_)
                  · cases G
                  clear G
                  refine W.exit ?_
                  refine yw ?_
                  refine En.un_exit ?_
                  refine y0 ?_
                  refine yb ?_
                  refine W.seq ?_
                  refine W.region (l := [0, 1]) kr ?_
                  obtain ⟨r178, Xr173, D⟩ := bind_some D
                  refine yj z kr z (f := 12) (args := #[]) kr (law22_works_ok  S170 Xr173) ?_
                  rintro _ w174 ⟨I175, rfl, L176, S177⟩
                  refine ⟨_, rfl, trivial, ?_⟩
                  refine ya [(1, 4, (.bool r178))] kr (fun _ => by kernel_rfl) ?_
                  refine yc ?_
                  refine yb ?_
                  refine ym ?_
                  have S179 := S177.drop
                  have S180 := S179.drop
                  have he := Option.some.inj D
                  subst r
                  exact yl z (.bool r178) z ⟨I175, rfl, ((((((((((((L12.trans L19).trans L32).trans L38).trans L53).trans L71).trans L92).trans L99).trans L113).trans L119).trans L136).trans L154).trans L176), S180⟩
end Go.Proofs.Ytpgmbifboopfmaa
