/- What functions of the program come to, each by a plain one. Conditions: none. -/
import Derived.Test.YtdmefifamlpbiaaF2
set_option maxRecDepth 100000
namespace Go.Proofs.Ytdmefifamlpbiaa
open Go.Gv
noncomputable def registrarlaw21_works  : Option Bool := (mdl_New).bind (fun (r6 : mdl_Locks) => (mdl_Locks_Ask r6 1 (⟨(⟨#[116]⟩ : ByteArray), 3⟩ : api_Need)).bind (fun ((r14, r15, r16) : Bool × Int × mdl_Locks) => (mdl_Locks_Ask r16 2 (⟨(⟨#[116]⟩ : ByteArray), 4⟩ : api_Need)).bind (fun ((r24, r25, r26) : Bool × Int × mdl_Locks) => (mdl_Locks_Ask r26 3 (⟨(⟨#[116]⟩ : ByteArray), 3⟩ : api_Need)).bind (fun ((r34, r35, r36) : Bool × Int × mdl_Locks) => ((bif (((((r14 && (!r24)) && (!r34)) && (r15 == 0)) && (r25 == 0)) && (r35 == 0)) then (mdl_Locks_Blockers r36 3).bind (fun (r58 : List Int) => some ((r58.length : Int) == 1)) else some false)).bind (fun (j47 : Bool) => ((bif j47 then (mdl_Locks_Blockers r36 3).bind (fun (r72 : List Int) => (idx r72 0).bind (fun (x73 : Int) => some (x73 == 2))) else some false)).bind (fun (j61 : Bool) => ((bif j61 then (mdl_Goes 1 3).bind (fun (r89 : Bool) => some r89) else some false)).bind (fun (j80 : Bool) => some j80)))))))
set_option maxHeartbeats 1000000 in
theorem registrarlaw21_works_ok {E w : World} {I : Mem} {Os : List Mem} (hS : St E w I Os) {r : Bool} (hr : registrarlaw21_works = some r) :
    Calls P 10 #[] w (fun e w' => ∃ (I' : Mem), e = .returned (.bool r) ∧ I.Le I' ∧ St E w' I' Os) := by
  refine calls_W (args := []) (fn := Try.f10) rfl rfl rfl ?_
  unfold registrarlaw21_works at hr
  refine W.seq ?_
  refine W.region (l := [0]) (by kernel_rfl) ?_
  refine WO.vals [(0, 0, (.bool false))] (by kernel_rfl) (fun _ => by kernel_rfl) ?_
  refine WO.nil ?_
  refine En.next ?_
  refine W.seq ?_
  refine W.region (l := [0, 1]) (by kernel_rfl) ?_
  obtain ⟨r6, hx_r1, hr⟩ := bind_some hr
  refine WO.call rfl (by kernel_rfl) rfl (f := 8) (args := #[]) (by kernel_rfl) (mdl_New_ok  hS hx_r1) ?_
  rintro _ w2 ⟨I3, b_r6, w_r6, rfl, hl4, hS5, h_r6⟩
  refine ⟨_, rfl, trivial, ?_⟩
  refine WO.vals [(1, 1, (.pointer (some ⟨b_r6, 0, none⟩)))] (by kernel_rfl) (fun _ => by kernel_rfl) ?_
  refine WO.nil ?_
  refine En.next ?_
  refine W.seq ?_
  refine W.region (l := [0, 1, 2, 3, 4, 5, 6, 7]) (by kernel_rfl) ?_
  refine WO.vals [(0, 10, (.pointer (some ⟨b_r6, 0, none⟩))), (1, 11, (.agg (cs_api_Need (⟨(⟨#[116]⟩ : ByteArray), 3⟩ : api_Need)).toArray))] (by kernel_rfl) (fun _ => by kernel_rfl) ?_
  have hS7 := hS5.front1
  have hS8 := hS7.front1
  obtain ⟨⟨r14, r15, r16⟩, hx_r9, hr⟩ := bind_some hr
  refine WO.call rfl (by kernel_rfl) rfl (f := 24) (args := #[(.pointer (some ⟨b_r6, 0, none⟩)), (.int .i64 1), (.agg (cs_api_Need (⟨(⟨#[116]⟩ : ByteArray), 3⟩ : api_Need)).toArray)]) (by kernel_rfl) (mdl_Locks_Ask_ok h_r6 hS8 hx_r9) ?_
  rintro _ w10 ⟨I11, w_r16, rfl, hl12, hS13, h_r16⟩
  refine ⟨_, rfl, trivial, ?_⟩
  refine WO.vals [(3, 9, (.tuple #[(.bool r14), (.int .i64 r15)])), (4, 13, (.bool r14)), (5, 14, (.int .i64 r15)), (6, 2, (.bool r14)), (7, 3, (.int .i64 r15))] (by kernel_rfl) (fun _ => by kernel_rfl) ?_
  refine WO.nil ?_
  refine En.next ?_
  refine W.seq ?_
  refine W.region (l := [0, 1, 2, 3, 4, 5, 6, 7]) (by kernel_rfl) ?_
  refine WO.vals [(0, 16, (.pointer (some ⟨b_r6, 0, none⟩))), (1, 17, (.agg (cs_api_Need (⟨(⟨#[116]⟩ : ByteArray), 4⟩ : api_Need)).toArray))] (by kernel_rfl) (fun _ => by kernel_rfl) ?_
  have hS17 := hS13.front1
  have hS18 := hS17.front1
  obtain ⟨⟨r24, r25, r26⟩, hx_r19, hr⟩ := bind_some hr
  refine WO.call rfl (by kernel_rfl) rfl (f := 24) (args := #[(.pointer (some ⟨b_r6, 0, none⟩)), (.int .i64 2), (.agg (cs_api_Need (⟨(⟨#[116]⟩ : ByteArray), 4⟩ : api_Need)).toArray)]) (by kernel_rfl) (mdl_Locks_Ask_ok h_r16 hS18 hx_r19) ?_
  rintro _ w20 ⟨I21, w_r26, rfl, hl22, hS23, h_r26⟩
  refine ⟨_, rfl, trivial, ?_⟩
  refine WO.vals [(3, 15, (.tuple #[(.bool r24), (.int .i64 r25)])), (4, 19, (.bool r24)), (5, 20, (.int .i64 r25)), (6, 4, (.bool r24)), (7, 5, (.int .i64 r25))] (by kernel_rfl) (fun _ => by kernel_rfl) ?_
  refine WO.nil ?_
  refine En.next ?_
  refine W.seq ?_
  refine W.region (l := [0, 1, 2, 3, 4, 5, 6, 7]) (by kernel_rfl) ?_
  refine WO.vals [(0, 22, (.pointer (some ⟨b_r6, 0, none⟩))), (1, 23, (.agg (cs_api_Need (⟨(⟨#[116]⟩ : ByteArray), 3⟩ : api_Need)).toArray))] (by kernel_rfl) (fun _ => by kernel_rfl) ?_
  have hS27 := hS23.front1
  have hS28 := hS27.front1
  obtain ⟨⟨r34, r35, r36⟩, hx_r29, hr⟩ := bind_some hr
  refine WO.call rfl (by kernel_rfl) rfl (f := 24) (args := #[(.pointer (some ⟨b_r6, 0, none⟩)), (.int .i64 3), (.agg (cs_api_Need (⟨(⟨#[116]⟩ : ByteArray), 3⟩ : api_Need)).toArray)]) (by kernel_rfl) (mdl_Locks_Ask_ok h_r26 hS28 hx_r29) ?_
  rintro _ w30 ⟨I31, w_r36, rfl, hl32, hS33, h_r36⟩
  refine ⟨_, rfl, trivial, ?_⟩
  refine WO.vals [(3, 21, (.tuple #[(.bool r34), (.int .i64 r35)])), (4, 25, (.bool r34)), (5, 26, (.int .i64 r35)), (6, 6, (.bool r34)), (7, 7, (.int .i64 r35))] (by kernel_rfl) (fun _ => by kernel_rfl) ?_
  refine WO.nil ?_
  refine En.next ?_
  refine W.seq ?_
  refine W.region (l := [0, 1, 2, 3, 4, 5, 6, 7, 8, 9, 10, 11, 12, 13, 14, 15, 16, 17, 18, 19, 20, 21, 22, 23, 24, 25, 26, 27, 28, 29, 30, 31, 32, 33, 34, 35, 36, 37]) (by kernel_rfl) ?_
  refine WO.vals [(0, 27, (.bool r14)), (1, 28, (.bool r14))] (by kernel_rfl) (fun _ => by kernel_rfl) ?_
  refine WO.join (l1 := [2, 3, 4]) (l2 := [5, 6, 7, 8, 9, 10, 11, 12, 13, 14, 15, 16, 17, 18, 19, 20, 21, 22, 23, 24, 25, 26, 27, 28, 29, 30, 31, 32, 33, 34, 35, 36, 37]) (J := fun frx wx => frx = [(31, (.bool (r14 && (!r24)))), (1, (.pointer (some ⟨b_r6, 0, none⟩))), (3, (.int .i64 r15)), (5, (.int .i64 r25)), (6, (.bool r34)), (7, (.int .i64 r35))] ∧ w30 = wx) ?restm37 ?waysm37
  case waysm37 =>
    refine WO.caseb r14 (fun hc => ?_) (fun hc => ?_)
    · skip
      refine WO.reslot 28 rfl (show Value.bool r14 = Value.bool true by rw [hc]) ?_
      refine WO.vals [(2, 29, (.bool r24)), (3, 30, (.bool (!r24))), (4, 31, (.bool (!r24)))] (by kernel_rfl) (fun _ => by kernel_rfl) ?_
      refine WO.weaken (fr' := [(31, (.bool (r14 && (!r24)))), (1, (.pointer (some ⟨b_r6, 0, none⟩))), (3, (.int .i64 r15)), (5, (.int .i64 r25)), (6, (.bool r34)), (7, (.int .i64 r35))]) (WO.meet ⟨rfl, rfl⟩) (Sub.cons (by rw [hc]; rfl) (Sub.cons rfl (Sub.cons rfl (Sub.cons rfl (Sub.cons rfl (Sub.cons rfl Sub.nil))))))
    · skip
      refine WO.reslot 28 rfl (show Value.bool r14 = Value.bool false by rw [hc]) ?_
      refine WO.pass rfl (by kernel_rfl) rfl ?_
      refine WO.pass rfl (by kernel_rfl) rfl ?_
      refine WO.vals [(4, 31, (.bool false))] (by kernel_rfl) (fun _ => by kernel_rfl) ?_
      refine WO.weaken (fr' := [(31, (.bool (r14 && (!r24)))), (1, (.pointer (some ⟨b_r6, 0, none⟩))), (3, (.int .i64 r15)), (5, (.int .i64 r25)), (6, (.bool r34)), (7, (.int .i64 r35))]) (WO.meet ⟨rfl, rfl⟩) (Sub.cons (by rw [hc]; rfl) (Sub.cons rfl (Sub.cons rfl (Sub.cons rfl (Sub.cons rfl (Sub.cons rfl Sub.nil))))))
  case restm37 =>
    rintro _ _ ⟨rfl, rfl⟩
    refine WO.vals [(5, 32, (.bool (r14 && (!r24))))] (by kernel_rfl) (fun _ => by kernel_rfl) ?_
    refine WO.join (l1 := [6, 7, 8]) (l2 := [9, 10, 11, 12, 13, 14, 15, 16, 17, 18, 19, 20, 21, 22, 23, 24, 25, 26, 27, 28, 29, 30, 31, 32, 33, 34, 35, 36, 37]) (J := fun frx wx => frx = [(35, (.bool ((r14 && (!r24)) && (!r34)))), (1, (.pointer (some ⟨b_r6, 0, none⟩))), (3, (.int .i64 r15)), (5, (.int .i64 r25)), (7, (.int .i64 r35))] ∧ w30 = wx) ?restm39 ?waysm39
    case waysm39 =>
      refine WO.caseb (r14 && (!r24)) (fun hc => ?_) (fun hc => ?_)
      · skip
        refine WO.reslot 32 rfl (show Value.bool (r14 && (!r24)) = Value.bool true by rw [hc]) ?_
        refine WO.vals [(6, 33, (.bool r34)), (7, 34, (.bool (!r34))), (8, 35, (.bool (!r34)))] (by kernel_rfl) (fun _ => by kernel_rfl) ?_
        refine WO.weaken (fr' := [(35, (.bool ((r14 && (!r24)) && (!r34)))), (1, (.pointer (some ⟨b_r6, 0, none⟩))), (3, (.int .i64 r15)), (5, (.int .i64 r25)), (7, (.int .i64 r35))]) (WO.meet ⟨rfl, rfl⟩) (Sub.cons (by rw [hc]; rfl) (Sub.cons rfl (Sub.cons rfl (Sub.cons rfl (Sub.cons rfl Sub.nil)))))
      · skip
        refine WO.reslot 32 rfl (show Value.bool (r14 && (!r24)) = Value.bool false by rw [hc]) ?_
        refine WO.pass rfl (by kernel_rfl) rfl ?_
        refine WO.pass rfl (by kernel_rfl) rfl ?_
        refine WO.vals [(8, 35, (.bool false))] (by kernel_rfl) (fun _ => by kernel_rfl) ?_
        refine WO.weaken (fr' := [(35, (.bool ((r14 && (!r24)) && (!r34)))), (1, (.pointer (some ⟨b_r6, 0, none⟩))), (3, (.int .i64 r15)), (5, (.int .i64 r25)), (7, (.int .i64 r35))]) (WO.meet ⟨rfl, rfl⟩) (Sub.cons (by rw [hc]; rfl) (Sub.cons rfl (Sub.cons rfl (Sub.cons rfl (Sub.cons rfl Sub.nil)))))
    case restm39 =>
      rintro _ _ ⟨rfl, rfl⟩
      refine WO.vals [(9, 36, (.bool ((r14 && (!r24)) && (!r34))))] (by kernel_rfl) (fun _ => by kernel_rfl) ?_
      refine WO.join (l1 := [10, 11, 12]) (l2 := [13, 14, 15, 16, 17, 18, 19, 20, 21, 22, 23, 24, 25, 26, 27, 28, 29, 30, 31, 32, 33, 34, 35, 36, 37]) (J := fun frx wx => frx = [(39, (.bool (((r14 && (!r24)) && (!r34)) && (r15 == 0)))), (1, (.pointer (some ⟨b_r6, 0, none⟩))), (5, (.int .i64 r25)), (7, (.int .i64 r35))] ∧ w30 = wx) ?restm41 ?waysm41
      case waysm41 =>
        refine WO.caseb ((r14 && (!r24)) && (!r34)) (fun hc => ?_) (fun hc => ?_)
        · skip
          refine WO.reslot 36 rfl (show Value.bool ((r14 && (!r24)) && (!r34)) = Value.bool true by rw [hc]) ?_
          refine WO.vals [(10, 37, (.int .i64 r15)), (11, 38, (.bool (r15 == 0))), (12, 39, (.bool (r15 == 0)))] (by kernel_rfl) (fun _ => by kernel_rfl) ?_
          refine WO.weaken (fr' := [(39, (.bool (((r14 && (!r24)) && (!r34)) && (r15 == 0)))), (1, (.pointer (some ⟨b_r6, 0, none⟩))), (5, (.int .i64 r25)), (7, (.int .i64 r35))]) (WO.meet ⟨rfl, rfl⟩) (Sub.cons (by rw [hc]; rfl) (Sub.cons rfl (Sub.cons rfl (Sub.cons rfl Sub.nil))))
        · skip
          refine WO.reslot 36 rfl (show Value.bool ((r14 && (!r24)) && (!r34)) = Value.bool false by rw [hc]) ?_
          refine WO.pass rfl (by kernel_rfl) rfl ?_
          refine WO.pass rfl (by kernel_rfl) rfl ?_
          refine WO.vals [(12, 39, (.bool false))] (by kernel_rfl) (fun _ => by kernel_rfl) ?_
          refine WO.weaken (fr' := [(39, (.bool (((r14 && (!r24)) && (!r34)) && (r15 == 0)))), (1, (.pointer (some ⟨b_r6, 0, none⟩))), (5, (.int .i64 r25)), (7, (.int .i64 r35))]) (WO.meet ⟨rfl, rfl⟩) (Sub.cons (by rw [hc]; rfl) (Sub.cons rfl (Sub.cons rfl (Sub.cons rfl Sub.nil))))
      case restm41 =>
        rintro _ _ ⟨rfl, rfl⟩
        refine WO.vals [(13, 40, (.bool (((r14 && (!r24)) && (!r34)) && (r15 == 0))))] (by kernel_rfl) (fun _ => by kernel_rfl) ?_
        refine WO.join (l1 := [14, 15, 16]) (l2 := [17, 18, 19, 20, 21, 22, 23, 24, 25, 26, 27, 28, 29, 30, 31, 32, 33, 34, 35, 36, 37]) (J := fun frx wx => frx = [(43, (.bool ((((r14 && (!r24)) && (!r34)) && (r15 == 0)) && (r25 == 0)))), (1, (.pointer (some ⟨b_r6, 0, none⟩))), (7, (.int .i64 r35))] ∧ w30 = wx) ?restm43 ?waysm43
        case waysm43 =>
          refine WO.caseb (((r14 && (!r24)) && (!r34)) && (r15 == 0)) (fun hc => ?_) (fun hc => ?_)
          · skip
            refine WO.reslot 40 rfl (show Value.bool (((r14 && (!r24)) && (!r34)) && (r15 == 0)) = Value.bool true by rw [hc]) ?_
            refine WO.vals [(14, 41, (.int .i64 r25)), (15, 42, (.bool (r25 == 0))), (16, 43, (.bool (r25 == 0)))] (by kernel_rfl) (fun _ => by kernel_rfl) ?_
            refine WO.weaken (fr' := [(43, (.bool ((((r14 && (!r24)) && (!r34)) && (r15 == 0)) && (r25 == 0)))), (1, (.pointer (some ⟨b_r6, 0, none⟩))), (7, (.int .i64 r35))]) (WO.meet ⟨rfl, rfl⟩) (Sub.cons (by rw [hc]; rfl) (Sub.cons rfl (Sub.cons rfl Sub.nil)))
          · skip
            refine WO.reslot 40 rfl (show Value.bool (((r14 && (!r24)) && (!r34)) && (r15 == 0)) = Value.bool false by rw [hc]) ?_
            refine WO.pass rfl (by kernel_rfl) rfl ?_
            refine WO.pass rfl (by kernel_rfl) rfl ?_
            refine WO.vals [(16, 43, (.bool false))] (by kernel_rfl) (fun _ => by kernel_rfl) ?_
            refine WO.weaken (fr' := [(43, (.bool ((((r14 && (!r24)) && (!r34)) && (r15 == 0)) && (r25 == 0)))), (1, (.pointer (some ⟨b_r6, 0, none⟩))), (7, (.int .i64 r35))]) (WO.meet ⟨rfl, rfl⟩) (Sub.cons (by rw [hc]; rfl) (Sub.cons rfl (Sub.cons rfl Sub.nil)))
        case restm43 =>
          rintro _ _ ⟨rfl, rfl⟩
          refine WO.vals [(17, 44, (.bool ((((r14 && (!r24)) && (!r34)) && (r15 == 0)) && (r25 == 0))))] (by kernel_rfl) (fun _ => by kernel_rfl) ?_
          refine WO.join (l1 := [18, 19, 20]) (l2 := [21, 22, 23, 24, 25, 26, 27, 28, 29, 30, 31, 32, 33, 34, 35, 36, 37]) (J := fun frx wx => frx = [(47, (.bool (((((r14 && (!r24)) && (!r34)) && (r15 == 0)) && (r25 == 0)) && (r35 == 0)))), (1, (.pointer (some ⟨b_r6, 0, none⟩)))] ∧ w30 = wx) ?restm45 ?waysm45
          case waysm45 =>
            refine WO.caseb ((((r14 && (!r24)) && (!r34)) && (r15 == 0)) && (r25 == 0)) (fun hc => ?_) (fun hc => ?_)
            · skip
              refine WO.reslot 44 rfl (show Value.bool ((((r14 && (!r24)) && (!r34)) && (r15 == 0)) && (r25 == 0)) = Value.bool true by rw [hc]) ?_
              refine WO.vals [(18, 45, (.int .i64 r35)), (19, 46, (.bool (r35 == 0))), (20, 47, (.bool (r35 == 0)))] (by kernel_rfl) (fun _ => by kernel_rfl) ?_
              refine WO.weaken (fr' := [(47, (.bool (((((r14 && (!r24)) && (!r34)) && (r15 == 0)) && (r25 == 0)) && (r35 == 0)))), (1, (.pointer (some ⟨b_r6, 0, none⟩)))]) (WO.meet ⟨rfl, rfl⟩) (Sub.cons (by rw [hc]; rfl) (Sub.cons rfl Sub.nil))
            · skip
              refine WO.reslot 44 rfl (show Value.bool ((((r14 && (!r24)) && (!r34)) && (r15 == 0)) && (r25 == 0)) = Value.bool false by rw [hc]) ?_
              refine WO.pass rfl (by kernel_rfl) rfl ?_
              refine WO.pass rfl (by kernel_rfl) rfl ?_
              refine WO.vals [(20, 47, (.bool false))] (by kernel_rfl) (fun _ => by kernel_rfl) ?_
              refine WO.weaken (fr' := [(47, (.bool (((((r14 && (!r24)) && (!r34)) && (r15 == 0)) && (r25 == 0)) && (r35 == 0)))), (1, (.pointer (some ⟨b_r6, 0, none⟩)))]) (WO.meet ⟨rfl, rfl⟩) (Sub.cons (by rw [hc]; rfl) (Sub.cons rfl Sub.nil))
          case restm45 =>
            rintro _ _ ⟨rfl, rfl⟩
            refine WO.vals [(21, 48, (.bool (((((r14 && (!r24)) && (!r34)) && (r15 == 0)) && (r25 == 0)) && (r35 == 0))))] (by kernel_rfl) (fun _ => by kernel_rfl) ?_
            obtain ⟨j47, hr1, hr⟩ := bind_some hr
            refine WO.join (l1 := [22, 23, 24, 25, 26]) (l2 := [27, 28, 29, 30, 31, 32, 33, 34, 35, 36, 37]) (J := (fun fr w => ∃ (I49 : Mem), fr = [(1, (.pointer (some ⟨b_r6, 0, none⟩))), (53, (.bool j47))] ∧ I31.Le I49 ∧ St E w I49 ((Gv.one b_r6 (.cells (cs_mdl_Locks r36 w_r36).toArray 56 (0, 0))) :: (w_r36.at_.C) :: Os))) ?restj47 ?waysj47
            case waysj47 =>
              refine WO.caseb (((((r14 && (!r24)) && (!r34)) && (r15 == 0)) && (r25 == 0)) && (r35 == 0)) (fun hc => ?_) (fun hc => ?_)
              · replace hr1 := cond_t hc hr1
                refine WO.reslot 48 rfl (show Value.bool (((((r14 && (!r24)) && (!r34)) && (r15 == 0)) && (r25 == 0)) && (r35 == 0)) = Value.bool true by rw [hc]) ?_
                refine WO.vals [(22, 49, (.pointer (some ⟨b_r6, 0, none⟩)))] (by kernel_rfl) (fun _ => by kernel_rfl) ?_
                have hS51 := hS33.front1
                have hS52 := hS51.front1
                obtain ⟨r58, hx_r53, hr1⟩ := bind_some hr1
                refine WO.call rfl (by kernel_rfl) rfl (f := 26) (args := #[(.pointer (some ⟨b_r6, 0, none⟩)), (.int .i64 3)]) (by kernel_rfl) (mdl_Locks_Blockers_ok h_r36 hS52 hx_r53) ?_
                rintro _ w54 ⟨I55, a_r58, c_r58, rfl, hl56, hS57, h_r58⟩
                refine ⟨_, rfl, trivial, ?_⟩
                refine WO.vals [(24, 51, (.int .i64 (r58.length : Int))), (25, 52, (.bool ((r58.length : Int) == 1))), (26, 53, (.bool ((r58.length : Int) == 1)))] (by kernel_rfl) (fun _ => by kernel_rfl) ?_
                have he := Option.some.inj hr1
                subst j47
                refine WO.weaken (fr' := [(1, (.pointer (some ⟨b_r6, 0, none⟩))), (53, (.bool ((r58.length : Int) == 1)))]) (WO.meet ⟨I55, rfl, hl56, hS57⟩) (Sub.cons rfl (Sub.cons rfl Sub.nil))
              · replace hr1 := cond_f hc hr1
                refine WO.reslot 48 rfl (show Value.bool (((((r14 && (!r24)) && (!r34)) && (r15 == 0)) && (r25 == 0)) && (r35 == 0)) = Value.bool false by rw [hc]) ?_
                refine WO.pass rfl (by kernel_rfl) rfl ?_
                refine WO.pass rfl (by kernel_rfl) rfl ?_
                refine WO.pass rfl (by kernel_rfl) rfl ?_
                refine WO.pass rfl (by kernel_rfl) rfl ?_
                refine WO.vals [(26, 53, (.bool false))] (by kernel_rfl) (fun _ => by kernel_rfl) ?_
                have he := Option.some.inj hr1
                subst j47
                refine WO.weaken (fr' := [(1, (.pointer (some ⟨b_r6, 0, none⟩))), (53, (.bool false))]) (WO.meet ⟨I31, rfl, Mem.Le.refl _, hS33⟩) (Sub.cons rfl (Sub.cons rfl Sub.nil))
            case restj47 =>
              rintro _ w59 ⟨I49, rfl, hl50, hS60⟩
              refine WO.vals [(27, 54, (.bool j47))] (by kernel_rfl) (fun _ => by kernel_rfl) ?_
              obtain ⟨j61, hr1, hr⟩ := bind_some hr
              refine WO.join (l1 := [28, 29, 30, 31, 32, 33]) (l2 := [34, 35, 36, 37]) (J := (fun fr w => ∃ (I63 : Mem), fr = [(60, (.bool j61))] ∧ I49.Le I63 ∧ St E w I63 Os)) ?restj61 ?waysj61
              case waysj61 =>
                refine WO.caseb j47 (fun hc => ?_) (fun hc => ?_)
                · replace hr1 := cond_t hc hr1
                  refine WO.reslot 54 rfl (show Value.bool j47 = Value.bool true by rw [hc]) ?_
                  refine WO.vals [(28, 55, (.pointer (some ⟨b_r6, 0, none⟩)))] (by kernel_rfl) (fun _ => by kernel_rfl) ?_
                  have hS65 := hS60.front1
                  have hS66 := hS65.front1
                  obtain ⟨r72, hx_r67, hr1⟩ := bind_some hr1
                  refine WO.call rfl (by kernel_rfl) rfl (f := 26) (args := #[(.pointer (some ⟨b_r6, 0, none⟩)), (.int .i64 3)]) (by kernel_rfl) (mdl_Locks_Blockers_ok (h_r36.mono hl50) hS66 hx_r67) ?_
                  rintro _ w68 ⟨I69, a_r72, c_r72, rfl, hl70, hS71, h_r72⟩
                  refine ⟨_, rfl, trivial, ?_⟩
                  obtain ⟨x73, hx_x73, hr1⟩ := bind_some hr1
                  obtain ⟨h0_x73, h1_x73, hx_x73⟩ := idx_some hx_x73
                  obtain ⟨ha_x73, cs_x73, hn_x73, hr_x73, hc_x73⟩ := (h_r72).el _ _ hx_x73
                  obtain rfl := hr_x73
                  refine WO.indexAddr (e := 3) (sz := 1) rfl (by kernel_rfl) (by kernel_rfl) (by kernel_rfl) rfl ha_x73 rfl h0_x73 h1_x73 ?_
                  refine WO.load rfl (by kernel_rfl) (by kernel_rfl) rfl (v := (.int .i64 x73)) (fun w' hw' => hc_x73.cell0 (by kernel_rfl) ((rd_f hS71.im) w' hw')) ?_
                  refine WO.vals [(32, 59, (.bool (x73 == 2))), (33, 60, (.bool (x73 == 2)))] (by kernel_rfl) (fun _ => by kernel_rfl) ?_
                  have hS74 := hS71.drop
                  have hS75 := hS74.drop
                  have he := Option.some.inj hr1
                  subst j61
                  refine WO.weaken (fr' := [(60, (.bool (x73 == 2)))]) (WO.meet ⟨I69, rfl, hl70, hS75⟩) (Sub.cons rfl Sub.nil)
                · replace hr1 := cond_f hc hr1
                  refine WO.reslot 54 rfl (show Value.bool j47 = Value.bool false by rw [hc]) ?_
                  refine WO.pass rfl (by kernel_rfl) rfl ?_
                  refine WO.pass rfl (by kernel_rfl) rfl ?_
                  refine WO.pass rfl (by kernel_rfl) rfl ?_
                  refine WO.pass rfl (by kernel_rfl) rfl ?_
                  refine WO.pass rfl (by kernel_rfl) rfl ?_
                  refine WO.vals [(33, 60, (.bool false))] (by kernel_rfl) (fun _ => by kernel_rfl) ?_
                  have hS76 := hS60.drop
                  have hS77 := hS76.drop
                  have he := Option.some.inj hr1
                  subst j61
                  refine WO.weaken (fr' := [(60, (.bool false))]) (WO.meet ⟨I49, rfl, Mem.Le.refl _, hS77⟩) (Sub.cons rfl Sub.nil)
              case restj61 =>
                rintro _ w78 ⟨I63, rfl, hl64, hS79⟩
                refine WO.vals [(34, 61, (.bool j61))] (by kernel_rfl) (fun _ => by kernel_rfl) ?_
                obtain ⟨j80, hr1, hr⟩ := bind_some hr
                refine WO.join (l1 := [35, 36]) (l2 := [37]) (J := (fun fr w => ∃ (I82 : Mem), fr = [(63, (.bool j80))] ∧ I63.Le I82 ∧ St E w I82 Os)) ?restj80 ?waysj80
                case waysj80 =>
                  refine WO.caseb j61 (fun hc => ?_) (fun hc => ?_)
                  · replace hr1 := cond_t hc hr1
                    refine WO.reslot 61 rfl (show Value.bool j61 = Value.bool true by rw [hc]) ?_
                    obtain ⟨r89, hx_r84, hr1⟩ := bind_some hr1
                    refine WO.call rfl (by kernel_rfl) rfl (f := 15) (args := #[(.int .i64 1), (.int .i64 3)]) (by kernel_rfl) (mdl_Goes_ok  hS79 hx_r84) ?_
                    rintro _ w85 ⟨I86, rfl, hl87, hS88⟩
                    refine ⟨_, rfl, trivial, ?_⟩
                    refine WO.vals [(36, 63, (.bool r89))] (by kernel_rfl) (fun _ => by kernel_rfl) ?_
                    have he := Option.some.inj hr1
                    subst j80
                    refine WO.weaken (fr' := [(63, (.bool r89))]) (WO.meet ⟨I86, rfl, hl87, hS88⟩) (Sub.cons rfl Sub.nil)
                  · replace hr1 := cond_f hc hr1
                    refine WO.reslot 61 rfl (show Value.bool j61 = Value.bool false by rw [hc]) ?_
                    refine WO.pass rfl (by kernel_rfl) rfl ?_
                    refine WO.vals [(36, 63, (.bool false))] (by kernel_rfl) (fun _ => by kernel_rfl) ?_
                    have he := Option.some.inj hr1
                    subst j80
                    refine WO.weaken (fr' := [(63, (.bool false))]) (WO.meet ⟨I63, rfl, Mem.Le.refl _, hS79⟩) (Sub.cons rfl Sub.nil)
                case restj80 =>
                  rintro _ w90 ⟨I82, rfl, hl83, hS91⟩
                  refine WO.vals [(37, 0, (.bool j80))] (by kernel_rfl) (fun _ => by kernel_rfl) ?_
                  refine WO.nil ?_
                  refine En.next ?_
                  refine W.ret ?_
                  have he := Option.some.inj hr
                  subst r
                  exact En.ret1 rfl (.bool j80) rfl ⟨I82, rfl, ((((((hl4.trans hl12).trans hl22).trans hl32).trans hl50).trans hl64).trans hl83), hS91⟩
def registrarref21_Locks_Waits (p0 : registrarref21_Locks) (p1 : Int) : Option (api_Need × Bool) := (forN (fun (i9 : Nat) => fun (s8 : api_Need) => (idx p0.L (i9 : Int)).bind (fun (x18 : registrarref21_One) => ((bif (x18.Who == p1) then (idx p0.L (i9 : Int)).bind (fun (x23 : registrarref21_One) => some (!x23.Held)) else some false)).bind (fun (j19 : Bool) => (bif j19 then (idx p0.L (i9 : Int)).bind (fun (x28 : registrarref21_One) => (idx p0.L (i9 : Int)).bind (fun (x29 : registrarref21_One) => some (.inr (true, (⟨x28.Path, x29.Mode⟩ : api_Need))))) else some (.inl s8))))) p0.L.length 0 z_api_Need).bind (fun (t : api_Need ⊕ ((Bool × api_Need))) => match t with | .inl s8 => some (z_api_Need, false) | .inr (s34, s35) => some (s35, s34))
set_option maxHeartbeats 1000000 in
theorem registrarref21_Locks_Waits_ok {E w : World} {I : Mem} {Os : List Mem} {p0 : registrarref21_Locks} {p1 : Int} {b_p0 : Nat} {w_p0 : W_registrarref21_Locks} (h_p0 : ok_registrarref21_Locks I p0 w_p0) (hS : St E w I ((Gv.one b_p0 (.cells (cs_registrarref21_Locks p0 w_p0).toArray 51 (0, 0))) :: (w_p0.L.C) :: Os)) {r : api_Need × Bool} (hr : registrarref21_Locks_Waits p0 p1 = some r) :
    Calls P 49 #[(.pointer (some ⟨b_p0, 0, none⟩)), (.int .i64 p1)] w (fun e w' => ∃ (I' : Mem), e = .returned (.tuple #[(.agg (cs_api_Need r.1).toArray), (.bool r.2)]) ∧ I.Le I' ∧ St E w' I' ((Gv.one b_p0 (.cells (cs_registrarref21_Locks p0 w_p0).toArray 51 (0, 0))) :: w_p0.L.C :: Os)) := by
  refine calls_W (args := [(.pointer (some ⟨b_p0, 0, none⟩)), (.int .i64 p1)]) (fn := Try.f49) rfl rfl rfl ?_
  unfold registrarref21_Locks_Waits at hr
  refine W.seq ?_
  refine W.region (l := [0, 1]) (by kernel_rfl) ?_
  refine WO.new hS rfl (by kernel_rfl) rfl (.cells (cs_api_Need z_api_Need).toArray 43 (0, 0)) (fun b => .pointer (some ⟨b, 0, none⟩)) (by kernel_rfl) (fun _ _ _ => trivial) ?_
  intro b1 w4 hS3
  refine WO.vals [(1, 5, (.bool false))] (by kernel_rfl) (fun _ => by kernel_rfl) ?_
  refine WO.nil ?_
  refine En.next ?_
  refine W.seq ?_
  refine W.seq ?_
  refine W.region (l := [0]) (by kernel_rfl) ?_
  refine WO.vals [(0, 6, (.int .i64 0))] (by kernel_rfl) (fun _ => by kernel_rfl) ?_
  refine WO.nil ?_
  refine En.next ?_
  refine W.block ?_
  obtain ⟨t5, hloop10, hr⟩ := bind_some hr
  have hS11 := hS3.front2
  have hS12 := hS11.front2
  have hlt16 := (h_p0.L.sl).len_lt
  refine W.weaken (fr' := [(0, (.pointer (some ⟨b_p0, 0, none⟩))), (1, (.int .i64 p1)), (4, (.pointer (some ⟨b1, 0, none⟩))), (6, (.int .i64 ((0 : Nat) : Int)))]) (W.forN (m := p0.L.length) hloop10 (fun (i9 : Nat) => fun (s8 : api_Need) fr w => ∃ (I6 : Mem), fr = [(0, (.pointer (some ⟨b_p0, 0, none⟩))), (1, (.int .i64 p1)), (4, (.pointer (some ⟨b1, 0, none⟩))), (6, (.int .i64 (i9 : Int)))] ∧ I.Le I6 ∧ St E w I6 ((Gv.one b_p0 (.cells (cs_registrarref21_Locks p0 w_p0).toArray 51 (0, 0))) :: (w_p0.L.C) :: (Gv.one b1 (.cells (cs_api_Need s8).toArray 43 (0, 0))) :: Os)) ⟨I, rfl, Mem.Le.refl _, hS12⟩ ?roundt5 ?lastt5) (Sub.cons rfl (Sub.cons rfl (Sub.cons rfl (Sub.cons rfl Sub.nil))))
  case roundt5 =>
    rintro i9 s8 _ w13 hi17 ⟨I6, rfl, hl7, hS14⟩ x15 hr1 hext5
    refine W.seq ?_
    refine W.seq ?_
    refine W.region (l := [0, 1, 2, 3, 4, 5, 6]) (by kernel_rfl) ?_
    refine WO.vals [(0, 7, (.int .i64 (i9 : Int))), (1, 8, (.pointer (some ⟨b_p0, 0, none⟩))), (2, 9, (.pointer (some ⟨b_p0, 0, none⟩))), (3, 10, (.pointer (some ⟨b_p0, 0, none⟩)))] (by kernel_rfl) (fun _ => by kernel_rfl) ?_
    refine WO.load rfl (by kernel_rfl) (by kernel_rfl) rfl (v := (.slice w_p0.L.a p0.L.length w_p0.L.c)) (fun w' hw' => cell_one ((rd_f (hS14.rd (List.Mem.head _))) w' hw') (by kernel_rfl)) ?_
    refine WO.vals [(5, 12, (.int .i64 (p0.L.length : Int))), (6, 13, (.bool (decide ((i9 : Int) < (p0.L.length : Int)))))] (by kernel_rfl) (fun _ => by kernel_rfl) ?_
    refine WO.nil ?_
    refine En.next ?_
    refine W.cond (b := (decide ((i9 : Int) < (p0.L.length : Int)))) rfl rfl (fun hc => ?_) (fun hc => ?_)
    rotate_left
    · exact absurd hc (by first | (simp; done) | (simp; omega))
    clear hc
    refine W.skip ?_
    refine En.next ?_
    refine W.seq ?_
    refine W.block ?_
    refine W.seq ?_
    refine W.region (l := [0, 1, 2, 3, 4, 5, 6, 7, 8, 9, 10, 11, 12, 13, 14, 15, 16, 17, 18, 19, 20]) (by kernel_rfl) ?_
    refine WO.vals [(0, 16, (.pointer (some ⟨b_p0, 0, none⟩))), (1, 17, (.pointer (some ⟨b_p0, 0, none⟩))), (2, 18, (.pointer (some ⟨b_p0, 0, none⟩)))] (by kernel_rfl) (fun _ => by kernel_rfl) ?_
    refine WO.load rfl (by kernel_rfl) (by kernel_rfl) rfl (v := (.slice w_p0.L.a p0.L.length w_p0.L.c)) (fun w' hw' => cell_one ((rd_f (hS14.rd (List.Mem.head _))) w' hw') (by kernel_rfl)) ?_
    refine WO.vals [(4, 20, (.int .i64 (i9 : Int)))] (by kernel_rfl) (fun _ => by kernel_rfl) ?_
    obtain ⟨x18, hx_x18, hr1⟩ := bind_some hr1
    obtain ⟨h0_x18, h1_x18, hx_x18⟩ := idx_some hx_x18
    obtain ⟨ha_x18, cs_x18, hn_x18, hr_x18, hc_x18⟩ := ((h_p0.L.mono hl7).sl).el _ _ hx_x18
    obtain rfl := hr_x18
    refine WO.indexAddr (e := 98) (sz := 4) rfl (by kernel_rfl) (by kernel_rfl) (by kernel_rfl) rfl ha_x18 rfl h0_x18 h1_x18 ?_
    refine WO.vals [(6, 22, (.pointer (some ⟨bl w_p0.L.a, of w_p0.L.a + ((i9 : Int)).toNat * 4, none⟩)))] (by kernel_rfl) (fun _ => by kernel_rfl) ?_
    refine WO.load rfl (by kernel_rfl) (by kernel_rfl) rfl (v := (.int .i64 x18.Who)) (fun w' hw' => hc_x18.cell0 (by kernel_rfl) ((rd_f (hS14.rd (List.Mem.tail _ (List.Mem.head _)))) w' hw')) ?_
    refine WO.vals [(8, 24, (.int .i64 p1)), (9, 25, (.bool (x18.Who == p1))), (10, 26, (.bool (x18.Who == p1)))] (by kernel_rfl) (fun _ => by kernel_rfl) ?_
    obtain ⟨j19, hr2, hr1⟩ := bind_some hr1
    refine WO.join (l1 := [11, 12, 13, 14, 15, 16, 17, 18, 19, 20]) (l2 := []) (J := (fun fr w => ∃ (I21 : Mem), fr = [(0, (.pointer (some ⟨b_p0, 0, none⟩))), (1, (.int .i64 p1)), (4, (.pointer (some ⟨b1, 0, none⟩))), (6, (.int .i64 (i9 : Int))), (36, (.bool j19))] ∧ I6.Le I21 ∧ St E w I21 ((Gv.one b_p0 (.cells (cs_registrarref21_Locks p0 w_p0).toArray 51 (0, 0))) :: (w_p0.L.C) :: (Gv.one b1 (.cells (cs_api_Need s8).toArray 43 (0, 0))) :: Os))) ?restj19 ?waysj19
    case waysj19 =>
      refine WO.caseb (x18.Who == p1) (fun hc => ?_) (fun hc => ?_)
      · replace hr2 := cond_t hc hr2
        refine WO.reslot 26 rfl (show Value.bool (x18.Who == p1) = Value.bool true by rw [hc]) ?_
        refine WO.vals [(11, 27, (.pointer (some ⟨b_p0, 0, none⟩))), (12, 28, (.pointer (some ⟨b_p0, 0, none⟩))), (13, 29, (.pointer (some ⟨b_p0, 0, none⟩)))] (by kernel_rfl) (fun _ => by kernel_rfl) ?_
        refine WO.load rfl (by kernel_rfl) (by kernel_rfl) rfl (v := (.slice w_p0.L.a p0.L.length w_p0.L.c)) (fun w' hw' => cell_one ((rd_f (hS14.rd (List.Mem.head _))) w' hw') (by kernel_rfl)) ?_
        refine WO.vals [(15, 31, (.int .i64 (i9 : Int)))] (by kernel_rfl) (fun _ => by kernel_rfl) ?_
        obtain ⟨x23, hx_x23, hr2⟩ := bind_some hr2
        obtain ⟨h0_x23, h1_x23, hx_x23⟩ := idx_some hx_x23
        obtain ⟨ha_x23, cs_x23, hn_x23, hr_x23, hc_x23⟩ := ((h_p0.L.mono hl7).sl).el _ _ hx_x23
        obtain rfl := hr_x23
        refine WO.indexAddr (e := 98) (sz := 4) rfl (by kernel_rfl) (by kernel_rfl) (by kernel_rfl) rfl ha_x23 rfl h0_x23 h1_x23 ?_
        refine WO.vals [(17, 33, (.pointer (some ⟨bl w_p0.L.a, of w_p0.L.a + ((i9 : Int)).toNat * 4 + 3, none⟩)))] (by kernel_rfl) (fun _ => by kernel_rfl) ?_
        refine WO.load rfl (by kernel_rfl) (by kernel_rfl) rfl (v := (.bool x23.Held)) (fun w' hw' => hc_x23.cellk 3 (by kernel_rfl) ((rd_f (hS14.rd (List.Mem.tail _ (List.Mem.head _)))) w' hw')) ?_
        refine WO.vals [(19, 35, (.bool (!x23.Held))), (20, 36, (.bool (!x23.Held)))] (by kernel_rfl) (fun _ => by kernel_rfl) ?_
        have he := Option.some.inj hr2
        subst j19
        refine WO.weaken (fr' := [(0, (.pointer (some ⟨b_p0, 0, none⟩))), (1, (.int .i64 p1)), (4, (.pointer (some ⟨b1, 0, none⟩))), (6, (.int .i64 (i9 : Int))), (36, (.bool (!x23.Held)))]) (WO.meet ⟨I6, rfl, Mem.Le.refl _, hS14⟩) (Sub.cons rfl (Sub.cons rfl (Sub.cons rfl (Sub.cons rfl (Sub.cons rfl Sub.nil)))))
      · replace hr2 := cond_f hc hr2
        refine WO.reslot 26 rfl (show Value.bool (x18.Who == p1) = Value.bool false by rw [hc]) ?_
        refine WO.pass rfl (by kernel_rfl) rfl ?_
        refine WO.pass rfl (by kernel_rfl) rfl ?_
        refine WO.pass rfl (by kernel_rfl) rfl ?_
        refine WO.pass rfl (by kernel_rfl) rfl ?_
        refine WO.pass rfl (by kernel_rfl) rfl ?_
        refine WO.pass rfl (by kernel_rfl) rfl ?_
        refine WO.pass rfl (by kernel_rfl) rfl ?_
        refine WO.pass rfl (by kernel_rfl) rfl ?_
        refine WO.pass rfl (by kernel_rfl) rfl ?_
        refine WO.vals [(20, 36, (.bool false))] (by kernel_rfl) (fun _ => by kernel_rfl) ?_
        have he := Option.some.inj hr2
        subst j19
        refine WO.weaken (fr' := [(0, (.pointer (some ⟨b_p0, 0, none⟩))), (1, (.int .i64 p1)), (4, (.pointer (some ⟨b1, 0, none⟩))), (6, (.int .i64 (i9 : Int))), (36, (.bool false))]) (WO.meet ⟨I6, rfl, Mem.Le.refl _, hS14⟩) (Sub.cons rfl (Sub.cons rfl (Sub.cons rfl (Sub.cons rfl (Sub.cons rfl Sub.nil)))))
    case restj19 =>
      rintro _ w24 ⟨I21, rfl, hl22, hS25⟩
      refine WO.nil ?_
      refine En.next ?_
      refine W.cond (b := j19) rfl rfl (fun hc => ?_) (fun hc => ?_)
      · replace hr1 := cond_t hc hr1
        refine W.seq ?_
        have hS26 := hS25.drew
        refine W.draw (l := [0, 1, 2, 3, 4, 5, 6, 7, 8, 9, 10, 11, 12, 13, 14, 15, 16, 17, 18]) (by kernel_rfl) 16 (KR I21 [Gv.one b_p0 (.cells (cs_registrarref21_Locks p0 w_p0).toArray 51 (0, 0)), w_p0.L.C]) qR (.back (by kernel_rfl)) (by kernel_rfl) (KR.cons (hS26.rd (List.Mem.head _)) (KR.cons (hS26.rd (List.Mem.tail _ (List.Mem.head _))) (KR.nil hS26.im))) ?_
        generalize World.drew _ = w27 at *
        refine WO.vals [(0, 37, (.pointer (some ⟨b_p0, 0, none⟩))), (1, 38, (.pointer (some ⟨b_p0, 0, none⟩))), (2, 39, (.pointer (some ⟨b_p0, 0, none⟩)))] (by kernel_rfl) (fun _ => by kernel_rfl) ?_
        refine WO.load rfl (by kernel_rfl) (by kernel_rfl) rfl (v := (.slice w_p0.L.a p0.L.length w_p0.L.c)) (fun w' hw' => cell_one ((rd_c (List.Mem.head _) (hS26.rd (List.Mem.head _))) w' hw') (by kernel_rfl)) ?_
        refine WO.vals [(4, 41, (.int .i64 (i9 : Int)))] (by kernel_rfl) (fun _ => by kernel_rfl) ?_
        obtain ⟨x28, hx_x28, hr1⟩ := bind_some hr1
        obtain ⟨h0_x28, h1_x28, hx_x28⟩ := idx_some hx_x28
        obtain ⟨ha_x28, cs_x28, hn_x28, hr_x28, hc_x28⟩ := ((h_p0.L.mono (hl7.trans hl22)).sl).el _ _ hx_x28
        obtain rfl := hr_x28
        refine WO.indexAddr (e := 98) (sz := 4) rfl (by kernel_rfl) (by kernel_rfl) (by kernel_rfl) rfl ha_x28 rfl h0_x28 h1_x28 ?_
        refine WO.vals [(6, 43, (.pointer (some ⟨bl w_p0.L.a, of w_p0.L.a + ((i9 : Int)).toNat * 4 + 2, none⟩)))] (by kernel_rfl) (fun _ => by kernel_rfl) ?_
        refine WO.load rfl (by kernel_rfl) (by kernel_rfl) rfl (v := (.string x28.Path)) (fun w' hw' => hc_x28.cellk 2 (by kernel_rfl) ((rd_c (List.Mem.tail _ (List.Mem.head _)) (hS26.rd (List.Mem.tail _ (List.Mem.head _)))) w' hw')) ?_
        refine WO.vals [(8, 45, (.pointer (some ⟨b_p0, 0, none⟩))), (9, 46, (.pointer (some ⟨b_p0, 0, none⟩))), (10, 47, (.pointer (some ⟨b_p0, 0, none⟩)))] (by kernel_rfl) (fun _ => by kernel_rfl) ?_
        refine WO.load rfl (by kernel_rfl) (by kernel_rfl) rfl (v := (.slice w_p0.L.a p0.L.length w_p0.L.c)) (fun w' hw' => cell_one ((rd_c (List.Mem.head _) (hS26.rd (List.Mem.head _))) w' hw') (by kernel_rfl)) ?_
        refine WO.vals [(12, 49, (.int .i64 (i9 : Int)))] (by kernel_rfl) (fun _ => by kernel_rfl) ?_
        obtain ⟨x29, hx_x29, hr1⟩ := bind_some hr1
        obtain ⟨h0_x29, h1_x29, hx_x29⟩ := idx_some hx_x29
        obtain ⟨ha_x29, cs_x29, hn_x29, hr_x29, hc_x29⟩ := ((h_p0.L.mono (hl7.trans hl22)).sl).el _ _ hx_x29
        obtain rfl := hr_x29
        refine WO.indexAddr (e := 98) (sz := 4) rfl (by kernel_rfl) (by kernel_rfl) (by kernel_rfl) rfl ha_x29 rfl h0_x29 h1_x29 ?_
        refine WO.vals [(14, 51, (.pointer (some ⟨bl w_p0.L.a, of w_p0.L.a + ((i9 : Int)).toNat * 4 + 1, none⟩)))] (by kernel_rfl) (fun _ => by kernel_rfl) ?_
        refine WO.load rfl (by kernel_rfl) (by kernel_rfl) rfl (v := (.int .i64 x29.Mode)) (fun w' hw' => hc_x29.cellk 1 (by kernel_rfl) ((rd_c (List.Mem.tail _ (List.Mem.head _)) (hS26.rd (List.Mem.tail _ (List.Mem.head _)))) w' hw')) ?_
        refine WO.tail rfl ?_
        refine WO.vals [(16, 53, (.agg (cs_api_Need (⟨x28.Path, x29.Mode⟩ : api_Need)).toArray))] (by kernel_rfl) (fun _ => by kernel_rfl) ?_
        have hS30 := hS26.front2
        refine WO.storeBox hS30 rfl (by kernel_rfl) rfl 0 rfl rfl (by kernel_rfl) (by kernel_rfl) (by kernel_rfl) ((cs_api_Need (⟨x28.Path, x29.Mode⟩ : api_Need)).toArray) (by kernel_rfl) (fun _ _ => trivial) ?_
        intro w32 hS31
        refine WO.vals [(18, 5, (.bool true))] (by kernel_rfl) (fun _ => by kernel_rfl) ?_
        refine WO.nil ?_
        refine En.next ?_
        refine W.ret ?_
        refine En.in_ret ?_
        refine En.nx_ret ?_
        refine En.rd_ret ?_
        have ht := hext5 _ (Option.some.inj hr1).symm
        subst t5
        refine En.in_ret ?_
        refine En.nx_ret ?_
        have hS37 := hS31.drop
        have he := Option.some.inj hr
        subst r
        exact En.retc2 rfl (.agg (cs_api_Need (⟨x28.Path, x29.Mode⟩ : api_Need)).toArray) (.bool true) ⟨_, _, rfl, run_loadVarN (cs := (cs_api_Need (⟨x28.Path, x29.Mode⟩ : api_Need))) (by kernel_rfl) (by kernel_rfl) (cells_one (hS31.rd (List.Mem.head _)) (by kernel_rfl))⟩ rfl ⟨I21, rfl, (hl7.trans hl22), hS37⟩
      · replace hr1 := cond_f hc hr1
        refine W.skip ?_
        refine En.in_normal ?_
        refine En.next ?_
        refine W.region (l := [0, 1, 2]) (by kernel_rfl) ?_
        refine WO.vals [(0, 14, (.int .i64 (i9 : Int)))] (by kernel_rfl) (fun _ => by kernel_rfl) ?_
        refine WO.incr (j := i9) rfl (by kernel_rfl) rfl (by first | omega | (dsimp only at *; omega)) ?_
        refine WO.vals [(2, 6, (.int .i64 ((i9 + 1 : Nat) : Int)))] (by kernel_rfl) (fun _ => by kernel_rfl) ?_
        refine WO.nil ?_
        refine En.weaken (fr' := [(0, (.pointer (some ⟨b_p0, 0, none⟩))), (1, (.int .i64 p1)), (4, (.pointer (some ⟨b1, 0, none⟩))), (6, (.int .i64 ((i9 + 1 : Nat) : Int)))]) (En.round ⟨s8, (Option.some.inj hr1).symm, I21, rfl, (hl7.trans hl22), hS25⟩) (Sub.cons rfl (Sub.cons rfl (Sub.cons rfl (Sub.cons rfl Sub.nil))))
  case lastt5 =>
    rintro s8 _ w38 ⟨I6, rfl, hl7, hS39⟩ he
    cases he
    refine W.seq ?_
    refine W.seq ?_
    refine W.region (l := [0, 1, 2, 3, 4, 5, 6]) (by kernel_rfl) ?_
    refine WO.vals [(0, 7, (.int .i64 (p0.L.length : Int))), (1, 8, (.pointer (some ⟨b_p0, 0, none⟩))), (2, 9, (.pointer (some ⟨b_p0, 0, none⟩))), (3, 10, (.pointer (some ⟨b_p0, 0, none⟩)))] (by kernel_rfl) (fun _ => by kernel_rfl) ?_
    refine WO.load rfl (by kernel_rfl) (by kernel_rfl) rfl (v := (.slice w_p0.L.a p0.L.length w_p0.L.c)) (fun w' hw' => cell_one ((rd_f (hS39.rd (List.Mem.head _))) w' hw') (by kernel_rfl)) ?_
    refine WO.vals [(5, 12, (.int .i64 (p0.L.length : Int))), (6, 13, (.bool (decide ((p0.L.length : Int) < (p0.L.length : Int)))))] (by kernel_rfl) (fun _ => by kernel_rfl) ?_
    refine WO.nil ?_
    refine En.next ?_
    refine W.cond (b := (decide ((p0.L.length : Int) < (p0.L.length : Int)))) rfl rfl (fun hc => ?_) (fun hc => ?_)
    · exact absurd hc (by first | (simp; done) | (simp; omega))
    clear hc
    refine W.exit ?_
    refine En.nx_exit ?_
    refine En.rd_exit ?_
    refine En.in_hit ?_
    refine En.next ?_
    refine W.seq ?_
    refine W.region (l := [0, 1, 2]) (by kernel_rfl) ?_
    refine WO.vals [(0, 54, (.agg (cs_api_Need z_api_Need).toArray))] (by kernel_rfl) (fun _ => by kernel_rfl) ?_
    have hS40 := hS39.front2
    refine WO.storeBox hS40 rfl (by kernel_rfl) rfl 0 rfl rfl (by kernel_rfl) (by kernel_rfl) (by kernel_rfl) ((cs_api_Need z_api_Need).toArray) (by kernel_rfl) (fun _ _ => trivial) ?_
    intro w42 hS41
    refine WO.vals [(2, 5, (.bool false))] (by kernel_rfl) (fun _ => by kernel_rfl) ?_
    refine WO.nil ?_
    refine En.next ?_
    refine W.ret ?_
    have hS43 := hS41.drop
    have he := Option.some.inj hr
    subst r
    exact En.retc2 rfl (.agg (cs_api_Need z_api_Need).toArray) (.bool false) ⟨_, _, rfl, run_loadVarN (cs := (cs_api_Need z_api_Need)) (by kernel_rfl) (by kernel_rfl) (cells_one (hS41.rd (List.Mem.head _)) (by kernel_rfl))⟩ rfl ⟨I6, rfl, hl7, hS43⟩
def registrarref21_Locks_Queue (p0 : registrarref21_Locks) (p1 : ByteArray) : Option (List Int) := (forE (fun (i5 : Nat) => fun (s4 : List Int) => (idx p0.L (i5 : Int)).bind (fun (x16 : registrarref21_One) => ((bif (sEq x16.Path p1) then (idx p0.L (i5 : Int)).bind (fun (x21 : registrarref21_One) => some (!x21.Held)) else some false)).bind (fun (j17 : Bool) => ((bif j17 then (idx p0.L (i5 : Int)).bind (fun (x28 : registrarref21_One) => (app 8 s4 ([x28.Who] : List Int)).bind (fun (x37 : List Int) => some x37)) else some s4)).bind (fun (j24 : List Int) => some j24)))) p0.L.length 0 ([] : List Int)).bind (fun (s4 : (List Int)) => some s4)
set_option maxHeartbeats 1000000 in
theorem registrarref21_Locks_Queue_ok {E w : World} {I : Mem} {Os : List Mem} {p0 : registrarref21_Locks} {p1 : ByteArray} {b_p0 : Nat} {w_p0 : W_registrarref21_Locks} (h_p0 : ok_registrarref21_Locks I p0 w_p0) (hS : St E w I ((Gv.one b_p0 (.cells (cs_registrarref21_Locks p0 w_p0).toArray 51 (0, 0))) :: (w_p0.L.C) :: Os)) {r : (List Int)} (hr : registrarref21_Locks_Queue p0 p1 = some r) :
    Calls P 48 #[(.pointer (some ⟨b_p0, 0, none⟩)), (.string p1)] w (fun e w' => ∃ (I' : Mem) (ra0 : Option Addr) (rc0 : Nat), e = .returned (.slice ra0 r.length rc0) ∧ I.Le I' ∧ St E w' I' ((Gv.one b_p0 (.cells (cs_registrarref21_Locks p0 w_p0).toArray 51 (0, 0))) :: w_p0.L.C :: Os) ∧ RSl 1 (RInt .i64) I' ra0 rc0 r) := by
  refine calls_W (args := [(.pointer (some ⟨b_p0, 0, none⟩)), (.string p1)]) (fn := Try.f48) rfl rfl rfl ?_
  unfold registrarref21_Locks_Queue at hr
  refine W.seq ?_
  refine W.region (l := [0]) (by kernel_rfl) ?_
  refine WO.vals [(0, 4, (.slice none 0 0))] (by kernel_rfl) (fun _ => by kernel_rfl) ?_
  refine WO.nil ?_
  refine En.next ?_
  refine W.seq ?_
  refine W.region (l := [0]) (by kernel_rfl) ?_
  refine WO.vals [(0, 5, (.slice none 0 0))] (by kernel_rfl) (fun _ => by kernel_rfl) ?_
  refine WO.nil ?_
  refine En.next ?_
  refine W.seq ?_
  refine W.seq ?_
  refine W.region (l := [0]) (by kernel_rfl) ?_
  refine WO.vals [(0, 6, (.int .i64 0))] (by kernel_rfl) (fun _ => by kernel_rfl) ?_
  refine WO.nil ?_
  refine En.next ?_
  refine W.block ?_
  obtain ⟨s4, hloop6, hr⟩ := bind_some hr
  have hS8 := hS.no
  have hS9 := hS8.front2
  have hS10 := hS9.front2
  have hlt14 := (h_p0.L.sl).len_lt
  refine W.weaken (fr' := [(0, (.pointer (some ⟨b_p0, 0, none⟩))), (1, (.string p1)), (5, (.slice none ([] : List Int).length 0)), (6, (.int .i64 ((0 : Nat) : Int)))]) (W.forE (m := p0.L.length) hloop6 (fun (i5 : Nat) => fun (s4 : List Int) fr w => ∃ (I2 : Mem), ∃ (a_s4 : Option Addr), ∃ (c_s4 : Nat), ∃ (C_s4 : Mem), fr = [(0, (.pointer (some ⟨b_p0, 0, none⟩))), (1, (.string p1)), (5, (.slice a_s4 s4.length c_s4)), (6, (.int .i64 (i5 : Int)))] ∧ I.Le I2 ∧ St E w I2 ((Gv.one b_p0 (.cells (cs_registrarref21_Locks p0 w_p0).toArray 51 (0, 0))) :: (w_p0.L.C) :: (C_s4) :: Os) ∧ OwnSl 3 1 (RInt .i64) I2 C_s4 a_s4 c_s4 s4) ⟨I, none, 0, Mem.no, rfl, Mem.Le.refl _, hS10, OwnSl.nil⟩ ?roundt1 ?lastt1) (Sub.cons rfl (Sub.cons rfl (Sub.cons rfl (Sub.cons rfl Sub.nil))))
  case roundt1 =>
    rintro i5 s4 _ w11 hi15 ⟨I2, a_s4, c_s4, C_s4, rfl, hl3, hS12, h_s4⟩ x13 hr1
    refine W.seq ?_
    refine W.seq ?_
    refine W.region (l := [0, 1, 2, 3, 4, 5, 6]) (by kernel_rfl) ?_
    refine WO.vals [(0, 7, (.int .i64 (i5 : Int))), (1, 8, (.pointer (some ⟨b_p0, 0, none⟩))), (2, 9, (.pointer (some ⟨b_p0, 0, none⟩))), (3, 10, (.pointer (some ⟨b_p0, 0, none⟩)))] (by kernel_rfl) (fun _ => by kernel_rfl) ?_
    refine WO.load rfl (by kernel_rfl) (by kernel_rfl) rfl (v := (.slice w_p0.L.a p0.L.length w_p0.L.c)) (fun w' hw' => cell_one ((rd_f (hS12.rd (List.Mem.head _))) w' hw') (by kernel_rfl)) ?_
    refine WO.vals [(5, 12, (.int .i64 (p0.L.length : Int))), (6, 13, (.bool (decide ((i5 : Int) < (p0.L.length : Int)))))] (by kernel_rfl) (fun _ => by kernel_rfl) ?_
    refine WO.nil ?_
    refine En.next ?_
    refine W.cond (b := (decide ((i5 : Int) < (p0.L.length : Int)))) rfl rfl (fun hc => ?_) (fun hc => ?_)
    rotate_left
    · exact absurd hc (by first | (simp; done) | (simp; omega))
    clear hc
    refine W.skip ?_
    refine En.next ?_
    refine W.seq ?_
    refine W.block ?_
    refine W.seq ?_
    refine W.region (l := [0, 1, 2, 3, 4, 5, 6, 7, 8, 9, 10, 11, 12, 13, 14, 15, 16, 17, 18, 19, 20]) (by kernel_rfl) ?_
    refine WO.vals [(0, 16, (.pointer (some ⟨b_p0, 0, none⟩))), (1, 17, (.pointer (some ⟨b_p0, 0, none⟩))), (2, 18, (.pointer (some ⟨b_p0, 0, none⟩)))] (by kernel_rfl) (fun _ => by kernel_rfl) ?_
    refine WO.load rfl (by kernel_rfl) (by kernel_rfl) rfl (v := (.slice w_p0.L.a p0.L.length w_p0.L.c)) (fun w' hw' => cell_one ((rd_f (hS12.rd (List.Mem.head _))) w' hw') (by kernel_rfl)) ?_
    refine WO.vals [(4, 20, (.int .i64 (i5 : Int)))] (by kernel_rfl) (fun _ => by kernel_rfl) ?_
    obtain ⟨x16, hx_x16, hr1⟩ := bind_some hr1
    obtain ⟨h0_x16, h1_x16, hx_x16⟩ := idx_some hx_x16
    obtain ⟨ha_x16, cs_x16, hn_x16, hr_x16, hc_x16⟩ := ((h_p0.L.mono hl3).sl).el _ _ hx_x16
    obtain rfl := hr_x16
    refine WO.indexAddr (e := 98) (sz := 4) rfl (by kernel_rfl) (by kernel_rfl) (by kernel_rfl) rfl ha_x16 rfl h0_x16 h1_x16 ?_
    refine WO.vals [(6, 22, (.pointer (some ⟨bl w_p0.L.a, of w_p0.L.a + ((i5 : Int)).toNat * 4 + 2, none⟩)))] (by kernel_rfl) (fun _ => by kernel_rfl) ?_
    refine WO.load rfl (by kernel_rfl) (by kernel_rfl) rfl (v := (.string x16.Path)) (fun w' hw' => hc_x16.cellk 2 (by kernel_rfl) ((rd_f (hS12.rd (List.Mem.tail _ (List.Mem.head _)))) w' hw')) ?_
    refine WO.vals [(8, 24, (.string p1)), (9, 25, (.bool (sEq x16.Path p1))), (10, 26, (.bool (sEq x16.Path p1)))] (by kernel_rfl) (fun _ => by kernel_rfl) ?_
    obtain ⟨j17, hr2, hr1⟩ := bind_some hr1
    refine WO.join (l1 := [11, 12, 13, 14, 15, 16, 17, 18, 19, 20]) (l2 := []) (J := (fun fr w => ∃ (I19 : Mem), fr = [(0, (.pointer (some ⟨b_p0, 0, none⟩))), (1, (.string p1)), (5, (.slice a_s4 s4.length c_s4)), (6, (.int .i64 (i5 : Int))), (36, (.bool j17))] ∧ I2.Le I19 ∧ St E w I19 ((Gv.one b_p0 (.cells (cs_registrarref21_Locks p0 w_p0).toArray 51 (0, 0))) :: (w_p0.L.C) :: (C_s4) :: Os))) ?restj17 ?waysj17
    case waysj17 =>
      refine WO.caseb (sEq x16.Path p1) (fun hc => ?_) (fun hc => ?_)
      · replace hr2 := cond_t hc hr2
        refine WO.reslot 26 rfl (show Value.bool (sEq x16.Path p1) = Value.bool true by rw [hc]) ?_
        refine WO.vals [(11, 27, (.pointer (some ⟨b_p0, 0, none⟩))), (12, 28, (.pointer (some ⟨b_p0, 0, none⟩))), (13, 29, (.pointer (some ⟨b_p0, 0, none⟩)))] (by kernel_rfl) (fun _ => by kernel_rfl) ?_
        refine WO.load rfl (by kernel_rfl) (by kernel_rfl) rfl (v := (.slice w_p0.L.a p0.L.length w_p0.L.c)) (fun w' hw' => cell_one ((rd_f (hS12.rd (List.Mem.head _))) w' hw') (by kernel_rfl)) ?_
        refine WO.vals [(15, 31, (.int .i64 (i5 : Int)))] (by kernel_rfl) (fun _ => by kernel_rfl) ?_
        obtain ⟨x21, hx_x21, hr2⟩ := bind_some hr2
        obtain ⟨h0_x21, h1_x21, hx_x21⟩ := idx_some hx_x21
        obtain ⟨ha_x21, cs_x21, hn_x21, hr_x21, hc_x21⟩ := ((h_p0.L.mono hl3).sl).el _ _ hx_x21
        obtain rfl := hr_x21
        refine WO.indexAddr (e := 98) (sz := 4) rfl (by kernel_rfl) (by kernel_rfl) (by kernel_rfl) rfl ha_x21 rfl h0_x21 h1_x21 ?_
        refine WO.vals [(17, 33, (.pointer (some ⟨bl w_p0.L.a, of w_p0.L.a + ((i5 : Int)).toNat * 4 + 3, none⟩)))] (by kernel_rfl) (fun _ => by kernel_rfl) ?_
        refine WO.load rfl (by kernel_rfl) (by kernel_rfl) rfl (v := (.bool x21.Held)) (fun w' hw' => hc_x21.cellk 3 (by kernel_rfl) ((rd_f (hS12.rd (List.Mem.tail _ (List.Mem.head _)))) w' hw')) ?_
        refine WO.vals [(19, 35, (.bool (!x21.Held))), (20, 36, (.bool (!x21.Held)))] (by kernel_rfl) (fun _ => by kernel_rfl) ?_
        have he := Option.some.inj hr2
        subst j17
        refine WO.weaken (fr' := [(0, (.pointer (some ⟨b_p0, 0, none⟩))), (1, (.string p1)), (5, (.slice a_s4 s4.length c_s4)), (6, (.int .i64 (i5 : Int))), (36, (.bool (!x21.Held)))]) (WO.meet ⟨I2, rfl, Mem.Le.refl _, hS12⟩) (Sub.cons rfl (Sub.cons rfl (Sub.cons rfl (Sub.cons rfl (Sub.cons rfl Sub.nil)))))
      · replace hr2 := cond_f hc hr2
        refine WO.reslot 26 rfl (show Value.bool (sEq x16.Path p1) = Value.bool false by rw [hc]) ?_
        refine WO.pass rfl (by kernel_rfl) rfl ?_
        refine WO.pass rfl (by kernel_rfl) rfl ?_
        refine WO.pass rfl (by kernel_rfl) rfl ?_
        refine WO.pass rfl (by kernel_rfl) rfl ?_
        refine WO.pass rfl (by kernel_rfl) rfl ?_
        refine WO.pass rfl (by kernel_rfl) rfl ?_
        refine WO.pass rfl (by kernel_rfl) rfl ?_
        refine WO.pass rfl (by kernel_rfl) rfl ?_
        refine WO.pass rfl (by kernel_rfl) rfl ?_
        refine WO.vals [(20, 36, (.bool false))] (by kernel_rfl) (fun _ => by kernel_rfl) ?_
        have he := Option.some.inj hr2
        subst j17
        refine WO.weaken (fr' := [(0, (.pointer (some ⟨b_p0, 0, none⟩))), (1, (.string p1)), (5, (.slice a_s4 s4.length c_s4)), (6, (.int .i64 (i5 : Int))), (36, (.bool false))]) (WO.meet ⟨I2, rfl, Mem.Le.refl _, hS12⟩) (Sub.cons rfl (Sub.cons rfl (Sub.cons rfl (Sub.cons rfl (Sub.cons rfl Sub.nil)))))
    case restj17 =>
      rintro _ w22 ⟨I19, rfl, hl20, hS23⟩
      refine WO.nil ?_
      refine En.next ?_
      obtain ⟨j24, hr2, hr1⟩ := bind_some hr1
      refine W.join (J := (fun fr w => ∃ (I26 : Mem), ∃ (a_j24 : Option Addr), ∃ (c_j24 : Nat), ∃ (C_j24 : Mem), fr = [(0, (.pointer (some ⟨b_p0, 0, none⟩))), (1, (.string p1)), (5, (.slice a_j24 j24.length c_j24)), (6, (.int .i64 (i5 : Int)))] ∧ I19.Le I26 ∧ St E w I26 ((Gv.one b_p0 (.cells (cs_registrarref21_Locks p0 w_p0).toArray 51 (0, 0))) :: (w_p0.L.C) :: (C_j24) :: Os) ∧ OwnSl 3 1 (RInt .i64) I26 C_j24 a_j24 c_j24 j24)) ?restj24 ?waysj24
      case waysj24 =>
        refine W.cond (b := j17) rfl rfl (fun hc => ?_) (fun hc => ?_)
        · replace hr2 := cond_t hc hr2
          refine W.region (l := [0, 1, 2, 3, 4, 5, 6, 7, 8, 9, 10, 11]) (by kernel_rfl) ?_
          refine WO.vals [(0, 37, (.slice a_s4 s4.length c_s4)), (1, 38, (.pointer (some ⟨b_p0, 0, none⟩))), (2, 39, (.pointer (some ⟨b_p0, 0, none⟩))), (3, 40, (.pointer (some ⟨b_p0, 0, none⟩)))] (by kernel_rfl) (fun _ => by kernel_rfl) ?_
          refine WO.load rfl (by kernel_rfl) (by kernel_rfl) rfl (v := (.slice w_p0.L.a p0.L.length w_p0.L.c)) (fun w' hw' => cell_one ((rd_f (hS23.rd (List.Mem.head _))) w' hw') (by kernel_rfl)) ?_
          refine WO.vals [(5, 42, (.int .i64 (i5 : Int)))] (by kernel_rfl) (fun _ => by kernel_rfl) ?_
          obtain ⟨x28, hx_x28, hr2⟩ := bind_some hr2
          obtain ⟨h0_x28, h1_x28, hx_x28⟩ := idx_some hx_x28
          obtain ⟨ha_x28, cs_x28, hn_x28, hr_x28, hc_x28⟩ := ((h_p0.L.mono (hl3.trans hl20)).sl).el _ _ hx_x28
          obtain rfl := hr_x28
          refine WO.indexAddr (e := 98) (sz := 4) rfl (by kernel_rfl) (by kernel_rfl) (by kernel_rfl) rfl ha_x28 rfl h0_x28 h1_x28 ?_
          refine WO.vals [(7, 44, (.pointer (some ⟨bl w_p0.L.a, of w_p0.L.a + ((i5 : Int)).toNat * 4, none⟩)))] (by kernel_rfl) (fun _ => by kernel_rfl) ?_
          refine WO.load rfl (by kernel_rfl) (by kernel_rfl) rfl (v := (.int .i64 x28.Who)) (fun w' hw' => hc_x28.cell0 (by kernel_rfl) ((rd_f (hS23.rd (List.Mem.tail _ (List.Mem.head _)))) w' hw')) ?_
          refine WO.newSlice (rel := (RInt .i64)) (xs := ([x28.Who] : List Int)) hS23 rfl (by kernel_rfl) rfl 3 1 [[(.int .i64 x28.Who)]] (by kernel_rfl) rfl ((Elr.cons rfl Elr.nil)) (fun _ _ _ => trivial) ?_
          intro a32 C30 w34 hS33 ho31
          have hS36 := hS33.front3
          obtain ⟨x37, hx_x37, hr2⟩ := bind_some hr2
          obtain ⟨h0_x37, he_x37⟩ := app_some hx_x37
          refine WO.append (e' := 3) (b := 8) (zs := #[(.int .i64 0)]) hS36 (OwnSl.mono h_s4 hl20) rfl (by kernel_rfl) rfl (by kernel_rfl) (by kernel_rfl) (by kernel_rfl) rfl rfl rfl rfl ho31.sl (hS36.rd (List.Mem.tail _ (List.Mem.head _))) h0_x37 he_x37 (fun _ _ _ => trivial) ?_
          intro a38 c39 w40 C41 hS42 ho43
          have hS44 := hS42.front1
          have hS45 := hS44.drop
          refine WO.vals [(11, 5, (.slice a38 x37.length c39))] (by kernel_rfl) (fun _ => by kernel_rfl) ?_
          refine WO.nil ?_
          have hS46 := hS45.front2
          have hS47 := hS46.front2
          have he := Option.some.inj hr2
          subst j24
          refine En.weaken (fr' := [(0, (.pointer (some ⟨b_p0, 0, none⟩))), (1, (.string p1)), (5, (.slice a38 x37.length c39)), (6, (.int .i64 (i5 : Int)))]) (En.round ⟨I19, a38, c39, C41, rfl, Mem.Le.refl _, hS47, ho43⟩) (Sub.cons rfl (Sub.cons rfl (Sub.cons rfl (Sub.cons rfl Sub.nil))))
        · replace hr2 := cond_f hc hr2
          refine W.skip ?_
          have he := Option.some.inj hr2
          subst j24
          refine En.weaken (fr' := [(0, (.pointer (some ⟨b_p0, 0, none⟩))), (1, (.string p1)), (5, (.slice a_s4 s4.length c_s4)), (6, (.int .i64 (i5 : Int)))]) (En.round ⟨I19, a_s4, c_s4, C_s4, rfl, Mem.Le.refl _, hS23, (OwnSl.mono h_s4 hl20)⟩) (Sub.cons rfl (Sub.cons rfl (Sub.cons rfl (Sub.cons rfl Sub.nil))))
      case restj24 =>
        rintro _ w48 ⟨I26, a_j24, c_j24, C_j24, rfl, hl27, hS49, h_j24⟩
        refine En.in_normal ?_
        refine En.next ?_
        refine W.region (l := [0, 1, 2]) (by kernel_rfl) ?_
        refine WO.vals [(0, 14, (.int .i64 (i5 : Int)))] (by kernel_rfl) (fun _ => by kernel_rfl) ?_
        refine WO.incr (j := i5) rfl (by kernel_rfl) rfl (by first | omega | (dsimp only at *; omega)) ?_
        refine WO.vals [(2, 6, (.int .i64 ((i5 + 1 : Nat) : Int)))] (by kernel_rfl) (fun _ => by kernel_rfl) ?_
        refine WO.nil ?_
        have he := Option.some.inj hr1
        subst x13
        refine En.weaken (fr' := [(0, (.pointer (some ⟨b_p0, 0, none⟩))), (1, (.string p1)), (5, (.slice a_j24 j24.length c_j24)), (6, (.int .i64 ((i5 + 1 : Nat) : Int)))]) (En.round ⟨I26, a_j24, c_j24, C_j24, rfl, ((hl3.trans hl20).trans hl27), hS49, h_j24⟩) (Sub.cons rfl (Sub.cons rfl (Sub.cons rfl (Sub.cons rfl Sub.nil))))
  case lastt1 =>
    rintro _ w50 ⟨I2, a_s4, c_s4, C_s4, rfl, hl3, hS51, h_s4⟩
    refine W.seq ?_
    refine W.seq ?_
    refine W.region (l := [0, 1, 2, 3, 4, 5, 6]) (by kernel_rfl) ?_
    refine WO.vals [(0, 7, (.int .i64 (p0.L.length : Int))), (1, 8, (.pointer (some ⟨b_p0, 0, none⟩))), (2, 9, (.pointer (some ⟨b_p0, 0, none⟩))), (3, 10, (.pointer (some ⟨b_p0, 0, none⟩)))] (by kernel_rfl) (fun _ => by kernel_rfl) ?_
    refine WO.load rfl (by kernel_rfl) (by kernel_rfl) rfl (v := (.slice w_p0.L.a p0.L.length w_p0.L.c)) (fun w' hw' => cell_one ((rd_f (hS51.rd (List.Mem.head _))) w' hw') (by kernel_rfl)) ?_
    refine WO.vals [(5, 12, (.int .i64 (p0.L.length : Int))), (6, 13, (.bool (decide ((p0.L.length : Int) < (p0.L.length : Int)))))] (by kernel_rfl) (fun _ => by kernel_rfl) ?_
    refine WO.nil ?_
    refine En.next ?_
    refine W.cond (b := (decide ((p0.L.length : Int) < (p0.L.length : Int)))) rfl rfl (fun hc => ?_) (fun hc => ?_)
    · exact absurd hc (by first | (simp; done) | (simp; omega))
    clear hc
    refine W.exit ?_
    refine En.nx_exit ?_
    refine En.rd_exit ?_
    refine En.in_hit ?_
    refine En.next ?_
    refine W.seq ?_
    refine W.region (l := [0, 1]) (by kernel_rfl) ?_
    refine WO.vals [(0, 48, (.slice a_s4 s4.length c_s4))] (by kernel_rfl) (fun _ => by kernel_rfl) ?_
    have hS52 := hS51.front2
    obtain ⟨I53, hl54, hS56, hp55⟩ := OwnSl.pub h_s4 hS52
    refine WO.vals [(1, 4, (.slice a_s4 s4.length c_s4))] (by kernel_rfl) (fun _ => by kernel_rfl) ?_
    refine WO.nil ?_
    refine En.next ?_
    refine W.ret ?_
    have he := Option.some.inj hr
    subst r
    exact En.ret1 rfl (.slice a_s4 s4.length c_s4) rfl ⟨I53, a_s4, c_s4, rfl, (hl3.trans hl54), hS56, hp55⟩
def registrarref21_Goes (p0 : Int) (p1 : Int) : Option Bool := (bif ((((((decide (p0 < 1)) || (decide (p0 > 4))) || (decide (p1 < 1))) || (decide (p1 > 4))) || (p0 == 4)) || (p1 == 4)) then some false else some (((p0 == 1) || (p1 == 1)) || (p0 == p1)))
set_option maxHeartbeats 1000000 in
theorem registrarref21_Goes_ok {E w : World} {I : Mem} {Os : List Mem} {p0 : Int} {p1 : Int} (hS : St E w I Os) {r : Bool} (hr : registrarref21_Goes p0 p1 = some r) :
    Calls P 16 #[(.int .i64 p0), (.int .i64 p1)] w (fun e w' => ∃ (I' : Mem), e = .returned (.bool r) ∧ I.Le I' ∧ St E w' I' Os) := by
  refine calls_W (args := [(.int .i64 p0), (.int .i64 p1)]) (fn := Try.f16) rfl rfl rfl ?_
  unfold registrarref21_Goes at hr
  refine W.seq ?_
  refine W.region (l := [0]) (by kernel_rfl) ?_
  refine WO.vals [(0, 4, (.bool false))] (by kernel_rfl) (fun _ => by kernel_rfl) ?_
  refine WO.nil ?_
  refine En.next ?_
  refine W.seq ?_
  refine W.seq ?_
  refine W.region (l := [0, 1, 2, 3, 4, 5, 6, 7, 8, 9, 10, 11, 12, 13, 14, 15, 16, 17, 18, 19, 20, 21]) (by kernel_rfl) ?_
  refine WO.vals [(0, 5, (.int .i64 p0)), (1, 6, (.bool (decide (p0 < 1)))), (2, 7, (.bool (decide (p0 < 1))))] (by kernel_rfl) (fun _ => by kernel_rfl) ?_
  refine WO.join (l1 := [3, 4, 5]) (l2 := [6, 7, 8, 9, 10, 11, 12, 13, 14, 15, 16, 17, 18, 19, 20, 21]) (J := fun frx wx => frx = [(10, (.bool ((decide (p0 < 1)) || (decide (p0 > 4))))), (0, (.int .i64 p0)), (1, (.int .i64 p1))] ∧ w = wx) ?restm1 ?waysm1
  case waysm1 =>
    refine WO.caseb (decide (p0 < 1)) (fun hc => ?_) (fun hc => ?_)
    · skip
      refine WO.reslot 7 rfl (show Value.bool (decide (p0 < 1)) = Value.bool true by rw [hc]) ?_
      refine WO.pass rfl (by kernel_rfl) rfl ?_
      refine WO.pass rfl (by kernel_rfl) rfl ?_
      refine WO.vals [(5, 10, (.bool true))] (by kernel_rfl) (fun _ => by kernel_rfl) ?_
      refine WO.weaken (fr' := [(10, (.bool ((decide (p0 < 1)) || (decide (p0 > 4))))), (0, (.int .i64 p0)), (1, (.int .i64 p1))]) (WO.meet ⟨rfl, rfl⟩) (Sub.cons (by rw [hc]; rfl) (Sub.cons rfl (Sub.cons rfl Sub.nil)))
    · skip
      refine WO.reslot 7 rfl (show Value.bool (decide (p0 < 1)) = Value.bool false by rw [hc]) ?_
      refine WO.vals [(3, 8, (.int .i64 p0)), (4, 9, (.bool (decide (p0 > 4)))), (5, 10, (.bool (decide (p0 > 4))))] (by kernel_rfl) (fun _ => by kernel_rfl) ?_
      refine WO.weaken (fr' := [(10, (.bool ((decide (p0 < 1)) || (decide (p0 > 4))))), (0, (.int .i64 p0)), (1, (.int .i64 p1))]) (WO.meet ⟨rfl, rfl⟩) (Sub.cons (by rw [hc]; rfl) (Sub.cons rfl (Sub.cons rfl Sub.nil)))
  case restm1 =>
    rintro _ _ ⟨rfl, rfl⟩
    refine WO.vals [(6, 11, (.bool ((decide (p0 < 1)) || (decide (p0 > 4)))))] (by kernel_rfl) (fun _ => by kernel_rfl) ?_
    refine WO.join (l1 := [7, 8, 9]) (l2 := [10, 11, 12, 13, 14, 15, 16, 17, 18, 19, 20, 21]) (J := fun frx wx => frx = [(14, (.bool (((decide (p0 < 1)) || (decide (p0 > 4))) || (decide (p1 < 1))))), (0, (.int .i64 p0)), (1, (.int .i64 p1))] ∧ w = wx) ?restm3 ?waysm3
    case waysm3 =>
      refine WO.caseb ((decide (p0 < 1)) || (decide (p0 > 4))) (fun hc => ?_) (fun hc => ?_)
      · skip
        refine WO.reslot 11 rfl (show Value.bool ((decide (p0 < 1)) || (decide (p0 > 4))) = Value.bool true by rw [hc]) ?_
        refine WO.pass rfl (by kernel_rfl) rfl ?_
        refine WO.pass rfl (by kernel_rfl) rfl ?_
        refine WO.vals [(9, 14, (.bool true))] (by kernel_rfl) (fun _ => by kernel_rfl) ?_
        refine WO.weaken (fr' := [(14, (.bool (((decide (p0 < 1)) || (decide (p0 > 4))) || (decide (p1 < 1))))), (0, (.int .i64 p0)), (1, (.int .i64 p1))]) (WO.meet ⟨rfl, rfl⟩) (Sub.cons (by rw [hc]; rfl) (Sub.cons rfl (Sub.cons rfl Sub.nil)))
      · skip
        refine WO.reslot 11 rfl (show Value.bool ((decide (p0 < 1)) || (decide (p0 > 4))) = Value.bool false by rw [hc]) ?_
        refine WO.vals [(7, 12, (.int .i64 p1)), (8, 13, (.bool (decide (p1 < 1)))), (9, 14, (.bool (decide (p1 < 1))))] (by kernel_rfl) (fun _ => by kernel_rfl) ?_
        refine WO.weaken (fr' := [(14, (.bool (((decide (p0 < 1)) || (decide (p0 > 4))) || (decide (p1 < 1))))), (0, (.int .i64 p0)), (1, (.int .i64 p1))]) (WO.meet ⟨rfl, rfl⟩) (Sub.cons (by rw [hc]; rfl) (Sub.cons rfl (Sub.cons rfl Sub.nil)))
    case restm3 =>
      rintro _ _ ⟨rfl, rfl⟩
      refine WO.vals [(10, 15, (.bool (((decide (p0 < 1)) || (decide (p0 > 4))) || (decide (p1 < 1)))))] (by kernel_rfl) (fun _ => by kernel_rfl) ?_
      refine WO.join (l1 := [11, 12, 13]) (l2 := [14, 15, 16, 17, 18, 19, 20, 21]) (J := fun frx wx => frx = [(18, (.bool ((((decide (p0 < 1)) || (decide (p0 > 4))) || (decide (p1 < 1))) || (decide (p1 > 4))))), (0, (.int .i64 p0)), (1, (.int .i64 p1))] ∧ w = wx) ?restm5 ?waysm5
      case waysm5 =>
        refine WO.caseb (((decide (p0 < 1)) || (decide (p0 > 4))) || (decide (p1 < 1))) (fun hc => ?_) (fun hc => ?_)
        · skip
          refine WO.reslot 15 rfl (show Value.bool (((decide (p0 < 1)) || (decide (p0 > 4))) || (decide (p1 < 1))) = Value.bool true by rw [hc]) ?_
          refine WO.pass rfl (by kernel_rfl) rfl ?_
          refine WO.pass rfl (by kernel_rfl) rfl ?_
          refine WO.vals [(13, 18, (.bool true))] (by kernel_rfl) (fun _ => by kernel_rfl) ?_
          refine WO.weaken (fr' := [(18, (.bool ((((decide (p0 < 1)) || (decide (p0 > 4))) || (decide (p1 < 1))) || (decide (p1 > 4))))), (0, (.int .i64 p0)), (1, (.int .i64 p1))]) (WO.meet ⟨rfl, rfl⟩) (Sub.cons (by rw [hc]; rfl) (Sub.cons rfl (Sub.cons rfl Sub.nil)))
        · skip
          refine WO.reslot 15 rfl (show Value.bool (((decide (p0 < 1)) || (decide (p0 > 4))) || (decide (p1 < 1))) = Value.bool false by rw [hc]) ?_
          refine WO.vals [(11, 16, (.int .i64 p1)), (12, 17, (.bool (decide (p1 > 4)))), (13, 18, (.bool (decide (p1 > 4))))] (by kernel_rfl) (fun _ => by kernel_rfl) ?_
          refine WO.weaken (fr' := [(18, (.bool ((((decide (p0 < 1)) || (decide (p0 > 4))) || (decide (p1 < 1))) || (decide (p1 > 4))))), (0, (.int .i64 p0)), (1, (.int .i64 p1))]) (WO.meet ⟨rfl, rfl⟩) (Sub.cons (by rw [hc]; rfl) (Sub.cons rfl (Sub.cons rfl Sub.nil)))
      case restm5 =>
        rintro _ _ ⟨rfl, rfl⟩
        refine WO.vals [(14, 19, (.bool ((((decide (p0 < 1)) || (decide (p0 > 4))) || (decide (p1 < 1))) || (decide (p1 > 4)))))] (by kernel_rfl) (fun _ => by kernel_rfl) ?_
        refine WO.join (l1 := [15, 16, 17]) (l2 := [18, 19, 20, 21]) (J := fun frx wx => frx = [(22, (.bool (((((decide (p0 < 1)) || (decide (p0 > 4))) || (decide (p1 < 1))) || (decide (p1 > 4))) || (p0 == 4)))), (0, (.int .i64 p0)), (1, (.int .i64 p1))] ∧ w = wx) ?restm7 ?waysm7
        case waysm7 =>
          refine WO.caseb ((((decide (p0 < 1)) || (decide (p0 > 4))) || (decide (p1 < 1))) || (decide (p1 > 4))) (fun hc => ?_) (fun hc => ?_)
          · skip
            refine WO.reslot 19 rfl (show Value.bool ((((decide (p0 < 1)) || (decide (p0 > 4))) || (decide (p1 < 1))) || (decide (p1 > 4))) = Value.bool true by rw [hc]) ?_
            refine WO.pass rfl (by kernel_rfl) rfl ?_
            refine WO.pass rfl (by kernel_rfl) rfl ?_
            refine WO.vals [(17, 22, (.bool true))] (by kernel_rfl) (fun _ => by kernel_rfl) ?_
            refine WO.weaken (fr' := [(22, (.bool (((((decide (p0 < 1)) || (decide (p0 > 4))) || (decide (p1 < 1))) || (decide (p1 > 4))) || (p0 == 4)))), (0, (.int .i64 p0)), (1, (.int .i64 p1))]) (WO.meet ⟨rfl, rfl⟩) (Sub.cons (by rw [hc]; rfl) (Sub.cons rfl (Sub.cons rfl Sub.nil)))
          · skip
            refine WO.reslot 19 rfl (show Value.bool ((((decide (p0 < 1)) || (decide (p0 > 4))) || (decide (p1 < 1))) || (decide (p1 > 4))) = Value.bool false by rw [hc]) ?_
            refine WO.vals [(15, 20, (.int .i64 p0)), (16, 21, (.bool (p0 == 4))), (17, 22, (.bool (p0 == 4)))] (by kernel_rfl) (fun _ => by kernel_rfl) ?_
            refine WO.weaken (fr' := [(22, (.bool (((((decide (p0 < 1)) || (decide (p0 > 4))) || (decide (p1 < 1))) || (decide (p1 > 4))) || (p0 == 4)))), (0, (.int .i64 p0)), (1, (.int .i64 p1))]) (WO.meet ⟨rfl, rfl⟩) (Sub.cons (by rw [hc]; rfl) (Sub.cons rfl (Sub.cons rfl Sub.nil)))
        case restm7 =>
          rintro _ _ ⟨rfl, rfl⟩
          refine WO.vals [(18, 23, (.bool (((((decide (p0 < 1)) || (decide (p0 > 4))) || (decide (p1 < 1))) || (decide (p1 > 4))) || (p0 == 4))))] (by kernel_rfl) (fun _ => by kernel_rfl) ?_
          refine WO.join (l1 := [19, 20, 21]) (l2 := []) (J := fun frx wx => frx = [(26, (.bool ((((((decide (p0 < 1)) || (decide (p0 > 4))) || (decide (p1 < 1))) || (decide (p1 > 4))) || (p0 == 4)) || (p1 == 4)))), (0, (.int .i64 p0)), (1, (.int .i64 p1))] ∧ w = wx) ?restm9 ?waysm9
          case waysm9 =>
            refine WO.caseb (((((decide (p0 < 1)) || (decide (p0 > 4))) || (decide (p1 < 1))) || (decide (p1 > 4))) || (p0 == 4)) (fun hc => ?_) (fun hc => ?_)
            · skip
              refine WO.reslot 23 rfl (show Value.bool (((((decide (p0 < 1)) || (decide (p0 > 4))) || (decide (p1 < 1))) || (decide (p1 > 4))) || (p0 == 4)) = Value.bool true by rw [hc]) ?_
              refine WO.pass rfl (by kernel_rfl) rfl ?_
              refine WO.pass rfl (by kernel_rfl) rfl ?_
              refine WO.vals [(21, 26, (.bool true))] (by kernel_rfl) (fun _ => by kernel_rfl) ?_
              refine WO.weaken (fr' := [(26, (.bool ((((((decide (p0 < 1)) || (decide (p0 > 4))) || (decide (p1 < 1))) || (decide (p1 > 4))) || (p0 == 4)) || (p1 == 4)))), (0, (.int .i64 p0)), (1, (.int .i64 p1))]) (WO.meet ⟨rfl, rfl⟩) (Sub.cons (by rw [hc]; rfl) (Sub.cons rfl (Sub.cons rfl Sub.nil)))
            · skip
              refine WO.reslot 23 rfl (show Value.bool (((((decide (p0 < 1)) || (decide (p0 > 4))) || (decide (p1 < 1))) || (decide (p1 > 4))) || (p0 == 4)) = Value.bool false by rw [hc]) ?_
              refine WO.vals [(19, 24, (.int .i64 p1)), (20, 25, (.bool (p1 == 4))), (21, 26, (.bool (p1 == 4)))] (by kernel_rfl) (fun _ => by kernel_rfl) ?_
              refine WO.weaken (fr' := [(26, (.bool ((((((decide (p0 < 1)) || (decide (p0 > 4))) || (decide (p1 < 1))) || (decide (p1 > 4))) || (p0 == 4)) || (p1 == 4)))), (0, (.int .i64 p0)), (1, (.int .i64 p1))]) (WO.meet ⟨rfl, rfl⟩) (Sub.cons (by rw [hc]; rfl) (Sub.cons rfl (Sub.cons rfl Sub.nil)))
          case restm9 =>
            rintro _ _ ⟨rfl, rfl⟩
            refine WO.nil ?_
            refine En.next ?_
            refine W.cond (b := ((((((decide (p0 < 1)) || (decide (p0 > 4))) || (decide (p1 < 1))) || (decide (p1 > 4))) || (p0 == 4)) || (p1 == 4))) rfl rfl (fun hc => ?_) (fun hc => ?_)
            · replace hr := cond_t hc hr
              refine W.seq ?_
              refine W.region (l := [0]) (by kernel_rfl) ?_
              refine WO.vals [(0, 4, (.bool false))] (by kernel_rfl) (fun _ => by kernel_rfl) ?_
              refine WO.nil ?_
              refine En.next ?_
              refine W.ret ?_
              refine En.nx_ret ?_
              have he := Option.some.inj hr
              subst r
              exact En.ret1 rfl (.bool false) rfl ⟨I, rfl, Mem.Le.refl _, hS⟩
            · replace hr := cond_f hc hr
              refine W.skip ?_
              refine En.next ?_
              refine W.seq ?_
              refine W.region (l := [0, 1, 2, 3, 4, 5, 6, 7, 8, 9, 10, 11]) (by kernel_rfl) ?_
              refine WO.vals [(0, 27, (.int .i64 p0)), (1, 28, (.bool (p0 == 1))), (2, 29, (.bool (p0 == 1)))] (by kernel_rfl) (fun _ => by kernel_rfl) ?_
              refine WO.join (l1 := [3, 4, 5]) (l2 := [6, 7, 8, 9, 10, 11]) (J := fun frx wx => frx = [(32, (.bool ((p0 == 1) || (p1 == 1)))), (0, (.int .i64 p0)), (1, (.int .i64 p1))] ∧ w = wx) ?restm11 ?waysm11
              case waysm11 =>
                refine WO.caseb (p0 == 1) (fun hc => ?_) (fun hc => ?_)
                · skip
                  refine WO.reslot 29 rfl (show Value.bool (p0 == 1) = Value.bool true by rw [hc]) ?_
                  refine WO.pass rfl (by kernel_rfl) rfl ?_
                  refine WO.pass rfl (by kernel_rfl) rfl ?_
                  refine WO.vals [(5, 32, (.bool true))] (by kernel_rfl) (fun _ => by kernel_rfl) ?_
                  refine WO.weaken (fr' := [(32, (.bool ((p0 == 1) || (p1 == 1)))), (0, (.int .i64 p0)), (1, (.int .i64 p1))]) (WO.meet ⟨rfl, rfl⟩) (Sub.cons (by rw [hc]; rfl) (Sub.cons rfl (Sub.cons rfl Sub.nil)))
                · skip
                  refine WO.reslot 29 rfl (show Value.bool (p0 == 1) = Value.bool false by rw [hc]) ?_
                  refine WO.vals [(3, 30, (.int .i64 p1)), (4, 31, (.bool (p1 == 1))), (5, 32, (.bool (p1 == 1)))] (by kernel_rfl) (fun _ => by kernel_rfl) ?_
                  refine WO.weaken (fr' := [(32, (.bool ((p0 == 1) || (p1 == 1)))), (0, (.int .i64 p0)), (1, (.int .i64 p1))]) (WO.meet ⟨rfl, rfl⟩) (Sub.cons (by rw [hc]; rfl) (Sub.cons rfl (Sub.cons rfl Sub.nil)))
              case restm11 =>
                rintro _ _ ⟨rfl, rfl⟩
                refine WO.vals [(6, 33, (.bool ((p0 == 1) || (p1 == 1))))] (by kernel_rfl) (fun _ => by kernel_rfl) ?_
                refine WO.join (l1 := [7, 8, 9, 10]) (l2 := [11]) (J := fun frx wx => frx = [(37, (.bool (((p0 == 1) || (p1 == 1)) || (p0 == p1))))] ∧ w = wx) ?restm13 ?waysm13
                case waysm13 =>
                  refine WO.caseb ((p0 == 1) || (p1 == 1)) (fun hc => ?_) (fun hc => ?_)
                  · skip
                    refine WO.reslot 33 rfl (show Value.bool ((p0 == 1) || (p1 == 1)) = Value.bool true by rw [hc]) ?_
                    refine WO.pass rfl (by kernel_rfl) rfl ?_
                    refine WO.pass rfl (by kernel_rfl) rfl ?_
                    refine WO.pass rfl (by kernel_rfl) rfl ?_
                    refine WO.vals [(10, 37, (.bool true))] (by kernel_rfl) (fun _ => by kernel_rfl) ?_
                    refine WO.weaken (fr' := [(37, (.bool (((p0 == 1) || (p1 == 1)) || (p0 == p1))))]) (WO.meet ⟨rfl, rfl⟩) (Sub.cons (by rw [hc]; rfl) Sub.nil)
                  · skip
                    refine WO.reslot 33 rfl (show Value.bool ((p0 == 1) || (p1 == 1)) = Value.bool false by rw [hc]) ?_
                    refine WO.vals [(7, 34, (.int .i64 p0)), (8, 35, (.int .i64 p1)), (9, 36, (.bool (p0 == p1))), (10, 37, (.bool (p0 == p1)))] (by kernel_rfl) (fun _ => by kernel_rfl) ?_
                    refine WO.weaken (fr' := [(37, (.bool (((p0 == 1) || (p1 == 1)) || (p0 == p1))))]) (WO.meet ⟨rfl, rfl⟩) (Sub.cons (by rw [hc]; rfl) Sub.nil)
                case restm13 =>
                  rintro _ _ ⟨rfl, rfl⟩
                  refine WO.vals [(11, 4, (.bool (((p0 == 1) || (p1 == 1)) || (p0 == p1))))] (by kernel_rfl) (fun _ => by kernel_rfl) ?_
                  refine WO.nil ?_
                  refine En.next ?_
                  refine W.ret ?_
                  have he := Option.some.inj hr
                  subst r
                  exact En.ret1 rfl (.bool (((p0 == 1) || (p1 == 1)) || (p0 == p1))) rfl ⟨I, rfl, Mem.Le.refl _, hS⟩
def registrarref21_Locks_blocked (p0 : registrarref21_Locks) (p1 : ByteArray) (p2 : Int) : Option Bool := (forN (fun (i4 : Nat) => fun (_s : Unit) => (idx p0.L (i4 : Int)).bind (fun (x11 : registrarref21_One) => ((bif ((sEq x11.Path p1) && x11.Held) then (registrarref21_Goes x11.Mode p2).bind (fun (r29 : Bool) => some (!r29)) else some false)).bind (fun (j20 : Bool) => (bif j20 then some (.inr true) else some (.inl ()))))) p0.L.length 0 ()).bind (fun (t : Unit ⊕ (Bool)) => match t with | .inl _ => some false | .inr s35 => some s35)
set_option maxHeartbeats 1000000 in
theorem registrarref21_Locks_blocked_ok {E w : World} {I : Mem} {Os : List Mem} {p0 : registrarref21_Locks} {p1 : ByteArray} {p2 : Int} {b_p0 : Nat} {w_p0 : W_registrarref21_Locks} (h_p0 : ok_registrarref21_Locks I p0 w_p0) (hS : St E w I ((Gv.one b_p0 (.cells (cs_registrarref21_Locks p0 w_p0).toArray 51 (0, 0))) :: (w_p0.L.C) :: Os)) {r : Bool} (hr : registrarref21_Locks_blocked p0 p1 p2 = some r) :
    Calls P 65 #[(.pointer (some ⟨b_p0, 0, none⟩)), (.string p1), (.int .i64 p2)] w (fun e w' => ∃ (I' : Mem), e = .returned (.bool r) ∧ I.Le I' ∧ St E w' I' ((Gv.one b_p0 (.cells (cs_registrarref21_Locks p0 w_p0).toArray 51 (0, 0))) :: w_p0.L.C :: Os)) := by
  refine calls_W (args := [(.pointer (some ⟨b_p0, 0, none⟩)), (.string p1), (.int .i64 p2)]) (fn := Try.f65) rfl rfl rfl ?_
  unfold registrarref21_Locks_blocked at hr
  refine W.seq ?_
  refine W.region (l := [0]) (by kernel_rfl) ?_
  refine WO.vals [(0, 6, (.bool false))] (by kernel_rfl) (fun _ => by kernel_rfl) ?_
  refine WO.nil ?_
  refine En.next ?_
  refine W.seq ?_
  refine W.seq ?_
  refine W.region (l := [0]) (by kernel_rfl) ?_
  refine WO.vals [(0, 7, (.int .i64 0))] (by kernel_rfl) (fun _ => by kernel_rfl) ?_
  refine WO.nil ?_
  refine En.next ?_
  refine W.block ?_
  obtain ⟨t1, hloop5, hr⟩ := bind_some hr
  have hlt9 := (h_p0.L.sl).len_lt
  refine W.weaken (fr' := [(0, (.pointer (some ⟨b_p0, 0, none⟩))), (1, (.string p1)), (2, (.int .i64 p2)), (7, (.int .i64 ((0 : Nat) : Int)))]) (W.forN (m := p0.L.length) hloop5 (fun (i4 : Nat) => fun (_s : Unit) fr w => ∃ (I2 : Mem), fr = [(0, (.pointer (some ⟨b_p0, 0, none⟩))), (1, (.string p1)), (2, (.int .i64 p2)), (7, (.int .i64 (i4 : Int)))] ∧ I.Le I2 ∧ St E w I2 ((Gv.one b_p0 (.cells (cs_registrarref21_Locks p0 w_p0).toArray 51 (0, 0))) :: (w_p0.L.C) :: Os)) ⟨I, rfl, Mem.Le.refl _, hS⟩ ?roundt1 ?lastt1) (Sub.cons rfl (Sub.cons rfl (Sub.cons rfl (Sub.cons rfl Sub.nil))))
  case roundt1 =>
    rintro i4 _ _ w6 hi10 ⟨I2, rfl, hl3, hS7⟩ x8 hr1 hext1
    refine W.seq ?_
    refine W.seq ?_
    refine W.region (l := [0, 1, 2, 3, 4, 5, 6]) (by kernel_rfl) ?_
    refine WO.vals [(0, 9, (.int .i64 (i4 : Int))), (1, 10, (.pointer (some ⟨b_p0, 0, none⟩))), (2, 11, (.pointer (some ⟨b_p0, 0, none⟩))), (3, 12, (.pointer (some ⟨b_p0, 0, none⟩)))] (by kernel_rfl) (fun _ => by kernel_rfl) ?_
    refine WO.load rfl (by kernel_rfl) (by kernel_rfl) rfl (v := (.slice w_p0.L.a p0.L.length w_p0.L.c)) (fun w' hw' => cell_one ((rd_f (hS7.rd (List.Mem.head _))) w' hw') (by kernel_rfl)) ?_
    refine WO.vals [(5, 14, (.int .i64 (p0.L.length : Int))), (6, 15, (.bool (decide ((i4 : Int) < (p0.L.length : Int)))))] (by kernel_rfl) (fun _ => by kernel_rfl) ?_
    refine WO.nil ?_
    refine En.next ?_
    refine W.cond (b := (decide ((i4 : Int) < (p0.L.length : Int)))) rfl rfl (fun hc => ?_) (fun hc => ?_)
    rotate_left
    · exact absurd hc (by first | (simp; done) | (simp; omega))
    clear hc
    refine W.skip ?_
    refine En.next ?_
    refine W.seq ?_
    refine W.block ?_
    refine W.seq ?_
    refine W.region (l := [0, 1, 2, 3, 4, 5, 6, 7, 8]) (by kernel_rfl) ?_
    refine WO.vals [(0, 18, (.pointer (some ⟨b_p0, 0, none⟩))), (1, 19, (.pointer (some ⟨b_p0, 0, none⟩))), (2, 20, (.pointer (some ⟨b_p0, 0, none⟩)))] (by kernel_rfl) (fun _ => by kernel_rfl) ?_
    refine WO.load rfl (by kernel_rfl) (by kernel_rfl) rfl (v := (.slice w_p0.L.a p0.L.length w_p0.L.c)) (fun w' hw' => cell_one ((rd_f (hS7.rd (List.Mem.head _))) w' hw') (by kernel_rfl)) ?_
    refine WO.vals [(4, 22, (.int .i64 (i4 : Int)))] (by kernel_rfl) (fun _ => by kernel_rfl) ?_
    obtain ⟨x11, hx_x11, hr1⟩ := bind_some hr1
    obtain ⟨h0_x11, h1_x11, hx_x11⟩ := idx_some hx_x11
    obtain ⟨ha_x11, cs_x11, hn_x11, hr_x11, hc_x11⟩ := ((h_p0.L.mono hl3).sl).el _ _ hx_x11
    obtain rfl := hr_x11
    refine WO.indexAddr (e := 98) (sz := 4) rfl (by kernel_rfl) (by kernel_rfl) (by kernel_rfl) rfl ha_x11 rfl h0_x11 h1_x11 ?_
    refine WO.loadN rfl (by kernel_rfl) (by kernel_rfl) rfl ((cs_registrarref21_One x11)) (by kernel_rfl) (fun w' hw' => hc_x11.cells (k := 0) (by kernel_rfl) rfl ((rd_f (hS7.rd (List.Mem.tail _ (List.Mem.head _)))) w' hw')) ?_
    refine WO.new hS7 rfl (by kernel_rfl) rfl (.cells (cs_registrarref21_One z_registrarref21_One).toArray 98 (0, 0)) (fun b => .pointer (some ⟨b, 0, none⟩)) (by kernel_rfl) (fun _ _ _ => trivial) ?_
    intro b12 w15 hS14
    refine WO.storeBox hS14 rfl (by kernel_rfl) rfl 0 rfl rfl (by kernel_rfl) (by kernel_rfl) (by kernel_rfl) ((cs_registrarref21_One x11).toArray) (by kernel_rfl) (fun _ _ => trivial) ?_
    intro w17 hS16
    refine WO.nil ?_
    refine En.next ?_
    refine W.seq ?_
    refine W.region (l := [0, 1, 2, 3, 4, 5, 6, 7, 8, 9, 10, 11, 12, 13, 14]) (by kernel_rfl) ?_
    refine WO.vals [(0, 25, (.pointer (some ⟨b12, 2, none⟩)))] (by kernel_rfl) (fun _ => by kernel_rfl) ?_
    refine WO.load rfl (by kernel_rfl) (by kernel_rfl) rfl (v := (.string x11.Path)) (fun w' hw' => cell_one ((rd_f (hS16.rd (List.Mem.head _))) w' hw') (by kernel_rfl)) ?_
    refine WO.vals [(2, 27, (.string p1)), (3, 28, (.bool (sEq x11.Path p1))), (4, 29, (.bool (sEq x11.Path p1)))] (by kernel_rfl) (fun _ => by kernel_rfl) ?_
    refine WO.join (l1 := [5, 6, 7]) (l2 := [8, 9, 10, 11, 12, 13, 14]) (J := fun frx wx => frx = [(32, (.bool ((sEq x11.Path p1) && x11.Held))), (0, (.pointer (some ⟨b_p0, 0, none⟩))), (1, (.string p1)), (2, (.int .i64 p2)), (7, (.int .i64 (i4 : Int))), (8, (.pointer (some ⟨b12, 0, none⟩)))] ∧ w17 = wx) ?restm18 ?waysm18
    case waysm18 =>
      refine WO.caseb (sEq x11.Path p1) (fun hc => ?_) (fun hc => ?_)
      · skip
        refine WO.reslot 29 rfl (show Value.bool (sEq x11.Path p1) = Value.bool true by rw [hc]) ?_
        refine WO.vals [(5, 30, (.pointer (some ⟨b12, 3, none⟩)))] (by kernel_rfl) (fun _ => by kernel_rfl) ?_
        refine WO.load rfl (by kernel_rfl) (by kernel_rfl) rfl (v := (.bool x11.Held)) (fun w' hw' => cell_one ((rd_f (hS16.rd (List.Mem.head _))) w' hw') (by kernel_rfl)) ?_
        refine WO.vals [(7, 32, (.bool x11.Held))] (by kernel_rfl) (fun _ => by kernel_rfl) ?_
        refine WO.weaken (fr' := [(32, (.bool ((sEq x11.Path p1) && x11.Held))), (0, (.pointer (some ⟨b_p0, 0, none⟩))), (1, (.string p1)), (2, (.int .i64 p2)), (7, (.int .i64 (i4 : Int))), (8, (.pointer (some ⟨b12, 0, none⟩)))]) (WO.meet ⟨rfl, rfl⟩) (Sub.cons (by rw [hc]; rfl) (Sub.cons rfl (Sub.cons rfl (Sub.cons rfl (Sub.cons rfl (Sub.cons rfl Sub.nil))))))
      · skip
        refine WO.reslot 29 rfl (show Value.bool (sEq x11.Path p1) = Value.bool false by rw [hc]) ?_
        refine WO.pass rfl (by kernel_rfl) rfl ?_
        refine WO.pass rfl (by kernel_rfl) rfl ?_
        refine WO.vals [(7, 32, (.bool false))] (by kernel_rfl) (fun _ => by kernel_rfl) ?_
        refine WO.weaken (fr' := [(32, (.bool ((sEq x11.Path p1) && x11.Held))), (0, (.pointer (some ⟨b_p0, 0, none⟩))), (1, (.string p1)), (2, (.int .i64 p2)), (7, (.int .i64 (i4 : Int))), (8, (.pointer (some ⟨b12, 0, none⟩)))]) (WO.meet ⟨rfl, rfl⟩) (Sub.cons (by rw [hc]; rfl) (Sub.cons rfl (Sub.cons rfl (Sub.cons rfl (Sub.cons rfl (Sub.cons rfl Sub.nil))))))
    case restm18 =>
      rintro _ _ ⟨rfl, rfl⟩
      refine WO.vals [(8, 33, (.bool ((sEq x11.Path p1) && x11.Held)))] (by kernel_rfl) (fun _ => by kernel_rfl) ?_
      obtain ⟨j20, hr2, hr1⟩ := bind_some hr1
      refine WO.join (l1 := [9, 10, 11, 12, 13, 14]) (l2 := []) (J := (fun fr w => ∃ (I22 : Mem), fr = [(0, (.pointer (some ⟨b_p0, 0, none⟩))), (1, (.string p1)), (2, (.int .i64 p2)), (7, (.int .i64 (i4 : Int))), (39, (.bool j20))] ∧ I2.Le I22 ∧ St E w I22 ((Gv.one b_p0 (.cells (cs_registrarref21_Locks p0 w_p0).toArray 51 (0, 0))) :: (w_p0.L.C) :: Os))) ?restj20 ?waysj20
      case waysj20 =>
        refine WO.caseb ((sEq x11.Path p1) && x11.Held) (fun hc => ?_) (fun hc => ?_)
        · replace hr2 := cond_t hc hr2
          refine WO.reslot 33 rfl (show Value.bool ((sEq x11.Path p1) && x11.Held) = Value.bool true by rw [hc]) ?_
          refine WO.vals [(9, 34, (.pointer (some ⟨b12, 1, none⟩)))] (by kernel_rfl) (fun _ => by kernel_rfl) ?_
          refine WO.load rfl (by kernel_rfl) (by kernel_rfl) rfl (v := (.int .i64 x11.Mode)) (fun w' hw' => cell_one ((rd_f (hS16.rd (List.Mem.head _))) w' hw') (by kernel_rfl)) ?_
          refine WO.vals [(11, 36, (.int .i64 p2))] (by kernel_rfl) (fun _ => by kernel_rfl) ?_
          obtain ⟨r29, hx_r24, hr2⟩ := bind_some hr2
          refine WO.call rfl (by kernel_rfl) rfl (f := 16) (args := #[(.int .i64 x11.Mode), (.int .i64 p2)]) (by kernel_rfl) (registrarref21_Goes_ok  hS16 hx_r24) ?_
          rintro _ w25 ⟨I26, rfl, hl27, hS28⟩
          refine ⟨_, rfl, trivial, ?_⟩
          refine WO.vals [(13, 38, (.bool (!r29))), (14, 39, (.bool (!r29)))] (by kernel_rfl) (fun _ => by kernel_rfl) ?_
          have hS30 := hS28.drop
          have he := Option.some.inj hr2
          subst j20
          refine WO.weaken (fr' := [(0, (.pointer (some ⟨b_p0, 0, none⟩))), (1, (.string p1)), (2, (.int .i64 p2)), (7, (.int .i64 (i4 : Int))), (39, (.bool (!r29)))]) (WO.meet ⟨I26, rfl, hl27, hS30⟩) (Sub.cons rfl (Sub.cons rfl (Sub.cons rfl (Sub.cons rfl (Sub.cons rfl Sub.nil)))))
        · replace hr2 := cond_f hc hr2
          refine WO.reslot 33 rfl (show Value.bool ((sEq x11.Path p1) && x11.Held) = Value.bool false by rw [hc]) ?_
          refine WO.pass rfl (by kernel_rfl) rfl ?_
          refine WO.pass rfl (by kernel_rfl) rfl ?_
          refine WO.pass rfl (by kernel_rfl) rfl ?_
          refine WO.pass rfl (by kernel_rfl) rfl ?_
          refine WO.pass rfl (by kernel_rfl) rfl ?_
          refine WO.vals [(14, 39, (.bool false))] (by kernel_rfl) (fun _ => by kernel_rfl) ?_
          have hS31 := hS16.drop
          have he := Option.some.inj hr2
          subst j20
          refine WO.weaken (fr' := [(0, (.pointer (some ⟨b_p0, 0, none⟩))), (1, (.string p1)), (2, (.int .i64 p2)), (7, (.int .i64 (i4 : Int))), (39, (.bool false))]) (WO.meet ⟨I2, rfl, Mem.Le.refl _, hS31⟩) (Sub.cons rfl (Sub.cons rfl (Sub.cons rfl (Sub.cons rfl (Sub.cons rfl Sub.nil)))))
      case restj20 =>
        rintro _ w32 ⟨I22, rfl, hl23, hS33⟩
        refine WO.nil ?_
        refine En.next ?_
        refine W.cond (b := j20) rfl rfl (fun hc => ?_) (fun hc => ?_)
        · replace hr1 := cond_t hc hr1
          refine W.seq ?_
          refine W.region (l := [0]) (by kernel_rfl) ?_
          refine WO.vals [(0, 6, (.bool true))] (by kernel_rfl) (fun _ => by kernel_rfl) ?_
          refine WO.nil ?_
          refine En.next ?_
          refine W.ret ?_
          refine En.in_ret ?_
          refine En.nx_ret ?_
          refine En.rd_ret ?_
          have ht := hext1 _ (Option.some.inj hr1).symm
          subst t1
          refine En.in_ret ?_
          refine En.nx_ret ?_
          have he := Option.some.inj hr
          subst r
          exact En.ret1 rfl (.bool true) rfl ⟨I22, rfl, (hl3.trans hl23), hS33⟩
        · replace hr1 := cond_f hc hr1
          refine W.skip ?_
          refine En.in_normal ?_
          refine En.next ?_
          refine W.region (l := [0, 1, 2]) (by kernel_rfl) ?_
          refine WO.vals [(0, 16, (.int .i64 (i4 : Int)))] (by kernel_rfl) (fun _ => by kernel_rfl) ?_
          refine WO.incr (j := i4) rfl (by kernel_rfl) rfl (by first | omega | (dsimp only at *; omega)) ?_
          refine WO.vals [(2, 7, (.int .i64 ((i4 + 1 : Nat) : Int)))] (by kernel_rfl) (fun _ => by kernel_rfl) ?_
          refine WO.nil ?_
          refine En.weaken (fr' := [(0, (.pointer (some ⟨b_p0, 0, none⟩))), (1, (.string p1)), (2, (.int .i64 p2)), (7, (.int .i64 ((i4 + 1 : Nat) : Int)))]) (En.round ⟨(), (Option.some.inj hr1).symm, I22, rfl, (hl3.trans hl23), hS33⟩) (Sub.cons rfl (Sub.cons rfl (Sub.cons rfl (Sub.cons rfl Sub.nil))))
  case lastt1 =>
    rintro _ _ w36 ⟨I2, rfl, hl3, hS37⟩ he
    cases he
    refine W.seq ?_
    refine W.seq ?_
    refine W.region (l := [0, 1, 2, 3, 4, 5, 6]) (by kernel_rfl) ?_
    refine WO.vals [(0, 9, (.int .i64 (p0.L.length : Int))), (1, 10, (.pointer (some ⟨b_p0, 0, none⟩))), (2, 11, (.pointer (some ⟨b_p0, 0, none⟩))), (3, 12, (.pointer (some ⟨b_p0, 0, none⟩)))] (by kernel_rfl) (fun _ => by kernel_rfl) ?_
    refine WO.load rfl (by kernel_rfl) (by kernel_rfl) rfl (v := (.slice w_p0.L.a p0.L.length w_p0.L.c)) (fun w' hw' => cell_one ((rd_f (hS37.rd (List.Mem.head _))) w' hw') (by kernel_rfl)) ?_
    refine WO.vals [(5, 14, (.int .i64 (p0.L.length : Int))), (6, 15, (.bool (decide ((p0.L.length : Int) < (p0.L.length : Int)))))] (by kernel_rfl) (fun _ => by kernel_rfl) ?_
    refine WO.nil ?_
    refine En.next ?_
    refine W.cond (b := (decide ((p0.L.length : Int) < (p0.L.length : Int)))) rfl rfl (fun hc => ?_) (fun hc => ?_)
    · exact absurd hc (by first | (simp; done) | (simp; omega))
    clear hc
    refine W.exit ?_
    refine En.nx_exit ?_
    refine En.rd_exit ?_
    refine En.in_hit ?_
    refine En.next ?_
    refine W.seq ?_
    refine W.region (l := [0]) (by kernel_rfl) ?_
    refine WO.vals [(0, 6, (.bool false))] (by kernel_rfl) (fun _ => by kernel_rfl) ?_
    refine WO.nil ?_
    refine En.next ?_
    refine W.ret ?_
    have he := Option.some.inj hr
    subst r
    exact En.ret1 rfl (.bool false) rfl ⟨I2, rfl, hl3, hS37⟩
def registrarref21_Locks_Ask (p0 : registrarref21_Locks) (p1 : Int) (p2 : api_Need) : Option (Bool × Int × registrarref21_Locks) := (bif ((((decide (p1 < 1)) || (decide (p1 > 8))) || (decide (p2.Mode < 1))) || (decide (p2.Mode > 4))) then some (false, 2, p0) else (registrarref21_Locks_Waits p0 p1).bind (fun ((r19, r20) : api_Need × Bool) => (bif r20 then some (false, 50, p0) else (forN (fun (i33 : Nat) => fun (_s : Unit) => (idx p0.L (i33 : Int)).bind (fun (x43 : registrarref21_One) => ((bif (x43.Who == p1) then (idx p0.L (i33 : Int)).bind (fun (x48 : registrarref21_One) => some (sEq x48.Path p2.Path)) else some false)).bind (fun (j44 : Bool) => (bif j44 then some (.inr (false, 19)) else some (.inl ()))))) p0.L.length 0 ()).bind (fun (t : Unit ⊕ ((Bool × Int))) => match t with | .inl _ => (registrarref21_Locks_Queue p0 p2.Path).bind (fun (r69 : List Int) => ((bif ((r69.length : Int) == 0) then (registrarref21_Locks_blocked p0 p2.Path p2.Mode).bind (fun (r81 : Bool) => some (!r81)) else some false)).bind (fun (j70 : Bool) => (app 40 p0.L ([(⟨p1, p2.Mode, p2.Path, j70⟩ : registrarref21_One)] : List registrarref21_One)).bind (fun (x94 : List registrarref21_One) => some (j70, 0, (⟨x94⟩ : registrarref21_Locks))))) | .inr (s52, s53) => some (s52, s53, p0)))))
set_option maxHeartbeats 1000000 in
theorem registrarref21_Locks_Ask_ok {E w : World} {I : Mem} {Os : List Mem} {p0 : registrarref21_Locks} {p1 : Int} {p2 : api_Need} {b_p0 : Nat} {w_p0 : W_registrarref21_Locks} (h_p0 : ok_registrarref21_Locks I p0 w_p0) (hS : St E w I ((Gv.one b_p0 (.cells (cs_registrarref21_Locks p0 w_p0).toArray 51 (0, 0))) :: (w_p0.L.C) :: Os)) {r : Bool × Int × registrarref21_Locks} (hr : registrarref21_Locks_Ask p0 p1 p2 = some r) :
    Calls P 40 #[(.pointer (some ⟨b_p0, 0, none⟩)), (.int .i64 p1), (.agg (cs_api_Need p2).toArray)] w (fun e w' => ∃ (I' : Mem) (w_rp0 : W_registrarref21_Locks), e = .returned (.tuple #[(.bool r.1), (.int .i64 r.2.1)]) ∧ I.Le I' ∧ St E w' I' ((Gv.one b_p0 (.cells (cs_registrarref21_Locks r.2.2 w_rp0).toArray 51 (0, 0))) :: w_rp0.L.C :: Os) ∧ ok_registrarref21_Locks I' r.2.2 w_rp0) := by
  refine calls_W (args := [(.pointer (some ⟨b_p0, 0, none⟩)), (.int .i64 p1), (.agg (cs_api_Need p2).toArray)]) (fn := Try.f40) rfl rfl rfl ?_
  unfold registrarref21_Locks_Ask at hr
  refine W.seq ?_
  refine W.region (l := [0, 1, 2]) (by kernel_rfl) ?_
  refine WO.new hS rfl (by kernel_rfl) rfl (.cells (cs_api_Need p2).toArray 43 (0, 0)) (fun b => .pointer (some ⟨b, 0, none⟩)) (by kernel_rfl) (fun _ _ _ => trivial) ?_
  intro b1 w4 hS3
  refine WO.vals [(1, 6, (.bool false)), (2, 7, (.int .i64 0))] (by kernel_rfl) (fun _ => by kernel_rfl) ?_
  refine WO.nil ?_
  refine En.next ?_
  refine W.seq ?_
  refine W.seq ?_
  refine W.region (l := [0, 1, 2, 3, 4, 5, 6, 7, 8, 9, 10, 11, 12, 13, 14, 15]) (by kernel_rfl) ?_
  refine WO.vals [(0, 12, (.int .i64 p1)), (1, 13, (.bool (decide (p1 < 1)))), (2, 14, (.bool (decide (p1 < 1))))] (by kernel_rfl) (fun _ => by kernel_rfl) ?_
  refine WO.join (l1 := [3, 4, 5]) (l2 := [6, 7, 8, 9, 10, 11, 12, 13, 14, 15]) (J := fun frx wx => frx = [(17, (.bool ((decide (p1 < 1)) || (decide (p1 > 8))))), (0, (.pointer (some ⟨b_p0, 0, none⟩))), (1, (.int .i64 p1)), (5, (.pointer (some ⟨b1, 0, none⟩)))] ∧ w4 = wx) ?restm5 ?waysm5
  case waysm5 =>
    refine WO.caseb (decide (p1 < 1)) (fun hc => ?_) (fun hc => ?_)
    · skip
      refine WO.reslot 14 rfl (show Value.bool (decide (p1 < 1)) = Value.bool true by rw [hc]) ?_
      refine WO.pass rfl (by kernel_rfl) rfl ?_
      refine WO.pass rfl (by kernel_rfl) rfl ?_
      refine WO.vals [(5, 17, (.bool true))] (by kernel_rfl) (fun _ => by kernel_rfl) ?_
      refine WO.weaken (fr' := [(17, (.bool ((decide (p1 < 1)) || (decide (p1 > 8))))), (0, (.pointer (some ⟨b_p0, 0, none⟩))), (1, (.int .i64 p1)), (5, (.pointer (some ⟨b1, 0, none⟩)))]) (WO.meet ⟨rfl, rfl⟩) (Sub.cons (by rw [hc]; rfl) (Sub.cons rfl (Sub.cons rfl (Sub.cons rfl Sub.nil))))
    · skip
      refine WO.reslot 14 rfl (show Value.bool (decide (p1 < 1)) = Value.bool false by rw [hc]) ?_
      refine WO.vals [(3, 15, (.int .i64 p1)), (4, 16, (.bool (decide (p1 > 8)))), (5, 17, (.bool (decide (p1 > 8))))] (by kernel_rfl) (fun _ => by kernel_rfl) ?_
      refine WO.weaken (fr' := [(17, (.bool ((decide (p1 < 1)) || (decide (p1 > 8))))), (0, (.pointer (some ⟨b_p0, 0, none⟩))), (1, (.int .i64 p1)), (5, (.pointer (some ⟨b1, 0, none⟩)))]) (WO.meet ⟨rfl, rfl⟩) (Sub.cons (by rw [hc]; rfl) (Sub.cons rfl (Sub.cons rfl (Sub.cons rfl Sub.nil))))
  case restm5 =>
    rintro _ _ ⟨rfl, rfl⟩
    refine WO.vals [(6, 18, (.bool ((decide (p1 < 1)) || (decide (p1 > 8)))))] (by kernel_rfl) (fun _ => by kernel_rfl) ?_
    refine WO.join (l1 := [7, 8, 9, 10]) (l2 := [11, 12, 13, 14, 15]) (J := fun frx wx => frx = [(22, (.bool (((decide (p1 < 1)) || (decide (p1 > 8))) || (decide (p2.Mode < 1))))), (0, (.pointer (some ⟨b_p0, 0, none⟩))), (1, (.int .i64 p1)), (5, (.pointer (some ⟨b1, 0, none⟩)))] ∧ w4 = wx) ?restm7 ?waysm7
    case waysm7 =>
      refine WO.caseb ((decide (p1 < 1)) || (decide (p1 > 8))) (fun hc => ?_) (fun hc => ?_)
      · skip
        refine WO.reslot 18 rfl (show Value.bool ((decide (p1 < 1)) || (decide (p1 > 8))) = Value.bool true by rw [hc]) ?_
        refine WO.pass rfl (by kernel_rfl) rfl ?_
        refine WO.pass rfl (by kernel_rfl) rfl ?_
        refine WO.pass rfl (by kernel_rfl) rfl ?_
        refine WO.vals [(10, 22, (.bool true))] (by kernel_rfl) (fun _ => by kernel_rfl) ?_
        refine WO.weaken (fr' := [(22, (.bool (((decide (p1 < 1)) || (decide (p1 > 8))) || (decide (p2.Mode < 1))))), (0, (.pointer (some ⟨b_p0, 0, none⟩))), (1, (.int .i64 p1)), (5, (.pointer (some ⟨b1, 0, none⟩)))]) (WO.meet ⟨rfl, rfl⟩) (Sub.cons (by rw [hc]; rfl) (Sub.cons rfl (Sub.cons rfl (Sub.cons rfl Sub.nil))))
      · skip
        refine WO.reslot 18 rfl (show Value.bool ((decide (p1 < 1)) || (decide (p1 > 8))) = Value.bool false by rw [hc]) ?_
        refine WO.vals [(7, 19, (.pointer (some ⟨b1, 1, none⟩)))] (by kernel_rfl) (fun _ => by kernel_rfl) ?_
        refine WO.load rfl (by kernel_rfl) (by kernel_rfl) rfl (v := (.int .i64 p2.Mode)) (fun w' hw' => cell_one ((rd_f (hS3.rd (List.Mem.head _))) w' hw') (by kernel_rfl)) ?_
        refine WO.vals [(9, 21, (.bool (decide (p2.Mode < 1)))), (10, 22, (.bool (decide (p2.Mode < 1))))] (by kernel_rfl) (fun _ => by kernel_rfl) ?_
        refine WO.weaken (fr' := [(22, (.bool (((decide (p1 < 1)) || (decide (p1 > 8))) || (decide (p2.Mode < 1))))), (0, (.pointer (some ⟨b_p0, 0, none⟩))), (1, (.int .i64 p1)), (5, (.pointer (some ⟨b1, 0, none⟩)))]) (WO.meet ⟨rfl, rfl⟩) (Sub.cons (by rw [hc]; rfl) (Sub.cons rfl (Sub.cons rfl (Sub.cons rfl Sub.nil))))
    case restm7 =>
      rintro _ _ ⟨rfl, rfl⟩
      refine WO.vals [(11, 23, (.bool (((decide (p1 < 1)) || (decide (p1 > 8))) || (decide (p2.Mode < 1)))))] (by kernel_rfl) (fun _ => by kernel_rfl) ?_
      refine WO.join (l1 := [12, 13, 14, 15]) (l2 := []) (J := fun frx wx => frx = [(27, (.bool ((((decide (p1 < 1)) || (decide (p1 > 8))) || (decide (p2.Mode < 1))) || (decide (p2.Mode > 4))))), (0, (.pointer (some ⟨b_p0, 0, none⟩))), (1, (.int .i64 p1)), (5, (.pointer (some ⟨b1, 0, none⟩)))] ∧ w4 = wx) ?restm9 ?waysm9
      case waysm9 =>
        refine WO.caseb (((decide (p1 < 1)) || (decide (p1 > 8))) || (decide (p2.Mode < 1))) (fun hc => ?_) (fun hc => ?_)
        · skip
          refine WO.reslot 23 rfl (show Value.bool (((decide (p1 < 1)) || (decide (p1 > 8))) || (decide (p2.Mode < 1))) = Value.bool true by rw [hc]) ?_
          refine WO.pass rfl (by kernel_rfl) rfl ?_
          refine WO.pass rfl (by kernel_rfl) rfl ?_
          refine WO.pass rfl (by kernel_rfl) rfl ?_
          refine WO.vals [(15, 27, (.bool true))] (by kernel_rfl) (fun _ => by kernel_rfl) ?_
          refine WO.weaken (fr' := [(27, (.bool ((((decide (p1 < 1)) || (decide (p1 > 8))) || (decide (p2.Mode < 1))) || (decide (p2.Mode > 4))))), (0, (.pointer (some ⟨b_p0, 0, none⟩))), (1, (.int .i64 p1)), (5, (.pointer (some ⟨b1, 0, none⟩)))]) (WO.meet ⟨rfl, rfl⟩) (Sub.cons (by rw [hc]; rfl) (Sub.cons rfl (Sub.cons rfl (Sub.cons rfl Sub.nil))))
        · skip
          refine WO.reslot 23 rfl (show Value.bool (((decide (p1 < 1)) || (decide (p1 > 8))) || (decide (p2.Mode < 1))) = Value.bool false by rw [hc]) ?_
          refine WO.vals [(12, 24, (.pointer (some ⟨b1, 1, none⟩)))] (by kernel_rfl) (fun _ => by kernel_rfl) ?_
          refine WO.load rfl (by kernel_rfl) (by kernel_rfl) rfl (v := (.int .i64 p2.Mode)) (fun w' hw' => cell_one ((rd_f (hS3.rd (List.Mem.head _))) w' hw') (by kernel_rfl)) ?_
          refine WO.vals [(14, 26, (.bool (decide (p2.Mode > 4)))), (15, 27, (.bool (decide (p2.Mode > 4))))] (by kernel_rfl) (fun _ => by kernel_rfl) ?_
          refine WO.weaken (fr' := [(27, (.bool ((((decide (p1 < 1)) || (decide (p1 > 8))) || (decide (p2.Mode < 1))) || (decide (p2.Mode > 4))))), (0, (.pointer (some ⟨b_p0, 0, none⟩))), (1, (.int .i64 p1)), (5, (.pointer (some ⟨b1, 0, none⟩)))]) (WO.meet ⟨rfl, rfl⟩) (Sub.cons (by rw [hc]; rfl) (Sub.cons rfl (Sub.cons rfl (Sub.cons rfl Sub.nil))))
      case restm9 =>
        rintro _ _ ⟨rfl, rfl⟩
        refine WO.nil ?_
        refine En.next ?_
        refine W.cond (b := ((((decide (p1 < 1)) || (decide (p1 > 8))) || (decide (p2.Mode < 1))) || (decide (p2.Mode > 4)))) rfl rfl (fun hc => ?_) (fun hc => ?_)
        · replace hr := cond_t hc hr
          refine W.seq ?_
          refine W.region (l := [0, 1]) (by kernel_rfl) ?_
          refine WO.vals [(0, 6, (.bool false)), (1, 7, (.int .i64 2))] (by kernel_rfl) (fun _ => by kernel_rfl) ?_
          refine WO.nil ?_
          refine En.next ?_
          refine W.ret ?_
          refine En.nx_ret ?_
          have hS11 := hS3.drop
          have he := Option.some.inj hr
          subst r
          exact En.ret2 rfl (.bool false) (.int .i64 2) rfl rfl ⟨I, w_p0, rfl, Mem.Le.refl _, hS11, h_p0⟩
        · replace hr := cond_f hc hr
          refine W.skip ?_
          refine En.next ?_
          refine W.seq ?_
          refine W.region (l := [0, 1, 2, 3, 4, 5, 6, 7, 8]) (by kernel_rfl) ?_
          refine WO.vals [(0, 29, (.pointer (some ⟨b_p0, 0, none⟩))), (1, 30, (.int .i64 p1))] (by kernel_rfl) (fun _ => by kernel_rfl) ?_
          have hS12 := hS3.front2
          have hS13 := hS12.front2
          obtain ⟨⟨r19, r20⟩, hx_r14, hr⟩ := bind_some hr
          refine WO.call rfl (by kernel_rfl) rfl (f := 49) (args := #[(.pointer (some ⟨b_p0, 0, none⟩)), (.int .i64 p1)]) (by kernel_rfl) (registrarref21_Locks_Waits_ok h_p0 hS13 hx_r14) ?_
          rintro _ w15 ⟨I16, rfl, hl17, hS18⟩
          refine ⟨_, rfl, trivial, ?_⟩
          refine WO.vals [(3, 28, (.tuple #[(.agg (cs_api_Need r19).toArray), (.bool r20)])), (4, 32, (.agg (cs_api_Need r19).toArray)), (5, 33, (.bool r20))] (by kernel_rfl) (fun _ => by kernel_rfl) ?_
          refine WO.new hS18 rfl (by kernel_rfl) rfl (.cells (cs_api_Need z_api_Need).toArray 43 (0, 0)) (fun b => .pointer (some ⟨b, 0, none⟩)) (by kernel_rfl) (fun _ _ _ => trivial) ?_
          intro b21 w24 hS23
          refine WO.storeBox hS23 rfl (by kernel_rfl) rfl 0 rfl rfl (by kernel_rfl) (by kernel_rfl) (by kernel_rfl) ((cs_api_Need r19).toArray) (by kernel_rfl) (fun _ _ => trivial) ?_
          intro w26 hS25
          refine WO.vals [(8, 9, (.bool r20))] (by kernel_rfl) (fun _ => by kernel_rfl) ?_
          refine WO.nil ?_
          refine En.next ?_
          refine W.seq ?_
          refine W.seq ?_
          refine W.region (l := [0]) (by kernel_rfl) ?_
          refine WO.vals [(0, 34, (.bool r20))] (by kernel_rfl) (fun _ => by kernel_rfl) ?_
          refine WO.nil ?_
          refine En.next ?_
          refine W.cond (b := r20) rfl rfl (fun hc => ?_) (fun hc => ?_)
          · replace hr := cond_t hc hr
            refine W.seq ?_
            refine W.region (l := [0, 1]) (by kernel_rfl) ?_
            refine WO.vals [(0, 6, (.bool false)), (1, 7, (.int .i64 50))] (by kernel_rfl) (fun _ => by kernel_rfl) ?_
            refine WO.nil ?_
            refine En.next ?_
            refine W.ret ?_
            refine En.nx_ret ?_
            have hS27 := hS25.drop
            have hS28 := hS27.front2
            have hS29 := hS28.drop
            have he := Option.some.inj hr
            subst r
            exact En.ret2 rfl (.bool false) (.int .i64 50) rfl rfl ⟨I16, w_p0, rfl, hl17, hS29, (h_p0.mono hl17)⟩
          · replace hr := cond_f hc hr
            refine W.skip ?_
            refine En.next ?_
            refine W.seq ?_
            refine W.seq ?_
            refine W.region (l := [0]) (by kernel_rfl) ?_
            refine WO.vals [(0, 10, (.int .i64 0))] (by kernel_rfl) (fun _ => by kernel_rfl) ?_
            refine WO.nil ?_
            refine En.next ?_
            refine W.block ?_
            obtain ⟨t30, hloop34, hr⟩ := bind_some hr
            have hS35 := hS25.drop
            have hlt39 := ((h_p0.L.mono hl17).sl).len_lt
            refine W.weaken (fr' := [(0, (.pointer (some ⟨b_p0, 0, none⟩))), (1, (.int .i64 p1)), (5, (.pointer (some ⟨b1, 0, none⟩))), (10, (.int .i64 ((0 : Nat) : Int)))]) (W.forN (m := p0.L.length) hloop34 (fun (i33 : Nat) => fun (_s : Unit) fr w => ∃ (I31 : Mem), fr = [(0, (.pointer (some ⟨b_p0, 0, none⟩))), (1, (.int .i64 p1)), (5, (.pointer (some ⟨b1, 0, none⟩))), (10, (.int .i64 (i33 : Int)))] ∧ I16.Le I31 ∧ St E w I31 ((Gv.one b_p0 (.cells (cs_registrarref21_Locks p0 w_p0).toArray 51 (0, 0))) :: (w_p0.L.C) :: (Gv.one b1 (.cells (cs_api_Need p2).toArray 43 (0, 0))) :: Os)) ⟨I16, rfl, Mem.Le.refl _, hS35⟩ ?roundt30 ?lastt30) (Sub.cons rfl (Sub.cons rfl (Sub.cons rfl (Sub.cons rfl Sub.nil))))
            case roundt30 =>
              rintro i33 _ _ w36 hi40 ⟨I31, rfl, hl32, hS37⟩ x38 hr1 hext30
              refine W.seq ?_
              refine W.seq ?_
              refine W.region (l := [0, 1, 2, 3, 4, 5, 6]) (by kernel_rfl) ?_
              refine WO.vals [(0, 35, (.int .i64 (i33 : Int))), (1, 36, (.pointer (some ⟨b_p0, 0, none⟩))), (2, 37, (.pointer (some ⟨b_p0, 0, none⟩))), (3, 38, (.pointer (some ⟨b_p0, 0, none⟩)))] (by kernel_rfl) (fun _ => by kernel_rfl) ?_
              refine WO.load rfl (by kernel_rfl) (by kernel_rfl) rfl (v := (.slice w_p0.L.a p0.L.length w_p0.L.c)) (fun w' hw' => cell_one ((rd_f (hS37.rd (List.Mem.head _))) w' hw') (by kernel_rfl)) ?_
              refine WO.vals [(5, 40, (.int .i64 (p0.L.length : Int))), (6, 41, (.bool (decide ((i33 : Int) < (p0.L.length : Int)))))] (by kernel_rfl) (fun _ => by kernel_rfl) ?_
              refine WO.nil ?_
              refine En.next ?_
              refine W.cond (b := (decide ((i33 : Int) < (p0.L.length : Int)))) rfl rfl (fun hc => ?_) (fun hc => ?_)
              rotate_left
              · exact absurd hc (by first | (simp; done) | (simp; omega))
              clear hc
              refine W.skip ?_
              refine En.next ?_
              refine W.seq ?_
              refine W.block ?_
              refine W.seq ?_
              have hS41 := hS37.drew
              refine W.draw (l := [0, 1, 2, 3, 4, 5, 6, 7, 8, 9, 10, 11, 12, 13, 14, 15, 16, 17, 18, 19, 20, 21, 22]) (by kernel_rfl) 23 (KR I31 [Gv.one b_p0 (.cells (cs_registrarref21_Locks p0 w_p0).toArray 51 (0, 0)), w_p0.L.C, Gv.one b1 (.cells (cs_api_Need p2).toArray 43 (0, 0))]) qR (.back (by kernel_rfl)) (by kernel_rfl) (KR.cons (hS41.rd (List.Mem.head _)) (KR.cons (hS41.rd (List.Mem.tail _ (List.Mem.head _))) (KR.cons (hS41.rd (List.Mem.tail _ (List.Mem.tail _ (List.Mem.head _)))) (KR.nil hS41.im)))) ?_
              generalize World.drew _ = w42 at *
              refine WO.vals [(0, 44, (.pointer (some ⟨b_p0, 0, none⟩))), (1, 45, (.pointer (some ⟨b_p0, 0, none⟩))), (2, 46, (.pointer (some ⟨b_p0, 0, none⟩)))] (by kernel_rfl) (fun _ => by kernel_rfl) ?_
              refine WO.load rfl (by kernel_rfl) (by kernel_rfl) rfl (v := (.slice w_p0.L.a p0.L.length w_p0.L.c)) (fun w' hw' => cell_one ((rd_c (List.Mem.head _) (hS41.rd (List.Mem.head _))) w' hw') (by kernel_rfl)) ?_
              refine WO.vals [(4, 48, (.int .i64 (i33 : Int)))] (by kernel_rfl) (fun _ => by kernel_rfl) ?_
              obtain ⟨x43, hx_x43, hr1⟩ := bind_some hr1
              obtain ⟨h0_x43, h1_x43, hx_x43⟩ := idx_some hx_x43
              obtain ⟨ha_x43, cs_x43, hn_x43, hr_x43, hc_x43⟩ := ((h_p0.L.mono (hl17.trans hl32)).sl).el _ _ hx_x43
              obtain rfl := hr_x43
              refine WO.indexAddr (e := 98) (sz := 4) rfl (by kernel_rfl) (by kernel_rfl) (by kernel_rfl) rfl ha_x43 rfl h0_x43 h1_x43 ?_
              refine WO.vals [(6, 50, (.pointer (some ⟨bl w_p0.L.a, of w_p0.L.a + ((i33 : Int)).toNat * 4, none⟩)))] (by kernel_rfl) (fun _ => by kernel_rfl) ?_
              refine WO.load rfl (by kernel_rfl) (by kernel_rfl) rfl (v := (.int .i64 x43.Who)) (fun w' hw' => hc_x43.cell0 (by kernel_rfl) ((rd_c (List.Mem.tail _ (List.Mem.head _)) (hS41.rd (List.Mem.tail _ (List.Mem.head _)))) w' hw')) ?_
              refine WO.vals [(8, 52, (.int .i64 p1)), (9, 53, (.bool (x43.Who == p1))), (10, 54, (.bool (x43.Who == p1)))] (by kernel_rfl) (fun _ => by kernel_rfl) ?_
              obtain ⟨j44, hr2, hr1⟩ := bind_some hr1
              refine WO.join (l1 := [11, 12, 13, 14, 15, 16, 17, 18, 19, 20, 21, 22]) (l2 := []) (J := (fun fr w => ∃ (I46 : Mem), fr = [(0, (.pointer (some ⟨b_p0, 0, none⟩))), (1, (.int .i64 p1)), (5, (.pointer (some ⟨b1, 0, none⟩))), (10, (.int .i64 (i33 : Int))), (66, (.bool j44))] ∧ I31.Le I46 ∧ St E w I46 ((Gv.one b_p0 (.cells (cs_registrarref21_Locks p0 w_p0).toArray 51 (0, 0))) :: (w_p0.L.C) :: (Gv.one b1 (.cells (cs_api_Need p2).toArray 43 (0, 0))) :: Os))) ?restj44 ?waysj44
              case waysj44 =>
                refine WO.caseb (x43.Who == p1) (fun hc => ?_) (fun hc => ?_)
                · replace hr2 := cond_t hc hr2
                  refine WO.reslot 54 rfl (show Value.bool (x43.Who == p1) = Value.bool true by rw [hc]) ?_
                  refine WO.vals [(11, 55, (.pointer (some ⟨b_p0, 0, none⟩))), (12, 56, (.pointer (some ⟨b_p0, 0, none⟩))), (13, 57, (.pointer (some ⟨b_p0, 0, none⟩)))] (by kernel_rfl) (fun _ => by kernel_rfl) ?_
                  refine WO.load rfl (by kernel_rfl) (by kernel_rfl) rfl (v := (.slice w_p0.L.a p0.L.length w_p0.L.c)) (fun w' hw' => cell_one ((rd_c (List.Mem.head _) (hS41.rd (List.Mem.head _))) w' hw') (by kernel_rfl)) ?_
                  refine WO.vals [(15, 59, (.int .i64 (i33 : Int)))] (by kernel_rfl) (fun _ => by kernel_rfl) ?_
                  obtain ⟨x48, hx_x48, hr2⟩ := bind_some hr2
                  obtain ⟨h0_x48, h1_x48, hx_x48⟩ := idx_some hx_x48
                  obtain ⟨ha_x48, cs_x48, hn_x48, hr_x48, hc_x48⟩ := ((h_p0.L.mono (hl17.trans hl32)).sl).el _ _ hx_x48
                  obtain rfl := hr_x48
                  refine WO.indexAddr (e := 98) (sz := 4) rfl (by kernel_rfl) (by kernel_rfl) (by kernel_rfl) rfl ha_x48 rfl h0_x48 h1_x48 ?_
                  refine WO.vals [(17, 61, (.pointer (some ⟨bl w_p0.L.a, of w_p0.L.a + ((i33 : Int)).toNat * 4 + 2, none⟩)))] (by kernel_rfl) (fun _ => by kernel_rfl) ?_
                  refine WO.load rfl (by kernel_rfl) (by kernel_rfl) rfl (v := (.string x48.Path)) (fun w' hw' => hc_x48.cellk 2 (by kernel_rfl) ((rd_c (List.Mem.tail _ (List.Mem.head _)) (hS41.rd (List.Mem.tail _ (List.Mem.head _)))) w' hw')) ?_
                  refine WO.vals [(19, 63, (.pointer (some ⟨b1, 0, none⟩)))] (by kernel_rfl) (fun _ => by kernel_rfl) ?_
                  refine WO.load rfl (by kernel_rfl) (by kernel_rfl) rfl (v := (.string p2.Path)) (fun w' hw' => cell_one ((rd_c (List.Mem.tail _ (List.Mem.tail _ (List.Mem.head _))) (hS41.rd (List.Mem.tail _ (List.Mem.tail _ (List.Mem.head _))))) w' hw') (by kernel_rfl)) ?_
                  refine WO.vals [(21, 65, (.bool (sEq x48.Path p2.Path))), (22, 66, (.bool (sEq x48.Path p2.Path)))] (by kernel_rfl) (fun _ => by kernel_rfl) ?_
                  have he := Option.some.inj hr2
                  subst j44
                  refine WO.weaken (fr' := [(0, (.pointer (some ⟨b_p0, 0, none⟩))), (1, (.int .i64 p1)), (5, (.pointer (some ⟨b1, 0, none⟩))), (10, (.int .i64 (i33 : Int))), (66, (.bool (sEq x48.Path p2.Path)))]) (WO.meet ⟨I31, rfl, Mem.Le.refl _, hS41⟩) (Sub.cons rfl (Sub.cons rfl (Sub.cons rfl (Sub.cons rfl (Sub.cons rfl Sub.nil)))))
                · replace hr2 := cond_f hc hr2
                  refine WO.reslot 54 rfl (show Value.bool (x43.Who == p1) = Value.bool false by rw [hc]) ?_
                  refine WO.pass rfl (by kernel_rfl) rfl ?_
                  refine WO.pass rfl (by kernel_rfl) rfl ?_
                  refine WO.pass rfl (by kernel_rfl) rfl ?_
                  refine WO.pass rfl (by kernel_rfl) rfl ?_
                  refine WO.pass rfl (by kernel_rfl) rfl ?_
                  refine WO.pass rfl (by kernel_rfl) rfl ?_
                  refine WO.pass rfl (by kernel_rfl) rfl ?_
                  refine WO.pass rfl (by kernel_rfl) rfl ?_
                  refine WO.pass rfl (by kernel_rfl) rfl ?_
                  refine WO.pass rfl (by kernel_rfl) rfl ?_
                  refine WO.pass rfl (by kernel_rfl) rfl ?_
                  refine WO.vals [(22, 66, (.bool false))] (by kernel_rfl) (fun _ => by kernel_rfl) ?_
                  have he := Option.some.inj hr2
                  subst j44
                  refine WO.weaken (fr' := [(0, (.pointer (some ⟨b_p0, 0, none⟩))), (1, (.int .i64 p1)), (5, (.pointer (some ⟨b1, 0, none⟩))), (10, (.int .i64 (i33 : Int))), (66, (.bool false))]) (WO.meet ⟨I31, rfl, Mem.Le.refl _, hS41⟩) (Sub.cons rfl (Sub.cons rfl (Sub.cons rfl (Sub.cons rfl (Sub.cons rfl Sub.nil)))))
              case restj44 =>
                rintro _ w49 ⟨I46, rfl, hl47, hS50⟩
                refine WO.nil ?_
                refine En.next ?_
                refine W.cond (b := j44) rfl rfl (fun hc => ?_) (fun hc => ?_)
                · replace hr1 := cond_t hc hr1
                  refine W.seq ?_
                  refine W.region (l := [0, 1]) (by kernel_rfl) ?_
                  refine WO.vals [(0, 6, (.bool false)), (1, 7, (.int .i64 19))] (by kernel_rfl) (fun _ => by kernel_rfl) ?_
                  refine WO.nil ?_
                  refine En.next ?_
                  refine W.ret ?_
                  refine En.in_ret ?_
                  refine En.nx_ret ?_
                  refine En.rd_ret ?_
                  have ht := hext30 _ (Option.some.inj hr1).symm
                  subst t30
                  refine En.in_ret ?_
                  refine En.nx_ret ?_
                  have hS57 := hS50.front2
                  have hS58 := hS57.drop
                  have he := Option.some.inj hr
                  subst r
                  exact En.ret2 rfl (.bool false) (.int .i64 19) rfl rfl ⟨I46, w_p0, rfl, ((hl17.trans hl32).trans hl47), hS58, (h_p0.mono ((hl17.trans hl32).trans hl47))⟩
                · replace hr1 := cond_f hc hr1
                  refine W.skip ?_
                  refine En.in_normal ?_
                  refine En.next ?_
                  refine W.region (l := [0, 1, 2]) (by kernel_rfl) ?_
                  refine WO.vals [(0, 42, (.int .i64 (i33 : Int)))] (by kernel_rfl) (fun _ => by kernel_rfl) ?_
                  refine WO.incr (j := i33) rfl (by kernel_rfl) rfl (by first | omega | (dsimp only at *; omega)) ?_
                  refine WO.vals [(2, 10, (.int .i64 ((i33 + 1 : Nat) : Int)))] (by kernel_rfl) (fun _ => by kernel_rfl) ?_
                  refine WO.nil ?_
                  refine En.weaken (fr' := [(0, (.pointer (some ⟨b_p0, 0, none⟩))), (1, (.int .i64 p1)), (5, (.pointer (some ⟨b1, 0, none⟩))), (10, (.int .i64 ((i33 + 1 : Nat) : Int)))]) (En.round ⟨(), (Option.some.inj hr1).symm, I46, rfl, (hl32.trans hl47), hS50⟩) (Sub.cons rfl (Sub.cons rfl (Sub.cons rfl (Sub.cons rfl Sub.nil))))
            case lastt30 =>
              rintro _ _ w59 ⟨I31, rfl, hl32, hS60⟩ he
              cases he
              refine W.seq ?_
              refine W.seq ?_
              refine W.region (l := [0, 1, 2, 3, 4, 5, 6]) (by kernel_rfl) ?_
              refine WO.vals [(0, 35, (.int .i64 (p0.L.length : Int))), (1, 36, (.pointer (some ⟨b_p0, 0, none⟩))), (2, 37, (.pointer (some ⟨b_p0, 0, none⟩))), (3, 38, (.pointer (some ⟨b_p0, 0, none⟩)))] (by kernel_rfl) (fun _ => by kernel_rfl) ?_
              refine WO.load rfl (by kernel_rfl) (by kernel_rfl) rfl (v := (.slice w_p0.L.a p0.L.length w_p0.L.c)) (fun w' hw' => cell_one ((rd_f (hS60.rd (List.Mem.head _))) w' hw') (by kernel_rfl)) ?_
              refine WO.vals [(5, 40, (.int .i64 (p0.L.length : Int))), (6, 41, (.bool (decide ((p0.L.length : Int) < (p0.L.length : Int)))))] (by kernel_rfl) (fun _ => by kernel_rfl) ?_
              refine WO.nil ?_
              refine En.next ?_
              refine W.cond (b := (decide ((p0.L.length : Int) < (p0.L.length : Int)))) rfl rfl (fun hc => ?_) (fun hc => ?_)
              · exact absurd hc (by first | (simp; done) | (simp; omega))
              clear hc
              refine W.exit ?_
              refine En.nx_exit ?_
              refine En.rd_exit ?_
              refine En.in_hit ?_
              refine En.next ?_
              refine W.seq ?_
              refine W.region (l := [0, 1, 2, 3, 4, 5, 6, 7, 8, 9, 10, 11, 12, 13, 14, 15]) (by kernel_rfl) ?_
              refine WO.vals [(0, 67, (.pointer (some ⟨b_p0, 0, none⟩))), (1, 68, (.pointer (some ⟨b1, 0, none⟩)))] (by kernel_rfl) (fun _ => by kernel_rfl) ?_
              refine WO.load rfl (by kernel_rfl) (by kernel_rfl) rfl (v := (.string p2.Path)) (fun w' hw' => cell_one ((rd_f (hS60.rd (List.Mem.tail _ (List.Mem.tail _ (List.Mem.head _))))) w' hw') (by kernel_rfl)) ?_
              have hS61 := hS60.front1
              have hS62 := hS61.front1
              obtain ⟨r69, hx_r63, hr⟩ := bind_some hr
              refine WO.call rfl (by kernel_rfl) rfl (f := 48) (args := #[(.pointer (some ⟨b_p0, 0, none⟩)), (.string p2.Path)]) (by kernel_rfl) (registrarref21_Locks_Queue_ok (h_p0.mono (hl17.trans hl32)) hS62 hx_r63) ?_
              rintro _ w65 ⟨I66, a_r69, c_r69, rfl, hl67, hS68, h_r69⟩
              refine ⟨_, rfl, trivial, ?_⟩
              refine WO.vals [(4, 71, (.int .i64 (r69.length : Int))), (5, 72, (.bool ((r69.length : Int) == 0))), (6, 73, (.bool ((r69.length : Int) == 0)))] (by kernel_rfl) (fun _ => by kernel_rfl) ?_
              obtain ⟨j70, hr1, hr⟩ := bind_some hr
              refine WO.join (l1 := [7, 8, 9, 10, 11, 12, 13, 14]) (l2 := [15]) (J := (fun fr w => ∃ (I72 : Mem), fr = [(0, (.pointer (some ⟨b_p0, 0, none⟩))), (1, (.int .i64 p1)), (5, (.pointer (some ⟨b1, 0, none⟩))), (81, (.bool j70))] ∧ I66.Le I72 ∧ St E w I72 ((Gv.one b_p0 (.cells (cs_registrarref21_Locks p0 w_p0).toArray 51 (0, 0))) :: (w_p0.L.C) :: (Gv.one b1 (.cells (cs_api_Need p2).toArray 43 (0, 0))) :: Os))) ?restj70 ?waysj70
              case waysj70 =>
                refine WO.caseb ((r69.length : Int) == 0) (fun hc => ?_) (fun hc => ?_)
                · replace hr1 := cond_t hc hr1
                  refine WO.reslot 73 rfl (show Value.bool ((r69.length : Int) == 0) = Value.bool true by rw [hc]) ?_
                  refine WO.vals [(7, 74, (.pointer (some ⟨b_p0, 0, none⟩))), (8, 75, (.pointer (some ⟨b1, 0, none⟩)))] (by kernel_rfl) (fun _ => by kernel_rfl) ?_
                  refine WO.load rfl (by kernel_rfl) (by kernel_rfl) rfl (v := (.string p2.Path)) (fun w' hw' => cell_one ((rd_f (hS68.rd (List.Mem.tail _ (List.Mem.tail _ (List.Mem.head _))))) w' hw') (by kernel_rfl)) ?_
                  refine WO.vals [(10, 77, (.pointer (some ⟨b1, 1, none⟩)))] (by kernel_rfl) (fun _ => by kernel_rfl) ?_
                  refine WO.load rfl (by kernel_rfl) (by kernel_rfl) rfl (v := (.int .i64 p2.Mode)) (fun w' hw' => cell_one ((rd_f (hS68.rd (List.Mem.tail _ (List.Mem.tail _ (List.Mem.head _))))) w' hw') (by kernel_rfl)) ?_
                  have hS74 := hS68.front1
                  have hS75 := hS74.front1
                  obtain ⟨r81, hx_r76, hr1⟩ := bind_some hr1
                  refine WO.call rfl (by kernel_rfl) rfl (f := 65) (args := #[(.pointer (some ⟨b_p0, 0, none⟩)), (.string p2.Path), (.int .i64 p2.Mode)]) (by kernel_rfl) (registrarref21_Locks_blocked_ok (h_p0.mono ((hl17.trans hl32).trans hl67)) hS75 hx_r76) ?_
                  rintro _ w77 ⟨I78, rfl, hl79, hS80⟩
                  refine ⟨_, rfl, trivial, ?_⟩
                  refine WO.vals [(13, 80, (.bool (!r81))), (14, 81, (.bool (!r81)))] (by kernel_rfl) (fun _ => by kernel_rfl) ?_
                  have he := Option.some.inj hr1
                  subst j70
                  refine WO.weaken (fr' := [(0, (.pointer (some ⟨b_p0, 0, none⟩))), (1, (.int .i64 p1)), (5, (.pointer (some ⟨b1, 0, none⟩))), (81, (.bool (!r81)))]) (WO.meet ⟨I78, rfl, hl79, hS80⟩) (Sub.cons rfl (Sub.cons rfl (Sub.cons rfl (Sub.cons rfl Sub.nil))))
                · replace hr1 := cond_f hc hr1
                  refine WO.reslot 73 rfl (show Value.bool ((r69.length : Int) == 0) = Value.bool false by rw [hc]) ?_
                  refine WO.pass rfl (by kernel_rfl) rfl ?_
                  refine WO.pass rfl (by kernel_rfl) rfl ?_
                  refine WO.pass rfl (by kernel_rfl) rfl ?_
                  refine WO.pass rfl (by kernel_rfl) rfl ?_
                  refine WO.pass rfl (by kernel_rfl) rfl ?_
                  refine WO.pass rfl (by kernel_rfl) rfl ?_
                  refine WO.pass rfl (by kernel_rfl) rfl ?_
                  refine WO.vals [(14, 81, (.bool false))] (by kernel_rfl) (fun _ => by kernel_rfl) ?_
                  have he := Option.some.inj hr1
                  subst j70
                  refine WO.weaken (fr' := [(0, (.pointer (some ⟨b_p0, 0, none⟩))), (1, (.int .i64 p1)), (5, (.pointer (some ⟨b1, 0, none⟩))), (81, (.bool false))]) (WO.meet ⟨I66, rfl, Mem.Le.refl _, hS68⟩) (Sub.cons rfl (Sub.cons rfl (Sub.cons rfl (Sub.cons rfl Sub.nil))))
              case restj70 =>
                rintro _ w82 ⟨I72, rfl, hl73, hS83⟩
                refine WO.vals [(15, 11, (.bool j70))] (by kernel_rfl) (fun _ => by kernel_rfl) ?_
                refine WO.nil ?_
                refine En.next ?_
                refine W.seq ?_
                have hS84 := hS83.drew
                refine W.draw (l := [0, 1, 2, 3, 4, 5, 6, 7, 8, 9, 10, 11, 12, 13, 14, 15, 16]) (by kernel_rfl) 13 (KR I72 [Gv.one b_p0 (.cells (cs_registrarref21_Locks p0 w_p0).toArray 51 (0, 0)), w_p0.L.C, Gv.one b1 (.cells (cs_api_Need p2).toArray 43 (0, 0))]) qR (.back (by kernel_rfl)) (by kernel_rfl) (KR.cons (hS84.rd (List.Mem.head _)) (KR.cons (hS84.rd (List.Mem.tail _ (List.Mem.head _))) (KR.cons (hS84.rd (List.Mem.tail _ (List.Mem.tail _ (List.Mem.head _)))) (KR.nil hS84.im)))) ?_
                generalize World.drew _ = w85 at *
                refine WO.vals [(0, 82, (.pointer (some ⟨b_p0, 0, none⟩))), (1, 83, (.pointer (some ⟨b_p0, 0, none⟩))), (2, 84, (.pointer (some ⟨b_p0, 0, none⟩))), (3, 85, (.pointer (some ⟨b_p0, 0, none⟩)))] (by kernel_rfl) (fun _ => by kernel_rfl) ?_
                refine WO.load rfl (by kernel_rfl) (by kernel_rfl) rfl (v := (.slice w_p0.L.a p0.L.length w_p0.L.c)) (fun w' hw' => cell_one ((rd_c (List.Mem.head _) (hS84.rd (List.Mem.head _))) w' hw') (by kernel_rfl)) ?_
                refine WO.vals [(5, 87, (.int .i64 p1)), (6, 88, (.pointer (some ⟨b1, 1, none⟩)))] (by kernel_rfl) (fun _ => by kernel_rfl) ?_
                refine WO.load rfl (by kernel_rfl) (by kernel_rfl) rfl (v := (.int .i64 p2.Mode)) (fun w' hw' => cell_one ((rd_c (List.Mem.tail _ (List.Mem.tail _ (List.Mem.head _))) (hS84.rd (List.Mem.tail _ (List.Mem.tail _ (List.Mem.head _))))) w' hw') (by kernel_rfl)) ?_
                refine WO.vals [(8, 90, (.pointer (some ⟨b1, 0, none⟩)))] (by kernel_rfl) (fun _ => by kernel_rfl) ?_
                refine WO.load rfl (by kernel_rfl) (by kernel_rfl) rfl (v := (.string p2.Path)) (fun w' hw' => cell_one ((rd_c (List.Mem.tail _ (List.Mem.tail _ (List.Mem.head _))) (hS84.rd (List.Mem.tail _ (List.Mem.tail _ (List.Mem.head _))))) w' hw') (by kernel_rfl)) ?_
                refine WO.vals [(10, 92, (.bool j70)), (11, 93, (.agg (cs_registrarref21_One (⟨p1, p2.Mode, p2.Path, j70⟩ : registrarref21_One)).toArray))] (by kernel_rfl) (fun _ => by kernel_rfl) ?_
                refine WO.newSlice (rel := R_registrarref21_One) (xs := ([(⟨p1, p2.Mode, p2.Path, j70⟩ : registrarref21_One)] : List registrarref21_One)) hS84 rfl (by kernel_rfl) rfl 98 4 [(cs_registrarref21_One (⟨p1, p2.Mode, p2.Path, j70⟩ : registrarref21_One))] (by kernel_rfl) rfl ((Elr.cons rfl Elr.nil)) (fun C87 w91 hS90 => (KR.cons (hS90.rd (List.Mem.tail _ (List.Mem.head _))) (KR.cons (hS90.rd (List.Mem.tail _ (List.Mem.tail _ (List.Mem.head _)))) (KR.cons (hS90.rd (List.Mem.tail _ (List.Mem.tail _ (List.Mem.tail _ (List.Mem.head _))))) (KR.nil hS90.im))))) ?_
                intro a89 C87 w91 hS90 ho88
                refine WO.tail rfl ?_
                have hS93 := hS90.front2
                obtain ⟨x94, hx_x94, hr⟩ := bind_some hr
                obtain ⟨h0_x94, he_x94⟩ := app_some hx_x94
                refine WO.append (e' := 98) (b := 40) (zs := (cs_registrarref21_One z_registrarref21_One).toArray) hS93 (OwnSl.mono h_p0.L (((hl17.trans hl32).trans hl67).trans hl73)) rfl (by kernel_rfl) rfl (by kernel_rfl) (by kernel_rfl) (by kernel_rfl) rfl rfl rfl rfl ho88.sl (hS93.rd (List.Mem.tail _ (List.Mem.head _))) h0_x94 he_x94 (fun _ _ _ => trivial) ?_
                intro a95 c96 w97 C98 hS99 ho100
                have hS101 := hS99.front1
                have hS102 := hS101.drop
                refine WO.vals [(14, 96, (.pointer (some ⟨b_p0, 0, none⟩))), (15, 97, (.pointer (some ⟨b_p0, 0, none⟩)))] (by kernel_rfl) (fun _ => by kernel_rfl) ?_
                have hS103 := hS102.front1
                refine WO.storeBox hS103 rfl (by kernel_rfl) rfl 0 rfl rfl (by kernel_rfl) (by kernel_rfl) (by kernel_rfl) ((cs_registrarref21_Locks (⟨x94⟩ : registrarref21_Locks) (⟨⟨a95, c96, C98⟩⟩ : W_registrarref21_Locks)).toArray) (by kernel_rfl) (fun _ _ => trivial) ?_
                intro w105 hS104
                refine WO.nil ?_
                refine En.next ?_
                refine W.seq ?_
                refine W.region (l := [0, 1, 2]) (by kernel_rfl) ?_
                refine WO.vals [(0, 98, (.bool j70)), (1, 6, (.bool j70)), (2, 7, (.int .i64 0))] (by kernel_rfl) (fun _ => by kernel_rfl) ?_
                refine WO.nil ?_
                refine En.next ?_
                refine W.ret ?_
                have hS106 := hS104.front2
                have hS107 := hS106.drop
                have hk108 : ok_registrarref21_Locks I72 (⟨x94⟩ : registrarref21_Locks) (⟨⟨a95, c96, C98⟩⟩ : W_registrarref21_Locks) := ⟨ho100⟩
                have he := Option.some.inj hr
                subst r
                exact En.ret2 rfl (.bool j70) (.int .i64 0) rfl rfl ⟨I72, (⟨⟨a95, c96, C98⟩⟩ : W_registrarref21_Locks), rfl, (((hl17.trans hl32).trans hl67).trans hl73), hS107, hk108⟩
end Go.Proofs.Ytdmefifamlpbiaa
