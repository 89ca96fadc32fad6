/- What functions of the program come to, each by a plain one. Conditions: none. -/
import Derived.Test.YtdmefifamlpbiaaF1
set_option maxRecDepth 100000
namespace Go.Proofs.Ytdmefifamlpbiaa
open Go.Gv
def mdl_Locks_set (p0 : mdl_Locks) (p1 : ByteArray) (p2 : mdl_place) : Option mdl_Locks := (bif ((w64 ((p2.held.length : Int) + (p2.queue.length : Int))) == 0) then some (⟨(mdel sEq p0.at_ p1)⟩ : mdl_Locks) else some (⟨(mset sEq p0.at_ p1 p2)⟩ : mdl_Locks))
set_option maxHeartbeats 1000000 in
theorem mdl_Locks_set_ok {E w : World} {I : Mem} {Os : List Mem} {p0 : mdl_Locks} {p1 : ByteArray} {p2 : mdl_place} {b_p0 : Nat} {w_p0 : W_mdl_Locks} {w_p2 : W_mdl_place} (h_p0 : ok_mdl_Locks I p0 w_p0) (h_p2 : ok_mdl_place I p2 w_p2) (hS : St E w I ((Gv.one b_p0 (.cells (cs_mdl_Locks p0 w_p0).toArray 56 (0, 0))) :: (w_p0.at_.C) :: Os)) {r : mdl_Locks} (hr : mdl_Locks_set p0 p1 p2 = some r) :
    Calls P 55 #[(.pointer (some ⟨b_p0, 0, none⟩)), (.string p1), (.agg (cs_mdl_place p2 w_p2).toArray)] w (fun e w' => ∃ (I' : Mem) (w_rp0 : W_mdl_Locks), e = .returned (.tuple #[]) ∧ I.Le I' ∧ St E w' I' ((Gv.one b_p0 (.cells (cs_mdl_Locks r w_rp0).toArray 56 (0, 0))) :: w_rp0.at_.C :: Os) ∧ ok_mdl_Locks I' r w_rp0) := by
  refine calls_W (args := [(.pointer (some ⟨b_p0, 0, none⟩)), (.string p1), (.agg (cs_mdl_place p2 w_p2).toArray)]) (fn := Try.f55) rfl rfl rfl ?_
  unfold mdl_Locks_set at hr
  refine W.seq ?_
  refine W.region (l := [0]) (by kernel_rfl) ?_
  refine WO.new hS rfl (by kernel_rfl) rfl (.cells (cs_mdl_place p2 w_p2).toArray 68 (0, 0)) (fun b => .pointer (some ⟨b, 0, none⟩)) (by kernel_rfl) (fun _ _ _ => trivial) ?_
  intro b1 w4 hS3
  refine WO.nil ?_
  refine En.next ?_
  refine W.seq ?_
  refine W.seq ?_
  refine W.region (l := [0, 1, 2, 3, 4, 5, 6, 7]) (by kernel_rfl) ?_
  refine WO.vals [(0, 6, (.pointer (some ⟨b1, 0, none⟩)))] (by kernel_rfl) (fun _ => by kernel_rfl) ?_
  refine WO.load rfl (by kernel_rfl) (by kernel_rfl) rfl (v := (.slice w_p2.held.a p2.held.length w_p2.held.c)) (fun w' hw' => cell_one ((rd_f (hS3.rd (List.Mem.head _))) w' hw') (by kernel_rfl)) ?_
  refine WO.vals [(2, 8, (.int .i64 (p2.held.length : Int))), (3, 9, (.pointer (some ⟨b1, 1, none⟩)))] (by kernel_rfl) (fun _ => by kernel_rfl) ?_
  refine WO.load rfl (by kernel_rfl) (by kernel_rfl) rfl (v := (.slice w_p2.queue.a p2.queue.length w_p2.queue.c)) (fun w' hw' => cell_one ((rd_f (hS3.rd (List.Mem.head _))) w' hw') (by kernel_rfl)) ?_
  refine WO.vals [(5, 11, (.int .i64 (p2.queue.length : Int))), (6, 12, (.int .i64 (w64 ((p2.held.length : Int) + (p2.queue.length : Int))))), (7, 13, (.bool ((w64 ((p2.held.length : Int) + (p2.queue.length : Int))) == 0)))] (by kernel_rfl) (fun _ => by kernel_rfl) ?_
  refine WO.nil ?_
  refine En.next ?_
  refine W.cond (b := ((w64 ((p2.held.length : Int) + (p2.queue.length : Int))) == 0)) rfl rfl (fun hc => ?_) (fun hc => ?_)
  · replace hr := cond_t hc hr
    refine W.seq ?_
    refine W.region (l := [0, 1, 2, 3, 4, 5]) (by kernel_rfl) ?_
    refine WO.vals [(0, 14, (.pointer (some ⟨b_p0, 0, none⟩))), (1, 15, (.pointer (some ⟨b_p0, 0, none⟩))), (2, 16, (.pointer (some ⟨b_p0, 0, none⟩)))] (by kernel_rfl) (fun _ => by kernel_rfl) ?_
    refine WO.load rfl (by kernel_rfl) (by kernel_rfl) rfl (v := (.map (some w_p0.at_.m))) (fun w' hw' => cell_one ((rd_f (hS3.rd (List.Mem.tail _ (List.Mem.head _)))) w' hw') (by kernel_rfl)) ?_
    refine WO.vals [(4, 18, (.string p1))] (by kernel_rfl) (fun _ => by kernel_rfl) ?_
    have hS5 := hS3.front2
    refine WO.delete h_p0.at_ hS5 (t := 54) (kt := 9) (et := 68) (by kernel_rfl) (keyLaw_str (kt := 9) (by kernel_rfl)) rfl (by kernel_rfl) rfl rfl p1 rfl (fun _ _ _ => trivial) ?_
    intro w8 C6 hS7 hm9
    refine WO.nil ?_
    refine En.next ?_
    refine W.ret ?_
    refine En.nx_ret ?_
    have hS10 := hS7.front1
    have hS11 := hS10.drop
    have hS12 := hS11.front1
    have hk13 : ok_mdl_Locks I (⟨(mdel sEq p0.at_ p1)⟩ : mdl_Locks) (⟨⟨w_p0.at_.m, C6⟩⟩ : W_mdl_Locks) := ⟨hm9⟩
    have he := Option.some.inj hr
    subst r
    exact En.ret0 rfl ⟨I, (⟨⟨w_p0.at_.m, C6⟩⟩ : W_mdl_Locks), rfl, Mem.Le.refl _, hS12, hk13⟩
  · replace hr := cond_f hc hr
    refine W.skip ?_
    refine En.next ?_
    have hS14 := hS3.drew
    refine W.draw (l := [0, 1, 2, 3, 4, 5, 6]) (by kernel_rfl) 6 (KR I [Gv.one b1 (.cells (cs_mdl_place p2 w_p2).toArray 68 (0, 0)), Gv.one b_p0 (.cells (cs_mdl_Locks p0 w_p0).toArray 56 (0, 0)), w_p0.at_.C]) qR (.back (by kernel_rfl)) (by kernel_rfl) (KR.cons (hS14.rd (List.Mem.head _)) (KR.cons (hS14.rd (List.Mem.tail _ (List.Mem.head _))) (KR.cons (hS14.rd (List.Mem.tail _ (List.Mem.tail _ (List.Mem.head _)))) (KR.nil hS14.im)))) ?_
    generalize World.drew _ = w15 at *
    refine WO.vals [(0, 19, (.pointer (some ⟨b_p0, 0, none⟩))), (1, 20, (.pointer (some ⟨b_p0, 0, none⟩))), (2, 21, (.pointer (some ⟨b_p0, 0, none⟩)))] (by kernel_rfl) (fun _ => by kernel_rfl) ?_
    refine WO.load rfl (by kernel_rfl) (by kernel_rfl) rfl (v := (.map (some w_p0.at_.m))) (fun w' hw' => cell_one ((rd_c (List.Mem.tail _ (List.Mem.head _)) (hS14.rd (List.Mem.tail _ (List.Mem.head _)))) w' hw') (by kernel_rfl)) ?_
    refine WO.vals [(4, 23, (.string p1))] (by kernel_rfl) (fun _ => by kernel_rfl) ?_
    refine WO.loadN rfl (by kernel_rfl) (by kernel_rfl) rfl ((cs_mdl_place p2 w_p2)) (by kernel_rfl) (fun w' hw' => cells_one ((rd_c (List.Mem.head _) (hS14.rd (List.Mem.head _))) w' hw') (by kernel_rfl)) ?_
    refine WO.tail rfl ?_
    have hS16 := hS14.front2
    refine WO.update h_p0.at_ hS16 (t := 54) (kt := 9) (et := 68) (by kernel_rfl) (keyLaw_str (kt := 9) (by kernel_rfl)) rfl (by kernel_rfl) rfl (.inl rfl) rfl p1 rfl rfl (xv := p2) ⟨(cs_mdl_place p2 w_p2), rfl, ⟨w_p2, rfl, h_p2⟩⟩ (fun _ _ _ => trivial) ?_
    intro w19 C17 hS18 hm20
    refine WO.nil ?_
    refine En.toRet ?_
    have hS21 := hS18.front1
    have hS22 := hS21.drop
    have hS23 := hS22.front1
    have hk24 : ok_mdl_Locks I (⟨(mset sEq p0.at_ p1 p2)⟩ : mdl_Locks) (⟨⟨w_p0.at_.m, C17⟩⟩ : W_mdl_Locks) := ⟨hm20⟩
    have he := Option.some.inj hr
    subst r
    exact En.ret0 rfl ⟨I, (⟨⟨w_p0.at_.m, C17⟩⟩ : W_mdl_Locks), rfl, Mem.Le.refl _, hS23, hk24⟩
noncomputable def mdl_Locks_Ask (p0 : mdl_Locks) (p1 : Int) (p2 : api_Need) : Option (Bool × Int × mdl_Locks) := (mdl_Locks_check p0 p1).bind (fun (r12 : Int) => (bif (r12 != 0) then some (false, r12, p0) else (bif ((decide (p2.Mode < 1)) || (decide (p2.Mode > 4))) then some (false, 2, p0) else (mdl_Locks_Waits p0 p1).bind (fun ((r26, r27) : api_Need × Bool) => (bif r27 then some (false, 50, p0) else (some ((mget sEq p0.at_ p2.Path).getD z_mdl_place)).bind (fun (x39 : mdl_place) => (mdl_find x39.held p1).bind (fun (r51 : Int) => (bif (decide (r51 ≥ 0)) then some (false, 19, p0) else ((bif ((x39.queue.length : Int) == 0) then (mdl_place_goes x39 p2.Mode).bind (fun (r65 : Bool) => some r65) else some false)).bind (fun (j56 : Bool) => ((bif j56 then ((slices_Clone_mdl_one x39.held).bind (fun (r100 : List mdl_one) => (app 16 r100 ([(⟨p1, p2.Mode⟩ : mdl_one)] : List mdl_one)).bind (fun (x101 : List mdl_one) => some { x39 with held := x101 }))).bind (fun (j82 : mdl_place) => some j82) else ((slices_Clone_mdl_one x39.queue).bind (fun (r209 : List mdl_one) => (app 16 r209 ([(⟨p1, p2.Mode⟩ : mdl_one)] : List mdl_one)).bind (fun (x210 : List mdl_one) => some { x39 with queue := x210 }))).bind (fun (j191 : mdl_place) => some j191))).bind (fun (j78 : mdl_place) => (mdl_Locks_set p0 p2.Path j78).bind (fun (r309 : mdl_Locks) => some (j56, 0, r309))))))))))))
set_option maxHeartbeats 1000000 in
theorem mdl_Locks_Ask_ok {E w : World} {I : Mem} {Os : List Mem} {p0 : mdl_Locks} {p1 : Int} {p2 : api_Need} {b_p0 : Nat} {w_p0 : W_mdl_Locks} (h_p0 : ok_mdl_Locks I p0 w_p0) (hS : St E w I ((Gv.one b_p0 (.cells (cs_mdl_Locks p0 w_p0).toArray 56 (0, 0))) :: (w_p0.at_.C) :: Os)) {r : Bool × Int × mdl_Locks} (hr : mdl_Locks_Ask p0 p1 p2 = some r) :
    Calls P 24 #[(.pointer (some ⟨b_p0, 0, none⟩)), (.int .i64 p1), (.agg (cs_api_Need p2).toArray)] w (fun e w' => ∃ (I' : Mem) (w_rp0 : W_mdl_Locks), e = .returned (.tuple #[(.bool r.1), (.int .i64 r.2.1)]) ∧ I.Le I' ∧ St E w' I' ((Gv.one b_p0 (.cells (cs_mdl_Locks r.2.2 w_rp0).toArray 56 (0, 0))) :: w_rp0.at_.C :: Os) ∧ ok_mdl_Locks I' r.2.2 w_rp0) := by
  refine calls_W (args := [(.pointer (some ⟨b_p0, 0, none⟩)), (.int .i64 p1), (.agg (cs_api_Need p2).toArray)]) (fn := Try.f24) rfl rfl rfl ?_
  unfold mdl_Locks_Ask at hr
  refine W.seq ?_
  refine W.region (l := [0, 1, 2]) (by kernel_rfl) ?_
  refine WO.new hS rfl (by kernel_rfl) rfl (.cells (cs_api_Need p2).toArray 43 (0, 0)) (fun b => .pointer (some ⟨b, 0, none⟩)) (by kernel_rfl) (fun _ _ _ => trivial) ?_
  intro b1 w4 hS3
  refine WO.vals [(1, 6, (.bool false)), (2, 7, (.int .i64 0))] (by kernel_rfl) (fun _ => by kernel_rfl) ?_
  refine WO.nil ?_
  refine En.next ?_
  refine W.seq ?_
  refine W.seq ?_
  refine W.region (l := [0, 1, 2, 3]) (by kernel_rfl) ?_
  refine WO.vals [(0, 13, (.pointer (some ⟨b_p0, 0, none⟩))), (1, 14, (.int .i64 p1))] (by kernel_rfl) (fun _ => by kernel_rfl) ?_
  have hS5 := hS3.front2
  have hS6 := hS5.front2
  obtain ⟨r12, hx_r7, hr⟩ := bind_some hr
  refine WO.call rfl (by kernel_rfl) rfl (f := 37) (args := #[(.pointer (some ⟨b_p0, 0, none⟩)), (.int .i64 p1)]) (by kernel_rfl) (mdl_Locks_check_ok h_p0 hS6 hx_r7) ?_
  rintro _ w8 ⟨I9, rfl, hl10, hS11⟩
  refine ⟨_, rfl, trivial, ?_⟩
  refine WO.vals [(3, 8, (.int .i64 r12))] (by kernel_rfl) (fun _ => by kernel_rfl) ?_
  refine WO.nil ?_
  refine En.next ?_
  refine W.seq ?_
  refine W.region (l := [0, 1]) (by kernel_rfl) ?_
  refine WO.vals [(0, 16, (.int .i64 r12)), (1, 17, (.bool (r12 != 0)))] (by kernel_rfl) (fun _ => by kernel_rfl) ?_
  refine WO.nil ?_
  refine En.next ?_
  refine W.cond (b := (r12 != 0)) rfl rfl (fun hc => ?_) (fun hc => ?_)
  · replace hr := cond_t hc hr
    refine W.seq ?_
    refine W.region (l := [0, 1, 2]) (by kernel_rfl) ?_
    refine WO.vals [(0, 18, (.int .i64 r12)), (1, 6, (.bool false)), (2, 7, (.int .i64 r12))] (by kernel_rfl) (fun _ => by kernel_rfl) ?_
    refine WO.nil ?_
    refine En.next ?_
    refine W.ret ?_
    refine En.nx_ret ?_
    have hS13 := hS11.front2
    have hS14 := hS13.drop
    have he := Option.some.inj hr
    subst r
    exact En.ret2 rfl (.bool false) (.int .i64 r12) rfl rfl ⟨I9, w_p0, rfl, hl10, hS14, (h_p0.mono hl10)⟩
  · replace hr := cond_f hc hr
    refine W.skip ?_
    refine En.next ?_
    refine W.seq ?_
    refine W.seq ?_
    refine W.region (l := [0, 1, 2, 3, 4, 5, 6, 7]) (by kernel_rfl) ?_
    refine WO.vals [(0, 19, (.pointer (some ⟨b1, 1, none⟩)))] (by kernel_rfl) (fun _ => by kernel_rfl) ?_
    refine WO.load rfl (by kernel_rfl) (by kernel_rfl) rfl (v := (.int .i64 p2.Mode)) (fun w' hw' => cell_one ((rd_f (hS11.rd (List.Mem.tail _ (List.Mem.tail _ (List.Mem.head _))))) w' hw') (by kernel_rfl)) ?_
    refine WO.vals [(2, 21, (.bool (decide (p2.Mode < 1)))), (3, 22, (.bool (decide (p2.Mode < 1))))] (by kernel_rfl) (fun _ => by kernel_rfl) ?_
    refine WO.join (l1 := [4, 5, 6, 7]) (l2 := []) (J := fun frx wx => frx = [(26, (.bool ((decide (p2.Mode < 1)) || (decide (p2.Mode > 4))))), (0, (.pointer (some ⟨b_p0, 0, none⟩))), (1, (.int .i64 p1)), (5, (.pointer (some ⟨b1, 0, none⟩)))] ∧ w8 = wx) ?restm15 ?waysm15
    case waysm15 =>
      refine WO.caseb (decide (p2.Mode < 1)) (fun hc => ?_) (fun hc => ?_)
      · skip
        refine WO.reslot 22 rfl (show Value.bool (decide (p2.Mode < 1)) = Value.bool true by rw [hc]) ?_
        refine WO.pass rfl (by kernel_rfl) rfl ?_
        refine WO.pass rfl (by kernel_rfl) rfl ?_
        refine WO.pass rfl (by kernel_rfl) rfl ?_
        refine WO.vals [(7, 26, (.bool true))] (by kernel_rfl) (fun _ => by kernel_rfl) ?_
        refine WO.weaken (fr' := [(26, (.bool ((decide (p2.Mode < 1)) || (decide (p2.Mode > 4))))), (0, (.pointer (some ⟨b_p0, 0, none⟩))), (1, (.int .i64 p1)), (5, (.pointer (some ⟨b1, 0, none⟩)))]) (WO.meet ⟨rfl, rfl⟩) (Sub.cons (by rw [hc]; rfl) (Sub.cons rfl (Sub.cons rfl (Sub.cons rfl Sub.nil))))
      · skip
        refine WO.reslot 22 rfl (show Value.bool (decide (p2.Mode < 1)) = Value.bool false by rw [hc]) ?_
        refine WO.vals [(4, 23, (.pointer (some ⟨b1, 1, none⟩)))] (by kernel_rfl) (fun _ => by kernel_rfl) ?_
        refine WO.load rfl (by kernel_rfl) (by kernel_rfl) rfl (v := (.int .i64 p2.Mode)) (fun w' hw' => cell_one ((rd_f (hS11.rd (List.Mem.tail _ (List.Mem.tail _ (List.Mem.head _))))) w' hw') (by kernel_rfl)) ?_
        refine WO.vals [(6, 25, (.bool (decide (p2.Mode > 4)))), (7, 26, (.bool (decide (p2.Mode > 4))))] (by kernel_rfl) (fun _ => by kernel_rfl) ?_
        refine WO.weaken (fr' := [(26, (.bool ((decide (p2.Mode < 1)) || (decide (p2.Mode > 4))))), (0, (.pointer (some ⟨b_p0, 0, none⟩))), (1, (.int .i64 p1)), (5, (.pointer (some ⟨b1, 0, none⟩)))]) (WO.meet ⟨rfl, rfl⟩) (Sub.cons (by rw [hc]; rfl) (Sub.cons rfl (Sub.cons rfl (Sub.cons rfl Sub.nil))))
    case restm15 =>
      rintro _ _ ⟨rfl, rfl⟩
      refine WO.nil ?_
      refine En.next ?_
      refine W.cond (b := ((decide (p2.Mode < 1)) || (decide (p2.Mode > 4)))) rfl rfl (fun hc => ?_) (fun hc => ?_)
      · replace hr := cond_t hc hr
        refine W.seq ?_
        refine W.region (l := [0, 1]) (by kernel_rfl) ?_
        refine WO.vals [(0, 6, (.bool false)), (1, 7, (.int .i64 2))] (by kernel_rfl) (fun _ => by kernel_rfl) ?_
        refine WO.nil ?_
        refine En.next ?_
        refine W.ret ?_
        refine En.nx_ret ?_
        have hS17 := hS11.front2
        have hS18 := hS17.drop
        have he := Option.some.inj hr
        subst r
        exact En.ret2 rfl (.bool false) (.int .i64 2) rfl rfl ⟨I9, w_p0, rfl, hl10, hS18, (h_p0.mono hl10)⟩
      · replace hr := cond_f hc hr
        refine W.skip ?_
        refine En.next ?_
        refine W.seq ?_
        refine W.seq ?_
        refine W.region (l := [0, 1, 2, 3, 4, 5, 6, 7, 8]) (by kernel_rfl) ?_
        refine WO.vals [(0, 28, (.pointer (some ⟨b_p0, 0, none⟩))), (1, 29, (.int .i64 p1))] (by kernel_rfl) (fun _ => by kernel_rfl) ?_
        have hS19 := hS11.front1
        have hS20 := hS19.front1
        obtain ⟨⟨r26, r27⟩, hx_r21, hr⟩ := bind_some hr
        refine WO.call rfl (by kernel_rfl) rfl (f := 20) (args := #[(.pointer (some ⟨b_p0, 0, none⟩)), (.int .i64 p1)]) (by kernel_rfl) (mdl_Locks_Waits_ok (h_p0.mono hl10) hS20 hx_r21) ?_
        rintro _ w22 ⟨I23, rfl, hl24, hS25⟩
        refine ⟨_, rfl, trivial, ?_⟩
        refine WO.vals [(3, 27, (.tuple #[(.agg (cs_api_Need r26).toArray), (.bool r27)])), (4, 31, (.agg (cs_api_Need r26).toArray)), (5, 32, (.bool r27))] (by kernel_rfl) (fun _ => by kernel_rfl) ?_
        refine WO.new hS25 rfl (by kernel_rfl) rfl (.cells (cs_api_Need z_api_Need).toArray 43 (0, 0)) (fun b => .pointer (some ⟨b, 0, none⟩)) (by kernel_rfl) (fun _ _ _ => trivial) ?_
        intro b28 w31 hS30
        refine WO.storeBox hS30 rfl (by kernel_rfl) rfl 0 rfl rfl (by kernel_rfl) (by kernel_rfl) (by kernel_rfl) ((cs_api_Need r26).toArray) (by kernel_rfl) (fun _ _ => trivial) ?_
        intro w33 hS32
        refine WO.vals [(8, 10, (.bool r27))] (by kernel_rfl) (fun _ => by kernel_rfl) ?_
        refine WO.nil ?_
        refine En.next ?_
        refine W.seq ?_
        refine W.region (l := [0]) (by kernel_rfl) ?_
        refine WO.vals [(0, 33, (.bool r27))] (by kernel_rfl) (fun _ => by kernel_rfl) ?_
        refine WO.nil ?_
        refine En.next ?_
        refine W.cond (b := r27) rfl rfl (fun hc => ?_) (fun hc => ?_)
        · replace hr := cond_t hc hr
          refine W.seq ?_
          refine W.region (l := [0, 1]) (by kernel_rfl) ?_
          refine WO.vals [(0, 6, (.bool false)), (1, 7, (.int .i64 50))] (by kernel_rfl) (fun _ => by kernel_rfl) ?_
          refine WO.nil ?_
          refine En.next ?_
          refine W.ret ?_
          refine En.nx_ret ?_
          have hS34 := hS32.drop
          have hS35 := hS34.front2
          have hS36 := hS35.drop
          have he := Option.some.inj hr
          subst r
          exact En.ret2 rfl (.bool false) (.int .i64 50) rfl rfl ⟨I23, w_p0, rfl, (hl10.trans hl24), hS36, (h_p0.mono (hl10.trans hl24))⟩
        · replace hr := cond_f hc hr
          refine W.skip ?_
          refine En.next ?_
          refine W.seq ?_
          have hS37 := hS32.drew
          refine W.draw (l := [0, 1, 2, 3, 4, 5, 6, 7, 8]) (by kernel_rfl) 8 (KR I23 [Gv.one b_p0 (.cells (cs_mdl_Locks p0 w_p0).toArray 56 (0, 0)), w_p0.at_.C, Gv.one b1 (.cells (cs_api_Need p2).toArray 43 (0, 0))]) qR (.back (by kernel_rfl)) (by kernel_rfl) (KR.cons (hS37.rd (List.Mem.tail _ (List.Mem.head _))) (KR.cons (hS37.rd (List.Mem.tail _ (List.Mem.tail _ (List.Mem.head _)))) (KR.cons (hS37.rd (List.Mem.tail _ (List.Mem.tail _ (List.Mem.tail _ (List.Mem.head _))))) (KR.nil hS37.im)))) ?_
          generalize World.drew _ = w38 at *
          refine WO.vals [(0, 34, (.pointer (some ⟨b_p0, 0, none⟩))), (1, 35, (.pointer (some ⟨b_p0, 0, none⟩))), (2, 36, (.pointer (some ⟨b_p0, 0, none⟩)))] (by kernel_rfl) (fun _ => by kernel_rfl) ?_
          refine WO.load rfl (by kernel_rfl) (by kernel_rfl) rfl (v := (.map (some w_p0.at_.m))) (fun w' hw' => cell_one ((rd_c (List.Mem.head _) (hS37.rd (List.Mem.tail _ (List.Mem.head _)))) w' hw') (by kernel_rfl)) ?_
          refine WO.vals [(4, 38, (.pointer (some ⟨b1, 0, none⟩)))] (by kernel_rfl) (fun _ => by kernel_rfl) ?_
          refine WO.load rfl (by kernel_rfl) (by kernel_rfl) rfl (v := (.string p2.Path)) (fun w' hw' => cell_one ((rd_c (List.Mem.tail _ (List.Mem.tail _ (List.Mem.head _))) (hS37.rd (List.Mem.tail _ (List.Mem.tail _ (List.Mem.tail _ (List.Mem.head _)))))) w' hw') (by kernel_rfl)) ?_
          obtain ⟨x39, hx_x39, hr⟩ := bind_some hr
          obtain ⟨v_x39, hv_x39, hq_x39⟩ := OwnMap.lookup (OwnMap.mono h_p0.at_ (hl10.trans hl24)) (t := 54) (kt := 9) (et := 68) (by kernel_rfl) (keyLaw_str (kt := 9) (by kernel_rfl)) p2.Path (zv := (.agg (cs_mdl_place z_mdl_place zw_mdl_place).toArray)) (z0 := z_mdl_place) (by kernel_rfl) ⟨(cs_mdl_place z_mdl_place zw_mdl_place), rfl, ⟨zw_mdl_place, rfl, zok_mdl_place⟩⟩
          rw [Option.some.inj hx_x39] at hv_x39
          obtain ⟨_, rfl, hv_x39⟩ := hv_x39
          obtain ⟨w_x39, rfl, h_x39⟩ := hv_x39
          refine WO.lookup rfl (by kernel_rfl) rfl rfl hq_x39 ((rd_c (List.Mem.tail _ (List.Mem.head _)) (hS37.rd (List.Mem.tail _ (List.Mem.tail _ (List.Mem.head _)))))) (.agg (cs_mdl_place x39 w_x39).toArray) rfl ?_
          refine WO.new hS37 rfl (by kernel_rfl) rfl (.cells (cs_mdl_place z_mdl_place zw_mdl_place).toArray 68 (0, 0)) (fun b => .pointer (some ⟨b, 0, none⟩)) (by kernel_rfl) (fun b40 w43 hS42 => (KR.cons (hS42.rd (List.Mem.tail _ (List.Mem.tail _ (List.Mem.head _)))) (KR.cons (hS42.rd (List.Mem.tail _ (List.Mem.tail _ (List.Mem.tail _ (List.Mem.head _))))) (KR.cons (hS42.rd (List.Mem.tail _ (List.Mem.tail _ (List.Mem.tail _ (List.Mem.tail _ (List.Mem.head _)))))) (KR.nil hS42.im))))) ?_
          intro b40 w43 hS42
          refine WO.tail rfl ?_
          refine WO.storeBox hS42 rfl (by kernel_rfl) rfl 0 rfl rfl (by kernel_rfl) (by kernel_rfl) (by kernel_rfl) ((cs_mdl_place x39 w_x39).toArray) (by kernel_rfl) (fun _ _ => trivial) ?_
          intro w45 hS44
          refine WO.nil ?_
          refine En.next ?_
          refine W.seq ?_
          refine W.seq ?_
          refine W.region (l := [0, 1, 2, 3, 4]) (by kernel_rfl) ?_
          refine WO.vals [(0, 41, (.pointer (some ⟨b40, 0, none⟩)))] (by kernel_rfl) (fun _ => by kernel_rfl) ?_
          refine WO.load rfl (by kernel_rfl) (by kernel_rfl) rfl (v := (.slice w_x39.held.a x39.held.length w_x39.held.c)) (fun w' hw' => cell_one ((rd_f (hS44.rd (List.Mem.head _))) w' hw') (by kernel_rfl)) ?_
          refine WO.vals [(2, 43, (.int .i64 p1))] (by kernel_rfl) (fun _ => by kernel_rfl) ?_
          obtain ⟨r51, hx_r46, hr⟩ := bind_some hr
          refine WO.call rfl (by kernel_rfl) rfl (f := 32) (args := #[(.slice w_x39.held.a x39.held.length w_x39.held.c), (.int .i64 p1)]) (by kernel_rfl) (mdl_find_ok h_x39.held hS44 hx_r46) ?_
          rintro _ w47 ⟨I48, rfl, hl49, hS50⟩
          refine ⟨_, rfl, trivial, ?_⟩
          refine WO.vals [(4, 45, (.bool (decide (r51 ≥ 0))))] (by kernel_rfl) (fun _ => by kernel_rfl) ?_
          refine WO.nil ?_
          refine En.next ?_
          refine W.cond (b := (decide (r51 ≥ 0))) rfl rfl (fun hc => ?_) (fun hc => ?_)
          · replace hr := cond_t hc hr
            refine W.seq ?_
            refine W.region (l := [0, 1]) (by kernel_rfl) ?_
            refine WO.vals [(0, 6, (.bool false)), (1, 7, (.int .i64 19))] (by kernel_rfl) (fun _ => by kernel_rfl) ?_
            refine WO.nil ?_
            refine En.next ?_
            refine W.ret ?_
            refine En.nx_ret ?_
            have hS52 := hS50.drop
            have hS53 := hS52.drop
            have hS54 := hS53.front2
            have hS55 := hS54.drop
            have he := Option.some.inj hr
            subst r
            exact En.ret2 rfl (.bool false) (.int .i64 19) rfl rfl ⟨I48, w_p0, rfl, ((hl10.trans hl24).trans hl49), hS55, (h_p0.mono ((hl10.trans hl24).trans hl49))⟩
          · replace hr := cond_f hc hr
            refine W.skip ?_
            refine En.next ?_
            refine W.seq ?_
            refine W.region (l := [0, 1, 2, 3, 4, 5, 6, 7, 8, 9, 10]) (by kernel_rfl) ?_
            refine WO.vals [(0, 46, (.pointer (some ⟨b40, 1, none⟩)))] (by kernel_rfl) (fun _ => by kernel_rfl) ?_
            refine WO.load rfl (by kernel_rfl) (by kernel_rfl) rfl (v := (.slice w_x39.queue.a x39.queue.length w_x39.queue.c)) (fun w' hw' => cell_one ((rd_f (hS50.rd (List.Mem.head _))) w' hw') (by kernel_rfl)) ?_
            refine WO.vals [(2, 48, (.int .i64 (x39.queue.length : Int))), (3, 49, (.bool ((x39.queue.length : Int) == 0))), (4, 50, (.bool ((x39.queue.length : Int) == 0)))] (by kernel_rfl) (fun _ => by kernel_rfl) ?_
            obtain ⟨j56, hr1, hr⟩ := bind_some hr
            refine WO.join (l1 := [5, 6, 7, 8, 9]) (l2 := [10]) (J := (fun fr w => ∃ (I58 : Mem), fr = [(0, (.pointer (some ⟨b_p0, 0, none⟩))), (1, (.int .i64 p1)), (5, (.pointer (some ⟨b1, 0, none⟩))), (11, (.pointer (some ⟨b40, 0, none⟩))), (55, (.bool j56))] ∧ I48.Le I58 ∧ St E w I58 ((Gv.one b_p0 (.cells (cs_mdl_Locks p0 w_p0).toArray 56 (0, 0))) :: (w_p0.at_.C) :: (Gv.one b1 (.cells (cs_api_Need p2).toArray 43 (0, 0))) :: (Gv.one b40 (.cells (cs_mdl_place x39 w_x39).toArray 68 (0, 0))) :: Os))) ?restj56 ?waysj56
            case waysj56 =>
              refine WO.caseb ((x39.queue.length : Int) == 0) (fun hc => ?_) (fun hc => ?_)
              · replace hr1 := cond_t hc hr1
                refine WO.reslot 50 rfl (show Value.bool ((x39.queue.length : Int) == 0) = Value.bool true by rw [hc]) ?_
                refine WO.loadN rfl (by kernel_rfl) (by kernel_rfl) rfl ((cs_mdl_place x39 w_x39)) (by kernel_rfl) (fun w' hw' => cells_one ((rd_f (hS50.rd (List.Mem.head _))) w' hw') (by kernel_rfl)) ?_
                refine WO.vals [(6, 52, (.pointer (some ⟨b1, 1, none⟩)))] (by kernel_rfl) (fun _ => by kernel_rfl) ?_
                refine WO.load rfl (by kernel_rfl) (by kernel_rfl) rfl (v := (.int .i64 p2.Mode)) (fun w' hw' => cell_one ((rd_f (hS50.rd (List.Mem.tail _ (List.Mem.tail _ (List.Mem.tail _ (List.Mem.tail _ (List.Mem.head _))))))) w' hw') (by kernel_rfl)) ?_
                obtain ⟨r65, hx_r60, hr1⟩ := bind_some hr1
                refine WO.call rfl (by kernel_rfl) rfl (f := 53) (args := #[(.agg (cs_mdl_place x39 w_x39).toArray), (.int .i64 p2.Mode)]) (by kernel_rfl) (mdl_place_goes_ok (h_x39.mono hl49) hS50 hx_r60) ?_
                rintro _ w61 ⟨I62, rfl, hl63, hS64⟩
                refine ⟨_, rfl, trivial, ?_⟩
                refine WO.vals [(9, 55, (.bool r65))] (by kernel_rfl) (fun _ => by kernel_rfl) ?_
                have hS66 := hS64.front1
                have hS67 := hS66.drop
                have hS68 := hS67.front3
                have hS69 := hS68.front3
                have hS70 := hS69.front3
                have he := Option.some.inj hr1
                subst j56
                refine WO.weaken (fr' := [(0, (.pointer (some ⟨b_p0, 0, none⟩))), (1, (.int .i64 p1)), (5, (.pointer (some ⟨b1, 0, none⟩))), (11, (.pointer (some ⟨b40, 0, none⟩))), (55, (.bool r65))]) (WO.meet ⟨I62, rfl, hl63, hS70⟩) (Sub.cons rfl (Sub.cons rfl (Sub.cons rfl (Sub.cons rfl (Sub.cons rfl Sub.nil)))))
              · replace hr1 := cond_f hc hr1
                refine WO.reslot 50 rfl (show Value.bool ((x39.queue.length : Int) == 0) = Value.bool false by rw [hc]) ?_
                refine WO.pass rfl (by kernel_rfl) rfl ?_
                refine WO.pass rfl (by kernel_rfl) rfl ?_
                refine WO.pass rfl (by kernel_rfl) rfl ?_
                refine WO.pass rfl (by kernel_rfl) rfl ?_
                refine WO.vals [(9, 55, (.bool false))] (by kernel_rfl) (fun _ => by kernel_rfl) ?_
                have hS71 := hS50.front1
                have hS72 := hS71.drop
                have hS73 := hS72.front3
                have hS74 := hS73.front3
                have hS75 := hS74.front3
                have he := Option.some.inj hr1
                subst j56
                refine WO.weaken (fr' := [(0, (.pointer (some ⟨b_p0, 0, none⟩))), (1, (.int .i64 p1)), (5, (.pointer (some ⟨b1, 0, none⟩))), (11, (.pointer (some ⟨b40, 0, none⟩))), (55, (.bool false))]) (WO.meet ⟨I48, rfl, Mem.Le.refl _, hS75⟩) (Sub.cons rfl (Sub.cons rfl (Sub.cons rfl (Sub.cons rfl (Sub.cons rfl Sub.nil)))))
            case restj56 =>
              rintro _ w76 ⟨I58, rfl, hl59, hS77⟩
              refine WO.vals [(10, 12, (.bool j56))] (by kernel_rfl) (fun _ => by kernel_rfl) ?_
              refine WO.nil ?_
              refine En.next ?_
              refine W.seq ?_
              refine W.seq ?_
              refine W.region (l := [0]) (by kernel_rfl) ?_
              refine WO.vals [(0, 56, (.bool j56))] (by kernel_rfl) (fun _ => by kernel_rfl) ?_
              refine WO.nil ?_
              refine En.next ?_
              obtain ⟨j78, hr1, hr⟩ := bind_some hr
              refine W.join (J := (fun fr w => ∃ (I80 : Mem), ∃ (w_j78 : W_mdl_place), fr = [(0, (.pointer (some ⟨b_p0, 0, none⟩))), (5, (.pointer (some ⟨b1, 0, none⟩))), (11, (.pointer (some ⟨b40, 0, none⟩))), (12, (.bool j56))] ∧ I58.Le I80 ∧ St E w I80 ((Gv.one b_p0 (.cells (cs_mdl_Locks p0 w_p0).toArray 56 (0, 0))) :: (w_p0.at_.C) :: (Gv.one b1 (.cells (cs_api_Need p2).toArray 43 (0, 0))) :: (Gv.one b40 (.cells (cs_mdl_place j78 w_j78).toArray 68 (0, 0))) :: Os) ∧ ok_mdl_place I80 j78 w_j78)) ?restj78 ?waysj78
              case waysj78 =>
                refine W.cond (b := j56) rfl rfl (fun hc => ?_) (fun hc => ?_)
                · replace hr1 := cond_t hc hr1
                  obtain ⟨j82, hr2, hr1⟩ := bind_some hr1
                  refine W.join (J := (fun fr w => ∃ (I84 : Mem), ∃ (w_j82 : W_mdl_place), fr = [(0, (.pointer (some ⟨b_p0, 0, none⟩))), (5, (.pointer (some ⟨b1, 0, none⟩))), (11, (.pointer (some ⟨b40, 0, none⟩))), (12, (.bool j56))] ∧ I58.Le I84 ∧ St E w I84 ((Gv.one b_p0 (.cells (cs_mdl_Locks p0 w_p0).toArray 56 (0, 0))) :: (w_p0.at_.C) :: (Gv.one b1 (.cells (cs_api_Need p2).toArray 43 (0, 0))) :: (Gv.one b40 (.cells (cs_mdl_place j82 w_j82).toArray 68 (0, 0))) :: Os) ∧ ok_mdl_place I84 j82 w_j82)) ?restj82 ?waysj82
                  case waysj82 =>
                    have hS86 := hS77.drew
                    refine W.draws (.split 6 2 (.split 7 2 (.leaf [0, 1, 3, 4, 5, 6, 7, 2, 8, 9, 10]) (.leaf [0, 1, 3, 4, 5, 6, 2, 7, 8, 9, 10])) (.leaf [0, 1, 3, 4, 5, 2, 6, 7, 8, 9, 10])) 8 (KR I58 [Gv.one b1 (.cells (cs_api_Need p2).toArray 43 (0, 0)), Gv.one b40 (.cells (cs_mdl_place x39 w_x39).toArray 68 (0, 0))]) qR (.back (by kernel_rfl)) (by kernel_rfl) (KR.cons (hS86.rd (List.Mem.tail _ (List.Mem.tail _ (List.Mem.head _)))) (KR.cons (hS86.rd (List.Mem.tail _ (List.Mem.tail _ (List.Mem.tail _ (List.Mem.head _))))) (KR.nil hS86.im))) ?_
                    generalize World.drew _ = w87 at *
                    refine ⟨?_, ?_⟩
                    · skip
                      refine ⟨?_, ?_⟩
                      · skip
                        show WO _ _ _ _ _ _ _ [0, 1, 3, 4, 5, 6, 7, 2, 8, 9, 10] _ _
                        refine WO.vals [(0, 57, (.pointer (some ⟨b40, 0, none⟩)))] (by kernel_rfl) (fun _ => by kernel_rfl) ?_
                        refine WO.load rfl (by kernel_rfl) (by kernel_rfl) rfl (v := (.slice w_x39.held.a x39.held.length w_x39.held.c)) (fun w' hw' => cell_one ((rd_c (List.Mem.tail _ (List.Mem.head _)) (hS86.rd (List.Mem.tail _ (List.Mem.tail _ (List.Mem.tail _ (List.Mem.head _)))))) w' hw') (by kernel_rfl)) ?_
                        refine WO.vals [(3, 60, (.int .i64 p1)), (4, 61, (.pointer (some ⟨b1, 1, none⟩)))] (by kernel_rfl) (fun _ => by kernel_rfl) ?_
                        refine WO.load rfl (by kernel_rfl) (by kernel_rfl) rfl (v := (.int .i64 p2.Mode)) (fun w' hw' => cell_one ((rd_c (List.Mem.head _) (hS86.rd (List.Mem.tail _ (List.Mem.tail _ (List.Mem.head _))))) w' hw') (by kernel_rfl)) ?_
                        refine WO.vals [(6, 63, (.agg (cs_mdl_one (⟨p1, p2.Mode⟩ : mdl_one)).toArray))] (by kernel_rfl) (fun _ => by kernel_rfl) ?_
                        refine WO.newSlice (rel := R_mdl_one) (xs := ([(⟨p1, p2.Mode⟩ : mdl_one)] : List mdl_one)) hS86 rfl (by kernel_rfl) rfl 70 2 [(cs_mdl_one (⟨p1, p2.Mode⟩ : mdl_one))] (by kernel_rfl) rfl ((Elr.cons rfl Elr.nil)) (fun C89 w93 hS92 => (KR.cons (hS92.rd (List.Mem.tail _ (List.Mem.tail _ (List.Mem.tail _ (List.Mem.head _))))) (KR.cons (hS92.rd (List.Mem.tail _ (List.Mem.tail _ (List.Mem.tail _ (List.Mem.tail _ (List.Mem.head _)))))) (KR.nil hS92.im)))) ?_
                        intro a91 C89 w93 hS92 ho90
                        obtain ⟨r100, hx_r95, hr2⟩ := bind_some hr2
                        refine WO.call rfl (by kernel_rfl) rfl (f := 54) (args := #[(.slice w_x39.held.a x39.held.length w_x39.held.c)]) (by kernel_rfl) (slices_Clone_mdl_one_ok (RSl.mono h_x39.held (hl49.trans hl59)) hS92 hx_r95) ?_
                        rintro _ w96 ⟨I97, a_r100, c_r100, C_r100, rfl, hl98, hS99, h_r100⟩
                        refine ⟨_, rfl, (KR.cons (hS99.rd (List.Mem.tail _ (List.Mem.tail _ (List.Mem.tail _ (List.Mem.tail _ (List.Mem.head _)))))) (KR.cons (hS99.rd (List.Mem.tail _ (List.Mem.tail _ (List.Mem.tail _ (List.Mem.tail _ (List.Mem.tail _ (List.Mem.head _))))))) (KR.nil (hS99.im.of_le hl98)))), ?_⟩
                        refine WO.tail rfl ?_
                        obtain ⟨x101, hx_x101, hr2⟩ := bind_some hr2
                        obtain ⟨h0_x101, he_x101⟩ := app_some hx_x101
                        refine WO.append (e' := 70) (b := 16) (zs := (cs_mdl_one z_mdl_one).toArray) hS99 h_r100 rfl (by kernel_rfl) rfl (by kernel_rfl) (by kernel_rfl) (by kernel_rfl) rfl rfl rfl rfl (ho90.mono hl98).sl (hS99.rd (List.Mem.tail _ (List.Mem.head _))) h0_x101 he_x101 (fun _ _ _ => trivial) ?_
                        intro a102 c103 w104 C105 hS106 ho107
                        have hS108 := hS106.front1
                        have hS109 := hS108.drop
                        refine WO.vals [(9, 66, (.pointer (some ⟨b40, 0, none⟩)))] (by kernel_rfl) (fun _ => by kernel_rfl) ?_
                        obtain ⟨I110, hl111, hS113, hp112⟩ := OwnSl.pub ho107 hS109
                        have hS114 := hS113.front3
                        refine WO.storeBox hS114 rfl (by kernel_rfl) rfl 0 rfl rfl (by kernel_rfl) (by kernel_rfl) (by kernel_rfl) ((cs_mdl_place ({ x39 with held := x101 }) ({ w_x39 with held := ⟨a102, c103⟩ })).toArray) (by kernel_rfl) (fun _ _ => trivial) ?_
                        intro w116 hS115
                        refine WO.nil ?_
                        have hk117 : ok_mdl_place I110 ({ x39 with held := x101 }) ({ w_x39 with held := ⟨a102, c103⟩ }) := ⟨hp112, (RSl.mono h_x39.queue (((hl49.trans hl59).trans hl98).trans hl111))⟩
                        have hS118 := hS115.front3
                        have hS119 := hS118.front3
                        have hS120 := hS119.front3
                        have he := Option.some.inj hr2
                        subst j82
                        refine En.weaken (fr' := [(0, (.pointer (some ⟨b_p0, 0, none⟩))), (5, (.pointer (some ⟨b1, 0, none⟩))), (11, (.pointer (some ⟨b40, 0, none⟩))), (12, (.bool j56))]) (En.round ⟨I110, ({ w_x39 with held := ⟨a102, c103⟩ }), rfl, (hl98.trans hl111), hS120, hk117⟩) (Sub.cons rfl (Sub.cons rfl (Sub.cons rfl (Sub.cons rfl Sub.nil))))
                      · skip
                        show WO _ _ _ _ _ _ _ [0, 1, 3, 4, 5, 6, 2, 7, 8, 9, 10] _ _
                        refine WO.vals [(0, 57, (.pointer (some ⟨b40, 0, none⟩)))] (by kernel_rfl) (fun _ => by kernel_rfl) ?_
                        refine WO.load rfl (by kernel_rfl) (by kernel_rfl) rfl (v := (.slice w_x39.held.a x39.held.length w_x39.held.c)) (fun w' hw' => cell_one ((rd_c (List.Mem.tail _ (List.Mem.head _)) (hS86.rd (List.Mem.tail _ (List.Mem.tail _ (List.Mem.tail _ (List.Mem.head _)))))) w' hw') (by kernel_rfl)) ?_
                        refine WO.vals [(3, 60, (.int .i64 p1)), (4, 61, (.pointer (some ⟨b1, 1, none⟩)))] (by kernel_rfl) (fun _ => by kernel_rfl) ?_
                        refine WO.load rfl (by kernel_rfl) (by kernel_rfl) rfl (v := (.int .i64 p2.Mode)) (fun w' hw' => cell_one ((rd_c (List.Mem.head _) (hS86.rd (List.Mem.tail _ (List.Mem.tail _ (List.Mem.head _))))) w' hw') (by kernel_rfl)) ?_
                        refine WO.vals [(6, 63, (.agg (cs_mdl_one (⟨p1, p2.Mode⟩ : mdl_one)).toArray))] (by kernel_rfl) (fun _ => by kernel_rfl) ?_
                        obtain ⟨r126, hx_r121, hr2⟩ := bind_some hr2
                        refine WO.call rfl (by kernel_rfl) rfl (f := 54) (args := #[(.slice w_x39.held.a x39.held.length w_x39.held.c)]) (by kernel_rfl) (slices_Clone_mdl_one_ok (RSl.mono h_x39.held (hl49.trans hl59)) hS86 hx_r121) ?_
                        rintro _ w122 ⟨I123, a_r126, c_r126, C_r126, rfl, hl124, hS125, h_r126⟩
                        refine ⟨_, rfl, (KR.cons (hS125.rd (List.Mem.tail _ (List.Mem.tail _ (List.Mem.tail _ (List.Mem.head _))))) (KR.cons (hS125.rd (List.Mem.tail _ (List.Mem.tail _ (List.Mem.tail _ (List.Mem.tail _ (List.Mem.head _)))))) (KR.nil (hS125.im.of_le hl124)))), ?_⟩
                        refine WO.newSlice (rel := R_mdl_one) (xs := ([(⟨p1, p2.Mode⟩ : mdl_one)] : List mdl_one)) hS125 rfl (by kernel_rfl) rfl 70 2 [(cs_mdl_one (⟨p1, p2.Mode⟩ : mdl_one))] (by kernel_rfl) rfl ((Elr.cons rfl Elr.nil)) (fun C128 w132 hS131 => (KR.cons (hS131.rd (List.Mem.tail _ (List.Mem.tail _ (List.Mem.tail _ (List.Mem.tail _ (List.Mem.head _)))))) (KR.cons (hS131.rd (List.Mem.tail _ (List.Mem.tail _ (List.Mem.tail _ (List.Mem.tail _ (List.Mem.tail _ (List.Mem.head _))))))) (KR.nil (hS131.im.of_le hl124))))) ?_
                        intro a130 C128 w132 hS131 ho129
                        refine WO.tail rfl ?_
                        have hS134 := hS131.front1
                        obtain ⟨x135, hx_x135, hr2⟩ := bind_some hr2
                        obtain ⟨h0_x135, he_x135⟩ := app_some hx_x135
                        refine WO.append (e' := 70) (b := 16) (zs := (cs_mdl_one z_mdl_one).toArray) hS134 h_r126 rfl (by kernel_rfl) rfl (by kernel_rfl) (by kernel_rfl) (by kernel_rfl) rfl rfl rfl rfl ho129.sl (hS134.rd (List.Mem.tail _ (List.Mem.head _))) h0_x135 he_x135 (fun _ _ _ => trivial) ?_
                        intro a136 c137 w138 C139 hS140 ho141
                        have hS142 := hS140.front1
                        have hS143 := hS142.drop
                        refine WO.vals [(9, 66, (.pointer (some ⟨b40, 0, none⟩)))] (by kernel_rfl) (fun _ => by kernel_rfl) ?_
                        obtain ⟨I144, hl145, hS147, hp146⟩ := OwnSl.pub ho141 hS143
                        have hS148 := hS147.front3
                        refine WO.storeBox hS148 rfl (by kernel_rfl) rfl 0 rfl rfl (by kernel_rfl) (by kernel_rfl) (by kernel_rfl) ((cs_mdl_place ({ x39 with held := x135 }) ({ w_x39 with held := ⟨a136, c137⟩ })).toArray) (by kernel_rfl) (fun _ _ => trivial) ?_
                        intro w150 hS149
                        refine WO.nil ?_
                        have hk151 : ok_mdl_place I144 ({ x39 with held := x135 }) ({ w_x39 with held := ⟨a136, c137⟩ }) := ⟨hp146, (RSl.mono h_x39.queue (((hl49.trans hl59).trans hl124).trans hl145))⟩
                        have hS152 := hS149.front3
                        have hS153 := hS152.front3
                        have hS154 := hS153.front3
                        have he := Option.some.inj hr2
                        subst j82
                        refine En.weaken (fr' := [(0, (.pointer (some ⟨b_p0, 0, none⟩))), (5, (.pointer (some ⟨b1, 0, none⟩))), (11, (.pointer (some ⟨b40, 0, none⟩))), (12, (.bool j56))]) (En.round ⟨I144, ({ w_x39 with held := ⟨a136, c137⟩ }), rfl, (hl124.trans hl145), hS154, hk151⟩) (Sub.cons rfl (Sub.cons rfl (Sub.cons rfl (Sub.cons rfl Sub.nil))))
                    · skip
                      show WO _ _ _ _ _ _ _ [0, 1, 3, 4, 5, 2, 6, 7, 8, 9, 10] _ _
                      refine WO.vals [(0, 57, (.pointer (some ⟨b40, 0, none⟩)))] (by kernel_rfl) (fun _ => by kernel_rfl) ?_
                      refine WO.load rfl (by kernel_rfl) (by kernel_rfl) rfl (v := (.slice w_x39.held.a x39.held.length w_x39.held.c)) (fun w' hw' => cell_one ((rd_c (List.Mem.tail _ (List.Mem.head _)) (hS86.rd (List.Mem.tail _ (List.Mem.tail _ (List.Mem.tail _ (List.Mem.head _)))))) w' hw') (by kernel_rfl)) ?_
                      refine WO.vals [(3, 60, (.int .i64 p1)), (4, 61, (.pointer (some ⟨b1, 1, none⟩)))] (by kernel_rfl) (fun _ => by kernel_rfl) ?_
                      refine WO.load rfl (by kernel_rfl) (by kernel_rfl) rfl (v := (.int .i64 p2.Mode)) (fun w' hw' => cell_one ((rd_c (List.Mem.head _) (hS86.rd (List.Mem.tail _ (List.Mem.tail _ (List.Mem.head _))))) w' hw') (by kernel_rfl)) ?_
                      obtain ⟨r160, hx_r155, hr2⟩ := bind_some hr2
                      refine WO.call rfl (by kernel_rfl) rfl (f := 54) (args := #[(.slice w_x39.held.a x39.held.length w_x39.held.c)]) (by kernel_rfl) (slices_Clone_mdl_one_ok (RSl.mono h_x39.held (hl49.trans hl59)) hS86 hx_r155) ?_
                      rintro _ w156 ⟨I157, a_r160, c_r160, C_r160, rfl, hl158, hS159, h_r160⟩
                      refine ⟨_, rfl, (KR.cons (hS159.rd (List.Mem.tail _ (List.Mem.tail _ (List.Mem.tail _ (List.Mem.head _))))) (KR.cons (hS159.rd (List.Mem.tail _ (List.Mem.tail _ (List.Mem.tail _ (List.Mem.tail _ (List.Mem.head _)))))) (KR.nil (hS159.im.of_le hl158)))), ?_⟩
                      refine WO.vals [(6, 63, (.agg (cs_mdl_one (⟨p1, p2.Mode⟩ : mdl_one)).toArray))] (by kernel_rfl) (fun _ => by kernel_rfl) ?_
                      refine WO.newSlice (rel := R_mdl_one) (xs := ([(⟨p1, p2.Mode⟩ : mdl_one)] : List mdl_one)) hS159 rfl (by kernel_rfl) rfl 70 2 [(cs_mdl_one (⟨p1, p2.Mode⟩ : mdl_one))] (by kernel_rfl) rfl ((Elr.cons rfl Elr.nil)) (fun C162 w166 hS165 => (KR.cons (hS165.rd (List.Mem.tail _ (List.Mem.tail _ (List.Mem.tail _ (List.Mem.tail _ (List.Mem.head _)))))) (KR.cons (hS165.rd (List.Mem.tail _ (List.Mem.tail _ (List.Mem.tail _ (List.Mem.tail _ (List.Mem.tail _ (List.Mem.head _))))))) (KR.nil (hS165.im.of_le hl158))))) ?_
                      intro a164 C162 w166 hS165 ho163
                      refine WO.tail rfl ?_
                      have hS168 := hS165.front1
                      obtain ⟨x169, hx_x169, hr2⟩ := bind_some hr2
                      obtain ⟨h0_x169, he_x169⟩ := app_some hx_x169
                      refine WO.append (e' := 70) (b := 16) (zs := (cs_mdl_one z_mdl_one).toArray) hS168 h_r160 rfl (by kernel_rfl) rfl (by kernel_rfl) (by kernel_rfl) (by kernel_rfl) rfl rfl rfl rfl ho163.sl (hS168.rd (List.Mem.tail _ (List.Mem.head _))) h0_x169 he_x169 (fun _ _ _ => trivial) ?_
                      intro a170 c171 w172 C173 hS174 ho175
                      have hS176 := hS174.front1
                      have hS177 := hS176.drop
                      refine WO.vals [(9, 66, (.pointer (some ⟨b40, 0, none⟩)))] (by kernel_rfl) (fun _ => by kernel_rfl) ?_
                      obtain ⟨I178, hl179, hS181, hp180⟩ := OwnSl.pub ho175 hS177
                      have hS182 := hS181.front3
                      refine WO.storeBox hS182 rfl (by kernel_rfl) rfl 0 rfl rfl (by kernel_rfl) (by kernel_rfl) (by kernel_rfl) ((cs_mdl_place ({ x39 with held := x169 }) ({ w_x39 with held := ⟨a170, c171⟩ })).toArray) (by kernel_rfl) (fun _ _ => trivial) ?_
                      intro w184 hS183
                      refine WO.nil ?_
                      have hk185 : ok_mdl_place I178 ({ x39 with held := x169 }) ({ w_x39 with held := ⟨a170, c171⟩ }) := ⟨hp180, (RSl.mono h_x39.queue (((hl49.trans hl59).trans hl158).trans hl179))⟩
                      have hS186 := hS183.front3
                      have hS187 := hS186.front3
                      have hS188 := hS187.front3
                      have he := Option.some.inj hr2
                      subst j82
                      refine En.weaken (fr' := [(0, (.pointer (some ⟨b_p0, 0, none⟩))), (5, (.pointer (some ⟨b1, 0, none⟩))), (11, (.pointer (some ⟨b40, 0, none⟩))), (12, (.bool j56))]) (En.round ⟨I178, ({ w_x39 with held := ⟨a170, c171⟩ }), rfl, (hl158.trans hl179), hS188, hk185⟩) (Sub.cons rfl (Sub.cons rfl (Sub.cons rfl (Sub.cons rfl Sub.nil))))
                  case restj82 =>
                    rintro _ w189 ⟨I84, w_j82, rfl, hl85, hS190, h_j82⟩
                    have he := Option.some.inj hr1
                    subst j78
                    refine En.weaken (fr' := [(0, (.pointer (some ⟨b_p0, 0, none⟩))), (5, (.pointer (some ⟨b1, 0, none⟩))), (11, (.pointer (some ⟨b40, 0, none⟩))), (12, (.bool j56))]) (En.round ⟨I84, w_j82, rfl, hl85, hS190, h_j82⟩) (Sub.cons rfl (Sub.cons rfl (Sub.cons rfl (Sub.cons rfl Sub.nil))))
                · replace hr1 := cond_f hc hr1
                  obtain ⟨j191, hr2, hr1⟩ := bind_some hr1
                  refine W.join (J := (fun fr w => ∃ (I193 : Mem), ∃ (w_j191 : W_mdl_place), fr = [(0, (.pointer (some ⟨b_p0, 0, none⟩))), (5, (.pointer (some ⟨b1, 0, none⟩))), (11, (.pointer (some ⟨b40, 0, none⟩))), (12, (.bool j56))] ∧ I58.Le I193 ∧ St E w I193 ((Gv.one b_p0 (.cells (cs_mdl_Locks p0 w_p0).toArray 56 (0, 0))) :: (w_p0.at_.C) :: (Gv.one b1 (.cells (cs_api_Need p2).toArray 43 (0, 0))) :: (Gv.one b40 (.cells (cs_mdl_place j191 w_j191).toArray 68 (0, 0))) :: Os) ∧ ok_mdl_place I193 j191 w_j191)) ?restj191 ?waysj191
                  case waysj191 =>
                    have hS195 := hS77.drew
                    refine W.draws (.split 6 2 (.split 7 2 (.leaf [0, 1, 3, 4, 5, 6, 7, 2, 8, 9, 10]) (.leaf [0, 1, 3, 4, 5, 6, 2, 7, 8, 9, 10])) (.leaf [0, 1, 3, 4, 5, 2, 6, 7, 8, 9, 10])) 8 (KR I58 [Gv.one b1 (.cells (cs_api_Need p2).toArray 43 (0, 0)), Gv.one b40 (.cells (cs_mdl_place x39 w_x39).toArray 68 (0, 0))]) qR (.back (by kernel_rfl)) (by kernel_rfl) (KR.cons (hS195.rd (List.Mem.tail _ (List.Mem.tail _ (List.Mem.head _)))) (KR.cons (hS195.rd (List.Mem.tail _ (List.Mem.tail _ (List.Mem.tail _ (List.Mem.head _))))) (KR.nil hS195.im))) ?_
                    generalize World.drew _ = w196 at *
                    refine ⟨?_, ?_⟩
                    · skip
                      refine ⟨?_, ?_⟩
                      · skip
                        show WO _ _ _ _ _ _ _ [0, 1, 3, 4, 5, 6, 7, 2, 8, 9, 10] _ _
                        refine WO.vals [(0, 67, (.pointer (some ⟨b40, 1, none⟩)))] (by kernel_rfl) (fun _ => by kernel_rfl) ?_
                        refine WO.load rfl (by kernel_rfl) (by kernel_rfl) rfl (v := (.slice w_x39.queue.a x39.queue.length w_x39.queue.c)) (fun w' hw' => cell_one ((rd_c (List.Mem.tail _ (List.Mem.head _)) (hS195.rd (List.Mem.tail _ (List.Mem.tail _ (List.Mem.tail _ (List.Mem.head _)))))) w' hw') (by kernel_rfl)) ?_
                        refine WO.vals [(3, 70, (.int .i64 p1)), (4, 71, (.pointer (some ⟨b1, 1, none⟩)))] (by kernel_rfl) (fun _ => by kernel_rfl) ?_
                        refine WO.load rfl (by kernel_rfl) (by kernel_rfl) rfl (v := (.int .i64 p2.Mode)) (fun w' hw' => cell_one ((rd_c (List.Mem.head _) (hS195.rd (List.Mem.tail _ (List.Mem.tail _ (List.Mem.head _))))) w' hw') (by kernel_rfl)) ?_
                        refine WO.vals [(6, 73, (.agg (cs_mdl_one (⟨p1, p2.Mode⟩ : mdl_one)).toArray))] (by kernel_rfl) (fun _ => by kernel_rfl) ?_
                        refine WO.newSlice (rel := R_mdl_one) (xs := ([(⟨p1, p2.Mode⟩ : mdl_one)] : List mdl_one)) hS195 rfl (by kernel_rfl) rfl 70 2 [(cs_mdl_one (⟨p1, p2.Mode⟩ : mdl_one))] (by kernel_rfl) rfl ((Elr.cons rfl Elr.nil)) (fun C198 w202 hS201 => (KR.cons (hS201.rd (List.Mem.tail _ (List.Mem.tail _ (List.Mem.tail _ (List.Mem.head _))))) (KR.cons (hS201.rd (List.Mem.tail _ (List.Mem.tail _ (List.Mem.tail _ (List.Mem.tail _ (List.Mem.head _)))))) (KR.nil hS201.im)))) ?_
                        intro a200 C198 w202 hS201 ho199
                        obtain ⟨r209, hx_r204, hr2⟩ := bind_some hr2
                        refine WO.call rfl (by kernel_rfl) rfl (f := 54) (args := #[(.slice w_x39.queue.a x39.queue.length w_x39.queue.c)]) (by kernel_rfl) (slices_Clone_mdl_one_ok (RSl.mono h_x39.queue (hl49.trans hl59)) hS201 hx_r204) ?_
                        rintro _ w205 ⟨I206, a_r209, c_r209, C_r209, rfl, hl207, hS208, h_r209⟩
                        refine ⟨_, rfl, (KR.cons (hS208.rd (List.Mem.tail _ (List.Mem.tail _ (List.Mem.tail _ (List.Mem.tail _ (List.Mem.head _)))))) (KR.cons (hS208.rd (List.Mem.tail _ (List.Mem.tail _ (List.Mem.tail _ (List.Mem.tail _ (List.Mem.tail _ (List.Mem.head _))))))) (KR.nil (hS208.im.of_le hl207)))), ?_⟩
                        refine WO.tail rfl ?_
                        obtain ⟨x210, hx_x210, hr2⟩ := bind_some hr2
                        obtain ⟨h0_x210, he_x210⟩ := app_some hx_x210
                        refine WO.append (e' := 70) (b := 16) (zs := (cs_mdl_one z_mdl_one).toArray) hS208 h_r209 rfl (by kernel_rfl) rfl (by kernel_rfl) (by kernel_rfl) (by kernel_rfl) rfl rfl rfl rfl (ho199.mono hl207).sl (hS208.rd (List.Mem.tail _ (List.Mem.head _))) h0_x210 he_x210 (fun _ _ _ => trivial) ?_
                        intro a211 c212 w213 C214 hS215 ho216
                        have hS217 := hS215.front1
                        have hS218 := hS217.drop
                        refine WO.vals [(9, 76, (.pointer (some ⟨b40, 1, none⟩)))] (by kernel_rfl) (fun _ => by kernel_rfl) ?_
                        obtain ⟨I219, hl220, hS222, hp221⟩ := OwnSl.pub ho216 hS218
                        have hS223 := hS222.front3
                        refine WO.storeBox hS223 rfl (by kernel_rfl) rfl 1 rfl rfl (by kernel_rfl) (by kernel_rfl) (by kernel_rfl) ((cs_mdl_place ({ x39 with queue := x210 }) ({ w_x39 with queue := ⟨a211, c212⟩ })).toArray) (by kernel_rfl) (fun _ _ => trivial) ?_
                        intro w225 hS224
                        refine WO.nil ?_
                        have hk226 : ok_mdl_place I219 ({ x39 with queue := x210 }) ({ w_x39 with queue := ⟨a211, c212⟩ }) := ⟨(RSl.mono h_x39.held (((hl49.trans hl59).trans hl207).trans hl220)), hp221⟩
                        have hS227 := hS224.front3
                        have hS228 := hS227.front3
                        have hS229 := hS228.front3
                        have he := Option.some.inj hr2
                        subst j191
                        refine En.weaken (fr' := [(0, (.pointer (some ⟨b_p0, 0, none⟩))), (5, (.pointer (some ⟨b1, 0, none⟩))), (11, (.pointer (some ⟨b40, 0, none⟩))), (12, (.bool j56))]) (En.round ⟨I219, ({ w_x39 with queue := ⟨a211, c212⟩ }), rfl, (hl207.trans hl220), hS229, hk226⟩) (Sub.cons rfl (Sub.cons rfl (Sub.cons rfl (Sub.cons rfl Sub.nil))))
                      · skip
                        show WO _ _ _ _ _ _ _ [0, 1, 3, 4, 5, 6, 2, 7, 8, 9, 10] _ _
                        refine WO.vals [(0, 67, (.pointer (some ⟨b40, 1, none⟩)))] (by kernel_rfl) (fun _ => by kernel_rfl) ?_
                        refine WO.load rfl (by kernel_rfl) (by kernel_rfl) rfl (v := (.slice w_x39.queue.a x39.queue.length w_x39.queue.c)) (fun w' hw' => cell_one ((rd_c (List.Mem.tail _ (List.Mem.head _)) (hS195.rd (List.Mem.tail _ (List.Mem.tail _ (List.Mem.tail _ (List.Mem.head _)))))) w' hw') (by kernel_rfl)) ?_
                        refine WO.vals [(3, 70, (.int .i64 p1)), (4, 71, (.pointer (some ⟨b1, 1, none⟩)))] (by kernel_rfl) (fun _ => by kernel_rfl) ?_
                        refine WO.load rfl (by kernel_rfl) (by kernel_rfl) rfl (v := (.int .i64 p2.Mode)) (fun w' hw' => cell_one ((rd_c (List.Mem.head _) (hS195.rd (List.Mem.tail _ (List.Mem.tail _ (List.Mem.head _))))) w' hw') (by kernel_rfl)) ?_
                        refine WO.vals [(6, 73, (.agg (cs_mdl_one (⟨p1, p2.Mode⟩ : mdl_one)).toArray))] (by kernel_rfl) (fun _ => by kernel_rfl) ?_
                        obtain ⟨r235, hx_r230, hr2⟩ := bind_some hr2
                        refine WO.call rfl (by kernel_rfl) rfl (f := 54) (args := #[(.slice w_x39.queue.a x39.queue.length w_x39.queue.c)]) (by kernel_rfl) (slices_Clone_mdl_one_ok (RSl.mono h_x39.queue (hl49.trans hl59)) hS195 hx_r230) ?_
                        rintro _ w231 ⟨I232, a_r235, c_r235, C_r235, rfl, hl233, hS234, h_r235⟩
                        refine ⟨_, rfl, (KR.cons (hS234.rd (List.Mem.tail _ (List.Mem.tail _ (List.Mem.tail _ (List.Mem.head _))))) (KR.cons (hS234.rd (List.Mem.tail _ (List.Mem.tail _ (List.Mem.tail _ (List.Mem.tail _ (List.Mem.head _)))))) (KR.nil (hS234.im.of_le hl233)))), ?_⟩
                        refine WO.newSlice (rel := R_mdl_one) (xs := ([(⟨p1, p2.Mode⟩ : mdl_one)] : List mdl_one)) hS234 rfl (by kernel_rfl) rfl 70 2 [(cs_mdl_one (⟨p1, p2.Mode⟩ : mdl_one))] (by kernel_rfl) rfl ((Elr.cons rfl Elr.nil)) (fun C237 w241 hS240 => (KR.cons (hS240.rd (List.Mem.tail _ (List.Mem.tail _ (List.Mem.tail _ (List.Mem.tail _ (List.Mem.head _)))))) (KR.cons (hS240.rd (List.Mem.tail _ (List.Mem.tail _ (List.Mem.tail _ (List.Mem.tail _ (List.Mem.tail _ (List.Mem.head _))))))) (KR.nil (hS240.im.of_le hl233))))) ?_
                        intro a239 C237 w241 hS240 ho238
                        refine WO.tail rfl ?_
                        have hS243 := hS240.front1
                        obtain ⟨x244, hx_x244, hr2⟩ := bind_some hr2
                        obtain ⟨h0_x244, he_x244⟩ := app_some hx_x244
                        refine WO.append (e' := 70) (b := 16) (zs := (cs_mdl_one z_mdl_one).toArray) hS243 h_r235 rfl (by kernel_rfl) rfl (by kernel_rfl) (by kernel_rfl) (by kernel_rfl) rfl rfl rfl rfl ho238.sl (hS243.rd (List.Mem.tail _ (List.Mem.head _))) h0_x244 he_x244 (fun _ _ _ => trivial) ?_
                        intro a245 c246 w247 C248 hS249 ho250
                        have hS251 := hS249.front1
                        have hS252 := hS251.drop
                        refine WO.vals [(9, 76, (.pointer (some ⟨b40, 1, none⟩)))] (by kernel_rfl) (fun _ => by kernel_rfl) ?_
                        obtain ⟨I253, hl254, hS256, hp255⟩ := OwnSl.pub ho250 hS252
                        have hS257 := hS256.front3
                        refine WO.storeBox hS257 rfl (by kernel_rfl) rfl 1 rfl rfl (by kernel_rfl) (by kernel_rfl) (by kernel_rfl) ((cs_mdl_place ({ x39 with queue := x244 }) ({ w_x39 with queue := ⟨a245, c246⟩ })).toArray) (by kernel_rfl) (fun _ _ => trivial) ?_
                        intro w259 hS258
                        refine WO.nil ?_
                        have hk260 : ok_mdl_place I253 ({ x39 with queue := x244 }) ({ w_x39 with queue := ⟨a245, c246⟩ }) := ⟨(RSl.mono h_x39.held (((hl49.trans hl59).trans hl233).trans hl254)), hp255⟩
                        have hS261 := hS258.front3
                        have hS262 := hS261.front3
                        have hS263 := hS262.front3
                        have he := Option.some.inj hr2
                        subst j191
                        refine En.weaken (fr' := [(0, (.pointer (some ⟨b_p0, 0, none⟩))), (5, (.pointer (some ⟨b1, 0, none⟩))), (11, (.pointer (some ⟨b40, 0, none⟩))), (12, (.bool j56))]) (En.round ⟨I253, ({ w_x39 with queue := ⟨a245, c246⟩ }), rfl, (hl233.trans hl254), hS263, hk260⟩) (Sub.cons rfl (Sub.cons rfl (Sub.cons rfl (Sub.cons rfl Sub.nil))))
                    · skip
                      show WO _ _ _ _ _ _ _ [0, 1, 3, 4, 5, 2, 6, 7, 8, 9, 10] _ _
                      refine WO.vals [(0, 67, (.pointer (some ⟨b40, 1, none⟩)))] (by kernel_rfl) (fun _ => by kernel_rfl) ?_
                      refine WO.load rfl (by kernel_rfl) (by kernel_rfl) rfl (v := (.slice w_x39.queue.a x39.queue.length w_x39.queue.c)) (fun w' hw' => cell_one ((rd_c (List.Mem.tail _ (List.Mem.head _)) (hS195.rd (List.Mem.tail _ (List.Mem.tail _ (List.Mem.tail _ (List.Mem.head _)))))) w' hw') (by kernel_rfl)) ?_
                      refine WO.vals [(3, 70, (.int .i64 p1)), (4, 71, (.pointer (some ⟨b1, 1, none⟩)))] (by kernel_rfl) (fun _ => by kernel_rfl) ?_
                      refine WO.load rfl (by kernel_rfl) (by kernel_rfl) rfl (v := (.int .i64 p2.Mode)) (fun w' hw' => cell_one ((rd_c (List.Mem.head _) (hS195.rd (List.Mem.tail _ (List.Mem.tail _ (List.Mem.head _))))) w' hw') (by kernel_rfl)) ?_
                      obtain ⟨r269, hx_r264, hr2⟩ := bind_some hr2
                      refine WO.call rfl (by kernel_rfl) rfl (f := 54) (args := #[(.slice w_x39.queue.a x39.queue.length w_x39.queue.c)]) (by kernel_rfl) (slices_Clone_mdl_one_ok (RSl.mono h_x39.queue (hl49.trans hl59)) hS195 hx_r264) ?_
                      rintro _ w265 ⟨I266, a_r269, c_r269, C_r269, rfl, hl267, hS268, h_r269⟩
                      refine ⟨_, rfl, (KR.cons (hS268.rd (List.Mem.tail _ (List.Mem.tail _ (List.Mem.tail _ (List.Mem.head _))))) (KR.cons (hS268.rd (List.Mem.tail _ (List.Mem.tail _ (List.Mem.tail _ (List.Mem.tail _ (List.Mem.head _)))))) (KR.nil (hS268.im.of_le hl267)))), ?_⟩
                      refine WO.vals [(6, 73, (.agg (cs_mdl_one (⟨p1, p2.Mode⟩ : mdl_one)).toArray))] (by kernel_rfl) (fun _ => by kernel_rfl) ?_
                      refine WO.newSlice (rel := R_mdl_one) (xs := ([(⟨p1, p2.Mode⟩ : mdl_one)] : List mdl_one)) hS268 rfl (by kernel_rfl) rfl 70 2 [(cs_mdl_one (⟨p1, p2.Mode⟩ : mdl_one))] (by kernel_rfl) rfl ((Elr.cons rfl Elr.nil)) (fun C271 w275 hS274 => (KR.cons (hS274.rd (List.Mem.tail _ (List.Mem.tail _ (List.Mem.tail _ (List.Mem.tail _ (List.Mem.head _)))))) (KR.cons (hS274.rd (List.Mem.tail _ (List.Mem.tail _ (List.Mem.tail _ (List.Mem.tail _ (List.Mem.tail _ (List.Mem.head _))))))) (KR.nil (hS274.im.of_le hl267))))) ?_
                      intro a273 C271 w275 hS274 ho272
                      refine WO.tail rfl ?_
                      have hS277 := hS274.front1
                      obtain ⟨x278, hx_x278, hr2⟩ := bind_some hr2
                      obtain ⟨h0_x278, he_x278⟩ := app_some hx_x278
                      refine WO.append (e' := 70) (b := 16) (zs := (cs_mdl_one z_mdl_one).toArray) hS277 h_r269 rfl (by kernel_rfl) rfl (by kernel_rfl) (by kernel_rfl) (by kernel_rfl) rfl rfl rfl rfl ho272.sl (hS277.rd (List.Mem.tail _ (List.Mem.head _))) h0_x278 he_x278 (fun _ _ _ => trivial) ?_
                      intro a279 c280 w281 C282 hS283 ho284
                      have hS285 := hS283.front1
                      have hS286 := hS285.drop
                      refine WO.vals [(9, 76, (.pointer (some ⟨b40, 1, none⟩)))] (by kernel_rfl) (fun _ => by kernel_rfl) ?_
                      obtain ⟨I287, hl288, hS290, hp289⟩ := OwnSl.pub ho284 hS286
                      have hS291 := hS290.front3
                      refine WO.storeBox hS291 rfl (by kernel_rfl) rfl 1 rfl rfl (by kernel_rfl) (by kernel_rfl) (by kernel_rfl) ((cs_mdl_place ({ x39 with queue := x278 }) ({ w_x39 with queue := ⟨a279, c280⟩ })).toArray) (by kernel_rfl) (fun _ _ => trivial) ?_
                      intro w293 hS292
                      refine WO.nil ?_
                      have hk294 : ok_mdl_place I287 ({ x39 with queue := x278 }) ({ w_x39 with queue := ⟨a279, c280⟩ }) := ⟨(RSl.mono h_x39.held (((hl49.trans hl59).trans hl267).trans hl288)), hp289⟩
                      have hS295 := hS292.front3
                      have hS296 := hS295.front3
                      have hS297 := hS296.front3
                      have he := Option.some.inj hr2
                      subst j191
                      refine En.weaken (fr' := [(0, (.pointer (some ⟨b_p0, 0, none⟩))), (5, (.pointer (some ⟨b1, 0, none⟩))), (11, (.pointer (some ⟨b40, 0, none⟩))), (12, (.bool j56))]) (En.round ⟨I287, ({ w_x39 with queue := ⟨a279, c280⟩ }), rfl, (hl267.trans hl288), hS297, hk294⟩) (Sub.cons rfl (Sub.cons rfl (Sub.cons rfl (Sub.cons rfl Sub.nil))))
                  case restj191 =>
                    rintro _ w298 ⟨I193, w_j191, rfl, hl194, hS299, h_j191⟩
                    have he := Option.some.inj hr1
                    subst j78
                    refine En.weaken (fr' := [(0, (.pointer (some ⟨b_p0, 0, none⟩))), (5, (.pointer (some ⟨b1, 0, none⟩))), (11, (.pointer (some ⟨b40, 0, none⟩))), (12, (.bool j56))]) (En.round ⟨I193, w_j191, rfl, hl194, hS299, h_j191⟩) (Sub.cons rfl (Sub.cons rfl (Sub.cons rfl (Sub.cons rfl Sub.nil))))
              case restj78 =>
                rintro _ w300 ⟨I80, w_j78, rfl, hl81, hS301, h_j78⟩
                refine En.next ?_
                refine W.seq ?_
                refine W.region (l := [0, 1, 2, 3, 4]) (by kernel_rfl) ?_
                refine WO.vals [(0, 77, (.pointer (some ⟨b_p0, 0, none⟩))), (1, 78, (.pointer (some ⟨b1, 0, none⟩)))] (by kernel_rfl) (fun _ => by kernel_rfl) ?_
                refine WO.load rfl (by kernel_rfl) (by kernel_rfl) rfl (v := (.string p2.Path)) (fun w' hw' => cell_one ((rd_f (hS301.rd (List.Mem.tail _ (List.Mem.tail _ (List.Mem.head _))))) w' hw') (by kernel_rfl)) ?_
                refine WO.loadN rfl (by kernel_rfl) (by kernel_rfl) rfl ((cs_mdl_place j78 w_j78)) (by kernel_rfl) (fun w' hw' => cells_one ((rd_f (hS301.rd (List.Mem.tail _ (List.Mem.tail _ (List.Mem.tail _ (List.Mem.head _)))))) w' hw') (by kernel_rfl)) ?_
                have hS302 := hS301.front1
                have hS303 := hS302.front1
                obtain ⟨r309, hx_r304, hr⟩ := bind_some hr
                refine WO.call rfl (by kernel_rfl) rfl (f := 55) (args := #[(.pointer (some ⟨b_p0, 0, none⟩)), (.string p2.Path), (.agg (cs_mdl_place j78 w_j78).toArray)]) (by kernel_rfl) (mdl_Locks_set_ok (h_p0.mono ((((hl10.trans hl24).trans hl49).trans hl59).trans hl81)) h_j78 hS303 hx_r304) ?_
                rintro _ w305 ⟨I306, w_r309, rfl, hl307, hS308, h_r309⟩
                refine ⟨_, rfl, trivial, ?_⟩
                refine WO.nil ?_
                refine En.next ?_
                refine W.seq ?_
                refine W.region (l := [0, 1, 2]) (by kernel_rfl) ?_
                refine WO.vals [(0, 82, (.bool j56)), (1, 6, (.bool j56)), (2, 7, (.int .i64 0))] (by kernel_rfl) (fun _ => by kernel_rfl) ?_
                refine WO.nil ?_
                refine En.next ?_
                refine W.ret ?_
                have hS310 := hS308.front2
                have hS311 := hS310.drop
                have hS312 := hS311.front2
                have hS313 := hS312.drop
                have he := Option.some.inj hr
                subst r
                exact En.ret2 rfl (.bool j56) (.int .i64 0) rfl rfl ⟨I306, w_r309, rfl, (((((hl10.trans hl24).trans hl49).trans hl59).trans hl81).trans hl307), hS313, h_r309⟩
theorem sort70_ok {E w : World} {I : Mem} {Os : List Mem} {p0 : List Int} {a_p0 : Option Addr} {c_p0 : Nat} {C_p0 : Mem} (h_p0 : OwnSl 3 1 (RInt .i64) I C_p0 a_p0 c_p0 p0) (hS : St E w I (C_p0 :: Os)) {r : List Int} (hr : sortIO p0 = some r) :
    Calls P 70 #[.slice a_p0 p0.length c_p0] w (fun e w' => ∃ (I' : Mem) (rD0 : Mem), e = .returned (.tuple #[]) ∧ I.Le I' ∧ St E w' I' (rD0 :: Os) ∧ OwnSl 3 1 (RInt .i64) I' rD0 a_p0 c_p0 r ∧ r.length = p0.length) := by
  unfold sortIO at hr
  split at hr
  · rename_i hlen
    injection hr with hr
    subst hr
    refine (sort_own (P := P) (f := 70) (enc := Value.int .i64) (g := id) (gi := id) (rel := RInt .i64) (fun zs => zs.mergeSort fun x y => decide (x ≤ y)) (fun zs => by simp) (fun I cs x => Iff.rfl) (fun z => rfl) (fun blk off cap zs w h1 h2 h3 => AnyM.slices_Sort_int Try.sort70 blk off cap zs w h1 h2 h3) (fun p cap w => AnyM.slices_Sort_int_none Try.sort70 p cap w) h_p0 hS hlen).mono ?_
    rintro e w' ⟨C', rfl, hS', ho⟩
    exact ⟨I, C', rfl, Mem.Le.refl _, hS', by simpa [sortI] using ho, sortI_len _⟩
  · cases hr
noncomputable def slices_Compact_int (p0 : List Int) : Option (List Int) := (bif (decide ((p0.length : Int) < 2)) then some p0 else (loopO (fun (s : Int × (List Int)) => match s with | (s4, s5) => (bif (decide (s4 < (s5.length : Int))) then (idx s5 s4).bind (fun (x12 : Int) => (idx s5 (w64 (s4 - 1))).bind (fun (x13 : Int) => (bif (x12 == x13) then (sub s5 s4 (s5.length : Int)).bind (fun (x14 : List Int) => (loopO (fun (s : Int × Int × (List Int)) => match s with | (s18, s19, s20) => (bif (decide (s19 < ((s20.length - (s4).toNat : Nat) : Int))) then (vidx s20 (s4).toNat s19).bind (fun (x27 : Int) => (vidx s20 (s4).toNat (w64 (s19 - 1))).bind (fun (x28 : Int) => ((bif (x27 != x28) then (vidx s20 (s4).toNat s19).bind (fun (x33 : Int) => (idx s20 s18).bind (fun (x34 : Int) => some ((w64 (s18 + 1)), (s20.set (s18).toNat x33)))) else some (s18, s20))).bind (fun ((s39, s40) : Int × (List Int)) => some (.inl (s39, (w64 (s19 + 1)), s40))))) else some (.inr (s18, s20)))) (s4, 1, s5)).bind (fun ((s44, s45) : Int × (List Int)) => (sub s45 s44 (s45.length : Int)).bind (fun (x46 : List Int) => (sub (s45.take (s44).toNat ++ List.replicate (s45.length - (s44).toNat) 0) 0 s44).bind (fun (x51 : List Int) => some (.inr (.inl x51)))))) else some (.inl ((w64 (s4 + 1)), s5))))) else some (.inr (.inr s5)))) (1, p0)).bind (fun (t : (List Int) ⊕ (List Int)) => match t with | (.inl s54) => some s54 | (.inr s64) => some s64))
set_option maxHeartbeats 1000000 in
theorem slices_Compact_int_ok {E w : World} {I : Mem} {Os : List Mem} {p0 : List Int} {a_p0 : Option Addr} {c_p0 : Nat} {C_p0 : Mem} (h_p0 : OwnSl 3 1 (RInt .i64) I C_p0 a_p0 c_p0 p0) (hS : St E w I ((C_p0) :: Os)) {r : (List Int)} (hr : slices_Compact_int p0 = some r) :
    Calls P 71 #[(.slice a_p0 p0.length c_p0)] w (fun e w' => ∃ (I' : Mem) (ra0 : Option Addr) (rc0 : Nat) (rC0 : Mem), e = .returned (.slice ra0 r.length rc0) ∧ I.Le I' ∧ St E w' I' (rC0 :: Os) ∧ OwnSl 3 1 (RInt .i64) I' rC0 ra0 rc0 r) := by
  refine calls_W (args := [(.slice a_p0 p0.length c_p0)]) (fn := Try.f71) rfl rfl rfl ?_
  unfold slices_Compact_int at hr
  refine W.seq ?_
  refine W.region (l := [0]) (by kernel_rfl) ?_
  refine WO.vals [(0, 2, (.slice none 0 0))] (by kernel_rfl) (fun _ => by kernel_rfl) ?_
  refine WO.nil ?_
  refine En.next ?_
  refine W.seq ?_
  refine W.seq ?_
  refine W.region (l := [0, 1, 2]) (by kernel_rfl) ?_
  refine WO.vals [(0, 6, (.slice a_p0 p0.length c_p0)), (1, 7, (.int .i64 (p0.length : Int))), (2, 8, (.bool (decide ((p0.length : Int) < 2))))] (by kernel_rfl) (fun _ => by kernel_rfl) ?_
  refine WO.nil ?_
  refine En.next ?_
  refine W.cond (b := (decide ((p0.length : Int) < 2))) rfl rfl (fun hc => ?_) (fun hc => ?_)
  · replace hr := cond_t hc hr
    refine W.seq ?_
    refine W.region (l := [0, 1]) (by kernel_rfl) ?_
    refine WO.vals [(0, 9, (.slice a_p0 p0.length c_p0)), (1, 2, (.slice a_p0 p0.length c_p0))] (by kernel_rfl) (fun _ => by kernel_rfl) ?_
    refine WO.nil ?_
    refine En.next ?_
    refine W.ret ?_
    refine En.nx_ret ?_
    have he := Option.some.inj hr
    subst r
    exact En.ret1 rfl (.slice a_p0 p0.length c_p0) rfl ⟨I, a_p0, c_p0, C_p0, rfl, Mem.Le.refl _, hS, h_p0⟩
  · replace hr := cond_f hc hr
    refine W.skip ?_
    refine En.next ?_
    refine W.seq ?_
    refine W.seq ?_
    refine W.region (l := [0]) (by kernel_rfl) ?_
    refine WO.vals [(0, 3, (.int .i64 1))] (by kernel_rfl) (fun _ => by kernel_rfl) ?_
    refine WO.nil ?_
    refine En.next ?_
    refine W.block ?_
    obtain ⟨t1, hloop6, hr⟩ := bind_some hr
    refine W.weaken (fr' := [(0, (.slice a_p0 p0.length c_p0)), (3, (.int .i64 1))]) (W.loopO hloop6 (fun (s : Int × (List Int)) fr w => match s with | (s4, s5) => ∃ (I2 : Mem), ∃ (C_s5 : Mem), fr = [(0, (.slice a_p0 s5.length c_p0)), (3, (.int .i64 s4))] ∧ I.Le I2 ∧ St E w I2 ((C_s5) :: Os) ∧ OwnSl 3 1 (RInt .i64) I2 C_s5 a_p0 c_p0 s5) ⟨I, C_p0, rfl, Mem.Le.refl _, hS, h_p0⟩ ?_) (Sub.cons rfl (Sub.cons rfl Sub.nil))
    rintro ⟨s4, s5⟩ _ w7 ⟨I2, C_s5, rfl, hl3, hS8, h_s5⟩ x9 hr1 hext1
    refine W.seq ?_
    refine W.seq ?_
    refine W.region (l := [0, 1, 2, 3]) (by kernel_rfl) ?_
    refine WO.vals [(0, 10, (.int .i64 s4)), (1, 11, (.slice a_p0 s5.length c_p0)), (2, 12, (.int .i64 (s5.length : Int))), (3, 13, (.bool (decide (s4 < (s5.length : Int)))))] (by kernel_rfl) (fun _ => by kernel_rfl) ?_
    refine WO.nil ?_
    refine En.next ?_
    refine W.cond (b := (decide (s4 < (s5.length : Int)))) rfl rfl (fun hc => ?_) (fun hc => ?_)
    · replace hr1 := cond_t hc hr1
      refine W.skip ?_
      refine En.next ?_
      refine W.seq ?_
      refine W.block ?_
      refine W.seq ?_
      have hS10 := hS8.drew
      refine W.draw (l := [0, 1, 2, 3, 4, 5, 6, 7, 8, 9]) (by kernel_rfl) 9 (KR I2 [C_s5]) qR (.back (by kernel_rfl)) (by kernel_rfl) (KR.cons (hS10.rd (List.Mem.head _)) (KR.nil hS10.im)) ?_
      generalize World.drew _ = w11 at *
      refine WO.vals [(0, 16, (.slice a_p0 s5.length c_p0)), (1, 17, (.int .i64 s4))] (by kernel_rfl) (fun _ => by kernel_rfl) ?_
      obtain ⟨x12, hx_x12, hr1⟩ := bind_some hr1
      obtain ⟨h0_x12, h1_x12, hx_x12⟩ := idx_some hx_x12
      obtain ⟨ha_x12, cs_x12, hn_x12, hr_x12, hc_x12⟩ := (h_s5.sl).el _ _ hx_x12
      obtain rfl := hr_x12
      refine WO.indexAddr (e := 3) (sz := 1) rfl (by kernel_rfl) (by kernel_rfl) (by kernel_rfl) rfl ha_x12 rfl h0_x12 h1_x12 ?_
      refine WO.load rfl (by kernel_rfl) (by kernel_rfl) rfl (v := (.int .i64 x12)) (fun w' hw' => hc_x12.cell0 (by kernel_rfl) ((rd_c (List.Mem.head _) (hS10.rd (List.Mem.head _))) w' hw')) ?_
      refine WO.vals [(4, 20, (.slice a_p0 s5.length c_p0)), (5, 21, (.int .i64 s4)), (6, 22, (.int .i64 (w64 (s4 - 1))))] (by kernel_rfl) (fun _ => by kernel_rfl) ?_
      obtain ⟨x13, hx_x13, hr1⟩ := bind_some hr1
      obtain ⟨h0_x13, h1_x13, hx_x13⟩ := idx_some hx_x13
      obtain ⟨ha_x13, cs_x13, hn_x13, hr_x13, hc_x13⟩ := (h_s5.sl).el _ _ hx_x13
      obtain rfl := hr_x13
      refine WO.indexAddr (e := 3) (sz := 1) rfl (by kernel_rfl) (by kernel_rfl) (by kernel_rfl) rfl ha_x13 rfl h0_x13 h1_x13 ?_
      refine WO.load rfl (by kernel_rfl) (by kernel_rfl) rfl (v := (.int .i64 x13)) (fun w' hw' => hc_x13.cell0 (by kernel_rfl) ((rd_c (List.Mem.head _) (hS10.rd (List.Mem.head _))) w' hw')) ?_
      refine WO.tail rfl ?_
      refine WO.vals [(9, 25, (.bool (x12 == x13)))] (by kernel_rfl) (fun _ => by kernel_rfl) ?_
      refine WO.nil ?_
      refine En.next ?_
      refine W.cond (b := (x12 == x13)) rfl rfl (fun hc => ?_) (fun hc => ?_)
      · replace hr1 := cond_t hc hr1
        refine W.seq ?_
        refine W.region (l := [0, 1, 2, 3]) (by kernel_rfl) ?_
        refine WO.vals [(0, 26, (.slice a_p0 s5.length c_p0)), (1, 27, (.int .i64 s4))] (by kernel_rfl) (fun _ => by kernel_rfl) ?_
        obtain ⟨x14, hx_x14, hr1⟩ := bind_some hr1
        obtain ⟨h0_x14, h1_x14, h2_x14, he_x14⟩ := sub_some hx_x14
        have hl_x14 : ((s5.length : Int) : Int) ≤ (c_p0 : Int) := Int.le_trans h2_x14 (Int.ofNat_le.2 (h_s5).sl.le)
        refine WO.slice (e := 3) (sz := 1) rfl (by kernel_rfl) (by kernel_rfl) (by kernel_rfl) rfl (s4 : Int) ((s5.length : Int) : Int) h0_x14 (.inr ⟨_, _, rfl, rfl⟩) (.inl ⟨rfl, rfl⟩) h1_x14 hl_x14 ?_
        refine WO.reslot 28 rfl (show _ = Value.slice (subA a_p0 c_p0 (s4).toNat 1) (s5.length - (s4).toNat) (c_p0 - (s4).toNat) from rfl) ?_
        refine WO.vals [(3, 4, (.slice (subA a_p0 c_p0 (s4).toNat 1) (s5.length - (s4).toNat) (c_p0 - (s4).toNat)))] (by kernel_rfl) (fun _ => by kernel_rfl) ?_
        refine WO.nil ?_
        refine En.next ?_
        refine W.seq ?_
        refine W.seq ?_
        refine W.region (l := [0]) (by kernel_rfl) ?_
        refine WO.vals [(0, 5, (.int .i64 1))] (by kernel_rfl) (fun _ => by kernel_rfl) ?_
        refine WO.nil ?_
        refine En.next ?_
        refine W.block ?_
        obtain ⟨t15, hloop21, hr1⟩ := bind_some hr1
        refine W.weaken (fr' := [(0, (.slice a_p0 s5.length c_p0)), (3, (.int .i64 s4)), (4, (.slice (subA a_p0 c_p0 (s4).toNat 1) (s5.length - (s4).toNat) (c_p0 - (s4).toNat))), (5, (.int .i64 1))]) (W.loopO hloop21 (fun (s : Int × Int × (List Int)) fr w => match s with | (s18, s19, s20) => ∃ (I16 : Mem), ∃ (C_s20 : Mem), fr = [(0, (.slice a_p0 s20.length c_p0)), (3, (.int .i64 s18)), (4, (.slice (subA a_p0 c_p0 (s4).toNat 1) (s20.length - (s4).toNat) (c_p0 - (s4).toNat))), (5, (.int .i64 s19))] ∧ I2.Le I16 ∧ St E w I16 ((C_s20) :: Os) ∧ OwnSl 3 1 (RInt .i64) I16 C_s20 a_p0 c_p0 s20) ⟨I2, C_s5, rfl, Mem.Le.refl _, hS10, h_s5⟩ ?_) (Sub.cons rfl (Sub.cons rfl (Sub.cons rfl (Sub.cons rfl Sub.nil))))
        rintro ⟨s18, s19, s20⟩ _ w22 ⟨I16, C_s20, rfl, hl17, hS23, h_s20⟩ x24 hr2 hext15
        refine W.seq ?_
        refine W.seq ?_
        refine W.region (l := [0, 1, 2, 3]) (by kernel_rfl) ?_
        refine WO.vals [(0, 29, (.int .i64 s19)), (1, 30, (.slice (subA a_p0 c_p0 (s4).toNat 1) (s20.length - (s4).toNat) (c_p0 - (s4).toNat))), (2, 31, (.int .i64 ((s20.length - (s4).toNat : Nat) : Int))), (3, 32, (.bool (decide (s19 < ((s20.length - (s4).toNat : Nat) : Int)))))] (by kernel_rfl) (fun _ => by kernel_rfl) ?_
        refine WO.nil ?_
        refine En.next ?_
        refine W.cond (b := (decide (s19 < ((s20.length - (s4).toNat : Nat) : Int)))) rfl rfl (fun hc => ?_) (fun hc => ?_)
        · replace hr2 := cond_t hc hr2
          refine W.skip ?_
          refine En.next ?_
          refine W.seq ?_
          refine W.block ?_
          refine W.seq ?_
          have hS25 := hS23.drew
          refine W.draw (l := [0, 1, 2, 3, 4, 5, 6, 7, 8, 9]) (by kernel_rfl) 9 (KR I16 [C_s20]) qR (.back (by kernel_rfl)) (by kernel_rfl) (KR.cons (hS25.rd (List.Mem.head _)) (KR.nil hS25.im)) ?_
          generalize World.drew _ = w26 at *
          refine WO.vals [(0, 35, (.slice (subA a_p0 c_p0 (s4).toNat 1) (s20.length - (s4).toNat) (c_p0 - (s4).toNat))), (1, 36, (.int .i64 s19))] (by kernel_rfl) (fun _ => by kernel_rfl) ?_
          obtain ⟨x27, hx_x27, hr2⟩ := bind_some hr2
          obtain ⟨hg_x27, hx_x27⟩ := vidx_some hx_x27
          have hw_x27 := OwnSl.view h_s20 hg_x27 hx_x27
          obtain ⟨h0_x27, h1_x27, hx_x27⟩ := idx_some hx_x27
          obtain ⟨ha_x27, cs_x27, hn_x27, hr_x27, hc_x27⟩ := (h_s20.sl).el _ _ hx_x27
          obtain rfl := hr_x27
          refine WO.indexAddr (e := 3) (sz := 1) rfl (by kernel_rfl) (by kernel_rfl) (by kernel_rfl) rfl hw_x27.1 rfl hg_x27 hw_x27.2.1 ?_
          refine WO.reslot 37 rfl hw_x27.2.2 ?_
          refine WO.load rfl (by kernel_rfl) (by kernel_rfl) rfl (v := (.int .i64 x27)) (fun w' hw' => hc_x27.cell0 (by kernel_rfl) ((rd_c (List.Mem.head _) (hS25.rd (List.Mem.head _))) w' hw')) ?_
          refine WO.vals [(4, 39, (.slice (subA a_p0 c_p0 (s4).toNat 1) (s20.length - (s4).toNat) (c_p0 - (s4).toNat))), (5, 40, (.int .i64 s19)), (6, 41, (.int .i64 (w64 (s19 - 1))))] (by kernel_rfl) (fun _ => by kernel_rfl) ?_
          obtain ⟨x28, hx_x28, hr2⟩ := bind_some hr2
          obtain ⟨hg_x28, hx_x28⟩ := vidx_some hx_x28
          have hw_x28 := OwnSl.view h_s20 hg_x28 hx_x28
          obtain ⟨h0_x28, h1_x28, hx_x28⟩ := idx_some hx_x28
          obtain ⟨ha_x28, cs_x28, hn_x28, hr_x28, hc_x28⟩ := (h_s20.sl).el _ _ hx_x28
          obtain rfl := hr_x28
          refine WO.indexAddr (e := 3) (sz := 1) rfl (by kernel_rfl) (by kernel_rfl) (by kernel_rfl) rfl hw_x28.1 rfl hg_x28 hw_x28.2.1 ?_
          refine WO.reslot 42 rfl hw_x28.2.2 ?_
          refine WO.load rfl (by kernel_rfl) (by kernel_rfl) rfl (v := (.int .i64 x28)) (fun w' hw' => hc_x28.cell0 (by kernel_rfl) ((rd_c (List.Mem.head _) (hS25.rd (List.Mem.head _))) w' hw')) ?_
          refine WO.tail rfl ?_
          refine WO.vals [(9, 44, (.bool (x27 != x28)))] (by kernel_rfl) (fun _ => by kernel_rfl) ?_
          refine WO.nil ?_
          refine En.next ?_
          obtain ⟨j29, hr3, hr2⟩ := bind_some hr2
          refine W.join (J := (fun fr w => ∃ (s39 : Int), ∃ (s40 : List Int), ∃ (I31 : Mem), ∃ (C_s40 : Mem), (s39, s40) = j29 ∧ fr = [(0, (.slice a_p0 s40.length c_p0)), (3, (.int .i64 s39)), (4, (.slice (subA a_p0 c_p0 (s4).toNat 1) (s40.length - (s4).toNat) (c_p0 - (s4).toNat))), (5, (.int .i64 s19))] ∧ I16.Le I31 ∧ St E w I31 ((C_s40) :: Os) ∧ OwnSl 3 1 (RInt .i64) I31 C_s40 a_p0 c_p0 s40)) ?restj29 ?waysj29
          case waysj29 =>
            refine W.cond (b := (x27 != x28)) rfl rfl (fun hc => ?_) (fun hc => ?_)
            · replace hr3 := cond_t hc hr3
              refine W.seq ?_
              refine W.region (l := [0, 1, 2, 3, 4, 5, 6, 7]) (by kernel_rfl) ?_
              refine WO.vals [(0, 45, (.slice a_p0 s20.length c_p0)), (1, 46, (.int .i64 s18)), (2, 47, (.slice (subA a_p0 c_p0 (s4).toNat 1) (s20.length - (s4).toNat) (c_p0 - (s4).toNat))), (3, 48, (.int .i64 s19))] (by kernel_rfl) (fun _ => by kernel_rfl) ?_
              obtain ⟨x33, hx_x33, hr3⟩ := bind_some hr3
              obtain ⟨hg_x33, hx_x33⟩ := vidx_some hx_x33
              have hw_x33 := OwnSl.view h_s20 hg_x33 hx_x33
              obtain ⟨h0_x33, h1_x33, hx_x33⟩ := idx_some hx_x33
              obtain ⟨ha_x33, cs_x33, hn_x33, hr_x33, hc_x33⟩ := (h_s20.sl).el _ _ hx_x33
              obtain rfl := hr_x33
              refine WO.indexAddr (e := 3) (sz := 1) rfl (by kernel_rfl) (by kernel_rfl) (by kernel_rfl) rfl hw_x33.1 rfl hg_x33 hw_x33.2.1 ?_
              refine WO.reslot 49 rfl hw_x33.2.2 ?_
              refine WO.load rfl (by kernel_rfl) (by kernel_rfl) rfl (v := (.int .i64 x33)) (fun w' hw' => hc_x33.cell0 (by kernel_rfl) ((rd_f (hS25.rd (List.Mem.head _))) w' hw')) ?_
              obtain ⟨x34, hx_x34, hr3⟩ := bind_some hr3
              obtain ⟨h0_x34, h1_x34, hx_x34⟩ := idx_some hx_x34
              obtain ⟨ha_x34, cs_x34, hn_x34, hr_x34, hc_x34⟩ := (h_s20.sl).el _ _ hx_x34
              obtain rfl := hr_x34
              refine WO.indexAddr (e := 3) (sz := 1) rfl (by kernel_rfl) (by kernel_rfl) (by kernel_rfl) rfl ha_x34 rfl h0_x34 h1_x34 ?_
              refine WO.storeOwn hS25 h_s20 rfl (by kernel_rfl) rfl hx_x34 (u' := x33) 0 rfl rfl (by kernel_rfl) rfl rfl (fun cs hrel => (by obtain rfl := hrel; exact rfl)) (fun _ _ _ => trivial) ?_
              intro w36 C37 hS35 ho38
              refine WO.reslot 0 rfl (show Value.slice a_p0 s20.length c_p0 = Value.slice a_p0 (s20.set (s18).toNat x33).length c_p0 by simp only [List.length_set]) ?_
              refine WO.reslot 4 rfl (show Value.slice (subA a_p0 c_p0 (s4).toNat 1) (s20.length - (s4).toNat) (c_p0 - (s4).toNat) = Value.slice (subA a_p0 c_p0 (s4).toNat 1) ((s20.set (s18).toNat x33).length - (s4).toNat) (c_p0 - (s4).toNat) by simp only [List.length_set]) ?_
              refine WO.reslot 30 rfl (show Value.slice (subA a_p0 c_p0 (s4).toNat 1) (s20.length - (s4).toNat) (c_p0 - (s4).toNat) = Value.slice (subA a_p0 c_p0 (s4).toNat 1) ((s20.set (s18).toNat x33).length - (s4).toNat) (c_p0 - (s4).toNat) by simp only [List.length_set]) ?_
              refine WO.reslot 35 rfl (show Value.slice (subA a_p0 c_p0 (s4).toNat 1) (s20.length - (s4).toNat) (c_p0 - (s4).toNat) = Value.slice (subA a_p0 c_p0 (s4).toNat 1) ((s20.set (s18).toNat x33).length - (s4).toNat) (c_p0 - (s4).toNat) by simp only [List.length_set]) ?_
              refine WO.reslot 39 rfl (show Value.slice (subA a_p0 c_p0 (s4).toNat 1) (s20.length - (s4).toNat) (c_p0 - (s4).toNat) = Value.slice (subA a_p0 c_p0 (s4).toNat 1) ((s20.set (s18).toNat x33).length - (s4).toNat) (c_p0 - (s4).toNat) by simp only [List.length_set]) ?_
              refine WO.reslot 47 rfl (show Value.slice (subA a_p0 c_p0 (s4).toNat 1) (s20.length - (s4).toNat) (c_p0 - (s4).toNat) = Value.slice (subA a_p0 c_p0 (s4).toNat 1) ((s20.set (s18).toNat x33).length - (s4).toNat) (c_p0 - (s4).toNat) by simp only [List.length_set]) ?_
              refine WO.nil ?_
              refine En.next ?_
              refine W.region (l := [0, 1, 2]) (by kernel_rfl) ?_
              refine WO.vals [(0, 52, (.int .i64 s18)), (1, 53, (.int .i64 (w64 (s18 + 1)))), (2, 3, (.int .i64 (w64 (s18 + 1))))] (by kernel_rfl) (fun _ => by kernel_rfl) ?_
              refine WO.nil ?_
              refine En.weaken (fr' := [(0, (.slice a_p0 (s20.set (s18).toNat x33).length c_p0)), (3, (.int .i64 (w64 (s18 + 1)))), (4, (.slice (subA a_p0 c_p0 (s4).toNat 1) ((s20.set (s18).toNat x33).length - (s4).toNat) (c_p0 - (s4).toNat))), (5, (.int .i64 s19))]) (En.round ⟨(w64 (s18 + 1)), (s20.set (s18).toNat x33), I16, C37, Option.some.inj hr3, rfl, Mem.Le.refl _, hS35, ho38⟩) (Sub.cons rfl (Sub.cons rfl (Sub.cons rfl (Sub.cons rfl Sub.nil))))
            · replace hr3 := cond_f hc hr3
              refine W.skip ?_
              refine En.weaken (fr' := [(0, (.slice a_p0 s20.length c_p0)), (3, (.int .i64 s18)), (4, (.slice (subA a_p0 c_p0 (s4).toNat 1) (s20.length - (s4).toNat) (c_p0 - (s4).toNat))), (5, (.int .i64 s19))]) (En.round ⟨s18, s20, I16, C_s20, Option.some.inj hr3, rfl, Mem.Le.refl _, hS25, h_s20⟩) (Sub.cons rfl (Sub.cons rfl (Sub.cons rfl (Sub.cons rfl Sub.nil))))
          case restj29 =>
            rintro _ w41 ⟨s39, s40, I31, C_s40, rfl, rfl, hl32, hS42, h_s40⟩
            refine En.in_normal ?_
            refine En.next ?_
            refine W.region (l := [0, 1, 2]) (by kernel_rfl) ?_
            refine WO.vals [(0, 33, (.int .i64 s19)), (1, 34, (.int .i64 (w64 (s19 + 1)))), (2, 5, (.int .i64 (w64 (s19 + 1))))] (by kernel_rfl) (fun _ => by kernel_rfl) ?_
            refine WO.nil ?_
            refine En.weaken (fr' := [(0, (.slice a_p0 s40.length c_p0)), (3, (.int .i64 s39)), (4, (.slice (subA a_p0 c_p0 (s4).toNat 1) (s40.length - (s4).toNat) (c_p0 - (s4).toNat))), (5, (.int .i64 (w64 (s19 + 1))))]) (En.round ⟨(s39, (w64 (s19 + 1)), s40), (Option.some.inj hr2).symm, I31, C_s40, rfl, (hl17.trans hl32), hS42, h_s40⟩) (Sub.cons rfl (Sub.cons rfl (Sub.cons rfl (Sub.cons rfl Sub.nil))))
        · replace hr2 := cond_f hc hr2
          refine W.exit ?_
          refine En.nx_exit ?_
          refine En.rd_exit ?_
          have ht := hext15 _ (Option.some.inj hr2).symm
          subst t15
          refine En.in_hit ?_
          refine En.next ?_
          refine W.seq ?_
          refine W.region (l := [0, 1, 2, 3]) (by kernel_rfl) ?_
          refine WO.vals [(0, 54, (.slice a_p0 s20.length c_p0)), (1, 55, (.int .i64 s18))] (by kernel_rfl) (fun _ => by kernel_rfl) ?_
          obtain ⟨x56, hx_x56, hr1⟩ := bind_some hr1
          obtain ⟨h0_x56, h1_x56, h2_x56, he_x56⟩ := sub_some hx_x56
          have hl_x56 : ((s20.length : Int) : Int) ≤ (c_p0 : Int) := Int.le_trans h2_x56 (Int.ofNat_le.2 (h_s20).sl.le)
          refine WO.slice (e := 3) (sz := 1) rfl (by kernel_rfl) (by kernel_rfl) (by kernel_rfl) rfl (s18 : Int) ((s20.length : Int) : Int) h0_x56 (.inr ⟨_, _, rfl, rfl⟩) (.inl ⟨rfl, rfl⟩) h1_x56 hl_x56 ?_
          refine WO.reslot 56 rfl (show _ = Value.slice (subA a_p0 c_p0 (s18).toNat 1) (s20.length - (s18).toNat) (c_p0 - (s18).toNat) from rfl) ?_
          have hlo_C57 : (s18).toNat ≤ s20.length := by first | omega | (simp only [List.length_set]; omega)
          refine WO.clear hS23 h_s20 (t := 32) (e := 3) (by kernel_rfl) (zs := [(.int .i64 0)]) (by kernel_rfl) (z0 := 0) rfl (by kernel_rfl) (by kernel_rfl) (by kernel_rfl) rfl (by kernel_rfl) rfl (lo := (s18).toNat) hlo_C57 rfl (fun _ _ _ => trivial) ?_
          intro w59 C57 hS58 ho60
          refine WO.reslot 0 rfl (show Value.slice a_p0 s20.length c_p0 = Value.slice a_p0 (s20.take (s18).toNat ++ List.replicate (s20.length - (s18).toNat) 0).length c_p0 by congr 1; simp only [List.length_append, List.length_take, List.length_replicate]; omega) ?_
          refine WO.reslot 54 rfl (show Value.slice a_p0 s20.length c_p0 = Value.slice a_p0 (s20.take (s18).toNat ++ List.replicate (s20.length - (s18).toNat) 0).length c_p0 by congr 1; simp only [List.length_append, List.length_take, List.length_replicate]; omega) ?_
          refine WO.nil ?_
          refine En.next ?_
          refine W.seq ?_
          refine W.region (l := [0, 1, 2, 3]) (by kernel_rfl) ?_
          refine WO.vals [(0, 57, (.slice a_p0 (s20.take (s18).toNat ++ List.replicate (s20.length - (s18).toNat) 0).length c_p0)), (1, 58, (.int .i64 s18))] (by kernel_rfl) (fun _ => by kernel_rfl) ?_
          obtain ⟨x61, hx_x61, hr1⟩ := bind_some hr1
          obtain ⟨h0_x61, h1_x61, h2_x61, he_x61⟩ := sub_some hx_x61
          have hl_x61 : (s18 : Int) ≤ (c_p0 : Int) := Int.le_trans h2_x61 (Int.ofNat_le.2 (ho60).sl.le)
          refine WO.slice (e := 3) (sz := 1) rfl (by kernel_rfl) (by kernel_rfl) (by kernel_rfl) rfl (0 : Int) (s18 : Int) h0_x61 (.inl ⟨rfl, rfl⟩) (.inr ⟨_, _, rfl, rfl⟩) h1_x61 hl_x61 ?_
          obtain ⟨ho62, ev_x61⟩ := OwnSl.pre ho60 (Int.le_trans h0_x61 h1_x61) h2_x61 he_x61
          refine WO.reslot 59 rfl ev_x61 ?_
          refine WO.vals [(3, 2, (.slice a_p0 x61.length c_p0))] (by kernel_rfl) (fun _ => by kernel_rfl) ?_
          refine WO.nil ?_
          refine En.next ?_
          refine W.ret ?_
          refine En.in_ret ?_
          refine En.nx_ret ?_
          refine En.rd_ret ?_
          have ht := hext1 _ (Option.some.inj hr1).symm
          subst t1
          refine En.in_ret ?_
          refine En.nx_ret ?_
          have he := Option.some.inj hr
          subst r
          exact En.ret1 rfl (.slice a_p0 x61.length c_p0) rfl ⟨I16, a_p0, c_p0, C57, rfl, (hl3.trans hl17), hS58, ho62⟩
      · replace hr1 := cond_f hc hr1
        refine W.skip ?_
        refine En.in_normal ?_
        refine En.next ?_
        refine W.region (l := [0, 1, 2]) (by kernel_rfl) ?_
        refine WO.vals [(0, 14, (.int .i64 s4)), (1, 15, (.int .i64 (w64 (s4 + 1)))), (2, 3, (.int .i64 (w64 (s4 + 1))))] (by kernel_rfl) (fun _ => by kernel_rfl) ?_
        refine WO.nil ?_
        refine En.weaken (fr' := [(0, (.slice a_p0 s5.length c_p0)), (3, (.int .i64 (w64 (s4 + 1))))]) (En.round ⟨((w64 (s4 + 1)), s5), (Option.some.inj hr1).symm, I2, C_s5, rfl, hl3, hS10, h_s5⟩) (Sub.cons rfl (Sub.cons rfl Sub.nil))
    · replace hr1 := cond_f hc hr1
      refine W.exit ?_
      refine En.nx_exit ?_
      refine En.rd_exit ?_
      have ht := hext1 _ (Option.some.inj hr1).symm
      subst t1
      refine En.in_hit ?_
      refine En.next ?_
      refine W.seq ?_
      refine W.region (l := [0, 1]) (by kernel_rfl) ?_
      refine WO.vals [(0, 60, (.slice a_p0 s5.length c_p0)), (1, 2, (.slice a_p0 s5.length c_p0))] (by kernel_rfl) (fun _ => by kernel_rfl) ?_
      refine WO.nil ?_
      refine En.next ?_
      refine W.ret ?_
      have he := Option.some.inj hr
      subst r
      exact En.ret1 rfl (.slice a_p0 s5.length c_p0) rfl ⟨I2, a_p0, c_p0, C_s5, rfl, hl3, hS8, h_s5⟩
noncomputable def mdl_whos (p0 : List mdl_one) : Option (List Int) := (forE (fun (i5 : Nat) => fun (s4 : List Int) => (idx p0 (i5 : Int)).bind (fun (x14 : mdl_one) => (app 8 s4 ([x14.who] : List Int)).bind (fun (x29 : List Int) => some x29))) p0.length 0 ([] : List Int)).bind (fun (s4 : (List Int)) => (sortIO s4).bind (fun (r47 : List Int) => (slices_Compact_int r47).bind (fun (r53 : List Int) => some r53)))
set_option maxHeartbeats 1000000 in
theorem mdl_whos_ok {E w : World} {I : Mem} {Os : List Mem} {p0 : List mdl_one} {a_p0 : Option Addr} {c_p0 : Nat} (h_p0 : RSl 2 R_mdl_one I a_p0 c_p0 p0) (hS : St E w I Os) {r : (List Int)} (hr : mdl_whos p0 = some r) :
    Calls P 56 #[(.slice a_p0 p0.length c_p0)] w (fun e w' => ∃ (I' : Mem) (ra0 : Option Addr) (rc0 : Nat), e = .returned (.slice ra0 r.length rc0) ∧ I.Le I' ∧ St E w' I' Os ∧ RSl 1 (RInt .i64) I' ra0 rc0 r) := by
  refine calls_W (args := [(.slice a_p0 p0.length c_p0)]) (fn := Try.f56) rfl rfl rfl ?_
  unfold mdl_whos at hr
  refine W.seq ?_
  refine W.region (l := [0]) (by kernel_rfl) ?_
  refine WO.vals [(0, 2, (.slice none 0 0))] (by kernel_rfl) (fun _ => by kernel_rfl) ?_
  refine WO.nil ?_
  refine En.next ?_
  refine W.seq ?_
  refine W.region (l := [0]) (by kernel_rfl) ?_
  refine WO.vals [(0, 3, (.slice none 0 0))] (by kernel_rfl) (fun _ => by kernel_rfl) ?_
  refine WO.nil ?_
  refine En.next ?_
  refine W.seq ?_
  refine W.seq ?_
  refine W.region (l := [0, 1, 2]) (by kernel_rfl) ?_
  refine WO.vals [(0, 6, (.slice a_p0 p0.length c_p0)), (1, 7, (.int .i64 (p0.length : Int))), (2, 8, (.int .i64 0))] (by kernel_rfl) (fun _ => by kernel_rfl) ?_
  refine WO.nil ?_
  refine En.next ?_
  refine W.block ?_
  obtain ⟨s4, hloop6, hr⟩ := bind_some hr
  have hS8 := hS.no
  have hlt12 := (h_p0).len_lt
  refine W.weaken (fr' := [(3, (.slice none ([] : List Int).length 0)), (6, (.slice a_p0 p0.length c_p0)), (7, (.int .i64 (p0.length : Int))), (8, (.int .i64 ((0 : Nat) : Int)))]) (W.forE (m := p0.length) hloop6 (fun (i5 : Nat) => fun (s4 : List Int) fr w => ∃ (I2 : Mem), ∃ (a_s4 : Option Addr), ∃ (c_s4 : Nat), ∃ (C_s4 : Mem), fr = [(3, (.slice a_s4 s4.length c_s4)), (6, (.slice a_p0 p0.length c_p0)), (7, (.int .i64 (p0.length : Int))), (8, (.int .i64 (i5 : Int)))] ∧ I.Le I2 ∧ St E w I2 ((C_s4) :: Os) ∧ OwnSl 3 1 (RInt .i64) I2 C_s4 a_s4 c_s4 s4) ⟨I, none, 0, Mem.no, rfl, Mem.Le.refl _, hS8, OwnSl.nil⟩ ?roundt1 ?lastt1) (Sub.cons rfl (Sub.cons rfl (Sub.cons rfl (Sub.cons rfl Sub.nil))))
  case roundt1 =>
    rintro i5 s4 _ w9 hi13 ⟨I2, a_s4, c_s4, C_s4, rfl, hl3, hS10, h_s4⟩ x11 hr1
    refine W.seq ?_
    refine W.region (l := [0]) (by kernel_rfl) ?_
    refine WO.vals [(0, 9, (.bool (decide ((i5 : Int) < (p0.length : Int)))))] (by kernel_rfl) (fun _ => by kernel_rfl) ?_
    refine WO.nil ?_
    refine En.next ?_
    refine W.seq ?_
    refine W.cond (b := (decide ((i5 : Int) < (p0.length : Int)))) rfl rfl (fun hc => ?_) (fun hc => ?_)
    rotate_left
    · exact absurd hc (by first | (simp; done) | (simp; omega))
    clear hc
    refine W.skip ?_
    refine En.next ?_
    refine W.seq ?_
    refine W.block ?_
    refine W.seq ?_
    refine W.region (l := [0, 1, 2, 3]) (by kernel_rfl) ?_
    obtain ⟨x14, hx_x14, hr1⟩ := bind_some hr1
    obtain ⟨h0_x14, h1_x14, hx_x14⟩ := idx_some hx_x14
    obtain ⟨ha_x14, cs_x14, hn_x14, hr_x14, hc_x14⟩ := ((RSl.mono h_p0 hl3)).el _ _ hx_x14
    obtain rfl := hr_x14
    refine WO.indexAddr (e := 70) (sz := 2) rfl (by kernel_rfl) (by kernel_rfl) (by kernel_rfl) rfl ha_x14 rfl h0_x14 h1_x14 ?_
    refine WO.loadN rfl (by kernel_rfl) (by kernel_rfl) rfl ((cs_mdl_one x14)) (by kernel_rfl) (fun w' hw' => hc_x14.cells (k := 0) (by kernel_rfl) rfl ((rd_f hS10.im) w' hw')) ?_
    refine WO.new hS10 rfl (by kernel_rfl) rfl (.cells (cs_mdl_one z_mdl_one).toArray 70 (0, 0)) (fun b => .pointer (some ⟨b, 0, none⟩)) (by kernel_rfl) (fun _ _ _ => trivial) ?_
    intro b15 w18 hS17
    refine WO.storeBox hS17 rfl (by kernel_rfl) rfl 0 rfl rfl (by kernel_rfl) (by kernel_rfl) (by kernel_rfl) ((cs_mdl_one x14).toArray) (by kernel_rfl) (fun _ _ => trivial) ?_
    intro w20 hS19
    refine WO.nil ?_
    refine En.next ?_
    refine W.region (l := [0, 1, 2, 3, 4, 5]) (by kernel_rfl) ?_
    refine WO.vals [(0, 12, (.slice a_s4 s4.length c_s4)), (1, 13, (.pointer (some ⟨b15, 0, none⟩)))] (by kernel_rfl) (fun _ => by kernel_rfl) ?_
    refine WO.load rfl (by kernel_rfl) (by kernel_rfl) rfl (v := (.int .i64 x14.who)) (fun w' hw' => cell_one ((rd_f (hS19.rd (List.Mem.head _))) w' hw') (by kernel_rfl)) ?_
    refine WO.newSlice (rel := (RInt .i64)) (xs := ([x14.who] : List Int)) hS19 rfl (by kernel_rfl) rfl 3 1 [[(.int .i64 x14.who)]] (by kernel_rfl) rfl ((Elr.cons rfl Elr.nil)) (fun _ _ _ => trivial) ?_
    intro a24 C22 w26 hS25 ho23
    have hS28 := hS25.front2
    obtain ⟨x29, hx_x29, hr1⟩ := bind_some hr1
    obtain ⟨h0_x29, he_x29⟩ := app_some hx_x29
    refine WO.append (e' := 3) (b := 8) (zs := #[(.int .i64 0)]) hS28 h_s4 rfl (by kernel_rfl) rfl (by kernel_rfl) (by kernel_rfl) (by kernel_rfl) rfl rfl rfl rfl ho23.sl (hS28.rd (List.Mem.tail _ (List.Mem.head _))) h0_x29 he_x29 (fun _ _ _ => trivial) ?_
    intro a30 c31 w32 C33 hS34 ho35
    have hS36 := hS34.front1
    have hS37 := hS36.drop
    refine WO.vals [(5, 3, (.slice a30 x29.length c31))] (by kernel_rfl) (fun _ => by kernel_rfl) ?_
    refine WO.nil ?_
    refine En.in_normal ?_
    refine En.next ?_
    refine W.region (l := [0, 1]) (by kernel_rfl) ?_
    refine WO.incr (j := i5) rfl (by kernel_rfl) rfl (by first | omega | (dsimp only at *; omega)) ?_
    refine WO.vals [(1, 8, (.int .i64 ((i5 + 1 : Nat) : Int)))] (by kernel_rfl) (fun _ => by kernel_rfl) ?_
    refine WO.nil ?_
    have hS38 := hS37.front1
    have hS39 := hS38.drop
    have he := Option.some.inj hr1
    subst x11
    refine En.weaken (fr' := [(3, (.slice a30 x29.length c31)), (6, (.slice a_p0 p0.length c_p0)), (7, (.int .i64 (p0.length : Int))), (8, (.int .i64 ((i5 + 1 : Nat) : Int)))]) (En.round ⟨I2, a30, c31, C33, rfl, hl3, hS39, ho35⟩) (Sub.cons rfl (Sub.cons rfl (Sub.cons rfl (Sub.cons rfl Sub.nil))))
  case lastt1 =>
    rintro _ w40 ⟨I2, a_s4, c_s4, C_s4, rfl, hl3, hS41, h_s4⟩
    refine W.seq ?_
    refine W.region (l := [0]) (by kernel_rfl) ?_
    refine WO.vals [(0, 9, (.bool (decide ((p0.length : Int) < (p0.length : Int)))))] (by kernel_rfl) (fun _ => by kernel_rfl) ?_
    refine WO.nil ?_
    refine En.next ?_
    refine W.seq ?_
    refine W.cond (b := (decide ((p0.length : Int) < (p0.length : Int)))) rfl rfl (fun hc => ?_) (fun hc => ?_)
    · exact absurd hc (by first | (simp; done) | (simp; omega))
    clear hc
    refine W.exit ?_
    refine En.nx_exit ?_
    refine En.rd_exit ?_
    refine En.in_hit ?_
    refine En.next ?_
    refine W.seq ?_
    refine W.region (l := [0, 1]) (by kernel_rfl) ?_
    refine WO.vals [(0, 18, (.slice a_s4 s4.length c_s4))] (by kernel_rfl) (fun _ => by kernel_rfl) ?_
    obtain ⟨r47, hx_r42, hr⟩ := bind_some hr
    refine WO.call rfl (by kernel_rfl) rfl (f := 70) (args := #[(.slice a_s4 s4.length c_s4)]) (by kernel_rfl) (sort70_ok h_s4 hS41 hx_r42) ?_
    rintro _ w43 ⟨I44, C_r47, rfl, hl45, hS46, h_r47, hn_r47⟩
    refine ⟨_, rfl, trivial, ?_⟩
    refine WO.reslot 3 rfl (show Value.slice a_s4 s4.length c_s4 = Value.slice a_s4 r47.length c_s4 by rw [hn_r47]) ?_
    refine WO.reslot 18 rfl (show Value.slice a_s4 s4.length c_s4 = Value.slice a_s4 r47.length c_s4 by rw [hn_r47]) ?_
    refine WO.nil ?_
    refine En.next ?_
    refine W.seq ?_
    refine W.region (l := [0, 1, 2]) (by kernel_rfl) ?_
    refine WO.vals [(0, 20, (.slice a_s4 r47.length c_s4))] (by kernel_rfl) (fun _ => by kernel_rfl) ?_
    obtain ⟨r53, hx_r48, hr⟩ := bind_some hr
    refine WO.call rfl (by kernel_rfl) rfl (f := 71) (args := #[(.slice a_s4 r47.length c_s4)]) (by kernel_rfl) (slices_Compact_int_ok h_r47 hS46 hx_r48) ?_
    rintro _ w49 ⟨I50, a_r53, c_r53, C_r53, rfl, hl51, hS52, h_r53⟩
    refine ⟨_, rfl, trivial, ?_⟩
    obtain ⟨I54, hl55, hS57, hp56⟩ := OwnSl.pub h_r53 hS52
    refine WO.vals [(2, 2, (.slice a_r53 r53.length c_r53))] (by kernel_rfl) (fun _ => by kernel_rfl) ?_
    refine WO.nil ?_
    refine En.next ?_
    refine W.ret ?_
    have he := Option.some.inj hr
    subst r
    exact En.ret1 rfl (.slice a_r53 r53.length c_r53) rfl ⟨I54, a_r53, c_r53, rfl, (((hl3.trans hl45).trans hl51).trans hl55), hS57, hp56⟩
noncomputable def mdl_Locks_Blockers (p0 : mdl_Locks) (p1 : Int) : Option (List Int) := (mdl_Locks_Waits p0 p1).bind (fun ((r8, r9) : api_Need × Bool) => (bif (!r9) then some ([] : List Int) else (some ((mget sEq p0.at_ r8.Path).getD z_mdl_place)).bind (fun (x19 : mdl_place) => (mdl_find x19.queue p1).bind (fun (r33 : Int) => (sub x19.queue 0 r33).bind (fun (x34 : List mdl_one) => (slices_Clone_mdl_one x34).bind (fun (r40 : List mdl_one) => (forE (fun (i45 : Nat) => fun (s44 : List mdl_one) => (idx x19.held (i45 : Int)).bind (fun (x57 : mdl_one) => (mdl_Goes x57.mode r8.Mode).bind (fun (r69 : Bool) => ((bif (!r69) then (app 16 s44 ([x57] : List mdl_one)).bind (fun (x82 : List mdl_one) => some x82) else some s44)).bind (fun (j70 : List mdl_one) => some j70)))) x19.held.length 0 r40).bind (fun (s44 : (List mdl_one)) => (mdl_whos s44).bind (fun (r111 : List Int) => some r111))))))))
set_option maxHeartbeats 1000000 in
theorem mdl_Locks_Blockers_ok {E w : World} {I : Mem} {Os : List Mem} {p0 : mdl_Locks} {p1 : Int} {b_p0 : Nat} {w_p0 : W_mdl_Locks} (h_p0 : ok_mdl_Locks I p0 w_p0) (hS : St E w I ((Gv.one b_p0 (.cells (cs_mdl_Locks p0 w_p0).toArray 56 (0, 0))) :: (w_p0.at_.C) :: Os)) {r : (List Int)} (hr : mdl_Locks_Blockers p0 p1 = some r) :
    Calls P 26 #[(.pointer (some ⟨b_p0, 0, none⟩)), (.int .i64 p1)] w (fun e w' => ∃ (I' : Mem) (ra0 : Option Addr) (rc0 : Nat), e = .returned (.slice ra0 r.length rc0) ∧ I.Le I' ∧ St E w' I' ((Gv.one b_p0 (.cells (cs_mdl_Locks p0 w_p0).toArray 56 (0, 0))) :: w_p0.at_.C :: Os) ∧ RSl 1 (RInt .i64) I' ra0 rc0 r) := by
  refine calls_W (args := [(.pointer (some ⟨b_p0, 0, none⟩)), (.int .i64 p1)]) (fn := Try.f26) rfl rfl rfl ?_
  unfold mdl_Locks_Blockers at hr
  refine W.seq ?_
  refine W.region (l := [0]) (by kernel_rfl) ?_
  refine WO.vals [(0, 4, (.slice none 0 0))] (by kernel_rfl) (fun _ => by kernel_rfl) ?_
  refine WO.nil ?_
  refine En.next ?_
  refine W.seq ?_
  refine W.region (l := [0, 1, 2, 3, 4, 5, 6, 7, 8]) (by kernel_rfl) ?_
  refine WO.vals [(0, 12, (.pointer (some ⟨b_p0, 0, none⟩))), (1, 13, (.int .i64 p1))] (by kernel_rfl) (fun _ => by kernel_rfl) ?_
  have hS1 := hS.front1
  have hS2 := hS1.front1
  obtain ⟨⟨r8, r9⟩, hx_r3, hr⟩ := bind_some hr
  refine WO.call rfl (by kernel_rfl) rfl (f := 20) (args := #[(.pointer (some ⟨b_p0, 0, none⟩)), (.int .i64 p1)]) (by kernel_rfl) (mdl_Locks_Waits_ok h_p0 hS2 hx_r3) ?_
  rintro _ w4 ⟨I5, rfl, hl6, hS7⟩
  refine ⟨_, rfl, trivial, ?_⟩
  refine WO.vals [(3, 11, (.tuple #[(.agg (cs_api_Need r8).toArray), (.bool r9)])), (4, 15, (.agg (cs_api_Need r8).toArray)), (5, 16, (.bool r9))] (by kernel_rfl) (fun _ => by kernel_rfl) ?_
  refine WO.new hS7 rfl (by kernel_rfl) rfl (.cells (cs_api_Need z_api_Need).toArray 43 (0, 0)) (fun b => .pointer (some ⟨b, 0, none⟩)) (by kernel_rfl) (fun _ _ _ => trivial) ?_
  intro b10 w13 hS12
  refine WO.storeBox hS12 rfl (by kernel_rfl) rfl 0 rfl rfl (by kernel_rfl) (by kernel_rfl) (by kernel_rfl) ((cs_api_Need r8).toArray) (by kernel_rfl) (fun _ _ => trivial) ?_
  intro w15 hS14
  refine WO.vals [(8, 6, (.bool r9))] (by kernel_rfl) (fun _ => by kernel_rfl) ?_
  refine WO.nil ?_
  refine En.next ?_
  refine W.seq ?_
  refine W.seq ?_
  refine W.region (l := [0, 1]) (by kernel_rfl) ?_
  refine WO.vals [(0, 17, (.bool r9)), (1, 18, (.bool (!r9)))] (by kernel_rfl) (fun _ => by kernel_rfl) ?_
  refine WO.nil ?_
  refine En.next ?_
  refine W.cond (b := (!r9)) rfl rfl (fun hc => ?_) (fun hc => ?_)
  · replace hr := cond_t hc hr
    refine W.seq ?_
    refine W.region (l := [0]) (by kernel_rfl) ?_
    refine WO.vals [(0, 4, (.slice none 0 0))] (by kernel_rfl) (fun _ => by kernel_rfl) ?_
    refine WO.nil ?_
    refine En.next ?_
    refine W.ret ?_
    refine En.nx_ret ?_
    have hS16 := hS14.drop
    have he := Option.some.inj hr
    subst r
    exact En.ret1 rfl (.slice none 0 0) rfl ⟨I5, none, 0, rfl, hl6, hS16, SlAt.nil⟩
  · replace hr := cond_f hc hr
    refine W.skip ?_
    refine En.next ?_
    refine W.seq ?_
    have hS17 := hS14.drew
    refine W.draw (l := [0, 1, 2, 3, 4, 5, 6, 7, 8]) (by kernel_rfl) 8 (KR I5 [Gv.one b10 (.cells (cs_api_Need r8).toArray 43 (0, 0)), Gv.one b_p0 (.cells (cs_mdl_Locks p0 w_p0).toArray 56 (0, 0)), w_p0.at_.C]) qR (.back (by kernel_rfl)) (by kernel_rfl) (KR.cons (hS17.rd (List.Mem.head _)) (KR.cons (hS17.rd (List.Mem.tail _ (List.Mem.head _))) (KR.cons (hS17.rd (List.Mem.tail _ (List.Mem.tail _ (List.Mem.head _)))) (KR.nil hS17.im)))) ?_
    generalize World.drew _ = w18 at *
    refine WO.vals [(0, 19, (.pointer (some ⟨b_p0, 0, none⟩))), (1, 20, (.pointer (some ⟨b_p0, 0, none⟩))), (2, 21, (.pointer (some ⟨b_p0, 0, none⟩)))] (by kernel_rfl) (fun _ => by kernel_rfl) ?_
    refine WO.load rfl (by kernel_rfl) (by kernel_rfl) rfl (v := (.map (some w_p0.at_.m))) (fun w' hw' => cell_one ((rd_c (List.Mem.tail _ (List.Mem.head _)) (hS17.rd (List.Mem.tail _ (List.Mem.head _)))) w' hw') (by kernel_rfl)) ?_
    refine WO.vals [(4, 23, (.pointer (some ⟨b10, 0, none⟩)))] (by kernel_rfl) (fun _ => by kernel_rfl) ?_
    refine WO.load rfl (by kernel_rfl) (by kernel_rfl) rfl (v := (.string r8.Path)) (fun w' hw' => cell_one ((rd_c (List.Mem.head _) (hS17.rd (List.Mem.head _))) w' hw') (by kernel_rfl)) ?_
    obtain ⟨x19, hx_x19, hr⟩ := bind_some hr
    obtain ⟨v_x19, hv_x19, hq_x19⟩ := OwnMap.lookup (OwnMap.mono h_p0.at_ hl6) (t := 54) (kt := 9) (et := 68) (by kernel_rfl) (keyLaw_str (kt := 9) (by kernel_rfl)) r8.Path (zv := (.agg (cs_mdl_place z_mdl_place zw_mdl_place).toArray)) (z0 := z_mdl_place) (by kernel_rfl) ⟨(cs_mdl_place z_mdl_place zw_mdl_place), rfl, ⟨zw_mdl_place, rfl, zok_mdl_place⟩⟩
    rw [Option.some.inj hx_x19] at hv_x19
    obtain ⟨_, rfl, hv_x19⟩ := hv_x19
    obtain ⟨w_x19, rfl, h_x19⟩ := hv_x19
    refine WO.lookup rfl (by kernel_rfl) rfl rfl hq_x19 ((rd_c (List.Mem.tail _ (List.Mem.tail _ (List.Mem.head _))) (hS17.rd (List.Mem.tail _ (List.Mem.tail _ (List.Mem.head _)))))) (.agg (cs_mdl_place x19 w_x19).toArray) rfl ?_
    refine WO.new hS17 rfl (by kernel_rfl) rfl (.cells (cs_mdl_place z_mdl_place zw_mdl_place).toArray 68 (0, 0)) (fun b => .pointer (some ⟨b, 0, none⟩)) (by kernel_rfl) (fun b20 w23 hS22 => (KR.cons (hS22.rd (List.Mem.tail _ (List.Mem.head _))) (KR.cons (hS22.rd (List.Mem.tail _ (List.Mem.tail _ (List.Mem.head _)))) (KR.cons (hS22.rd (List.Mem.tail _ (List.Mem.tail _ (List.Mem.tail _ (List.Mem.head _))))) (KR.nil hS22.im))))) ?_
    intro b20 w23 hS22
    refine WO.tail rfl ?_
    refine WO.storeBox hS22 rfl (by kernel_rfl) rfl 0 rfl rfl (by kernel_rfl) (by kernel_rfl) (by kernel_rfl) ((cs_mdl_place x19 w_x19).toArray) (by kernel_rfl) (fun _ _ => trivial) ?_
    intro w25 hS24
    refine WO.nil ?_
    refine En.next ?_
    refine W.seq ?_
    have hS26 := hS24.drew
    refine W.draw (l := [0, 1, 2, 3, 4, 5, 6, 7, 8]) (by kernel_rfl) 6 (KR I5 [Gv.one b20 (.cells (cs_mdl_place x19 w_x19).toArray 68 (0, 0))]) qR (.back (by kernel_rfl)) (by kernel_rfl) (KR.cons (hS26.rd (List.Mem.head _)) (KR.nil hS26.im)) ?_
    generalize World.drew _ = w27 at *
    refine WO.vals [(0, 26, (.pointer (some ⟨b20, 1, none⟩)))] (by kernel_rfl) (fun _ => by kernel_rfl) ?_
    refine WO.load rfl (by kernel_rfl) (by kernel_rfl) rfl (v := (.slice w_x19.queue.a x19.queue.length w_x19.queue.c)) (fun w' hw' => cell_one ((rd_c (List.Mem.head _) (hS26.rd (List.Mem.head _))) w' hw') (by kernel_rfl)) ?_
    refine WO.vals [(2, 28, (.pointer (some ⟨b20, 1, none⟩)))] (by kernel_rfl) (fun _ => by kernel_rfl) ?_
    refine WO.load rfl (by kernel_rfl) (by kernel_rfl) rfl (v := (.slice w_x19.queue.a x19.queue.length w_x19.queue.c)) (fun w' hw' => cell_one ((rd_c (List.Mem.head _) (hS26.rd (List.Mem.head _))) w' hw') (by kernel_rfl)) ?_
    refine WO.vals [(4, 30, (.int .i64 p1))] (by kernel_rfl) (fun _ => by kernel_rfl) ?_
    obtain ⟨r33, hx_r28, hr⟩ := bind_some hr
    refine WO.call rfl (by kernel_rfl) rfl (f := 32) (args := #[(.slice w_x19.queue.a x19.queue.length w_x19.queue.c), (.int .i64 p1)]) (by kernel_rfl) (mdl_find_ok h_x19.queue hS26 hx_r28) ?_
    rintro _ w29 ⟨I30, rfl, hl31, hS32⟩
    refine ⟨_, rfl, (KR.cons (hS32.rd (List.Mem.head _)) (KR.nil (hS32.im.of_le hl31))), ?_⟩
    refine WO.tail rfl ?_
    obtain ⟨x34, hx_x34, hr⟩ := bind_some hr
    obtain ⟨h0_x34, h1_x34, h2_x34, he_x34⟩ := sub_some hx_x34
    have hl_x34 : (r33 : Int) ≤ (w_x19.queue.c : Int) := Int.le_trans h2_x34 (Int.ofNat_le.2 ((RSl.mono h_x19.queue hl31)).le)
    refine WO.slice (e := 70) (sz := 2) rfl (by kernel_rfl) (by kernel_rfl) (by kernel_rfl) rfl (0 : Int) (r33 : Int) h0_x34 (.inl ⟨rfl, rfl⟩) (.inr ⟨_, _, rfl, rfl⟩) h1_x34 hl_x34 ?_
    obtain ⟨a_x34, c_x34, h_x34, ev_x34⟩ := sub_ok ((RSl.mono h_x19.queue hl31)) h0_x34 h1_x34 h2_x34 he_x34
    refine WO.reslot 32 rfl ev_x34 ?_
    obtain ⟨r40, hx_r35, hr⟩ := bind_some hr
    refine WO.call rfl (by kernel_rfl) rfl (f := 54) (args := #[(.slice a_x34 x34.length c_x34)]) (by kernel_rfl) (slices_Clone_mdl_one_ok h_x34 hS32 hx_r35) ?_
    rintro _ w36 ⟨I37, a_r40, c_r40, C_r40, rfl, hl38, hS39, h_r40⟩
    refine ⟨_, rfl, trivial, ?_⟩
    refine WO.vals [(8, 8, (.slice a_r40 r40.length c_r40))] (by kernel_rfl) (fun _ => by kernel_rfl) ?_
    refine WO.nil ?_
    refine En.next ?_
    refine W.seq ?_
    refine W.seq ?_
    refine W.region (l := [0, 1, 2, 3]) (by kernel_rfl) ?_
    refine WO.vals [(0, 34, (.pointer (some ⟨b20, 0, none⟩)))] (by kernel_rfl) (fun _ => by kernel_rfl) ?_
    refine WO.load rfl (by kernel_rfl) (by kernel_rfl) rfl (v := (.slice w_x19.held.a x19.held.length w_x19.held.c)) (fun w' hw' => cell_one ((rd_f (hS39.rd (List.Mem.tail _ (List.Mem.head _)))) w' hw') (by kernel_rfl)) ?_
    refine WO.vals [(2, 36, (.int .i64 (x19.held.length : Int))), (3, 37, (.int .i64 0))] (by kernel_rfl) (fun _ => by kernel_rfl) ?_
    refine WO.nil ?_
    refine En.next ?_
    refine W.block ?_
    obtain ⟨s44, hloop46, hr⟩ := bind_some hr
    have hS47 := hS39.front1
    have hS48 := hS47.drop
    have hS49 := hS48.front1
    have hS50 := hS49.front3
    have hS51 := hS50.front3
    have hlt55 := ((RSl.mono h_x19.held (hl31.trans hl38))).len_lt
    refine W.weaken (fr' := [(5, (.pointer (some ⟨b10, 0, none⟩))), (8, (.slice a_r40 r40.length c_r40)), (35, (.slice w_x19.held.a x19.held.length w_x19.held.c)), (36, (.int .i64 (x19.held.length : Int))), (37, (.int .i64 ((0 : Nat) : Int)))]) (W.forE (m := x19.held.length) hloop46 (fun (i45 : Nat) => fun (s44 : List mdl_one) fr w => ∃ (I42 : Mem), ∃ (a_s44 : Option Addr), ∃ (c_s44 : Nat), ∃ (C_s44 : Mem), fr = [(5, (.pointer (some ⟨b10, 0, none⟩))), (8, (.slice a_s44 s44.length c_s44)), (35, (.slice w_x19.held.a x19.held.length w_x19.held.c)), (36, (.int .i64 (x19.held.length : Int))), (37, (.int .i64 (i45 : Int)))] ∧ I37.Le I42 ∧ St E w I42 ((Gv.one b_p0 (.cells (cs_mdl_Locks p0 w_p0).toArray 56 (0, 0))) :: (w_p0.at_.C) :: (Gv.one b10 (.cells (cs_api_Need r8).toArray 43 (0, 0))) :: (C_s44) :: Os) ∧ OwnSl 70 2 R_mdl_one I42 C_s44 a_s44 c_s44 s44) ⟨I37, a_r40, c_r40, C_r40, rfl, Mem.Le.refl _, hS51, h_r40⟩ ?roundt41 ?lastt41) (Sub.cons rfl (Sub.cons rfl (Sub.cons rfl (Sub.cons rfl (Sub.cons rfl Sub.nil)))))
    case roundt41 =>
      rintro i45 s44 _ w52 hi56 ⟨I42, a_s44, c_s44, C_s44, rfl, hl43, hS53, h_s44⟩ x54 hr1
      refine W.seq ?_
      refine W.region (l := [0]) (by kernel_rfl) ?_
      refine WO.vals [(0, 38, (.bool (decide ((i45 : Int) < (x19.held.length : Int)))))] (by kernel_rfl) (fun _ => by kernel_rfl) ?_
      refine WO.nil ?_
      refine En.next ?_
      refine W.seq ?_
      refine W.cond (b := (decide ((i45 : Int) < (x19.held.length : Int)))) rfl rfl (fun hc => ?_) (fun hc => ?_)
      rotate_left
      · exact absurd hc (by first | (simp; done) | (simp; omega))
      clear hc
      refine W.skip ?_
      refine En.next ?_
      refine W.seq ?_
      refine W.block ?_
      refine W.seq ?_
      refine W.region (l := [0, 1, 2, 3]) (by kernel_rfl) ?_
      obtain ⟨x57, hx_x57, hr1⟩ := bind_some hr1
      obtain ⟨h0_x57, h1_x57, hx_x57⟩ := idx_some hx_x57
      obtain ⟨ha_x57, cs_x57, hn_x57, hr_x57, hc_x57⟩ := ((RSl.mono h_x19.held ((hl31.trans hl38).trans hl43))).el _ _ hx_x57
      obtain rfl := hr_x57
      refine WO.indexAddr (e := 70) (sz := 2) rfl (by kernel_rfl) (by kernel_rfl) (by kernel_rfl) rfl ha_x57 rfl h0_x57 h1_x57 ?_
      refine WO.loadN rfl (by kernel_rfl) (by kernel_rfl) rfl ((cs_mdl_one x57)) (by kernel_rfl) (fun w' hw' => hc_x57.cells (k := 0) (by kernel_rfl) rfl ((rd_f hS53.im) w' hw')) ?_
      refine WO.new hS53 rfl (by kernel_rfl) rfl (.cells (cs_mdl_one z_mdl_one).toArray 70 (0, 0)) (fun b => .pointer (some ⟨b, 0, none⟩)) (by kernel_rfl) (fun _ _ _ => trivial) ?_
      intro b58 w61 hS60
      refine WO.storeBox hS60 rfl (by kernel_rfl) rfl 0 rfl rfl (by kernel_rfl) (by kernel_rfl) (by kernel_rfl) ((cs_mdl_one x57).toArray) (by kernel_rfl) (fun _ _ => trivial) ?_
      intro w63 hS62
      refine WO.nil ?_
      refine En.next ?_
      refine W.seq ?_
      refine W.region (l := [0, 1, 2, 3, 4, 5]) (by kernel_rfl) ?_
      refine WO.vals [(0, 41, (.pointer (some ⟨b58, 1, none⟩)))] (by kernel_rfl) (fun _ => by kernel_rfl) ?_
      refine WO.load rfl (by kernel_rfl) (by kernel_rfl) rfl (v := (.int .i64 x57.mode)) (fun w' hw' => cell_one ((rd_f (hS62.rd (List.Mem.head _))) w' hw') (by kernel_rfl)) ?_
      refine WO.vals [(2, 43, (.pointer (some ⟨b10, 1, none⟩)))] (by kernel_rfl) (fun _ => by kernel_rfl) ?_
      refine WO.load rfl (by kernel_rfl) (by kernel_rfl) rfl (v := (.int .i64 r8.Mode)) (fun w' hw' => cell_one ((rd_f (hS62.rd (List.Mem.tail _ (List.Mem.tail _ (List.Mem.tail _ (List.Mem.head _)))))) w' hw') (by kernel_rfl)) ?_
      obtain ⟨r69, hx_r64, hr1⟩ := bind_some hr1
      refine WO.call rfl (by kernel_rfl) rfl (f := 15) (args := #[(.int .i64 x57.mode), (.int .i64 r8.Mode)]) (by kernel_rfl) (mdl_Goes_ok  hS62 hx_r64) ?_
      rintro _ w65 ⟨I66, rfl, hl67, hS68⟩
      refine ⟨_, rfl, trivial, ?_⟩
      refine WO.vals [(5, 46, (.bool (!r69)))] (by kernel_rfl) (fun _ => by kernel_rfl) ?_
      refine WO.nil ?_
      refine En.next ?_
      obtain ⟨j70, hr2, hr1⟩ := bind_some hr1
      refine W.join (J := (fun fr w => ∃ (I72 : Mem), ∃ (a_j70 : Option Addr), ∃ (c_j70 : Nat), ∃ (C_j70 : Mem), fr = [(5, (.pointer (some ⟨b10, 0, none⟩))), (8, (.slice a_j70 j70.length c_j70)), (35, (.slice w_x19.held.a x19.held.length w_x19.held.c)), (36, (.int .i64 (x19.held.length : Int))), (37, (.int .i64 (i45 : Int)))] ∧ I66.Le I72 ∧ St E w I72 ((Gv.one b_p0 (.cells (cs_mdl_Locks p0 w_p0).toArray 56 (0, 0))) :: (w_p0.at_.C) :: (Gv.one b10 (.cells (cs_api_Need r8).toArray 43 (0, 0))) :: (C_j70) :: Os) ∧ OwnSl 70 2 R_mdl_one I72 C_j70 a_j70 c_j70 j70)) ?restj70 ?waysj70
      case waysj70 =>
        refine W.cond (b := (!r69)) rfl rfl (fun hc => ?_) (fun hc => ?_)
        · replace hr2 := cond_t hc hr2
          refine W.region (l := [0, 1, 2, 3, 4]) (by kernel_rfl) ?_
          refine WO.vals [(0, 47, (.slice a_s44 s44.length c_s44))] (by kernel_rfl) (fun _ => by kernel_rfl) ?_
          refine WO.loadN rfl (by kernel_rfl) (by kernel_rfl) rfl ((cs_mdl_one x57)) (by kernel_rfl) (fun w' hw' => cells_one ((rd_f (hS68.rd (List.Mem.head _))) w' hw') (by kernel_rfl)) ?_
          refine WO.newSlice (rel := R_mdl_one) (xs := ([x57] : List mdl_one)) hS68 rfl (by kernel_rfl) rfl 70 2 [(cs_mdl_one x57)] (by kernel_rfl) rfl ((Elr.cons rfl Elr.nil)) (fun _ _ _ => trivial) ?_
          intro a77 C75 w79 hS78 ho76
          have hS81 := hS78.front5
          obtain ⟨x82, hx_x82, hr2⟩ := bind_some hr2
          obtain ⟨h0_x82, he_x82⟩ := app_some hx_x82
          refine WO.append (e' := 70) (b := 16) (zs := (cs_mdl_one z_mdl_one).toArray) hS81 (OwnSl.mono h_s44 hl67) rfl (by kernel_rfl) rfl (by kernel_rfl) (by kernel_rfl) (by kernel_rfl) rfl rfl rfl rfl ho76.sl (hS81.rd (List.Mem.tail _ (List.Mem.head _))) h0_x82 he_x82 (fun _ _ _ => trivial) ?_
          intro a83 c84 w85 C86 hS87 ho88
          have hS89 := hS87.front1
          have hS90 := hS89.drop
          refine WO.vals [(4, 8, (.slice a83 x82.length c84))] (by kernel_rfl) (fun _ => by kernel_rfl) ?_
          refine WO.nil ?_
          have hS91 := hS90.front1
          have hS92 := hS91.drop
          have hS93 := hS92.front3
          have hS94 := hS93.front3
          have hS95 := hS94.front3
          have he := Option.some.inj hr2
          subst j70
          refine En.weaken (fr' := [(5, (.pointer (some ⟨b10, 0, none⟩))), (8, (.slice a83 x82.length c84)), (35, (.slice w_x19.held.a x19.held.length w_x19.held.c)), (36, (.int .i64 (x19.held.length : Int))), (37, (.int .i64 (i45 : Int)))]) (En.round ⟨I66, a83, c84, C86, rfl, Mem.Le.refl _, hS95, ho88⟩) (Sub.cons rfl (Sub.cons rfl (Sub.cons rfl (Sub.cons rfl (Sub.cons rfl Sub.nil)))))
        · replace hr2 := cond_f hc hr2
          refine W.skip ?_
          have hS96 := hS68.drop
          have he := Option.some.inj hr2
          subst j70
          refine En.weaken (fr' := [(5, (.pointer (some ⟨b10, 0, none⟩))), (8, (.slice a_s44 s44.length c_s44)), (35, (.slice w_x19.held.a x19.held.length w_x19.held.c)), (36, (.int .i64 (x19.held.length : Int))), (37, (.int .i64 (i45 : Int)))]) (En.round ⟨I66, a_s44, c_s44, C_s44, rfl, Mem.Le.refl _, hS96, (OwnSl.mono h_s44 hl67)⟩) (Sub.cons rfl (Sub.cons rfl (Sub.cons rfl (Sub.cons rfl (Sub.cons rfl Sub.nil)))))
      case restj70 =>
        rintro _ w97 ⟨I72, a_j70, c_j70, C_j70, rfl, hl73, hS98, h_j70⟩
        refine En.in_normal ?_
        refine En.next ?_
        refine W.region (l := [0, 1]) (by kernel_rfl) ?_
        refine WO.incr (j := i45) rfl (by kernel_rfl) rfl (by first | omega | (dsimp only at *; omega)) ?_
        refine WO.vals [(1, 37, (.int .i64 ((i45 + 1 : Nat) : Int)))] (by kernel_rfl) (fun _ => by kernel_rfl) ?_
        refine WO.nil ?_
        have he := Option.some.inj hr1
        subst x54
        refine En.weaken (fr' := [(5, (.pointer (some ⟨b10, 0, none⟩))), (8, (.slice a_j70 j70.length c_j70)), (35, (.slice w_x19.held.a x19.held.length w_x19.held.c)), (36, (.int .i64 (x19.held.length : Int))), (37, (.int .i64 ((i45 + 1 : Nat) : Int)))]) (En.round ⟨I72, a_j70, c_j70, C_j70, rfl, ((hl43.trans hl67).trans hl73), hS98, h_j70⟩) (Sub.cons rfl (Sub.cons rfl (Sub.cons rfl (Sub.cons rfl (Sub.cons rfl Sub.nil)))))
    case lastt41 =>
      rintro _ w99 ⟨I42, a_s44, c_s44, C_s44, rfl, hl43, hS100, h_s44⟩
      refine W.seq ?_
      refine W.region (l := [0]) (by kernel_rfl) ?_
      refine WO.vals [(0, 38, (.bool (decide ((x19.held.length : Int) < (x19.held.length : Int)))))] (by kernel_rfl) (fun _ => by kernel_rfl) ?_
      refine WO.nil ?_
      refine En.next ?_
      refine W.seq ?_
      refine W.cond (b := (decide ((x19.held.length : Int) < (x19.held.length : Int)))) rfl rfl (fun hc => ?_) (fun hc => ?_)
      · exact absurd hc (by first | (simp; done) | (simp; omega))
      clear hc
      refine W.exit ?_
      refine En.nx_exit ?_
      refine En.rd_exit ?_
      refine En.in_hit ?_
      refine En.next ?_
      refine W.seq ?_
      refine W.region (l := [0, 1, 2]) (by kernel_rfl) ?_
      refine WO.vals [(0, 52, (.slice a_s44 s44.length c_s44))] (by kernel_rfl) (fun _ => by kernel_rfl) ?_
      have hS101 := hS100.front3
      obtain ⟨I102, hl103, hS105, hp104⟩ := OwnSl.pub h_s44 hS101
      obtain ⟨r111, hx_r106, hr⟩ := bind_some hr
      refine WO.call rfl (by kernel_rfl) rfl (f := 56) (args := #[(.slice a_s44 s44.length c_s44)]) (by kernel_rfl) (mdl_whos_ok hp104 hS105 hx_r106) ?_
      rintro _ w107 ⟨I108, a_r111, c_r111, rfl, hl109, hS110, h_r111⟩
      refine ⟨_, rfl, trivial, ?_⟩
      refine WO.vals [(2, 4, (.slice a_r111 r111.length c_r111))] (by kernel_rfl) (fun _ => by kernel_rfl) ?_
      refine WO.nil ?_
      refine En.next ?_
      refine W.ret ?_
      have hS112 := hS110.front2
      have hS113 := hS112.drop
      have he := Option.some.inj hr
      subst r
      exact En.ret1 rfl (.slice a_r111 r111.length c_r111) rfl ⟨I108, a_r111, c_r111, rfl, (((((hl6.trans hl31).trans hl38).trans hl43).trans hl103).trans hl109), hS113, h_r111⟩
end Go.Proofs.Ytdmefifamlpbiaa
