/- What functions of the program come to, each by a plain one. Conditions: none. -/
import Derived.Test.YtdmefifamlpbiaaF4
set_option maxRecDepth 100000
namespace Go.Proofs.Ytdmefifamlpbiaa
open Go.Gv
noncomputable def registrarref21_Locks_Leave (p0 : registrarref21_Locks) (p1 : Int) : Option (Int × registrarref21_Locks) := (bif ((decide (p1 < 1)) || (decide (p1 > 8))) then some (2, p0) else (registrarref21_Locks_drop p0 p1 (⟨#[]⟩ : ByteArray) true).bind (fun ((r10, r11) : (List ByteArray) × registrarref21_Locks) => (forE (fun (i16 : Nat) => fun (s15 : registrarref21_Locks) => (idx r10 (i16 : Int)).bind (fun (x23 : ByteArray) => (registrarref21_Locks_serve s15 x23).bind (fun (r31 : registrarref21_Locks) => some r31))) r10.length 0 r11).bind (fun (s15 : registrarref21_Locks) => some (0, s15))))
set_option maxHeartbeats 1000000 in
theorem registrarref21_Locks_Leave_ok {E w : World} {I : Mem} {Os : List Mem} {p0 : registrarref21_Locks} {p1 : Int} {b_p0 : Nat} {w_p0 : W_registrarref21_Locks} (h_p0 : ok_registrarref21_Locks I p0 w_p0) (hS : St E w I ((Gv.one b_p0 (.cells (cs_registrarref21_Locks p0 w_p0).toArray 51 (0, 0))) :: (w_p0.L.C) :: Os)) {r : Int × registrarref21_Locks} (hr : registrarref21_Locks_Leave p0 p1 = some r) :
    Calls P 42 #[(.pointer (some ⟨b_p0, 0, none⟩)), (.int .i64 p1)] w (fun e w' => ∃ (I' : Mem) (w_rp0 : W_registrarref21_Locks), e = .returned (.int .i64 r.1) ∧ I.Le I' ∧ St E w' I' ((Gv.one b_p0 (.cells (cs_registrarref21_Locks r.2 w_rp0).toArray 51 (0, 0))) :: w_rp0.L.C :: Os) ∧ ok_registrarref21_Locks I' r.2 w_rp0) := by
  refine calls_W (args := [(.pointer (some ⟨b_p0, 0, none⟩)), (.int .i64 p1)]) (fn := Try.f42) rfl rfl rfl ?_
  unfold registrarref21_Locks_Leave at hr
  refine W.seq ?_
  refine W.region (l := [0]) (by kernel_rfl) ?_
  refine WO.vals [(0, 4, (.int .i64 0))] (by kernel_rfl) (fun _ => by kernel_rfl) ?_
  refine WO.nil ?_
  refine En.next ?_
  refine W.seq ?_
  refine W.seq ?_
  refine W.region (l := [0, 1, 2, 3, 4, 5]) (by kernel_rfl) ?_
  refine WO.vals [(0, 7, (.int .i64 p1)), (1, 8, (.bool (decide (p1 < 1)))), (2, 9, (.bool (decide (p1 < 1))))] (by kernel_rfl) (fun _ => by kernel_rfl) ?_
  refine WO.join (l1 := [3, 4, 5]) (l2 := []) (J := fun frx wx => frx = [(12, (.bool ((decide (p1 < 1)) || (decide (p1 > 8))))), (0, (.pointer (some ⟨b_p0, 0, none⟩))), (1, (.int .i64 p1))] ∧ w = wx) ?restm1 ?waysm1
  case waysm1 =>
    refine WO.caseb (decide (p1 < 1)) (fun hc => ?_) (fun hc => ?_)
    · skip
      refine WO.reslot 9 rfl (show Value.bool (decide (p1 < 1)) = Value.bool true by rw [hc]) ?_
      refine WO.pass rfl (by kernel_rfl) rfl ?_
      refine WO.pass rfl (by kernel_rfl) rfl ?_
      refine WO.vals [(5, 12, (.bool true))] (by kernel_rfl) (fun _ => by kernel_rfl) ?_
      refine WO.weaken (fr' := [(12, (.bool ((decide (p1 < 1)) || (decide (p1 > 8))))), (0, (.pointer (some ⟨b_p0, 0, none⟩))), (1, (.int .i64 p1))]) (WO.meet ⟨rfl, rfl⟩) (Sub.cons (by rw [hc]; rfl) (Sub.cons rfl (Sub.cons rfl Sub.nil)))
    · skip
      refine WO.reslot 9 rfl (show Value.bool (decide (p1 < 1)) = Value.bool false by rw [hc]) ?_
      refine WO.vals [(3, 10, (.int .i64 p1)), (4, 11, (.bool (decide (p1 > 8)))), (5, 12, (.bool (decide (p1 > 8))))] (by kernel_rfl) (fun _ => by kernel_rfl) ?_
      refine WO.weaken (fr' := [(12, (.bool ((decide (p1 < 1)) || (decide (p1 > 8))))), (0, (.pointer (some ⟨b_p0, 0, none⟩))), (1, (.int .i64 p1))]) (WO.meet ⟨rfl, rfl⟩) (Sub.cons (by rw [hc]; rfl) (Sub.cons rfl (Sub.cons rfl Sub.nil)))
  case restm1 =>
    rintro _ _ ⟨rfl, rfl⟩
    refine WO.nil ?_
    refine En.next ?_
    refine W.cond (b := ((decide (p1 < 1)) || (decide (p1 > 8)))) rfl rfl (fun hc => ?_) (fun hc => ?_)
    · replace hr := cond_t hc hr
      refine W.seq ?_
      refine W.region (l := [0]) (by kernel_rfl) ?_
      refine WO.vals [(0, 4, (.int .i64 2))] (by kernel_rfl) (fun _ => by kernel_rfl) ?_
      refine WO.nil ?_
      refine En.next ?_
      refine W.ret ?_
      refine En.nx_ret ?_
      have he := Option.some.inj hr
      subst r
      exact En.ret1 rfl (.int .i64 2) rfl ⟨I, w_p0, rfl, Mem.Le.refl _, hS, h_p0⟩
    · replace hr := cond_f hc hr
      refine W.skip ?_
      refine En.next ?_
      refine W.seq ?_
      refine W.region (l := [0, 1, 2, 3]) (by kernel_rfl) ?_
      refine WO.vals [(0, 13, (.pointer (some ⟨b_p0, 0, none⟩))), (1, 14, (.int .i64 p1))] (by kernel_rfl) (fun _ => by kernel_rfl) ?_
      have hS3 := hS.front1
      have hS4 := hS3.front1
      obtain ⟨⟨r10, r11⟩, hx_r5, hr⟩ := bind_some hr
      refine WO.call rfl (by kernel_rfl) rfl (f := 66) (args := #[(.pointer (some ⟨b_p0, 0, none⟩)), (.int .i64 p1), (.string (⟨#[]⟩ : ByteArray)), (.bool true)]) (by kernel_rfl) (registrarref21_Locks_drop_ok h_p0 hS4 hx_r5) ?_
      rintro _ w6 ⟨I7, a_r10, c_r10, w_r11, rfl, hl8, hS9, h_r10, h_r11⟩
      refine ⟨_, rfl, trivial, ?_⟩
      refine WO.vals [(3, 5, (.slice a_r10 r10.length c_r10))] (by kernel_rfl) (fun _ => by kernel_rfl) ?_
      refine WO.nil ?_
      refine En.next ?_
      refine W.seq ?_
      refine W.seq ?_
      refine W.region (l := [0]) (by kernel_rfl) ?_
      refine WO.vals [(0, 6, (.int .i64 0))] (by kernel_rfl) (fun _ => by kernel_rfl) ?_
      refine WO.nil ?_
      refine En.next ?_
      refine W.block ?_
      obtain ⟨s15, hloop17, hr⟩ := bind_some hr
      have hlt21 := (h_r10).len_lt
      refine W.weaken (fr' := [(0, (.pointer (some ⟨b_p0, 0, none⟩))), (5, (.slice a_r10 r10.length c_r10)), (6, (.int .i64 ((0 : Nat) : Int)))]) (W.forE (m := r10.length) hloop17 (fun (i16 : Nat) => fun (s15 : registrarref21_Locks) fr w => ∃ (I13 : Mem), ∃ (w_s15 : W_registrarref21_Locks), fr = [(0, (.pointer (some ⟨b_p0, 0, none⟩))), (5, (.slice a_r10 r10.length c_r10)), (6, (.int .i64 (i16 : Int)))] ∧ I7.Le I13 ∧ St E w I13 ((Gv.one b_p0 (.cells (cs_registrarref21_Locks s15 w_s15).toArray 51 (0, 0))) :: (w_s15.L.C) :: Os) ∧ ok_registrarref21_Locks I13 s15 w_s15) ⟨I7, w_r11, rfl, Mem.Le.refl _, hS9, h_r11⟩ ?roundt12 ?lastt12) (Sub.cons rfl (Sub.cons rfl (Sub.cons rfl Sub.nil)))
      case roundt12 =>
        rintro i16 s15 _ w18 hi22 ⟨I13, w_s15, rfl, hl14, hS19, h_s15⟩ x20 hr1
        refine W.seq ?_
        refine W.seq ?_
        refine W.region (l := [0, 1, 2, 3]) (by kernel_rfl) ?_
        refine WO.vals [(0, 16, (.int .i64 (i16 : Int))), (1, 17, (.slice a_r10 r10.length c_r10)), (2, 18, (.int .i64 (r10.length : Int))), (3, 19, (.bool (decide ((i16 : Int) < (r10.length : Int)))))] (by kernel_rfl) (fun _ => by kernel_rfl) ?_
        refine WO.nil ?_
        refine En.next ?_
        refine W.cond (b := (decide ((i16 : Int) < (r10.length : Int)))) rfl rfl (fun hc => ?_) (fun hc => ?_)
        rotate_left
        · exact absurd hc (by first | (simp; done) | (simp; omega))
        clear hc
        refine W.skip ?_
        refine En.next ?_
        refine W.seq ?_
        refine W.block ?_
        refine W.region (l := [0, 1, 2, 3, 4, 5]) (by kernel_rfl) ?_
        refine WO.vals [(0, 22, (.pointer (some ⟨b_p0, 0, none⟩))), (1, 23, (.slice a_r10 r10.length c_r10)), (2, 24, (.int .i64 (i16 : Int)))] (by kernel_rfl) (fun _ => by kernel_rfl) ?_
        obtain ⟨x23, hx_x23, hr1⟩ := bind_some hr1
        obtain ⟨h0_x23, h1_x23, hx_x23⟩ := idx_some hx_x23
        obtain ⟨ha_x23, cs_x23, hn_x23, hr_x23, hc_x23⟩ := ((RSl.mono h_r10 hl14)).el _ _ hx_x23
        obtain rfl := hr_x23
        refine WO.indexAddr (e := 9) (sz := 1) rfl (by kernel_rfl) (by kernel_rfl) (by kernel_rfl) rfl ha_x23 rfl h0_x23 h1_x23 ?_
        refine WO.load rfl (by kernel_rfl) (by kernel_rfl) rfl (v := (.string x23)) (fun w' hw' => hc_x23.cell0 (by kernel_rfl) ((rd_f hS19.im) w' hw')) ?_
        have hS24 := hS19.front1
        have hS25 := hS24.front1
        obtain ⟨r31, hx_r26, hr1⟩ := bind_some hr1
        refine WO.call rfl (by kernel_rfl) rfl (f := 67) (args := #[(.pointer (some ⟨b_p0, 0, none⟩)), (.string x23)]) (by kernel_rfl) (registrarref21_Locks_serve_ok h_s15 hS25 hx_r26) ?_
        rintro _ w27 ⟨I28, w_r31, rfl, hl29, hS30, h_r31⟩
        refine ⟨_, rfl, trivial, ?_⟩
        refine WO.nil ?_
        refine En.in_normal ?_
        refine En.next ?_
        refine W.region (l := [0, 1, 2]) (by kernel_rfl) ?_
        refine WO.vals [(0, 20, (.int .i64 (i16 : Int)))] (by kernel_rfl) (fun _ => by kernel_rfl) ?_
        refine WO.incr (j := i16) rfl (by kernel_rfl) rfl (by first | omega | (dsimp only at *; omega)) ?_
        refine WO.vals [(2, 6, (.int .i64 ((i16 + 1 : Nat) : Int)))] (by kernel_rfl) (fun _ => by kernel_rfl) ?_
        refine WO.nil ?_
        have he := Option.some.inj hr1
        subst x20
        refine En.weaken (fr' := [(0, (.pointer (some ⟨b_p0, 0, none⟩))), (5, (.slice a_r10 r10.length c_r10)), (6, (.int .i64 ((i16 + 1 : Nat) : Int)))]) (En.round ⟨I28, w_r31, rfl, (hl14.trans hl29), hS30, h_r31⟩) (Sub.cons rfl (Sub.cons rfl (Sub.cons rfl Sub.nil)))
      case lastt12 =>
        rintro _ w32 ⟨I13, w_s15, rfl, hl14, hS33, h_s15⟩
        refine W.seq ?_
        refine W.seq ?_
        refine W.region (l := [0, 1, 2, 3]) (by kernel_rfl) ?_
        refine WO.vals [(0, 16, (.int .i64 (r10.length : Int))), (1, 17, (.slice a_r10 r10.length c_r10)), (2, 18, (.int .i64 (r10.length : Int))), (3, 19, (.bool (decide ((r10.length : Int) < (r10.length : Int)))))] (by kernel_rfl) (fun _ => by kernel_rfl) ?_
        refine WO.nil ?_
        refine En.next ?_
        refine W.cond (b := (decide ((r10.length : Int) < (r10.length : Int)))) rfl rfl (fun hc => ?_) (fun hc => ?_)
        · exact absurd hc (by first | (simp; done) | (simp; omega))
        clear hc
        refine W.exit ?_
        refine En.nx_exit ?_
        refine En.rd_exit ?_
        refine En.in_hit ?_
        refine En.next ?_
        refine W.seq ?_
        refine W.region (l := [0]) (by kernel_rfl) ?_
        refine WO.vals [(0, 4, (.int .i64 0))] (by kernel_rfl) (fun _ => by kernel_rfl) ?_
        refine WO.nil ?_
        refine En.next ?_
        refine W.ret ?_
        have he := Option.some.inj hr
        subst r
        exact En.ret1 rfl (.int .i64 0) rfl ⟨I13, w_s15, rfl, (hl8.trans hl14), hS33, h_s15⟩
noncomputable def registrarlaw21_done (p0 : mdl_Locks) (p1 : registrarref21_Locks) (p2 : registrarlaw21_Act) : Option (Bool × mdl_Locks × registrarref21_Locks) := (bif (p2.Do == 0) then (mdl_Locks_Ask p0 p2.Who (⟨p2.Path, p2.Mode⟩ : api_Need)).bind (fun ((r12, r13, r14) : Bool × Int × mdl_Locks) => (registrarref21_Locks_Ask p1 p2.Who (⟨p2.Path, p2.Mode⟩ : api_Need)).bind (fun ((r22, r23, r24) : Bool × Int × registrarref21_Locks) => some (((r12 == r22) && (r13 == r23)), r14, r24))) else (bif (p2.Do == 1) then (mdl_Locks_Free p0 p2.Who p2.Path).bind (fun ((r42, r43) : Int × mdl_Locks) => (registrarref21_Locks_Free p1 p2.Who p2.Path).bind (fun ((r51, r52) : Int × registrarref21_Locks) => some ((r42 == r51), r43, r52))) else (mdl_Locks_Leave p0 p2.Who).bind (fun ((r69, r70) : Int × mdl_Locks) => (registrarref21_Locks_Leave p1 p2.Who).bind (fun ((r78, r79) : Int × registrarref21_Locks) => some ((r69 == r78), r70, r79)))))
set_option maxHeartbeats 1000000 in
theorem registrarlaw21_done_ok {E w : World} {I : Mem} {Os : List Mem} {p0 : mdl_Locks} {p1 : registrarref21_Locks} {p2 : registrarlaw21_Act} {b_p0 : Nat} {w_p0 : W_mdl_Locks} {b_p1 : Nat} {w_p1 : W_registrarref21_Locks} (h_p0 : ok_mdl_Locks I p0 w_p0) (h_p1 : ok_registrarref21_Locks I p1 w_p1) (hS : St E w I ((Gv.one b_p0 (.cells (cs_mdl_Locks p0 w_p0).toArray 56 (0, 0))) :: (w_p0.at_.C) :: (Gv.one b_p1 (.cells (cs_registrarref21_Locks p1 w_p1).toArray 51 (0, 0))) :: (w_p1.L.C) :: Os)) {r : Bool × mdl_Locks × registrarref21_Locks} (hr : registrarlaw21_done p0 p1 p2 = some r) :
    Calls P 22 #[(.pointer (some ⟨b_p0, 0, none⟩)), (.pointer (some ⟨b_p1, 0, none⟩)), (.agg (cs_registrarlaw21_Act p2).toArray)] w (fun e w' => ∃ (I' : Mem) (w_rp0 : W_mdl_Locks) (w_rp1 : W_registrarref21_Locks), e = .returned (.bool r.1) ∧ I.Le I' ∧ St E w' I' ((Gv.one b_p0 (.cells (cs_mdl_Locks r.2.1 w_rp0).toArray 56 (0, 0))) :: w_rp0.at_.C :: (Gv.one b_p1 (.cells (cs_registrarref21_Locks r.2.2 w_rp1).toArray 51 (0, 0))) :: w_rp1.L.C :: Os) ∧ ok_mdl_Locks I' r.2.1 w_rp0 ∧ ok_registrarref21_Locks I' r.2.2 w_rp1) := by
  refine calls_W (args := [(.pointer (some ⟨b_p0, 0, none⟩)), (.pointer (some ⟨b_p1, 0, none⟩)), (.agg (cs_registrarlaw21_Act p2).toArray)]) (fn := Try.f22) rfl rfl rfl ?_
  unfold registrarlaw21_done at hr
  refine W.seq ?_
  refine W.region (l := [0, 1]) (by kernel_rfl) ?_
  refine WO.new hS rfl (by kernel_rfl) rfl (.cells (cs_registrarlaw21_Act p2).toArray 27 (0, 0)) (fun b => .pointer (some ⟨b, 0, none⟩)) (by kernel_rfl) (fun _ _ _ => trivial) ?_
  intro b1 w4 hS3
  refine WO.vals [(1, 6, (.bool false))] (by kernel_rfl) (fun _ => by kernel_rfl) ?_
  refine WO.nil ?_
  refine En.next ?_
  refine W.seq ?_
  refine W.seq ?_
  refine W.region (l := [0, 1]) (by kernel_rfl) ?_
  refine WO.vals [(0, 11, (.pointer (some ⟨b1, 0, none⟩)))] (by kernel_rfl) (fun _ => by kernel_rfl) ?_
  refine WO.load rfl (by kernel_rfl) (by kernel_rfl) rfl (v := (.int .i64 p2.Do)) (fun w' hw' => cell_one ((rd_f (hS3.rd (List.Mem.head _))) w' hw') (by kernel_rfl)) ?_
  refine WO.nil ?_
  refine En.next ?_
  refine W.block ?_
  refine W.seq ?_
  refine W.region (l := [0, 1]) (by kernel_rfl) ?_
  refine WO.vals [(0, 14, (.bool (p2.Do == 0))), (1, 13, (.bool (p2.Do == 0)))] (by kernel_rfl) (fun _ => by kernel_rfl) ?_
  refine WO.nil ?_
  refine En.next ?_
  refine W.cond (b := (p2.Do == 0)) rfl rfl (fun hc => ?_) (fun hc => ?_)
  · replace hr := cond_t hc hr
    refine W.seq ?_
    refine W.region (l := [0, 1, 2, 3, 4, 5, 6, 7, 8, 9, 10, 11, 12, 13]) (by kernel_rfl) ?_
    refine WO.vals [(0, 16, (.pointer (some ⟨b_p0, 0, none⟩))), (1, 17, (.pointer (some ⟨b1, 1, none⟩)))] (by kernel_rfl) (fun _ => by kernel_rfl) ?_
    refine WO.load rfl (by kernel_rfl) (by kernel_rfl) rfl (v := (.int .i64 p2.Who)) (fun w' hw' => cell_one ((rd_f (hS3.rd (List.Mem.head _))) w' hw') (by kernel_rfl)) ?_
    refine WO.vals [(3, 19, (.pointer (some ⟨b1, 3, none⟩)))] (by kernel_rfl) (fun _ => by kernel_rfl) ?_
    refine WO.load rfl (by kernel_rfl) (by kernel_rfl) rfl (v := (.string p2.Path)) (fun w' hw' => cell_one ((rd_f (hS3.rd (List.Mem.head _))) w' hw') (by kernel_rfl)) ?_
    refine WO.vals [(5, 21, (.pointer (some ⟨b1, 2, none⟩)))] (by kernel_rfl) (fun _ => by kernel_rfl) ?_
    refine WO.load rfl (by kernel_rfl) (by kernel_rfl) rfl (v := (.int .i64 p2.Mode)) (fun w' hw' => cell_one ((rd_f (hS3.rd (List.Mem.head _))) w' hw') (by kernel_rfl)) ?_
    refine WO.vals [(7, 23, (.agg (cs_api_Need (⟨p2.Path, p2.Mode⟩ : api_Need)).toArray))] (by kernel_rfl) (fun _ => by kernel_rfl) ?_
    have hS5 := hS3.front2
    have hS6 := hS5.front2
    obtain ⟨⟨r12, r13, r14⟩, hx_r7, hr⟩ := bind_some hr
    refine WO.call rfl (by kernel_rfl) rfl (f := 24) (args := #[(.pointer (some ⟨b_p0, 0, none⟩)), (.int .i64 p2.Who), (.agg (cs_api_Need (⟨p2.Path, p2.Mode⟩ : api_Need)).toArray)]) (by kernel_rfl) (mdl_Locks_Ask_ok h_p0 hS6 hx_r7) ?_
    rintro _ w8 ⟨I9, w_r14, rfl, hl10, hS11, h_r14⟩
    refine ⟨_, rfl, trivial, ?_⟩
    refine WO.vals [(9, 15, (.tuple #[(.bool r12), (.int .i64 r13)])), (10, 25, (.bool r12)), (11, 26, (.int .i64 r13)), (12, 7, (.bool r12)), (13, 8, (.int .i64 r13))] (by kernel_rfl) (fun _ => by kernel_rfl) ?_
    refine WO.nil ?_
    refine En.next ?_
    refine W.seq ?_
    refine W.region (l := [0, 1, 2, 3, 4, 5, 6, 7, 8, 9, 10, 11, 12, 13]) (by kernel_rfl) ?_
    refine WO.vals [(0, 28, (.pointer (some ⟨b_p1, 0, none⟩))), (1, 29, (.pointer (some ⟨b1, 1, none⟩)))] (by kernel_rfl) (fun _ => by kernel_rfl) ?_
    refine WO.load rfl (by kernel_rfl) (by kernel_rfl) rfl (v := (.int .i64 p2.Who)) (fun w' hw' => cell_one ((rd_f (hS11.rd (List.Mem.tail _ (List.Mem.tail _ (List.Mem.head _))))) w' hw') (by kernel_rfl)) ?_
    refine WO.vals [(3, 31, (.pointer (some ⟨b1, 3, none⟩)))] (by kernel_rfl) (fun _ => by kernel_rfl) ?_
    refine WO.load rfl (by kernel_rfl) (by kernel_rfl) rfl (v := (.string p2.Path)) (fun w' hw' => cell_one ((rd_f (hS11.rd (List.Mem.tail _ (List.Mem.tail _ (List.Mem.head _))))) w' hw') (by kernel_rfl)) ?_
    refine WO.vals [(5, 33, (.pointer (some ⟨b1, 2, none⟩)))] (by kernel_rfl) (fun _ => by kernel_rfl) ?_
    refine WO.load rfl (by kernel_rfl) (by kernel_rfl) rfl (v := (.int .i64 p2.Mode)) (fun w' hw' => cell_one ((rd_f (hS11.rd (List.Mem.tail _ (List.Mem.tail _ (List.Mem.head _))))) w' hw') (by kernel_rfl)) ?_
    refine WO.vals [(7, 35, (.agg (cs_api_Need (⟨p2.Path, p2.Mode⟩ : api_Need)).toArray))] (by kernel_rfl) (fun _ => by kernel_rfl) ?_
    have hS15 := hS11.front4
    have hS16 := hS15.front4
    obtain ⟨⟨r22, r23, r24⟩, hx_r17, hr⟩ := bind_some hr
    refine WO.call rfl (by kernel_rfl) rfl (f := 40) (args := #[(.pointer (some ⟨b_p1, 0, none⟩)), (.int .i64 p2.Who), (.agg (cs_api_Need (⟨p2.Path, p2.Mode⟩ : api_Need)).toArray)]) (by kernel_rfl) (registrarref21_Locks_Ask_ok (h_p1.mono hl10) hS16 hx_r17) ?_
    rintro _ w18 ⟨I19, w_r24, rfl, hl20, hS21, h_r24⟩
    refine ⟨_, rfl, trivial, ?_⟩
    refine WO.vals [(9, 27, (.tuple #[(.bool r22), (.int .i64 r23)])), (10, 37, (.bool r22)), (11, 38, (.int .i64 r23)), (12, 9, (.bool r22)), (13, 10, (.int .i64 r23))] (by kernel_rfl) (fun _ => by kernel_rfl) ?_
    refine WO.nil ?_
    refine En.next ?_
    refine W.seq ?_
    refine W.region (l := [0, 1, 2, 3, 4, 5, 6, 7, 8]) (by kernel_rfl) ?_
    refine WO.vals [(0, 39, (.bool r12)), (1, 40, (.bool r22)), (2, 41, (.bool (r12 == r22))), (3, 42, (.bool (r12 == r22)))] (by kernel_rfl) (fun _ => by kernel_rfl) ?_
    refine WO.join (l1 := [4, 5, 6, 7]) (l2 := [8]) (J := fun frx wx => frx = [(46, (.bool ((r12 == r22) && (r13 == r23))))] ∧ w18 = wx) ?restm25 ?waysm25
    case waysm25 =>
      refine WO.caseb (r12 == r22) (fun hc => ?_) (fun hc => ?_)
      · skip
        refine WO.reslot 42 rfl (show Value.bool (r12 == r22) = Value.bool true by rw [hc]) ?_
        refine WO.vals [(4, 43, (.int .i64 r13)), (5, 44, (.int .i64 r23)), (6, 45, (.bool (r13 == r23))), (7, 46, (.bool (r13 == r23)))] (by kernel_rfl) (fun _ => by kernel_rfl) ?_
        refine WO.weaken (fr' := [(46, (.bool ((r12 == r22) && (r13 == r23))))]) (WO.meet ⟨rfl, rfl⟩) (Sub.cons (by rw [hc]; rfl) Sub.nil)
      · skip
        refine WO.reslot 42 rfl (show Value.bool (r12 == r22) = Value.bool false by rw [hc]) ?_
        refine WO.pass rfl (by kernel_rfl) rfl ?_
        refine WO.pass rfl (by kernel_rfl) rfl ?_
        refine WO.pass rfl (by kernel_rfl) rfl ?_
        refine WO.vals [(7, 46, (.bool false))] (by kernel_rfl) (fun _ => by kernel_rfl) ?_
        refine WO.weaken (fr' := [(46, (.bool ((r12 == r22) && (r13 == r23))))]) (WO.meet ⟨rfl, rfl⟩) (Sub.cons (by rw [hc]; rfl) Sub.nil)
    case restm25 =>
      rintro _ _ ⟨rfl, rfl⟩
      refine WO.vals [(8, 6, (.bool ((r12 == r22) && (r13 == r23))))] (by kernel_rfl) (fun _ => by kernel_rfl) ?_
      refine WO.nil ?_
      refine En.next ?_
      refine W.ret ?_
      refine En.in_ret ?_
      refine En.nx_ret ?_
      have hS27 := hS21.front4
      have hS28 := hS27.drop
      have hS29 := hS28.front1
      have hS30 := hS29.front1
      have hS31 := hS30.front3
      have hS32 := hS31.front3
      have he := Option.some.inj hr
      subst r
      exact En.ret1 rfl (.bool ((r12 == r22) && (r13 == r23))) rfl ⟨I19, w_r14, w_r24, rfl, (hl10.trans hl20), hS32, (h_r14.mono hl20), h_r24⟩
  · replace hr := cond_f hc hr
    refine W.seq ?_
    refine W.region (l := [0, 1]) (by kernel_rfl) ?_
    refine WO.vals [(0, 48, (.bool (p2.Do == 1))), (1, 47, (.bool (p2.Do == 1)))] (by kernel_rfl) (fun _ => by kernel_rfl) ?_
    refine WO.nil ?_
    refine En.next ?_
    refine W.cond (b := (p2.Do == 1)) rfl rfl (fun hc => ?_) (fun hc => ?_)
    · replace hr := cond_t hc hr
      refine W.seq ?_
      have hS33 := hS3.drew
      refine W.draw (l := [0, 1, 2, 3, 4, 5, 6, 7, 8, 9, 10, 11, 12, 13]) (by kernel_rfl) 11 (KR I [Gv.one b1 (.cells (cs_registrarlaw21_Act p2).toArray 27 (0, 0))]) qR (.back (by kernel_rfl)) (by kernel_rfl) (KR.cons (hS33.rd (List.Mem.head _)) (KR.nil hS33.im)) ?_
      generalize World.drew _ = w34 at *
      refine WO.vals [(0, 49, (.pointer (some ⟨b_p0, 0, none⟩))), (1, 50, (.pointer (some ⟨b1, 1, none⟩)))] (by kernel_rfl) (fun _ => by kernel_rfl) ?_
      refine WO.load rfl (by kernel_rfl) (by kernel_rfl) rfl (v := (.int .i64 p2.Who)) (fun w' hw' => cell_one ((rd_c (List.Mem.head _) (hS33.rd (List.Mem.head _))) w' hw') (by kernel_rfl)) ?_
      refine WO.vals [(3, 52, (.pointer (some ⟨b1, 3, none⟩)))] (by kernel_rfl) (fun _ => by kernel_rfl) ?_
      refine WO.load rfl (by kernel_rfl) (by kernel_rfl) rfl (v := (.string p2.Path)) (fun w' hw' => cell_one ((rd_c (List.Mem.head _) (hS33.rd (List.Mem.head _))) w' hw') (by kernel_rfl)) ?_
      have hS35 := hS33.front2
      have hS36 := hS35.front2
      obtain ⟨⟨r42, r43⟩, hx_r37, hr⟩ := bind_some hr
      refine WO.call rfl (by kernel_rfl) rfl (f := 25) (args := #[(.pointer (some ⟨b_p0, 0, none⟩)), (.int .i64 p2.Who), (.string p2.Path)]) (by kernel_rfl) (mdl_Locks_Free_ok h_p0 hS36 hx_r37) ?_
      rintro _ w38 ⟨I39, w_r43, rfl, hl40, hS41, h_r43⟩
      refine ⟨_, rfl, (KR.cons (hS41.rd (List.Mem.tail _ (List.Mem.tail _ (List.Mem.head _)))) (KR.nil (hS41.im.of_le hl40))), ?_⟩
      refine WO.vals [(6, 55, (.pointer (some ⟨b_p1, 0, none⟩))), (7, 56, (.pointer (some ⟨b1, 1, none⟩)))] (by kernel_rfl) (fun _ => by kernel_rfl) ?_
      refine WO.load rfl (by kernel_rfl) (by kernel_rfl) rfl (v := (.int .i64 p2.Who)) (fun w' hw' => cell_one ((rd_c (List.Mem.head _) (hS41.rd (List.Mem.tail _ (List.Mem.tail _ (List.Mem.head _))))) w' hw') (by kernel_rfl)) ?_
      refine WO.vals [(9, 58, (.pointer (some ⟨b1, 3, none⟩)))] (by kernel_rfl) (fun _ => by kernel_rfl) ?_
      refine WO.load rfl (by kernel_rfl) (by kernel_rfl) rfl (v := (.string p2.Path)) (fun w' hw' => cell_one ((rd_c (List.Mem.head _) (hS41.rd (List.Mem.tail _ (List.Mem.tail _ (List.Mem.head _))))) w' hw') (by kernel_rfl)) ?_
      refine WO.tail rfl ?_
      have hS44 := hS41.front4
      have hS45 := hS44.front4
      obtain ⟨⟨r51, r52⟩, hx_r46, hr⟩ := bind_some hr
      refine WO.call rfl (by kernel_rfl) rfl (f := 41) (args := #[(.pointer (some ⟨b_p1, 0, none⟩)), (.int .i64 p2.Who), (.string p2.Path)]) (by kernel_rfl) (registrarref21_Locks_Free_ok (h_p1.mono hl40) hS45 hx_r46) ?_
      rintro _ w47 ⟨I48, w_r52, rfl, hl49, hS50, h_r52⟩
      refine ⟨_, rfl, trivial, ?_⟩
      refine WO.vals [(12, 61, (.bool (r42 == r51))), (13, 6, (.bool (r42 == r51)))] (by kernel_rfl) (fun _ => by kernel_rfl) ?_
      refine WO.nil ?_
      refine En.next ?_
      refine W.ret ?_
      refine En.in_ret ?_
      refine En.nx_ret ?_
      have hS53 := hS50.front4
      have hS54 := hS53.drop
      have hS55 := hS54.front1
      have hS56 := hS55.front1
      have hS57 := hS56.front3
      have hS58 := hS57.front3
      have he := Option.some.inj hr
      subst r
      exact En.ret1 rfl (.bool (r42 == r51)) rfl ⟨I48, w_r43, w_r52, rfl, (hl40.trans hl49), hS58, (h_r43.mono hl49), h_r52⟩
    · replace hr := cond_f hc hr
      refine W.skip ?_
      refine En.in_normal ?_
      refine En.next ?_
      refine W.seq ?_
      have hS59 := hS3.drew
      refine W.draw (l := [0, 1, 2, 3, 4, 5, 6, 7, 8, 9]) (by kernel_rfl) 7 (KR I [Gv.one b1 (.cells (cs_registrarlaw21_Act p2).toArray 27 (0, 0))]) qR (.back (by kernel_rfl)) (by kernel_rfl) (KR.cons (hS59.rd (List.Mem.head _)) (KR.nil hS59.im)) ?_
      generalize World.drew _ = w60 at *
      refine WO.vals [(0, 62, (.pointer (some ⟨b_p0, 0, none⟩))), (1, 63, (.pointer (some ⟨b1, 1, none⟩)))] (by kernel_rfl) (fun _ => by kernel_rfl) ?_
      refine WO.load rfl (by kernel_rfl) (by kernel_rfl) rfl (v := (.int .i64 p2.Who)) (fun w' hw' => cell_one ((rd_c (List.Mem.head _) (hS59.rd (List.Mem.head _))) w' hw') (by kernel_rfl)) ?_
      have hS61 := hS59.front2
      have hS62 := hS61.front2
      obtain ⟨⟨r69, r70⟩, hx_r63, hr⟩ := bind_some hr
      refine WO.call rfl (by kernel_rfl) rfl (f := 21) (args := #[(.pointer (some ⟨b_p0, 0, none⟩)), (.int .i64 p2.Who)]) (by kernel_rfl) (mdl_Locks_Leave_ok h_p0 hS62 hx_r63) ?_
      rintro _ w65 ⟨I66, w_r70, rfl, hl67, hS68, h_r70⟩
      refine ⟨_, rfl, (KR.cons (hS68.rd (List.Mem.tail _ (List.Mem.tail _ (List.Mem.head _)))) (KR.nil (hS68.im.of_le hl67))), ?_⟩
      refine WO.vals [(4, 66, (.pointer (some ⟨b_p1, 0, none⟩))), (5, 67, (.pointer (some ⟨b1, 1, none⟩)))] (by kernel_rfl) (fun _ => by kernel_rfl) ?_
      refine WO.load rfl (by kernel_rfl) (by kernel_rfl) rfl (v := (.int .i64 p2.Who)) (fun w' hw' => cell_one ((rd_c (List.Mem.head _) (hS68.rd (List.Mem.tail _ (List.Mem.tail _ (List.Mem.head _))))) w' hw') (by kernel_rfl)) ?_
      refine WO.tail rfl ?_
      have hS71 := hS68.front4
      have hS72 := hS71.front4
      obtain ⟨⟨r78, r79⟩, hx_r73, hr⟩ := bind_some hr
      refine WO.call rfl (by kernel_rfl) rfl (f := 42) (args := #[(.pointer (some ⟨b_p1, 0, none⟩)), (.int .i64 p2.Who)]) (by kernel_rfl) (registrarref21_Locks_Leave_ok (h_p1.mono hl67) hS72 hx_r73) ?_
      rintro _ w74 ⟨I75, w_r79, rfl, hl76, hS77, h_r79⟩
      refine ⟨_, rfl, trivial, ?_⟩
      refine WO.vals [(8, 70, (.bool (r69 == r78))), (9, 6, (.bool (r69 == r78)))] (by kernel_rfl) (fun _ => by kernel_rfl) ?_
      refine WO.nil ?_
      refine En.next ?_
      refine W.ret ?_
      have hS80 := hS77.front4
      have hS81 := hS80.drop
      have hS82 := hS81.front1
      have hS83 := hS82.front1
      have hS84 := hS83.front3
      have hS85 := hS84.front3
      have he := Option.some.inj hr
      subst r
      exact En.ret1 rfl (.bool (r69 == r78)) rfl ⟨I75, w_r70, w_r79, rfl, (hl67.trans hl76), hS85, (h_r70.mono hl76), h_r79⟩
noncomputable def registrarref21_Locks_Paths (p0 : registrarref21_Locks) : Option (List ByteArray) := (forE (fun (i5 : Nat) => fun (s4 : List ByteArray) => ((loopO (fun (s19 : Int) => ((bif (decide (s19 < (s4.length : Int))) then (idx s4 s19).bind (fun (x30 : ByteArray) => (idx p0.L (i5 : Int)).bind (fun (x31 : registrarref21_One) => some (sLt x30 x31.Path))) else some false)).bind (fun (j26 : Bool) => (bif j26 then some (.inl (w64 (s19 + 1))) else some (.inr s19)))) 0).bind (fun (s35 : Int) => ((bif (decide (s35 < (s4.length : Int))) then (idx s4 s35).bind (fun (x42 : ByteArray) => (idx p0.L (i5 : Int)).bind (fun (x43 : registrarref21_One) => some (sEq x42 x43.Path))) else some false)).bind (fun (j38 : Bool) => (bif j38 then some s4 else (sub s4 0 s35).bind (fun (x46 : List ByteArray) => (app 16 ([] : List ByteArray) x46).bind (fun (x49 : List ByteArray) => (idx p0.L (i5 : Int)).bind (fun (x56 : registrarref21_One) => (app 16 x49 ([x56.Path] : List ByteArray)).bind (fun (x65 : List ByteArray) => (sub s4 s35 (s4.length : Int)).bind (fun (x74 : List ByteArray) => (app 16 x65 x74).bind (fun (x75 : List ByteArray) => some x75)))))))))).bind (fun (j12 : List ByteArray) => some j12)) p0.L.length 0 ([] : List ByteArray)).bind (fun (s4 : (List ByteArray)) => some s4)
set_option maxHeartbeats 1000000 in
theorem registrarref21_Locks_Paths_ok {E w : World} {I : Mem} {Os : List Mem} {p0 : registrarref21_Locks} {b_p0 : Nat} {w_p0 : W_registrarref21_Locks} (h_p0 : ok_registrarref21_Locks I p0 w_p0) (hS : St E w I ((Gv.one b_p0 (.cells (cs_registrarref21_Locks p0 w_p0).toArray 51 (0, 0))) :: (w_p0.L.C) :: Os)) {r : (List ByteArray)} (hr : registrarref21_Locks_Paths p0 = some r) :
    Calls P 43 #[(.pointer (some ⟨b_p0, 0, none⟩))] w (fun e w' => ∃ (I' : Mem) (ra0 : Option Addr) (rc0 : Nat), e = .returned (.slice ra0 r.length rc0) ∧ I.Le I' ∧ St E w' I' ((Gv.one b_p0 (.cells (cs_registrarref21_Locks p0 w_p0).toArray 51 (0, 0))) :: w_p0.L.C :: Os) ∧ RSl 1 RStr I' ra0 rc0 r) := by
  refine calls_W (args := [(.pointer (some ⟨b_p0, 0, none⟩))]) (fn := Try.f43) rfl rfl rfl ?_
  unfold registrarref21_Locks_Paths at hr
  refine W.seq ?_
  refine W.region (l := [0]) (by kernel_rfl) ?_
  refine WO.vals [(0, 2, (.slice none 0 0))] (by kernel_rfl) (fun _ => by kernel_rfl) ?_
  refine WO.nil ?_
  refine En.next ?_
  refine W.seq ?_
  refine W.region (l := [0]) (by kernel_rfl) ?_
  refine WO.vals [(0, 3, (.slice none 0 0))] (by kernel_rfl) (fun _ => by kernel_rfl) ?_
  refine WO.nil ?_
  refine En.next ?_
  refine W.seq ?_
  refine W.seq ?_
  refine W.region (l := [0]) (by kernel_rfl) ?_
  refine WO.vals [(0, 4, (.int .i64 0))] (by kernel_rfl) (fun _ => by kernel_rfl) ?_
  refine WO.nil ?_
  refine En.next ?_
  refine W.block ?_
  obtain ⟨s4, hloop6, hr⟩ := bind_some hr
  have hlt10 := (h_p0.L.sl).len_lt
  refine W.weaken (fr' := [(0, (.pointer (some ⟨b_p0, 0, none⟩))), (3, (.slice none 0 0)), (4, (.int .i64 ((0 : Nat) : Int)))]) (W.forE (m := p0.L.length) hloop6 (fun (i5 : Nat) => fun (s4 : List ByteArray) fr w => ∃ (I2 : Mem), ∃ (a_s4 : Option Addr), ∃ (c_s4 : Nat), fr = [(0, (.pointer (some ⟨b_p0, 0, none⟩))), (3, (.slice a_s4 s4.length c_s4)), (4, (.int .i64 (i5 : Int)))] ∧ I.Le I2 ∧ St E w I2 ((Gv.one b_p0 (.cells (cs_registrarref21_Locks p0 w_p0).toArray 51 (0, 0))) :: (w_p0.L.C) :: Os) ∧ RSl 1 RStr I2 a_s4 c_s4 s4) ⟨I, none, 0, rfl, Mem.Le.refl _, hS, SlAt.nil⟩ ?roundt1 ?lastt1) (Sub.cons rfl (Sub.cons rfl (Sub.cons rfl Sub.nil)))
  case roundt1 =>
    rintro i5 s4 _ w7 hi11 ⟨I2, a_s4, c_s4, rfl, hl3, hS8, h_s4⟩ x9 hr1
    refine W.seq ?_
    refine W.seq ?_
    refine W.region (l := [0, 1, 2, 3, 4, 5, 6]) (by kernel_rfl) ?_
    refine WO.vals [(0, 7, (.int .i64 (i5 : Int))), (1, 8, (.pointer (some ⟨b_p0, 0, none⟩))), (2, 9, (.pointer (some ⟨b_p0, 0, none⟩))), (3, 10, (.pointer (some ⟨b_p0, 0, none⟩)))] (by kernel_rfl) (fun _ => by kernel_rfl) ?_
    refine WO.load rfl (by kernel_rfl) (by kernel_rfl) rfl (v := (.slice w_p0.L.a p0.L.length w_p0.L.c)) (fun w' hw' => cell_one ((rd_f (hS8.rd (List.Mem.head _))) w' hw') (by kernel_rfl)) ?_
    refine WO.vals [(5, 12, (.int .i64 (p0.L.length : Int))), (6, 13, (.bool (decide ((i5 : Int) < (p0.L.length : Int)))))] (by kernel_rfl) (fun _ => by kernel_rfl) ?_
    refine WO.nil ?_
    refine En.next ?_
    refine W.cond (b := (decide ((i5 : Int) < (p0.L.length : Int)))) rfl rfl (fun hc => ?_) (fun hc => ?_)
    rotate_left
    · exact absurd hc (by first | (simp; done) | (simp; omega))
    clear hc
    refine W.skip ?_
    refine En.next ?_
    refine W.seq ?_
    obtain ⟨j12, hr2, hr1⟩ := bind_some hr1
    refine W.join (J := (fun fr w => ∃ (I14 : Mem), ∃ (a_j12 : Option Addr), ∃ (c_j12 : Nat), fr = [(0, (.pointer (some ⟨b_p0, 0, none⟩))), (3, (.slice a_j12 j12.length c_j12)), (4, (.int .i64 (i5 : Int)))] ∧ I2.Le I14 ∧ St E w I14 ((Gv.one b_p0 (.cells (cs_registrarref21_Locks p0 w_p0).toArray 51 (0, 0))) :: (w_p0.L.C) :: Os) ∧ RSl 1 RStr I14 a_j12 c_j12 j12)) ?restj12 ?waysj12
    case waysj12 =>
      refine W.block ?_
      refine W.seq ?_
      refine W.region (l := [0]) (by kernel_rfl) ?_
      refine WO.vals [(0, 5, (.int .i64 0))] (by kernel_rfl) (fun _ => by kernel_rfl) ?_
      refine WO.nil ?_
      refine En.next ?_
      refine W.seq ?_
      refine W.block ?_
      obtain ⟨t16, hloop20, hr2⟩ := bind_some hr2
      refine W.weaken (fr' := [(0, (.pointer (some ⟨b_p0, 0, none⟩))), (3, (.slice a_s4 s4.length c_s4)), (4, (.int .i64 (i5 : Int))), (5, (.int .i64 0))]) (W.loopO hloop20 (fun (s19 : Int) fr w => ∃ (I17 : Mem), fr = [(0, (.pointer (some ⟨b_p0, 0, none⟩))), (3, (.slice a_s4 s4.length c_s4)), (4, (.int .i64 (i5 : Int))), (5, (.int .i64 s19))] ∧ I2.Le I17 ∧ St E w I17 ((Gv.one b_p0 (.cells (cs_registrarref21_Locks p0 w_p0).toArray 51 (0, 0))) :: (w_p0.L.C) :: Os)) ⟨I2, rfl, Mem.Le.refl _, hS8⟩ ?_) (Sub.cons rfl (Sub.cons rfl (Sub.cons rfl (Sub.cons rfl Sub.nil))))
      rintro s19 _ w21 ⟨I17, rfl, hl18, hS22⟩ x23 hr3 hext16
      refine W.seq ?_
      refine W.seq ?_
      have hS24 := hS22.drew
      refine W.draw (l := [0, 1, 2, 3, 4, 5, 6, 7, 8, 9, 10, 11, 12, 13, 14, 15, 16, 17, 18]) (by kernel_rfl) 19 (KR I17 [Gv.one b_p0 (.cells (cs_registrarref21_Locks p0 w_p0).toArray 51 (0, 0)), w_p0.L.C]) qR (.back (by kernel_rfl)) (by kernel_rfl) (KR.cons (hS24.rd (List.Mem.head _)) (KR.cons (hS24.rd (List.Mem.tail _ (List.Mem.head _))) (KR.nil hS24.im))) ?_
      generalize World.drew _ = w25 at *
      refine WO.vals [(0, 16, (.int .i64 s19)), (1, 17, (.slice a_s4 s4.length c_s4)), (2, 18, (.int .i64 (s4.length : Int))), (3, 19, (.bool (decide (s19 < (s4.length : Int))))), (4, 20, (.bool (decide (s19 < (s4.length : Int)))))] (by kernel_rfl) (fun _ => by kernel_rfl) ?_
      obtain ⟨j26, hr4, hr3⟩ := bind_some hr3
      refine WO.join (l1 := [5, 6, 7, 8, 9, 10, 11, 12, 13, 14, 15, 16, 17, 18]) (l2 := []) (J := (fun fr w => ∃ (I28 : Mem), fr = [(0, (.pointer (some ⟨b_p0, 0, none⟩))), (3, (.slice a_s4 s4.length c_s4)), (4, (.int .i64 (i5 : Int))), (5, (.int .i64 s19)), (34, (.bool j26))] ∧ I17.Le I28 ∧ St E w I28 ((Gv.one b_p0 (.cells (cs_registrarref21_Locks p0 w_p0).toArray 51 (0, 0))) :: (w_p0.L.C) :: Os))) ?restj26 ?waysj26
      case waysj26 =>
        refine WO.caseb (decide (s19 < (s4.length : Int))) (fun hc => ?_) (fun hc => ?_)
        · replace hr4 := cond_t hc hr4
          refine WO.reslot 20 rfl (show Value.bool (decide (s19 < (s4.length : Int))) = Value.bool true by rw [hc]) ?_
          refine WO.vals [(5, 21, (.slice a_s4 s4.length c_s4)), (6, 22, (.int .i64 s19))] (by kernel_rfl) (fun _ => by kernel_rfl) ?_
          obtain ⟨x30, hx_x30, hr4⟩ := bind_some hr4
          obtain ⟨h0_x30, h1_x30, hx_x30⟩ := idx_some hx_x30
          obtain ⟨ha_x30, cs_x30, hn_x30, hr_x30, hc_x30⟩ := ((RSl.mono h_s4 hl18)).el _ _ hx_x30
          obtain rfl := hr_x30
          refine WO.indexAddr (e := 9) (sz := 1) rfl (by kernel_rfl) (by kernel_rfl) (by kernel_rfl) rfl ha_x30 rfl h0_x30 h1_x30 ?_
          refine WO.load rfl (by kernel_rfl) (by kernel_rfl) rfl (v := (.string x30)) (fun w' hw' => hc_x30.cell0 (by kernel_rfl) ((rd_i hS24.im) w' hw')) ?_
          refine WO.vals [(9, 25, (.pointer (some ⟨b_p0, 0, none⟩))), (10, 26, (.pointer (some ⟨b_p0, 0, none⟩))), (11, 27, (.pointer (some ⟨b_p0, 0, none⟩)))] (by kernel_rfl) (fun _ => by kernel_rfl) ?_
          refine WO.load rfl (by kernel_rfl) (by kernel_rfl) rfl (v := (.slice w_p0.L.a p0.L.length w_p0.L.c)) (fun w' hw' => cell_one ((rd_c (List.Mem.head _) (hS24.rd (List.Mem.head _))) w' hw') (by kernel_rfl)) ?_
          refine WO.vals [(13, 29, (.int .i64 (i5 : Int)))] (by kernel_rfl) (fun _ => by kernel_rfl) ?_
          obtain ⟨x31, hx_x31, hr4⟩ := bind_some hr4
          obtain ⟨h0_x31, h1_x31, hx_x31⟩ := idx_some hx_x31
          obtain ⟨ha_x31, cs_x31, hn_x31, hr_x31, hc_x31⟩ := ((h_p0.L.mono (hl3.trans hl18)).sl).el _ _ hx_x31
          obtain rfl := hr_x31
          refine WO.indexAddr (e := 98) (sz := 4) rfl (by kernel_rfl) (by kernel_rfl) (by kernel_rfl) rfl ha_x31 rfl h0_x31 h1_x31 ?_
          refine WO.vals [(15, 31, (.pointer (some ⟨bl w_p0.L.a, of w_p0.L.a + ((i5 : Int)).toNat * 4 + 2, none⟩)))] (by kernel_rfl) (fun _ => by kernel_rfl) ?_
          refine WO.load rfl (by kernel_rfl) (by kernel_rfl) rfl (v := (.string x31.Path)) (fun w' hw' => hc_x31.cellk 2 (by kernel_rfl) ((rd_c (List.Mem.tail _ (List.Mem.head _)) (hS24.rd (List.Mem.tail _ (List.Mem.head _)))) w' hw')) ?_
          refine WO.vals [(17, 33, (.bool (sLt x30 x31.Path))), (18, 34, (.bool (sLt x30 x31.Path)))] (by kernel_rfl) (fun _ => by kernel_rfl) ?_
          have he := Option.some.inj hr4
          subst j26
          refine WO.weaken (fr' := [(0, (.pointer (some ⟨b_p0, 0, none⟩))), (3, (.slice a_s4 s4.length c_s4)), (4, (.int .i64 (i5 : Int))), (5, (.int .i64 s19)), (34, (.bool (sLt x30 x31.Path)))]) (WO.meet ⟨I17, rfl, Mem.Le.refl _, hS24⟩) (Sub.cons rfl (Sub.cons rfl (Sub.cons rfl (Sub.cons rfl (Sub.cons rfl Sub.nil)))))
        · replace hr4 := cond_f hc hr4
          refine WO.reslot 20 rfl (show Value.bool (decide (s19 < (s4.length : Int))) = Value.bool false by rw [hc]) ?_
          refine WO.pass rfl (by kernel_rfl) rfl ?_
          refine WO.pass rfl (by kernel_rfl) rfl ?_
          refine WO.pass rfl (by kernel_rfl) rfl ?_
          refine WO.pass rfl (by kernel_rfl) rfl ?_
          refine WO.pass rfl (by kernel_rfl) rfl ?_
          refine WO.pass rfl (by kernel_rfl) rfl ?_
          refine WO.pass rfl (by kernel_rfl) rfl ?_
          refine WO.pass rfl (by kernel_rfl) rfl ?_
          refine WO.pass rfl (by kernel_rfl) rfl ?_
          refine WO.pass rfl (by kernel_rfl) rfl ?_
          refine WO.pass rfl (by kernel_rfl) rfl ?_
          refine WO.pass rfl (by kernel_rfl) rfl ?_
          refine WO.pass rfl (by kernel_rfl) rfl ?_
          refine WO.vals [(18, 34, (.bool false))] (by kernel_rfl) (fun _ => by kernel_rfl) ?_
          have he := Option.some.inj hr4
          subst j26
          refine WO.weaken (fr' := [(0, (.pointer (some ⟨b_p0, 0, none⟩))), (3, (.slice a_s4 s4.length c_s4)), (4, (.int .i64 (i5 : Int))), (5, (.int .i64 s19)), (34, (.bool false))]) (WO.meet ⟨I17, rfl, Mem.Le.refl _, hS24⟩) (Sub.cons rfl (Sub.cons rfl (Sub.cons rfl (Sub.cons rfl (Sub.cons rfl Sub.nil)))))
      case restj26 =>
        rintro _ w32 ⟨I28, rfl, hl29, hS33⟩
        refine WO.nil ?_
        refine En.next ?_
        refine W.cond (b := j26) rfl rfl (fun hc => ?_) (fun hc => ?_)
        · replace hr3 := cond_t hc hr3
          refine W.skip ?_
          refine En.next ?_
          refine W.block ?_
          refine W.region (l := [0, 1, 2]) (by kernel_rfl) ?_
          refine WO.vals [(0, 35, (.int .i64 s19)), (1, 36, (.int .i64 (w64 (s19 + 1)))), (2, 5, (.int .i64 (w64 (s19 + 1))))] (by kernel_rfl) (fun _ => by kernel_rfl) ?_
          refine WO.nil ?_
          refine En.in_normal ?_
          refine En.weaken (fr' := [(0, (.pointer (some ⟨b_p0, 0, none⟩))), (3, (.slice a_s4 s4.length c_s4)), (4, (.int .i64 (i5 : Int))), (5, (.int .i64 (w64 (s19 + 1))))]) (En.round ⟨(w64 (s19 + 1)), (Option.some.inj hr3).symm, I28, rfl, (hl18.trans hl29), hS33⟩) (Sub.cons rfl (Sub.cons rfl (Sub.cons rfl (Sub.cons rfl Sub.nil))))
        · replace hr3 := cond_f hc hr3
          refine W.exit ?_
          refine En.nx_exit ?_
          refine En.rd_exit ?_
          have ht := hext16 _ (Option.some.inj hr3).symm
          subst t16
          refine En.in_hit ?_
          refine En.next ?_
          refine W.seq ?_
          refine W.seq ?_
          have hS86 := hS33.drew
          refine W.draw (l := [0, 1, 2, 3, 4, 5, 6, 7, 8, 9, 10, 11, 12, 13, 14, 15, 16, 17, 18]) (by kernel_rfl) 19 (KR I28 [Gv.one b_p0 (.cells (cs_registrarref21_Locks p0 w_p0).toArray 51 (0, 0)), w_p0.L.C]) qR (.back (by kernel_rfl)) (by kernel_rfl) (KR.cons (hS86.rd (List.Mem.head _)) (KR.cons (hS86.rd (List.Mem.tail _ (List.Mem.head _))) (KR.nil hS86.im))) ?_
          generalize World.drew _ = w87 at *
          refine WO.vals [(0, 37, (.int .i64 s19)), (1, 38, (.slice a_s4 s4.length c_s4)), (2, 39, (.int .i64 (s4.length : Int))), (3, 40, (.bool (decide (s19 < (s4.length : Int))))), (4, 41, (.bool (decide (s19 < (s4.length : Int)))))] (by kernel_rfl) (fun _ => by kernel_rfl) ?_
          obtain ⟨j88, hr3, hr2⟩ := bind_some hr2
          refine WO.join (l1 := [5, 6, 7, 8, 9, 10, 11, 12, 13, 14, 15, 16, 17, 18]) (l2 := []) (J := (fun fr w => ∃ (I90 : Mem), fr = [(0, (.pointer (some ⟨b_p0, 0, none⟩))), (3, (.slice a_s4 s4.length c_s4)), (4, (.int .i64 (i5 : Int))), (5, (.int .i64 s19)), (55, (.bool j88))] ∧ I28.Le I90 ∧ St E w I90 ((Gv.one b_p0 (.cells (cs_registrarref21_Locks p0 w_p0).toArray 51 (0, 0))) :: (w_p0.L.C) :: Os))) ?restj88 ?waysj88
          case waysj88 =>
            refine WO.caseb (decide (s19 < (s4.length : Int))) (fun hc => ?_) (fun hc => ?_)
            · replace hr3 := cond_t hc hr3
              refine WO.reslot 41 rfl (show Value.bool (decide (s19 < (s4.length : Int))) = Value.bool true by rw [hc]) ?_
              refine WO.vals [(5, 42, (.slice a_s4 s4.length c_s4)), (6, 43, (.int .i64 s19))] (by kernel_rfl) (fun _ => by kernel_rfl) ?_
              obtain ⟨x92, hx_x92, hr3⟩ := bind_some hr3
              obtain ⟨h0_x92, h1_x92, hx_x92⟩ := idx_some hx_x92
              obtain ⟨ha_x92, cs_x92, hn_x92, hr_x92, hc_x92⟩ := ((RSl.mono h_s4 (hl18.trans hl29))).el _ _ hx_x92
              obtain rfl := hr_x92
              refine WO.indexAddr (e := 9) (sz := 1) rfl (by kernel_rfl) (by kernel_rfl) (by kernel_rfl) rfl ha_x92 rfl h0_x92 h1_x92 ?_
              refine WO.load rfl (by kernel_rfl) (by kernel_rfl) rfl (v := (.string x92)) (fun w' hw' => hc_x92.cell0 (by kernel_rfl) ((rd_i hS86.im) w' hw')) ?_
              refine WO.vals [(9, 46, (.pointer (some ⟨b_p0, 0, none⟩))), (10, 47, (.pointer (some ⟨b_p0, 0, none⟩))), (11, 48, (.pointer (some ⟨b_p0, 0, none⟩)))] (by kernel_rfl) (fun _ => by kernel_rfl) ?_
              refine WO.load rfl (by kernel_rfl) (by kernel_rfl) rfl (v := (.slice w_p0.L.a p0.L.length w_p0.L.c)) (fun w' hw' => cell_one ((rd_c (List.Mem.head _) (hS86.rd (List.Mem.head _))) w' hw') (by kernel_rfl)) ?_
              refine WO.vals [(13, 50, (.int .i64 (i5 : Int)))] (by kernel_rfl) (fun _ => by kernel_rfl) ?_
              obtain ⟨x93, hx_x93, hr3⟩ := bind_some hr3
              obtain ⟨h0_x93, h1_x93, hx_x93⟩ := idx_some hx_x93
              obtain ⟨ha_x93, cs_x93, hn_x93, hr_x93, hc_x93⟩ := ((h_p0.L.mono ((hl3.trans hl18).trans hl29)).sl).el _ _ hx_x93
              obtain rfl := hr_x93
              refine WO.indexAddr (e := 98) (sz := 4) rfl (by kernel_rfl) (by kernel_rfl) (by kernel_rfl) rfl ha_x93 rfl h0_x93 h1_x93 ?_
              refine WO.vals [(15, 52, (.pointer (some ⟨bl w_p0.L.a, of w_p0.L.a + ((i5 : Int)).toNat * 4 + 2, none⟩)))] (by kernel_rfl) (fun _ => by kernel_rfl) ?_
              refine WO.load rfl (by kernel_rfl) (by kernel_rfl) rfl (v := (.string x93.Path)) (fun w' hw' => hc_x93.cellk 2 (by kernel_rfl) ((rd_c (List.Mem.tail _ (List.Mem.head _)) (hS86.rd (List.Mem.tail _ (List.Mem.head _)))) w' hw')) ?_
              refine WO.vals [(17, 54, (.bool (sEq x92 x93.Path))), (18, 55, (.bool (sEq x92 x93.Path)))] (by kernel_rfl) (fun _ => by kernel_rfl) ?_
              have he := Option.some.inj hr3
              subst j88
              refine WO.weaken (fr' := [(0, (.pointer (some ⟨b_p0, 0, none⟩))), (3, (.slice a_s4 s4.length c_s4)), (4, (.int .i64 (i5 : Int))), (5, (.int .i64 s19)), (55, (.bool (sEq x92 x93.Path)))]) (WO.meet ⟨I28, rfl, Mem.Le.refl _, hS86⟩) (Sub.cons rfl (Sub.cons rfl (Sub.cons rfl (Sub.cons rfl (Sub.cons rfl Sub.nil)))))
            · replace hr3 := cond_f hc hr3
              refine WO.reslot 41 rfl (show Value.bool (decide (s19 < (s4.length : Int))) = Value.bool false by rw [hc]) ?_
              refine WO.pass rfl (by kernel_rfl) rfl ?_
              refine WO.pass rfl (by kernel_rfl) rfl ?_
              refine WO.pass rfl (by kernel_rfl) rfl ?_
              refine WO.pass rfl (by kernel_rfl) rfl ?_
              refine WO.pass rfl (by kernel_rfl) rfl ?_
              refine WO.pass rfl (by kernel_rfl) rfl ?_
              refine WO.pass rfl (by kernel_rfl) rfl ?_
              refine WO.pass rfl (by kernel_rfl) rfl ?_
              refine WO.pass rfl (by kernel_rfl) rfl ?_
              refine WO.pass rfl (by kernel_rfl) rfl ?_
              refine WO.pass rfl (by kernel_rfl) rfl ?_
              refine WO.pass rfl (by kernel_rfl) rfl ?_
              refine WO.pass rfl (by kernel_rfl) rfl ?_
              refine WO.vals [(18, 55, (.bool false))] (by kernel_rfl) (fun _ => by kernel_rfl) ?_
              have he := Option.some.inj hr3
              subst j88
              refine WO.weaken (fr' := [(0, (.pointer (some ⟨b_p0, 0, none⟩))), (3, (.slice a_s4 s4.length c_s4)), (4, (.int .i64 (i5 : Int))), (5, (.int .i64 s19)), (55, (.bool false))]) (WO.meet ⟨I28, rfl, Mem.Le.refl _, hS86⟩) (Sub.cons rfl (Sub.cons rfl (Sub.cons rfl (Sub.cons rfl (Sub.cons rfl Sub.nil)))))
          case restj88 =>
            rintro _ w94 ⟨I90, rfl, hl91, hS95⟩
            refine WO.nil ?_
            refine En.next ?_
            refine W.cond (b := j88) rfl rfl (fun hc => ?_) (fun hc => ?_)
            · replace hr2 := cond_t hc hr2
              refine W.exit ?_
              refine En.nx_exit ?_
              refine En.in_hit ?_
              have he := Option.some.inj hr2
              subst j12
              refine En.weaken (fr' := [(0, (.pointer (some ⟨b_p0, 0, none⟩))), (3, (.slice a_s4 s4.length c_s4)), (4, (.int .i64 (i5 : Int)))]) (En.round ⟨I90, a_s4, c_s4, rfl, ((hl18.trans hl29).trans hl91), hS95, (RSl.mono h_s4 ((hl18.trans hl29).trans hl91))⟩) (Sub.cons rfl (Sub.cons rfl (Sub.cons rfl Sub.nil)))
            · replace hr2 := cond_f hc hr2
              refine W.skip ?_
              refine En.next ?_
              refine W.seq ?_
              refine W.region (l := [0]) (by kernel_rfl) ?_
              refine WO.vals [(0, 6, (.slice none 0 0))] (by kernel_rfl) (fun _ => by kernel_rfl) ?_
              refine WO.nil ?_
              refine En.next ?_
              refine W.seq ?_
              refine W.region (l := [0, 1, 2, 3, 4, 5]) (by kernel_rfl) ?_
              refine WO.vals [(0, 56, (.slice none 0 0)), (1, 57, (.slice a_s4 s4.length c_s4)), (2, 58, (.int .i64 s19))] (by kernel_rfl) (fun _ => by kernel_rfl) ?_
              obtain ⟨x96, hx_x96, hr2⟩ := bind_some hr2
              obtain ⟨h0_x96, h1_x96, h2_x96, he_x96⟩ := sub_some hx_x96
              have hl_x96 : (s19 : Int) ≤ (c_s4 : Int) := Int.le_trans h2_x96 (Int.ofNat_le.2 ((RSl.mono h_s4 ((hl18.trans hl29).trans hl91))).le)
              refine WO.slice (e := 9) (sz := 1) rfl (by kernel_rfl) (by kernel_rfl) (by kernel_rfl) rfl (0 : Int) (s19 : Int) h0_x96 (.inl ⟨rfl, rfl⟩) (.inr ⟨_, _, rfl, rfl⟩) h1_x96 hl_x96 ?_
              obtain ⟨a_x96, c_x96, h_x96, ev_x96⟩ := sub_ok ((RSl.mono h_s4 ((hl18.trans hl29).trans hl91))) h0_x96 h1_x96 h2_x96 he_x96
              refine WO.reslot 59 rfl ev_x96 ?_
              have hS98 := hS95.no
              obtain ⟨x99, hx_x99, hr2⟩ := bind_some hr2
              obtain ⟨h0_x99, he_x99⟩ := app_some hx_x99
              refine WO.append (e' := 9) (b := 16) (zs := #[(.string (⟨#[]⟩ : ByteArray))]) hS98 (OwnSl.nil (T := 9) (rel := RStr) (I := I90)) rfl (by kernel_rfl) rfl (by kernel_rfl) (by kernel_rfl) (by kernel_rfl) rfl rfl rfl rfl h_x96 hS98.im h0_x99 he_x99 (fun _ _ _ => trivial) ?_
              intro a100 c101 w102 C103 hS104 ho105
              refine WO.vals [(5, 6, (.slice a100 x99.length c101))] (by kernel_rfl) (fun _ => by kernel_rfl) ?_
              refine WO.nil ?_
              refine En.next ?_
              refine W.seq ?_
              refine W.region (l := [0, 1, 2, 3, 4, 5, 6, 7, 8, 9, 10, 11]) (by kernel_rfl) ?_
              refine WO.vals [(0, 61, (.slice a100 x99.length c101)), (1, 62, (.pointer (some ⟨b_p0, 0, none⟩))), (2, 63, (.pointer (some ⟨b_p0, 0, none⟩))), (3, 64, (.pointer (some ⟨b_p0, 0, none⟩)))] (by kernel_rfl) (fun _ => by kernel_rfl) ?_
              refine WO.load rfl (by kernel_rfl) (by kernel_rfl) rfl (v := (.slice w_p0.L.a p0.L.length w_p0.L.c)) (fun w' hw' => cell_one ((rd_f (hS104.rd (List.Mem.tail _ (List.Mem.head _)))) w' hw') (by kernel_rfl)) ?_
              refine WO.vals [(5, 66, (.int .i64 (i5 : Int)))] (by kernel_rfl) (fun _ => by kernel_rfl) ?_
              obtain ⟨x106, hx_x106, hr2⟩ := bind_some hr2
              obtain ⟨h0_x106, h1_x106, hx_x106⟩ := idx_some hx_x106
              obtain ⟨ha_x106, cs_x106, hn_x106, hr_x106, hc_x106⟩ := ((h_p0.L.mono (((hl3.trans hl18).trans hl29).trans hl91)).sl).el _ _ hx_x106
              obtain rfl := hr_x106
              refine WO.indexAddr (e := 98) (sz := 4) rfl (by kernel_rfl) (by kernel_rfl) (by kernel_rfl) rfl ha_x106 rfl h0_x106 h1_x106 ?_
              refine WO.vals [(7, 68, (.pointer (some ⟨bl w_p0.L.a, of w_p0.L.a + ((i5 : Int)).toNat * 4 + 2, none⟩)))] (by kernel_rfl) (fun _ => by kernel_rfl) ?_
              refine WO.load rfl (by kernel_rfl) (by kernel_rfl) rfl (v := (.string x106.Path)) (fun w' hw' => hc_x106.cellk 2 (by kernel_rfl) ((rd_f (hS104.rd (List.Mem.tail _ (List.Mem.tail _ (List.Mem.head _))))) w' hw')) ?_
              refine WO.newSlice (rel := RStr) (xs := ([x106.Path] : List ByteArray)) hS104 rfl (by kernel_rfl) rfl 9 1 [[(.string x106.Path)]] (by kernel_rfl) rfl ((Elr.cons rfl Elr.nil)) (fun _ _ _ => trivial) ?_
              intro a110 C108 w112 hS111 ho109
              have hS114 := hS111.front1
              obtain ⟨x115, hx_x115, hr2⟩ := bind_some hr2
              obtain ⟨h0_x115, he_x115⟩ := app_some hx_x115
              refine WO.append (e' := 9) (b := 16) (zs := #[(.string (⟨#[]⟩ : ByteArray))]) hS114 ho105 rfl (by kernel_rfl) rfl (by kernel_rfl) (by kernel_rfl) (by kernel_rfl) rfl rfl rfl rfl ho109.sl (hS114.rd (List.Mem.tail _ (List.Mem.head _))) h0_x115 he_x115 (fun _ _ _ => trivial) ?_
              intro a116 c117 w118 C119 hS120 ho121
              have hS122 := hS120.front1
              have hS123 := hS122.drop
              refine WO.vals [(11, 6, (.slice a116 x115.length c117))] (by kernel_rfl) (fun _ => by kernel_rfl) ?_
              refine WO.nil ?_
              refine En.next ?_
              refine W.region (l := [0, 1, 2, 3, 4, 5]) (by kernel_rfl) ?_
              refine WO.vals [(0, 72, (.slice a116 x115.length c117)), (1, 73, (.slice a_s4 s4.length c_s4)), (2, 74, (.int .i64 s19))] (by kernel_rfl) (fun _ => by kernel_rfl) ?_
              obtain ⟨x124, hx_x124, hr2⟩ := bind_some hr2
              obtain ⟨h0_x124, h1_x124, h2_x124, he_x124⟩ := sub_some hx_x124
              have hl_x124 : ((s4.length : Int) : Int) ≤ (c_s4 : Int) := Int.le_trans h2_x124 (Int.ofNat_le.2 ((RSl.mono h_s4 ((hl18.trans hl29).trans hl91))).le)
              refine WO.slice (e := 9) (sz := 1) rfl (by kernel_rfl) (by kernel_rfl) (by kernel_rfl) rfl (s19 : Int) ((s4.length : Int) : Int) h0_x124 (.inr ⟨_, _, rfl, rfl⟩) (.inl ⟨rfl, rfl⟩) h1_x124 hl_x124 ?_
              obtain ⟨a_x124, c_x124, h_x124, ev_x124⟩ := sub_ok ((RSl.mono h_s4 ((hl18.trans hl29).trans hl91))) h0_x124 h1_x124 h2_x124 he_x124
              refine WO.reslot 75 rfl ev_x124 ?_
              obtain ⟨x125, hx_x125, hr2⟩ := bind_some hr2
              obtain ⟨h0_x125, he_x125⟩ := app_some hx_x125
              refine WO.append (e' := 9) (b := 16) (zs := #[(.string (⟨#[]⟩ : ByteArray))]) hS123 ho121 rfl (by kernel_rfl) rfl (by kernel_rfl) (by kernel_rfl) (by kernel_rfl) rfl rfl rfl rfl h_x124 hS123.im h0_x125 he_x125 (fun _ _ _ => trivial) ?_
              intro a126 c127 w128 C129 hS130 ho131
              obtain ⟨I132, hl133, hS135, hp134⟩ := OwnSl.pub ho131 hS130
              refine WO.vals [(5, 3, (.slice a126 x125.length c127))] (by kernel_rfl) (fun _ => by kernel_rfl) ?_
              refine WO.nil ?_
              refine En.in_normal ?_
              have he := Option.some.inj hr2
              subst j12
              refine En.weaken (fr' := [(0, (.pointer (some ⟨b_p0, 0, none⟩))), (3, (.slice a126 x125.length c127)), (4, (.int .i64 (i5 : Int)))]) (En.round ⟨I132, a126, c127, rfl, (((hl18.trans hl29).trans hl91).trans hl133), hS135, hp134⟩) (Sub.cons rfl (Sub.cons rfl (Sub.cons rfl Sub.nil)))
    case restj12 =>
      rintro _ w136 ⟨I14, a_j12, c_j12, rfl, hl15, hS137, h_j12⟩
      refine En.next ?_
      refine W.region (l := [0, 1, 2]) (by kernel_rfl) ?_
      refine WO.vals [(0, 14, (.int .i64 (i5 : Int)))] (by kernel_rfl) (fun _ => by kernel_rfl) ?_
      refine WO.incr (j := i5) rfl (by kernel_rfl) rfl (by first | omega | (dsimp only at *; omega)) ?_
      refine WO.vals [(2, 4, (.int .i64 ((i5 + 1 : Nat) : Int)))] (by kernel_rfl) (fun _ => by kernel_rfl) ?_
      refine WO.nil ?_
      have he := Option.some.inj hr1
      subst x9
      refine En.weaken (fr' := [(0, (.pointer (some ⟨b_p0, 0, none⟩))), (3, (.slice a_j12 j12.length c_j12)), (4, (.int .i64 ((i5 + 1 : Nat) : Int)))]) (En.round ⟨I14, a_j12, c_j12, rfl, (hl3.trans hl15), hS137, h_j12⟩) (Sub.cons rfl (Sub.cons rfl (Sub.cons rfl Sub.nil)))
  case lastt1 =>
    rintro _ w138 ⟨I2, a_s4, c_s4, rfl, hl3, hS139, h_s4⟩
    refine W.seq ?_
    refine W.seq ?_
    refine W.region (l := [0, 1, 2, 3, 4, 5, 6]) (by kernel_rfl) ?_
    refine WO.vals [(0, 7, (.int .i64 (p0.L.length : Int))), (1, 8, (.pointer (some ⟨b_p0, 0, none⟩))), (2, 9, (.pointer (some ⟨b_p0, 0, none⟩))), (3, 10, (.pointer (some ⟨b_p0, 0, none⟩)))] (by kernel_rfl) (fun _ => by kernel_rfl) ?_
    refine WO.load rfl (by kernel_rfl) (by kernel_rfl) rfl (v := (.slice w_p0.L.a p0.L.length w_p0.L.c)) (fun w' hw' => cell_one ((rd_f (hS139.rd (List.Mem.head _))) w' hw') (by kernel_rfl)) ?_
    refine WO.vals [(5, 12, (.int .i64 (p0.L.length : Int))), (6, 13, (.bool (decide ((p0.L.length : Int) < (p0.L.length : Int)))))] (by kernel_rfl) (fun _ => by kernel_rfl) ?_
    refine WO.nil ?_
    refine En.next ?_
    refine W.cond (b := (decide ((p0.L.length : Int) < (p0.L.length : Int)))) rfl rfl (fun hc => ?_) (fun hc => ?_)
    · exact absurd hc (by first | (simp; done) | (simp; omega))
    clear hc
    refine W.exit ?_
    refine En.nx_exit ?_
    refine En.rd_exit ?_
    refine En.in_hit ?_
    refine En.next ?_
    refine W.seq ?_
    refine W.region (l := [0, 1]) (by kernel_rfl) ?_
    refine WO.vals [(0, 77, (.slice a_s4 s4.length c_s4)), (1, 2, (.slice a_s4 s4.length c_s4))] (by kernel_rfl) (fun _ => by kernel_rfl) ?_
    refine WO.nil ?_
    refine En.next ?_
    refine W.ret ?_
    have he := Option.some.inj hr
    subst r
    exact En.ret1 rfl (.slice a_s4 s4.length c_s4) rfl ⟨I2, a_s4, c_s4, rfl, hl3, hS139, h_s4⟩
def registrarref12_SameTexts (p0 : List ByteArray) (p1 : List ByteArray) : Option Bool := (bif ((p0.length : Int) != (p1.length : Int)) then some false else (forN (fun (i4 : Nat) => fun (_s : Unit) => (idx p0 (i4 : Int)).bind (fun (x13 : ByteArray) => (idx p1 (i4 : Int)).bind (fun (x14 : ByteArray) => (bif (!sEq x13 x14) then some (.inr false) else some (.inl ()))))) p0.length 0 ()).bind (fun (t : Unit ⊕ (Bool)) => match t with | .inl _ => some true | .inr s16 => some s16))
set_option maxHeartbeats 1000000 in
theorem registrarref12_SameTexts_ok {E w : World} {I : Mem} {Os : List Mem} {p0 : List ByteArray} {p1 : List ByteArray} {a_p0 : Option Addr} {c_p0 : Nat} {a_p1 : Option Addr} {c_p1 : Nat} (h_p0 : RSl 1 RStr I a_p0 c_p0 p0) (h_p1 : RSl 1 RStr I a_p1 c_p1 p1) (hS : St E w I Os) {r : Bool} (hr : registrarref12_SameTexts p0 p1 = some r) :
    Calls P 44 #[(.slice a_p0 p0.length c_p0), (.slice a_p1 p1.length c_p1)] w (fun e w' => ∃ (I' : Mem), e = .returned (.bool r) ∧ I.Le I' ∧ St E w' I' Os) := by
  refine calls_W (args := [(.slice a_p0 p0.length c_p0), (.slice a_p1 p1.length c_p1)]) (fn := Try.f44) rfl rfl rfl ?_
  unfold registrarref12_SameTexts at hr
  refine W.seq ?_
  refine W.region (l := [0]) (by kernel_rfl) ?_
  refine WO.vals [(0, 4, (.bool false))] (by kernel_rfl) (fun _ => by kernel_rfl) ?_
  refine WO.nil ?_
  refine En.next ?_
  refine W.seq ?_
  refine W.seq ?_
  refine W.region (l := [0, 1, 2, 3, 4]) (by kernel_rfl) ?_
  refine WO.vals [(0, 6, (.slice a_p0 p0.length c_p0)), (1, 7, (.int .i64 (p0.length : Int))), (2, 8, (.slice a_p1 p1.length c_p1)), (3, 9, (.int .i64 (p1.length : Int))), (4, 10, (.bool ((p0.length : Int) != (p1.length : Int))))] (by kernel_rfl) (fun _ => by kernel_rfl) ?_
  refine WO.nil ?_
  refine En.next ?_
  refine W.cond (b := ((p0.length : Int) != (p1.length : Int))) rfl rfl (fun hc => ?_) (fun hc => ?_)
  · replace hr := cond_t hc hr
    refine W.seq ?_
    refine W.region (l := [0]) (by kernel_rfl) ?_
    refine WO.vals [(0, 4, (.bool false))] (by kernel_rfl) (fun _ => by kernel_rfl) ?_
    refine WO.nil ?_
    refine En.next ?_
    refine W.ret ?_
    refine En.nx_ret ?_
    have he := Option.some.inj hr
    subst r
    exact En.ret1 rfl (.bool false) rfl ⟨I, rfl, Mem.Le.refl _, hS⟩
  · replace hr := cond_f hc hr
    refine W.skip ?_
    refine En.next ?_
    refine W.seq ?_
    refine W.seq ?_
    refine W.region (l := [0]) (by kernel_rfl) ?_
    refine WO.vals [(0, 5, (.int .i64 0))] (by kernel_rfl) (fun _ => by kernel_rfl) ?_
    refine WO.nil ?_
    refine En.next ?_
    refine W.block ?_
    obtain ⟨t1, hloop5, hr⟩ := bind_some hr
    have hlt9 := (h_p0).len_lt
    refine W.weaken (fr' := [(0, (.slice a_p0 p0.length c_p0)), (1, (.slice a_p1 p1.length c_p1)), (5, (.int .i64 ((0 : Nat) : Int)))]) (W.forN (m := p0.length) hloop5 (fun (i4 : Nat) => fun (_s : Unit) fr w => ∃ (I2 : Mem), fr = [(0, (.slice a_p0 p0.length c_p0)), (1, (.slice a_p1 p1.length c_p1)), (5, (.int .i64 (i4 : Int)))] ∧ I.Le I2 ∧ St E w I2 Os) ⟨I, rfl, Mem.Le.refl _, hS⟩ ?roundt1 ?lastt1) (Sub.cons rfl (Sub.cons rfl (Sub.cons rfl Sub.nil)))
    case roundt1 =>
      rintro i4 _ _ w6 hi10 ⟨I2, rfl, hl3, hS7⟩ x8 hr1 hext1
      refine W.seq ?_
      refine W.seq ?_
      refine W.region (l := [0, 1, 2, 3]) (by kernel_rfl) ?_
      refine WO.vals [(0, 11, (.int .i64 (i4 : Int))), (1, 12, (.slice a_p0 p0.length c_p0)), (2, 13, (.int .i64 (p0.length : Int))), (3, 14, (.bool (decide ((i4 : Int) < (p0.length : Int)))))] (by kernel_rfl) (fun _ => by kernel_rfl) ?_
      refine WO.nil ?_
      refine En.next ?_
      refine W.cond (b := (decide ((i4 : Int) < (p0.length : Int)))) rfl rfl (fun hc => ?_) (fun hc => ?_)
      rotate_left
      · exact absurd hc (by first | (simp; done) | (simp; omega))
      clear hc
      refine W.skip ?_
      refine En.next ?_
      refine W.seq ?_
      refine W.block ?_
      refine W.seq ?_
      have hS11 := hS7.drew
      refine W.draw (l := [0, 1, 2, 3, 4, 5, 6, 7, 8]) (by kernel_rfl) 8 (KR I2 []) qR (.back (by kernel_rfl)) (by kernel_rfl) (KR.nil hS11.im) ?_
      generalize World.drew _ = w12 at *
      refine WO.vals [(0, 17, (.slice a_p0 p0.length c_p0)), (1, 18, (.int .i64 (i4 : Int)))] (by kernel_rfl) (fun _ => by kernel_rfl) ?_
      obtain ⟨x13, hx_x13, hr1⟩ := bind_some hr1
      obtain ⟨h0_x13, h1_x13, hx_x13⟩ := idx_some hx_x13
      obtain ⟨ha_x13, cs_x13, hn_x13, hr_x13, hc_x13⟩ := ((RSl.mono h_p0 hl3)).el _ _ hx_x13
      obtain rfl := hr_x13
      refine WO.indexAddr (e := 9) (sz := 1) rfl (by kernel_rfl) (by kernel_rfl) (by kernel_rfl) rfl ha_x13 rfl h0_x13 h1_x13 ?_
      refine WO.load rfl (by kernel_rfl) (by kernel_rfl) rfl (v := (.string x13)) (fun w' hw' => hc_x13.cell0 (by kernel_rfl) ((rd_i hS11.im) w' hw')) ?_
      refine WO.vals [(4, 21, (.slice a_p1 p1.length c_p1)), (5, 22, (.int .i64 (i4 : Int)))] (by kernel_rfl) (fun _ => by kernel_rfl) ?_
      obtain ⟨x14, hx_x14, hr1⟩ := bind_some hr1
      obtain ⟨h0_x14, h1_x14, hx_x14⟩ := idx_some hx_x14
      obtain ⟨ha_x14, cs_x14, hn_x14, hr_x14, hc_x14⟩ := ((RSl.mono h_p1 hl3)).el _ _ hx_x14
      obtain rfl := hr_x14
      refine WO.indexAddr (e := 9) (sz := 1) rfl (by kernel_rfl) (by kernel_rfl) (by kernel_rfl) rfl ha_x14 rfl h0_x14 h1_x14 ?_
      refine WO.load rfl (by kernel_rfl) (by kernel_rfl) rfl (v := (.string x14)) (fun w' hw' => hc_x14.cell0 (by kernel_rfl) ((rd_i hS11.im) w' hw')) ?_
      refine WO.tail rfl ?_
      refine WO.vals [(8, 25, (.bool (!sEq x13 x14)))] (by kernel_rfl) (fun _ => by kernel_rfl) ?_
      refine WO.nil ?_
      refine En.next ?_
      refine W.cond (b := (!sEq x13 x14)) rfl rfl (fun hc => ?_) (fun hc => ?_)
      · replace hr1 := cond_t hc hr1
        refine W.seq ?_
        refine W.region (l := [0]) (by kernel_rfl) ?_
        refine WO.vals [(0, 4, (.bool false))] (by kernel_rfl) (fun _ => by kernel_rfl) ?_
        refine WO.nil ?_
        refine En.next ?_
        refine W.ret ?_
        refine En.in_ret ?_
        refine En.nx_ret ?_
        refine En.rd_ret ?_
        have ht := hext1 _ (Option.some.inj hr1).symm
        subst t1
        refine En.in_ret ?_
        refine En.nx_ret ?_
        have he := Option.some.inj hr
        subst r
        exact En.ret1 rfl (.bool false) rfl ⟨I2, rfl, hl3, hS11⟩
      · replace hr1 := cond_f hc hr1
        refine W.skip ?_
        refine En.in_normal ?_
        refine En.next ?_
        refine W.region (l := [0, 1, 2]) (by kernel_rfl) ?_
        refine WO.vals [(0, 15, (.int .i64 (i4 : Int)))] (by kernel_rfl) (fun _ => by kernel_rfl) ?_
        refine WO.incr (j := i4) rfl (by kernel_rfl) rfl (by first | omega | (dsimp only at *; omega)) ?_
        refine WO.vals [(2, 5, (.int .i64 ((i4 + 1 : Nat) : Int)))] (by kernel_rfl) (fun _ => by kernel_rfl) ?_
        refine WO.nil ?_
        refine En.weaken (fr' := [(0, (.slice a_p0 p0.length c_p0)), (1, (.slice a_p1 p1.length c_p1)), (5, (.int .i64 ((i4 + 1 : Nat) : Int)))]) (En.round ⟨(), (Option.some.inj hr1).symm, I2, rfl, hl3, hS11⟩) (Sub.cons rfl (Sub.cons rfl (Sub.cons rfl Sub.nil)))
    case lastt1 =>
      rintro _ _ w17 ⟨I2, rfl, hl3, hS18⟩ he
      cases he
      refine W.seq ?_
      refine W.seq ?_
      refine W.region (l := [0, 1, 2, 3]) (by kernel_rfl) ?_
      refine WO.vals [(0, 11, (.int .i64 (p0.length : Int))), (1, 12, (.slice a_p0 p0.length c_p0)), (2, 13, (.int .i64 (p0.length : Int))), (3, 14, (.bool (decide ((p0.length : Int) < (p0.length : Int)))))] (by kernel_rfl) (fun _ => by kernel_rfl) ?_
      refine WO.nil ?_
      refine En.next ?_
      refine W.cond (b := (decide ((p0.length : Int) < (p0.length : Int)))) rfl rfl (fun hc => ?_) (fun hc => ?_)
      · exact absurd hc (by first | (simp; done) | (simp; omega))
      clear hc
      refine W.exit ?_
      refine En.nx_exit ?_
      refine En.rd_exit ?_
      refine En.in_hit ?_
      refine En.next ?_
      refine W.seq ?_
      refine W.region (l := [0]) (by kernel_rfl) ?_
      refine WO.vals [(0, 4, (.bool true))] (by kernel_rfl) (fun _ => by kernel_rfl) ?_
      refine WO.nil ?_
      refine En.next ?_
      refine W.ret ?_
      have he := Option.some.inj hr
      subst r
      exact En.ret1 rfl (.bool true) rfl ⟨I2, rfl, hl3, hS18⟩
def slices_IndexFunc_int (p0 : List Int) (p1 : Int → Option Bool) : Option Int := (forN (fun (i4 : Nat) => fun (_s : Unit) => (idx p0 (i4 : Int)).bind (fun (x11 : Int) => (p1 x11).bind (fun (r17 : Bool) => (bif r17 then some (.inr (i4 : Int)) else some (.inl ()))))) p0.length 0 ()).bind (fun (t : Unit ⊕ (Int)) => match t with | .inl _ => some (-1) | .inr s19 => some s19)
set_option maxHeartbeats 1000000 in
theorem slices_IndexFunc_int_ok {E w : World} {I : Mem} {Os : List Mem} {p0 : List Int} {p1 : Int → Option Bool} {a_p0 : Option Addr} {c_p0 : Nat} {g_p1 : FuncId} {k_p1 : List Value} (h_p0 : RSl 1 (RInt .i64) I a_p0 c_p0 p0) (h_p1 : ∀ {F : List Mem} {I' : Mem} {w : World} {u0 : Int}, I.Le I' → St E w I' (F ++ Os) → ∀ {r : Bool}, p1 u0 = some r → Calls P g_p1 (([(.int .i64 u0)] : List Value) ++ k_p1).toArray w (fun e w' => ∃ (I'' : Mem), e = .returned (.bool r) ∧ I'.Le I'' ∧ St E w' I'' (F ++ Os))) (hcall_p1 : Callable P g_p1) (hS : St E w I Os) {r : Int} (hr : slices_IndexFunc_int p0 p1 = some r) :
    Calls P 62 #[(.slice a_p0 p0.length c_p0), (.func (.func g_p1) #[] k_p1.toArray)] w (fun e w' => ∃ (I' : Mem), e = .returned (.int .i64 r) ∧ I.Le I' ∧ St E w' I' Os) := by
  refine calls_W (args := [(.slice a_p0 p0.length c_p0), (.func (.func g_p1) #[] k_p1.toArray)]) (fn := Try.f62) rfl rfl rfl ?_
  unfold slices_IndexFunc_int at hr
  refine W.seq ?_
  refine W.region (l := [0]) (by kernel_rfl) ?_
  refine WO.vals [(0, 4, (.int .i64 0))] (by kernel_rfl) (fun _ => by kernel_rfl) ?_
  refine WO.nil ?_
  refine En.next ?_
  refine W.seq ?_
  refine W.seq ?_
  refine W.region (l := [0, 1, 2]) (by kernel_rfl) ?_
  refine WO.vals [(0, 6, (.slice a_p0 p0.length c_p0)), (1, 7, (.int .i64 (p0.length : Int))), (2, 8, (.int .i64 0))] (by kernel_rfl) (fun _ => by kernel_rfl) ?_
  refine WO.nil ?_
  refine En.next ?_
  refine W.block ?_
  obtain ⟨t1, hloop5, hr⟩ := bind_some hr
  have hlt9 := (h_p0).len_lt
  refine W.weaken (fr' := [(0, (.slice a_p0 p0.length c_p0)), (1, (.func (.func g_p1) #[] k_p1.toArray)), (7, (.int .i64 (p0.length : Int))), (8, (.int .i64 ((0 : Nat) : Int)))]) (W.forN (m := p0.length) hloop5 (fun (i4 : Nat) => fun (_s : Unit) fr w => ∃ (I2 : Mem), fr = [(0, (.slice a_p0 p0.length c_p0)), (1, (.func (.func g_p1) #[] k_p1.toArray)), (7, (.int .i64 (p0.length : Int))), (8, (.int .i64 (i4 : Int)))] ∧ I.Le I2 ∧ St E w I2 Os) ⟨I, rfl, Mem.Le.refl _, hS⟩ ?roundt1 ?lastt1) (Sub.cons rfl (Sub.cons rfl (Sub.cons rfl (Sub.cons rfl Sub.nil))))
  case roundt1 =>
    rintro i4 _ _ w6 hi10 ⟨I2, rfl, hl3, hS7⟩ x8 hr1 hext1
    refine W.seq ?_
    refine W.region (l := [0]) (by kernel_rfl) ?_
    refine WO.vals [(0, 9, (.bool (decide ((i4 : Int) < (p0.length : Int)))))] (by kernel_rfl) (fun _ => by kernel_rfl) ?_
    refine WO.nil ?_
    refine En.next ?_
    refine W.seq ?_
    refine W.cond (b := (decide ((i4 : Int) < (p0.length : Int)))) rfl rfl (fun hc => ?_) (fun hc => ?_)
    rotate_left
    · exact absurd hc (by first | (simp; done) | (simp; omega))
    clear hc
    refine W.skip ?_
    refine En.next ?_
    refine W.seq ?_
    refine W.block ?_
    refine W.seq ?_
    refine W.region (l := [0, 1]) (by kernel_rfl) ?_
    refine WO.vals [(0, 10, (.int .i64 (i4 : Int))), (1, 5, (.int .i64 (i4 : Int)))] (by kernel_rfl) (fun _ => by kernel_rfl) ?_
    refine WO.nil ?_
    refine En.next ?_
    refine W.seq ?_
    refine W.region (l := [0, 1, 2, 3, 4, 5]) (by kernel_rfl) ?_
    refine WO.vals [(0, 11, (.func (.func g_p1) #[] k_p1.toArray)), (1, 12, (.slice a_p0 p0.length c_p0)), (2, 13, (.int .i64 (i4 : Int)))] (by kernel_rfl) (fun _ => by kernel_rfl) ?_
    obtain ⟨x11, hx_x11, hr1⟩ := bind_some hr1
    obtain ⟨h0_x11, h1_x11, hx_x11⟩ := idx_some hx_x11
    obtain ⟨ha_x11, cs_x11, hn_x11, hr_x11, hc_x11⟩ := ((RSl.mono h_p0 hl3)).el _ _ hx_x11
    obtain rfl := hr_x11
    refine WO.indexAddr (e := 3) (sz := 1) rfl (by kernel_rfl) (by kernel_rfl) (by kernel_rfl) rfl ha_x11 rfl h0_x11 h1_x11 ?_
    refine WO.load rfl (by kernel_rfl) (by kernel_rfl) rfl (v := (.int .i64 x11)) (fun w' hw' => hc_x11.cell0 (by kernel_rfl) ((rd_f hS7.im) w' hw')) ?_
    obtain ⟨r17, hx_r12, hr1⟩ := bind_some hr1
    refine WO.callv rfl (by kernel_rfl) rfl (g := g_p1) (kk := k_p1) (args := [(.int .i64 x11)]) rfl (by kernel_rfl) hcall_p1 (h_p1 (F := []) hl3 hS7  hx_r12) ?_
    rintro _ w13 ⟨I14, rfl, hl15, hS16⟩
    refine ⟨_, rfl, trivial, ?_⟩
    refine WO.nil ?_
    refine En.next ?_
    refine W.cond (b := r17) rfl rfl (fun hc => ?_) (fun hc => ?_)
    · replace hr1 := cond_t hc hr1
      refine W.seq ?_
      refine W.region (l := [0, 1]) (by kernel_rfl) ?_
      refine WO.vals [(0, 17, (.int .i64 (i4 : Int))), (1, 4, (.int .i64 (i4 : Int)))] (by kernel_rfl) (fun _ => by kernel_rfl) ?_
      refine WO.nil ?_
      refine En.next ?_
      refine W.ret ?_
      refine En.in_ret ?_
      refine En.nx_ret ?_
      refine En.rd_ret ?_
      have ht := hext1 _ (Option.some.inj hr1).symm
      subst t1
      refine En.in_ret ?_
      refine En.nx_ret ?_
      have he := Option.some.inj hr
      subst r
      exact En.ret1 rfl (.int .i64 (i4 : Int)) rfl ⟨I14, rfl, (hl3.trans hl15), hS16⟩
    · replace hr1 := cond_f hc hr1
      refine W.skip ?_
      refine En.in_normal ?_
      refine En.next ?_
      refine W.region (l := [0, 1]) (by kernel_rfl) ?_
      refine WO.incr (j := i4) rfl (by kernel_rfl) rfl (by first | omega | (dsimp only at *; omega)) ?_
      refine WO.vals [(1, 8, (.int .i64 ((i4 + 1 : Nat) : Int)))] (by kernel_rfl) (fun _ => by kernel_rfl) ?_
      refine WO.nil ?_
      refine En.weaken (fr' := [(0, (.slice a_p0 p0.length c_p0)), (1, (.func (.func g_p1) #[] k_p1.toArray)), (7, (.int .i64 (p0.length : Int))), (8, (.int .i64 ((i4 + 1 : Nat) : Int)))]) (En.round ⟨(), (Option.some.inj hr1).symm, I14, rfl, (hl3.trans hl15), hS16⟩) (Sub.cons rfl (Sub.cons rfl (Sub.cons rfl (Sub.cons rfl Sub.nil))))
  case lastt1 =>
    rintro _ _ w20 ⟨I2, rfl, hl3, hS21⟩ he
    cases he
    refine W.seq ?_
    refine W.region (l := [0]) (by kernel_rfl) ?_
    refine WO.vals [(0, 9, (.bool (decide ((p0.length : Int) < (p0.length : Int)))))] (by kernel_rfl) (fun _ => by kernel_rfl) ?_
    refine WO.nil ?_
    refine En.next ?_
    refine W.seq ?_
    refine W.cond (b := (decide ((p0.length : Int) < (p0.length : Int)))) rfl rfl (fun hc => ?_) (fun hc => ?_)
    · exact absurd hc (by first | (simp; done) | (simp; omega))
    clear hc
    refine W.exit ?_
    refine En.nx_exit ?_
    refine En.rd_exit ?_
    refine En.in_hit ?_
    refine En.next ?_
    refine W.seq ?_
    refine W.region (l := [0]) (by kernel_rfl) ?_
    refine WO.vals [(0, 4, (.int .i64 (-1)))] (by kernel_rfl) (fun _ => by kernel_rfl) ?_
    refine WO.nil ?_
    refine En.next ?_
    refine W.ret ?_
    have he := Option.some.inj hr
    subst r
    exact En.ret1 rfl (.int .i64 (-1)) rfl ⟨I2, rfl, hl3, hS21⟩
def slices_ContainsFunc_int (p0 : List Int) (p1 : Int → Option Bool) : Option Bool := (slices_IndexFunc_int p0 p1).bind (fun (r6 : Int) => some (decide (r6 ≥ 0)))
set_option maxHeartbeats 1000000 in
theorem slices_ContainsFunc_int_ok {E w : World} {I : Mem} {Os : List Mem} {p0 : List Int} {p1 : Int → Option Bool} {a_p0 : Option Addr} {c_p0 : Nat} {g_p1 : FuncId} {k_p1 : List Value} (h_p0 : RSl 1 (RInt .i64) I a_p0 c_p0 p0) (h_p1 : ∀ {F : List Mem} {I' : Mem} {w : World} {u0 : Int}, I.Le I' → St E w I' (F ++ Os) → ∀ {r : Bool}, p1 u0 = some r → Calls P g_p1 (([(.int .i64 u0)] : List Value) ++ k_p1).toArray w (fun e w' => ∃ (I'' : Mem), e = .returned (.bool r) ∧ I'.Le I'' ∧ St E w' I'' (F ++ Os))) (hcall_p1 : Callable P g_p1) (hS : St E w I Os) {r : Bool} (hr : slices_ContainsFunc_int p0 p1 = some r) :
    Calls P 35 #[(.slice a_p0 p0.length c_p0), (.func (.func g_p1) #[] k_p1.toArray)] w (fun e w' => ∃ (I' : Mem), e = .returned (.bool r) ∧ I.Le I' ∧ St E w' I' Os) := by
  refine calls_W (args := [(.slice a_p0 p0.length c_p0), (.func (.func g_p1) #[] k_p1.toArray)]) (fn := Try.f35) rfl rfl rfl ?_
  unfold slices_ContainsFunc_int at hr
  refine W.seq ?_
  refine W.region (l := [0]) (by kernel_rfl) ?_
  refine WO.vals [(0, 4, (.bool false))] (by kernel_rfl) (fun _ => by kernel_rfl) ?_
  refine WO.nil ?_
  refine En.next ?_
  refine W.seq ?_
  refine W.region (l := [0, 1, 2, 3, 4]) (by kernel_rfl) ?_
  refine WO.vals [(0, 5, (.slice a_p0 p0.length c_p0)), (1, 6, (.func (.func g_p1) #[] k_p1.toArray))] (by kernel_rfl) (fun _ => by kernel_rfl) ?_
  obtain ⟨r6, hx_r1, hr⟩ := bind_some hr
  refine WO.call rfl (by kernel_rfl) rfl (f := 62) (args := #[(.slice a_p0 p0.length c_p0), (.func (.func g_p1) #[] k_p1.toArray)]) (by kernel_rfl) (slices_IndexFunc_int_ok h_p0 (fun {F Ic wc} {_} hlc hSc  {rc} hrc => h_p1 hlc hSc  hrc) hcall_p1 hS hx_r1) ?_
  rintro _ w2 ⟨I3, rfl, hl4, hS5⟩
  refine ⟨_, rfl, trivial, ?_⟩
  refine WO.vals [(3, 8, (.bool (decide (r6 ≥ 0)))), (4, 4, (.bool (decide (r6 ≥ 0))))] (by kernel_rfl) (fun _ => by kernel_rfl) ?_
  refine WO.nil ?_
  refine En.next ?_
  refine W.ret ?_
  have he := Option.some.inj hr
  subst r
  exact En.ret1 rfl (.bool (decide (r6 ≥ 0))) rfl ⟨I3, rfl, hl4, hS5⟩
/-! ### Cycle -/
abbrev KV := List (Int × List Int)
def vsl (I : Mem) (v : Value) (x : List Int) : Prop := ∃ (a : Option Addr) (c : Nat), v = .slice a x.length c ∧ RSl 1 (RInt .i64) I a c x
instance : VMono vsl := ⟨fun hl ⟨a, c, e, h⟩ => ⟨a, c, e, RSl.mono h hl⟩⟩
abbrev EI : Int → Value := Value.int .i64
def hasB (l : KV) (x : Int) : Bool := decide ((((mget iEq l x).getD []).length : Int) > 0)
theorem contains_eq (xs : List Int) (f : Int → Option Bool) (q : Int → Bool) (hf : ∀ x, f x = some (q x)) : slices_ContainsFunc_int xs f = some (xs.any q) := by
  have hi : slices_IndexFunc_int xs f = some (match xs.findIdx? q with | some j => (j : Int) | none => -1) := by
    unfold slices_IndexFunc_int
    rw [forN_find q (fun j => (j : Int))]
    · cases xs.findIdx? q <;> rfl
    · intro j x hx
      simp only [idx_nat, hx, Option.bind_some, hf]
      cases q x <;> rfl
  unfold slices_ContainsFunc_int
  rw [hi]
  simp only [Option.bind_some, Option.some.injEq]
  rcases find_cases q xs with ⟨h, e⟩ | ⟨A, x, B, h1, h2, h3, h4⟩
  · rw [e]
    have : xs.any q = false := List.any_eq_false.2 fun x hx => by rw [h x hx]; simp
    rw [this]
    rfl
  · rw [h4]
    have : xs.any q = true := List.any_eq_true.2 ⟨x, by rw [h1]; simp, h2⟩
    rw [this]
    simp
/-- What deleting those who wait for nobody that is left may leave. -/
inductive Red (l : KV) : KV → Prop
  | refl : Red l l
  | step {c : KV} {k : Int} {b : List Int} : Red l c → (k, b) ∈ c → b.any (hasB c) = false → Red l (mdel iEq c k)
def Pass (l c : KV) : Prop := Red l c ∧ (c.length < l.length ∨ c = l ∧ ∀ p ∈ l, p.2.any (hasB l) = true)
theorem ieq : KEq iEq := fun _ _ => iEq_iff
theorem mdel_lt {ν : Type} {l : List (Int × ν)} {k : Int} (h : k ∈ l.map (·.1)) : (mdel iEq l k).length < l.length := by
  induction l with
  | nil => cases h
  | cons p r ih =>
    obtain ⟨a, u⟩ := p
    rw [mdel_cons]
    cases he : iEq k a with
    | true => simp
    | false =>
      have hn : k ≠ a := fun e => by rw [(ieq k a).2 e] at he; cases he
      simp only [List.map_cons, List.mem_cons] at h
      have := ih (h.resolve_left hn)
      simp only [cond_false, List.length_cons]
      omega
theorem Red.le {l c : KV} (h : Red l c) : c.length ≤ l.length := by
  induction h with
  | refl => exact Nat.le_refl _
  | @step c k b _ hm _ ih =>
    have : (mdel iEq c k).length < c.length := mdel_lt (List.mem_map.2 ⟨(k, b), hm, rfl⟩)
    omega
theorem Red.trans {l c d : KV} (h : Red l c) (h2 : Red c d) : Red l d := by
  induction h2 with
  | refl => exact h
  | step _ hm hb ih => exact .step ih hm hb
open Classical in
/-- Do some wait for one another? -/
noncomputable def cycB (l : KV) : Bool := decide (∃ S : List Int, S ≠ [] ∧ ∀ k ∈ S, ∃ b, (k, b) ∈ l ∧ ∃ x ∈ b, x ∈ S)
theorem mget_mem_i {ν : Type} {l : List (Int × ν)} (hn : (l.map (·.1)).Nodup) {k : Int} {v : ν} (hm : (k, v) ∈ l) : mget iEq l k = some v := by
  induction l with
  | nil => cases hm
  | cons p r ih =>
    obtain ⟨a, u⟩ := p
    rw [mget_cons]
    simp only [List.map_cons, List.nodup_cons] at hn
    rcases List.mem_cons.1 hm with e | e
    · injection e with e1 e2
      subst e1 e2
      rw [ieq.refl]
      rfl
    · have hne : k ≠ a := fun e2 => hn.1 (e2 ▸ List.mem_map.2 ⟨(k, v), e, rfl⟩)
      rw [ieq.ne hne]
      exact ih hn.2 e
theorem hasB_iff {l : KV} (hn : (l.map (·.1)).Nodup) (hv : ∀ p ∈ l, p.2 ≠ []) {x : Int} : hasB l x = true ↔ x ∈ l.map (·.1) := by
  unfold hasB
  constructor
  · intro h
    refine Classical.byContradiction fun hx => ?_
    rw [mget_none ieq hx] at h
    simp at h
  · intro h
    obtain ⟨⟨k, b⟩, hm, rfl⟩ := List.mem_map.1 h
    rw [mget_mem_i hn hm]
    have := hv _ hm
    simp only at this
    cases b with
    | nil => exact absurd rfl this
    | cons y r => simp
theorem Red.inv {l c : KV} (h : Red l c) (hn : (l.map (·.1)).Nodup) : c.Sublist l ∧ (c.map (·.1)).Nodup := by
  induction h with
  | refl => exact ⟨List.Sublist.refl _, hn⟩
  | step _ _ _ ih => exact ⟨(mdel_sub _ _).trans ih.1, mdel_nodup ih.2 _⟩
theorem Red.keep {l c : KV} (h : Red l c) (hn : (l.map (·.1)).Nodup) (hv : ∀ p ∈ l, p.2 ≠ []) {S : List Int} (hS : ∀ k ∈ S, ∃ b, (k, b) ∈ l ∧ ∃ x ∈ b, x ∈ S) : ∀ k ∈ S, k ∈ c.map (·.1) := by
  induction h with
  | refl => intro k hk; obtain ⟨b, hb, _⟩ := hS k hk; exact List.mem_map.2 ⟨_, hb, rfl⟩
  | @step c' k' b' hr hm hb ih =>
    intro k hk
    obtain ⟨h1, h2⟩ := hr.inv hn
    refine (mdel_mem ieq h2 k' k).2 ⟨?_, ih k hk⟩
    rintro rfl
    obtain ⟨b, hb2, x, hx, hxS⟩ := hS k hk
    have e : b = b' := by
      have e1 := mget_mem_i hn hb2
      have e2 := mget_mem_i hn (h1.subset hm)
      rw [e1] at e2
      exact Option.some.inj e2
    subst e
    have hxb := (hasB_iff h2 (fun p hp => hv p (h1.subset hp))).2 (ih x hxS)
    have := List.any_eq_false.1 hb x hx
    exact this hxb
theorem cyc_end {l c : KV} (h : Red l c) (hn : (l.map (·.1)).Nodup) (hv : ∀ p ∈ l, p.2 ≠ []) (hc : ∀ p ∈ c, p.2.any (hasB c) = true) : decide ((c.length : Int) > 0) = cycB l := by
  obtain ⟨h1, h2⟩ := h.inv hn
  unfold cycB
  rw [decide_eq_decide]
  constructor
  · intro hl
    refine ⟨c.map (·.1), fun e => ?_, fun k hk => ?_⟩
    · have := congrArg List.length e
      simp at this
      rw [this] at hl
      simp at hl
    · obtain ⟨⟨k', b⟩, hm, rfl⟩ := List.mem_map.1 hk
      obtain ⟨x, hx, hxb⟩ := List.any_eq_true.1 (hc _ hm)
      exact ⟨b, h1.subset hm, x, hx, (hasB_iff h2 (fun p hp => hv p (h1.subset hp))).1 hxb⟩
  · rintro ⟨S, hS1, hS2⟩
    obtain ⟨k, S', rfl⟩ := List.exists_cons_of_ne_nil hS1
    have := h.keep hn hv hS2 k (List.mem_cons_self ..)
    cases c with
    | nil => cases this
    | cons p r => simp
/-! ### Cycle: the walk -/
section
variable {E w : World} {I C : Mem} {Os : List Mem} {kb m : Nat} {cur : KV}
set_option maxHeartbeats 1000000 in
theorem mdl_cyc36_ok {q0 : Int} (hm1 : Gv.one kb (.cells #[.map (some m)] 75 (0, 0)) ∈ Os) (hC : C ∈ Os) (hM : OwnMap EI vsl I C m cur) (hS : St E w I Os) :
    Calls P 36 #[(.int .i64 q0), (.pointer (some ⟨kb, 0, none⟩))] w (fun e w' => ∃ (I' : Mem), e = .returned (.bool (hasB cur q0)) ∧ I.Le I' ∧ St E w' I' Os) := by
  refine calls_W (args := [(.int .i64 q0), (.pointer (some ⟨kb, 0, none⟩))]) (fn := Try.f36) rfl rfl rfl ?_
  refine W.seq ?_
  refine W.region (l := [0]) (by kernel_rfl) ?_
  refine WO.vals [(0, 3, (.bool false))] (by kernel_rfl) (fun _ => by kernel_rfl) ?_
  refine WO.nil ?_
  refine En.next ?_
  refine W.seq ?_
  refine W.region (l := [0, 1, 2, 3, 4, 5]) (by kernel_rfl) ?_
  refine WO.load rfl (by kernel_rfl) (by kernel_rfl) rfl (v := (.map (some m))) (fun w' hw' => cell_one ((rd_f (hS.rd hm1)) w' hw') (by kernel_rfl)) ?_
  refine WO.vals [(1, 5, (.int .i64 q0))] (by kernel_rfl) (fun _ => by kernel_rfl) ?_
  obtain ⟨v, hv, hq⟩ := OwnMap.lookup hM (t := 75) (kt := 3) (et := 32) (by kernel_rfl) (keyLaw_int (kt := 3) (by kernel_rfl)) q0 (zv := (.slice none 0 0)) (z0 := ([] : List Int)) (by kernel_rfl) ⟨none, 0, rfl, SlAt.nil⟩
  obtain ⟨a, c, rfl, _⟩ := hv
  refine WO.lookup rfl (by kernel_rfl) rfl rfl hq (rd_f (hS.rd hC)) (.slice a ((mget iEq cur q0).getD []).length c) rfl ?_
  refine WO.vals [(3, 7, (.int .i64 (((mget iEq cur q0).getD []).length : Int))), (4, 8, (.bool (hasB cur q0))), (5, 3, (.bool (hasB cur q0)))] (by kernel_rfl) (fun _ => by kernel_rfl) ?_
  refine WO.nil ?_
  refine En.next ?_
  refine W.ret ?_
  exact En.ret1 rfl (.bool (hasB cur q0)) rfl ⟨I, rfl, Mem.Le.refl _, hS⟩
set_option maxHeartbeats 1000000 in
theorem mdl_cyc34_ok {q0 : Int} {b : List Int} {a : Option Addr} {c : Nat} (hm1 : Gv.one kb (.cells #[.map (some m)] 75 (0, 0)) ∈ Os) (hC : C ∈ Os) (hM : OwnMap EI vsl I C m cur) (hb : RSl 1 (RInt .i64) I a c b) (hS : St E w I Os) :
    Calls P 34 #[(.int .i64 q0), (.slice a b.length c), (.pointer (some ⟨kb, 0, none⟩))] w (fun e w' => ∃ (I' : Mem), e = .returned (.bool (!(b.any (hasB cur)))) ∧ I.Le I' ∧ St E w' I' Os) := by
  refine calls_W (args := [(.int .i64 q0), (.slice a b.length c), (.pointer (some ⟨kb, 0, none⟩))]) (fn := Try.f34) rfl rfl rfl ?_
  refine W.seq ?_
  refine W.region (l := [0]) (by kernel_rfl) ?_
  refine WO.vals [(0, 5, (.bool false))] (by kernel_rfl) (fun _ => by kernel_rfl) ?_
  refine WO.nil ?_
  refine En.next ?_
  refine W.seq ?_
  refine W.region (l := [0, 1, 2, 3, 4]) (by kernel_rfl) ?_
  refine WO.vals [(0, 6, (.slice a b.length c)), (1, 7, (.func (.func 36) #[] #[(.pointer (some ⟨kb, 0, none⟩))]))] (by kernel_rfl) (fun _ => by kernel_rfl) ?_
  refine WO.call rfl (by kernel_rfl) rfl (f := 35) (args := #[(.slice a b.length c), (.func (.func 36) #[] #[(.pointer (some ⟨kb, 0, none⟩))])]) (by kernel_rfl) (slices_ContainsFunc_int_ok (p1 := fun x => some (hasB cur x)) (k_p1 := [(.pointer (some ⟨kb, 0, none⟩))]) hb (fun {F Ic wc} {u0} hlc hSc {rc} hrc => by obtain rfl := Option.some.inj hrc; exact mdl_cyc36_ok (List.mem_append_right _ hm1) (List.mem_append_right _ hC) (OwnMap.mono hM hlc) hSc) (fun _ _ => by kernel_rfl) hS (contains_eq b _ (hasB cur) (fun _ => rfl))) ?_
  rintro _ w1 ⟨I1, rfl, hl1, hS1⟩
  refine ⟨_, rfl, trivial, ?_⟩
  refine WO.vals [(3, 9, (.bool (!(b.any (hasB cur))))), (4, 5, (.bool (!(b.any (hasB cur)))))] (by kernel_rfl) (fun _ => by kernel_rfl) ?_
  refine WO.nil ?_
  refine En.next ?_
  refine W.ret ?_
  exact En.ret1 rfl (.bool (!(b.any (hasB cur)))) rfl ⟨I1, rfl, hl1, hS1⟩
set_option maxHeartbeats 1000000 in
theorem mdl_cyc33_ok (hM : OwnMap EI vsl I C m cur) (hS : St E w I (Gv.one kb (.cells #[.map (some m)] 75 (0, 0)) :: C :: Os)) :
    Calls P 33 #[(.map (some m)), (.func (.func 34) #[] #[(.pointer (some ⟨kb, 0, none⟩))])] w (fun e w' => ∃ (I' C' : Mem) (cur' : KV), e = .returned (.tuple #[]) ∧ I.Le I' ∧ St E w' I' (Gv.one kb (.cells #[.map (some m)] 75 (0, 0)) :: C' :: Os) ∧ OwnMap EI vsl I' C' m cur' ∧ Pass cur cur') := by
  refine calls_W (args := [(.map (some m)), (.func (.func 34) #[] #[(.pointer (some ⟨kb, 0, none⟩))])]) (fn := Try.f33) rfl rfl rfl ?_
  refine W.seq ?_
  refine W.region (l := [0, 1]) (by kernel_rfl) ?_
  refine WO.vals [(0, 6, (.map (some m)))] (by kernel_rfl) (fun _ => by kernel_rfl) ?_
  have hS1 := hS.front1
  refine WO.rangeMap hM hS1 (t := 75) (kt := 3) (et := 32) (by kernel_rfl) rfl (by kernel_rfl) rfl rfl (fun _ _ _ => trivial) ?_
  intro ib w2 D2 hS2 hit2
  refine WO.nil ?_
  refine En.next ?_
  refine W.block ?_
  refine W.weaken (fr' := [(0, (.map (some m))), (1, (.func (.func 34) #[] #[(.pointer (some ⟨kb, 0, none⟩))])), (7, (.pointer (some ⟨ib, 0, none⟩)))]) (W.loopG (fun k fr w => ∃ (I' D' C' : Mem) (cur' rem vis : KV) (last : Option (Value × Value)), fr = [(0, (.map (some m))), (1, (.func (.func 34) #[] #[(.pointer (some ⟨kb, 0, none⟩))])), (7, (.pointer (some ⟨ib, 0, none⟩)))] ∧ k = rem.length ∧ I.Le I' ∧ St E w I' (D' :: C' :: Gv.one kb (.cells #[.map (some m)] 75 (0, 0)) :: Os) ∧ IterSt EI vsl I' C' m cur' D' ib rem last ∧ Red cur cur' ∧ (cur'.length < cur.length ∨ cur' = cur ∧ (vis ++ rem).Perm cur ∧ ∀ p ∈ vis, p.2.any (hasB cur) = true)) ⟨I, D2, C, cur, cur, [], none, rfl, rfl, Mem.Le.refl _, hS2, hit2, .refl, .inr ⟨rfl, List.Perm.refl _, by simp⟩⟩ ?_) (Sub.cons rfl (Sub.cons rfl (Sub.cons rfl Sub.nil)))
  rintro _ _ w3 ⟨I3, D3, C3, cur3, rem3, vis3, last3, rfl, rfl, hl3, hS3, hit3, hred3, hcase3⟩
  refine W.seq ?_
  refine W.region (l := [0, 1]) (by kernel_rfl) ?_
  refine WO.next hit3 hS3 rfl (by kernel_rfl) rfl rfl (fun _ _ _ => trivial) (fun he => ?_) ?_
  · refine WO.vals [(1, 9, (.bool false))] (by kernel_rfl) (fun _ => by kernel_rfl) ?_
    refine WO.nil ?_
    refine En.next ?_
    refine W.seq ?_
    refine W.cond (b := false) rfl rfl (fun hc => ?_) (fun hc => ?_)
    · cases hc
    clear hc
    refine W.exit ?_
    refine En.nx_exit ?_
    refine En.rd_exit ?_
    refine En.in_hit ?_
    refine En.toRet ?_
    subst he
    refine En.ret0 rfl ⟨I3, C3, cur3, rfl, hl3, hS3.drop.front1, hit3.own, hred3, ?_⟩
    rcases hcase3 with h | ⟨h1, h2, h3⟩
    · exact .inl h
    · refine .inr ⟨h1, fun p hp => h3 p ?_⟩
      rw [List.append_nil] at h2
      exact h2.mem_iff.2 hp
  · intro k x rem4 v w4 D4 hp4 hv4 hS4 hit4
    obtain ⟨a, c, rfl, hx⟩ := hv4
    refine WO.vals [(1, 9, (.bool true))] (by kernel_rfl) (fun _ => by kernel_rfl) ?_
    refine WO.nil ?_
    refine En.next ?_
    refine W.seq ?_
    refine W.cond (b := true) rfl rfl (fun hc => ?_) (fun hc => ?_)
    rotate_left
    · cases hc
    clear hc
    refine W.skip ?_
    refine En.next ?_
    refine W.block ?_
    refine W.seq ?_
    refine W.region (l := [0, 1, 2, 3, 4]) (by kernel_rfl) ?_
    refine WO.entry hit4 hS4 rfl (by kernel_rfl) rfl rfl trivial ?_
    refine WO.vals [(1, 11, (.int .i64 k)), (2, 12, (.slice a x.length c)), (3, 4, (.int .i64 k)), (4, 5, (.slice a x.length c))] (by kernel_rfl) (fun _ => by kernel_rfl) ?_
    refine WO.nil ?_
    refine En.next ?_
    refine W.seq ?_
    refine W.region (l := [0, 1, 2, 3]) (by kernel_rfl) ?_
    refine WO.vals [(0, 13, (.func (.func 34) #[] #[(.pointer (some ⟨kb, 0, none⟩))])), (1, 14, (.int .i64 k)), (2, 15, (.slice a x.length c))] (by kernel_rfl) (fun _ => by kernel_rfl) ?_
    refine WO.callv rfl (by kernel_rfl) rfl (g := 34) (kk := [(.pointer (some ⟨kb, 0, none⟩))]) (args := [(.int .i64 k), (.slice a x.length c)]) rfl (by kernel_rfl) (fun _ _ => by kernel_rfl) (mdl_cyc34_ok (List.Mem.tail _ (List.Mem.tail _ (List.Mem.head _))) (List.Mem.tail _ (List.Mem.head _)) hit4.own hx hS4) ?_
    rintro _ w5 ⟨I5, rfl, hl5, hS5⟩
    refine ⟨_, rfl, trivial, ?_⟩
    refine WO.nil ?_
    refine En.next ?_
    have hlen4 := hp4.length_eq
    simp only [List.length_cons] at hlen4
    have hkx : (k, x) ∈ cur3 := hit3.rem_mem (hp4.mem_iff.2 (List.mem_cons_self ..))
    refine W.cond (b := (!(x.any (hasB cur3)))) rfl rfl (fun hc => ?_) (fun hc => ?_)
    · have hx0 : x.any (hasB cur3) = false := by simpa using hc
      refine W.region (l := [0, 1, 2]) (by kernel_rfl) ?_
      refine WO.vals [(0, 17, (.map (some m))), (1, 18, (.int .i64 k))] (by kernel_rfl) (fun _ => by kernel_rfl) ?_
      have hS6 := hS5.front1
      refine WO.deleteIt (IterSt.mono hit4 hl5) hS6 (t := 75) (kt := 3) (et := 32) (by kernel_rfl) (keyLaw_int (kt := 3) (by kernel_rfl)) rfl (by kernel_rfl) rfl rfl k rfl (fun _ _ _ => trivial) ?_
      intro w7 C7 rem7 hS7 hr7 hit7
      refine WO.nil ?_
      refine En.in_normal ?_
      have hlt : (mdel iEq cur3 k).length < cur3.length := mdel_lt (List.mem_map.2 ⟨(k, x), hkx, rfl⟩)
      have hle := hred3.le
      refine En.weaken (fr' := [(0, (.map (some m))), (1, (.func (.func 34) #[] #[(.pointer (some ⟨kb, 0, none⟩))])), (7, (.pointer (some ⟨ib, 0, none⟩)))]) (En.round ⟨rem7.length, by omega, I5, D4, C7, mdel iEq cur3 k, rem7, [], none, rfl, rfl, hl3.trans hl5, hS7.front1, hit7, .step hred3 hkx hx0, .inl (by omega)⟩) (Sub.cons rfl (Sub.cons rfl (Sub.cons rfl Sub.nil)))
    · have hx0 : x.any (hasB cur3) = true := by simpa using hc
      refine W.skip ?_
      refine En.in_normal ?_
      refine En.weaken (fr' := [(0, (.map (some m))), (1, (.func (.func 34) #[] #[(.pointer (some ⟨kb, 0, none⟩))])), (7, (.pointer (some ⟨ib, 0, none⟩)))]) (En.round ⟨rem4.length, by omega, I5, D4, C3, cur3, rem4, vis3 ++ [(k, x)], _, rfl, rfl, hl3.trans hl5, hS5, IterSt.mono hit4 hl5, hred3, ?_⟩) (Sub.cons rfl (Sub.cons rfl (Sub.cons rfl Sub.nil)))
      rcases hcase3 with h | ⟨h1, h2, h3⟩
      · exact .inl h
      · refine .inr ⟨h1, ?_, fun p hp => ?_⟩
        · rw [List.append_assoc, List.singleton_append]
          exact (List.Perm.append_left vis3 hp4.symm).trans h2
        · rw [List.mem_append, List.mem_singleton] at hp
          rcases hp with hp | rfl
          · exact h3 p hp
          · rw [← h1]; exact hx0
end
noncomputable def mdl_left (p0 : mdl_Locks) : Option KV := loopO (fun (s : Int × KV) => match s with | (s4, s3) => (bif (decide (s4 ≤ 8)) then (mdl_Locks_Blockers p0 s4).bind (fun (r : List Int) => (bif (decide ((r.length : Int) > 0)) then some (.inl (w64 (s4 + 1), mset iEq s3 s4 r)) else some (.inl (w64 (s4 + 1), s3)))) else some (.inr s3))) (1, [])
noncomputable def mdl_Locks_Cycle (p0 : mdl_Locks) : Option Bool := (mdl_Locks_dead p0).bind (fun (r8 : Bool) => (mdl_left p0).bind (fun (l : KV) => if (l.map (·.1)).Nodup ∧ ∀ p ∈ l, p.2 ≠ [] then some (cycB l) else none))
set_option maxHeartbeats 1000000 in
theorem mdl_Locks_Cycle_ok {E w : World} {I : Mem} {Os : List Mem} {p0 : mdl_Locks} {b_p0 : Nat} {w_p0 : W_mdl_Locks} (h_p0 : ok_mdl_Locks I p0 w_p0) (hS : St E w I ((Gv.one b_p0 (.cells (cs_mdl_Locks p0 w_p0).toArray 56 (0, 0))) :: (w_p0.at_.C) :: Os)) {r : Bool} (hr : mdl_Locks_Cycle p0 = some r) :
    Calls P 19 #[(.pointer (some ⟨b_p0, 0, none⟩))] w (fun e w' => ∃ (I' : Mem), e = .returned (.bool r) ∧ I.Le I' ∧ St E w' I' ((Gv.one b_p0 (.cells (cs_mdl_Locks p0 w_p0).toArray 56 (0, 0))) :: w_p0.at_.C :: Os)) := by
  refine calls_W (args := [(.pointer (some ⟨b_p0, 0, none⟩))]) (fn := Try.f19) rfl rfl rfl ?_
  unfold mdl_Locks_Cycle at hr
  refine W.seq ?_
  refine W.region (l := [0]) (by kernel_rfl) ?_
  refine WO.vals [(0, 2, (.bool false))] (by kernel_rfl) (fun _ => by kernel_rfl) ?_
  refine WO.nil ?_
  refine En.next ?_
  refine W.seq ?_
  refine W.seq ?_
  refine W.region (l := [0, 1]) (by kernel_rfl) ?_
  refine WO.vals [(0, 7, (.pointer (some ⟨b_p0, 0, none⟩)))] (by kernel_rfl) (fun _ => by kernel_rfl) ?_
  obtain ⟨r12, hx_r7, hr⟩ := bind_some hr
  obtain rfl : false = r12 := Option.some.inj hx_r7
  refine WO.call rfl (by kernel_rfl) rfl (f := 28) (args := #[(.pointer (some ⟨b_p0, 0, none⟩))]) (by kernel_rfl) (mdl_Locks_dead_ok h_p0 hS hx_r7) ?_
  rintro _ w1 ⟨I1, rfl, hl1, hS1⟩
  refine ⟨_, rfl, trivial, ?_⟩
  refine WO.nil ?_
  refine En.next ?_
  refine W.cond (b := false) rfl rfl (fun hc => ?_) (fun hc => ?_)
  · cases hc
  clear hc
  refine W.skip ?_
  refine En.next ?_
  refine W.seq ?_
  refine W.region (l := [0, 1, 2]) (by kernel_rfl) ?_
  refine WO.new hS1 rfl (by kernel_rfl) rfl (.map #[] 0) (fun b => .map (some b)) (by kernel_rfl) (fun _ _ _ => trivial) ?_
  intro bm w2 hS2
  refine WO.new hS2 rfl (by kernel_rfl) rfl (.cells #[.map none] 75 (0, 0)) (fun b => .pointer (some ⟨b, 0, none⟩)) (by kernel_rfl) (fun _ _ _ => trivial) ?_
  intro kb w3 hS3
  refine WO.storeBox hS3 rfl (by kernel_rfl) rfl 0 rfl rfl (by kernel_rfl) (by kernel_rfl) (by kernel_rfl) (#[.map (some bm)]) (by kernel_rfl) (fun _ _ => trivial) ?_
  intro w4 hS4
  refine WO.nil ?_
  refine En.next ?_
  obtain ⟨l, hl, hr⟩ := bind_some hr
  unfold mdl_left at hl
  refine W.seq ?_
  refine W.seq ?_
  refine W.region (l := [0]) (by kernel_rfl) ?_
  refine WO.vals [(0, 4, (.int .i64 1))] (by kernel_rfl) (fun _ => by kernel_rfl) ?_
  refine WO.nil ?_
  refine En.next ?_
  refine W.block ?_
  refine W.weaken (fr' := [(0, (.pointer (some ⟨b_p0, 0, none⟩))), (3, (.pointer (some ⟨kb, 0, none⟩))), (4, (.int .i64 1))]) (W.loopO hl (fun (s : Int × KV) fr w => match s with | (s4, s3) => ∃ (I' C' : Mem), fr = [(0, (.pointer (some ⟨b_p0, 0, none⟩))), (3, (.pointer (some ⟨kb, 0, none⟩))), (4, (.int .i64 s4))] ∧ I.Le I' ∧ St E w I' (Gv.one kb (.cells #[.map (some bm)] 75 (0, 0)) :: C' :: (Gv.one b_p0 (.cells (cs_mdl_Locks p0 w_p0).toArray 56 (0, 0))) :: (w_p0.at_.C) :: Os) ∧ OwnMap EI vsl I' C' bm s3) ⟨I1, _, rfl, hl1, hS4, OwnMap.nil (enc := EI) (val := vsl) (I := I1) (m := bm)⟩ ?_) (Sub.cons rfl (Sub.cons rfl (Sub.cons rfl Sub.nil)))
  rintro ⟨s4, s3⟩ _ w5 ⟨I5, C5, rfl, hl5, hS5, hM5⟩ x hx hext
  refine W.seq ?_
  refine W.seq ?_
  refine W.region (l := [0, 1]) (by kernel_rfl) ?_
  refine WO.vals [(0, 10, (.int .i64 s4)), (1, 11, (.bool (decide (s4 ≤ 8))))] (by kernel_rfl) (fun _ => by kernel_rfl) ?_
  refine WO.nil ?_
  refine En.next ?_
  refine W.cond (b := (decide (s4 ≤ 8))) rfl rfl (fun hc => ?_) (fun hc => ?_)
  · replace hx := cond_t hc hx
    refine W.skip ?_
    refine En.next ?_
    refine W.seq ?_
    refine W.block ?_
    refine W.seq ?_
    refine W.region (l := [0, 1, 2, 3]) (by kernel_rfl) ?_
    refine WO.vals [(0, 14, (.pointer (some ⟨b_p0, 0, none⟩))), (1, 15, (.int .i64 s4))] (by kernel_rfl) (fun _ => by kernel_rfl) ?_
    obtain ⟨b, hb, hx⟩ := bind_some hx
    have hS6 := hS5.front2.front3.front1
    refine WO.call rfl (by kernel_rfl) rfl (f := 26) (args := #[(.pointer (some ⟨b_p0, 0, none⟩)), (.int .i64 s4)]) (by kernel_rfl) (mdl_Locks_Blockers_ok (ok_mdl_Locks.mono h_p0 hl5) hS6 hb) ?_
    rintro _ w7 ⟨I7, a, c, rfl, hl7, hS7, hb7⟩
    refine ⟨_, rfl, trivial, ?_⟩
    refine WO.vals [(3, 5, (.slice a b.length c))] (by kernel_rfl) (fun _ => by kernel_rfl) ?_
    refine WO.nil ?_
    refine En.next ?_
    refine W.seq ?_
    refine W.region (l := [0, 1, 2]) (by kernel_rfl) ?_
    refine WO.vals [(0, 17, (.slice a b.length c)), (1, 18, (.int .i64 (b.length : Int))), (2, 19, (.bool (decide ((b.length : Int) > 0))))] (by kernel_rfl) (fun _ => by kernel_rfl) ?_
    refine WO.nil ?_
    refine En.next ?_
    have hS8 := hS7.front2.front3.front1
    refine W.cond (b := (decide ((b.length : Int) > 0))) rfl rfl (fun hc => ?_) (fun hc => ?_)
    · replace hx := cond_t hc hx
      refine W.region (l := [0, 1, 2, 3]) (by kernel_rfl) ?_
      refine WO.load rfl (by kernel_rfl) (by kernel_rfl) rfl (v := (.map (some bm))) (fun w' hw' => cell_one ((rd_f (hS8.rd (List.Mem.head _))) w' hw') (by kernel_rfl)) ?_
      refine WO.vals [(1, 21, (.int .i64 s4)), (2, 22, (.slice a b.length c))] (by kernel_rfl) (fun _ => by kernel_rfl) ?_
      refine WO.update (hM5.mono hl7) hS8.front1 (t := 75) (kt := 3) (et := 32) (by kernel_rfl) (keyLaw_int (kt := 3) (by kernel_rfl)) rfl (by kernel_rfl) rfl (.inl rfl) rfl s4 rfl rfl (xv := b) ⟨a, c, rfl, hb7⟩ (fun _ _ _ => trivial) ?_
      intro w9 C9 hS9 hM9
      refine WO.nil ?_
      refine En.in_normal ?_
      refine En.next ?_
      refine W.region (l := [0, 1, 2]) (by kernel_rfl) ?_
      refine WO.vals [(0, 12, (.int .i64 s4)), (1, 13, (.int .i64 (w64 (s4 + 1)))), (2, 4, (.int .i64 (w64 (s4 + 1))))] (by kernel_rfl) (fun _ => by kernel_rfl) ?_
      refine WO.nil ?_
      refine En.weaken (fr' := [(0, (.pointer (some ⟨b_p0, 0, none⟩))), (3, (.pointer (some ⟨kb, 0, none⟩))), (4, (.int .i64 (w64 (s4 + 1))))]) (En.round ⟨_, (Option.some.inj hx).symm, I7, C9, rfl, hl5.trans hl7, hS9.front1, hM9⟩) (Sub.cons rfl (Sub.cons rfl (Sub.cons rfl Sub.nil)))
    · replace hx := cond_f hc hx
      refine W.skip ?_
      refine En.in_normal ?_
      refine En.next ?_
      refine W.region (l := [0, 1, 2]) (by kernel_rfl) ?_
      refine WO.vals [(0, 12, (.int .i64 s4)), (1, 13, (.int .i64 (w64 (s4 + 1)))), (2, 4, (.int .i64 (w64 (s4 + 1))))] (by kernel_rfl) (fun _ => by kernel_rfl) ?_
      refine WO.nil ?_
      refine En.weaken (fr' := [(0, (.pointer (some ⟨b_p0, 0, none⟩))), (3, (.pointer (some ⟨kb, 0, none⟩))), (4, (.int .i64 (w64 (s4 + 1))))]) (En.round ⟨_, (Option.some.inj hx).symm, I7, C5, rfl, hl5.trans hl7, hS8, hM5.mono hl7⟩) (Sub.cons rfl (Sub.cons rfl (Sub.cons rfl Sub.nil)))
  replace hx := cond_f hc hx
  refine W.exit ?_
  refine En.nx_exit ?_
  refine En.rd_exit ?_
  refine En.in_hit ?_
  refine En.next ?_
  have hl := hext _ (Option.some.inj hx).symm
  subst l
  have hnv : (s3.map (·.1)).Nodup ∧ ∀ p ∈ s3, p.2 ≠ [] := by
    refine Classical.byContradiction fun hn => ?_
    rw [if_neg hn] at hr
    cases hr
  rw [if_pos hnv] at hr
  have he := Option.some.inj hr
  subst r
  refine W.block ?_
  refine W.weaken (fr' := [(0, (.pointer (some ⟨b_p0, 0, none⟩))), (3, (.pointer (some ⟨kb, 0, none⟩)))]) (W.loopG (fun k fr w => ∃ (I' C' : Mem) (cur : KV), fr = [(0, (.pointer (some ⟨b_p0, 0, none⟩))), (3, (.pointer (some ⟨kb, 0, none⟩)))] ∧ k = cur.length ∧ I.Le I' ∧ St E w I' (Gv.one kb (.cells #[.map (some bm)] 75 (0, 0)) :: C' :: (Gv.one b_p0 (.cells (cs_mdl_Locks p0 w_p0).toArray 56 (0, 0))) :: (w_p0.at_.C) :: Os) ∧ OwnMap EI vsl I' C' bm cur ∧ Red s3 cur) ⟨I5, C5, s3, rfl, rfl, hl5, hS5, hM5, .refl⟩ ?_) (Sub.cons rfl (Sub.cons rfl Sub.nil))
  rintro _ _ w6 ⟨I6, C6, cur, rfl, rfl, hl6, hS6, hM6, hred⟩
  refine W.block ?_
  refine W.seq ?_
  refine W.region (l := [0, 1, 2]) (by kernel_rfl) ?_
  refine WO.load rfl (by kernel_rfl) (by kernel_rfl) rfl (v := (.map (some bm))) (fun w' hw' => cell_one ((rd_f (hS6.rd (List.Mem.head _))) w' hw') (by kernel_rfl)) ?_
  refine WO.lenMap hM6 (t := 75) (kt := 3) (et := 32) (by kernel_rfl) rfl (by kernel_rfl) rfl (rd_f (hS6.rd (List.Mem.tail _ (List.Mem.head _)))) ?_
  refine WO.vals [(2, 6, (.int .i64 (cur.length : Int)))] (by kernel_rfl) (fun _ => by kernel_rfl) ?_
  refine WO.nil ?_
  refine En.next ?_
  refine W.seq ?_
  refine W.region (l := [0, 1, 2]) (by kernel_rfl) ?_
  refine WO.load rfl (by kernel_rfl) (by kernel_rfl) rfl (v := (.map (some bm))) (fun w' hw' => cell_one ((rd_f (hS6.rd (List.Mem.head _))) w' hw') (by kernel_rfl)) ?_
  refine WO.vals [(1, 26, (.func (.func 34) #[] #[(.pointer (some ⟨kb, 0, none⟩))]))] (by kernel_rfl) (fun _ => by kernel_rfl) ?_
  refine WO.call rfl (by kernel_rfl) rfl (f := 33) (args := #[(.map (some bm)), (.func (.func 34) #[] #[(.pointer (some ⟨kb, 0, none⟩))])]) (by kernel_rfl) (mdl_cyc33_ok hM6 hS6) ?_
  rintro _ w7 ⟨I7, C7, cur7, rfl, hl7, hS7, hM7, hpass⟩
  refine ⟨_, rfl, trivial, ?_⟩
  refine WO.nil ?_
  refine En.next ?_
  refine W.seq ?_
  refine W.region (l := [0, 1, 2, 3]) (by kernel_rfl) ?_
  refine WO.load rfl (by kernel_rfl) (by kernel_rfl) rfl (v := (.map (some bm))) (fun w' hw' => cell_one ((rd_f (hS7.rd (List.Mem.head _))) w' hw') (by kernel_rfl)) ?_
  refine WO.lenMap hM7 (t := 75) (kt := 3) (et := 32) (by kernel_rfl) rfl (by kernel_rfl) rfl (rd_f (hS7.rd (List.Mem.tail _ (List.Mem.head _)))) ?_
  refine WO.vals [(2, 30, (.int .i64 (cur.length : Int))), (3, 31, (.bool ((cur7.length : Int) == (cur.length : Int))))] (by kernel_rfl) (fun _ => by kernel_rfl) ?_
  refine WO.nil ?_
  refine En.next ?_
  refine W.cond (b := ((cur7.length : Int) == (cur.length : Int))) rfl rfl (fun hc => ?_) (fun hc => ?_)
  · have hlen : cur7.length = cur.length := by have := eq_of_beq hc; omega
    have hpass2 := hpass.2.resolve_left (by omega)
    have hfin := cyc_end hred hnv.1 hnv.2 hpass2.2
    refine W.seq ?_
    refine W.region (l := [0, 1, 2]) (by kernel_rfl) ?_
    refine WO.vals [(0, 32, (.int .i64 (cur.length : Int))), (1, 33, (.bool (decide ((cur.length : Int) > 0)))), (2, 2, (.bool (decide ((cur.length : Int) > 0))))] (by kernel_rfl) (fun _ => by kernel_rfl) ?_
    refine WO.nil ?_
    refine En.next ?_
    refine W.ret ?_
    refine En.in_ret ?_
    refine En.rd_ret ?_
    refine En.in_ret ?_
    have hS8 := hS7.drop.drop
    exact En.ret1 rfl (.bool (decide ((cur.length : Int) > 0))) rfl ⟨I7, by rw [hfin], hl6.trans hl7, hS8⟩
  · have hlen : cur7.length < cur.length := by
      rcases hpass.2 with h | ⟨h, _⟩
      · exact h
      · subst h
        simp at hc
    refine W.skip ?_
    refine En.in_normal ?_
    refine En.weaken (fr' := [(0, (.pointer (some ⟨b_p0, 0, none⟩))), (3, (.pointer (some ⟨kb, 0, none⟩)))]) (En.round ⟨cur7.length, hlen, I7, C7, cur7, rfl, rfl, hl6.trans hl7, hS7, hM7, hred.trans hpass.1⟩) (Sub.cons rfl (Sub.cons rfl Sub.nil))

end Go.Proofs.Ytdmefifamlpbiaa
