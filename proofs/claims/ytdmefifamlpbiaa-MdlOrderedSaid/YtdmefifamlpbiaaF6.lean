/- What functions of the program come to, each by a plain one. Conditions: none. -/
import Derived.Test.YtdmefifamlpbiaaF5
set_option maxRecDepth 100000
namespace Go.Proofs.Ytdmefifamlpbiaa
open Go.Gv
def mdl_Locks_Ask_zero (p1 : Int) (p2 : api_Need) : Option (Bool × Int) := (mdl_Locks_check_zero p1).bind (fun (r11 : Int) => some (false, 1))
set_option maxHeartbeats 1000000 in
theorem mdl_Locks_Ask_zero_ok {E w : World} {I : Mem} {Os : List Mem} {p1 : Int} {p2 : api_Need} {b_p0 : Nat} (hS : St E w I ((Gv.one b_p0 (.cells #[(.map none)] 56 (0, 0))) :: Os)) {r : Bool × Int} (hr : mdl_Locks_Ask_zero p1 p2 = some r) :
    Calls P 24 #[(.pointer (some ⟨b_p0, 0, none⟩)), (.int .i64 p1), (.agg (cs_api_Need p2).toArray)] w (fun e w' => ∃ (I' : Mem), e = .returned (.tuple #[(.bool r.1), (.int .i64 r.2)]) ∧ I.Le I' ∧ St E w' I' ((Gv.one b_p0 (.cells #[(.map none)] 56 (0, 0))) :: Os)) := by
  refine calls_W (args := [(.pointer (some ⟨b_p0, 0, none⟩)), (.int .i64 p1), (.agg (cs_api_Need p2).toArray)]) (fn := Try.f24) rfl rfl rfl ?_
  unfold mdl_Locks_Ask_zero at hr
  refine W.seq ?_
  refine W.region (l := [0, 1, 2]) (by kernel_rfl) ?_
  refine WO.new hS rfl (by kernel_rfl) rfl (.cells (cs_api_Need p2).toArray 43 (0, 0)) (fun b => .pointer (some ⟨b, 0, none⟩)) (by kernel_rfl) (fun _ _ _ => trivial) ?_
  intro b1 w4 hS3
  refine WO.vals [(1, 6, (.bool false)), (2, 7, (.int .i64 0))] (by kernel_rfl) (fun _ => by kernel_rfl) ?_
  refine WO.nil ?_
  refine En.next ?_
  refine W.seq ?_
  refine W.seq ?_
  refine W.region (l := [0, 1, 2, 3]) (by kernel_rfl) ?_
  refine WO.vals [(0, 13, (.pointer (some ⟨b_p0, 0, none⟩))), (1, 14, (.int .i64 p1))] (by kernel_rfl) (fun _ => by kernel_rfl) ?_
  have hS5 := hS3.front1
  obtain ⟨r11, hx_r6, hr⟩ := bind_some hr
  obtain rfl : 1 = r11 := Option.some.inj hx_r6
  refine WO.call rfl (by kernel_rfl) rfl (f := 37) (args := #[(.pointer (some ⟨b_p0, 0, none⟩)), (.int .i64 p1)]) (by kernel_rfl) (mdl_Locks_check_zero_ok  hS5 hx_r6) ?_
  rintro _ w7 ⟨I8, rfl, hl9, hS10⟩
  refine ⟨_, rfl, trivial, ?_⟩
  refine WO.vals [(3, 8, (.int .i64 1))] (by kernel_rfl) (fun _ => by kernel_rfl) ?_
  refine WO.nil ?_
  refine En.next ?_
  refine W.seq ?_
  refine W.region (l := [0, 1]) (by kernel_rfl) ?_
  refine WO.vals [(0, 16, (.int .i64 1)), (1, 17, (.bool true))] (by kernel_rfl) (fun _ => by kernel_rfl) ?_
  refine WO.nil ?_
  refine En.next ?_
  refine W.cond (b := true) rfl rfl (fun hc => ?_) (fun hc => ?_)
  rotate_left
  · cases hc
  clear hc
  refine W.seq ?_
  refine W.region (l := [0, 1, 2]) (by kernel_rfl) ?_
  refine WO.vals [(0, 18, (.int .i64 1)), (1, 6, (.bool false)), (2, 7, (.int .i64 1))] (by kernel_rfl) (fun _ => by kernel_rfl) ?_
  refine WO.nil ?_
  refine En.next ?_
  refine W.ret ?_
  refine En.nx_ret ?_
  have hS12 := hS10.front1
  have hS13 := hS12.drop
  have he := Option.some.inj hr
  subst r
  exact En.ret2 rfl (.bool false) (.int .i64 1) rfl rfl ⟨I8, rfl, hl9, hS13⟩
def mdl_Locks_Waits_zero (p1 : Int) : Option (api_Need × Bool) := (mdl_Locks_dead_zero).bind (fun (r11 : Bool) => some (z_api_Need, false))
set_option maxHeartbeats 1000000 in
theorem mdl_Locks_Waits_zero_ok {E w : World} {I : Mem} {Os : List Mem} {p1 : Int} {b_p0 : Nat} (hS : St E w I ((Gv.one b_p0 (.cells #[(.map none)] 56 (0, 0))) :: Os)) {r : api_Need × Bool} (hr : mdl_Locks_Waits_zero p1 = some r) :
    Calls P 20 #[(.pointer (some ⟨b_p0, 0, none⟩)), (.int .i64 p1)] w (fun e w' => ∃ (I' : Mem), e = .returned (.tuple #[(.agg (cs_api_Need r.1).toArray), (.bool r.2)]) ∧ I.Le I' ∧ St E w' I' ((Gv.one b_p0 (.cells #[(.map none)] 56 (0, 0))) :: Os)) := by
  refine calls_W (args := [(.pointer (some ⟨b_p0, 0, none⟩)), (.int .i64 p1)]) (fn := Try.f20) rfl rfl rfl ?_
  unfold mdl_Locks_Waits_zero at hr
  refine W.seq ?_
  refine W.region (l := [0, 1]) (by kernel_rfl) ?_
  refine WO.new hS rfl (by kernel_rfl) rfl (.cells (cs_api_Need z_api_Need).toArray 43 (0, 0)) (fun b => .pointer (some ⟨b, 0, none⟩)) (by kernel_rfl) (fun _ _ _ => trivial) ?_
  intro b1 w4 hS3
  refine WO.vals [(1, 5, (.bool false))] (by kernel_rfl) (fun _ => by kernel_rfl) ?_
  refine WO.nil ?_
  refine En.next ?_
  refine W.seq ?_
  refine W.seq ?_
  refine W.region (l := [0, 1]) (by kernel_rfl) ?_
  refine WO.vals [(0, 9, (.pointer (some ⟨b_p0, 0, none⟩)))] (by kernel_rfl) (fun _ => by kernel_rfl) ?_
  have hS5 := hS3.front1
  obtain ⟨r11, hx_r6, hr⟩ := bind_some hr
  obtain rfl : true = r11 := Option.some.inj hx_r6
  refine WO.call rfl (by kernel_rfl) rfl (f := 28) (args := #[(.pointer (some ⟨b_p0, 0, none⟩))]) (by kernel_rfl) (mdl_Locks_dead_zero_ok  hS5 hx_r6) ?_
  rintro _ w7 ⟨I8, rfl, hl9, hS10⟩
  refine ⟨_, rfl, trivial, ?_⟩
  refine WO.nil ?_
  refine En.next ?_
  refine W.cond (b := true) rfl rfl (fun hc => ?_) (fun hc => ?_)
  rotate_left
  · cases hc
  clear hc
  refine W.seq ?_
  refine W.region (l := [0, 1, 2]) (by kernel_rfl) ?_
  refine WO.vals [(0, 11, (.agg (cs_api_Need z_api_Need).toArray))] (by kernel_rfl) (fun _ => by kernel_rfl) ?_
  have hS12 := hS10.front1
  refine WO.storeBox hS12 rfl (by kernel_rfl) rfl 0 rfl rfl (by kernel_rfl) (by kernel_rfl) (by kernel_rfl) ((cs_api_Need z_api_Need).toArray) (by kernel_rfl) (fun _ _ => trivial) ?_
  intro w14 hS13
  refine WO.vals [(2, 5, (.bool false))] (by kernel_rfl) (fun _ => by kernel_rfl) ?_
  refine WO.nil ?_
  refine En.next ?_
  refine W.ret ?_
  refine En.nx_ret ?_
  have hS15 := hS13.drop
  have he := Option.some.inj hr
  subst r
  exact En.retc2 rfl (.agg (cs_api_Need z_api_Need).toArray) (.bool false) ⟨_, _, rfl, run_loadVarN (cs := (cs_api_Need z_api_Need)) (by kernel_rfl) (by kernel_rfl) (cells_one (hS13.rd (List.Mem.head _)) (by kernel_rfl))⟩ rfl ⟨I8, rfl, hl9, hS15⟩
def mdl_Locks_Free_zero (p1 : Int) (p2 : ByteArray) : Option Int := (mdl_Locks_check_zero p1).bind (fun (r6 : Int) => some 1)
set_option maxHeartbeats 1000000 in
theorem mdl_Locks_Free_zero_ok {E w : World} {I : Mem} {Os : List Mem} {p1 : Int} {p2 : ByteArray} {b_p0 : Nat} (hS : St E w I ((Gv.one b_p0 (.cells #[(.map none)] 56 (0, 0))) :: Os)) {r : Int} (hr : mdl_Locks_Free_zero p1 p2 = some r) :
    Calls P 25 #[(.pointer (some ⟨b_p0, 0, none⟩)), (.int .i64 p1), (.string p2)] w (fun e w' => ∃ (I' : Mem), e = .returned (.int .i64 r) ∧ I.Le I' ∧ St E w' I' ((Gv.one b_p0 (.cells #[(.map none)] 56 (0, 0))) :: Os)) := by
  refine calls_W (args := [(.pointer (some ⟨b_p0, 0, none⟩)), (.int .i64 p1), (.string p2)]) (fn := Try.f25) rfl rfl rfl ?_
  unfold mdl_Locks_Free_zero at hr
  refine W.seq ?_
  refine W.region (l := [0]) (by kernel_rfl) ?_
  refine WO.vals [(0, 6, (.int .i64 0))] (by kernel_rfl) (fun _ => by kernel_rfl) ?_
  refine WO.nil ?_
  refine En.next ?_
  refine W.seq ?_
  refine W.seq ?_
  refine W.region (l := [0, 1, 2, 3]) (by kernel_rfl) ?_
  refine WO.vals [(0, 9, (.pointer (some ⟨b_p0, 0, none⟩))), (1, 10, (.int .i64 p1))] (by kernel_rfl) (fun _ => by kernel_rfl) ?_
  obtain ⟨r6, hx_r1, hr⟩ := bind_some hr
  obtain rfl : 1 = r6 := Option.some.inj hx_r1
  refine WO.call rfl (by kernel_rfl) rfl (f := 37) (args := #[(.pointer (some ⟨b_p0, 0, none⟩)), (.int .i64 p1)]) (by kernel_rfl) (mdl_Locks_check_zero_ok  hS hx_r1) ?_
  rintro _ w2 ⟨I3, rfl, hl4, hS5⟩
  refine ⟨_, rfl, trivial, ?_⟩
  refine WO.vals [(3, 7, (.int .i64 1))] (by kernel_rfl) (fun _ => by kernel_rfl) ?_
  refine WO.nil ?_
  refine En.next ?_
  refine W.seq ?_
  refine W.region (l := [0, 1]) (by kernel_rfl) ?_
  refine WO.vals [(0, 12, (.int .i64 1)), (1, 13, (.bool true))] (by kernel_rfl) (fun _ => by kernel_rfl) ?_
  refine WO.nil ?_
  refine En.next ?_
  refine W.cond (b := true) rfl rfl (fun hc => ?_) (fun hc => ?_)
  rotate_left
  · cases hc
  clear hc
  refine W.seq ?_
  refine W.region (l := [0, 1]) (by kernel_rfl) ?_
  refine WO.vals [(0, 14, (.int .i64 1)), (1, 6, (.int .i64 1))] (by kernel_rfl) (fun _ => by kernel_rfl) ?_
  refine WO.nil ?_
  refine En.next ?_
  refine W.ret ?_
  refine En.nx_ret ?_
  have he := Option.some.inj hr
  subst r
  exact En.ret1 rfl (.int .i64 1) rfl ⟨I3, rfl, hl4, hS5⟩
def mdl_Locks_Leave_zero (p1 : Int) : Option Int := (mdl_Locks_check_zero p1).bind (fun (r6 : Int) => some 1)
set_option maxHeartbeats 1000000 in
theorem mdl_Locks_Leave_zero_ok {E w : World} {I : Mem} {Os : List Mem} {p1 : Int} {b_p0 : Nat} (hS : St E w I ((Gv.one b_p0 (.cells #[(.map none)] 56 (0, 0))) :: Os)) {r : Int} (hr : mdl_Locks_Leave_zero p1 = some r) :
    Calls P 21 #[(.pointer (some ⟨b_p0, 0, none⟩)), (.int .i64 p1)] w (fun e w' => ∃ (I' : Mem), e = .returned (.int .i64 r) ∧ I.Le I' ∧ St E w' I' ((Gv.one b_p0 (.cells #[(.map none)] 56 (0, 0))) :: Os)) := by
  refine calls_W (args := [(.pointer (some ⟨b_p0, 0, none⟩)), (.int .i64 p1)]) (fn := Try.f21) rfl rfl rfl ?_
  unfold mdl_Locks_Leave_zero at hr
  refine W.seq ?_
  refine W.region (l := [0]) (by kernel_rfl) ?_
  refine WO.vals [(0, 4, (.int .i64 0))] (by kernel_rfl) (fun _ => by kernel_rfl) ?_
  refine WO.nil ?_
  refine En.next ?_
  refine W.seq ?_
  refine W.seq ?_
  refine W.region (l := [0, 1, 2, 3]) (by kernel_rfl) ?_
  refine WO.vals [(0, 9, (.pointer (some ⟨b_p0, 0, none⟩))), (1, 10, (.int .i64 p1))] (by kernel_rfl) (fun _ => by kernel_rfl) ?_
  obtain ⟨r6, hx_r1, hr⟩ := bind_some hr
  obtain rfl : 1 = r6 := Option.some.inj hx_r1
  refine WO.call rfl (by kernel_rfl) rfl (f := 37) (args := #[(.pointer (some ⟨b_p0, 0, none⟩)), (.int .i64 p1)]) (by kernel_rfl) (mdl_Locks_check_zero_ok  hS hx_r1) ?_
  rintro _ w2 ⟨I3, rfl, hl4, hS5⟩
  refine ⟨_, rfl, trivial, ?_⟩
  refine WO.vals [(3, 5, (.int .i64 1))] (by kernel_rfl) (fun _ => by kernel_rfl) ?_
  refine WO.nil ?_
  refine En.next ?_
  refine W.seq ?_
  refine W.region (l := [0, 1]) (by kernel_rfl) ?_
  refine WO.vals [(0, 12, (.int .i64 1)), (1, 13, (.bool true))] (by kernel_rfl) (fun _ => by kernel_rfl) ?_
  refine WO.nil ?_
  refine En.next ?_
  refine W.cond (b := true) rfl rfl (fun hc => ?_) (fun hc => ?_)
  rotate_left
  · cases hc
  clear hc
  refine W.seq ?_
  refine W.region (l := [0, 1]) (by kernel_rfl) ?_
  refine WO.vals [(0, 14, (.int .i64 1)), (1, 4, (.int .i64 1))] (by kernel_rfl) (fun _ => by kernel_rfl) ?_
  refine WO.nil ?_
  refine En.next ?_
  refine W.ret ?_
  refine En.nx_ret ?_
  have he := Option.some.inj hr
  subst r
  exact En.ret1 rfl (.int .i64 1) rfl ⟨I3, rfl, hl4, hS5⟩
def mdl_Locks_Cycle_zero  : Option Bool := (mdl_Locks_dead_zero).bind (fun (r6 : Bool) => some false)
set_option maxHeartbeats 1000000 in
theorem mdl_Locks_Cycle_zero_ok {E w : World} {I : Mem} {Os : List Mem} {b_p0 : Nat} (hS : St E w I ((Gv.one b_p0 (.cells #[(.map none)] 56 (0, 0))) :: Os)) {r : Bool} (hr : mdl_Locks_Cycle_zero = some r) :
    Calls P 19 #[(.pointer (some ⟨b_p0, 0, none⟩))] w (fun e w' => ∃ (I' : Mem), e = .returned (.bool r) ∧ I.Le I' ∧ St E w' I' ((Gv.one b_p0 (.cells #[(.map none)] 56 (0, 0))) :: Os)) := by
  refine calls_W (args := [(.pointer (some ⟨b_p0, 0, none⟩))]) (fn := Try.f19) rfl rfl rfl ?_
  unfold mdl_Locks_Cycle_zero at hr
  refine W.seq ?_
  refine W.region (l := [0]) (by kernel_rfl) ?_
  refine WO.vals [(0, 2, (.bool false))] (by kernel_rfl) (fun _ => by kernel_rfl) ?_
  refine WO.nil ?_
  refine En.next ?_
  refine W.seq ?_
  refine W.seq ?_
  refine W.region (l := [0, 1]) (by kernel_rfl) ?_
  refine WO.vals [(0, 7, (.pointer (some ⟨b_p0, 0, none⟩)))] (by kernel_rfl) (fun _ => by kernel_rfl) ?_
  obtain ⟨r6, hx_r1, hr⟩ := bind_some hr
  obtain rfl : true = r6 := Option.some.inj hx_r1
  refine WO.call rfl (by kernel_rfl) rfl (f := 28) (args := #[(.pointer (some ⟨b_p0, 0, none⟩))]) (by kernel_rfl) (mdl_Locks_dead_zero_ok  hS hx_r1) ?_
  rintro _ w2 ⟨I3, rfl, hl4, hS5⟩
  refine ⟨_, rfl, trivial, ?_⟩
  refine WO.nil ?_
  refine En.next ?_
  refine W.cond (b := true) rfl rfl (fun hc => ?_) (fun hc => ?_)
  rotate_left
  · cases hc
  clear hc
  refine W.seq ?_
  refine W.region (l := [0]) (by kernel_rfl) ?_
  refine WO.vals [(0, 2, (.bool false))] (by kernel_rfl) (fun _ => by kernel_rfl) ?_
  refine WO.nil ?_
  refine En.next ?_
  refine W.ret ?_
  refine En.nx_ret ?_
  have he := Option.some.inj hr
  subst r
  exact En.ret1 rfl (.bool false) rfl ⟨I3, rfl, hl4, hS5⟩
def mdl_Locks_Holds_zero (p1 : Int) : Option (List api_Need) := (mdl_Locks_dead_zero).bind (fun (r6 : Bool) => some ([] : List api_Need))
set_option maxHeartbeats 1000000 in
theorem mdl_Locks_Holds_zero_ok {E w : World} {I : Mem} {Os : List Mem} {p1 : Int} {b_p0 : Nat} (hS : St E w I ((Gv.one b_p0 (.cells #[(.map none)] 56 (0, 0))) :: Os)) {r : (List api_Need)} (hr : mdl_Locks_Holds_zero p1 = some r) :
    Calls P 18 #[(.pointer (some ⟨b_p0, 0, none⟩)), (.int .i64 p1)] w (fun e w' => ∃ (I' : Mem) (ra0 : Option Addr) (rc0 : Nat), e = .returned (.slice ra0 r.length rc0) ∧ I.Le I' ∧ St E w' I' ((Gv.one b_p0 (.cells #[(.map none)] 56 (0, 0))) :: Os) ∧ RSl 2 R_api_Need I' ra0 rc0 r) := by
  refine calls_W (args := [(.pointer (some ⟨b_p0, 0, none⟩)), (.int .i64 p1)]) (fn := Try.f18) rfl rfl rfl ?_
  unfold mdl_Locks_Holds_zero at hr
  refine W.seq ?_
  refine W.region (l := [0]) (by kernel_rfl) ?_
  refine WO.vals [(0, 4, (.slice none 0 0))] (by kernel_rfl) (fun _ => by kernel_rfl) ?_
  refine WO.nil ?_
  refine En.next ?_
  refine W.seq ?_
  refine W.seq ?_
  refine W.region (l := [0, 1]) (by kernel_rfl) ?_
  refine WO.vals [(0, 9, (.pointer (some ⟨b_p0, 0, none⟩)))] (by kernel_rfl) (fun _ => by kernel_rfl) ?_
  obtain ⟨r6, hx_r1, hr⟩ := bind_some hr
  obtain rfl : true = r6 := Option.some.inj hx_r1
  refine WO.call rfl (by kernel_rfl) rfl (f := 28) (args := #[(.pointer (some ⟨b_p0, 0, none⟩))]) (by kernel_rfl) (mdl_Locks_dead_zero_ok  hS hx_r1) ?_
  rintro _ w2 ⟨I3, rfl, hl4, hS5⟩
  refine ⟨_, rfl, trivial, ?_⟩
  refine WO.nil ?_
  refine En.next ?_
  refine W.cond (b := true) rfl rfl (fun hc => ?_) (fun hc => ?_)
  rotate_left
  · cases hc
  clear hc
  refine W.seq ?_
  refine W.region (l := [0]) (by kernel_rfl) ?_
  refine WO.vals [(0, 4, (.slice none 0 0))] (by kernel_rfl) (fun _ => by kernel_rfl) ?_
  refine WO.nil ?_
  refine En.next ?_
  refine W.ret ?_
  refine En.nx_ret ?_
  have he := Option.some.inj hr
  subst r
  exact En.ret1 rfl (.slice none 0 0) rfl ⟨I3, none, 0, rfl, hl4, hS5, SlAt.nil⟩
def mdl_Locks_Blockers_zero (p1 : Int) : Option (List Int) := (mdl_Locks_Waits_zero p1).bind (fun ((r6, r7) : api_Need × Bool) => some ([] : List Int))
set_option maxHeartbeats 1000000 in
theorem mdl_Locks_Blockers_zero_ok {E w : World} {I : Mem} {Os : List Mem} {p1 : Int} {b_p0 : Nat} (hS : St E w I ((Gv.one b_p0 (.cells #[(.map none)] 56 (0, 0))) :: Os)) {r : (List Int)} (hr : mdl_Locks_Blockers_zero p1 = some r) :
    Calls P 26 #[(.pointer (some ⟨b_p0, 0, none⟩)), (.int .i64 p1)] w (fun e w' => ∃ (I' : Mem) (ra0 : Option Addr) (rc0 : Nat), e = .returned (.slice ra0 r.length rc0) ∧ I.Le I' ∧ St E w' I' ((Gv.one b_p0 (.cells #[(.map none)] 56 (0, 0))) :: Os) ∧ RSl 1 (RInt .i64) I' ra0 rc0 r) := by
  refine calls_W (args := [(.pointer (some ⟨b_p0, 0, none⟩)), (.int .i64 p1)]) (fn := Try.f26) rfl rfl rfl ?_
  unfold mdl_Locks_Blockers_zero at hr
  refine W.seq ?_
  refine W.region (l := [0]) (by kernel_rfl) ?_
  refine WO.vals [(0, 4, (.slice none 0 0))] (by kernel_rfl) (fun _ => by kernel_rfl) ?_
  refine WO.nil ?_
  refine En.next ?_
  refine W.seq ?_
  refine W.region (l := [0, 1, 2, 3, 4, 5, 6, 7, 8]) (by kernel_rfl) ?_
  refine WO.vals [(0, 12, (.pointer (some ⟨b_p0, 0, none⟩))), (1, 13, (.int .i64 p1))] (by kernel_rfl) (fun _ => by kernel_rfl) ?_
  obtain ⟨⟨r6, r7⟩, hx_r1, hr⟩ := bind_some hr
  obtain rfl : false = r7 := congrArg (fun t => t.2) (Option.some.inj (show some (_, false) = some (r6, r7) from hx_r1))
  refine WO.call rfl (by kernel_rfl) rfl (f := 20) (args := #[(.pointer (some ⟨b_p0, 0, none⟩)), (.int .i64 p1)]) (by kernel_rfl) (mdl_Locks_Waits_zero_ok  hS hx_r1) ?_
  rintro _ w2 ⟨I3, rfl, hl4, hS5⟩
  refine ⟨_, rfl, trivial, ?_⟩
  refine WO.vals [(3, 11, (.tuple #[(.agg (cs_api_Need r6).toArray), (.bool false)])), (4, 15, (.agg (cs_api_Need r6).toArray)), (5, 16, (.bool false))] (by kernel_rfl) (fun _ => by kernel_rfl) ?_
  refine WO.new hS5 rfl (by kernel_rfl) rfl (.cells (cs_api_Need z_api_Need).toArray 43 (0, 0)) (fun b => .pointer (some ⟨b, 0, none⟩)) (by kernel_rfl) (fun _ _ _ => trivial) ?_
  intro b8 w11 hS10
  refine WO.storeBox hS10 rfl (by kernel_rfl) rfl 0 rfl rfl (by kernel_rfl) (by kernel_rfl) (by kernel_rfl) ((cs_api_Need r6).toArray) (by kernel_rfl) (fun _ _ => trivial) ?_
  intro w13 hS12
  refine WO.vals [(8, 6, (.bool false))] (by kernel_rfl) (fun _ => by kernel_rfl) ?_
  refine WO.nil ?_
  refine En.next ?_
  refine W.seq ?_
  refine W.seq ?_
  refine W.region (l := [0, 1]) (by kernel_rfl) ?_
  refine WO.vals [(0, 17, (.bool false)), (1, 18, (.bool true))] (by kernel_rfl) (fun _ => by kernel_rfl) ?_
  refine WO.nil ?_
  refine En.next ?_
  refine W.cond (b := true) rfl rfl (fun hc => ?_) (fun hc => ?_)
  rotate_left
  · cases hc
  clear hc
  refine W.seq ?_
  refine W.region (l := [0]) (by kernel_rfl) ?_
  refine WO.vals [(0, 4, (.slice none 0 0))] (by kernel_rfl) (fun _ => by kernel_rfl) ?_
  refine WO.nil ?_
  refine En.next ?_
  refine W.ret ?_
  refine En.nx_ret ?_
  have hS14 := hS12.drop
  have he := Option.some.inj hr
  subst r
  exact En.ret1 rfl (.slice none 0 0) rfl ⟨I3, none, 0, rfl, hl4, hS14, SlAt.nil⟩
def mdl_Locks_Paths_zero  : Option (List ByteArray) := (mdl_Locks_dead_zero).bind (fun (r6 : Bool) => some ([] : List ByteArray))
set_option maxHeartbeats 1000000 in
theorem mdl_Locks_Paths_zero_ok {E w : World} {I : Mem} {Os : List Mem} {b_p0 : Nat} (hS : St E w I ((Gv.one b_p0 (.cells #[(.map none)] 56 (0, 0))) :: Os)) {r : (List ByteArray)} (hr : mdl_Locks_Paths_zero = some r) :
    Calls P 11 #[(.pointer (some ⟨b_p0, 0, none⟩))] w (fun e w' => ∃ (I' : Mem) (ra0 : Option Addr) (rc0 : Nat), e = .returned (.slice ra0 r.length rc0) ∧ I.Le I' ∧ St E w' I' ((Gv.one b_p0 (.cells #[(.map none)] 56 (0, 0))) :: Os) ∧ RSl 1 RStr I' ra0 rc0 r) := by
  refine calls_W (args := [(.pointer (some ⟨b_p0, 0, none⟩))]) (fn := Try.f11) rfl rfl rfl ?_
  unfold mdl_Locks_Paths_zero at hr
  refine W.seq ?_
  refine W.region (l := [0]) (by kernel_rfl) ?_
  refine WO.vals [(0, 2, (.slice none 0 0))] (by kernel_rfl) (fun _ => by kernel_rfl) ?_
  refine WO.nil ?_
  refine En.next ?_
  refine W.seq ?_
  refine W.seq ?_
  refine W.region (l := [0, 1]) (by kernel_rfl) ?_
  refine WO.vals [(0, 3, (.pointer (some ⟨b_p0, 0, none⟩)))] (by kernel_rfl) (fun _ => by kernel_rfl) ?_
  obtain ⟨r6, hx_r1, hr⟩ := bind_some hr
  obtain rfl : true = r6 := Option.some.inj hx_r1
  refine WO.call rfl (by kernel_rfl) rfl (f := 28) (args := #[(.pointer (some ⟨b_p0, 0, none⟩))]) (by kernel_rfl) (mdl_Locks_dead_zero_ok  hS hx_r1) ?_
  rintro _ w2 ⟨I3, rfl, hl4, hS5⟩
  refine ⟨_, rfl, trivial, ?_⟩
  refine WO.nil ?_
  refine En.next ?_
  refine W.cond (b := true) rfl rfl (fun hc => ?_) (fun hc => ?_)
  rotate_left
  · cases hc
  clear hc
  refine W.seq ?_
  refine W.region (l := [0]) (by kernel_rfl) ?_
  refine WO.vals [(0, 2, (.slice none 0 0))] (by kernel_rfl) (fun _ => by kernel_rfl) ?_
  refine WO.nil ?_
  refine En.next ?_
  refine W.ret ?_
  refine En.nx_ret ?_
  have he := Option.some.inj hr
  subst r
  exact En.ret1 rfl (.slice none 0 0) rfl ⟨I3, none, 0, rfl, hl4, hS5, SlAt.nil⟩
def mdl_Locks_Holders_zero (p1 : ByteArray) : Option (List Int) := (mdl_Locks_dead_zero).bind (fun (r6 : Bool) => some ([] : List Int))
set_option maxHeartbeats 1000000 in
theorem mdl_Locks_Holders_zero_ok {E w : World} {I : Mem} {Os : List Mem} {p1 : ByteArray} {b_p0 : Nat} (hS : St E w I ((Gv.one b_p0 (.cells #[(.map none)] 56 (0, 0))) :: Os)) {r : (List Int)} (hr : mdl_Locks_Holders_zero p1 = some r) :
    Calls P 27 #[(.pointer (some ⟨b_p0, 0, none⟩)), (.string p1)] w (fun e w' => ∃ (I' : Mem) (ra0 : Option Addr) (rc0 : Nat), e = .returned (.slice ra0 r.length rc0) ∧ I.Le I' ∧ St E w' I' ((Gv.one b_p0 (.cells #[(.map none)] 56 (0, 0))) :: Os) ∧ RSl 1 (RInt .i64) I' ra0 rc0 r) := by
  refine calls_W (args := [(.pointer (some ⟨b_p0, 0, none⟩)), (.string p1)]) (fn := Try.f27) rfl rfl rfl ?_
  unfold mdl_Locks_Holders_zero at hr
  refine W.seq ?_
  refine W.region (l := [0]) (by kernel_rfl) ?_
  refine WO.vals [(0, 4, (.slice none 0 0))] (by kernel_rfl) (fun _ => by kernel_rfl) ?_
  refine WO.nil ?_
  refine En.next ?_
  refine W.seq ?_
  refine W.seq ?_
  refine W.region (l := [0, 1]) (by kernel_rfl) ?_
  refine WO.vals [(0, 5, (.pointer (some ⟨b_p0, 0, none⟩)))] (by kernel_rfl) (fun _ => by kernel_rfl) ?_
  obtain ⟨r6, hx_r1, hr⟩ := bind_some hr
  obtain rfl : true = r6 := Option.some.inj hx_r1
  refine WO.call rfl (by kernel_rfl) rfl (f := 28) (args := #[(.pointer (some ⟨b_p0, 0, none⟩))]) (by kernel_rfl) (mdl_Locks_dead_zero_ok  hS hx_r1) ?_
  rintro _ w2 ⟨I3, rfl, hl4, hS5⟩
  refine ⟨_, rfl, trivial, ?_⟩
  refine WO.nil ?_
  refine En.next ?_
  refine W.cond (b := true) rfl rfl (fun hc => ?_) (fun hc => ?_)
  rotate_left
  · cases hc
  clear hc
  refine W.seq ?_
  refine W.region (l := [0]) (by kernel_rfl) ?_
  refine WO.vals [(0, 4, (.slice none 0 0))] (by kernel_rfl) (fun _ => by kernel_rfl) ?_
  refine WO.nil ?_
  refine En.next ?_
  refine W.ret ?_
  refine En.nx_ret ?_
  have he := Option.some.inj hr
  subst r
  exact En.ret1 rfl (.slice none 0 0) rfl ⟨I3, none, 0, rfl, hl4, hS5, SlAt.nil⟩
def mdl_Locks_Waiters_zero (p1 : ByteArray) : Option (List Int) := (mdl_Locks_dead_zero).bind (fun (r6 : Bool) => some ([] : List Int))
set_option maxHeartbeats 1000000 in
theorem mdl_Locks_Waiters_zero_ok {E w : World} {I : Mem} {Os : List Mem} {p1 : ByteArray} {b_p0 : Nat} (hS : St E w I ((Gv.one b_p0 (.cells #[(.map none)] 56 (0, 0))) :: Os)) {r : (List Int)} (hr : mdl_Locks_Waiters_zero p1 = some r) :
    Calls P 12 #[(.pointer (some ⟨b_p0, 0, none⟩)), (.string p1)] w (fun e w' => ∃ (I' : Mem) (ra0 : Option Addr) (rc0 : Nat), e = .returned (.slice ra0 r.length rc0) ∧ I.Le I' ∧ St E w' I' ((Gv.one b_p0 (.cells #[(.map none)] 56 (0, 0))) :: Os) ∧ RSl 1 (RInt .i64) I' ra0 rc0 r) := by
  refine calls_W (args := [(.pointer (some ⟨b_p0, 0, none⟩)), (.string p1)]) (fn := Try.f12) rfl rfl rfl ?_
  unfold mdl_Locks_Waiters_zero at hr
  refine W.seq ?_
  refine W.region (l := [0]) (by kernel_rfl) ?_
  refine WO.vals [(0, 4, (.slice none 0 0))] (by kernel_rfl) (fun _ => by kernel_rfl) ?_
  refine WO.nil ?_
  refine En.next ?_
  refine W.seq ?_
  refine W.seq ?_
  refine W.region (l := [0, 1]) (by kernel_rfl) ?_
  refine WO.vals [(0, 8, (.pointer (some ⟨b_p0, 0, none⟩)))] (by kernel_rfl) (fun _ => by kernel_rfl) ?_
  obtain ⟨r6, hx_r1, hr⟩ := bind_some hr
  obtain rfl : true = r6 := Option.some.inj hx_r1
  refine WO.call rfl (by kernel_rfl) rfl (f := 28) (args := #[(.pointer (some ⟨b_p0, 0, none⟩))]) (by kernel_rfl) (mdl_Locks_dead_zero_ok  hS hx_r1) ?_
  rintro _ w2 ⟨I3, rfl, hl4, hS5⟩
  refine ⟨_, rfl, trivial, ?_⟩
  refine WO.nil ?_
  refine En.next ?_
  refine W.cond (b := true) rfl rfl (fun hc => ?_) (fun hc => ?_)
  rotate_left
  · cases hc
  clear hc
  refine W.seq ?_
  refine W.region (l := [0]) (by kernel_rfl) ?_
  refine WO.vals [(0, 4, (.slice none 0 0))] (by kernel_rfl) (fun _ => by kernel_rfl) ?_
  refine WO.nil ?_
  refine En.next ?_
  refine W.ret ?_
  refine En.nx_ret ?_
  have he := Option.some.inj hr
  subst r
  exact En.ret1 rfl (.slice none 0 0) rfl ⟨I3, none, 0, rfl, hl4, hS5, SlAt.nil⟩
noncomputable def registrarlaw21_MdlNone (p0 : registrarlaw21_Act) : Option Bool := (mdl_Locks_Ask_nil p0.Who (⟨p0.Path, p0.Mode⟩ : api_Need)).bind (fun ((r18, r19) : Bool × Int) => (mdl_Locks_Waits_nil p0.Who).bind (fun ((r25, r26) : api_Need × Bool) => (mdl_Locks_Free_nil p0.Who p0.Path).bind (fun (r38 : Int) => ((bif (r38 != 1) then some true else (mdl_Locks_Leave_nil p0.Who).bind (fun (r52 : Int) => some (r52 != 1)))).bind (fun (j39 : Bool) => ((bif (j39 && true) then some true else (mdl_Locks_Cycle_nil).bind (fun (r70 : Bool) => some false))).bind (fun (j61 : Bool) => (bif j61 then some false else (mdl_Locks_Holds_nil p0.Who).bind (fun (r83 : List api_Need) => (mdl_Locks_Blockers_nil p0.Who).bind (fun (r89 : List Int) => (mdl_Locks_Paths_nil).bind (fun (r95 : List ByteArray) => (mdl_Locks_Holders_nil p0.Path).bind (fun (r101 : List Int) => (mdl_Locks_Waiters_nil p0.Path).bind (fun (r107 : List Int) => (bif ((w64 ((w64 ((w64 ((w64 ((([] : List api_Need).length : Int) + (r89.length : Int))) + (([] : List ByteArray).length : Int))) + (([] : List Int).length : Int))) + (([] : List Int).length : Int))) != 0) then some false else (mdl_Locks_Ask_zero p0.Who (⟨p0.Path, p0.Mode⟩ : api_Need)).bind (fun ((r117, r118) : Bool × Int) => (mdl_Locks_Waits_zero p0.Who).bind (fun ((r124, r125) : api_Need × Bool) => (mdl_Locks_Free_zero p0.Who p0.Path).bind (fun (r138 : Int) => ((bif (r138 != 1) then some true else (mdl_Locks_Leave_zero p0.Who).bind (fun (r153 : Int) => some (r153 != 1)))).bind (fun (j139 : Bool) => ((bif (j139 && true) then some true else (mdl_Locks_Cycle_zero).bind (fun (r173 : Bool) => some false))).bind (fun (j163 : Bool) => (bif j163 then some false else (mdl_Locks_Holds_zero p0.Who).bind (fun (r190 : List api_Need) => (mdl_Locks_Blockers_zero p0.Who).bind (fun (r196 : List Int) => (mdl_Locks_Paths_zero).bind (fun (r202 : List ByteArray) => (mdl_Locks_Holders_zero p0.Path).bind (fun (r208 : List Int) => (mdl_Locks_Waiters_zero p0.Path).bind (fun (r214 : List Int) => (bif ((w64 ((w64 ((w64 ((w64 ((([] : List api_Need).length : Int) + (r196.length : Int))) + (([] : List ByteArray).length : Int))) + (([] : List Int).length : Int))) + (([] : List Int).length : Int))) != 0) then some false else (registrarlaw21_works).bind (fun (r223 : Bool) => some r223)))))))))))))))))))))))))
set_option maxHeartbeats 1000000 in
theorem registrarlaw21_MdlNone_ok {E w : World} {I : Mem} {Os : List Mem} {p0 : registrarlaw21_Act} (hS : St E w I Os) {r : Bool} (hr : registrarlaw21_MdlNone p0 = some r) :
    Calls P 7 #[(.agg (cs_registrarlaw21_Act p0).toArray)] w (fun e w' => ∃ (I' : Mem), e = .returned (.bool r) ∧ I.Le I' ∧ St E w' I' Os) := by
  refine calls_W (args := [(.agg (cs_registrarlaw21_Act p0).toArray)]) (fn := Try.f7) rfl rfl rfl ?_
  unfold registrarlaw21_MdlNone at hr
  refine W.seq ?_
  refine W.region (l := [0, 1]) (by kernel_rfl) ?_
  refine WO.new hS rfl (by kernel_rfl) rfl (.cells (cs_registrarlaw21_Act p0).toArray 27 (0, 0)) (fun b => .pointer (some ⟨b, 0, none⟩)) (by kernel_rfl) (fun _ _ _ => trivial) ?_
  intro b1 w4 hS3
  refine WO.vals [(1, 2, (.bool false))] (by kernel_rfl) (fun _ => by kernel_rfl) ?_
  refine WO.nil ?_
  refine En.next ?_
  refine W.seq ?_
  refine W.region (l := [0]) (by kernel_rfl) ?_
  refine WO.vals [(0, 3, (.pointer none))] (by kernel_rfl) (fun _ => by kernel_rfl) ?_
  refine WO.nil ?_
  refine En.next ?_
  refine W.seq ?_
  refine W.region (l := [0, 1, 2, 3, 4]) (by kernel_rfl) ?_
  refine WO.vals [(0, 11, (.pointer none)), (1, 12, (.agg #[(.map none)]))] (by kernel_rfl) (fun _ => by kernel_rfl) ?_
  refine WO.new hS3 rfl (by kernel_rfl) rfl (.cells #[(.map none)] 56 (0, 0)) (fun b => .pointer (some ⟨b, 0, none⟩)) (by kernel_rfl) (fun _ _ _ => trivial) ?_
  intro b5 w8 hS7
  refine WO.new hS7 rfl (by kernel_rfl) rfl (.cells #[(.pointer none), (.pointer (some ⟨b5, 0, none⟩))] 23 (0, 0)) (fun b => .slice (some ⟨b, 0, none⟩) 2 2) (by kernel_rfl) (fun _ _ _ => trivial) ?_
  intro b9 w12 hS11
  refine WO.vals [(4, 4, (.slice (some ⟨b9, 0, none⟩) 2 2))] (by kernel_rfl) (fun _ => by kernel_rfl) ?_
  refine WO.nil ?_
  refine En.next ?_
  refine W.seq ?_
  refine W.seq ?_
  refine W.region (l := [0]) (by kernel_rfl) ?_
  refine WO.vals [(0, 5, (.int .i64 0))] (by kernel_rfl) (fun _ => by kernel_rfl) ?_
  refine WO.nil ?_
  refine En.next ?_
  refine W.block ?_
  refine W.unroll 2 ?_
  refine W.seq ?_
  refine W.seq ?_
  refine W.region (l := [0, 1, 2, 3]) (by kernel_rfl) ?_
  refine WO.vals [(0, 15, (.int .i64 0)), (1, 16, (.slice (some ⟨b9, 0, none⟩) 2 2)), (2, 17, (.int .i64 2)), (3, 18, (.bool true))] (by kernel_rfl) (fun _ => by kernel_rfl) ?_
  refine WO.nil ?_
  refine En.next ?_
  refine W.cond (b := true) rfl rfl (fun hc => ?_) (fun hc => ?_)
  rotate_left
  · cases hc
  clear hc
  refine W.skip ?_
  refine En.next ?_
  refine W.seq ?_
  refine W.block ?_
  refine W.seq ?_
  refine W.region (l := [0, 1, 2, 3, 4]) (by kernel_rfl) ?_
  refine WO.vals [(0, 21, (.slice (some ⟨b9, 0, none⟩) 2 2)), (1, 22, (.int .i64 0))] (by kernel_rfl) (fun _ => by kernel_rfl) ?_
  refine WO.indexAddr (e := 23) (sz := 1) rfl (by kernel_rfl) (by kernel_rfl) (by kernel_rfl) rfl (rfl : ((some ⟨b9, 0, none⟩) : Option Addr) = _) rfl (by decide) (by decide) ?_
  refine WO.reslot 23 rfl (show _ = Value.pointer (some ⟨b9, 0, none⟩) by kernel_rfl) ?_
  refine WO.load rfl (by kernel_rfl) (by kernel_rfl) rfl (v := (.pointer none)) (fun w' hw' => cell_one ((rd_f (hS11.rd (List.Mem.head _))) w' hw') (by kernel_rfl)) ?_
  refine WO.vals [(4, 6, (.pointer none))] (by kernel_rfl) (fun _ => by kernel_rfl) ?_
  refine WO.nil ?_
  refine En.next ?_
  refine W.seq ?_
  refine W.region (l := [0, 1, 2, 3, 4, 5, 6, 7, 8, 9, 10, 11, 12, 13]) (by kernel_rfl) ?_
  refine WO.vals [(0, 26, (.pointer none)), (1, 27, (.pointer (some ⟨b1, 1, none⟩)))] (by kernel_rfl) (fun _ => by kernel_rfl) ?_
  refine WO.load rfl (by kernel_rfl) (by kernel_rfl) rfl (v := (.int .i64 p0.Who)) (fun w' hw' => cell_one ((rd_f (hS11.rd (List.Mem.tail _ (List.Mem.tail _ (List.Mem.head _))))) w' hw') (by kernel_rfl)) ?_
  refine WO.vals [(3, 29, (.pointer (some ⟨b1, 3, none⟩)))] (by kernel_rfl) (fun _ => by kernel_rfl) ?_
  refine WO.load rfl (by kernel_rfl) (by kernel_rfl) rfl (v := (.string p0.Path)) (fun w' hw' => cell_one ((rd_f (hS11.rd (List.Mem.tail _ (List.Mem.tail _ (List.Mem.head _))))) w' hw') (by kernel_rfl)) ?_
  refine WO.vals [(5, 31, (.pointer (some ⟨b1, 2, none⟩)))] (by kernel_rfl) (fun _ => by kernel_rfl) ?_
  refine WO.load rfl (by kernel_rfl) (by kernel_rfl) rfl (v := (.int .i64 p0.Mode)) (fun w' hw' => cell_one ((rd_f (hS11.rd (List.Mem.tail _ (List.Mem.tail _ (List.Mem.head _))))) w' hw') (by kernel_rfl)) ?_
  refine WO.vals [(7, 33, (.agg (cs_api_Need (⟨p0.Path, p0.Mode⟩ : api_Need)).toArray))] (by kernel_rfl) (fun _ => by kernel_rfl) ?_
  obtain ⟨⟨r18, r19⟩, hx_r13, hr⟩ := bind_some hr
  obtain rfl : false = r18 := congrArg (fun t => t.1) (Option.some.inj (show some (false, 1) = some (r18, r19) from hx_r13))
  obtain rfl : 1 = r19 := congrArg (fun t => t.2) (Option.some.inj (show some (false, 1) = some (false, r19) from hx_r13))
  refine WO.call rfl (by kernel_rfl) rfl (f := 24) (args := #[(.pointer none), (.int .i64 p0.Who), (.agg (cs_api_Need (⟨p0.Path, p0.Mode⟩ : api_Need)).toArray)]) (by kernel_rfl) (mdl_Locks_Ask_nil_ok  hS11 hx_r13) ?_
  rintro _ w14 ⟨I15, rfl, hl16, hS17⟩
  refine ⟨_, rfl, trivial, ?_⟩
  refine WO.vals [(9, 25, (.tuple #[(.bool false), (.int .i64 1)])), (10, 35, (.bool false)), (11, 36, (.int .i64 1)), (12, 7, (.bool false)), (13, 8, (.int .i64 1))] (by kernel_rfl) (fun _ => by kernel_rfl) ?_
  refine WO.nil ?_
  refine En.next ?_
  refine W.seq ?_
  refine W.region (l := [0, 1, 2, 3, 4, 5, 6, 7, 8, 9]) (by kernel_rfl) ?_
  refine WO.vals [(0, 38, (.pointer none)), (1, 39, (.pointer (some ⟨b1, 1, none⟩)))] (by kernel_rfl) (fun _ => by kernel_rfl) ?_
  refine WO.load rfl (by kernel_rfl) (by kernel_rfl) rfl (v := (.int .i64 p0.Who)) (fun w' hw' => cell_one ((rd_f (hS17.rd (List.Mem.tail _ (List.Mem.tail _ (List.Mem.head _))))) w' hw') (by kernel_rfl)) ?_
  obtain ⟨⟨r25, r26⟩, hx_r20, hr⟩ := bind_some hr
  obtain rfl : false = r26 := congrArg (fun t => t.2) (Option.some.inj (show some (_, false) = some (r25, r26) from hx_r20))
  refine WO.call rfl (by kernel_rfl) rfl (f := 20) (args := #[(.pointer none), (.int .i64 p0.Who)]) (by kernel_rfl) (mdl_Locks_Waits_nil_ok  hS17 hx_r20) ?_
  rintro _ w21 ⟨I22, rfl, hl23, hS24⟩
  refine ⟨_, rfl, trivial, ?_⟩
  refine WO.vals [(4, 37, (.tuple #[(.agg (cs_api_Need r25).toArray), (.bool false)])), (5, 42, (.agg (cs_api_Need r25).toArray)), (6, 43, (.bool false))] (by kernel_rfl) (fun _ => by kernel_rfl) ?_
  refine WO.new hS24 rfl (by kernel_rfl) rfl (.cells (cs_api_Need z_api_Need).toArray 43 (0, 0)) (fun b => .pointer (some ⟨b, 0, none⟩)) (by kernel_rfl) (fun _ _ _ => trivial) ?_
  intro b27 w30 hS29
  refine WO.storeBox hS29 rfl (by kernel_rfl) rfl 0 rfl rfl (by kernel_rfl) (by kernel_rfl) (by kernel_rfl) ((cs_api_Need r25).toArray) (by kernel_rfl) (fun _ _ => trivial) ?_
  intro w32 hS31
  refine WO.vals [(9, 10, (.bool false))] (by kernel_rfl) (fun _ => by kernel_rfl) ?_
  refine WO.nil ?_
  refine En.next ?_
  refine W.seq ?_
  refine W.seq ?_
  refine W.region (l := [0, 1, 2, 3, 4, 5, 6, 7, 8, 9, 10, 11, 12, 13, 14, 15, 16, 17, 18, 19, 20, 21, 22, 23, 24, 25, 26, 27]) (by kernel_rfl) ?_
  refine WO.vals [(0, 44, (.bool false)), (1, 45, (.bool false)), (2, 46, (.int .i64 1)), (3, 47, (.bool false)), (4, 48, (.bool false)), (5, 49, (.bool false)), (6, 50, (.pointer none)), (7, 51, (.pointer (some ⟨b1, 1, none⟩)))] (by kernel_rfl) (fun _ => by kernel_rfl) ?_
  refine WO.load rfl (by kernel_rfl) (by kernel_rfl) rfl (v := (.int .i64 p0.Who)) (fun w' hw' => cell_one ((rd_f (hS31.rd (List.Mem.tail _ (List.Mem.tail _ (List.Mem.tail _ (List.Mem.head _)))))) w' hw') (by kernel_rfl)) ?_
  refine WO.vals [(9, 53, (.pointer (some ⟨b1, 3, none⟩)))] (by kernel_rfl) (fun _ => by kernel_rfl) ?_
  refine WO.load rfl (by kernel_rfl) (by kernel_rfl) rfl (v := (.string p0.Path)) (fun w' hw' => cell_one ((rd_f (hS31.rd (List.Mem.tail _ (List.Mem.tail _ (List.Mem.tail _ (List.Mem.head _)))))) w' hw') (by kernel_rfl)) ?_
  obtain ⟨r38, hx_r33, hr⟩ := bind_some hr
  refine WO.call rfl (by kernel_rfl) rfl (f := 25) (args := #[(.pointer none), (.int .i64 p0.Who), (.string p0.Path)]) (by kernel_rfl) (mdl_Locks_Free_nil_ok  hS31 hx_r33) ?_
  rintro _ w34 ⟨I35, rfl, hl36, hS37⟩
  refine ⟨_, rfl, trivial, ?_⟩
  refine WO.vals [(12, 56, (.bool (r38 != 1))), (13, 57, (.bool (r38 != 1))), (14, 58, (.bool (r38 != 1)))] (by kernel_rfl) (fun _ => by kernel_rfl) ?_
  obtain ⟨j39, hr1, hr⟩ := bind_some hr
  refine WO.join (l1 := [15, 16, 17, 18, 19, 20]) (l2 := [21, 22, 23, 24, 25, 26, 27]) (J := (fun fr w => ∃ (I41 : Mem), fr = [(1, (.pointer (some ⟨b1, 0, none⟩))), (4, (.slice (some ⟨b9, 0, none⟩) 2 2)), (5, (.int .i64 0)), (6, (.pointer none)), (10, (.bool false)), (64, (.bool j39))] ∧ I35.Le I41 ∧ St E w I41 ((Gv.one b1 (.cells (cs_registrarlaw21_Act p0).toArray 27 (0, 0))) :: (Gv.one b9 (.cells #[(.pointer none), (.pointer (some ⟨b5, 0, none⟩))] 23 (0, 0))) :: (Gv.one b5 (.cells #[(.map none)] 56 (0, 0))) :: Os))) ?restj39 ?waysj39
  case waysj39 =>
    refine WO.caseb (r38 != 1) (fun hc => ?_) (fun hc => ?_)
    · replace hr1 := cond_t hc hr1
      refine WO.reslot 58 rfl (show Value.bool (r38 != 1) = Value.bool true by rw [hc]) ?_
      refine WO.pass rfl (by kernel_rfl) rfl ?_
      refine WO.pass rfl (by kernel_rfl) rfl ?_
      refine WO.pass rfl (by kernel_rfl) rfl ?_
      refine WO.pass rfl (by kernel_rfl) rfl ?_
      refine WO.pass rfl (by kernel_rfl) rfl ?_
      refine WO.vals [(20, 64, (.bool true))] (by kernel_rfl) (fun _ => by kernel_rfl) ?_
      have hS43 := hS37.drop
      have hS44 := hS43.front1
      have hS45 := hS44.front1
      have hS46 := hS45.front2
      have he := Option.some.inj hr1
      subst j39
      refine WO.weaken (fr' := [(1, (.pointer (some ⟨b1, 0, none⟩))), (4, (.slice (some ⟨b9, 0, none⟩) 2 2)), (5, (.int .i64 0)), (6, (.pointer none)), (10, (.bool false)), (64, (.bool true))]) (WO.meet ⟨I35, rfl, Mem.Le.refl _, hS46⟩) (Sub.cons rfl (Sub.cons rfl (Sub.cons rfl (Sub.cons rfl (Sub.cons rfl (Sub.cons rfl Sub.nil))))))
    · replace hr1 := cond_f hc hr1
      refine WO.reslot 58 rfl (show Value.bool (r38 != 1) = Value.bool false by rw [hc]) ?_
      refine WO.vals [(15, 59, (.pointer none)), (16, 60, (.pointer (some ⟨b1, 1, none⟩)))] (by kernel_rfl) (fun _ => by kernel_rfl) ?_
      refine WO.load rfl (by kernel_rfl) (by kernel_rfl) rfl (v := (.int .i64 p0.Who)) (fun w' hw' => cell_one ((rd_f (hS37.rd (List.Mem.tail _ (List.Mem.tail _ (List.Mem.tail _ (List.Mem.head _)))))) w' hw') (by kernel_rfl)) ?_
      obtain ⟨r52, hx_r47, hr1⟩ := bind_some hr1
      refine WO.call rfl (by kernel_rfl) rfl (f := 21) (args := #[(.pointer none), (.int .i64 p0.Who)]) (by kernel_rfl) (mdl_Locks_Leave_nil_ok  hS37 hx_r47) ?_
      rintro _ w48 ⟨I49, rfl, hl50, hS51⟩
      refine ⟨_, rfl, trivial, ?_⟩
      refine WO.vals [(19, 63, (.bool (r52 != 1))), (20, 64, (.bool (r52 != 1)))] (by kernel_rfl) (fun _ => by kernel_rfl) ?_
      have hS53 := hS51.drop
      have hS54 := hS53.front1
      have hS55 := hS54.front1
      have hS56 := hS55.front2
      have he := Option.some.inj hr1
      subst j39
      refine WO.weaken (fr' := [(1, (.pointer (some ⟨b1, 0, none⟩))), (4, (.slice (some ⟨b9, 0, none⟩) 2 2)), (5, (.int .i64 0)), (6, (.pointer none)), (10, (.bool false)), (64, (.bool (r52 != 1)))]) (WO.meet ⟨I49, rfl, hl50, hS56⟩) (Sub.cons rfl (Sub.cons rfl (Sub.cons rfl (Sub.cons rfl (Sub.cons rfl (Sub.cons rfl Sub.nil))))))
  case restj39 =>
    rintro _ w57 ⟨I41, rfl, hl42, hS58⟩
    refine WO.vals [(21, 65, (.bool j39))] (by kernel_rfl) (fun _ => by kernel_rfl) ?_
    refine WO.join (l1 := [22, 23]) (l2 := [24, 25, 26, 27]) (J := fun frx wx => frx = [(67, (.bool (j39 && true))), (1, (.pointer (some ⟨b1, 0, none⟩))), (4, (.slice (some ⟨b9, 0, none⟩) 2 2)), (5, (.int .i64 0)), (6, (.pointer none))] ∧ w57 = wx) ?restm59 ?waysm59
    case waysm59 =>
      refine WO.caseb j39 (fun hc => ?_) (fun hc => ?_)
      · skip
        refine WO.reslot 65 rfl (show Value.bool j39 = Value.bool true by rw [hc]) ?_
        refine WO.pass rfl (by kernel_rfl) rfl ?_
        refine WO.vals [(23, 67, (.bool true))] (by kernel_rfl) (fun _ => by kernel_rfl) ?_
        refine WO.weaken (fr' := [(67, (.bool (j39 && true))), (1, (.pointer (some ⟨b1, 0, none⟩))), (4, (.slice (some ⟨b9, 0, none⟩) 2 2)), (5, (.int .i64 0)), (6, (.pointer none))]) (WO.meet ⟨rfl, rfl⟩) (Sub.cons (by rw [hc]; rfl) (Sub.cons rfl (Sub.cons rfl (Sub.cons rfl (Sub.cons rfl Sub.nil)))))
      · skip
        refine WO.reslot 65 rfl (show Value.bool j39 = Value.bool false by rw [hc]) ?_
        refine WO.vals [(22, 66, (.bool false)), (23, 67, (.bool false))] (by kernel_rfl) (fun _ => by kernel_rfl) ?_
        refine WO.weaken (fr' := [(67, (.bool (j39 && true))), (1, (.pointer (some ⟨b1, 0, none⟩))), (4, (.slice (some ⟨b9, 0, none⟩) 2 2)), (5, (.int .i64 0)), (6, (.pointer none))]) (WO.meet ⟨rfl, rfl⟩) (Sub.cons (by rw [hc]; rfl) (Sub.cons rfl (Sub.cons rfl (Sub.cons rfl (Sub.cons rfl Sub.nil)))))
    case restm59 =>
      rintro _ _ ⟨rfl, rfl⟩
      refine WO.vals [(24, 68, (.bool (j39 && true)))] (by kernel_rfl) (fun _ => by kernel_rfl) ?_
      obtain ⟨j61, hr1, hr⟩ := bind_some hr
      refine WO.join (l1 := [25, 26, 27]) (l2 := []) (J := (fun fr w => ∃ (I63 : Mem), fr = [(1, (.pointer (some ⟨b1, 0, none⟩))), (4, (.slice (some ⟨b9, 0, none⟩) 2 2)), (5, (.int .i64 0)), (6, (.pointer none)), (71, (.bool j61))] ∧ I41.Le I63 ∧ St E w I63 ((Gv.one b1 (.cells (cs_registrarlaw21_Act p0).toArray 27 (0, 0))) :: (Gv.one b9 (.cells #[(.pointer none), (.pointer (some ⟨b5, 0, none⟩))] 23 (0, 0))) :: (Gv.one b5 (.cells #[(.map none)] 56 (0, 0))) :: Os))) ?restj61 ?waysj61
      case waysj61 =>
        refine WO.caseb (j39 && true) (fun hc => ?_) (fun hc => ?_)
        · replace hr1 := cond_t hc hr1
          refine WO.reslot 68 rfl (show Value.bool (j39 && true) = Value.bool true by rw [hc]) ?_
          refine WO.pass rfl (by kernel_rfl) rfl ?_
          refine WO.pass rfl (by kernel_rfl) rfl ?_
          refine WO.vals [(27, 71, (.bool true))] (by kernel_rfl) (fun _ => by kernel_rfl) ?_
          have he := Option.some.inj hr1
          subst j61
          refine WO.weaken (fr' := [(1, (.pointer (some ⟨b1, 0, none⟩))), (4, (.slice (some ⟨b9, 0, none⟩) 2 2)), (5, (.int .i64 0)), (6, (.pointer none)), (71, (.bool true))]) (WO.meet ⟨I41, rfl, Mem.Le.refl _, hS58⟩) (Sub.cons rfl (Sub.cons rfl (Sub.cons rfl (Sub.cons rfl (Sub.cons rfl Sub.nil)))))
        · replace hr1 := cond_f hc hr1
          refine WO.reslot 68 rfl (show Value.bool (j39 && true) = Value.bool false by rw [hc]) ?_
          refine WO.vals [(25, 69, (.pointer none))] (by kernel_rfl) (fun _ => by kernel_rfl) ?_
          obtain ⟨r70, hx_r65, hr1⟩ := bind_some hr1
          obtain rfl : false = r70 := Option.some.inj hx_r65
          refine WO.call rfl (by kernel_rfl) rfl (f := 19) (args := #[(.pointer none)]) (by kernel_rfl) (mdl_Locks_Cycle_nil_ok  hS58 hx_r65) ?_
          rintro _ w66 ⟨I67, rfl, hl68, hS69⟩
          refine ⟨_, rfl, trivial, ?_⟩
          refine WO.vals [(27, 71, (.bool false))] (by kernel_rfl) (fun _ => by kernel_rfl) ?_
          have he := Option.some.inj hr1
          subst j61
          refine WO.weaken (fr' := [(1, (.pointer (some ⟨b1, 0, none⟩))), (4, (.slice (some ⟨b9, 0, none⟩) 2 2)), (5, (.int .i64 0)), (6, (.pointer none)), (71, (.bool false))]) (WO.meet ⟨I67, rfl, hl68, hS69⟩) (Sub.cons rfl (Sub.cons rfl (Sub.cons rfl (Sub.cons rfl (Sub.cons rfl Sub.nil)))))
      case restj61 =>
        rintro _ w71 ⟨I63, rfl, hl64, hS72⟩
        refine WO.nil ?_
        refine En.next ?_
        refine W.cond (b := j61) rfl rfl (fun hc => ?_) (fun hc => ?_)
        · replace hr := cond_t hc hr
          refine W.seq ?_
          refine W.region (l := [0]) (by kernel_rfl) ?_
          refine WO.vals [(0, 2, (.bool false))] (by kernel_rfl) (fun _ => by kernel_rfl) ?_
          refine WO.nil ?_
          refine En.next ?_
          refine W.ret ?_
          refine En.nx_ret ?_
          refine En.in_ret ?_
          refine En.nx_ret ?_
          refine En.un_ret ?_
          refine En.in_ret ?_
          refine En.nx_ret ?_
          have hS73 := hS72.drop
          have hS74 := hS73.drop
          have hS75 := hS74.drop
          have he := Option.some.inj hr
          subst r
          exact En.ret1 rfl (.bool false) rfl ⟨I63, rfl, ((((hl16.trans hl23).trans hl36).trans hl42).trans hl64), hS75⟩
        · replace hr := cond_f hc hr
          refine W.skip ?_
          refine En.next ?_
          refine W.seq ?_
          have hS76 := hS72.drew
          refine W.draw (l := [0, 1, 2, 3, 4, 5, 6, 7, 8, 9, 10, 11, 12, 13, 14, 15, 16, 17, 18, 19, 20, 21, 22, 23, 24, 25, 26, 27]) (by kernel_rfl) 26 (KR I63 [Gv.one b1 (.cells (cs_registrarlaw21_Act p0).toArray 27 (0, 0))]) qR (.back (by kernel_rfl)) (by kernel_rfl) (KR.cons (hS76.rd (List.Mem.head _)) (KR.nil hS76.im)) ?_
          generalize World.drew _ = w77 at *
          refine WO.vals [(0, 72, (.pointer none)), (1, 73, (.pointer (some ⟨b1, 1, none⟩)))] (by kernel_rfl) (fun _ => by kernel_rfl) ?_
          refine WO.load rfl (by kernel_rfl) (by kernel_rfl) rfl (v := (.int .i64 p0.Who)) (fun w' hw' => cell_one ((rd_c (List.Mem.head _) (hS76.rd (List.Mem.head _))) w' hw') (by kernel_rfl)) ?_
          obtain ⟨r83, hx_r78, hr⟩ := bind_some hr
          obtain rfl : ([] : List api_Need) = r83 := Option.some.inj hx_r78
          refine WO.call rfl (by kernel_rfl) rfl (f := 18) (args := #[(.pointer none), (.int .i64 p0.Who)]) (by kernel_rfl) (mdl_Locks_Holds_nil_ok  hS76 hx_r78) ?_
          rintro _ w79 ⟨I80, a_r83, c_r83, rfl, hl81, hS82, h_r83⟩
          refine ⟨_, rfl, (KR.cons (hS82.rd (List.Mem.head _)) (KR.nil (hS82.im.of_le hl81))), ?_⟩
          refine WO.vals [(4, 76, (.int .i64 (([] : List api_Need).length : Int))), (5, 77, (.pointer none)), (6, 78, (.pointer (some ⟨b1, 1, none⟩)))] (by kernel_rfl) (fun _ => by kernel_rfl) ?_
          refine WO.load rfl (by kernel_rfl) (by kernel_rfl) rfl (v := (.int .i64 p0.Who)) (fun w' hw' => cell_one ((rd_c (List.Mem.head _) (hS82.rd (List.Mem.head _))) w' hw') (by kernel_rfl)) ?_
          obtain ⟨r89, hx_r84, hr⟩ := bind_some hr
          refine WO.call rfl (by kernel_rfl) rfl (f := 26) (args := #[(.pointer none), (.int .i64 p0.Who)]) (by kernel_rfl) (mdl_Locks_Blockers_nil_ok  hS82 hx_r84) ?_
          rintro _ w85 ⟨I86, a_r89, c_r89, rfl, hl87, hS88, h_r89⟩
          refine ⟨_, rfl, (KR.cons (hS88.rd (List.Mem.head _)) (KR.nil (hS88.im.of_le (hl81.trans hl87)))), ?_⟩
          refine WO.vals [(9, 81, (.int .i64 (r89.length : Int))), (10, 82, (.int .i64 (w64 ((([] : List api_Need).length : Int) + (r89.length : Int))))), (11, 83, (.pointer none))] (by kernel_rfl) (fun _ => by kernel_rfl) ?_
          obtain ⟨r95, hx_r90, hr⟩ := bind_some hr
          obtain rfl : ([] : List ByteArray) = r95 := Option.some.inj hx_r90
          refine WO.call rfl (by kernel_rfl) rfl (f := 11) (args := #[(.pointer none)]) (by kernel_rfl) (mdl_Locks_Paths_nil_ok  hS88 hx_r90) ?_
          rintro _ w91 ⟨I92, a_r95, c_r95, rfl, hl93, hS94, h_r95⟩
          refine ⟨_, rfl, (KR.cons (hS94.rd (List.Mem.head _)) (KR.nil (hS94.im.of_le ((hl81.trans hl87).trans hl93)))), ?_⟩
          refine WO.vals [(13, 85, (.int .i64 (([] : List ByteArray).length : Int))), (14, 86, (.int .i64 (w64 ((w64 ((([] : List api_Need).length : Int) + (r89.length : Int))) + (([] : List ByteArray).length : Int))))), (15, 87, (.pointer none)), (16, 88, (.pointer (some ⟨b1, 3, none⟩)))] (by kernel_rfl) (fun _ => by kernel_rfl) ?_
          refine WO.load rfl (by kernel_rfl) (by kernel_rfl) rfl (v := (.string p0.Path)) (fun w' hw' => cell_one ((rd_c (List.Mem.head _) (hS94.rd (List.Mem.head _))) w' hw') (by kernel_rfl)) ?_
          obtain ⟨r101, hx_r96, hr⟩ := bind_some hr
          obtain rfl : ([] : List Int) = r101 := Option.some.inj hx_r96
          refine WO.call rfl (by kernel_rfl) rfl (f := 27) (args := #[(.pointer none), (.string p0.Path)]) (by kernel_rfl) (mdl_Locks_Holders_nil_ok  hS94 hx_r96) ?_
          rintro _ w97 ⟨I98, a_r101, c_r101, rfl, hl99, hS100, h_r101⟩
          refine ⟨_, rfl, (KR.cons (hS100.rd (List.Mem.head _)) (KR.nil (hS100.im.of_le (((hl81.trans hl87).trans hl93).trans hl99)))), ?_⟩
          refine WO.vals [(19, 91, (.int .i64 (([] : List Int).length : Int))), (20, 92, (.int .i64 (w64 ((w64 ((w64 ((([] : List api_Need).length : Int) + (r89.length : Int))) + (([] : List ByteArray).length : Int))) + (([] : List Int).length : Int))))), (21, 93, (.pointer none)), (22, 94, (.pointer (some ⟨b1, 3, none⟩)))] (by kernel_rfl) (fun _ => by kernel_rfl) ?_
          refine WO.load rfl (by kernel_rfl) (by kernel_rfl) rfl (v := (.string p0.Path)) (fun w' hw' => cell_one ((rd_c (List.Mem.head _) (hS100.rd (List.Mem.head _))) w' hw') (by kernel_rfl)) ?_
          obtain ⟨r107, hx_r102, hr⟩ := bind_some hr
          obtain rfl : ([] : List Int) = r107 := Option.some.inj hx_r102
          refine WO.call rfl (by kernel_rfl) rfl (f := 12) (args := #[(.pointer none), (.string p0.Path)]) (by kernel_rfl) (mdl_Locks_Waiters_nil_ok  hS100 hx_r102) ?_
          rintro _ w103 ⟨I104, a_r107, c_r107, rfl, hl105, hS106, h_r107⟩
          refine ⟨_, rfl, (KR.cons (hS106.rd (List.Mem.head _)) (KR.nil (hS106.im.of_le ((((hl81.trans hl87).trans hl93).trans hl99).trans hl105)))), ?_⟩
          refine WO.vals [(25, 97, (.int .i64 (([] : List Int).length : Int)))] (by kernel_rfl) (fun _ => by kernel_rfl) ?_
          refine WO.tail rfl ?_
          refine WO.vals [(26, 98, (.int .i64 (w64 ((w64 ((w64 ((w64 ((([] : List api_Need).length : Int) + (r89.length : Int))) + (([] : List ByteArray).length : Int))) + (([] : List Int).length : Int))) + (([] : List Int).length : Int))))), (27, 99, (.bool ((w64 ((w64 ((w64 ((w64 ((([] : List api_Need).length : Int) + (r89.length : Int))) + (([] : List ByteArray).length : Int))) + (([] : List Int).length : Int))) + (([] : List Int).length : Int))) != 0)))] (by kernel_rfl) (fun _ => by kernel_rfl) ?_
          refine WO.nil ?_
          refine En.next ?_
          refine W.cond (b := ((w64 ((w64 ((w64 ((w64 ((([] : List api_Need).length : Int) + (r89.length : Int))) + (([] : List ByteArray).length : Int))) + (([] : List Int).length : Int))) + (([] : List Int).length : Int))) != 0)) rfl rfl (fun hc => ?_) (fun hc => ?_)
          · replace hr := cond_t hc hr
            refine W.seq ?_
            refine W.region (l := [0]) (by kernel_rfl) ?_
            refine WO.vals [(0, 2, (.bool false))] (by kernel_rfl) (fun _ => by kernel_rfl) ?_
            refine WO.nil ?_
            refine En.next ?_
            refine W.ret ?_
            refine En.in_ret ?_
            refine En.nx_ret ?_
            refine En.un_ret ?_
            refine En.in_ret ?_
            refine En.nx_ret ?_
            have hS108 := hS106.drop
            have hS109 := hS108.drop
            have hS110 := hS109.drop
            have he := Option.some.inj hr
            subst r
            exact En.ret1 rfl (.bool false) rfl ⟨I104, rfl, (((((((((hl16.trans hl23).trans hl36).trans hl42).trans hl64).trans hl81).trans hl87).trans hl93).trans hl99).trans hl105), hS110⟩
          · replace hr := cond_f hc hr
            refine W.skip ?_
            refine En.in_normal ?_
            refine En.next ?_
            refine W.region (l := [0, 1, 2]) (by kernel_rfl) ?_
            refine WO.vals [(0, 19, (.int .i64 0)), (1, 20, (.int .i64 1)), (2, 5, (.int .i64 1))] (by kernel_rfl) (fun _ => by kernel_rfl) ?_
            refine WO.nil ?_
            refine En.again ?_
            show W _ _ _ _ _ _
            refine W.seq ?_
            refine W.seq ?_
            refine W.region (l := [0, 1, 2, 3]) (by kernel_rfl) ?_
            refine WO.vals [(0, 15, (.int .i64 1)), (1, 16, (.slice (some ⟨b9, 0, none⟩) 2 2)), (2, 17, (.int .i64 2)), (3, 18, (.bool true))] (by kernel_rfl) (fun _ => by kernel_rfl) ?_
            refine WO.nil ?_
            refine En.next ?_
            refine W.cond (b := true) rfl rfl (fun hc => ?_) (fun hc => ?_)
            rotate_left
            · cases hc
            clear hc
            refine W.skip ?_
            refine En.next ?_
            refine W.seq ?_
            refine W.block ?_
            refine W.seq ?_
            refine W.region (l := [0, 1, 2, 3, 4]) (by kernel_rfl) ?_
            refine WO.vals [(0, 21, (.slice (some ⟨b9, 0, none⟩) 2 2)), (1, 22, (.int .i64 1))] (by kernel_rfl) (fun _ => by kernel_rfl) ?_
            refine WO.indexAddr (e := 23) (sz := 1) rfl (by kernel_rfl) (by kernel_rfl) (by kernel_rfl) rfl (rfl : ((some ⟨b9, 0, none⟩) : Option Addr) = _) rfl (by decide) (by decide) ?_
            refine WO.reslot 23 rfl (show _ = Value.pointer (some ⟨b9, 1, none⟩) by kernel_rfl) ?_
            refine WO.load rfl (by kernel_rfl) (by kernel_rfl) rfl (v := (.pointer (some ⟨b5, 0, none⟩))) (fun w' hw' => cell_one ((rd_f (hS106.rd (List.Mem.tail _ (List.Mem.head _)))) w' hw') (by kernel_rfl)) ?_
            refine WO.vals [(4, 6, (.pointer (some ⟨b5, 0, none⟩)))] (by kernel_rfl) (fun _ => by kernel_rfl) ?_
            refine WO.nil ?_
            refine En.next ?_
            refine W.seq ?_
            refine W.region (l := [0, 1, 2, 3, 4, 5, 6, 7, 8, 9, 10, 11, 12, 13]) (by kernel_rfl) ?_
            refine WO.vals [(0, 26, (.pointer (some ⟨b5, 0, none⟩))), (1, 27, (.pointer (some ⟨b1, 1, none⟩)))] (by kernel_rfl) (fun _ => by kernel_rfl) ?_
            refine WO.load rfl (by kernel_rfl) (by kernel_rfl) rfl (v := (.int .i64 p0.Who)) (fun w' hw' => cell_one ((rd_f (hS106.rd (List.Mem.head _))) w' hw') (by kernel_rfl)) ?_
            refine WO.vals [(3, 29, (.pointer (some ⟨b1, 3, none⟩)))] (by kernel_rfl) (fun _ => by kernel_rfl) ?_
            refine WO.load rfl (by kernel_rfl) (by kernel_rfl) rfl (v := (.string p0.Path)) (fun w' hw' => cell_one ((rd_f (hS106.rd (List.Mem.head _))) w' hw') (by kernel_rfl)) ?_
            refine WO.vals [(5, 31, (.pointer (some ⟨b1, 2, none⟩)))] (by kernel_rfl) (fun _ => by kernel_rfl) ?_
            refine WO.load rfl (by kernel_rfl) (by kernel_rfl) rfl (v := (.int .i64 p0.Mode)) (fun w' hw' => cell_one ((rd_f (hS106.rd (List.Mem.head _))) w' hw') (by kernel_rfl)) ?_
            refine WO.vals [(7, 33, (.agg (cs_api_Need (⟨p0.Path, p0.Mode⟩ : api_Need)).toArray))] (by kernel_rfl) (fun _ => by kernel_rfl) ?_
            have hS111 := hS106.front2
            obtain ⟨⟨r117, r118⟩, hx_r112, hr⟩ := bind_some hr
            obtain rfl : false = r117 := congrArg (fun t => t.1) (Option.some.inj (show some (false, 1) = some (r117, r118) from hx_r112))
            obtain rfl : 1 = r118 := congrArg (fun t => t.2) (Option.some.inj (show some (false, 1) = some (false, r118) from hx_r112))
            refine WO.call rfl (by kernel_rfl) rfl (f := 24) (args := #[(.pointer (some ⟨b5, 0, none⟩)), (.int .i64 p0.Who), (.agg (cs_api_Need (⟨p0.Path, p0.Mode⟩ : api_Need)).toArray)]) (by kernel_rfl) (mdl_Locks_Ask_zero_ok  hS111 hx_r112) ?_
            rintro _ w113 ⟨I114, rfl, hl115, hS116⟩
            refine ⟨_, rfl, trivial, ?_⟩
            refine WO.vals [(9, 25, (.tuple #[(.bool false), (.int .i64 1)])), (10, 35, (.bool false)), (11, 36, (.int .i64 1)), (12, 7, (.bool false)), (13, 8, (.int .i64 1))] (by kernel_rfl) (fun _ => by kernel_rfl) ?_
            refine WO.nil ?_
            refine En.next ?_
            refine W.seq ?_
            refine W.region (l := [0, 1, 2, 3, 4, 5, 6, 7, 8, 9]) (by kernel_rfl) ?_
            refine WO.vals [(0, 38, (.pointer (some ⟨b5, 0, none⟩))), (1, 39, (.pointer (some ⟨b1, 1, none⟩)))] (by kernel_rfl) (fun _ => by kernel_rfl) ?_
            refine WO.load rfl (by kernel_rfl) (by kernel_rfl) rfl (v := (.int .i64 p0.Who)) (fun w' hw' => cell_one ((rd_f (hS116.rd (List.Mem.tail _ (List.Mem.head _)))) w' hw') (by kernel_rfl)) ?_
            obtain ⟨⟨r124, r125⟩, hx_r119, hr⟩ := bind_some hr
            obtain rfl : false = r125 := congrArg (fun t => t.2) (Option.some.inj (show some (_, false) = some (r124, r125) from hx_r119))
            refine WO.call rfl (by kernel_rfl) rfl (f := 20) (args := #[(.pointer (some ⟨b5, 0, none⟩)), (.int .i64 p0.Who)]) (by kernel_rfl) (mdl_Locks_Waits_zero_ok  hS116 hx_r119) ?_
            rintro _ w120 ⟨I121, rfl, hl122, hS123⟩
            refine ⟨_, rfl, trivial, ?_⟩
            refine WO.vals [(4, 37, (.tuple #[(.agg (cs_api_Need r124).toArray), (.bool false)])), (5, 42, (.agg (cs_api_Need r124).toArray)), (6, 43, (.bool false))] (by kernel_rfl) (fun _ => by kernel_rfl) ?_
            refine WO.new hS123 rfl (by kernel_rfl) rfl (.cells (cs_api_Need z_api_Need).toArray 43 (0, 0)) (fun b => .pointer (some ⟨b, 0, none⟩)) (by kernel_rfl) (fun _ _ _ => trivial) ?_
            intro b126 w129 hS128
            refine WO.storeBox hS128 rfl (by kernel_rfl) rfl 0 rfl rfl (by kernel_rfl) (by kernel_rfl) (by kernel_rfl) ((cs_api_Need r124).toArray) (by kernel_rfl) (fun _ _ => trivial) ?_
            intro w131 hS130
            refine WO.vals [(9, 10, (.bool false))] (by kernel_rfl) (fun _ => by kernel_rfl) ?_
            refine WO.nil ?_
            refine En.next ?_
            refine W.seq ?_
            refine W.seq ?_
            refine W.region (l := [0, 1, 2, 3, 4, 5, 6, 7, 8, 9, 10, 11, 12, 13, 14, 15, 16, 17, 18, 19, 20, 21, 22, 23, 24, 25, 26, 27]) (by kernel_rfl) ?_
            refine WO.vals [(0, 44, (.bool false)), (1, 45, (.bool false)), (2, 46, (.int .i64 1)), (3, 47, (.bool false)), (4, 48, (.bool false)), (5, 49, (.bool false)), (6, 50, (.pointer (some ⟨b5, 0, none⟩))), (7, 51, (.pointer (some ⟨b1, 1, none⟩)))] (by kernel_rfl) (fun _ => by kernel_rfl) ?_
            refine WO.load rfl (by kernel_rfl) (by kernel_rfl) rfl (v := (.int .i64 p0.Who)) (fun w' hw' => cell_one ((rd_f (hS130.rd (List.Mem.tail _ (List.Mem.tail _ (List.Mem.head _))))) w' hw') (by kernel_rfl)) ?_
            refine WO.vals [(9, 53, (.pointer (some ⟨b1, 3, none⟩)))] (by kernel_rfl) (fun _ => by kernel_rfl) ?_
            refine WO.load rfl (by kernel_rfl) (by kernel_rfl) rfl (v := (.string p0.Path)) (fun w' hw' => cell_one ((rd_f (hS130.rd (List.Mem.tail _ (List.Mem.tail _ (List.Mem.head _))))) w' hw') (by kernel_rfl)) ?_
            have hS132 := hS130.front1
            obtain ⟨r138, hx_r133, hr⟩ := bind_some hr
            refine WO.call rfl (by kernel_rfl) rfl (f := 25) (args := #[(.pointer (some ⟨b5, 0, none⟩)), (.int .i64 p0.Who), (.string p0.Path)]) (by kernel_rfl) (mdl_Locks_Free_zero_ok  hS132 hx_r133) ?_
            rintro _ w134 ⟨I135, rfl, hl136, hS137⟩
            refine ⟨_, rfl, trivial, ?_⟩
            refine WO.vals [(12, 56, (.bool (r138 != 1))), (13, 57, (.bool (r138 != 1))), (14, 58, (.bool (r138 != 1)))] (by kernel_rfl) (fun _ => by kernel_rfl) ?_
            obtain ⟨j139, hr1, hr⟩ := bind_some hr
            refine WO.join (l1 := [15, 16, 17, 18, 19, 20]) (l2 := [21, 22, 23, 24, 25, 26, 27]) (J := (fun fr w => ∃ (I141 : Mem), fr = [(1, (.pointer (some ⟨b1, 0, none⟩))), (4, (.slice (some ⟨b9, 0, none⟩) 2 2)), (5, (.int .i64 1)), (6, (.pointer (some ⟨b5, 0, none⟩))), (10, (.bool false)), (64, (.bool j139))] ∧ I135.Le I141 ∧ St E w I141 ((Gv.one b1 (.cells (cs_registrarlaw21_Act p0).toArray 27 (0, 0))) :: (Gv.one b5 (.cells #[(.map none)] 56 (0, 0))) :: (Gv.one b9 (.cells #[(.pointer none), (.pointer (some ⟨b5, 0, none⟩))] 23 (0, 0))) :: Os))) ?restj139 ?waysj139
            case waysj139 =>
              refine WO.caseb (r138 != 1) (fun hc => ?_) (fun hc => ?_)
              · replace hr1 := cond_t hc hr1
                refine WO.reslot 58 rfl (show Value.bool (r138 != 1) = Value.bool true by rw [hc]) ?_
                refine WO.pass rfl (by kernel_rfl) rfl ?_
                refine WO.pass rfl (by kernel_rfl) rfl ?_
                refine WO.pass rfl (by kernel_rfl) rfl ?_
                refine WO.pass rfl (by kernel_rfl) rfl ?_
                refine WO.pass rfl (by kernel_rfl) rfl ?_
                refine WO.vals [(20, 64, (.bool true))] (by kernel_rfl) (fun _ => by kernel_rfl) ?_
                have hS143 := hS137.front1
                have hS144 := hS143.drop
                have hS145 := hS144.front2
                have hS146 := hS145.front1
                have hS147 := hS146.front2
                have he := Option.some.inj hr1
                subst j139
                refine WO.weaken (fr' := [(1, (.pointer (some ⟨b1, 0, none⟩))), (4, (.slice (some ⟨b9, 0, none⟩) 2 2)), (5, (.int .i64 1)), (6, (.pointer (some ⟨b5, 0, none⟩))), (10, (.bool false)), (64, (.bool true))]) (WO.meet ⟨I135, rfl, Mem.Le.refl _, hS147⟩) (Sub.cons rfl (Sub.cons rfl (Sub.cons rfl (Sub.cons rfl (Sub.cons rfl (Sub.cons rfl Sub.nil))))))
              · replace hr1 := cond_f hc hr1
                refine WO.reslot 58 rfl (show Value.bool (r138 != 1) = Value.bool false by rw [hc]) ?_
                refine WO.vals [(15, 59, (.pointer (some ⟨b5, 0, none⟩))), (16, 60, (.pointer (some ⟨b1, 1, none⟩)))] (by kernel_rfl) (fun _ => by kernel_rfl) ?_
                refine WO.load rfl (by kernel_rfl) (by kernel_rfl) rfl (v := (.int .i64 p0.Who)) (fun w' hw' => cell_one ((rd_f (hS137.rd (List.Mem.tail _ (List.Mem.tail _ (List.Mem.head _))))) w' hw') (by kernel_rfl)) ?_
                obtain ⟨r153, hx_r148, hr1⟩ := bind_some hr1
                refine WO.call rfl (by kernel_rfl) rfl (f := 21) (args := #[(.pointer (some ⟨b5, 0, none⟩)), (.int .i64 p0.Who)]) (by kernel_rfl) (mdl_Locks_Leave_zero_ok  hS137 hx_r148) ?_
                rintro _ w149 ⟨I150, rfl, hl151, hS152⟩
                refine ⟨_, rfl, trivial, ?_⟩
                refine WO.vals [(19, 63, (.bool (r153 != 1))), (20, 64, (.bool (r153 != 1)))] (by kernel_rfl) (fun _ => by kernel_rfl) ?_
                have hS154 := hS152.front1
                have hS155 := hS154.drop
                have hS156 := hS155.front2
                have hS157 := hS156.front1
                have hS158 := hS157.front2
                have he := Option.some.inj hr1
                subst j139
                refine WO.weaken (fr' := [(1, (.pointer (some ⟨b1, 0, none⟩))), (4, (.slice (some ⟨b9, 0, none⟩) 2 2)), (5, (.int .i64 1)), (6, (.pointer (some ⟨b5, 0, none⟩))), (10, (.bool false)), (64, (.bool (r153 != 1)))]) (WO.meet ⟨I150, rfl, hl151, hS158⟩) (Sub.cons rfl (Sub.cons rfl (Sub.cons rfl (Sub.cons rfl (Sub.cons rfl (Sub.cons rfl Sub.nil))))))
            case restj139 =>
              rintro _ w159 ⟨I141, rfl, hl142, hS160⟩
              refine WO.vals [(21, 65, (.bool j139))] (by kernel_rfl) (fun _ => by kernel_rfl) ?_
              refine WO.join (l1 := [22, 23]) (l2 := [24, 25, 26, 27]) (J := fun frx wx => frx = [(67, (.bool (j139 && true))), (1, (.pointer (some ⟨b1, 0, none⟩))), (4, (.slice (some ⟨b9, 0, none⟩) 2 2)), (5, (.int .i64 1)), (6, (.pointer (some ⟨b5, 0, none⟩)))] ∧ w159 = wx) ?restm161 ?waysm161
              case waysm161 =>
                refine WO.caseb j139 (fun hc => ?_) (fun hc => ?_)
                · skip
                  refine WO.reslot 65 rfl (show Value.bool j139 = Value.bool true by rw [hc]) ?_
                  refine WO.pass rfl (by kernel_rfl) rfl ?_
                  refine WO.vals [(23, 67, (.bool true))] (by kernel_rfl) (fun _ => by kernel_rfl) ?_
                  refine WO.weaken (fr' := [(67, (.bool (j139 && true))), (1, (.pointer (some ⟨b1, 0, none⟩))), (4, (.slice (some ⟨b9, 0, none⟩) 2 2)), (5, (.int .i64 1)), (6, (.pointer (some ⟨b5, 0, none⟩)))]) (WO.meet ⟨rfl, rfl⟩) (Sub.cons (by rw [hc]; rfl) (Sub.cons rfl (Sub.cons rfl (Sub.cons rfl (Sub.cons rfl Sub.nil)))))
                · skip
                  refine WO.reslot 65 rfl (show Value.bool j139 = Value.bool false by rw [hc]) ?_
                  refine WO.vals [(22, 66, (.bool false)), (23, 67, (.bool false))] (by kernel_rfl) (fun _ => by kernel_rfl) ?_
                  refine WO.weaken (fr' := [(67, (.bool (j139 && true))), (1, (.pointer (some ⟨b1, 0, none⟩))), (4, (.slice (some ⟨b9, 0, none⟩) 2 2)), (5, (.int .i64 1)), (6, (.pointer (some ⟨b5, 0, none⟩)))]) (WO.meet ⟨rfl, rfl⟩) (Sub.cons (by rw [hc]; rfl) (Sub.cons rfl (Sub.cons rfl (Sub.cons rfl (Sub.cons rfl Sub.nil)))))
              case restm161 =>
                rintro _ _ ⟨rfl, rfl⟩
                refine WO.vals [(24, 68, (.bool (j139 && true)))] (by kernel_rfl) (fun _ => by kernel_rfl) ?_
                obtain ⟨j163, hr1, hr⟩ := bind_some hr
                refine WO.join (l1 := [25, 26, 27]) (l2 := []) (J := (fun fr w => ∃ (I165 : Mem), fr = [(1, (.pointer (some ⟨b1, 0, none⟩))), (4, (.slice (some ⟨b9, 0, none⟩) 2 2)), (5, (.int .i64 1)), (6, (.pointer (some ⟨b5, 0, none⟩))), (71, (.bool j163))] ∧ I141.Le I165 ∧ St E w I165 ((Gv.one b1 (.cells (cs_registrarlaw21_Act p0).toArray 27 (0, 0))) :: (Gv.one b5 (.cells #[(.map none)] 56 (0, 0))) :: (Gv.one b9 (.cells #[(.pointer none), (.pointer (some ⟨b5, 0, none⟩))] 23 (0, 0))) :: Os))) ?restj163 ?waysj163
                case waysj163 =>
                  refine WO.caseb (j139 && true) (fun hc => ?_) (fun hc => ?_)
                  · replace hr1 := cond_t hc hr1
                    refine WO.reslot 68 rfl (show Value.bool (j139 && true) = Value.bool true by rw [hc]) ?_
                    refine WO.pass rfl (by kernel_rfl) rfl ?_
                    refine WO.pass rfl (by kernel_rfl) rfl ?_
                    refine WO.vals [(27, 71, (.bool true))] (by kernel_rfl) (fun _ => by kernel_rfl) ?_
                    have he := Option.some.inj hr1
                    subst j163
                    refine WO.weaken (fr' := [(1, (.pointer (some ⟨b1, 0, none⟩))), (4, (.slice (some ⟨b9, 0, none⟩) 2 2)), (5, (.int .i64 1)), (6, (.pointer (some ⟨b5, 0, none⟩))), (71, (.bool true))]) (WO.meet ⟨I141, rfl, Mem.Le.refl _, hS160⟩) (Sub.cons rfl (Sub.cons rfl (Sub.cons rfl (Sub.cons rfl (Sub.cons rfl Sub.nil)))))
                  · replace hr1 := cond_f hc hr1
                    refine WO.reslot 68 rfl (show Value.bool (j139 && true) = Value.bool false by rw [hc]) ?_
                    refine WO.vals [(25, 69, (.pointer (some ⟨b5, 0, none⟩)))] (by kernel_rfl) (fun _ => by kernel_rfl) ?_
                    have hS167 := hS160.front1
                    obtain ⟨r173, hx_r168, hr1⟩ := bind_some hr1
                    obtain rfl : false = r173 := Option.some.inj hx_r168
                    refine WO.call rfl (by kernel_rfl) rfl (f := 19) (args := #[(.pointer (some ⟨b5, 0, none⟩))]) (by kernel_rfl) (mdl_Locks_Cycle_zero_ok  hS167 hx_r168) ?_
                    rintro _ w169 ⟨I170, rfl, hl171, hS172⟩
                    refine ⟨_, rfl, trivial, ?_⟩
                    refine WO.vals [(27, 71, (.bool false))] (by kernel_rfl) (fun _ => by kernel_rfl) ?_
                    have hS174 := hS172.front2
                    have hS175 := hS174.front1
                    have hS176 := hS175.front2
                    have he := Option.some.inj hr1
                    subst j163
                    refine WO.weaken (fr' := [(1, (.pointer (some ⟨b1, 0, none⟩))), (4, (.slice (some ⟨b9, 0, none⟩) 2 2)), (5, (.int .i64 1)), (6, (.pointer (some ⟨b5, 0, none⟩))), (71, (.bool false))]) (WO.meet ⟨I170, rfl, hl171, hS176⟩) (Sub.cons rfl (Sub.cons rfl (Sub.cons rfl (Sub.cons rfl (Sub.cons rfl Sub.nil)))))
                case restj163 =>
                  rintro _ w177 ⟨I165, rfl, hl166, hS178⟩
                  refine WO.nil ?_
                  refine En.next ?_
                  refine W.cond (b := j163) rfl rfl (fun hc => ?_) (fun hc => ?_)
                  · replace hr := cond_t hc hr
                    refine W.seq ?_
                    refine W.region (l := [0]) (by kernel_rfl) ?_
                    refine WO.vals [(0, 2, (.bool false))] (by kernel_rfl) (fun _ => by kernel_rfl) ?_
                    refine WO.nil ?_
                    refine En.next ?_
                    refine W.ret ?_
                    refine En.nx_ret ?_
                    refine En.in_ret ?_
                    refine En.nx_ret ?_
                    refine En.un_ret ?_
                    refine En.in_ret ?_
                    refine En.nx_ret ?_
                    have hS179 := hS178.drop
                    have hS180 := hS179.drop
                    have hS181 := hS180.drop
                    have he := Option.some.inj hr
                    subst r
                    exact En.ret1 rfl (.bool false) rfl ⟨I165, rfl, ((((((((((((((hl16.trans hl23).trans hl36).trans hl42).trans hl64).trans hl81).trans hl87).trans hl93).trans hl99).trans hl105).trans hl115).trans hl122).trans hl136).trans hl142).trans hl166), hS181⟩
                  · replace hr := cond_f hc hr
                    refine W.skip ?_
                    refine En.next ?_
                    refine W.seq ?_
                    have hS182 := hS178.drew
                    refine W.draw (l := [0, 1, 2, 3, 4, 5, 6, 7, 8, 9, 10, 11, 12, 13, 14, 15, 16, 17, 18, 19, 20, 21, 22, 23, 24, 25, 26, 27]) (by kernel_rfl) 26 (KR I165 [Gv.one b1 (.cells (cs_registrarlaw21_Act p0).toArray 27 (0, 0))]) qR (.back (by kernel_rfl)) (by kernel_rfl) (KR.cons (hS182.rd (List.Mem.head _)) (KR.nil hS182.im)) ?_
                    generalize World.drew _ = w183 at *
                    refine WO.vals [(0, 72, (.pointer (some ⟨b5, 0, none⟩))), (1, 73, (.pointer (some ⟨b1, 1, none⟩)))] (by kernel_rfl) (fun _ => by kernel_rfl) ?_
                    refine WO.load rfl (by kernel_rfl) (by kernel_rfl) rfl (v := (.int .i64 p0.Who)) (fun w' hw' => cell_one ((rd_c (List.Mem.head _) (hS182.rd (List.Mem.head _))) w' hw') (by kernel_rfl)) ?_
                    have hS184 := hS182.front1
                    obtain ⟨r190, hx_r185, hr⟩ := bind_some hr
                    obtain rfl : ([] : List api_Need) = r190 := Option.some.inj hx_r185
                    refine WO.call rfl (by kernel_rfl) rfl (f := 18) (args := #[(.pointer (some ⟨b5, 0, none⟩)), (.int .i64 p0.Who)]) (by kernel_rfl) (mdl_Locks_Holds_zero_ok  hS184 hx_r185) ?_
                    rintro _ w186 ⟨I187, a_r190, c_r190, rfl, hl188, hS189, h_r190⟩
                    refine ⟨_, rfl, (KR.cons (hS189.rd (List.Mem.tail _ (List.Mem.head _))) (KR.nil (hS189.im.of_le hl188))), ?_⟩
                    refine WO.vals [(4, 76, (.int .i64 (([] : List api_Need).length : Int))), (5, 77, (.pointer (some ⟨b5, 0, none⟩))), (6, 78, (.pointer (some ⟨b1, 1, none⟩)))] (by kernel_rfl) (fun _ => by kernel_rfl) ?_
                    refine WO.load rfl (by kernel_rfl) (by kernel_rfl) rfl (v := (.int .i64 p0.Who)) (fun w' hw' => cell_one ((rd_c (List.Mem.head _) (hS189.rd (List.Mem.tail _ (List.Mem.head _)))) w' hw') (by kernel_rfl)) ?_
                    obtain ⟨r196, hx_r191, hr⟩ := bind_some hr
                    refine WO.call rfl (by kernel_rfl) rfl (f := 26) (args := #[(.pointer (some ⟨b5, 0, none⟩)), (.int .i64 p0.Who)]) (by kernel_rfl) (mdl_Locks_Blockers_zero_ok  hS189 hx_r191) ?_
                    rintro _ w192 ⟨I193, a_r196, c_r196, rfl, hl194, hS195, h_r196⟩
                    refine ⟨_, rfl, (KR.cons (hS195.rd (List.Mem.tail _ (List.Mem.head _))) (KR.nil (hS195.im.of_le (hl188.trans hl194)))), ?_⟩
                    refine WO.vals [(9, 81, (.int .i64 (r196.length : Int))), (10, 82, (.int .i64 (w64 ((([] : List api_Need).length : Int) + (r196.length : Int))))), (11, 83, (.pointer (some ⟨b5, 0, none⟩)))] (by kernel_rfl) (fun _ => by kernel_rfl) ?_
                    obtain ⟨r202, hx_r197, hr⟩ := bind_some hr
                    obtain rfl : ([] : List ByteArray) = r202 := Option.some.inj hx_r197
                    refine WO.call rfl (by kernel_rfl) rfl (f := 11) (args := #[(.pointer (some ⟨b5, 0, none⟩))]) (by kernel_rfl) (mdl_Locks_Paths_zero_ok  hS195 hx_r197) ?_
                    rintro _ w198 ⟨I199, a_r202, c_r202, rfl, hl200, hS201, h_r202⟩
                    refine ⟨_, rfl, (KR.cons (hS201.rd (List.Mem.tail _ (List.Mem.head _))) (KR.nil (hS201.im.of_le ((hl188.trans hl194).trans hl200)))), ?_⟩
                    refine WO.vals [(13, 85, (.int .i64 (([] : List ByteArray).length : Int))), (14, 86, (.int .i64 (w64 ((w64 ((([] : List api_Need).length : Int) + (r196.length : Int))) + (([] : List ByteArray).length : Int))))), (15, 87, (.pointer (some ⟨b5, 0, none⟩))), (16, 88, (.pointer (some ⟨b1, 3, none⟩)))] (by kernel_rfl) (fun _ => by kernel_rfl) ?_
                    refine WO.load rfl (by kernel_rfl) (by kernel_rfl) rfl (v := (.string p0.Path)) (fun w' hw' => cell_one ((rd_c (List.Mem.head _) (hS201.rd (List.Mem.tail _ (List.Mem.head _)))) w' hw') (by kernel_rfl)) ?_
                    obtain ⟨r208, hx_r203, hr⟩ := bind_some hr
                    obtain rfl : ([] : List Int) = r208 := Option.some.inj hx_r203
                    refine WO.call rfl (by kernel_rfl) rfl (f := 27) (args := #[(.pointer (some ⟨b5, 0, none⟩)), (.string p0.Path)]) (by kernel_rfl) (mdl_Locks_Holders_zero_ok  hS201 hx_r203) ?_
                    rintro _ w204 ⟨I205, a_r208, c_r208, rfl, hl206, hS207, h_r208⟩
                    refine ⟨_, rfl, (KR.cons (hS207.rd (List.Mem.tail _ (List.Mem.head _))) (KR.nil (hS207.im.of_le (((hl188.trans hl194).trans hl200).trans hl206)))), ?_⟩
                    refine WO.vals [(19, 91, (.int .i64 (([] : List Int).length : Int))), (20, 92, (.int .i64 (w64 ((w64 ((w64 ((([] : List api_Need).length : Int) + (r196.length : Int))) + (([] : List ByteArray).length : Int))) + (([] : List Int).length : Int))))), (21, 93, (.pointer (some ⟨b5, 0, none⟩))), (22, 94, (.pointer (some ⟨b1, 3, none⟩)))] (by kernel_rfl) (fun _ => by kernel_rfl) ?_
                    refine WO.load rfl (by kernel_rfl) (by kernel_rfl) rfl (v := (.string p0.Path)) (fun w' hw' => cell_one ((rd_c (List.Mem.head _) (hS207.rd (List.Mem.tail _ (List.Mem.head _)))) w' hw') (by kernel_rfl)) ?_
                    obtain ⟨r214, hx_r209, hr⟩ := bind_some hr
                    obtain rfl : ([] : List Int) = r214 := Option.some.inj hx_r209
                    refine WO.call rfl (by kernel_rfl) rfl (f := 12) (args := #[(.pointer (some ⟨b5, 0, none⟩)), (.string p0.Path)]) (by kernel_rfl) (mdl_Locks_Waiters_zero_ok  hS207 hx_r209) ?_
                    rintro _ w210 ⟨I211, a_r214, c_r214, rfl, hl212, hS213, h_r214⟩
                    refine ⟨_, rfl, (KR.cons (hS213.rd (List.Mem.tail _ (List.Mem.head _))) (KR.nil (hS213.im.of_le ((((hl188.trans hl194).trans hl200).trans hl206).trans hl212)))), ?_⟩
                    refine WO.vals [(25, 97, (.int .i64 (([] : List Int).length : Int)))] (by kernel_rfl) (fun _ => by kernel_rfl) ?_
                    refine WO.tail rfl ?_
                    refine WO.vals [(26, 98, (.int .i64 (w64 ((w64 ((w64 ((w64 ((([] : List api_Need).length : Int) + (r196.length : Int))) + (([] : List ByteArray).length : Int))) + (([] : List Int).length : Int))) + (([] : List Int).length : Int))))), (27, 99, (.bool ((w64 ((w64 ((w64 ((w64 ((([] : List api_Need).length : Int) + (r196.length : Int))) + (([] : List ByteArray).length : Int))) + (([] : List Int).length : Int))) + (([] : List Int).length : Int))) != 0)))] (by kernel_rfl) (fun _ => by kernel_rfl) ?_
                    refine WO.nil ?_
                    refine En.next ?_
                    refine W.cond (b := ((w64 ((w64 ((w64 ((w64 ((([] : List api_Need).length : Int) + (r196.length : Int))) + (([] : List ByteArray).length : Int))) + (([] : List Int).length : Int))) + (([] : List Int).length : Int))) != 0)) rfl rfl (fun hc => ?_) (fun hc => ?_)
                    · replace hr := cond_t hc hr
                      refine W.seq ?_
                      refine W.region (l := [0]) (by kernel_rfl) ?_
                      refine WO.vals [(0, 2, (.bool false))] (by kernel_rfl) (fun _ => by kernel_rfl) ?_
                      refine WO.nil ?_
                      refine En.next ?_
                      refine W.ret ?_
                      refine En.in_ret ?_
                      refine En.nx_ret ?_
                      refine En.un_ret ?_
                      refine En.in_ret ?_
                      refine En.nx_ret ?_
                      have hS215 := hS213.drop
                      have hS216 := hS215.drop
                      have hS217 := hS216.drop
                      have he := Option.some.inj hr
                      subst r
                      exact En.ret1 rfl (.bool false) rfl ⟨I211, rfl, (((((((((((((((((((hl16.trans hl23).trans hl36).trans hl42).trans hl64).trans hl81).trans hl87).trans hl93).trans hl99).trans hl105).trans hl115).trans hl122).trans hl136).trans hl142).trans hl166).trans hl188).trans hl194).trans hl200).trans hl206).trans hl212), hS217⟩
                    · replace hr := cond_f hc hr
                      refine W.skip ?_
                      refine En.in_normal ?_
                      refine En.next ?_
                      refine W.region (l := [0, 1, 2]) (by kernel_rfl) ?_
                      refine WO.vals [(0, 19, (.int .i64 1)), (1, 20, (.int .i64 2)), (2, 5, (.int .i64 2))] (by kernel_rfl) (fun _ => by kernel_rfl) ?_
                      refine WO.nil ?_
                      refine En.again ?_
                      show W _ _ _ _ _ _
                      refine W.seq ?_
                      refine W.seq ?_
                      refine W.region (l := [0, 1, 2, 3]) (by kernel_rfl) ?_
                      refine WO.vals [(0, 15, (.int .i64 2)), (1, 16, (.slice (some ⟨b9, 0, none⟩) 2 2)), (2, 17, (.int .i64 2)), (3, 18, (.bool false))] (by kernel_rfl) (fun _ => by kernel_rfl) ?_
                      refine WO.nil ?_
                      refine En.next ?_
                      refine W.cond (b := false) rfl rfl (fun hc => ?_) (fun hc => ?_)
                      · cases hc
                      clear hc
                      refine W.exit ?_
                      refine En.nx_exit ?_
                      refine En.un_exit ?_
                      refine En.in_hit ?_
                      refine En.next ?_
                      refine W.seq ?_
                      refine W.region (l := [0, 1]) (by kernel_rfl) ?_
                      obtain ⟨r223, hx_r218, hr⟩ := bind_some hr
                      refine WO.call rfl (by kernel_rfl) rfl (f := 10) (args := #[]) (by kernel_rfl) (registrarlaw21_works_ok  hS213 hx_r218) ?_
                      rintro _ w219 ⟨I220, rfl, hl221, hS222⟩
                      refine ⟨_, rfl, trivial, ?_⟩
                      refine WO.vals [(1, 2, (.bool r223))] (by kernel_rfl) (fun _ => by kernel_rfl) ?_
                      refine WO.nil ?_
                      refine En.next ?_
                      refine W.ret ?_
                      have hS224 := hS222.drop
                      have hS225 := hS224.drop
                      have hS226 := hS225.drop
                      have he := Option.some.inj hr
                      subst r
                      exact En.ret1 rfl (.bool r223) rfl ⟨I220, rfl, ((((((((((((((((((((hl16.trans hl23).trans hl36).trans hl42).trans hl64).trans hl81).trans hl87).trans hl93).trans hl99).trans hl105).trans hl115).trans hl122).trans hl136).trans hl142).trans hl166).trans hl188).trans hl194).trans hl200).trans hl206).trans hl212).trans hl221), hS226⟩
end Go.Proofs.Ytdmefifamlpbiaa
