/- Plain laws: what the plain functions answer. Conditions: none. -/
import Derived.Test.YtdmapcjbbbifbaaGreatHA
set_option maxRecDepth 100000
namespace Go.Proofs.YtdmapcjbbbifbaaGreat
open Go.Gv
theorem lb {α : Type} {a b : Option α} (h : Le a b := by repeat first | with_reducible exact Le.refl _ | apply_assumption | refine Le.bind ?_ (fun x => ?_) | refine Le.cond ?_ ?_ | refine Le.loopK (fun s => ?_) _ _ | refine Le.forE (fun i s => ?_) _ _ _ | refine Le.forN (fun i s => ?_) _ _ _ | exact Le.refl _ | cases x | cases s) : Le a b := h
def r18_Reach_c (kf : Nat) (p0 : List qJ) (p1 : By8) : Option (List Bool) := (mk 1 (p0.length : Int)).bind (fun n1 => (r18_At p0 p1).bind (fun (r13 : Int) => ((bif (decide (r13 ≥ 0)) then (idx (List.replicate n1 false) r13).bind (fun x18 => some ((List.replicate n1 false).set (r13).toNat true)) else some (List.replicate n1 false))).bind (fun (j14 : List Bool) => (forE (fun (i29 : Nat) (s28 : List Bool) => (forE (fun (i40 : Nat) (s39 : List Bool) => (loopK kf (fun (s : Int × (List Bool)) => match s with | (s50, s51) => (idx s51 (i40 : Int)).bind (fun x56 => ((bif x56 then (idx p0 (i40 : Int)).bind (fun x61 => some (decide (s50 < (x61.In.length : Int)))) else some false)).bind (fun (j57 : Bool) => (bif j57 then (idx p0 (i40 : Int)).bind (fun x64 => (idx x64.In s50).bind (fun x65 => (r18_At p0 x65).bind (fun (r71 : Int) => ((bif (decide (r71 ≥ 0)) then (idx s51 r71).bind (fun x76 => some (s51.set (r71).toNat true)) else some s51)).bind (fun (j72 : List Bool) => some (.inl ((w64 (s50 + 1)), j72)))))) else some (.inr s51))))) (0, s39)).bind (fun (s84 : List Bool) => some s84)) p0.length 0 s28).bind (fun s39 => some s39)) p0.length 0 j14).bind (fun s28 => some s28))))
theorem r18_Reach_le (kf : Nat) (p0 : List qJ) (p1 : By8)  : Le (r18_Reach_c kf p0 p1) (r18_Reach p0 p1) := by
  unfold r18_Reach_c r18_Reach
  exact lb
def r18_into_c (kf : Nat) (p0 : List By8) (p1 : By8) : Option (List By8) := (loopK kf (fun (s4 : Int) => ((bif (decide (s4 < (p0.length : Int))) then (idx p0 s4).bind (fun x13 => some (sLt x13 p1)) else some false)).bind (fun (j9 : Bool) => (bif j9 then some (.inl (w64 (s4 + 1))) else some (.inr s4)))) 0).bind (fun (s17 : Int) => (sub p0 0 s17).bind (fun x18 => (app 16 ([] : List By8) x18).bind (fun x21 => (app 16 x21 ([p1] : List By8)).bind (fun x36 => (sub p0 s17 (p0.length : Int)).bind (fun x45 => (app 16 x36 x45).bind (fun x46 => some x46))))))
theorem r18_into_le (kf : Nat) (p0 : List By8) (p1 : By8)  : Le (r18_into_c kf p0 p1) (r18_into p0 p1) := by
  unfold r18_into_c r18_into
  exact lb
def r18_All_c (kf : Nat) (p0 : List qJ) (p1 : By8) : Option (List By8) := (r18_Reach_c kf p0 p1).bind (fun r6 => (forE (fun (i11 : Nat) (s10 : List By8) => (idx r6 (i11 : Int)).bind (fun x18 => ((bif x18 then (idx p0 (i11 : Int)).bind (fun x23 => (r18_into_c kf s10 x23.Name).bind (fun r29 => some r29)) else some s10)).bind (fun (j19 : List By8) => some j19))) p0.length 0 ([] : List By8)).bind (fun s10 => some s10))
theorem r18_All_le (kf : Nat) (p0 : List qJ) (p1 : By8)  : Le (r18_All_c kf p0 p1) (r18_All p0 p1) := by
  unfold r18_All_c r18_All
  have := @r18_Reach_le kf
  have := @r18_into_le kf
  exact lb
def r18_Is_c (kf : Nat) (p0 : List qJ) (p1 : By8) (p2 : By8) : Option Bool := (r18_All_c kf p0 p1).bind (fun r6 => (r14_Has r6 p2).bind (fun (r12 : Bool) => some r12))
theorem r18_Is_le (kf : Nat) (p0 : List qJ) (p1 : By8) (p2 : By8)  : Le (r18_Is_c kf p0 p1 p2) (r18_Is p0 p1 p2) := by
  unfold r18_Is_c r18_Is
  have := @r18_All_le kf
  exact lb
def r09_all_c (kf : Nat) (p0 : By8) (p1 : Int) (p2 : By8) : Option Bool := (loopK kf (fun (s4 : Int) => (bif (decide (s4 < (p0.size : Int))) then (loopK kf (fun (s : Bool × Int) => match s with | (s12, s13) => (bif (decide (s13 < (p2.size : Int))) then ((bif s12 then some true else (sAt p2 s13).bind (fun y24 => (sAt p0 s4).bind (fun y25 => some (y24 == y25))))).bind (fun (j20 : Bool) => some (.inl (j20, (w64 (s13 + 1))))) else some (.inr s12))) (false, 0)).bind (fun (s29 : Bool) => (bif (!s29) then some (.inr (.inl false)) else some (.inl (w64 (s4 + 1))))) else some (.inr (.inr ())))) p1).bind (fun (t : Bool ⊕ Unit) => match t with | (.inl s31) => some s31 | (.inr ()) => some true)
theorem r09_all_le (kf : Nat) (p0 : By8) (p1 : Int) (p2 : By8)  : Le (r09_all_c kf p0 p1 p2) (r09_all p0 p1 p2) := by
  unfold r09_all_c r09_all
  exact lb
def r03_Plain_c (kf : Nat) (p0 : By8) : Option Bool := none
theorem r03_Plain_le (kf : Nat) (p0 : By8)  : Le (r03_Plain_c kf p0) (r03_Plain p0) := by
  exact Le.none _
def r09_quoted_c (kf : Nat) (p0 : By8) : Option Bool := ((bif (decide ((p0.size : Int) < 2)) then some true else (sAt p0 0).bind (fun y5 => some (y5 != 39)))).bind (fun (j1 : Bool) => ((bif j1 then some true else (sAt p0 (w64 ((p0.size : Int) - 1))).bind (fun y12 => some (y12 != 39)))).bind (fun (j8 : Bool) => ((bif j8 then some true else (r03_Plain_c kf p0).bind (fun r24 => some (!r24)))).bind (fun (j15 : Bool) => (bif j15 then some false else (loopK kf (fun (s : Int × Int) => match s with | (s30, s31) => (bif (decide (s31 < (w64 ((p0.size : Int) - 1)))) then ((sAt p0 s31).bind (fun y40 => (bif (y40 != 39) then (bif ((Int.tmod s30 2) == 1) then some (.inl false) else some (.inr s30)) else some (.inr (w64 (s30 + 1)))))).bind (fun (t : Bool ⊕ Int) => match t with | (.inl s42) => some (.inr (.inl s42)) | (.inr s45) => some (.inl (s45, (w64 (s31 + 1))))) else some (.inr (.inr s30)))) (0, 1)).bind (fun (t : Bool ⊕ Int) => match t with | (.inl s44) => some s44 | (.inr s49) => some ((Int.tmod s49 2) == 0))))))
theorem r09_quoted_le (kf : Nat) (p0 : By8)  : Le (r09_quoted_c kf p0) (r09_quoted p0) := by
  unfold r09_quoted_c r09_quoted
  have := @r03_Plain_le kf
  exact lb
def r09_Kind_c (kf : Nat) (p0 : By8) : Option Int := (bif (sEq p0 eB) then some 7 else ((bif (decide ((p0.size : Int) ≤ 12)) then (ssub p0 0 1).bind (fun x5 => (r09_all_c kf x5 0 (⟨#[97, 98, 99, 100, 101, 102, 103, 104, 105, 106, 107, 108, 109, 110, 111, 112, 113, 114, 115, 116, 117, 118, 119, 120, 121, 122]⟩ : By8)).bind (fun r11 => some r11)) else some false)).bind (fun (j1 : Bool) => ((bif j1 then (r09_all_c kf p0 1 (⟨#[97, 98, 99, 100, 101, 102, 103, 104, 105, 106, 107, 108, 109, 110, 111, 112, 113, 114, 115, 116, 117, 118, 119, 120, 121, 122, 48, 49, 50, 51, 52, 53, 54, 55, 56, 57, 95]⟩ : By8)).bind (fun r23 => some r23) else some false)).bind (fun (j14 : Bool) => (bif j14 then some 1 else ((bif (decide ((p0.size : Int) ≤ 16)) then (ssub p0 0 1).bind (fun x30 => (r09_all_c kf x30 0 (⟨#[65, 66, 67, 68, 69, 70, 71, 72, 73, 74, 75, 76, 77, 78, 79, 80, 81, 82, 83, 84, 85, 86, 87, 88, 89, 90]⟩ : By8)).bind (fun r36 => some r36)) else some false)).bind (fun (j26 : Bool) => ((bif j26 then (r09_all_c kf p0 1 (⟨#[65, 66, 67, 68, 69, 70, 71, 72, 73, 74, 75, 76, 77, 78, 79, 80, 81, 82, 83, 84, 85, 86, 87, 88, 89, 90, 95]⟩ : By8)).bind (fun r48 => some r48) else some false)).bind (fun (j39 : Bool) => (bif j39 then some 2 else ((bif (decide ((p0.size : Int) ≤ 19)) then (r09_all_c kf p0 0 (⟨#[48, 49, 50, 51, 52, 53, 54, 55, 56, 57]⟩ : By8)).bind (fun r60 => some r60) else some false)).bind (fun (j51 : Bool) => ((bif j51 then ((bif (sEq p0 (⟨#[48]⟩ : By8)) then some true else (sAt p0 0).bind (fun y71 => some (y71 != 48)))).bind (fun (j67 : Bool) => some j67) else some false)).bind (fun (j63 : Bool) => (bif j63 then some 3 else (r09_quoted_c kf p0).bind (fun r81 => (bif r81 then some 4 else ((bif ((p0.size : Int) == 2) then (sAt p0 0).bind (fun y86 => some (y86 == 36)) else some false)).bind (fun (j82 : Bool) => ((bif j82 then (sAt p0 1).bind (fun y93 => some (decide (y93 ≥ 49))) else some false)).bind (fun (j89 : Bool) => ((bif j89 then (sAt p0 1).bind (fun y100 => some (decide (y100 ≤ 54))) else some false)).bind (fun (j96 : Bool) => (bif j96 then some 5 else (r09_sign p0).bind (fun (r108 : Bool) => (bif r108 then some 6 else some 0))))))))))))))))))
theorem r09_Kind_le (kf : Nat) (p0 : By8)  : Le (r09_Kind_c kf p0) (r09_Kind p0) := by
  unfold r09_Kind_c r09_Kind
  have := @r09_all_le kf
  have := @r09_quoted_le kf
  exact lb
def r09_IsName_c (kf : Nat) (p0 : By8) : Option Bool := (r09_Kind_c kf p0).bind (fun r6 => some (r6 == 1))
theorem r09_IsName_le (kf : Nat) (p0 : By8)  : Le (r09_IsName_c kf p0) (r09_IsName p0) := by
  unfold r09_IsName_c r09_IsName
  have := @r09_Kind_le kf
  exact lb
def r18_Check_c (kf : Nat) (p0 : List qJ) : Option Int := (bif (decide ((p0.length : Int) > 8)) then some 2 else (forN (fun (i4 : Nat) (_s : Unit) => (idx p0 (i4 : Int)).bind (fun x13 => (r09_IsName_c kf x13.Name).bind (fun r19 => ((bif (!r19) then some true else ((bif (decide ((i4 : Int) > 0)) then (idx p0 (w64 ((i4 : Int) - 1))).bind (fun x28 => (idx p0 (i4 : Int)).bind (fun x29 => some (!sLt x28.Name x29.Name))) else some false)).bind (fun (j24 : Bool) => some j24))).bind (fun (j20 : Bool) => (bif j20 then some (.inr (2 : Int)) else (loopK kf (fun (s39 : Int) => (idx p0 (i4 : Int)).bind (fun x44 => (bif (decide (s39 < (x44.In.length : Int))) then (idx p0 (i4 : Int)).bind (fun x47 => (idx x47.In s39).bind (fun x48 => (r18_At p0 x48).bind (fun (r54 : Int) => ((bif (decide (r54 < 0)) then some true else ((bif (decide (s39 > 0)) then (idx p0 (i4 : Int)).bind (fun x63 => (idx x63.In (w64 (s39 - 1))).bind (fun x64 => (idx p0 (i4 : Int)).bind (fun x65 => (idx x65.In s39).bind (fun x66 => some (!sLt x64 x66))))) else some false)).bind (fun (j59 : Bool) => some j59))).bind (fun (j55 : Bool) => (bif j55 then some (.inr (.inl (2 : Int))) else some (.inl (w64 (s39 + 1)))))))) else some (.inr (.inr ()))))) 0).bind (fun (t : Int ⊕ Unit) => match t with | (.inl s72) => some (.inr s72) | (.inr ()) => some (.inl ()))))))) p0.length 0 ()).bind (fun (t : Unit ⊕ (Int)) => match t with | .inl _ => (forN (fun (i79 : Nat) (_s : Unit) => (loopK kf (fun (s89 : Int) => (idx p0 (i79 : Int)).bind (fun x94 => (bif (decide (s89 < (x94.In.length : Int))) then (idx p0 (i79 : Int)).bind (fun x97 => (idx x97.In s89).bind (fun x98 => (idx p0 (i79 : Int)).bind (fun x99 => (r18_Is_c kf p0 x98 x99.Name).bind (fun r105 => (bif r105 then some (.inr (.inl (2 : Int))) else some (.inl (w64 (s89 + 1)))))))) else some (.inr (.inr ()))))) 0).bind (fun (t : Int ⊕ Unit) => match t with | (.inl s107) => some (.inr s107) | (.inr ()) => some (.inl ()))) p0.length 0 ()).bind (fun (t : Unit ⊕ (Int)) => match t with | .inl _ => some 0 | .inr s109 => some s109) | .inr s35 => some s35))
theorem r18_Check_le (kf : Nat) (p0 : List qJ)  : Le (r18_Check_c kf p0) (r18_Check p0) := by
  unfold r18_Check_c r18_Check
  have := @r18_Is_le kf
  have := @r09_IsName_le kf
  exact lb
def r18_Create_c (kf : Nat) (p0 : List qJ) (p1 : By8) : Option ((List qJ) × Int) := (r18_Check_c kf p0).bind (fun r6 => (bif (r6 != 0) then some (([] : List qJ), r6) else (r09_IsName_c kf p1).bind (fun r12 => (bif (!r12) then some (([] : List qJ), 18) else (r18_At p0 p1).bind (fun (r18 : Int) => (bif (decide (r18 ≥ 0)) then some (([] : List qJ), 19) else (bif ((p0.length : Int) == 8) then some (([] : List qJ), 5) else (loopK kf (fun (s22 : Int) => ((bif (decide (s22 < (p0.length : Int))) then (idx p0 s22).bind (fun x31 => some (sLt x31.Name p1)) else some false)).bind (fun (j27 : Bool) => (bif j27 then some (.inl (w64 (s22 + 1))) else some (.inr s22)))) 0).bind (fun (s35 : Int) => (sub p0 0 s35).bind (fun x36 => (app 40 ([] : List qJ) x36).bind (fun x39 => (app 40 x39 ([{ z_qJ with Name := p1 }] : List qJ)).bind (fun x55 => (sub p0 s35 (p0.length : Int)).bind (fun x64 => (app 40 x55 x64).bind (fun x65 => some (x65, 0))))))))))))))
theorem r18_Create_le (kf : Nat) (p0 : List qJ) (p1 : By8)  : Le (r18_Create_c kf p0 p1) (r18_Create p0 p1) := by
  unfold r18_Create_c r18_Create
  have := @r09_IsName_le kf
  have := @r18_Check_le kf
  exact lb
def r18_Grant_c (kf : Nat) (p0 : List qJ) (p1 : By8) (p2 : By8) : Option ((List qJ) × Int) := none
theorem r18_Grant_le (kf : Nat) (p0 : List qJ) (p1 : By8) (p2 : By8)  : Le (r18_Grant_c kf p0 p1 p2) (r18_Grant p0 p1 p2) := by
  exact Le.none _
def r18_Revoke_c (kf : Nat) (p0 : List qJ) (p1 : By8) (p2 : By8) : Option ((List qJ) × Int) := none
theorem r18_Revoke_le (kf : Nat) (p0 : List qJ) (p1 : By8) (p2 : By8)  : Le (r18_Revoke_c kf p0 p1 p2) (r18_Revoke p0 p1 p2) := by
  exact Le.none _
def r18_Drop_c (kf : Nat) (p0 : List qJ) (p1 : By8) : Option ((List qJ) × Int) := none
theorem r18_Drop_le (kf : Nat) (p0 : List qJ) (p1 : By8)  : Le (r18_Drop_c kf p0 p1) (r18_Drop p0 p1) := by
  exact Le.none _
def r19_roles_c (kf : Nat) (p0 : qC) (p1 : qS) : Option ((List qJ) × Int) := (bif (p1.Kind == 10) then (r18_Create_c kf p0.Roles p1.Name).bind (fun (r14, r15) => some (r14, r15)) else (bif (p1.Kind == 12) then (r18_Grant_c kf p0.Roles p1.Name p1.Role).bind (fun (r23, r24) => some (r23, r24)) else (bif (p1.Kind == 13) then (r18_Revoke_c kf p0.Roles p1.Name p1.Role).bind (fun (r32, r33) => some (r32, r33)) else (forN (fun (i39 : Nat) (_s : Unit) => (idx p0.Tables (i39 : Int)).bind (fun x49 => (bif (sEq x49.Owner p1.Name) then some (.inr (([] : List qJ), (34 : Int))) else some (.inl ())))) p0.Tables.length 0 ()).bind (fun (t : Unit ⊕ (((List qJ) × Int))) => match t with | .inl _ => (r18_Drop_c kf p0.Roles p1.Name).bind (fun (r64, r65) => some (r64, r65)) | .inr (s51, s52) => some (s51, s52)))))
theorem r19_roles_le (kf : Nat) (p0 : qC) (p1 : qS)  : Le (r19_roles_c kf p0 p1) (r19_roles p0 p1) := by
  unfold r19_roles_c r19_roles
  have := @r18_Create_le kf
  have := @r18_Grant_le kf
  have := @r18_Revoke_le kf
  have := @r18_Drop_le kf
  exact lb
def r19_Owns_c (kf : Nat) (p0 : qC) (p1 : By8) (p2 : By8) : Option Bool := (r17_At p0 p2).bind (fun (r10 : Int) => ((bif (decide (r10 ≥ 0)) then (idx p0.Tables r10).bind (fun x17 => (r18_Is_c kf p0.Roles p1 x17.Owner).bind (fun r23 => some r23)) else some false)).bind (fun (j13 : Bool) => some j13))
theorem r19_Owns_le (kf : Nat) (p0 : qC) (p1 : By8) (p2 : By8)  : Le (r19_Owns_c kf p0 p1 p2) (r19_Owns p0 p1 p2) := by
  unfold r19_Owns_c r19_Owns
  have := @r18_Is_le kf
  exact lb
def r19_has_c (kf : Nat) (p0 : qC) (p1 : List qG) (p2 : By8) (p3 : Int) (p4 : By8) (p5 : Bool) : Option Bool := (forN (fun (i8 : Nat) (_s : Unit) => (idx p1 (i8 : Int)).bind (fun x17 => ((bif (x17.Priv == p3) then (idx p1 (i8 : Int)).bind (fun x22 => some (sEq x22.Table p4)) else some false)).bind (fun (j18 : Bool) => ((bif j18 then (idx p1 (i8 : Int)).bind (fun x29 => some (x29.Option || (!p5))) else some false)).bind (fun (j25 : Bool) => ((bif j25 then (idx p1 (i8 : Int)).bind (fun x38 => (r18_Is_c kf p0.Roles p2 x38.To).bind (fun r44 => some r44)) else some false)).bind (fun (j34 : Bool) => (bif j34 then some (.inr true) else some (.inl ()))))))) p1.length 0 ()).bind (fun (t : Unit ⊕ (Bool)) => match t with | .inl _ => some false | .inr s48 => some s48)
theorem r19_has_le (kf : Nat) (p0 : qC) (p1 : List qG) (p2 : By8) (p3 : Int) (p4 : By8) (p5 : Bool)  : Le (r19_has_c kf p0 p1 p2 p3 p4 p5) (r19_has p0 p1 p2 p3 p4 p5) := by
  unfold r19_has_c r19_has
  have := @r18_Is_le kf
  exact lb
def r19_Held_c (kf : Nat) (p0 : qC) : Option (List qG) := (loopK kf (fun (s : (List qG) × Int) => match s with | (s8, s9) => (bif (decide (s9 ≤ (p0.Grants.length : Int))) then (forE (fun (i18 : Nat) (s17 : List qG) => ((idx p0.Grants (i18 : Int)).bind (fun x32 => (r17_At p0 x32.Table).bind (fun (r44 : Int) => ((bif (decide (r44 < 0)) then some true else (r18_At p0.Roles x32.To).bind (fun (r56 : Int) => some (decide (r56 < 0))))).bind (fun (j45 : Bool) => (bif j45 then some s17 else (r19_Owns_c kf p0 x32.By x32.Table).bind (fun r69 => ((bif r69 then some true else (r19_has_c kf p0 s8 x32.By x32.Priv x32.Table true).bind (fun r79 => some r79))).bind (fun (j70 : Bool) => ((bif j70 then (app 64 s17 ([x32] : List qG)).bind (fun x94 => some x94) else some s17)).bind (fun (j82 : List qG) => some j82)))))))).bind (fun (j28 : List qG) => some j28)) p0.Grants.length 0 ([] : List qG)).bind (fun s17 => some (.inl (s17, (w64 (s9 + 1))))) else some (.inr s8))) (([] : List qG), 0)).bind (fun (s120 : List qG) => some s120)
theorem r19_Held_le (kf : Nat) (p0 : qC)  : Le (r19_Held_c kf p0) (r19_Held p0) := by
  unfold r19_Held_c r19_Held
  have := @r19_Owns_le kf
  have := @r19_has_le kf
  exact lb
def r19_Can_c (kf : Nat) (p0 : qC) (p1 : By8) (p2 : Int) (p3 : By8) : Option Bool := (r19_Owns_c kf p0 p1 p3).bind (fun r12 => ((bif r12 then some true else (r19_Held_c kf p0).bind (fun r22 => (r19_has_c kf p0 r22 p1 p2 p3 true).bind (fun r28 => some r28)))).bind (fun (j13 : Bool) => some j13))
theorem r19_Can_le (kf : Nat) (p0 : qC) (p1 : By8) (p2 : Int) (p3 : By8)  : Le (r19_Can_c kf p0 p1 p2 p3) (r19_Can p0 p1 p2 p3) := by
  unfold r19_Can_c r19_Can
  have := @r19_Owns_le kf
  have := @r19_has_le kf
  have := @r19_Held_le kf
  exact lb
def r19_given_c (kf : Nat) (p0 : qC) (p1 : qS) (p2 : By8) : Option ((List qG) × Int) := (r17_At p0 p1.Table).bind (fun (r14 : Int) => ((bif (decide (r14 < 0)) then some true else (r18_At p0.Roles p1.Role).bind (fun (r25 : Int) => some (decide (r25 < 0))))).bind (fun (j15 : Bool) => (bif j15 then some (([] : List qG), 4) else (r19_Can_c kf p0 p2 p1.Priv p1.Table).bind (fun r36 => (bif (!r36) then some (([] : List qG), 36) else (r19_place p0 p1 p2).bind (fun (r44 : Int) => (app 64 ([] : List qG) p0.Grants).bind (fun x47 => (bif (decide (r44 ≥ 0)) then (idx x47 r44).bind (fun x54 => (bif (x54.Option || (!p1.Option)) then some (([] : List qG), 19) else (idx x47 r44).bind (fun x60 => some ((x47.set (r44).toNat ({ x60 with Option := true })), 0)))) else (bif (decide ((x47.length : Int) ≥ 40)) then some (([] : List qG), 5) else (app 64 x47 ([(⟨p1.Role, p2, p1.Table, p1.Priv, p1.Option⟩ : qG)] : List qG)).bind (fun x82 => some (x82, 0)))))))))))
theorem r19_given_le (kf : Nat) (p0 : qC) (p1 : qS) (p2 : By8)  : Le (r19_given_c kf p0 p1 p2) (r19_given p0 p1 p2) := by
  unfold r19_given_c r19_given
  have := @r19_Can_le kf
  exact lb
def r19_Make_c (kf : Nat) (p0 : qC) (p1 : qS) (p2 : By8) (p3 : Int) : Option (qC × Int) := (bif ((decide (p1.Kind < 10)) || (decide (p1.Kind > 15))) then some (z_qC, 2) else (r18_At p0.Roles p2).bind (fun (r25 : Int) => (bif (decide (r25 < 0)) then some (z_qC, 4) else ((bif (decide (p1.Kind ≤ 13)) then (r18_Is_c kf p0.Roles p2 (⟨#[114, 111, 111, 116]⟩ : By8)).bind (fun r46 => some (!r46)) else some false)).bind (fun (j37 : Bool) => ((bif j37 then some (.inl ((36 : Int), z_qC, p0.Roles, p0.Grants)) else ((bif (decide (p1.Kind ≤ 13)) then (r19_roles_c kf p0 p1).bind (fun (r74, r75) => some (.inl (r75, z_qC, r74, p0.Grants))) else ((bif (p1.Kind == 14) then (r19_given_c kf p0 p1 p2).bind (fun (r96, r97) => some (.inl (r97, z_qC, r96))) else (r19_place p0 p1 p2).bind (fun (r113 : Int) => (bif (decide (r113 < 0)) then some (.inr (4, z_qC)) else (sub p0.Grants 0 r113).bind (fun x147 => (app 64 ([] : List qG) x147).bind (fun x150 => (sub p0.Grants (w64 (r113 + 1)) (p0.Grants.length : Int)).bind (fun x162 => (app 64 x150 x162).bind (fun x164 => some (.inl ((0 : Int), z_qC, x164)))))))))).bind (fun (t : (Int × qC × (List qG)) ⊕ (Int × qC)) => match t with | (.inl (s101, s102, s103)) => some (.inl (s101, s102, p0.Roles, s103)) | (.inr (s118, s119)) => some (.inr (s118, s119))))).bind (fun (t : (Int × qC × (List qJ) × (List qG)) ⊕ (Int × qC)) => match t with | (.inl (s79, s80, s81, s82)) => some (.inl (s79, s80, s81, s82)) | (.inr (s121, s122)) => some (.inr (s121, s122))))).bind (fun (t : (Int × qC × (List qJ) × (List qG)) ⊕ (Int × qC)) => match t with | (.inl (s59, s60, s61, s62)) => ((bif ((s59 == 0) && (decide (p0.Version ≥ p3))) then some 52 else some s59)).bind (fun (j191 : Int) => (bif (j191 != 0) then some (z_qC, j191) else (r19_Held_c kf ({ p0 with Version := (w64 (p0.Version + 1)), Roles := s61, Grants := s62 })).bind (fun r212 => some ({ p0 with Version := (w64 (p0.Version + 1)), Roles := s61, Grants := r212 }, 0)))) | (.inr (s124, s125)) => some (s125, s124))))))
theorem r19_Make_le (kf : Nat) (p0 : qC) (p1 : qS) (p2 : By8) (p3 : Int)  : Le (r19_Make_c kf p0 p1 p2 p3) (r19_Make p0 p1 p2 p3) := by
  unfold r19_Make_c r19_Make
  have := @r18_Is_le kf
  have := @r19_roles_le kf
  have := @r19_Held_le kf
  have := @r19_given_le kf
  exact lb
def r17_renamed_c (kf : Nat) (p0 : qC) (p1 : qT) (p2 : By8) : Option (qC × qT) := none
theorem r17_renamed_le (kf : Nat) (p0 : qC) (p1 : qT) (p2 : By8)  : Le (r17_renamed_c kf p0 p1 p2) (r17_renamed p0 p1 p2) := by
  exact Le.none _
def r10_Names_c (kf : Nat) (p0 : qE) : Option (List By8) := none
theorem r10_Names_le (kf : Nat) (p0 : qE)  : Le (r10_Names_c kf p0) (r10_Names p0) := by
  exact Le.none _
def r14_Used_c (kf : Nat) (p0 : qT) : Option (List By8) := (r14_lists p0).bind (fun (r10 : List (List By8)) => (forE (fun (i15 : Nat) (s14 : List By8) => (idx r10 (i15 : Int)).bind (fun x25 => (app 16 s14 x25).bind (fun x27 => some x27))) r10.length 0 ([] : List By8)).bind (fun s14 => (forE (fun (i41 : Nat) (s40 : List By8) => (idx p0.Cons (i41 : Int)).bind (fun x48 => ((bif (x48.Kind == 2) then (idx p0.Cons (i41 : Int)).bind (fun x53 => (r10_Names_c kf x53.Check).bind (fun r59 => (app 16 s40 r59).bind (fun x61 => some x61))) else some s40)).bind (fun (j49 : List By8) => some j49))) p0.Cons.length 0 s14).bind (fun s40 => some s40)))
theorem r14_Used_le (kf : Nat) (p0 : qT)  : Le (r14_Used_c kf p0) (r14_Used p0) := by
  unfold r14_Used_c r14_Used
  have := @r10_Names_le kf
  exact lb
def r17_refers_nilsl_c (kf : Nat) (p0 : qC) (p1 : By8) (p2 : By8) (p3 : By8) : Option Bool := none
theorem r17_refers_nilsl_le (kf : Nat) (p0 : qC) (p1 : By8) (p2 : By8) (p3 : By8)  : Le (r17_refers_nilsl_c kf p0 p1 p2 p3) (r17_refers_nilsl p0 p1 p2 p3) := by
  exact Le.none _
def r17_turned_c (kf : Nat) (p0 : qC) (p1 : qT) (p2 : qS) : Option (qT × Int) := none
theorem r17_turned_le (kf : Nat) (p0 : qC) (p1 : qT) (p2 : qS)  : Le (r17_turned_c kf p0 p1 p2) (r17_turned p0 p1 p2) := by
  exact Le.none _
def r14_wrong_c (kf : Nat) (p0 : qT) : Option Int := (r14_Names p0).bind (fun ((r10, r11) : (List By8) × (List By8)) => (app 16 ([p0.Name, p0.Owner] : List By8) r10).bind (fun x19 => (app 16 x19 r11).bind (fun x26 => (forN (fun (i40 : Nat) (_s : Unit) => (idx x26 (i40 : Int)).bind (fun x47 => (r09_IsName_c kf x47).bind (fun r53 => (bif (!r53) then some (.inr (18 : Int)) else some (.inl ()))))) x26.length 0 ()).bind (fun (t : Unit ⊕ (Int)) => match t with | .inl _ => (bif (decide (p0.Version < 0)) then some 2 else (forN (fun (i64 : Nat) (_s : Unit) => (idx p0.Cols (i64 : Int)).bind (fun x71 => ((bif (decide (x71.Type_ < 1)) then some true else (idx p0.Cols (i64 : Int)).bind (fun x76 => some (decide (x76.Type_ > 3))))).bind (fun (j72 : Bool) => (bif j72 then some (.inr (2 : Int)) else some (.inl ()))))) p0.Cols.length 0 ()).bind (fun (t : Unit ⊕ (Int)) => match t with | .inl _ => (forN (fun (i88 : Nat) (_s : Unit) => (idx p0.Cons (i88 : Int)).bind (fun x95 => ((bif (decide (x95.Kind < 1)) then some true else (idx p0.Cons (i88 : Int)).bind (fun x100 => some (decide (x100.Kind > 3))))).bind (fun (j96 : Bool) => (bif j96 then some (.inr (2 : Int)) else some (.inl ()))))) p0.Cons.length 0 ()).bind (fun (t : Unit ⊕ (Int)) => match t with | .inl _ => (some ((decide ((p0.Cols.length : Int) < 1)) || (decide ((p0.Cols.length : Int) > 6)))).bind (fun (q109 : Bool) => (some ((q109 || (decide ((p0.Cons.length : Int) > 6))) || (decide ((p0.Idx.length : Int) > 3)))).bind (fun (q114 : Bool) => (bif q114 then some 3 else (r14_lists p0).bind (fun (r123 : List (List By8)) => (forN (fun (i127 : Nat) (_s : Unit) => ((bif (decide ((i127 : Int) < (p0.Cons.length : Int))) then (idx p0.Cons (i127 : Int)).bind (fun x138 => some (x138.Kind == 2)) else some false)).bind (fun (j134 : Bool) => ((bif (!j134) then (idx r123 (i127 : Int)).bind (fun x145 => ((bif (decide ((x145.length : Int) < 1)) then some true else (idx r123 (i127 : Int)).bind (fun x150 => some (decide ((x150.length : Int) > 3))))).bind (fun (j146 : Bool) => some j146)) else some false)).bind (fun (j141 : Bool) => (bif j141 then some (.inr (3 : Int)) else ((bif (decide ((i127 : Int) < (p0.Cons.length : Int))) then (idx p0.Cons (i127 : Int)).bind (fun x163 => some (x163.Kind == 3)) else some false)).bind (fun (j159 : Bool) => ((bif j159 then (idx p0.Cons (i127 : Int)).bind (fun x170 => ((bif (decide ((x170.Refs.length : Int) < 1)) then some true else (idx p0.Cons (i127 : Int)).bind (fun x175 => some (decide ((x175.Refs.length : Int) > 3))))).bind (fun (j171 : Bool) => some j171)) else some false)).bind (fun (j166 : Bool) => (bif j166 then some (.inr (3 : Int)) else some (.inl ())))))))) r123.length 0 ()).bind (fun (t : Unit ⊕ (Int)) => match t with | .inl _ => (r14_twice r10).bind (fun (r188 : Bool) => ((bif r188 then some true else (r14_twice r11).bind (fun (r198 : Bool) => some r198))).bind (fun (j189 : Bool) => (bif j189 then some 19 else (forN (fun (i205 : Nat) (_s : Unit) => (idx r123 (i205 : Int)).bind (fun x212 => (r14_twice x212).bind (fun (r218 : Bool) => ((bif r218 then some true else ((bif (decide ((i205 : Int) < (p0.Cons.length : Int))) then (idx p0.Cons (i205 : Int)).bind (fun x227 => (r14_twice x227.Refs).bind (fun (r233 : Bool) => some r233)) else some false)).bind (fun (j223 : Bool) => some j223))).bind (fun (j219 : Bool) => (bif j219 then some (.inr (19 : Int)) else some (.inl ())))))) r123.length 0 ()).bind (fun (t : Unit ⊕ (Int)) => match t with | .inl _ => some 0 | .inr s239 => some s239)))) | .inr s156 => some s156))))) | .inr s104 => some s104) | .inr s80 => some s80)) | .inr s55 => some s55))))
theorem r14_wrong_le (kf : Nat) (p0 : qT)  : Le (r14_wrong_c kf p0) (r14_wrong p0) := by
  unfold r14_wrong_c r14_wrong
  have := @r09_IsName_le kf
  exact lb
def r10_Check_c (kf : Nat) (p0 : qE) (p1 : Bool) : Option Int := none
theorem r10_Check_le (kf : Nat) (p0 : qE) (p1 : Bool)  : Le (r10_Check_c kf p0 p1) (r10_Check p0 p1) := by
  exact Le.none _
def r10_Params_c (kf : Nat) (p0 : qE) : Option Int := none
theorem r10_Params_le (kf : Nat) (p0 : qE)  : Le (r10_Params_c kf p0) (r10_Params p0) := by
  exact Le.none _
def r12_None_c (kf : Nat) (p0 : qE) : Option Bool := none
theorem r12_None_le (kf : Nat) (p0 : qE)  : Le (r12_None_c kf p0) (r12_None p0) := by
  exact Le.none _
def r14_Check_c (kf : Nat) (p0 : qT) : Option Int := (r14_wrong_c kf p0).bind (fun r10 => (bif (r10 != 0) then some r10 else (r14_Names p0).bind (fun ((r17, r18) : (List By8) × (List By8)) => (r14_Used_c kf p0).bind (fun r24 => (forN (fun (i28 : Nat) (_s : Unit) => (idx r24 (i28 : Int)).bind (fun x35 => (r14_Has r17 x35).bind (fun (r41 : Bool) => (bif (!r41) then some (.inr (4 : Int)) else some (.inl ()))))) r24.length 0 ()).bind (fun (t : Unit ⊕ (Int)) => match t with | .inl _ => (forN (fun (i52 : Nat) (s51 : Bool) => ((idx p0.Cons (i52 : Int)).bind (fun x63 => (bif (x63.Kind != 2) then some (.inl s51) else (idx p0.Cons (i52 : Int)).bind (fun x65 => (r10_Check_c kf x65.Check false).bind (fun r71 => (bif (r71 == 17) then some (.inr 17) else ((bif (s51 || (r71 != 0)) then some true else (idx p0.Cons (i52 : Int)).bind (fun x85 => (r10_Params_c kf x85.Check).bind (fun r91 => some (decide (r91 > 0)))))).bind (fun (j81 : Bool) => some (.inl j81)))))))).bind (fun (t : Bool ⊕ Int) => match t with | (.inl s64) => some (.inl s64) | (.inr s73) => some (.inr s73))) p0.Cons.length 0 false).bind (fun (t : Bool ⊕ (Int)) => match t with | .inl s51 => (bif s51 then some 2 else (forN (fun (i102 : Nat) (_s : Unit) => (idx p0.Cons (i102 : Int)).bind (fun x109 => ((bif (x109.Kind != 2) then (r12_None_c kf x109.Check).bind (fun r125 => some (!r125)) else some false)).bind (fun (j116 : Bool) => (some (j116 || ((x109.Kind == 2) && (decide ((x109.Cols.length : Int) > 0))))).bind (fun (q132 : Bool) => (bif q132 then some (.inr (2 : Int)) else ((bif (x109.Kind == 3) then (r09_IsName_c kf x109.Table).bind (fun r151 => (some ((!r151) || ((x109.Refs.length : Int) != (x109.Cols.length : Int)))).bind (fun (q152 : Bool) => some q152)) else some false)).bind (fun (j142 : Bool) => (some (j142 || ((x109.Kind != 3) && ((!sEq x109.Table eB) || (decide ((x109.Refs.length : Int) > 0)))))).bind (fun (q163 : Bool) => (bif q163 then some (.inr (2 : Int)) else some (.inl ()))))))))) p0.Cons.length 0 ()).bind (fun (t : Unit ⊕ (Int)) => match t with | .inl _ => some 0 | .inr s138 => some s138)) | .inr s75 => some s75) | .inr s43 => some s43)))))
theorem r14_Check_le (kf : Nat) (p0 : qT)  : Le (r14_Check_c kf p0) (r14_Check p0) := by
  unfold r14_Check_c r14_Check
  have := @r09_IsName_le kf
  have := @r14_Used_le kf
  have := @r14_wrong_le kf
  have := @r10_Check_le kf
  have := @r10_Params_le kf
  have := @r12_None_le kf
  exact lb
def r15_Resolve_c (kf : Nat) (p0 : qT) (p1 : qE) : Option (qE × Int) := none
theorem r15_Resolve_le (kf : Nat) (p0 : qT) (p1 : qE)  : Le (r15_Resolve_c kf p0 p1) (r15_Resolve p0 p1) := by
  exact Le.none _
def r15_Bool_c (kf : Nat) (p0 : qE) (p1 : List Int) (p2 : List Int) : Option Int := none
theorem r15_Bool_le (kf : Nat) (p0 : qE) (p1 : List Int) (p2 : List Int)  : Le (r15_Bool_c kf p0 p1 p2) (r15_Bool p0 p1 p2) := by
  exact Le.none _
def r17_Sound_c (kf : Nat) (p0 : qC) (p1 : qT) : Option Int := (r14_Check_c kf p1).bind (fun r14 => (bif (r14 != 0) then some r14 else (forN (fun (i20 : Nat) (_s : Unit) => (idx p1.Cons (i20 : Int)).bind (fun x28 => ((bif (x28.Kind == 2) then (r15_Resolve_c kf p1 x28.Check).bind (fun (r44, r45) => ((bif (r45 == 0) then (r15_Cols p1).bind (fun (r63 : List Int) => (r15_Bool_c kf r44 r63 ([] : List Int)).bind (fun r69 => some r69)) else some r45)).bind (fun (j52 : Int) => some j52)) else some 0)).bind (fun (j35 : Int) => ((bif (x28.Kind == 3) then (r17_foreign p0 p1 x28).bind (fun (r91 : Int) => some r91) else some j35)).bind (fun (j82 : Int) => (bif (j82 != 0) then some (.inr j82) else some (.inl ())))))) p1.Cons.length 0 ()).bind (fun (t : Unit ⊕ (Int)) => match t with | .inl _ => some 0 | .inr s99 => some s99)))
theorem r17_Sound_le (kf : Nat) (p0 : qC) (p1 : qT)  : Le (r17_Sound_c kf p0 p1) (r17_Sound p0 p1) := by
  unfold r17_Sound_c r17_Sound
  have := @r14_Check_le kf
  have := @r15_Resolve_le kf
  have := @r15_Bool_le kf
  exact lb
def r17_with_c (kf : Nat) (p0 : qC) (p1 : qT) : Option qC := (loopK kf (fun (s24 : Int) => ((bif (decide (s24 < (p0.Tables.length : Int))) then (idx p0.Tables s24).bind (fun x38 => some (sLt x38.Name p1.Name)) else some false)).bind (fun (j34 : Bool) => (bif j34 then some (.inl (w64 (s24 + 1))) else some (.inr s24)))) 0).bind (fun (s42 : Int) => (sub p0.Tables 0 s42).bind (fun x45 => (app 112 ([] : List qT) x45).bind (fun x48 => (app 112 x48 ([p1] : List qT)).bind (fun x66 => (sub p0.Tables s42 (p0.Tables.length : Int)).bind (fun x80 => (app 112 x66 x80).bind (fun x82 => some { p0 with Tables := x82 }))))))
theorem r17_with_le (kf : Nat) (p0 : qC) (p1 : qT)  : Le (r17_with_c kf p0 p1) (r17_with p0 p1) := by
  unfold r17_with_c r17_with
  exact lb
def r17_Make_c (kf : Nat) (p0 : qC) (p1 : qS) (p2 : By8) (p3 : Int) : Option (qC × Int) := (bif ((decide (p1.Kind < 1)) || (decide (p1.Kind > 9))) then some (z_qC, 2) else (r17_At p0 p1.Table).bind (fun (r25 : Int) => (bif ((p1.Kind == 1) && (decide (r25 ≥ 0))) then some (z_qC, 19) else (bif ((p1.Kind == 1) && (decide ((p0.Tables.length : Int) ≥ 8))) then some (z_qC, 5) else (bif ((p1.Kind != 1) && (decide (r25 < 0))) then some (z_qC, 4) else (r17_without p0 p1.Table).bind (fun (r52 : qC) => ((bif (p1.Kind == 1) then some (.inl ((0 : Int), z_qC, r52.Version, r52.Tables, r52.Roles, r52.Grants, { z_qT with Name := p1.Table, Owner := p2, Cols := p1.Cols, Cons := p1.Cons })) else ((bif (p1.Kind == 2) then (r17_refers_nilsl_c kf p0 p1.Table p1.Table eB).bind (fun r90 => (bif r90 then some (.inl (34, z_qC, z_qT)) else (forE (fun (i124 : Nat) (s123 : List qG) => (idx p0.Grants (i124 : Int)).bind (fun x140 => ((bif (!sEq x140.Table p1.Table) then (idx p0.Grants (i124 : Int)).bind (fun x147 => (app 64 s123 ([x147] : List qG)).bind (fun x156 => some x156)) else some s123)).bind (fun (j141 : List qG) => some j141))) p0.Grants.length 0 ([] : List qG)).bind (fun s123 => some (.inr ((0 : Int), z_qC, r52.Version, r52.Tables, r52.Roles, s123, z_qT))))) else ((bif (p1.Kind == 5) then (r17_At p0 p1.Name).bind (fun (r199 : Int) => (bif (decide (r199 ≥ 0)) then some (.inl (19, z_qC, z_qT)) else (idx p0.Tables r25).bind (fun x219 => (r17_renamed_c kf p0 x219 p1.Name).bind (fun (r225, r226) => some (.inr ((0 : Int), z_qC, r225.Version, r225.Tables, r225.Roles, r225.Grants, r226)))))) else (idx p0.Tables r25).bind (fun x246 => (r17_turned_c kf p0 x246 p1).bind (fun (r252, r253) => some (.inr (r253, z_qC, r52.Version, r52.Tables, r52.Roles, r52.Grants, r252)))))).bind (fun (t : (Int × qC × qT) ⊕ (Int × qC × Int × (List qT) × (List qJ) × (List qG) × qT)) => match t with | (.inl (s204, s205, s206)) => some (.inl (s204, s205, s206)) | (.inr (s233, s234, s235, s236, s237, s238, s239)) => some (.inr (s233, s234, s235, s236, s237, s238, s239))))).bind (fun (t : (Int × qC × qT) ⊕ (Int × qC × Int × (List qT) × (List qJ) × (List qG) × qT)) => match t with | (.inl (s95, s96, s97)) => some (.inr (s95, s96, s97)) | (.inr (s178, s179, s180, s181, s182, s183, s184)) => some (.inl (s178, s179, s180, s181, s182, s183, s184))))).bind (fun (t : (Int × qC × Int × (List qT) × (List qJ) × (List qG) × qT) ⊕ (Int × qC × qT)) => match t with | (.inl (s69, s70, s71, s72, s73, s74, s75)) => ((bif ((s69 == 0) && (p1.Kind != 2)) then (r17_Sound_c kf (⟨s71, s72, s73, s74⟩ : qC) s75).bind (fun r278 => some r278) else some s69)).bind (fun (j268 : Int) => ((bif ((j268 == 0) && (decide (p0.Version ≥ p3))) then some 52 else some j268)).bind (fun (j283 : Int) => (bif (j283 != 0) then some (z_qC, j283) else ((bif (p1.Kind != 2) then (r17_with_c kf (⟨s71, s72, s73, s74⟩ : qC) ({ s75 with Version := (w64 (p0.Version + 1)) })).bind (fun r311 => some (r311.Version, r311.Tables, r311.Roles, r311.Grants, { s75 with Version := (w64 (p0.Version + 1)) })) else some (s71, s72, s73, s74, s75))).bind (fun ((s315, s316, s317, s318, s319) : Int × (List qT) × (List qJ) × (List qG) × qT) => some ((⟨(w64 (p0.Version + 1)), s316, s317, s318⟩ : qC), 0))))) | (.inr (s99, s100, s101)) => some (s100, s99))))))))
theorem r17_Make_le (kf : Nat) (p0 : qC) (p1 : qS) (p2 : By8) (p3 : Int)  : Le (r17_Make_c kf p0 p1 p2 p3) (r17_Make p0 p1 p2 p3) := by
  unfold r17_Make_c r17_Make
  have := @r17_renamed_le kf
  have := @r17_refers_nilsl_le kf
  have := @r17_turned_le kf
  have := @r17_Sound_le kf
  have := @r17_with_le kf
  exact lb
def law19_first_c (kf : Nat)  : Option qC := (r17_New).bind (fun (r10 : qC) => (forE (fun (i32 : Nat) (s31 : qC) => ((idx ([(⟨#[97, 110, 110]⟩ : By8), (⟨#[98, 111, 98]⟩ : By8), (⟨#[99, 121]⟩ : By8)] : List By8) (i32 : Int)).bind (fun x46 => (r19_Make_c kf s31 ({ z_qS with Kind := 10, Name := x46 }) (⟨#[114, 111, 111, 116]⟩ : By8) 1000).bind (fun (r57, r58) => some (r57, r58)))).bind (fun ((s61, s62) : qC × Int) => ((bif (s62 == 0) then some s61 else some s31)).bind (fun (j101 : qC) => some j101))) 3 0 r10).bind (fun s31 => (r17_Make_c kf s31 ({ z_qS with Kind := 1, Table := (⟨#[116]⟩ : By8), Cols := ([{ z_qL with Name := (⟨#[97]⟩ : By8), Type_ := 1 }] : List qL) }) (⟨#[97, 110, 110]⟩ : By8) 1000).bind (fun (r134, r135) => ((bif (r135 == 0) then some r134 else some s31)).bind (fun (j142 : qC) => some j142))))
theorem law19_first_le (kf : Nat)   : Le (law19_first_c kf ) (law19_first ) := by
  unfold law19_first_c law19_first
  have := @r19_Make_le kf
  have := @r17_Make_le kf
  exact lb
def law19_Next_c (kf : Nat) (p0 : qC) (p1 : law19_Act) : Option (qC × Int) := (r19_Make_c kf p0 p1.S p1.By 1000).bind (fun (r18, r19) => ((bif (decide (p1.S.Kind < 10)) then (r17_Make_c kf p0 p1.S p1.By 1000).bind (fun (r35, r36) => some (r36, r35)) else some (r19, r18))).bind (fun ((s39, s40) : Int × qC) => (bif (s39 != 0) then some (p0, s39) else some (s40, s39))))
theorem law19_Next_le (kf : Nat) (p0 : qC) (p1 : law19_Act)  : Le (law19_Next_c kf p0 p1) (law19_Next p0 p1) := by
  unfold law19_Next_c law19_Next
  have := @r19_Make_le kf
  have := @r17_Make_le kf
  exact lb
def law19_Grown_c (kf : Nat) (p0 : List law19_Act) : Option qC := (law19_first_c kf).bind (fun r10 => (forE (fun (i21 : Nat) (s20 : qC) => (idx p0 (i21 : Int)).bind (fun x31 => (law19_Next_c kf s20 x31).bind (fun (r37, r38) => some r37))) p0.length 0 r10).bind (fun s20 => some s20))
theorem law19_Grown_le (kf : Nat) (p0 : List law19_Act)  : Le (law19_Grown_c kf p0) (law19_Grown p0) := by
  unfold law19_Grown_c law19_Grown
  have := @law19_first_le kf
  have := @law19_Next_le kf
  exact lb
def r19_May_c (kf : Nat) (p0 : qC) (p1 : By8) (p2 : Int) (p3 : By8) : Option Bool := (r19_Owns_c kf p0 p1 p3).bind (fun r12 => ((bif r12 then some true else (r19_Held_c kf p0).bind (fun r22 => (r19_has_c kf p0 r22 p1 p2 p3 false).bind (fun r28 => some r28)))).bind (fun (j13 : Bool) => some j13))
theorem r19_May_le (kf : Nat) (p0 : qC) (p1 : By8) (p2 : Int) (p3 : By8)  : Le (r19_May_c kf p0 p1 p2 p3) (r19_May p0 p1 p2 p3) := by
  unfold r19_May_c r19_May
  have := @r19_Owns_le kf
  have := @r19_has_le kf
  have := @r19_Held_le kf
  exact lb
def nAnn : By8 := ⟨#[97, 110, 110]⟩
def nBob : By8 := ⟨#[98, 111, 98]⟩
def nCy : By8 := ⟨#[99, 121]⟩
def nRoot : By8 := ⟨#[114, 111, 111, 116]⟩
def nT : By8 := ⟨#[116]⟩
def wG1 : qG := ⟨nBob, nAnn, nT, 1, true⟩
def wG2 : qG := ⟨nCy, nBob, nT, 1, true⟩
def wR : List Role := [⟨nAnn, []⟩, ⟨nBob, []⟩, ⟨nCy, []⟩, ⟨nRoot, []⟩]
def wT : List qT := [⟨nT, nAnn, 4, [⟨⟨#[97]⟩, 1, false⟩], [], []⟩]
def wC : qC := ⟨6, wT, wR, [wG1, wG2]⟩
def wA (f t : By8) : law19_Act := ⟨{ z_qS with Kind := 14, Table := nT, Role := t, Priv := 1, Option := true }, f⟩
theorem wGrown : law19_Grown [wA nAnn nBob, wA nBob nCy] = some wC := law19_Grown_le 60 _ _ kr
theorem wAF : AF [wA nAnn nBob, wA nBob nCy] := by
  refine ⟨by show 2 ≤ 40; omega, fun a ha => ?_⟩
  simp only [List.mem_cons, List.not_mem_nil, or_false] at ha
  rcases ha with rfl | rfl
  · exact ⟨⟨Nat.zero_le _, Nat.zero_le _, Nat.zero_le _, by decide, Nat.zero_le _, (fun x hx => by cases hx), (fun x hx => by cases hx)⟩, by decide⟩
  · exact ⟨⟨Nat.zero_le _, Nat.zero_le _, Nat.zero_le _, by decide, Nat.zero_le _, (fun x hx => by cases hx), (fun x hx => by cases hx)⟩, by decide⟩
theorem wCI : CI 60 wC := (grown_rb (b := True) wAF).so _ wGrown
theorem wSm : Sm wR := wCI.2.sm om
def wS : qS := { z_qS with Kind := 15, Table := nT, Role := nBob, Priv := 1 }
theorem wTake : grants_take wC wS nAnn = some ([wG2], 0) := by kernel_rfl
def wD : qC := ⟨7, wT, wR, [wG2]⟩
theorem wDB : CB 60 wD := ⟨wCI.1.tabs, wCI.1.ok, by show 1 ≤ 60; omega⟩
def wE : qC := ⟨7, wT, wR, []⟩
theorem wEB : CB 60 wE := ⟨wCI.1.tabs, wCI.1.ok, by show 0 ≤ 60; omega⟩
theorem wHeld : r19_Held wD = some [] := r19_Held_le 60 _ _ kr
theorem wTrim : grants_Trim wD = some wE := by
  have e : heR wD = [] := by
    have := rheld_val (c := wD) wSm (by show 1 ≤ 1000; omega)
    rw [wHeld] at this
    injection this with this
    exact this.symm
  unfold grants_Trim
  rw [gheld_val wDB om wSm, e]
  rfl
theorem wMake : grants_Make wC wS nAnn 1000 = some (wE, 0) := by
  obtain ⟨r, hr⟩ := mfind_eq wSm nAnn
  have h0 : decide (0 ≤ rI wR nAnn) = true := by kernel_rfl
  rw [h0] at hr
  unfold grants_Make
  rw [show member_Find wC.Roles nAnn = some (r, true) from hr]
  have k1 : ((decide (wS.Kind < 10)) || (decide (wS.Kind > 15))) = false := by decide
  have k2 : (wS.Kind == 10) = false := by decide
  have k3 : (wS.Kind == 11) = false := by decide
  have k4 : (wS.Kind == 12) = false := by decide
  have k5 : (wS.Kind == 13) = false := by decide
  have k6 : (wS.Kind == 14) = false := by decide
  simp only [k1, k2, k3, k4, k5, k6, cond_false, obs, Bool.not_true, wTake]
  have k7 : (((0 : Int) == 0) && (decide (wC.Version ≥ 1000))) = false := by decide
  have k8 : ((0 : Int) != 0) = false := by decide
  simp only [k7, k8, cond_false, obs]
  have e2 : (({ wC with Version := (w64 (wC.Version + 1)), Grants := [wG2] } : qC)) = wD := by
    show (⟨w64 (6 + 1), wT, wR, [wG2]⟩ : qC) = wD
    rw [show w64 (6 + 1) = 7 by kernel_rfl]
    rfl
  have e3 : grants_Trim ({ wC with Version := (w64 (wC.Version + 1)), Grants := [wG2] } : qC) = some wE := by rw [e2]; exact wTrim
  rw [e3]
  rfl
theorem wMay1 : grants_May wC nCy 1 nT = some true := by
  rw [gmay_val wCI.1 om wSm]
  exact r19_May_le 60 _ _ _ _ _ kr
theorem wMay2 : grants_May wE nCy 1 nT = some false := by
  rw [gmay_val wEB om wSm]
  exact r19_May_le 60 _ _ _ _ _ kr
theorem works_eq : law19_works = some true := by
  unfold law19_works
  have a1 : law19_works_1 (⟨#[97, 110, 110]⟩ : By8) (⟨#[98, 111, 98]⟩ : By8) = some (wA nAnn nBob) := rfl
  have a2 : law19_works_1 (⟨#[98, 111, 98]⟩ : By8) (⟨#[99, 121]⟩ : By8) = some (wA nBob nCy) := rfl
  rw [a1, a2]
  simp only [obs]
  rw [wGrown]
  simp only [obs]
  have hm : grants_Make wC ({ z_qS with Kind := 15, Table := (⟨#[116]⟩ : By8), Role := (⟨#[98, 111, 98]⟩ : By8), Priv := 1 }) (⟨#[97, 110, 110]⟩ : By8) 1000 = some (wE, 0) := wMake
  have h1 : grants_May wC (⟨#[99, 121]⟩ : By8) 1 (⟨#[116]⟩ : By8) = some true := wMay1
  have h2 : grants_May wE (⟨#[99, 121]⟩ : By8) 1 (⟨#[116]⟩ : By8) = some false := wMay2
  rw [hm]
  simp only [obs, beq_self_eq_true, cond_true, h1, h2, Bool.not_false, Bool.true_and]
  rfl
theorem RB.any {α : Type} {m : Option α} : RB False m (fun r => m = some r) := ⟨fun h => h.elim, fun _ h => h⟩
theorem RB.no {α : Type} {m : Option α} : RB False m TT := ⟨fun h => h.elim, fun _ _ => trivial⟩
theorem rb_and {α : Type} {b : Prop} {m : Option α} {Q Q' : α → Prop} (h : RB b m Q) (h' : RB False m Q') : RB b m (fun r => Q r ∧ Q' r) := ⟨h.is, fun r e => ⟨h.so r e, h'.so r e⟩⟩
theorem RB.apP {α β : Type} {k : Nat} {xs ys : List β} {f : List β → Option α} {Q : α → Prop} (h : RB False (f (xs ++ ys)) Q) : RB False ((app k xs ys).bind f) Q := yh RB.any fun l hl => by rw [(app_some hl).2]; exact h
def HasT (c : qC) (n : By8) : Prop := ∃ t ∈ c.Tables, t.Name = n
abbrev kk (g : qG) : By8 × By8 × By8 × Int := (g.To, g.By, g.Table, g.Priv)
def UQ (l : List qG) : Prop := l.Pairwise fun g h => kk g ≠ kk h
def GU (c : qC) : Prop := (∀ g ∈ c.Grants, HasT c g.Table) ∧ UQ c.Grants
theorem UQ.map {l m : List qG} (h : UQ l) (e : m.map kk = l.map kk) : UQ m := by
  have h2 : (l.map kk).Pairwise (· ≠ ·) := List.pairwise_map.2 h
  rw [← e] at h2
  exact List.pairwise_map.1 h2
def kB (s : qS) (by_ : By8) (g : qG) : Bool := sEq g.To s.Role && sEq g.By by_ && sEq g.Table s.Table && (g.Priv == s.Priv)
theorem kB_iff {s : qS} {by_ : By8} {g : qG} : kB s by_ g = true ↔ kk g = (s.Role, by_, s.Table, s.Priv) := by
  unfold kB
  simp only [Bool.and_eq_true, sEq_iff, beq_iff_eq, kk, Prod.mk.injEq, and_assoc]
def pI (c : qC) (s : qS) (by_ : By8) : Int := match c.Grants.findIdx? (kB s by_) with | some j => (j : Int) | none => -1
theorem rplace_val (c : qC) (s : qS) (by_ : By8) : r19_place c s by_ = some (pI c s by_) := by
  unfold r19_place pI
  rw [forN_find (kB s by_) (fun j => (j : Int)) (fun j x hx => by rw [idx_nat, hx]; simp only [obs]; show (bif kB s by_ x then _ else _) = _; cases kB s by_ x <;> rfl)]
  cases c.Grants.findIdx? (kB s by_) <;> rfl
theorem pI_cases (c : qC) (s : qS) (by_ : By8) : (pI c s by_ = -1 ∧ ∀ g ∈ c.Grants, kk g ≠ (s.Role, by_, s.Table, s.Priv)) ∨ ∃ (k : Nat) (g : qG), pI c s by_ = (k : Int) ∧ c.Grants[k]? = some g ∧ kk g = (s.Role, by_, s.Table, s.Priv) := by
  unfold pI
  cases e : c.Grants.findIdx? (kB s by_) with
  | none =>
    rw [List.findIdx?_eq_none_iff] at e
    exact .inl ⟨rfl, fun g hg h => by have := e g hg; rw [kB_iff.2 h] at this; cases this⟩
  | some k =>
    obtain ⟨hk, h2, _⟩ := List.findIdx?_eq_some_iff_getElem.1 e
    exact .inr ⟨k, _, rfl, gE hk, kB_iff.1 h2⟩
def CG (n : Nat) (c : qC) : Prop := CI n c ∧ GU c
theorem CG.up {n m : Nat} {c : qC} (h : CG n c) (hm : n ≤ m) : CG m c := ⟨h.1.up hm, h.2⟩
theorem roles_same {c : qC} (h : Ok c.Roles) {s : qS} (hz : s.Name.size ≤ 100) : grants_roles c s = r19_roles c s := by
  unfold grants_roles r19_roles
  rw [create_same h om, grant_same h, revoke_same h, drop_same h]
  unfold slices_ContainsFunc_qT slices_IndexFunc_qT
  rw [forN_find (fun (x : qT) => sEq x.Owner s.Name) (fun j => (j : Int)) (fun j x hx => by rw [idx_nat, hx]; unfold grants_roles_1; simp only [obs]; cases sEq x.Owner s.Name <;> rfl),
    forN_find (fun (x : qT) => sEq x.Owner s.Name) (fun _ => (([] : List qJ), (34 : Int))) (fun j x hx => by rw [idx_nat, hx]; simp only [obs]; cases sEq x.Owner s.Name <;> rfl)]
  cases s.Kind == 10 <;> cases s.Kind == 12 <;> cases s.Kind == 13 <;> try rfl
  cases c.Tables.findIdx? (fun (x : qT) => sEq x.Owner s.Name) with
  | none => rfl
  | some k => simp
theorem roles_keep {c : qC} (h : Ok c.Roles) {s : qS} (hz : s.Name.size ≤ 100) : ∃ r e, grants_roles c s = some (r, e) ∧ (e = 0 → Ok r) := by
  unfold grants_roles
  cases s.Kind == 10 with
  | true =>
    simp only [cond_true]
    rcases create_ok h (n := s.Name) om with ⟨_, e⟩ | ⟨_, _, e⟩ | ⟨_, _, _, e⟩ | ⟨g1, _, g3, A, B, e0, g4, g5, e⟩ <;> rw [e]
    · exact ⟨_, _, rfl, fun h => by cases h⟩
    · exact ⟨_, _, rfl, fun h => by cases h⟩
    · exact ⟨_, _, rfl, fun h => by cases h⟩
    · rw [e0] at h g3
      exact ⟨_, _, rfl, fun _ => create_keep h g3 om g1 g4 g5⟩
  | false =>
    cases s.Kind == 12 with
    | true =>
      simp only [cond_true, cond_false]
      rcases grant_ok h s.Name s.Role with ⟨_, e⟩ | ⟨k, x, g1, g2, g3, ⟨_, e⟩ | ⟨_, _, e⟩ | ⟨_, g4, A, B, g5, g6, g7, e⟩⟩ <;> rw [e]
      · exact ⟨_, _, rfl, fun h => by cases h⟩
      · exact ⟨_, _, rfl, fun h => by cases h⟩
      · exact ⟨_, _, rfl, fun h => by cases h⟩
      · exact ⟨_, _, rfl, fun _ => grant_keep h g1 g3 (by rw [g2]; exact g4) g5 g6 g7⟩
    | false =>
      cases s.Kind == 13 with
      | true =>
        simp only [cond_true, cond_false]
        rcases revoke_ok h s.Name s.Role with ⟨_, e⟩ | ⟨k, x, g1, _, _, e⟩ <;> rw [e]
        · exact ⟨_, _, rfl, fun h => by cases h⟩
        · exact ⟨_, _, rfl, fun _ => revoke_keep h g1 s.Name⟩
      | false =>
        simp only [cond_false]
        unfold slices_ContainsFunc_qT slices_IndexFunc_qT
        rw [forN_find (fun (x : qT) => sEq x.Owner s.Name) (fun j => (j : Int)) (fun j x hx => by rw [idx_nat, hx]; unfold grants_roles_1; simp only [obs]; cases sEq x.Owner s.Name <;> rfl)]
        cases c.Tables.findIdx? (fun (x : qT) => sEq x.Owner s.Name) with
        | some k => exact ⟨[], 34, by simp, fun h => by cases h⟩
        | none =>
          rcases drop_ok h s.Name with ⟨_, e⟩ | ⟨_, _, e⟩ | ⟨_, _, e⟩ <;> rw [e]
          · exact ⟨_, _, rfl, fun h => by cases h⟩
          · exact ⟨_, _, rfl, fun h => by cases h⟩
          · exact ⟨_, _, rfl, fun _ => (drop_keep h s.Name).1⟩
theorem gplace_val (c : qC) (s : qS) (by_ : By8) : grants_place c s by_ = some (pI c s by_) := by
  unfold grants_place slices_IndexFunc_qG pI
  rw [forN_find (kB s by_) (fun j => (j : Int)) (fun j x hx => by rw [idx_nat, hx]; unfold grants_place_1; simp only [obs]; show (bif kB s by_ x then _ else _) = _; cases kB s by_ x <;> rfl)]
  cases c.Grants.findIdx? (kB s by_) <;> rfl
theorem gclone {l : List qG} (h : l.length ≤ 1000) : slices_Clone_qG l = some l := by
  unfold slices_Clone_qG
  rw [app_le (by simp; omega)]
  rfl
theorem give_same {n : Nat} {c : qC} (h : CI n c) (hn : n ≤ 99) (s : qS) (by_ : By8) : grants_give c s by_ = r19_given c s by_ := by
  have hs := h.2.sm om
  have hg := h.1.grants
  obtain ⟨r, hr⟩ := mfind_eq hs s.Role
  have ex : app 64 ([] : List qG) c.Grants = some c.Grants := by rw [app_le (by simp; omega)]; rfl
  unfold grants_give r19_given
  rw [gcan_val h.1 om hs, rcan_val hs om, gplace_val, rplace_val, tat_val, rat_val, hr, ex, gclone om]
  simp only [obs]
  have hp := pI_cases c s by_
  generalize (owB c by_ s.Table || haB c (heR c) by_ s.Priv s.Table true) = q
  have fin : (bif !q then some (([] : List qG), (36 : Int)) else (bif decide (pI c s by_ ≥ 0) then (idx c.Grants (pI c s by_)).bind fun x61 => some (x61.Option || !s.Option) else some false).bind fun j57 => bif j57 then some (([] : List qG), 19) else bif decide (pI c s by_ ≥ 0) then (idx c.Grants (pI c s by_)).bind fun x80 => some (c.Grants.set (pI c s by_).toNat { x80 with Option := true }, 0) else bif decide ((c.Grants.length : Int) ≥ 40) then some ([], 5) else ((app 64 c.Grants [(⟨s.Role, by_, s.Table, s.Priv, s.Option⟩ : qG)]).bind fun x112 => some (x112, (0 : Int))).bind fun (s125, s126) => some (s125, s126)) =
      bif !q then some (([] : List qG), (36 : Int)) else bif decide (pI c s by_ ≥ 0) then (idx c.Grants (pI c s by_)).bind fun x54 => bif x54.Option || !s.Option then some ([], 19) else (idx c.Grants (pI c s by_)).bind fun x60 => some (c.Grants.set (pI c s by_).toNat { x60 with Option := true }, 0) else bif decide ((c.Grants.length : Int) ≥ 40) then some ([], 5) else (app 64 c.Grants [(⟨s.Role, by_, s.Table, s.Priv, s.Option⟩ : qG)]).bind fun x82 => some (x82, 0) := by
    cases q
    · rfl
    rcases hp with ⟨e, _⟩ | ⟨k, g, e, hk, _⟩ <;> rw [e]
    · simp only [show decide ((-1 : Int) ≥ 0) = false from rfl, cond_false, Bool.not_true, obs]
      cases decide ((c.Grants.length : Int) ≥ 40)
      · simp only [cond_false]
        cases app 64 c.Grants [(⟨s.Role, by_, s.Table, s.Priv, s.Option⟩ : qG)] <;> rfl
      · rfl
    · simp only [show decide ((k : Int) ≥ 0) = true by simp, cond_true, cond_false, Bool.not_true, idx_nat, hk, obs]
  rcases cfind_eq h.1 om s.Table with ⟨h1, h2⟩ | ⟨t, h1, _, h2⟩ <;> rw [h2]
  · simp only [obs, show decide (tI c s.Table < 0) = true by simpa using h1, cond_true, Bool.not_false, Bool.true_or]
  · simp only [obs, show decide (tI c s.Table < 0) = false by simpa using h1, cond_false, Bool.not_true, Bool.false_or]
    by_cases h3 : rI c.Roles s.Role < 0
    · simp only [show decide (rI c.Roles s.Role < 0) = true by simpa using h3, show decide (0 ≤ rI c.Roles s.Role) = false by simp; omega, Bool.not_false, cond_true]
    · simp only [show decide (rI c.Roles s.Role < 0) = false by simpa using h3, show decide (0 ≤ rI c.Roles s.Role) = true by simp; omega, Bool.not_true, cond_false]
      exact fin
theorem gmake_same {n : Nat} {c : qC} {s : qS} (h : CI n c) (hn : n ≤ 99) (ho : Ok c.Roles) (hz : s.Name.size ≤ 100) (by_ : By8) (most : Int) : grants_Make c s by_ most = r19_Make c s by_ most := by
  have hs := h.2.sm om
  have hg := h.1.grants
  obtain ⟨r, hr⟩ := mfind_eq hs by_
  unfold grants_Make r19_Make
  cases hk : (decide (s.Kind < 10) || decide (s.Kind > 15)) with
  | true => rfl
  | false =>
  simp only [Bool.or_eq_false_iff, decide_eq_false_iff_not] at hk
  rw [hr, rat_val]
  simp only [obs, cond_false]
  by_cases h3 : rI c.Roles by_ < 0
  · simp only [show decide (rI c.Roles by_ < 0) = true by simpa using h3, show decide (0 ≤ rI c.Roles by_) = false by simp; omega, Bool.not_false, cond_true]
  simp only [show decide (rI c.Roles by_ < 0) = false by simpa using h3, show decide (0 ≤ rI c.Roles by_) = true by simp; omega, Bool.not_true, cond_false]
  have trim : ∀ (d : qC), CB (n + 1) d → Sm d.Roles → grants_Trim d = some { d with Grants := heR d } := fun d h1 h2 => by unfold grants_Trim; rw [gheld_val h1 om h2]; rfl
  by_cases h13 : s.Kind ≤ 13
  · have e1 : ((((bif (s.Kind == 10) then some (s.Kind == 10) else ((bif (s.Kind == 11) then some (s.Kind == 11) else some (s.Kind == 12))).bind (fun (j63 : Bool) => some j63))).bind (fun (j54 : Bool) => (bif j54 then some (.inl ()) else (bif (s.Kind == 13) then some (.inl ()) else (bif (s.Kind == 14) then some (.inr (.inl ())) else some (.inr (.inr ()))))))) : Option (Unit ⊕ Unit ⊕ Unit)) = some (.inl ()) := by
      rcases (show s.Kind = 10 ∨ s.Kind = 11 ∨ s.Kind = 12 ∨ s.Kind = 13 by omega) with e | e | e | e <;> rw [e] <;> rfl
    rw [e1, show decide (s.Kind ≤ 13) = true by simpa using h13, is_same hs, is_val hs]
    simp only [obs, cond_true]
    cases isB c.Roles by_ ⟨#[114, 111, 111, 116]⟩ with
    | false => simp only [Bool.not_false, cond_true, obs]; rfl
    | true =>
      simp only [Bool.not_true, cond_false]
      rw [roles_same ho hz]
      obtain ⟨rs, e, he, hk'⟩ := roles_keep ho hz
      rw [roles_same ho hz] at he
      have hro := (rroles_rb (b := False) h om hz).so _ he
      rw [he]
      simp only [obs]
      cases hv : (e == 0 && decide (c.Version ≥ most)) with
      | true => rfl
      | false =>
        simp only [cond_false, obs]
        cases h0 : e != 0 with
        | true => rfl
        | false =>
          have e0 : e = 0 := by simpa using h0
          have hro := hro e0
          simp only [cond_false]
          rw [trim { c with Version := w64 (c.Version + 1), Roles := rs } ⟨by show c.Tables.length ≤ n + 1; have := h.1.tabs; omega, (h.1.up om).ok, by show c.Grants.length ≤ n + 1; omega⟩ (hro.sm om), rheld_val (hro.sm om) (by show c.Grants.length ≤ 1000; omega)]
          rfl
  rw [show decide (s.Kind ≤ 13) = false by simpa using h13]
  by_cases h14 : s.Kind = 14
  · rw [h14]
    simp only [show ((14 : Int) == 10) = false from rfl, show ((14 : Int) == 11) = false from rfl, show ((14 : Int) == 12) = false from rfl, show ((14 : Int) == 13) = false from rfl, show ((14 : Int) == 14) = true from rfl, cond_false, cond_true, obs]
    rw [give_same h hn]
    obtain ⟨⟨gs, e⟩, he⟩ := (rgiven_rb (b := True) h om s by_).is trivial
    have hgl := (rgiven_rb (b := True) h om s by_).so _ he
    rw [he]
    simp only [obs]
    cases hv : (e == 0 && decide (c.Version ≥ most)) with
    | true => rfl
    | false =>
      simp only [cond_false, obs]
      cases h0 : e != 0 with
      | true => rfl
      | false =>
        have e0 : e = 0 := by simpa using h0
        have hgl : gs.length ≤ n + 1 := hgl e0
        simp only [cond_false]
        rw [trim { c with Version := w64 (c.Version + 1), Grants := gs } ⟨by show c.Tables.length ≤ n + 1; have := h.1.tabs; omega, (h.1.up om).ok, hgl⟩ hs, rheld_val (c := { c with Version := w64 (c.Version + 1), Grants := gs }) hs (by show gs.length ≤ 1000; omega)]
        rfl
  · have h15 : s.Kind = 15 := by omega
    rw [h15]
    simp only [show ((15 : Int) == 10) = false from rfl, show ((15 : Int) == 11) = false from rfl, show ((15 : Int) == 12) = false from rfl, show ((15 : Int) == 13) = false from rfl, show ((15 : Int) == 14) = false from rfl, cond_false, obs]
    unfold grants_take slices_Delete_qG
    rw [gplace_val, rplace_val, gclone om]
    simp only [obs]
    rcases pI_cases c s by_ with ⟨e, _⟩ | ⟨k, g, e, hk, _⟩ <;> rw [e]
    · rfl
    · have hkl : k < c.Grants.length := (List.getElem?_eq_some_iff.1 hk).1
      have ed : delO c.Grants (k : Int) ((k : Int) + 1) = some (c.Grants.eraseIdx k) := by
        unfold delO
        rw [if_pos ⟨by omega, by omega, by omega⟩, List.eraseIdx_eq_take_drop_succ, show (((k : Int) + 1)).toNat = k + 1 by omega, Int.toNat_natCast]
      have s1 : sub c.Grants 0 (k : Int) = some (c.Grants.take k) := by have := sub_at (xs := c.Grants) (lo := 0) (hi := (k : Int)) (i := 0) (j := k) rfl rfl om om; simpa using this
      have s2 : sub c.Grants ((k : Int) + 1) (c.Grants.length : Int) = some (c.Grants.drop (k + 1)) := by rw [sub_at (i := k + 1) (j := c.Grants.length) om rfl om om, List.take_length]
      have ee : c.Grants.take k ++ c.Grants.drop (k + 1) = c.Grants.eraseIdx k := (List.eraseIdx_eq_take_drop_succ ..).symm
      have hle := List.length_eraseIdx_le c.Grants k
      rw [w64_id om om, ed, s1, s2]
      simp only [obs, show decide ((k : Int) < 0) = false by simp, cond_false]
      rw [app_le (by simp; omega)]
      simp only [obs, List.nil_append]
      rw [app_le (by simp; omega)]
      simp only [obs, ee]
      cases hv : ((0 : Int) == 0 && decide (c.Version ≥ most)) with
      | true => rfl
      | false =>
        simp only [cond_false, obs, show ((0 : Int) != 0) = false from rfl]
        rw [trim { c with Version := w64 (c.Version + 1), Grants := c.Grants.eraseIdx k } ⟨by show c.Tables.length ≤ n + 1; have := h.1.tabs; omega, (h.1.up om).ok, by show (c.Grants.eraseIdx k).length ≤ n + 1; omega⟩ hs, rheld_val (c := { c with Version := w64 (c.Version + 1), Grants := c.Grants.eraseIdx k }) hs (by show (c.Grants.eraseIdx k).length ≤ 1000; omega)]
        rfl
section
variable {c d : qC} (ht : d.Tables = c.Tables) (hr : d.Roles = c.Roles)
include ht hr
end
def HE (d : qC) : Prop := ∃ e : qC, d.Tables = e.Tables ∧ d.Roles = e.Roles ∧ d.Grants = heR e
theorem gmake_ok {n : Nat} {c : qC} {s : qS} (h : CI n c) (hn : n ≤ 99) (ho : Ok c.Roles) (hm : s.Name.size ≤ 100) (by_ : By8) (most : Int) : RB False (r19_Make c s by_ most) (fun r => r.2 = 0 → Ok r.1.Roles ∧ HE r.1) := by
  have no : ∀ {k : Int} {C : Prop}, k ≠ 0 → (k = 0 → C) := fun hk he => absurd he hk
  have hg := h.1.grants
  obtain ⟨rs0, e0, he, hk⟩ := roles_keep ho hm
  rw [roles_same ho hm] at he
  have hro := (rroles_rb (b := False) h om hm).so _ he
  unfold r19_Make
  refine yk (fun _ => yd (no (by decide))) fun _ => yh RB.no fun _ _ => yk (fun _ => yd (no (by decide))) fun _ => yh RB.no fun _ _ => yh (R := fun (q : (Int × qC × (List qJ) × (List qG)) ⊕ (Int × qC)) => match q with | .inl (k, _, rs, gs) => k = 0 → RO (n + 1) rs ∧ gs.length ≤ n + 1 ∧ Ok rs | .inr (k, _) => k ≠ 0) ?_ ?_
  · refine yk (fun _ => yd (no (by decide))) fun _ => yh (R := fun (q : (Int × qC × (List qJ) × (List qG)) ⊕ (Int × qC)) => match q with | .inl (k, _, rs, gs) => k = 0 → RO (n + 1) rs ∧ gs.length ≤ n + 1 ∧ Ok rs | .inr (k, _) => k ≠ 0) ?_ ?_
    rotate_left
    · rintro (⟨_, _, _, _⟩ | ⟨_, _⟩) g <;> exact yd g
    refine yk (fun _ => ybn he (yd fun e => ⟨hro e, by omega, hk e⟩)) fun _ => yh (R := fun (q : (Int × qC × (List qG)) ⊕ (Int × qC)) => match q with | .inl (k, _, gs) => k = 0 → gs.length ≤ n + 1 | .inr (k, _) => k ≠ 0) (yk (fun _ => yh (rgiven_rb h om _ _) ?_) fun _ => ybn (rplace_val _ _ _) (yk (fun _ => yd (show (4 : Int) ≠ 0 by decide)) fun hc => yh RB.any fun l1 e1 => RB.apP (yh RB.any fun l2 e2 => RB.apP (yd fun _ => ?_)))) ?_
    · rintro ⟨_, _⟩ g
      exact yd g
    · rcases pI_cases c s by_ with ⟨e, _⟩ | ⟨k, g, e, hk, _⟩ <;> rw [e] at hc e1 e2
      · simp at hc
      · have hkl : k < c.Grants.length := (List.getElem?_eq_some_iff.1 hk).1
        obtain ⟨_, _, _, rfl⟩ := sub_some e1
        rw [w64_id om om] at e2
        obtain ⟨_, _, _, rfl⟩ := sub_some e2
        simp
        omega
    · rintro (⟨_, _, _⟩ | ⟨_, _⟩) g
      · exact yd fun he => ⟨h.2.up om, g he, ho⟩
      · exact yd g
  · rintro (⟨k, z, rs, gs⟩ | ⟨k, z⟩) g
    · refine yh (R := fun (e : Int) => e = 0 → k = 0) (yk (fun _ => yd fun h => by cases h) fun _ => yd fun h => h) fun e he => yk (fun hc => yd (no (by simpa using hc))) fun hc => ?_
      obtain ⟨g1, g2, g3⟩ := g (he (by simpa using hc))
      exact ybn (rheld_val (c := { c with Version := (w64 (c.Version + 1)), Roles := rs, Grants := gs }) (g1.sm om) (by show gs.length ≤ 1000; omega)) (yd fun _ => ⟨g3, { c with Version := (w64 (c.Version + 1)), Roles := rs, Grants := gs }, rfl, rfl, rfl⟩)
    · exact yd (no g)
theorem first_ok {b : Prop} : RB b law19_first (fun c => CI 16 c ∧ Ok c.Roles) := by
  refine rb_and first_rb ?_
  unfold law19_first r17_New
  refine ya1 (yh (forE_ret (fun j c => CI (12 + j) c ∧ Ok c.Roles) ⟨⟨⟨Nat.zero_le _, (fun t ht => by cases ht), Nat.zero_le _⟩, ⟨by show 1 ≤ 8; omega, fun x hx => ?_⟩⟩, root_ok⟩ ?_) ?_)
  · simp only [List.mem_cons, List.not_mem_nil, or_false] at hx
    subst hx
    exact ⟨Nat.zero_le _, by show (4 : Nat) ≤ 100; omega⟩
  · rintro j c hj hc
    refine yh (R := fun (q : qC × Int) => q.2 = 0 → CI (12 + (j + 1)) q.1 ∧ Ok q.1.Roles) (yam (xs := [(⟨#[97, 110, 110]⟩ : By8), ⟨#[98, 111, 98]⟩, ⟨#[99, 121]⟩]) hj fun x _ hx => ?_) ?_
    · have hs : x.size ≤ 100 := by
        simp only [List.mem_cons, List.not_mem_nil, or_false] at hx
        rcases hx with rfl | rfl | rfl <;> decide
      refine yh (rb_and (gmake_rb hc.1 om (SF.role x hs).name _ _) (gmake_ok hc.1 om hc.2 (SF.role x hs).name _ _)) ?_
      rintro ⟨d, e⟩ g
      exact yd fun he => ⟨g.1 he, (g.2 he).1⟩
    · rintro ⟨d, e⟩ g
      exact yh (R := fun c => CI (12 + (j + 1)) c ∧ Ok c.Roles) (yk (fun he => yd (g (by simpa using he))) (fun _ => yd ⟨hc.1.up om, hc.2⟩)) fun _ h => yd h
  · intro c hc
    have hc : CI 15 c ∧ Ok c.Roles := hc
    refine yh (tmake_rb (n := 15) hc.1.1 ⟨by show 1 ≤ 12; omega, Nat.zero_le _, Nat.zero_le _, by show 1 ≤ 100; omega, Nat.zero_le _, fun x hx => ?_, (fun x hx => by cases hx)⟩ (by show 3 ≤ 100; omega) om om) ?_
    · simp only [List.mem_cons, List.not_mem_nil, or_false] at hx
      subst hx
      show 1 ≤ 100
      omega
    · rintro ⟨d, e⟩ g
      exact yh (R := fun c => Ok c.Roles) (yk (fun he => yd (by rw [(g (by simpa using he)).2]; exact hc.2)) (fun _ => yd hc.2)) fun _ h => yd h
theorem next_ok {b : Prop} {n : Nat} {c : qC} {a : law19_Act} (h : CI n c) (ho : Ok c.Roles) (ha : SF a.S ∧ a.By.size ≤ 100) (hk : a.S.Kind < 10) (h12 : 12 ≤ n) (hn : n ≤ 99) : RB b (law19_Next c a) (fun r => CI (n + 1) r.1 ∧ Ok r.1.Roles) := by
  refine rb_and (next_rb h ha h12 hn) ?_
  unfold law19_Next
  refine yh RB.no ?_
  rintro ⟨d, e⟩ _
  refine yh (R := fun (q : Int × qC) => q.1 = 0 → Ok q.2.Roles) (yk (fun _ => yh (tmake_rb h.1 ha.1 ha.2 h12 om) ?_) fun hc => absurd hk (by simpa using hc)) ?_
  · rintro ⟨d', e'⟩ g'
    exact yd fun he => by rw [(g' he).2]; exact ho
  · rintro ⟨k, d'⟩ g'
    exact yk (fun _ => yd ho) fun hc => yd (g' (by simpa using hc))
theorem sEq_self (a : By8) : sEq a a = true := sEq_iff.2 rfl
theorem psame_fu {b : Prop} : ∀ (n : Nat) (e : qE), (b → esz e ≤ n) → RB b (r10_Same_fu n e e) (fun r => r = true)
  | 0, e, h => ybr fun hb => by have := h hb; have := esz_pos e; omega
  | n + 1, e, h => by
    unfold r10_Same_fu
    refine ya1 (yk (fun hc => by simp [sEq_self] at hc) fun _ => yh (R := fun r => r = true) ?_ fun _ h => yd h)
    unfold r10_SameList
    refine yk (fun hc => by simp at hc) fun _ => yh (forN_q (Q := fun _ => False) fun j _ hj => ?_) ?_
    · have hx : e.Kids[j]? = some e.Kids[j] := gE hj
      rw [idx_nat, hx]
      refine ya1 (ya1 (yh (psame_fu n _ fun hb => ?_) fun r hr => ?_))
      · have := kid_sz (List.getElem_mem hj)
        have := h hb
        omega
      · subst hr
        exact yd trivial
    · rintro (_ | _) g
      · exact yd rfl
      · exact g.elim
theorem psame_rb {b : Prop} (e : qE) : RB b (r10_Same e e) (fun r => r = true) := by
  unfold r10_Same
  exact fuel_tt (esz e) fun n => psame_fu n e id
theorem ssame_rb {b : Prop} (l : List By8) : RB b (r12_SameTexts l l) (fun r => r = true) := by
  unfold r12_SameTexts
  refine yk (fun hc => by simp at hc) fun _ => yh (forN_q (Q := fun _ => False) fun j _ hj => yam hj fun x hx _ => ?_) ?_
  · rw [idx_nat, hx]
    refine ya1 ?_
    rw [sEq_self]
    exact yd trivial
  · rintro (_ | _) g
    · exact yd rfl
    · exact g.elim
theorem csame_rb {b : Prop} (x : qK) : RB b (r12_SameCons x x) (fun r => r = true) := by
  unfold r12_SameCons
  refine ya1 ?_
  simp only [sEq_self, beq_self_eq_true, Bool.and_self]
  refine yh (R := fun r => r = true) (yh (ssame_rb _) fun _ h => yd h) fun q hq => ?_
  subst hq
  refine yh (R := fun r => r = true) (yh (ssame_rb _) fun _ h => yd h) fun q hq => ?_
  subst hq
  exact yh (R := fun r => r = true) (yh (psame_rb _) fun _ h => yd h) fun q hq => yd hq
theorem tsame_rb {b : Prop} (t : qT) : RB b (r14_Same t t) (fun r => r = true) := by
  unfold r14_Same
  refine ya1 (ya1 (yk (fun hc => by simp [sEq_self] at hc) fun _ => yh (forN_q (Q := fun _ => False) fun j _ hj => yam hj fun x hx _ => ?_) ?_))
  · rw [idx_nat, hx]
    refine ya1 ?_
    simp only [sEq_self, beq_self_eq_true, Bool.and_self]
    exact yd trivial
  rintro (_ | _) g
  rotate_left
  · exact g.elim
  refine yh (forN_q (Q := fun _ => False) fun j _ hj => yam hj fun x hx _ => ?_) ?_
  · rw [idx_nat, hx]
    refine ya1 (yh (csame_rb x) fun r hr => ?_)
    subst hr
    exact yd trivial
  rintro (_ | _) g
  rotate_left
  · exact g.elim
  refine yh (forN_q (Q := fun _ => False) fun j _ hj => yam hj fun x hx _ => ?_) ?_
  · rw [idx_nat, hx]
    refine ya1 (yh (R := fun r => r = false) ?_ fun r hr => ?_)
    · rw [sEq_self]
      refine yk (fun h => by cases h) fun _ => ya1 (ya1 (yh (ssame_rb _) fun r hr => ?_))
      subst hr
      exact yd rfl
    · subst hr
      exact yd trivial
  · rintro (_ | _) g
    · exact yd rfl
    · exact g.elim
theorem catsame_rb {b : Prop} (c : qC) : RB b (r17_Same c c) (fun r => r = true) := by
  unfold r17_Same
  refine ya1 (ya1 (yk (fun hc => by simp at hc) fun _ => yh (forN_q (Q := fun _ => False) fun j _ hj => yam hj fun x hx _ => ?_) ?_))
  · rw [idx_nat, hx]
    refine ya1 (yh (tsame_rb x) fun r hr => ?_)
    subst hr
    exact yd trivial
  rintro (_ | _) g
  rotate_left
  · exact g.elim
  refine yh (forN_q (Q := fun _ => False) fun j _ hj => yh (R := fun (q : qJ × qJ) => q.1 = q.2) (yam hj fun x hx _ => ?_) ?_) ?_
  · rw [idx_nat, hx]
    exact ya1 (yd rfl)
  · rintro ⟨x, y⟩ hxy
    have hxy : x = y := hxy
    subst hxy
    refine ya1 (yk (fun hc => by simp [sEq_self] at hc) fun _ => yh (forN_q (Q := fun _ => False) fun j _ hj => yam hj fun x hx _ => ?_) ?_)
    · rw [idx_nat, hx]
      refine ya1 ?_
      rw [sEq_self]
      exact yd trivial
    · rintro (_ | _) g
      · exact yd trivial
      · exact g.elim
  rintro (_ | _) g
  rotate_left
  · exact g.elim
  refine yh (forN_q (Q := fun _ => False) fun j _ hj => yam hj fun x hx _ => ?_) ?_
  · rw [idx_nat, hx]
    refine ya1 ?_
    simp only [sEq_self, beq_self_eq_true, Bool.and_self]
    exact yd trivial
  · rintro (_ | _) g
    · exact yd rfl
    · exact g.elim
theorem play_ok {A B : Prop} (p0 : List law19_Act) (p1 : Int) (_ : A) (_ : B) : law19_GrantsPlay p0 p1 = some true := by
  unfold law19_GrantsPlay
  refine Ret.eq (yh (afew_rb p0) fun q0 h0 => yk (fun _ => by rw [works_eq]; exact ya1 (yd rfl)) fun hc => ?_)
  have af := h0 (by simpa using hc)
  have hl := af.1
  refine yh first_ok fun c0 hc0 => yh (forN_ret (fun j c => CI (16 + j) c ∧ Ok c.Roles) (Q := fun _ => False) hc0 ?_) ?_
  · rintro j c hj ⟨g1, g2⟩
    refine yh (R := fun (t : qC ⊕ (Bool × qC)) => match t with | .inl c => CI (16 + (j + 1)) c ∧ Ok c.Roles | .inr _ => False) (yam hj fun a ha hm => yk (fun hk => ?_) fun hk => ?_) ?_
    · rw [idx_nat, ha]
      refine ya1 (yh (next_ok g1 g2 (af.2 a hm) (by simpa using hk) om om) ?_)
      rintro ⟨d, e⟩ g
      exact yd g
    · have hz := (af.2 a hm).1.name
      obtain ⟨⟨d, e⟩, hv⟩ := (gmake_rb (b := True) g1 om hz a.By (w64 (4 + w64 p1))).is trivial
      have k1 := (gmake_rb (b := True) g1 om hz a.By (w64 (4 + w64 p1))).so _ hv
      have k2 := (gmake_ok g1 om g2 hz a.By (w64 (4 + w64 p1))).so _ hv
      rw [idx_nat, ha]
      refine ya1 ?_
      simp only [obs]
      rw [gmake_same g1 om g2 hz, hv]
      simp only [obs]
      refine yh (R := fun q => q = false) (yk (fun h => by simp at h) fun _ => yh (catsame_rb d) fun r hr => yd (by rw [hr]; rfl)) fun q hq => yk (fun h => by rw [hq] at h; cases h) fun _ => yh (R := fun c => CI (16 + (j + 1)) c ∧ Ok c.Roles) (yk (fun he => yd ⟨k1 (by simpa using he), (k2 (by simpa using he)).1⟩) fun _ => yd ⟨g1.up om, g2⟩) fun c' g => yd g
    · rintro (_ | _) g
      · exact yd g
      · exact g.elim
  · rintro (c | _) g
    · rw [works_eq]
      exact ya1 (yd rfl)
    · exact g.elim
end Go.Proofs.YtdmapcjbbbifbaaGreat
