import Derived.Test.YtlecmgdkoanghaaBy
import Derived.Test.YtlecmgdkoanghaaCn
import Derived.Test.YtlecmgdkoanghaaGR
import Derived.Test.YtlecmgdkoanghaaSlc
import Derived.Test.YtlecmgdkoanghaaBox
set_option linter.all false
set_option maxRecDepth 100000
namespace Go.Proofs.Ytlecmgdkoanghaa
open Go.RowKit
attribute [local go_sem] Oper.semAt_some
def L3_colorFact (F : Nat)  : Option (Bool) := (color_Least F (3) ([(0, 1), (1, 2), (2, 0)])).bind fun y1 => (color_By F (3) ([(0, 1), (1, 2), (2, 0)]) ([2, 0, 1])).bind fun y2 => (((if (y1.2 == 0) = true then if (y2.2 == 0) = true then some true else some false else some false).bind fun b5 => if b5 = true then if (y1.1 == 3) = true then some true else some false else some false).bind fun b4 => if b4 = true then (SE_Ints F (y2.1) ([1, 2, 0])).bind fun y6 => if y6 = true then some true else some false else some false).bind fun b3 => some (b3)
set_option maxRecDepth 100000 in
set_option maxHeartbeats 4000000 in
theorem L3_colorFact_ok {F : Nat}  {r : Bool} (w : World)  (h : L3_colorFact F  = some r) :
    Calls Try.prog 7 #[] w fun e w' => e = .returned (.bool r) ∧ Below w.heap.size w w' := by
  have HD := Lib.hid (Below.refl w.heap.size w)
  have HOA := Lib.hid (HP.nil (W := w) (B := w.heap.size))
  unfold L3_colorFact at h
  have HM := Lib.hid h; clear h
  go_enter Try.func7, Try.ntmps7
  have hd : Below w.heap.size w (World.alloc w (.cells #[Value.int .i64 (0), Value.int .i64 (1), Value.int .i64 (1), Value.int .i64 (2), Value.int .i64 (2), Value.int .i64 (0)] 33)) := (Below.refl _ _).alloc (Nat.le_refl _) _
  have ho : (owL (.slice (some ⟨w.heap.size, 0, none⟩) 3 3) [(0, 1), (1, 2), (2, 0)]).ok (World.alloc w (.cells #[Value.int .i64 (0), Value.int .i64 (1), Value.int .i64 (1), Value.int .i64 (2), Value.int .i64 (2), Value.int .i64 (0)] 33)) w.heap.size := litL_ok w [(0, 1), (1, 2), (2, 0)] (by unfold maxLen; simp)
  replace HOA := Lib.hid (HOA.out.call hd HD.out.size ho); clear ho
  replace HD := Lib.hid (HD.out.trans (hd.mono HD.out.size))
  clear hd
  go_upto_region 2 with (fail)
  generalize hW : World.alloc w _ = W1 at *
  clear hW
  obtain ⟨⟨y5, y6⟩, hy3, hm⟩ := obind HM.out
  dsimp only at hm
  replace HM := Lib.hid hm; clear hm
  have HC4 := color_Least_ok W1 3 (HP.rd_L HOA.out (List.Mem.head _)) hy3
  clear hy3
  try rw [← HP.len_L HOA.out (List.Mem.head _)] at HC4
  by_cases hz7 : y6 = 0
  · subst hz7
    rw [errV_zero] at HC4; replace HC4 := Lib.hid HC4
    go_wp2_with fail
    refine HC4.out.mono ?_; rintro e W8 ⟨rfl, hd⟩
    replace HOA := Lib.hid (HOA.out.below hd)
    replace HD := Lib.hid (HD.out.trans (hd.mono HD.out.size))
    clear hd
    have hd : Below W8.heap.size W8 (World.alloc W8 (.cells #[Value.int .i64 (2), Value.int .i64 (0), Value.int .i64 (1)] 3)) := (Below.refl _ _).alloc (Nat.le_refl _) _
    have ho : (owI (.slice (some ⟨W8.heap.size, 0, none⟩) 3 3) [2, 0, 1]).ok (World.alloc W8 (.cells #[Value.int .i64 (2), Value.int .i64 (0), Value.int .i64 (1)] 3)) W8.heap.size := litI_ok W8 [2, 0, 1] (by unfold maxLen; simp)
    replace HOA := Lib.hid (HOA.out.call hd HD.out.size ho); clear ho
    replace HD := Lib.hid (HD.out.trans (hd.mono HD.out.size))
    clear hd
    obtain ⟨⟨y15, y16⟩, hy13, hm⟩ := obind HM.out
    dsimp only at hm
    replace HM := Lib.hid hm; clear hm
    have HC14 := color_By_ok (World.alloc W8 (.cells #[Value.int .i64 (2), Value.int .i64 (0), Value.int .i64 (1)] 3)) 3 (HP.rd_L HOA.out (List.Mem.tail _ (List.Mem.head _))) 3 (HP.rd_I HOA.out (List.Mem.head _)) (HP.cap_I HOA.out (List.Mem.head _)) hy13
    clear hy13
    try rw [← HP.len_L HOA.out (List.Mem.tail _ (List.Mem.head _))] at HC14
    try rw [← HP.len_I HOA.out (List.Mem.head _)] at HC14
    by_cases hz17 : y16 = 0
    · subst hz17
      rw [errV_zero] at HC14; replace HC14 := Lib.hid HC14
      go_wp2_with fail
      refine HC14.out.mono ?_; rintro e W18 ⟨V19, rfl, ho, hd⟩
      replace HOA := Lib.hid (HOA.out.call hd HD.out.size ho); clear ho
      replace HD := Lib.hid (HD.out.trans (hd.mono HD.out.size))
      clear hd
      obtain ⟨b25, hb, hm⟩ := obind HM.out
      replace HM := Lib.hid hm; have HB26 := Lib.hid hb; clear hm hb
      obtain ⟨b27, hb, hm⟩ := obind HB26.out
      replace HB26 := Lib.hid hm; have HB28 := Lib.hid hb; clear hm hb
      obtain ⟨b29, hb, hm⟩ := obind HB28.out
      replace HB28 := Lib.hid hm; have HB30 := Lib.hid hb; clear hm hb
      replace HB30 := Lib.hid (ifT (by decide) HB30.out)
      replace HB30 := Lib.hid (ifT (by decide) HB30.out)
      obtain rfl := Option.some.inj HB30.out
      replace HB28 := Lib.hid (ifT (by first | rfl | trivial) HB28.out)
      rcases Bool.eq_false_or_eq_true (y5 == 3) with hc31 | hc31
      · replace HB28 := Lib.hid (ifT hc31 HB28.out)
        have HK32 := Lib.hid hc31
        obtain rfl := Option.some.inj HB28.out
        replace HB26 := Lib.hid (ifT (by first | rfl | trivial) HB26.out)
        have hd : Below W18.heap.size W18 (World.alloc W18 (.cells #[Value.int .i64 (1), Value.int .i64 (2), Value.int .i64 (0)] 3)) := (Below.refl _ _).alloc (Nat.le_refl _) _
        have ho : (owI (.slice (some ⟨W18.heap.size, 0, none⟩) 3 3) [1, 2, 0]).ok (World.alloc W18 (.cells #[Value.int .i64 (1), Value.int .i64 (2), Value.int .i64 (0)] 3)) W18.heap.size := litI_ok W18 [1, 2, 0] (by unfold maxLen; simp)
        replace HOA := Lib.hid (HOA.out.call hd HD.out.size ho); clear ho
        replace HD := Lib.hid (HD.out.trans (hd.mono HD.out.size))
        clear hd
        obtain ⟨y37, hy35, hm⟩ := obind HB26.out
        replace HB26 := Lib.hid hm; clear hm
        obtain ⟨A38, cap39, he, _⟩ := HP.open_I HOA.out (List.Mem.tail _ (List.Mem.head _))
        subst he
        have HC36 := SE_Ints_ok (World.alloc W18 (.cells #[Value.int .i64 (1), Value.int .i64 (2), Value.int .i64 (0)] 3)) cap39 (HP.rd_I HOA.out (List.Mem.tail _ (List.Mem.head _))) 3 (HP.rd_I HOA.out (List.Mem.head _)) hy35
        clear hy35
        try rw [← HP.len_I HOA.out (List.Mem.head _)] at HC36
        replace HC36 := Lib.hid HC36
        go_wp2_with fail
        refine HC36.out.mono ?_; rintro e W40 ⟨rfl, hd⟩
        try clear hc31
        replace HOA := Lib.hid (HOA.out.below (hd.below _))
        replace HD := Lib.hid (HD.out.trans ((hd.below _).mono HD.out.size))
        clear hd
        cases y37
        · replace HB26 := Lib.hid (ifF Bool.false_ne_true HB26.out)
          obtain rfl := Option.some.inj HB26.out
          obtain rfl := Option.some.inj HM.out
          go_wp2_with fail
          go_ret
          exact ⟨rfl, HD.out⟩
        · replace HB26 := Lib.hid (ifT rfl HB26.out)
          obtain rfl := Option.some.inj HB26.out
          obtain rfl := Option.some.inj HM.out
          go_wp2_with fail
          go_ret
          exact ⟨rfl, HD.out⟩
      · replace HB28 := Lib.hid (ifF (bF hc31) HB28.out)
        have HK32 := Lib.hid hc31
        obtain rfl := Option.some.inj HB28.out
        replace HB26 := Lib.hid (ifF (by first | exact Bool.false_ne_true | exact not_false) HB26.out)
        obtain rfl := Option.some.inj HB26.out
        obtain rfl := Option.some.inj HM.out
        go_wp2_with fail
        go_ret
        exact ⟨(by first | rfl | (refine congrArg (fun b => Ending.returned (Value.bool b)) ?_; first | (exact decide_eq_true (by omega)) | (exact decide_eq_false (by omega)) | (have q := hc31; rw [bne_iff_ne] at q ⊢; omega) | (have q := hc31; rw [bne_eq_false_iff_eq] at q ⊢; omega) | (have q := hc31; rw [beq_iff_eq] at q ⊢; omega) | (have q := hc31; rw [beq_eq_false_iff_ne] at q ⊢; omega))), HD.out⟩
    · rw [errV_pos _ hz17] at HC14; replace HC14 := Lib.hid HC14
      go_wp2_with fail
      refine HC14.out.mono ?_; rintro e W21 ⟨V22, rfl, ho, hd⟩
      replace HOA := Lib.hid (HOA.out.call hd HD.out.size ho); clear ho
      replace HD := Lib.hid (HD.out.trans (hd.mono HD.out.size))
      clear hd
      have HZ24 := Lib.hid hz17; clear hz17
      obtain ⟨b41, hb, hm⟩ := obind HM.out
      replace HM := Lib.hid hm; have HB42 := Lib.hid hb; clear hm hb
      obtain ⟨b43, hb, hm⟩ := obind HB42.out
      replace HB42 := Lib.hid hm; have HB44 := Lib.hid hb; clear hm hb
      obtain ⟨b45, hb, hm⟩ := obind HB44.out
      replace HB44 := Lib.hid hm; have HB46 := Lib.hid hb; clear hm hb
      replace HB46 := Lib.hid (ifT (by decide) HB46.out)
      replace HB46 := Lib.hid (ifF (fun h => HZ24.out (eq_of_beq h)) HB46.out)
      obtain rfl := Option.some.inj HB46.out
      replace HB44 := Lib.hid (ifF (by first | exact Bool.false_ne_true | exact not_false) HB44.out)
      obtain rfl := Option.some.inj HB44.out
      replace HB42 := Lib.hid (ifF (by first | exact Bool.false_ne_true | exact not_false) HB42.out)
      obtain rfl := Option.some.inj HB42.out
      obtain rfl := Option.some.inj HM.out
      go_wp2_with fail
      go_ret
      exact ⟨rfl, HD.out⟩
  · rw [errV_pos _ hz7] at HC4; replace HC4 := Lib.hid HC4
    go_wp2_with fail
    refine HC4.out.mono ?_; rintro e W9 ⟨rfl, hd⟩
    replace HOA := Lib.hid (HOA.out.below hd)
    replace HD := Lib.hid (HD.out.trans (hd.mono HD.out.size))
    clear hd
    have HZ10 := Lib.hid hz7; clear hz7
    have hd : Below W9.heap.size W9 (World.alloc W9 (.cells #[Value.int .i64 (2), Value.int .i64 (0), Value.int .i64 (1)] 3)) := (Below.refl _ _).alloc (Nat.le_refl _) _
    have ho : (owI (.slice (some ⟨W9.heap.size, 0, none⟩) 3 3) [2, 0, 1]).ok (World.alloc W9 (.cells #[Value.int .i64 (2), Value.int .i64 (0), Value.int .i64 (1)] 3)) W9.heap.size := litI_ok W9 [2, 0, 1] (by unfold maxLen; simp)
    replace HOA := Lib.hid (HOA.out.call hd HD.out.size ho); clear ho
    replace HD := Lib.hid (HD.out.trans (hd.mono HD.out.size))
    clear hd
    obtain ⟨⟨y51, y52⟩, hy49, hm⟩ := obind HM.out
    dsimp only at hm
    replace HM := Lib.hid hm; clear hm
    have HC50 := color_By_ok (World.alloc W9 (.cells #[Value.int .i64 (2), Value.int .i64 (0), Value.int .i64 (1)] 3)) 3 (HP.rd_L HOA.out (List.Mem.tail _ (List.Mem.head _))) 3 (HP.rd_I HOA.out (List.Mem.head _)) (HP.cap_I HOA.out (List.Mem.head _)) hy49
    clear hy49
    try rw [← HP.len_L HOA.out (List.Mem.tail _ (List.Mem.head _))] at HC50
    try rw [← HP.len_I HOA.out (List.Mem.head _)] at HC50
    by_cases hz53 : y52 = 0
    · subst hz53
      rw [errV_zero] at HC50; replace HC50 := Lib.hid HC50
      go_wp2_with fail
      refine HC50.out.mono ?_; rintro e W54 ⟨V55, rfl, ho, hd⟩
      replace HOA := Lib.hid (HOA.out.call hd HD.out.size ho); clear ho
      replace HD := Lib.hid (HD.out.trans (hd.mono HD.out.size))
      clear hd
      obtain ⟨b61, hb, hm⟩ := obind HM.out
      replace HM := Lib.hid hm; have HB62 := Lib.hid hb; clear hm hb
      obtain ⟨b63, hb, hm⟩ := obind HB62.out
      replace HB62 := Lib.hid hm; have HB64 := Lib.hid hb; clear hm hb
      obtain ⟨b65, hb, hm⟩ := obind HB64.out
      replace HB64 := Lib.hid hm; have HB66 := Lib.hid hb; clear hm hb
      replace HB66 := Lib.hid (ifF (fun h => HZ10.out (eq_of_beq h)) HB66.out)
      obtain rfl := Option.some.inj HB66.out
      replace HB64 := Lib.hid (ifF (by first | exact Bool.false_ne_true | exact not_false) HB64.out)
      obtain rfl := Option.some.inj HB64.out
      replace HB62 := Lib.hid (ifF (by first | exact Bool.false_ne_true | exact not_false) HB62.out)
      obtain rfl := Option.some.inj HB62.out
      obtain rfl := Option.some.inj HM.out
      go_wp2_with fail
      go_ret
      exact ⟨rfl, HD.out⟩
    · rw [errV_pos _ hz53] at HC50; replace HC50 := Lib.hid HC50
      go_wp2_with fail
      refine HC50.out.mono ?_; rintro e W57 ⟨V58, rfl, ho, hd⟩
      replace HOA := Lib.hid (HOA.out.call hd HD.out.size ho); clear ho
      replace HD := Lib.hid (HD.out.trans (hd.mono HD.out.size))
      clear hd
      have HZ60 := Lib.hid hz53; clear hz53
      obtain ⟨b67, hb, hm⟩ := obind HM.out
      replace HM := Lib.hid hm; have HB68 := Lib.hid hb; clear hm hb
      obtain ⟨b69, hb, hm⟩ := obind HB68.out
      replace HB68 := Lib.hid hm; have HB70 := Lib.hid hb; clear hm hb
      obtain ⟨b71, hb, hm⟩ := obind HB70.out
      replace HB70 := Lib.hid hm; have HB72 := Lib.hid hb; clear hm hb
      replace HB72 := Lib.hid (ifF (fun h => HZ10.out (eq_of_beq h)) HB72.out)
      obtain rfl := Option.some.inj HB72.out
      replace HB70 := Lib.hid (ifF (by first | exact Bool.false_ne_true | exact not_false) HB70.out)
      obtain rfl := Option.some.inj HB70.out
      replace HB68 := Lib.hid (ifF (by first | exact Bool.false_ne_true | exact not_false) HB68.out)
      obtain rfl := Option.some.inj HB68.out
      obtain rfl := Option.some.inj HM.out
      go_wp2_with fail
      go_ret
      exact ⟨rfl, HD.out⟩
def L3_ColorBy_L1 (F : Nat) (v1 : List (Int × Int)) (v5 : List Int) : Nat → (Int) → Option ((Int) ⊕ (Bool))
  | 0, _ => none
  | g+1, v8 => if v8 < ((v1).length : Int) then ((ix v1 v8).bind fun y8 => (ix v5 y8.1).bind fun y9 => (ix v1 v8).bind fun y10 => (ix v5 y10.2).bind fun y11 => if (y9 == y11) = true then some (.inr (false)) else L3_ColorBy_L1 F v1 v5 g ((wrap64 (v8 + 1)))) else some (.inl (v8))
theorem L3_ColorBy_L1_0 (F : Nat) (v1 : List (Int × Int)) (v5 : List Int) (v8 : Int) : L3_ColorBy_L1 F v1 v5 0 v8 = none := by rw [L3_ColorBy_L1]
theorem L3_ColorBy_L1_s (F g : Nat) (v1 : List (Int × Int)) (v5 : List Int) (v8 : Int) : L3_ColorBy_L1 F v1 v5 (g+1) v8 = (if v8 < ((v1).length : Int) then ((ix v1 v8).bind fun y8 => (ix v5 y8.1).bind fun y9 => (ix v1 v8).bind fun y10 => (ix v5 y10.2).bind fun y11 => if (y9 == y11) = true then some (.inr (false)) else L3_ColorBy_L1 F v1 v5 g ((wrap64 (v8 + 1)))) else some (.inl (v8))) := by rw [L3_ColorBy_L1]
def L3_ColorBy_L2 (F : Nat) (v0 : Int) (v1 : List (Int × Int)) : Nat → (Int) → (Int) → Option (Int × Int)
  | 0, _, _ => none
  | g+1, v9, v10 => if v10 < v0 then ((R1_Near F (v0) (v1) (v10)).bind fun y13 => if v9 < (y13.length : Int) then (R1_Near F (v0) (v1) (v10)).bind fun y14 => L3_ColorBy_L2 F v0 v1 g ((y14.length : Int)) ((wrap64 (v10 + 1))) else L3_ColorBy_L2 F v0 v1 g (v9) ((wrap64 (v10 + 1)))) else some (v9, v10)
theorem L3_ColorBy_L2_0 (F : Nat) (v0 : Int) (v1 : List (Int × Int)) (v9 : Int) (v10 : Int) : L3_ColorBy_L2 F v0 v1 0 v9 v10 = none := by rw [L3_ColorBy_L2]
theorem L3_ColorBy_L2_s (F g : Nat) (v0 : Int) (v1 : List (Int × Int)) (v9 : Int) (v10 : Int) : L3_ColorBy_L2 F v0 v1 (g+1) v9 v10 = (if v10 < v0 then ((R1_Near F (v0) (v1) (v10)).bind fun y13 => if v9 < (y13.length : Int) then (R1_Near F (v0) (v1) (v10)).bind fun y14 => L3_ColorBy_L2 F v0 v1 g ((y14.length : Int)) ((wrap64 (v10 + 1))) else L3_ColorBy_L2 F v0 v1 g (v9) ((wrap64 (v10 + 1)))) else some (v9, v10)) := by rw [L3_ColorBy_L2]
def L3_ColorBy (F : Nat) (v0 : Int) (v1 : List (Int × Int)) (v2 : List Int) : Option (Bool) := (L3_colorFact F ).bind fun y1 => (if y1 = true then (color_By F (v0) (v1) (v2)).bind fun y2 => (if (y2.2 != 0) = true then (if (((y2.1).length : Int) == 0) = true then some true else some false).bind fun b3 => some (b3) else (color_Least F (v0) (v1)).bind fun y4 => (((if (y4.2 != 0) = true then some true else if (((y2.1).length : Int) != v0) = true then some true else some false).bind fun b6 => if b6 = true then some true else (R1_Lines F (v0) (v1)).bind fun y7 => if (y7 != 0) = true then some true else some false).bind fun b5 => if b5 = true then some (false) else (L3_ColorBy_L1 F (v1) (y2.1) F (0)).bind fun o12 => match o12 with | .inr r => some (r) | .inl o12 => (L3_ColorBy_L2 F (v0) (v1) F (0) (0)).bind fun o15 => (R3_Most F (y2.1)).bind fun y16 => (((R1_All F (y2.1) (0) ((wrap64 (v0 - 1)))).bind fun y19 => if y19 = true then if y4.1 ≤ (wrap64 (y16 + 1)) then some true else some false else some false).bind fun b18 => if b18 = true then if (wrap64 (y16 + 1)) ≤ (wrap64 (o15.1 + 1)) then some true else some false else some false).bind fun b17 => some (b17))) else some (false))
set_option maxRecDepth 100000 in
set_option maxHeartbeats 4000000 in
theorem L3_ColorBy_ok {F : Nat} {v0 : Int} {v1 : List (Int × Int)} {A1 : Option Addr} {v2 : List Int} {A2 : Option Addr} {r : Bool} (w : World) (cap1 : Nat) (hr1 : ReadsL w w.heap.size A1 v1) (cap2 : Nat) (hr2 : ReadsI w w.heap.size A2 v2) (hcap2 : v2.length ≤ cap2) (h : L3_ColorBy F v0 v1 v2 = some r) :
    Calls Try.prog 3 #[.int .i64 v0, .slice A1 v1.length cap1, .slice A2 v2.length cap2] w fun e w' => e = .returned (.bool r) ∧ Below w.heap.size w w' := by
  have HR1 := Lib.hid hr1; clear hr1
  have HR2 := Lib.hid hr2; clear hr2
  have HCAP2 := Lib.hid hcap2; clear hcap2
  have HD := Lib.hid (Below.refl w.heap.size w)
  have HOA := Lib.hid (HP.nil (W := w) (B := w.heap.size))
  unfold L3_ColorBy at h
  have HM := Lib.hid h; clear h
  go_enter Try.func3, Try.ntmps3
  obtain ⟨y3, hy1, hm⟩ := obind HM.out
  replace HM := Lib.hid hm; clear hm
  have HC2 := L3_colorFact_ok w  hy1
  clear hy1
  replace HC2 := Lib.hid HC2
  go_wp2_with fail
  refine HC2.out.mono ?_; rintro e W4 ⟨rfl, hd⟩
  replace HOA := Lib.hid (HOA.out.below hd)
  replace HD := Lib.hid (HD.out.trans (hd.mono HD.out.size))
  clear hd
  cases y3
  · replace HM := Lib.hid (ifF Bool.false_ne_true HM.out)
    obtain rfl := Option.some.inj HM.out
    go_wp2_with fail
    go_ret
    exact ⟨rfl, HD.out⟩
  · replace HM := Lib.hid (ifT rfl HM.out)
    obtain ⟨⟨y7, y8⟩, hy5, hm⟩ := obind HM.out
    dsimp only at hm
    replace HM := Lib.hid hm; clear hm
    have HC6 := color_By_ok W4 cap1 (rdL HD.out HR1.out) cap2 (rdI HD.out HR2.out) HCAP2.out hy5
    clear hy5
    by_cases hz9 : y8 = 0
    · subst hz9
      rw [errV_zero] at HC6; replace HC6 := Lib.hid HC6
      go_wp2_with fail
      refine HC6.out.mono ?_; rintro e W10 ⟨V11, rfl, ho, hd⟩
      replace HOA := Lib.hid (HOA.out.call hd HD.out.size ho); clear ho
      replace HD := Lib.hid (HD.out.trans (hd.mono HD.out.size))
      clear hd
      replace HM := Lib.hid (ifF (by decide) HM.out)
      obtain ⟨⟨y19, y20⟩, hy17, hm⟩ := obind HM.out
      dsimp only at hm
      replace HM := Lib.hid hm; clear hm
      have HC18 := color_Least_ok W10 cap1 (rdL HD.out HR1.out) hy17
      clear hy17
      by_cases hz21 : y20 = 0
      · subst hz21
        rw [errV_zero] at HC18; replace HC18 := Lib.hid HC18
        go_wp2_with fail
        refine HC18.out.mono ?_; rintro e W22 ⟨rfl, hd⟩
        replace HOA := Lib.hid (HOA.out.below hd)
        replace HD := Lib.hid (HD.out.trans (hd.mono HD.out.size))
        clear hd
        go_upto_region 8 with (fail)
        obtain ⟨b25, hb, hm⟩ := obind HM.out
        replace HM := Lib.hid hm; have HB26 := Lib.hid hb; clear hm hb
        go_cut [49] (fun uq wr => uq = .bool b25 ∧ Hid (Below W22.heap.size W22 wr))
        case first =>
          have HWC27 := Lib.hid (Below.refl W22.heap.size W22)
          obtain ⟨b28, hb, hm⟩ := obind HB26.out
          replace HB26 := Lib.hid hm; have HB29 := Lib.hid hb; clear hm hb
          replace HB29 := Lib.hid (ifF (by decide) HB29.out)
          obtain ⟨A30, cap31, he, _⟩ := HP.open_I HOA.out (List.Mem.head _)
          subst he
          rcases Bool.eq_false_or_eq_true (((y7).length : Int) != v0) with hc32 | hc32
          · replace HB29 := Lib.hid (ifT hc32 HB29.out)
            have HK33 := Lib.hid hc32
            obtain rfl := Option.some.inj HB29.out
            replace HB26 := Lib.hid (ifT (by first | rfl | trivial) HB26.out)
            cases Option.some.inj HB26.out
            try go_wp2_with fail
            go_meet
            case rel => exact ⟨rfl, HWC27⟩
          · replace HB29 := Lib.hid (ifF (bF hc32) HB29.out)
            have HK33 := Lib.hid hc32
            obtain rfl := Option.some.inj HB29.out
            replace HB26 := Lib.hid (ifF (by first | exact Bool.false_ne_true | exact not_false) HB26.out)
            obtain ⟨y36, hy34, hm⟩ := obind HB26.out
            replace HB26 := Lib.hid hm; clear hm
            have HC35 := R1_Lines_ok W22 cap1 (rdL HD.out HR1.out) hy34
            clear hy34
            replace HC35 := Lib.hid HC35
            go_wp2_with fail
            refine HC35.out.mono ?_; rintro e W37 ⟨rfl, hd⟩
            try clear hc32
            replace HOA := Lib.hid (HOA.out.below (hd.below _))
            replace HD := Lib.hid (HD.out.trans ((hd.below _).mono HD.out.size))
            replace HWC27 := Lib.hid (HWC27.out.trans ((hd.below _).mono HWC27.out.size))
            clear hd
            rcases Bool.eq_false_or_eq_true (y36 != 0) with hc38 | hc38
            · replace HB26 := Lib.hid (ifT hc38 HB26.out)
              have HK39 := Lib.hid hc38
              cases Option.some.inj HB26.out
              try go_wp2_with fail
              go_meet
              case rel => exact ⟨rfl, HWC27⟩
            · replace HB26 := Lib.hid (ifF (bF hc38) HB26.out)
              have HK39 := Lib.hid hc38
              cases Option.some.inj HB26.out
              try go_wp2_with fail
              go_meet
              case rel => exact ⟨rfl, HWC27⟩
        case rest =>
          obtain ⟨rfl, HWC27⟩ := hcut
          rename World => W40
          have hd := HWC27.out
          replace HOA := Lib.hid (HOA.out.below hd)
          replace HD := Lib.hid (HD.out.trans (hd.mono HD.out.size))
          clear hd
          cases b25
          · replace HM := Lib.hid (ifF Bool.false_ne_true HM.out)
            go_wp2_with fail
            obtain ⟨o41, ho, hm⟩ := obind HM.out
            replace HM := Lib.hid hm; have HL1 := Lib.hid ho; clear hm ho
            go_loopg [11] F (fun gg ux43 wr => ∃ (x42 : Int), ux43 = .int .i64 x42 ∧ Hid (Below W40.heap.size W40 wr) ∧ Hid (L3_ColorBy_L1 F (v1) (y7) gg x42 = some o41))
            case atStart => exact ⟨0, rfl, (Lib.hid (Below.refl _ _)), HL1⟩
            case round =>
              obtain ⟨x42, rfl, HW1, HL1⟩ := hrel
              rename World => W44
              have hd := HW1.out
              replace HOA := Lib.hid (HOA.out.below hd)
              replace HD := Lib.hid (HD.out.trans (hd.mono HD.out.size))
              clear hd
              cases gk with
              | zero => exact absurd ((L3_ColorBy_L1_0 ..).symm.trans HL1.out) (by intro h; cases h)
              | succ g1 =>
                replace HL1 := Lib.hid ((L3_ColorBy_L1_s ..).symm.trans HL1.out)
                by_cases hc45 : x42 < ((v1).length : Int)
                · replace HL1 := Lib.hid (ifT hc45 HL1.out)
                  have HK46 := Lib.hid hc45
                  try go_wp2_with fail
                  try clear hc45
                  obtain ⟨y47, hy48, hm⟩ := obind HL1.out
                  replace HL1 := Lib.hid hm; clear hm
                  obtain ⟨b49, o50, ea51, _, f52, f53, f54, f55⟩ := ReadsL.ix (rdL HD.out HR1.out) hy48
                  cases ea51
                  try simp only [Nat.zero_add, Nat.add_zero, Int.toNat_natCast, Int.toNat_zero, Int.toNat_one] at f54 f55
                  have HY56 := Lib.hid hy48; clear hy48
                  obtain ⟨A59, cap60, he, _⟩ := HP.open_I HOA.out (List.Mem.head _)
                  subst he
                  obtain ⟨y57, hy58, hm⟩ := obind HL1.out
                  replace HL1 := Lib.hid hm; clear hm
                  obtain ⟨b61, o62, ea63, _, f64, f65, f66⟩ := ReadsI.ix (HP.rd_I HOA.out (List.Mem.head _)) hy58
                  cases ea63
                  try simp only [Nat.zero_add, Nat.add_zero, Int.toNat_natCast, Int.toNat_zero, Int.toNat_one] at f66
                  try rw [← HP.len_I HOA.out (List.Mem.head _)] at f65
                  have HY68 := Lib.hid hy58; clear hy58
                  obtain ⟨y69, hy70, hm⟩ := obind HL1.out
                  replace HL1 := Lib.hid hm; clear hm
                  obtain rfl := Option.some.inj (HY56.out.symm.trans hy70)
                  clear hy70
                  obtain ⟨y71, hy72, hm⟩ := obind HL1.out
                  replace HL1 := Lib.hid hm; clear hm
                  obtain ⟨b73, o74, ea75, _, f76, f77, f78⟩ := ReadsI.ix (HP.rd_I HOA.out (List.Mem.head _)) hy72
                  cases ea75
                  try simp only [Nat.zero_add, Nat.add_zero, Int.toNat_natCast, Int.toNat_zero, Int.toNat_one] at f78
                  try rw [← HP.len_I HOA.out (List.Mem.head _)] at f77
                  have HY80 := Lib.hid hy72; clear hy72
                  rcases Bool.eq_false_or_eq_true (y57 == y71) with hc81 | hc81
                  · replace HL1 := Lib.hid (ifT hc81 HL1.out)
                    have HK82 := Lib.hid hc81
                    go_quiet (fail)
                    generalize hW : World.drewN W44 _ = W83
                    have hd : Dr W44 W83 := ⟨_, hW.symm⟩
                    clear hW
                    try clear f52 f53 f54 f55 f64 f65 f66 f76 f77 f78 hc81
                    replace HOA := Lib.hid (HOA.out.below (hd.below _))
                    replace HD := Lib.hid (HD.out.trans ((hd.below _).mono HD.out.size))
                    replace HW1 := Lib.hid (HW1.out.trans ((hd.below _).mono HW1.out.size))
                    clear hd
                    obtain rfl := Option.some.inj HL1.out
                    have hm := HM.out; try dsimp only at hm
                    replace HM := Lib.hid hm; clear hm
                    obtain rfl := Option.some.inj HM.out
                    go_wp2_with fail
                    go_ret
                    exact ⟨rfl, HD.out⟩
                  · replace HL1 := Lib.hid (ifF (bF hc81) HL1.out)
                    have HK82 := Lib.hid hc81
                    go_quiet (fail)
                    generalize hW : World.drewN W44 _ = W84
                    have hd : Dr W44 W84 := ⟨_, hW.symm⟩
                    clear hW
                    try clear f52 f53 f54 f55 f64 f65 f66 f76 f77 f78 hc81
                    replace HOA := Lib.hid (HOA.out.below (hd.below _))
                    replace HD := Lib.hid (HD.out.trans ((hd.below _).mono HD.out.size))
                    replace HW1 := Lib.hid (HW1.out.trans ((hd.below _).mono HW1.out.size))
                    clear hd
                    go_wp2_with fail
                    go_roundg g1
                    case measure => omega
                    case rel => exact ⟨(wrap64 (x42 + 1)), rfl, HW1, HL1⟩
                · replace HL1 := Lib.hid (ifF hc45 HL1.out)
                  have hc45d := decide_eq_false hc45
                  have HK46 := Lib.hid hc45
                  obtain rfl := Option.some.inj HL1.out
                  have hm := HM.out; try dsimp only at hm
                  replace HM := Lib.hid hm; clear hm
                  go_wp2_with fail
                  try clear hc45 hc45d
                  obtain ⟨o85, ho, hm⟩ := obind HM.out
                  replace HM := Lib.hid hm; have HL2 := Lib.hid ho; clear hm ho
                  go_loopg [12, 13] F (fun gg ux88 ux89 wr => ∃ (x86 : Int) (x87 : Int), ux88 = .int .i64 x86 ∧ ux89 = .int .i64 x87 ∧ Hid (Below W44.heap.size W44 wr) ∧ Hid (L3_ColorBy_L2 F (v0) (v1) gg x86 x87 = some o85))
                  case atStart => exact ⟨0, 0, rfl, rfl, (Lib.hid (Below.refl _ _)), HL2⟩
                  case round =>
                    obtain ⟨x86, x87, rfl, rfl, HW2, HL2⟩ := hrel
                    rename World => W90
                    have hd := HW2.out
                    replace HOA := Lib.hid (HOA.out.below hd)
                    replace HD := Lib.hid (HD.out.trans (hd.mono HD.out.size))
                    clear hd
                    cases gk with
                    | zero => exact absurd ((L3_ColorBy_L2_0 ..).symm.trans HL2.out) (by intro h; cases h)
                    | succ g2 =>
                      replace HL2 := Lib.hid ((L3_ColorBy_L2_s ..).symm.trans HL2.out)
                      by_cases hc91 : x87 < v0
                      · replace HL2 := Lib.hid (ifT hc91 HL2.out)
                        have HK92 := Lib.hid hc91
                        obtain ⟨y95, hy93, hm⟩ := obind HL2.out
                        replace HL2 := Lib.hid hm; clear hm
                        have HC94 := R1_Near_ok W90 cap1 (rdL HD.out HR1.out) hy93
                        clear hy93
                        replace HC94 := Lib.hid HC94
                        go_wp2_with fail
                        refine HC94.out.mono ?_; rintro e W96 ⟨V97, rfl, ho, hd⟩
                        try clear hc91
                        replace HOA := Lib.hid (HOA.out.call hd HD.out.size ho); clear ho
                        replace HD := Lib.hid (HD.out.trans (hd.mono HD.out.size))
                        replace HW2 := Lib.hid (HW2.out.trans (hd.mono HW2.out.size))
                        clear hd
                        obtain ⟨A99, cap100, he, _⟩ := HP.open_I HOA.out (List.Mem.head _)
                        subst he
                        by_cases hc101 : x86 < ((y95).length : Int)
                        · replace HL2 := Lib.hid (ifT hc101 HL2.out)
                          have HK102 := Lib.hid hc101
                          obtain ⟨y105, hy103, hm⟩ := obind HL2.out
                          replace HL2 := Lib.hid hm; clear hm
                          have HC104 := R1_Near_ok W96 cap1 (rdL HD.out HR1.out) hy103
                          clear hy103
                          replace HC104 := Lib.hid HC104
                          go_wp2_with fail
                          refine HC104.out.mono ?_; rintro e W106 ⟨V107, rfl, ho, hd⟩
                          try clear hc101
                          replace HOA := Lib.hid (HOA.out.call hd HD.out.size ho); clear ho
                          replace HD := Lib.hid (HD.out.trans (hd.mono HD.out.size))
                          replace HW2 := Lib.hid (HW2.out.trans (hd.mono HW2.out.size))
                          clear hd
                          obtain ⟨A109, cap110, he, _⟩ := HP.open_I HOA.out (List.Mem.head _)
                          subst he
                          go_wp2_with fail
                          go_roundg g2
                          case measure => omega
                          case rel => exact ⟨((y105).length : Int), (wrap64 (x87 + 1)), rfl, rfl, HW2, HL2⟩
                        · replace HL2 := Lib.hid (ifF hc101 HL2.out)
                          have hc101d := decide_eq_false hc101
                          have HK102 := Lib.hid hc101
                          go_wp2_with fail
                          try clear hc101 hc101d
                          go_roundg g2
                          case measure => omega
                          case rel => exact ⟨x86, (wrap64 (x87 + 1)), rfl, rfl, HW2, HL2⟩
                      · replace HL2 := Lib.hid (ifF hc91 HL2.out)
                        have hc91d := decide_eq_false hc91
                        have HK92 := Lib.hid hc91
                        obtain rfl := Option.some.inj HL2.out
                        have hm := HM.out; try dsimp only at hm
                        replace HM := Lib.hid hm; clear hm
                        obtain ⟨y113, hy111, hm⟩ := obind HM.out
                        replace HM := Lib.hid hm; clear hm
                        obtain ⟨A114, cap115, he, _⟩ := HP.open_I HOA.out (List.Mem.head _)
                        subst he
                        have HC112 := R3_Most_ok W90 cap115 (HP.rd_I HOA.out (List.Mem.head _)) hy111
                        clear hy111
                        replace HC112 := Lib.hid HC112
                        obtain ⟨b116, hb, hm⟩ := obind HM.out
                        replace HM := Lib.hid hm; have HB117 := Lib.hid hb; clear hm hb
                        obtain ⟨b118, hb, hm⟩ := obind HB117.out
                        replace HB117 := Lib.hid hm; have HB119 := Lib.hid hb; clear hm hb
                        obtain ⟨y122, hy120, hm⟩ := obind HB119.out
                        replace HB119 := Lib.hid hm; clear hm
                        have HC121 := R1_All_ok W90 cap115 (HP.rd_I HOA.out (List.Mem.head _)) hy120
                        clear hy120
                        replace HC121 := Lib.hid HC121
                        cases y122
                        · replace HB119 := Lib.hid (ifF Bool.false_ne_true HB119.out)
                          obtain rfl := Option.some.inj HB119.out
                          replace HB117 := Lib.hid (ifF (by first | exact Bool.false_ne_true | exact not_false) HB117.out)
                          obtain rfl := Option.some.inj HB117.out
                          obtain rfl := Option.some.inj HM.out
                          go_wp2_with fail
                          refine HC112.out.mono ?_; rintro e w' ⟨rfl, rfl⟩
                          go_wp2_with fail
                          refine HC121.out.mono ?_; rintro e w' ⟨rfl, rfl⟩
                          go_wp2_with fail
                          go_ret
                          exact ⟨(by first | rfl | (refine congrArg (fun b => Ending.returned (Value.bool b)) ?_; first | (exact decide_eq_true (by omega)) | (exact decide_eq_false (by omega)) | (have q := hc91; rw [bne_iff_ne] at q ⊢; omega) | (have q := hc91; rw [bne_eq_false_iff_eq] at q ⊢; omega) | (have q := hc91; rw [beq_iff_eq] at q ⊢; omega) | (have q := hc91; rw [beq_eq_false_iff_ne] at q ⊢; omega) | (have q := hc91d; rw [bne_iff_ne] at q ⊢; omega) | (have q := hc91d; rw [bne_eq_false_iff_eq] at q ⊢; omega) | (have q := hc91d; rw [beq_iff_eq] at q ⊢; omega) | (have q := hc91d; rw [beq_eq_false_iff_ne] at q ⊢; omega))), HD.out⟩
                        · replace HB119 := Lib.hid (ifT rfl HB119.out)
                          by_cases hc123 : y19 ≤ (wrap64 (y113 + 1))
                          · replace HB119 := Lib.hid (ifT hc123 HB119.out)
                            have HK124 := Lib.hid hc123
                            obtain rfl := Option.some.inj HB119.out
                            replace HB117 := Lib.hid (ifT (by first | rfl | trivial) HB117.out)
                            by_cases hc125 : (wrap64 (y113 + 1)) ≤ (wrap64 (x86 + 1))
                            · replace HB117 := Lib.hid (ifT hc125 HB117.out)
                              have HK126 := Lib.hid hc125
                              obtain rfl := Option.some.inj HB117.out
                              obtain rfl := Option.some.inj HM.out
                              go_wp2_with fail
                              refine HC112.out.mono ?_; rintro e w' ⟨rfl, rfl⟩
                              go_wp2_with fail
                              refine HC121.out.mono ?_; rintro e w' ⟨rfl, rfl⟩
                              go_wp2_with fail
                              go_ret
                              exact ⟨(by first | rfl | (refine congrArg (fun b => Ending.returned (Value.bool b)) ?_; first | (exact decide_eq_true (by omega)) | (exact decide_eq_false (by omega)) | (have q := hc123; rw [bne_iff_ne] at q ⊢; omega) | (have q := hc123; rw [bne_eq_false_iff_eq] at q ⊢; omega) | (have q := hc123; rw [beq_iff_eq] at q ⊢; omega) | (have q := hc123; rw [beq_eq_false_iff_ne] at q ⊢; omega) | (have q := hc125; rw [bne_iff_ne] at q ⊢; omega) | (have q := hc125; rw [bne_eq_false_iff_eq] at q ⊢; omega) | (have q := hc125; rw [beq_iff_eq] at q ⊢; omega) | (have q := hc125; rw [beq_eq_false_iff_ne] at q ⊢; omega))), HD.out⟩
                            · replace HB117 := Lib.hid (ifF hc125 HB117.out)
                              have hc125d := decide_eq_false hc125
                              have HK126 := Lib.hid hc125
                              obtain rfl := Option.some.inj HB117.out
                              obtain rfl := Option.some.inj HM.out
                              go_wp2_with fail
                              refine HC112.out.mono ?_; rintro e w' ⟨rfl, rfl⟩
                              go_wp2_with fail
                              refine HC121.out.mono ?_; rintro e w' ⟨rfl, rfl⟩
                              go_wp2_with fail
                              go_ret
                              exact ⟨(by first | rfl | (refine congrArg (fun b => Ending.returned (Value.bool b)) ?_; first | (exact decide_eq_true (by omega)) | (exact decide_eq_false (by omega)) | (have q := hc125; rw [bne_iff_ne] at q ⊢; omega) | (have q := hc125; rw [bne_eq_false_iff_eq] at q ⊢; omega) | (have q := hc125; rw [beq_iff_eq] at q ⊢; omega) | (have q := hc125; rw [beq_eq_false_iff_ne] at q ⊢; omega) | (have q := hc125d; rw [bne_iff_ne] at q ⊢; omega) | (have q := hc125d; rw [bne_eq_false_iff_eq] at q ⊢; omega) | (have q := hc125d; rw [beq_iff_eq] at q ⊢; omega) | (have q := hc125d; rw [beq_eq_false_iff_ne] at q ⊢; omega))), HD.out⟩
                          · replace HB119 := Lib.hid (ifF hc123 HB119.out)
                            have hc123d := decide_eq_false hc123
                            have HK124 := Lib.hid hc123
                            obtain rfl := Option.some.inj HB119.out
                            replace HB117 := Lib.hid (ifF (by first | exact Bool.false_ne_true | exact not_false) HB117.out)
                            obtain rfl := Option.some.inj HB117.out
                            obtain rfl := Option.some.inj HM.out
                            go_wp2_with fail
                            refine HC112.out.mono ?_; rintro e w' ⟨rfl, rfl⟩
                            go_wp2_with fail
                            refine HC121.out.mono ?_; rintro e w' ⟨rfl, rfl⟩
                            go_wp2_with fail
                            go_ret
                            exact ⟨(by first | rfl | (refine congrArg (fun b => Ending.returned (Value.bool b)) ?_; first | (exact decide_eq_true (by omega)) | (exact decide_eq_false (by omega)) | (have q := hc123; rw [bne_iff_ne] at q ⊢; omega) | (have q := hc123; rw [bne_eq_false_iff_eq] at q ⊢; omega) | (have q := hc123; rw [beq_iff_eq] at q ⊢; omega) | (have q := hc123; rw [beq_eq_false_iff_ne] at q ⊢; omega) | (have q := hc123d; rw [bne_iff_ne] at q ⊢; omega) | (have q := hc123d; rw [bne_eq_false_iff_eq] at q ⊢; omega) | (have q := hc123d; rw [beq_iff_eq] at q ⊢; omega) | (have q := hc123d; rw [beq_eq_false_iff_ne] at q ⊢; omega))), HD.out⟩
          · replace HM := Lib.hid (ifT rfl HM.out)
            obtain rfl := Option.some.inj HM.out
            go_wp2_with fail
            go_ret
            exact ⟨rfl, HD.out⟩
      · rw [errV_pos _ hz21] at HC18; replace HC18 := Lib.hid HC18
        go_wp2_with fail
        refine HC18.out.mono ?_; rintro e W23 ⟨rfl, hd⟩
        replace HOA := Lib.hid (HOA.out.below hd)
        replace HD := Lib.hid (HD.out.trans (hd.mono HD.out.size))
        clear hd
        have HZ24 := Lib.hid hz21; clear hz21
        go_upto_region 8 with (fail)
        obtain ⟨b127, hb, hm⟩ := obind HM.out
        replace HM := Lib.hid hm; have HB128 := Lib.hid hb; clear hm hb
        go_cut [49] (fun uq wr => uq = .bool b127 ∧ Hid (Below W23.heap.size W23 wr))
        case first =>
          have HWC129 := Lib.hid (Below.refl W23.heap.size W23)
          obtain ⟨b130, hb, hm⟩ := obind HB128.out
          replace HB128 := Lib.hid hm; have HB131 := Lib.hid hb; clear hm hb
          replace HB131 := Lib.hid (ifT (bne_iff_ne.2 HZ24.out) HB131.out)
          obtain rfl := Option.some.inj HB131.out
          replace HB128 := Lib.hid (ifT (by first | rfl | trivial) HB128.out)
          cases Option.some.inj HB128.out
          try go_wp2_with fail
          go_meet
          case rel => exact ⟨rfl, HWC129⟩
        case rest =>
          obtain ⟨rfl, HWC129⟩ := hcut
          rename World => W132
          have hd := HWC129.out
          replace HOA := Lib.hid (HOA.out.below hd)
          replace HD := Lib.hid (HD.out.trans (hd.mono HD.out.size))
          clear hd
          cases b127
          · replace HM := Lib.hid (ifF Bool.false_ne_true HM.out)
            go_wp2_with fail
            obtain ⟨o133, ho, hm⟩ := obind HM.out
            replace HM := Lib.hid hm; have HL1 := Lib.hid ho; clear hm ho
            go_loopg [11] F (fun gg ux135 wr => ∃ (x134 : Int), ux135 = .int .i64 x134 ∧ Hid (Below W132.heap.size W132 wr) ∧ Hid (L3_ColorBy_L1 F (v1) (y7) gg x134 = some o133))
            case atStart => exact ⟨0, rfl, (Lib.hid (Below.refl _ _)), HL1⟩
            case round =>
              obtain ⟨x134, rfl, HW1, HL1⟩ := hrel
              rename World => W136
              have hd := HW1.out
              replace HOA := Lib.hid (HOA.out.below hd)
              replace HD := Lib.hid (HD.out.trans (hd.mono HD.out.size))
              clear hd
              cases gk with
              | zero => exact absurd ((L3_ColorBy_L1_0 ..).symm.trans HL1.out) (by intro h; cases h)
              | succ g1 =>
                replace HL1 := Lib.hid ((L3_ColorBy_L1_s ..).symm.trans HL1.out)
                by_cases hc137 : x134 < ((v1).length : Int)
                · replace HL1 := Lib.hid (ifT hc137 HL1.out)
                  have HK138 := Lib.hid hc137
                  try go_wp2_with fail
                  try clear hc137
                  obtain ⟨y139, hy140, hm⟩ := obind HL1.out
                  replace HL1 := Lib.hid hm; clear hm
                  obtain ⟨b141, o142, ea143, _, f144, f145, f146, f147⟩ := ReadsL.ix (rdL HD.out HR1.out) hy140
                  cases ea143
                  try simp only [Nat.zero_add, Nat.add_zero, Int.toNat_natCast, Int.toNat_zero, Int.toNat_one] at f146 f147
                  have HY148 := Lib.hid hy140; clear hy140
                  obtain ⟨A151, cap152, he, _⟩ := HP.open_I HOA.out (List.Mem.head _)
                  subst he
                  obtain ⟨y149, hy150, hm⟩ := obind HL1.out
                  replace HL1 := Lib.hid hm; clear hm
                  obtain ⟨b153, o154, ea155, _, f156, f157, f158⟩ := ReadsI.ix (HP.rd_I HOA.out (List.Mem.head _)) hy150
                  cases ea155
                  try simp only [Nat.zero_add, Nat.add_zero, Int.toNat_natCast, Int.toNat_zero, Int.toNat_one] at f158
                  try rw [← HP.len_I HOA.out (List.Mem.head _)] at f157
                  have HY160 := Lib.hid hy150; clear hy150
                  obtain ⟨y161, hy162, hm⟩ := obind HL1.out
                  replace HL1 := Lib.hid hm; clear hm
                  obtain rfl := Option.some.inj (HY148.out.symm.trans hy162)
                  clear hy162
                  obtain ⟨y163, hy164, hm⟩ := obind HL1.out
                  replace HL1 := Lib.hid hm; clear hm
                  obtain ⟨b165, o166, ea167, _, f168, f169, f170⟩ := ReadsI.ix (HP.rd_I HOA.out (List.Mem.head _)) hy164
                  cases ea167
                  try simp only [Nat.zero_add, Nat.add_zero, Int.toNat_natCast, Int.toNat_zero, Int.toNat_one] at f170
                  try rw [← HP.len_I HOA.out (List.Mem.head _)] at f169
                  have HY172 := Lib.hid hy164; clear hy164
                  rcases Bool.eq_false_or_eq_true (y149 == y163) with hc173 | hc173
                  · replace HL1 := Lib.hid (ifT hc173 HL1.out)
                    have HK174 := Lib.hid hc173
                    go_quiet (fail)
                    generalize hW : World.drewN W136 _ = W175
                    have hd : Dr W136 W175 := ⟨_, hW.symm⟩
                    clear hW
                    try clear f144 f145 f146 f147 f156 f157 f158 f168 f169 f170 hc173
                    replace HOA := Lib.hid (HOA.out.below (hd.below _))
                    replace HD := Lib.hid (HD.out.trans ((hd.below _).mono HD.out.size))
                    replace HW1 := Lib.hid (HW1.out.trans ((hd.below _).mono HW1.out.size))
                    clear hd
                    obtain rfl := Option.some.inj HL1.out
                    have hm := HM.out; try dsimp only at hm
                    replace HM := Lib.hid hm; clear hm
                    obtain rfl := Option.some.inj HM.out
                    go_wp2_with fail
                    go_ret
                    exact ⟨rfl, HD.out⟩
                  · replace HL1 := Lib.hid (ifF (bF hc173) HL1.out)
                    have HK174 := Lib.hid hc173
                    go_quiet (fail)
                    generalize hW : World.drewN W136 _ = W176
                    have hd : Dr W136 W176 := ⟨_, hW.symm⟩
                    clear hW
                    try clear f144 f145 f146 f147 f156 f157 f158 f168 f169 f170 hc173
                    replace HOA := Lib.hid (HOA.out.below (hd.below _))
                    replace HD := Lib.hid (HD.out.trans ((hd.below _).mono HD.out.size))
                    replace HW1 := Lib.hid (HW1.out.trans ((hd.below _).mono HW1.out.size))
                    clear hd
                    go_wp2_with fail
                    go_roundg g1
                    case measure => omega
                    case rel => exact ⟨(wrap64 (x134 + 1)), rfl, HW1, HL1⟩
                · replace HL1 := Lib.hid (ifF hc137 HL1.out)
                  have hc137d := decide_eq_false hc137
                  have HK138 := Lib.hid hc137
                  obtain rfl := Option.some.inj HL1.out
                  have hm := HM.out; try dsimp only at hm
                  replace HM := Lib.hid hm; clear hm
                  go_wp2_with fail
                  try clear hc137 hc137d
                  obtain ⟨o177, ho, hm⟩ := obind HM.out
                  replace HM := Lib.hid hm; have HL2 := Lib.hid ho; clear hm ho
                  go_loopg [12, 13] F (fun gg ux180 ux181 wr => ∃ (x178 : Int) (x179 : Int), ux180 = .int .i64 x178 ∧ ux181 = .int .i64 x179 ∧ Hid (Below W136.heap.size W136 wr) ∧ Hid (L3_ColorBy_L2 F (v0) (v1) gg x178 x179 = some o177))
                  case atStart => exact ⟨0, 0, rfl, rfl, (Lib.hid (Below.refl _ _)), HL2⟩
                  case round =>
                    obtain ⟨x178, x179, rfl, rfl, HW2, HL2⟩ := hrel
                    rename World => W182
                    have hd := HW2.out
                    replace HOA := Lib.hid (HOA.out.below hd)
                    replace HD := Lib.hid (HD.out.trans (hd.mono HD.out.size))
                    clear hd
                    cases gk with
                    | zero => exact absurd ((L3_ColorBy_L2_0 ..).symm.trans HL2.out) (by intro h; cases h)
                    | succ g2 =>
                      replace HL2 := Lib.hid ((L3_ColorBy_L2_s ..).symm.trans HL2.out)
                      by_cases hc183 : x179 < v0
                      · replace HL2 := Lib.hid (ifT hc183 HL2.out)
                        have HK184 := Lib.hid hc183
                        obtain ⟨y187, hy185, hm⟩ := obind HL2.out
                        replace HL2 := Lib.hid hm; clear hm
                        have HC186 := R1_Near_ok W182 cap1 (rdL HD.out HR1.out) hy185
                        clear hy185
                        replace HC186 := Lib.hid HC186
                        go_wp2_with fail
                        refine HC186.out.mono ?_; rintro e W188 ⟨V189, rfl, ho, hd⟩
                        try clear hc183
                        replace HOA := Lib.hid (HOA.out.call hd HD.out.size ho); clear ho
                        replace HD := Lib.hid (HD.out.trans (hd.mono HD.out.size))
                        replace HW2 := Lib.hid (HW2.out.trans (hd.mono HW2.out.size))
                        clear hd
                        obtain ⟨A191, cap192, he, _⟩ := HP.open_I HOA.out (List.Mem.head _)
                        subst he
                        by_cases hc193 : x178 < ((y187).length : Int)
                        · replace HL2 := Lib.hid (ifT hc193 HL2.out)
                          have HK194 := Lib.hid hc193
                          obtain ⟨y197, hy195, hm⟩ := obind HL2.out
                          replace HL2 := Lib.hid hm; clear hm
                          have HC196 := R1_Near_ok W188 cap1 (rdL HD.out HR1.out) hy195
                          clear hy195
                          replace HC196 := Lib.hid HC196
                          go_wp2_with fail
                          refine HC196.out.mono ?_; rintro e W198 ⟨V199, rfl, ho, hd⟩
                          try clear hc193
                          replace HOA := Lib.hid (HOA.out.call hd HD.out.size ho); clear ho
                          replace HD := Lib.hid (HD.out.trans (hd.mono HD.out.size))
                          replace HW2 := Lib.hid (HW2.out.trans (hd.mono HW2.out.size))
                          clear hd
                          obtain ⟨A201, cap202, he, _⟩ := HP.open_I HOA.out (List.Mem.head _)
                          subst he
                          go_wp2_with fail
                          go_roundg g2
                          case measure => omega
                          case rel => exact ⟨((y197).length : Int), (wrap64 (x179 + 1)), rfl, rfl, HW2, HL2⟩
                        · replace HL2 := Lib.hid (ifF hc193 HL2.out)
                          have hc193d := decide_eq_false hc193
                          have HK194 := Lib.hid hc193
                          go_wp2_with fail
                          try clear hc193 hc193d
                          go_roundg g2
                          case measure => omega
                          case rel => exact ⟨x178, (wrap64 (x179 + 1)), rfl, rfl, HW2, HL2⟩
                      · replace HL2 := Lib.hid (ifF hc183 HL2.out)
                        have hc183d := decide_eq_false hc183
                        have HK184 := Lib.hid hc183
                        obtain rfl := Option.some.inj HL2.out
                        have hm := HM.out; try dsimp only at hm
                        replace HM := Lib.hid hm; clear hm
                        obtain ⟨y205, hy203, hm⟩ := obind HM.out
                        replace HM := Lib.hid hm; clear hm
                        obtain ⟨A206, cap207, he, _⟩ := HP.open_I HOA.out (List.Mem.head _)
                        subst he
                        have HC204 := R3_Most_ok W182 cap207 (HP.rd_I HOA.out (List.Mem.head _)) hy203
                        clear hy203
                        replace HC204 := Lib.hid HC204
                        obtain ⟨b208, hb, hm⟩ := obind HM.out
                        replace HM := Lib.hid hm; have HB209 := Lib.hid hb; clear hm hb
                        obtain ⟨b210, hb, hm⟩ := obind HB209.out
                        replace HB209 := Lib.hid hm; have HB211 := Lib.hid hb; clear hm hb
                        obtain ⟨y214, hy212, hm⟩ := obind HB211.out
                        replace HB211 := Lib.hid hm; clear hm
                        have HC213 := R1_All_ok W182 cap207 (HP.rd_I HOA.out (List.Mem.head _)) hy212
                        clear hy212
                        replace HC213 := Lib.hid HC213
                        cases y214
                        · replace HB211 := Lib.hid (ifF Bool.false_ne_true HB211.out)
                          obtain rfl := Option.some.inj HB211.out
                          replace HB209 := Lib.hid (ifF (by first | exact Bool.false_ne_true | exact not_false) HB209.out)
                          obtain rfl := Option.some.inj HB209.out
                          obtain rfl := Option.some.inj HM.out
                          go_wp2_with fail
                          refine HC204.out.mono ?_; rintro e w' ⟨rfl, rfl⟩
                          go_wp2_with fail
                          refine HC213.out.mono ?_; rintro e w' ⟨rfl, rfl⟩
                          go_wp2_with fail
                          go_ret
                          exact ⟨(by first | rfl | (refine congrArg (fun b => Ending.returned (Value.bool b)) ?_; first | (exact decide_eq_true (by omega)) | (exact decide_eq_false (by omega)) | (have q := hc183; rw [bne_iff_ne] at q ⊢; omega) | (have q := hc183; rw [bne_eq_false_iff_eq] at q ⊢; omega) | (have q := hc183; rw [beq_iff_eq] at q ⊢; omega) | (have q := hc183; rw [beq_eq_false_iff_ne] at q ⊢; omega) | (have q := hc183d; rw [bne_iff_ne] at q ⊢; omega) | (have q := hc183d; rw [bne_eq_false_iff_eq] at q ⊢; omega) | (have q := hc183d; rw [beq_iff_eq] at q ⊢; omega) | (have q := hc183d; rw [beq_eq_false_iff_ne] at q ⊢; omega))), HD.out⟩
                        · replace HB211 := Lib.hid (ifT rfl HB211.out)
                          by_cases hc215 : y19 ≤ (wrap64 (y205 + 1))
                          · replace HB211 := Lib.hid (ifT hc215 HB211.out)
                            have HK216 := Lib.hid hc215
                            obtain rfl := Option.some.inj HB211.out
                            replace HB209 := Lib.hid (ifT (by first | rfl | trivial) HB209.out)
                            by_cases hc217 : (wrap64 (y205 + 1)) ≤ (wrap64 (x178 + 1))
                            · replace HB209 := Lib.hid (ifT hc217 HB209.out)
                              have HK218 := Lib.hid hc217
                              obtain rfl := Option.some.inj HB209.out
                              obtain rfl := Option.some.inj HM.out
                              go_wp2_with fail
                              refine HC204.out.mono ?_; rintro e w' ⟨rfl, rfl⟩
                              go_wp2_with fail
                              refine HC213.out.mono ?_; rintro e w' ⟨rfl, rfl⟩
                              go_wp2_with fail
                              go_ret
                              exact ⟨(by first | rfl | (refine congrArg (fun b => Ending.returned (Value.bool b)) ?_; first | (exact decide_eq_true (by omega)) | (exact decide_eq_false (by omega)) | (have q := hc215; rw [bne_iff_ne] at q ⊢; omega) | (have q := hc215; rw [bne_eq_false_iff_eq] at q ⊢; omega) | (have q := hc215; rw [beq_iff_eq] at q ⊢; omega) | (have q := hc215; rw [beq_eq_false_iff_ne] at q ⊢; omega) | (have q := hc217; rw [bne_iff_ne] at q ⊢; omega) | (have q := hc217; rw [bne_eq_false_iff_eq] at q ⊢; omega) | (have q := hc217; rw [beq_iff_eq] at q ⊢; omega) | (have q := hc217; rw [beq_eq_false_iff_ne] at q ⊢; omega))), HD.out⟩
                            · replace HB209 := Lib.hid (ifF hc217 HB209.out)
                              have hc217d := decide_eq_false hc217
                              have HK218 := Lib.hid hc217
                              obtain rfl := Option.some.inj HB209.out
                              obtain rfl := Option.some.inj HM.out
                              go_wp2_with fail
                              refine HC204.out.mono ?_; rintro e w' ⟨rfl, rfl⟩
                              go_wp2_with fail
                              refine HC213.out.mono ?_; rintro e w' ⟨rfl, rfl⟩
                              go_wp2_with fail
                              go_ret
                              exact ⟨(by first | rfl | (refine congrArg (fun b => Ending.returned (Value.bool b)) ?_; first | (exact decide_eq_true (by omega)) | (exact decide_eq_false (by omega)) | (have q := hc217; rw [bne_iff_ne] at q ⊢; omega) | (have q := hc217; rw [bne_eq_false_iff_eq] at q ⊢; omega) | (have q := hc217; rw [beq_iff_eq] at q ⊢; omega) | (have q := hc217; rw [beq_eq_false_iff_ne] at q ⊢; omega) | (have q := hc217d; rw [bne_iff_ne] at q ⊢; omega) | (have q := hc217d; rw [bne_eq_false_iff_eq] at q ⊢; omega) | (have q := hc217d; rw [beq_iff_eq] at q ⊢; omega) | (have q := hc217d; rw [beq_eq_false_iff_ne] at q ⊢; omega))), HD.out⟩
                          · replace HB211 := Lib.hid (ifF hc215 HB211.out)
                            have hc215d := decide_eq_false hc215
                            have HK216 := Lib.hid hc215
                            obtain rfl := Option.some.inj HB211.out
                            replace HB209 := Lib.hid (ifF (by first | exact Bool.false_ne_true | exact not_false) HB209.out)
                            obtain rfl := Option.some.inj HB209.out
                            obtain rfl := Option.some.inj HM.out
                            go_wp2_with fail
                            refine HC204.out.mono ?_; rintro e w' ⟨rfl, rfl⟩
                            go_wp2_with fail
                            refine HC213.out.mono ?_; rintro e w' ⟨rfl, rfl⟩
                            go_wp2_with fail
                            go_ret
                            exact ⟨(by first | rfl | (refine congrArg (fun b => Ending.returned (Value.bool b)) ?_; first | (exact decide_eq_true (by omega)) | (exact decide_eq_false (by omega)) | (have q := hc215; rw [bne_iff_ne] at q ⊢; omega) | (have q := hc215; rw [bne_eq_false_iff_eq] at q ⊢; omega) | (have q := hc215; rw [beq_iff_eq] at q ⊢; omega) | (have q := hc215; rw [beq_eq_false_iff_ne] at q ⊢; omega) | (have q := hc215d; rw [bne_iff_ne] at q ⊢; omega) | (have q := hc215d; rw [bne_eq_false_iff_eq] at q ⊢; omega) | (have q := hc215d; rw [beq_iff_eq] at q ⊢; omega) | (have q := hc215d; rw [beq_eq_false_iff_ne] at q ⊢; omega))), HD.out⟩
          · replace HM := Lib.hid (ifT rfl HM.out)
            obtain rfl := Option.some.inj HM.out
            go_wp2_with fail
            go_ret
            exact ⟨rfl, HD.out⟩
    · rw [errV_pos _ hz9] at HC6; replace HC6 := Lib.hid HC6
      go_wp2_with fail
      refine HC6.out.mono ?_; rintro e W13 ⟨V14, rfl, ho, hd⟩
      replace HOA := Lib.hid (HOA.out.call hd HD.out.size ho); clear ho
      replace HD := Lib.hid (HD.out.trans (hd.mono HD.out.size))
      clear hd
      have HZ16 := Lib.hid hz9; clear hz9
      replace HM := Lib.hid (ifT (bne_iff_ne.2 HZ16.out) HM.out)
      obtain ⟨b219, hb, hm⟩ := obind HM.out
      replace HM := Lib.hid hm; have HB220 := Lib.hid hb; clear hm hb
      obtain ⟨A221, cap222, he, _⟩ := HP.open_I HOA.out (List.Mem.head _)
      subst he
      rcases Bool.eq_false_or_eq_true (((y7).length : Int) == 0) with hc223 | hc223
      · replace HB220 := Lib.hid (ifT hc223 HB220.out)
        have HK224 := Lib.hid hc223
        obtain rfl := Option.some.inj HB220.out
        obtain rfl := Option.some.inj HM.out
        go_wp2_with fail
        go_ret
        exact ⟨(by first | rfl | (refine congrArg (fun b => Ending.returned (Value.bool b)) ?_; first | (exact decide_eq_true (by omega)) | (exact decide_eq_false (by omega)) | (have q := hc223; rw [bne_iff_ne] at q ⊢; omega) | (have q := hc223; rw [bne_eq_false_iff_eq] at q ⊢; omega) | (have q := hc223; rw [beq_iff_eq] at q ⊢; omega) | (have q := hc223; rw [beq_eq_false_iff_ne] at q ⊢; omega))), HD.out⟩
      · replace HB220 := Lib.hid (ifF (bF hc223) HB220.out)
        have HK224 := Lib.hid hc223
        obtain rfl := Option.some.inj HB220.out
        obtain rfl := Option.some.inj HM.out
        go_wp2_with fail
        go_ret
        exact ⟨(by first | rfl | (refine congrArg (fun b => Ending.returned (Value.bool b)) ?_; first | (exact decide_eq_true (by omega)) | (exact decide_eq_false (by omega)) | (have q := hc223; rw [bne_iff_ne] at q ⊢; omega) | (have q := hc223; rw [bne_eq_false_iff_eq] at q ⊢; omega) | (have q := hc223; rw [beq_iff_eq] at q ⊢; omega) | (have q := hc223; rw [beq_eq_false_iff_ne] at q ⊢; omega))), HD.out⟩
end Go.Proofs.Ytlecmgdkoanghaa
