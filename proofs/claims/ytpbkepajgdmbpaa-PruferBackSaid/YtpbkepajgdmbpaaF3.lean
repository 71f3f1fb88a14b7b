import Derived.Test.YtpbkepajgdmbpaaF1
import Derived.Test.YtpbkepajgdmbpaaF2
import Derived.Test.YtpbkepajgdmbpaaGL
import Derived.Test.YtpbkepajgdmbpaaGF
import Derived.Test.YtpbkepajgdmbpaaBox
set_option linter.all false
set_option maxRecDepth 100000
namespace Go.Proofs.Ytpbkepajgdmbpaa
open Go.RowKit
attribute [local go_sem] Oper.semAt_some
def L3_pruferFact (F : Nat)  : Option (Bool) := (prufer_Write F (4) ([(0, 1), (1, 2), (2, 3)])).bind fun y1 => (prufer_Read F ([1, 2])).bind fun y2 => (((if (y1.2 == 0) = true then if (y2.2 == 0) = true then some true else some false else some false).bind fun b5 => if b5 = true then (SE_Ints F (y1.1) ([1, 2])).bind fun y6 => if y6 = true then some true else some false else some false).bind fun b4 => if b4 = true then (SE_Lines F (y2.1) ([(0, 1), (1, 2), (2, 3)])).bind fun y7 => if y7 = true then some true else some false else some false).bind fun b3 => some (b3)
set_option maxRecDepth 100000 in
set_option maxHeartbeats 4000000 in
theorem L3_pruferFact_ok {F : Nat}  {r : Bool} (w : World)  (h : L3_pruferFact F  = some r) :
    Calls Try.prog 5 #[] w fun e w' => e = .returned (.bool r) ∧ Below w.heap.size w w' := by
  have HD := Lib.hid (Below.refl w.heap.size w)
  have HOA := Lib.hid (HP.nil (W := w) (B := w.heap.size))
  unfold L3_pruferFact at h
  have HM := Lib.hid h; clear h
  go_enter Try.func5, Try.ntmps5
  have hd : Below w.heap.size w (World.alloc w (.cells #[Value.int .i64 (0), Value.int .i64 (1), Value.int .i64 (1), Value.int .i64 (2), Value.int .i64 (2), Value.int .i64 (3)] 35)) := (Below.refl _ _).alloc (Nat.le_refl _) _
  have ho : (owL (.slice (some ⟨w.heap.size, 0, none⟩) 3 3) [(0, 1), (1, 2), (2, 3)]).ok (World.alloc w (.cells #[Value.int .i64 (0), Value.int .i64 (1), Value.int .i64 (1), Value.int .i64 (2), Value.int .i64 (2), Value.int .i64 (3)] 35)) w.heap.size := litL_ok w [(0, 1), (1, 2), (2, 3)] (by unfold maxLen; simp)
  replace HOA := Lib.hid (HOA.out.call hd HD.out.size ho); clear ho
  replace HD := Lib.hid (HD.out.trans (hd.mono HD.out.size))
  clear hd
  obtain ⟨⟨y5, y6⟩, hy3, hm⟩ := obind HM.out
  dsimp only at hm
  replace HM := Lib.hid hm; clear hm
  have HC4 := prufer_Write_ok (World.alloc w (.cells #[Value.int .i64 (0), Value.int .i64 (1), Value.int .i64 (1), Value.int .i64 (2), Value.int .i64 (2), Value.int .i64 (3)] 35)) 3 (HP.rd_L HOA.out (List.Mem.head _)) hy3
  clear hy3
  try rw [← HP.len_L HOA.out (List.Mem.head _)] at HC4
  by_cases hz7 : y6 = 0
  · subst hz7
    rw [errV_zero] at HC4; replace HC4 := Lib.hid HC4
    go_wp2_with fail
    refine HC4.out.mono ?_; rintro e W8 ⟨V9, rfl, ho, hd⟩
    replace HOA := Lib.hid (HOA.out.call hd HD.out.size ho); clear ho
    replace HD := Lib.hid (HD.out.trans (hd.mono HD.out.size))
    clear hd
    have hd : Below W8.heap.size W8 (World.alloc W8 (.cells #[Value.int .i64 (1), Value.int .i64 (2)] 3)) := (Below.refl _ _).alloc (Nat.le_refl _) _
    have ho : (owI (.slice (some ⟨W8.heap.size, 0, none⟩) 2 2) [1, 2]).ok (World.alloc W8 (.cells #[Value.int .i64 (1), Value.int .i64 (2)] 3)) W8.heap.size := litI_ok W8 [1, 2] (by unfold maxLen; simp)
    replace HOA := Lib.hid (HOA.out.call hd HD.out.size ho); clear ho
    replace HD := Lib.hid (HD.out.trans (hd.mono HD.out.size))
    clear hd
    obtain ⟨⟨y19, y20⟩, hy17, hm⟩ := obind HM.out
    dsimp only at hm
    replace HM := Lib.hid hm; clear hm
    have HC18 := prufer_Read_ok (World.alloc W8 (.cells #[Value.int .i64 (1), Value.int .i64 (2)] 3)) 2 (HP.rd_I HOA.out (List.Mem.head _)) hy17
    clear hy17
    try rw [← HP.len_I HOA.out (List.Mem.head _)] at HC18
    by_cases hz21 : y20 = 0
    · subst hz21
      rw [errV_zero] at HC18; replace HC18 := Lib.hid HC18
      go_wp2_with fail
      refine HC18.out.mono ?_; rintro e W22 ⟨V23, rfl, ho, hd⟩
      replace HOA := Lib.hid (HOA.out.call hd HD.out.size ho); clear ho
      replace HD := Lib.hid (HD.out.trans (hd.mono HD.out.size))
      clear hd
      obtain ⟨b29, hb, hm⟩ := obind HM.out
      replace HM := Lib.hid hm; have HB30 := Lib.hid hb; clear hm hb
      obtain ⟨b31, hb, hm⟩ := obind HB30.out
      replace HB30 := Lib.hid hm; have HB32 := Lib.hid hb; clear hm hb
      obtain ⟨b33, hb, hm⟩ := obind HB32.out
      replace HB32 := Lib.hid hm; have HB34 := Lib.hid hb; clear hm hb
      replace HB34 := Lib.hid (ifT (by decide) HB34.out)
      replace HB34 := Lib.hid (ifT (by decide) HB34.out)
      obtain rfl := Option.some.inj HB34.out
      replace HB32 := Lib.hid (ifT (by first | rfl | trivial) HB32.out)
      have hd : Below W22.heap.size W22 (World.alloc W22 (.cells #[Value.int .i64 (1), Value.int .i64 (2)] 3)) := (Below.refl _ _).alloc (Nat.le_refl _) _
      have ho : (owI (.slice (some ⟨W22.heap.size, 0, none⟩) 2 2) [1, 2]).ok (World.alloc W22 (.cells #[Value.int .i64 (1), Value.int .i64 (2)] 3)) W22.heap.size := litI_ok W22 [1, 2] (by unfold maxLen; simp)
      replace HOA := Lib.hid (HOA.out.call hd HD.out.size ho); clear ho
      replace HD := Lib.hid (HD.out.trans (hd.mono HD.out.size))
      clear hd
      obtain ⟨y39, hy37, hm⟩ := obind HB32.out
      replace HB32 := Lib.hid hm; clear hm
      obtain ⟨A40, cap41, he, _⟩ := HP.open_I HOA.out (List.Mem.tail _ (List.Mem.tail _ (List.Mem.tail _ (List.Mem.head _))))
      subst he
      have HC38 := SE_Ints_ok (World.alloc W22 (.cells #[Value.int .i64 (1), Value.int .i64 (2)] 3)) cap41 (HP.rd_I HOA.out (List.Mem.tail _ (List.Mem.tail _ (List.Mem.tail _ (List.Mem.head _))))) 2 (HP.rd_I HOA.out (List.Mem.head _)) hy37
      clear hy37
      try rw [← HP.len_I HOA.out (List.Mem.head _)] at HC38
      replace HC38 := Lib.hid HC38
      go_wp2_with fail
      refine HC38.out.mono ?_; rintro e W42 ⟨rfl, hd⟩
      replace HOA := Lib.hid (HOA.out.below (hd.below _))
      replace HD := Lib.hid (HD.out.trans ((hd.below _).mono HD.out.size))
      clear hd
      cases y39
      · replace HB32 := Lib.hid (ifF Bool.false_ne_true HB32.out)
        obtain rfl := Option.some.inj HB32.out
        replace HB30 := Lib.hid (ifF (by first | exact Bool.false_ne_true | exact not_false) HB30.out)
        obtain rfl := Option.some.inj HB30.out
        obtain rfl := Option.some.inj HM.out
        go_wp2_with fail
        go_ret
        exact ⟨rfl, HD.out⟩
      · replace HB32 := Lib.hid (ifT rfl HB32.out)
        obtain rfl := Option.some.inj HB32.out
        replace HB30 := Lib.hid (ifT (by first | rfl | trivial) HB30.out)
        have hd : Below W42.heap.size W42 (World.alloc W42 (.cells #[Value.int .i64 (0), Value.int .i64 (1), Value.int .i64 (1), Value.int .i64 (2), Value.int .i64 (2), Value.int .i64 (3)] 35)) := (Below.refl _ _).alloc (Nat.le_refl _) _
        have ho : (owL (.slice (some ⟨W42.heap.size, 0, none⟩) 3 3) [(0, 1), (1, 2), (2, 3)]).ok (World.alloc W42 (.cells #[Value.int .i64 (0), Value.int .i64 (1), Value.int .i64 (1), Value.int .i64 (2), Value.int .i64 (2), Value.int .i64 (3)] 35)) W42.heap.size := litL_ok W42 [(0, 1), (1, 2), (2, 3)] (by unfold maxLen; simp)
        replace HOA := Lib.hid (HOA.out.call hd HD.out.size ho); clear ho
        replace HD := Lib.hid (HD.out.trans (hd.mono HD.out.size))
        clear hd
        obtain ⟨y47, hy45, hm⟩ := obind HB30.out
        replace HB30 := Lib.hid hm; clear hm
        obtain ⟨A48, cap49, he, _⟩ := HP.open_L HOA.out (List.Mem.tail _ (List.Mem.tail _ (List.Mem.head _)))
        subst he
        have HC46 := SE_Lines_ok (World.alloc W42 (.cells #[Value.int .i64 (0), Value.int .i64 (1), Value.int .i64 (1), Value.int .i64 (2), Value.int .i64 (2), Value.int .i64 (3)] 35)) cap49 (HP.rd_L HOA.out (List.Mem.tail _ (List.Mem.tail _ (List.Mem.head _)))) 3 (HP.rd_L HOA.out (List.Mem.head _)) hy45
        clear hy45
        try rw [← HP.len_L HOA.out (List.Mem.head _)] at HC46
        replace HC46 := Lib.hid HC46
        go_wp2_with fail
        refine HC46.out.mono ?_; rintro e W50 ⟨rfl, hd⟩
        replace HOA := Lib.hid (HOA.out.below (hd.below _))
        replace HD := Lib.hid (HD.out.trans ((hd.below _).mono HD.out.size))
        clear hd
        cases y47
        · replace HB30 := Lib.hid (ifF Bool.false_ne_true HB30.out)
          obtain rfl := Option.some.inj HB30.out
          obtain rfl := Option.some.inj HM.out
          go_wp2_with fail
          go_ret
          exact ⟨rfl, HD.out⟩
        · replace HB30 := Lib.hid (ifT rfl HB30.out)
          obtain rfl := Option.some.inj HB30.out
          obtain rfl := Option.some.inj HM.out
          go_wp2_with fail
          go_ret
          exact ⟨rfl, HD.out⟩
    · rw [errV_pos _ hz21] at HC18; replace HC18 := Lib.hid HC18
      go_wp2_with fail
      refine HC18.out.mono ?_; rintro e W25 ⟨V26, rfl, ho, hd⟩
      replace HOA := Lib.hid (HOA.out.call hd HD.out.size ho); clear ho
      replace HD := Lib.hid (HD.out.trans (hd.mono HD.out.size))
      clear hd
      have HZ28 := Lib.hid hz21; clear hz21
      obtain ⟨b51, hb, hm⟩ := obind HM.out
      replace HM := Lib.hid hm; have HB52 := Lib.hid hb; clear hm hb
      obtain ⟨b53, hb, hm⟩ := obind HB52.out
      replace HB52 := Lib.hid hm; have HB54 := Lib.hid hb; clear hm hb
      obtain ⟨b55, hb, hm⟩ := obind HB54.out
      replace HB54 := Lib.hid hm; have HB56 := Lib.hid hb; clear hm hb
      replace HB56 := Lib.hid (ifT (by decide) HB56.out)
      replace HB56 := Lib.hid (ifF (fun h => HZ28.out (eq_of_beq h)) HB56.out)
      obtain rfl := Option.some.inj HB56.out
      replace HB54 := Lib.hid (ifF (by first | exact Bool.false_ne_true | exact not_false) HB54.out)
      obtain rfl := Option.some.inj HB54.out
      replace HB52 := Lib.hid (ifF (by first | exact Bool.false_ne_true | exact not_false) HB52.out)
      obtain rfl := Option.some.inj HB52.out
      obtain rfl := Option.some.inj HM.out
      go_wp2_with fail
      go_ret
      exact ⟨rfl, HD.out⟩
  · rw [errV_pos _ hz7] at HC4; replace HC4 := Lib.hid HC4
    go_wp2_with fail
    refine HC4.out.mono ?_; rintro e W11 ⟨V12, rfl, ho, hd⟩
    replace HOA := Lib.hid (HOA.out.call hd HD.out.size ho); clear ho
    replace HD := Lib.hid (HD.out.trans (hd.mono HD.out.size))
    clear hd
    have HZ14 := Lib.hid hz7; clear hz7
    have hd : Below W11.heap.size W11 (World.alloc W11 (.cells #[Value.int .i64 (1), Value.int .i64 (2)] 3)) := (Below.refl _ _).alloc (Nat.le_refl _) _
    have ho : (owI (.slice (some ⟨W11.heap.size, 0, none⟩) 2 2) [1, 2]).ok (World.alloc W11 (.cells #[Value.int .i64 (1), Value.int .i64 (2)] 3)) W11.heap.size := litI_ok W11 [1, 2] (by unfold maxLen; simp)
    replace HOA := Lib.hid (HOA.out.call hd HD.out.size ho); clear ho
    replace HD := Lib.hid (HD.out.trans (hd.mono HD.out.size))
    clear hd
    obtain ⟨⟨y61, y62⟩, hy59, hm⟩ := obind HM.out
    dsimp only at hm
    replace HM := Lib.hid hm; clear hm
    have HC60 := prufer_Read_ok (World.alloc W11 (.cells #[Value.int .i64 (1), Value.int .i64 (2)] 3)) 2 (HP.rd_I HOA.out (List.Mem.head _)) hy59
    clear hy59
    try rw [← HP.len_I HOA.out (List.Mem.head _)] at HC60
    by_cases hz63 : y62 = 0
    · subst hz63
      rw [errV_zero] at HC60; replace HC60 := Lib.hid HC60
      go_wp2_with fail
      refine HC60.out.mono ?_; rintro e W64 ⟨V65, rfl, ho, hd⟩
      replace HOA := Lib.hid (HOA.out.call hd HD.out.size ho); clear ho
      replace HD := Lib.hid (HD.out.trans (hd.mono HD.out.size))
      clear hd
      obtain ⟨b71, hb, hm⟩ := obind HM.out
      replace HM := Lib.hid hm; have HB72 := Lib.hid hb; clear hm hb
      obtain ⟨b73, hb, hm⟩ := obind HB72.out
      replace HB72 := Lib.hid hm; have HB74 := Lib.hid hb; clear hm hb
      obtain ⟨b75, hb, hm⟩ := obind HB74.out
      replace HB74 := Lib.hid hm; have HB76 := Lib.hid hb; clear hm hb
      replace HB76 := Lib.hid (ifF (fun h => HZ14.out (eq_of_beq h)) HB76.out)
      obtain rfl := Option.some.inj HB76.out
      replace HB74 := Lib.hid (ifF (by first | exact Bool.false_ne_true | exact not_false) HB74.out)
      obtain rfl := Option.some.inj HB74.out
      replace HB72 := Lib.hid (ifF (by first | exact Bool.false_ne_true | exact not_false) HB72.out)
      obtain rfl := Option.some.inj HB72.out
      obtain rfl := Option.some.inj HM.out
      go_wp2_with fail
      go_ret
      exact ⟨rfl, HD.out⟩
    · rw [errV_pos _ hz63] at HC60; replace HC60 := Lib.hid HC60
      go_wp2_with fail
      refine HC60.out.mono ?_; rintro e W67 ⟨V68, rfl, ho, hd⟩
      replace HOA := Lib.hid (HOA.out.call hd HD.out.size ho); clear ho
      replace HD := Lib.hid (HD.out.trans (hd.mono HD.out.size))
      clear hd
      have HZ70 := Lib.hid hz63; clear hz63
      obtain ⟨b77, hb, hm⟩ := obind HM.out
      replace HM := Lib.hid hm; have HB78 := Lib.hid hb; clear hm hb
      obtain ⟨b79, hb, hm⟩ := obind HB78.out
      replace HB78 := Lib.hid hm; have HB80 := Lib.hid hb; clear hm hb
      obtain ⟨b81, hb, hm⟩ := obind HB80.out
      replace HB80 := Lib.hid hm; have HB82 := Lib.hid hb; clear hm hb
      replace HB82 := Lib.hid (ifF (fun h => HZ14.out (eq_of_beq h)) HB82.out)
      obtain rfl := Option.some.inj HB82.out
      replace HB80 := Lib.hid (ifF (by first | exact Bool.false_ne_true | exact not_false) HB80.out)
      obtain rfl := Option.some.inj HB80.out
      replace HB78 := Lib.hid (ifF (by first | exact Bool.false_ne_true | exact not_false) HB78.out)
      obtain rfl := Option.some.inj HB78.out
      obtain rfl := Option.some.inj HM.out
      go_wp2_with fail
      go_ret
      exact ⟨rfl, HD.out⟩
def L3_PruferOften_L2 (F : Nat) (v4 : List Int) (v6 : Int) : Nat → (Int) → (Int) → Option (Int × Int)
  | 0, _, _ => none
  | g+1, v7, v8 => if v8 < ((v4).length : Int) then ((ix v4 v8).bind fun y5 => if (y5 == v6) = true then L3_PruferOften_L2 F v4 v6 g ((wrap64 (v7 + 1))) ((wrap64 (v8 + 1))) else L3_PruferOften_L2 F v4 v6 g (v7) ((wrap64 (v8 + 1)))) else some (v7, v8)
theorem L3_PruferOften_L2_0 (F : Nat) (v4 : List Int) (v6 : Int) (v7 : Int) (v8 : Int) : L3_PruferOften_L2 F v4 v6 0 v7 v8 = none := by rw [L3_PruferOften_L2]
theorem L3_PruferOften_L2_s (F g : Nat) (v4 : List Int) (v6 : Int) (v7 : Int) (v8 : Int) : L3_PruferOften_L2 F v4 v6 (g+1) v7 v8 = (if v8 < ((v4).length : Int) then ((ix v4 v8).bind fun y5 => if (y5 == v6) = true then L3_PruferOften_L2 F v4 v6 g ((wrap64 (v7 + 1))) ((wrap64 (v8 + 1))) else L3_PruferOften_L2 F v4 v6 g (v7) ((wrap64 (v8 + 1)))) else some (v7, v8)) := by rw [L3_PruferOften_L2]
def L3_PruferOften_L1 (F : Nat) (v0 : Int) (v1 : List (Int × Int)) (v4 : List Int) : Nat → (Int) → Option ((Int) ⊕ (Bool))
  | 0, _ => none
  | g+1, v6 => if v6 < v0 then (L3_PruferOften_L2 F (v4) (v6) F (1) (0)).bind fun o6 => ((R1_Near F (v0) (v1) (v6)).bind fun y7 => if (o6.1 != (y7.length : Int)) = true then some (.inr (false)) else L3_PruferOften_L1 F v0 v1 v4 g ((wrap64 (v6 + 1)))) else some (.inl (v6))
theorem L3_PruferOften_L1_0 (F : Nat) (v0 : Int) (v1 : List (Int × Int)) (v4 : List Int) (v6 : Int) : L3_PruferOften_L1 F v0 v1 v4 0 v6 = none := by rw [L3_PruferOften_L1]
theorem L3_PruferOften_L1_s (F g : Nat) (v0 : Int) (v1 : List (Int × Int)) (v4 : List Int) (v6 : Int) : L3_PruferOften_L1 F v0 v1 v4 (g+1) v6 = (if v6 < v0 then (L3_PruferOften_L2 F (v4) (v6) F (1) (0)).bind fun o6 => ((R1_Near F (v0) (v1) (v6)).bind fun y7 => if (o6.1 != (y7.length : Int)) = true then some (.inr (false)) else L3_PruferOften_L1 F v0 v1 v4 g ((wrap64 (v6 + 1)))) else some (.inl (v6))) := by rw [L3_PruferOften_L1]
def L3_PruferOften (F : Nat) (v0 : Int) (v1 : List (Int × Int)) : Option (Bool) := (L3_pruferFact F ).bind fun y1 => (if y1 = true then (prufer_Write F (v0) (v1)).bind fun y2 => (if (y2.2 != 0) = true then (if (((y2.1).length : Int) == 0) = true then some true else some false).bind fun b3 => some (b3) else ((R3_Tree F (v0) (v1)).bind fun y4 => if (y4 != 0) = true then some (false) else (L3_PruferOften_L1 F (v0) (v1) (y2.1) F (0)).bind fun o8 => match o8 with | .inr r => some (r) | .inl o8 => some (true))) else some (false))
set_option maxRecDepth 100000 in
set_option maxHeartbeats 4000000 in
theorem L3_PruferOften_ok {F : Nat} {v0 : Int} {v1 : List (Int × Int)} {A1 : Option Addr} {r : Bool} (w : World) (cap1 : Nat) (hr1 : ReadsL w w.heap.size A1 v1) (h : L3_PruferOften F v0 v1 = some r) :
    Calls Try.prog 4 #[.int .i64 v0, .slice A1 v1.length cap1] w fun e w' => e = .returned (.bool r) ∧ Below w.heap.size w w' := by
  have HR1 := Lib.hid hr1; clear hr1
  have HD := Lib.hid (Below.refl w.heap.size w)
  have HOA := Lib.hid (HP.nil (W := w) (B := w.heap.size))
  unfold L3_PruferOften at h
  have HM := Lib.hid h; clear h
  go_enter Try.func4, Try.ntmps4
  obtain ⟨y3, hy1, hm⟩ := obind HM.out
  replace HM := Lib.hid hm; clear hm
  have HC2 := L3_pruferFact_ok w  hy1
  clear hy1
  replace HC2 := Lib.hid HC2
  go_wp2_with fail
  refine HC2.out.mono ?_; rintro e W4 ⟨rfl, hd⟩
  replace HOA := Lib.hid (HOA.out.below hd)
  replace HD := Lib.hid (HD.out.trans (hd.mono HD.out.size))
  clear hd
  cases y3
  · replace HM := Lib.hid (ifF Bool.false_ne_true HM.out)
    obtain rfl := Option.some.inj HM.out
    go_wp2_with fail
    go_ret
    exact ⟨rfl, HD.out⟩
  · replace HM := Lib.hid (ifT rfl HM.out)
    obtain ⟨⟨y7, y8⟩, hy5, hm⟩ := obind HM.out
    dsimp only at hm
    replace HM := Lib.hid hm; clear hm
    have HC6 := prufer_Write_ok W4 cap1 (rdL HD.out HR1.out) hy5
    clear hy5
    by_cases hz9 : y8 = 0
    · subst hz9
      rw [errV_zero] at HC6; replace HC6 := Lib.hid HC6
      go_wp2_with fail
      refine HC6.out.mono ?_; rintro e W10 ⟨V11, rfl, ho, hd⟩
      replace HOA := Lib.hid (HOA.out.call hd HD.out.size ho); clear ho
      replace HD := Lib.hid (HD.out.trans (hd.mono HD.out.size))
      clear hd
      replace HM := Lib.hid (ifF (by decide) HM.out)
      obtain ⟨y19, hy17, hm⟩ := obind HM.out
      replace HM := Lib.hid hm; clear hm
      have HC18 := R3_Tree_ok W10 cap1 (rdL HD.out HR1.out) hy17
      clear hy17
      replace HC18 := Lib.hid HC18
      go_wp2_with fail
      refine HC18.out.mono ?_; rintro e W20 ⟨rfl, hd⟩
      replace HOA := Lib.hid (HOA.out.below hd)
      replace HD := Lib.hid (HD.out.trans (hd.mono HD.out.size))
      clear hd
      rcases Bool.eq_false_or_eq_true (y19 != 0) with hc21 | hc21
      · replace HM := Lib.hid (ifT hc21 HM.out)
        have HK22 := Lib.hid hc21
        obtain rfl := Option.some.inj HM.out
        go_wp2_with fail
        go_ret
        exact ⟨(by first | rfl | (refine congrArg (fun b => Ending.returned (Value.bool b)) ?_; first | (exact decide_eq_true (by omega)) | (exact decide_eq_false (by omega)))), HD.out⟩
      · replace HM := Lib.hid (ifF (bF hc21) HM.out)
        have HK22 := Lib.hid hc21
        go_wp2_with fail
        try clear hc21
        obtain ⟨o23, ho, hm⟩ := obind HM.out
        replace HM := Lib.hid hm; have HL1 := Lib.hid ho; clear hm ho
        go_loopg [8] F (fun gg ux25 wr => ∃ (x24 : Int), ux25 = .int .i64 x24 ∧ Hid (Below W20.heap.size W20 wr) ∧ Hid (L3_PruferOften_L1 F (v0) (v1) (y7) gg x24 = some o23))
        case atStart => exact ⟨0, rfl, (Lib.hid (Below.refl _ _)), HL1⟩
        case round =>
          obtain ⟨x24, rfl, HW1, HL1⟩ := hrel
          rename World => W26
          have hd := HW1.out
          replace HOA := Lib.hid (HOA.out.below hd)
          replace HD := Lib.hid (HD.out.trans (hd.mono HD.out.size))
          clear hd
          cases gk with
          | zero => exact absurd ((L3_PruferOften_L1_0 ..).symm.trans HL1.out) (by intro h; cases h)
          | succ g1 =>
            replace HL1 := Lib.hid ((L3_PruferOften_L1_s ..).symm.trans HL1.out)
            by_cases hc27 : x24 < v0
            · replace HL1 := Lib.hid (ifT hc27 HL1.out)
              have HK28 := Lib.hid hc27
              go_wp2_with fail
              try clear hc27
              obtain ⟨o29, ho, hm⟩ := obind HL1.out
              replace HL1 := Lib.hid hm; have HL2 := Lib.hid ho; clear hm ho
              go_loopg [9, 10] F (fun gg ux32 ux33 wr => ∃ (x30 : Int) (x31 : Int), ux32 = .int .i64 x30 ∧ ux33 = .int .i64 x31 ∧ Hid (Below W26.heap.size W26 wr) ∧ Hid (L3_PruferOften_L2 F (y7) (x24) gg x30 x31 = some o29))
              case atStart => exact ⟨1, 0, rfl, rfl, (Lib.hid (Below.refl _ _)), HL2⟩
              case round =>
                obtain ⟨x30, x31, rfl, rfl, HW2, HL2⟩ := hrel
                rename World => W34
                have hd := HW2.out
                replace HOA := Lib.hid (HOA.out.below hd)
                replace HD := Lib.hid (HD.out.trans (hd.mono HD.out.size))
                replace HW1 := Lib.hid (HW1.out.trans (hd.mono HW1.out.size))
                clear hd
                cases gk with
                | zero => exact absurd ((L3_PruferOften_L2_0 ..).symm.trans HL2.out) (by intro h; cases h)
                | succ g2 =>
                  replace HL2 := Lib.hid ((L3_PruferOften_L2_s ..).symm.trans HL2.out)
                  obtain ⟨A35, cap36, he, _⟩ := HP.open_I HOA.out (List.Mem.head _)
                  subst he
                  by_cases hc37 : x31 < ((y7).length : Int)
                  · replace HL2 := Lib.hid (ifT hc37 HL2.out)
                    have HK38 := Lib.hid hc37
                    obtain ⟨y39, hy40, hm⟩ := obind HL2.out
                    replace HL2 := Lib.hid hm; clear hm
                    obtain ⟨b41, o42, ea43, _, f44, f45, f46⟩ := ReadsI.ix (HP.rd_I HOA.out (List.Mem.head _)) hy40
                    cases ea43
                    try simp only [Nat.zero_add, Nat.add_zero, Int.toNat_natCast, Int.toNat_zero, Int.toNat_one] at f46
                    try rw [← HP.len_I HOA.out (List.Mem.head _)] at f45
                    have HY48 := Lib.hid hy40; clear hy40
                    rcases Bool.eq_false_or_eq_true (y39 == x24) with hc49 | hc49
                    · replace HL2 := Lib.hid (ifT hc49 HL2.out)
                      have HK50 := Lib.hid hc49
                      go_wp2_with fail
                      try clear hc37 f44 f45 f46 hc49
                      go_roundg g2
                      case measure => omega
                      case rel => exact ⟨(wrap64 (x30 + 1)), (wrap64 (x31 + 1)), rfl, rfl, HW2, HL2⟩
                    · replace HL2 := Lib.hid (ifF (bF hc49) HL2.out)
                      have HK50 := Lib.hid hc49
                      go_wp2_with fail
                      try clear hc37 f44 f45 f46 hc49
                      go_roundg g2
                      case measure => omega
                      case rel => exact ⟨x30, (wrap64 (x31 + 1)), rfl, rfl, HW2, HL2⟩
                  · replace HL2 := Lib.hid (ifF hc37 HL2.out)
                    have hc37d := decide_eq_false hc37
                    have HK38 := Lib.hid hc37
                    obtain rfl := Option.some.inj HL2.out
                    have hm := HL1.out; try dsimp only at hm
                    replace HL1 := Lib.hid hm; clear hm
                    obtain ⟨y53, hy51, hm⟩ := obind HL1.out
                    replace HL1 := Lib.hid hm; clear hm
                    have HC52 := R1_Near_ok W34 cap1 (rdL HD.out HR1.out) hy51
                    clear hy51
                    replace HC52 := Lib.hid HC52
                    go_wp2_with fail
                    refine HC52.out.mono ?_; rintro e W54 ⟨V55, rfl, ho, hd⟩
                    try clear hc37 hc37d
                    replace HOA := Lib.hid (HOA.out.call hd HD.out.size ho); clear ho
                    replace HD := Lib.hid (HD.out.trans (hd.mono HD.out.size))
                    replace HW1 := Lib.hid (HW1.out.trans (hd.mono HW1.out.size))
                    clear hd
                    obtain ⟨A57, cap58, he, _⟩ := HP.open_I HOA.out (List.Mem.head _)
                    subst he
                    rcases Bool.eq_false_or_eq_true (x30 != ((y53).length : Int)) with hc59 | hc59
                    · replace HL1 := Lib.hid (ifT hc59 HL1.out)
                      have HK60 := Lib.hid hc59
                      obtain rfl := Option.some.inj HL1.out
                      have hm := HM.out; try dsimp only at hm
                      replace HM := Lib.hid hm; clear hm
                      obtain rfl := Option.some.inj HM.out
                      go_wp2_with fail
                      go_ret
                      exact ⟨(by first | rfl | (refine congrArg (fun b => Ending.returned (Value.bool b)) ?_; first | (exact decide_eq_true (by omega)) | (exact decide_eq_false (by omega)))), HD.out⟩
                    · replace HL1 := Lib.hid (ifF (bF hc59) HL1.out)
                      have HK60 := Lib.hid hc59
                      go_wp2_with fail
                      try clear hc59
                      go_roundg g1
                      case measure => omega
                      case rel => exact ⟨(wrap64 (x24 + 1)), rfl, HW1, HL1⟩
            · replace HL1 := Lib.hid (ifF hc27 HL1.out)
              have hc27d := decide_eq_false hc27
              have HK28 := Lib.hid hc27
              obtain rfl := Option.some.inj HL1.out
              have hm := HM.out; try dsimp only at hm
              replace HM := Lib.hid hm; clear hm
              obtain rfl := Option.some.inj HM.out
              go_wp2_with fail
              go_ret
              exact ⟨(by first | rfl | (refine congrArg (fun b => Ending.returned (Value.bool b)) ?_; first | (exact decide_eq_true (by omega)) | (exact decide_eq_false (by omega)))), HD.out⟩
    · rw [errV_pos _ hz9] at HC6; replace HC6 := Lib.hid HC6
      go_wp2_with fail
      refine HC6.out.mono ?_; rintro e W13 ⟨V14, rfl, ho, hd⟩
      replace HOA := Lib.hid (HOA.out.call hd HD.out.size ho); clear ho
      replace HD := Lib.hid (HD.out.trans (hd.mono HD.out.size))
      clear hd
      have HZ16 := Lib.hid hz9; clear hz9
      replace HM := Lib.hid (ifT (bne_iff_ne.2 HZ16.out) HM.out)
      obtain ⟨b61, hb, hm⟩ := obind HM.out
      replace HM := Lib.hid hm; have HB62 := Lib.hid hb; clear hm hb
      obtain ⟨A63, cap64, he, _⟩ := HP.open_I HOA.out (List.Mem.head _)
      subst he
      rcases Bool.eq_false_or_eq_true (((y7).length : Int) == 0) with hc65 | hc65
      · replace HB62 := Lib.hid (ifT hc65 HB62.out)
        have HK66 := Lib.hid hc65
        obtain rfl := Option.some.inj HB62.out
        obtain rfl := Option.some.inj HM.out
        go_wp2_with fail
        go_ret
        exact ⟨(by first | rfl | (refine congrArg (fun b => Ending.returned (Value.bool b)) ?_; first | (exact decide_eq_true (by omega)) | (exact decide_eq_false (by omega)))), HD.out⟩
      · replace HB62 := Lib.hid (ifF (bF hc65) HB62.out)
        have HK66 := Lib.hid hc65
        obtain rfl := Option.some.inj HB62.out
        obtain rfl := Option.some.inj HM.out
        go_wp2_with fail
        go_ret
        exact ⟨(by first | rfl | (refine congrArg (fun b => Ending.returned (Value.bool b)) ?_; first | (exact decide_eq_true (by omega)) | (exact decide_eq_false (by omega)))), HD.out⟩
def L3_PruferBack_L1 (F : Nat) (v1 : List (Int × Int)) (v5 : List (Int × Int)) : Nat → (Int) → Option ((Int) ⊕ (Bool))
  | 0, _ => none
  | g+1, v10 => if v10 < ((v1).length : Int) then ((ix v1 v10).bind fun y12 => (ix v1 v10).bind fun y13 => (R1_Beside F (v5) (y12.1) (y13.2)).bind fun y14 => if y14 = true then L3_PruferBack_L1 F v1 v5 g ((wrap64 (v10 + 1))) else some (.inr (false))) else some (.inl (v10))
theorem L3_PruferBack_L1_0 (F : Nat) (v1 : List (Int × Int)) (v5 : List (Int × Int)) (v10 : Int) : L3_PruferBack_L1 F v1 v5 0 v10 = none := by rw [L3_PruferBack_L1]
theorem L3_PruferBack_L1_s (F g : Nat) (v1 : List (Int × Int)) (v5 : List (Int × Int)) (v10 : Int) : L3_PruferBack_L1 F v1 v5 (g+1) v10 = (if v10 < ((v1).length : Int) then ((ix v1 v10).bind fun y12 => (ix v1 v10).bind fun y13 => (R1_Beside F (v5) (y12.1) (y13.2)).bind fun y14 => if y14 = true then L3_PruferBack_L1 F v1 v5 g ((wrap64 (v10 + 1))) else some (.inr (false))) else some (.inl (v10))) := by rw [L3_PruferBack_L1]
def L3_PruferBack (F : Nat) (v0 : Int) (v1 : List (Int × Int)) (v2 : List Int) : Option (Bool) := (L3_pruferFact F ).bind fun y1 => (if y1 = true then (prufer_Read F (v2)).bind fun y2 => (if (y2.2 == 0) = true then (prufer_Write F ((wrap64 (((v2).length : Int) + 2))) (y2.1)).bind fun y3 => ((if (y3.2 != 0) = true then some true else (SE_Ints F (y3.1) (v2)).bind fun y5 => if y5 = true then some false else some true).bind fun b4 => if b4 = true then some (false) else (prufer_Write F (v0) (v1)).bind fun y6 => (if (y6.2 != 0) = true then (if (((y6.1).length : Int) == 0) = true then some true else some false).bind fun b7 => some (b7) else (((R3_Tree F (v0) (v1)).bind fun y9 => if (y9 != 0) = true then some true else if (((y6.1).length : Int) != (wrap64 (v0 - 2))) = true then some true else some false).bind fun b8 => if b8 = true then some (false) else (prufer_Read F (y6.1)).bind fun y10 => ((if (y10.2 != 0) = true then some true else if (((y10.1).length : Int) != ((v1).length : Int)) = true then some true else some false).bind fun b11 => if b11 = true then some (false) else (L3_PruferBack_L1 F (v1) (y10.1) F (0)).bind fun o15 => match o15 with | .inr r => some (r) | .inl o15 => some (true))))) else (if (((y2.1).length : Int) != 0) = true then some (false) else (prufer_Write F (v0) (v1)).bind fun y16 => (if (y16.2 != 0) = true then (if (((y16.1).length : Int) == 0) = true then some true else some false).bind fun b17 => some (b17) else (((R3_Tree F (v0) (v1)).bind fun y19 => if (y19 != 0) = true then some true else if (((y16.1).length : Int) != (wrap64 (v0 - 2))) = true then some true else some false).bind fun b18 => if b18 = true then some (false) else (prufer_Read F (y16.1)).bind fun y20 => ((if (y20.2 != 0) = true then some true else if (((y20.1).length : Int) != ((v1).length : Int)) = true then some true else some false).bind fun b21 => if b21 = true then some (false) else (L3_PruferBack_L1 F (v1) (y20.1) F (0)).bind fun o22 => match o22 with | .inr r => some (r) | .inl o22 => some (true)))))) else some (false))
set_option maxRecDepth 100000 in
set_option maxHeartbeats 4000000 in
theorem L3_PruferBack_ok {F : Nat} {v0 : Int} {v1 : List (Int × Int)} {A1 : Option Addr} {v2 : List Int} {A2 : Option Addr} {r : Bool} (w : World) (cap1 : Nat) (hr1 : ReadsL w w.heap.size A1 v1) (cap2 : Nat) (hr2 : ReadsI w w.heap.size A2 v2) (h : L3_PruferBack F v0 v1 v2 = some r) :
    Calls Try.prog 3 #[.int .i64 v0, .slice A1 v1.length cap1, .slice A2 v2.length cap2] w fun e w' => e = .returned (.bool r) ∧ Below w.heap.size w w' := by
  have HR1 := Lib.hid hr1; clear hr1
  have HR2 := Lib.hid hr2; clear hr2
  have HD := Lib.hid (Below.refl w.heap.size w)
  have HOA := Lib.hid (HP.nil (W := w) (B := w.heap.size))
  unfold L3_PruferBack at h
  have HM := Lib.hid h; clear h
  go_enter Try.func3, Try.ntmps3
  obtain ⟨y3, hy1, hm⟩ := obind HM.out
  replace HM := Lib.hid hm; clear hm
  have HC2 := L3_pruferFact_ok w  hy1
  clear hy1
  replace HC2 := Lib.hid HC2
  go_wp2_with fail
  refine HC2.out.mono ?_; rintro e W4 ⟨rfl, hd⟩
  replace HOA := Lib.hid (HOA.out.below hd)
  replace HD := Lib.hid (HD.out.trans (hd.mono HD.out.size))
  clear hd
  cases y3
  · replace HM := Lib.hid (ifF Bool.false_ne_true HM.out)
    obtain rfl := Option.some.inj HM.out
    go_wp2_with fail
    go_ret
    exact ⟨rfl, HD.out⟩
  · replace HM := Lib.hid (ifT rfl HM.out)
    obtain ⟨⟨y7, y8⟩, hy5, hm⟩ := obind HM.out
    dsimp only at hm
    replace HM := Lib.hid hm; clear hm
    have HC6 := prufer_Read_ok W4 cap2 (rdI HD.out HR2.out) hy5
    clear hy5
    by_cases hz9 : y8 = 0
    · subst hz9
      rw [errV_zero] at HC6; replace HC6 := Lib.hid HC6
      go_wp2_with fail
      refine HC6.out.mono ?_; rintro e W10 ⟨V11, rfl, ho, hd⟩
      replace HOA := Lib.hid (HOA.out.call hd HD.out.size ho); clear ho
      replace HD := Lib.hid (HD.out.trans (hd.mono HD.out.size))
      clear hd
      replace HM := Lib.hid (ifT (by decide) HM.out)
      obtain ⟨⟨y19, y20⟩, hy17, hm⟩ := obind HM.out
      dsimp only at hm
      replace HM := Lib.hid hm; clear hm
      obtain ⟨A21, cap22, he, _⟩ := HP.open_L HOA.out (List.Mem.head _)
      subst he
      have HC18 := prufer_Write_ok W10 cap22 (HP.rd_L HOA.out (List.Mem.head _)) hy17
      clear hy17
      by_cases hz23 : y20 = 0
      · subst hz23
        rw [errV_zero] at HC18; replace HC18 := Lib.hid HC18
        go_wp2_with fail
        refine HC18.out.mono ?_; rintro e W24 ⟨V25, rfl, ho, hd⟩
        replace HOA := Lib.hid (HOA.out.call hd HD.out.size ho); clear ho
        replace HD := Lib.hid (HD.out.trans (hd.mono HD.out.size))
        clear hd
        go_upto_region 7 with (fail)
        obtain ⟨b31, hb, hm⟩ := obind HM.out
        replace HM := Lib.hid hm; have HB32 := Lib.hid hb; clear hm hb
        go_cut [39] (fun uq wr => uq = .bool b31 ∧ Hid (Below W24.heap.size W24 wr))
        case first =>
          have HWC33 := Lib.hid (Below.refl W24.heap.size W24)
          replace HB32 := Lib.hid (ifF (by decide) HB32.out)
          obtain ⟨y36, hy34, hm⟩ := obind HB32.out
          replace HB32 := Lib.hid hm; clear hm
          obtain ⟨A37, cap38, he, _⟩ := HP.open_I HOA.out (List.Mem.head _)
          subst he
          have HC35 := SE_Ints_ok W24 cap38 (HP.rd_I HOA.out (List.Mem.head _)) cap2 (rdI HD.out HR2.out) hy34
          clear hy34
          replace HC35 := Lib.hid HC35
          go_wp2_with fail
          refine HC35.out.mono ?_; rintro e W39 ⟨rfl, hd⟩
          replace HOA := Lib.hid (HOA.out.below (hd.below _))
          replace HD := Lib.hid (HD.out.trans ((hd.below _).mono HD.out.size))
          replace HWC33 := Lib.hid (HWC33.out.trans ((hd.below _).mono HWC33.out.size))
          clear hd
          cases y36
          · replace HB32 := Lib.hid (ifF Bool.false_ne_true HB32.out)
            cases Option.some.inj HB32.out
            try go_wp2_with fail
            go_meet
            case rel => exact ⟨rfl, HWC33⟩
          · replace HB32 := Lib.hid (ifT rfl HB32.out)
            cases Option.some.inj HB32.out
            try go_wp2_with fail
            go_meet
            case rel => exact ⟨rfl, HWC33⟩
        case rest =>
          obtain ⟨rfl, HWC33⟩ := hcut
          rename World => W40
          have hd := HWC33.out
          replace HOA := Lib.hid (HOA.out.below hd)
          replace HD := Lib.hid (HD.out.trans (hd.mono HD.out.size))
          clear hd
          cases b31
          · replace HM := Lib.hid (ifF Bool.false_ne_true HM.out)
            obtain ⟨⟨y43, y44⟩, hy41, hm⟩ := obind HM.out
            dsimp only at hm
            replace HM := Lib.hid hm; clear hm
            have HC42 := prufer_Write_ok W40 cap1 (rdL HD.out HR1.out) hy41
            clear hy41
            by_cases hz45 : y44 = 0
            · subst hz45
              rw [errV_zero] at HC42; replace HC42 := Lib.hid HC42
              go_wp2_with fail
              refine HC42.out.mono ?_; rintro e W46 ⟨V47, rfl, ho, hd⟩
              replace HOA := Lib.hid (HOA.out.call hd HD.out.size ho); clear ho
              replace HD := Lib.hid (HD.out.trans (hd.mono HD.out.size))
              clear hd
              replace HM := Lib.hid (ifF (by decide) HM.out)
              go_upto_region 14 with (fail)
              obtain ⟨b53, hb, hm⟩ := obind HM.out
              replace HM := Lib.hid hm; have HB54 := Lib.hid hb; clear hm hb
              go_cut [64] (fun uq wr => uq = .bool b53 ∧ Hid (Below W46.heap.size W46 wr))
              case first =>
                have HWC55 := Lib.hid (Below.refl W46.heap.size W46)
                obtain ⟨y58, hy56, hm⟩ := obind HB54.out
                replace HB54 := Lib.hid hm; clear hm
                have HC57 := R3_Tree_ok W46 cap1 (rdL HD.out HR1.out) hy56
                clear hy56
                replace HC57 := Lib.hid HC57
                go_wp2_with fail
                refine HC57.out.mono ?_; rintro e W59 ⟨rfl, hd⟩
                replace HOA := Lib.hid (HOA.out.below hd)
                replace HD := Lib.hid (HD.out.trans (hd.mono HD.out.size))
                replace HWC55 := Lib.hid (HWC55.out.trans (hd.mono HWC55.out.size))
                clear hd
                rcases Bool.eq_false_or_eq_true (y58 != 0) with hc60 | hc60
                · replace HB54 := Lib.hid (ifT hc60 HB54.out)
                  have HK61 := Lib.hid hc60
                  cases Option.some.inj HB54.out
                  try go_wp2_with fail
                  go_meet
                  case rel => exact ⟨rfl, HWC55⟩
                · replace HB54 := Lib.hid (ifF (bF hc60) HB54.out)
                  have HK61 := Lib.hid hc60
                  obtain ⟨A62, cap63, he, _⟩ := HP.open_I HOA.out (List.Mem.head _)
                  subst he
                  rcases Bool.eq_false_or_eq_true (((y43).length : Int) != (wrap64 (v0 - 2))) with hc64 | hc64
                  · replace HB54 := Lib.hid (ifT hc64 HB54.out)
                    have HK65 := Lib.hid hc64
                    cases Option.some.inj HB54.out
                    try go_wp2_with fail
                    go_meet
                    case rel => exact ⟨rfl, HWC55⟩
                  · replace HB54 := Lib.hid (ifF (bF hc64) HB54.out)
                    have HK65 := Lib.hid hc64
                    cases Option.some.inj HB54.out
                    try go_wp2_with fail
                    go_meet
                    case rel => exact ⟨rfl, HWC55⟩
              case rest =>
                obtain ⟨rfl, HWC55⟩ := hcut
                rename World => W66
                have hd := HWC55.out
                replace HOA := Lib.hid (HOA.out.below hd)
                replace HD := Lib.hid (HD.out.trans (hd.mono HD.out.size))
                clear hd
                cases b53
                · replace HM := Lib.hid (ifF Bool.false_ne_true HM.out)
                  obtain ⟨⟨y69, y70⟩, hy67, hm⟩ := obind HM.out
                  dsimp only at hm
                  replace HM := Lib.hid hm; clear hm
                  obtain ⟨A71, cap72, he, _⟩ := HP.open_I HOA.out (List.Mem.head _)
                  subst he
                  have HC68 := prufer_Read_ok W66 cap72 (HP.rd_I HOA.out (List.Mem.head _)) hy67
                  clear hy67
                  by_cases hz73 : y70 = 0
                  · subst hz73
                    rw [errV_zero] at HC68; replace HC68 := Lib.hid HC68
                    go_wp2_with fail
                    refine HC68.out.mono ?_; rintro e W74 ⟨V75, rfl, ho, hd⟩
                    replace HOA := Lib.hid (HOA.out.call hd HD.out.size ho); clear ho
                    replace HD := Lib.hid (HD.out.trans (hd.mono HD.out.size))
                    clear hd
                    go_upto_region 17 with (fail)
                    obtain ⟨b81, hb, hm⟩ := obind HM.out
                    replace HM := Lib.hid hm; have HB82 := Lib.hid hb; clear hm hb
                    go_cut [78] (fun uq wr => uq = .bool b81 ∧ Hid (Below W74.heap.size W74 wr))
                    case first =>
                      have HWC83 := Lib.hid (Below.refl W74.heap.size W74)
                      replace HB82 := Lib.hid (ifF (by decide) HB82.out)
                      obtain ⟨A84, cap85, he, _⟩ := HP.open_L HOA.out (List.Mem.head _)
                      subst he
                      rcases Bool.eq_false_or_eq_true (((y69).length : Int) != ((v1).length : Int)) with hc86 | hc86
                      · replace HB82 := Lib.hid (ifT hc86 HB82.out)
                        have HK87 := Lib.hid hc86
                        cases Option.some.inj HB82.out
                        try go_wp2_with fail
                        go_meet
                        case rel => exact ⟨rfl, HWC83⟩
                      · replace HB82 := Lib.hid (ifF (bF hc86) HB82.out)
                        have HK87 := Lib.hid hc86
                        cases Option.some.inj HB82.out
                        try go_wp2_with fail
                        go_meet
                        case rel => exact ⟨rfl, HWC83⟩
                    case rest =>
                      obtain ⟨rfl, HWC83⟩ := hcut
                      rename World => W88
                      have hd := HWC83.out
                      replace HOA := Lib.hid (HOA.out.below hd)
                      replace HD := Lib.hid (HD.out.trans (hd.mono HD.out.size))
                      clear hd
                      cases b81
                      · replace HM := Lib.hid (ifF Bool.false_ne_true HM.out)
                        go_wp2_with fail
                        obtain ⟨o89, ho, hm⟩ := obind HM.out
                        replace HM := Lib.hid hm; have HL1 := Lib.hid ho; clear hm ho
                        go_loopg [13] F (fun gg ux91 wr => ∃ (x90 : Int), ux91 = .int .i64 x90 ∧ Hid (Below W88.heap.size W88 wr) ∧ Hid (L3_PruferBack_L1 F (v1) (y69) gg x90 = some o89))
                        case atStart => exact ⟨0, rfl, (Lib.hid (Below.refl _ _)), HL1⟩
                        case round =>
                          obtain ⟨x90, rfl, HW1, HL1⟩ := hrel
                          rename World => W92
                          have hd := HW1.out
                          replace HOA := Lib.hid (HOA.out.below hd)
                          replace HD := Lib.hid (HD.out.trans (hd.mono HD.out.size))
                          clear hd
                          cases gk with
                          | zero => exact absurd ((L3_PruferBack_L1_0 ..).symm.trans HL1.out) (by intro h; cases h)
                          | succ g1 =>
                            replace HL1 := Lib.hid ((L3_PruferBack_L1_s ..).symm.trans HL1.out)
                            by_cases hc93 : x90 < ((v1).length : Int)
                            · replace HL1 := Lib.hid (ifT hc93 HL1.out)
                              have HK94 := Lib.hid hc93
                              try go_wp2_with fail
                              try clear hc93
                              obtain ⟨y95, hy96, hm⟩ := obind HL1.out
                              replace HL1 := Lib.hid hm; clear hm
                              obtain ⟨b97, o98, ea99, _, f100, f101, f102, f103⟩ := ReadsL.ix (rdL HD.out HR1.out) hy96
                              cases ea99
                              try simp only [Nat.zero_add, Nat.add_zero, Int.toNat_natCast, Int.toNat_zero, Int.toNat_one] at f102 f103
                              have HY104 := Lib.hid hy96; clear hy96
                              obtain ⟨y105, hy106, hm⟩ := obind HL1.out
                              replace HL1 := Lib.hid hm; clear hm
                              obtain rfl := Option.some.inj (HY104.out.symm.trans hy106)
                              clear hy106
                              obtain ⟨y109, hy107, hm⟩ := obind HL1.out
                              replace HL1 := Lib.hid hm; clear hm
                              obtain ⟨A110, cap111, he, _⟩ := HP.open_L HOA.out (List.Mem.head _)
                              subst he
                              have HC108 := Lib.hid (fun m => R1_Beside_ok (W92.drewN m) cap111 (ReadsL.drewN' (HP.rd_L HOA.out (List.Mem.head _)) m) hy107)
                              clear hy107
                              cases y109
                              · replace HL1 := Lib.hid (ifF Bool.false_ne_true HL1.out)
                                go_quiet (first | (go_at_call 10; exact quiet_left (HC108.out _)))
                                generalize hW : World.drewN W92 _ = W112
                                have hd : Dr W92 W112 := ⟨_, hW.symm⟩
                                clear hW
                                try clear f100 f101 f102 f103
                                replace HOA := Lib.hid (HOA.out.below (hd.below _))
                                replace HD := Lib.hid (HD.out.trans ((hd.below _).mono HD.out.size))
                                replace HW1 := Lib.hid (HW1.out.trans ((hd.below _).mono HW1.out.size))
                                clear hd
                                obtain rfl := Option.some.inj HL1.out
                                have hm := HM.out; try dsimp only at hm
                                replace HM := Lib.hid hm; clear hm
                                obtain rfl := Option.some.inj HM.out
                                go_wp2_with fail
                                go_ret
                                exact ⟨rfl, HD.out⟩
                              · replace HL1 := Lib.hid (ifT rfl HL1.out)
                                go_quiet (first | (go_at_call 10; exact quiet_left (HC108.out _)))
                                generalize hW : World.drewN W92 _ = W113
                                have hd : Dr W92 W113 := ⟨_, hW.symm⟩
                                clear hW
                                try clear f100 f101 f102 f103
                                replace HOA := Lib.hid (HOA.out.below (hd.below _))
                                replace HD := Lib.hid (HD.out.trans ((hd.below _).mono HD.out.size))
                                replace HW1 := Lib.hid (HW1.out.trans ((hd.below _).mono HW1.out.size))
                                clear hd
                                go_wp2_with fail
                                go_roundg g1
                                case measure => omega
                                case rel => exact ⟨(wrap64 (x90 + 1)), rfl, HW1, HL1⟩
                            · replace HL1 := Lib.hid (ifF hc93 HL1.out)
                              have hc93d := decide_eq_false hc93
                              have HK94 := Lib.hid hc93
                              obtain rfl := Option.some.inj HL1.out
                              have hm := HM.out; try dsimp only at hm
                              replace HM := Lib.hid hm; clear hm
                              obtain rfl := Option.some.inj HM.out
                              go_wp2_with fail
                              go_ret
                              exact ⟨(by first | rfl | (refine congrArg (fun b => Ending.returned (Value.bool b)) ?_; first | (exact decide_eq_true (by omega)) | (exact decide_eq_false (by omega)))), HD.out⟩
                      · replace HM := Lib.hid (ifT rfl HM.out)
                        obtain rfl := Option.some.inj HM.out
                        go_wp2_with fail
                        go_ret
                        exact ⟨rfl, HD.out⟩
                  · rw [errV_pos _ hz73] at HC68; replace HC68 := Lib.hid HC68
                    go_wp2_with fail
                    refine HC68.out.mono ?_; rintro e W77 ⟨V78, rfl, ho, hd⟩
                    replace HOA := Lib.hid (HOA.out.call hd HD.out.size ho); clear ho
                    replace HD := Lib.hid (HD.out.trans (hd.mono HD.out.size))
                    clear hd
                    have HZ80 := Lib.hid hz73; clear hz73
                    go_upto_region 17 with (fail)
                    obtain ⟨b114, hb, hm⟩ := obind HM.out
                    replace HM := Lib.hid hm; have HB115 := Lib.hid hb; clear hm hb
                    go_cut [78] (fun uq wr => uq = .bool b114 ∧ Hid (Below W77.heap.size W77 wr))
                    case first =>
                      have HWC116 := Lib.hid (Below.refl W77.heap.size W77)
                      replace HB115 := Lib.hid (ifT (bne_iff_ne.2 HZ80.out) HB115.out)
                      cases Option.some.inj HB115.out
                      try go_wp2_with fail
                      go_meet
                      case rel => exact ⟨rfl, HWC116⟩
                    case rest =>
                      obtain ⟨rfl, HWC116⟩ := hcut
                      rename World => W117
                      have hd := HWC116.out
                      replace HOA := Lib.hid (HOA.out.below hd)
                      replace HD := Lib.hid (HD.out.trans (hd.mono HD.out.size))
                      clear hd
                      cases b114
                      · replace HM := Lib.hid (ifF Bool.false_ne_true HM.out)
                        go_wp2_with fail
                        obtain ⟨o118, ho, hm⟩ := obind HM.out
                        replace HM := Lib.hid hm; have HL1 := Lib.hid ho; clear hm ho
                        go_loopg [13] F (fun gg ux120 wr => ∃ (x119 : Int), ux120 = .int .i64 x119 ∧ Hid (Below W117.heap.size W117 wr) ∧ Hid (L3_PruferBack_L1 F (v1) (y69) gg x119 = some o118))
                        case atStart => exact ⟨0, rfl, (Lib.hid (Below.refl _ _)), HL1⟩
                        case round =>
                          obtain ⟨x119, rfl, HW1, HL1⟩ := hrel
                          rename World => W121
                          have hd := HW1.out
                          replace HOA := Lib.hid (HOA.out.below hd)
                          replace HD := Lib.hid (HD.out.trans (hd.mono HD.out.size))
                          clear hd
                          cases gk with
                          | zero => exact absurd ((L3_PruferBack_L1_0 ..).symm.trans HL1.out) (by intro h; cases h)
                          | succ g1 =>
                            replace HL1 := Lib.hid ((L3_PruferBack_L1_s ..).symm.trans HL1.out)
                            by_cases hc122 : x119 < ((v1).length : Int)
                            · replace HL1 := Lib.hid (ifT hc122 HL1.out)
                              have HK123 := Lib.hid hc122
                              try go_wp2_with fail
                              try clear hc122
                              obtain ⟨y124, hy125, hm⟩ := obind HL1.out
                              replace HL1 := Lib.hid hm; clear hm
                              obtain ⟨b126, o127, ea128, _, f129, f130, f131, f132⟩ := ReadsL.ix (rdL HD.out HR1.out) hy125
                              cases ea128
                              try simp only [Nat.zero_add, Nat.add_zero, Int.toNat_natCast, Int.toNat_zero, Int.toNat_one] at f131 f132
                              have HY133 := Lib.hid hy125; clear hy125
                              obtain ⟨y134, hy135, hm⟩ := obind HL1.out
                              replace HL1 := Lib.hid hm; clear hm
                              obtain rfl := Option.some.inj (HY133.out.symm.trans hy135)
                              clear hy135
                              obtain ⟨y138, hy136, hm⟩ := obind HL1.out
                              replace HL1 := Lib.hid hm; clear hm
                              obtain ⟨A139, cap140, he, _⟩ := HP.open_L HOA.out (List.Mem.head _)
                              subst he
                              have HC137 := Lib.hid (fun m => R1_Beside_ok (W121.drewN m) cap140 (ReadsL.drewN' (HP.rd_L HOA.out (List.Mem.head _)) m) hy136)
                              clear hy136
                              cases y138
                              · replace HL1 := Lib.hid (ifF Bool.false_ne_true HL1.out)
                                go_quiet (first | (go_at_call 10; exact quiet_left (HC137.out _)))
                                generalize hW : World.drewN W121 _ = W141
                                have hd : Dr W121 W141 := ⟨_, hW.symm⟩
                                clear hW
                                try clear f129 f130 f131 f132
                                replace HOA := Lib.hid (HOA.out.below (hd.below _))
                                replace HD := Lib.hid (HD.out.trans ((hd.below _).mono HD.out.size))
                                replace HW1 := Lib.hid (HW1.out.trans ((hd.below _).mono HW1.out.size))
                                clear hd
                                obtain rfl := Option.some.inj HL1.out
                                have hm := HM.out; try dsimp only at hm
                                replace HM := Lib.hid hm; clear hm
                                obtain rfl := Option.some.inj HM.out
                                go_wp2_with fail
                                go_ret
                                exact ⟨rfl, HD.out⟩
                              · replace HL1 := Lib.hid (ifT rfl HL1.out)
                                go_quiet (first | (go_at_call 10; exact quiet_left (HC137.out _)))
                                generalize hW : World.drewN W121 _ = W142
                                have hd : Dr W121 W142 := ⟨_, hW.symm⟩
                                clear hW
                                try clear f129 f130 f131 f132
                                replace HOA := Lib.hid (HOA.out.below (hd.below _))
                                replace HD := Lib.hid (HD.out.trans ((hd.below _).mono HD.out.size))
                                replace HW1 := Lib.hid (HW1.out.trans ((hd.below _).mono HW1.out.size))
                                clear hd
                                go_wp2_with fail
                                go_roundg g1
                                case measure => omega
                                case rel => exact ⟨(wrap64 (x119 + 1)), rfl, HW1, HL1⟩
                            · replace HL1 := Lib.hid (ifF hc122 HL1.out)
                              have hc122d := decide_eq_false hc122
                              have HK123 := Lib.hid hc122
                              obtain rfl := Option.some.inj HL1.out
                              have hm := HM.out; try dsimp only at hm
                              replace HM := Lib.hid hm; clear hm
                              obtain rfl := Option.some.inj HM.out
                              go_wp2_with fail
                              go_ret
                              exact ⟨(by first | rfl | (refine congrArg (fun b => Ending.returned (Value.bool b)) ?_; first | (exact decide_eq_true (by omega)) | (exact decide_eq_false (by omega)))), HD.out⟩
                      · replace HM := Lib.hid (ifT rfl HM.out)
                        obtain rfl := Option.some.inj HM.out
                        go_wp2_with fail
                        go_ret
                        exact ⟨rfl, HD.out⟩
                · replace HM := Lib.hid (ifT rfl HM.out)
                  obtain rfl := Option.some.inj HM.out
                  go_wp2_with fail
                  go_ret
                  exact ⟨rfl, HD.out⟩
            · rw [errV_pos _ hz45] at HC42; replace HC42 := Lib.hid HC42
              go_wp2_with fail
              refine HC42.out.mono ?_; rintro e W49 ⟨V50, rfl, ho, hd⟩
              replace HOA := Lib.hid (HOA.out.call hd HD.out.size ho); clear ho
              replace HD := Lib.hid (HD.out.trans (hd.mono HD.out.size))
              clear hd
              have HZ52 := Lib.hid hz45; clear hz45
              replace HM := Lib.hid (ifT (bne_iff_ne.2 HZ52.out) HM.out)
              obtain ⟨b143, hb, hm⟩ := obind HM.out
              replace HM := Lib.hid hm; have HB144 := Lib.hid hb; clear hm hb
              obtain ⟨A145, cap146, he, _⟩ := HP.open_I HOA.out (List.Mem.head _)
              subst he
              rcases Bool.eq_false_or_eq_true (((y43).length : Int) == 0) with hc147 | hc147
              · replace HB144 := Lib.hid (ifT hc147 HB144.out)
                have HK148 := Lib.hid hc147
                obtain rfl := Option.some.inj HB144.out
                obtain rfl := Option.some.inj HM.out
                go_wp2_with fail
                go_ret
                exact ⟨(by first | rfl | (refine congrArg (fun b => Ending.returned (Value.bool b)) ?_; first | (exact decide_eq_true (by omega)) | (exact decide_eq_false (by omega)))), HD.out⟩
              · replace HB144 := Lib.hid (ifF (bF hc147) HB144.out)
                have HK148 := Lib.hid hc147
                obtain rfl := Option.some.inj HB144.out
                obtain rfl := Option.some.inj HM.out
                go_wp2_with fail
                go_ret
                exact ⟨(by first | rfl | (refine congrArg (fun b => Ending.returned (Value.bool b)) ?_; first | (exact decide_eq_true (by omega)) | (exact decide_eq_false (by omega)))), HD.out⟩
          · replace HM := Lib.hid (ifT rfl HM.out)
            obtain rfl := Option.some.inj HM.out
            go_wp2_with fail
            go_ret
            exact ⟨rfl, HD.out⟩
      · rw [errV_pos _ hz23] at HC18; replace HC18 := Lib.hid HC18
        go_wp2_with fail
        refine HC18.out.mono ?_; rintro e W27 ⟨V28, rfl, ho, hd⟩
        replace HOA := Lib.hid (HOA.out.call hd HD.out.size ho); clear ho
        replace HD := Lib.hid (HD.out.trans (hd.mono HD.out.size))
        clear hd
        have HZ30 := Lib.hid hz23; clear hz23
        go_upto_region 7 with (fail)
        obtain ⟨b149, hb, hm⟩ := obind HM.out
        replace HM := Lib.hid hm; have HB150 := Lib.hid hb; clear hm hb
        go_cut [39] (fun uq wr => uq = .bool b149 ∧ Hid (Below W27.heap.size W27 wr))
        case first =>
          have HWC151 := Lib.hid (Below.refl W27.heap.size W27)
          replace HB150 := Lib.hid (ifT (bne_iff_ne.2 HZ30.out) HB150.out)
          cases Option.some.inj HB150.out
          try go_wp2_with fail
          go_meet
          case rel => exact ⟨rfl, HWC151⟩
        case rest =>
          obtain ⟨rfl, HWC151⟩ := hcut
          rename World => W152
          have hd := HWC151.out
          replace HOA := Lib.hid (HOA.out.below hd)
          replace HD := Lib.hid (HD.out.trans (hd.mono HD.out.size))
          clear hd
          cases b149
          · replace HM := Lib.hid (ifF Bool.false_ne_true HM.out)
            obtain ⟨⟨y155, y156⟩, hy153, hm⟩ := obind HM.out
            dsimp only at hm
            replace HM := Lib.hid hm; clear hm
            have HC154 := prufer_Write_ok W152 cap1 (rdL HD.out HR1.out) hy153
            clear hy153
            by_cases hz157 : y156 = 0
            · subst hz157
              rw [errV_zero] at HC154; replace HC154 := Lib.hid HC154
              go_wp2_with fail
              refine HC154.out.mono ?_; rintro e W158 ⟨V159, rfl, ho, hd⟩
              replace HOA := Lib.hid (HOA.out.call hd HD.out.size ho); clear ho
              replace HD := Lib.hid (HD.out.trans (hd.mono HD.out.size))
              clear hd
              replace HM := Lib.hid (ifF (by decide) HM.out)
              go_upto_region 14 with (fail)
              obtain ⟨b165, hb, hm⟩ := obind HM.out
              replace HM := Lib.hid hm; have HB166 := Lib.hid hb; clear hm hb
              go_cut [64] (fun uq wr => uq = .bool b165 ∧ Hid (Below W158.heap.size W158 wr))
              case first =>
                have HWC167 := Lib.hid (Below.refl W158.heap.size W158)
                obtain ⟨y170, hy168, hm⟩ := obind HB166.out
                replace HB166 := Lib.hid hm; clear hm
                have HC169 := R3_Tree_ok W158 cap1 (rdL HD.out HR1.out) hy168
                clear hy168
                replace HC169 := Lib.hid HC169
                go_wp2_with fail
                refine HC169.out.mono ?_; rintro e W171 ⟨rfl, hd⟩
                replace HOA := Lib.hid (HOA.out.below hd)
                replace HD := Lib.hid (HD.out.trans (hd.mono HD.out.size))
                replace HWC167 := Lib.hid (HWC167.out.trans (hd.mono HWC167.out.size))
                clear hd
                rcases Bool.eq_false_or_eq_true (y170 != 0) with hc172 | hc172
                · replace HB166 := Lib.hid (ifT hc172 HB166.out)
                  have HK173 := Lib.hid hc172
                  cases Option.some.inj HB166.out
                  try go_wp2_with fail
                  go_meet
                  case rel => exact ⟨rfl, HWC167⟩
                · replace HB166 := Lib.hid (ifF (bF hc172) HB166.out)
                  have HK173 := Lib.hid hc172
                  obtain ⟨A174, cap175, he, _⟩ := HP.open_I HOA.out (List.Mem.head _)
                  subst he
                  rcases Bool.eq_false_or_eq_true (((y155).length : Int) != (wrap64 (v0 - 2))) with hc176 | hc176
                  · replace HB166 := Lib.hid (ifT hc176 HB166.out)
                    have HK177 := Lib.hid hc176
                    cases Option.some.inj HB166.out
                    try go_wp2_with fail
                    go_meet
                    case rel => exact ⟨rfl, HWC167⟩
                  · replace HB166 := Lib.hid (ifF (bF hc176) HB166.out)
                    have HK177 := Lib.hid hc176
                    cases Option.some.inj HB166.out
                    try go_wp2_with fail
                    go_meet
                    case rel => exact ⟨rfl, HWC167⟩
              case rest =>
                obtain ⟨rfl, HWC167⟩ := hcut
                rename World => W178
                have hd := HWC167.out
                replace HOA := Lib.hid (HOA.out.below hd)
                replace HD := Lib.hid (HD.out.trans (hd.mono HD.out.size))
                clear hd
                cases b165
                · replace HM := Lib.hid (ifF Bool.false_ne_true HM.out)
                  obtain ⟨⟨y181, y182⟩, hy179, hm⟩ := obind HM.out
                  dsimp only at hm
                  replace HM := Lib.hid hm; clear hm
                  obtain ⟨A183, cap184, he, _⟩ := HP.open_I HOA.out (List.Mem.head _)
                  subst he
                  have HC180 := prufer_Read_ok W178 cap184 (HP.rd_I HOA.out (List.Mem.head _)) hy179
                  clear hy179
                  by_cases hz185 : y182 = 0
                  · subst hz185
                    rw [errV_zero] at HC180; replace HC180 := Lib.hid HC180
                    go_wp2_with fail
                    refine HC180.out.mono ?_; rintro e W186 ⟨V187, rfl, ho, hd⟩
                    replace HOA := Lib.hid (HOA.out.call hd HD.out.size ho); clear ho
                    replace HD := Lib.hid (HD.out.trans (hd.mono HD.out.size))
                    clear hd
                    go_upto_region 17 with (fail)
                    obtain ⟨b193, hb, hm⟩ := obind HM.out
                    replace HM := Lib.hid hm; have HB194 := Lib.hid hb; clear hm hb
                    go_cut [78] (fun uq wr => uq = .bool b193 ∧ Hid (Below W186.heap.size W186 wr))
                    case first =>
                      have HWC195 := Lib.hid (Below.refl W186.heap.size W186)
                      replace HB194 := Lib.hid (ifF (by decide) HB194.out)
                      obtain ⟨A196, cap197, he, _⟩ := HP.open_L HOA.out (List.Mem.head _)
                      subst he
                      rcases Bool.eq_false_or_eq_true (((y181).length : Int) != ((v1).length : Int)) with hc198 | hc198
                      · replace HB194 := Lib.hid (ifT hc198 HB194.out)
                        have HK199 := Lib.hid hc198
                        cases Option.some.inj HB194.out
                        try go_wp2_with fail
                        go_meet
                        case rel => exact ⟨rfl, HWC195⟩
                      · replace HB194 := Lib.hid (ifF (bF hc198) HB194.out)
                        have HK199 := Lib.hid hc198
                        cases Option.some.inj HB194.out
                        try go_wp2_with fail
                        go_meet
                        case rel => exact ⟨rfl, HWC195⟩
                    case rest =>
                      obtain ⟨rfl, HWC195⟩ := hcut
                      rename World => W200
                      have hd := HWC195.out
                      replace HOA := Lib.hid (HOA.out.below hd)
                      replace HD := Lib.hid (HD.out.trans (hd.mono HD.out.size))
                      clear hd
                      cases b193
                      · replace HM := Lib.hid (ifF Bool.false_ne_true HM.out)
                        go_wp2_with fail
                        obtain ⟨o201, ho, hm⟩ := obind HM.out
                        replace HM := Lib.hid hm; have HL1 := Lib.hid ho; clear hm ho
                        go_loopg [13] F (fun gg ux203 wr => ∃ (x202 : Int), ux203 = .int .i64 x202 ∧ Hid (Below W200.heap.size W200 wr) ∧ Hid (L3_PruferBack_L1 F (v1) (y181) gg x202 = some o201))
                        case atStart => exact ⟨0, rfl, (Lib.hid (Below.refl _ _)), HL1⟩
                        case round =>
                          obtain ⟨x202, rfl, HW1, HL1⟩ := hrel
                          rename World => W204
                          have hd := HW1.out
                          replace HOA := Lib.hid (HOA.out.below hd)
                          replace HD := Lib.hid (HD.out.trans (hd.mono HD.out.size))
                          clear hd
                          cases gk with
                          | zero => exact absurd ((L3_PruferBack_L1_0 ..).symm.trans HL1.out) (by intro h; cases h)
                          | succ g1 =>
                            replace HL1 := Lib.hid ((L3_PruferBack_L1_s ..).symm.trans HL1.out)
                            by_cases hc205 : x202 < ((v1).length : Int)
                            · replace HL1 := Lib.hid (ifT hc205 HL1.out)
                              have HK206 := Lib.hid hc205
                              try go_wp2_with fail
                              try clear hc205
                              obtain ⟨y207, hy208, hm⟩ := obind HL1.out
                              replace HL1 := Lib.hid hm; clear hm
                              obtain ⟨b209, o210, ea211, _, f212, f213, f214, f215⟩ := ReadsL.ix (rdL HD.out HR1.out) hy208
                              cases ea211
                              try simp only [Nat.zero_add, Nat.add_zero, Int.toNat_natCast, Int.toNat_zero, Int.toNat_one] at f214 f215
                              have HY216 := Lib.hid hy208; clear hy208
                              obtain ⟨y217, hy218, hm⟩ := obind HL1.out
                              replace HL1 := Lib.hid hm; clear hm
                              obtain rfl := Option.some.inj (HY216.out.symm.trans hy218)
                              clear hy218
                              obtain ⟨y221, hy219, hm⟩ := obind HL1.out
                              replace HL1 := Lib.hid hm; clear hm
                              obtain ⟨A222, cap223, he, _⟩ := HP.open_L HOA.out (List.Mem.head _)
                              subst he
                              have HC220 := Lib.hid (fun m => R1_Beside_ok (W204.drewN m) cap223 (ReadsL.drewN' (HP.rd_L HOA.out (List.Mem.head _)) m) hy219)
                              clear hy219
                              cases y221
                              · replace HL1 := Lib.hid (ifF Bool.false_ne_true HL1.out)
                                go_quiet (first | (go_at_call 10; exact quiet_left (HC220.out _)))
                                generalize hW : World.drewN W204 _ = W224
                                have hd : Dr W204 W224 := ⟨_, hW.symm⟩
                                clear hW
                                try clear f212 f213 f214 f215
                                replace HOA := Lib.hid (HOA.out.below (hd.below _))
                                replace HD := Lib.hid (HD.out.trans ((hd.below _).mono HD.out.size))
                                replace HW1 := Lib.hid (HW1.out.trans ((hd.below _).mono HW1.out.size))
                                clear hd
                                obtain rfl := Option.some.inj HL1.out
                                have hm := HM.out; try dsimp only at hm
                                replace HM := Lib.hid hm; clear hm
                                obtain rfl := Option.some.inj HM.out
                                go_wp2_with fail
                                go_ret
                                exact ⟨rfl, HD.out⟩
                              · replace HL1 := Lib.hid (ifT rfl HL1.out)
                                go_quiet (first | (go_at_call 10; exact quiet_left (HC220.out _)))
                                generalize hW : World.drewN W204 _ = W225
                                have hd : Dr W204 W225 := ⟨_, hW.symm⟩
                                clear hW
                                try clear f212 f213 f214 f215
                                replace HOA := Lib.hid (HOA.out.below (hd.below _))
                                replace HD := Lib.hid (HD.out.trans ((hd.below _).mono HD.out.size))
                                replace HW1 := Lib.hid (HW1.out.trans ((hd.below _).mono HW1.out.size))
                                clear hd
                                go_wp2_with fail
                                go_roundg g1
                                case measure => omega
                                case rel => exact ⟨(wrap64 (x202 + 1)), rfl, HW1, HL1⟩
                            · replace HL1 := Lib.hid (ifF hc205 HL1.out)
                              have hc205d := decide_eq_false hc205
                              have HK206 := Lib.hid hc205
                              obtain rfl := Option.some.inj HL1.out
                              have hm := HM.out; try dsimp only at hm
                              replace HM := Lib.hid hm; clear hm
                              obtain rfl := Option.some.inj HM.out
                              go_wp2_with fail
                              go_ret
                              exact ⟨(by first | rfl | (refine congrArg (fun b => Ending.returned (Value.bool b)) ?_; first | (exact decide_eq_true (by omega)) | (exact decide_eq_false (by omega)))), HD.out⟩
                      · replace HM := Lib.hid (ifT rfl HM.out)
                        obtain rfl := Option.some.inj HM.out
                        go_wp2_with fail
                        go_ret
                        exact ⟨rfl, HD.out⟩
                  · rw [errV_pos _ hz185] at HC180; replace HC180 := Lib.hid HC180
                    go_wp2_with fail
                    refine HC180.out.mono ?_; rintro e W189 ⟨V190, rfl, ho, hd⟩
                    replace HOA := Lib.hid (HOA.out.call hd HD.out.size ho); clear ho
                    replace HD := Lib.hid (HD.out.trans (hd.mono HD.out.size))
                    clear hd
                    have HZ192 := Lib.hid hz185; clear hz185
                    go_upto_region 17 with (fail)
                    obtain ⟨b226, hb, hm⟩ := obind HM.out
                    replace HM := Lib.hid hm; have HB227 := Lib.hid hb; clear hm hb
                    go_cut [78] (fun uq wr => uq = .bool b226 ∧ Hid (Below W189.heap.size W189 wr))
                    case first =>
                      have HWC228 := Lib.hid (Below.refl W189.heap.size W189)
                      replace HB227 := Lib.hid (ifT (bne_iff_ne.2 HZ192.out) HB227.out)
                      cases Option.some.inj HB227.out
                      try go_wp2_with fail
                      go_meet
                      case rel => exact ⟨rfl, HWC228⟩
                    case rest =>
                      obtain ⟨rfl, HWC228⟩ := hcut
                      rename World => W229
                      have hd := HWC228.out
                      replace HOA := Lib.hid (HOA.out.below hd)
                      replace HD := Lib.hid (HD.out.trans (hd.mono HD.out.size))
                      clear hd
                      cases b226
                      · replace HM := Lib.hid (ifF Bool.false_ne_true HM.out)
                        go_wp2_with fail
                        obtain ⟨o230, ho, hm⟩ := obind HM.out
                        replace HM := Lib.hid hm; have HL1 := Lib.hid ho; clear hm ho
                        go_loopg [13] F (fun gg ux232 wr => ∃ (x231 : Int), ux232 = .int .i64 x231 ∧ Hid (Below W229.heap.size W229 wr) ∧ Hid (L3_PruferBack_L1 F (v1) (y181) gg x231 = some o230))
                        case atStart => exact ⟨0, rfl, (Lib.hid (Below.refl _ _)), HL1⟩
                        case round =>
                          obtain ⟨x231, rfl, HW1, HL1⟩ := hrel
                          rename World => W233
                          have hd := HW1.out
                          replace HOA := Lib.hid (HOA.out.below hd)
                          replace HD := Lib.hid (HD.out.trans (hd.mono HD.out.size))
                          clear hd
                          cases gk with
                          | zero => exact absurd ((L3_PruferBack_L1_0 ..).symm.trans HL1.out) (by intro h; cases h)
                          | succ g1 =>
                            replace HL1 := Lib.hid ((L3_PruferBack_L1_s ..).symm.trans HL1.out)
                            by_cases hc234 : x231 < ((v1).length : Int)
                            · replace HL1 := Lib.hid (ifT hc234 HL1.out)
                              have HK235 := Lib.hid hc234
                              try go_wp2_with fail
                              try clear hc234
                              obtain ⟨y236, hy237, hm⟩ := obind HL1.out
                              replace HL1 := Lib.hid hm; clear hm
                              obtain ⟨b238, o239, ea240, _, f241, f242, f243, f244⟩ := ReadsL.ix (rdL HD.out HR1.out) hy237
                              cases ea240
                              try simp only [Nat.zero_add, Nat.add_zero, Int.toNat_natCast, Int.toNat_zero, Int.toNat_one] at f243 f244
                              have HY245 := Lib.hid hy237; clear hy237
                              obtain ⟨y246, hy247, hm⟩ := obind HL1.out
                              replace HL1 := Lib.hid hm; clear hm
                              obtain rfl := Option.some.inj (HY245.out.symm.trans hy247)
                              clear hy247
                              obtain ⟨y250, hy248, hm⟩ := obind HL1.out
                              replace HL1 := Lib.hid hm; clear hm
                              obtain ⟨A251, cap252, he, _⟩ := HP.open_L HOA.out (List.Mem.head _)
                              subst he
                              have HC249 := Lib.hid (fun m => R1_Beside_ok (W233.drewN m) cap252 (ReadsL.drewN' (HP.rd_L HOA.out (List.Mem.head _)) m) hy248)
                              clear hy248
                              cases y250
                              · replace HL1 := Lib.hid (ifF Bool.false_ne_true HL1.out)
                                go_quiet (first | (go_at_call 10; exact quiet_left (HC249.out _)))
                                generalize hW : World.drewN W233 _ = W253
                                have hd : Dr W233 W253 := ⟨_, hW.symm⟩
                                clear hW
                                try clear f241 f242 f243 f244
                                replace HOA := Lib.hid (HOA.out.below (hd.below _))
                                replace HD := Lib.hid (HD.out.trans ((hd.below _).mono HD.out.size))
                                replace HW1 := Lib.hid (HW1.out.trans ((hd.below _).mono HW1.out.size))
                                clear hd
                                obtain rfl := Option.some.inj HL1.out
                                have hm := HM.out; try dsimp only at hm
                                replace HM := Lib.hid hm; clear hm
                                obtain rfl := Option.some.inj HM.out
                                go_wp2_with fail
                                go_ret
                                exact ⟨rfl, HD.out⟩
                              · replace HL1 := Lib.hid (ifT rfl HL1.out)
                                go_quiet (first | (go_at_call 10; exact quiet_left (HC249.out _)))
                                generalize hW : World.drewN W233 _ = W254
                                have hd : Dr W233 W254 := ⟨_, hW.symm⟩
                                clear hW
                                try clear f241 f242 f243 f244
                                replace HOA := Lib.hid (HOA.out.below (hd.below _))
                                replace HD := Lib.hid (HD.out.trans ((hd.below _).mono HD.out.size))
                                replace HW1 := Lib.hid (HW1.out.trans ((hd.below _).mono HW1.out.size))
                                clear hd
                                go_wp2_with fail
                                go_roundg g1
                                case measure => omega
                                case rel => exact ⟨(wrap64 (x231 + 1)), rfl, HW1, HL1⟩
                            · replace HL1 := Lib.hid (ifF hc234 HL1.out)
                              have hc234d := decide_eq_false hc234
                              have HK235 := Lib.hid hc234
                              obtain rfl := Option.some.inj HL1.out
                              have hm := HM.out; try dsimp only at hm
                              replace HM := Lib.hid hm; clear hm
                              obtain rfl := Option.some.inj HM.out
                              go_wp2_with fail
                              go_ret
                              exact ⟨(by first | rfl | (refine congrArg (fun b => Ending.returned (Value.bool b)) ?_; first | (exact decide_eq_true (by omega)) | (exact decide_eq_false (by omega)))), HD.out⟩
                      · replace HM := Lib.hid (ifT rfl HM.out)
                        obtain rfl := Option.some.inj HM.out
                        go_wp2_with fail
                        go_ret
                        exact ⟨rfl, HD.out⟩
                · replace HM := Lib.hid (ifT rfl HM.out)
                  obtain rfl := Option.some.inj HM.out
                  go_wp2_with fail
                  go_ret
                  exact ⟨rfl, HD.out⟩
            · rw [errV_pos _ hz157] at HC154; replace HC154 := Lib.hid HC154
              go_wp2_with fail
              refine HC154.out.mono ?_; rintro e W161 ⟨V162, rfl, ho, hd⟩
              replace HOA := Lib.hid (HOA.out.call hd HD.out.size ho); clear ho
              replace HD := Lib.hid (HD.out.trans (hd.mono HD.out.size))
              clear hd
              have HZ164 := Lib.hid hz157; clear hz157
              replace HM := Lib.hid (ifT (bne_iff_ne.2 HZ164.out) HM.out)
              obtain ⟨b255, hb, hm⟩ := obind HM.out
              replace HM := Lib.hid hm; have HB256 := Lib.hid hb; clear hm hb
              obtain ⟨A257, cap258, he, _⟩ := HP.open_I HOA.out (List.Mem.head _)
              subst he
              rcases Bool.eq_false_or_eq_true (((y155).length : Int) == 0) with hc259 | hc259
              · replace HB256 := Lib.hid (ifT hc259 HB256.out)
                have HK260 := Lib.hid hc259
                obtain rfl := Option.some.inj HB256.out
                obtain rfl := Option.some.inj HM.out
                go_wp2_with fail
                go_ret
                exact ⟨(by first | rfl | (refine congrArg (fun b => Ending.returned (Value.bool b)) ?_; first | (exact decide_eq_true (by omega)) | (exact decide_eq_false (by omega)))), HD.out⟩
              · replace HB256 := Lib.hid (ifF (bF hc259) HB256.out)
                have HK260 := Lib.hid hc259
                obtain rfl := Option.some.inj HB256.out
                obtain rfl := Option.some.inj HM.out
                go_wp2_with fail
                go_ret
                exact ⟨(by first | rfl | (refine congrArg (fun b => Ending.returned (Value.bool b)) ?_; first | (exact decide_eq_true (by omega)) | (exact decide_eq_false (by omega)))), HD.out⟩
          · replace HM := Lib.hid (ifT rfl HM.out)
            obtain rfl := Option.some.inj HM.out
            go_wp2_with fail
            go_ret
            exact ⟨rfl, HD.out⟩
    · rw [errV_pos _ hz9] at HC6; replace HC6 := Lib.hid HC6
      go_wp2_with fail
      refine HC6.out.mono ?_; rintro e W13 ⟨V14, rfl, ho, hd⟩
      replace HOA := Lib.hid (HOA.out.call hd HD.out.size ho); clear ho
      replace HD := Lib.hid (HD.out.trans (hd.mono HD.out.size))
      clear hd
      have HZ16 := Lib.hid hz9; clear hz9
      replace HM := Lib.hid (ifF (fun h => HZ16.out (eq_of_beq h)) HM.out)
      obtain ⟨A261, cap262, he, _⟩ := HP.open_L HOA.out (List.Mem.head _)
      subst he
      rcases Bool.eq_false_or_eq_true (((y7).length : Int) != 0) with hc263 | hc263
      · replace HM := Lib.hid (ifT hc263 HM.out)
        have HK264 := Lib.hid hc263
        obtain rfl := Option.some.inj HM.out
        go_wp2_with fail
        go_ret
        exact ⟨(by first | rfl | (refine congrArg (fun b => Ending.returned (Value.bool b)) ?_; first | (exact decide_eq_true (by omega)) | (exact decide_eq_false (by omega)))), HD.out⟩
      · replace HM := Lib.hid (ifF (bF hc263) HM.out)
        have HK264 := Lib.hid hc263
        obtain ⟨⟨y267, y268⟩, hy265, hm⟩ := obind HM.out
        dsimp only at hm
        replace HM := Lib.hid hm; clear hm
        have HC266 := prufer_Write_ok W13 cap1 (rdL HD.out HR1.out) hy265
        clear hy265
        by_cases hz269 : y268 = 0
        · subst hz269
          rw [errV_zero] at HC266; replace HC266 := Lib.hid HC266
          go_wp2_with fail
          refine HC266.out.mono ?_; rintro e W270 ⟨V271, rfl, ho, hd⟩
          try clear hc263
          replace HOA := Lib.hid (HOA.out.call hd HD.out.size ho); clear ho
          replace HD := Lib.hid (HD.out.trans (hd.mono HD.out.size))
          clear hd
          replace HM := Lib.hid (ifF (by decide) HM.out)
          go_upto_region 14 with (fail)
          obtain ⟨b277, hb, hm⟩ := obind HM.out
          replace HM := Lib.hid hm; have HB278 := Lib.hid hb; clear hm hb
          go_cut [64] (fun uq wr => uq = .bool b277 ∧ Hid (Below W270.heap.size W270 wr))
          case first =>
            have HWC279 := Lib.hid (Below.refl W270.heap.size W270)
            obtain ⟨y282, hy280, hm⟩ := obind HB278.out
            replace HB278 := Lib.hid hm; clear hm
            have HC281 := R3_Tree_ok W270 cap1 (rdL HD.out HR1.out) hy280
            clear hy280
            replace HC281 := Lib.hid HC281
            go_wp2_with fail
            refine HC281.out.mono ?_; rintro e W283 ⟨rfl, hd⟩
            replace HOA := Lib.hid (HOA.out.below hd)
            replace HD := Lib.hid (HD.out.trans (hd.mono HD.out.size))
            replace HWC279 := Lib.hid (HWC279.out.trans (hd.mono HWC279.out.size))
            clear hd
            rcases Bool.eq_false_or_eq_true (y282 != 0) with hc284 | hc284
            · replace HB278 := Lib.hid (ifT hc284 HB278.out)
              have HK285 := Lib.hid hc284
              cases Option.some.inj HB278.out
              try go_wp2_with fail
              go_meet
              case rel => exact ⟨rfl, HWC279⟩
            · replace HB278 := Lib.hid (ifF (bF hc284) HB278.out)
              have HK285 := Lib.hid hc284
              obtain ⟨A286, cap287, he, _⟩ := HP.open_I HOA.out (List.Mem.head _)
              subst he
              rcases Bool.eq_false_or_eq_true (((y267).length : Int) != (wrap64 (v0 - 2))) with hc288 | hc288
              · replace HB278 := Lib.hid (ifT hc288 HB278.out)
                have HK289 := Lib.hid hc288
                cases Option.some.inj HB278.out
                try go_wp2_with fail
                go_meet
                case rel => exact ⟨rfl, HWC279⟩
              · replace HB278 := Lib.hid (ifF (bF hc288) HB278.out)
                have HK289 := Lib.hid hc288
                cases Option.some.inj HB278.out
                try go_wp2_with fail
                go_meet
                case rel => exact ⟨rfl, HWC279⟩
          case rest =>
            obtain ⟨rfl, HWC279⟩ := hcut
            rename World => W290
            have hd := HWC279.out
            replace HOA := Lib.hid (HOA.out.below hd)
            replace HD := Lib.hid (HD.out.trans (hd.mono HD.out.size))
            clear hd
            cases b277
            · replace HM := Lib.hid (ifF Bool.false_ne_true HM.out)
              obtain ⟨⟨y293, y294⟩, hy291, hm⟩ := obind HM.out
              dsimp only at hm
              replace HM := Lib.hid hm; clear hm
              obtain ⟨A295, cap296, he, _⟩ := HP.open_I HOA.out (List.Mem.head _)
              subst he
              have HC292 := prufer_Read_ok W290 cap296 (HP.rd_I HOA.out (List.Mem.head _)) hy291
              clear hy291
              by_cases hz297 : y294 = 0
              · subst hz297
                rw [errV_zero] at HC292; replace HC292 := Lib.hid HC292
                go_wp2_with fail
                refine HC292.out.mono ?_; rintro e W298 ⟨V299, rfl, ho, hd⟩
                replace HOA := Lib.hid (HOA.out.call hd HD.out.size ho); clear ho
                replace HD := Lib.hid (HD.out.trans (hd.mono HD.out.size))
                clear hd
                go_upto_region 17 with (fail)
                obtain ⟨b305, hb, hm⟩ := obind HM.out
                replace HM := Lib.hid hm; have HB306 := Lib.hid hb; clear hm hb
                go_cut [78] (fun uq wr => uq = .bool b305 ∧ Hid (Below W298.heap.size W298 wr))
                case first =>
                  have HWC307 := Lib.hid (Below.refl W298.heap.size W298)
                  replace HB306 := Lib.hid (ifF (by decide) HB306.out)
                  obtain ⟨A308, cap309, he, _⟩ := HP.open_L HOA.out (List.Mem.head _)
                  subst he
                  rcases Bool.eq_false_or_eq_true (((y293).length : Int) != ((v1).length : Int)) with hc310 | hc310
                  · replace HB306 := Lib.hid (ifT hc310 HB306.out)
                    have HK311 := Lib.hid hc310
                    cases Option.some.inj HB306.out
                    try go_wp2_with fail
                    go_meet
                    case rel => exact ⟨rfl, HWC307⟩
                  · replace HB306 := Lib.hid (ifF (bF hc310) HB306.out)
                    have HK311 := Lib.hid hc310
                    cases Option.some.inj HB306.out
                    try go_wp2_with fail
                    go_meet
                    case rel => exact ⟨rfl, HWC307⟩
                case rest =>
                  obtain ⟨rfl, HWC307⟩ := hcut
                  rename World => W312
                  have hd := HWC307.out
                  replace HOA := Lib.hid (HOA.out.below hd)
                  replace HD := Lib.hid (HD.out.trans (hd.mono HD.out.size))
                  clear hd
                  cases b305
                  · replace HM := Lib.hid (ifF Bool.false_ne_true HM.out)
                    go_wp2_with fail
                    obtain ⟨o313, ho, hm⟩ := obind HM.out
                    replace HM := Lib.hid hm; have HL1 := Lib.hid ho; clear hm ho
                    go_loopg [13] F (fun gg ux315 wr => ∃ (x314 : Int), ux315 = .int .i64 x314 ∧ Hid (Below W312.heap.size W312 wr) ∧ Hid (L3_PruferBack_L1 F (v1) (y293) gg x314 = some o313))
                    case atStart => exact ⟨0, rfl, (Lib.hid (Below.refl _ _)), HL1⟩
                    case round =>
                      obtain ⟨x314, rfl, HW1, HL1⟩ := hrel
                      rename World => W316
                      have hd := HW1.out
                      replace HOA := Lib.hid (HOA.out.below hd)
                      replace HD := Lib.hid (HD.out.trans (hd.mono HD.out.size))
                      clear hd
                      cases gk with
                      | zero => exact absurd ((L3_PruferBack_L1_0 ..).symm.trans HL1.out) (by intro h; cases h)
                      | succ g1 =>
                        replace HL1 := Lib.hid ((L3_PruferBack_L1_s ..).symm.trans HL1.out)
                        by_cases hc317 : x314 < ((v1).length : Int)
                        · replace HL1 := Lib.hid (ifT hc317 HL1.out)
                          have HK318 := Lib.hid hc317
                          try go_wp2_with fail
                          try clear hc317
                          obtain ⟨y319, hy320, hm⟩ := obind HL1.out
                          replace HL1 := Lib.hid hm; clear hm
                          obtain ⟨b321, o322, ea323, _, f324, f325, f326, f327⟩ := ReadsL.ix (rdL HD.out HR1.out) hy320
                          cases ea323
                          try simp only [Nat.zero_add, Nat.add_zero, Int.toNat_natCast, Int.toNat_zero, Int.toNat_one] at f326 f327
                          have HY328 := Lib.hid hy320; clear hy320
                          obtain ⟨y329, hy330, hm⟩ := obind HL1.out
                          replace HL1 := Lib.hid hm; clear hm
                          obtain rfl := Option.some.inj (HY328.out.symm.trans hy330)
                          clear hy330
                          obtain ⟨y333, hy331, hm⟩ := obind HL1.out
                          replace HL1 := Lib.hid hm; clear hm
                          obtain ⟨A334, cap335, he, _⟩ := HP.open_L HOA.out (List.Mem.head _)
                          subst he
                          have HC332 := Lib.hid (fun m => R1_Beside_ok (W316.drewN m) cap335 (ReadsL.drewN' (HP.rd_L HOA.out (List.Mem.head _)) m) hy331)
                          clear hy331
                          cases y333
                          · replace HL1 := Lib.hid (ifF Bool.false_ne_true HL1.out)
                            go_quiet (first | (go_at_call 10; exact quiet_left (HC332.out _)))
                            generalize hW : World.drewN W316 _ = W336
                            have hd : Dr W316 W336 := ⟨_, hW.symm⟩
                            clear hW
                            try clear f324 f325 f326 f327
                            replace HOA := Lib.hid (HOA.out.below (hd.below _))
                            replace HD := Lib.hid (HD.out.trans ((hd.below _).mono HD.out.size))
                            replace HW1 := Lib.hid (HW1.out.trans ((hd.below _).mono HW1.out.size))
                            clear hd
                            obtain rfl := Option.some.inj HL1.out
                            have hm := HM.out; try dsimp only at hm
                            replace HM := Lib.hid hm; clear hm
                            obtain rfl := Option.some.inj HM.out
                            go_wp2_with fail
                            go_ret
                            exact ⟨rfl, HD.out⟩
                          · replace HL1 := Lib.hid (ifT rfl HL1.out)
                            go_quiet (first | (go_at_call 10; exact quiet_left (HC332.out _)))
                            generalize hW : World.drewN W316 _ = W337
                            have hd : Dr W316 W337 := ⟨_, hW.symm⟩
                            clear hW
                            try clear f324 f325 f326 f327
                            replace HOA := Lib.hid (HOA.out.below (hd.below _))
                            replace HD := Lib.hid (HD.out.trans ((hd.below _).mono HD.out.size))
                            replace HW1 := Lib.hid (HW1.out.trans ((hd.below _).mono HW1.out.size))
                            clear hd
                            go_wp2_with fail
                            go_roundg g1
                            case measure => omega
                            case rel => exact ⟨(wrap64 (x314 + 1)), rfl, HW1, HL1⟩
                        · replace HL1 := Lib.hid (ifF hc317 HL1.out)
                          have hc317d := decide_eq_false hc317
                          have HK318 := Lib.hid hc317
                          obtain rfl := Option.some.inj HL1.out
                          have hm := HM.out; try dsimp only at hm
                          replace HM := Lib.hid hm; clear hm
                          obtain rfl := Option.some.inj HM.out
                          go_wp2_with fail
                          go_ret
                          exact ⟨(by first | rfl | (refine congrArg (fun b => Ending.returned (Value.bool b)) ?_; first | (exact decide_eq_true (by omega)) | (exact decide_eq_false (by omega)))), HD.out⟩
                  · replace HM := Lib.hid (ifT rfl HM.out)
                    obtain rfl := Option.some.inj HM.out
                    go_wp2_with fail
                    go_ret
                    exact ⟨rfl, HD.out⟩
              · rw [errV_pos _ hz297] at HC292; replace HC292 := Lib.hid HC292
                go_wp2_with fail
                refine HC292.out.mono ?_; rintro e W301 ⟨V302, rfl, ho, hd⟩
                replace HOA := Lib.hid (HOA.out.call hd HD.out.size ho); clear ho
                replace HD := Lib.hid (HD.out.trans (hd.mono HD.out.size))
                clear hd
                have HZ304 := Lib.hid hz297; clear hz297
                go_upto_region 17 with (fail)
                obtain ⟨b338, hb, hm⟩ := obind HM.out
                replace HM := Lib.hid hm; have HB339 := Lib.hid hb; clear hm hb
                go_cut [78] (fun uq wr => uq = .bool b338 ∧ Hid (Below W301.heap.size W301 wr))
                case first =>
                  have HWC340 := Lib.hid (Below.refl W301.heap.size W301)
                  replace HB339 := Lib.hid (ifT (bne_iff_ne.2 HZ304.out) HB339.out)
                  cases Option.some.inj HB339.out
                  try go_wp2_with fail
                  go_meet
                  case rel => exact ⟨rfl, HWC340⟩
                case rest =>
                  obtain ⟨rfl, HWC340⟩ := hcut
                  rename World => W341
                  have hd := HWC340.out
                  replace HOA := Lib.hid (HOA.out.below hd)
                  replace HD := Lib.hid (HD.out.trans (hd.mono HD.out.size))
                  clear hd
                  cases b338
                  · replace HM := Lib.hid (ifF Bool.false_ne_true HM.out)
                    go_wp2_with fail
                    obtain ⟨o342, ho, hm⟩ := obind HM.out
                    replace HM := Lib.hid hm; have HL1 := Lib.hid ho; clear hm ho
                    go_loopg [13] F (fun gg ux344 wr => ∃ (x343 : Int), ux344 = .int .i64 x343 ∧ Hid (Below W341.heap.size W341 wr) ∧ Hid (L3_PruferBack_L1 F (v1) (y293) gg x343 = some o342))
                    case atStart => exact ⟨0, rfl, (Lib.hid (Below.refl _ _)), HL1⟩
                    case round =>
                      obtain ⟨x343, rfl, HW1, HL1⟩ := hrel
                      rename World => W345
                      have hd := HW1.out
                      replace HOA := Lib.hid (HOA.out.below hd)
                      replace HD := Lib.hid (HD.out.trans (hd.mono HD.out.size))
                      clear hd
                      cases gk with
                      | zero => exact absurd ((L3_PruferBack_L1_0 ..).symm.trans HL1.out) (by intro h; cases h)
                      | succ g1 =>
                        replace HL1 := Lib.hid ((L3_PruferBack_L1_s ..).symm.trans HL1.out)
                        by_cases hc346 : x343 < ((v1).length : Int)
                        · replace HL1 := Lib.hid (ifT hc346 HL1.out)
                          have HK347 := Lib.hid hc346
                          try go_wp2_with fail
                          try clear hc346
                          obtain ⟨y348, hy349, hm⟩ := obind HL1.out
                          replace HL1 := Lib.hid hm; clear hm
                          obtain ⟨b350, o351, ea352, _, f353, f354, f355, f356⟩ := ReadsL.ix (rdL HD.out HR1.out) hy349
                          cases ea352
                          try simp only [Nat.zero_add, Nat.add_zero, Int.toNat_natCast, Int.toNat_zero, Int.toNat_one] at f355 f356
                          have HY357 := Lib.hid hy349; clear hy349
                          obtain ⟨y358, hy359, hm⟩ := obind HL1.out
                          replace HL1 := Lib.hid hm; clear hm
                          obtain rfl := Option.some.inj (HY357.out.symm.trans hy359)
                          clear hy359
                          obtain ⟨y362, hy360, hm⟩ := obind HL1.out
                          replace HL1 := Lib.hid hm; clear hm
                          obtain ⟨A363, cap364, he, _⟩ := HP.open_L HOA.out (List.Mem.head _)
                          subst he
                          have HC361 := Lib.hid (fun m => R1_Beside_ok (W345.drewN m) cap364 (ReadsL.drewN' (HP.rd_L HOA.out (List.Mem.head _)) m) hy360)
                          clear hy360
                          cases y362
                          · replace HL1 := Lib.hid (ifF Bool.false_ne_true HL1.out)
                            go_quiet (first | (go_at_call 10; exact quiet_left (HC361.out _)))
                            generalize hW : World.drewN W345 _ = W365
                            have hd : Dr W345 W365 := ⟨_, hW.symm⟩
                            clear hW
                            try clear f353 f354 f355 f356
                            replace HOA := Lib.hid (HOA.out.below (hd.below _))
                            replace HD := Lib.hid (HD.out.trans ((hd.below _).mono HD.out.size))
                            replace HW1 := Lib.hid (HW1.out.trans ((hd.below _).mono HW1.out.size))
                            clear hd
                            obtain rfl := Option.some.inj HL1.out
                            have hm := HM.out; try dsimp only at hm
                            replace HM := Lib.hid hm; clear hm
                            obtain rfl := Option.some.inj HM.out
                            go_wp2_with fail
                            go_ret
                            exact ⟨rfl, HD.out⟩
                          · replace HL1 := Lib.hid (ifT rfl HL1.out)
                            go_quiet (first | (go_at_call 10; exact quiet_left (HC361.out _)))
                            generalize hW : World.drewN W345 _ = W366
                            have hd : Dr W345 W366 := ⟨_, hW.symm⟩
                            clear hW
                            try clear f353 f354 f355 f356
                            replace HOA := Lib.hid (HOA.out.below (hd.below _))
                            replace HD := Lib.hid (HD.out.trans ((hd.below _).mono HD.out.size))
                            replace HW1 := Lib.hid (HW1.out.trans ((hd.below _).mono HW1.out.size))
                            clear hd
                            go_wp2_with fail
                            go_roundg g1
                            case measure => omega
                            case rel => exact ⟨(wrap64 (x343 + 1)), rfl, HW1, HL1⟩
                        · replace HL1 := Lib.hid (ifF hc346 HL1.out)
                          have hc346d := decide_eq_false hc346
                          have HK347 := Lib.hid hc346
                          obtain rfl := Option.some.inj HL1.out
                          have hm := HM.out; try dsimp only at hm
                          replace HM := Lib.hid hm; clear hm
                          obtain rfl := Option.some.inj HM.out
                          go_wp2_with fail
                          go_ret
                          exact ⟨(by first | rfl | (refine congrArg (fun b => Ending.returned (Value.bool b)) ?_; first | (exact decide_eq_true (by omega)) | (exact decide_eq_false (by omega)))), HD.out⟩
                  · replace HM := Lib.hid (ifT rfl HM.out)
                    obtain rfl := Option.some.inj HM.out
                    go_wp2_with fail
                    go_ret
                    exact ⟨rfl, HD.out⟩
            · replace HM := Lib.hid (ifT rfl HM.out)
              obtain rfl := Option.some.inj HM.out
              go_wp2_with fail
              go_ret
              exact ⟨rfl, HD.out⟩
        · rw [errV_pos _ hz269] at HC266; replace HC266 := Lib.hid HC266
          go_wp2_with fail
          refine HC266.out.mono ?_; rintro e W273 ⟨V274, rfl, ho, hd⟩
          try clear hc263
          replace HOA := Lib.hid (HOA.out.call hd HD.out.size ho); clear ho
          replace HD := Lib.hid (HD.out.trans (hd.mono HD.out.size))
          clear hd
          have HZ276 := Lib.hid hz269; clear hz269
          replace HM := Lib.hid (ifT (bne_iff_ne.2 HZ276.out) HM.out)
          obtain ⟨b367, hb, hm⟩ := obind HM.out
          replace HM := Lib.hid hm; have HB368 := Lib.hid hb; clear hm hb
          obtain ⟨A369, cap370, he, _⟩ := HP.open_I HOA.out (List.Mem.head _)
          subst he
          rcases Bool.eq_false_or_eq_true (((y267).length : Int) == 0) with hc371 | hc371
          · replace HB368 := Lib.hid (ifT hc371 HB368.out)
            have HK372 := Lib.hid hc371
            obtain rfl := Option.some.inj HB368.out
            obtain rfl := Option.some.inj HM.out
            go_wp2_with fail
            go_ret
            exact ⟨(by first | rfl | (refine congrArg (fun b => Ending.returned (Value.bool b)) ?_; first | (exact decide_eq_true (by omega)) | (exact decide_eq_false (by omega)))), HD.out⟩
          · replace HB368 := Lib.hid (ifF (bF hc371) HB368.out)
            have HK372 := Lib.hid hc371
            obtain rfl := Option.some.inj HB368.out
            obtain rfl := Option.some.inj HM.out
            go_wp2_with fail
            go_ret
            exact ⟨(by first | rfl | (refine congrArg (fun b => Ending.returned (Value.bool b)) ?_; first | (exact decide_eq_true (by omega)) | (exact decide_eq_false (by omega)))), HD.out⟩
end Go.Proofs.Ytpbkepajgdmbpaa
