import Derived.Test.YtgihnflaikmakaaF3
import Derived.Test.YtgihnflaikmakaaGR
set_option linter.all false
set_option maxRecDepth 100000
namespace Go.Proofs.Ytgihnflaikmakaa
open Go.RowKit
def L3_mengerFact (F : Nat)  : Option (Bool) := (menger_Ways F (3) ([(0, 1), (0, 1), (1, 2)]) (0) (1)).bind fun y1 => (menger_Side F (3) ([(0, 1), (0, 1), (1, 2)]) (0) (2)).bind fun y2 => (((if (y1.2 == 0) = true then if (y2.2 == 0) = true then some true else some false else some false).bind fun b5 => if b5 = true then if (y1.1 == 2) = true then some true else some false else some false).bind fun b4 => if b4 = true then (SE_Ints F (y2.1) ([0, 1])).bind fun y6 => if y6 = true then some true else some false else some false).bind fun b3 => some (b3)
set_option maxRecDepth 100000 in
set_option maxHeartbeats 1000000 in
theorem L3_mengerFact_ok {F : Nat}  {r : Bool} (w : World)  (h : L3_mengerFact F  = some r) :
    Calls Try.prog 6 #[] w fun e w' => e = .returned (.bool r) ∧ Below w.heap.size w w' := by
  have HD := Lib.hid (Below.refl w.heap.size w)
  have HOA := Lib.hid (HP.nil (W := w) (B := w.heap.size))
  unfold L3_mengerFact at h
  have HM := Lib.hid h; clear h
  go_enter Try.func6, Try.ntmps6
  have hd : Below w.heap.size w (World.alloc w (.cells #[Value.int .i64 (0), Value.int .i64 (1), Value.int .i64 (0), Value.int .i64 (1), Value.int .i64 (1), Value.int .i64 (2)] 34)) := (Below.refl _ _).alloc (Nat.le_refl _) _
  have ho : (owL (.slice (some ⟨w.heap.size, 0, none⟩) 3 3) [(0, 1), (0, 1), (1, 2)]).ok (World.alloc w (.cells #[Value.int .i64 (0), Value.int .i64 (1), Value.int .i64 (0), Value.int .i64 (1), Value.int .i64 (1), Value.int .i64 (2)] 34)) w.heap.size := litL_ok w [(0, 1), (0, 1), (1, 2)] (by unfold maxLen; simp)
  replace HOA := Lib.hid (HOA.out.call hd HD.out.size ho); clear ho
  replace HD := Lib.hid (HD.out.trans (hd.mono HD.out.size))
  clear hd
  go_upto_region 2 with (fail)
  generalize hW : World.alloc w _ = W1 at *
  clear hW
  obtain ⟨⟨y5, y6⟩, hy3, hm⟩ := obind HM.out
  dsimp only at hm
  replace HM := Lib.hid hm; clear hm
  have HC4 := menger_Ways_ok W1 3 (HP.rd_L HOA.out (List.Mem.head _)) hy3
  clear hy3
  by_cases hz7 : y6 = 0
  · subst hz7
    rw [errV_zero] at HC4; replace HC4 := Lib.hid HC4
    go_wp2_with fail
    refine HC4.out.mono ?_; rintro e W8 ⟨rfl, hd⟩
    replace HOA := Lib.hid (HOA.out.below hd)
    replace HD := Lib.hid (HD.out.trans (hd.mono HD.out.size))
    clear hd
    obtain ⟨⟨y13, y14⟩, hy11, hm⟩ := obind HM.out
    dsimp only at hm
    replace HM := Lib.hid hm; clear hm
    have HC12 := menger_Side_ok W8 3 (HP.rd_L HOA.out (List.Mem.head _)) hy11
    clear hy11
    by_cases hz15 : y14 = 0
    · subst hz15
      rw [errV_zero] at HC12; replace HC12 := Lib.hid HC12
      go_wp2_with fail
      refine HC12.out.mono ?_; rintro e W16 ⟨V17, rfl, ho, hd⟩
      replace HOA := Lib.hid (HOA.out.call hd HD.out.size ho); clear ho
      replace HD := Lib.hid (HD.out.trans (hd.mono HD.out.size))
      clear hd
      obtain ⟨b23, hb, hm⟩ := obind HM.out
      replace HM := Lib.hid hm; have HB24 := Lib.hid hb; clear hm hb
      obtain ⟨b25, hb, hm⟩ := obind HB24.out
      replace HB24 := Lib.hid hm; have HB26 := Lib.hid hb; clear hm hb
      obtain ⟨b27, hb, hm⟩ := obind HB26.out
      replace HB26 := Lib.hid hm; have HB28 := Lib.hid hb; clear hm hb
      replace HB28 := Lib.hid (ifT (by decide) HB28.out)
      replace HB28 := Lib.hid (ifT (by decide) HB28.out)
      obtain rfl := Option.some.inj HB28.out
      replace HB26 := Lib.hid (ifT rfl HB26.out)
      rcases Bool.eq_false_or_eq_true (y5 == 2) with hc29 | hc29
      · replace HB26 := Lib.hid (ifT hc29 HB26.out)
        obtain rfl := Option.some.inj HB26.out
        replace HB24 := Lib.hid (ifT rfl HB24.out)
        have hd : Below W16.heap.size W16 (World.alloc W16 (.cells #[Value.int .i64 (0), Value.int .i64 (1)] 3)) := (Below.refl _ _).alloc (Nat.le_refl _) _
        have ho : (owI (.slice (some ⟨W16.heap.size, 0, none⟩) 2 2) [0, 1]).ok (World.alloc W16 (.cells #[Value.int .i64 (0), Value.int .i64 (1)] 3)) W16.heap.size := litI_ok W16 [0, 1] (by unfold maxLen; simp)
        replace HOA := Lib.hid (HOA.out.call hd HD.out.size ho); clear ho
        replace HD := Lib.hid (HD.out.trans (hd.mono HD.out.size))
        clear hd
        obtain ⟨y34, hy32, hm⟩ := obind HB24.out
        replace HB24 := Lib.hid hm; clear hm
        obtain ⟨A35, cap36, he, _⟩ := HP.open_I HOA.out (List.Mem.tail _ (List.Mem.head _))
        subst he
        have HC33 := SE_Ints_ok (World.alloc W16 (.cells #[Value.int .i64 (0), Value.int .i64 (1)] 3)) cap36 (HP.rd_I HOA.out (List.Mem.tail _ (List.Mem.head _))) 2 (HP.rd_I HOA.out (List.Mem.head _)) hy32
        clear hy32
        replace HC33 := Lib.hid HC33
        go_wp2_with fail
        refine HC33.out.mono ?_; rintro e W37 ⟨rfl, hd⟩
        try clear hc29
        replace HOA := Lib.hid (HOA.out.below (hd.below _))
        replace HD := Lib.hid (HD.out.trans ((hd.below _).mono HD.out.size))
        clear hd
        cases y34
        · replace HB24 := Lib.hid (ifF Bool.false_ne_true HB24.out)
          obtain rfl := Option.some.inj HB24.out
          obtain rfl := Option.some.inj HM.out
          go_wp2_with fail
          go_ret
          exact ⟨rfl, HD.out⟩
        · replace HB24 := Lib.hid (ifT rfl HB24.out)
          obtain rfl := Option.some.inj HB24.out
          obtain rfl := Option.some.inj HM.out
          go_wp2_with fail
          go_ret
          exact ⟨rfl, HD.out⟩
      · replace HB26 := Lib.hid (ifF (bF hc29) HB26.out)
        obtain rfl := Option.some.inj HB26.out
        replace HB24 := Lib.hid (ifF Bool.false_ne_true HB24.out)
        obtain rfl := Option.some.inj HB24.out
        obtain rfl := Option.some.inj HM.out
        go_wp2_with fail
        try clear hc29
        go_ret
        exact ⟨rfl, HD.out⟩
    · rw [errV_pos _ hz15] at HC12; replace HC12 := Lib.hid HC12
      go_wp2_with fail
      refine HC12.out.mono ?_; rintro e W19 ⟨V20, rfl, ho, hd⟩
      replace HOA := Lib.hid (HOA.out.call hd HD.out.size ho); clear ho
      replace HD := Lib.hid (HD.out.trans (hd.mono HD.out.size))
      clear hd
      have HZ22 := Lib.hid hz15; clear hz15
      obtain ⟨b38, hb, hm⟩ := obind HM.out
      replace HM := Lib.hid hm; have HB39 := Lib.hid hb; clear hm hb
      obtain ⟨b40, hb, hm⟩ := obind HB39.out
      replace HB39 := Lib.hid hm; have HB41 := Lib.hid hb; clear hm hb
      obtain ⟨b42, hb, hm⟩ := obind HB41.out
      replace HB41 := Lib.hid hm; have HB43 := Lib.hid hb; clear hm hb
      replace HB43 := Lib.hid (ifT (by decide) HB43.out)
      replace HB43 := Lib.hid (ifF (fun h => HZ22.out (eq_of_beq h)) HB43.out)
      obtain rfl := Option.some.inj HB43.out
      replace HB41 := Lib.hid (ifF Bool.false_ne_true HB41.out)
      obtain rfl := Option.some.inj HB41.out
      replace HB39 := Lib.hid (ifF Bool.false_ne_true HB39.out)
      obtain rfl := Option.some.inj HB39.out
      obtain rfl := Option.some.inj HM.out
      go_wp2_with fail
      go_ret
      exact ⟨rfl, HD.out⟩
  · rw [errV_pos _ hz7] at HC4; replace HC4 := Lib.hid HC4
    go_wp2_with fail
    refine HC4.out.mono ?_; rintro e W9 ⟨rfl, hd⟩
    replace HOA := Lib.hid (HOA.out.below hd)
    replace HD := Lib.hid (HD.out.trans (hd.mono HD.out.size))
    clear hd
    have HZ10 := Lib.hid hz7; clear hz7
    obtain ⟨⟨y46, y47⟩, hy44, hm⟩ := obind HM.out
    dsimp only at hm
    replace HM := Lib.hid hm; clear hm
    have HC45 := menger_Side_ok W9 3 (HP.rd_L HOA.out (List.Mem.head _)) hy44
    clear hy44
    by_cases hz48 : y47 = 0
    · subst hz48
      rw [errV_zero] at HC45; replace HC45 := Lib.hid HC45
      go_wp2_with fail
      refine HC45.out.mono ?_; rintro e W49 ⟨V50, rfl, ho, hd⟩
      replace HOA := Lib.hid (HOA.out.call hd HD.out.size ho); clear ho
      replace HD := Lib.hid (HD.out.trans (hd.mono HD.out.size))
      clear hd
      obtain ⟨b56, hb, hm⟩ := obind HM.out
      replace HM := Lib.hid hm; have HB57 := Lib.hid hb; clear hm hb
      obtain ⟨b58, hb, hm⟩ := obind HB57.out
      replace HB57 := Lib.hid hm; have HB59 := Lib.hid hb; clear hm hb
      obtain ⟨b60, hb, hm⟩ := obind HB59.out
      replace HB59 := Lib.hid hm; have HB61 := Lib.hid hb; clear hm hb
      replace HB61 := Lib.hid (ifF (fun h => HZ10.out (eq_of_beq h)) HB61.out)
      obtain rfl := Option.some.inj HB61.out
      replace HB59 := Lib.hid (ifF Bool.false_ne_true HB59.out)
      obtain rfl := Option.some.inj HB59.out
      replace HB57 := Lib.hid (ifF Bool.false_ne_true HB57.out)
      obtain rfl := Option.some.inj HB57.out
      obtain rfl := Option.some.inj HM.out
      go_wp2_with fail
      go_ret
      exact ⟨rfl, HD.out⟩
    · rw [errV_pos _ hz48] at HC45; replace HC45 := Lib.hid HC45
      go_wp2_with fail
      refine HC45.out.mono ?_; rintro e W52 ⟨V53, rfl, ho, hd⟩
      replace HOA := Lib.hid (HOA.out.call hd HD.out.size ho); clear ho
      replace HD := Lib.hid (HD.out.trans (hd.mono HD.out.size))
      clear hd
      have HZ55 := Lib.hid hz48; clear hz48
      obtain ⟨b62, hb, hm⟩ := obind HM.out
      replace HM := Lib.hid hm; have HB63 := Lib.hid hb; clear hm hb
      obtain ⟨b64, hb, hm⟩ := obind HB63.out
      replace HB63 := Lib.hid hm; have HB65 := Lib.hid hb; clear hm hb
      obtain ⟨b66, hb, hm⟩ := obind HB65.out
      replace HB65 := Lib.hid hm; have HB67 := Lib.hid hb; clear hm hb
      replace HB67 := Lib.hid (ifF (fun h => HZ10.out (eq_of_beq h)) HB67.out)
      obtain rfl := Option.some.inj HB67.out
      replace HB65 := Lib.hid (ifF Bool.false_ne_true HB65.out)
      obtain rfl := Option.some.inj HB65.out
      replace HB63 := Lib.hid (ifF Bool.false_ne_true HB63.out)
      obtain rfl := Option.some.inj HB63.out
      obtain rfl := Option.some.inj HM.out
      go_wp2_with fail
      go_ret
      exact ⟨rfl, HD.out⟩
end Go.Proofs.Ytgihnflaikmakaa
