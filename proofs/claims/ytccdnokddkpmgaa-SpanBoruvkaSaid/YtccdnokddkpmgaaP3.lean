import Derived.Test.YtccdnokddkpmgaaP1
import Derived.Test.YtccdnokddkpmgaaP2
import Derived.Test.YtccdnokddkpmgaaGB
import Derived.Test.YtccdnokddkpmgaaGR
set_option linter.all false
set_option maxRecDepth 100000
namespace Go.Proofs.Ytccdnokddkpmgaa
open Go.RowKit
def L3_spanFact (F : Nat)  : Option (Bool) := (span_Least F (3) ([(0, 1, 5), (1, 2, 1), (0, 2, 2)])).bind fun y1 => (span_Neck F (3) ([(0, 1, 5), (1, 2, 1), (0, 2, 2)]) (0) (1)).bind fun y2 => ((((if (y1.2.2 == 0) = true then if (y2.2 == 0) = true then some true else some false else some false).bind fun b6 => if b6 = true then if (y1.2.1 == 3) = true then some true else some false else some false).bind fun b5 => if b5 = true then if (y2.1 == 2) = true then some true else some false else some false).bind fun b4 => if b4 = true then (SE_Bools F (y1.1) ([false, true, true])).bind fun y7 => if y7 = true then some true else some false else some false).bind fun b3 => some (b3)
set_option maxRecDepth 100000 in
set_option maxHeartbeats 4000000 in
theorem L3_spanFact_ok {F : Nat}  {r : Bool} (w : World)  (h : L3_spanFact F  = some r) :
    Calls Try.prog 7 #[] w fun e w' => e = .returned (.bool r) ∧ Below w.heap.size w w' := by
  have HD := Lib.hid (Below.refl w.heap.size w)
  have HOA := Lib.hid (HP.nil (W := w) (B := w.heap.size))
  unfold L3_spanFact at h
  have HM := Lib.hid h; clear h
  go_enter Try.func7, Try.ntmps7
  have hd : Below w.heap.size w (World.alloc w (.cells #[Value.int .i64 (0), Value.int .i64 (1), Value.int .i64 (5), Value.int .i64 (1), Value.int .i64 (2), Value.int .i64 (1), Value.int .i64 (0), Value.int .i64 (2), Value.int .i64 (2)] 37)) := (Below.refl _ _).alloc (Nat.le_refl _) _
  have ho : (owC (.slice (some ⟨w.heap.size, 0, none⟩) 3 3) [(0, 1, 5), (1, 2, 1), (0, 2, 2)]).ok (World.alloc w (.cells #[Value.int .i64 (0), Value.int .i64 (1), Value.int .i64 (5), Value.int .i64 (1), Value.int .i64 (2), Value.int .i64 (1), Value.int .i64 (0), Value.int .i64 (2), Value.int .i64 (2)] 37)) w.heap.size := litC_ok w [(0, 1, 5), (1, 2, 1), (0, 2, 2)] (by unfold maxLen; simp)
  replace HOA := Lib.hid (HOA.out.call hd HD.out.size ho); clear ho
  replace HD := Lib.hid (HD.out.trans (hd.mono HD.out.size))
  clear hd
  go_upto_region 2 with (fail)
  generalize hW : World.alloc w _ = W1 at *
  clear hW
  obtain ⟨⟨y5, y6, y7⟩, hy3, hm⟩ := obind HM.out
  dsimp only at hm
  replace HM := Lib.hid hm; clear hm
  have HC4 := span_Least_ok W1 3 (HP.rd_C HOA.out (List.Mem.head _)) hy3
  clear hy3
  try rw [← HP.len_C HOA.out (List.Mem.head _)] at HC4
  replace HC4 := Lib.hid HC4
  go_wp2_with fail
  refine HC4.out.mono ?_; rintro e W8 ⟨V9, rfl, ho, hd⟩
  replace HOA := Lib.hid (HOA.out.call hd HD.out.size ho); clear ho
  replace HD := Lib.hid (HD.out.trans (hd.mono HD.out.size))
  clear hd
  obtain ⟨⟨y13, y14⟩, hy11, hm⟩ := obind HM.out
  dsimp only at hm
  replace HM := Lib.hid hm; clear hm
  have HC12 := span_Neck_ok W8 3 (HP.rd_C HOA.out (List.Mem.tail _ (List.Mem.head _))) hy11
  clear hy11
  try rw [← HP.len_C HOA.out (List.Mem.tail _ (List.Mem.head _))] at HC12
  replace HC12 := Lib.hid HC12
  go_wp2_with fail
  refine HC12.out.mono ?_; rintro e W15 ⟨rfl, hd⟩
  replace HOA := Lib.hid (HOA.out.below hd)
  replace HD := Lib.hid (HD.out.trans (hd.mono HD.out.size))
  clear hd
  obtain ⟨b16, hb, hm⟩ := obind HM.out
  replace HM := Lib.hid hm; have HB17 := Lib.hid hb; clear hm hb
  obtain ⟨b18, hb, hm⟩ := obind HB17.out
  replace HB17 := Lib.hid hm; have HB19 := Lib.hid hb; clear hm hb
  obtain ⟨b20, hb, hm⟩ := obind HB19.out
  replace HB19 := Lib.hid hm; have HB21 := Lib.hid hb; clear hm hb
  obtain ⟨b22, hb, hm⟩ := obind HB21.out
  replace HB21 := Lib.hid hm; have HB23 := Lib.hid hb; clear hm hb
  by_cases hz24 : y7 = 0
  · subst hz24
    try simp only [errV_zero]
    replace HB23 := Lib.hid (ifT (by decide) HB23.out)
    by_cases hz26 : y14 = 0
    · subst hz26
      try simp only [errV_zero]
      replace HB23 := Lib.hid (ifT (by decide) HB23.out)
      obtain rfl := Option.some.inj HB23.out
      replace HB21 := Lib.hid (ifT (by first | rfl | trivial) HB21.out)
      rcases Bool.eq_false_or_eq_true (y6 == 3) with hc28 | hc28
      · replace HB21 := Lib.hid (ifT hc28 HB21.out)
        have HK29 := Lib.hid hc28
        obtain rfl := Option.some.inj HB21.out
        replace HB19 := Lib.hid (ifT (by first | rfl | trivial) HB19.out)
        rcases Bool.eq_false_or_eq_true (y13 == 2) with hc30 | hc30
        · replace HB19 := Lib.hid (ifT hc30 HB19.out)
          have HK31 := Lib.hid hc30
          obtain rfl := Option.some.inj HB19.out
          replace HB17 := Lib.hid (ifT (by first | rfl | trivial) HB17.out)
          have hd : Below W15.heap.size W15 (World.alloc W15 (.cells #[Value.bool false, Value.bool true, Value.bool true] 4)) := (Below.refl _ _).alloc (Nat.le_refl _) _
          have ho : (owB (.slice (some ⟨W15.heap.size, 0, none⟩) 3 3) [false, true, true]).ok (World.alloc W15 (.cells #[Value.bool false, Value.bool true, Value.bool true] 4)) W15.heap.size := litB_ok W15 [false, true, true] (by unfold maxLen; simp)
          replace HOA := Lib.hid (HOA.out.call hd HD.out.size ho); clear ho
          replace HD := Lib.hid (HD.out.trans (hd.mono HD.out.size))
          clear hd
          obtain ⟨y36, hy34, hm⟩ := obind HB17.out
          replace HB17 := Lib.hid hm; clear hm
          obtain ⟨A37, cap38, he, _⟩ := HP.open_B HOA.out (List.Mem.tail _ (List.Mem.head _))
          subst he
          have HC35 := SE_Bools_ok (World.alloc W15 (.cells #[Value.bool false, Value.bool true, Value.bool true] 4)) cap38 (HP.rd_B HOA.out (List.Mem.tail _ (List.Mem.head _))) 3 (HP.rd_B HOA.out (List.Mem.head _)) hy34
          clear hy34
          try rw [← HP.len_B HOA.out (List.Mem.head _)] at HC35
          replace HC35 := Lib.hid HC35
          go_wp2_with fail
          refine HC35.out.mono ?_; rintro e W39 ⟨rfl, hd⟩
          try clear hc28 hc30
          replace HOA := Lib.hid (HOA.out.below (hd.below _))
          replace HD := Lib.hid (HD.out.trans ((hd.below _).mono HD.out.size))
          clear hd
          cases y36
          · replace HB17 := Lib.hid (ifF Bool.false_ne_true HB17.out)
            obtain rfl := Option.some.inj HB17.out
            obtain rfl := Option.some.inj HM.out
            go_wp2_with fail
            go_ret
            exact ⟨rfl, HD.out⟩
          · replace HB17 := Lib.hid (ifT rfl HB17.out)
            obtain rfl := Option.some.inj HB17.out
            obtain rfl := Option.some.inj HM.out
            go_wp2_with fail
            go_ret
            exact ⟨rfl, HD.out⟩
        · replace HB19 := Lib.hid (ifF (bF hc30) HB19.out)
          have HK31 := Lib.hid hc30
          obtain rfl := Option.some.inj HB19.out
          replace HB17 := Lib.hid (ifF (by first | exact Bool.false_ne_true | exact not_false) HB17.out)
          obtain rfl := Option.some.inj HB17.out
          obtain rfl := Option.some.inj HM.out
          go_wp2_with fail
          go_ret
          exact ⟨(by first | rfl | (refine congrArg (fun b => Ending.returned (Value.bool b)) ?_; first | (exact decide_eq_true (by omega)) | (exact decide_eq_false (by omega)) | (have q := hc28; rw [bne_iff_ne] at q ⊢; omega) | (have q := hc28; rw [bne_eq_false_iff_eq] at q ⊢; omega) | (have q := hc28; rw [beq_iff_eq] at q ⊢; omega) | (have q := hc28; rw [beq_eq_false_iff_ne] at q ⊢; omega) | (have q := hc30; rw [bne_iff_ne] at q ⊢; omega) | (have q := hc30; rw [bne_eq_false_iff_eq] at q ⊢; omega) | (have q := hc30; rw [beq_iff_eq] at q ⊢; omega) | (have q := hc30; rw [beq_eq_false_iff_ne] at q ⊢; omega))), HD.out⟩
      · replace HB21 := Lib.hid (ifF (bF hc28) HB21.out)
        have HK29 := Lib.hid hc28
        obtain rfl := Option.some.inj HB21.out
        replace HB19 := Lib.hid (ifF (by first | exact Bool.false_ne_true | exact not_false) HB19.out)
        obtain rfl := Option.some.inj HB19.out
        replace HB17 := Lib.hid (ifF (by first | exact Bool.false_ne_true | exact not_false) HB17.out)
        obtain rfl := Option.some.inj HB17.out
        obtain rfl := Option.some.inj HM.out
        go_wp2_with fail
        go_ret
        exact ⟨(by first | rfl | (refine congrArg (fun b => Ending.returned (Value.bool b)) ?_; first | (exact decide_eq_true (by omega)) | (exact decide_eq_false (by omega)) | (have q := hc28; rw [bne_iff_ne] at q ⊢; omega) | (have q := hc28; rw [bne_eq_false_iff_eq] at q ⊢; omega) | (have q := hc28; rw [beq_iff_eq] at q ⊢; omega) | (have q := hc28; rw [beq_eq_false_iff_ne] at q ⊢; omega))), HD.out⟩
    · try rw [errV_pos _ hz26]
      have HZ27 := Lib.hid hz26; clear hz26
      replace HB23 := Lib.hid (ifF (fun h => HZ27.out (eq_of_beq h)) HB23.out)
      obtain rfl := Option.some.inj HB23.out
      replace HB21 := Lib.hid (ifF (by first | exact Bool.false_ne_true | exact not_false) HB21.out)
      obtain rfl := Option.some.inj HB21.out
      replace HB19 := Lib.hid (ifF (by first | exact Bool.false_ne_true | exact not_false) HB19.out)
      obtain rfl := Option.some.inj HB19.out
      replace HB17 := Lib.hid (ifF (by first | exact Bool.false_ne_true | exact not_false) HB17.out)
      obtain rfl := Option.some.inj HB17.out
      obtain rfl := Option.some.inj HM.out
      go_wp2_with fail
      go_ret
      exact ⟨rfl, HD.out⟩
  · try rw [errV_pos _ hz24]
    have HZ25 := Lib.hid hz24; clear hz24
    replace HB23 := Lib.hid (ifF (fun h => HZ25.out (eq_of_beq h)) HB23.out)
    obtain rfl := Option.some.inj HB23.out
    replace HB21 := Lib.hid (ifF (by first | exact Bool.false_ne_true | exact not_false) HB21.out)
    obtain rfl := Option.some.inj HB21.out
    replace HB19 := Lib.hid (ifF (by first | exact Bool.false_ne_true | exact not_false) HB19.out)
    obtain rfl := Option.some.inj HB19.out
    replace HB17 := Lib.hid (ifF (by first | exact Bool.false_ne_true | exact not_false) HB17.out)
    obtain rfl := Option.some.inj HB17.out
    obtain rfl := Option.some.inj HM.out
    go_wp2_with fail
    go_ret
    exact ⟨rfl, HD.out⟩
def L3_SpanBoruvka_L1 (F : Nat) (v1 : List (Int × Int × Int)) (v2 : Int) : Nat → (Int) → (Int) → Option (Int × Int)
  | 0, _, _ => none
  | g+1, v8, v9 => if v9 < ((v1).length : Int) then ((((ix v1 v9).bind fun y9 => if (y9.1 == v2) = true then some true else (ix v1 v9).bind fun y10 => if (y10.2.1 == v2) = true then some true else some false).bind fun b8 => if b8 = true then if v8 < 0 then some true else (ix v1 v9).bind fun y11 => (ix v1 v8).bind fun y12 => if y11.2.2 < y12.2.2 then some true else some false else some false).bind fun b7 => if b7 = true then L3_SpanBoruvka_L1 F v1 v2 g (v9) ((wrap64 (v9 + 1))) else L3_SpanBoruvka_L1 F v1 v2 g (v8) ((wrap64 (v9 + 1)))) else some (v8, v9)
theorem L3_SpanBoruvka_L1_0 (F : Nat) (v1 : List (Int × Int × Int)) (v2 : Int) (v8 : Int) (v9 : Int) : L3_SpanBoruvka_L1 F v1 v2 0 v8 v9 = none := by rw [L3_SpanBoruvka_L1]
theorem L3_SpanBoruvka_L1_s (F g : Nat) (v1 : List (Int × Int × Int)) (v2 : Int) (v8 : Int) (v9 : Int) : L3_SpanBoruvka_L1 F v1 v2 (g+1) v8 v9 = (if v9 < ((v1).length : Int) then ((((ix v1 v9).bind fun y9 => if (y9.1 == v2) = true then some true else (ix v1 v9).bind fun y10 => if (y10.2.1 == v2) = true then some true else some false).bind fun b8 => if b8 = true then if v8 < 0 then some true else (ix v1 v9).bind fun y11 => (ix v1 v8).bind fun y12 => if y11.2.2 < y12.2.2 then some true else some false else some false).bind fun b7 => if b7 = true then L3_SpanBoruvka_L1 F v1 v2 g (v9) ((wrap64 (v9 + 1))) else L3_SpanBoruvka_L1 F v1 v2 g (v8) ((wrap64 (v9 + 1)))) else some (v8, v9)) := by rw [L3_SpanBoruvka_L1]
def L3_SpanBoruvka (F : Nat) (v0 : Int) (v1 : List (Int × Int × Int)) (v2 : Int) : Option (Bool) := (L3_spanFact F ).bind fun y1 => (if y1 = true then (span_Least F (v0) (v1)).bind fun y2 => (if (y2.2.2 != 0) = true then (if (((y2.1).length : Int) == 0) = true then some true else some false).bind fun b3 => some (b3) else ((if (((y2.1).length : Int) != ((v1).length : Int)) = true then some true else (L3_in F (v2) (0) ((wrap64 (v0 - 1)))).bind fun y5 => if y5 = true then some false else some true).bind fun b4 => if b4 = true then (if (((y2.1).length : Int) == ((v1).length : Int)) = true then some true else some false).bind fun b6 => some (b6) else (L3_SpanBoruvka_L1 F (v1) (v2) F ((-1)) (0)).bind fun o13 => (if o13.1 < 0 then some true else (ix y2.1 o13.1).bind fun y15 => if y15 = true then some true else some false).bind fun b14 => some (b14))) else some (false))
set_option maxRecDepth 100000 in
set_option maxHeartbeats 4000000 in
theorem L3_SpanBoruvka_ok {F : Nat} {v0 : Int} {v1 : List (Int × Int × Int)} {A1 : Option Addr} {v2 : Int} {r : Bool} (w : World) (cap1 : Nat) (hr1 : ReadsC w w.heap.size A1 v1) (h : L3_SpanBoruvka F v0 v1 v2 = some r) :
    Calls Try.prog 5 #[.int .i64 v0, .slice A1 v1.length cap1, .int .i64 v2] w fun e w' => e = .returned (.bool r) ∧ Below w.heap.size w w' := by
  have HR1 := Lib.hid hr1; clear hr1
  have HD := Lib.hid (Below.refl w.heap.size w)
  have HOA := Lib.hid (HP.nil (W := w) (B := w.heap.size))
  unfold L3_SpanBoruvka at h
  have HM := Lib.hid h; clear h
  go_enter Try.func5, Try.ntmps5
  obtain ⟨y3, hy1, hm⟩ := obind HM.out
  replace HM := Lib.hid hm; clear hm
  have HC2 := L3_spanFact_ok w  hy1
  clear hy1
  replace HC2 := Lib.hid HC2
  go_wp2_with fail
  refine HC2.out.mono ?_; rintro e W4 ⟨rfl, hd⟩
  replace HOA := Lib.hid (HOA.out.below hd)
  replace HD := Lib.hid (HD.out.trans (hd.mono HD.out.size))
  clear hd
  cases y3
  · replace HM := Lib.hid (ifF Bool.false_ne_true HM.out)
    obtain rfl := Option.some.inj HM.out
    go_wp2_with fail
    go_ret
    exact ⟨rfl, HD.out⟩
  · replace HM := Lib.hid (ifT rfl HM.out)
    obtain ⟨⟨y7, y8, y9⟩, hy5, hm⟩ := obind HM.out
    dsimp only at hm
    replace HM := Lib.hid hm; clear hm
    have HC6 := span_Least_ok W4 cap1 (rdC HD.out HR1.out) hy5
    clear hy5
    replace HC6 := Lib.hid HC6
    go_wp2_with fail
    refine HC6.out.mono ?_; rintro e W10 ⟨V11, rfl, ho, hd⟩
    replace HOA := Lib.hid (HOA.out.call hd HD.out.size ho); clear ho
    replace HD := Lib.hid (HD.out.trans (hd.mono HD.out.size))
    clear hd
    by_cases hz13 : y9 = 0
    · subst hz13
      try simp only [errV_zero]
      replace HM := Lib.hid (ifF (by decide) HM.out)
      go_upto_region 7 with (fail)
      obtain ⟨b15, hb, hm⟩ := obind HM.out
      replace HM := Lib.hid hm; have HB16 := Lib.hid hb; clear hm hb
      go_cut [39] (fun uq wr => uq = .bool b15 ∧ Hid (Below W10.heap.size W10 wr))
      case first =>
        have HWC17 := Lib.hid (Below.refl W10.heap.size W10)
        obtain ⟨A18, cap19, he, _⟩ := HP.open_B HOA.out (List.Mem.head _)
        subst he
        rcases Bool.eq_false_or_eq_true (((y7).length : Int) != ((v1).length : Int)) with hc20 | hc20
        · replace HB16 := Lib.hid (ifT hc20 HB16.out)
          have HK21 := Lib.hid hc20
          cases Option.some.inj HB16.out
          try go_wp2_with fail
          go_meet
          case rel => exact ⟨rfl, HWC17⟩
        · replace HB16 := Lib.hid (ifF (bF hc20) HB16.out)
          have HK21 := Lib.hid hc20
          obtain ⟨y24, hy22, hm⟩ := obind HB16.out
          replace HB16 := Lib.hid hm; clear hm
          have HC23 := L3_in_ok W10  hy22
          clear hy22
          replace HC23 := Lib.hid HC23
          cases y24
          · replace HB16 := Lib.hid (ifF Bool.false_ne_true HB16.out)
            cases Option.some.inj HB16.out
            go_wp2_with fail
            refine HC23.out.mono ?_; rintro e w' ⟨rfl, rfl⟩
            try go_wp2_with fail
            go_meet
            case rel => exact ⟨rfl, HWC17⟩
          · replace HB16 := Lib.hid (ifT rfl HB16.out)
            cases Option.some.inj HB16.out
            go_wp2_with fail
            refine HC23.out.mono ?_; rintro e w' ⟨rfl, rfl⟩
            try go_wp2_with fail
            go_meet
            case rel => exact ⟨rfl, HWC17⟩
      case rest =>
        obtain ⟨rfl, HWC17⟩ := hcut
        rename World => W25
        have hd := HWC17.out
        replace HOA := Lib.hid (HOA.out.below hd)
        replace HD := Lib.hid (HD.out.trans (hd.mono HD.out.size))
        clear hd
        cases b15
        · replace HM := Lib.hid (ifF Bool.false_ne_true HM.out)
          go_wp2_with fail
          obtain ⟨o26, ho, hm⟩ := obind HM.out
          replace HM := Lib.hid hm; have HL1 := Lib.hid ho; clear hm ho
          go_loopg [11, 12] F (fun gg ux29 ux30 wr => ∃ (x27 : Int) (x28 : Int), ux29 = .int .i64 x27 ∧ ux30 = .int .i64 x28 ∧ Hid (Below W25.heap.size W25 wr) ∧ Hid (L3_SpanBoruvka_L1 F (v1) (v2) gg x27 x28 = some o26))
          case atStart => exact ⟨(-1), 0, rfl, rfl, (Lib.hid (Below.refl _ _)), HL1⟩
          case round =>
            obtain ⟨x27, x28, rfl, rfl, HW1, HL1⟩ := hrel
            rename World => W31
            have hd := HW1.out
            replace HOA := Lib.hid (HOA.out.below hd)
            replace HD := Lib.hid (HD.out.trans (hd.mono HD.out.size))
            clear hd
            cases gk with
            | zero => exact absurd ((L3_SpanBoruvka_L1_0 ..).symm.trans HL1.out) (by intro h; cases h)
            | succ g1 =>
              replace HL1 := Lib.hid ((L3_SpanBoruvka_L1_s ..).symm.trans HL1.out)
              by_cases hc32 : x28 < ((v1).length : Int)
              · replace HL1 := Lib.hid (ifT hc32 HL1.out)
                have HK33 := Lib.hid hc32
                try go_wp2_with fail
                try clear hc32
                obtain ⟨b34, hb, hm⟩ := obind HL1.out
                replace HL1 := Lib.hid hm; have HB35 := Lib.hid hb; clear hm hb
                obtain ⟨b36, hb, hm⟩ := obind HB35.out
                replace HB35 := Lib.hid hm; have HB37 := Lib.hid hb; clear hm hb
                obtain ⟨y38, hy39, hm⟩ := obind HB37.out
                replace HB37 := Lib.hid hm; clear hm
                obtain ⟨b40, o41, ea42, _, f43, f44, f45, f46, f47⟩ := ReadsC.ix (rdC HD.out HR1.out) hy39
                cases ea42
                try simp only [Nat.zero_add, Nat.add_zero, Int.toNat_natCast, Int.toNat_zero, Int.toNat_one] at f45 f46 f47
                have HY48 := Lib.hid hy39; clear hy39
                rcases Bool.eq_false_or_eq_true (y38.1 == v2) with hc49 | hc49
                · replace HB37 := Lib.hid (ifT hc49 HB37.out)
                  have HK50 := Lib.hid hc49
                  obtain rfl := Option.some.inj HB37.out
                  replace HB35 := Lib.hid (ifT (by first | rfl | trivial) HB35.out)
                  by_cases hc51 : x27 < 0
                  · replace HB35 := Lib.hid (ifT hc51 HB35.out)
                    have HK52 := Lib.hid hc51
                    obtain rfl := Option.some.inj HB35.out
                    replace HL1 := Lib.hid (ifT (by first | rfl | trivial) HL1.out)
                    go_quiet (fail)
                    generalize hW : World.drewN W31 _ = W53
                    have hd : Dr W31 W53 := ⟨_, hW.symm⟩
                    clear hW
                    try clear f43 f44 f45 f46 f47 hc49 hc51
                    replace HOA := Lib.hid (HOA.out.below (hd.below _))
                    replace HD := Lib.hid (HD.out.trans ((hd.below _).mono HD.out.size))
                    replace HW1 := Lib.hid (HW1.out.trans ((hd.below _).mono HW1.out.size))
                    clear hd
                    go_wp2_with fail
                    go_roundg g1
                    case measure => omega
                    case rel => exact ⟨x28, (wrap64 (x28 + 1)), rfl, rfl, HW1, HL1⟩
                  · replace HB35 := Lib.hid (ifF hc51 HB35.out)
                    have hc51d := decide_eq_false hc51
                    have HK52 := Lib.hid hc51
                    obtain ⟨y54, hy55, hm⟩ := obind HB35.out
                    replace HB35 := Lib.hid hm; clear hm
                    obtain rfl := Option.some.inj (HY48.out.symm.trans hy55)
                    clear hy55
                    obtain ⟨y56, hy57, hm⟩ := obind HB35.out
                    replace HB35 := Lib.hid hm; clear hm
                    obtain ⟨b58, o59, ea60, _, f61, f62, f63, f64, f65⟩ := ReadsC.ix (rdC HD.out HR1.out) hy57
                    cases ea60
                    try simp only [Nat.zero_add, Nat.add_zero, Int.toNat_natCast, Int.toNat_zero, Int.toNat_one] at f63 f64 f65
                    have HY66 := Lib.hid hy57; clear hy57
                    by_cases hc67 : y38.2.2 < y56.2.2
                    · replace HB35 := Lib.hid (ifT hc67 HB35.out)
                      have HK68 := Lib.hid hc67
                      obtain rfl := Option.some.inj HB35.out
                      replace HL1 := Lib.hid (ifT (by first | rfl | trivial) HL1.out)
                      go_quiet (fail)
                      generalize hW : World.drewN W31 _ = W69
                      have hd : Dr W31 W69 := ⟨_, hW.symm⟩
                      clear hW
                      try clear f43 f44 f45 f46 f47 hc49 hc51 hc51d f61 f62 f63 f64 f65 hc67
                      replace HOA := Lib.hid (HOA.out.below (hd.below _))
                      replace HD := Lib.hid (HD.out.trans ((hd.below _).mono HD.out.size))
                      replace HW1 := Lib.hid (HW1.out.trans ((hd.below _).mono HW1.out.size))
                      clear hd
                      go_wp2_with fail
                      go_roundg g1
                      case measure => omega
                      case rel => exact ⟨x28, (wrap64 (x28 + 1)), rfl, rfl, HW1, HL1⟩
                    · replace HB35 := Lib.hid (ifF hc67 HB35.out)
                      have hc67d := decide_eq_false hc67
                      have HK68 := Lib.hid hc67
                      obtain rfl := Option.some.inj HB35.out
                      replace HL1 := Lib.hid (ifF (by first | exact Bool.false_ne_true | exact not_false) HL1.out)
                      go_quiet (fail)
                      generalize hW : World.drewN W31 _ = W70
                      have hd : Dr W31 W70 := ⟨_, hW.symm⟩
                      clear hW
                      try clear f43 f44 f45 f46 f47 hc49 hc51 hc51d f61 f62 f63 f64 f65 hc67 hc67d
                      replace HOA := Lib.hid (HOA.out.below (hd.below _))
                      replace HD := Lib.hid (HD.out.trans ((hd.below _).mono HD.out.size))
                      replace HW1 := Lib.hid (HW1.out.trans ((hd.below _).mono HW1.out.size))
                      clear hd
                      go_wp2_with fail
                      go_roundg g1
                      case measure => omega
                      case rel => exact ⟨x27, (wrap64 (x28 + 1)), rfl, rfl, HW1, HL1⟩
                · replace HB37 := Lib.hid (ifF (bF hc49) HB37.out)
                  have HK50 := Lib.hid hc49
                  obtain ⟨y71, hy72, hm⟩ := obind HB37.out
                  replace HB37 := Lib.hid hm; clear hm
                  obtain rfl := Option.some.inj (HY48.out.symm.trans hy72)
                  clear hy72
                  rcases Bool.eq_false_or_eq_true (y38.2.1 == v2) with hc73 | hc73
                  · replace HB37 := Lib.hid (ifT hc73 HB37.out)
                    have HK74 := Lib.hid hc73
                    obtain rfl := Option.some.inj HB37.out
                    replace HB35 := Lib.hid (ifT (by first | rfl | trivial) HB35.out)
                    by_cases hc75 : x27 < 0
                    · replace HB35 := Lib.hid (ifT hc75 HB35.out)
                      have HK76 := Lib.hid hc75
                      obtain rfl := Option.some.inj HB35.out
                      replace HL1 := Lib.hid (ifT (by first | rfl | trivial) HL1.out)
                      go_quiet (fail)
                      generalize hW : World.drewN W31 _ = W77
                      have hd : Dr W31 W77 := ⟨_, hW.symm⟩
                      clear hW
                      try clear f43 f44 f45 f46 f47 hc49 hc73 hc75
                      replace HOA := Lib.hid (HOA.out.below (hd.below _))
                      replace HD := Lib.hid (HD.out.trans ((hd.below _).mono HD.out.size))
                      replace HW1 := Lib.hid (HW1.out.trans ((hd.below _).mono HW1.out.size))
                      clear hd
                      go_wp2_with fail
                      go_roundg g1
                      case measure => omega
                      case rel => exact ⟨x28, (wrap64 (x28 + 1)), rfl, rfl, HW1, HL1⟩
                    · replace HB35 := Lib.hid (ifF hc75 HB35.out)
                      have hc75d := decide_eq_false hc75
                      have HK76 := Lib.hid hc75
                      obtain ⟨y78, hy79, hm⟩ := obind HB35.out
                      replace HB35 := Lib.hid hm; clear hm
                      obtain rfl := Option.some.inj (HY48.out.symm.trans hy79)
                      clear hy79
                      obtain ⟨y80, hy81, hm⟩ := obind HB35.out
                      replace HB35 := Lib.hid hm; clear hm
                      obtain ⟨b82, o83, ea84, _, f85, f86, f87, f88, f89⟩ := ReadsC.ix (rdC HD.out HR1.out) hy81
                      cases ea84
                      try simp only [Nat.zero_add, Nat.add_zero, Int.toNat_natCast, Int.toNat_zero, Int.toNat_one] at f87 f88 f89
                      have HY90 := Lib.hid hy81; clear hy81
                      by_cases hc91 : y38.2.2 < y80.2.2
                      · replace HB35 := Lib.hid (ifT hc91 HB35.out)
                        have HK92 := Lib.hid hc91
                        obtain rfl := Option.some.inj HB35.out
                        replace HL1 := Lib.hid (ifT (by first | rfl | trivial) HL1.out)
                        go_quiet (fail)
                        generalize hW : World.drewN W31 _ = W93
                        have hd : Dr W31 W93 := ⟨_, hW.symm⟩
                        clear hW
                        try clear f43 f44 f45 f46 f47 hc49 hc73 hc75 hc75d f85 f86 f87 f88 f89 hc91
                        replace HOA := Lib.hid (HOA.out.below (hd.below _))
                        replace HD := Lib.hid (HD.out.trans ((hd.below _).mono HD.out.size))
                        replace HW1 := Lib.hid (HW1.out.trans ((hd.below _).mono HW1.out.size))
                        clear hd
                        go_wp2_with fail
                        go_roundg g1
                        case measure => omega
                        case rel => exact ⟨x28, (wrap64 (x28 + 1)), rfl, rfl, HW1, HL1⟩
                      · replace HB35 := Lib.hid (ifF hc91 HB35.out)
                        have hc91d := decide_eq_false hc91
                        have HK92 := Lib.hid hc91
                        obtain rfl := Option.some.inj HB35.out
                        replace HL1 := Lib.hid (ifF (by first | exact Bool.false_ne_true | exact not_false) HL1.out)
                        go_quiet (fail)
                        generalize hW : World.drewN W31 _ = W94
                        have hd : Dr W31 W94 := ⟨_, hW.symm⟩
                        clear hW
                        try clear f43 f44 f45 f46 f47 hc49 hc73 hc75 hc75d f85 f86 f87 f88 f89 hc91 hc91d
                        replace HOA := Lib.hid (HOA.out.below (hd.below _))
                        replace HD := Lib.hid (HD.out.trans ((hd.below _).mono HD.out.size))
                        replace HW1 := Lib.hid (HW1.out.trans ((hd.below _).mono HW1.out.size))
                        clear hd
                        go_wp2_with fail
                        go_roundg g1
                        case measure => omega
                        case rel => exact ⟨x27, (wrap64 (x28 + 1)), rfl, rfl, HW1, HL1⟩
                  · replace HB37 := Lib.hid (ifF (bF hc73) HB37.out)
                    have HK74 := Lib.hid hc73
                    obtain rfl := Option.some.inj HB37.out
                    replace HB35 := Lib.hid (ifF (by first | exact Bool.false_ne_true | exact not_false) HB35.out)
                    obtain rfl := Option.some.inj HB35.out
                    replace HL1 := Lib.hid (ifF (by first | exact Bool.false_ne_true | exact not_false) HL1.out)
                    go_quiet (fail)
                    generalize hW : World.drewN W31 _ = W95
                    have hd : Dr W31 W95 := ⟨_, hW.symm⟩
                    clear hW
                    try clear f43 f44 f45 f46 f47 hc49 hc73
                    replace HOA := Lib.hid (HOA.out.below (hd.below _))
                    replace HD := Lib.hid (HD.out.trans ((hd.below _).mono HD.out.size))
                    replace HW1 := Lib.hid (HW1.out.trans ((hd.below _).mono HW1.out.size))
                    clear hd
                    go_wp2_with fail
                    go_roundg g1
                    case measure => omega
                    case rel => exact ⟨x27, (wrap64 (x28 + 1)), rfl, rfl, HW1, HL1⟩
              · replace HL1 := Lib.hid (ifF hc32 HL1.out)
                have hc32d := decide_eq_false hc32
                have HK33 := Lib.hid hc32
                obtain rfl := Option.some.inj HL1.out
                have hm := HM.out; try dsimp only at hm
                replace HM := Lib.hid hm; clear hm
                obtain ⟨b96, hb, hm⟩ := obind HM.out
                replace HM := Lib.hid hm; have HB97 := Lib.hid hb; clear hm hb
                by_cases hc98 : x27 < 0
                · replace HB97 := Lib.hid (ifT hc98 HB97.out)
                  have HK99 := Lib.hid hc98
                  obtain rfl := Option.some.inj HB97.out
                  obtain rfl := Option.some.inj HM.out
                  go_wp2_with fail
                  go_ret
                  exact ⟨(by first | rfl | (refine congrArg (fun b => Ending.returned (Value.bool b)) ?_; first | (exact decide_eq_true (by omega)) | (exact decide_eq_false (by omega)) | (have q := hc32d; rw [bne_iff_ne] at q ⊢; omega) | (have q := hc32d; rw [bne_eq_false_iff_eq] at q ⊢; omega) | (have q := hc32d; rw [beq_iff_eq] at q ⊢; omega) | (have q := hc32d; rw [beq_eq_false_iff_ne] at q ⊢; omega) | (have q := hc98; rw [bne_iff_ne] at q ⊢; omega) | (have q := hc98; rw [bne_eq_false_iff_eq] at q ⊢; omega) | (have q := hc98; rw [beq_iff_eq] at q ⊢; omega) | (have q := hc98; rw [beq_eq_false_iff_ne] at q ⊢; omega))), HD.out⟩
                · replace HB97 := Lib.hid (ifF hc98 HB97.out)
                  have hc98d := decide_eq_false hc98
                  have HK99 := Lib.hid hc98
                  obtain ⟨A102, cap103, he, _⟩ := HP.open_B HOA.out (List.Mem.head _)
                  subst he
                  obtain ⟨y100, hy101, hm⟩ := obind HB97.out
                  replace HB97 := Lib.hid hm; clear hm
                  obtain ⟨b104, o105, ea106, _, f107, f108, f109⟩ := ReadsB.ix (HP.rd_B HOA.out (List.Mem.head _)) hy101
                  cases ea106
                  try simp only [Nat.zero_add, Nat.add_zero, Int.toNat_natCast, Int.toNat_zero, Int.toNat_one] at f109
                  try rw [← HP.len_B HOA.out (List.Mem.head _)] at f108
                  have HY111 := Lib.hid hy101; clear hy101
                  cases y100
                  · replace HB97 := Lib.hid (ifF Bool.false_ne_true HB97.out)
                    obtain rfl := Option.some.inj HB97.out
                    obtain rfl := Option.some.inj HM.out
                    go_wp2_with fail
                    try clear f107 f108 f109
                    go_ret
                    exact ⟨(by first | rfl | (refine congrArg (fun b => Ending.returned (Value.bool b)) ?_; first | (exact decide_eq_true (by omega)) | (exact decide_eq_false (by omega)) | (have q := hc98; rw [bne_iff_ne] at q ⊢; omega) | (have q := hc98; rw [bne_eq_false_iff_eq] at q ⊢; omega) | (have q := hc98; rw [beq_iff_eq] at q ⊢; omega) | (have q := hc98; rw [beq_eq_false_iff_ne] at q ⊢; omega) | (have q := hc98d; rw [bne_iff_ne] at q ⊢; omega) | (have q := hc98d; rw [bne_eq_false_iff_eq] at q ⊢; omega) | (have q := hc98d; rw [beq_iff_eq] at q ⊢; omega) | (have q := hc98d; rw [beq_eq_false_iff_ne] at q ⊢; omega))), HD.out⟩
                  · replace HB97 := Lib.hid (ifT rfl HB97.out)
                    obtain rfl := Option.some.inj HB97.out
                    obtain rfl := Option.some.inj HM.out
                    go_wp2_with fail
                    try clear f107 f108 f109
                    go_ret
                    exact ⟨(by first | rfl | (refine congrArg (fun b => Ending.returned (Value.bool b)) ?_; first | (exact decide_eq_true (by omega)) | (exact decide_eq_false (by omega)) | (have q := hc98; rw [bne_iff_ne] at q ⊢; omega) | (have q := hc98; rw [bne_eq_false_iff_eq] at q ⊢; omega) | (have q := hc98; rw [beq_iff_eq] at q ⊢; omega) | (have q := hc98; rw [beq_eq_false_iff_ne] at q ⊢; omega) | (have q := hc98d; rw [bne_iff_ne] at q ⊢; omega) | (have q := hc98d; rw [bne_eq_false_iff_eq] at q ⊢; omega) | (have q := hc98d; rw [beq_iff_eq] at q ⊢; omega) | (have q := hc98d; rw [beq_eq_false_iff_ne] at q ⊢; omega))), HD.out⟩
        · replace HM := Lib.hid (ifT rfl HM.out)
          obtain ⟨b112, hb, hm⟩ := obind HM.out
          replace HM := Lib.hid hm; have HB113 := Lib.hid hb; clear hm hb
          obtain ⟨A114, cap115, he, _⟩ := HP.open_B HOA.out (List.Mem.head _)
          subst he
          rcases Bool.eq_false_or_eq_true (((y7).length : Int) == ((v1).length : Int)) with hc116 | hc116
          · replace HB113 := Lib.hid (ifT hc116 HB113.out)
            have HK117 := Lib.hid hc116
            obtain rfl := Option.some.inj HB113.out
            obtain rfl := Option.some.inj HM.out
            go_wp2_with fail
            go_ret
            exact ⟨(by first | rfl | (refine congrArg (fun b => Ending.returned (Value.bool b)) ?_; first | (exact decide_eq_true (by omega)) | (exact decide_eq_false (by omega)) | (have q := hc116; rw [bne_iff_ne] at q ⊢; omega) | (have q := hc116; rw [bne_eq_false_iff_eq] at q ⊢; omega) | (have q := hc116; rw [beq_iff_eq] at q ⊢; omega) | (have q := hc116; rw [beq_eq_false_iff_ne] at q ⊢; omega))), HD.out⟩
          · replace HB113 := Lib.hid (ifF (bF hc116) HB113.out)
            have HK117 := Lib.hid hc116
            obtain rfl := Option.some.inj HB113.out
            obtain rfl := Option.some.inj HM.out
            go_wp2_with fail
            go_ret
            exact ⟨(by first | rfl | (refine congrArg (fun b => Ending.returned (Value.bool b)) ?_; first | (exact decide_eq_true (by omega)) | (exact decide_eq_false (by omega)) | (have q := hc116; rw [bne_iff_ne] at q ⊢; omega) | (have q := hc116; rw [bne_eq_false_iff_eq] at q ⊢; omega) | (have q := hc116; rw [beq_iff_eq] at q ⊢; omega) | (have q := hc116; rw [beq_eq_false_iff_ne] at q ⊢; omega))), HD.out⟩
    · try rw [errV_pos _ hz13]
      have HZ14 := Lib.hid hz13; clear hz13
      replace HM := Lib.hid (ifT (bne_iff_ne.2 HZ14.out) HM.out)
      obtain ⟨b118, hb, hm⟩ := obind HM.out
      replace HM := Lib.hid hm; have HB119 := Lib.hid hb; clear hm hb
      obtain ⟨A120, cap121, he, _⟩ := HP.open_B HOA.out (List.Mem.head _)
      subst he
      rcases Bool.eq_false_or_eq_true (((y7).length : Int) == 0) with hc122 | hc122
      · replace HB119 := Lib.hid (ifT hc122 HB119.out)
        have HK123 := Lib.hid hc122
        obtain rfl := Option.some.inj HB119.out
        obtain rfl := Option.some.inj HM.out
        go_wp2_with fail
        go_ret
        exact ⟨(by first | rfl | (refine congrArg (fun b => Ending.returned (Value.bool b)) ?_; first | (exact decide_eq_true (by omega)) | (exact decide_eq_false (by omega)) | (have q := hc122; rw [bne_iff_ne] at q ⊢; omega) | (have q := hc122; rw [bne_eq_false_iff_eq] at q ⊢; omega) | (have q := hc122; rw [beq_iff_eq] at q ⊢; omega) | (have q := hc122; rw [beq_eq_false_iff_ne] at q ⊢; omega))), HD.out⟩
      · replace HB119 := Lib.hid (ifF (bF hc122) HB119.out)
        have HK123 := Lib.hid hc122
        obtain rfl := Option.some.inj HB119.out
        obtain rfl := Option.some.inj HM.out
        go_wp2_with fail
        go_ret
        exact ⟨(by first | rfl | (refine congrArg (fun b => Ending.returned (Value.bool b)) ?_; first | (exact decide_eq_true (by omega)) | (exact decide_eq_false (by omega)) | (have q := hc122; rw [bne_iff_ne] at q ⊢; omega) | (have q := hc122; rw [bne_eq_false_iff_eq] at q ⊢; omega) | (have q := hc122; rw [beq_iff_eq] at q ⊢; omega) | (have q := hc122; rw [beq_eq_false_iff_ne] at q ⊢; omega))), HD.out⟩
end Go.Proofs.Ytccdnokddkpmgaa
