import Derived.Test.YtabkmceajgpdjaaA
import Derived.Test.YtabkmceajgpdjaaIns
set_option linter.all false
set_option maxRecDepth 100000
namespace Go.Proofs.Ytabkmceajgpdjaa
open Go.RowKit
def tourn_Row_L1 (F : Nat) (v0 : Int) (v5 : List Nat) : Nat → (Int) → (List Int) → Option (List Int)
  | 0, _, _ => none
  | g+1, j, v6 => if j < v0 then (ix v5 j).bind fun y3 => (slIdxM F (v6) (y3)).bind fun y4 => (if y4 < 0 then (slIns v6 ((v6).length : Int) j).bind fun y5 => tourn_Row_L1 F v0 v5 g (wrap64 (j + 1)) (y5) else (slIns v6 y4 j).bind fun y6 => tourn_Row_L1 F v0 v5 g (wrap64 (j + 1)) (y6)) else some (v6)
theorem tourn_Row_L1_0 (F : Nat) (v0 : Int) (v5 : List Nat) (v6 : List Int) (j : Int) : tourn_Row_L1 F v0 v5 0 j v6 = none := by rw [tourn_Row_L1]
theorem tourn_Row_L1_s (F g : Nat) (v0 : Int) (v5 : List Nat) (v6 : List Int) (j : Int) : tourn_Row_L1 F v0 v5 (g+1) j v6 = (if j < v0 then (ix v5 j).bind fun y3 => (slIdxM F (v6) (y3)).bind fun y4 => (if y4 < 0 then (slIns v6 ((v6).length : Int) j).bind fun y5 => tourn_Row_L1 F v0 v5 g (wrap64 (j + 1)) (y5) else (slIns v6 y4 j).bind fun y6 => tourn_Row_L1 F v0 v5 g (wrap64 (j + 1)) (y6)) else some (v6)) := by rw [tourn_Row_L1]
def tourn_Row (F : Nat) (v0 : Int) (v1 : List (Int × Int)) : Option (List Int × Int) := (tourn_Check F (v0) (v1)).bind fun y1 => (if (y1 != 0) = true then some (([], y1)) else (mOut (v0) (v1)).bind fun y2 => (tourn_Row_L1 F (v0) (y2) F (0) ([])).bind fun o7 => some ((o7, 0)))
set_option maxRecDepth 100000 in
set_option maxHeartbeats 4000000 in
theorem tourn_Row_ok {F : Nat} {v0 : Int} {v1 : List (Int × Int)} {A1 : Option Addr} {r : List Int × Int} (w : World) (cap1 : Nat) (hr1 : ReadsL w w.heap.size A1 v1) (h : tourn_Row F v0 v1 = some r) :
    Calls Try.prog 8 #[.int .i64 v0, .slice A1 v1.length cap1] w (PostG (fun v => (.tuple #[v, (errV 58 r.2)])) (fun v => owI v r.1) w.heap.size w) := by
  have HR1 := Lib.hid hr1; clear hr1
  have HD := Lib.hid (Below.refl w.heap.size w)
  have HOA := Lib.hid (HP.nil (W := w) (B := w.heap.size))
  unfold tourn_Row at h
  have HM := Lib.hid h; clear h
  go_enter Try.func8, Try.ntmps8
  obtain ⟨y3, hy1, hm⟩ := obind HM.out
  replace HM := Lib.hid hm; clear hm
  have HC2 := tourn_Check_ok w cap1 (rdL HD.out HR1.out) hy1
  clear hy1
  by_cases hz4 : y3 = 0
  · subst hz4
    rw [errV_zero] at HC2; replace HC2 := Lib.hid HC2
    go_wp2_with fail
    refine HC2.out.mono ?_; rintro e W5 ⟨rfl, hd⟩
    replace HOA := Lib.hid (HOA.out.below hd)
    replace HD := Lib.hid (HD.out.trans (hd.mono HD.out.size))
    clear hd
    replace HM := Lib.hid (ifF (by decide) HM.out)
    obtain ⟨y10, hy8, hm⟩ := obind HM.out
    replace HM := Lib.hid hm; clear hm
    have HC9 := mOut_ok W5 cap1 (rdL HD.out HR1.out) hy8
    clear hy8
    replace HC9 := Lib.hid HC9
    go_wp2_with fail
    refine HC9.out.mono ?_; rintro e W11 ⟨V12, rfl, ho, hd⟩
    replace HOA := Lib.hid (HOA.out.call hd HD.out.size ho); clear ho
    replace HD := Lib.hid (HD.out.trans (hd.mono HD.out.size))
    clear hd
    replace HOA := Lib.hid (show HP _ _ (.fl (owI (.slice none 0 0) ([])) :: _) from HOA.out.pushNil _ _)
    go_wp2_with fail
    obtain ⟨o15, ho, hm⟩ := obind HM.out
    replace HM := Lib.hid hm; have HL1 := Lib.hid ho; clear hm ho
    go_loopg [21, 8] F (fun gg uj ux17 wr => ∃ (j19 : Int) (x16 : List Int) (V18 : Value), uj = .int .i64 j19 ∧ V18 = ux17 ∧ Hid (Below w.heap.size w wr) ∧ Hid (HP wr w.heap.size [.fl (owI V18 (x16)), .fl (owM V12 (y10))]) ∧ Hid (tourn_Row_L1 F (v0) (y10) gg j19 x16 = some o15))
    case atStart => exact ⟨0, [], (.slice none 0 0), rfl, rfl, HD, HOA, HL1⟩
    case round =>
      obtain ⟨j19, x16, V18, rfl, rfl, HD, HOA, HL1⟩ := hrel
      rename World => W20
      cases gk with
      | zero => exact absurd ((tourn_Row_L1_0 ..).symm.trans HL1.out) (by intro h; cases h)
      | succ g1 =>
        replace HL1 := Lib.hid ((tourn_Row_L1_s ..).symm.trans HL1.out)
        by_cases hc21 : j19 < v0
        · replace HL1 := Lib.hid (ifT hc21 HL1.out)
          have HK22 := Lib.hid hc21
          obtain ⟨A25, cap26, he, _⟩ := HP.open_M HOA.out (List.Mem.tail _ (List.Mem.head _))
          subst he
          obtain ⟨y23, hy24, hm⟩ := obind HL1.out
          replace HL1 := Lib.hid hm; clear hm
          obtain ⟨b27, o28, ea29, _, f30, f31, f32⟩ := ReadsM.ix (HP.rd_M HOA.out (List.Mem.tail _ (List.Mem.head _))) hy24
          cases ea29
          try simp only [Nat.zero_add, Nat.add_zero, Int.toNat_natCast, Int.toNat_zero, Int.toNat_one] at f32
          try rw [← HP.len_M HOA.out (List.Mem.tail _ (List.Mem.head _))] at f31
          have HY34 := Lib.hid hy24; clear hy24
          obtain ⟨y37, hy35, hm⟩ := obind HL1.out
          replace HL1 := Lib.hid hm; clear hm
          obtain ⟨A38, cap39, he, _⟩ := HP.open_I HOA.out (List.Mem.head _)
          subst he
          have HC36 := slIdxM_ok W20 cap39 (HP.rd_I HOA.out (List.Mem.head _)) hy35
          clear hy35
          replace HC36 := Lib.hid HC36
          go_wp2_with fail
          refine HC36.out.mono ?_; rintro e W40 ⟨rfl, hd⟩
          try clear hc21 f30 f31 f32
          replace HOA := Lib.hid (HOA.out.below hd)
          replace HD := Lib.hid (HD.out.trans (hd.mono HD.out.size))
          clear hd
          by_cases hc41 : y37 < 0
          · replace HL1 := Lib.hid (ifT hc41 HL1.out)
            have HK42 := Lib.hid hc41
            obtain ⟨y43, hy44, hm⟩ := obind HL1.out
            replace HL1 := Lib.hid hm; clear hm
            obtain ⟨f45, hy44⟩ := slIns_some hy44; subst hy44
            have hc := slIns_ok (L1 := []) (x := j19) W40 HOA.out HD.out.size f45
            try rw [← HP.len_I HOA.out (List.Mem.head _)] at hc
            have HC48 := Lib.hid hc; clear hc
            go_wp2_with fail
            refine HC48.out.mono ?_; rintro e W47 ⟨V46, rfl, hoa, hd⟩
            try clear f45 hc41
            replace HOA := Lib.hid hoa; clear hoa
            replace HOA := Lib.hid (show HP W47 w.heap.size [.fl (owI V46 ((insAt x16 ((x16).length : Int) j19))), .fl (owM (.slice (some ⟨b27, o28, none⟩) (y10).length cap26) (y10))] from HOA.out)
            replace HD := Lib.hid (HD.out.trans hd); clear hd
            go_wp2_with fail
            go_roundg g1
            case measure => omega
            case rel => exact ⟨(wrap64 (j19 + 1)), (insAt x16 ((x16).length : Int) j19), V46, rfl, rfl, HD, HOA, HL1⟩
          · replace HL1 := Lib.hid (ifF hc41 HL1.out)
            have hc41d := decide_eq_false hc41
            have HK42 := Lib.hid hc41
            obtain ⟨y49, hy50, hm⟩ := obind HL1.out
            replace HL1 := Lib.hid hm; clear hm
            obtain ⟨f51, hy50⟩ := slIns_some hy50; subst hy50
            have hc := slIns_ok (L1 := []) (x := j19) W40 HOA.out HD.out.size f51
            try rw [← HP.len_I HOA.out (List.Mem.head _)] at hc
            have HC54 := Lib.hid hc; clear hc
            go_wp2_with fail
            refine HC54.out.mono ?_; rintro e W53 ⟨V52, rfl, hoa, hd⟩
            try clear f51 hc41 hc41d
            replace HOA := Lib.hid hoa; clear hoa
            replace HOA := Lib.hid (show HP W53 w.heap.size [.fl (owI V52 ((insAt x16 y37 j19))), .fl (owM (.slice (some ⟨b27, o28, none⟩) (y10).length cap26) (y10))] from HOA.out)
            replace HD := Lib.hid (HD.out.trans hd); clear hd
            go_wp2_with fail
            go_roundg g1
            case measure => omega
            case rel => exact ⟨(wrap64 (j19 + 1)), (insAt x16 y37 j19), V52, rfl, rfl, HD, HOA, HL1⟩
        · replace HL1 := Lib.hid (ifF hc21 HL1.out)
          have hc21d := decide_eq_false hc21
          have HK22 := Lib.hid hc21
          obtain rfl := Option.some.inj HL1.out
          have hm := HM.out; try dsimp only at hm
          replace HM := Lib.hid hm; clear hm
          obtain rfl := Option.some.inj HM.out
          go_wp2_with fail
          try clear hc21 hc21d
          go_ret2
          exact ⟨_, rfl, HOA.out.get (List.Mem.head _), HD.out⟩
  · rw [errV_pos _ hz4] at HC2; replace HC2 := Lib.hid HC2
    go_wp2_with fail
    refine HC2.out.mono ?_; rintro e W6 ⟨rfl, hd⟩
    replace HOA := Lib.hid (HOA.out.below hd)
    replace HD := Lib.hid (HD.out.trans (hd.mono HD.out.size))
    clear hd
    have HZ7 := Lib.hid hz4; clear hz4
    replace HM := Lib.hid (ifT (bne_iff_ne.2 HZ7.out) HM.out)
    obtain rfl := Option.some.inj HM.out
    go_wp2_with fail
    go_ret2
    exact ⟨_, (by first | (rw [errV_pos _ HZ7.out]; rfl) | rw [errV_pos _ HZ7.out]), World.ownsRow_nil _ _ _ _, HD.out⟩
def L4_tournFact (F : Nat)  : Option (Bool) := (tourn_Scores F (3) ([(0, 1), (1, 2), (2, 0)])).bind fun y1 => (tourn_Row F (3) ([(0, 1), (1, 2), (2, 0)])).bind fun y2 => (tourn_Kings F (3) ([(0, 1), (1, 2), (2, 0)])).bind fun y3 => (((((if (y1.2 == 0) = true then if (y2.2 == 0) = true then some true else some false else some false).bind fun b8 => if b8 = true then if (y3.2 == 0) = true then some true else some false else some false).bind fun b7 => if b7 = true then (SE_Ints F (y1.1) ([1, 1, 1])).bind fun y9 => if y9 = true then some true else some false else some false).bind fun b6 => if b6 = true then (SE_Ints F (y2.1) ([2, 0, 1])).bind fun y10 => if y10 = true then some true else some false else some false).bind fun b5 => if b5 = true then (SE_Ints F (y3.1) ([0, 1, 2])).bind fun y11 => if y11 = true then some true else some false else some false).bind fun b4 => some (b4)
set_option maxRecDepth 100000 in
set_option maxHeartbeats 4000000 in
theorem L4_tournFact_ok {F : Nat}  {r : Bool} (w : World)  (h : L4_tournFact F  = some r) :
    Calls Try.prog 7 #[] w fun e w' => e = .returned (.bool r) ∧ Below w.heap.size w w' := by
  have HD := Lib.hid (Below.refl w.heap.size w)
  have HOA := Lib.hid (HP.nil (W := w) (B := w.heap.size))
  unfold L4_tournFact at h
  have HM := Lib.hid h; clear h
  go_enter Try.func7, Try.ntmps7
  have hd : Below w.heap.size w (World.alloc w (.cells #[Value.int .i64 (0), Value.int .i64 (1), Value.int .i64 (1), Value.int .i64 (2), Value.int .i64 (2), Value.int .i64 (0)] 43)) := (Below.refl _ _).alloc (Nat.le_refl _) _
  have ho : (owL (.slice (some ⟨w.heap.size, 0, none⟩) 3 3) [(0, 1), (1, 2), (2, 0)]).ok (World.alloc w (.cells #[Value.int .i64 (0), Value.int .i64 (1), Value.int .i64 (1), Value.int .i64 (2), Value.int .i64 (2), Value.int .i64 (0)] 43)) w.heap.size := litL_ok w [(0, 1), (1, 2), (2, 0)] (by unfold maxLen; simp)
  replace HOA := Lib.hid (HOA.out.call hd HD.out.size ho); clear ho
  replace HD := Lib.hid (HD.out.trans (hd.mono HD.out.size))
  clear hd
  go_upto_region 2 with (fail)
  generalize hW : World.alloc w _ = W1 at *
  clear hW
  obtain ⟨⟨y5, y6⟩, hy3, hm⟩ := obind HM.out
  dsimp only at hm
  replace HM := Lib.hid hm; clear hm
  have HC4 := tourn_Scores_ok W1 3 (HP.rd_L HOA.out (List.Mem.head _)) hy3
  clear hy3
  try rw [← HP.len_L HOA.out (List.Mem.head _)] at HC4
  by_cases hz7 : y6 = 0
  · subst hz7
    rw [errV_zero] at HC4; replace HC4 := Lib.hid HC4
    go_wp2_with fail
    refine HC4.out.mono ?_; rintro e W8 ⟨V9, rfl, ho, hd⟩
    replace HOA := Lib.hid (HOA.out.call hd HD.out.size ho); clear ho
    replace HD := Lib.hid (HD.out.trans (hd.mono HD.out.size))
    clear hd
    obtain ⟨⟨y17, y18⟩, hy15, hm⟩ := obind HM.out
    dsimp only at hm
    replace HM := Lib.hid hm; clear hm
    have HC16 := tourn_Row_ok W8 3 (HP.rd_L HOA.out (List.Mem.tail _ (List.Mem.head _))) hy15
    clear hy15
    try rw [← HP.len_L HOA.out (List.Mem.tail _ (List.Mem.head _))] at HC16
    by_cases hz19 : y18 = 0
    · subst hz19
      rw [errV_zero] at HC16; replace HC16 := Lib.hid HC16
      go_wp2_with fail
      refine HC16.out.mono ?_; rintro e W20 ⟨V21, rfl, ho, hd⟩
      replace HOA := Lib.hid (HOA.out.call hd HD.out.size ho); clear ho
      replace HD := Lib.hid (HD.out.trans (hd.mono HD.out.size))
      clear hd
      obtain ⟨⟨y29, y30⟩, hy27, hm⟩ := obind HM.out
      dsimp only at hm
      replace HM := Lib.hid hm; clear hm
      have HC28 := tourn_Kings_ok W20 3 (HP.rd_L HOA.out (List.Mem.tail _ (List.Mem.tail _ (List.Mem.head _)))) hy27
      clear hy27
      try rw [← HP.len_L HOA.out (List.Mem.tail _ (List.Mem.tail _ (List.Mem.head _)))] at HC28
      by_cases hz31 : y30 = 0
      · subst hz31
        rw [errV_zero] at HC28; replace HC28 := Lib.hid HC28
        go_wp2_with fail
        refine HC28.out.mono ?_; rintro e W32 ⟨V33, rfl, ho, hd⟩
        replace HOA := Lib.hid (HOA.out.call hd HD.out.size ho); clear ho
        replace HD := Lib.hid (HD.out.trans (hd.mono HD.out.size))
        clear hd
        obtain ⟨b39, hb, hm⟩ := obind HM.out
        replace HM := Lib.hid hm; have HB40 := Lib.hid hb; clear hm hb
        obtain ⟨b41, hb, hm⟩ := obind HB40.out
        replace HB40 := Lib.hid hm; have HB42 := Lib.hid hb; clear hm hb
        obtain ⟨b43, hb, hm⟩ := obind HB42.out
        replace HB42 := Lib.hid hm; have HB44 := Lib.hid hb; clear hm hb
        obtain ⟨b45, hb, hm⟩ := obind HB44.out
        replace HB44 := Lib.hid hm; have HB46 := Lib.hid hb; clear hm hb
        obtain ⟨b47, hb, hm⟩ := obind HB46.out
        replace HB46 := Lib.hid hm; have HB48 := Lib.hid hb; clear hm hb
        replace HB48 := Lib.hid (ifT (by decide) HB48.out)
        replace HB48 := Lib.hid (ifT (by decide) HB48.out)
        obtain rfl := Option.some.inj HB48.out
        replace HB46 := Lib.hid (ifT (by first | rfl | trivial) HB46.out)
        replace HB46 := Lib.hid (ifT (by decide) HB46.out)
        obtain rfl := Option.some.inj HB46.out
        replace HB44 := Lib.hid (ifT (by first | rfl | trivial) HB44.out)
        have hd : Below W32.heap.size W32 (World.alloc W32 (.cells #[Value.int .i64 (1), Value.int .i64 (1), Value.int .i64 (1)] 3)) := (Below.refl _ _).alloc (Nat.le_refl _) _
        have ho : (owI (.slice (some ⟨W32.heap.size, 0, none⟩) 3 3) [1, 1, 1]).ok (World.alloc W32 (.cells #[Value.int .i64 (1), Value.int .i64 (1), Value.int .i64 (1)] 3)) W32.heap.size := litI_ok W32 [1, 1, 1] (by unfold maxLen; simp)
        replace HOA := Lib.hid (HOA.out.call hd HD.out.size ho); clear ho
        replace HD := Lib.hid (HD.out.trans (hd.mono HD.out.size))
        clear hd
        obtain ⟨y53, hy51, hm⟩ := obind HB44.out
        replace HB44 := Lib.hid hm; clear hm
        obtain ⟨A54, cap55, he, _⟩ := HP.open_I HOA.out (List.Mem.tail _ (List.Mem.tail _ (List.Mem.tail _ (List.Mem.head _))))
        subst he
        have HC52 := SE_Ints_ok (World.alloc W32 (.cells #[Value.int .i64 (1), Value.int .i64 (1), Value.int .i64 (1)] 3)) cap55 (HP.rd_I HOA.out (List.Mem.tail _ (List.Mem.tail _ (List.Mem.tail _ (List.Mem.head _))))) 3 (HP.rd_I HOA.out (List.Mem.head _)) hy51
        clear hy51
        try rw [← HP.len_I HOA.out (List.Mem.head _)] at HC52
        replace HC52 := Lib.hid HC52
        go_wp2_with fail
        refine HC52.out.mono ?_; rintro e W56 ⟨rfl, hd⟩
        replace HOA := Lib.hid (HOA.out.below (hd.below _))
        replace HD := Lib.hid (HD.out.trans ((hd.below _).mono HD.out.size))
        clear hd
        cases y53
        · replace HB44 := Lib.hid (ifF Bool.false_ne_true HB44.out)
          obtain rfl := Option.some.inj HB44.out
          replace HB42 := Lib.hid (ifF (by first | exact Bool.false_ne_true | exact not_false) HB42.out)
          obtain rfl := Option.some.inj HB42.out
          replace HB40 := Lib.hid (ifF (by first | exact Bool.false_ne_true | exact not_false) HB40.out)
          obtain rfl := Option.some.inj HB40.out
          obtain rfl := Option.some.inj HM.out
          go_wp2_with fail
          go_ret
          exact ⟨rfl, HD.out⟩
        · replace HB44 := Lib.hid (ifT rfl HB44.out)
          obtain rfl := Option.some.inj HB44.out
          replace HB42 := Lib.hid (ifT (by first | rfl | trivial) HB42.out)
          have hd : Below W56.heap.size W56 (World.alloc W56 (.cells #[Value.int .i64 (2), Value.int .i64 (0), Value.int .i64 (1)] 3)) := (Below.refl _ _).alloc (Nat.le_refl _) _
          have ho : (owI (.slice (some ⟨W56.heap.size, 0, none⟩) 3 3) [2, 0, 1]).ok (World.alloc W56 (.cells #[Value.int .i64 (2), Value.int .i64 (0), Value.int .i64 (1)] 3)) W56.heap.size := litI_ok W56 [2, 0, 1] (by unfold maxLen; simp)
          replace HOA := Lib.hid (HOA.out.call hd HD.out.size ho); clear ho
          replace HD := Lib.hid (HD.out.trans (hd.mono HD.out.size))
          clear hd
          obtain ⟨y61, hy59, hm⟩ := obind HB42.out
          replace HB42 := Lib.hid hm; clear hm
          obtain ⟨A62, cap63, he, _⟩ := HP.open_I HOA.out (List.Mem.tail _ (List.Mem.tail _ (List.Mem.tail _ (List.Mem.head _))))
          subst he
          have HC60 := SE_Ints_ok (World.alloc W56 (.cells #[Value.int .i64 (2), Value.int .i64 (0), Value.int .i64 (1)] 3)) cap63 (HP.rd_I HOA.out (List.Mem.tail _ (List.Mem.tail _ (List.Mem.tail _ (List.Mem.head _))))) 3 (HP.rd_I HOA.out (List.Mem.head _)) hy59
          clear hy59
          try rw [← HP.len_I HOA.out (List.Mem.head _)] at HC60
          replace HC60 := Lib.hid HC60
          go_wp2_with fail
          refine HC60.out.mono ?_; rintro e W64 ⟨rfl, hd⟩
          replace HOA := Lib.hid (HOA.out.below (hd.below _))
          replace HD := Lib.hid (HD.out.trans ((hd.below _).mono HD.out.size))
          clear hd
          cases y61
          · replace HB42 := Lib.hid (ifF Bool.false_ne_true HB42.out)
            obtain rfl := Option.some.inj HB42.out
            replace HB40 := Lib.hid (ifF (by first | exact Bool.false_ne_true | exact not_false) HB40.out)
            obtain rfl := Option.some.inj HB40.out
            obtain rfl := Option.some.inj HM.out
            go_wp2_with fail
            go_ret
            exact ⟨rfl, HD.out⟩
          · replace HB42 := Lib.hid (ifT rfl HB42.out)
            obtain rfl := Option.some.inj HB42.out
            replace HB40 := Lib.hid (ifT (by first | rfl | trivial) HB40.out)
            have hd : Below W64.heap.size W64 (World.alloc W64 (.cells #[Value.int .i64 (0), Value.int .i64 (1), Value.int .i64 (2)] 3)) := (Below.refl _ _).alloc (Nat.le_refl _) _
            have ho : (owI (.slice (some ⟨W64.heap.size, 0, none⟩) 3 3) [0, 1, 2]).ok (World.alloc W64 (.cells #[Value.int .i64 (0), Value.int .i64 (1), Value.int .i64 (2)] 3)) W64.heap.size := litI_ok W64 [0, 1, 2] (by unfold maxLen; simp)
            replace HOA := Lib.hid (HOA.out.call hd HD.out.size ho); clear ho
            replace HD := Lib.hid (HD.out.trans (hd.mono HD.out.size))
            clear hd
            obtain ⟨y69, hy67, hm⟩ := obind HB40.out
            replace HB40 := Lib.hid hm; clear hm
            obtain ⟨A70, cap71, he, _⟩ := HP.open_I HOA.out (List.Mem.tail _ (List.Mem.tail _ (List.Mem.tail _ (List.Mem.head _))))
            subst he
            have HC68 := SE_Ints_ok (World.alloc W64 (.cells #[Value.int .i64 (0), Value.int .i64 (1), Value.int .i64 (2)] 3)) cap71 (HP.rd_I HOA.out (List.Mem.tail _ (List.Mem.tail _ (List.Mem.tail _ (List.Mem.head _))))) 3 (HP.rd_I HOA.out (List.Mem.head _)) hy67
            clear hy67
            try rw [← HP.len_I HOA.out (List.Mem.head _)] at HC68
            replace HC68 := Lib.hid HC68
            go_wp2_with fail
            refine HC68.out.mono ?_; rintro e W72 ⟨rfl, hd⟩
            replace HOA := Lib.hid (HOA.out.below (hd.below _))
            replace HD := Lib.hid (HD.out.trans ((hd.below _).mono HD.out.size))
            clear hd
            cases y69
            · replace HB40 := Lib.hid (ifF Bool.false_ne_true HB40.out)
              obtain rfl := Option.some.inj HB40.out
              obtain rfl := Option.some.inj HM.out
              go_wp2_with fail
              go_ret
              exact ⟨rfl, HD.out⟩
            · replace HB40 := Lib.hid (ifT rfl HB40.out)
              obtain rfl := Option.some.inj HB40.out
              obtain rfl := Option.some.inj HM.out
              go_wp2_with fail
              go_ret
              exact ⟨rfl, HD.out⟩
      · rw [errV_pos _ hz31] at HC28; replace HC28 := Lib.hid HC28
        go_wp2_with fail
        refine HC28.out.mono ?_; rintro e W35 ⟨V36, rfl, ho, hd⟩
        replace HOA := Lib.hid (HOA.out.call hd HD.out.size ho); clear ho
        replace HD := Lib.hid (HD.out.trans (hd.mono HD.out.size))
        clear hd
        have HZ38 := Lib.hid hz31; clear hz31
        obtain ⟨b73, hb, hm⟩ := obind HM.out
        replace HM := Lib.hid hm; have HB74 := Lib.hid hb; clear hm hb
        obtain ⟨b75, hb, hm⟩ := obind HB74.out
        replace HB74 := Lib.hid hm; have HB76 := Lib.hid hb; clear hm hb
        obtain ⟨b77, hb, hm⟩ := obind HB76.out
        replace HB76 := Lib.hid hm; have HB78 := Lib.hid hb; clear hm hb
        obtain ⟨b79, hb, hm⟩ := obind HB78.out
        replace HB78 := Lib.hid hm; have HB80 := Lib.hid hb; clear hm hb
        obtain ⟨b81, hb, hm⟩ := obind HB80.out
        replace HB80 := Lib.hid hm; have HB82 := Lib.hid hb; clear hm hb
        replace HB82 := Lib.hid (ifT (by decide) HB82.out)
        replace HB82 := Lib.hid (ifT (by decide) HB82.out)
        obtain rfl := Option.some.inj HB82.out
        replace HB80 := Lib.hid (ifT (by first | rfl | trivial) HB80.out)
        replace HB80 := Lib.hid (ifF (fun h => HZ38.out (eq_of_beq h)) HB80.out)
        obtain rfl := Option.some.inj HB80.out
        replace HB78 := Lib.hid (ifF (by first | exact Bool.false_ne_true | exact not_false) HB78.out)
        obtain rfl := Option.some.inj HB78.out
        replace HB76 := Lib.hid (ifF (by first | exact Bool.false_ne_true | exact not_false) HB76.out)
        obtain rfl := Option.some.inj HB76.out
        replace HB74 := Lib.hid (ifF (by first | exact Bool.false_ne_true | exact not_false) HB74.out)
        obtain rfl := Option.some.inj HB74.out
        obtain rfl := Option.some.inj HM.out
        go_wp2_with fail
        go_ret
        exact ⟨rfl, HD.out⟩
    · rw [errV_pos _ hz19] at HC16; replace HC16 := Lib.hid HC16
      go_wp2_with fail
      refine HC16.out.mono ?_; rintro e W23 ⟨V24, rfl, ho, hd⟩
      replace HOA := Lib.hid (HOA.out.call hd HD.out.size ho); clear ho
      replace HD := Lib.hid (HD.out.trans (hd.mono HD.out.size))
      clear hd
      have HZ26 := Lib.hid hz19; clear hz19
      obtain ⟨⟨y85, y86⟩, hy83, hm⟩ := obind HM.out
      dsimp only at hm
      replace HM := Lib.hid hm; clear hm
      have HC84 := tourn_Kings_ok W23 3 (HP.rd_L HOA.out (List.Mem.tail _ (List.Mem.tail _ (List.Mem.head _)))) hy83
      clear hy83
      try rw [← HP.len_L HOA.out (List.Mem.tail _ (List.Mem.tail _ (List.Mem.head _)))] at HC84
      by_cases hz87 : y86 = 0
      · subst hz87
        rw [errV_zero] at HC84; replace HC84 := Lib.hid HC84
        go_wp2_with fail
        refine HC84.out.mono ?_; rintro e W88 ⟨V89, rfl, ho, hd⟩
        replace HOA := Lib.hid (HOA.out.call hd HD.out.size ho); clear ho
        replace HD := Lib.hid (HD.out.trans (hd.mono HD.out.size))
        clear hd
        obtain ⟨b95, hb, hm⟩ := obind HM.out
        replace HM := Lib.hid hm; have HB96 := Lib.hid hb; clear hm hb
        obtain ⟨b97, hb, hm⟩ := obind HB96.out
        replace HB96 := Lib.hid hm; have HB98 := Lib.hid hb; clear hm hb
        obtain ⟨b99, hb, hm⟩ := obind HB98.out
        replace HB98 := Lib.hid hm; have HB100 := Lib.hid hb; clear hm hb
        obtain ⟨b101, hb, hm⟩ := obind HB100.out
        replace HB100 := Lib.hid hm; have HB102 := Lib.hid hb; clear hm hb
        obtain ⟨b103, hb, hm⟩ := obind HB102.out
        replace HB102 := Lib.hid hm; have HB104 := Lib.hid hb; clear hm hb
        replace HB104 := Lib.hid (ifT (by decide) HB104.out)
        replace HB104 := Lib.hid (ifF (fun h => HZ26.out (eq_of_beq h)) HB104.out)
        obtain rfl := Option.some.inj HB104.out
        replace HB102 := Lib.hid (ifF (by first | exact Bool.false_ne_true | exact not_false) HB102.out)
        obtain rfl := Option.some.inj HB102.out
        replace HB100 := Lib.hid (ifF (by first | exact Bool.false_ne_true | exact not_false) HB100.out)
        obtain rfl := Option.some.inj HB100.out
        replace HB98 := Lib.hid (ifF (by first | exact Bool.false_ne_true | exact not_false) HB98.out)
        obtain rfl := Option.some.inj HB98.out
        replace HB96 := Lib.hid (ifF (by first | exact Bool.false_ne_true | exact not_false) HB96.out)
        obtain rfl := Option.some.inj HB96.out
        obtain rfl := Option.some.inj HM.out
        go_wp2_with fail
        go_ret
        exact ⟨rfl, HD.out⟩
      · rw [errV_pos _ hz87] at HC84; replace HC84 := Lib.hid HC84
        go_wp2_with fail
        refine HC84.out.mono ?_; rintro e W91 ⟨V92, rfl, ho, hd⟩
        replace HOA := Lib.hid (HOA.out.call hd HD.out.size ho); clear ho
        replace HD := Lib.hid (HD.out.trans (hd.mono HD.out.size))
        clear hd
        have HZ94 := Lib.hid hz87; clear hz87
        obtain ⟨b105, hb, hm⟩ := obind HM.out
        replace HM := Lib.hid hm; have HB106 := Lib.hid hb; clear hm hb
        obtain ⟨b107, hb, hm⟩ := obind HB106.out
        replace HB106 := Lib.hid hm; have HB108 := Lib.hid hb; clear hm hb
        obtain ⟨b109, hb, hm⟩ := obind HB108.out
        replace HB108 := Lib.hid hm; have HB110 := Lib.hid hb; clear hm hb
        obtain ⟨b111, hb, hm⟩ := obind HB110.out
        replace HB110 := Lib.hid hm; have HB112 := Lib.hid hb; clear hm hb
        obtain ⟨b113, hb, hm⟩ := obind HB112.out
        replace HB112 := Lib.hid hm; have HB114 := Lib.hid hb; clear hm hb
        replace HB114 := Lib.hid (ifT (by decide) HB114.out)
        replace HB114 := Lib.hid (ifF (fun h => HZ26.out (eq_of_beq h)) HB114.out)
        obtain rfl := Option.some.inj HB114.out
        replace HB112 := Lib.hid (ifF (by first | exact Bool.false_ne_true | exact not_false) HB112.out)
        obtain rfl := Option.some.inj HB112.out
        replace HB110 := Lib.hid (ifF (by first | exact Bool.false_ne_true | exact not_false) HB110.out)
        obtain rfl := Option.some.inj HB110.out
        replace HB108 := Lib.hid (ifF (by first | exact Bool.false_ne_true | exact not_false) HB108.out)
        obtain rfl := Option.some.inj HB108.out
        replace HB106 := Lib.hid (ifF (by first | exact Bool.false_ne_true | exact not_false) HB106.out)
        obtain rfl := Option.some.inj HB106.out
        obtain rfl := Option.some.inj HM.out
        go_wp2_with fail
        go_ret
        exact ⟨rfl, HD.out⟩
  · rw [errV_pos _ hz7] at HC4; replace HC4 := Lib.hid HC4
    go_wp2_with fail
    refine HC4.out.mono ?_; rintro e W11 ⟨V12, rfl, ho, hd⟩
    replace HOA := Lib.hid (HOA.out.call hd HD.out.size ho); clear ho
    replace HD := Lib.hid (HD.out.trans (hd.mono HD.out.size))
    clear hd
    have HZ14 := Lib.hid hz7; clear hz7
    obtain ⟨⟨y117, y118⟩, hy115, hm⟩ := obind HM.out
    dsimp only at hm
    replace HM := Lib.hid hm; clear hm
    have HC116 := tourn_Row_ok W11 3 (HP.rd_L HOA.out (List.Mem.tail _ (List.Mem.head _))) hy115
    clear hy115
    try rw [← HP.len_L HOA.out (List.Mem.tail _ (List.Mem.head _))] at HC116
    by_cases hz119 : y118 = 0
    · subst hz119
      rw [errV_zero] at HC116; replace HC116 := Lib.hid HC116
      go_wp2_with fail
      refine HC116.out.mono ?_; rintro e W120 ⟨V121, rfl, ho, hd⟩
      replace HOA := Lib.hid (HOA.out.call hd HD.out.size ho); clear ho
      replace HD := Lib.hid (HD.out.trans (hd.mono HD.out.size))
      clear hd
      obtain ⟨⟨y129, y130⟩, hy127, hm⟩ := obind HM.out
      dsimp only at hm
      replace HM := Lib.hid hm; clear hm
      have HC128 := tourn_Kings_ok W120 3 (HP.rd_L HOA.out (List.Mem.tail _ (List.Mem.tail _ (List.Mem.head _)))) hy127
      clear hy127
      try rw [← HP.len_L HOA.out (List.Mem.tail _ (List.Mem.tail _ (List.Mem.head _)))] at HC128
      by_cases hz131 : y130 = 0
      · subst hz131
        rw [errV_zero] at HC128; replace HC128 := Lib.hid HC128
        go_wp2_with fail
        refine HC128.out.mono ?_; rintro e W132 ⟨V133, rfl, ho, hd⟩
        replace HOA := Lib.hid (HOA.out.call hd HD.out.size ho); clear ho
        replace HD := Lib.hid (HD.out.trans (hd.mono HD.out.size))
        clear hd
        obtain ⟨b139, hb, hm⟩ := obind HM.out
        replace HM := Lib.hid hm; have HB140 := Lib.hid hb; clear hm hb
        obtain ⟨b141, hb, hm⟩ := obind HB140.out
        replace HB140 := Lib.hid hm; have HB142 := Lib.hid hb; clear hm hb
        obtain ⟨b143, hb, hm⟩ := obind HB142.out
        replace HB142 := Lib.hid hm; have HB144 := Lib.hid hb; clear hm hb
        obtain ⟨b145, hb, hm⟩ := obind HB144.out
        replace HB144 := Lib.hid hm; have HB146 := Lib.hid hb; clear hm hb
        obtain ⟨b147, hb, hm⟩ := obind HB146.out
        replace HB146 := Lib.hid hm; have HB148 := Lib.hid hb; clear hm hb
        replace HB148 := Lib.hid (ifF (fun h => HZ14.out (eq_of_beq h)) HB148.out)
        obtain rfl := Option.some.inj HB148.out
        replace HB146 := Lib.hid (ifF (by first | exact Bool.false_ne_true | exact not_false) HB146.out)
        obtain rfl := Option.some.inj HB146.out
        replace HB144 := Lib.hid (ifF (by first | exact Bool.false_ne_true | exact not_false) HB144.out)
        obtain rfl := Option.some.inj HB144.out
        replace HB142 := Lib.hid (ifF (by first | exact Bool.false_ne_true | exact not_false) HB142.out)
        obtain rfl := Option.some.inj HB142.out
        replace HB140 := Lib.hid (ifF (by first | exact Bool.false_ne_true | exact not_false) HB140.out)
        obtain rfl := Option.some.inj HB140.out
        obtain rfl := Option.some.inj HM.out
        go_wp2_with fail
        go_ret
        exact ⟨rfl, HD.out⟩
      · rw [errV_pos _ hz131] at HC128; replace HC128 := Lib.hid HC128
        go_wp2_with fail
        refine HC128.out.mono ?_; rintro e W135 ⟨V136, rfl, ho, hd⟩
        replace HOA := Lib.hid (HOA.out.call hd HD.out.size ho); clear ho
        replace HD := Lib.hid (HD.out.trans (hd.mono HD.out.size))
        clear hd
        have HZ138 := Lib.hid hz131; clear hz131
        obtain ⟨b149, hb, hm⟩ := obind HM.out
        replace HM := Lib.hid hm; have HB150 := Lib.hid hb; clear hm hb
        obtain ⟨b151, hb, hm⟩ := obind HB150.out
        replace HB150 := Lib.hid hm; have HB152 := Lib.hid hb; clear hm hb
        obtain ⟨b153, hb, hm⟩ := obind HB152.out
        replace HB152 := Lib.hid hm; have HB154 := Lib.hid hb; clear hm hb
        obtain ⟨b155, hb, hm⟩ := obind HB154.out
        replace HB154 := Lib.hid hm; have HB156 := Lib.hid hb; clear hm hb
        obtain ⟨b157, hb, hm⟩ := obind HB156.out
        replace HB156 := Lib.hid hm; have HB158 := Lib.hid hb; clear hm hb
        replace HB158 := Lib.hid (ifF (fun h => HZ14.out (eq_of_beq h)) HB158.out)
        obtain rfl := Option.some.inj HB158.out
        replace HB156 := Lib.hid (ifF (by first | exact Bool.false_ne_true | exact not_false) HB156.out)
        obtain rfl := Option.some.inj HB156.out
        replace HB154 := Lib.hid (ifF (by first | exact Bool.false_ne_true | exact not_false) HB154.out)
        obtain rfl := Option.some.inj HB154.out
        replace HB152 := Lib.hid (ifF (by first | exact Bool.false_ne_true | exact not_false) HB152.out)
        obtain rfl := Option.some.inj HB152.out
        replace HB150 := Lib.hid (ifF (by first | exact Bool.false_ne_true | exact not_false) HB150.out)
        obtain rfl := Option.some.inj HB150.out
        obtain rfl := Option.some.inj HM.out
        go_wp2_with fail
        go_ret
        exact ⟨rfl, HD.out⟩
    · rw [errV_pos _ hz119] at HC116; replace HC116 := Lib.hid HC116
      go_wp2_with fail
      refine HC116.out.mono ?_; rintro e W123 ⟨V124, rfl, ho, hd⟩
      replace HOA := Lib.hid (HOA.out.call hd HD.out.size ho); clear ho
      replace HD := Lib.hid (HD.out.trans (hd.mono HD.out.size))
      clear hd
      have HZ126 := Lib.hid hz119; clear hz119
      obtain ⟨⟨y161, y162⟩, hy159, hm⟩ := obind HM.out
      dsimp only at hm
      replace HM := Lib.hid hm; clear hm
      have HC160 := tourn_Kings_ok W123 3 (HP.rd_L HOA.out (List.Mem.tail _ (List.Mem.tail _ (List.Mem.head _)))) hy159
      clear hy159
      try rw [← HP.len_L HOA.out (List.Mem.tail _ (List.Mem.tail _ (List.Mem.head _)))] at HC160
      by_cases hz163 : y162 = 0
      · subst hz163
        rw [errV_zero] at HC160; replace HC160 := Lib.hid HC160
        go_wp2_with fail
        refine HC160.out.mono ?_; rintro e W164 ⟨V165, rfl, ho, hd⟩
        replace HOA := Lib.hid (HOA.out.call hd HD.out.size ho); clear ho
        replace HD := Lib.hid (HD.out.trans (hd.mono HD.out.size))
        clear hd
        obtain ⟨b171, hb, hm⟩ := obind HM.out
        replace HM := Lib.hid hm; have HB172 := Lib.hid hb; clear hm hb
        obtain ⟨b173, hb, hm⟩ := obind HB172.out
        replace HB172 := Lib.hid hm; have HB174 := Lib.hid hb; clear hm hb
        obtain ⟨b175, hb, hm⟩ := obind HB174.out
        replace HB174 := Lib.hid hm; have HB176 := Lib.hid hb; clear hm hb
        obtain ⟨b177, hb, hm⟩ := obind HB176.out
        replace HB176 := Lib.hid hm; have HB178 := Lib.hid hb; clear hm hb
        obtain ⟨b179, hb, hm⟩ := obind HB178.out
        replace HB178 := Lib.hid hm; have HB180 := Lib.hid hb; clear hm hb
        replace HB180 := Lib.hid (ifF (fun h => HZ14.out (eq_of_beq h)) HB180.out)
        obtain rfl := Option.some.inj HB180.out
        replace HB178 := Lib.hid (ifF (by first | exact Bool.false_ne_true | exact not_false) HB178.out)
        obtain rfl := Option.some.inj HB178.out
        replace HB176 := Lib.hid (ifF (by first | exact Bool.false_ne_true | exact not_false) HB176.out)
        obtain rfl := Option.some.inj HB176.out
        replace HB174 := Lib.hid (ifF (by first | exact Bool.false_ne_true | exact not_false) HB174.out)
        obtain rfl := Option.some.inj HB174.out
        replace HB172 := Lib.hid (ifF (by first | exact Bool.false_ne_true | exact not_false) HB172.out)
        obtain rfl := Option.some.inj HB172.out
        obtain rfl := Option.some.inj HM.out
        go_wp2_with fail
        go_ret
        exact ⟨rfl, HD.out⟩
      · rw [errV_pos _ hz163] at HC160; replace HC160 := Lib.hid HC160
        go_wp2_with fail
        refine HC160.out.mono ?_; rintro e W167 ⟨V168, rfl, ho, hd⟩
        replace HOA := Lib.hid (HOA.out.call hd HD.out.size ho); clear ho
        replace HD := Lib.hid (HD.out.trans (hd.mono HD.out.size))
        clear hd
        have HZ170 := Lib.hid hz163; clear hz163
        obtain ⟨b181, hb, hm⟩ := obind HM.out
        replace HM := Lib.hid hm; have HB182 := Lib.hid hb; clear hm hb
        obtain ⟨b183, hb, hm⟩ := obind HB182.out
        replace HB182 := Lib.hid hm; have HB184 := Lib.hid hb; clear hm hb
        obtain ⟨b185, hb, hm⟩ := obind HB184.out
        replace HB184 := Lib.hid hm; have HB186 := Lib.hid hb; clear hm hb
        obtain ⟨b187, hb, hm⟩ := obind HB186.out
        replace HB186 := Lib.hid hm; have HB188 := Lib.hid hb; clear hm hb
        obtain ⟨b189, hb, hm⟩ := obind HB188.out
        replace HB188 := Lib.hid hm; have HB190 := Lib.hid hb; clear hm hb
        replace HB190 := Lib.hid (ifF (fun h => HZ14.out (eq_of_beq h)) HB190.out)
        obtain rfl := Option.some.inj HB190.out
        replace HB188 := Lib.hid (ifF (by first | exact Bool.false_ne_true | exact not_false) HB188.out)
        obtain rfl := Option.some.inj HB188.out
        replace HB186 := Lib.hid (ifF (by first | exact Bool.false_ne_true | exact not_false) HB186.out)
        obtain rfl := Option.some.inj HB186.out
        replace HB184 := Lib.hid (ifF (by first | exact Bool.false_ne_true | exact not_false) HB184.out)
        obtain rfl := Option.some.inj HB184.out
        replace HB182 := Lib.hid (ifF (by first | exact Bool.false_ne_true | exact not_false) HB182.out)
        obtain rfl := Option.some.inj HB182.out
        obtain rfl := Option.some.inj HM.out
        go_wp2_with fail
        go_ret
        exact ⟨rfl, HD.out⟩
end Go.Proofs.Ytabkmceajgpdjaa
