import Derived.Test.YtgihnflaikmakaaDoorF3
import Derived.Test.YtgihnflaikmakaaDoorErr
set_option linter.all false
set_option maxRecDepth 100000
namespace Go.Proofs.YtgihnflaikmakaaDoor
open Go.RowKit
def R3_Side_L1 (F : Nat) (v0 : Int) (v1 : List (Int × Int)) (v2 : Int) (v3 : Int) : Nat → (Int) → (Int) → Option (Int × Int)
  | 0, _, _ => none
  | g+1, v6, v7 => (R3_Power F (v0)).bind fun y1 => if v7 < y1 then (((R3_Member F (v7) (v2)).bind fun y3 => if y3 = true then (R3_Member F (v7) (v3)).bind fun y4 => if y4 = true then some true else some false else some true).bind fun b2 => if b2 = true then R3_Side_L1 F v0 v1 v2 v3 g (v6) ((wrap64 (v7 + 1))) else (((if v6 < 0 then some true else (R3_Away F (v1) (v7)).bind fun y7 => (R3_Away F (v1) (v6)).bind fun y8 => if y7 < y8 then some true else some false).bind fun b6 => if b6 = true then some true else (R3_Away F (v1) (v7)).bind fun y9 => (R3_Away F (v1) (v6)).bind fun y10 => if (y9 == y10) = true then (R3_Members F (v7)).bind fun y11 => (R3_Members F (v6)).bind fun y12 => if (y11.length : Int) < (y12.length : Int) then some true else some false else some false).bind fun b5 => if b5 = true then R3_Side_L1 F v0 v1 v2 v3 g (v7) ((wrap64 (v7 + 1))) else R3_Side_L1 F v0 v1 v2 v3 g (v6) ((wrap64 (v7 + 1))))) else some (v6, v7)
theorem R3_Side_L1_0 (F : Nat) (v0 : Int) (v1 : List (Int × Int)) (v2 : Int) (v3 : Int) (v6 : Int) (v7 : Int) : R3_Side_L1 F v0 v1 v2 v3 0 v6 v7 = none := by rw [R3_Side_L1]
theorem R3_Side_L1_s (F g : Nat) (v0 : Int) (v1 : List (Int × Int)) (v2 : Int) (v3 : Int) (v6 : Int) (v7 : Int) : R3_Side_L1 F v0 v1 v2 v3 (g+1) v6 v7 = ((R3_Power F (v0)).bind fun y1 => if v7 < y1 then (((R3_Member F (v7) (v2)).bind fun y3 => if y3 = true then (R3_Member F (v7) (v3)).bind fun y4 => if y4 = true then some true else some false else some true).bind fun b2 => if b2 = true then R3_Side_L1 F v0 v1 v2 v3 g (v6) ((wrap64 (v7 + 1))) else (((if v6 < 0 then some true else (R3_Away F (v1) (v7)).bind fun y7 => (R3_Away F (v1) (v6)).bind fun y8 => if y7 < y8 then some true else some false).bind fun b6 => if b6 = true then some true else (R3_Away F (v1) (v7)).bind fun y9 => (R3_Away F (v1) (v6)).bind fun y10 => if (y9 == y10) = true then (R3_Members F (v7)).bind fun y11 => (R3_Members F (v6)).bind fun y12 => if (y11.length : Int) < (y12.length : Int) then some true else some false else some false).bind fun b5 => if b5 = true then R3_Side_L1 F v0 v1 v2 v3 g (v7) ((wrap64 (v7 + 1))) else R3_Side_L1 F v0 v1 v2 v3 g (v6) ((wrap64 (v7 + 1))))) else some (v6, v7)) := by rw [R3_Side_L1]
def R3_Side (F : Nat) (v0 : Int) (v1 : List (Int × Int)) (v2 : Int) (v3 : Int) : Option (List Int × Int) := (R3_Side_L1 F (v0) (v1) (v2) (v3) F ((-1)) (0)).bind fun o13 => (R3_Members F (o13.1)).bind fun y14 => (R3_Away F (v1) (o13.1)).bind fun y15 => some ((y14, y15))
set_option maxRecDepth 100000 in
set_option maxHeartbeats 1000000 in
theorem R3_Side_ok {F : Nat} {v0 : Int} {v1 : List (Int × Int)} {A1 : Option Addr} {v2 : Int} {v3 : Int} {r : List Int × Int} (w : World) (cap1 : Nat) (hr1 : ReadsL w w.heap.size A1 v1) (h : R3_Side F v0 v1 v2 v3 = some r) :
    Calls Tryd.prog 6 #[.int .i64 v0, .slice A1 v1.length cap1, .int .i64 v2, .int .i64 v3] w (PostG (fun v => (.tuple #[v, (.int .i64 r.2)])) (fun v => owI v r.1) w.heap.size w) := by
  have HR1 := Lib.hid hr1; clear hr1
  have HD := Lib.hid (Below.refl w.heap.size w)
  have HOA := Lib.hid (HP.nil (W := w) (B := w.heap.size))
  unfold R3_Side at h
  have HM := Lib.hid h; clear h
  go_enter Tryd.func6, Tryd.ntmps6
  go_wp2_with fail
  obtain ⟨o1, ho, hm⟩ := obind HM.out
  replace HM := Lib.hid hm; have HL1 := Lib.hid ho; clear hm ho
  go_loopg [10, 11] F (fun gg ux4 ux5 wr => ∃ (x2 : Int) (x3 : Int), ux4 = .int .i64 x2 ∧ ux5 = .int .i64 x3 ∧ Hid (Below w.heap.size w wr) ∧ Hid (R3_Side_L1 F (v0) (v1) (v2) (v3) gg x2 x3 = some o1))
  case atStart => exact ⟨(-1), 0, rfl, rfl, (Lib.hid (Below.refl _ _)), HL1⟩
  case round =>
    obtain ⟨x2, x3, rfl, rfl, HW1, HL1⟩ := hrel
    rename World => W6
    have hd := HW1.out
    replace HOA := Lib.hid (HOA.out.below hd)
    replace HD := Lib.hid (HD.out.trans (hd.mono HD.out.size))
    clear hd
    cases gk with
    | zero => exact absurd ((R3_Side_L1_0 ..).symm.trans HL1.out) (by intro h; cases h)
    | succ g1 =>
      replace HL1 := Lib.hid ((R3_Side_L1_s ..).symm.trans HL1.out)
      obtain ⟨y9, hy7, hm⟩ := obind HL1.out
      replace HL1 := Lib.hid hm; clear hm
      have HC8 := R3_Power_ok W6  hy7
      clear hy7
      replace HC8 := Lib.hid HC8
      by_cases hc10 : x3 < y9
      · replace HL1 := Lib.hid (ifT hc10 HL1.out)
        have HK11 := Lib.hid hc10
        obtain ⟨b12, hb, hm⟩ := obind HL1.out
        replace HL1 := Lib.hid hm; have HB13 := Lib.hid hb; clear hm hb
        obtain ⟨y16, hy14, hm⟩ := obind HB13.out
        replace HB13 := Lib.hid hm; clear hm
        have HC15 := R3_Member_ok W6  hy14
        clear hy14
        replace HC15 := Lib.hid HC15
        cases y16
        · replace HB13 := Lib.hid (ifF Bool.false_ne_true HB13.out)
          obtain rfl := Option.some.inj HB13.out
          replace HL1 := Lib.hid (ifT (by first | rfl | trivial) HL1.out)
          go_wp2_with fail
          refine HC8.out.mono ?_; rintro e w' ⟨rfl, rfl⟩
          go_wp2_with fail
          refine HC15.out.mono ?_; rintro e w' ⟨rfl, rfl⟩
          go_wp2_with fail
          try clear hc10
          go_roundg g1
          case measure => omega
          case rel => exact ⟨x2, (wrap64 (x3 + 1)), rfl, rfl, HW1, HL1⟩
        · replace HB13 := Lib.hid (ifT rfl HB13.out)
          obtain ⟨y19, hy17, hm⟩ := obind HB13.out
          replace HB13 := Lib.hid hm; clear hm
          have HC18 := R3_Member_ok W6  hy17
          clear hy17
          replace HC18 := Lib.hid HC18
          cases y19
          · replace HB13 := Lib.hid (ifF Bool.false_ne_true HB13.out)
            obtain rfl := Option.some.inj HB13.out
            replace HL1 := Lib.hid (ifF (by first | exact Bool.false_ne_true | exact not_false) HL1.out)
            obtain ⟨b20, hb, hm⟩ := obind HL1.out
            replace HL1 := Lib.hid hm; have HB21 := Lib.hid hb; clear hm hb
            obtain ⟨b22, hb, hm⟩ := obind HB21.out
            replace HB21 := Lib.hid hm; have HB23 := Lib.hid hb; clear hm hb
            by_cases hc24 : x2 < 0
            · replace HB23 := Lib.hid (ifT hc24 HB23.out)
              have HK25 := Lib.hid hc24
              obtain rfl := Option.some.inj HB23.out
              replace HB21 := Lib.hid (ifT (by first | rfl | trivial) HB21.out)
              obtain rfl := Option.some.inj HB21.out
              replace HL1 := Lib.hid (ifT (by first | rfl | trivial) HL1.out)
              go_wp2_with fail
              refine HC8.out.mono ?_; rintro e w' ⟨rfl, rfl⟩
              go_wp2_with fail
              refine HC15.out.mono ?_; rintro e w' ⟨rfl, rfl⟩
              go_wp2_with fail
              refine HC18.out.mono ?_; rintro e w' ⟨rfl, rfl⟩
              go_wp2_with fail
              try clear hc10 hc24
              go_roundg g1
              case measure => omega
              case rel => exact ⟨x3, (wrap64 (x3 + 1)), rfl, rfl, HW1, HL1⟩
            · replace HB23 := Lib.hid (ifF hc24 HB23.out)
              have hc24d := decide_eq_false hc24
              have HK25 := Lib.hid hc24
              obtain ⟨y28, hy26, hm⟩ := obind HB23.out
              replace HB23 := Lib.hid hm; clear hm
              have HC27 := R3_Away_ok W6 cap1 (rdL HD.out HR1.out) hy26
              clear hy26
              replace HC27 := Lib.hid HC27
              go_wp2_with fail
              refine HC8.out.mono ?_; rintro e w' ⟨rfl, rfl⟩
              go_wp2_with fail
              refine HC15.out.mono ?_; rintro e w' ⟨rfl, rfl⟩
              go_wp2_with fail
              refine HC18.out.mono ?_; rintro e w' ⟨rfl, rfl⟩
              go_wp2_with fail
              refine HC27.out.mono ?_; rintro e W29 ⟨rfl, hd⟩
              try clear hc10 hc24 hc24d
              replace HOA := Lib.hid (HOA.out.below (hd.below _))
              replace HD := Lib.hid (HD.out.trans ((hd.below _).mono HD.out.size))
              replace HW1 := Lib.hid (HW1.out.trans ((hd.below _).mono HW1.out.size))
              clear hd
              obtain ⟨y32, hy30, hm⟩ := obind HB23.out
              replace HB23 := Lib.hid hm; clear hm
              have HC31 := R3_Away_ok W29 cap1 (rdL HD.out HR1.out) hy30
              clear hy30
              replace HC31 := Lib.hid HC31
              go_wp2_with fail
              refine HC31.out.mono ?_; rintro e W33 ⟨rfl, hd⟩
              replace HOA := Lib.hid (HOA.out.below (hd.below _))
              replace HD := Lib.hid (HD.out.trans ((hd.below _).mono HD.out.size))
              replace HW1 := Lib.hid (HW1.out.trans ((hd.below _).mono HW1.out.size))
              clear hd
              by_cases hc34 : y28 < y32
              · replace HB23 := Lib.hid (ifT hc34 HB23.out)
                have HK35 := Lib.hid hc34
                obtain rfl := Option.some.inj HB23.out
                replace HB21 := Lib.hid (ifT (by first | rfl | trivial) HB21.out)
                obtain rfl := Option.some.inj HB21.out
                replace HL1 := Lib.hid (ifT (by first | rfl | trivial) HL1.out)
                go_wp2_with fail
                try clear hc34
                go_roundg g1
                case measure => omega
                case rel => exact ⟨x3, (wrap64 (x3 + 1)), rfl, rfl, HW1, HL1⟩
              · replace HB23 := Lib.hid (ifF hc34 HB23.out)
                have hc34d := decide_eq_false hc34
                have HK35 := Lib.hid hc34
                obtain rfl := Option.some.inj HB23.out
                replace HB21 := Lib.hid (ifF (by first | exact Bool.false_ne_true | exact not_false) HB21.out)
                obtain ⟨y38, hy36, hm⟩ := obind HB21.out
                replace HB21 := Lib.hid hm; clear hm
                have HC37 := R3_Away_ok W33 cap1 (rdL HD.out HR1.out) hy36
                clear hy36
                replace HC37 := Lib.hid HC37
                go_wp2_with fail
                refine HC37.out.mono ?_; rintro e W39 ⟨rfl, hd⟩
                try clear hc34 hc34d
                replace HOA := Lib.hid (HOA.out.below (hd.below _))
                replace HD := Lib.hid (HD.out.trans ((hd.below _).mono HD.out.size))
                replace HW1 := Lib.hid (HW1.out.trans ((hd.below _).mono HW1.out.size))
                clear hd
                obtain ⟨y42, hy40, hm⟩ := obind HB21.out
                replace HB21 := Lib.hid hm; clear hm
                have HC41 := R3_Away_ok W39 cap1 (rdL HD.out HR1.out) hy40
                clear hy40
                replace HC41 := Lib.hid HC41
                go_wp2_with fail
                refine HC41.out.mono ?_; rintro e W43 ⟨rfl, hd⟩
                replace HOA := Lib.hid (HOA.out.below (hd.below _))
                replace HD := Lib.hid (HD.out.trans ((hd.below _).mono HD.out.size))
                replace HW1 := Lib.hid (HW1.out.trans ((hd.below _).mono HW1.out.size))
                clear hd
                rcases Bool.eq_false_or_eq_true (y38 == y42) with hc44 | hc44
                · replace HB21 := Lib.hid (ifT hc44 HB21.out)
                  have HK45 := Lib.hid hc44
                  obtain ⟨y48, hy46, hm⟩ := obind HB21.out
                  replace HB21 := Lib.hid hm; clear hm
                  have HC47 := R3_Members_ok W43  hy46
                  clear hy46
                  replace HC47 := Lib.hid HC47
                  go_wp2_with fail
                  refine HC47.out.mono ?_; rintro e W49 ⟨V50, rfl, ho, hd⟩
                  try clear hc44
                  replace HOA := Lib.hid (HOA.out.call hd HD.out.size ho); clear ho
                  replace HD := Lib.hid (HD.out.trans (hd.mono HD.out.size))
                  replace HW1 := Lib.hid (HW1.out.trans (hd.mono HW1.out.size))
                  clear hd
                  obtain ⟨A52, cap53, he, _⟩ := HP.open_I HOA.out (List.Mem.head _)
                  subst he
                  obtain ⟨y56, hy54, hm⟩ := obind HB21.out
                  replace HB21 := Lib.hid hm; clear hm
                  have HC55 := R3_Members_ok W49  hy54
                  clear hy54
                  replace HC55 := Lib.hid HC55
                  go_wp2_with fail
                  refine HC55.out.mono ?_; rintro e W57 ⟨V58, rfl, ho, hd⟩
                  replace HOA := Lib.hid (HOA.out.call hd HD.out.size ho); clear ho
                  replace HD := Lib.hid (HD.out.trans (hd.mono HD.out.size))
                  replace HW1 := Lib.hid (HW1.out.trans (hd.mono HW1.out.size))
                  clear hd
                  obtain ⟨A60, cap61, he, _⟩ := HP.open_I HOA.out (List.Mem.head _)
                  subst he
                  by_cases hc62 : ((y48).length : Int) < ((y56).length : Int)
                  · replace HB21 := Lib.hid (ifT hc62 HB21.out)
                    have HK63 := Lib.hid hc62
                    have hc62n := hc62; try norm_cast at hc62n
                    obtain rfl := Option.some.inj HB21.out
                    replace HL1 := Lib.hid (ifT (by first | rfl | trivial) HL1.out)
                    go_wp2_with fail
                    try clear hc62 hc62n
                    go_roundg g1
                    case measure => omega
                    case rel => exact ⟨x3, (wrap64 (x3 + 1)), rfl, rfl, HW1, HL1⟩
                  · replace HB21 := Lib.hid (ifF hc62 HB21.out)
                    have hc62d := decide_eq_false hc62
                    have HK63 := Lib.hid hc62
                    have hc62n := hc62; try norm_cast at hc62n
                    obtain rfl := Option.some.inj HB21.out
                    replace HL1 := Lib.hid (ifF (by first | exact Bool.false_ne_true | exact not_false) HL1.out)
                    go_wp2_with fail
                    try clear hc62 hc62n hc62d
                    go_roundg g1
                    case measure => omega
                    case rel => exact ⟨x2, (wrap64 (x3 + 1)), rfl, rfl, HW1, HL1⟩
                · replace HB21 := Lib.hid (ifF (bF hc44) HB21.out)
                  have HK45 := Lib.hid hc44
                  obtain rfl := Option.some.inj HB21.out
                  replace HL1 := Lib.hid (ifF (by first | exact Bool.false_ne_true | exact not_false) HL1.out)
                  go_wp2_with fail
                  try clear hc44
                  go_roundg g1
                  case measure => omega
                  case rel => exact ⟨x2, (wrap64 (x3 + 1)), rfl, rfl, HW1, HL1⟩
          · replace HB13 := Lib.hid (ifT rfl HB13.out)
            obtain rfl := Option.some.inj HB13.out
            replace HL1 := Lib.hid (ifT (by first | rfl | trivial) HL1.out)
            go_wp2_with fail
            refine HC8.out.mono ?_; rintro e w' ⟨rfl, rfl⟩
            go_wp2_with fail
            refine HC15.out.mono ?_; rintro e w' ⟨rfl, rfl⟩
            go_wp2_with fail
            refine HC18.out.mono ?_; rintro e w' ⟨rfl, rfl⟩
            go_wp2_with fail
            try clear hc10
            go_roundg g1
            case measure => omega
            case rel => exact ⟨x2, (wrap64 (x3 + 1)), rfl, rfl, HW1, HL1⟩
      · replace HL1 := Lib.hid (ifF hc10 HL1.out)
        have hc10d := decide_eq_false hc10
        have HK11 := Lib.hid hc10
        obtain rfl := Option.some.inj HL1.out
        have hm := HM.out; try dsimp only at hm
        replace HM := Lib.hid hm; clear hm
        obtain ⟨y66, hy64, hm⟩ := obind HM.out
        replace HM := Lib.hid hm; clear hm
        have HC65 := R3_Members_ok W6  hy64
        clear hy64
        replace HC65 := Lib.hid HC65
        go_wp2_with fail
        refine HC8.out.mono ?_; rintro e w' ⟨rfl, rfl⟩
        go_wp2_with fail
        refine HC65.out.mono ?_; rintro e W67 ⟨V68, rfl, ho, hd⟩
        try clear hc10 hc10d
        replace HOA := Lib.hid (HOA.out.call hd HD.out.size ho); clear ho
        replace HD := Lib.hid (HD.out.trans (hd.mono HD.out.size))
        clear hd
        obtain ⟨y72, hy70, hm⟩ := obind HM.out
        replace HM := Lib.hid hm; clear hm
        have HC71 := R3_Away_ok W67 cap1 (rdL HD.out HR1.out) hy70
        clear hy70
        replace HC71 := Lib.hid HC71
        go_wp2_with fail
        refine HC71.out.mono ?_; rintro e W73 ⟨rfl, hd⟩
        replace HOA := Lib.hid (HOA.out.below (hd.below _))
        replace HD := Lib.hid (HD.out.trans ((hd.below _).mono HD.out.size))
        clear hd
        obtain rfl := Option.some.inj HM.out
        go_wp2_with fail
        go_ret2
        exact ⟨_, rfl, HOA.out.get (List.Mem.head _), HD.out⟩
def L3_MengerSays (F : Nat) (v0 : Int) (v1 : List (Int × Int)) (v2 : Int) (v3 : Int) : Option (Bool) := (R1_Lines F (v0) (v1)).bind fun y1 => ((if (y1 == 0) = true then (L3_in F (v2) (0) ((wrap64 (v0 - 1)))).bind fun y4 => if y4 = true then (L3_in F (v3) (0) ((wrap64 (v0 - 1)))).bind fun y5 => if y5 = true then some false else some true else some true else some false).bind fun b3 => if b3 = true then some (1) else some (y1)).bind fun o2 => ((if (o2 == 0) = true then if (v2 == v3) = true then some true else some false else some false).bind fun b7 => if b7 = true then some (3) else some (o2)).bind fun o6 => ((if (o6 == 0) = true then some true else some false).bind fun b9 => if b9 = true then (R3_Side F (v0) (v1) (v2) (v3)).bind fun y10 => some (y10.1, y10.2) else some ([], 0)).bind fun o8 => (menger_Ways F (v0) (v1) (v2) (v3)).bind fun y11 => ((mErr (y11.2) (o6)).bind fun y13 => if y13 = true then if (y11.1 == o8.2) = true then some true else some false else some false).bind fun b12 => (menger_Side F (v0) (v1) (v2) (v3)).bind fun y14 => ((if b12 = true then (mErr (y14.2) (o6)).bind fun y17 => if y17 = true then some true else some false else some false).bind fun b16 => if b16 = true then (SE_Ints F (y14.1) (o8.1)).bind fun y18 => if y18 = true then some true else some false else some false).bind fun b15 => some (b15)
set_option maxRecDepth 100000 in
set_option maxHeartbeats 1000000 in
theorem L3_MengerSays_ok {F : Nat} {v0 : Int} {v1 : List (Int × Int)} {A1 : Option Addr} {v2 : Int} {v3 : Int} {r : Bool} (w : World) (htc : TyCell w) (cap1 : Nat) (hr1 : ReadsL w w.heap.size A1 v1) (h : L3_MengerSays F v0 v1 v2 v3 = some r) :
    Calls Tryd.prog 3 #[.int .i64 v0, .slice A1 v1.length cap1, .int .i64 v2, .int .i64 v3] w fun e w' => e = .returned (.bool r) ∧ Below w.heap.size w w' := by
  have HTC := Lib.hid htc; clear htc
  have HR1 := Lib.hid hr1; clear hr1
  have HD := Lib.hid (Below.refl w.heap.size w)
  have HOA := Lib.hid (HP.nil (W := w) (B := w.heap.size))
  unfold L3_MengerSays at h
  have HM := Lib.hid h; clear h
  go_enter Tryd.func3, Tryd.ntmps3
  obtain ⟨y3, hy1, hm⟩ := obind HM.out
  replace HM := Lib.hid hm; clear hm
  have HC2 := R1_Lines_ok w cap1 (rdL HD.out HR1.out) hy1
  clear hy1
  replace HC2 := Lib.hid HC2
  go_wp2_with fail
  refine HC2.out.mono ?_; rintro e W4 ⟨rfl, hd⟩
  replace HOA := Lib.hid (HOA.out.below (hd.below _))
  replace HD := Lib.hid (HD.out.trans ((hd.below _).mono HD.out.size))
  clear hd
  go_upto_region 2 with (fail)
  obtain ⟨x5, ho, hm⟩ := obind HM.out
  replace HM := Lib.hid hm; have HJ6 := Lib.hid ho; clear hm ho
  obtain ⟨b7, hb, hm⟩ := obind HJ6.out
  replace HJ6 := Lib.hid hm; have HB8 := Lib.hid hb; clear hm hb
  go_cut [34] (fun uq wr => uq = .bool b7 ∧ Hid (Below W4.heap.size W4 wr))
  case first =>
    have HWC9 := Lib.hid (Below.refl W4.heap.size W4)
    rcases Bool.eq_false_or_eq_true (y3 == 0) with hc10 | hc10
    · replace HB8 := Lib.hid (ifT hc10 HB8.out)
      have HK11 := Lib.hid hc10
      obtain ⟨y14, hy12, hm⟩ := obind HB8.out
      replace HB8 := Lib.hid hm; clear hm
      have HC13 := L3_in_ok W4  hy12
      clear hy12
      replace HC13 := Lib.hid HC13
      cases y14
      · replace HB8 := Lib.hid (ifF Bool.false_ne_true HB8.out)
        cases Option.some.inj HB8.out
        go_wp2_with fail
        refine HC13.out.mono ?_; rintro e w' ⟨rfl, rfl⟩
        try go_wp2_with fail
        go_meet
        case rel => exact ⟨rfl, HWC9⟩
      · replace HB8 := Lib.hid (ifT rfl HB8.out)
        obtain ⟨y17, hy15, hm⟩ := obind HB8.out
        replace HB8 := Lib.hid hm; clear hm
        have HC16 := L3_in_ok W4  hy15
        clear hy15
        replace HC16 := Lib.hid HC16
        cases y17
        · replace HB8 := Lib.hid (ifF Bool.false_ne_true HB8.out)
          cases Option.some.inj HB8.out
          go_wp2_with fail
          refine HC13.out.mono ?_; rintro e w' ⟨rfl, rfl⟩
          go_wp2_with fail
          refine HC16.out.mono ?_; rintro e w' ⟨rfl, rfl⟩
          try go_wp2_with fail
          go_meet
          case rel => exact ⟨rfl, HWC9⟩
        · replace HB8 := Lib.hid (ifT rfl HB8.out)
          cases Option.some.inj HB8.out
          go_wp2_with fail
          refine HC13.out.mono ?_; rintro e w' ⟨rfl, rfl⟩
          go_wp2_with fail
          refine HC16.out.mono ?_; rintro e w' ⟨rfl, rfl⟩
          try go_wp2_with fail
          go_meet
          case rel => exact ⟨rfl, HWC9⟩
    · replace HB8 := Lib.hid (ifF (bF hc10) HB8.out)
      have HK11 := Lib.hid hc10
      cases Option.some.inj HB8.out
      try go_wp2_with fail
      go_meet
      case rel => exact ⟨rfl, HWC9⟩
  case rest =>
    obtain ⟨rfl, HWC9⟩ := hcut
    rename World => W18
    have hd := HWC9.out
    replace HOA := Lib.hid (HOA.out.below hd)
    replace HD := Lib.hid (HD.out.trans (hd.mono HD.out.size))
    clear hd
    go_upto_if 34 with (fail)
    go_cut [9] (fun q19 wr => q19 = .int .i64 x5 ∧ Hid (Below W18.heap.size W18 wr))
    case first =>
      have HWC21 := Lib.hid (Below.refl W18.heap.size W18)
      cases b7
      · replace HJ6 := Lib.hid (ifF Bool.false_ne_true HJ6.out)
        try go_wp2_with fail
        cases Option.some.inj HJ6.out
        go_meet
        case rel => exact ⟨rfl, HWC21⟩
      · replace HJ6 := Lib.hid (ifT rfl HJ6.out)
        try go_wp2_with fail
        cases Option.some.inj HJ6.out
        go_meet
        case rel => exact ⟨rfl, HWC21⟩
    case rest =>
      obtain ⟨rfl, HWC21⟩ := hcut
      rename World => W22
      have hd := HWC21.out
      replace HOA := Lib.hid (HOA.out.below hd)
      replace HD := Lib.hid (HD.out.trans (hd.mono HD.out.size))
      clear hd
      go_upto_region 4 with (fail)
      obtain ⟨x23, ho, hm⟩ := obind HM.out
      replace HM := Lib.hid hm; have HJ24 := Lib.hid ho; clear hm ho
      obtain ⟨b25, hb, hm⟩ := obind HJ24.out
      replace HJ24 := Lib.hid hm; have HB26 := Lib.hid hb; clear hm hb
      go_cut [41] (fun uq wr => uq = .bool b25 ∧ Hid (Below W22.heap.size W22 wr))
      case first =>
        have HWC27 := Lib.hid (Below.refl W22.heap.size W22)
        rcases Bool.eq_false_or_eq_true (x5 == 0) with hc28 | hc28
        · replace HB26 := Lib.hid (ifT hc28 HB26.out)
          have HK29 := Lib.hid hc28
          rcases Bool.eq_false_or_eq_true (v2 == v3) with hc30 | hc30
          · replace HB26 := Lib.hid (ifT hc30 HB26.out)
            have HK31 := Lib.hid hc30
            cases Option.some.inj HB26.out
            try go_wp2_with fail
            go_meet
            case rel => exact ⟨rfl, HWC27⟩
          · replace HB26 := Lib.hid (ifF (bF hc30) HB26.out)
            have HK31 := Lib.hid hc30
            cases Option.some.inj HB26.out
            try go_wp2_with fail
            go_meet
            case rel => exact ⟨rfl, HWC27⟩
        · replace HB26 := Lib.hid (ifF (bF hc28) HB26.out)
          have HK29 := Lib.hid hc28
          cases Option.some.inj HB26.out
          try go_wp2_with fail
          go_meet
          case rel => exact ⟨rfl, HWC27⟩
      case rest =>
        obtain ⟨rfl, HWC27⟩ := hcut
        rename World => W32
        have hd := HWC27.out
        replace HOA := Lib.hid (HOA.out.below hd)
        replace HD := Lib.hid (HD.out.trans (hd.mono HD.out.size))
        clear hd
        go_upto_if 41 with (fail)
        go_cut [9] (fun q33 wr => q33 = .int .i64 x23 ∧ Hid (Below W32.heap.size W32 wr))
        case first =>
          have HWC35 := Lib.hid (Below.refl W32.heap.size W32)
          cases b25
          · replace HJ24 := Lib.hid (ifF Bool.false_ne_true HJ24.out)
            try go_wp2_with fail
            cases Option.some.inj HJ24.out
            go_meet
            case rel => exact ⟨rfl, HWC35⟩
          · replace HJ24 := Lib.hid (ifT rfl HJ24.out)
            try go_wp2_with fail
            cases Option.some.inj HJ24.out
            go_meet
            case rel => exact ⟨rfl, HWC35⟩
        case rest =>
          obtain ⟨rfl, HWC35⟩ := hcut
          rename World => W36
          have hd := HWC35.out
          replace HOA := Lib.hid (HOA.out.below hd)
          replace HD := Lib.hid (HD.out.trans (hd.mono HD.out.size))
          clear hd
          replace HOA := Lib.hid (show HP _ _ (.fl (owI (.slice none 0 0) ([])) :: _) from HOA.out.pushNil _ _)
          go_upto_region 8 with (fail)
          obtain ⟨⟨x38, x39⟩, ho, hm⟩ := obind HM.out
          try simp only [] at hm
          replace HM := Lib.hid hm; have HJ40 := Lib.hid ho; clear hm ho
          obtain ⟨b41, hb, hm⟩ := obind HJ40.out
          replace HJ40 := Lib.hid hm; have HB42 := Lib.hid hb; clear hm hb
          go_cut [43] (fun uq wr => uq = .bool b41 ∧ Hid (Below W36.heap.size W36 wr))
          case first =>
            have HWC43 := Lib.hid (Below.refl W36.heap.size W36)
            rcases Bool.eq_false_or_eq_true (x23 == 0) with hc44 | hc44
            · replace HB42 := Lib.hid (ifT hc44 HB42.out)
              have HK45 := Lib.hid hc44
              cases Option.some.inj HB42.out
              try go_wp2_with fail
              go_meet
              case rel => exact ⟨rfl, HWC43⟩
            · replace HB42 := Lib.hid (ifF (bF hc44) HB42.out)
              have HK45 := Lib.hid hc44
              cases Option.some.inj HB42.out
              try go_wp2_with fail
              go_meet
              case rel => exact ⟨rfl, HWC43⟩
          case rest =>
            obtain ⟨rfl, HWC43⟩ := hcut
            rename World => W46
            have hd := HWC43.out
            replace HOA := Lib.hid (HOA.out.below hd)
            replace HD := Lib.hid (HD.out.trans (hd.mono HD.out.size))
            clear hd
            go_upto_if 43 with (fail)
            go_cut [10, 11] (fun q48 q49 wr => ∃ (V47 : Value), V47 = q48 ∧ q49 = .int .i64 x39 ∧ Hid (Below w.heap.size w wr) ∧ Hid (HP wr w.heap.size [.fl (owI V47 (x38))]) ∧ Hid (Below W46.heap.size W46 wr))
            case first =>
              have HWC50 := Lib.hid (Below.refl W46.heap.size W46)
              cases b41
              · replace HJ40 := Lib.hid (ifF Bool.false_ne_true HJ40.out)
                try go_wp2_with fail
                cases Option.some.inj HJ40.out
                go_meet
                case rel => exact ⟨(.slice none 0 0), rfl, rfl, HD, HOA, HWC50⟩
              · replace HJ40 := Lib.hid (ifT rfl HJ40.out)
                obtain ⟨⟨y53, y54⟩, hy51, hm⟩ := obind HJ40.out
                dsimp only at hm
                replace HJ40 := Lib.hid hm; clear hm
                have HC52 := R3_Side_ok W46 cap1 (rdL HD.out HR1.out) hy51
                clear hy51
                replace HC52 := Lib.hid HC52
                go_wp2_with fail
                refine HC52.out.mono ?_; rintro e W55 ⟨V56, rfl, ho, hd⟩
                replace HOA := Lib.hid (HOA.out.call hd HD.out.size ho); clear ho
                replace HD := Lib.hid (HD.out.trans (hd.mono HD.out.size))
                replace HWC50 := Lib.hid (HWC50.out.trans (hd.mono HWC50.out.size))
                clear hd
                try go_wp2_with fail
                replace HOA := Lib.hid (HOA.out.sub (.cons₂ _ (.cons _ .slnil)))
                cases Option.some.inj HJ40.out
                go_meet
                case rel => exact ⟨V56, rfl, rfl, HD, HOA, HWC50⟩
            case rest =>
              obtain ⟨V47, rfl, rfl, HD, HOA, HWC50⟩ := hcut
              rename World => W58
              have hd := HWC50.out
              clear hd
              obtain ⟨⟨y61, y62⟩, hy59, hm⟩ := obind HM.out
              dsimp only at hm
              replace HM := Lib.hid hm; clear hm
              have HC60 := menger_Ways_ok W58 cap1 (rdL HD.out HR1.out) hy59
              clear hy59
              replace HC60 := Lib.hid HC60
              go_wp2_with fail
              refine HC60.out.mono ?_; rintro e W63 ⟨rfl, hd⟩
              replace HOA := Lib.hid (HOA.out.below hd)
              replace HD := Lib.hid (HD.out.trans (hd.mono HD.out.size))
              clear hd
              go_upto_region 11 with (fail)
              obtain ⟨b64, hb, hm⟩ := obind HM.out
              replace HM := Lib.hid hm; have HB65 := Lib.hid hb; clear hm hb
              go_cut [14] (fun uq wr => uq = .bool b64 ∧ Hid (Below W63.heap.size W63 wr))
              case first =>
                have HWC66 := Lib.hid (Below.refl W63.heap.size W63)
                obtain ⟨y69, hy67, hm⟩ := obind HB65.out
                replace HB65 := Lib.hid hm; clear hm
                have HC68 := mErr_ok W63 (HTC.out.go HD.out)  hy67
                clear hy67
                replace HC68 := Lib.hid HC68
                go_wp2_with fail
                refine HC68.out.mono ?_; rintro e W70 ⟨rfl, hd⟩
                replace HOA := Lib.hid (HOA.out.below hd)
                replace HD := Lib.hid (HD.out.trans (hd.mono HD.out.size))
                replace HWC66 := Lib.hid (HWC66.out.trans (hd.mono HWC66.out.size))
                clear hd
                cases y69
                · replace HB65 := Lib.hid (ifF Bool.false_ne_true HB65.out)
                  cases Option.some.inj HB65.out
                  try go_wp2_with fail
                  go_meet
                  case rel => exact ⟨rfl, HWC66⟩
                · replace HB65 := Lib.hid (ifT rfl HB65.out)
                  rcases Bool.eq_false_or_eq_true (y61 == x39) with hc71 | hc71
                  · replace HB65 := Lib.hid (ifT hc71 HB65.out)
                    have HK72 := Lib.hid hc71
                    cases Option.some.inj HB65.out
                    try go_wp2_with fail
                    go_meet
                    case rel => exact ⟨rfl, HWC66⟩
                  · replace HB65 := Lib.hid (ifF (bF hc71) HB65.out)
                    have HK72 := Lib.hid hc71
                    cases Option.some.inj HB65.out
                    try go_wp2_with fail
                    go_meet
                    case rel => exact ⟨rfl, HWC66⟩
              case rest =>
                obtain ⟨rfl, HWC66⟩ := hcut
                rename World => W73
                have hd := HWC66.out
                replace HOA := Lib.hid (HOA.out.below hd)
                replace HD := Lib.hid (HD.out.trans (hd.mono HD.out.size))
                clear hd
                obtain ⟨⟨y76, y77⟩, hy74, hm⟩ := obind HM.out
                dsimp only at hm
                replace HM := Lib.hid hm; clear hm
                have HC75 := menger_Side_ok W73 cap1 (rdL HD.out HR1.out) hy74
                clear hy74
                replace HC75 := Lib.hid HC75
                go_wp2_with fail
                refine HC75.out.mono ?_; rintro e W78 ⟨V79, rfl, ho, hd⟩
                replace HOA := Lib.hid (HOA.out.call hd HD.out.size ho); clear ho
                replace HD := Lib.hid (HD.out.trans (hd.mono HD.out.size))
                clear hd
                obtain ⟨b81, hb, hm⟩ := obind HM.out
                replace HM := Lib.hid hm; have HB82 := Lib.hid hb; clear hm hb
                obtain ⟨b83, hb, hm⟩ := obind HB82.out
                replace HB82 := Lib.hid hm; have HB84 := Lib.hid hb; clear hm hb
                cases b64
                · replace HB84 := Lib.hid (ifF Bool.false_ne_true HB84.out)
                  obtain rfl := Option.some.inj HB84.out
                  replace HB82 := Lib.hid (ifF (by first | exact Bool.false_ne_true | exact not_false) HB82.out)
                  obtain rfl := Option.some.inj HB82.out
                  obtain rfl := Option.some.inj HM.out
                  go_wp2_with fail
                  go_ret
                  exact ⟨rfl, HD.out⟩
                · replace HB84 := Lib.hid (ifT rfl HB84.out)
                  obtain ⟨y87, hy85, hm⟩ := obind HB84.out
                  replace HB84 := Lib.hid hm; clear hm
                  have HC86 := mErr_ok W78 (HTC.out.go HD.out)  hy85
                  clear hy85
                  replace HC86 := Lib.hid HC86
                  go_wp2_with fail
                  refine HC86.out.mono ?_; rintro e W88 ⟨rfl, hd⟩
                  replace HOA := Lib.hid (HOA.out.below hd)
                  replace HD := Lib.hid (HD.out.trans (hd.mono HD.out.size))
                  clear hd
                  cases y87
                  · replace HB84 := Lib.hid (ifF Bool.false_ne_true HB84.out)
                    obtain rfl := Option.some.inj HB84.out
                    replace HB82 := Lib.hid (ifF (by first | exact Bool.false_ne_true | exact not_false) HB82.out)
                    obtain rfl := Option.some.inj HB82.out
                    obtain rfl := Option.some.inj HM.out
                    go_wp2_with fail
                    go_ret
                    exact ⟨rfl, HD.out⟩
                  · replace HB84 := Lib.hid (ifT rfl HB84.out)
                    obtain rfl := Option.some.inj HB84.out
                    replace HB82 := Lib.hid (ifT (by first | rfl | trivial) HB82.out)
                    obtain ⟨y91, hy89, hm⟩ := obind HB82.out
                    replace HB82 := Lib.hid hm; clear hm
                    obtain ⟨A92, cap93, he, _⟩ := HP.open_I HOA.out (List.Mem.head _)
                    subst he
                    obtain ⟨A94, cap95, he, _⟩ := HP.open_I HOA.out (List.Mem.tail _ (List.Mem.head _))
                    subst he
                    have HC90 := SE_Ints_ok W88 cap93 (HP.rd_I HOA.out (List.Mem.head _)) cap95 (HP.rd_I HOA.out (List.Mem.tail _ (List.Mem.head _))) hy89
                    clear hy89
                    replace HC90 := Lib.hid HC90
                    go_wp2_with fail
                    refine HC90.out.mono ?_; rintro e W96 ⟨rfl, hd⟩
                    replace HOA := Lib.hid (HOA.out.below (hd.below _))
                    replace HD := Lib.hid (HD.out.trans ((hd.below _).mono HD.out.size))
                    clear hd
                    cases y91
                    · replace HB82 := Lib.hid (ifF Bool.false_ne_true HB82.out)
                      obtain rfl := Option.some.inj HB82.out
                      obtain rfl := Option.some.inj HM.out
                      go_wp2_with fail
                      go_ret
                      exact ⟨rfl, HD.out⟩
                    · replace HB82 := Lib.hid (ifT rfl HB82.out)
                      obtain rfl := Option.some.inj HB82.out
                      obtain rfl := Option.some.inj HM.out
                      go_wp2_with fail
                      go_ret
                      exact ⟨rfl, HD.out⟩
end Go.Proofs.YtgihnflaikmakaaDoor
