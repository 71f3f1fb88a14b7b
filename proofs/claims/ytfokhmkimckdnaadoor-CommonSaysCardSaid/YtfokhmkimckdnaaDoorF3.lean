import Derived.Test.YtfokhmkimckdnaaDoorF1
import Derived.Test.YtfokhmkimckdnaaDoorGF
import Derived.Test.YtfokhmkimckdnaaDoorErr
set_option linter.all false
set_option maxRecDepth 100000
namespace Go.Proofs.YtfokhmkimckdnaaDoor
open Go.RowKit
def L3_CommonSays_L1 (F : Nat) (v0 : Int) (v1 : List (Int × Int)) (v2 : Int) (v6 : Int) : Nat → (List Int) → (Int) → Option (List Int × Int)
  | 0, _, _ => none
  | g+1, v8, v10 => (if v10 < v0 then if (v6 == 0) = true then some true else some false else some false).bind fun b5 => if b5 = true then (R3_Way F (v0) (v1) (v10) (v2)).bind fun y6 => (if 1 < ((y6).length : Int) then (ix y6 1).bind fun y7 => (app v8 y7).bind fun y8 => L3_CommonSays_L1 F v0 v1 v2 v6 g (y8) ((wrap64 (v10 + 1))) else (app v8 (-1)).bind fun y9 => L3_CommonSays_L1 F v0 v1 v2 v6 g (y9) ((wrap64 (v10 + 1)))) else some (v8, v10)
theorem L3_CommonSays_L1_0 (F : Nat) (v0 : Int) (v1 : List (Int × Int)) (v2 : Int) (v6 : Int) (v8 : List Int) (v10 : Int) : L3_CommonSays_L1 F v0 v1 v2 v6 0 v8 v10 = none := by rw [L3_CommonSays_L1]
theorem L3_CommonSays_L1_s (F g : Nat) (v0 : Int) (v1 : List (Int × Int)) (v2 : Int) (v6 : Int) (v8 : List Int) (v10 : Int) : L3_CommonSays_L1 F v0 v1 v2 v6 (g+1) v8 v10 = ((if v10 < v0 then if (v6 == 0) = true then some true else some false else some false).bind fun b5 => if b5 = true then (R3_Way F (v0) (v1) (v10) (v2)).bind fun y6 => (if 1 < ((y6).length : Int) then (ix y6 1).bind fun y7 => (app v8 y7).bind fun y8 => L3_CommonSays_L1 F v0 v1 v2 v6 g (y8) ((wrap64 (v10 + 1))) else (app v8 (-1)).bind fun y9 => L3_CommonSays_L1 F v0 v1 v2 v6 g (y9) ((wrap64 (v10 + 1)))) else some (v8, v10)) := by rw [L3_CommonSays_L1]
def L3_CommonSays_L2 (F : Nat) (v17 : List Int) (v18 : List Int) : Nat → (Int) → Option (Int)
  | 0, _ => none
  | g+1, v19 => (ix v17 v19).bind fun y23 => (R1_Has F (v18) (y23)).bind fun y24 => if y24 = true then some (v19) else L3_CommonSays_L2 F v17 v18 g ((wrap64 (v19 + 1)))
theorem L3_CommonSays_L2_0 (F : Nat) (v17 : List Int) (v18 : List Int) (v19 : Int) : L3_CommonSays_L2 F v17 v18 0 v19 = none := by rw [L3_CommonSays_L2]
theorem L3_CommonSays_L2_s (F g : Nat) (v17 : List Int) (v18 : List Int) (v19 : Int) : L3_CommonSays_L2 F v17 v18 (g+1) v19 = ((ix v17 v19).bind fun y23 => (R1_Has F (v18) (y23)).bind fun y24 => if y24 = true then some (v19) else L3_CommonSays_L2 F v17 v18 g ((wrap64 (v19 + 1)))) := by rw [L3_CommonSays_L2]
def L3_CommonSays (F : Nat) (v0 : Int) (v1 : List (Int × Int)) (v2 : Int) (v3 : Int) (v4 : Int) : Option (Bool) := (R3_Tree F (v0) (v1)).bind fun y1 => ((if (y1 == 0) = true then (L3_in F (v2) (0) ((wrap64 (v0 - 1)))).bind fun y4 => if y4 = true then some false else some true else some false).bind fun b3 => if b3 = true then some (1) else some (y1)).bind fun o2 => (L3_CommonSays_L1 F (v0) (v1) (v2) (o2) F ([]) (0)).bind fun o10 => (common_Ups F (v0) (v1) (v2)).bind fun y11 => ((mErr (y11.2) (o2)).bind fun y13 => if y13 = true then (SE_Ints F (y11.1) (o10.1)).bind fun y14 => if y14 = true then some true else some false else some false).bind fun b12 => ((if (o2 == 0) = true then (L3_in F (v3) (0) ((wrap64 (v0 - 1)))).bind fun y17 => if y17 = true then (L3_in F (v4) (0) ((wrap64 (v0 - 1)))).bind fun y18 => if y18 = true then some false else some true else some true else some false).bind fun b16 => if b16 = true then some (1) else some (o2)).bind fun o15 => ((if (o15 == 0) = true then some true else some false).bind fun b20 => if b20 = true then (R3_Way F (v0) (v1) (v3) (v2)).bind fun y21 => (R3_Way F (v0) (v1) (v4) (v2)).bind fun y22 => (L3_CommonSays_L2 F (y21) (y22) F (0)).bind fun o25 => (ix y21 o25).bind fun y26 => some (y26) else some (0)).bind fun o19 => (common_Of F (v0) (v1) (v2) (v3) (v4)).bind fun y27 => ((mErr (y27.2) (o15)).bind fun y29 => if y29 = true then if (y27.1 == o19) = true then some true else some false else some false).bind fun b28 => ((if (y1 == 0) = true then (L3_in F (v3) (0) ((wrap64 (v0 - 1)))).bind fun y32 => if y32 = true then (L3_in F (v4) (0) ((wrap64 (v0 - 1)))).bind fun y33 => if y33 = true then some false else some true else some true else some false).bind fun b31 => if b31 = true then some (1) else some (y1)).bind fun o30 => ((if (o30 == 0) = true then some true else some false).bind fun b35 => if b35 = true then (R3_Way F (v0) (v1) (v3) (v4)).bind fun y36 => some (y36) else some ([])).bind fun o34 => (common_Way F (v0) (v1) (v3) (v4)).bind fun y37 => (((if b12 = true then if b28 = true then some true else some false else some false).bind fun b40 => if b40 = true then (mErr (y37.2) (o30)).bind fun y41 => if y41 = true then some true else some false else some false).bind fun b39 => if b39 = true then (SE_Ints F (y37.1) (o34)).bind fun y42 => if y42 = true then some true else some false else some false).bind fun b38 => some (b38)
set_option maxRecDepth 100000 in
set_option maxHeartbeats 4000000 in
theorem L3_CommonSays_ok {F : Nat} {v0 : Int} {v1 : List (Int × Int)} {A1 : Option Addr} {v2 : Int} {v3 : Int} {v4 : Int} {r : Bool} (w : World) (htc : TyCell w) (cap1 : Nat) (hr1 : ReadsL w w.heap.size A1 v1) (h : L3_CommonSays F v0 v1 v2 v3 v4 = some r) :
    Calls Tryd.prog 3 #[.int .i64 v0, .slice A1 v1.length cap1, .int .i64 v2, .int .i64 v3, .int .i64 v4] w fun e w' => e = .returned (.bool r) ∧ Below w.heap.size w w' := by
  have HTC := Lib.hid htc; clear htc
  have HR1 := Lib.hid hr1; clear hr1
  have HD := Lib.hid (Below.refl w.heap.size w)
  have HOA := Lib.hid (HP.nil (W := w) (B := w.heap.size))
  unfold L3_CommonSays at h
  have HM := Lib.hid h; clear h
  go_enter Tryd.func3, Tryd.ntmps3
  obtain ⟨y3, hy1, hm⟩ := obind HM.out
  replace HM := Lib.hid hm; clear hm
  have HC2 := R3_Tree_ok w cap1 (rdL HD.out HR1.out) hy1
  clear hy1
  replace HC2 := Lib.hid HC2
  go_wp2_with fail
  refine HC2.out.mono ?_; rintro e W4 ⟨rfl, hd⟩
  replace HOA := Lib.hid (HOA.out.below hd)
  replace HD := Lib.hid (HD.out.trans (hd.mono HD.out.size))
  clear hd
  go_upto_region 3 with (fail)
  obtain ⟨x5, ho, hm⟩ := obind HM.out
  replace HM := Lib.hid hm; have HJ6 := Lib.hid ho; clear hm ho
  obtain ⟨b7, hb, hm⟩ := obind HJ6.out
  replace HJ6 := Lib.hid hm; have HB8 := Lib.hid hb; clear hm hb
  go_cut [39] (fun uq wr => uq = .bool b7 ∧ Hid (Below W4.heap.size W4 wr))
  case first =>
    have HWC9 := Lib.hid (Below.refl W4.heap.size W4)
    rcases Bool.eq_false_or_eq_true (y3 == 0) with hc10 | hc10
    · replace HB8 := Lib.hid (ifT hc10 HB8.out)
      have HK11 := Lib.hid hc10
      obtain ⟨y14, hy12, hm⟩ := obind HB8.out
      replace HB8 := Lib.hid hm; clear hm
      have HC13 := L3_in_ok W4  hy12
      clear hy12
      replace HC13 := Lib.hid HC13
      cases y14
      · replace HB8 := Lib.hid (ifF Bool.false_ne_true HB8.out)
        cases Option.some.inj HB8.out
        go_wp2_with fail
        refine HC13.out.mono ?_; rintro e w' ⟨rfl, rfl⟩
        try go_wp2_with fail
        go_meet
        case rel => exact ⟨rfl, HWC9⟩
      · replace HB8 := Lib.hid (ifT rfl HB8.out)
        cases Option.some.inj HB8.out
        go_wp2_with fail
        refine HC13.out.mono ?_; rintro e w' ⟨rfl, rfl⟩
        try go_wp2_with fail
        go_meet
        case rel => exact ⟨rfl, HWC9⟩
    · replace HB8 := Lib.hid (ifF (bF hc10) HB8.out)
      have HK11 := Lib.hid hc10
      cases Option.some.inj HB8.out
      try go_wp2_with fail
      go_meet
      case rel => exact ⟨rfl, HWC9⟩
  case rest =>
    as_aux_lemma =>
      obtain ⟨rfl, HWC9⟩ := hcut
      rename World => W15
      have hd := HWC9.out
      replace HOA := Lib.hid (HOA.out.below hd)
      replace HD := Lib.hid (HD.out.trans (hd.mono HD.out.size))
      clear hd
      go_upto_if 39 with (fail)
      go_cut [11] (fun q16 wr => q16 = .int .i64 x5 ∧ Hid (Below W15.heap.size W15 wr))
      case first =>
        have HWC18 := Lib.hid (Below.refl W15.heap.size W15)
        cases b7
        · replace HJ6 := Lib.hid (ifF Bool.false_ne_true HJ6.out)
          try go_wp2_with fail
          cases Option.some.inj HJ6.out
          go_meet
          case rel => exact ⟨rfl, HWC18⟩
        · replace HJ6 := Lib.hid (ifT rfl HJ6.out)
          try go_wp2_with fail
          cases Option.some.inj HJ6.out
          go_meet
          case rel => exact ⟨rfl, HWC18⟩
      case rest =>
        as_aux_lemma =>
          obtain ⟨rfl, HWC18⟩ := hcut
          rename World => W19
          have hd := HWC18.out
          replace HOA := Lib.hid (HOA.out.below hd)
          replace HD := Lib.hid (HD.out.trans (hd.mono HD.out.size))
          clear hd
          replace HOA := Lib.hid (show HP _ _ (.fl (owI (.slice none 0 0) ([])) :: _) from HOA.out.pushNil _ _)
          replace HOA := Lib.hid (show HP _ _ (.fl (owI (.slice none 0 0) ([])) :: _) from HOA.out.pushNil _ _)
          go_wp2_with fail
          obtain ⟨o22, ho, hm⟩ := obind HM.out
          replace HM := Lib.hid hm; have HL1 := Lib.hid ho; clear hm ho
          go_loopg [13, 15] F (fun gg ux25 ux26 wr => ∃ (x23 : List Int) (x24 : Int) (V27 : Value), V27 = ux25 ∧ ux26 = .int .i64 x24 ∧ Hid (Below w.heap.size w wr) ∧ Hid (HP wr w.heap.size [.fl (owI (.slice none 0 0) ([])), .fl (owI V27 (x23))]) ∧ Hid (L3_CommonSays_L1 F (v0) (v1) (v2) (x5) gg x23 x24 = some o22))
          case atStart => exact ⟨[], 0, (.slice none 0 0), rfl, rfl, HD, HOA, HL1⟩
          case round =>
            obtain ⟨x23, x24, V27, rfl, rfl, HD, HOA, HL1⟩ := hrel
            rename World => W28
            cases gk with
            | zero => exact absurd ((L3_CommonSays_L1_0 ..).symm.trans HL1.out) (by intro h; cases h)
            | succ g1 =>
              replace HL1 := Lib.hid ((L3_CommonSays_L1_s ..).symm.trans HL1.out)
              obtain ⟨b29, hb, hm⟩ := obind HL1.out
              replace HL1 := Lib.hid hm; have HB30 := Lib.hid hb; clear hm hb
              by_cases hc31 : x24 < v0
              · replace HB30 := Lib.hid (ifT hc31 HB30.out)
                have HK32 := Lib.hid hc31
                rcases Bool.eq_false_or_eq_true (x5 == 0) with hc33 | hc33
                · replace HB30 := Lib.hid (ifT hc33 HB30.out)
                  have HK34 := Lib.hid hc33
                  obtain rfl := Option.some.inj HB30.out
                  replace HL1 := Lib.hid (ifT (by first | rfl | trivial) HL1.out)
                  obtain ⟨y37, hy35, hm⟩ := obind HL1.out
                  replace HL1 := Lib.hid hm; clear hm
                  have HC36 := R3_Way_ok W28 cap1 (rdL HD.out HR1.out) hy35
                  clear hy35
                  replace HC36 := Lib.hid HC36
                  go_wp2_with fail
                  refine HC36.out.mono ?_; rintro e W38 ⟨V39, rfl, ho, hd⟩
                  try clear hc31 hc33
                  replace HOA := Lib.hid (HOA.out.call hd HD.out.size ho); clear ho
                  replace HD := Lib.hid (HD.out.trans (hd.mono HD.out.size))
                  clear hd
                  obtain ⟨A41, cap42, he, _⟩ := HP.open_I HOA.out (List.Mem.head _)
                  subst he
                  by_cases hc43 : 1 < ((y37).length : Int)
                  · replace HL1 := Lib.hid (ifT hc43 HL1.out)
                    have HK44 := Lib.hid hc43
                    have hc43n := hc43; try norm_cast at hc43n
                    obtain ⟨y45, hy46, hm⟩ := obind HL1.out
                    replace HL1 := Lib.hid hm; clear hm
                    obtain ⟨b47, o48, ea49, _, f50, f51, f52⟩ := ReadsI.ix (HP.rd_I HOA.out (List.Mem.head _)) hy46
                    cases ea49
                    try simp only [Nat.zero_add, Nat.add_zero, Int.toNat_natCast, Int.toNat_zero, Int.toNat_one] at f52
                    have f51n := f51; try norm_cast at f51n
                    try rw [← HP.len_I HOA.out (List.Mem.head _)] at f51
                    have HY54 := Lib.hid hy46; clear hy46
                    obtain ⟨y55, hy56, hm⟩ := obind HL1.out
                    replace HL1 := Lib.hid hm; clear hm
                    obtain ⟨f57, hy56⟩ := app_some hy56; subst hy56
                    have HF60 := Lib.hid f57; clear f57
                    go_upto_region 8 with (at_builtin; refine hp_appI _ (.tmp 60) (.tmp 62) 25 Tryd.underlying25 rfl rfl (L1 := [_, _]) HOA.out rfl rfl HF60.out HD.out.size ?_; intro V58 W59 hoa hd)
                    try clear hc43 hc43n f50 f51 f52 f51n
                    replace HOA := Lib.hid (show HP W59 w.heap.size [.fl (owI (.slice (some ⟨b47, o48, none⟩) (y37).length cap42) (y37)), .fl (owI (.slice none 0 0) ([])), .fl (owI V58 ((x23 ++ [y45])))] from hoa); clear hoa
                    replace HD := Lib.hid (HD.out.trans hd); clear hd
                    go_wp2_with fail
                    replace HOA := Lib.hid (HOA.out.sub (.cons _ (.cons₂ _ (.cons₂ _ .slnil))))
                    go_roundg g1
                    case measure => omega
                    case rel => exact ⟨(x23 ++ [y45]), (wrap64 (x24 + 1)), V58, rfl, rfl, HD, HOA, HL1⟩
                  · replace HL1 := Lib.hid (ifF hc43 HL1.out)
                    have hc43d := decide_eq_false hc43
                    have HK44 := Lib.hid hc43
                    have hc43n := hc43; try norm_cast at hc43n
                    obtain ⟨y61, hy62, hm⟩ := obind HL1.out
                    replace HL1 := Lib.hid hm; clear hm
                    obtain ⟨f63, hy62⟩ := app_some hy62; subst hy62
                    have HF66 := Lib.hid f63; clear f63
                    go_upto_region 8 with (at_builtin; refine hp_appI _ (.tmp 60) (.tmp 62) 25 Tryd.underlying25 rfl rfl (L1 := [_, _]) HOA.out rfl rfl HF66.out HD.out.size ?_; intro V64 W65 hoa hd)
                    try clear hc43 hc43n hc43d
                    replace HOA := Lib.hid (show HP W65 w.heap.size [.fl (owI (.slice A41 (y37).length cap42) (y37)), .fl (owI (.slice none 0 0) ([])), .fl (owI V64 ((x23 ++ [(-1)])))] from hoa); clear hoa
                    replace HD := Lib.hid (HD.out.trans hd); clear hd
                    go_wp2_with fail
                    replace HOA := Lib.hid (HOA.out.sub (.cons _ (.cons₂ _ (.cons₂ _ .slnil))))
                    go_roundg g1
                    case measure => omega
                    case rel => exact ⟨(x23 ++ [(-1)]), (wrap64 (x24 + 1)), V64, rfl, rfl, HD, HOA, HL1⟩
                · replace HB30 := Lib.hid (ifF (bF hc33) HB30.out)
                  have HK34 := Lib.hid hc33
                  obtain rfl := Option.some.inj HB30.out
                  replace HL1 := Lib.hid (ifF (by first | exact Bool.false_ne_true | exact not_false) HL1.out)
                  obtain rfl := Option.some.inj HL1.out
                  have hm := HM.out; try dsimp only at hm
                  replace HM := Lib.hid hm; clear hm
                  obtain ⟨⟨y69, y70⟩, hy67, hm⟩ := obind HM.out
                  dsimp only at hm
                  replace HM := Lib.hid hm; clear hm
                  have HC68 := common_Ups_ok W28 cap1 (rdL HD.out HR1.out) hy67
                  clear hy67
                  replace HC68 := Lib.hid HC68
                  go_wp2_with fail
                  refine HC68.out.mono ?_; rintro e W71 ⟨V72, rfl, ho, hd⟩
                  try clear hc31 hc33
                  replace HOA := Lib.hid (HOA.out.call hd HD.out.size ho); clear ho
                  replace HD := Lib.hid (HD.out.trans (hd.mono HD.out.size))
                  clear hd
                  go_upto_region 15 with (fail)
                  obtain ⟨b74, hb, hm⟩ := obind HM.out
                  replace HM := Lib.hid hm; have HB75 := Lib.hid hb; clear hm hb
                  go_cut [20] (fun uq wr => uq = .bool b74 ∧ Hid (Below W71.heap.size W71 wr))
                  case first =>
                    have HWC76 := Lib.hid (Below.refl W71.heap.size W71)
                    obtain ⟨y79, hy77, hm⟩ := obind HB75.out
                    replace HB75 := Lib.hid hm; clear hm
                    have HC78 := mErr_ok W71 (HTC.out.go HD.out)  hy77
                    clear hy77
                    replace HC78 := Lib.hid HC78
                    go_wp2_with fail
                    refine HC78.out.mono ?_; rintro e W80 ⟨rfl, hd⟩
                    replace HOA := Lib.hid (HOA.out.below hd)
                    replace HD := Lib.hid (HD.out.trans (hd.mono HD.out.size))
                    replace HWC76 := Lib.hid (HWC76.out.trans (hd.mono HWC76.out.size))
                    clear hd
                    cases y79
                    · replace HB75 := Lib.hid (ifF Bool.false_ne_true HB75.out)
                      cases Option.some.inj HB75.out
                      try go_wp2_with fail
                      go_meet
                      case rel => exact ⟨rfl, HWC76⟩
                    · replace HB75 := Lib.hid (ifT rfl HB75.out)
                      obtain ⟨y83, hy81, hm⟩ := obind HB75.out
                      replace HB75 := Lib.hid hm; clear hm
                      obtain ⟨A84, cap85, he, _⟩ := HP.open_I HOA.out (List.Mem.head _)
                      subst he
                      obtain ⟨A86, cap87, he, _⟩ := HP.open_I HOA.out (List.Mem.tail _ (List.Mem.tail _ (List.Mem.head _)))
                      subst he
                      have HC82 := SE_Ints_ok W80 cap85 (HP.rd_I HOA.out (List.Mem.head _)) cap87 (HP.rd_I HOA.out (List.Mem.tail _ (List.Mem.tail _ (List.Mem.head _)))) hy81
                      clear hy81
                      replace HC82 := Lib.hid HC82
                      go_wp2_with fail
                      refine HC82.out.mono ?_; rintro e W88 ⟨rfl, hd⟩
                      replace HOA := Lib.hid (HOA.out.below (hd.below _))
                      replace HD := Lib.hid (HD.out.trans ((hd.below _).mono HD.out.size))
                      replace HWC76 := Lib.hid (HWC76.out.trans ((hd.below _).mono HWC76.out.size))
                      clear hd
                      cases y83
                      · replace HB75 := Lib.hid (ifF Bool.false_ne_true HB75.out)
                        cases Option.some.inj HB75.out
                        try go_wp2_with fail
                        go_meet
                        case rel => exact ⟨rfl, HWC76⟩
                      · replace HB75 := Lib.hid (ifT rfl HB75.out)
                        cases Option.some.inj HB75.out
                        try go_wp2_with fail
                        go_meet
                        case rel => exact ⟨rfl, HWC76⟩
                  case rest =>
                    as_aux_lemma =>
                      obtain ⟨rfl, HWC76⟩ := hcut
                      rename World => W89
                      have hd := HWC76.out
                      replace HOA := Lib.hid (HOA.out.below hd)
                      replace HD := Lib.hid (HD.out.trans (hd.mono HD.out.size))
                      clear hd
                      go_upto_region 16 with (fail)
                      obtain ⟨x90, ho, hm⟩ := obind HM.out
                      replace HM := Lib.hid hm; have HJ91 := Lib.hid ho; clear hm ho
                      obtain ⟨b92, hb, hm⟩ := obind HJ91.out
                      replace HJ91 := Lib.hid hm; have HB93 := Lib.hid hb; clear hm hb
                      go_cut [94] (fun uq wr => uq = .bool b92 ∧ Hid (Below W89.heap.size W89 wr))
                      case first =>
                        have HWC94 := Lib.hid (Below.refl W89.heap.size W89)
                        have hc95 := HK34.out
                        replace HB93 := Lib.hid (ifF (bF hc95) HB93.out)
                        cases Option.some.inj HB93.out
                        try go_wp2_with fail
                        go_meet
                        case rel => exact ⟨rfl, HWC94⟩
                      case rest =>
                        as_aux_lemma =>
                          obtain ⟨rfl, HWC94⟩ := hcut
                          rename World => W96
                          have hd := HWC94.out
                          replace HOA := Lib.hid (HOA.out.below hd)
                          replace HD := Lib.hid (HD.out.trans (hd.mono HD.out.size))
                          clear hd
                          go_upto_if 94 with (fail)
                          go_cut [11] (fun q97 wr => q97 = .int .i64 x90 ∧ Hid (Below W96.heap.size W96 wr))
                          case first =>
                            have HWC99 := Lib.hid (Below.refl W96.heap.size W96)
                            cases b92
                            · replace HJ91 := Lib.hid (ifF Bool.false_ne_true HJ91.out)
                              try go_wp2_with fail
                              cases Option.some.inj HJ91.out
                              go_meet
                              case rel => exact ⟨rfl, HWC99⟩
                            · replace HJ91 := Lib.hid (ifT rfl HJ91.out)
                              try go_wp2_with fail
                              cases Option.some.inj HJ91.out
                              go_meet
                              case rel => exact ⟨rfl, HWC99⟩
                          case rest =>
                            as_aux_lemma =>
                              obtain ⟨rfl, HWC99⟩ := hcut
                              rename World => W100
                              have hd := HWC99.out
                              replace HOA := Lib.hid (HOA.out.below hd)
                              replace HD := Lib.hid (HD.out.trans (hd.mono HD.out.size))
                              clear hd
                              go_upto_region 19 with (fail)
                              obtain ⟨x101, ho, hm⟩ := obind HM.out
                              replace HM := Lib.hid hm; have HJ102 := Lib.hid ho; clear hm ho
                              obtain ⟨b103, hb, hm⟩ := obind HJ102.out
                              replace HJ102 := Lib.hid hm; have HB104 := Lib.hid hb; clear hm hb
                              go_cut [96] (fun uq wr => uq = .bool b103 ∧ Hid (Below W100.heap.size W100 wr))
                              case first =>
                                have HWC105 := Lib.hid (Below.refl W100.heap.size W100)
                                rcases Bool.eq_false_or_eq_true (x90 == 0) with hc106 | hc106
                                · replace HB104 := Lib.hid (ifT hc106 HB104.out)
                                  have HK107 := Lib.hid hc106
                                  cases Option.some.inj HB104.out
                                  try go_wp2_with fail
                                  go_meet
                                  case rel => exact ⟨rfl, HWC105⟩
                                · replace HB104 := Lib.hid (ifF (bF hc106) HB104.out)
                                  have HK107 := Lib.hid hc106
                                  cases Option.some.inj HB104.out
                                  try go_wp2_with fail
                                  go_meet
                                  case rel => exact ⟨rfl, HWC105⟩
                              case rest =>
                                as_aux_lemma =>
                                  obtain ⟨rfl, HWC105⟩ := hcut
                                  rename World => W108
                                  have hd := HWC105.out
                                  replace HOA := Lib.hid (HOA.out.below hd)
                                  replace HD := Lib.hid (HD.out.trans (hd.mono HD.out.size))
                                  clear hd
                                  go_upto_if 96 with (fail)
                                  go_cut [21] (fun q109 wr => q109 = .int .i64 x101 ∧ Hid (Below W108.heap.size W108 wr))
                                  case first =>
                                    have HWC111 := Lib.hid (Below.refl W108.heap.size W108)
                                    cases b103
                                    · replace HJ102 := Lib.hid (ifF Bool.false_ne_true HJ102.out)
                                      try go_wp2_with fail
                                      cases Option.some.inj HJ102.out
                                      go_meet
                                      case rel => exact ⟨rfl, HWC111⟩
                                    · replace HJ102 := Lib.hid (ifT rfl HJ102.out)
                                      obtain ⟨y114, hy112, hm⟩ := obind HJ102.out
                                      replace HJ102 := Lib.hid hm; clear hm
                                      have HC113 := R3_Way_ok W108 cap1 (rdL HD.out HR1.out) hy112
                                      clear hy112
                                      replace HC113 := Lib.hid HC113
                                      go_wp2_with fail
                                      refine HC113.out.mono ?_; rintro e W115 ⟨V116, rfl, ho, hd⟩
                                      replace HOA := Lib.hid (HOA.out.call hd HD.out.size ho); clear ho
                                      replace HD := Lib.hid (HD.out.trans (hd.mono HD.out.size))
                                      replace HWC111 := Lib.hid (HWC111.out.trans (hd.mono HWC111.out.size))
                                      clear hd
                                      obtain ⟨y120, hy118, hm⟩ := obind HJ102.out
                                      replace HJ102 := Lib.hid hm; clear hm
                                      have HC119 := R3_Way_ok W115 cap1 (rdL HD.out HR1.out) hy118
                                      clear hy118
                                      replace HC119 := Lib.hid HC119
                                      go_wp2_with fail
                                      refine HC119.out.mono ?_; rintro e W121 ⟨V122, rfl, ho, hd⟩
                                      replace HOA := Lib.hid (HOA.out.call hd HD.out.size ho); clear ho
                                      replace HD := Lib.hid (HD.out.trans (hd.mono HD.out.size))
                                      replace HWC111 := Lib.hid (HWC111.out.trans (hd.mono HWC111.out.size))
                                      clear hd
                                      go_wp2_with fail
                                      obtain ⟨o124, ho, hm⟩ := obind HJ102.out
                                      replace HJ102 := Lib.hid hm; have HL2 := Lib.hid ho; clear hm ho
                                      go_loopg [24] F (fun gg ux126 wr => ∃ (x125 : Int), ux126 = .int .i64 x125 ∧ Hid (Below W121.heap.size W121 wr) ∧ Hid (L3_CommonSays_L2 F (y114) (y120) gg x125 = some o124))
                                      case atStart => exact ⟨0, rfl, (Lib.hid (Below.refl _ _)), HL2⟩
                                      case round =>
                                        obtain ⟨x125, rfl, HW2, HL2⟩ := hrel
                                        rename World => W127
                                        have hd := HW2.out
                                        replace HOA := Lib.hid (HOA.out.below hd)
                                        replace HD := Lib.hid (HD.out.trans (hd.mono HD.out.size))
                                        replace HWC111 := Lib.hid (HWC111.out.trans (hd.mono HWC111.out.size))
                                        clear hd
                                        cases gk with
                                        | zero => exact absurd ((L3_CommonSays_L2_0 ..).symm.trans HL2.out) (by intro h; cases h)
                                        | succ g2 =>
                                          replace HL2 := Lib.hid ((L3_CommonSays_L2_s ..).symm.trans HL2.out)
                                          obtain ⟨A130, cap131, he, _⟩ := HP.open_I HOA.out (List.Mem.tail _ (List.Mem.head _))
                                          subst he
                                          obtain ⟨y128, hy129, hm⟩ := obind HL2.out
                                          replace HL2 := Lib.hid hm; clear hm
                                          obtain ⟨b132, o133, ea134, _, f135, f136, f137⟩ := ReadsI.ix (HP.rd_I HOA.out (List.Mem.tail _ (List.Mem.head _))) hy129
                                          cases ea134
                                          try simp only [Nat.zero_add, Nat.add_zero, Int.toNat_natCast, Int.toNat_zero, Int.toNat_one] at f137
                                          try rw [← HP.len_I HOA.out (List.Mem.tail _ (List.Mem.head _))] at f136
                                          have HY139 := Lib.hid hy129; clear hy129
                                          obtain ⟨y142, hy140, hm⟩ := obind HL2.out
                                          replace HL2 := Lib.hid hm; clear hm
                                          obtain ⟨A143, cap144, he, _⟩ := HP.open_I HOA.out (List.Mem.head _)
                                          subst he
                                          have HC141 := R1_Has_ok W127 cap144 (HP.rd_I HOA.out (List.Mem.head _)) hy140
                                          clear hy140
                                          replace HC141 := Lib.hid HC141
                                          cases y142
                                          · replace HL2 := Lib.hid (ifF Bool.false_ne_true HL2.out)
                                            go_wp2_with fail
                                            refine HC141.out.mono ?_; rintro e w' ⟨rfl, rfl⟩
                                            go_wp2_with fail
                                            try clear f135 f136 f137
                                            go_roundg g2
                                            case measure => omega
                                            case rel => exact ⟨(wrap64 (x125 + 1)), rfl, HW2, HL2⟩
                                          · replace HL2 := Lib.hid (ifT rfl HL2.out)
                                            obtain rfl := Option.some.inj HL2.out
                                            have hm := HJ102.out; try dsimp only at hm
                                            replace HJ102 := Lib.hid hm; clear hm
                                            obtain ⟨y145, hy146, hm⟩ := obind HJ102.out
                                            replace HJ102 := Lib.hid hm; clear hm
                                            obtain rfl := Option.some.inj (HY139.out.symm.trans hy146)
                                            clear hy146
                                            go_wp2_with fail
                                            refine HC141.out.mono ?_; rintro e w' ⟨rfl, rfl⟩
                                            try go_wp2_with fail
                                            try clear f135 f136 f137
                                            cases Option.some.inj HJ102.out
                                            go_meet
                                            case rel => exact ⟨rfl, HWC111⟩
                                  case rest =>
                                    as_aux_lemma =>
                                      obtain ⟨rfl, HWC111⟩ := hcut
                                      rename World => W147
                                      have hd := HWC111.out
                                      replace HOA := Lib.hid (HOA.out.below hd)
                                      replace HD := Lib.hid (HD.out.trans (hd.mono HD.out.size))
                                      clear hd
                                      obtain ⟨⟨y150, y151⟩, hy148, hm⟩ := obind HM.out
                                      dsimp only at hm
                                      replace HM := Lib.hid hm; clear hm
                                      have HC149 := common_Of_ok W147 cap1 (rdL HD.out HR1.out) hy148
                                      clear hy148
                                      replace HC149 := Lib.hid HC149
                                      go_wp2_with fail
                                      refine HC149.out.mono ?_; rintro e W152 ⟨rfl, hd⟩
                                      replace HOA := Lib.hid (HOA.out.below hd)
                                      replace HD := Lib.hid (HD.out.trans (hd.mono HD.out.size))
                                      clear hd
                                      go_upto_region 27 with (fail)
                                      obtain ⟨b153, hb, hm⟩ := obind HM.out
                                      replace HM := Lib.hid hm; have HB154 := Lib.hid hb; clear hm hb
                                      go_cut [26] (fun uq wr => uq = .bool b153 ∧ Hid (Below W152.heap.size W152 wr))
                                      case first =>
                                        have HWC155 := Lib.hid (Below.refl W152.heap.size W152)
                                        obtain ⟨y158, hy156, hm⟩ := obind HB154.out
                                        replace HB154 := Lib.hid hm; clear hm
                                        have HC157 := mErr_ok W152 (HTC.out.go HD.out)  hy156
                                        clear hy156
                                        replace HC157 := Lib.hid HC157
                                        go_wp2_with fail
                                        refine HC157.out.mono ?_; rintro e W159 ⟨rfl, hd⟩
                                        replace HOA := Lib.hid (HOA.out.below hd)
                                        replace HD := Lib.hid (HD.out.trans (hd.mono HD.out.size))
                                        replace HWC155 := Lib.hid (HWC155.out.trans (hd.mono HWC155.out.size))
                                        clear hd
                                        cases y158
                                        · replace HB154 := Lib.hid (ifF Bool.false_ne_true HB154.out)
                                          cases Option.some.inj HB154.out
                                          try go_wp2_with fail
                                          go_meet
                                          case rel => exact ⟨rfl, HWC155⟩
                                        · replace HB154 := Lib.hid (ifT rfl HB154.out)
                                          rcases Bool.eq_false_or_eq_true (y150 == x101) with hc160 | hc160
                                          · replace HB154 := Lib.hid (ifT hc160 HB154.out)
                                            have HK161 := Lib.hid hc160
                                            cases Option.some.inj HB154.out
                                            try go_wp2_with fail
                                            go_meet
                                            case rel => exact ⟨rfl, HWC155⟩
                                          · replace HB154 := Lib.hid (ifF (bF hc160) HB154.out)
                                            have HK161 := Lib.hid hc160
                                            cases Option.some.inj HB154.out
                                            try go_wp2_with fail
                                            go_meet
                                            case rel => exact ⟨rfl, HWC155⟩
                                      case rest =>
                                        as_aux_lemma =>
                                          obtain ⟨rfl, HWC155⟩ := hcut
                                          rename World => W162
                                          have hd := HWC155.out
                                          replace HOA := Lib.hid (HOA.out.below hd)
                                          replace HD := Lib.hid (HD.out.trans (hd.mono HD.out.size))
                                          clear hd
                                          go_upto_region 28 with (fail)
                                          obtain ⟨x163, ho, hm⟩ := obind HM.out
                                          replace HM := Lib.hid hm; have HJ164 := Lib.hid ho; clear hm ho
                                          obtain ⟨b165, hb, hm⟩ := obind HJ164.out
                                          replace HJ164 := Lib.hid hm; have HB166 := Lib.hid hb; clear hm hb
                                          go_cut [152] (fun uq wr => uq = .bool b165 ∧ Hid (Below W162.heap.size W162 wr))
                                          case first =>
                                            have HWC167 := Lib.hid (Below.refl W162.heap.size W162)
                                            rcases Bool.eq_false_or_eq_true (y3 == 0) with hc168 | hc168
                                            · replace HB166 := Lib.hid (ifT hc168 HB166.out)
                                              have HK169 := Lib.hid hc168
                                              obtain ⟨y172, hy170, hm⟩ := obind HB166.out
                                              replace HB166 := Lib.hid hm; clear hm
                                              have HC171 := L3_in_ok W162  hy170
                                              clear hy170
                                              replace HC171 := Lib.hid HC171
                                              cases y172
                                              · replace HB166 := Lib.hid (ifF Bool.false_ne_true HB166.out)
                                                cases Option.some.inj HB166.out
                                                go_wp2_with fail
                                                refine HC171.out.mono ?_; rintro e w' ⟨rfl, rfl⟩
                                                try go_wp2_with fail
                                                go_meet
                                                case rel => exact ⟨rfl, HWC167⟩
                                              · replace HB166 := Lib.hid (ifT rfl HB166.out)
                                                obtain ⟨y175, hy173, hm⟩ := obind HB166.out
                                                replace HB166 := Lib.hid hm; clear hm
                                                have HC174 := L3_in_ok W162  hy173
                                                clear hy173
                                                replace HC174 := Lib.hid HC174
                                                cases y175
                                                · replace HB166 := Lib.hid (ifF Bool.false_ne_true HB166.out)
                                                  cases Option.some.inj HB166.out
                                                  go_wp2_with fail
                                                  refine HC171.out.mono ?_; rintro e w' ⟨rfl, rfl⟩
                                                  go_wp2_with fail
                                                  refine HC174.out.mono ?_; rintro e w' ⟨rfl, rfl⟩
                                                  try go_wp2_with fail
                                                  go_meet
                                                  case rel => exact ⟨rfl, HWC167⟩
                                                · replace HB166 := Lib.hid (ifT rfl HB166.out)
                                                  cases Option.some.inj HB166.out
                                                  go_wp2_with fail
                                                  refine HC171.out.mono ?_; rintro e w' ⟨rfl, rfl⟩
                                                  go_wp2_with fail
                                                  refine HC174.out.mono ?_; rintro e w' ⟨rfl, rfl⟩
                                                  try go_wp2_with fail
                                                  go_meet
                                                  case rel => exact ⟨rfl, HWC167⟩
                                            · replace HB166 := Lib.hid (ifF (bF hc168) HB166.out)
                                              have HK169 := Lib.hid hc168
                                              cases Option.some.inj HB166.out
                                              try go_wp2_with fail
                                              go_meet
                                              case rel => exact ⟨rfl, HWC167⟩
                                          case rest =>
                                            as_aux_lemma =>
                                              obtain ⟨rfl, HWC167⟩ := hcut
                                              rename World => W176
                                              have hd := HWC167.out
                                              replace HOA := Lib.hid (HOA.out.below hd)
                                              replace HD := Lib.hid (HD.out.trans (hd.mono HD.out.size))
                                              clear hd
                                              go_upto_if 152 with (fail)
                                              go_cut [12] (fun q177 wr => q177 = .int .i64 x163 ∧ Hid (Below W176.heap.size W176 wr))
                                              case first =>
                                                have HWC179 := Lib.hid (Below.refl W176.heap.size W176)
                                                cases b165
                                                · replace HJ164 := Lib.hid (ifF Bool.false_ne_true HJ164.out)
                                                  try go_wp2_with fail
                                                  cases Option.some.inj HJ164.out
                                                  go_meet
                                                  case rel => exact ⟨rfl, HWC179⟩
                                                · replace HJ164 := Lib.hid (ifT rfl HJ164.out)
                                                  try go_wp2_with fail
                                                  cases Option.some.inj HJ164.out
                                                  go_meet
                                                  case rel => exact ⟨rfl, HWC179⟩
                                              case rest =>
                                                as_aux_lemma =>
                                                  obtain ⟨rfl, HWC179⟩ := hcut
                                                  rename World => W180
                                                  have hd := HWC179.out
                                                  replace HOA := Lib.hid (HOA.out.below hd)
                                                  replace HD := Lib.hid (HD.out.trans (hd.mono HD.out.size))
                                                  clear hd
                                                  go_upto_region 30 with (fail)
                                                  obtain ⟨x181, ho, hm⟩ := obind HM.out
                                                  replace HM := Lib.hid hm; have HJ182 := Lib.hid ho; clear hm ho
                                                  obtain ⟨b183, hb, hm⟩ := obind HJ182.out
                                                  replace HJ182 := Lib.hid hm; have HB184 := Lib.hid hb; clear hm hb
                                                  go_cut [154] (fun uq wr => uq = .bool b183 ∧ Hid (Below W180.heap.size W180 wr))
                                                  case first =>
                                                    have HWC185 := Lib.hid (Below.refl W180.heap.size W180)
                                                    rcases Bool.eq_false_or_eq_true (x163 == 0) with hc186 | hc186
                                                    · replace HB184 := Lib.hid (ifT hc186 HB184.out)
                                                      have HK187 := Lib.hid hc186
                                                      cases Option.some.inj HB184.out
                                                      try go_wp2_with fail
                                                      go_meet
                                                      case rel => exact ⟨rfl, HWC185⟩
                                                    · replace HB184 := Lib.hid (ifF (bF hc186) HB184.out)
                                                      have HK187 := Lib.hid hc186
                                                      cases Option.some.inj HB184.out
                                                      try go_wp2_with fail
                                                      go_meet
                                                      case rel => exact ⟨rfl, HWC185⟩
                                                  case rest =>
                                                    as_aux_lemma =>
                                                      obtain ⟨rfl, HWC185⟩ := hcut
                                                      rename World => W188
                                                      have hd := HWC185.out
                                                      replace HOA := Lib.hid (HOA.out.below hd)
                                                      replace HD := Lib.hid (HD.out.trans (hd.mono HD.out.size))
                                                      clear hd
                                                      go_upto_if 154 with (fail)
                                                      go_cut [14] (fun q190 wr => ∃ (V189 : Value), V189 = q190 ∧ Hid (Below w.heap.size w wr) ∧ Hid (HP wr w.heap.size [.fl (owI V72 (y69)), .fl (owI V189 (x181)), .fl (owI V27 (x23))]) ∧ Hid (Below W188.heap.size W188 wr))
                                                      case first =>
                                                        have HWC191 := Lib.hid (Below.refl W188.heap.size W188)
                                                        cases b183
                                                        · replace HJ182 := Lib.hid (ifF Bool.false_ne_true HJ182.out)
                                                          try go_wp2_with fail
                                                          cases Option.some.inj HJ182.out
                                                          go_meet
                                                          case rel => exact ⟨(.slice none 0 0), rfl, HD, HOA, HWC191⟩
                                                        · replace HJ182 := Lib.hid (ifT rfl HJ182.out)
                                                          obtain ⟨y194, hy192, hm⟩ := obind HJ182.out
                                                          replace HJ182 := Lib.hid hm; clear hm
                                                          have HC193 := R3_Way_ok W188 cap1 (rdL HD.out HR1.out) hy192
                                                          clear hy192
                                                          replace HC193 := Lib.hid HC193
                                                          go_wp2_with fail
                                                          refine HC193.out.mono ?_; rintro e W195 ⟨V196, rfl, ho, hd⟩
                                                          replace HOA := Lib.hid (HOA.out.call hd HD.out.size ho); clear ho
                                                          replace HD := Lib.hid (HD.out.trans (hd.mono HD.out.size))
                                                          replace HWC191 := Lib.hid (HWC191.out.trans (hd.mono HWC191.out.size))
                                                          clear hd
                                                          try go_wp2_with fail
                                                          replace HOA := Lib.hid (HOA.out.sub (.cons₂ _ (.cons₂ _ (.cons _ (.cons₂ _ .slnil)))))
                                                          replace HOA := Lib.hid (HP.mv (its1 := [_, _]) HOA.out)
                                                          replace HOA := Lib.hid (HP.mv (its1 := [_]) HOA.out)
                                                          replace HOA := Lib.hid (HP.mv (its1 := [_, _]) HOA.out)
                                                          replace HOA := Lib.hid (show HP _ _ [.fl (owI V72 (y69)), .fl (owI V196 (y194)), .fl (owI V27 (x23))] from HOA.out)
                                                          cases Option.some.inj HJ182.out
                                                          go_meet
                                                          case rel => exact ⟨V196, rfl, HD, HOA, HWC191⟩
                                                      case rest =>
                                                        as_aux_lemma =>
                                                          obtain ⟨V189, rfl, HD, HOA, HWC191⟩ := hcut
                                                          rename World => W198
                                                          have hd := HWC191.out
                                                          clear hd
                                                          obtain ⟨⟨y201, y202⟩, hy199, hm⟩ := obind HM.out
                                                          dsimp only at hm
                                                          replace HM := Lib.hid hm; clear hm
                                                          have HC200 := common_Way_ok W198 cap1 (rdL HD.out HR1.out) hy199
                                                          clear hy199
                                                          replace HC200 := Lib.hid HC200
                                                          go_wp2_with fail
                                                          refine HC200.out.mono ?_; rintro e W203 ⟨V204, rfl, ho, hd⟩
                                                          replace HOA := Lib.hid (HOA.out.call hd HD.out.size ho); clear ho
                                                          replace HD := Lib.hid (HD.out.trans (hd.mono HD.out.size))
                                                          clear hd
                                                          obtain ⟨b206, hb, hm⟩ := obind HM.out
                                                          replace HM := Lib.hid hm; have HB207 := Lib.hid hb; clear hm hb
                                                          obtain ⟨b208, hb, hm⟩ := obind HB207.out
                                                          replace HB207 := Lib.hid hm; have HB209 := Lib.hid hb; clear hm hb
                                                          obtain ⟨b210, hb, hm⟩ := obind HB209.out
                                                          replace HB209 := Lib.hid hm; have HB211 := Lib.hid hb; clear hm hb
                                                          cases b74
                                                          · replace HB211 := Lib.hid (ifF Bool.false_ne_true HB211.out)
                                                            obtain rfl := Option.some.inj HB211.out
                                                            replace HB209 := Lib.hid (ifF (by first | exact Bool.false_ne_true | exact not_false) HB209.out)
                                                            obtain rfl := Option.some.inj HB209.out
                                                            replace HB207 := Lib.hid (ifF (by first | exact Bool.false_ne_true | exact not_false) HB207.out)
                                                            obtain rfl := Option.some.inj HB207.out
                                                            obtain rfl := Option.some.inj HM.out
                                                            go_wp2_with fail
                                                            go_ret
                                                            exact ⟨rfl, HD.out⟩
                                                          · replace HB211 := Lib.hid (ifT rfl HB211.out)
                                                            cases b153
                                                            · replace HB211 := Lib.hid (ifF Bool.false_ne_true HB211.out)
                                                              obtain rfl := Option.some.inj HB211.out
                                                              replace HB209 := Lib.hid (ifF (by first | exact Bool.false_ne_true | exact not_false) HB209.out)
                                                              obtain rfl := Option.some.inj HB209.out
                                                              replace HB207 := Lib.hid (ifF (by first | exact Bool.false_ne_true | exact not_false) HB207.out)
                                                              obtain rfl := Option.some.inj HB207.out
                                                              obtain rfl := Option.some.inj HM.out
                                                              go_wp2_with fail
                                                              go_ret
                                                              exact ⟨rfl, HD.out⟩
                                                            · replace HB211 := Lib.hid (ifT rfl HB211.out)
                                                              obtain rfl := Option.some.inj HB211.out
                                                              replace HB209 := Lib.hid (ifT (by first | rfl | trivial) HB209.out)
                                                              obtain ⟨y214, hy212, hm⟩ := obind HB209.out
                                                              replace HB209 := Lib.hid hm; clear hm
                                                              have HC213 := mErr_ok W203 (HTC.out.go HD.out)  hy212
                                                              clear hy212
                                                              replace HC213 := Lib.hid HC213
                                                              go_wp2_with fail
                                                              refine HC213.out.mono ?_; rintro e W215 ⟨rfl, hd⟩
                                                              replace HOA := Lib.hid (HOA.out.below hd)
                                                              replace HD := Lib.hid (HD.out.trans (hd.mono HD.out.size))
                                                              clear hd
                                                              cases y214
                                                              · replace HB209 := Lib.hid (ifF Bool.false_ne_true HB209.out)
                                                                obtain rfl := Option.some.inj HB209.out
                                                                replace HB207 := Lib.hid (ifF (by first | exact Bool.false_ne_true | exact not_false) HB207.out)
                                                                obtain rfl := Option.some.inj HB207.out
                                                                obtain rfl := Option.some.inj HM.out
                                                                go_wp2_with fail
                                                                go_ret
                                                                exact ⟨rfl, HD.out⟩
                                                              · replace HB209 := Lib.hid (ifT rfl HB209.out)
                                                                obtain rfl := Option.some.inj HB209.out
                                                                replace HB207 := Lib.hid (ifT (by first | rfl | trivial) HB207.out)
                                                                obtain ⟨y218, hy216, hm⟩ := obind HB207.out
                                                                replace HB207 := Lib.hid hm; clear hm
                                                                obtain ⟨A219, cap220, he, _⟩ := HP.open_I HOA.out (List.Mem.head _)
                                                                subst he
                                                                obtain ⟨A221, cap222, he, _⟩ := HP.open_I HOA.out (List.Mem.tail _ (List.Mem.tail _ (List.Mem.head _)))
                                                                subst he
                                                                have HC217 := SE_Ints_ok W215 cap220 (HP.rd_I HOA.out (List.Mem.head _)) cap222 (HP.rd_I HOA.out (List.Mem.tail _ (List.Mem.tail _ (List.Mem.head _)))) hy216
                                                                clear hy216
                                                                replace HC217 := Lib.hid HC217
                                                                go_wp2_with fail
                                                                refine HC217.out.mono ?_; rintro e W223 ⟨rfl, hd⟩
                                                                replace HOA := Lib.hid (HOA.out.below (hd.below _))
                                                                replace HD := Lib.hid (HD.out.trans ((hd.below _).mono HD.out.size))
                                                                clear hd
                                                                cases y218
                                                                · replace HB207 := Lib.hid (ifF Bool.false_ne_true HB207.out)
                                                                  obtain rfl := Option.some.inj HB207.out
                                                                  obtain rfl := Option.some.inj HM.out
                                                                  go_wp2_with fail
                                                                  go_ret
                                                                  exact ⟨rfl, HD.out⟩
                                                                · replace HB207 := Lib.hid (ifT rfl HB207.out)
                                                                  obtain rfl := Option.some.inj HB207.out
                                                                  obtain rfl := Option.some.inj HM.out
                                                                  go_wp2_with fail
                                                                  go_ret
                                                                  exact ⟨rfl, HD.out⟩
              · replace HB30 := Lib.hid (ifF hc31 HB30.out)
                have hc31d := decide_eq_false hc31
                have HK32 := Lib.hid hc31
                obtain rfl := Option.some.inj HB30.out
                replace HL1 := Lib.hid (ifF (by first | exact Bool.false_ne_true | exact not_false) HL1.out)
                obtain rfl := Option.some.inj HL1.out
                have hm := HM.out; try dsimp only at hm
                replace HM := Lib.hid hm; clear hm
                obtain ⟨⟨y226, y227⟩, hy224, hm⟩ := obind HM.out
                dsimp only at hm
                replace HM := Lib.hid hm; clear hm
                have HC225 := common_Ups_ok W28 cap1 (rdL HD.out HR1.out) hy224
                clear hy224
                replace HC225 := Lib.hid HC225
                go_wp2_with fail
                refine HC225.out.mono ?_; rintro e W228 ⟨V229, rfl, ho, hd⟩
                try clear hc31 hc31d
                replace HOA := Lib.hid (HOA.out.call hd HD.out.size ho); clear ho
                replace HD := Lib.hid (HD.out.trans (hd.mono HD.out.size))
                clear hd
                go_upto_region 15 with (fail)
                obtain ⟨b231, hb, hm⟩ := obind HM.out
                replace HM := Lib.hid hm; have HB232 := Lib.hid hb; clear hm hb
                go_cut [20] (fun uq wr => uq = .bool b231 ∧ Hid (Below W228.heap.size W228 wr))
                case first =>
                  have HWC233 := Lib.hid (Below.refl W228.heap.size W228)
                  obtain ⟨y236, hy234, hm⟩ := obind HB232.out
                  replace HB232 := Lib.hid hm; clear hm
                  have HC235 := mErr_ok W228 (HTC.out.go HD.out)  hy234
                  clear hy234
                  replace HC235 := Lib.hid HC235
                  go_wp2_with fail
                  refine HC235.out.mono ?_; rintro e W237 ⟨rfl, hd⟩
                  replace HOA := Lib.hid (HOA.out.below hd)
                  replace HD := Lib.hid (HD.out.trans (hd.mono HD.out.size))
                  replace HWC233 := Lib.hid (HWC233.out.trans (hd.mono HWC233.out.size))
                  clear hd
                  cases y236
                  · replace HB232 := Lib.hid (ifF Bool.false_ne_true HB232.out)
                    cases Option.some.inj HB232.out
                    try go_wp2_with fail
                    go_meet
                    case rel => exact ⟨rfl, HWC233⟩
                  · replace HB232 := Lib.hid (ifT rfl HB232.out)
                    obtain ⟨y240, hy238, hm⟩ := obind HB232.out
                    replace HB232 := Lib.hid hm; clear hm
                    obtain ⟨A241, cap242, he, _⟩ := HP.open_I HOA.out (List.Mem.head _)
                    subst he
                    obtain ⟨A243, cap244, he, _⟩ := HP.open_I HOA.out (List.Mem.tail _ (List.Mem.tail _ (List.Mem.head _)))
                    subst he
                    have HC239 := SE_Ints_ok W237 cap242 (HP.rd_I HOA.out (List.Mem.head _)) cap244 (HP.rd_I HOA.out (List.Mem.tail _ (List.Mem.tail _ (List.Mem.head _)))) hy238
                    clear hy238
                    replace HC239 := Lib.hid HC239
                    go_wp2_with fail
                    refine HC239.out.mono ?_; rintro e W245 ⟨rfl, hd⟩
                    replace HOA := Lib.hid (HOA.out.below (hd.below _))
                    replace HD := Lib.hid (HD.out.trans ((hd.below _).mono HD.out.size))
                    replace HWC233 := Lib.hid (HWC233.out.trans ((hd.below _).mono HWC233.out.size))
                    clear hd
                    cases y240
                    · replace HB232 := Lib.hid (ifF Bool.false_ne_true HB232.out)
                      cases Option.some.inj HB232.out
                      try go_wp2_with fail
                      go_meet
                      case rel => exact ⟨rfl, HWC233⟩
                    · replace HB232 := Lib.hid (ifT rfl HB232.out)
                      cases Option.some.inj HB232.out
                      try go_wp2_with fail
                      go_meet
                      case rel => exact ⟨rfl, HWC233⟩
                case rest =>
                  as_aux_lemma =>
                    obtain ⟨rfl, HWC233⟩ := hcut
                    rename World => W246
                    have hd := HWC233.out
                    replace HOA := Lib.hid (HOA.out.below hd)
                    replace HD := Lib.hid (HD.out.trans (hd.mono HD.out.size))
                    clear hd
                    go_upto_region 16 with (fail)
                    obtain ⟨x247, ho, hm⟩ := obind HM.out
                    replace HM := Lib.hid hm; have HJ248 := Lib.hid ho; clear hm ho
                    obtain ⟨b249, hb, hm⟩ := obind HJ248.out
                    replace HJ248 := Lib.hid hm; have HB250 := Lib.hid hb; clear hm hb
                    go_cut [94] (fun uq wr => uq = .bool b249 ∧ Hid (Below W246.heap.size W246 wr))
                    case first =>
                      have HWC251 := Lib.hid (Below.refl W246.heap.size W246)
                      rcases Bool.eq_false_or_eq_true (x5 == 0) with hc252 | hc252
                      · replace HB250 := Lib.hid (ifT hc252 HB250.out)
                        have HK253 := Lib.hid hc252
                        obtain ⟨y256, hy254, hm⟩ := obind HB250.out
                        replace HB250 := Lib.hid hm; clear hm
                        have HC255 := L3_in_ok W246  hy254
                        clear hy254
                        replace HC255 := Lib.hid HC255
                        cases y256
                        · replace HB250 := Lib.hid (ifF Bool.false_ne_true HB250.out)
                          cases Option.some.inj HB250.out
                          go_wp2_with fail
                          refine HC255.out.mono ?_; rintro e w' ⟨rfl, rfl⟩
                          try go_wp2_with fail
                          go_meet
                          case rel => exact ⟨rfl, HWC251⟩
                        · replace HB250 := Lib.hid (ifT rfl HB250.out)
                          obtain ⟨y259, hy257, hm⟩ := obind HB250.out
                          replace HB250 := Lib.hid hm; clear hm
                          have HC258 := L3_in_ok W246  hy257
                          clear hy257
                          replace HC258 := Lib.hid HC258
                          cases y259
                          · replace HB250 := Lib.hid (ifF Bool.false_ne_true HB250.out)
                            cases Option.some.inj HB250.out
                            go_wp2_with fail
                            refine HC255.out.mono ?_; rintro e w' ⟨rfl, rfl⟩
                            go_wp2_with fail
                            refine HC258.out.mono ?_; rintro e w' ⟨rfl, rfl⟩
                            try go_wp2_with fail
                            go_meet
                            case rel => exact ⟨rfl, HWC251⟩
                          · replace HB250 := Lib.hid (ifT rfl HB250.out)
                            cases Option.some.inj HB250.out
                            go_wp2_with fail
                            refine HC255.out.mono ?_; rintro e w' ⟨rfl, rfl⟩
                            go_wp2_with fail
                            refine HC258.out.mono ?_; rintro e w' ⟨rfl, rfl⟩
                            try go_wp2_with fail
                            go_meet
                            case rel => exact ⟨rfl, HWC251⟩
                      · replace HB250 := Lib.hid (ifF (bF hc252) HB250.out)
                        have HK253 := Lib.hid hc252
                        cases Option.some.inj HB250.out
                        try go_wp2_with fail
                        go_meet
                        case rel => exact ⟨rfl, HWC251⟩
                    case rest =>
                      as_aux_lemma =>
                        obtain ⟨rfl, HWC251⟩ := hcut
                        rename World => W260
                        have hd := HWC251.out
                        replace HOA := Lib.hid (HOA.out.below hd)
                        replace HD := Lib.hid (HD.out.trans (hd.mono HD.out.size))
                        clear hd
                        go_upto_if 94 with (fail)
                        go_cut [11] (fun q261 wr => q261 = .int .i64 x247 ∧ Hid (Below W260.heap.size W260 wr))
                        case first =>
                          have HWC263 := Lib.hid (Below.refl W260.heap.size W260)
                          cases b249
                          · replace HJ248 := Lib.hid (ifF Bool.false_ne_true HJ248.out)
                            try go_wp2_with fail
                            cases Option.some.inj HJ248.out
                            go_meet
                            case rel => exact ⟨rfl, HWC263⟩
                          · replace HJ248 := Lib.hid (ifT rfl HJ248.out)
                            try go_wp2_with fail
                            cases Option.some.inj HJ248.out
                            go_meet
                            case rel => exact ⟨rfl, HWC263⟩
                        case rest =>
                          as_aux_lemma =>
                            obtain ⟨rfl, HWC263⟩ := hcut
                            rename World => W264
                            have hd := HWC263.out
                            replace HOA := Lib.hid (HOA.out.below hd)
                            replace HD := Lib.hid (HD.out.trans (hd.mono HD.out.size))
                            clear hd
                            go_upto_region 19 with (fail)
                            obtain ⟨x265, ho, hm⟩ := obind HM.out
                            replace HM := Lib.hid hm; have HJ266 := Lib.hid ho; clear hm ho
                            obtain ⟨b267, hb, hm⟩ := obind HJ266.out
                            replace HJ266 := Lib.hid hm; have HB268 := Lib.hid hb; clear hm hb
                            go_cut [96] (fun uq wr => uq = .bool b267 ∧ Hid (Below W264.heap.size W264 wr))
                            case first =>
                              have HWC269 := Lib.hid (Below.refl W264.heap.size W264)
                              rcases Bool.eq_false_or_eq_true (x247 == 0) with hc270 | hc270
                              · replace HB268 := Lib.hid (ifT hc270 HB268.out)
                                have HK271 := Lib.hid hc270
                                cases Option.some.inj HB268.out
                                try go_wp2_with fail
                                go_meet
                                case rel => exact ⟨rfl, HWC269⟩
                              · replace HB268 := Lib.hid (ifF (bF hc270) HB268.out)
                                have HK271 := Lib.hid hc270
                                cases Option.some.inj HB268.out
                                try go_wp2_with fail
                                go_meet
                                case rel => exact ⟨rfl, HWC269⟩
                            case rest =>
                              as_aux_lemma =>
                                obtain ⟨rfl, HWC269⟩ := hcut
                                rename World => W272
                                have hd := HWC269.out
                                replace HOA := Lib.hid (HOA.out.below hd)
                                replace HD := Lib.hid (HD.out.trans (hd.mono HD.out.size))
                                clear hd
                                go_upto_if 96 with (fail)
                                go_cut [21] (fun q273 wr => q273 = .int .i64 x265 ∧ Hid (Below W272.heap.size W272 wr))
                                case first =>
                                  have HWC275 := Lib.hid (Below.refl W272.heap.size W272)
                                  cases b267
                                  · replace HJ266 := Lib.hid (ifF Bool.false_ne_true HJ266.out)
                                    try go_wp2_with fail
                                    cases Option.some.inj HJ266.out
                                    go_meet
                                    case rel => exact ⟨rfl, HWC275⟩
                                  · replace HJ266 := Lib.hid (ifT rfl HJ266.out)
                                    obtain ⟨y278, hy276, hm⟩ := obind HJ266.out
                                    replace HJ266 := Lib.hid hm; clear hm
                                    have HC277 := R3_Way_ok W272 cap1 (rdL HD.out HR1.out) hy276
                                    clear hy276
                                    replace HC277 := Lib.hid HC277
                                    go_wp2_with fail
                                    refine HC277.out.mono ?_; rintro e W279 ⟨V280, rfl, ho, hd⟩
                                    replace HOA := Lib.hid (HOA.out.call hd HD.out.size ho); clear ho
                                    replace HD := Lib.hid (HD.out.trans (hd.mono HD.out.size))
                                    replace HWC275 := Lib.hid (HWC275.out.trans (hd.mono HWC275.out.size))
                                    clear hd
                                    obtain ⟨y284, hy282, hm⟩ := obind HJ266.out
                                    replace HJ266 := Lib.hid hm; clear hm
                                    have HC283 := R3_Way_ok W279 cap1 (rdL HD.out HR1.out) hy282
                                    clear hy282
                                    replace HC283 := Lib.hid HC283
                                    go_wp2_with fail
                                    refine HC283.out.mono ?_; rintro e W285 ⟨V286, rfl, ho, hd⟩
                                    replace HOA := Lib.hid (HOA.out.call hd HD.out.size ho); clear ho
                                    replace HD := Lib.hid (HD.out.trans (hd.mono HD.out.size))
                                    replace HWC275 := Lib.hid (HWC275.out.trans (hd.mono HWC275.out.size))
                                    clear hd
                                    go_wp2_with fail
                                    obtain ⟨o288, ho, hm⟩ := obind HJ266.out
                                    replace HJ266 := Lib.hid hm; have HL2 := Lib.hid ho; clear hm ho
                                    go_loopg [24] F (fun gg ux290 wr => ∃ (x289 : Int), ux290 = .int .i64 x289 ∧ Hid (Below W285.heap.size W285 wr) ∧ Hid (L3_CommonSays_L2 F (y278) (y284) gg x289 = some o288))
                                    case atStart => exact ⟨0, rfl, (Lib.hid (Below.refl _ _)), HL2⟩
                                    case round =>
                                      obtain ⟨x289, rfl, HW2, HL2⟩ := hrel
                                      rename World => W291
                                      have hd := HW2.out
                                      replace HOA := Lib.hid (HOA.out.below hd)
                                      replace HD := Lib.hid (HD.out.trans (hd.mono HD.out.size))
                                      replace HWC275 := Lib.hid (HWC275.out.trans (hd.mono HWC275.out.size))
                                      clear hd
                                      cases gk with
                                      | zero => exact absurd ((L3_CommonSays_L2_0 ..).symm.trans HL2.out) (by intro h; cases h)
                                      | succ g2 =>
                                        replace HL2 := Lib.hid ((L3_CommonSays_L2_s ..).symm.trans HL2.out)
                                        obtain ⟨A294, cap295, he, _⟩ := HP.open_I HOA.out (List.Mem.tail _ (List.Mem.head _))
                                        subst he
                                        obtain ⟨y292, hy293, hm⟩ := obind HL2.out
                                        replace HL2 := Lib.hid hm; clear hm
                                        obtain ⟨b296, o297, ea298, _, f299, f300, f301⟩ := ReadsI.ix (HP.rd_I HOA.out (List.Mem.tail _ (List.Mem.head _))) hy293
                                        cases ea298
                                        try simp only [Nat.zero_add, Nat.add_zero, Int.toNat_natCast, Int.toNat_zero, Int.toNat_one] at f301
                                        try rw [← HP.len_I HOA.out (List.Mem.tail _ (List.Mem.head _))] at f300
                                        have HY303 := Lib.hid hy293; clear hy293
                                        obtain ⟨y306, hy304, hm⟩ := obind HL2.out
                                        replace HL2 := Lib.hid hm; clear hm
                                        obtain ⟨A307, cap308, he, _⟩ := HP.open_I HOA.out (List.Mem.head _)
                                        subst he
                                        have HC305 := R1_Has_ok W291 cap308 (HP.rd_I HOA.out (List.Mem.head _)) hy304
                                        clear hy304
                                        replace HC305 := Lib.hid HC305
                                        cases y306
                                        · replace HL2 := Lib.hid (ifF Bool.false_ne_true HL2.out)
                                          go_wp2_with fail
                                          refine HC305.out.mono ?_; rintro e w' ⟨rfl, rfl⟩
                                          go_wp2_with fail
                                          try clear f299 f300 f301
                                          go_roundg g2
                                          case measure => omega
                                          case rel => exact ⟨(wrap64 (x289 + 1)), rfl, HW2, HL2⟩
                                        · replace HL2 := Lib.hid (ifT rfl HL2.out)
                                          obtain rfl := Option.some.inj HL2.out
                                          have hm := HJ266.out; try dsimp only at hm
                                          replace HJ266 := Lib.hid hm; clear hm
                                          obtain ⟨y309, hy310, hm⟩ := obind HJ266.out
                                          replace HJ266 := Lib.hid hm; clear hm
                                          obtain rfl := Option.some.inj (HY303.out.symm.trans hy310)
                                          clear hy310
                                          go_wp2_with fail
                                          refine HC305.out.mono ?_; rintro e w' ⟨rfl, rfl⟩
                                          try go_wp2_with fail
                                          try clear f299 f300 f301
                                          cases Option.some.inj HJ266.out
                                          go_meet
                                          case rel => exact ⟨rfl, HWC275⟩
                                case rest =>
                                  as_aux_lemma =>
                                    obtain ⟨rfl, HWC275⟩ := hcut
                                    rename World => W311
                                    have hd := HWC275.out
                                    replace HOA := Lib.hid (HOA.out.below hd)
                                    replace HD := Lib.hid (HD.out.trans (hd.mono HD.out.size))
                                    clear hd
                                    obtain ⟨⟨y314, y315⟩, hy312, hm⟩ := obind HM.out
                                    dsimp only at hm
                                    replace HM := Lib.hid hm; clear hm
                                    have HC313 := common_Of_ok W311 cap1 (rdL HD.out HR1.out) hy312
                                    clear hy312
                                    replace HC313 := Lib.hid HC313
                                    go_wp2_with fail
                                    refine HC313.out.mono ?_; rintro e W316 ⟨rfl, hd⟩
                                    replace HOA := Lib.hid (HOA.out.below hd)
                                    replace HD := Lib.hid (HD.out.trans (hd.mono HD.out.size))
                                    clear hd
                                    go_upto_region 27 with (fail)
                                    obtain ⟨b317, hb, hm⟩ := obind HM.out
                                    replace HM := Lib.hid hm; have HB318 := Lib.hid hb; clear hm hb
                                    go_cut [26] (fun uq wr => uq = .bool b317 ∧ Hid (Below W316.heap.size W316 wr))
                                    case first =>
                                      have HWC319 := Lib.hid (Below.refl W316.heap.size W316)
                                      obtain ⟨y322, hy320, hm⟩ := obind HB318.out
                                      replace HB318 := Lib.hid hm; clear hm
                                      have HC321 := mErr_ok W316 (HTC.out.go HD.out)  hy320
                                      clear hy320
                                      replace HC321 := Lib.hid HC321
                                      go_wp2_with fail
                                      refine HC321.out.mono ?_; rintro e W323 ⟨rfl, hd⟩
                                      replace HOA := Lib.hid (HOA.out.below hd)
                                      replace HD := Lib.hid (HD.out.trans (hd.mono HD.out.size))
                                      replace HWC319 := Lib.hid (HWC319.out.trans (hd.mono HWC319.out.size))
                                      clear hd
                                      cases y322
                                      · replace HB318 := Lib.hid (ifF Bool.false_ne_true HB318.out)
                                        cases Option.some.inj HB318.out
                                        try go_wp2_with fail
                                        go_meet
                                        case rel => exact ⟨rfl, HWC319⟩
                                      · replace HB318 := Lib.hid (ifT rfl HB318.out)
                                        rcases Bool.eq_false_or_eq_true (y314 == x265) with hc324 | hc324
                                        · replace HB318 := Lib.hid (ifT hc324 HB318.out)
                                          have HK325 := Lib.hid hc324
                                          cases Option.some.inj HB318.out
                                          try go_wp2_with fail
                                          go_meet
                                          case rel => exact ⟨rfl, HWC319⟩
                                        · replace HB318 := Lib.hid (ifF (bF hc324) HB318.out)
                                          have HK325 := Lib.hid hc324
                                          cases Option.some.inj HB318.out
                                          try go_wp2_with fail
                                          go_meet
                                          case rel => exact ⟨rfl, HWC319⟩
                                    case rest =>
                                      as_aux_lemma =>
                                        obtain ⟨rfl, HWC319⟩ := hcut
                                        rename World => W326
                                        have hd := HWC319.out
                                        replace HOA := Lib.hid (HOA.out.below hd)
                                        replace HD := Lib.hid (HD.out.trans (hd.mono HD.out.size))
                                        clear hd
                                        go_upto_region 28 with (fail)
                                        obtain ⟨x327, ho, hm⟩ := obind HM.out
                                        replace HM := Lib.hid hm; have HJ328 := Lib.hid ho; clear hm ho
                                        obtain ⟨b329, hb, hm⟩ := obind HJ328.out
                                        replace HJ328 := Lib.hid hm; have HB330 := Lib.hid hb; clear hm hb
                                        go_cut [152] (fun uq wr => uq = .bool b329 ∧ Hid (Below W326.heap.size W326 wr))
                                        case first =>
                                          have HWC331 := Lib.hid (Below.refl W326.heap.size W326)
                                          rcases Bool.eq_false_or_eq_true (y3 == 0) with hc332 | hc332
                                          · replace HB330 := Lib.hid (ifT hc332 HB330.out)
                                            have HK333 := Lib.hid hc332
                                            obtain ⟨y336, hy334, hm⟩ := obind HB330.out
                                            replace HB330 := Lib.hid hm; clear hm
                                            have HC335 := L3_in_ok W326  hy334
                                            clear hy334
                                            replace HC335 := Lib.hid HC335
                                            cases y336
                                            · replace HB330 := Lib.hid (ifF Bool.false_ne_true HB330.out)
                                              cases Option.some.inj HB330.out
                                              go_wp2_with fail
                                              refine HC335.out.mono ?_; rintro e w' ⟨rfl, rfl⟩
                                              try go_wp2_with fail
                                              go_meet
                                              case rel => exact ⟨rfl, HWC331⟩
                                            · replace HB330 := Lib.hid (ifT rfl HB330.out)
                                              obtain ⟨y339, hy337, hm⟩ := obind HB330.out
                                              replace HB330 := Lib.hid hm; clear hm
                                              have HC338 := L3_in_ok W326  hy337
                                              clear hy337
                                              replace HC338 := Lib.hid HC338
                                              cases y339
                                              · replace HB330 := Lib.hid (ifF Bool.false_ne_true HB330.out)
                                                cases Option.some.inj HB330.out
                                                go_wp2_with fail
                                                refine HC335.out.mono ?_; rintro e w' ⟨rfl, rfl⟩
                                                go_wp2_with fail
                                                refine HC338.out.mono ?_; rintro e w' ⟨rfl, rfl⟩
                                                try go_wp2_with fail
                                                go_meet
                                                case rel => exact ⟨rfl, HWC331⟩
                                              · replace HB330 := Lib.hid (ifT rfl HB330.out)
                                                cases Option.some.inj HB330.out
                                                go_wp2_with fail
                                                refine HC335.out.mono ?_; rintro e w' ⟨rfl, rfl⟩
                                                go_wp2_with fail
                                                refine HC338.out.mono ?_; rintro e w' ⟨rfl, rfl⟩
                                                try go_wp2_with fail
                                                go_meet
                                                case rel => exact ⟨rfl, HWC331⟩
                                          · replace HB330 := Lib.hid (ifF (bF hc332) HB330.out)
                                            have HK333 := Lib.hid hc332
                                            cases Option.some.inj HB330.out
                                            try go_wp2_with fail
                                            go_meet
                                            case rel => exact ⟨rfl, HWC331⟩
                                        case rest =>
                                          as_aux_lemma =>
                                            obtain ⟨rfl, HWC331⟩ := hcut
                                            rename World => W340
                                            have hd := HWC331.out
                                            replace HOA := Lib.hid (HOA.out.below hd)
                                            replace HD := Lib.hid (HD.out.trans (hd.mono HD.out.size))
                                            clear hd
                                            go_upto_if 152 with (fail)
                                            go_cut [12] (fun q341 wr => q341 = .int .i64 x327 ∧ Hid (Below W340.heap.size W340 wr))
                                            case first =>
                                              have HWC343 := Lib.hid (Below.refl W340.heap.size W340)
                                              cases b329
                                              · replace HJ328 := Lib.hid (ifF Bool.false_ne_true HJ328.out)
                                                try go_wp2_with fail
                                                cases Option.some.inj HJ328.out
                                                go_meet
                                                case rel => exact ⟨rfl, HWC343⟩
                                              · replace HJ328 := Lib.hid (ifT rfl HJ328.out)
                                                try go_wp2_with fail
                                                cases Option.some.inj HJ328.out
                                                go_meet
                                                case rel => exact ⟨rfl, HWC343⟩
                                            case rest =>
                                              as_aux_lemma =>
                                                obtain ⟨rfl, HWC343⟩ := hcut
                                                rename World => W344
                                                have hd := HWC343.out
                                                replace HOA := Lib.hid (HOA.out.below hd)
                                                replace HD := Lib.hid (HD.out.trans (hd.mono HD.out.size))
                                                clear hd
                                                go_upto_region 30 with (fail)
                                                obtain ⟨x345, ho, hm⟩ := obind HM.out
                                                replace HM := Lib.hid hm; have HJ346 := Lib.hid ho; clear hm ho
                                                obtain ⟨b347, hb, hm⟩ := obind HJ346.out
                                                replace HJ346 := Lib.hid hm; have HB348 := Lib.hid hb; clear hm hb
                                                go_cut [154] (fun uq wr => uq = .bool b347 ∧ Hid (Below W344.heap.size W344 wr))
                                                case first =>
                                                  have HWC349 := Lib.hid (Below.refl W344.heap.size W344)
                                                  rcases Bool.eq_false_or_eq_true (x327 == 0) with hc350 | hc350
                                                  · replace HB348 := Lib.hid (ifT hc350 HB348.out)
                                                    have HK351 := Lib.hid hc350
                                                    cases Option.some.inj HB348.out
                                                    try go_wp2_with fail
                                                    go_meet
                                                    case rel => exact ⟨rfl, HWC349⟩
                                                  · replace HB348 := Lib.hid (ifF (bF hc350) HB348.out)
                                                    have HK351 := Lib.hid hc350
                                                    cases Option.some.inj HB348.out
                                                    try go_wp2_with fail
                                                    go_meet
                                                    case rel => exact ⟨rfl, HWC349⟩
                                                case rest =>
                                                  as_aux_lemma =>
                                                    obtain ⟨rfl, HWC349⟩ := hcut
                                                    rename World => W352
                                                    have hd := HWC349.out
                                                    replace HOA := Lib.hid (HOA.out.below hd)
                                                    replace HD := Lib.hid (HD.out.trans (hd.mono HD.out.size))
                                                    clear hd
                                                    go_upto_if 154 with (fail)
                                                    go_cut [14] (fun q354 wr => ∃ (V353 : Value), V353 = q354 ∧ Hid (Below w.heap.size w wr) ∧ Hid (HP wr w.heap.size [.fl (owI V229 (y226)), .fl (owI V353 (x345)), .fl (owI V27 (x23))]) ∧ Hid (Below W352.heap.size W352 wr))
                                                    case first =>
                                                      have HWC355 := Lib.hid (Below.refl W352.heap.size W352)
                                                      cases b347
                                                      · replace HJ346 := Lib.hid (ifF Bool.false_ne_true HJ346.out)
                                                        try go_wp2_with fail
                                                        cases Option.some.inj HJ346.out
                                                        go_meet
                                                        case rel => exact ⟨(.slice none 0 0), rfl, HD, HOA, HWC355⟩
                                                      · replace HJ346 := Lib.hid (ifT rfl HJ346.out)
                                                        obtain ⟨y358, hy356, hm⟩ := obind HJ346.out
                                                        replace HJ346 := Lib.hid hm; clear hm
                                                        have HC357 := R3_Way_ok W352 cap1 (rdL HD.out HR1.out) hy356
                                                        clear hy356
                                                        replace HC357 := Lib.hid HC357
                                                        go_wp2_with fail
                                                        refine HC357.out.mono ?_; rintro e W359 ⟨V360, rfl, ho, hd⟩
                                                        replace HOA := Lib.hid (HOA.out.call hd HD.out.size ho); clear ho
                                                        replace HD := Lib.hid (HD.out.trans (hd.mono HD.out.size))
                                                        replace HWC355 := Lib.hid (HWC355.out.trans (hd.mono HWC355.out.size))
                                                        clear hd
                                                        try go_wp2_with fail
                                                        replace HOA := Lib.hid (HOA.out.sub (.cons₂ _ (.cons₂ _ (.cons _ (.cons₂ _ .slnil)))))
                                                        replace HOA := Lib.hid (HP.mv (its1 := [_, _]) HOA.out)
                                                        replace HOA := Lib.hid (HP.mv (its1 := [_]) HOA.out)
                                                        replace HOA := Lib.hid (HP.mv (its1 := [_, _]) HOA.out)
                                                        replace HOA := Lib.hid (show HP _ _ [.fl (owI V229 (y226)), .fl (owI V360 (y358)), .fl (owI V27 (x23))] from HOA.out)
                                                        cases Option.some.inj HJ346.out
                                                        go_meet
                                                        case rel => exact ⟨V360, rfl, HD, HOA, HWC355⟩
                                                    case rest =>
                                                      as_aux_lemma =>
                                                        obtain ⟨V353, rfl, HD, HOA, HWC355⟩ := hcut
                                                        rename World => W362
                                                        have hd := HWC355.out
                                                        clear hd
                                                        obtain ⟨⟨y365, y366⟩, hy363, hm⟩ := obind HM.out
                                                        dsimp only at hm
                                                        replace HM := Lib.hid hm; clear hm
                                                        have HC364 := common_Way_ok W362 cap1 (rdL HD.out HR1.out) hy363
                                                        clear hy363
                                                        replace HC364 := Lib.hid HC364
                                                        go_wp2_with fail
                                                        refine HC364.out.mono ?_; rintro e W367 ⟨V368, rfl, ho, hd⟩
                                                        replace HOA := Lib.hid (HOA.out.call hd HD.out.size ho); clear ho
                                                        replace HD := Lib.hid (HD.out.trans (hd.mono HD.out.size))
                                                        clear hd
                                                        obtain ⟨b370, hb, hm⟩ := obind HM.out
                                                        replace HM := Lib.hid hm; have HB371 := Lib.hid hb; clear hm hb
                                                        obtain ⟨b372, hb, hm⟩ := obind HB371.out
                                                        replace HB371 := Lib.hid hm; have HB373 := Lib.hid hb; clear hm hb
                                                        obtain ⟨b374, hb, hm⟩ := obind HB373.out
                                                        replace HB373 := Lib.hid hm; have HB375 := Lib.hid hb; clear hm hb
                                                        cases b231
                                                        · replace HB375 := Lib.hid (ifF Bool.false_ne_true HB375.out)
                                                          obtain rfl := Option.some.inj HB375.out
                                                          replace HB373 := Lib.hid (ifF (by first | exact Bool.false_ne_true | exact not_false) HB373.out)
                                                          obtain rfl := Option.some.inj HB373.out
                                                          replace HB371 := Lib.hid (ifF (by first | exact Bool.false_ne_true | exact not_false) HB371.out)
                                                          obtain rfl := Option.some.inj HB371.out
                                                          obtain rfl := Option.some.inj HM.out
                                                          go_wp2_with fail
                                                          go_ret
                                                          exact ⟨rfl, HD.out⟩
                                                        · replace HB375 := Lib.hid (ifT rfl HB375.out)
                                                          cases b317
                                                          · replace HB375 := Lib.hid (ifF Bool.false_ne_true HB375.out)
                                                            obtain rfl := Option.some.inj HB375.out
                                                            replace HB373 := Lib.hid (ifF (by first | exact Bool.false_ne_true | exact not_false) HB373.out)
                                                            obtain rfl := Option.some.inj HB373.out
                                                            replace HB371 := Lib.hid (ifF (by first | exact Bool.false_ne_true | exact not_false) HB371.out)
                                                            obtain rfl := Option.some.inj HB371.out
                                                            obtain rfl := Option.some.inj HM.out
                                                            go_wp2_with fail
                                                            go_ret
                                                            exact ⟨rfl, HD.out⟩
                                                          · replace HB375 := Lib.hid (ifT rfl HB375.out)
                                                            obtain rfl := Option.some.inj HB375.out
                                                            replace HB373 := Lib.hid (ifT (by first | rfl | trivial) HB373.out)
                                                            obtain ⟨y378, hy376, hm⟩ := obind HB373.out
                                                            replace HB373 := Lib.hid hm; clear hm
                                                            have HC377 := mErr_ok W367 (HTC.out.go HD.out)  hy376
                                                            clear hy376
                                                            replace HC377 := Lib.hid HC377
                                                            go_wp2_with fail
                                                            refine HC377.out.mono ?_; rintro e W379 ⟨rfl, hd⟩
                                                            replace HOA := Lib.hid (HOA.out.below hd)
                                                            replace HD := Lib.hid (HD.out.trans (hd.mono HD.out.size))
                                                            clear hd
                                                            cases y378
                                                            · replace HB373 := Lib.hid (ifF Bool.false_ne_true HB373.out)
                                                              obtain rfl := Option.some.inj HB373.out
                                                              replace HB371 := Lib.hid (ifF (by first | exact Bool.false_ne_true | exact not_false) HB371.out)
                                                              obtain rfl := Option.some.inj HB371.out
                                                              obtain rfl := Option.some.inj HM.out
                                                              go_wp2_with fail
                                                              go_ret
                                                              exact ⟨rfl, HD.out⟩
                                                            · replace HB373 := Lib.hid (ifT rfl HB373.out)
                                                              obtain rfl := Option.some.inj HB373.out
                                                              replace HB371 := Lib.hid (ifT (by first | rfl | trivial) HB371.out)
                                                              obtain ⟨y382, hy380, hm⟩ := obind HB371.out
                                                              replace HB371 := Lib.hid hm; clear hm
                                                              obtain ⟨A383, cap384, he, _⟩ := HP.open_I HOA.out (List.Mem.head _)
                                                              subst he
                                                              obtain ⟨A385, cap386, he, _⟩ := HP.open_I HOA.out (List.Mem.tail _ (List.Mem.tail _ (List.Mem.head _)))
                                                              subst he
                                                              have HC381 := SE_Ints_ok W379 cap384 (HP.rd_I HOA.out (List.Mem.head _)) cap386 (HP.rd_I HOA.out (List.Mem.tail _ (List.Mem.tail _ (List.Mem.head _)))) hy380
                                                              clear hy380
                                                              replace HC381 := Lib.hid HC381
                                                              go_wp2_with fail
                                                              refine HC381.out.mono ?_; rintro e W387 ⟨rfl, hd⟩
                                                              replace HOA := Lib.hid (HOA.out.below (hd.below _))
                                                              replace HD := Lib.hid (HD.out.trans ((hd.below _).mono HD.out.size))
                                                              clear hd
                                                              cases y382
                                                              · replace HB371 := Lib.hid (ifF Bool.false_ne_true HB371.out)
                                                                obtain rfl := Option.some.inj HB371.out
                                                                obtain rfl := Option.some.inj HM.out
                                                                go_wp2_with fail
                                                                go_ret
                                                                exact ⟨rfl, HD.out⟩
                                                              · replace HB371 := Lib.hid (ifT rfl HB371.out)
                                                                obtain rfl := Option.some.inj HB371.out
                                                                obtain rfl := Option.some.inj HM.out
                                                                go_wp2_with fail
                                                                go_ret
                                                                exact ⟨rfl, HD.out⟩
end Go.Proofs.YtfokhmkimckdnaaDoor
