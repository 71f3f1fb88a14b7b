import Derived.Test.YtcbalejnkhnppaaDoorHa
import Derived.Test.YtcbalejnkhnppaaDoorGR
import Derived.Test.YtcbalejnkhnppaaDoorSlc
import Derived.Test.YtcbalejnkhnppaaDoorCh
import Derived.Test.YtcbalejnkhnppaaDoorCh2
import Derived.Test.YtcbalejnkhnppaaDoorBox
import Derived.Test.YtcbalejnkhnppaaDoorErr
set_option linter.all false
set_option maxRecDepth 100000
namespace Go.Proofs.YtcbalejnkhnppaaDoor
open Go.RowKit
attribute [local go_sem] Oper.semAt_some
def L3_ChordalSays_L1 (F : Nat) (v0 : Int) (v3 : Int) : Nat → (List Int) → (Int) → Option (List Int × Int)
  | 0, _, _ => none
  | g+1, v6, v7 => (if v7 < v0 then if (v3 == 0) = true then some true else some false else some false).bind fun b2 => if b2 = true then (app v6 v7).bind fun y3 => L3_ChordalSays_L1 F v0 v3 g (y3) ((wrap64 (v7 + 1))) else some (v6, v7)
theorem L3_ChordalSays_L1_0 (F : Nat) (v0 : Int) (v3 : Int) (v6 : List Int) (v7 : Int) : L3_ChordalSays_L1 F v0 v3 0 v6 v7 = none := by rw [L3_ChordalSays_L1]
theorem L3_ChordalSays_L1_s (F g : Nat) (v0 : Int) (v3 : Int) (v6 : List Int) (v7 : Int) : L3_ChordalSays_L1 F v0 v3 (g+1) v6 v7 = ((if v7 < v0 then if (v3 == 0) = true then some true else some false else some false).bind fun b2 => if b2 = true then (app v6 v7).bind fun y3 => L3_ChordalSays_L1 F v0 v3 g (y3) ((wrap64 (v7 + 1))) else some (v6, v7)) := by rw [L3_ChordalSays_L1]
def L3_ChordalSays_L2 (F : Nat) (v0 : Int) (v1 : List (Int × Int)) (v3 : Int) (v6 : List Int) : Nat → (List Int) → (Int) → Option (List Int × Int)
  | 0, _, _ => none
  | g+1, v4, v8 => (if v8 < v0 then if (v3 == 0) = true then some true else some false else some false).bind fun b5 => if b5 = true then ((R3_Simple F (v0) (v1) (v8) (v6)).bind fun y6 => if y6 = true then (app v4 v8).bind fun y7 => L3_ChordalSays_L2 F v0 v1 v3 v6 g (y7) ((wrap64 (v8 + 1))) else L3_ChordalSays_L2 F v0 v1 v3 v6 g (v4) ((wrap64 (v8 + 1)))) else some (v4, v8)
theorem L3_ChordalSays_L2_0 (F : Nat) (v0 : Int) (v1 : List (Int × Int)) (v3 : Int) (v6 : List Int) (v4 : List Int) (v8 : Int) : L3_ChordalSays_L2 F v0 v1 v3 v6 0 v4 v8 = none := by rw [L3_ChordalSays_L2]
theorem L3_ChordalSays_L2_s (F g : Nat) (v0 : Int) (v1 : List (Int × Int)) (v3 : Int) (v6 : List Int) (v4 : List Int) (v8 : Int) : L3_ChordalSays_L2 F v0 v1 v3 v6 (g+1) v4 v8 = ((if v8 < v0 then if (v3 == 0) = true then some true else some false else some false).bind fun b5 => if b5 = true then ((R3_Simple F (v0) (v1) (v8) (v6)).bind fun y6 => if y6 = true then (app v4 v8).bind fun y7 => L3_ChordalSays_L2 F v0 v1 v3 v6 g (y7) ((wrap64 (v8 + 1))) else L3_ChordalSays_L2 F v0 v1 v3 v6 g (v4) ((wrap64 (v8 + 1)))) else some (v4, v8)) := by rw [L3_ChordalSays_L2]
def L3_ChordalSays (F : Nat) (v0 : Int) (v1 : List (Int × Int)) : Option (Bool) := (R1_Lines F (v0) (v1)).bind fun y1 => (L3_ChordalSays_L1 F (v0) (y1) F ([]) (0)).bind fun o4 => (L3_ChordalSays_L2 F (v0) (v1) (y1) (o4.1) F ([]) (0)).bind fun o8 => (chordal_Simple F (v0) (v1)).bind fun y9 => ((mErr (y9.2) (y1)).bind fun y11 => if y11 = true then (SE_Ints F (y9.1) (o8.1)).bind fun y12 => if y12 = true then some true else some false else some false).bind fun b10 => ((if (y1 == 0) = true then some true else some false).bind fun b14 => if b14 = true then (R3_Peel F (v0) (v1)).bind fun y15 => (if y15.2 = true then some (y1, y15.1) else some (5, y15.1)) else some (y1, [])).bind fun o13 => (chordal_Peel F (v0) (v1)).bind fun y16 => ((if b10 = true then (mErr (y16.2) (o13.1)).bind fun y19 => if y19 = true then some true else some false else some false).bind fun b18 => if b18 = true then (SE_Ints F (y16.1) (o13.2)).bind fun y20 => if y20 = true then some true else some false else some false).bind fun b17 => some (b17)
set_option maxRecDepth 100000 in
set_option maxHeartbeats 4000000 in
theorem L3_ChordalSays_ok {F : Nat} {v0 : Int} {v1 : List (Int × Int)} {A1 : Option Addr} {r : Bool} (w : World) (htc : TyCell w) (cap1 : Nat) (hr1 : ReadsL w w.heap.size A1 v1) (h : L3_ChordalSays F v0 v1 = some r) :
    Calls Tryd.prog 4 #[.int .i64 v0, .slice A1 v1.length cap1] w fun e w' => e = .returned (.bool r) ∧ Below w.heap.size w w' := by
  have HTC := Lib.hid htc; clear htc
  have HR1 := Lib.hid hr1; clear hr1
  have HD := Lib.hid (Below.refl w.heap.size w)
  have HOA := Lib.hid (HP.nil (W := w) (B := w.heap.size))
  unfold L3_ChordalSays at h
  have HM := Lib.hid h; clear h
  go_enter Tryd.func4, Tryd.ntmps4
  obtain ⟨y3, hy1, hm⟩ := obind HM.out
  replace HM := Lib.hid hm; clear hm
  have HC2 := R1_Lines_ok w cap1 (rdL HD.out HR1.out) hy1
  clear hy1
  replace HC2 := Lib.hid HC2
  go_wp2_with fail
  refine HC2.out.mono ?_; rintro e W4 ⟨rfl, hd⟩
  replace HOA := Lib.hid (HOA.out.below (hd.below _))
  replace HD := Lib.hid (HD.out.trans ((hd.below _).mono HD.out.size))
  clear hd
  replace HOA := Lib.hid (show HP _ _ (.fl (owI (.slice none 0 0) ([])) :: _) from HOA.out.pushNil _ _)
  replace HOA := Lib.hid (show HP _ _ (.fl (owI (.slice none 0 0) ([])) :: _) from HOA.out.pushNil _ _)
  replace HOA := Lib.hid (show HP _ _ (.fl (owI (.slice none 0 0) ([])) :: _) from HOA.out.pushNil _ _)
  go_wp2_with fail
  obtain ⟨o8, ho, hm⟩ := obind HM.out
  replace HM := Lib.hid hm; have HL1 := Lib.hid ho; clear hm ho
  go_loopg [8, 9] F (fun gg ux11 ux12 wr => ∃ (x9 : List Int) (x10 : Int) (V13 : Value), V13 = ux11 ∧ ux12 = .int .i64 x10 ∧ Hid (Below w.heap.size w wr) ∧ Hid (HP wr w.heap.size [.fl (owI V13 (x9)), .fl (owI (.slice none 0 0) ([])), .fl (owI (.slice none 0 0) ([]))]) ∧ Hid (L3_ChordalSays_L1 F (v0) (y3) gg x9 x10 = some o8))
  case atStart => exact ⟨[], 0, (.slice none 0 0), rfl, rfl, HD, HOA, HL1⟩
  case round =>
    obtain ⟨x9, x10, V13, rfl, rfl, HD, HOA, HL1⟩ := hrel
    rename World => W14
    cases gk with
    | zero => exact absurd ((L3_ChordalSays_L1_0 ..).symm.trans HL1.out) (by intro h; cases h)
    | succ g1 =>
      replace HL1 := Lib.hid ((L3_ChordalSays_L1_s ..).symm.trans HL1.out)
      obtain ⟨b15, hb, hm⟩ := obind HL1.out
      replace HL1 := Lib.hid hm; have HB16 := Lib.hid hb; clear hm hb
      by_cases hc17 : x10 < v0
      · replace HB16 := Lib.hid (ifT hc17 HB16.out)
        have HK18 := Lib.hid hc17
        rcases Bool.eq_false_or_eq_true (y3 == 0) with hc19 | hc19
        · replace HB16 := Lib.hid (ifT hc19 HB16.out)
          have HK20 := Lib.hid hc19
          obtain rfl := Option.some.inj HB16.out
          replace HL1 := Lib.hid (ifT (by first | rfl | trivial) HL1.out)
          obtain ⟨y21, hy22, hm⟩ := obind HL1.out
          replace HL1 := Lib.hid hm; clear hm
          obtain ⟨f23, hy22⟩ := app_some hy22; subst hy22
          have HF26 := Lib.hid f23; clear f23
          go_upto_region 5 with (at_builtin; refine hp_appI _ (.tmp 28) (.tmp 30) 24 Tryd.underlying24 rfl rfl (L1 := []) HOA.out rfl rfl HF26.out HD.out.size ?_; intro V24 W25 hoa hd)
          try clear hc17 hc19
          replace HOA := Lib.hid (show HP W25 w.heap.size [.fl (owI V24 ((x9 ++ [x10]))), .fl (owI (.slice none 0 0) ([])), .fl (owI (.slice none 0 0) ([]))] from hoa); clear hoa
          replace HD := Lib.hid (HD.out.trans hd); clear hd
          go_wp2_with fail
          go_roundg g1
          case measure => omega
          case rel => exact ⟨(x9 ++ [x10]), (wrap64 (x10 + 1)), V24, rfl, rfl, HD, HOA, HL1⟩
        · replace HB16 := Lib.hid (ifF (bF hc19) HB16.out)
          have HK20 := Lib.hid hc19
          obtain rfl := Option.some.inj HB16.out
          replace HL1 := Lib.hid (ifF (by first | exact Bool.false_ne_true | exact not_false) HL1.out)
          obtain rfl := Option.some.inj HL1.out
          have hm := HM.out; try dsimp only at hm
          replace HM := Lib.hid hm; clear hm
          go_wp2_with fail
          try clear hc17 hc19
          obtain ⟨o27, ho, hm⟩ := obind HM.out
          replace HM := Lib.hid hm; have HL2 := Lib.hid ho; clear hm ho
          go_loopg [6, 10] F (fun gg ux30 ux31 wr => ∃ (x28 : List Int) (x29 : Int) (V32 : Value), V32 = ux30 ∧ ux31 = .int .i64 x29 ∧ Hid (Below w.heap.size w wr) ∧ Hid (HP wr w.heap.size [.fl (owI V13 (x9)), .fl (owI (.slice none 0 0) ([])), .fl (owI V32 (x28))]) ∧ Hid (L3_ChordalSays_L2 F (v0) (v1) (y3) (x9) gg x28 x29 = some o27))
          case atStart => exact ⟨[], 0, (.slice none 0 0), rfl, rfl, HD, HOA, HL2⟩
          case round =>
            obtain ⟨x28, x29, V32, rfl, rfl, HD, HOA, HL2⟩ := hrel
            rename World => W33
            cases gk with
            | zero => exact absurd ((L3_ChordalSays_L2_0 ..).symm.trans HL2.out) (by intro h; cases h)
            | succ g2 =>
              replace HL2 := Lib.hid ((L3_ChordalSays_L2_s ..).symm.trans HL2.out)
              obtain ⟨b34, hb, hm⟩ := obind HL2.out
              replace HL2 := Lib.hid hm; have HB35 := Lib.hid hb; clear hm hb
              by_cases hc36 : x29 < v0
              · replace HB35 := Lib.hid (ifT hc36 HB35.out)
                have HK37 := Lib.hid hc36
                have hc38 := HK20.out
                replace HB35 := Lib.hid (ifF (bF hc38) HB35.out)
                obtain rfl := Option.some.inj HB35.out
                replace HL2 := Lib.hid (ifF (by first | exact Bool.false_ne_true | exact not_false) HL2.out)
                obtain rfl := Option.some.inj HL2.out
                have hm := HM.out; try dsimp only at hm
                replace HM := Lib.hid hm; clear hm
                obtain ⟨⟨y41, y42⟩, hy39, hm⟩ := obind HM.out
                dsimp only at hm
                replace HM := Lib.hid hm; clear hm
                have HC40 := chordal_Simple_ok W33 cap1 (rdL HD.out HR1.out) hy39
                clear hy39
                replace HC40 := Lib.hid HC40
                go_wp2_with fail
                refine HC40.out.mono ?_; rintro e W43 ⟨V44, rfl, ho, hd⟩
                try clear hc36 hc38
                replace HOA := Lib.hid (HOA.out.call hd HD.out.size ho); clear ho
                replace HD := Lib.hid (HD.out.trans (hd.mono HD.out.size))
                clear hd
                go_upto_region 13 with (fail)
                obtain ⟨b46, hb, hm⟩ := obind HM.out
                replace HM := Lib.hid hm; have HB47 := Lib.hid hb; clear hm hb
                go_cut [13] (fun uq wr => uq = .bool b46 ∧ Hid (Below W43.heap.size W43 wr))
                case first =>
                  have HWC48 := Lib.hid (Below.refl W43.heap.size W43)
                  obtain ⟨y51, hy49, hm⟩ := obind HB47.out
                  replace HB47 := Lib.hid hm; clear hm
                  have HC50 := mErr_ok W43 (HTC.out.go HD.out)  hy49
                  clear hy49
                  replace HC50 := Lib.hid HC50
                  go_wp2_with fail
                  refine HC50.out.mono ?_; rintro e W52 ⟨rfl, hd⟩
                  replace HOA := Lib.hid (HOA.out.below hd)
                  replace HD := Lib.hid (HD.out.trans (hd.mono HD.out.size))
                  replace HWC48 := Lib.hid (HWC48.out.trans (hd.mono HWC48.out.size))
                  clear hd
                  cases y51
                  · replace HB47 := Lib.hid (ifF Bool.false_ne_true HB47.out)
                    cases Option.some.inj HB47.out
                    try go_wp2_with fail
                    go_meet
                    case rel => exact ⟨rfl, HWC48⟩
                  · replace HB47 := Lib.hid (ifT rfl HB47.out)
                    obtain ⟨y55, hy53, hm⟩ := obind HB47.out
                    replace HB47 := Lib.hid hm; clear hm
                    obtain ⟨A56, cap57, he, _⟩ := HP.open_I HOA.out (List.Mem.head _)
                    subst he
                    obtain ⟨A58, cap59, he, _⟩ := HP.open_I HOA.out (List.Mem.tail _ (List.Mem.tail _ (List.Mem.tail _ (List.Mem.head _))))
                    subst he
                    have HC54 := SE_Ints_ok W52 cap57 (HP.rd_I HOA.out (List.Mem.head _)) cap59 (HP.rd_I HOA.out (List.Mem.tail _ (List.Mem.tail _ (List.Mem.tail _ (List.Mem.head _))))) hy53
                    clear hy53
                    replace HC54 := Lib.hid HC54
                    go_wp2_with fail
                    refine HC54.out.mono ?_; rintro e W60 ⟨rfl, hd⟩
                    replace HOA := Lib.hid (HOA.out.below (hd.below _))
                    replace HD := Lib.hid (HD.out.trans ((hd.below _).mono HD.out.size))
                    replace HWC48 := Lib.hid (HWC48.out.trans ((hd.below _).mono HWC48.out.size))
                    clear hd
                    cases y55
                    · replace HB47 := Lib.hid (ifF Bool.false_ne_true HB47.out)
                      cases Option.some.inj HB47.out
                      try go_wp2_with fail
                      go_meet
                      case rel => exact ⟨rfl, HWC48⟩
                    · replace HB47 := Lib.hid (ifT rfl HB47.out)
                      cases Option.some.inj HB47.out
                      try go_wp2_with fail
                      go_meet
                      case rel => exact ⟨rfl, HWC48⟩
                case rest =>
                  obtain ⟨rfl, HWC48⟩ := hcut
                  rename World => W61
                  have hd := HWC48.out
                  replace HOA := Lib.hid (HOA.out.below hd)
                  replace HD := Lib.hid (HD.out.trans (hd.mono HD.out.size))
                  clear hd
                  go_upto_region 14 with (fail)
                  obtain ⟨⟨x62, x63⟩, ho, hm⟩ := obind HM.out
                  try simp only [] at hm
                  replace HM := Lib.hid hm; have HJ64 := Lib.hid ho; clear hm ho
                  obtain ⟨b65, hb, hm⟩ := obind HJ64.out
                  replace HJ64 := Lib.hid hm; have HB66 := Lib.hid hb; clear hm hb
                  go_cut [65] (fun uq wr => uq = .bool b65 ∧ Hid (Below W61.heap.size W61 wr))
                  case first =>
                    have HWC67 := Lib.hid (Below.refl W61.heap.size W61)
                    have hc68 := HK20.out
                    replace HB66 := Lib.hid (ifF (bF hc68) HB66.out)
                    cases Option.some.inj HB66.out
                    try go_wp2_with fail
                    go_meet
                    case rel => exact ⟨rfl, HWC67⟩
                  case rest =>
                    obtain ⟨rfl, HWC67⟩ := hcut
                    rename World => W69
                    have hd := HWC67.out
                    replace HOA := Lib.hid (HOA.out.below hd)
                    replace HD := Lib.hid (HD.out.trans (hd.mono HD.out.size))
                    clear hd
                    go_upto_if 65 with (fail)
                    go_cut [5, 7] (fun q71 q72 wr => ∃ (V70 : Value), q71 = .int .i64 x62 ∧ V70 = q72 ∧ Hid (Below w.heap.size w wr) ∧ Hid (HP wr w.heap.size [.fl (owI V44 (y41)), .fl (owI V13 (x9)), .fl (owI V70 (x63)), .fl (owI V32 (x28))]) ∧ Hid (Below W69.heap.size W69 wr))
                    case first =>
                      have HWC73 := Lib.hid (Below.refl W69.heap.size W69)
                      cases b65
                      · replace HJ64 := Lib.hid (ifF Bool.false_ne_true HJ64.out)
                        try go_wp2_with fail
                        cases Option.some.inj HJ64.out
                        go_meet
                        case rel => exact ⟨(.slice none 0 0), rfl, rfl, HD, HOA, HWC73⟩
                      · replace HJ64 := Lib.hid (ifT rfl HJ64.out)
                        obtain ⟨⟨y76, y77⟩, hy74, hm⟩ := obind HJ64.out
                        dsimp only at hm
                        replace HJ64 := Lib.hid hm; clear hm
                        have HC75 := R3_Peel_ok W69 cap1 (rdL HD.out HR1.out) hy74
                        clear hy74
                        replace HC75 := Lib.hid HC75
                        go_wp2_with fail
                        refine HC75.out.mono ?_; rintro e W78 ⟨V79, rfl, ho, hd⟩
                        replace HOA := Lib.hid (HOA.out.call hd HD.out.size ho); clear ho
                        replace HD := Lib.hid (HD.out.trans (hd.mono HD.out.size))
                        replace HWC73 := Lib.hid (HWC73.out.trans (hd.mono HWC73.out.size))
                        clear hd
                        cases y77
                        · replace HJ64 := Lib.hid (ifF Bool.false_ne_true HJ64.out)
                          try go_wp2_with fail
                          replace HOA := Lib.hid (HOA.out.sub (.cons₂ _ (.cons₂ _ (.cons₂ _ (.cons _ (.cons₂ _ .slnil))))))
                          replace HOA := Lib.hid (HP.mv (its1 := [_, _, _]) HOA.out)
                          replace HOA := Lib.hid (HP.mv (its1 := [_]) HOA.out)
                          replace HOA := Lib.hid (HP.mv (its1 := [_, _, _]) HOA.out)
                          replace HOA := Lib.hid (HP.mv (its1 := [_, _, _]) HOA.out)
                          replace HOA := Lib.hid (show HP _ _ [.fl (owI V44 (y41)), .fl (owI V13 (x9)), .fl (owI V79 (y76)), .fl (owI V32 (x28))] from HOA.out)
                          cases Option.some.inj HJ64.out
                          go_meet
                          case rel => exact ⟨V79, rfl, rfl, HD, HOA, HWC73⟩
                        · replace HJ64 := Lib.hid (ifT rfl HJ64.out)
                          try go_wp2_with fail
                          replace HOA := Lib.hid (HOA.out.sub (.cons₂ _ (.cons₂ _ (.cons₂ _ (.cons _ (.cons₂ _ .slnil))))))
                          replace HOA := Lib.hid (HP.mv (its1 := [_, _, _]) HOA.out)
                          replace HOA := Lib.hid (HP.mv (its1 := [_]) HOA.out)
                          replace HOA := Lib.hid (HP.mv (its1 := [_, _, _]) HOA.out)
                          replace HOA := Lib.hid (HP.mv (its1 := [_, _, _]) HOA.out)
                          replace HOA := Lib.hid (show HP _ _ [.fl (owI V44 (y41)), .fl (owI V13 (x9)), .fl (owI V79 (y76)), .fl (owI V32 (x28))] from HOA.out)
                          cases Option.some.inj HJ64.out
                          go_meet
                          case rel => exact ⟨V79, rfl, rfl, HD, HOA, HWC73⟩
                    case rest =>
                      obtain ⟨V70, rfl, rfl, HD, HOA, HWC73⟩ := hcut
                      rename World => W81
                      have hd := HWC73.out
                      clear hd
                      obtain ⟨⟨y84, y85⟩, hy82, hm⟩ := obind HM.out
                      dsimp only at hm
                      replace HM := Lib.hid hm; clear hm
                      have HC83 := chordal_Peel_ok W81 cap1 (rdL HD.out HR1.out) hy82
                      clear hy82
                      replace HC83 := Lib.hid HC83
                      go_wp2_with fail
                      refine HC83.out.mono ?_; rintro e W86 ⟨V87, rfl, ho, hd⟩
                      replace HOA := Lib.hid (HOA.out.call hd HD.out.size ho); clear ho
                      replace HD := Lib.hid (HD.out.trans (hd.mono HD.out.size))
                      clear hd
                      obtain ⟨b89, hb, hm⟩ := obind HM.out
                      replace HM := Lib.hid hm; have HB90 := Lib.hid hb; clear hm hb
                      obtain ⟨b91, hb, hm⟩ := obind HB90.out
                      replace HB90 := Lib.hid hm; have HB92 := Lib.hid hb; clear hm hb
                      cases b46
                      · replace HB92 := Lib.hid (ifF Bool.false_ne_true HB92.out)
                        obtain rfl := Option.some.inj HB92.out
                        replace HB90 := Lib.hid (ifF (by first | exact Bool.false_ne_true | exact not_false) HB90.out)
                        obtain rfl := Option.some.inj HB90.out
                        obtain rfl := Option.some.inj HM.out
                        go_wp2_with fail
                        go_ret
                        exact ⟨rfl, HD.out⟩
                      · replace HB92 := Lib.hid (ifT rfl HB92.out)
                        obtain ⟨y95, hy93, hm⟩ := obind HB92.out
                        replace HB92 := Lib.hid hm; clear hm
                        have HC94 := mErr_ok W86 (HTC.out.go HD.out)  hy93
                        clear hy93
                        replace HC94 := Lib.hid HC94
                        go_wp2_with fail
                        refine HC94.out.mono ?_; rintro e W96 ⟨rfl, hd⟩
                        replace HOA := Lib.hid (HOA.out.below hd)
                        replace HD := Lib.hid (HD.out.trans (hd.mono HD.out.size))
                        clear hd
                        cases y95
                        · replace HB92 := Lib.hid (ifF Bool.false_ne_true HB92.out)
                          obtain rfl := Option.some.inj HB92.out
                          replace HB90 := Lib.hid (ifF (by first | exact Bool.false_ne_true | exact not_false) HB90.out)
                          obtain rfl := Option.some.inj HB90.out
                          obtain rfl := Option.some.inj HM.out
                          go_wp2_with fail
                          go_ret
                          exact ⟨rfl, HD.out⟩
                        · replace HB92 := Lib.hid (ifT rfl HB92.out)
                          obtain rfl := Option.some.inj HB92.out
                          replace HB90 := Lib.hid (ifT (by first | rfl | trivial) HB90.out)
                          obtain ⟨y99, hy97, hm⟩ := obind HB90.out
                          replace HB90 := Lib.hid hm; clear hm
                          obtain ⟨A100, cap101, he, _⟩ := HP.open_I HOA.out (List.Mem.head _)
                          subst he
                          obtain ⟨A102, cap103, he, _⟩ := HP.open_I HOA.out (List.Mem.tail _ (List.Mem.tail _ (List.Mem.tail _ (List.Mem.head _))))
                          subst he
                          have HC98 := SE_Ints_ok W96 cap101 (HP.rd_I HOA.out (List.Mem.head _)) cap103 (HP.rd_I HOA.out (List.Mem.tail _ (List.Mem.tail _ (List.Mem.tail _ (List.Mem.head _))))) hy97
                          clear hy97
                          replace HC98 := Lib.hid HC98
                          go_wp2_with fail
                          refine HC98.out.mono ?_; rintro e W104 ⟨rfl, hd⟩
                          replace HOA := Lib.hid (HOA.out.below (hd.below _))
                          replace HD := Lib.hid (HD.out.trans ((hd.below _).mono HD.out.size))
                          clear hd
                          cases y99
                          · replace HB90 := Lib.hid (ifF Bool.false_ne_true HB90.out)
                            obtain rfl := Option.some.inj HB90.out
                            obtain rfl := Option.some.inj HM.out
                            go_wp2_with fail
                            go_ret
                            exact ⟨rfl, HD.out⟩
                          · replace HB90 := Lib.hid (ifT rfl HB90.out)
                            obtain rfl := Option.some.inj HB90.out
                            obtain rfl := Option.some.inj HM.out
                            go_wp2_with fail
                            go_ret
                            exact ⟨rfl, HD.out⟩
              · replace HB35 := Lib.hid (ifF hc36 HB35.out)
                have hc36d := decide_eq_false hc36
                have HK37 := Lib.hid hc36
                obtain rfl := Option.some.inj HB35.out
                replace HL2 := Lib.hid (ifF (by first | exact Bool.false_ne_true | exact not_false) HL2.out)
                obtain rfl := Option.some.inj HL2.out
                have hm := HM.out; try dsimp only at hm
                replace HM := Lib.hid hm; clear hm
                obtain ⟨⟨y107, y108⟩, hy105, hm⟩ := obind HM.out
                dsimp only at hm
                replace HM := Lib.hid hm; clear hm
                have HC106 := chordal_Simple_ok W33 cap1 (rdL HD.out HR1.out) hy105
                clear hy105
                replace HC106 := Lib.hid HC106
                go_wp2_with fail
                refine HC106.out.mono ?_; rintro e W109 ⟨V110, rfl, ho, hd⟩
                try clear hc36 hc36d
                replace HOA := Lib.hid (HOA.out.call hd HD.out.size ho); clear ho
                replace HD := Lib.hid (HD.out.trans (hd.mono HD.out.size))
                clear hd
                go_upto_region 13 with (fail)
                obtain ⟨b112, hb, hm⟩ := obind HM.out
                replace HM := Lib.hid hm; have HB113 := Lib.hid hb; clear hm hb
                go_cut [13] (fun uq wr => uq = .bool b112 ∧ Hid (Below W109.heap.size W109 wr))
                case first =>
                  have HWC114 := Lib.hid (Below.refl W109.heap.size W109)
                  obtain ⟨y117, hy115, hm⟩ := obind HB113.out
                  replace HB113 := Lib.hid hm; clear hm
                  have HC116 := mErr_ok W109 (HTC.out.go HD.out)  hy115
                  clear hy115
                  replace HC116 := Lib.hid HC116
                  go_wp2_with fail
                  refine HC116.out.mono ?_; rintro e W118 ⟨rfl, hd⟩
                  replace HOA := Lib.hid (HOA.out.below hd)
                  replace HD := Lib.hid (HD.out.trans (hd.mono HD.out.size))
                  replace HWC114 := Lib.hid (HWC114.out.trans (hd.mono HWC114.out.size))
                  clear hd
                  cases y117
                  · replace HB113 := Lib.hid (ifF Bool.false_ne_true HB113.out)
                    cases Option.some.inj HB113.out
                    try go_wp2_with fail
                    go_meet
                    case rel => exact ⟨rfl, HWC114⟩
                  · replace HB113 := Lib.hid (ifT rfl HB113.out)
                    obtain ⟨y121, hy119, hm⟩ := obind HB113.out
                    replace HB113 := Lib.hid hm; clear hm
                    obtain ⟨A122, cap123, he, _⟩ := HP.open_I HOA.out (List.Mem.head _)
                    subst he
                    obtain ⟨A124, cap125, he, _⟩ := HP.open_I HOA.out (List.Mem.tail _ (List.Mem.tail _ (List.Mem.tail _ (List.Mem.head _))))
                    subst he
                    have HC120 := SE_Ints_ok W118 cap123 (HP.rd_I HOA.out (List.Mem.head _)) cap125 (HP.rd_I HOA.out (List.Mem.tail _ (List.Mem.tail _ (List.Mem.tail _ (List.Mem.head _))))) hy119
                    clear hy119
                    replace HC120 := Lib.hid HC120
                    go_wp2_with fail
                    refine HC120.out.mono ?_; rintro e W126 ⟨rfl, hd⟩
                    replace HOA := Lib.hid (HOA.out.below (hd.below _))
                    replace HD := Lib.hid (HD.out.trans ((hd.below _).mono HD.out.size))
                    replace HWC114 := Lib.hid (HWC114.out.trans ((hd.below _).mono HWC114.out.size))
                    clear hd
                    cases y121
                    · replace HB113 := Lib.hid (ifF Bool.false_ne_true HB113.out)
                      cases Option.some.inj HB113.out
                      try go_wp2_with fail
                      go_meet
                      case rel => exact ⟨rfl, HWC114⟩
                    · replace HB113 := Lib.hid (ifT rfl HB113.out)
                      cases Option.some.inj HB113.out
                      try go_wp2_with fail
                      go_meet
                      case rel => exact ⟨rfl, HWC114⟩
                case rest =>
                  obtain ⟨rfl, HWC114⟩ := hcut
                  rename World => W127
                  have hd := HWC114.out
                  replace HOA := Lib.hid (HOA.out.below hd)
                  replace HD := Lib.hid (HD.out.trans (hd.mono HD.out.size))
                  clear hd
                  go_upto_region 14 with (fail)
                  obtain ⟨⟨x128, x129⟩, ho, hm⟩ := obind HM.out
                  try simp only [] at hm
                  replace HM := Lib.hid hm; have HJ130 := Lib.hid ho; clear hm ho
                  obtain ⟨b131, hb, hm⟩ := obind HJ130.out
                  replace HJ130 := Lib.hid hm; have HB132 := Lib.hid hb; clear hm hb
                  go_cut [65] (fun uq wr => uq = .bool b131 ∧ Hid (Below W127.heap.size W127 wr))
                  case first =>
                    have HWC133 := Lib.hid (Below.refl W127.heap.size W127)
                    have hc134 := HK20.out
                    replace HB132 := Lib.hid (ifF (bF hc134) HB132.out)
                    cases Option.some.inj HB132.out
                    try go_wp2_with fail
                    go_meet
                    case rel => exact ⟨rfl, HWC133⟩
                  case rest =>
                    obtain ⟨rfl, HWC133⟩ := hcut
                    rename World => W135
                    have hd := HWC133.out
                    replace HOA := Lib.hid (HOA.out.below hd)
                    replace HD := Lib.hid (HD.out.trans (hd.mono HD.out.size))
                    clear hd
                    go_upto_if 65 with (fail)
                    go_cut [5, 7] (fun q137 q138 wr => ∃ (V136 : Value), q137 = .int .i64 x128 ∧ V136 = q138 ∧ Hid (Below w.heap.size w wr) ∧ Hid (HP wr w.heap.size [.fl (owI V110 (y107)), .fl (owI V13 (x9)), .fl (owI V136 (x129)), .fl (owI V32 (x28))]) ∧ Hid (Below W135.heap.size W135 wr))
                    case first =>
                      have HWC139 := Lib.hid (Below.refl W135.heap.size W135)
                      cases b131
                      · replace HJ130 := Lib.hid (ifF Bool.false_ne_true HJ130.out)
                        try go_wp2_with fail
                        cases Option.some.inj HJ130.out
                        go_meet
                        case rel => exact ⟨(.slice none 0 0), rfl, rfl, HD, HOA, HWC139⟩
                      · replace HJ130 := Lib.hid (ifT rfl HJ130.out)
                        obtain ⟨⟨y142, y143⟩, hy140, hm⟩ := obind HJ130.out
                        dsimp only at hm
                        replace HJ130 := Lib.hid hm; clear hm
                        have HC141 := R3_Peel_ok W135 cap1 (rdL HD.out HR1.out) hy140
                        clear hy140
                        replace HC141 := Lib.hid HC141
                        go_wp2_with fail
                        refine HC141.out.mono ?_; rintro e W144 ⟨V145, rfl, ho, hd⟩
                        replace HOA := Lib.hid (HOA.out.call hd HD.out.size ho); clear ho
                        replace HD := Lib.hid (HD.out.trans (hd.mono HD.out.size))
                        replace HWC139 := Lib.hid (HWC139.out.trans (hd.mono HWC139.out.size))
                        clear hd
                        cases y143
                        · replace HJ130 := Lib.hid (ifF Bool.false_ne_true HJ130.out)
                          try go_wp2_with fail
                          replace HOA := Lib.hid (HOA.out.sub (.cons₂ _ (.cons₂ _ (.cons₂ _ (.cons _ (.cons₂ _ .slnil))))))
                          replace HOA := Lib.hid (HP.mv (its1 := [_, _, _]) HOA.out)
                          replace HOA := Lib.hid (HP.mv (its1 := [_]) HOA.out)
                          replace HOA := Lib.hid (HP.mv (its1 := [_, _, _]) HOA.out)
                          replace HOA := Lib.hid (HP.mv (its1 := [_, _, _]) HOA.out)
                          replace HOA := Lib.hid (show HP _ _ [.fl (owI V110 (y107)), .fl (owI V13 (x9)), .fl (owI V145 (y142)), .fl (owI V32 (x28))] from HOA.out)
                          cases Option.some.inj HJ130.out
                          go_meet
                          case rel => exact ⟨V145, rfl, rfl, HD, HOA, HWC139⟩
                        · replace HJ130 := Lib.hid (ifT rfl HJ130.out)
                          try go_wp2_with fail
                          replace HOA := Lib.hid (HOA.out.sub (.cons₂ _ (.cons₂ _ (.cons₂ _ (.cons _ (.cons₂ _ .slnil))))))
                          replace HOA := Lib.hid (HP.mv (its1 := [_, _, _]) HOA.out)
                          replace HOA := Lib.hid (HP.mv (its1 := [_]) HOA.out)
                          replace HOA := Lib.hid (HP.mv (its1 := [_, _, _]) HOA.out)
                          replace HOA := Lib.hid (HP.mv (its1 := [_, _, _]) HOA.out)
                          replace HOA := Lib.hid (show HP _ _ [.fl (owI V110 (y107)), .fl (owI V13 (x9)), .fl (owI V145 (y142)), .fl (owI V32 (x28))] from HOA.out)
                          cases Option.some.inj HJ130.out
                          go_meet
                          case rel => exact ⟨V145, rfl, rfl, HD, HOA, HWC139⟩
                    case rest =>
                      obtain ⟨V136, rfl, rfl, HD, HOA, HWC139⟩ := hcut
                      rename World => W147
                      have hd := HWC139.out
                      clear hd
                      obtain ⟨⟨y150, y151⟩, hy148, hm⟩ := obind HM.out
                      dsimp only at hm
                      replace HM := Lib.hid hm; clear hm
                      have HC149 := chordal_Peel_ok W147 cap1 (rdL HD.out HR1.out) hy148
                      clear hy148
                      replace HC149 := Lib.hid HC149
                      go_wp2_with fail
                      refine HC149.out.mono ?_; rintro e W152 ⟨V153, rfl, ho, hd⟩
                      replace HOA := Lib.hid (HOA.out.call hd HD.out.size ho); clear ho
                      replace HD := Lib.hid (HD.out.trans (hd.mono HD.out.size))
                      clear hd
                      obtain ⟨b155, hb, hm⟩ := obind HM.out
                      replace HM := Lib.hid hm; have HB156 := Lib.hid hb; clear hm hb
                      obtain ⟨b157, hb, hm⟩ := obind HB156.out
                      replace HB156 := Lib.hid hm; have HB158 := Lib.hid hb; clear hm hb
                      cases b112
                      · replace HB158 := Lib.hid (ifF Bool.false_ne_true HB158.out)
                        obtain rfl := Option.some.inj HB158.out
                        replace HB156 := Lib.hid (ifF (by first | exact Bool.false_ne_true | exact not_false) HB156.out)
                        obtain rfl := Option.some.inj HB156.out
                        obtain rfl := Option.some.inj HM.out
                        go_wp2_with fail
                        go_ret
                        exact ⟨rfl, HD.out⟩
                      · replace HB158 := Lib.hid (ifT rfl HB158.out)
                        obtain ⟨y161, hy159, hm⟩ := obind HB158.out
                        replace HB158 := Lib.hid hm; clear hm
                        have HC160 := mErr_ok W152 (HTC.out.go HD.out)  hy159
                        clear hy159
                        replace HC160 := Lib.hid HC160
                        go_wp2_with fail
                        refine HC160.out.mono ?_; rintro e W162 ⟨rfl, hd⟩
                        replace HOA := Lib.hid (HOA.out.below hd)
                        replace HD := Lib.hid (HD.out.trans (hd.mono HD.out.size))
                        clear hd
                        cases y161
                        · replace HB158 := Lib.hid (ifF Bool.false_ne_true HB158.out)
                          obtain rfl := Option.some.inj HB158.out
                          replace HB156 := Lib.hid (ifF (by first | exact Bool.false_ne_true | exact not_false) HB156.out)
                          obtain rfl := Option.some.inj HB156.out
                          obtain rfl := Option.some.inj HM.out
                          go_wp2_with fail
                          go_ret
                          exact ⟨rfl, HD.out⟩
                        · replace HB158 := Lib.hid (ifT rfl HB158.out)
                          obtain rfl := Option.some.inj HB158.out
                          replace HB156 := Lib.hid (ifT (by first | rfl | trivial) HB156.out)
                          obtain ⟨y165, hy163, hm⟩ := obind HB156.out
                          replace HB156 := Lib.hid hm; clear hm
                          obtain ⟨A166, cap167, he, _⟩ := HP.open_I HOA.out (List.Mem.head _)
                          subst he
                          obtain ⟨A168, cap169, he, _⟩ := HP.open_I HOA.out (List.Mem.tail _ (List.Mem.tail _ (List.Mem.tail _ (List.Mem.head _))))
                          subst he
                          have HC164 := SE_Ints_ok W162 cap167 (HP.rd_I HOA.out (List.Mem.head _)) cap169 (HP.rd_I HOA.out (List.Mem.tail _ (List.Mem.tail _ (List.Mem.tail _ (List.Mem.head _))))) hy163
                          clear hy163
                          replace HC164 := Lib.hid HC164
                          go_wp2_with fail
                          refine HC164.out.mono ?_; rintro e W170 ⟨rfl, hd⟩
                          replace HOA := Lib.hid (HOA.out.below (hd.below _))
                          replace HD := Lib.hid (HD.out.trans ((hd.below _).mono HD.out.size))
                          clear hd
                          cases y165
                          · replace HB156 := Lib.hid (ifF Bool.false_ne_true HB156.out)
                            obtain rfl := Option.some.inj HB156.out
                            obtain rfl := Option.some.inj HM.out
                            go_wp2_with fail
                            go_ret
                            exact ⟨rfl, HD.out⟩
                          · replace HB156 := Lib.hid (ifT rfl HB156.out)
                            obtain rfl := Option.some.inj HB156.out
                            obtain rfl := Option.some.inj HM.out
                            go_wp2_with fail
                            go_ret
                            exact ⟨rfl, HD.out⟩
      · replace HB16 := Lib.hid (ifF hc17 HB16.out)
        have hc17d := decide_eq_false hc17
        have HK18 := Lib.hid hc17
        obtain rfl := Option.some.inj HB16.out
        replace HL1 := Lib.hid (ifF (by first | exact Bool.false_ne_true | exact not_false) HL1.out)
        obtain rfl := Option.some.inj HL1.out
        have hm := HM.out; try dsimp only at hm
        replace HM := Lib.hid hm; clear hm
        go_wp2_with fail
        try clear hc17 hc17d
        obtain ⟨o171, ho, hm⟩ := obind HM.out
        replace HM := Lib.hid hm; have HL2 := Lib.hid ho; clear hm ho
        go_loopg [6, 10] F (fun gg ux174 ux175 wr => ∃ (x172 : List Int) (x173 : Int) (V176 : Value), V176 = ux174 ∧ ux175 = .int .i64 x173 ∧ Hid (Below w.heap.size w wr) ∧ Hid (HP wr w.heap.size [.fl (owI V13 (x9)), .fl (owI (.slice none 0 0) ([])), .fl (owI V176 (x172))]) ∧ Hid (L3_ChordalSays_L2 F (v0) (v1) (y3) (x9) gg x172 x173 = some o171))
        case atStart => exact ⟨[], 0, (.slice none 0 0), rfl, rfl, HD, HOA, HL2⟩
        case round =>
          obtain ⟨x172, x173, V176, rfl, rfl, HD, HOA, HL2⟩ := hrel
          rename World => W177
          cases gk with
          | zero => exact absurd ((L3_ChordalSays_L2_0 ..).symm.trans HL2.out) (by intro h; cases h)
          | succ g2 =>
            replace HL2 := Lib.hid ((L3_ChordalSays_L2_s ..).symm.trans HL2.out)
            obtain ⟨b178, hb, hm⟩ := obind HL2.out
            replace HL2 := Lib.hid hm; have HB179 := Lib.hid hb; clear hm hb
            by_cases hc180 : x173 < v0
            · replace HB179 := Lib.hid (ifT hc180 HB179.out)
              have HK181 := Lib.hid hc180
              rcases Bool.eq_false_or_eq_true (y3 == 0) with hc182 | hc182
              · replace HB179 := Lib.hid (ifT hc182 HB179.out)
                have HK183 := Lib.hid hc182
                obtain rfl := Option.some.inj HB179.out
                replace HL2 := Lib.hid (ifT (by first | rfl | trivial) HL2.out)
                obtain ⟨y186, hy184, hm⟩ := obind HL2.out
                replace HL2 := Lib.hid hm; clear hm
                obtain ⟨A187, cap188, he, _⟩ := HP.open_I HOA.out (List.Mem.head _)
                subst he
                have HC185 := R3_Simple_ok W177 cap1 (rdL HD.out HR1.out) cap188 (HP.rd_I HOA.out (List.Mem.head _)) hy184
                clear hy184
                replace HC185 := Lib.hid HC185
                go_wp2_with fail
                refine HC185.out.mono ?_; rintro e W189 ⟨rfl, hd⟩
                try clear hc180 hc182
                replace HOA := Lib.hid (HOA.out.below (hd.below _))
                replace HD := Lib.hid (HD.out.trans ((hd.below _).mono HD.out.size))
                clear hd
                cases y186
                · replace HL2 := Lib.hid (ifF Bool.false_ne_true HL2.out)
                  go_wp2_with fail
                  go_roundg g2
                  case measure => omega
                  case rel => exact ⟨x172, (wrap64 (x173 + 1)), V176, rfl, rfl, HD, HOA, HL2⟩
                · replace HL2 := Lib.hid (ifT rfl HL2.out)
                  obtain ⟨y190, hy191, hm⟩ := obind HL2.out
                  replace HL2 := Lib.hid hm; clear hm
                  obtain ⟨f192, hy191⟩ := app_some hy191; subst hy191
                  have HF195 := Lib.hid f192; clear f192
                  go_upto_region 9 with (at_builtin; refine hp_appI _ (.tmp 46) (.tmp 48) 24 Tryd.underlying24 rfl rfl (L1 := [_, _]) HOA.out rfl rfl HF195.out HD.out.size ?_; intro V193 W194 hoa hd)
                  replace HOA := Lib.hid (show HP W194 w.heap.size [.fl (owI (.slice A187 (x9).length cap188) (x9)), .fl (owI (.slice none 0 0) ([])), .fl (owI V193 ((x172 ++ [x173])))] from hoa); clear hoa
                  replace HD := Lib.hid (HD.out.trans hd); clear hd
                  go_wp2_with fail
                  go_roundg g2
                  case measure => omega
                  case rel => exact ⟨(x172 ++ [x173]), (wrap64 (x173 + 1)), V193, rfl, rfl, HD, HOA, HL2⟩
              · replace HB179 := Lib.hid (ifF (bF hc182) HB179.out)
                have HK183 := Lib.hid hc182
                obtain rfl := Option.some.inj HB179.out
                replace HL2 := Lib.hid (ifF (by first | exact Bool.false_ne_true | exact not_false) HL2.out)
                obtain rfl := Option.some.inj HL2.out
                have hm := HM.out; try dsimp only at hm
                replace HM := Lib.hid hm; clear hm
                obtain ⟨⟨y198, y199⟩, hy196, hm⟩ := obind HM.out
                dsimp only at hm
                replace HM := Lib.hid hm; clear hm
                have HC197 := chordal_Simple_ok W177 cap1 (rdL HD.out HR1.out) hy196
                clear hy196
                replace HC197 := Lib.hid HC197
                go_wp2_with fail
                refine HC197.out.mono ?_; rintro e W200 ⟨V201, rfl, ho, hd⟩
                try clear hc180 hc182
                replace HOA := Lib.hid (HOA.out.call hd HD.out.size ho); clear ho
                replace HD := Lib.hid (HD.out.trans (hd.mono HD.out.size))
                clear hd
                go_upto_region 13 with (fail)
                obtain ⟨b203, hb, hm⟩ := obind HM.out
                replace HM := Lib.hid hm; have HB204 := Lib.hid hb; clear hm hb
                go_cut [13] (fun uq wr => uq = .bool b203 ∧ Hid (Below W200.heap.size W200 wr))
                case first =>
                  have HWC205 := Lib.hid (Below.refl W200.heap.size W200)
                  obtain ⟨y208, hy206, hm⟩ := obind HB204.out
                  replace HB204 := Lib.hid hm; clear hm
                  have HC207 := mErr_ok W200 (HTC.out.go HD.out)  hy206
                  clear hy206
                  replace HC207 := Lib.hid HC207
                  go_wp2_with fail
                  refine HC207.out.mono ?_; rintro e W209 ⟨rfl, hd⟩
                  replace HOA := Lib.hid (HOA.out.below hd)
                  replace HD := Lib.hid (HD.out.trans (hd.mono HD.out.size))
                  replace HWC205 := Lib.hid (HWC205.out.trans (hd.mono HWC205.out.size))
                  clear hd
                  cases y208
                  · replace HB204 := Lib.hid (ifF Bool.false_ne_true HB204.out)
                    cases Option.some.inj HB204.out
                    try go_wp2_with fail
                    go_meet
                    case rel => exact ⟨rfl, HWC205⟩
                  · replace HB204 := Lib.hid (ifT rfl HB204.out)
                    obtain ⟨y212, hy210, hm⟩ := obind HB204.out
                    replace HB204 := Lib.hid hm; clear hm
                    obtain ⟨A213, cap214, he, _⟩ := HP.open_I HOA.out (List.Mem.head _)
                    subst he
                    obtain ⟨A215, cap216, he, _⟩ := HP.open_I HOA.out (List.Mem.tail _ (List.Mem.tail _ (List.Mem.tail _ (List.Mem.head _))))
                    subst he
                    have HC211 := SE_Ints_ok W209 cap214 (HP.rd_I HOA.out (List.Mem.head _)) cap216 (HP.rd_I HOA.out (List.Mem.tail _ (List.Mem.tail _ (List.Mem.tail _ (List.Mem.head _))))) hy210
                    clear hy210
                    replace HC211 := Lib.hid HC211
                    go_wp2_with fail
                    refine HC211.out.mono ?_; rintro e W217 ⟨rfl, hd⟩
                    replace HOA := Lib.hid (HOA.out.below (hd.below _))
                    replace HD := Lib.hid (HD.out.trans ((hd.below _).mono HD.out.size))
                    replace HWC205 := Lib.hid (HWC205.out.trans ((hd.below _).mono HWC205.out.size))
                    clear hd
                    cases y212
                    · replace HB204 := Lib.hid (ifF Bool.false_ne_true HB204.out)
                      cases Option.some.inj HB204.out
                      try go_wp2_with fail
                      go_meet
                      case rel => exact ⟨rfl, HWC205⟩
                    · replace HB204 := Lib.hid (ifT rfl HB204.out)
                      cases Option.some.inj HB204.out
                      try go_wp2_with fail
                      go_meet
                      case rel => exact ⟨rfl, HWC205⟩
                case rest =>
                  obtain ⟨rfl, HWC205⟩ := hcut
                  rename World => W218
                  have hd := HWC205.out
                  replace HOA := Lib.hid (HOA.out.below hd)
                  replace HD := Lib.hid (HD.out.trans (hd.mono HD.out.size))
                  clear hd
                  go_upto_region 14 with (fail)
                  obtain ⟨⟨x219, x220⟩, ho, hm⟩ := obind HM.out
                  try simp only [] at hm
                  replace HM := Lib.hid hm; have HJ221 := Lib.hid ho; clear hm ho
                  obtain ⟨b222, hb, hm⟩ := obind HJ221.out
                  replace HJ221 := Lib.hid hm; have HB223 := Lib.hid hb; clear hm hb
                  go_cut [65] (fun uq wr => uq = .bool b222 ∧ Hid (Below W218.heap.size W218 wr))
                  case first =>
                    have HWC224 := Lib.hid (Below.refl W218.heap.size W218)
                    have hc225 := HK183.out
                    replace HB223 := Lib.hid (ifF (bF hc225) HB223.out)
                    cases Option.some.inj HB223.out
                    try go_wp2_with fail
                    go_meet
                    case rel => exact ⟨rfl, HWC224⟩
                  case rest =>
                    obtain ⟨rfl, HWC224⟩ := hcut
                    rename World => W226
                    have hd := HWC224.out
                    replace HOA := Lib.hid (HOA.out.below hd)
                    replace HD := Lib.hid (HD.out.trans (hd.mono HD.out.size))
                    clear hd
                    go_upto_if 65 with (fail)
                    go_cut [5, 7] (fun q228 q229 wr => ∃ (V227 : Value), q228 = .int .i64 x219 ∧ V227 = q229 ∧ Hid (Below w.heap.size w wr) ∧ Hid (HP wr w.heap.size [.fl (owI V201 (y198)), .fl (owI V13 (x9)), .fl (owI V227 (x220)), .fl (owI V176 (x172))]) ∧ Hid (Below W226.heap.size W226 wr))
                    case first =>
                      have HWC230 := Lib.hid (Below.refl W226.heap.size W226)
                      cases b222
                      · replace HJ221 := Lib.hid (ifF Bool.false_ne_true HJ221.out)
                        try go_wp2_with fail
                        cases Option.some.inj HJ221.out
                        go_meet
                        case rel => exact ⟨(.slice none 0 0), rfl, rfl, HD, HOA, HWC230⟩
                      · replace HJ221 := Lib.hid (ifT rfl HJ221.out)
                        obtain ⟨⟨y233, y234⟩, hy231, hm⟩ := obind HJ221.out
                        dsimp only at hm
                        replace HJ221 := Lib.hid hm; clear hm
                        have HC232 := R3_Peel_ok W226 cap1 (rdL HD.out HR1.out) hy231
                        clear hy231
                        replace HC232 := Lib.hid HC232
                        go_wp2_with fail
                        refine HC232.out.mono ?_; rintro e W235 ⟨V236, rfl, ho, hd⟩
                        replace HOA := Lib.hid (HOA.out.call hd HD.out.size ho); clear ho
                        replace HD := Lib.hid (HD.out.trans (hd.mono HD.out.size))
                        replace HWC230 := Lib.hid (HWC230.out.trans (hd.mono HWC230.out.size))
                        clear hd
                        cases y234
                        · replace HJ221 := Lib.hid (ifF Bool.false_ne_true HJ221.out)
                          try go_wp2_with fail
                          replace HOA := Lib.hid (HOA.out.sub (.cons₂ _ (.cons₂ _ (.cons₂ _ (.cons _ (.cons₂ _ .slnil))))))
                          replace HOA := Lib.hid (HP.mv (its1 := [_, _, _]) HOA.out)
                          replace HOA := Lib.hid (HP.mv (its1 := [_]) HOA.out)
                          replace HOA := Lib.hid (HP.mv (its1 := [_, _, _]) HOA.out)
                          replace HOA := Lib.hid (HP.mv (its1 := [_, _, _]) HOA.out)
                          replace HOA := Lib.hid (show HP _ _ [.fl (owI V201 (y198)), .fl (owI V13 (x9)), .fl (owI V236 (y233)), .fl (owI V176 (x172))] from HOA.out)
                          cases Option.some.inj HJ221.out
                          go_meet
                          case rel => exact ⟨V236, rfl, rfl, HD, HOA, HWC230⟩
                        · replace HJ221 := Lib.hid (ifT rfl HJ221.out)
                          try go_wp2_with fail
                          replace HOA := Lib.hid (HOA.out.sub (.cons₂ _ (.cons₂ _ (.cons₂ _ (.cons _ (.cons₂ _ .slnil))))))
                          replace HOA := Lib.hid (HP.mv (its1 := [_, _, _]) HOA.out)
                          replace HOA := Lib.hid (HP.mv (its1 := [_]) HOA.out)
                          replace HOA := Lib.hid (HP.mv (its1 := [_, _, _]) HOA.out)
                          replace HOA := Lib.hid (HP.mv (its1 := [_, _, _]) HOA.out)
                          replace HOA := Lib.hid (show HP _ _ [.fl (owI V201 (y198)), .fl (owI V13 (x9)), .fl (owI V236 (y233)), .fl (owI V176 (x172))] from HOA.out)
                          cases Option.some.inj HJ221.out
                          go_meet
                          case rel => exact ⟨V236, rfl, rfl, HD, HOA, HWC230⟩
                    case rest =>
                      obtain ⟨V227, rfl, rfl, HD, HOA, HWC230⟩ := hcut
                      rename World => W238
                      have hd := HWC230.out
                      clear hd
                      obtain ⟨⟨y241, y242⟩, hy239, hm⟩ := obind HM.out
                      dsimp only at hm
                      replace HM := Lib.hid hm; clear hm
                      have HC240 := chordal_Peel_ok W238 cap1 (rdL HD.out HR1.out) hy239
                      clear hy239
                      replace HC240 := Lib.hid HC240
                      go_wp2_with fail
                      refine HC240.out.mono ?_; rintro e W243 ⟨V244, rfl, ho, hd⟩
                      replace HOA := Lib.hid (HOA.out.call hd HD.out.size ho); clear ho
                      replace HD := Lib.hid (HD.out.trans (hd.mono HD.out.size))
                      clear hd
                      obtain ⟨b246, hb, hm⟩ := obind HM.out
                      replace HM := Lib.hid hm; have HB247 := Lib.hid hb; clear hm hb
                      obtain ⟨b248, hb, hm⟩ := obind HB247.out
                      replace HB247 := Lib.hid hm; have HB249 := Lib.hid hb; clear hm hb
                      cases b203
                      · replace HB249 := Lib.hid (ifF Bool.false_ne_true HB249.out)
                        obtain rfl := Option.some.inj HB249.out
                        replace HB247 := Lib.hid (ifF (by first | exact Bool.false_ne_true | exact not_false) HB247.out)
                        obtain rfl := Option.some.inj HB247.out
                        obtain rfl := Option.some.inj HM.out
                        go_wp2_with fail
                        go_ret
                        exact ⟨rfl, HD.out⟩
                      · replace HB249 := Lib.hid (ifT rfl HB249.out)
                        obtain ⟨y252, hy250, hm⟩ := obind HB249.out
                        replace HB249 := Lib.hid hm; clear hm
                        have HC251 := mErr_ok W243 (HTC.out.go HD.out)  hy250
                        clear hy250
                        replace HC251 := Lib.hid HC251
                        go_wp2_with fail
                        refine HC251.out.mono ?_; rintro e W253 ⟨rfl, hd⟩
                        replace HOA := Lib.hid (HOA.out.below hd)
                        replace HD := Lib.hid (HD.out.trans (hd.mono HD.out.size))
                        clear hd
                        cases y252
                        · replace HB249 := Lib.hid (ifF Bool.false_ne_true HB249.out)
                          obtain rfl := Option.some.inj HB249.out
                          replace HB247 := Lib.hid (ifF (by first | exact Bool.false_ne_true | exact not_false) HB247.out)
                          obtain rfl := Option.some.inj HB247.out
                          obtain rfl := Option.some.inj HM.out
                          go_wp2_with fail
                          go_ret
                          exact ⟨rfl, HD.out⟩
                        · replace HB249 := Lib.hid (ifT rfl HB249.out)
                          obtain rfl := Option.some.inj HB249.out
                          replace HB247 := Lib.hid (ifT (by first | rfl | trivial) HB247.out)
                          obtain ⟨y256, hy254, hm⟩ := obind HB247.out
                          replace HB247 := Lib.hid hm; clear hm
                          obtain ⟨A257, cap258, he, _⟩ := HP.open_I HOA.out (List.Mem.head _)
                          subst he
                          obtain ⟨A259, cap260, he, _⟩ := HP.open_I HOA.out (List.Mem.tail _ (List.Mem.tail _ (List.Mem.tail _ (List.Mem.head _))))
                          subst he
                          have HC255 := SE_Ints_ok W253 cap258 (HP.rd_I HOA.out (List.Mem.head _)) cap260 (HP.rd_I HOA.out (List.Mem.tail _ (List.Mem.tail _ (List.Mem.tail _ (List.Mem.head _))))) hy254
                          clear hy254
                          replace HC255 := Lib.hid HC255
                          go_wp2_with fail
                          refine HC255.out.mono ?_; rintro e W261 ⟨rfl, hd⟩
                          replace HOA := Lib.hid (HOA.out.below (hd.below _))
                          replace HD := Lib.hid (HD.out.trans ((hd.below _).mono HD.out.size))
                          clear hd
                          cases y256
                          · replace HB247 := Lib.hid (ifF Bool.false_ne_true HB247.out)
                            obtain rfl := Option.some.inj HB247.out
                            obtain rfl := Option.some.inj HM.out
                            go_wp2_with fail
                            go_ret
                            exact ⟨rfl, HD.out⟩
                          · replace HB247 := Lib.hid (ifT rfl HB247.out)
                            obtain rfl := Option.some.inj HB247.out
                            obtain rfl := Option.some.inj HM.out
                            go_wp2_with fail
                            go_ret
                            exact ⟨rfl, HD.out⟩
            · replace HB179 := Lib.hid (ifF hc180 HB179.out)
              have hc180d := decide_eq_false hc180
              have HK181 := Lib.hid hc180
              obtain rfl := Option.some.inj HB179.out
              replace HL2 := Lib.hid (ifF (by first | exact Bool.false_ne_true | exact not_false) HL2.out)
              obtain rfl := Option.some.inj HL2.out
              have hm := HM.out; try dsimp only at hm
              replace HM := Lib.hid hm; clear hm
              obtain ⟨⟨y264, y265⟩, hy262, hm⟩ := obind HM.out
              dsimp only at hm
              replace HM := Lib.hid hm; clear hm
              have HC263 := chordal_Simple_ok W177 cap1 (rdL HD.out HR1.out) hy262
              clear hy262
              replace HC263 := Lib.hid HC263
              go_wp2_with fail
              refine HC263.out.mono ?_; rintro e W266 ⟨V267, rfl, ho, hd⟩
              try clear hc180 hc180d
              replace HOA := Lib.hid (HOA.out.call hd HD.out.size ho); clear ho
              replace HD := Lib.hid (HD.out.trans (hd.mono HD.out.size))
              clear hd
              go_upto_region 13 with (fail)
              obtain ⟨b269, hb, hm⟩ := obind HM.out
              replace HM := Lib.hid hm; have HB270 := Lib.hid hb; clear hm hb
              go_cut [13] (fun uq wr => uq = .bool b269 ∧ Hid (Below W266.heap.size W266 wr))
              case first =>
                have HWC271 := Lib.hid (Below.refl W266.heap.size W266)
                obtain ⟨y274, hy272, hm⟩ := obind HB270.out
                replace HB270 := Lib.hid hm; clear hm
                have HC273 := mErr_ok W266 (HTC.out.go HD.out)  hy272
                clear hy272
                replace HC273 := Lib.hid HC273
                go_wp2_with fail
                refine HC273.out.mono ?_; rintro e W275 ⟨rfl, hd⟩
                replace HOA := Lib.hid (HOA.out.below hd)
                replace HD := Lib.hid (HD.out.trans (hd.mono HD.out.size))
                replace HWC271 := Lib.hid (HWC271.out.trans (hd.mono HWC271.out.size))
                clear hd
                cases y274
                · replace HB270 := Lib.hid (ifF Bool.false_ne_true HB270.out)
                  cases Option.some.inj HB270.out
                  try go_wp2_with fail
                  go_meet
                  case rel => exact ⟨rfl, HWC271⟩
                · replace HB270 := Lib.hid (ifT rfl HB270.out)
                  obtain ⟨y278, hy276, hm⟩ := obind HB270.out
                  replace HB270 := Lib.hid hm; clear hm
                  obtain ⟨A279, cap280, he, _⟩ := HP.open_I HOA.out (List.Mem.head _)
                  subst he
                  obtain ⟨A281, cap282, he, _⟩ := HP.open_I HOA.out (List.Mem.tail _ (List.Mem.tail _ (List.Mem.tail _ (List.Mem.head _))))
                  subst he
                  have HC277 := SE_Ints_ok W275 cap280 (HP.rd_I HOA.out (List.Mem.head _)) cap282 (HP.rd_I HOA.out (List.Mem.tail _ (List.Mem.tail _ (List.Mem.tail _ (List.Mem.head _))))) hy276
                  clear hy276
                  replace HC277 := Lib.hid HC277
                  go_wp2_with fail
                  refine HC277.out.mono ?_; rintro e W283 ⟨rfl, hd⟩
                  replace HOA := Lib.hid (HOA.out.below (hd.below _))
                  replace HD := Lib.hid (HD.out.trans ((hd.below _).mono HD.out.size))
                  replace HWC271 := Lib.hid (HWC271.out.trans ((hd.below _).mono HWC271.out.size))
                  clear hd
                  cases y278
                  · replace HB270 := Lib.hid (ifF Bool.false_ne_true HB270.out)
                    cases Option.some.inj HB270.out
                    try go_wp2_with fail
                    go_meet
                    case rel => exact ⟨rfl, HWC271⟩
                  · replace HB270 := Lib.hid (ifT rfl HB270.out)
                    cases Option.some.inj HB270.out
                    try go_wp2_with fail
                    go_meet
                    case rel => exact ⟨rfl, HWC271⟩
              case rest =>
                obtain ⟨rfl, HWC271⟩ := hcut
                rename World => W284
                have hd := HWC271.out
                replace HOA := Lib.hid (HOA.out.below hd)
                replace HD := Lib.hid (HD.out.trans (hd.mono HD.out.size))
                clear hd
                go_upto_region 14 with (fail)
                obtain ⟨⟨x285, x286⟩, ho, hm⟩ := obind HM.out
                try simp only [] at hm
                replace HM := Lib.hid hm; have HJ287 := Lib.hid ho; clear hm ho
                obtain ⟨b288, hb, hm⟩ := obind HJ287.out
                replace HJ287 := Lib.hid hm; have HB289 := Lib.hid hb; clear hm hb
                go_cut [65] (fun uq wr => uq = .bool b288 ∧ Hid (Below W284.heap.size W284 wr))
                case first =>
                  have HWC290 := Lib.hid (Below.refl W284.heap.size W284)
                  rcases Bool.eq_false_or_eq_true (y3 == 0) with hc291 | hc291
                  · replace HB289 := Lib.hid (ifT hc291 HB289.out)
                    have HK292 := Lib.hid hc291
                    cases Option.some.inj HB289.out
                    try go_wp2_with fail
                    go_meet
                    case rel => exact ⟨rfl, HWC290⟩
                  · replace HB289 := Lib.hid (ifF (bF hc291) HB289.out)
                    have HK292 := Lib.hid hc291
                    cases Option.some.inj HB289.out
                    try go_wp2_with fail
                    go_meet
                    case rel => exact ⟨rfl, HWC290⟩
                case rest =>
                  obtain ⟨rfl, HWC290⟩ := hcut
                  rename World => W293
                  have hd := HWC290.out
                  replace HOA := Lib.hid (HOA.out.below hd)
                  replace HD := Lib.hid (HD.out.trans (hd.mono HD.out.size))
                  clear hd
                  go_upto_if 65 with (fail)
                  go_cut [5, 7] (fun q295 q296 wr => ∃ (V294 : Value), q295 = .int .i64 x285 ∧ V294 = q296 ∧ Hid (Below w.heap.size w wr) ∧ Hid (HP wr w.heap.size [.fl (owI V267 (y264)), .fl (owI V13 (x9)), .fl (owI V294 (x286)), .fl (owI V176 (x172))]) ∧ Hid (Below W293.heap.size W293 wr))
                  case first =>
                    have HWC297 := Lib.hid (Below.refl W293.heap.size W293)
                    cases b288
                    · replace HJ287 := Lib.hid (ifF Bool.false_ne_true HJ287.out)
                      try go_wp2_with fail
                      cases Option.some.inj HJ287.out
                      go_meet
                      case rel => exact ⟨(.slice none 0 0), rfl, rfl, HD, HOA, HWC297⟩
                    · replace HJ287 := Lib.hid (ifT rfl HJ287.out)
                      obtain ⟨⟨y300, y301⟩, hy298, hm⟩ := obind HJ287.out
                      dsimp only at hm
                      replace HJ287 := Lib.hid hm; clear hm
                      have HC299 := R3_Peel_ok W293 cap1 (rdL HD.out HR1.out) hy298
                      clear hy298
                      replace HC299 := Lib.hid HC299
                      go_wp2_with fail
                      refine HC299.out.mono ?_; rintro e W302 ⟨V303, rfl, ho, hd⟩
                      replace HOA := Lib.hid (HOA.out.call hd HD.out.size ho); clear ho
                      replace HD := Lib.hid (HD.out.trans (hd.mono HD.out.size))
                      replace HWC297 := Lib.hid (HWC297.out.trans (hd.mono HWC297.out.size))
                      clear hd
                      cases y301
                      · replace HJ287 := Lib.hid (ifF Bool.false_ne_true HJ287.out)
                        try go_wp2_with fail
                        replace HOA := Lib.hid (HOA.out.sub (.cons₂ _ (.cons₂ _ (.cons₂ _ (.cons _ (.cons₂ _ .slnil))))))
                        replace HOA := Lib.hid (HP.mv (its1 := [_, _, _]) HOA.out)
                        replace HOA := Lib.hid (HP.mv (its1 := [_]) HOA.out)
                        replace HOA := Lib.hid (HP.mv (its1 := [_, _, _]) HOA.out)
                        replace HOA := Lib.hid (HP.mv (its1 := [_, _, _]) HOA.out)
                        replace HOA := Lib.hid (show HP _ _ [.fl (owI V267 (y264)), .fl (owI V13 (x9)), .fl (owI V303 (y300)), .fl (owI V176 (x172))] from HOA.out)
                        cases Option.some.inj HJ287.out
                        go_meet
                        case rel => exact ⟨V303, rfl, rfl, HD, HOA, HWC297⟩
                      · replace HJ287 := Lib.hid (ifT rfl HJ287.out)
                        try go_wp2_with fail
                        replace HOA := Lib.hid (HOA.out.sub (.cons₂ _ (.cons₂ _ (.cons₂ _ (.cons _ (.cons₂ _ .slnil))))))
                        replace HOA := Lib.hid (HP.mv (its1 := [_, _, _]) HOA.out)
                        replace HOA := Lib.hid (HP.mv (its1 := [_]) HOA.out)
                        replace HOA := Lib.hid (HP.mv (its1 := [_, _, _]) HOA.out)
                        replace HOA := Lib.hid (HP.mv (its1 := [_, _, _]) HOA.out)
                        replace HOA := Lib.hid (show HP _ _ [.fl (owI V267 (y264)), .fl (owI V13 (x9)), .fl (owI V303 (y300)), .fl (owI V176 (x172))] from HOA.out)
                        cases Option.some.inj HJ287.out
                        go_meet
                        case rel => exact ⟨V303, rfl, rfl, HD, HOA, HWC297⟩
                  case rest =>
                    obtain ⟨V294, rfl, rfl, HD, HOA, HWC297⟩ := hcut
                    rename World => W305
                    have hd := HWC297.out
                    clear hd
                    obtain ⟨⟨y308, y309⟩, hy306, hm⟩ := obind HM.out
                    dsimp only at hm
                    replace HM := Lib.hid hm; clear hm
                    have HC307 := chordal_Peel_ok W305 cap1 (rdL HD.out HR1.out) hy306
                    clear hy306
                    replace HC307 := Lib.hid HC307
                    go_wp2_with fail
                    refine HC307.out.mono ?_; rintro e W310 ⟨V311, rfl, ho, hd⟩
                    replace HOA := Lib.hid (HOA.out.call hd HD.out.size ho); clear ho
                    replace HD := Lib.hid (HD.out.trans (hd.mono HD.out.size))
                    clear hd
                    obtain ⟨b313, hb, hm⟩ := obind HM.out
                    replace HM := Lib.hid hm; have HB314 := Lib.hid hb; clear hm hb
                    obtain ⟨b315, hb, hm⟩ := obind HB314.out
                    replace HB314 := Lib.hid hm; have HB316 := Lib.hid hb; clear hm hb
                    cases b269
                    · replace HB316 := Lib.hid (ifF Bool.false_ne_true HB316.out)
                      obtain rfl := Option.some.inj HB316.out
                      replace HB314 := Lib.hid (ifF (by first | exact Bool.false_ne_true | exact not_false) HB314.out)
                      obtain rfl := Option.some.inj HB314.out
                      obtain rfl := Option.some.inj HM.out
                      go_wp2_with fail
                      go_ret
                      exact ⟨rfl, HD.out⟩
                    · replace HB316 := Lib.hid (ifT rfl HB316.out)
                      obtain ⟨y319, hy317, hm⟩ := obind HB316.out
                      replace HB316 := Lib.hid hm; clear hm
                      have HC318 := mErr_ok W310 (HTC.out.go HD.out)  hy317
                      clear hy317
                      replace HC318 := Lib.hid HC318
                      go_wp2_with fail
                      refine HC318.out.mono ?_; rintro e W320 ⟨rfl, hd⟩
                      replace HOA := Lib.hid (HOA.out.below hd)
                      replace HD := Lib.hid (HD.out.trans (hd.mono HD.out.size))
                      clear hd
                      cases y319
                      · replace HB316 := Lib.hid (ifF Bool.false_ne_true HB316.out)
                        obtain rfl := Option.some.inj HB316.out
                        replace HB314 := Lib.hid (ifF (by first | exact Bool.false_ne_true | exact not_false) HB314.out)
                        obtain rfl := Option.some.inj HB314.out
                        obtain rfl := Option.some.inj HM.out
                        go_wp2_with fail
                        go_ret
                        exact ⟨rfl, HD.out⟩
                      · replace HB316 := Lib.hid (ifT rfl HB316.out)
                        obtain rfl := Option.some.inj HB316.out
                        replace HB314 := Lib.hid (ifT (by first | rfl | trivial) HB314.out)
                        obtain ⟨y323, hy321, hm⟩ := obind HB314.out
                        replace HB314 := Lib.hid hm; clear hm
                        obtain ⟨A324, cap325, he, _⟩ := HP.open_I HOA.out (List.Mem.head _)
                        subst he
                        obtain ⟨A326, cap327, he, _⟩ := HP.open_I HOA.out (List.Mem.tail _ (List.Mem.tail _ (List.Mem.tail _ (List.Mem.head _))))
                        subst he
                        have HC322 := SE_Ints_ok W320 cap325 (HP.rd_I HOA.out (List.Mem.head _)) cap327 (HP.rd_I HOA.out (List.Mem.tail _ (List.Mem.tail _ (List.Mem.tail _ (List.Mem.head _))))) hy321
                        clear hy321
                        replace HC322 := Lib.hid HC322
                        go_wp2_with fail
                        refine HC322.out.mono ?_; rintro e W328 ⟨rfl, hd⟩
                        replace HOA := Lib.hid (HOA.out.below (hd.below _))
                        replace HD := Lib.hid (HD.out.trans ((hd.below _).mono HD.out.size))
                        clear hd
                        cases y323
                        · replace HB314 := Lib.hid (ifF Bool.false_ne_true HB314.out)
                          obtain rfl := Option.some.inj HB314.out
                          obtain rfl := Option.some.inj HM.out
                          go_wp2_with fail
                          go_ret
                          exact ⟨rfl, HD.out⟩
                        · replace HB314 := Lib.hid (ifT rfl HB314.out)
                          obtain rfl := Option.some.inj HB314.out
                          obtain rfl := Option.some.inj HM.out
                          go_wp2_with fail
                          go_ret
                          exact ⟨rfl, HD.out⟩
end Go.Proofs.YtcbalejnkhnppaaDoor
