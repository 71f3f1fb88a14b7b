import Derived.Test.YtnfijblmigjlhaaDoorF1
import Derived.Test.YtnfijblmigjlhaaDoorErr
set_option linter.all false
set_option maxRecDepth 100000
namespace Go.Proofs.YtnfijblmigjlhaaDoor
open Go.RowKit
def L4_BruijnSays_L2 (F : Nat) (v2 : List Int) (v10 : Int) (v11 : List Int) : Nat → (Bool) → (Int) → Option (Bool × Int)
  | 0, _, _ => none
  | g+1, v12, v13 => if v13 < ((v2).length : Int) then (if v12 = true then (md (wrap64 (v10 + v13)) ((v11).length : Int)).bind fun y19 => (ix v11 y19).bind fun y20 => (ix v2 v13).bind fun y21 => if (y20 == y21) = true then some true else some false else some false).bind fun b18 => L4_BruijnSays_L2 F v2 v10 v11 g (b18) ((wrap64 (v13 + 1))) else some (v12, v13)
theorem L4_BruijnSays_L2_0 (F : Nat) (v2 : List Int) (v10 : Int) (v11 : List Int) (v12 : Bool) (v13 : Int) : L4_BruijnSays_L2 F v2 v10 v11 0 v12 v13 = none := by rw [L4_BruijnSays_L2]
theorem L4_BruijnSays_L2_s (F g : Nat) (v2 : List Int) (v10 : Int) (v11 : List Int) (v12 : Bool) (v13 : Int) : L4_BruijnSays_L2 F v2 v10 v11 (g+1) v12 v13 = (if v13 < ((v2).length : Int) then (if v12 = true then (md (wrap64 (v10 + v13)) ((v11).length : Int)).bind fun y19 => (ix v11 y19).bind fun y20 => (ix v2 v13).bind fun y21 => if (y20 == y21) = true then some true else some false else some false).bind fun b18 => L4_BruijnSays_L2 F v2 v10 v11 g (b18) ((wrap64 (v13 + 1))) else some (v12, v13)) := by rw [L4_BruijnSays_L2]
def L4_BruijnSays_L1 (F : Nat) (v2 : List Int) (v11 : List Int) : Nat → (Int) → Option (Int)
  | 0, _ => none
  | g+1, v10 => (L4_BruijnSays_L2 F (v2) (v10) (v11) F (true) (0)).bind fun o22 => (if o22.1 = true then some (v10) else L4_BruijnSays_L1 F v2 v11 g ((wrap64 (v10 + 1))))
theorem L4_BruijnSays_L1_0 (F : Nat) (v2 : List Int) (v11 : List Int) (v10 : Int) : L4_BruijnSays_L1 F v2 v11 0 v10 = none := by rw [L4_BruijnSays_L1]
theorem L4_BruijnSays_L1_s (F g : Nat) (v2 : List Int) (v11 : List Int) (v10 : Int) : L4_BruijnSays_L1 F v2 v11 (g+1) v10 = ((L4_BruijnSays_L2 F (v2) (v10) (v11) F (true) (0)).bind fun o22 => (if o22.1 = true then some (v10) else L4_BruijnSays_L1 F v2 v11 g ((wrap64 (v10 + 1))))) := by rw [L4_BruijnSays_L1]
def L4_BruijnSays (F : Nat) (v0 : Int) (v1 : Int) (v2 : List Int) : Option (Bool) := (R3_Bruijn F (v0) (v1)).bind fun y1 => (bCheck (v0) (v1)).bind fun y2 => (mErr (y2) (y1)).bind fun y3 => ((if (y1 == 0) = true then some true else some false).bind fun b5 => if b5 = true then (R3_Ring F (v0) (v1)).bind fun y6 => some (y6) else some ([])).bind fun o4 => (bRing (v0) (v1)).bind fun y7 => ((mErr (y7.2) (y1)).bind fun y9 => if y9 = true then (SE_Ints F (y7.1) (o4)).bind fun y10 => if y10 = true then some true else some false else some false).bind fun b8 => (R3_Bruijn F (v0) (((v2).length : Int))).bind fun y11 => ((if (y11 == 0) = true then (R1_All F (v2) (0) ((wrap64 (v0 - 1)))).bind fun y14 => if y14 = true then some false else some true else some false).bind fun b13 => if b13 = true then some (1) else some (y11)).bind fun o12 => ((if (o12 == 0) = true then some true else some false).bind fun b16 => if b16 = true then (R3_Ring F (v0) (((v2).length : Int))).bind fun y17 => (L4_BruijnSays_L1 F (v2) (y17) F (0)).bind fun o23 => some (o23) else some (0)).bind fun o15 => (bFind (v0) (v2)).bind fun y24 => (((if y3 = true then if b8 = true then some true else some false else some false).bind fun b27 => if b27 = true then (mErr (y24.2) (o12)).bind fun y28 => if y28 = true then some true else some false else some false).bind fun b26 => if b26 = true then if (y24.1 == o15) = true then some true else some false else some false).bind fun b25 => some (b25)
set_option maxRecDepth 100000 in
set_option maxHeartbeats 4000000 in
theorem L4_BruijnSays_ok {F : Nat} {v0 : Int} {v1 : Int} {v2 : List Int} {A2 : Option Addr} {r : Bool} (w : World) (htc : TyCell w) (cap2 : Nat) (hr2 : ReadsI w w.heap.size A2 v2) (h : L4_BruijnSays F v0 v1 v2 = some r) :
    Calls Tryd.prog 3 #[.int .i64 v0, .int .i64 v1, .slice A2 v2.length cap2] w fun e w' => e = .returned (.bool r) ∧ Below w.heap.size w w' := by
  have HTC := Lib.hid htc; clear htc
  have HR2 := Lib.hid hr2; clear hr2
  have HD := Lib.hid (Below.refl w.heap.size w)
  have HOA := Lib.hid (HP.nil (W := w) (B := w.heap.size))
  unfold L4_BruijnSays at h
  have HM := Lib.hid h; clear h
  go_enter Tryd.func3, Tryd.ntmps3
  obtain ⟨y3, hy1, hm⟩ := obind HM.out
  replace HM := Lib.hid hm; clear hm
  have HC2 := R3_Bruijn_ok w  hy1
  clear hy1
  replace HC2 := Lib.hid HC2
  obtain ⟨y6, hy4, hm⟩ := obind HM.out
  replace HM := Lib.hid hm; clear hm
  have HC5 := bCheck_ok w  hy4
  clear hy4
  replace HC5 := Lib.hid HC5
  obtain ⟨y9, hy7, hm⟩ := obind HM.out
  replace HM := Lib.hid hm; clear hm
  have HC8 := mErr_ok w (HTC.out.go HD.out)  hy7
  clear hy7
  replace HC8 := Lib.hid HC8
  go_wp2_with fail
  refine HC2.out.mono ?_; rintro e w' ⟨rfl, rfl⟩
  go_wp2_with fail
  refine HC5.out.mono ?_; rintro e w' ⟨rfl, rfl⟩
  go_wp2_with fail
  refine HC8.out.mono ?_; rintro e W10 ⟨rfl, hd⟩
  replace HOA := Lib.hid (HOA.out.below hd)
  replace HD := Lib.hid (HD.out.trans (hd.mono HD.out.size))
  clear hd
  replace HOA := Lib.hid (show HP _ _ (.fl (owI (.slice none 0 0) ([])) :: _) from HOA.out.pushNil _ _)
  go_upto_region 4 with (fail)
  obtain ⟨x12, ho, hm⟩ := obind HM.out
  replace HM := Lib.hid hm; have HJ13 := Lib.hid ho; clear hm ho
  obtain ⟨b14, hb, hm⟩ := obind HJ13.out
  replace HJ13 := Lib.hid hm; have HB15 := Lib.hid hb; clear hm hb
  go_cut [27] (fun uq wr => uq = .bool b14 ∧ Hid (Below W10.heap.size W10 wr))
  case first =>
    have HWC16 := Lib.hid (Below.refl W10.heap.size W10)
    rcases Bool.eq_false_or_eq_true (y3 == 0) with hc17 | hc17
    · replace HB15 := Lib.hid (ifT hc17 HB15.out)
      have HK18 := Lib.hid hc17
      cases Option.some.inj HB15.out
      try go_wp2_with fail
      go_meet
      case rel => exact ⟨rfl, HWC16⟩
    · replace HB15 := Lib.hid (ifF (bF hc17) HB15.out)
      have HK18 := Lib.hid hc17
      cases Option.some.inj HB15.out
      try go_wp2_with fail
      go_meet
      case rel => exact ⟨rfl, HWC16⟩
  case rest =>
    as_aux_lemma =>
      obtain ⟨rfl, HWC16⟩ := hcut
      rename World => W19
      have hd := HWC16.out
      replace HOA := Lib.hid (HOA.out.below hd)
      replace HD := Lib.hid (HD.out.trans (hd.mono HD.out.size))
      clear hd
      go_upto_if 27 with (fail)
      go_cut [9] (fun q21 wr => ∃ (V20 : Value), V20 = q21 ∧ Hid (Below w.heap.size w wr) ∧ Hid (HP wr w.heap.size [.fl (owI V20 (x12))]) ∧ Hid (Below W19.heap.size W19 wr))
      case first =>
        have HWC22 := Lib.hid (Below.refl W19.heap.size W19)
        cases b14
        · replace HJ13 := Lib.hid (ifF Bool.false_ne_true HJ13.out)
          try go_wp2_with fail
          cases Option.some.inj HJ13.out
          go_meet
          case rel => exact ⟨(.slice none 0 0), rfl, HD, HOA, HWC22⟩
        · replace HJ13 := Lib.hid (ifT rfl HJ13.out)
          obtain ⟨y25, hy23, hm⟩ := obind HJ13.out
          replace HJ13 := Lib.hid hm; clear hm
          have HC24 := R3_Ring_ok W19  hy23
          clear hy23
          replace HC24 := Lib.hid HC24
          go_wp2_with fail
          refine HC24.out.mono ?_; rintro e W26 ⟨V27, rfl, ho, hd⟩
          replace HOA := Lib.hid (HOA.out.call hd HD.out.size ho); clear ho
          replace HD := Lib.hid (HD.out.trans (hd.mono HD.out.size))
          replace HWC22 := Lib.hid (HWC22.out.trans (hd.mono HWC22.out.size))
          clear hd
          try go_wp2_with fail
          replace HOA := Lib.hid (HOA.out.sub (.cons₂ _ (.cons _ .slnil)))
          cases Option.some.inj HJ13.out
          go_meet
          case rel => exact ⟨V27, rfl, HD, HOA, HWC22⟩
      case rest =>
        as_aux_lemma =>
          obtain ⟨V20, rfl, HD, HOA, HWC22⟩ := hcut
          rename World => W29
          have hd := HWC22.out
          clear hd
          obtain ⟨⟨y32, y33⟩, hy30, hm⟩ := obind HM.out
          dsimp only at hm
          replace HM := Lib.hid hm; clear hm
          have HC31 := bRing_ok W29  hy30
          clear hy30
          replace HC31 := Lib.hid HC31
          go_wp2_with fail
          refine HC31.out.mono ?_; rintro e W34 ⟨V35, rfl, ho, hd⟩
          replace HOA := Lib.hid (HOA.out.call hd HD.out.size ho); clear ho
          replace HD := Lib.hid (HD.out.trans (hd.mono HD.out.size))
          clear hd
          go_upto_region 7 with (fail)
          obtain ⟨b37, hb, hm⟩ := obind HM.out
          replace HM := Lib.hid hm; have HB38 := Lib.hid hb; clear hm hb
          go_cut [12] (fun uq wr => uq = .bool b37 ∧ Hid (Below W34.heap.size W34 wr))
          case first =>
            have HWC39 := Lib.hid (Below.refl W34.heap.size W34)
            obtain ⟨y42, hy40, hm⟩ := obind HB38.out
            replace HB38 := Lib.hid hm; clear hm
            have HC41 := mErr_ok W34 (HTC.out.go HD.out)  hy40
            clear hy40
            replace HC41 := Lib.hid HC41
            go_wp2_with fail
            refine HC41.out.mono ?_; rintro e W43 ⟨rfl, hd⟩
            replace HOA := Lib.hid (HOA.out.below hd)
            replace HD := Lib.hid (HD.out.trans (hd.mono HD.out.size))
            replace HWC39 := Lib.hid (HWC39.out.trans (hd.mono HWC39.out.size))
            clear hd
            cases y42
            · replace HB38 := Lib.hid (ifF Bool.false_ne_true HB38.out)
              cases Option.some.inj HB38.out
              try go_wp2_with fail
              go_meet
              case rel => exact ⟨rfl, HWC39⟩
            · replace HB38 := Lib.hid (ifT rfl HB38.out)
              obtain ⟨y46, hy44, hm⟩ := obind HB38.out
              replace HB38 := Lib.hid hm; clear hm
              obtain ⟨A47, cap48, he, _⟩ := HP.open_I HOA.out (List.Mem.head _)
              subst he
              obtain ⟨A49, cap50, he, _⟩ := HP.open_I HOA.out (List.Mem.tail _ (List.Mem.head _))
              subst he
              have HC45 := SE_Ints_ok W43 cap48 (HP.rd_I HOA.out (List.Mem.head _)) cap50 (HP.rd_I HOA.out (List.Mem.tail _ (List.Mem.head _))) hy44
              clear hy44
              replace HC45 := Lib.hid HC45
              go_wp2_with fail
              refine HC45.out.mono ?_; rintro e W51 ⟨rfl, hd⟩
              replace HOA := Lib.hid (HOA.out.below (hd.below _))
              replace HD := Lib.hid (HD.out.trans ((hd.below _).mono HD.out.size))
              replace HWC39 := Lib.hid (HWC39.out.trans ((hd.below _).mono HWC39.out.size))
              clear hd
              cases y46
              · replace HB38 := Lib.hid (ifF Bool.false_ne_true HB38.out)
                cases Option.some.inj HB38.out
                try go_wp2_with fail
                go_meet
                case rel => exact ⟨rfl, HWC39⟩
              · replace HB38 := Lib.hid (ifT rfl HB38.out)
                cases Option.some.inj HB38.out
                try go_wp2_with fail
                go_meet
                case rel => exact ⟨rfl, HWC39⟩
          case rest =>
            as_aux_lemma =>
              obtain ⟨rfl, HWC39⟩ := hcut
              rename World => W52
              have hd := HWC39.out
              replace HOA := Lib.hid (HOA.out.below hd)
              replace HD := Lib.hid (HD.out.trans (hd.mono HD.out.size))
              clear hd
              obtain ⟨y55, hy53, hm⟩ := obind HM.out
              replace HM := Lib.hid hm; clear hm
              have HC54 := R3_Bruijn_ok W52  hy53
              clear hy53
              replace HC54 := Lib.hid HC54
              go_wp2_with fail
              refine HC54.out.mono ?_; rintro e w' ⟨rfl, rfl⟩
              go_upto_region 9 with (fail)
              obtain ⟨x56, ho, hm⟩ := obind HM.out
              replace HM := Lib.hid hm; have HJ57 := Lib.hid ho; clear hm ho
              obtain ⟨b58, hb, hm⟩ := obind HJ57.out
              replace HJ57 := Lib.hid hm; have HB59 := Lib.hid hb; clear hm hb
              go_cut [57] (fun uq wr => uq = .bool b58 ∧ Hid (Below W52.heap.size W52 wr))
              case first =>
                have HWC60 := Lib.hid (Below.refl W52.heap.size W52)
                rcases Bool.eq_false_or_eq_true (y55 == 0) with hc61 | hc61
                · replace HB59 := Lib.hid (ifT hc61 HB59.out)
                  have HK62 := Lib.hid hc61
                  obtain ⟨y65, hy63, hm⟩ := obind HB59.out
                  replace HB59 := Lib.hid hm; clear hm
                  have HC64 := R1_All_ok W52 cap2 (rdI HD.out HR2.out) hy63
                  clear hy63
                  replace HC64 := Lib.hid HC64
                  cases y65
                  · replace HB59 := Lib.hid (ifF Bool.false_ne_true HB59.out)
                    cases Option.some.inj HB59.out
                    go_wp2_with fail
                    refine HC64.out.mono ?_; rintro e w' ⟨rfl, rfl⟩
                    try go_wp2_with fail
                    go_meet
                    case rel => exact ⟨rfl, HWC60⟩
                  · replace HB59 := Lib.hid (ifT rfl HB59.out)
                    cases Option.some.inj HB59.out
                    go_wp2_with fail
                    refine HC64.out.mono ?_; rintro e w' ⟨rfl, rfl⟩
                    try go_wp2_with fail
                    go_meet
                    case rel => exact ⟨rfl, HWC60⟩
                · replace HB59 := Lib.hid (ifF (bF hc61) HB59.out)
                  have HK62 := Lib.hid hc61
                  cases Option.some.inj HB59.out
                  try go_wp2_with fail
                  go_meet
                  case rel => exact ⟨rfl, HWC60⟩
              case rest =>
                as_aux_lemma =>
                  obtain ⟨rfl, HWC60⟩ := hcut
                  rename World => W66
                  have hd := HWC60.out
                  replace HOA := Lib.hid (HOA.out.below hd)
                  replace HD := Lib.hid (HD.out.trans (hd.mono HD.out.size))
                  clear hd
                  go_upto_if 57 with (fail)
                  go_cut [7] (fun q67 wr => q67 = .int .i64 x56 ∧ Hid (Below W66.heap.size W66 wr))
                  case first =>
                    have HWC69 := Lib.hid (Below.refl W66.heap.size W66)
                    cases b58
                    · replace HJ57 := Lib.hid (ifF Bool.false_ne_true HJ57.out)
                      try go_wp2_with fail
                      cases Option.some.inj HJ57.out
                      go_meet
                      case rel => exact ⟨rfl, HWC69⟩
                    · replace HJ57 := Lib.hid (ifT rfl HJ57.out)
                      try go_wp2_with fail
                      cases Option.some.inj HJ57.out
                      go_meet
                      case rel => exact ⟨rfl, HWC69⟩
                  case rest =>
                    as_aux_lemma =>
                      obtain ⟨rfl, HWC69⟩ := hcut
                      rename World => W70
                      have hd := HWC69.out
                      replace HOA := Lib.hid (HOA.out.below hd)
                      replace HD := Lib.hid (HD.out.trans (hd.mono HD.out.size))
                      clear hd
                      go_upto_region 12 with (fail)
                      obtain ⟨x71, ho, hm⟩ := obind HM.out
                      replace HM := Lib.hid hm; have HJ72 := Lib.hid ho; clear hm ho
                      obtain ⟨b73, hb, hm⟩ := obind HJ72.out
                      replace HJ72 := Lib.hid hm; have HB74 := Lib.hid hb; clear hm hb
                      go_cut [59] (fun uq wr => uq = .bool b73 ∧ Hid (Below W70.heap.size W70 wr))
                      case first =>
                        have HWC75 := Lib.hid (Below.refl W70.heap.size W70)
                        rcases Bool.eq_false_or_eq_true (x56 == 0) with hc76 | hc76
                        · replace HB74 := Lib.hid (ifT hc76 HB74.out)
                          have HK77 := Lib.hid hc76
                          cases Option.some.inj HB74.out
                          try go_wp2_with fail
                          go_meet
                          case rel => exact ⟨rfl, HWC75⟩
                        · replace HB74 := Lib.hid (ifF (bF hc76) HB74.out)
                          have HK77 := Lib.hid hc76
                          cases Option.some.inj HB74.out
                          try go_wp2_with fail
                          go_meet
                          case rel => exact ⟨rfl, HWC75⟩
                      case rest =>
                        as_aux_lemma =>
                          obtain ⟨rfl, HWC75⟩ := hcut
                          rename World => W78
                          have hd := HWC75.out
                          replace HOA := Lib.hid (HOA.out.below hd)
                          replace HD := Lib.hid (HD.out.trans (hd.mono HD.out.size))
                          clear hd
                          go_upto_if 59 with (fail)
                          go_cut [13] (fun q79 wr => q79 = .int .i64 x71 ∧ Hid (Below W78.heap.size W78 wr))
                          case first =>
                            have HWC81 := Lib.hid (Below.refl W78.heap.size W78)
                            cases b73
                            · replace HJ72 := Lib.hid (ifF Bool.false_ne_true HJ72.out)
                              try go_wp2_with fail
                              cases Option.some.inj HJ72.out
                              go_meet
                              case rel => exact ⟨rfl, HWC81⟩
                            · replace HJ72 := Lib.hid (ifT rfl HJ72.out)
                              obtain ⟨y84, hy82, hm⟩ := obind HJ72.out
                              replace HJ72 := Lib.hid hm; clear hm
                              have HC83 := R3_Ring_ok W78  hy82
                              clear hy82
                              replace HC83 := Lib.hid HC83
                              go_wp2_with fail
                              refine HC83.out.mono ?_; rintro e W85 ⟨V86, rfl, ho, hd⟩
                              replace HOA := Lib.hid (HOA.out.call hd HD.out.size ho); clear ho
                              replace HD := Lib.hid (HD.out.trans (hd.mono HD.out.size))
                              replace HWC81 := Lib.hid (HWC81.out.trans (hd.mono HWC81.out.size))
                              clear hd
                              go_wp2_with fail
                              obtain ⟨o88, ho, hm⟩ := obind HJ72.out
                              replace HJ72 := Lib.hid hm; have HL1 := Lib.hid ho; clear hm ho
                              go_loopg [13] F (fun gg ux90 wr => ∃ (x89 : Int), ux90 = .int .i64 x89 ∧ Hid (Below W85.heap.size W85 wr) ∧ Hid (L4_BruijnSays_L1 F (v2) (y84) gg x89 = some o88))
                              case atStart => exact ⟨0, rfl, (Lib.hid (Below.refl _ _)), HL1⟩
                              case round =>
                                obtain ⟨x89, rfl, HW1, HL1⟩ := hrel
                                rename World => W91
                                have hd := HW1.out
                                replace HOA := Lib.hid (HOA.out.below hd)
                                replace HD := Lib.hid (HD.out.trans (hd.mono HD.out.size))
                                replace HWC81 := Lib.hid (HWC81.out.trans (hd.mono HWC81.out.size))
                                clear hd
                                cases gk with
                                | zero => exact absurd ((L4_BruijnSays_L1_0 ..).symm.trans HL1.out) (by intro h; cases h)
                                | succ g1 =>
                                  replace HL1 := Lib.hid ((L4_BruijnSays_L1_s ..).symm.trans HL1.out)
                                  go_wp2_with fail
                                  obtain ⟨o92, ho, hm⟩ := obind HL1.out
                                  replace HL1 := Lib.hid hm; have HL2 := Lib.hid ho; clear hm ho
                                  go_loopg [15, 16] F (fun gg ux95 ux96 wr => ∃ (x93 : Bool) (x94 : Int), ux95 = .bool x93 ∧ ux96 = .int .i64 x94 ∧ Hid (Below W91.heap.size W91 wr) ∧ Hid (L4_BruijnSays_L2 F (v2) (x89) (y84) gg x93 x94 = some o92))
                                  case atStart => exact ⟨true, 0, rfl, rfl, (Lib.hid (Below.refl _ _)), HL2⟩
                                  case round =>
                                    obtain ⟨x93, x94, rfl, rfl, HW2, HL2⟩ := hrel
                                    rename World => W97
                                    have hd := HW2.out
                                    replace HOA := Lib.hid (HOA.out.below hd)
                                    replace HD := Lib.hid (HD.out.trans (hd.mono HD.out.size))
                                    replace HWC81 := Lib.hid (HWC81.out.trans (hd.mono HWC81.out.size))
                                    replace HW1 := Lib.hid (HW1.out.trans (hd.mono HW1.out.size))
                                    clear hd
                                    cases gk with
                                    | zero => exact absurd ((L4_BruijnSays_L2_0 ..).symm.trans HL2.out) (by intro h; cases h)
                                    | succ g2 =>
                                      replace HL2 := Lib.hid ((L4_BruijnSays_L2_s ..).symm.trans HL2.out)
                                      by_cases hc98 : x94 < ((v2).length : Int)
                                      · replace HL2 := Lib.hid (ifT hc98 HL2.out)
                                        have HK99 := Lib.hid hc98
                                        try go_wp2_with fail
                                        try clear hc98
                                        obtain ⟨b100, hb, hm⟩ := obind HL2.out
                                        replace HL2 := Lib.hid hm; have HB101 := Lib.hid hb; clear hm hb
                                        cases x93
                                        · replace HB101 := Lib.hid (ifF Bool.false_ne_true HB101.out)
                                          obtain rfl := Option.some.inj HB101.out
                                          go_quiet (fail)
                                          generalize hW : World.drewN W97 _ = W102
                                          have hd : Dr W97 W102 := ⟨_, hW.symm⟩
                                          clear hW
                                          replace HOA := Lib.hid (HOA.out.below (hd.below _))
                                          replace HD := Lib.hid (HD.out.trans ((hd.below _).mono HD.out.size))
                                          replace HWC81 := Lib.hid (HWC81.out.trans ((hd.below _).mono HWC81.out.size))
                                          replace HW1 := Lib.hid (HW1.out.trans ((hd.below _).mono HW1.out.size))
                                          replace HW2 := Lib.hid (HW2.out.trans ((hd.below _).mono HW2.out.size))
                                          clear hd
                                          go_wp2_with fail
                                          go_roundg g2
                                          case measure => omega
                                          case rel => exact ⟨false, (wrap64 (x94 + 1)), rfl, rfl, HW2, HL2⟩
                                        · replace HB101 := Lib.hid (ifT rfl HB101.out)
                                          obtain ⟨A103, cap104, he, _⟩ := HP.open_I HOA.out (List.Mem.head _)
                                          subst he
                                          obtain ⟨y105, hy106, hm⟩ := obind HB101.out
                                          replace HB101 := Lib.hid hm; clear hm
                                          obtain ⟨f107, hy106⟩ := md_some hy106; subst hy106
                                          obtain ⟨y108, hy109, hm⟩ := obind HB101.out
                                          replace HB101 := Lib.hid hm; clear hm
                                          obtain ⟨b110, o111, ea112, _, f113, f114, f115⟩ := ReadsI.ix (HP.rd_I HOA.out (List.Mem.head _)) hy109
                                          cases ea112
                                          try simp only [Nat.zero_add, Nat.add_zero, Int.toNat_natCast, Int.toNat_zero, Int.toNat_one] at f115
                                          try rw [← HP.len_I HOA.out (List.Mem.head _)] at f114
                                          have HY117 := Lib.hid hy109; clear hy109
                                          obtain ⟨y118, hy119, hm⟩ := obind HB101.out
                                          replace HB101 := Lib.hid hm; clear hm
                                          obtain ⟨b120, o121, ea122, _, f123, f124, f125⟩ := ReadsI.ix (rdI HD.out HR2.out) hy119
                                          cases ea122
                                          try simp only [Nat.zero_add, Nat.add_zero, Int.toNat_natCast, Int.toNat_zero, Int.toNat_one] at f125
                                          have HY127 := Lib.hid hy119; clear hy119
                                          rcases Bool.eq_false_or_eq_true (y108 == y118) with hc128 | hc128
                                          · replace HB101 := Lib.hid (ifT hc128 HB101.out)
                                            have HK129 := Lib.hid hc128
                                            obtain rfl := Option.some.inj HB101.out
                                            go_quiet (fail)
                                            generalize hW : World.drewN W97 _ = W130
                                            have hd : Dr W97 W130 := ⟨_, hW.symm⟩
                                            clear hW
                                            try clear f107 f113 f114 f115 f123 f124 f125 hc128
                                            replace HOA := Lib.hid (HOA.out.below (hd.below _))
                                            replace HD := Lib.hid (HD.out.trans ((hd.below _).mono HD.out.size))
                                            replace HWC81 := Lib.hid (HWC81.out.trans ((hd.below _).mono HWC81.out.size))
                                            replace HW1 := Lib.hid (HW1.out.trans ((hd.below _).mono HW1.out.size))
                                            replace HW2 := Lib.hid (HW2.out.trans ((hd.below _).mono HW2.out.size))
                                            clear hd
                                            go_wp2_with fail
                                            go_roundg g2
                                            case measure => omega
                                            case rel => exact ⟨true, (wrap64 (x94 + 1)), rfl, rfl, HW2, HL2⟩
                                          · replace HB101 := Lib.hid (ifF (bF hc128) HB101.out)
                                            have HK129 := Lib.hid hc128
                                            obtain rfl := Option.some.inj HB101.out
                                            go_quiet (fail)
                                            generalize hW : World.drewN W97 _ = W131
                                            have hd : Dr W97 W131 := ⟨_, hW.symm⟩
                                            clear hW
                                            try clear f107 f113 f114 f115 f123 f124 f125 hc128
                                            replace HOA := Lib.hid (HOA.out.below (hd.below _))
                                            replace HD := Lib.hid (HD.out.trans ((hd.below _).mono HD.out.size))
                                            replace HWC81 := Lib.hid (HWC81.out.trans ((hd.below _).mono HWC81.out.size))
                                            replace HW1 := Lib.hid (HW1.out.trans ((hd.below _).mono HW1.out.size))
                                            replace HW2 := Lib.hid (HW2.out.trans ((hd.below _).mono HW2.out.size))
                                            clear hd
                                            go_wp2_with fail
                                            go_roundg g2
                                            case measure => omega
                                            case rel => exact ⟨false, (wrap64 (x94 + 1)), rfl, rfl, HW2, HL2⟩
                                      · replace HL2 := Lib.hid (ifF hc98 HL2.out)
                                        have hc98d := decide_eq_false hc98
                                        have HK99 := Lib.hid hc98
                                        obtain rfl := Option.some.inj HL2.out
                                        have hm := HL1.out; try dsimp only at hm
                                        replace HL1 := Lib.hid hm; clear hm
                                        cases x93
                                        · replace HL1 := Lib.hid (ifF Bool.false_ne_true HL1.out)
                                          go_wp2_with fail
                                          try clear hc98 hc98d
                                          go_roundg g1
                                          case measure => omega
                                          case rel => exact ⟨(wrap64 (x89 + 1)), rfl, HW1, HL1⟩
                                        · replace HL1 := Lib.hid (ifT rfl HL1.out)
                                          obtain rfl := Option.some.inj HL1.out
                                          have hm := HJ72.out; try dsimp only at hm
                                          replace HJ72 := Lib.hid hm; clear hm
                                          try go_wp2_with fail
                                          try clear hc98 hc98d
                                          cases Option.some.inj HJ72.out
                                          go_meet
                                          case rel => exact ⟨rfl, HWC81⟩
                          case rest =>
                            as_aux_lemma =>
                              obtain ⟨rfl, HWC81⟩ := hcut
                              rename World => W132
                              have hd := HWC81.out
                              replace HOA := Lib.hid (HOA.out.below hd)
                              replace HD := Lib.hid (HD.out.trans (hd.mono HD.out.size))
                              clear hd
                              obtain ⟨⟨y135, y136⟩, hy133, hm⟩ := obind HM.out
                              dsimp only at hm
                              replace HM := Lib.hid hm; clear hm
                              have HC134 := bFind_ok W132 cap2 (rdI HD.out HR2.out) hy133
                              clear hy133
                              replace HC134 := Lib.hid HC134
                              go_wp2_with fail
                              refine HC134.out.mono ?_; rintro e W137 ⟨rfl, hd⟩
                              replace HOA := Lib.hid (HOA.out.below hd)
                              replace HD := Lib.hid (HD.out.trans (hd.mono HD.out.size))
                              clear hd
                              obtain ⟨b138, hb, hm⟩ := obind HM.out
                              replace HM := Lib.hid hm; have HB139 := Lib.hid hb; clear hm hb
                              obtain ⟨b140, hb, hm⟩ := obind HB139.out
                              replace HB139 := Lib.hid hm; have HB141 := Lib.hid hb; clear hm hb
                              obtain ⟨b142, hb, hm⟩ := obind HB141.out
                              replace HB141 := Lib.hid hm; have HB143 := Lib.hid hb; clear hm hb
                              cases y9
                              · replace HB143 := Lib.hid (ifF Bool.false_ne_true HB143.out)
                                obtain rfl := Option.some.inj HB143.out
                                replace HB141 := Lib.hid (ifF (by first | exact Bool.false_ne_true | exact not_false) HB141.out)
                                obtain rfl := Option.some.inj HB141.out
                                replace HB139 := Lib.hid (ifF (by first | exact Bool.false_ne_true | exact not_false) HB139.out)
                                obtain rfl := Option.some.inj HB139.out
                                obtain rfl := Option.some.inj HM.out
                                go_wp2_with fail
                                go_ret
                                exact ⟨rfl, HD.out⟩
                              · replace HB143 := Lib.hid (ifT rfl HB143.out)
                                cases b37
                                · replace HB143 := Lib.hid (ifF Bool.false_ne_true HB143.out)
                                  obtain rfl := Option.some.inj HB143.out
                                  replace HB141 := Lib.hid (ifF (by first | exact Bool.false_ne_true | exact not_false) HB141.out)
                                  obtain rfl := Option.some.inj HB141.out
                                  replace HB139 := Lib.hid (ifF (by first | exact Bool.false_ne_true | exact not_false) HB139.out)
                                  obtain rfl := Option.some.inj HB139.out
                                  obtain rfl := Option.some.inj HM.out
                                  go_wp2_with fail
                                  go_ret
                                  exact ⟨rfl, HD.out⟩
                                · replace HB143 := Lib.hid (ifT rfl HB143.out)
                                  obtain rfl := Option.some.inj HB143.out
                                  replace HB141 := Lib.hid (ifT (by first | rfl | trivial) HB141.out)
                                  obtain ⟨y146, hy144, hm⟩ := obind HB141.out
                                  replace HB141 := Lib.hid hm; clear hm
                                  have HC145 := mErr_ok W137 (HTC.out.go HD.out)  hy144
                                  clear hy144
                                  replace HC145 := Lib.hid HC145
                                  go_wp2_with fail
                                  refine HC145.out.mono ?_; rintro e W147 ⟨rfl, hd⟩
                                  replace HOA := Lib.hid (HOA.out.below hd)
                                  replace HD := Lib.hid (HD.out.trans (hd.mono HD.out.size))
                                  clear hd
                                  cases y146
                                  · replace HB141 := Lib.hid (ifF Bool.false_ne_true HB141.out)
                                    obtain rfl := Option.some.inj HB141.out
                                    replace HB139 := Lib.hid (ifF (by first | exact Bool.false_ne_true | exact not_false) HB139.out)
                                    obtain rfl := Option.some.inj HB139.out
                                    obtain rfl := Option.some.inj HM.out
                                    go_wp2_with fail
                                    go_ret
                                    exact ⟨rfl, HD.out⟩
                                  · replace HB141 := Lib.hid (ifT rfl HB141.out)
                                    obtain rfl := Option.some.inj HB141.out
                                    replace HB139 := Lib.hid (ifT (by first | rfl | trivial) HB139.out)
                                    rcases Bool.eq_false_or_eq_true (y135 == x71) with hc148 | hc148
                                    · replace HB139 := Lib.hid (ifT hc148 HB139.out)
                                      have HK149 := Lib.hid hc148
                                      obtain rfl := Option.some.inj HB139.out
                                      obtain rfl := Option.some.inj HM.out
                                      go_wp2_with fail
                                      go_ret
                                      exact ⟨(by first | rfl | (refine congrArg (fun b => Ending.returned (Value.bool b)) ?_; first | (exact decide_eq_true (by omega)) | (exact decide_eq_false (by omega)))), HD.out⟩
                                    · replace HB139 := Lib.hid (ifF (bF hc148) HB139.out)
                                      have HK149 := Lib.hid hc148
                                      obtain rfl := Option.some.inj HB139.out
                                      obtain rfl := Option.some.inj HM.out
                                      go_wp2_with fail
                                      go_ret
                                      exact ⟨(by first | rfl | (refine congrArg (fun b => Ending.returned (Value.bool b)) ?_; first | (exact decide_eq_true (by omega)) | (exact decide_eq_false (by omega)))), HD.out⟩
end Go.Proofs.YtnfijblmigjlhaaDoor
