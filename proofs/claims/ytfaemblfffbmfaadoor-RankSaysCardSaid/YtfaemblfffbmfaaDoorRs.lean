import Derived.Test.YtfaemblfffbmfaaDoorRs1
import Derived.Test.YtfaemblfffbmfaaDoorR3
import Derived.Test.YtfaemblfffbmfaaDoorR4
import Derived.Test.YtfaemblfffbmfaaDoorR6
import Derived.Test.YtfaemblfffbmfaaDoorErr
set_option linter.all false
set_option maxRecDepth 100000
namespace Go.Proofs.YtfaemblfffbmfaaDoor
open Go.RowKit
def L4_RankSays (F : Nat) (v0 : Int) (v1 : List (List Int)) (v2 : List Int) : Option (Bool) := (R3_Lists F (v0) (v1)).bind fun y1 => (rank_Check F (v0) (v1)).bind fun y2 => (mErr (y2) (y1)).bind fun y3 => (rank_Fair F (v0) (v1)).bind fun y4 => ((mErr (y4.2) (y1)).bind fun y6 => if y6 = true then (if (y1 == 0) = true then (R3_Fair F (v0) (v1)).bind fun y8 => if y8 = true then some true else some false else some false).bind fun b7 => if (y4.1 == b7) = true then some true else some false else some false).bind fun b5 => ((if (y1 == 0) = true then if (((v2).length : Int) != v0) = true then some true else some false else some false).bind fun b10 => if b10 = true then some (3) else some (y1)).bind fun o9 => ((if (o9 == 0) = true then (R1_All F (v2) (0) (20)).bind fun y13 => if y13 = true then some false else some true else some false).bind fun b12 => if b12 = true then some (1) else some (o9)).bind fun o11 => ((if (o11 == 0) = true then some true else some false).bind fun b15 => if b15 = true then (R3_Greedy F (v0) (v1) (v2)).bind fun y16 => (R3_Best F (v0) (v1) (v2)).bind fun y17 => some (y16.1, y16.2, y17) else some ([], 0, 0)).bind fun o14 => (rank_Greedy F (v0) (v1) (v2)).bind fun y18 => (((mErr (y18.2.2) (o11)).bind fun y21 => if y21 = true then (SE_Ints F (y18.1) (o14.1)).bind fun y22 => if y22 = true then some true else some false else some false).bind fun b20 => if b20 = true then if (y18.2.1 == o14.2.1) = true then some true else some false else some false).bind fun b19 => (rank_Best F (v0) (v1) (v2)).bind fun y23 => ((((if y3 = true then if b5 = true then some true else some false else some false).bind fun b27 => if b27 = true then if b19 = true then some true else some false else some false).bind fun b26 => if b26 = true then (mErr (y23.2) (o11)).bind fun y28 => if y28 = true then some true else some false else some false).bind fun b25 => if b25 = true then if (y23.1 == o14.2.2) = true then some true else some false else some false).bind fun b24 => some (b24)
set_option maxRecDepth 100000 in
set_option maxHeartbeats 4000000 in
theorem L4_RankSays_ok {F : Nat} {v0 : Int} {v1 : List (List Int)} {A1 : Option Addr} {v2 : List Int} {A2 : Option Addr} {r : Bool} (w : World) (htc : TyCell w) (cap1 : Nat) (hr1 : ReadsR w w.heap.size A1 v1) (cap2 : Nat) (hr2 : ReadsI w w.heap.size A2 v2) (h : L4_RankSays F v0 v1 v2 = some r) :
    Calls Tryd.prog 3 #[.int .i64 v0, .slice A1 v1.length cap1, .slice A2 v2.length cap2] w fun e w' => e = .returned (.bool r) ∧ Below w.heap.size w w' := by
  have HTC := Lib.hid htc; clear htc
  have HR1 := Lib.hid hr1; clear hr1
  have HR2 := Lib.hid hr2; clear hr2
  have HD := Lib.hid (Below.refl w.heap.size w)
  have HOA := Lib.hid (HP.nil (W := w) (B := w.heap.size))
  unfold L4_RankSays at h
  have HM := Lib.hid h; clear h
  go_enter Tryd.func3, Tryd.ntmps3
  obtain ⟨y3, hy1, hm⟩ := obind HM.out
  replace HM := Lib.hid hm; clear hm
  have HC2 := R3_Lists_ok w cap1 (rdR HD.out HR1.out) hy1
  clear hy1
  replace HC2 := Lib.hid HC2
  go_wp2_with fail
  refine HC2.out.mono ?_; rintro e W4 ⟨rfl, hd⟩
  replace HOA := Lib.hid (HOA.out.below (hd.below _))
  replace HD := Lib.hid (HD.out.trans ((hd.below _).mono HD.out.size))
  clear hd
  obtain ⟨y7, hy5, hm⟩ := obind HM.out
  replace HM := Lib.hid hm; clear hm
  have HC6 := rank_Check_ok W4 cap1 (rdR HD.out HR1.out) hy5
  clear hy5
  replace HC6 := Lib.hid HC6
  obtain ⟨y10, hy8, hm⟩ := obind HM.out
  replace HM := Lib.hid hm; clear hm
  have HC9 := mErr_ok W4 (HTC.out.go HD.out)  hy8
  clear hy8
  replace HC9 := Lib.hid HC9
  go_wp2_with fail
  refine HC6.out.mono ?_; rintro e w' ⟨rfl, rfl⟩
  go_wp2_with fail
  refine HC9.out.mono ?_; rintro e W11 ⟨rfl, hd⟩
  replace HOA := Lib.hid (HOA.out.below hd)
  replace HD := Lib.hid (HD.out.trans (hd.mono HD.out.size))
  clear hd
  obtain ⟨⟨y14, y15⟩, hy12, hm⟩ := obind HM.out
  dsimp only at hm
  replace HM := Lib.hid hm; clear hm
  have HC13 := rank_Fair_ok W11 cap1 (rdR HD.out HR1.out) hy12
  clear hy12
  replace HC13 := Lib.hid HC13
  go_wp2_with fail
  refine HC13.out.mono ?_; rintro e W16 ⟨rfl, hd⟩
  replace HOA := Lib.hid (HOA.out.below hd)
  replace HD := Lib.hid (HD.out.trans (hd.mono HD.out.size))
  clear hd
  go_upto_region 4 with (fail)
  obtain ⟨b17, hb, hm⟩ := obind HM.out
  replace HM := Lib.hid hm; have HB18 := Lib.hid hb; clear hm hb
  go_cut [11] (fun uq wr => uq = .bool b17 ∧ Hid (Below W16.heap.size W16 wr))
  case first =>
    have HWC19 := Lib.hid (Below.refl W16.heap.size W16)
    obtain ⟨y22, hy20, hm⟩ := obind HB18.out
    replace HB18 := Lib.hid hm; clear hm
    have HC21 := mErr_ok W16 (HTC.out.go HD.out)  hy20
    clear hy20
    replace HC21 := Lib.hid HC21
    go_wp2_with fail
    refine HC21.out.mono ?_; rintro e W23 ⟨rfl, hd⟩
    replace HOA := Lib.hid (HOA.out.below hd)
    replace HD := Lib.hid (HD.out.trans (hd.mono HD.out.size))
    replace HWC19 := Lib.hid (HWC19.out.trans (hd.mono HWC19.out.size))
    clear hd
    cases y22
    · replace HB18 := Lib.hid (ifF Bool.false_ne_true HB18.out)
      cases Option.some.inj HB18.out
      try go_wp2_with fail
      go_meet
      case rel => exact ⟨rfl, HWC19⟩
    · replace HB18 := Lib.hid (ifT rfl HB18.out)
      obtain ⟨b24, hb, hm⟩ := obind HB18.out
      replace HB18 := Lib.hid hm; have HB25 := Lib.hid hb; clear hm hb
      rcases Bool.eq_false_or_eq_true (y3 == 0) with hc26 | hc26
      · replace HB25 := Lib.hid (ifT hc26 HB25.out)
        have HK27 := Lib.hid hc26
        obtain ⟨y30, hy28, hm⟩ := obind HB25.out
        replace HB25 := Lib.hid hm; clear hm
        have HC29 := R3_Fair_ok W23 cap1 (rdR HD.out HR1.out) hy28
        clear hy28
        replace HC29 := Lib.hid HC29
        go_wp2_with fail
        refine HC29.out.mono ?_; rintro e W31 ⟨rfl, hd⟩
        try clear hc26
        replace HOA := Lib.hid (HOA.out.below hd)
        replace HD := Lib.hid (HD.out.trans (hd.mono HD.out.size))
        replace HWC19 := Lib.hid (HWC19.out.trans (hd.mono HWC19.out.size))
        clear hd
        cases y30
        · replace HB25 := Lib.hid (ifF Bool.false_ne_true HB25.out)
          obtain rfl := Option.some.inj HB25.out
          cases y14
          · replace HB18 := Lib.hid (ifT (by decide) HB18.out)
            cases Option.some.inj HB18.out
            try go_wp2_with fail
            go_meet
            case rel => exact ⟨rfl, HWC19⟩
          · replace HB18 := Lib.hid (ifF (by decide) HB18.out)
            cases Option.some.inj HB18.out
            try go_wp2_with fail
            go_meet
            case rel => exact ⟨rfl, HWC19⟩
        · replace HB25 := Lib.hid (ifT rfl HB25.out)
          obtain rfl := Option.some.inj HB25.out
          cases y14
          · replace HB18 := Lib.hid (ifF (by decide) HB18.out)
            cases Option.some.inj HB18.out
            try go_wp2_with fail
            go_meet
            case rel => exact ⟨rfl, HWC19⟩
          · replace HB18 := Lib.hid (ifT (by decide) HB18.out)
            cases Option.some.inj HB18.out
            try go_wp2_with fail
            go_meet
            case rel => exact ⟨rfl, HWC19⟩
      · replace HB25 := Lib.hid (ifF (bF hc26) HB25.out)
        have HK27 := Lib.hid hc26
        obtain rfl := Option.some.inj HB25.out
        cases y14
        · replace HB18 := Lib.hid (ifT (by decide) HB18.out)
          cases Option.some.inj HB18.out
          try go_wp2_with fail
          go_meet
          case rel => exact ⟨rfl, HWC19⟩
        · replace HB18 := Lib.hid (ifF (by decide) HB18.out)
          cases Option.some.inj HB18.out
          try go_wp2_with fail
          go_meet
          case rel => exact ⟨rfl, HWC19⟩
  case rest =>
    as_aux_lemma =>
      obtain ⟨rfl, HWC19⟩ := hcut
      rename World => W32
      have hd := HWC19.out
      replace HOA := Lib.hid (HOA.out.below hd)
      replace HD := Lib.hid (HD.out.trans (hd.mono HD.out.size))
      clear hd
      go_upto_region 5 with (fail)
      obtain ⟨x33, ho, hm⟩ := obind HM.out
      replace HM := Lib.hid hm; have HJ34 := Lib.hid ho; clear hm ho
      obtain ⟨b35, hb, hm⟩ := obind HJ34.out
      replace HJ34 := Lib.hid hm; have HB36 := Lib.hid hb; clear hm hb
      go_cut [53] (fun uq wr => uq = .bool b35 ∧ Hid (Below W32.heap.size W32 wr))
      case first =>
        have HWC37 := Lib.hid (Below.refl W32.heap.size W32)
        rcases Bool.eq_false_or_eq_true (y3 == 0) with hc38 | hc38
        · replace HB36 := Lib.hid (ifT hc38 HB36.out)
          have HK39 := Lib.hid hc38
          rcases Bool.eq_false_or_eq_true (((v2).length : Int) != v0) with hc40 | hc40
          · replace HB36 := Lib.hid (ifT hc40 HB36.out)
            have HK41 := Lib.hid hc40
            cases Option.some.inj HB36.out
            try go_wp2_with fail
            go_meet
            case rel => exact ⟨rfl, HWC37⟩
          · replace HB36 := Lib.hid (ifF (bF hc40) HB36.out)
            have HK41 := Lib.hid hc40
            cases Option.some.inj HB36.out
            try go_wp2_with fail
            go_meet
            case rel => exact ⟨rfl, HWC37⟩
        · replace HB36 := Lib.hid (ifF (bF hc38) HB36.out)
          have HK39 := Lib.hid hc38
          cases Option.some.inj HB36.out
          try go_wp2_with fail
          go_meet
          case rel => exact ⟨rfl, HWC37⟩
      case rest =>
        as_aux_lemma =>
          obtain ⟨rfl, HWC37⟩ := hcut
          rename World => W42
          have hd := HWC37.out
          replace HOA := Lib.hid (HOA.out.below hd)
          replace HD := Lib.hid (HD.out.trans (hd.mono HD.out.size))
          clear hd
          go_upto_if 53 with (fail)
          go_cut [7] (fun q43 wr => q43 = .int .i64 x33 ∧ Hid (Below W42.heap.size W42 wr))
          case first =>
            have HWC45 := Lib.hid (Below.refl W42.heap.size W42)
            cases b35
            · replace HJ34 := Lib.hid (ifF Bool.false_ne_true HJ34.out)
              try go_wp2_with fail
              cases Option.some.inj HJ34.out
              go_meet
              case rel => exact ⟨rfl, HWC45⟩
            · replace HJ34 := Lib.hid (ifT rfl HJ34.out)
              try go_wp2_with fail
              cases Option.some.inj HJ34.out
              go_meet
              case rel => exact ⟨rfl, HWC45⟩
          case rest =>
            as_aux_lemma =>
              obtain ⟨rfl, HWC45⟩ := hcut
              rename World => W46
              have hd := HWC45.out
              replace HOA := Lib.hid (HOA.out.below hd)
              replace HD := Lib.hid (HD.out.trans (hd.mono HD.out.size))
              clear hd
              go_upto_region 7 with (fail)
              obtain ⟨x47, ho, hm⟩ := obind HM.out
              replace HM := Lib.hid hm; have HJ48 := Lib.hid ho; clear hm ho
              obtain ⟨b49, hb, hm⟩ := obind HJ48.out
              replace HJ48 := Lib.hid hm; have HB50 := Lib.hid hb; clear hm hb
              go_cut [60] (fun uq wr => uq = .bool b49 ∧ Hid (Below W46.heap.size W46 wr))
              case first =>
                have HWC51 := Lib.hid (Below.refl W46.heap.size W46)
                rcases Bool.eq_false_or_eq_true (x33 == 0) with hc52 | hc52
                · replace HB50 := Lib.hid (ifT hc52 HB50.out)
                  have HK53 := Lib.hid hc52
                  obtain ⟨y56, hy54, hm⟩ := obind HB50.out
                  replace HB50 := Lib.hid hm; clear hm
                  have HC55 := R1_All_ok W46 cap2 (rdI HD.out HR2.out) hy54
                  clear hy54
                  replace HC55 := Lib.hid HC55
                  cases y56
                  · replace HB50 := Lib.hid (ifF Bool.false_ne_true HB50.out)
                    cases Option.some.inj HB50.out
                    go_wp2_with fail
                    refine HC55.out.mono ?_; rintro e w' ⟨rfl, rfl⟩
                    try go_wp2_with fail
                    go_meet
                    case rel => exact ⟨rfl, HWC51⟩
                  · replace HB50 := Lib.hid (ifT rfl HB50.out)
                    cases Option.some.inj HB50.out
                    go_wp2_with fail
                    refine HC55.out.mono ?_; rintro e w' ⟨rfl, rfl⟩
                    try go_wp2_with fail
                    go_meet
                    case rel => exact ⟨rfl, HWC51⟩
                · replace HB50 := Lib.hid (ifF (bF hc52) HB50.out)
                  have HK53 := Lib.hid hc52
                  cases Option.some.inj HB50.out
                  try go_wp2_with fail
                  go_meet
                  case rel => exact ⟨rfl, HWC51⟩
              case rest =>
                as_aux_lemma =>
                  obtain ⟨rfl, HWC51⟩ := hcut
                  rename World => W57
                  have hd := HWC51.out
                  replace HOA := Lib.hid (HOA.out.below hd)
                  replace HD := Lib.hid (HD.out.trans (hd.mono HD.out.size))
                  clear hd
                  go_upto_if 60 with (fail)
                  go_cut [7] (fun q58 wr => q58 = .int .i64 x47 ∧ Hid (Below W57.heap.size W57 wr))
                  case first =>
                    have HWC60 := Lib.hid (Below.refl W57.heap.size W57)
                    cases b49
                    · replace HJ48 := Lib.hid (ifF Bool.false_ne_true HJ48.out)
                      try go_wp2_with fail
                      cases Option.some.inj HJ48.out
                      go_meet
                      case rel => exact ⟨rfl, HWC60⟩
                    · replace HJ48 := Lib.hid (ifT rfl HJ48.out)
                      try go_wp2_with fail
                      cases Option.some.inj HJ48.out
                      go_meet
                      case rel => exact ⟨rfl, HWC60⟩
                  case rest =>
                    as_aux_lemma =>
                      obtain ⟨rfl, HWC60⟩ := hcut
                      rename World => W61
                      have hd := HWC60.out
                      replace HOA := Lib.hid (HOA.out.below hd)
                      replace HD := Lib.hid (HD.out.trans (hd.mono HD.out.size))
                      clear hd
                      replace HOA := Lib.hid (show HP _ _ (.fl (owI (.slice none 0 0) ([])) :: _) from HOA.out.pushNil _ _)
                      go_upto_region 12 with (fail)
                      obtain ⟨⟨x63, x64, x65⟩, ho, hm⟩ := obind HM.out
                      try simp only [] at hm
                      replace HM := Lib.hid hm; have HJ66 := Lib.hid ho; clear hm ho
                      obtain ⟨b67, hb, hm⟩ := obind HJ66.out
                      replace HJ66 := Lib.hid hm; have HB68 := Lib.hid hb; clear hm hb
                      go_cut [62] (fun uq wr => uq = .bool b67 ∧ Hid (Below W61.heap.size W61 wr))
                      case first =>
                        have HWC69 := Lib.hid (Below.refl W61.heap.size W61)
                        rcases Bool.eq_false_or_eq_true (x47 == 0) with hc70 | hc70
                        · replace HB68 := Lib.hid (ifT hc70 HB68.out)
                          have HK71 := Lib.hid hc70
                          cases Option.some.inj HB68.out
                          try go_wp2_with fail
                          go_meet
                          case rel => exact ⟨rfl, HWC69⟩
                        · replace HB68 := Lib.hid (ifF (bF hc70) HB68.out)
                          have HK71 := Lib.hid hc70
                          cases Option.some.inj HB68.out
                          try go_wp2_with fail
                          go_meet
                          case rel => exact ⟨rfl, HWC69⟩
                      case rest =>
                        as_aux_lemma =>
                          obtain ⟨rfl, HWC69⟩ := hcut
                          rename World => W72
                          have hd := HWC69.out
                          replace HOA := Lib.hid (HOA.out.below hd)
                          replace HD := Lib.hid (HD.out.trans (hd.mono HD.out.size))
                          clear hd
                          go_upto_if 62 with (fail)
                          go_cut [12, 13, 14] (fun q74 q75 q76 wr => ∃ (V73 : Value), V73 = q74 ∧ q75 = .int .i64 x64 ∧ q76 = .int .i64 x65 ∧ Hid (Below w.heap.size w wr) ∧ Hid (HP wr w.heap.size [.fl (owI V73 (x63))]) ∧ Hid (Below W72.heap.size W72 wr))
                          case first =>
                            have HWC77 := Lib.hid (Below.refl W72.heap.size W72)
                            cases b67
                            · replace HJ66 := Lib.hid (ifF Bool.false_ne_true HJ66.out)
                              try go_wp2_with fail
                              cases Option.some.inj HJ66.out
                              go_meet
                              case rel => exact ⟨(.slice none 0 0), rfl, rfl, rfl, HD, HOA, HWC77⟩
                            · replace HJ66 := Lib.hid (ifT rfl HJ66.out)
                              obtain ⟨⟨y80, y81⟩, hy78, hm⟩ := obind HJ66.out
                              dsimp only at hm
                              replace HJ66 := Lib.hid hm; clear hm
                              have HC79 := R3_Greedy_ok W72 cap1 (rdR HD.out HR1.out) cap2 (rdI HD.out HR2.out) hy78
                              clear hy78
                              replace HC79 := Lib.hid HC79
                              go_wp2_with fail
                              refine HC79.out.mono ?_; rintro e W82 ⟨V83, rfl, ho, hd⟩
                              replace HOA := Lib.hid (HOA.out.call hd HD.out.size ho); clear ho
                              replace HD := Lib.hid (HD.out.trans (hd.mono HD.out.size))
                              replace HWC77 := Lib.hid (HWC77.out.trans (hd.mono HWC77.out.size))
                              clear hd
                              obtain ⟨y87, hy85, hm⟩ := obind HJ66.out
                              replace HJ66 := Lib.hid hm; clear hm
                              have HC86 := R3_Best_ok W82 cap1 (rdR HD.out HR1.out) cap2 (rdI HD.out HR2.out) hy85
                              clear hy85
                              replace HC86 := Lib.hid HC86
                              go_wp2_with fail
                              refine HC86.out.mono ?_; rintro e W88 ⟨rfl, hd⟩
                              replace HOA := Lib.hid (HOA.out.below hd)
                              replace HD := Lib.hid (HD.out.trans (hd.mono HD.out.size))
                              replace HWC77 := Lib.hid (HWC77.out.trans (hd.mono HWC77.out.size))
                              clear hd
                              try go_wp2_with fail
                              replace HOA := Lib.hid (HOA.out.sub (.cons₂ _ (.cons _ .slnil)))
                              cases Option.some.inj HJ66.out
                              go_meet
                              case rel => exact ⟨V83, rfl, rfl, rfl, HD, HOA, HWC77⟩
                          case rest =>
                            as_aux_lemma =>
                              obtain ⟨V73, rfl, rfl, rfl, HD, HOA, HWC77⟩ := hcut
                              rename World => W89
                              have hd := HWC77.out
                              clear hd
                              obtain ⟨⟨y92, y93, y94⟩, hy90, hm⟩ := obind HM.out
                              dsimp only at hm
                              replace HM := Lib.hid hm; clear hm
                              have HC91 := rank_Greedy_ok W89 cap1 (rdR HD.out HR1.out) cap2 (rdI HD.out HR2.out) hy90
                              clear hy90
                              replace HC91 := Lib.hid HC91
                              go_wp2_with fail
                              refine HC91.out.mono ?_; rintro e W95 ⟨V96, rfl, ho, hd⟩
                              replace HOA := Lib.hid (HOA.out.call hd HD.out.size ho); clear ho
                              replace HD := Lib.hid (HD.out.trans (hd.mono HD.out.size))
                              clear hd
                              go_upto_region 16 with (fail)
                              obtain ⟨b98, hb, hm⟩ := obind HM.out
                              replace HM := Lib.hid hm; have HB99 := Lib.hid hb; clear hm hb
                              go_cut [17] (fun uq wr => uq = .bool b98 ∧ Hid (Below W95.heap.size W95 wr))
                              case first =>
                                have HWC100 := Lib.hid (Below.refl W95.heap.size W95)
                                obtain ⟨b101, hb, hm⟩ := obind HB99.out
                                replace HB99 := Lib.hid hm; have HB102 := Lib.hid hb; clear hm hb
                                obtain ⟨y105, hy103, hm⟩ := obind HB102.out
                                replace HB102 := Lib.hid hm; clear hm
                                have HC104 := mErr_ok W95 (HTC.out.go HD.out)  hy103
                                clear hy103
                                replace HC104 := Lib.hid HC104
                                go_wp2_with fail
                                refine HC104.out.mono ?_; rintro e W106 ⟨rfl, hd⟩
                                replace HOA := Lib.hid (HOA.out.below hd)
                                replace HD := Lib.hid (HD.out.trans (hd.mono HD.out.size))
                                replace HWC100 := Lib.hid (HWC100.out.trans (hd.mono HWC100.out.size))
                                clear hd
                                cases y105
                                · replace HB102 := Lib.hid (ifF Bool.false_ne_true HB102.out)
                                  obtain rfl := Option.some.inj HB102.out
                                  replace HB99 := Lib.hid (ifF (by first | exact Bool.false_ne_true | exact not_false) HB99.out)
                                  cases Option.some.inj HB99.out
                                  try go_wp2_with fail
                                  go_meet
                                  case rel => exact ⟨rfl, HWC100⟩
                                · replace HB102 := Lib.hid (ifT rfl HB102.out)
                                  obtain ⟨y109, hy107, hm⟩ := obind HB102.out
                                  replace HB102 := Lib.hid hm; clear hm
                                  obtain ⟨A110, cap111, he, _⟩ := HP.open_I HOA.out (List.Mem.head _)
                                  subst he
                                  obtain ⟨A112, cap113, he, _⟩ := HP.open_I HOA.out (List.Mem.tail _ (List.Mem.head _))
                                  subst he
                                  have HC108 := SE_Ints_ok W106 cap111 (HP.rd_I HOA.out (List.Mem.head _)) cap113 (HP.rd_I HOA.out (List.Mem.tail _ (List.Mem.head _))) hy107
                                  clear hy107
                                  replace HC108 := Lib.hid HC108
                                  go_wp2_with fail
                                  refine HC108.out.mono ?_; rintro e W114 ⟨rfl, hd⟩
                                  replace HOA := Lib.hid (HOA.out.below (hd.below _))
                                  replace HD := Lib.hid (HD.out.trans ((hd.below _).mono HD.out.size))
                                  replace HWC100 := Lib.hid (HWC100.out.trans ((hd.below _).mono HWC100.out.size))
                                  clear hd
                                  cases y109
                                  · replace HB102 := Lib.hid (ifF Bool.false_ne_true HB102.out)
                                    obtain rfl := Option.some.inj HB102.out
                                    replace HB99 := Lib.hid (ifF (by first | exact Bool.false_ne_true | exact not_false) HB99.out)
                                    cases Option.some.inj HB99.out
                                    try go_wp2_with fail
                                    go_meet
                                    case rel => exact ⟨rfl, HWC100⟩
                                  · replace HB102 := Lib.hid (ifT rfl HB102.out)
                                    obtain rfl := Option.some.inj HB102.out
                                    replace HB99 := Lib.hid (ifT (by first | rfl | trivial) HB99.out)
                                    rcases Bool.eq_false_or_eq_true (y93 == x64) with hc115 | hc115
                                    · replace HB99 := Lib.hid (ifT hc115 HB99.out)
                                      have HK116 := Lib.hid hc115
                                      cases Option.some.inj HB99.out
                                      try go_wp2_with fail
                                      go_meet
                                      case rel => exact ⟨rfl, HWC100⟩
                                    · replace HB99 := Lib.hid (ifF (bF hc115) HB99.out)
                                      have HK116 := Lib.hid hc115
                                      cases Option.some.inj HB99.out
                                      try go_wp2_with fail
                                      go_meet
                                      case rel => exact ⟨rfl, HWC100⟩
                              case rest =>
                                as_aux_lemma =>
                                  obtain ⟨rfl, HWC100⟩ := hcut
                                  rename World => W117
                                  have hd := HWC100.out
                                  replace HOA := Lib.hid (HOA.out.below hd)
                                  replace HD := Lib.hid (HD.out.trans (hd.mono HD.out.size))
                                  clear hd
                                  obtain ⟨⟨y120, y121⟩, hy118, hm⟩ := obind HM.out
                                  dsimp only at hm
                                  replace HM := Lib.hid hm; clear hm
                                  have HC119 := rank_Best_ok W117 cap1 (rdR HD.out HR1.out) cap2 (rdI HD.out HR2.out) hy118
                                  clear hy118
                                  replace HC119 := Lib.hid HC119
                                  go_wp2_with fail
                                  refine HC119.out.mono ?_; rintro e W122 ⟨rfl, hd⟩
                                  replace HOA := Lib.hid (HOA.out.below hd)
                                  replace HD := Lib.hid (HD.out.trans (hd.mono HD.out.size))
                                  clear hd
                                  obtain ⟨b123, hb, hm⟩ := obind HM.out
                                  replace HM := Lib.hid hm; have HB124 := Lib.hid hb; clear hm hb
                                  obtain ⟨b125, hb, hm⟩ := obind HB124.out
                                  replace HB124 := Lib.hid hm; have HB126 := Lib.hid hb; clear hm hb
                                  obtain ⟨b127, hb, hm⟩ := obind HB126.out
                                  replace HB126 := Lib.hid hm; have HB128 := Lib.hid hb; clear hm hb
                                  obtain ⟨b129, hb, hm⟩ := obind HB128.out
                                  replace HB128 := Lib.hid hm; have HB130 := Lib.hid hb; clear hm hb
                                  cases y10
                                  · replace HB130 := Lib.hid (ifF Bool.false_ne_true HB130.out)
                                    obtain rfl := Option.some.inj HB130.out
                                    replace HB128 := Lib.hid (ifF (by first | exact Bool.false_ne_true | exact not_false) HB128.out)
                                    obtain rfl := Option.some.inj HB128.out
                                    replace HB126 := Lib.hid (ifF (by first | exact Bool.false_ne_true | exact not_false) HB126.out)
                                    obtain rfl := Option.some.inj HB126.out
                                    replace HB124 := Lib.hid (ifF (by first | exact Bool.false_ne_true | exact not_false) HB124.out)
                                    obtain rfl := Option.some.inj HB124.out
                                    obtain rfl := Option.some.inj HM.out
                                    go_wp2_with fail
                                    go_ret
                                    exact ⟨rfl, HD.out⟩
                                  · replace HB130 := Lib.hid (ifT rfl HB130.out)
                                    cases b17
                                    · replace HB130 := Lib.hid (ifF Bool.false_ne_true HB130.out)
                                      obtain rfl := Option.some.inj HB130.out
                                      replace HB128 := Lib.hid (ifF (by first | exact Bool.false_ne_true | exact not_false) HB128.out)
                                      obtain rfl := Option.some.inj HB128.out
                                      replace HB126 := Lib.hid (ifF (by first | exact Bool.false_ne_true | exact not_false) HB126.out)
                                      obtain rfl := Option.some.inj HB126.out
                                      replace HB124 := Lib.hid (ifF (by first | exact Bool.false_ne_true | exact not_false) HB124.out)
                                      obtain rfl := Option.some.inj HB124.out
                                      obtain rfl := Option.some.inj HM.out
                                      go_wp2_with fail
                                      go_ret
                                      exact ⟨rfl, HD.out⟩
                                    · replace HB130 := Lib.hid (ifT rfl HB130.out)
                                      obtain rfl := Option.some.inj HB130.out
                                      replace HB128 := Lib.hid (ifT (by first | rfl | trivial) HB128.out)
                                      cases b98
                                      · replace HB128 := Lib.hid (ifF Bool.false_ne_true HB128.out)
                                        obtain rfl := Option.some.inj HB128.out
                                        replace HB126 := Lib.hid (ifF (by first | exact Bool.false_ne_true | exact not_false) HB126.out)
                                        obtain rfl := Option.some.inj HB126.out
                                        replace HB124 := Lib.hid (ifF (by first | exact Bool.false_ne_true | exact not_false) HB124.out)
                                        obtain rfl := Option.some.inj HB124.out
                                        obtain rfl := Option.some.inj HM.out
                                        go_wp2_with fail
                                        go_ret
                                        exact ⟨rfl, HD.out⟩
                                      · replace HB128 := Lib.hid (ifT rfl HB128.out)
                                        obtain rfl := Option.some.inj HB128.out
                                        replace HB126 := Lib.hid (ifT (by first | rfl | trivial) HB126.out)
                                        obtain ⟨y133, hy131, hm⟩ := obind HB126.out
                                        replace HB126 := Lib.hid hm; clear hm
                                        have HC132 := mErr_ok W122 (HTC.out.go HD.out)  hy131
                                        clear hy131
                                        replace HC132 := Lib.hid HC132
                                        go_wp2_with fail
                                        refine HC132.out.mono ?_; rintro e W134 ⟨rfl, hd⟩
                                        replace HOA := Lib.hid (HOA.out.below hd)
                                        replace HD := Lib.hid (HD.out.trans (hd.mono HD.out.size))
                                        clear hd
                                        cases y133
                                        · replace HB126 := Lib.hid (ifF Bool.false_ne_true HB126.out)
                                          obtain rfl := Option.some.inj HB126.out
                                          replace HB124 := Lib.hid (ifF (by first | exact Bool.false_ne_true | exact not_false) HB124.out)
                                          obtain rfl := Option.some.inj HB124.out
                                          obtain rfl := Option.some.inj HM.out
                                          go_wp2_with fail
                                          go_ret
                                          exact ⟨rfl, HD.out⟩
                                        · replace HB126 := Lib.hid (ifT rfl HB126.out)
                                          obtain rfl := Option.some.inj HB126.out
                                          replace HB124 := Lib.hid (ifT (by first | rfl | trivial) HB124.out)
                                          rcases Bool.eq_false_or_eq_true (y120 == x65) with hc135 | hc135
                                          · replace HB124 := Lib.hid (ifT hc135 HB124.out)
                                            have HK136 := Lib.hid hc135
                                            obtain rfl := Option.some.inj HB124.out
                                            obtain rfl := Option.some.inj HM.out
                                            go_wp2_with fail
                                            go_ret
                                            exact ⟨(by first | rfl | (refine congrArg (fun b => Ending.returned (Value.bool b)) ?_; first | (exact decide_eq_true (by omega)) | (exact decide_eq_false (by omega)) | (have q := hc135; rw [bne_iff_ne] at q ⊢; omega) | (have q := hc135; rw [bne_eq_false_iff_eq] at q ⊢; omega) | (have q := hc135; rw [beq_iff_eq] at q ⊢; omega) | (have q := hc135; rw [beq_eq_false_iff_ne] at q ⊢; omega))), HD.out⟩
                                          · replace HB124 := Lib.hid (ifF (bF hc135) HB124.out)
                                            have HK136 := Lib.hid hc135
                                            obtain rfl := Option.some.inj HB124.out
                                            obtain rfl := Option.some.inj HM.out
                                            go_wp2_with fail
                                            go_ret
                                            exact ⟨(by first | rfl | (refine congrArg (fun b => Ending.returned (Value.bool b)) ?_; first | (exact decide_eq_true (by omega)) | (exact decide_eq_false (by omega)) | (have q := hc135; rw [bne_iff_ne] at q ⊢; omega) | (have q := hc135; rw [bne_eq_false_iff_eq] at q ⊢; omega) | (have q := hc135; rw [beq_iff_eq] at q ⊢; omega) | (have q := hc135; rw [beq_eq_false_iff_ne] at q ⊢; omega))), HD.out⟩
end Go.Proofs.YtfaemblfffbmfaaDoor
