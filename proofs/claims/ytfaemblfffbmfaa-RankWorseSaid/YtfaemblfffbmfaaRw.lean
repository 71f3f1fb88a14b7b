import Derived.Test.YtfaemblfffbmfaaR8
import Derived.Test.YtfaemblfffbmfaaR7
set_option linter.all false
set_option maxRecDepth 100000
namespace Go.Proofs.Ytfaemblfffbmfaa
open Go.RowKit
def L4_RankWorse_L3 (F : Nat) (v0 : Int) (v8 : List Int) (v9 : List Int) : Nat → (List Int) → (Int) → Option (List Int × Int)
  | 0, _, _ => none
  | g+1, v10, v11 => if v11 < v0 then ((R1_Has F (v9) (v11)).bind fun y14 => if y14 = true then ((R1_Has F (v8) (v11)).bind fun y15 => if y15 = true then (app v10 7).bind fun y16 => L4_RankWorse_L3 F v0 v8 v9 g (y16) ((wrap64 (v11 + 1))) else (app v10 6).bind fun y17 => L4_RankWorse_L3 F v0 v8 v9 g (y17) ((wrap64 (v11 + 1)))) else ((R1_Has F (v8) (v11)).bind fun y18 => if y18 = true then (app v10 7).bind fun y19 => L4_RankWorse_L3 F v0 v8 v9 g (y19) ((wrap64 (v11 + 1))) else (app v10 0).bind fun y20 => L4_RankWorse_L3 F v0 v8 v9 g (y20) ((wrap64 (v11 + 1))))) else some (v10, v11)
theorem L4_RankWorse_L3_0 (F : Nat) (v0 : Int) (v8 : List Int) (v9 : List Int) (v10 : List Int) (v11 : Int) : L4_RankWorse_L3 F v0 v8 v9 0 v10 v11 = none := by rw [L4_RankWorse_L3]
theorem L4_RankWorse_L3_s (F g : Nat) (v0 : Int) (v8 : List Int) (v9 : List Int) (v10 : List Int) (v11 : Int) : L4_RankWorse_L3 F v0 v8 v9 (g+1) v10 v11 = (if v11 < v0 then ((R1_Has F (v9) (v11)).bind fun y14 => if y14 = true then ((R1_Has F (v8) (v11)).bind fun y15 => if y15 = true then (app v10 7).bind fun y16 => L4_RankWorse_L3 F v0 v8 v9 g (y16) ((wrap64 (v11 + 1))) else (app v10 6).bind fun y17 => L4_RankWorse_L3 F v0 v8 v9 g (y17) ((wrap64 (v11 + 1)))) else ((R1_Has F (v8) (v11)).bind fun y18 => if y18 = true then (app v10 7).bind fun y19 => L4_RankWorse_L3 F v0 v8 v9 g (y19) ((wrap64 (v11 + 1))) else (app v10 0).bind fun y20 => L4_RankWorse_L3 F v0 v8 v9 g (y20) ((wrap64 (v11 + 1))))) else some (v10, v11)) := by rw [L4_RankWorse_L3]
def L4_RankWorse_L2 (F : Nat) (v0 : Int) (v1 : List (List Int)) (v6 : Int) : Nat → (Int) → Option ((Int) ⊕ (Bool))
  | 0, _ => none
  | g+1, v7 => (R3_Power F (v0)).bind fun y7 => if v7 < y7 then (R3_Members F (v6)).bind fun y8 => (R3_Members F (v7)).bind fun y9 => (((if ((y9).length : Int) ≤ ((y8).length : Int) then some true else (R3_May F (v1) (y8)).bind fun y12 => if y12 = true then some false else some true).bind fun b11 => if b11 = true then some true else (R3_May F (v1) (y9)).bind fun y13 => if y13 = true then some false else some true).bind fun b10 => if b10 = true then L4_RankWorse_L2 F v0 v1 v6 g ((wrap64 (v7 + 1))) else (L4_RankWorse_L3 F (v0) (y8) (y9) F ([]) (0)).bind fun o21 => (rank_Greedy F (v0) (v1) (o21.1)).bind fun y22 => (rank_Best F (v0) (v1) (o21.1)).bind fun y23 => ((if (y22.2.2 != 0) = true then some true else if (y23.2 != 0) = true then some true else some false).bind fun b24 => if b24 = true then some (.inr (false)) else (if y22.2.1 < y23.1 then some (.inr (true)) else L4_RankWorse_L2 F v0 v1 v6 g ((wrap64 (v7 + 1)))))) else some (.inl (v7))
theorem L4_RankWorse_L2_0 (F : Nat) (v0 : Int) (v1 : List (List Int)) (v6 : Int) (v7 : Int) : L4_RankWorse_L2 F v0 v1 v6 0 v7 = none := by rw [L4_RankWorse_L2]
theorem L4_RankWorse_L2_s (F g : Nat) (v0 : Int) (v1 : List (List Int)) (v6 : Int) (v7 : Int) : L4_RankWorse_L2 F v0 v1 v6 (g+1) v7 = ((R3_Power F (v0)).bind fun y7 => if v7 < y7 then (R3_Members F (v6)).bind fun y8 => (R3_Members F (v7)).bind fun y9 => (((if ((y9).length : Int) ≤ ((y8).length : Int) then some true else (R3_May F (v1) (y8)).bind fun y12 => if y12 = true then some false else some true).bind fun b11 => if b11 = true then some true else (R3_May F (v1) (y9)).bind fun y13 => if y13 = true then some false else some true).bind fun b10 => if b10 = true then L4_RankWorse_L2 F v0 v1 v6 g ((wrap64 (v7 + 1))) else (L4_RankWorse_L3 F (v0) (y8) (y9) F ([]) (0)).bind fun o21 => (rank_Greedy F (v0) (v1) (o21.1)).bind fun y22 => (rank_Best F (v0) (v1) (o21.1)).bind fun y23 => ((if (y22.2.2 != 0) = true then some true else if (y23.2 != 0) = true then some true else some false).bind fun b24 => if b24 = true then some (.inr (false)) else (if y22.2.1 < y23.1 then some (.inr (true)) else L4_RankWorse_L2 F v0 v1 v6 g ((wrap64 (v7 + 1)))))) else some (.inl (v7))) := by rw [L4_RankWorse_L2]
def L4_RankWorse_L1 (F : Nat) (v0 : Int) (v1 : List (List Int)) : Nat → (Int) → Option ((Int) ⊕ (Bool))
  | 0, _ => none
  | g+1, v6 => (R3_Power F (v0)).bind fun y6 => if v6 < y6 then (L4_RankWorse_L2 F (v0) (v1) (v6) F (0)).bind fun o25 => match o25 with | .inr r => some (.inr (r)) | .inl o25 => L4_RankWorse_L1 F v0 v1 g ((wrap64 (v6 + 1))) else some (.inl (v6))
theorem L4_RankWorse_L1_0 (F : Nat) (v0 : Int) (v1 : List (List Int)) (v6 : Int) : L4_RankWorse_L1 F v0 v1 0 v6 = none := by rw [L4_RankWorse_L1]
theorem L4_RankWorse_L1_s (F g : Nat) (v0 : Int) (v1 : List (List Int)) (v6 : Int) : L4_RankWorse_L1 F v0 v1 (g+1) v6 = ((R3_Power F (v0)).bind fun y6 => if v6 < y6 then (L4_RankWorse_L2 F (v0) (v1) (v6) F (0)).bind fun o25 => match o25 with | .inr r => some (.inr (r)) | .inl o25 => L4_RankWorse_L1 F v0 v1 g ((wrap64 (v6 + 1))) else some (.inl (v6))) := by rw [L4_RankWorse_L1]
def L4_RankWorse (F : Nat) (v0 : Int) (v1 : List (List Int)) : Option (Bool) := (L4_rankFact F ).bind fun y1 => (if y1 = true then (rank_Fair F (v0) (v1)).bind fun y2 => (if (y2.2 != 0) = true then (if y2.1 = true then some false else some true).bind fun b3 => some (b3) else ((if y2.1 = true then some true else (R3_Lists F (v0) (v1)).bind fun y5 => if (y5 != 0) = true then some true else some false).bind fun b4 => if b4 = true then some (y2.1) else (L4_RankWorse_L1 F (v0) (v1) F (0)).bind fun o26 => match o26 with | .inr r => some (r) | .inl o26 => some (false))) else some (false))
set_option maxRecDepth 100000 in
set_option maxHeartbeats 4000000 in
theorem L4_RankWorse_ok {F : Nat} {v0 : Int} {v1 : List (List Int)} {A1 : Option Addr} {r : Bool} (w : World) (cap1 : Nat) (hr1 : ReadsR w w.heap.size A1 v1) (h : L4_RankWorse F v0 v1 = some r) :
    Calls Try.prog 4 #[.int .i64 v0, .slice A1 v1.length cap1] w fun e w' => e = .returned (.bool r) ∧ Below w.heap.size w w' := by
  have HR1 := Lib.hid hr1; clear hr1
  have HD := Lib.hid (Below.refl w.heap.size w)
  have HOA := Lib.hid (HP.nil (W := w) (B := w.heap.size))
  unfold L4_RankWorse at h
  have HM := Lib.hid h; clear h
  go_enter Try.func4, Try.ntmps4
  obtain ⟨y3, hy1, hm⟩ := obind HM.out
  replace HM := Lib.hid hm; clear hm
  have HC2 := L4_rankFact_ok w  hy1
  clear hy1
  replace HC2 := Lib.hid HC2
  go_wp2_with fail
  refine HC2.out.mono ?_; rintro e W4 ⟨rfl, hd⟩
  replace HOA := Lib.hid (HOA.out.below hd)
  replace HD := Lib.hid (HD.out.trans (hd.mono HD.out.size))
  clear hd
  cases y3
  · replace HM := Lib.hid (ifF Bool.false_ne_true HM.out)
    obtain rfl := Option.some.inj HM.out
    go_wp2_with fail
    go_ret
    exact ⟨rfl, HD.out⟩
  · replace HM := Lib.hid (ifT rfl HM.out)
    obtain ⟨⟨y7, y8⟩, hy5, hm⟩ := obind HM.out
    dsimp only at hm
    replace HM := Lib.hid hm; clear hm
    have HC6 := rank_Fair_ok W4 cap1 (rdR HD.out HR1.out) hy5
    clear hy5
    replace HC6 := Lib.hid HC6
    go_wp2_with fail
    refine HC6.out.mono ?_; rintro e W9 ⟨rfl, hd⟩
    replace HOA := Lib.hid (HOA.out.below hd)
    replace HD := Lib.hid (HD.out.trans (hd.mono HD.out.size))
    clear hd
    by_cases hz10 : y8 = 0
    · subst hz10
      try simp only [errV_zero]
      replace HM := Lib.hid (ifF (by decide) HM.out)
      go_upto_region 7 with (fail)
      obtain ⟨b12, hb, hm⟩ := obind HM.out
      replace HM := Lib.hid hm; have HB13 := Lib.hid hb; clear hm hb
      go_cut [39] (fun uq wr => uq = .bool b12 ∧ Hid (Below W9.heap.size W9 wr))
      case first =>
        have HWC14 := Lib.hid (Below.refl W9.heap.size W9)
        cases y7
        · replace HB13 := Lib.hid (ifF Bool.false_ne_true HB13.out)
          obtain ⟨y17, hy15, hm⟩ := obind HB13.out
          replace HB13 := Lib.hid hm; clear hm
          have HC16 := R3_Lists_ok W9 cap1 (rdR HD.out HR1.out) hy15
          clear hy15
          replace HC16 := Lib.hid HC16
          go_wp2_with fail
          refine HC16.out.mono ?_; rintro e W18 ⟨rfl, hd⟩
          replace HOA := Lib.hid (HOA.out.below (hd.below _))
          replace HD := Lib.hid (HD.out.trans ((hd.below _).mono HD.out.size))
          replace HWC14 := Lib.hid (HWC14.out.trans ((hd.below _).mono HWC14.out.size))
          clear hd
          rcases Bool.eq_false_or_eq_true (y17 != 0) with hc19 | hc19
          · replace HB13 := Lib.hid (ifT hc19 HB13.out)
            have HK20 := Lib.hid hc19
            cases Option.some.inj HB13.out
            try go_wp2_with fail
            go_meet
            case rel => exact ⟨rfl, HWC14⟩
          · replace HB13 := Lib.hid (ifF (bF hc19) HB13.out)
            have HK20 := Lib.hid hc19
            cases Option.some.inj HB13.out
            try go_wp2_with fail
            go_meet
            case rel => exact ⟨rfl, HWC14⟩
        · replace HB13 := Lib.hid (ifT rfl HB13.out)
          cases Option.some.inj HB13.out
          try go_wp2_with fail
          go_meet
          case rel => exact ⟨rfl, HWC14⟩
      case rest =>
        as_aux_lemma =>
          obtain ⟨rfl, HWC14⟩ := hcut
          rename World => W21
          have hd := HWC14.out
          replace HOA := Lib.hid (HOA.out.below hd)
          replace HD := Lib.hid (HD.out.trans (hd.mono HD.out.size))
          clear hd
          cases b12
          · replace HM := Lib.hid (ifF Bool.false_ne_true HM.out)
            go_wp2_with fail
            obtain ⟨o22, ho, hm⟩ := obind HM.out
            replace HM := Lib.hid hm; have HL1 := Lib.hid ho; clear hm ho
            go_loopg [8] F (fun gg ux24 wr => ∃ (x23 : Int), ux24 = .int .i64 x23 ∧ Hid (Below w.heap.size w wr) ∧ Hid (HP wr w.heap.size []) ∧ Hid (L4_RankWorse_L1 F (v0) (v1) gg x23 = some o22))
            case atStart => exact ⟨0, rfl, HD, HOA, HL1⟩
            case round =>
              obtain ⟨x23, rfl, HD, HOA, HL1⟩ := hrel
              rename World => W25
              cases gk with
              | zero => exact absurd ((L4_RankWorse_L1_0 ..).symm.trans HL1.out) (by intro h; cases h)
              | succ g1 =>
                replace HL1 := Lib.hid ((L4_RankWorse_L1_s ..).symm.trans HL1.out)
                obtain ⟨y28, hy26, hm⟩ := obind HL1.out
                replace HL1 := Lib.hid hm; clear hm
                have HC27 := R3_Power_ok W25  hy26
                clear hy26
                replace HC27 := Lib.hid HC27
                by_cases hc29 : x23 < y28
                · replace HL1 := Lib.hid (ifT hc29 HL1.out)
                  have HK30 := Lib.hid hc29
                  go_wp2_with fail
                  refine HC27.out.mono ?_; rintro e w' ⟨rfl, rfl⟩
                  go_wp2_with fail
                  try clear hc29
                  obtain ⟨o31, ho, hm⟩ := obind HL1.out
                  replace HL1 := Lib.hid hm; have HL2 := Lib.hid ho; clear hm ho
                  go_loopg [9] F (fun gg ux33 wr => ∃ (x32 : Int), ux33 = .int .i64 x32 ∧ Hid (Below w.heap.size w wr) ∧ Hid (HP wr w.heap.size []) ∧ Hid (L4_RankWorse_L2 F (v0) (v1) (x23) gg x32 = some o31))
                  case atStart => exact ⟨0, rfl, HD, HOA, HL2⟩
                  case round =>
                    obtain ⟨x32, rfl, HD, HOA, HL2⟩ := hrel
                    rename World => W34
                    cases gk with
                    | zero => exact absurd ((L4_RankWorse_L2_0 ..).symm.trans HL2.out) (by intro h; cases h)
                    | succ g2 =>
                      replace HL2 := Lib.hid ((L4_RankWorse_L2_s ..).symm.trans HL2.out)
                      obtain ⟨y37, hy35, hm⟩ := obind HL2.out
                      replace HL2 := Lib.hid hm; clear hm
                      have HC36 := R3_Power_ok W34  hy35
                      clear hy35
                      replace HC36 := Lib.hid HC36
                      by_cases hc38 : x32 < y37
                      · replace HL2 := Lib.hid (ifT hc38 HL2.out)
                        have HK39 := Lib.hid hc38
                        obtain ⟨y42, hy40, hm⟩ := obind HL2.out
                        replace HL2 := Lib.hid hm; clear hm
                        have HC41 := R3_Members_ok W34  hy40
                        clear hy40
                        replace HC41 := Lib.hid HC41
                        go_wp2_with fail
                        refine HC36.out.mono ?_; rintro e w' ⟨rfl, rfl⟩
                        go_wp2_with fail
                        refine HC41.out.mono ?_; rintro e W43 ⟨V44, rfl, ho, hd⟩
                        try clear hc38
                        replace HOA := Lib.hid (HOA.out.call hd HD.out.size ho); clear ho
                        replace HD := Lib.hid (HD.out.trans (hd.mono HD.out.size))
                        clear hd
                        obtain ⟨y48, hy46, hm⟩ := obind HL2.out
                        replace HL2 := Lib.hid hm; clear hm
                        have HC47 := R3_Members_ok W43  hy46
                        clear hy46
                        replace HC47 := Lib.hid HC47
                        go_wp2_with fail
                        refine HC47.out.mono ?_; rintro e W49 ⟨V50, rfl, ho, hd⟩
                        replace HOA := Lib.hid (HOA.out.call hd HD.out.size ho); clear ho
                        replace HD := Lib.hid (HD.out.trans (hd.mono HD.out.size))
                        clear hd
                        obtain ⟨b52, hb, hm⟩ := obind HL2.out
                        replace HL2 := Lib.hid hm; have HB53 := Lib.hid hb; clear hm hb
                        obtain ⟨b54, hb, hm⟩ := obind HB53.out
                        replace HB53 := Lib.hid hm; have HB55 := Lib.hid hb; clear hm hb
                        obtain ⟨A56, cap57, he, _⟩ := HP.open_I HOA.out (List.Mem.tail _ (List.Mem.head _))
                        subst he
                        obtain ⟨A58, cap59, he, _⟩ := HP.open_I HOA.out (List.Mem.head _)
                        subst he
                        by_cases hc60 : ((y48).length : Int) ≤ ((y42).length : Int)
                        · replace HB55 := Lib.hid (ifT hc60 HB55.out)
                          have HK61 := Lib.hid hc60
                          have hc60n := hc60; try norm_cast at hc60n
                          obtain rfl := Option.some.inj HB55.out
                          replace HB53 := Lib.hid (ifT (by first | rfl | trivial) HB53.out)
                          obtain rfl := Option.some.inj HB53.out
                          replace HL2 := Lib.hid (ifT (by first | rfl | trivial) HL2.out)
                          go_wp2_with fail
                          try clear hc60 hc60n
                          replace HOA := Lib.hid (HOA.out.sub (.cons _ (.cons _ .slnil)))
                          go_roundg g2
                          case measure => omega
                          case rel => exact ⟨(wrap64 (x32 + 1)), rfl, HD, HOA, HL2⟩
                        · replace HB55 := Lib.hid (ifF hc60 HB55.out)
                          have hc60d := decide_eq_false hc60
                          have HK61 := Lib.hid hc60
                          have hc60n := hc60; try norm_cast at hc60n
                          obtain ⟨y64, hy62, hm⟩ := obind HB55.out
                          replace HB55 := Lib.hid hm; clear hm
                          have HC63 := R3_May_ok W49 cap1 (rdR HD.out HR1.out) cap57 (HP.rd_I HOA.out (List.Mem.tail _ (List.Mem.head _))) hy62
                          clear hy62
                          replace HC63 := Lib.hid HC63
                          go_wp2_with fail
                          refine HC63.out.mono ?_; rintro e W65 ⟨rfl, hd⟩
                          try clear hc60 hc60n hc60d
                          replace HOA := Lib.hid (HOA.out.below (hd.below _))
                          replace HD := Lib.hid (HD.out.trans ((hd.below _).mono HD.out.size))
                          clear hd
                          cases y64
                          · replace HB55 := Lib.hid (ifF Bool.false_ne_true HB55.out)
                            obtain rfl := Option.some.inj HB55.out
                            replace HB53 := Lib.hid (ifT (by first | rfl | trivial) HB53.out)
                            obtain rfl := Option.some.inj HB53.out
                            replace HL2 := Lib.hid (ifT (by first | rfl | trivial) HL2.out)
                            go_wp2_with fail
                            replace HOA := Lib.hid (HOA.out.sub (.cons _ (.cons _ .slnil)))
                            go_roundg g2
                            case measure => omega
                            case rel => exact ⟨(wrap64 (x32 + 1)), rfl, HD, HOA, HL2⟩
                          · replace HB55 := Lib.hid (ifT rfl HB55.out)
                            obtain rfl := Option.some.inj HB55.out
                            replace HB53 := Lib.hid (ifF (by first | exact Bool.false_ne_true | exact not_false) HB53.out)
                            obtain ⟨y68, hy66, hm⟩ := obind HB53.out
                            replace HB53 := Lib.hid hm; clear hm
                            have HC67 := R3_May_ok W65 cap1 (rdR HD.out HR1.out) cap59 (HP.rd_I HOA.out (List.Mem.head _)) hy66
                            clear hy66
                            replace HC67 := Lib.hid HC67
                            go_wp2_with fail
                            refine HC67.out.mono ?_; rintro e W69 ⟨rfl, hd⟩
                            replace HOA := Lib.hid (HOA.out.below (hd.below _))
                            replace HD := Lib.hid (HD.out.trans ((hd.below _).mono HD.out.size))
                            clear hd
                            cases y68
                            · replace HB53 := Lib.hid (ifF Bool.false_ne_true HB53.out)
                              obtain rfl := Option.some.inj HB53.out
                              replace HL2 := Lib.hid (ifT (by first | rfl | trivial) HL2.out)
                              go_wp2_with fail
                              replace HOA := Lib.hid (HOA.out.sub (.cons _ (.cons _ .slnil)))
                              go_roundg g2
                              case measure => omega
                              case rel => exact ⟨(wrap64 (x32 + 1)), rfl, HD, HOA, HL2⟩
                            · replace HB53 := Lib.hid (ifT rfl HB53.out)
                              obtain rfl := Option.some.inj HB53.out
                              replace HL2 := Lib.hid (ifF (by first | exact Bool.false_ne_true | exact not_false) HL2.out)
                              replace HOA := Lib.hid (show HP _ _ (.fl (owI (.slice none 0 0) ([])) :: _) from HOA.out.pushNil _ _)
                              go_wp2_with fail
                              obtain ⟨o71, ho, hm⟩ := obind HL2.out
                              replace HL2 := Lib.hid hm; have HL3 := Lib.hid ho; clear hm ho
                              go_loopg [12, 13] F (fun gg ux74 ux75 wr => ∃ (x72 : List Int) (x73 : Int) (V76 : Value), V76 = ux74 ∧ ux75 = .int .i64 x73 ∧ Hid (Below w.heap.size w wr) ∧ Hid (HP wr w.heap.size [.fl (owI V76 (x72)), .fl (owI (.slice A58 (y48).length cap59) (y48)), .fl (owI (.slice A56 (y42).length cap57) (y42))]) ∧ Hid (L4_RankWorse_L3 F (v0) (y42) (y48) gg x72 x73 = some o71))
                              case atStart => exact ⟨[], 0, (.slice none 0 0), rfl, rfl, HD, HOA, HL3⟩
                              case round =>
                                obtain ⟨x72, x73, V76, rfl, rfl, HD, HOA, HL3⟩ := hrel
                                rename World => W77
                                cases gk with
                                | zero => exact absurd ((L4_RankWorse_L3_0 ..).symm.trans HL3.out) (by intro h; cases h)
                                | succ g3 =>
                                  replace HL3 := Lib.hid ((L4_RankWorse_L3_s ..).symm.trans HL3.out)
                                  by_cases hc78 : x73 < v0
                                  · replace HL3 := Lib.hid (ifT hc78 HL3.out)
                                    have HK79 := Lib.hid hc78
                                    obtain ⟨y82, hy80, hm⟩ := obind HL3.out
                                    replace HL3 := Lib.hid hm; clear hm
                                    have HC81 := R1_Has_ok W77 cap59 (HP.rd_I HOA.out (List.Mem.tail _ (List.Mem.head _))) hy80
                                    clear hy80
                                    replace HC81 := Lib.hid HC81
                                    cases y82
                                    · replace HL3 := Lib.hid (ifF Bool.false_ne_true HL3.out)
                                      obtain ⟨y85, hy83, hm⟩ := obind HL3.out
                                      replace HL3 := Lib.hid hm; clear hm
                                      have HC84 := R1_Has_ok W77 cap57 (HP.rd_I HOA.out (List.Mem.tail _ (List.Mem.tail _ (List.Mem.head _)))) hy83
                                      clear hy83
                                      replace HC84 := Lib.hid HC84
                                      cases y85
                                      · replace HL3 := Lib.hid (ifF Bool.false_ne_true HL3.out)
                                        obtain ⟨y86, hy87, hm⟩ := obind HL3.out
                                        replace HL3 := Lib.hid hm; clear hm
                                        obtain ⟨f88, hy87⟩ := app_some hy87; subst hy87
                                        go_wp2_with fail
                                        refine HC81.out.mono ?_; rintro e w' ⟨rfl, rfl⟩
                                        go_wp2_with fail
                                        refine HC84.out.mono ?_; rintro e w' ⟨rfl, rfl⟩
                                        have HF91 := Lib.hid f88; clear f88
                                        go_upto_region 21 with (at_builtin; refine hp_appI _ (.tmp 85) (.tmp 87) 23 Try.underlying23 rfl rfl (L1 := []) HOA.out rfl rfl HF91.out HD.out.size ?_; intro V89 W90 hoa hd)
                                        try clear hc78
                                        replace HOA := Lib.hid (show HP W90 w.heap.size [.fl (owI V89 ((x72 ++ [0]))), .fl (owI (.slice A58 (y48).length cap59) (y48)), .fl (owI (.slice A56 (y42).length cap57) (y42))] from hoa); clear hoa
                                        replace HD := Lib.hid (HD.out.trans hd); clear hd
                                        go_wp2_with fail
                                        go_roundg g3
                                        case measure => omega
                                        case rel => exact ⟨(x72 ++ [0]), (wrap64 (x73 + 1)), V89, rfl, rfl, HD, HOA, HL3⟩
                                      · replace HL3 := Lib.hid (ifT rfl HL3.out)
                                        obtain ⟨y92, hy93, hm⟩ := obind HL3.out
                                        replace HL3 := Lib.hid hm; clear hm
                                        obtain ⟨f94, hy93⟩ := app_some hy93; subst hy93
                                        go_wp2_with fail
                                        refine HC81.out.mono ?_; rintro e w' ⟨rfl, rfl⟩
                                        go_wp2_with fail
                                        refine HC84.out.mono ?_; rintro e w' ⟨rfl, rfl⟩
                                        have HF97 := Lib.hid f94; clear f94
                                        go_upto_region 21 with (at_builtin; refine hp_appI _ (.tmp 85) (.tmp 87) 23 Try.underlying23 rfl rfl (L1 := []) HOA.out rfl rfl HF97.out HD.out.size ?_; intro V95 W96 hoa hd)
                                        try clear hc78
                                        replace HOA := Lib.hid (show HP W96 w.heap.size [.fl (owI V95 ((x72 ++ [7]))), .fl (owI (.slice A58 (y48).length cap59) (y48)), .fl (owI (.slice A56 (y42).length cap57) (y42))] from hoa); clear hoa
                                        replace HD := Lib.hid (HD.out.trans hd); clear hd
                                        go_wp2_with fail
                                        go_roundg g3
                                        case measure => omega
                                        case rel => exact ⟨(x72 ++ [7]), (wrap64 (x73 + 1)), V95, rfl, rfl, HD, HOA, HL3⟩
                                    · replace HL3 := Lib.hid (ifT rfl HL3.out)
                                      obtain ⟨y100, hy98, hm⟩ := obind HL3.out
                                      replace HL3 := Lib.hid hm; clear hm
                                      have HC99 := R1_Has_ok W77 cap57 (HP.rd_I HOA.out (List.Mem.tail _ (List.Mem.tail _ (List.Mem.head _)))) hy98
                                      clear hy98
                                      replace HC99 := Lib.hid HC99
                                      cases y100
                                      · replace HL3 := Lib.hid (ifF Bool.false_ne_true HL3.out)
                                        obtain ⟨y101, hy102, hm⟩ := obind HL3.out
                                        replace HL3 := Lib.hid hm; clear hm
                                        obtain ⟨f103, hy102⟩ := app_some hy102; subst hy102
                                        go_wp2_with fail
                                        refine HC81.out.mono ?_; rintro e w' ⟨rfl, rfl⟩
                                        go_wp2_with fail
                                        refine HC99.out.mono ?_; rintro e w' ⟨rfl, rfl⟩
                                        have HF106 := Lib.hid f103; clear f103
                                        go_upto_region 21 with (at_builtin; refine hp_appI _ (.tmp 85) (.tmp 87) 23 Try.underlying23 rfl rfl (L1 := []) HOA.out rfl rfl HF106.out HD.out.size ?_; intro V104 W105 hoa hd)
                                        try clear hc78
                                        replace HOA := Lib.hid (show HP W105 w.heap.size [.fl (owI V104 ((x72 ++ [6]))), .fl (owI (.slice A58 (y48).length cap59) (y48)), .fl (owI (.slice A56 (y42).length cap57) (y42))] from hoa); clear hoa
                                        replace HD := Lib.hid (HD.out.trans hd); clear hd
                                        go_wp2_with fail
                                        go_roundg g3
                                        case measure => omega
                                        case rel => exact ⟨(x72 ++ [6]), (wrap64 (x73 + 1)), V104, rfl, rfl, HD, HOA, HL3⟩
                                      · replace HL3 := Lib.hid (ifT rfl HL3.out)
                                        obtain ⟨y107, hy108, hm⟩ := obind HL3.out
                                        replace HL3 := Lib.hid hm; clear hm
                                        obtain ⟨f109, hy108⟩ := app_some hy108; subst hy108
                                        go_wp2_with fail
                                        refine HC81.out.mono ?_; rintro e w' ⟨rfl, rfl⟩
                                        go_wp2_with fail
                                        refine HC99.out.mono ?_; rintro e w' ⟨rfl, rfl⟩
                                        have HF112 := Lib.hid f109; clear f109
                                        go_upto_region 21 with (at_builtin; refine hp_appI _ (.tmp 85) (.tmp 87) 23 Try.underlying23 rfl rfl (L1 := []) HOA.out rfl rfl HF112.out HD.out.size ?_; intro V110 W111 hoa hd)
                                        try clear hc78
                                        replace HOA := Lib.hid (show HP W111 w.heap.size [.fl (owI V110 ((x72 ++ [7]))), .fl (owI (.slice A58 (y48).length cap59) (y48)), .fl (owI (.slice A56 (y42).length cap57) (y42))] from hoa); clear hoa
                                        replace HD := Lib.hid (HD.out.trans hd); clear hd
                                        go_wp2_with fail
                                        go_roundg g3
                                        case measure => omega
                                        case rel => exact ⟨(x72 ++ [7]), (wrap64 (x73 + 1)), V110, rfl, rfl, HD, HOA, HL3⟩
                                  · replace HL3 := Lib.hid (ifF hc78 HL3.out)
                                    have hc78d := decide_eq_false hc78
                                    have HK79 := Lib.hid hc78
                                    obtain rfl := Option.some.inj HL3.out
                                    have hm := HL2.out; try dsimp only at hm
                                    replace HL2 := Lib.hid hm; clear hm
                                    obtain ⟨⟨y115, y116, y117⟩, hy113, hm⟩ := obind HL2.out
                                    dsimp only at hm
                                    replace HL2 := Lib.hid hm; clear hm
                                    obtain ⟨A118, cap119, he, _⟩ := HP.open_I HOA.out (List.Mem.head _)
                                    subst he
                                    have HC114 := rank_Greedy_ok W77 cap1 (rdR HD.out HR1.out) cap119 (HP.rd_I HOA.out (List.Mem.head _)) hy113
                                    clear hy113
                                    replace HC114 := Lib.hid HC114
                                    go_wp2_with fail
                                    refine HC114.out.mono ?_; rintro e W120 ⟨V121, rfl, ho, hd⟩
                                    try clear hc78 hc78d
                                    replace HOA := Lib.hid (HOA.out.call hd HD.out.size ho); clear ho
                                    replace HD := Lib.hid (HD.out.trans (hd.mono HD.out.size))
                                    clear hd
                                    obtain ⟨⟨y125, y126⟩, hy123, hm⟩ := obind HL2.out
                                    dsimp only at hm
                                    replace HL2 := Lib.hid hm; clear hm
                                    have HC124 := rank_Best_ok W120 cap1 (rdR HD.out HR1.out) cap119 (HP.rd_I HOA.out (List.Mem.tail _ (List.Mem.head _))) hy123
                                    clear hy123
                                    replace HC124 := Lib.hid HC124
                                    go_wp2_with fail
                                    refine HC124.out.mono ?_; rintro e W127 ⟨rfl, hd⟩
                                    replace HOA := Lib.hid (HOA.out.below hd)
                                    replace HD := Lib.hid (HD.out.trans (hd.mono HD.out.size))
                                    clear hd
                                    obtain ⟨b128, hb, hm⟩ := obind HL2.out
                                    replace HL2 := Lib.hid hm; have HB129 := Lib.hid hb; clear hm hb
                                    by_cases hz130 : y117 = 0
                                    · subst hz130
                                      try simp only [errV_zero]
                                      replace HB129 := Lib.hid (ifF (by decide) HB129.out)
                                      by_cases hz132 : y126 = 0
                                      · subst hz132
                                        try simp only [errV_zero]
                                        replace HB129 := Lib.hid (ifF (by decide) HB129.out)
                                        obtain rfl := Option.some.inj HB129.out
                                        replace HL2 := Lib.hid (ifF (by first | exact Bool.false_ne_true | exact not_false) HL2.out)
                                        by_cases hc134 : y116 < y125
                                        · replace HL2 := Lib.hid (ifT hc134 HL2.out)
                                          have HK135 := Lib.hid hc134
                                          obtain rfl := Option.some.inj HL2.out
                                          have hm := HL1.out; try dsimp only at hm
                                          replace HL1 := Lib.hid hm; clear hm
                                          obtain rfl := Option.some.inj HL1.out
                                          have hm := HM.out; try dsimp only at hm
                                          replace HM := Lib.hid hm; clear hm
                                          obtain rfl := Option.some.inj HM.out
                                          go_wp2_with fail
                                          go_ret
                                          exact ⟨(by first | rfl | (refine congrArg (fun b => Ending.returned (Value.bool b)) ?_; first | (exact decide_eq_true (by omega)) | (exact decide_eq_false (by omega)) | (have q := hc134; rw [bne_iff_ne] at q ⊢; omega) | (have q := hc134; rw [bne_eq_false_iff_eq] at q ⊢; omega) | (have q := hc134; rw [beq_iff_eq] at q ⊢; omega) | (have q := hc134; rw [beq_eq_false_iff_ne] at q ⊢; omega))), HD.out⟩
                                        · replace HL2 := Lib.hid (ifF hc134 HL2.out)
                                          have hc134d := decide_eq_false hc134
                                          have HK135 := Lib.hid hc134
                                          go_wp2_with fail
                                          try clear hc134 hc134d
                                          replace HOA := Lib.hid (HOA.out.sub (.cons _ (.cons _ (.cons _ (.cons _ .slnil)))))
                                          go_roundg g2
                                          case measure => omega
                                          case rel => exact ⟨(wrap64 (x32 + 1)), rfl, HD, HOA, HL2⟩
                                      · try rw [errV_pos _ hz132]
                                        have HZ133 := Lib.hid hz132; clear hz132
                                        replace HB129 := Lib.hid (ifT (bne_iff_ne.2 HZ133.out) HB129.out)
                                        obtain rfl := Option.some.inj HB129.out
                                        replace HL2 := Lib.hid (ifT (by first | rfl | trivial) HL2.out)
                                        obtain rfl := Option.some.inj HL2.out
                                        have hm := HL1.out; try dsimp only at hm
                                        replace HL1 := Lib.hid hm; clear hm
                                        obtain rfl := Option.some.inj HL1.out
                                        have hm := HM.out; try dsimp only at hm
                                        replace HM := Lib.hid hm; clear hm
                                        obtain rfl := Option.some.inj HM.out
                                        go_wp2_with fail
                                        go_ret
                                        exact ⟨rfl, HD.out⟩
                                    · try rw [errV_pos _ hz130]
                                      have HZ131 := Lib.hid hz130; clear hz130
                                      replace HB129 := Lib.hid (ifT (bne_iff_ne.2 HZ131.out) HB129.out)
                                      obtain rfl := Option.some.inj HB129.out
                                      replace HL2 := Lib.hid (ifT (by first | rfl | trivial) HL2.out)
                                      obtain rfl := Option.some.inj HL2.out
                                      have hm := HL1.out; try dsimp only at hm
                                      replace HL1 := Lib.hid hm; clear hm
                                      obtain rfl := Option.some.inj HL1.out
                                      have hm := HM.out; try dsimp only at hm
                                      replace HM := Lib.hid hm; clear hm
                                      obtain rfl := Option.some.inj HM.out
                                      go_wp2_with fail
                                      go_ret
                                      exact ⟨rfl, HD.out⟩
                      · replace HL2 := Lib.hid (ifF hc38 HL2.out)
                        have hc38d := decide_eq_false hc38
                        have HK39 := Lib.hid hc38
                        obtain rfl := Option.some.inj HL2.out
                        have hm := HL1.out; try dsimp only at hm
                        replace HL1 := Lib.hid hm; clear hm
                        go_wp2_with fail
                        refine HC36.out.mono ?_; rintro e w' ⟨rfl, rfl⟩
                        go_wp2_with fail
                        try clear hc38 hc38d
                        go_roundg g1
                        case measure => omega
                        case rel => exact ⟨(wrap64 (x23 + 1)), rfl, HD, HOA, HL1⟩
                · replace HL1 := Lib.hid (ifF hc29 HL1.out)
                  have hc29d := decide_eq_false hc29
                  have HK30 := Lib.hid hc29
                  obtain rfl := Option.some.inj HL1.out
                  have hm := HM.out; try dsimp only at hm
                  replace HM := Lib.hid hm; clear hm
                  obtain rfl := Option.some.inj HM.out
                  go_wp2_with fail
                  refine HC27.out.mono ?_; rintro e w' ⟨rfl, rfl⟩
                  go_wp2_with fail
                  go_ret
                  exact ⟨(by first | rfl | (refine congrArg (fun b => Ending.returned (Value.bool b)) ?_; first | (exact decide_eq_true (by omega)) | (exact decide_eq_false (by omega)) | (have q := hc29; rw [bne_iff_ne] at q ⊢; omega) | (have q := hc29; rw [bne_eq_false_iff_eq] at q ⊢; omega) | (have q := hc29; rw [beq_iff_eq] at q ⊢; omega) | (have q := hc29; rw [beq_eq_false_iff_ne] at q ⊢; omega) | (have q := hc29d; rw [bne_iff_ne] at q ⊢; omega) | (have q := hc29d; rw [bne_eq_false_iff_eq] at q ⊢; omega) | (have q := hc29d; rw [beq_iff_eq] at q ⊢; omega) | (have q := hc29d; rw [beq_eq_false_iff_ne] at q ⊢; omega))), HD.out⟩
          · replace HM := Lib.hid (ifT rfl HM.out)
            obtain rfl := Option.some.inj HM.out
            go_wp2_with fail
            go_ret
            exact ⟨rfl, HD.out⟩
    · try rw [errV_pos _ hz10]
      have HZ11 := Lib.hid hz10; clear hz10
      replace HM := Lib.hid (ifT (bne_iff_ne.2 HZ11.out) HM.out)
      obtain ⟨b136, hb, hm⟩ := obind HM.out
      replace HM := Lib.hid hm; have HB137 := Lib.hid hb; clear hm hb
      cases y7
      · replace HB137 := Lib.hid (ifF Bool.false_ne_true HB137.out)
        obtain rfl := Option.some.inj HB137.out
        obtain rfl := Option.some.inj HM.out
        go_wp2_with fail
        go_ret
        exact ⟨rfl, HD.out⟩
      · replace HB137 := Lib.hid (ifT rfl HB137.out)
        obtain rfl := Option.some.inj HB137.out
        obtain rfl := Option.some.inj HM.out
        go_wp2_with fail
        go_ret
        exact ⟨rfl, HD.out⟩
end Go.Proofs.Ytfaemblfffbmfaa
