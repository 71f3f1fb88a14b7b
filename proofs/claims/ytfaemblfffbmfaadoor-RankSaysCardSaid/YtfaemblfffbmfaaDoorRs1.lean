import Derived.Test.YtfaemblfffbmfaaDoorR7
import Derived.Test.YtfaemblfffbmfaaDoorBSt
set_option linter.all false
set_option maxRecDepth 100000
namespace Go.Proofs.YtfaemblfffbmfaaDoor
open Go.RowKit
def R3_Fair_L3 (F : Nat) (v1 : List (List Int)) (v4 : List Int) (v6 : List Int) : Nat → (Bool) → (Int) → Option (Bool × Int)
  | 0, _, _ => none
  | g+1, v7, v8 => if v8 < ((v6).length : Int) then (if v7 = true then some true else (ix v6 v8).bind fun y9 => (R1_Has F (v4) (y9)).bind fun y10 => if y10 = true then some false else (ix v6 v8).bind fun y11 => (R1_Behind F (v4) (y11)).bind fun y12 => (R3_May F (v1) (y12)).bind fun y13 => if y13 = true then some true else some false).bind fun b8 => R3_Fair_L3 F v1 v4 v6 g (b8) ((wrap64 (v8 + 1))) else some (v7, v8)
theorem R3_Fair_L3_0 (F : Nat) (v1 : List (List Int)) (v4 : List Int) (v6 : List Int) (v7 : Bool) (v8 : Int) : R3_Fair_L3 F v1 v4 v6 0 v7 v8 = none := by rw [R3_Fair_L3]
theorem R3_Fair_L3_s (F g : Nat) (v1 : List (List Int)) (v4 : List Int) (v6 : List Int) (v7 : Bool) (v8 : Int) : R3_Fair_L3 F v1 v4 v6 (g+1) v7 v8 = (if v8 < ((v6).length : Int) then (if v7 = true then some true else (ix v6 v8).bind fun y9 => (R1_Has F (v4) (y9)).bind fun y10 => if y10 = true then some false else (ix v6 v8).bind fun y11 => (R1_Behind F (v4) (y11)).bind fun y12 => (R3_May F (v1) (y12)).bind fun y13 => if y13 = true then some true else some false).bind fun b8 => R3_Fair_L3 F v1 v4 v6 g (b8) ((wrap64 (v8 + 1))) else some (v7, v8)) := by rw [R3_Fair_L3]
def R3_Fair_L2 (F : Nat) (v0 : Int) (v1 : List (List Int)) (v4 : List Int) : Nat → (Int) → Option ((Int) ⊕ (Bool))
  | 0, _ => none
  | g+1, v5 => (R3_Power F (v0)).bind fun y4 => if v5 < y4 then (R3_Members F (v5)).bind fun y5 => ((if ((y5).length : Int) ≤ ((v4).length : Int) then some true else (R3_May F (v1) (y5)).bind fun y7 => if y7 = true then some false else some true).bind fun b6 => if b6 = true then R3_Fair_L2 F v0 v1 v4 g ((wrap64 (v5 + 1))) else (R3_Fair_L3 F (v1) (v4) (y5) F (false) (0)).bind fun o14 => (if o14.1 = true then R3_Fair_L2 F v0 v1 v4 g ((wrap64 (v5 + 1))) else some (.inr (false)))) else some (.inl (v5))
theorem R3_Fair_L2_0 (F : Nat) (v0 : Int) (v1 : List (List Int)) (v4 : List Int) (v5 : Int) : R3_Fair_L2 F v0 v1 v4 0 v5 = none := by rw [R3_Fair_L2]
theorem R3_Fair_L2_s (F g : Nat) (v0 : Int) (v1 : List (List Int)) (v4 : List Int) (v5 : Int) : R3_Fair_L2 F v0 v1 v4 (g+1) v5 = ((R3_Power F (v0)).bind fun y4 => if v5 < y4 then (R3_Members F (v5)).bind fun y5 => ((if ((y5).length : Int) ≤ ((v4).length : Int) then some true else (R3_May F (v1) (y5)).bind fun y7 => if y7 = true then some false else some true).bind fun b6 => if b6 = true then R3_Fair_L2 F v0 v1 v4 g ((wrap64 (v5 + 1))) else (R3_Fair_L3 F (v1) (v4) (y5) F (false) (0)).bind fun o14 => (if o14.1 = true then R3_Fair_L2 F v0 v1 v4 g ((wrap64 (v5 + 1))) else some (.inr (false)))) else some (.inl (v5))) := by rw [R3_Fair_L2]
def R3_Fair_L1 (F : Nat) (v0 : Int) (v1 : List (List Int)) : Nat → (Int) → Option ((Int) ⊕ (Bool))
  | 0, _ => none
  | g+1, v3 => (R3_Power F (v0)).bind fun y1 => if v3 < y1 then (R3_Members F (v3)).bind fun y2 => ((R3_May F (v1) (y2)).bind fun y3 => if y3 = true then (R3_Fair_L2 F (v0) (v1) (y2) F (0)).bind fun o15 => match o15 with | .inr r => some (.inr (r)) | .inl o15 => R3_Fair_L1 F v0 v1 g ((wrap64 (v3 + 1))) else R3_Fair_L1 F v0 v1 g ((wrap64 (v3 + 1)))) else some (.inl (v3))
theorem R3_Fair_L1_0 (F : Nat) (v0 : Int) (v1 : List (List Int)) (v3 : Int) : R3_Fair_L1 F v0 v1 0 v3 = none := by rw [R3_Fair_L1]
theorem R3_Fair_L1_s (F g : Nat) (v0 : Int) (v1 : List (List Int)) (v3 : Int) : R3_Fair_L1 F v0 v1 (g+1) v3 = ((R3_Power F (v0)).bind fun y1 => if v3 < y1 then (R3_Members F (v3)).bind fun y2 => ((R3_May F (v1) (y2)).bind fun y3 => if y3 = true then (R3_Fair_L2 F (v0) (v1) (y2) F (0)).bind fun o15 => match o15 with | .inr r => some (.inr (r)) | .inl o15 => R3_Fair_L1 F v0 v1 g ((wrap64 (v3 + 1))) else R3_Fair_L1 F v0 v1 g ((wrap64 (v3 + 1)))) else some (.inl (v3))) := by rw [R3_Fair_L1]
def R3_Fair (F : Nat) (v0 : Int) (v1 : List (List Int)) : Option (Bool) := (R3_Fair_L1 F (v0) (v1) F (0)).bind fun o16 => match o16 with | .inr r => some (r) | .inl o16 => some (true)
set_option maxRecDepth 100000 in
set_option maxHeartbeats 4000000 in
theorem R3_Fair_ok {F : Nat} {v0 : Int} {v1 : List (List Int)} {A1 : Option Addr} {r : Bool} (w : World) (cap1 : Nat) (hr1 : ReadsR w w.heap.size A1 v1) (h : R3_Fair F v0 v1 = some r) :
    Calls Tryd.prog 8 #[.int .i64 v0, .slice A1 v1.length cap1] w fun e w' => e = .returned (.bool r) ∧ Below w.heap.size w w' := by
  have HR1 := Lib.hid hr1; clear hr1
  have HD := Lib.hid (Below.refl w.heap.size w)
  have HOA := Lib.hid (HP.nil (W := w) (B := w.heap.size))
  unfold R3_Fair at h
  have HM := Lib.hid h; clear h
  go_enter Tryd.func8, Tryd.ntmps8
  go_wp2_with fail
  obtain ⟨o1, ho, hm⟩ := obind HM.out
  replace HM := Lib.hid hm; have HL1 := Lib.hid ho; clear hm ho
  go_loopg [5] F (fun gg ux3 wr => ∃ (x2 : Int), ux3 = .int .i64 x2 ∧ Hid (Below w.heap.size w wr) ∧ Hid (R3_Fair_L1 F (v0) (v1) gg x2 = some o1))
  case atStart => exact ⟨0, rfl, (Lib.hid (Below.refl _ _)), HL1⟩
  case round =>
    obtain ⟨x2, rfl, HW1, HL1⟩ := hrel
    rename World => W4
    have hd := HW1.out
    replace HOA := Lib.hid (HOA.out.below hd)
    replace HD := Lib.hid (HD.out.trans (hd.mono HD.out.size))
    clear hd
    cases gk with
    | zero => exact absurd ((R3_Fair_L1_0 ..).symm.trans HL1.out) (by intro h; cases h)
    | succ g1 =>
      replace HL1 := Lib.hid ((R3_Fair_L1_s ..).symm.trans HL1.out)
      obtain ⟨y7, hy5, hm⟩ := obind HL1.out
      replace HL1 := Lib.hid hm; clear hm
      have HC6 := R3_Power_ok W4  hy5
      clear hy5
      replace HC6 := Lib.hid HC6
      by_cases hc8 : x2 < y7
      · replace HL1 := Lib.hid (ifT hc8 HL1.out)
        have HK9 := Lib.hid hc8
        obtain ⟨y12, hy10, hm⟩ := obind HL1.out
        replace HL1 := Lib.hid hm; clear hm
        have HC11 := R3_Members_ok W4  hy10
        clear hy10
        replace HC11 := Lib.hid HC11
        go_wp2_with fail
        refine HC6.out.mono ?_; rintro e w' ⟨rfl, rfl⟩
        go_wp2_with fail
        refine HC11.out.mono ?_; rintro e W13 ⟨V14, rfl, ho, hd⟩
        try clear hc8
        replace HOA := Lib.hid (HOA.out.call hd HD.out.size ho); clear ho
        replace HD := Lib.hid (HD.out.trans (hd.mono HD.out.size))
        replace HW1 := Lib.hid (HW1.out.trans (hd.mono HW1.out.size))
        clear hd
        obtain ⟨y18, hy16, hm⟩ := obind HL1.out
        replace HL1 := Lib.hid hm; clear hm
        obtain ⟨A19, cap20, he, _⟩ := HP.open_I HOA.out (List.Mem.head _)
        subst he
        have HC17 := R3_May_ok W13 cap1 (rdR HD.out HR1.out) cap20 (HP.rd_I HOA.out (List.Mem.head _)) hy16
        clear hy16
        replace HC17 := Lib.hid HC17
        go_wp2_with fail
        refine HC17.out.mono ?_; rintro e W21 ⟨rfl, hd⟩
        replace HOA := Lib.hid (HOA.out.below (hd.below _))
        replace HD := Lib.hid (HD.out.trans ((hd.below _).mono HD.out.size))
        replace HW1 := Lib.hid (HW1.out.trans ((hd.below _).mono HW1.out.size))
        clear hd
        cases y18
        · replace HL1 := Lib.hid (ifF Bool.false_ne_true HL1.out)
          go_wp2_with fail
          go_roundg g1
          case measure => omega
          case rel => exact ⟨(wrap64 (x2 + 1)), rfl, HW1, HL1⟩
        · replace HL1 := Lib.hid (ifT rfl HL1.out)
          go_wp2_with fail
          obtain ⟨o22, ho, hm⟩ := obind HL1.out
          replace HL1 := Lib.hid hm; have HL2 := Lib.hid ho; clear hm ho
          go_loopg [7] F (fun gg ux24 wr => ∃ (x23 : Int), ux24 = .int .i64 x23 ∧ Hid (Below W21.heap.size W21 wr) ∧ Hid (R3_Fair_L2 F (v0) (v1) (y12) gg x23 = some o22))
          case atStart => exact ⟨0, rfl, (Lib.hid (Below.refl _ _)), HL2⟩
          case round =>
            obtain ⟨x23, rfl, HW2, HL2⟩ := hrel
            rename World => W25
            have hd := HW2.out
            replace HOA := Lib.hid (HOA.out.below hd)
            replace HD := Lib.hid (HD.out.trans (hd.mono HD.out.size))
            replace HW1 := Lib.hid (HW1.out.trans (hd.mono HW1.out.size))
            clear hd
            cases gk with
            | zero => exact absurd ((R3_Fair_L2_0 ..).symm.trans HL2.out) (by intro h; cases h)
            | succ g2 =>
              replace HL2 := Lib.hid ((R3_Fair_L2_s ..).symm.trans HL2.out)
              obtain ⟨y28, hy26, hm⟩ := obind HL2.out
              replace HL2 := Lib.hid hm; clear hm
              have HC27 := R3_Power_ok W25  hy26
              clear hy26
              replace HC27 := Lib.hid HC27
              by_cases hc29 : x23 < y28
              · replace HL2 := Lib.hid (ifT hc29 HL2.out)
                have HK30 := Lib.hid hc29
                obtain ⟨y33, hy31, hm⟩ := obind HL2.out
                replace HL2 := Lib.hid hm; clear hm
                have HC32 := R3_Members_ok W25  hy31
                clear hy31
                replace HC32 := Lib.hid HC32
                go_wp2_with fail
                refine HC27.out.mono ?_; rintro e w' ⟨rfl, rfl⟩
                go_wp2_with fail
                refine HC32.out.mono ?_; rintro e W34 ⟨V35, rfl, ho, hd⟩
                try clear hc29
                replace HOA := Lib.hid (HOA.out.call hd HD.out.size ho); clear ho
                replace HD := Lib.hid (HD.out.trans (hd.mono HD.out.size))
                replace HW1 := Lib.hid (HW1.out.trans (hd.mono HW1.out.size))
                replace HW2 := Lib.hid (HW2.out.trans (hd.mono HW2.out.size))
                clear hd
                obtain ⟨b37, hb, hm⟩ := obind HL2.out
                replace HL2 := Lib.hid hm; have HB38 := Lib.hid hb; clear hm hb
                obtain ⟨A39, cap40, he, _⟩ := HP.open_I HOA.out (List.Mem.head _)
                subst he
                by_cases hc41 : ((y33).length : Int) ≤ ((y12).length : Int)
                · replace HB38 := Lib.hid (ifT hc41 HB38.out)
                  have HK42 := Lib.hid hc41
                  have hc41n := hc41; try norm_cast at hc41n
                  obtain rfl := Option.some.inj HB38.out
                  replace HL2 := Lib.hid (ifT (by first | rfl | trivial) HL2.out)
                  go_wp2_with fail
                  try clear hc41 hc41n
                  go_roundg g2
                  case measure => omega
                  case rel => exact ⟨(wrap64 (x23 + 1)), rfl, HW2, HL2⟩
                · replace HB38 := Lib.hid (ifF hc41 HB38.out)
                  have hc41d := decide_eq_false hc41
                  have HK42 := Lib.hid hc41
                  have hc41n := hc41; try norm_cast at hc41n
                  obtain ⟨y45, hy43, hm⟩ := obind HB38.out
                  replace HB38 := Lib.hid hm; clear hm
                  have HC44 := R3_May_ok W34 cap1 (rdR HD.out HR1.out) cap40 (HP.rd_I HOA.out (List.Mem.head _)) hy43
                  clear hy43
                  replace HC44 := Lib.hid HC44
                  go_wp2_with fail
                  refine HC44.out.mono ?_; rintro e W46 ⟨rfl, hd⟩
                  try clear hc41 hc41n hc41d
                  replace HOA := Lib.hid (HOA.out.below (hd.below _))
                  replace HD := Lib.hid (HD.out.trans ((hd.below _).mono HD.out.size))
                  replace HW1 := Lib.hid (HW1.out.trans ((hd.below _).mono HW1.out.size))
                  replace HW2 := Lib.hid (HW2.out.trans ((hd.below _).mono HW2.out.size))
                  clear hd
                  cases y45
                  · replace HB38 := Lib.hid (ifF Bool.false_ne_true HB38.out)
                    obtain rfl := Option.some.inj HB38.out
                    replace HL2 := Lib.hid (ifT (by first | rfl | trivial) HL2.out)
                    go_wp2_with fail
                    go_roundg g2
                    case measure => omega
                    case rel => exact ⟨(wrap64 (x23 + 1)), rfl, HW2, HL2⟩
                  · replace HB38 := Lib.hid (ifT rfl HB38.out)
                    obtain rfl := Option.some.inj HB38.out
                    replace HL2 := Lib.hid (ifF (by first | exact Bool.false_ne_true | exact not_false) HL2.out)
                    go_wp2_with fail
                    obtain ⟨o47, ho, hm⟩ := obind HL2.out
                    replace HL2 := Lib.hid hm; have HL3 := Lib.hid ho; clear hm ho
                    go_loopg [9, 10] F (fun gg ux50 ux51 wr => ∃ (x48 : Bool) (x49 : Int), ux50 = .bool x48 ∧ ux51 = .int .i64 x49 ∧ Hid (Below W46.heap.size W46 wr) ∧ Hid (R3_Fair_L3 F (v1) (y12) (y33) gg x48 x49 = some o47))
                    case atStart => exact ⟨false, 0, rfl, rfl, (Lib.hid (Below.refl _ _)), HL3⟩
                    case round =>
                      obtain ⟨x48, x49, rfl, rfl, HW3, HL3⟩ := hrel
                      rename World => W52
                      have hd := HW3.out
                      replace HOA := Lib.hid (HOA.out.below hd)
                      replace HD := Lib.hid (HD.out.trans (hd.mono HD.out.size))
                      replace HW1 := Lib.hid (HW1.out.trans (hd.mono HW1.out.size))
                      replace HW2 := Lib.hid (HW2.out.trans (hd.mono HW2.out.size))
                      clear hd
                      cases gk with
                      | zero => exact absurd ((R3_Fair_L3_0 ..).symm.trans HL3.out) (by intro h; cases h)
                      | succ g3 =>
                        replace HL3 := Lib.hid ((R3_Fair_L3_s ..).symm.trans HL3.out)
                        by_cases hc53 : x49 < ((y33).length : Int)
                        · replace HL3 := Lib.hid (ifT hc53 HL3.out)
                          have HK54 := Lib.hid hc53
                          obtain ⟨b55, hb, hm⟩ := obind HL3.out
                          replace HL3 := Lib.hid hm; have HB56 := Lib.hid hb; clear hm hb
                          cases x48
                          · replace HB56 := Lib.hid (ifF Bool.false_ne_true HB56.out)
                            obtain ⟨y57, hy58, hm⟩ := obind HB56.out
                            replace HB56 := Lib.hid hm; clear hm
                            obtain ⟨b59, o60, ea61, _, f62, f63, f64⟩ := ReadsI.ix (HP.rd_I HOA.out (List.Mem.head _)) hy58
                            cases ea61
                            try simp only [Nat.zero_add, Nat.add_zero, Int.toNat_natCast, Int.toNat_zero, Int.toNat_one] at f64
                            try rw [← HP.len_I HOA.out (List.Mem.head _)] at f63
                            have HY66 := Lib.hid hy58; clear hy58
                            obtain ⟨y69, hy67, hm⟩ := obind HB56.out
                            replace HB56 := Lib.hid hm; clear hm
                            have HC68 := R1_Has_ok W52 cap20 (HP.rd_I HOA.out (List.Mem.tail _ (List.Mem.head _))) hy67
                            clear hy67
                            replace HC68 := Lib.hid HC68
                            cases y69
                            · replace HB56 := Lib.hid (ifF Bool.false_ne_true HB56.out)
                              obtain ⟨y70, hy71, hm⟩ := obind HB56.out
                              replace HB56 := Lib.hid hm; clear hm
                              obtain rfl := Option.some.inj (HY66.out.symm.trans hy71)
                              clear hy71
                              obtain ⟨y74, hy72, hm⟩ := obind HB56.out
                              replace HB56 := Lib.hid hm; clear hm
                              have HC73 := R1_Behind_ok W52 cap20 (HP.rd_I HOA.out (List.Mem.tail _ (List.Mem.head _))) hy72
                              clear hy72
                              replace HC73 := Lib.hid HC73
                              go_wp2_with fail
                              refine HC68.out.mono ?_; rintro e w' ⟨rfl, rfl⟩
                              go_wp2_with fail
                              refine HC73.out.mono ?_; rintro e W75 ⟨V76, rfl, ho, hd⟩
                              try clear hc53 f62 f63 f64
                              replace HOA := Lib.hid (HOA.out.call hd HD.out.size ho); clear ho
                              replace HD := Lib.hid (HD.out.trans (hd.mono HD.out.size))
                              replace HW1 := Lib.hid (HW1.out.trans (hd.mono HW1.out.size))
                              replace HW2 := Lib.hid (HW2.out.trans (hd.mono HW2.out.size))
                              replace HW3 := Lib.hid (HW3.out.trans (hd.mono HW3.out.size))
                              clear hd
                              obtain ⟨y80, hy78, hm⟩ := obind HB56.out
                              replace HB56 := Lib.hid hm; clear hm
                              obtain ⟨A81, cap82, he, _⟩ := HP.open_I HOA.out (List.Mem.head _)
                              subst he
                              have HC79 := R3_May_ok W75 cap1 (rdR HD.out HR1.out) cap82 (HP.rd_I HOA.out (List.Mem.head _)) hy78
                              clear hy78
                              replace HC79 := Lib.hid HC79
                              go_wp2_with fail
                              refine HC79.out.mono ?_; rintro e W83 ⟨rfl, hd⟩
                              replace HOA := Lib.hid (HOA.out.below (hd.below _))
                              replace HD := Lib.hid (HD.out.trans ((hd.below _).mono HD.out.size))
                              replace HW1 := Lib.hid (HW1.out.trans ((hd.below _).mono HW1.out.size))
                              replace HW2 := Lib.hid (HW2.out.trans ((hd.below _).mono HW2.out.size))
                              replace HW3 := Lib.hid (HW3.out.trans ((hd.below _).mono HW3.out.size))
                              clear hd
                              cases y80
                              · replace HB56 := Lib.hid (ifF Bool.false_ne_true HB56.out)
                                obtain rfl := Option.some.inj HB56.out
                                go_wp2_with fail
                                go_roundg g3
                                case measure => omega
                                case rel => exact ⟨false, (wrap64 (x49 + 1)), rfl, rfl, HW3, HL3⟩
                              · replace HB56 := Lib.hid (ifT rfl HB56.out)
                                obtain rfl := Option.some.inj HB56.out
                                go_wp2_with fail
                                go_roundg g3
                                case measure => omega
                                case rel => exact ⟨true, (wrap64 (x49 + 1)), rfl, rfl, HW3, HL3⟩
                            · replace HB56 := Lib.hid (ifT rfl HB56.out)
                              obtain rfl := Option.some.inj HB56.out
                              go_wp2_with fail
                              refine HC68.out.mono ?_; rintro e w' ⟨rfl, rfl⟩
                              go_wp2_with fail
                              try clear hc53 f62 f63 f64
                              go_roundg g3
                              case measure => omega
                              case rel => exact ⟨false, (wrap64 (x49 + 1)), rfl, rfl, HW3, HL3⟩
                          · replace HB56 := Lib.hid (ifT rfl HB56.out)
                            obtain rfl := Option.some.inj HB56.out
                            go_wp2_with fail
                            try clear hc53
                            go_roundg g3
                            case measure => omega
                            case rel => exact ⟨true, (wrap64 (x49 + 1)), rfl, rfl, HW3, HL3⟩
                        · replace HL3 := Lib.hid (ifF hc53 HL3.out)
                          have hc53d := decide_eq_false hc53
                          have HK54 := Lib.hid hc53
                          obtain rfl := Option.some.inj HL3.out
                          have hm := HL2.out; try dsimp only at hm
                          replace HL2 := Lib.hid hm; clear hm
                          cases x48
                          · replace HL2 := Lib.hid (ifF Bool.false_ne_true HL2.out)
                            obtain rfl := Option.some.inj HL2.out
                            have hm := HL1.out; try dsimp only at hm
                            replace HL1 := Lib.hid hm; clear hm
                            obtain rfl := Option.some.inj HL1.out
                            have hm := HM.out; try dsimp only at hm
                            replace HM := Lib.hid hm; clear hm
                            obtain rfl := Option.some.inj HM.out
                            go_wp2_with fail
                            go_ret
                            exact ⟨(by first | rfl | (refine congrArg (fun b => Ending.returned (Value.bool b)) ?_; first | (exact decide_eq_true (by omega)) | (exact decide_eq_false (by omega)) | (have q := hc53; rw [bne_iff_ne] at q ⊢; omega) | (have q := hc53; rw [bne_eq_false_iff_eq] at q ⊢; omega) | (have q := hc53; rw [beq_iff_eq] at q ⊢; omega) | (have q := hc53; rw [beq_eq_false_iff_ne] at q ⊢; omega) | (have q := hc53d; rw [bne_iff_ne] at q ⊢; omega) | (have q := hc53d; rw [bne_eq_false_iff_eq] at q ⊢; omega) | (have q := hc53d; rw [beq_iff_eq] at q ⊢; omega) | (have q := hc53d; rw [beq_eq_false_iff_ne] at q ⊢; omega))), HD.out⟩
                          · replace HL2 := Lib.hid (ifT rfl HL2.out)
                            go_wp2_with fail
                            try clear hc53 hc53d
                            go_roundg g2
                            case measure => omega
                            case rel => exact ⟨(wrap64 (x23 + 1)), rfl, HW2, HL2⟩
              · replace HL2 := Lib.hid (ifF hc29 HL2.out)
                have hc29d := decide_eq_false hc29
                have HK30 := Lib.hid hc29
                obtain rfl := Option.some.inj HL2.out
                have hm := HL1.out; try dsimp only at hm
                replace HL1 := Lib.hid hm; clear hm
                go_wp2_with fail
                refine HC27.out.mono ?_; rintro e w' ⟨rfl, rfl⟩
                go_wp2_with fail
                try clear hc29 hc29d
                go_roundg g1
                case measure => omega
                case rel => exact ⟨(wrap64 (x2 + 1)), rfl, HW1, HL1⟩
      · replace HL1 := Lib.hid (ifF hc8 HL1.out)
        have hc8d := decide_eq_false hc8
        have HK9 := Lib.hid hc8
        obtain rfl := Option.some.inj HL1.out
        have hm := HM.out; try dsimp only at hm
        replace HM := Lib.hid hm; clear hm
        obtain rfl := Option.some.inj HM.out
        go_wp2_with fail
        refine HC6.out.mono ?_; rintro e w' ⟨rfl, rfl⟩
        go_wp2_with fail
        go_ret
        exact ⟨(by first | rfl | (refine congrArg (fun b => Ending.returned (Value.bool b)) ?_; first | (exact decide_eq_true (by omega)) | (exact decide_eq_false (by omega)) | (have q := hc8; rw [bne_iff_ne] at q ⊢; omega) | (have q := hc8; rw [bne_eq_false_iff_eq] at q ⊢; omega) | (have q := hc8; rw [beq_iff_eq] at q ⊢; omega) | (have q := hc8; rw [beq_eq_false_iff_ne] at q ⊢; omega) | (have q := hc8d; rw [bne_iff_ne] at q ⊢; omega) | (have q := hc8d; rw [bne_eq_false_iff_eq] at q ⊢; omega) | (have q := hc8d; rw [beq_iff_eq] at q ⊢; omega) | (have q := hc8d; rw [beq_eq_false_iff_ne] at q ⊢; omega))), HD.out⟩
def R1_Rising_L2 (F : Nat) (v0 : List Int) (v3 : List Bool) : Nat → (Int) → (Int) → Option (Int × Int)
  | 0, _, _ => none
  | g+1, v5, v6 => if v6 < ((v0).length : Int) then (((ix v3 v6).bind fun y3 => if y3 = true then some false else if v5 < 0 then some true else (ix v0 v6).bind fun y4 => (ix v0 v5).bind fun y5 => if y4 < y5 then some true else some false).bind fun b2 => if b2 = true then R1_Rising_L2 F v0 v3 g (v6) ((wrap64 (v6 + 1))) else R1_Rising_L2 F v0 v3 g (v5) ((wrap64 (v6 + 1)))) else some (v5, v6)
theorem R1_Rising_L2_0 (F : Nat) (v0 : List Int) (v3 : List Bool) (v5 : Int) (v6 : Int) : R1_Rising_L2 F v0 v3 0 v5 v6 = none := by rw [R1_Rising_L2]
theorem R1_Rising_L2_s (F g : Nat) (v0 : List Int) (v3 : List Bool) (v5 : Int) (v6 : Int) : R1_Rising_L2 F v0 v3 (g+1) v5 v6 = (if v6 < ((v0).length : Int) then (((ix v3 v6).bind fun y3 => if y3 = true then some false else if v5 < 0 then some true else (ix v0 v6).bind fun y4 => (ix v0 v5).bind fun y5 => if y4 < y5 then some true else some false).bind fun b2 => if b2 = true then R1_Rising_L2 F v0 v3 g (v6) ((wrap64 (v6 + 1))) else R1_Rising_L2 F v0 v3 g (v5) ((wrap64 (v6 + 1)))) else some (v5, v6)) := by rw [R1_Rising_L2]
def R1_Rising_L1 (F : Nat) (v0 : List Int) : Nat → (List Int) → (List Bool) → (Int) → Option (List Int × List Bool × Int)
  | 0, _, _, _ => none
  | g+1, v2, v3, v4 => if v4 < ((v0).length : Int) then (R1_Rising_L2 F (v0) (v3) F ((-1)) (0)).bind fun o6 => (st v3 o6.1 true).bind fun y7 => (ix v0 o6.1).bind fun y9 => (app v2 y9).bind fun y8 => R1_Rising_L1 F v0 g (y8) (y7) ((wrap64 (v4 + 1))) else some (v2, v3, v4)
theorem R1_Rising_L1_0 (F : Nat) (v0 : List Int) (v2 : List Int) (v3 : List Bool) (v4 : Int) : R1_Rising_L1 F v0 0 v2 v3 v4 = none := by rw [R1_Rising_L1]
theorem R1_Rising_L1_s (F g : Nat) (v0 : List Int) (v2 : List Int) (v3 : List Bool) (v4 : Int) : R1_Rising_L1 F v0 (g+1) v2 v3 v4 = (if v4 < ((v0).length : Int) then (R1_Rising_L2 F (v0) (v3) F ((-1)) (0)).bind fun o6 => (st v3 o6.1 true).bind fun y7 => (ix v0 o6.1).bind fun y9 => (app v2 y9).bind fun y8 => R1_Rising_L1 F v0 g (y8) (y7) ((wrap64 (v4 + 1))) else some (v2, v3, v4)) := by rw [R1_Rising_L1]
def R1_Rising (F : Nat) (v0 : List Int) : Option (List Int) := (mkB ((v0).length : Int)).bind fun y1 => (R1_Rising_L1 F (v0) F ([]) (y1) (0)).bind fun o10 => some (o10.1)
set_option maxRecDepth 100000 in
set_option maxHeartbeats 4000000 in
theorem R1_Rising_ok {F : Nat} {v0 : List Int} {A0 : Option Addr} {r : List Int} (w : World) (cap0 : Nat) (hr0 : ReadsI w w.heap.size A0 v0) (h : R1_Rising F v0 = some r) :
    Calls Tryd.prog 34 #[.slice A0 v0.length cap0] w (PostG (fun v => v) (fun v => owI v r) w.heap.size w) := by
  have HR0 := Lib.hid hr0; clear hr0
  have HD := Lib.hid (Below.refl w.heap.size w)
  have HOA := Lib.hid (HP.nil (W := w) (B := w.heap.size))
  unfold R1_Rising at h
  have HM := Lib.hid h; clear h
  go_enter Tryd.func34, Tryd.ntmps34
  replace HOA := Lib.hid (show HP _ _ (.fl (owI (.slice none 0 0) ([])) :: _) from HOA.out.pushNil _ _)
  obtain ⟨y2, hy3, hm⟩ := obind HM.out
  replace HM := Lib.hid hm; clear hm
  obtain ⟨f4, hy3⟩ := mkB_some hy3
  obtain ⟨N8, hN9⟩ : ∃ N, Int.toNat ((v0).length : Int) = N := ⟨_, rfl⟩
  rw [hN9] at hy3; subst hy3
  have hmk5 := run_makeB f4; simp only [hN9] at hmk5
  have hd : Below w.heap.size w (w.alloc (.cells (Array.replicate N8 (Value.bool false)) 4)) := (Below.refl _ _).alloc (Nat.le_refl _) _
  have ho := mkB_ok w f4; rw [hN9] at ho; clear hN9
  go_upto_region 3 with (refine upon_go ?_; go_simp)
  generalize hW : World.alloc w _ = W6 at *
  clear hW hmk5 f4
  replace HOA := Lib.hid (HOA.out.call hd HD.out.size ho); clear ho
  replace HD := Lib.hid (HD.out.trans (hd.mono HD.out.size))
  clear hd
  go_wp2_with fail
  obtain ⟨o10, ho, hm⟩ := obind HM.out
  replace HM := Lib.hid hm; have HL1 := Lib.hid ho; clear hm ho
  go_loopg [3, 5] F (fun gg ux14 ux15 wr => ∃ (x11 : List Int) (x12 : List Bool) (x13 : Int) (V16 : Value), V16 = ux14 ∧ ux15 = .int .i64 x13 ∧ Hid (Below w.heap.size w wr) ∧ Hid (HP wr w.heap.size [.fl (owB (.slice (some ⟨w.heap.size, 0, none⟩) N8 N8) (x12)), .fl (owI V16 (x11))]) ∧ Hid (R1_Rising_L1 F (v0) gg x11 x12 x13 = some o10))
  case atStart => exact ⟨[], (List.replicate N8 false), 0, (.slice none 0 0), rfl, rfl, HD, HOA, HL1⟩
  case round =>
    obtain ⟨x11, x12, x13, V16, rfl, rfl, HD, HOA, HL1⟩ := hrel
    rename World => W17
    cases gk with
    | zero => exact absurd ((R1_Rising_L1_0 ..).symm.trans HL1.out) (by intro h; cases h)
    | succ g1 =>
      replace HL1 := Lib.hid ((R1_Rising_L1_s ..).symm.trans HL1.out)
      by_cases hc18 : x13 < ((v0).length : Int)
      · replace HL1 := Lib.hid (ifT hc18 HL1.out)
        have HK19 := Lib.hid hc18
        go_wp2_with fail
        try clear hc18
        obtain ⟨o20, ho, hm⟩ := obind HL1.out
        replace HL1 := Lib.hid hm; have HL2 := Lib.hid ho; clear hm ho
        go_loopg [6, 7] F (fun gg ux23 ux24 wr => ∃ (x21 : Int) (x22 : Int), ux23 = .int .i64 x21 ∧ ux24 = .int .i64 x22 ∧ Hid (Below W17.heap.size W17 wr) ∧ Hid (R1_Rising_L2 F (v0) (x12) gg x21 x22 = some o20))
        case atStart => exact ⟨(-1), 0, rfl, rfl, (Lib.hid (Below.refl _ _)), HL2⟩
        case round =>
          obtain ⟨x21, x22, rfl, rfl, HW2, HL2⟩ := hrel
          rename World => W25
          have hd := HW2.out
          replace HOA := Lib.hid (HOA.out.below hd)
          replace HD := Lib.hid (HD.out.trans (hd.mono HD.out.size))
          clear hd
          cases gk with
          | zero => exact absurd ((R1_Rising_L2_0 ..).symm.trans HL2.out) (by intro h; cases h)
          | succ g2 =>
            replace HL2 := Lib.hid ((R1_Rising_L2_s ..).symm.trans HL2.out)
            by_cases hc26 : x22 < ((v0).length : Int)
            · replace HL2 := Lib.hid (ifT hc26 HL2.out)
              have HK27 := Lib.hid hc26
              try go_wp2_with fail
              try clear hc26
              obtain ⟨b28, hb, hm⟩ := obind HL2.out
              replace HL2 := Lib.hid hm; have HB29 := Lib.hid hb; clear hm hb
              obtain ⟨y30, hy31, hm⟩ := obind HB29.out
              replace HB29 := Lib.hid hm; clear hm
              obtain ⟨b32, o33, ea34, _, f35, f36, f37⟩ := ReadsB.ix (HP.rd_B HOA.out (List.Mem.head _)) hy31
              cases ea34
              try simp only [Nat.zero_add, Nat.add_zero, Int.toNat_natCast, Int.toNat_zero, Int.toNat_one] at f37
              try rw [← HP.len_B HOA.out (List.Mem.head _)] at f36
              have HY39 := Lib.hid hy31; clear hy31
              cases y30
              · replace HB29 := Lib.hid (ifF Bool.false_ne_true HB29.out)
                by_cases hc40 : x21 < 0
                · replace HB29 := Lib.hid (ifT hc40 HB29.out)
                  have HK41 := Lib.hid hc40
                  obtain rfl := Option.some.inj HB29.out
                  replace HL2 := Lib.hid (ifT (by first | rfl | trivial) HL2.out)
                  go_quiet (fail)
                  generalize hW : World.drewN W25 _ = W42
                  have hd : Dr W25 W42 := ⟨_, hW.symm⟩
                  clear hW
                  try clear f35 f36 f37 hc40
                  replace HOA := Lib.hid (HOA.out.below (hd.below _))
                  replace HD := Lib.hid (HD.out.trans ((hd.below _).mono HD.out.size))
                  replace HW2 := Lib.hid (HW2.out.trans ((hd.below _).mono HW2.out.size))
                  clear hd
                  go_wp2_with fail
                  go_roundg g2
                  case measure => omega
                  case rel => exact ⟨x22, (wrap64 (x22 + 1)), rfl, rfl, HW2, HL2⟩
                · replace HB29 := Lib.hid (ifF hc40 HB29.out)
                  have hc40d := decide_eq_false hc40
                  have HK41 := Lib.hid hc40
                  obtain ⟨y43, hy44, hm⟩ := obind HB29.out
                  replace HB29 := Lib.hid hm; clear hm
                  obtain ⟨b45, o46, ea47, _, f48, f49, f50⟩ := ReadsI.ix (rdI HD.out HR0.out) hy44
                  cases ea47
                  try simp only [Nat.zero_add, Nat.add_zero, Int.toNat_natCast, Int.toNat_zero, Int.toNat_one] at f50
                  have HY52 := Lib.hid hy44; clear hy44
                  obtain ⟨y53, hy54, hm⟩ := obind HB29.out
                  replace HB29 := Lib.hid hm; clear hm
                  obtain ⟨b55, o56, ea57, _, f58, f59, f60⟩ := ReadsI.ix (rdI HD.out HR0.out) hy54
                  cases ea57
                  try simp only [Nat.zero_add, Nat.add_zero, Int.toNat_natCast, Int.toNat_zero, Int.toNat_one] at f60
                  have HY62 := Lib.hid hy54; clear hy54
                  by_cases hc63 : y43 < y53
                  · replace HB29 := Lib.hid (ifT hc63 HB29.out)
                    have HK64 := Lib.hid hc63
                    obtain rfl := Option.some.inj HB29.out
                    replace HL2 := Lib.hid (ifT (by first | rfl | trivial) HL2.out)
                    go_quiet (fail)
                    generalize hW : World.drewN W25 _ = W65
                    have hd : Dr W25 W65 := ⟨_, hW.symm⟩
                    clear hW
                    try clear f35 f36 f37 hc40 hc40d f48 f49 f50 f58 f59 f60 hc63
                    replace HOA := Lib.hid (HOA.out.below (hd.below _))
                    replace HD := Lib.hid (HD.out.trans ((hd.below _).mono HD.out.size))
                    replace HW2 := Lib.hid (HW2.out.trans ((hd.below _).mono HW2.out.size))
                    clear hd
                    go_wp2_with fail
                    go_roundg g2
                    case measure => omega
                    case rel => exact ⟨x22, (wrap64 (x22 + 1)), rfl, rfl, HW2, HL2⟩
                  · replace HB29 := Lib.hid (ifF hc63 HB29.out)
                    have hc63d := decide_eq_false hc63
                    have HK64 := Lib.hid hc63
                    obtain rfl := Option.some.inj HB29.out
                    replace HL2 := Lib.hid (ifF (by first | exact Bool.false_ne_true | exact not_false) HL2.out)
                    go_quiet (fail)
                    generalize hW : World.drewN W25 _ = W66
                    have hd : Dr W25 W66 := ⟨_, hW.symm⟩
                    clear hW
                    try clear f35 f36 f37 hc40 hc40d f48 f49 f50 f58 f59 f60 hc63 hc63d
                    replace HOA := Lib.hid (HOA.out.below (hd.below _))
                    replace HD := Lib.hid (HD.out.trans ((hd.below _).mono HD.out.size))
                    replace HW2 := Lib.hid (HW2.out.trans ((hd.below _).mono HW2.out.size))
                    clear hd
                    go_wp2_with fail
                    go_roundg g2
                    case measure => omega
                    case rel => exact ⟨x21, (wrap64 (x22 + 1)), rfl, rfl, HW2, HL2⟩
              · replace HB29 := Lib.hid (ifT rfl HB29.out)
                obtain rfl := Option.some.inj HB29.out
                replace HL2 := Lib.hid (ifF (by first | exact Bool.false_ne_true | exact not_false) HL2.out)
                go_quiet (fail)
                generalize hW : World.drewN W25 _ = W67
                have hd : Dr W25 W67 := ⟨_, hW.symm⟩
                clear hW
                try clear f35 f36 f37
                replace HOA := Lib.hid (HOA.out.below (hd.below _))
                replace HD := Lib.hid (HD.out.trans ((hd.below _).mono HD.out.size))
                replace HW2 := Lib.hid (HW2.out.trans ((hd.below _).mono HW2.out.size))
                clear hd
                go_wp2_with fail
                go_roundg g2
                case measure => omega
                case rel => exact ⟨x21, (wrap64 (x22 + 1)), rfl, rfl, HW2, HL2⟩
            · replace HL2 := Lib.hid (ifF hc26 HL2.out)
              have hc26d := decide_eq_false hc26
              have HK27 := Lib.hid hc26
              obtain rfl := Option.some.inj HL2.out
              have hm := HL1.out; try dsimp only at hm
              replace HL1 := Lib.hid hm; clear hm
              obtain ⟨y70, hy69, hm⟩ := obind HL1.out
              replace HL1 := Lib.hid hm; clear hm
              obtain ⟨f71, hy69⟩ := st_some hy69; subst hy69
              obtain ⟨g77, ea, f74, ⟨ux76, f75⟩, hp, hb⟩ := HP.setB (x := true) (its1 := []) HOA.out f71
              cases ea
              obtain ⟨q0, q1⟩ := f71
              try rw [← HP.len_B HOA.out (List.Mem.head _)] at q1
              have HP_ := Lib.hid hp; have HB_ := Lib.hid hb; clear hp hb
              go_upto_region 13 with (fail)
              have hp := HP_.out; have hb := HB_.out; clear HP_ HB_
              generalize hW : World.setCell W25 _ _ = W68 at *
              clear hW
              try clear f74 f75 q0 q1 hc26 hc26d
              replace HOA := Lib.hid (show HP W68 w.heap.size [.fl (owB (.slice (some ⟨w.heap.size, 0, none⟩) N8 N8) ((List.set x12 (Int.toNat x21) true))), .fl (owI V16 (x11))] from hp); clear hp
              replace HD := Lib.hid (HD.out.trans hb); clear hb
              obtain ⟨y81, hy82, hm⟩ := obind HL1.out
              replace HL1 := Lib.hid hm; clear hm
              obtain ⟨b83, o84, ea85, _, f86, f87, f88⟩ := ReadsI.ix (rdI HD.out HR0.out) hy82
              cases ea85
              try simp only [Nat.zero_add, Nat.add_zero, Int.toNat_natCast, Int.toNat_zero, Int.toNat_one] at f88
              have HY90 := Lib.hid hy82; clear hy82
              obtain ⟨y91, hy92, hm⟩ := obind HL1.out
              replace HL1 := Lib.hid hm; clear hm
              obtain ⟨f93, hy92⟩ := app_some hy92; subst hy92
              have HF96 := Lib.hid f93; clear f93
              go_upto_region 5 with (at_builtin; refine hp_appI _ (.tmp 47) (.tmp 52) 23 Tryd.underlying23 rfl rfl (L1 := [_]) HOA.out rfl rfl HF96.out HD.out.size ?_; intro V94 W95 hoa hd)
              try clear f86 f87 f88
              replace HOA := Lib.hid (show HP W95 w.heap.size [.fl (owB (.slice (some ⟨w.heap.size, 0, none⟩) N8 N8) ((List.set x12 (Int.toNat x21) true))), .fl (owI V94 ((x11 ++ [y81])))] from hoa); clear hoa
              replace HD := Lib.hid (HD.out.trans hd); clear hd
              go_wp2_with fail
              go_roundg g1
              case measure => omega
              case rel => exact ⟨(x11 ++ [y81]), (List.set x12 (Int.toNat x21) true), (wrap64 (x13 + 1)), V94, rfl, rfl, HD, HOA, HL1⟩
      · replace HL1 := Lib.hid (ifF hc18 HL1.out)
        have hc18d := decide_eq_false hc18
        have HK19 := Lib.hid hc18
        obtain rfl := Option.some.inj HL1.out
        have hm := HM.out; try dsimp only at hm
        replace HM := Lib.hid hm; clear hm
        obtain rfl := Option.some.inj HM.out
        go_wp2_with fail
        try clear hc18 hc18d
        go_ret
        exact ⟨_, rfl, HOA.out.get (List.Mem.tail _ (List.Mem.head _)), HD.out⟩
def R3_Greedy_L2 (F : Nat) (v0 : Int) (v2 : List Int) (v6 : List Int) : Nat → (Int) → (Int) → Option (Int × Int)
  | 0, _, _ => none
  | g+1, v9, v10 => if v10 < v0 then (((R1_Has F (v6) (v10)).bind fun y2 => if y2 = true then some false else if v9 < 0 then some true else (ix v2 v10).bind fun y3 => (ix v2 v9).bind fun y4 => if y4 < y3 then some true else some false).bind fun b1 => if b1 = true then R3_Greedy_L2 F v0 v2 v6 g (v10) ((wrap64 (v10 + 1))) else R3_Greedy_L2 F v0 v2 v6 g (v9) ((wrap64 (v10 + 1)))) else some (v9, v10)
theorem R3_Greedy_L2_0 (F : Nat) (v0 : Int) (v2 : List Int) (v6 : List Int) (v9 : Int) (v10 : Int) : R3_Greedy_L2 F v0 v2 v6 0 v9 v10 = none := by rw [R3_Greedy_L2]
theorem R3_Greedy_L2_s (F g : Nat) (v0 : Int) (v2 : List Int) (v6 : List Int) (v9 : Int) (v10 : Int) : R3_Greedy_L2 F v0 v2 v6 (g+1) v9 v10 = (if v10 < v0 then (((R1_Has F (v6) (v10)).bind fun y2 => if y2 = true then some false else if v9 < 0 then some true else (ix v2 v10).bind fun y3 => (ix v2 v9).bind fun y4 => if y4 < y3 then some true else some false).bind fun b1 => if b1 = true then R3_Greedy_L2 F v0 v2 v6 g (v10) ((wrap64 (v10 + 1))) else R3_Greedy_L2 F v0 v2 v6 g (v9) ((wrap64 (v10 + 1)))) else some (v9, v10)) := by rw [R3_Greedy_L2]
def R3_Greedy_L1 (F : Nat) (v0 : Int) (v1 : List (List Int)) (v2 : List Int) : Nat → (List Int) → (List Int) → (Int) → (Int) → Option (List Int × List Int × Int × Int)
  | 0, _, _, _, _ => none
  | g+1, v5, v6, v7, v8 => if v8 < v0 then (R3_Greedy_L2 F (v0) (v2) (v6) F ((-1)) (0)).bind fun o5 => (app v6 o5.1).bind fun y6 => ((R1_Behind F (v5) (o5.1)).bind fun y7 => (R3_May F (v1) (y7)).bind fun y8 => if y8 = true then (app v5 o5.1).bind fun y9 => (ix v2 o5.1).bind fun y10 => R3_Greedy_L1 F v0 v1 v2 g (y9) (y6) ((wrap64 (v7 + y10))) ((wrap64 (v8 + 1))) else R3_Greedy_L1 F v0 v1 v2 g (v5) (y6) (v7) ((wrap64 (v8 + 1)))) else some (v5, v6, v7, v8)
theorem R3_Greedy_L1_0 (F : Nat) (v0 : Int) (v1 : List (List Int)) (v2 : List Int) (v5 : List Int) (v6 : List Int) (v7 : Int) (v8 : Int) : R3_Greedy_L1 F v0 v1 v2 0 v5 v6 v7 v8 = none := by rw [R3_Greedy_L1]
theorem R3_Greedy_L1_s (F g : Nat) (v0 : Int) (v1 : List (List Int)) (v2 : List Int) (v5 : List Int) (v6 : List Int) (v7 : Int) (v8 : Int) : R3_Greedy_L1 F v0 v1 v2 (g+1) v5 v6 v7 v8 = (if v8 < v0 then (R3_Greedy_L2 F (v0) (v2) (v6) F ((-1)) (0)).bind fun o5 => (app v6 o5.1).bind fun y6 => ((R1_Behind F (v5) (o5.1)).bind fun y7 => (R3_May F (v1) (y7)).bind fun y8 => if y8 = true then (app v5 o5.1).bind fun y9 => (ix v2 o5.1).bind fun y10 => R3_Greedy_L1 F v0 v1 v2 g (y9) (y6) ((wrap64 (v7 + y10))) ((wrap64 (v8 + 1))) else R3_Greedy_L1 F v0 v1 v2 g (v5) (y6) (v7) ((wrap64 (v8 + 1)))) else some (v5, v6, v7, v8)) := by rw [R3_Greedy_L1]
def R3_Greedy (F : Nat) (v0 : Int) (v1 : List (List Int)) (v2 : List Int) : Option (List Int × Int) := (R3_Greedy_L1 F (v0) (v1) (v2) F ([]) ([]) (0) (0)).bind fun o11 => (R1_Rising F (o11.1)).bind fun y12 => some ((y12, o11.2.2.1))
set_option maxRecDepth 100000 in
set_option maxHeartbeats 4000000 in
theorem R3_Greedy_ok {F : Nat} {v0 : Int} {v1 : List (List Int)} {A1 : Option Addr} {v2 : List Int} {A2 : Option Addr} {r : List Int × Int} (w : World) (cap1 : Nat) (hr1 : ReadsR w w.heap.size A1 v1) (cap2 : Nat) (hr2 : ReadsI w w.heap.size A2 v2) (h : R3_Greedy F v0 v1 v2 = some r) :
    Calls Tryd.prog 10 #[.int .i64 v0, .slice A1 v1.length cap1, .slice A2 v2.length cap2] w (PostG (fun v => (.tuple #[v, (.int .i64 r.2)])) (fun v => owI v r.1) w.heap.size w) := by
  have HR1 := Lib.hid hr1; clear hr1
  have HR2 := Lib.hid hr2; clear hr2
  have HD := Lib.hid (Below.refl w.heap.size w)
  have HOA := Lib.hid (HP.nil (W := w) (B := w.heap.size))
  unfold R3_Greedy at h
  have HM := Lib.hid h; clear h
  go_enter Tryd.func10, Tryd.ntmps10
  replace HOA := Lib.hid (show HP _ _ (.fl (owI (.slice none 0 0) ([])) :: _) from HOA.out.pushNil _ _)
  replace HOA := Lib.hid (show HP _ _ (.fl (owI (.slice none 0 0) ([])) :: _) from HOA.out.pushNil _ _)
  go_wp2_with fail
  obtain ⟨o3, ho, hm⟩ := obind HM.out
  replace HM := Lib.hid hm; have HL1 := Lib.hid ho; clear hm ho
  go_loopg [8, 9, 10, 11] F (fun gg ux8 ux9 ux10 ux11 wr => ∃ (x4 : List Int) (x5 : List Int) (x6 : Int) (x7 : Int) (V12 : Value) (V13 : Value), V12 = ux8 ∧ V13 = ux9 ∧ ux10 = .int .i64 x6 ∧ ux11 = .int .i64 x7 ∧ Hid (Below w.heap.size w wr) ∧ Hid (HP wr w.heap.size [.fl (owI V13 (x5)), .fl (owI V12 (x4))]) ∧ Hid (R3_Greedy_L1 F (v0) (v1) (v2) gg x4 x5 x6 x7 = some o3))
  case atStart => exact ⟨[], [], 0, 0, (.slice none 0 0), (.slice none 0 0), rfl, rfl, rfl, rfl, HD, HOA, HL1⟩
  case round =>
    obtain ⟨x4, x5, x6, x7, V12, V13, rfl, rfl, rfl, rfl, HD, HOA, HL1⟩ := hrel
    rename World => W14
    cases gk with
    | zero => exact absurd ((R3_Greedy_L1_0 ..).symm.trans HL1.out) (by intro h; cases h)
    | succ g1 =>
      replace HL1 := Lib.hid ((R3_Greedy_L1_s ..).symm.trans HL1.out)
      by_cases hc15 : x7 < v0
      · replace HL1 := Lib.hid (ifT hc15 HL1.out)
        have HK16 := Lib.hid hc15
        go_wp2_with fail
        try clear hc15
        obtain ⟨o17, ho, hm⟩ := obind HL1.out
        replace HL1 := Lib.hid hm; have HL2 := Lib.hid ho; clear hm ho
        go_loopg [12, 13] F (fun gg ux20 ux21 wr => ∃ (x18 : Int) (x19 : Int), ux20 = .int .i64 x18 ∧ ux21 = .int .i64 x19 ∧ Hid (Below W14.heap.size W14 wr) ∧ Hid (R3_Greedy_L2 F (v0) (v2) (x5) gg x18 x19 = some o17))
        case atStart => exact ⟨(-1), 0, rfl, rfl, (Lib.hid (Below.refl _ _)), HL2⟩
        case round =>
          obtain ⟨x18, x19, rfl, rfl, HW2, HL2⟩ := hrel
          rename World => W22
          have hd := HW2.out
          replace HOA := Lib.hid (HOA.out.below hd)
          replace HD := Lib.hid (HD.out.trans (hd.mono HD.out.size))
          clear hd
          cases gk with
          | zero => exact absurd ((R3_Greedy_L2_0 ..).symm.trans HL2.out) (by intro h; cases h)
          | succ g2 =>
            replace HL2 := Lib.hid ((R3_Greedy_L2_s ..).symm.trans HL2.out)
            by_cases hc23 : x19 < v0
            · replace HL2 := Lib.hid (ifT hc23 HL2.out)
              have HK24 := Lib.hid hc23
              try go_wp2_with fail
              try clear hc23
              obtain ⟨b25, hb, hm⟩ := obind HL2.out
              replace HL2 := Lib.hid hm; have HB26 := Lib.hid hb; clear hm hb
              obtain ⟨y29, hy27, hm⟩ := obind HB26.out
              replace HB26 := Lib.hid hm; clear hm
              obtain ⟨A30, cap31, he, _⟩ := HP.open_I HOA.out (List.Mem.head _)
              subst he
              have HC28 := Lib.hid (fun m => R1_Has_ok (W22.drewN m) cap31 (ReadsI.drewN' (HP.rd_I HOA.out (List.Mem.head _)) m) hy27)
              clear hy27
              cases y29
              · replace HB26 := Lib.hid (ifF Bool.false_ne_true HB26.out)
                by_cases hc32 : x18 < 0
                · replace HB26 := Lib.hid (ifT hc32 HB26.out)
                  have HK33 := Lib.hid hc32
                  obtain rfl := Option.some.inj HB26.out
                  replace HL2 := Lib.hid (ifT (by first | rfl | trivial) HL2.out)
                  go_quiet (first | (go_at_call 31; exact quiet_left (HC28.out _)))
                  generalize hW : World.drewN W22 _ = W34
                  have hd : Dr W22 W34 := ⟨_, hW.symm⟩
                  clear hW
                  try clear hc32
                  replace HOA := Lib.hid (HOA.out.below (hd.below _))
                  replace HD := Lib.hid (HD.out.trans ((hd.below _).mono HD.out.size))
                  replace HW2 := Lib.hid (HW2.out.trans ((hd.below _).mono HW2.out.size))
                  clear hd
                  go_wp2_with fail
                  go_roundg g2
                  case measure => omega
                  case rel => exact ⟨x19, (wrap64 (x19 + 1)), rfl, rfl, HW2, HL2⟩
                · replace HB26 := Lib.hid (ifF hc32 HB26.out)
                  have hc32d := decide_eq_false hc32
                  have HK33 := Lib.hid hc32
                  obtain ⟨y35, hy36, hm⟩ := obind HB26.out
                  replace HB26 := Lib.hid hm; clear hm
                  obtain ⟨b37, o38, ea39, _, f40, f41, f42⟩ := ReadsI.ix (rdI HD.out HR2.out) hy36
                  cases ea39
                  try simp only [Nat.zero_add, Nat.add_zero, Int.toNat_natCast, Int.toNat_zero, Int.toNat_one] at f42
                  have HY44 := Lib.hid hy36; clear hy36
                  obtain ⟨y45, hy46, hm⟩ := obind HB26.out
                  replace HB26 := Lib.hid hm; clear hm
                  obtain ⟨b47, o48, ea49, _, f50, f51, f52⟩ := ReadsI.ix (rdI HD.out HR2.out) hy46
                  cases ea49
                  try simp only [Nat.zero_add, Nat.add_zero, Int.toNat_natCast, Int.toNat_zero, Int.toNat_one] at f52
                  have HY54 := Lib.hid hy46; clear hy46
                  by_cases hc55 : y45 < y35
                  · replace HB26 := Lib.hid (ifT hc55 HB26.out)
                    have HK56 := Lib.hid hc55
                    obtain rfl := Option.some.inj HB26.out
                    replace HL2 := Lib.hid (ifT (by first | rfl | trivial) HL2.out)
                    go_quiet (first | (go_at_call 31; exact quiet_left (HC28.out _)))
                    generalize hW : World.drewN W22 _ = W57
                    have hd : Dr W22 W57 := ⟨_, hW.symm⟩
                    clear hW
                    try clear hc32 hc32d f40 f41 f42 f50 f51 f52 hc55
                    replace HOA := Lib.hid (HOA.out.below (hd.below _))
                    replace HD := Lib.hid (HD.out.trans ((hd.below _).mono HD.out.size))
                    replace HW2 := Lib.hid (HW2.out.trans ((hd.below _).mono HW2.out.size))
                    clear hd
                    go_wp2_with fail
                    go_roundg g2
                    case measure => omega
                    case rel => exact ⟨x19, (wrap64 (x19 + 1)), rfl, rfl, HW2, HL2⟩
                  · replace HB26 := Lib.hid (ifF hc55 HB26.out)
                    have hc55d := decide_eq_false hc55
                    have HK56 := Lib.hid hc55
                    obtain rfl := Option.some.inj HB26.out
                    replace HL2 := Lib.hid (ifF (by first | exact Bool.false_ne_true | exact not_false) HL2.out)
                    go_quiet (first | (go_at_call 31; exact quiet_left (HC28.out _)))
                    generalize hW : World.drewN W22 _ = W58
                    have hd : Dr W22 W58 := ⟨_, hW.symm⟩
                    clear hW
                    try clear hc32 hc32d f40 f41 f42 f50 f51 f52 hc55 hc55d
                    replace HOA := Lib.hid (HOA.out.below (hd.below _))
                    replace HD := Lib.hid (HD.out.trans ((hd.below _).mono HD.out.size))
                    replace HW2 := Lib.hid (HW2.out.trans ((hd.below _).mono HW2.out.size))
                    clear hd
                    go_wp2_with fail
                    go_roundg g2
                    case measure => omega
                    case rel => exact ⟨x18, (wrap64 (x19 + 1)), rfl, rfl, HW2, HL2⟩
              · replace HB26 := Lib.hid (ifT rfl HB26.out)
                obtain rfl := Option.some.inj HB26.out
                replace HL2 := Lib.hid (ifF (by first | exact Bool.false_ne_true | exact not_false) HL2.out)
                go_quiet (first | (go_at_call 31; exact quiet_left (HC28.out _)))
                generalize hW : World.drewN W22 _ = W59
                have hd : Dr W22 W59 := ⟨_, hW.symm⟩
                clear hW
                replace HOA := Lib.hid (HOA.out.below (hd.below _))
                replace HD := Lib.hid (HD.out.trans ((hd.below _).mono HD.out.size))
                replace HW2 := Lib.hid (HW2.out.trans ((hd.below _).mono HW2.out.size))
                clear hd
                go_wp2_with fail
                go_roundg g2
                case measure => omega
                case rel => exact ⟨x18, (wrap64 (x19 + 1)), rfl, rfl, HW2, HL2⟩
            · replace HL2 := Lib.hid (ifF hc23 HL2.out)
              have hc23d := decide_eq_false hc23
              have HK24 := Lib.hid hc23
              obtain rfl := Option.some.inj HL2.out
              have hm := HL1.out; try dsimp only at hm
              replace HL1 := Lib.hid hm; clear hm
              obtain ⟨y60, hy61, hm⟩ := obind HL1.out
              replace HL1 := Lib.hid hm; clear hm
              obtain ⟨f62, hy61⟩ := app_some hy61; subst hy61
              have HF65 := Lib.hid f62; clear f62
              go_upto_region 13 with (at_builtin; refine hp_appI _ (.tmp 44) (.tmp 46) 23 Tryd.underlying23 rfl rfl (L1 := []) HOA.out rfl rfl HF65.out HD.out.size ?_; intro V63 W64 hoa hd)
              try clear hc23 hc23d
              replace HOA := Lib.hid (show HP W64 w.heap.size [.fl (owI V63 ((x5 ++ [x18]))), .fl (owI V12 (x4))] from hoa); clear hoa
              replace HD := Lib.hid (HD.out.trans hd); clear hd
              obtain ⟨y68, hy66, hm⟩ := obind HL1.out
              replace HL1 := Lib.hid hm; clear hm
              obtain ⟨A69, cap70, he, _⟩ := HP.open_I HOA.out (List.Mem.tail _ (List.Mem.head _))
              subst he
              have HC67 := R1_Behind_ok W64 cap70 (HP.rd_I HOA.out (List.Mem.tail _ (List.Mem.head _))) hy66
              clear hy66
              replace HC67 := Lib.hid HC67
              go_wp2_with fail
              refine HC67.out.mono ?_; rintro e W71 ⟨V72, rfl, ho, hd⟩
              replace HOA := Lib.hid (HOA.out.call hd HD.out.size ho); clear ho
              replace HD := Lib.hid (HD.out.trans (hd.mono HD.out.size))
              clear hd
              obtain ⟨y76, hy74, hm⟩ := obind HL1.out
              replace HL1 := Lib.hid hm; clear hm
              obtain ⟨A77, cap78, he, _⟩ := HP.open_I HOA.out (List.Mem.head _)
              subst he
              have HC75 := R3_May_ok W71 cap1 (rdR HD.out HR1.out) cap78 (HP.rd_I HOA.out (List.Mem.head _)) hy74
              clear hy74
              replace HC75 := Lib.hid HC75
              go_wp2_with fail
              refine HC75.out.mono ?_; rintro e W79 ⟨rfl, hd⟩
              replace HOA := Lib.hid (HOA.out.below (hd.below _))
              replace HD := Lib.hid (HD.out.trans ((hd.below _).mono HD.out.size))
              clear hd
              cases y76
              · replace HL1 := Lib.hid (ifF Bool.false_ne_true HL1.out)
                go_wp2_with fail
                replace HOA := Lib.hid (HOA.out.sub (.cons _ (.cons₂ _ (.cons₂ _ .slnil))))
                go_roundg g1
                case measure => omega
                case rel => exact ⟨x4, (x5 ++ [x18]), x6, (wrap64 (x7 + 1)), (.slice A69 (x4).length cap70), V63, rfl, rfl, rfl, rfl, HD, HOA, HL1⟩
              · replace HL1 := Lib.hid (ifT rfl HL1.out)
                obtain ⟨y80, hy81, hm⟩ := obind HL1.out
                replace HL1 := Lib.hid hm; clear hm
                obtain ⟨f82, hy81⟩ := app_some hy81; subst hy81
                have HF85 := Lib.hid f82; clear f82
                go_upto_region 15 with (at_builtin; refine hp_appI _ (.tmp 53) (.tmp 55) 23 Tryd.underlying23 rfl rfl (L1 := [_, _]) HOA.out rfl rfl HF85.out HD.out.size ?_; intro V83 W84 hoa hd)
                replace HOA := Lib.hid (show HP W84 w.heap.size [.fl (owI (.slice A77 (y68).length cap78) (y68)), .fl (owI V63 ((x5 ++ [x18]))), .fl (owI V83 ((x4 ++ [x18])))] from hoa); clear hoa
                replace HD := Lib.hid (HD.out.trans hd); clear hd
                obtain ⟨y86, hy87, hm⟩ := obind HL1.out
                replace HL1 := Lib.hid hm; clear hm
                obtain ⟨b88, o89, ea90, _, f91, f92, f93⟩ := ReadsI.ix (rdI HD.out HR2.out) hy87
                cases ea90
                try simp only [Nat.zero_add, Nat.add_zero, Int.toNat_natCast, Int.toNat_zero, Int.toNat_one] at f93
                have HY95 := Lib.hid hy87; clear hy87
                go_wp2_with fail
                try clear f91 f92 f93
                replace HOA := Lib.hid (HOA.out.sub (.cons _ (.cons₂ _ (.cons₂ _ .slnil))))
                go_roundg g1
                case measure => omega
                case rel => exact ⟨(x4 ++ [x18]), (x5 ++ [x18]), (wrap64 (x6 + y86)), (wrap64 (x7 + 1)), V83, V63, rfl, rfl, rfl, rfl, HD, HOA, HL1⟩
      · replace HL1 := Lib.hid (ifF hc15 HL1.out)
        have hc15d := decide_eq_false hc15
        have HK16 := Lib.hid hc15
        obtain rfl := Option.some.inj HL1.out
        have hm := HM.out; try dsimp only at hm
        replace HM := Lib.hid hm; clear hm
        obtain ⟨y98, hy96, hm⟩ := obind HM.out
        replace HM := Lib.hid hm; clear hm
        obtain ⟨A99, cap100, he, _⟩ := HP.open_I HOA.out (List.Mem.tail _ (List.Mem.head _))
        subst he
        have HC97 := R1_Rising_ok W14 cap100 (HP.rd_I HOA.out (List.Mem.tail _ (List.Mem.head _))) hy96
        clear hy96
        replace HC97 := Lib.hid HC97
        go_wp2_with fail
        refine HC97.out.mono ?_; rintro e W101 ⟨V102, rfl, ho, hd⟩
        try clear hc15 hc15d
        replace HOA := Lib.hid (HOA.out.call hd HD.out.size ho); clear ho
        replace HD := Lib.hid (HD.out.trans (hd.mono HD.out.size))
        clear hd
        obtain rfl := Option.some.inj HM.out
        go_wp2_with fail
        go_ret2
        exact ⟨_, rfl, HOA.out.get (List.Mem.head _), HD.out⟩
def R3_Best_L2 (F : Nat) (v2 : List Int) (v6 : List Int) : Nat → (Int) → (Int) → Option (Int × Int)
  | 0, _, _ => none
  | g+1, v7, v8 => if v8 < ((v6).length : Int) then (ix v6 v8).bind fun y3 => (ix v2 y3).bind fun y4 => R3_Best_L2 F v2 v6 g ((wrap64 (v7 + y4))) ((wrap64 (v8 + 1))) else some (v7, v8)
theorem R3_Best_L2_0 (F : Nat) (v2 : List Int) (v6 : List Int) (v7 : Int) (v8 : Int) : R3_Best_L2 F v2 v6 0 v7 v8 = none := by rw [R3_Best_L2]
theorem R3_Best_L2_s (F g : Nat) (v2 : List Int) (v6 : List Int) (v7 : Int) (v8 : Int) : R3_Best_L2 F v2 v6 (g+1) v7 v8 = (if v8 < ((v6).length : Int) then (ix v6 v8).bind fun y3 => (ix v2 y3).bind fun y4 => R3_Best_L2 F v2 v6 g ((wrap64 (v7 + y4))) ((wrap64 (v8 + 1))) else some (v7, v8)) := by rw [R3_Best_L2]
def R3_Best_L1 (F : Nat) (v0 : Int) (v1 : List (List Int)) (v2 : List Int) : Nat → (Int) → (Int) → Option (Int × Int)
  | 0, _, _ => none
  | g+1, v4, v5 => (R3_Power F (v0)).bind fun y1 => if v5 < y1 then (R3_Members F (v5)).bind fun y2 => (R3_Best_L2 F (v2) (y2) F (0) (0)).bind fun o5 => ((if v4 < o5.1 then (R3_May F (v1) (y2)).bind fun y7 => if y7 = true then some true else some false else some false).bind fun b6 => if b6 = true then R3_Best_L1 F v0 v1 v2 g (o5.1) ((wrap64 (v5 + 1))) else R3_Best_L1 F v0 v1 v2 g (v4) ((wrap64 (v5 + 1)))) else some (v4, v5)
theorem R3_Best_L1_0 (F : Nat) (v0 : Int) (v1 : List (List Int)) (v2 : List Int) (v4 : Int) (v5 : Int) : R3_Best_L1 F v0 v1 v2 0 v4 v5 = none := by rw [R3_Best_L1]
theorem R3_Best_L1_s (F g : Nat) (v0 : Int) (v1 : List (List Int)) (v2 : List Int) (v4 : Int) (v5 : Int) : R3_Best_L1 F v0 v1 v2 (g+1) v4 v5 = ((R3_Power F (v0)).bind fun y1 => if v5 < y1 then (R3_Members F (v5)).bind fun y2 => (R3_Best_L2 F (v2) (y2) F (0) (0)).bind fun o5 => ((if v4 < o5.1 then (R3_May F (v1) (y2)).bind fun y7 => if y7 = true then some true else some false else some false).bind fun b6 => if b6 = true then R3_Best_L1 F v0 v1 v2 g (o5.1) ((wrap64 (v5 + 1))) else R3_Best_L1 F v0 v1 v2 g (v4) ((wrap64 (v5 + 1)))) else some (v4, v5)) := by rw [R3_Best_L1]
def R3_Best (F : Nat) (v0 : Int) (v1 : List (List Int)) (v2 : List Int) : Option (Int) := (R3_Best_L1 F (v0) (v1) (v2) F (0) (0)).bind fun o8 => some (o8.1)
set_option maxRecDepth 100000 in
set_option maxHeartbeats 4000000 in
theorem R3_Best_ok {F : Nat} {v0 : Int} {v1 : List (List Int)} {A1 : Option Addr} {v2 : List Int} {A2 : Option Addr} {r : Int} (w : World) (cap1 : Nat) (hr1 : ReadsR w w.heap.size A1 v1) (cap2 : Nat) (hr2 : ReadsI w w.heap.size A2 v2) (h : R3_Best F v0 v1 v2 = some r) :
    Calls Tryd.prog 11 #[.int .i64 v0, .slice A1 v1.length cap1, .slice A2 v2.length cap2] w fun e w' => e = .returned (.int .i64 r) ∧ Below w.heap.size w w' := by
  have HR1 := Lib.hid hr1; clear hr1
  have HR2 := Lib.hid hr2; clear hr2
  have HD := Lib.hid (Below.refl w.heap.size w)
  have HOA := Lib.hid (HP.nil (W := w) (B := w.heap.size))
  unfold R3_Best at h
  have HM := Lib.hid h; clear h
  go_enter Tryd.func11, Tryd.ntmps11
  go_wp2_with fail
  obtain ⟨o1, ho, hm⟩ := obind HM.out
  replace HM := Lib.hid hm; have HL1 := Lib.hid ho; clear hm ho
  go_loopg [7, 8] F (fun gg ux4 ux5 wr => ∃ (x2 : Int) (x3 : Int), ux4 = .int .i64 x2 ∧ ux5 = .int .i64 x3 ∧ Hid (Below w.heap.size w wr) ∧ Hid (R3_Best_L1 F (v0) (v1) (v2) gg x2 x3 = some o1))
  case atStart => exact ⟨0, 0, rfl, rfl, (Lib.hid (Below.refl _ _)), HL1⟩
  case round =>
    obtain ⟨x2, x3, rfl, rfl, HW1, HL1⟩ := hrel
    rename World => W6
    have hd := HW1.out
    replace HOA := Lib.hid (HOA.out.below hd)
    replace HD := Lib.hid (HD.out.trans (hd.mono HD.out.size))
    clear hd
    cases gk with
    | zero => exact absurd ((R3_Best_L1_0 ..).symm.trans HL1.out) (by intro h; cases h)
    | succ g1 =>
      replace HL1 := Lib.hid ((R3_Best_L1_s ..).symm.trans HL1.out)
      obtain ⟨y9, hy7, hm⟩ := obind HL1.out
      replace HL1 := Lib.hid hm; clear hm
      have HC8 := R3_Power_ok W6  hy7
      clear hy7
      replace HC8 := Lib.hid HC8
      by_cases hc10 : x3 < y9
      · replace HL1 := Lib.hid (ifT hc10 HL1.out)
        have HK11 := Lib.hid hc10
        obtain ⟨y14, hy12, hm⟩ := obind HL1.out
        replace HL1 := Lib.hid hm; clear hm
        have HC13 := R3_Members_ok W6  hy12
        clear hy12
        replace HC13 := Lib.hid HC13
        go_wp2_with fail
        refine HC8.out.mono ?_; rintro e w' ⟨rfl, rfl⟩
        go_wp2_with fail
        refine HC13.out.mono ?_; rintro e W15 ⟨V16, rfl, ho, hd⟩
        try clear hc10
        replace HOA := Lib.hid (HOA.out.call hd HD.out.size ho); clear ho
        replace HD := Lib.hid (HD.out.trans (hd.mono HD.out.size))
        replace HW1 := Lib.hid (HW1.out.trans (hd.mono HW1.out.size))
        clear hd
        go_wp2_with fail
        obtain ⟨o18, ho, hm⟩ := obind HL1.out
        replace HL1 := Lib.hid hm; have HL2 := Lib.hid ho; clear hm ho
        go_loopg [10, 11] F (fun gg ux21 ux22 wr => ∃ (x19 : Int) (x20 : Int), ux21 = .int .i64 x19 ∧ ux22 = .int .i64 x20 ∧ Hid (Below W15.heap.size W15 wr) ∧ Hid (R3_Best_L2 F (v2) (y14) gg x19 x20 = some o18))
        case atStart => exact ⟨0, 0, rfl, rfl, (Lib.hid (Below.refl _ _)), HL2⟩
        case round =>
          obtain ⟨x19, x20, rfl, rfl, HW2, HL2⟩ := hrel
          rename World => W23
          have hd := HW2.out
          replace HOA := Lib.hid (HOA.out.below hd)
          replace HD := Lib.hid (HD.out.trans (hd.mono HD.out.size))
          replace HW1 := Lib.hid (HW1.out.trans (hd.mono HW1.out.size))
          clear hd
          cases gk with
          | zero => exact absurd ((R3_Best_L2_0 ..).symm.trans HL2.out) (by intro h; cases h)
          | succ g2 =>
            replace HL2 := Lib.hid ((R3_Best_L2_s ..).symm.trans HL2.out)
            obtain ⟨A24, cap25, he, _⟩ := HP.open_I HOA.out (List.Mem.head _)
            subst he
            by_cases hc26 : x20 < ((y14).length : Int)
            · replace HL2 := Lib.hid (ifT hc26 HL2.out)
              have HK27 := Lib.hid hc26
              obtain ⟨y28, hy29, hm⟩ := obind HL2.out
              replace HL2 := Lib.hid hm; clear hm
              obtain ⟨b30, o31, ea32, _, f33, f34, f35⟩ := ReadsI.ix (HP.rd_I HOA.out (List.Mem.head _)) hy29
              cases ea32
              try simp only [Nat.zero_add, Nat.add_zero, Int.toNat_natCast, Int.toNat_zero, Int.toNat_one] at f35
              try rw [← HP.len_I HOA.out (List.Mem.head _)] at f34
              have HY37 := Lib.hid hy29; clear hy29
              obtain ⟨y38, hy39, hm⟩ := obind HL2.out
              replace HL2 := Lib.hid hm; clear hm
              obtain ⟨b40, o41, ea42, _, f43, f44, f45⟩ := ReadsI.ix (rdI HD.out HR2.out) hy39
              cases ea42
              try simp only [Nat.zero_add, Nat.add_zero, Int.toNat_natCast, Int.toNat_zero, Int.toNat_one] at f45
              have HY47 := Lib.hid hy39; clear hy39
              go_wp2_with fail
              try clear hc26 f33 f34 f35 f43 f44 f45
              go_roundg g2
              case measure => omega
              case rel => exact ⟨(wrap64 (x19 + y38)), (wrap64 (x20 + 1)), rfl, rfl, HW2, HL2⟩
            · replace HL2 := Lib.hid (ifF hc26 HL2.out)
              have hc26d := decide_eq_false hc26
              have HK27 := Lib.hid hc26
              obtain rfl := Option.some.inj HL2.out
              have hm := HL1.out; try dsimp only at hm
              replace HL1 := Lib.hid hm; clear hm
              obtain ⟨b48, hb, hm⟩ := obind HL1.out
              replace HL1 := Lib.hid hm; have HB49 := Lib.hid hb; clear hm hb
              by_cases hc50 : x2 < x19
              · replace HB49 := Lib.hid (ifT hc50 HB49.out)
                have HK51 := Lib.hid hc50
                obtain ⟨y54, hy52, hm⟩ := obind HB49.out
                replace HB49 := Lib.hid hm; clear hm
                have HC53 := R3_May_ok W23 cap1 (rdR HD.out HR1.out) cap25 (HP.rd_I HOA.out (List.Mem.head _)) hy52
                clear hy52
                replace HC53 := Lib.hid HC53
                go_wp2_with fail
                refine HC53.out.mono ?_; rintro e W55 ⟨rfl, hd⟩
                try clear hc26 hc26d hc50
                replace HOA := Lib.hid (HOA.out.below (hd.below _))
                replace HD := Lib.hid (HD.out.trans ((hd.below _).mono HD.out.size))
                replace HW1 := Lib.hid (HW1.out.trans ((hd.below _).mono HW1.out.size))
                clear hd
                cases y54
                · replace HB49 := Lib.hid (ifF Bool.false_ne_true HB49.out)
                  obtain rfl := Option.some.inj HB49.out
                  replace HL1 := Lib.hid (ifF (by first | exact Bool.false_ne_true | exact not_false) HL1.out)
                  go_wp2_with fail
                  go_roundg g1
                  case measure => omega
                  case rel => exact ⟨x2, (wrap64 (x3 + 1)), rfl, rfl, HW1, HL1⟩
                · replace HB49 := Lib.hid (ifT rfl HB49.out)
                  obtain rfl := Option.some.inj HB49.out
                  replace HL1 := Lib.hid (ifT (by first | rfl | trivial) HL1.out)
                  go_wp2_with fail
                  go_roundg g1
                  case measure => omega
                  case rel => exact ⟨x19, (wrap64 (x3 + 1)), rfl, rfl, HW1, HL1⟩
              · replace HB49 := Lib.hid (ifF hc50 HB49.out)
                have hc50d := decide_eq_false hc50
                have HK51 := Lib.hid hc50
                obtain rfl := Option.some.inj HB49.out
                replace HL1 := Lib.hid (ifF (by first | exact Bool.false_ne_true | exact not_false) HL1.out)
                go_wp2_with fail
                try clear hc26 hc26d hc50 hc50d
                go_roundg g1
                case measure => omega
                case rel => exact ⟨x2, (wrap64 (x3 + 1)), rfl, rfl, HW1, HL1⟩
      · replace HL1 := Lib.hid (ifF hc10 HL1.out)
        have hc10d := decide_eq_false hc10
        have HK11 := Lib.hid hc10
        obtain rfl := Option.some.inj HL1.out
        have hm := HM.out; try dsimp only at hm
        replace HM := Lib.hid hm; clear hm
        obtain rfl := Option.some.inj HM.out
        go_wp2_with fail
        refine HC8.out.mono ?_; rintro e w' ⟨rfl, rfl⟩
        go_wp2_with fail
        try clear hc10 hc10d
        go_ret
        exact ⟨rfl, HD.out⟩
end Go.Proofs.YtfaemblfffbmfaaDoor
