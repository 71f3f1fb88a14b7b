import Derived.Test.YtabkmceajgpdjaaDoorA
import Derived.Test.YtabkmceajgpdjaaDoorSrt
set_option linter.all false
set_option maxRecDepth 100000
namespace Go.Proofs.YtabkmceajgpdjaaDoor
open Go.RowKit
def tourn_Can_L1 (F : Nat) (v3 : List Int) : Nat → (Int) → (Int) → Option ((Int) ⊕ (Bool × Int))
  | 0, _, _ => none
  | g+1, j, v4 => if j < ((v3).length : Int) then (ix v3 j).bind fun y => ((if (wrap64 (v4 + y)) < (wrap64 (Int.tdiv (wrap64 ((wrap64 (j + 1)) * j)) 2)) then some true else if (j == (wrap64 (((v3).length : Int) - 1))) = true then if ((wrap64 (v4 + y)) != (wrap64 (Int.tdiv (wrap64 ((wrap64 (j + 1)) * j)) 2))) = true then some true else some false else some false).bind fun b3 => if b3 = true then some (.inr ((false, 0))) else tourn_Can_L1 F v3 g (wrap64 (j + 1)) ((wrap64 (v4 + y)))) else some (.inl (v4))
theorem tourn_Can_L1_0 (F : Nat) (v3 : List Int) (v4 : Int) (j : Int) : tourn_Can_L1 F v3 0 j v4 = none := by rw [tourn_Can_L1]
theorem tourn_Can_L1_s (F g : Nat) (v3 : List Int) (v4 : Int) (j : Int) : tourn_Can_L1 F v3 (g+1) j v4 = (if j < ((v3).length : Int) then (ix v3 j).bind fun y => ((if (wrap64 (v4 + y)) < (wrap64 (Int.tdiv (wrap64 ((wrap64 (j + 1)) * j)) 2)) then some true else if (j == (wrap64 (((v3).length : Int) - 1))) = true then if ((wrap64 (v4 + y)) != (wrap64 (Int.tdiv (wrap64 ((wrap64 (j + 1)) * j)) 2))) = true then some true else some false else some false).bind fun b3 => if b3 = true then some (.inr ((false, 0))) else tourn_Can_L1 F v3 g (wrap64 (j + 1)) ((wrap64 (v4 + y)))) else some (.inl (v4))) := by rw [tourn_Can_L1]
def tourn_Can (F : Nat) (v0 : List Int) : Option (Bool × Int) := (if (((v0).length : Int) == 0) = true then some ((false, 5)) else (if 8 < ((v0).length : Int) then some ((false, 4)) else ((core_All F (v0) (0) (7)).bind fun y1 => if y1 = true then (slSortV (v0)).bind fun y2 => (tourn_Can_L1 F (y2) F (0) (0)).bind fun o4 => match o4 with | .inr r => some (r) | .inl o4 => some ((true, 0)) else some ((false, 1)))))
set_option maxRecDepth 100000 in
set_option maxHeartbeats 4000000 in
theorem tourn_Can_ok {F : Nat} {v0 : List Int} {A0 : Option Addr} {r : Bool × Int} (w : World) (cap0 : Nat) (hr0 : ReadsI w w.heap.size A0 v0) (h : tourn_Can F v0 = some r) :
    Calls Tryd.prog 13 #[.slice A0 v0.length cap0] w fun e w' => e = .returned (.tuple #[(.bool r.1), (errV 39 r.2)]) ∧ Below w.heap.size w w' := by
  have HR0 := Lib.hid hr0; clear hr0
  have HD := Lib.hid (Below.refl w.heap.size w)
  have HOA := Lib.hid (HP.nil (W := w) (B := w.heap.size))
  unfold tourn_Can at h
  have HM := Lib.hid h; clear h
  go_enter Tryd.func13, Tryd.ntmps13
  rcases Bool.eq_false_or_eq_true (((v0).length : Int) == 0) with hc1 | hc1
  · replace HM := Lib.hid (ifT hc1 HM.out)
    have HK2 := Lib.hid hc1
    obtain rfl := Option.some.inj HM.out
    go_wp2_with fail
    try clear hc1
    go_ret2
    exact ⟨rfl, HD.out⟩
  · replace HM := Lib.hid (ifF (bF hc1) HM.out)
    have HK2 := Lib.hid hc1
    by_cases hc3 : 8 < ((v0).length : Int)
    · replace HM := Lib.hid (ifT hc3 HM.out)
      have HK4 := Lib.hid hc3
      have hc3n := hc3; try norm_cast at hc3n
      obtain rfl := Option.some.inj HM.out
      go_wp2_with fail
      try clear hc1 hc3 hc3n
      go_ret2
      exact ⟨rfl, HD.out⟩
    · replace HM := Lib.hid (ifF hc3 HM.out)
      have hc3d := decide_eq_false hc3
      have HK4 := Lib.hid hc3
      have hc3n := hc3; try norm_cast at hc3n
      obtain ⟨y7, hy5, hm⟩ := obind HM.out
      replace HM := Lib.hid hm; clear hm
      have HC6 := core_All_ok w cap0 (rdI HD.out HR0.out) hy5
      clear hy5
      replace HC6 := Lib.hid HC6
      cases y7
      · replace HM := Lib.hid (ifF Bool.false_ne_true HM.out)
        obtain rfl := Option.some.inj HM.out
        go_wp2_with fail
        refine HC6.out.mono ?_; rintro e w' ⟨rfl, rfl⟩
        go_wp2_with fail
        try clear hc1 hc3 hc3n hc3d
        go_ret2
        exact ⟨rfl, HD.out⟩
      · replace HM := Lib.hid (ifT rfl HM.out)
        obtain ⟨y10, hy8, hm⟩ := obind HM.out
        replace HM := Lib.hid hm; clear hm
        have HC9 := slSortV_ok w cap0 (rdI HD.out HR0.out) hy8
        clear hy8
        replace HC9 := Lib.hid HC9
        go_wp2_with fail
        refine HC6.out.mono ?_; rintro e w' ⟨rfl, rfl⟩
        go_wp2_with fail
        refine (values_ok _).mono ?_; rintro e w' ⟨rfl, rfl⟩
        go_wp2_with fail
        refine HC9.out.mono ?_; rintro e W11 ⟨V12, rfl, ho, hd⟩
        try clear hc1 hc3 hc3n hc3d
        replace HOA := Lib.hid (HOA.out.call hd HD.out.size ho); clear ho
        replace HD := Lib.hid (HD.out.trans (hd.mono HD.out.size))
        clear hd
        obtain ⟨A14, cap15, he, _⟩ := HP.open_I HOA.out (List.Mem.head _)
        subst he
        go_wp2_with fail
        obtain ⟨o16, ho, hm⟩ := obind HM.out
        replace HM := Lib.hid hm; have HL1 := Lib.hid ho; clear hm ho
        go_loopg [26, 5] F (fun gg uj ux18 wr => ∃ (j19 : Int) (x17 : Int), uj = .int .i64 j19 ∧ ux18 = .int .i64 x17 ∧ Hid (Below W11.heap.size W11 wr) ∧ Hid (tourn_Can_L1 F (y10) gg j19 x17 = some o16))
        case atStart => exact ⟨0, 0, rfl, rfl, (Lib.hid (Below.refl _ _)), HL1⟩
        case round =>
          obtain ⟨j19, x17, rfl, rfl, HW1, HL1⟩ := hrel
          rename World => W20
          have hd := HW1.out
          replace HOA := Lib.hid (HOA.out.below hd)
          replace HD := Lib.hid (HD.out.trans (hd.mono HD.out.size))
          clear hd
          cases gk with
          | zero => exact absurd ((tourn_Can_L1_0 ..).symm.trans HL1.out) (by intro h; cases h)
          | succ g1 =>
            replace HL1 := Lib.hid ((tourn_Can_L1_s ..).symm.trans HL1.out)
            by_cases hc21 : j19 < ((y10).length : Int)
            · replace HL1 := Lib.hid (ifT hc21 HL1.out)
              have HK22 := Lib.hid hc21
              try rw [← HP.len_I HOA.out (List.Mem.head _)] at hc21
              obtain ⟨y23, hy24, hm⟩ := obind HL1.out
              replace HL1 := Lib.hid hm; clear hm
              obtain ⟨b25, o26, ea27, _, f28, f29, f30⟩ := ReadsI.ix (HP.rd_I HOA.out (List.Mem.head _)) hy24
              cases ea27
              try simp only [Nat.zero_add, Nat.add_zero, Int.toNat_natCast, Int.toNat_zero, Int.toNat_one] at f30
              try rw [← HP.len_I HOA.out (List.Mem.head _)] at f29
              have HY32 := Lib.hid hy24; clear hy24
              obtain ⟨b33, hb, hm⟩ := obind HL1.out
              replace HL1 := Lib.hid hm; have HB34 := Lib.hid hb; clear hm hb
              by_cases hc35 : (wrap64 (x17 + y23)) < (wrap64 (Int.tdiv (wrap64 ((wrap64 (j19 + 1)) * j19)) 2))
              · replace HB34 := Lib.hid (ifT hc35 HB34.out)
                have HK36 := Lib.hid hc35
                obtain rfl := Option.some.inj HB34.out
                replace HL1 := Lib.hid (ifT (by first | rfl | trivial) HL1.out)
                obtain rfl := Option.some.inj HL1.out
                have hm := HM.out; try dsimp only at hm
                replace HM := Lib.hid hm; clear hm
                obtain rfl := Option.some.inj HM.out
                go_wp2_with fail
                try clear hc21 f28 f29 f30 hc35
                go_ret2
                exact ⟨rfl, HD.out⟩
              · replace HB34 := Lib.hid (ifF hc35 HB34.out)
                have hc35d := decide_eq_false hc35
                have HK36 := Lib.hid hc35
                rcases Bool.eq_false_or_eq_true (j19 == (wrap64 (((y10).length : Int) - 1))) with hc37 | hc37
                · replace HB34 := Lib.hid (ifT hc37 HB34.out)
                  have HK38 := Lib.hid hc37
                  rcases Bool.eq_false_or_eq_true ((wrap64 (x17 + y23)) != (wrap64 (Int.tdiv (wrap64 ((wrap64 (j19 + 1)) * j19)) 2))) with hc39 | hc39
                  · replace HB34 := Lib.hid (ifT hc39 HB34.out)
                    have HK40 := Lib.hid hc39
                    obtain rfl := Option.some.inj HB34.out
                    replace HL1 := Lib.hid (ifT (by first | rfl | trivial) HL1.out)
                    obtain rfl := Option.some.inj HL1.out
                    have hm := HM.out; try dsimp only at hm
                    replace HM := Lib.hid hm; clear hm
                    obtain rfl := Option.some.inj HM.out
                    go_wp2_with fail
                    try clear hc21 f28 f29 f30 hc35 hc35d hc37 hc39
                    go_ret2
                    exact ⟨rfl, HD.out⟩
                  · replace HB34 := Lib.hid (ifF (bF hc39) HB34.out)
                    have HK40 := Lib.hid hc39
                    obtain rfl := Option.some.inj HB34.out
                    replace HL1 := Lib.hid (ifF (by first | exact Bool.false_ne_true | exact not_false) HL1.out)
                    go_wp2_with fail
                    try clear hc21 f28 f29 f30 hc35 hc35d hc37 hc39
                    go_roundg g1
                    case measure => omega
                    case rel => exact ⟨(wrap64 (j19 + 1)), (wrap64 (x17 + y23)), rfl, rfl, HW1, HL1⟩
                · replace HB34 := Lib.hid (ifF (bF hc37) HB34.out)
                  have HK38 := Lib.hid hc37
                  obtain rfl := Option.some.inj HB34.out
                  replace HL1 := Lib.hid (ifF (by first | exact Bool.false_ne_true | exact not_false) HL1.out)
                  go_wp2_with fail
                  try clear hc21 f28 f29 f30 hc35 hc35d hc37
                  go_roundg g1
                  case measure => omega
                  case rel => exact ⟨(wrap64 (j19 + 1)), (wrap64 (x17 + y23)), rfl, rfl, HW1, HL1⟩
            · replace HL1 := Lib.hid (ifF hc21 HL1.out)
              have hc21d := decide_eq_false hc21
              have HK22 := Lib.hid hc21
              try rw [← HP.len_I HOA.out (List.Mem.head _)] at hc21
              obtain rfl := Option.some.inj HL1.out
              have hm := HM.out; try dsimp only at hm
              replace HM := Lib.hid hm; clear hm
              obtain rfl := Option.some.inj HM.out
              go_wp2_with fail
              try clear hc21 hc21d
              go_ret2
              exact ⟨rfl, HD.out⟩
end Go.Proofs.YtabkmceajgpdjaaDoor
