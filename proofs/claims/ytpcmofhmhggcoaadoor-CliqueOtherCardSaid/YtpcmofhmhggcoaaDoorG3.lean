import Derived.Test.YtpcmofhmhggcoaaDoorG1
set_option linter.all false
set_option maxRecDepth 100000
namespace Go.Proofs.YtpcmofhmhggcoaaDoor
open Go.RowKit
def R1_Lines_L1 (F : Nat) (v0 : Int) (v1 : List (Int × Int)) : Nat → (Int) → Option ((Int) ⊕ (Int))
  | 0, _ => none
  | g+1, v3 => if v3 < ((v1).length : Int) then (((ix v1 v3).bind fun y3 => (R1_in F (y3.1) (0) ((wrap64 (v0 - 1)))).bind fun y4 => if y4 = true then (ix v1 v3).bind fun y5 => (R1_in F (y5.2) (0) ((wrap64 (v0 - 1)))).bind fun y6 => if y6 = true then some false else some true else some true).bind fun b2 => if b2 = true then some (.inr (1)) else ((ix v1 v3).bind fun y7 => (ix v1 v3).bind fun y8 => if (y7.1 == y8.2) = true then some (.inr (3)) else R1_Lines_L1 F v0 v1 g ((wrap64 (v3 + 1))))) else some (.inl (v3))
theorem R1_Lines_L1_0 (F : Nat) (v0 : Int) (v1 : List (Int × Int)) (v3 : Int) : R1_Lines_L1 F v0 v1 0 v3 = none := by rw [R1_Lines_L1]
theorem R1_Lines_L1_s (F g : Nat) (v0 : Int) (v1 : List (Int × Int)) (v3 : Int) : R1_Lines_L1 F v0 v1 (g+1) v3 = (if v3 < ((v1).length : Int) then (((ix v1 v3).bind fun y3 => (R1_in F (y3.1) (0) ((wrap64 (v0 - 1)))).bind fun y4 => if y4 = true then (ix v1 v3).bind fun y5 => (R1_in F (y5.2) (0) ((wrap64 (v0 - 1)))).bind fun y6 => if y6 = true then some false else some true else some true).bind fun b2 => if b2 = true then some (.inr (1)) else ((ix v1 v3).bind fun y7 => (ix v1 v3).bind fun y8 => if (y7.1 == y8.2) = true then some (.inr (3)) else R1_Lines_L1 F v0 v1 g ((wrap64 (v3 + 1))))) else some (.inl (v3))) := by rw [R1_Lines_L1]
def R1_Lines (F : Nat) (v0 : Int) (v1 : List (Int × Int)) : Option (Int) := ((R1_in F (v0) (1) (8)).bind fun y1 => if y1 = true then (if 24 < ((v1).length : Int) then some (4) else (R1_Lines_L1 F (v0) (v1) F (0)).bind fun o9 => match o9 with | .inr r => some (r) | .inl o9 => some (0)) else some (1))
set_option maxRecDepth 100000 in
set_option maxHeartbeats 1000000 in
theorem R1_Lines_ok {F : Nat} {v0 : Int} {v1 : List (Int × Int)} {A1 : Option Addr} {r : Int} (w : World) (cap1 : Nat) (hr1 : ReadsL w w.heap.size A1 v1) (h : R1_Lines F v0 v1 = some r) :
    Calls Tryd.prog 5 #[.int .i64 v0, .slice A1 v1.length cap1] w fun e w' => e = .returned (.int .i64 r) ∧ Dr w w' := by
  have HR1 := Lib.hid hr1; clear hr1
  have HD := Lib.hid (Dr.refl w)
  unfold R1_Lines at h
  have HM := Lib.hid h; clear h
  go_enter Tryd.func5, Tryd.ntmps5
  obtain ⟨y1, hy2, hm⟩ := obind HM.out
  replace HM := Lib.hid hm; clear hm
  have HC3 := Lib.hid (R1_in_ok w  hy2)
  clear hy2
  cases y1
  · replace HM := Lib.hid (ifF Bool.false_ne_true HM.out)
    obtain rfl := Option.some.inj HM.out
    go_wp2_with fail
    refine HC3.out.mono ?_; rintro e w' ⟨rfl, rfl⟩
    go_wp2_with fail
    go_ret
    exact ⟨rfl, HD.out⟩
  · replace HM := Lib.hid (ifT rfl HM.out)
    by_cases hc4 : 24 < ((v1).length : Int)
    · replace HM := Lib.hid (ifT hc4 HM.out)
      obtain rfl := Option.some.inj HM.out
      go_wp2_with fail
      refine HC3.out.mono ?_; rintro e w' ⟨rfl, rfl⟩
      go_wp2_with fail
      try clear hc4
      go_ret
      exact ⟨rfl, HD.out⟩
    · replace HM := Lib.hid (ifF hc4 HM.out)
      go_wp2_with fail
      refine HC3.out.mono ?_; rintro e w' ⟨rfl, rfl⟩
      go_wp2_with fail
      try clear hc4
      obtain ⟨o5, ho, hm⟩ := obind HM.out
      replace HM := Lib.hid hm; have HL1 := Lib.hid ho; clear hm ho
      go_loopg [5] F (fun gg u7 wr => ∃ (x6 : Int), u7 = .int .i64 x6 ∧ Hid (Dr w wr) ∧ Hid (R1_Lines_L1 F (v0) (v1) gg x6 = some o5))
      case atStart => exact ⟨0, rfl, HD, HL1⟩
      case round =>
        obtain ⟨x6, rfl, HD, HL1⟩ := hrel
        cases gk with
        | zero => exact absurd ((R1_Lines_L1_0 ..).symm.trans HL1.out) (by intro h; cases h)
        | succ g1 =>
          replace HL1 := Lib.hid ((R1_Lines_L1_s ..).symm.trans HL1.out)
          by_cases hc8 : x6 < ((v1).length : Int)
          · replace HL1 := Lib.hid (ifT hc8 HL1.out)
            obtain ⟨b9, hb, hm⟩ := obind HL1.out
            replace HL1 := Lib.hid hm; have HB10 := Lib.hid hb; clear hm hb
            obtain ⟨y11, hy12, hm⟩ := obind HB10.out
            replace HB10 := Lib.hid hm; clear hm
            obtain ⟨b13, o14, ea15, _, f16, f17, f18, f19⟩ := ReadsL.ix (rdL (HD.out.below _) HR1.out) hy12
            cases ea15
            have HY20 := Lib.hid hy12; clear hy12
            obtain ⟨y21, hy22, hm⟩ := obind HB10.out
            replace HB10 := Lib.hid hm; clear hm
            have HC23 := Lib.hid (R1_in_ok wr  hy22)
            clear hy22
            cases y21
            · replace HB10 := Lib.hid (ifF Bool.false_ne_true HB10.out)
              obtain rfl := Option.some.inj HB10.out
              replace HL1 := Lib.hid (ifT rfl HL1.out)
              obtain rfl := Option.some.inj HL1.out
              have hm := HM.out; try dsimp only at hm
              replace HM := Lib.hid hm; clear hm
              obtain rfl := Option.some.inj HM.out
              go_wp2_with fail
              refine HC23.out.mono ?_; rintro e w' ⟨rfl, rfl⟩
              go_wp2_with fail
              try clear hc8 f16 f17 f18 f19
              go_ret
              exact ⟨rfl, HD.out⟩
            · replace HB10 := Lib.hid (ifT rfl HB10.out)
              obtain ⟨y24, hy25, hm⟩ := obind HB10.out
              replace HB10 := Lib.hid hm; clear hm
              obtain rfl := Option.some.inj (HY20.out.symm.trans hy25)
              clear hy25
              obtain ⟨y26, hy27, hm⟩ := obind HB10.out
              replace HB10 := Lib.hid hm; clear hm
              have HC28 := Lib.hid (R1_in_ok wr  hy27)
              clear hy27
              cases y26
              · replace HB10 := Lib.hid (ifF Bool.false_ne_true HB10.out)
                obtain rfl := Option.some.inj HB10.out
                replace HL1 := Lib.hid (ifT rfl HL1.out)
                obtain rfl := Option.some.inj HL1.out
                have hm := HM.out; try dsimp only at hm
                replace HM := Lib.hid hm; clear hm
                obtain rfl := Option.some.inj HM.out
                go_wp2_with fail
                refine HC23.out.mono ?_; rintro e w' ⟨rfl, rfl⟩
                go_wp2_with fail
                refine HC28.out.mono ?_; rintro e w' ⟨rfl, rfl⟩
                go_wp2_with fail
                try clear hc8 f16 f17 f18 f19
                go_ret
                exact ⟨rfl, HD.out⟩
              · replace HB10 := Lib.hid (ifT rfl HB10.out)
                obtain rfl := Option.some.inj HB10.out
                replace HL1 := Lib.hid (ifF Bool.false_ne_true HL1.out)
                try go_wp2_with fail
                refine HC23.out.mono ?_; rintro e w' ⟨rfl, rfl⟩
                try go_wp2_with fail
                refine HC28.out.mono ?_; rintro e w' ⟨rfl, rfl⟩
                try go_wp2_with fail
                try clear hc8 f16 f17 f18 f19
                obtain ⟨y29, hy30, hm⟩ := obind HL1.out
                replace HL1 := Lib.hid hm; clear hm
                obtain ⟨b31, o32, ea33, _, f34, f35, f36, f37⟩ := ReadsL.ix (rdL (HD.out.below _) HR1.out) hy30
                cases ea33
                have HY38 := Lib.hid hy30; clear hy30
                obtain ⟨y39, hy40, hm⟩ := obind HL1.out
                replace HL1 := Lib.hid hm; clear hm
                obtain rfl := Option.some.inj (HY38.out.symm.trans hy40)
                clear hy40
                rcases Bool.eq_false_or_eq_true (y29.1 == y29.2) with hc41 | hc41
                · replace HL1 := Lib.hid (ifT hc41 HL1.out)
                  go_quiet (fail)
                  generalize hW : World.drewN wr _ = W42
                  have hd : Dr wr W42 := ⟨_, hW.symm⟩
                  clear hW
                  try clear f34 f35 f36 f37 hc41
                  replace HD := Lib.hid (HD.out.trans hd); clear hd
                  obtain rfl := Option.some.inj HL1.out
                  have hm := HM.out; try dsimp only at hm
                  replace HM := Lib.hid hm; clear hm
                  obtain rfl := Option.some.inj HM.out
                  go_wp2_with fail
                  go_ret
                  exact ⟨rfl, HD.out⟩
                · replace HL1 := Lib.hid (ifF (bF hc41) HL1.out)
                  go_quiet (fail)
                  generalize hW : World.drewN wr _ = W43
                  have hd : Dr wr W43 := ⟨_, hW.symm⟩
                  clear hW
                  try clear f34 f35 f36 f37 hc41
                  replace HD := Lib.hid (HD.out.trans hd); clear hd
                  go_wp2_with fail
                  go_roundg g1
                  case measure => omega
                  case rel => exact ⟨(wrap64 (x6 + 1)), rfl, HD, HL1⟩
          · replace HL1 := Lib.hid (ifF hc8 HL1.out)
            obtain rfl := Option.some.inj HL1.out
            have hm := HM.out; try dsimp only at hm
            replace HM := Lib.hid hm; clear hm
            obtain rfl := Option.some.inj HM.out
            go_wp2_with fail
            try clear hc8
            go_ret
            exact ⟨rfl, HD.out⟩
end Go.Proofs.YtpcmofhmhggcoaaDoor
