import Derived.Test.YtekfgkeimlidhaaGreatDoorGR
set_option linter.all false
set_option maxRecDepth 100000
namespace Go.Proofs.YtekfgkeimlidhaaGreatDoor
open Go.RowKit
def R1_Far_L2 (F : Nat) (v0 : Int) (v1 : List (Int × Int)) (v2 : Bool) (v3 : Int) (v6 : Int) : Nat → (List Int) → (Int) → Option (List Int × Int)
  | 0, _, _ => none
  | g+1, v7, v8 => if v8 < v0 then (st v7 v8 (-1)).bind fun y2 => (if (v6 == v8) = true then (st y2 v8 0).bind fun y3 => R1_Far_L2 F v0 v1 v2 v3 v6 g (y3) ((wrap64 (v8 + 1))) else (((if (v6 != v3) = true then if (v8 != v3) = true then some true else some false else some false).bind fun b5 => if b5 = true then (R1_Goes F (v1) (v6) (v8)).bind fun y6 => if y6 = true then some true else if v2 = true then (R1_Goes F (v1) (v8) (v6)).bind fun y7 => if y7 = true then some true else some false else some false else some false).bind fun b4 => if b4 = true then (st y2 v8 1).bind fun y8 => R1_Far_L2 F v0 v1 v2 v3 v6 g (y8) ((wrap64 (v8 + 1))) else R1_Far_L2 F v0 v1 v2 v3 v6 g (y2) ((wrap64 (v8 + 1))))) else some (v7, v8)
theorem R1_Far_L2_0 (F : Nat) (v0 : Int) (v1 : List (Int × Int)) (v2 : Bool) (v3 : Int) (v6 : Int) (v7 : List Int) (v8 : Int) : R1_Far_L2 F v0 v1 v2 v3 v6 0 v7 v8 = none := by rw [R1_Far_L2]
theorem R1_Far_L2_s (F g : Nat) (v0 : Int) (v1 : List (Int × Int)) (v2 : Bool) (v3 : Int) (v6 : Int) (v7 : List Int) (v8 : Int) : R1_Far_L2 F v0 v1 v2 v3 v6 (g+1) v7 v8 = (if v8 < v0 then (st v7 v8 (-1)).bind fun y2 => (if (v6 == v8) = true then (st y2 v8 0).bind fun y3 => R1_Far_L2 F v0 v1 v2 v3 v6 g (y3) ((wrap64 (v8 + 1))) else (((if (v6 != v3) = true then if (v8 != v3) = true then some true else some false else some false).bind fun b5 => if b5 = true then (R1_Goes F (v1) (v6) (v8)).bind fun y6 => if y6 = true then some true else if v2 = true then (R1_Goes F (v1) (v8) (v6)).bind fun y7 => if y7 = true then some true else some false else some false else some false).bind fun b4 => if b4 = true then (st y2 v8 1).bind fun y8 => R1_Far_L2 F v0 v1 v2 v3 v6 g (y8) ((wrap64 (v8 + 1))) else R1_Far_L2 F v0 v1 v2 v3 v6 g (y2) ((wrap64 (v8 + 1))))) else some (v7, v8)) := by rw [R1_Far_L2]
def R1_Far_L1 (F : Nat) (v0 : Int) (v1 : List (Int × Int)) (v2 : Bool) (v3 : Int) : Nat → (List (List Int)) → (Int) → Option (List (List Int) × Int)
  | 0, _, _ => none
  | g+1, v5, v6 => if v6 < v0 then (mkI v0).bind fun y1 => (R1_Far_L2 F (v0) (v1) (v2) (v3) (v6) F (y1) (0)).bind fun o9 => (app v5 o9.1).bind fun y10 => R1_Far_L1 F v0 v1 v2 v3 g (y10) ((wrap64 (v6 + 1))) else some (v5, v6)
theorem R1_Far_L1_0 (F : Nat) (v0 : Int) (v1 : List (Int × Int)) (v2 : Bool) (v3 : Int) (v5 : List (List Int)) (v6 : Int) : R1_Far_L1 F v0 v1 v2 v3 0 v5 v6 = none := by rw [R1_Far_L1]
theorem R1_Far_L1_s (F g : Nat) (v0 : Int) (v1 : List (Int × Int)) (v2 : Bool) (v3 : Int) (v5 : List (List Int)) (v6 : Int) : R1_Far_L1 F v0 v1 v2 v3 (g+1) v5 v6 = (if v6 < v0 then (mkI v0).bind fun y1 => (R1_Far_L2 F (v0) (v1) (v2) (v3) (v6) F (y1) (0)).bind fun o9 => (app v5 o9.1).bind fun y10 => R1_Far_L1 F v0 v1 v2 v3 g (y10) ((wrap64 (v6 + 1))) else some (v5, v6)) := by rw [R1_Far_L1]
def R1_Far_L5 (F : Nat) (v0 : Int) (v9 : Int) (v10 : Int) : Nat → (List (List Int)) → (Int) → Option (List (List Int) × Int)
  | 0, _, _ => none
  | g+1, v5, v11 => if v11 < v0 then ((((ix v5 v10).bind fun y14 => (ix y14 v9).bind fun y15 => if 0 ≤ y15 then (ix v5 v9).bind fun y16 => (ix y16 v11).bind fun y17 => if 0 ≤ y17 then some true else some false else some false).bind fun b13 => if b13 = true then (ix v5 v10).bind fun y18 => (ix y18 v11).bind fun y19 => if y19 < 0 then some true else (ix v5 v10).bind fun y20 => (ix y20 v9).bind fun y21 => (ix v5 v9).bind fun y22 => (ix y22 v11).bind fun y23 => (ix v5 v10).bind fun y24 => (ix y24 v11).bind fun y25 => if (wrap64 (y21 + y23)) < y25 then some true else some false else some false).bind fun b12 => if b12 = true then (ix v5 v10).bind fun y29 => (ix y29 v9).bind fun y30 => (ix v5 v9).bind fun y31 => (ix y31 v11).bind fun y32 => (ix v5 v10).bind fun y26 => (st y26 v11 (wrap64 (y30 + y32))).bind fun y27 => (st v5 v10 y27).bind fun y28 => R1_Far_L5 F v0 v9 v10 g (y28) ((wrap64 (v11 + 1))) else R1_Far_L5 F v0 v9 v10 g (v5) ((wrap64 (v11 + 1)))) else some (v5, v11)
theorem R1_Far_L5_0 (F : Nat) (v0 : Int) (v9 : Int) (v10 : Int) (v5 : List (List Int)) (v11 : Int) : R1_Far_L5 F v0 v9 v10 0 v5 v11 = none := by rw [R1_Far_L5]
theorem R1_Far_L5_s (F g : Nat) (v0 : Int) (v9 : Int) (v10 : Int) (v5 : List (List Int)) (v11 : Int) : R1_Far_L5 F v0 v9 v10 (g+1) v5 v11 = (if v11 < v0 then ((((ix v5 v10).bind fun y14 => (ix y14 v9).bind fun y15 => if 0 ≤ y15 then (ix v5 v9).bind fun y16 => (ix y16 v11).bind fun y17 => if 0 ≤ y17 then some true else some false else some false).bind fun b13 => if b13 = true then (ix v5 v10).bind fun y18 => (ix y18 v11).bind fun y19 => if y19 < 0 then some true else (ix v5 v10).bind fun y20 => (ix y20 v9).bind fun y21 => (ix v5 v9).bind fun y22 => (ix y22 v11).bind fun y23 => (ix v5 v10).bind fun y24 => (ix y24 v11).bind fun y25 => if (wrap64 (y21 + y23)) < y25 then some true else some false else some false).bind fun b12 => if b12 = true then (ix v5 v10).bind fun y29 => (ix y29 v9).bind fun y30 => (ix v5 v9).bind fun y31 => (ix y31 v11).bind fun y32 => (ix v5 v10).bind fun y26 => (st y26 v11 (wrap64 (y30 + y32))).bind fun y27 => (st v5 v10 y27).bind fun y28 => R1_Far_L5 F v0 v9 v10 g (y28) ((wrap64 (v11 + 1))) else R1_Far_L5 F v0 v9 v10 g (v5) ((wrap64 (v11 + 1)))) else some (v5, v11)) := by rw [R1_Far_L5]
def R1_Far_L4 (F : Nat) (v0 : Int) (v9 : Int) : Nat → (List (List Int)) → (Int) → Option (List (List Int) × Int)
  | 0, _, _ => none
  | g+1, v5, v10 => if v10 < v0 then (R1_Far_L5 F (v0) (v9) (v10) F (v5) (0)).bind fun o33 => R1_Far_L4 F v0 v9 g (o33.1) ((wrap64 (v10 + 1))) else some (v5, v10)
theorem R1_Far_L4_0 (F : Nat) (v0 : Int) (v9 : Int) (v5 : List (List Int)) (v10 : Int) : R1_Far_L4 F v0 v9 0 v5 v10 = none := by rw [R1_Far_L4]
theorem R1_Far_L4_s (F g : Nat) (v0 : Int) (v9 : Int) (v5 : List (List Int)) (v10 : Int) : R1_Far_L4 F v0 v9 (g+1) v5 v10 = (if v10 < v0 then (R1_Far_L5 F (v0) (v9) (v10) F (v5) (0)).bind fun o33 => R1_Far_L4 F v0 v9 g (o33.1) ((wrap64 (v10 + 1))) else some (v5, v10)) := by rw [R1_Far_L4]
def R1_Far_L3 (F : Nat) (v0 : Int) : Nat → (List (List Int)) → (Int) → Option (List (List Int) × Int)
  | 0, _, _ => none
  | g+1, v5, v9 => if v9 < v0 then (R1_Far_L4 F (v0) (v9) F (v5) (0)).bind fun o34 => R1_Far_L3 F v0 g (o34.1) ((wrap64 (v9 + 1))) else some (v5, v9)
theorem R1_Far_L3_0 (F : Nat) (v0 : Int) (v5 : List (List Int)) (v9 : Int) : R1_Far_L3 F v0 0 v5 v9 = none := by rw [R1_Far_L3]
theorem R1_Far_L3_s (F g : Nat) (v0 : Int) (v5 : List (List Int)) (v9 : Int) : R1_Far_L3 F v0 (g+1) v5 v9 = (if v9 < v0 then (R1_Far_L4 F (v0) (v9) F (v5) (0)).bind fun o34 => R1_Far_L3 F v0 g (o34.1) ((wrap64 (v9 + 1))) else some (v5, v9)) := by rw [R1_Far_L3]
def R1_Far (F : Nat) (v0 : Int) (v1 : List (Int × Int)) (v2 : Bool) (v3 : Int) : Option (List (List Int)) := (R1_Far_L1 F (v0) (v1) (v2) (v3) F ([]) (0)).bind fun o11 => (R1_Far_L3 F (v0) F (o11.1) (0)).bind fun o35 => some (o35.1)
set_option maxRecDepth 100000 in
set_option maxHeartbeats 4000000 in
theorem R1_Far_ok {F : Nat} {v0 : Int} {v1 : List (Int × Int)} {A1 : Option Addr} {v2 : Bool} {v3 : Int} {r : List (List Int)} (w : World) (cap1 : Nat) (hr1 : ReadsL w w.heap.size A1 v1) (h : R1_Far F v0 v1 v2 v3 = some r) :
    Calls Tryz.prog 52 #[.int .i64 v0, .slice A1 v1.length cap1, .bool v2, .int .i64 v3] w (PostR (fun v => v) r w.heap.size w) := by
  have HR1 := Lib.hid hr1; clear hr1
  have HD := Lib.hid (Below.refl w.heap.size w)
  have HOA := Lib.hid (HP.nil (W := w) (B := w.heap.size))
  unfold R1_Far at h
  have HM := Lib.hid h; clear h
  go_enter Tryz.func52, Tryz.ntmps52
  replace HOA := Lib.hid (show HP _ _ (.ro (.slice none 0 0) ([]) :: _) from HOA.out.pushNilR)
  go_wp2_with fail
  obtain ⟨o2, ho, hm⟩ := obind HM.out
  replace HM := Lib.hid hm; have HL1 := Lib.hid ho; clear hm ho
  go_loopg [9, 10] F (fun gg ux5 ux6 wr => ∃ (x3 : List (List Int)) (x4 : Int) (V7 : Value), V7 = ux5 ∧ ux6 = .int .i64 x4 ∧ Hid (Below w.heap.size w wr) ∧ Hid (HP wr w.heap.size [.ro V7 (x3)]) ∧ Hid (R1_Far_L1 F (v0) (v1) (v2) (v3) gg x3 x4 = some o2))
  case atStart => exact ⟨[], 0, (.slice none 0 0), rfl, rfl, HD, HOA, HL1⟩
  case round =>
    obtain ⟨x3, x4, V7, rfl, rfl, HD, HOA, HL1⟩ := hrel
    rename World => W8
    cases gk with
    | zero => exact absurd ((R1_Far_L1_0 ..).symm.trans HL1.out) (by intro h; cases h)
    | succ g1 =>
      replace HL1 := Lib.hid ((R1_Far_L1_s ..).symm.trans HL1.out)
      by_cases hc9 : x4 < v0
      · replace HL1 := Lib.hid (ifT hc9 HL1.out)
        have HK10 := Lib.hid hc9
        obtain ⟨y11, hy12, hm⟩ := obind HL1.out
        replace HL1 := Lib.hid hm; clear hm
        obtain ⟨f13, hy12⟩ := mkI_some hy12
        obtain ⟨N17, hN18⟩ : ∃ N, Int.toNat v0 = N := ⟨_, rfl⟩
        rw [hN18] at hy12; subst hy12
        have hmk14 := run_makeI f13; simp only [hN18] at hmk14
        have hd : Below W8.heap.size W8 (W8.alloc (.cells (Array.replicate N17 (Value.int .i64 0)) 3)) := (Below.refl _ _).alloc (Nat.le_refl _) _
        have ho := mkI_ok W8 f13; rw [hN18] at ho; clear hN18
        go_upto_region 6 with (fail)
        generalize hW : World.alloc W8 _ = W15 at *
        clear hW hmk14 f13
        try clear hc9
        replace HOA := Lib.hid (HOA.out.call hd HD.out.size ho); clear ho
        replace HD := Lib.hid (HD.out.trans (hd.mono HD.out.size))
        clear hd
        go_wp2_with fail
        obtain ⟨o19, ho, hm⟩ := obind HL1.out
        replace HL1 := Lib.hid hm; have HL2 := Lib.hid ho; clear hm ho
        go_loopg [12] F (fun gg ux22 wr => ∃ (x20 : List Int) (x21 : Int), ux22 = .int .i64 x21 ∧ Hid (Below w.heap.size w wr) ∧ Hid (HP wr w.heap.size [.fl (owI (.slice (some ⟨W8.heap.size, 0, none⟩) N17 N17) (x20)), .ro V7 (x3)]) ∧ Hid (R1_Far_L2 F (v0) (v1) (v2) (v3) (x4) gg x20 x21 = some o19))
        case atStart => exact ⟨(List.replicate N17 0), 0, rfl, HD, HOA, HL2⟩
        case round =>
          obtain ⟨x20, x21, rfl, HD, HOA, HL2⟩ := hrel
          rename World => W23
          cases gk with
          | zero => exact absurd ((R1_Far_L2_0 ..).symm.trans HL2.out) (by intro h; cases h)
          | succ g2 =>
            replace HL2 := Lib.hid ((R1_Far_L2_s ..).symm.trans HL2.out)
            by_cases hc24 : x21 < v0
            · replace HL2 := Lib.hid (ifT hc24 HL2.out)
              have HK25 := Lib.hid hc24
              obtain ⟨y28, hy27, hm⟩ := obind HL2.out
              replace HL2 := Lib.hid hm; clear hm
              obtain ⟨f29, hy27⟩ := st_some hy27; subst hy27
              obtain ⟨g35, ea, f32, ⟨ux34, f33⟩, hp, hb⟩ := HP.setI (x := (-1)) (its1 := []) HOA.out f29
              cases ea
              obtain ⟨q0, q1⟩ := f29
              try rw [← HP.len_I HOA.out (List.Mem.head _)] at q1
              have HP_ := Lib.hid hp; have HB_ := Lib.hid hb; clear hp hb
              go_upto_region 10 with (fail)
              have hp := HP_.out; have hb := HB_.out; clear HP_ HB_
              generalize hW : World.setCell W23 _ _ = W26 at *
              clear hW
              try clear f32 f33 q0 q1 hc24
              replace HOA := Lib.hid (show HP W26 w.heap.size [.fl (owI (.slice (some ⟨W8.heap.size, 0, none⟩) N17 N17) ((List.set x20 (Int.toNat x21) (-1)))), .ro V7 (x3)] from hp); clear hp
              replace HD := Lib.hid (HD.out.trans hb); clear hb
              rcases Bool.eq_false_or_eq_true (x4 == x21) with hc39 | hc39
              · replace HL2 := Lib.hid (ifT hc39 HL2.out)
                have HK40 := Lib.hid hc39
                obtain ⟨y43, hy42, hm⟩ := obind HL2.out
                replace HL2 := Lib.hid hm; clear hm
                obtain ⟨f44, hy42⟩ := st_some hy42; subst hy42
                obtain ⟨g50, ea, f47, ⟨ux49, f48⟩, hp, hb⟩ := HP.setI (x := 0) (its1 := []) HOA.out f44
                cases ea
                obtain ⟨q0, q1⟩ := f44
                try rw [← HP.len_I HOA.out (List.Mem.head _)] at q1
                have HP_ := Lib.hid hp; have HB_ := Lib.hid hb; clear hp hb
                go_upto_region 8 with (fail)
                have hp := HP_.out; have hb := HB_.out; clear HP_ HB_
                generalize hW : World.setCell W26 _ _ = W41 at *
                clear hW
                try clear f47 f48 q0 q1 hc39
                replace HOA := Lib.hid (show HP W41 w.heap.size [.fl (owI (.slice (some ⟨W8.heap.size, 0, none⟩) N17 N17) ((List.set (List.set x20 (Int.toNat x21) (-1)) (Int.toNat x21) 0))), .ro V7 (x3)] from hp); clear hp
                replace HD := Lib.hid (HD.out.trans hb); clear hb
                go_wp2_with fail
                go_roundg g2
                case measure => omega
                case rel => exact ⟨(List.set (List.set x20 (Int.toNat x21) (-1)) (Int.toNat x21) 0), (wrap64 (x21 + 1)), rfl, HD, HOA, HL2⟩
              · replace HL2 := Lib.hid (ifF (bF hc39) HL2.out)
                have HK40 := Lib.hid hc39
                obtain ⟨b54, hb, hm⟩ := obind HL2.out
                replace HL2 := Lib.hid hm; have HB55 := Lib.hid hb; clear hm hb
                obtain ⟨b56, hb, hm⟩ := obind HB55.out
                replace HB55 := Lib.hid hm; have HB57 := Lib.hid hb; clear hm hb
                rcases Bool.eq_false_or_eq_true (x4 != v3) with hc58 | hc58
                · replace HB57 := Lib.hid (ifT hc58 HB57.out)
                  have HK59 := Lib.hid hc58
                  rcases Bool.eq_false_or_eq_true (x21 != v3) with hc60 | hc60
                  · replace HB57 := Lib.hid (ifT hc60 HB57.out)
                    have HK61 := Lib.hid hc60
                    obtain rfl := Option.some.inj HB57.out
                    replace HB55 := Lib.hid (ifT (by first | rfl | trivial) HB55.out)
                    obtain ⟨y64, hy62, hm⟩ := obind HB55.out
                    replace HB55 := Lib.hid hm; clear hm
                    have HC63 := R1_Goes_ok W26 cap1 (rdL HD.out HR1.out) hy62
                    clear hy62
                    replace HC63 := Lib.hid HC63
                    cases y64
                    · replace HB55 := Lib.hid (ifF Bool.false_ne_true HB55.out)
                      cases v2
                      · replace HB55 := Lib.hid (ifF Bool.false_ne_true HB55.out)
                        obtain rfl := Option.some.inj HB55.out
                        replace HL2 := Lib.hid (ifF (by first | exact Bool.false_ne_true | exact not_false) HL2.out)
                        go_wp2_with fail
                        refine HC63.out.mono ?_; rintro e w' ⟨rfl, rfl⟩
                        go_wp2_with fail
                        try clear hc39 hc58 hc60
                        go_roundg g2
                        case measure => omega
                        case rel => exact ⟨(List.set x20 (Int.toNat x21) (-1)), (wrap64 (x21 + 1)), rfl, HD, HOA, HL2⟩
                      · replace HB55 := Lib.hid (ifT rfl HB55.out)
                        obtain ⟨y67, hy65, hm⟩ := obind HB55.out
                        replace HB55 := Lib.hid hm; clear hm
                        have HC66 := R1_Goes_ok W26 cap1 (rdL HD.out HR1.out) hy65
                        clear hy65
                        replace HC66 := Lib.hid HC66
                        cases y67
                        · replace HB55 := Lib.hid (ifF Bool.false_ne_true HB55.out)
                          obtain rfl := Option.some.inj HB55.out
                          replace HL2 := Lib.hid (ifF (by first | exact Bool.false_ne_true | exact not_false) HL2.out)
                          go_wp2_with fail
                          refine HC63.out.mono ?_; rintro e w' ⟨rfl, rfl⟩
                          go_wp2_with fail
                          refine HC66.out.mono ?_; rintro e w' ⟨rfl, rfl⟩
                          go_wp2_with fail
                          try clear hc39 hc58 hc60
                          go_roundg g2
                          case measure => omega
                          case rel => exact ⟨(List.set x20 (Int.toNat x21) (-1)), (wrap64 (x21 + 1)), rfl, HD, HOA, HL2⟩
                        · replace HB55 := Lib.hid (ifT rfl HB55.out)
                          obtain rfl := Option.some.inj HB55.out
                          replace HL2 := Lib.hid (ifT (by first | rfl | trivial) HL2.out)
                          obtain ⟨y70, hy69, hm⟩ := obind HL2.out
                          replace HL2 := Lib.hid hm; clear hm
                          obtain ⟨f71, hy69⟩ := st_some hy69; subst hy69
                          obtain ⟨g77, ea, f74, ⟨ux76, f75⟩, hp, hb⟩ := HP.setI (x := 1) (its1 := []) HOA.out f71
                          cases ea
                          obtain ⟨q0, q1⟩ := f71
                          try rw [← HP.len_I HOA.out (List.Mem.head _)] at q1
                          go_wp2_with fail
                          refine HC63.out.mono ?_; rintro e w' ⟨rfl, rfl⟩
                          go_wp2_with fail
                          refine HC66.out.mono ?_; rintro e w' ⟨rfl, rfl⟩
                          have HP_ := Lib.hid hp; have HB_ := Lib.hid hb; clear hp hb
                          go_upto_region 8 with (fail)
                          have hp := HP_.out; have hb := HB_.out; clear HP_ HB_
                          generalize hW : World.setCell W26 _ _ = W68 at *
                          clear hW
                          try clear f74 f75 q0 q1 hc39 hc58 hc60
                          replace HOA := Lib.hid (show HP W68 w.heap.size [.fl (owI (.slice (some ⟨W8.heap.size, 0, none⟩) N17 N17) ((List.set (List.set x20 (Int.toNat x21) (-1)) (Int.toNat x21) 1))), .ro V7 (x3)] from hp); clear hp
                          replace HD := Lib.hid (HD.out.trans hb); clear hb
                          go_wp2_with fail
                          go_roundg g2
                          case measure => omega
                          case rel => exact ⟨(List.set (List.set x20 (Int.toNat x21) (-1)) (Int.toNat x21) 1), (wrap64 (x21 + 1)), rfl, HD, HOA, HL2⟩
                    · replace HB55 := Lib.hid (ifT rfl HB55.out)
                      obtain rfl := Option.some.inj HB55.out
                      replace HL2 := Lib.hid (ifT (by first | rfl | trivial) HL2.out)
                      obtain ⟨y83, hy82, hm⟩ := obind HL2.out
                      replace HL2 := Lib.hid hm; clear hm
                      obtain ⟨f84, hy82⟩ := st_some hy82; subst hy82
                      obtain ⟨g90, ea, f87, ⟨ux89, f88⟩, hp, hb⟩ := HP.setI (x := 1) (its1 := []) HOA.out f84
                      cases ea
                      obtain ⟨q0, q1⟩ := f84
                      try rw [← HP.len_I HOA.out (List.Mem.head _)] at q1
                      go_wp2_with fail
                      refine HC63.out.mono ?_; rintro e w' ⟨rfl, rfl⟩
                      have HP_ := Lib.hid hp; have HB_ := Lib.hid hb; clear hp hb
                      go_upto_region 8 with (fail)
                      have hp := HP_.out; have hb := HB_.out; clear HP_ HB_
                      generalize hW : World.setCell W26 _ _ = W81 at *
                      clear hW
                      try clear f87 f88 q0 q1 hc39 hc58 hc60
                      replace HOA := Lib.hid (show HP W81 w.heap.size [.fl (owI (.slice (some ⟨W8.heap.size, 0, none⟩) N17 N17) ((List.set (List.set x20 (Int.toNat x21) (-1)) (Int.toNat x21) 1))), .ro V7 (x3)] from hp); clear hp
                      replace HD := Lib.hid (HD.out.trans hb); clear hb
                      go_wp2_with fail
                      go_roundg g2
                      case measure => omega
                      case rel => exact ⟨(List.set (List.set x20 (Int.toNat x21) (-1)) (Int.toNat x21) 1), (wrap64 (x21 + 1)), rfl, HD, HOA, HL2⟩
                  · replace HB57 := Lib.hid (ifF (bF hc60) HB57.out)
                    have HK61 := Lib.hid hc60
                    obtain rfl := Option.some.inj HB57.out
                    replace HB55 := Lib.hid (ifF (by first | exact Bool.false_ne_true | exact not_false) HB55.out)
                    obtain rfl := Option.some.inj HB55.out
                    replace HL2 := Lib.hid (ifF (by first | exact Bool.false_ne_true | exact not_false) HL2.out)
                    go_wp2_with fail
                    try clear hc39 hc58 hc60
                    go_roundg g2
                    case measure => omega
                    case rel => exact ⟨(List.set x20 (Int.toNat x21) (-1)), (wrap64 (x21 + 1)), rfl, HD, HOA, HL2⟩
                · replace HB57 := Lib.hid (ifF (bF hc58) HB57.out)
                  have HK59 := Lib.hid hc58
                  obtain rfl := Option.some.inj HB57.out
                  replace HB55 := Lib.hid (ifF (by first | exact Bool.false_ne_true | exact not_false) HB55.out)
                  obtain rfl := Option.some.inj HB55.out
                  replace HL2 := Lib.hid (ifF (by first | exact Bool.false_ne_true | exact not_false) HL2.out)
                  go_wp2_with fail
                  try clear hc39 hc58
                  go_roundg g2
                  case measure => omega
                  case rel => exact ⟨(List.set x20 (Int.toNat x21) (-1)), (wrap64 (x21 + 1)), rfl, HD, HOA, HL2⟩
            · replace HL2 := Lib.hid (ifF hc24 HL2.out)
              have hc24d := decide_eq_false hc24
              have HK25 := Lib.hid hc24
              obtain rfl := Option.some.inj HL2.out
              have hm := HL1.out; try dsimp only at hm
              replace HL1 := Lib.hid hm; clear hm
              obtain ⟨y94, hy95, hm⟩ := obind HL1.out
              replace HL1 := Lib.hid hm; clear hm
              obtain ⟨f96, hy95⟩ := app_some hy95; subst hy95
              have HF99 := Lib.hid f96; clear f96
              have hfr := Lib.hid (HP.front (its1 := []) HOA.out)
              go_upto_region 4 with (at_builtin; refine hp_appR _ (.tmp 63) (.tmp 65) 93 Tryz.underlying93 rfl rfl (its1 := []) hfr.out rfl rfl HF99.out HD.out.size ?_; intro V97 W98 hoa hd)
              clear hfr
              try clear hc24 hc24d
              replace HOA := Lib.hid (show HP W98 w.heap.size [.ro V97 ((x3 ++ [x20]))] from hoa); clear hoa
              replace HD := Lib.hid (HD.out.trans hd); clear hd
              go_wp2_with fail
              go_roundg g1
              case measure => omega
              case rel => exact ⟨(x3 ++ [x20]), (wrap64 (x4 + 1)), V97, rfl, rfl, HD, HOA, HL1⟩
      · replace HL1 := Lib.hid (ifF hc9 HL1.out)
        have hc9d := decide_eq_false hc9
        have HK10 := Lib.hid hc9
        obtain rfl := Option.some.inj HL1.out
        have hm := HM.out; try dsimp only at hm
        replace HM := Lib.hid hm; clear hm
        go_wp2_with fail
        try clear hc9 hc9d
        obtain ⟨o100, ho, hm⟩ := obind HM.out
        replace HM := Lib.hid hm; have HL3 := Lib.hid ho; clear hm ho
        obtain ⟨A101, cap102, he, _⟩ := HP.open_R HOA.out (List.Mem.head _)
        subst he
        go_loopg [13] F (fun gg ux105 wr => ∃ (x103 : List (List Int)) (x104 : Int), ux105 = .int .i64 x104 ∧ Hid (Below w.heap.size w wr) ∧ Hid (HP wr w.heap.size [.ro (.slice A101 (x3).length cap102) (x103)]) ∧ Hid (R1_Far_L3 F (v0) gg x103 x104 = some o100))
        case atStart => exact ⟨x3, 0, rfl, HD, HOA, HL3⟩
        case round =>
          obtain ⟨x103, x104, rfl, HD, HOA, HL3⟩ := hrel
          rename World => W106
          cases gk with
          | zero => exact absurd ((R1_Far_L3_0 ..).symm.trans HL3.out) (by intro h; cases h)
          | succ g3 =>
            replace HL3 := Lib.hid ((R1_Far_L3_s ..).symm.trans HL3.out)
            by_cases hc107 : x104 < v0
            · replace HL3 := Lib.hid (ifT hc107 HL3.out)
              have HK108 := Lib.hid hc107
              go_wp2_with fail
              try clear hc107
              obtain ⟨o109, ho, hm⟩ := obind HL3.out
              replace HL3 := Lib.hid hm; have HL4 := Lib.hid ho; clear hm ho
              go_loopg [14] F (fun gg ux112 wr => ∃ (x110 : List (List Int)) (x111 : Int), ux112 = .int .i64 x111 ∧ Hid (Below w.heap.size w wr) ∧ Hid (HP wr w.heap.size [.ro (.slice A101 (x3).length cap102) (x110)]) ∧ Hid (R1_Far_L4 F (v0) (x104) gg x110 x111 = some o109))
              case atStart => exact ⟨x103, 0, rfl, HD, HOA, HL4⟩
              case round =>
                obtain ⟨x110, x111, rfl, HD, HOA, HL4⟩ := hrel
                rename World => W113
                cases gk with
                | zero => exact absurd ((R1_Far_L4_0 ..).symm.trans HL4.out) (by intro h; cases h)
                | succ g4 =>
                  replace HL4 := Lib.hid ((R1_Far_L4_s ..).symm.trans HL4.out)
                  by_cases hc114 : x111 < v0
                  · replace HL4 := Lib.hid (ifT hc114 HL4.out)
                    have HK115 := Lib.hid hc114
                    go_wp2_with fail
                    try clear hc114
                    obtain ⟨o116, ho, hm⟩ := obind HL4.out
                    replace HL4 := Lib.hid hm; have HL5 := Lib.hid ho; clear hm ho
                    go_loopg [15] F (fun gg ux119 wr => ∃ (x117 : List (List Int)) (x118 : Int), ux119 = .int .i64 x118 ∧ Hid (Below w.heap.size w wr) ∧ Hid (HP wr w.heap.size [.ro (.slice A101 (x3).length cap102) (x117)]) ∧ Hid (R1_Far_L5 F (v0) (x104) (x111) gg x117 x118 = some o116))
                    case atStart => exact ⟨x110, 0, rfl, HD, HOA, HL5⟩
                    case round =>
                      obtain ⟨x117, x118, rfl, HD, HOA, HL5⟩ := hrel
                      rename World => W120
                      cases gk with
                      | zero => exact absurd ((R1_Far_L5_0 ..).symm.trans HL5.out) (by intro h; cases h)
                      | succ g5 =>
                        replace HL5 := Lib.hid ((R1_Far_L5_s ..).symm.trans HL5.out)
                        by_cases hc121 : x118 < v0
                        · replace HL5 := Lib.hid (ifT hc121 HL5.out)
                          have HK122 := Lib.hid hc121
                          try go_wp2_with fail
                          try clear hc121
                          obtain ⟨b123, hb, hm⟩ := obind HL5.out
                          replace HL5 := Lib.hid hm; have HB124 := Lib.hid hb; clear hm hb
                          obtain ⟨b125, hb, hm⟩ := obind HB124.out
                          replace HB124 := Lib.hid hm; have HB126 := Lib.hid hb; clear hm hb
                          obtain ⟨y127, hy128, hm⟩ := obind HB126.out
                          replace HB126 := Lib.hid hm; clear hm
                          obtain ⟨b129, o130, A136, cap137, ea131, _, f132, f133, f134, hrr⟩ := ReadsR.ix (HP.rd_R HOA.out (List.Mem.head _)) hy128
                          cases ea131
                          try simp only [Nat.zero_add, Nat.add_zero, Int.toNat_natCast, Int.toNat_zero, Int.toNat_one] at f134
                          have HR138 := Lib.hid hrr; clear hrr
                          try rw [← HP.len_R HOA.out (List.Mem.head _)] at f133
                          have HY139 := Lib.hid hy128; clear hy128
                          obtain ⟨y140, hy141, hm⟩ := obind HB126.out
                          replace HB126 := Lib.hid hm; clear hm
                          obtain ⟨b142, o143, ea144, _, f145, f146, f147⟩ := ReadsI.ix HR138.out hy141
                          cases ea144
                          try simp only [Nat.zero_add, Nat.add_zero, Int.toNat_natCast, Int.toNat_zero, Int.toNat_one] at f147
                          have HY149 := Lib.hid hy141; clear hy141
                          by_cases hc150 : 0 ≤ y140
                          · replace HB126 := Lib.hid (ifT hc150 HB126.out)
                            have HK151 := Lib.hid hc150
                            obtain ⟨y152, hy153, hm⟩ := obind HB126.out
                            replace HB126 := Lib.hid hm; clear hm
                            obtain ⟨b154, o155, A161, cap162, ea156, _, f157, f158, f159, hrr⟩ := ReadsR.ix (HP.rd_R HOA.out (List.Mem.head _)) hy153
                            cases ea156
                            try simp only [Nat.zero_add, Nat.add_zero, Int.toNat_natCast, Int.toNat_zero, Int.toNat_one] at f159
                            have HR163 := Lib.hid hrr; clear hrr
                            try rw [← HP.len_R HOA.out (List.Mem.head _)] at f158
                            have HY164 := Lib.hid hy153; clear hy153
                            obtain ⟨y165, hy166, hm⟩ := obind HB126.out
                            replace HB126 := Lib.hid hm; clear hm
                            obtain ⟨b167, o168, ea169, _, f170, f171, f172⟩ := ReadsI.ix HR163.out hy166
                            cases ea169
                            try simp only [Nat.zero_add, Nat.add_zero, Int.toNat_natCast, Int.toNat_zero, Int.toNat_one] at f172
                            have HY174 := Lib.hid hy166; clear hy166
                            by_cases hc175 : 0 ≤ y165
                            · replace HB126 := Lib.hid (ifT hc175 HB126.out)
                              have HK176 := Lib.hid hc175
                              obtain rfl := Option.some.inj HB126.out
                              replace HB124 := Lib.hid (ifT (by first | rfl | trivial) HB124.out)
                              obtain ⟨y177, hy178, hm⟩ := obind HB124.out
                              replace HB124 := Lib.hid hm; clear hm
                              obtain rfl := Option.some.inj (HY139.out.symm.trans hy178)
                              clear hy178
                              obtain ⟨y179, hy180, hm⟩ := obind HB124.out
                              replace HB124 := Lib.hid hm; clear hm
                              obtain ⟨b181, o182, ea183, _, f184, f185, f186⟩ := ReadsI.ix HR138.out hy180
                              cases ea183
                              try simp only [Nat.zero_add, Nat.add_zero, Int.toNat_natCast, Int.toNat_zero, Int.toNat_one] at f186
                              have HY188 := Lib.hid hy180; clear hy180
                              by_cases hc189 : y179 < 0
                              · replace HB124 := Lib.hid (ifT hc189 HB124.out)
                                have HK190 := Lib.hid hc189
                                obtain rfl := Option.some.inj HB124.out
                                replace HL5 := Lib.hid (ifT (by first | rfl | trivial) HL5.out)
                                go_quiet (fail)
                                generalize hW : World.drewN W120 _ = W191
                                have hd : Dr W120 W191 := ⟨_, hW.symm⟩
                                clear hW
                                try clear f132 f133 f134 f145 f146 f147 hc150 f157 f158 f159 f170 f171 f172 hc175 f184 f185 f186 hc189
                                replace HOA := Lib.hid (HOA.out.below (hd.below _))
                                replace HR138 := Lib.hid (rdI (hd.below _) HR138.out)
                                replace HR163 := Lib.hid (rdI (hd.below _) HR163.out)
                                replace HD := Lib.hid (HD.out.trans ((hd.below _).mono HD.out.size))
                                clear hd
                                try go_wp2_with fail
                                obtain ⟨y192, hy193, hm⟩ := obind HL5.out
                                replace HL5 := Lib.hid hm; clear hm
                                obtain ⟨b194, o195, A201, cap202, ea196, _, f197, f198, f199, hrr⟩ := ReadsR.ix (HP.rd_R HOA.out (List.Mem.head _)) hy193
                                cases ea196
                                try simp only [Nat.zero_add, Nat.add_zero, Int.toNat_natCast, Int.toNat_zero, Int.toNat_one] at f199
                                have HR203 := Lib.hid hrr; clear hrr
                                try rw [← HP.len_R HOA.out (List.Mem.head _)] at f198
                                have HY204 := Lib.hid hy193; clear hy193
                                obtain ⟨y205, hy206, hm⟩ := obind HL5.out
                                replace HL5 := Lib.hid hm; clear hm
                                obtain ⟨b207, o208, ea209, _, f210, f211, f212⟩ := ReadsI.ix HR203.out hy206
                                cases ea209
                                try simp only [Nat.zero_add, Nat.add_zero, Int.toNat_natCast, Int.toNat_zero, Int.toNat_one] at f212
                                have HY214 := Lib.hid hy206; clear hy206
                                obtain ⟨y215, hy216, hm⟩ := obind HL5.out
                                replace HL5 := Lib.hid hm; clear hm
                                obtain ⟨b217, o218, A224, cap225, ea219, _, f220, f221, f222, hrr⟩ := ReadsR.ix (HP.rd_R HOA.out (List.Mem.head _)) hy216
                                cases ea219
                                try simp only [Nat.zero_add, Nat.add_zero, Int.toNat_natCast, Int.toNat_zero, Int.toNat_one] at f222
                                have HR226 := Lib.hid hrr; clear hrr
                                try rw [← HP.len_R HOA.out (List.Mem.head _)] at f221
                                have HY227 := Lib.hid hy216; clear hy216
                                obtain ⟨y228, hy229, hm⟩ := obind HL5.out
                                replace HL5 := Lib.hid hm; clear hm
                                obtain ⟨b230, o231, ea232, _, f233, f234, f235⟩ := ReadsI.ix HR226.out hy229
                                cases ea232
                                try simp only [Nat.zero_add, Nat.add_zero, Int.toNat_natCast, Int.toNat_zero, Int.toNat_one] at f235
                                have HY237 := Lib.hid hy229; clear hy229
                                obtain ⟨y251, hy252, hm⟩ := obind HL5.out
                                replace HL5 := Lib.hid hm; clear hm
                                obtain rfl := Option.some.inj (HY204.out.symm.trans hy252)
                                obtain ⟨y240, hy239, hm⟩ := obind HL5.out
                                replace HL5 := Lib.hid hm; clear hm
                                obtain ⟨f241, hy239⟩ := st_some hy239; subst hy239
                                obtain ⟨y253, hy254, hm⟩ := obind HL5.out
                                replace HL5 := Lib.hid hm; clear hm
                                obtain ⟨f242, hy254⟩ := st_some hy254; subst hy254
                                obtain ⟨b248, o249, g247, cap250, ea, h0, h1, f243, f244, ⟨ux246, f245⟩, hp, hb⟩ := HP.setR (x := (wrap64 (y205 + y228))) (its1 := []) HOA.out hy252 f241
                                cases ea
                                try simp only [Nat.zero_add, Nat.add_zero, Int.toNat_natCast, Int.toNat_zero, Int.toNat_one] at f243
                                clear f242
                                obtain ⟨q0, q1⟩ := f241
                                try rw [← HP.len_R HOA.out (List.Mem.head _)] at h1
                                have hu := Option.some.inj (f199.symm.trans f243)
                                injection hu with hu1 _ hu3; injection hu1 with hu1; injection hu1 with hu1 hu2 _; subst hu1 hu2 hu3
                                try simp only [Nat.zero_add] at f197
                                try simp only [Nat.zero_add] at f198
                                try simp only [Nat.zero_add] at f199
                                try simp only [Nat.zero_add] at f210
                                try simp only [Nat.zero_add] at f211
                                try simp only [Nat.zero_add] at f212
                                try simp only [Nat.zero_add] at f220
                                try simp only [Nat.zero_add] at f221
                                try simp only [Nat.zero_add] at f222
                                try simp only [Nat.zero_add] at f233
                                try simp only [Nat.zero_add] at f234
                                try simp only [Nat.zero_add] at f235
                                clear hy252
                                have HP_ := Lib.hid hp; have HB_ := Lib.hid hb; clear hp hb
                                go_still_tail 21, (by kernel_rfl)
                                change wpList _ _ _ _ _ (World.drew W191)
                                go_upto_region 23 with (fail)
                                have hp := HP_.out.dr (Dr.one _); have hb := HB_.out.trans ((Dr.one _).below _); clear HP_ HB_
                                generalize hW : World.drew (World.setCell W191 _ _) = W238 at *
                                clear hW
                                try clear h0 h1 f243 f244 f245 q0 q1 f197 f198 f199 f210 f211 f212 f220 f221 f222 f233 f234 f235
                                replace HOA := Lib.hid (show HP W238 w.heap.size [.ro (.slice (some ⟨b129, o130, none⟩) (x3).length cap102) ((List.set x117 (Int.toNat x111) (List.set y192 (Int.toNat x118) (wrap64 (y205 + y228)))))] from hp); clear hp
                                replace HD := Lib.hid (HD.out.trans hb); clear hb
                                go_wp2_with fail
                                go_roundg g5
                                case measure => omega
                                case rel => exact ⟨(List.set x117 (Int.toNat x111) (List.set y192 (Int.toNat x118) (wrap64 (y205 + y228)))), (wrap64 (x118 + 1)), rfl, HD, HOA, HL5⟩
                              · replace HB124 := Lib.hid (ifF hc189 HB124.out)
                                have hc189d := decide_eq_false hc189
                                have HK190 := Lib.hid hc189
                                obtain ⟨y255, hy256, hm⟩ := obind HB124.out
                                replace HB124 := Lib.hid hm; clear hm
                                obtain rfl := Option.some.inj (HY139.out.symm.trans hy256)
                                clear hy256
                                obtain ⟨y257, hy258, hm⟩ := obind HB124.out
                                replace HB124 := Lib.hid hm; clear hm
                                obtain rfl := Option.some.inj (HY149.out.symm.trans hy258)
                                clear hy258
                                obtain ⟨y259, hy260, hm⟩ := obind HB124.out
                                replace HB124 := Lib.hid hm; clear hm
                                obtain rfl := Option.some.inj (HY164.out.symm.trans hy260)
                                clear hy260
                                obtain ⟨y261, hy262, hm⟩ := obind HB124.out
                                replace HB124 := Lib.hid hm; clear hm
                                obtain rfl := Option.some.inj (HY174.out.symm.trans hy262)
                                clear hy262
                                obtain ⟨y263, hy264, hm⟩ := obind HB124.out
                                replace HB124 := Lib.hid hm; clear hm
                                obtain rfl := Option.some.inj (HY139.out.symm.trans hy264)
                                clear hy264
                                obtain ⟨y265, hy266, hm⟩ := obind HB124.out
                                replace HB124 := Lib.hid hm; clear hm
                                obtain rfl := Option.some.inj (HY188.out.symm.trans hy266)
                                clear hy266
                                by_cases hc267 : (wrap64 (y140 + y165)) < y179
                                · replace HB124 := Lib.hid (ifT hc267 HB124.out)
                                  have HK268 := Lib.hid hc267
                                  obtain rfl := Option.some.inj HB124.out
                                  replace HL5 := Lib.hid (ifT (by first | rfl | trivial) HL5.out)
                                  go_quiet (fail)
                                  generalize hW : World.drewN W120 _ = W269
                                  have hd : Dr W120 W269 := ⟨_, hW.symm⟩
                                  clear hW
                                  try clear f132 f133 f134 f145 f146 f147 hc150 f157 f158 f159 f170 f171 f172 hc175 f184 f185 f186 hc189 hc189d hc267
                                  replace HOA := Lib.hid (HOA.out.below (hd.below _))
                                  replace HR138 := Lib.hid (rdI (hd.below _) HR138.out)
                                  replace HR163 := Lib.hid (rdI (hd.below _) HR163.out)
                                  replace HD := Lib.hid (HD.out.trans ((hd.below _).mono HD.out.size))
                                  clear hd
                                  try go_wp2_with fail
                                  obtain ⟨y270, hy271, hm⟩ := obind HL5.out
                                  replace HL5 := Lib.hid hm; clear hm
                                  obtain ⟨b272, o273, A279, cap280, ea274, _, f275, f276, f277, hrr⟩ := ReadsR.ix (HP.rd_R HOA.out (List.Mem.head _)) hy271
                                  cases ea274
                                  try simp only [Nat.zero_add, Nat.add_zero, Int.toNat_natCast, Int.toNat_zero, Int.toNat_one] at f277
                                  have HR281 := Lib.hid hrr; clear hrr
                                  try rw [← HP.len_R HOA.out (List.Mem.head _)] at f276
                                  have HY282 := Lib.hid hy271; clear hy271
                                  obtain ⟨y283, hy284, hm⟩ := obind HL5.out
                                  replace HL5 := Lib.hid hm; clear hm
                                  obtain ⟨b285, o286, ea287, _, f288, f289, f290⟩ := ReadsI.ix HR281.out hy284
                                  cases ea287
                                  try simp only [Nat.zero_add, Nat.add_zero, Int.toNat_natCast, Int.toNat_zero, Int.toNat_one] at f290
                                  have HY292 := Lib.hid hy284; clear hy284
                                  obtain ⟨y293, hy294, hm⟩ := obind HL5.out
                                  replace HL5 := Lib.hid hm; clear hm
                                  obtain ⟨b295, o296, A302, cap303, ea297, _, f298, f299, f300, hrr⟩ := ReadsR.ix (HP.rd_R HOA.out (List.Mem.head _)) hy294
                                  cases ea297
                                  try simp only [Nat.zero_add, Nat.add_zero, Int.toNat_natCast, Int.toNat_zero, Int.toNat_one] at f300
                                  have HR304 := Lib.hid hrr; clear hrr
                                  try rw [← HP.len_R HOA.out (List.Mem.head _)] at f299
                                  have HY305 := Lib.hid hy294; clear hy294
                                  obtain ⟨y306, hy307, hm⟩ := obind HL5.out
                                  replace HL5 := Lib.hid hm; clear hm
                                  obtain ⟨b308, o309, ea310, _, f311, f312, f313⟩ := ReadsI.ix HR304.out hy307
                                  cases ea310
                                  try simp only [Nat.zero_add, Nat.add_zero, Int.toNat_natCast, Int.toNat_zero, Int.toNat_one] at f313
                                  have HY315 := Lib.hid hy307; clear hy307
                                  obtain ⟨y329, hy330, hm⟩ := obind HL5.out
                                  replace HL5 := Lib.hid hm; clear hm
                                  obtain rfl := Option.some.inj (HY282.out.symm.trans hy330)
                                  obtain ⟨y318, hy317, hm⟩ := obind HL5.out
                                  replace HL5 := Lib.hid hm; clear hm
                                  obtain ⟨f319, hy317⟩ := st_some hy317; subst hy317
                                  obtain ⟨y331, hy332, hm⟩ := obind HL5.out
                                  replace HL5 := Lib.hid hm; clear hm
                                  obtain ⟨f320, hy332⟩ := st_some hy332; subst hy332
                                  obtain ⟨b326, o327, g325, cap328, ea, h0, h1, f321, f322, ⟨ux324, f323⟩, hp, hb⟩ := HP.setR (x := (wrap64 (y283 + y306))) (its1 := []) HOA.out hy330 f319
                                  cases ea
                                  try simp only [Nat.zero_add, Nat.add_zero, Int.toNat_natCast, Int.toNat_zero, Int.toNat_one] at f321
                                  clear f320
                                  obtain ⟨q0, q1⟩ := f319
                                  try rw [← HP.len_R HOA.out (List.Mem.head _)] at h1
                                  have hu := Option.some.inj (f277.symm.trans f321)
                                  injection hu with hu1 _ hu3; injection hu1 with hu1; injection hu1 with hu1 hu2 _; subst hu1 hu2 hu3
                                  try simp only [Nat.zero_add] at f275
                                  try simp only [Nat.zero_add] at f276
                                  try simp only [Nat.zero_add] at f277
                                  try simp only [Nat.zero_add] at f288
                                  try simp only [Nat.zero_add] at f289
                                  try simp only [Nat.zero_add] at f290
                                  try simp only [Nat.zero_add] at f298
                                  try simp only [Nat.zero_add] at f299
                                  try simp only [Nat.zero_add] at f300
                                  try simp only [Nat.zero_add] at f311
                                  try simp only [Nat.zero_add] at f312
                                  try simp only [Nat.zero_add] at f313
                                  clear hy330
                                  have HP_ := Lib.hid hp; have HB_ := Lib.hid hb; clear hp hb
                                  go_still_tail 21, (by kernel_rfl)
                                  change wpList _ _ _ _ _ (World.drew W269)
                                  go_upto_region 23 with (fail)
                                  have hp := HP_.out.dr (Dr.one _); have hb := HB_.out.trans ((Dr.one _).below _); clear HP_ HB_
                                  generalize hW : World.drew (World.setCell W269 _ _) = W316 at *
                                  clear hW
                                  try clear h0 h1 f321 f322 f323 q0 q1 f275 f276 f277 f288 f289 f290 f298 f299 f300 f311 f312 f313
                                  replace HOA := Lib.hid (show HP W316 w.heap.size [.ro (.slice (some ⟨b129, o130, none⟩) (x3).length cap102) ((List.set x117 (Int.toNat x111) (List.set y270 (Int.toNat x118) (wrap64 (y283 + y306)))))] from hp); clear hp
                                  replace HD := Lib.hid (HD.out.trans hb); clear hb
                                  go_wp2_with fail
                                  go_roundg g5
                                  case measure => omega
                                  case rel => exact ⟨(List.set x117 (Int.toNat x111) (List.set y270 (Int.toNat x118) (wrap64 (y283 + y306)))), (wrap64 (x118 + 1)), rfl, HD, HOA, HL5⟩
                                · replace HB124 := Lib.hid (ifF hc267 HB124.out)
                                  have hc267d := decide_eq_false hc267
                                  have HK268 := Lib.hid hc267
                                  obtain rfl := Option.some.inj HB124.out
                                  replace HL5 := Lib.hid (ifF (by first | exact Bool.false_ne_true | exact not_false) HL5.out)
                                  go_quiet (fail)
                                  generalize hW : World.drewN W120 _ = W333
                                  have hd : Dr W120 W333 := ⟨_, hW.symm⟩
                                  clear hW
                                  try clear f132 f133 f134 f145 f146 f147 hc150 f157 f158 f159 f170 f171 f172 hc175 f184 f185 f186 hc189 hc189d hc267 hc267d
                                  replace HOA := Lib.hid (HOA.out.below (hd.below _))
                                  replace HR138 := Lib.hid (rdI (hd.below _) HR138.out)
                                  replace HR163 := Lib.hid (rdI (hd.below _) HR163.out)
                                  replace HD := Lib.hid (HD.out.trans ((hd.below _).mono HD.out.size))
                                  clear hd
                                  go_wp2_with fail
                                  go_roundg g5
                                  case measure => omega
                                  case rel => exact ⟨x117, (wrap64 (x118 + 1)), rfl, HD, HOA, HL5⟩
                            · replace HB126 := Lib.hid (ifF hc175 HB126.out)
                              have hc175d := decide_eq_false hc175
                              have HK176 := Lib.hid hc175
                              obtain rfl := Option.some.inj HB126.out
                              replace HB124 := Lib.hid (ifF (by first | exact Bool.false_ne_true | exact not_false) HB124.out)
                              obtain rfl := Option.some.inj HB124.out
                              replace HL5 := Lib.hid (ifF (by first | exact Bool.false_ne_true | exact not_false) HL5.out)
                              go_quiet (fail)
                              generalize hW : World.drewN W120 _ = W334
                              have hd : Dr W120 W334 := ⟨_, hW.symm⟩
                              clear hW
                              try clear f132 f133 f134 f145 f146 f147 hc150 f157 f158 f159 f170 f171 f172 hc175 hc175d
                              replace HOA := Lib.hid (HOA.out.below (hd.below _))
                              replace HR138 := Lib.hid (rdI (hd.below _) HR138.out)
                              replace HR163 := Lib.hid (rdI (hd.below _) HR163.out)
                              replace HD := Lib.hid (HD.out.trans ((hd.below _).mono HD.out.size))
                              clear hd
                              go_wp2_with fail
                              go_roundg g5
                              case measure => omega
                              case rel => exact ⟨x117, (wrap64 (x118 + 1)), rfl, HD, HOA, HL5⟩
                          · replace HB126 := Lib.hid (ifF hc150 HB126.out)
                            have hc150d := decide_eq_false hc150
                            have HK151 := Lib.hid hc150
                            obtain rfl := Option.some.inj HB126.out
                            replace HB124 := Lib.hid (ifF (by first | exact Bool.false_ne_true | exact not_false) HB124.out)
                            obtain rfl := Option.some.inj HB124.out
                            replace HL5 := Lib.hid (ifF (by first | exact Bool.false_ne_true | exact not_false) HL5.out)
                            go_quiet (fail)
                            generalize hW : World.drewN W120 _ = W335
                            have hd : Dr W120 W335 := ⟨_, hW.symm⟩
                            clear hW
                            try clear f132 f133 f134 f145 f146 f147 hc150 hc150d
                            replace HOA := Lib.hid (HOA.out.below (hd.below _))
                            replace HR138 := Lib.hid (rdI (hd.below _) HR138.out)
                            replace HD := Lib.hid (HD.out.trans ((hd.below _).mono HD.out.size))
                            clear hd
                            go_wp2_with fail
                            go_roundg g5
                            case measure => omega
                            case rel => exact ⟨x117, (wrap64 (x118 + 1)), rfl, HD, HOA, HL5⟩
                        · replace HL5 := Lib.hid (ifF hc121 HL5.out)
                          have hc121d := decide_eq_false hc121
                          have HK122 := Lib.hid hc121
                          obtain rfl := Option.some.inj HL5.out
                          have hm := HL4.out; try dsimp only at hm
                          replace HL4 := Lib.hid hm; clear hm
                          go_wp2_with fail
                          try clear hc121 hc121d
                          go_roundg g4
                          case measure => omega
                          case rel => exact ⟨x117, (wrap64 (x111 + 1)), rfl, HD, HOA, HL4⟩
                  · replace HL4 := Lib.hid (ifF hc114 HL4.out)
                    have hc114d := decide_eq_false hc114
                    have HK115 := Lib.hid hc114
                    obtain rfl := Option.some.inj HL4.out
                    have hm := HL3.out; try dsimp only at hm
                    replace HL3 := Lib.hid hm; clear hm
                    go_wp2_with fail
                    try clear hc114 hc114d
                    go_roundg g3
                    case measure => omega
                    case rel => exact ⟨x110, (wrap64 (x104 + 1)), rfl, HD, HOA, HL3⟩
            · replace HL3 := Lib.hid (ifF hc107 HL3.out)
              have hc107d := decide_eq_false hc107
              have HK108 := Lib.hid hc107
              obtain rfl := Option.some.inj HL3.out
              have hm := HM.out; try dsimp only at hm
              replace HM := Lib.hid hm; clear hm
              obtain rfl := Option.some.inj HM.out
              go_wp2_with fail
              try clear hc107 hc107d
              go_ret
              exact ⟨_, rfl, HOA.out, HD.out⟩
end Go.Proofs.YtekfgkeimlidhaaGreatDoor
