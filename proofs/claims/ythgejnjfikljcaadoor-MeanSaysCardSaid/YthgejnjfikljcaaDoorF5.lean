import Derived.Test.YthgejnjfikljcaaDoorF3
import Derived.Test.YthgejnjfikljcaaDoorErr
set_option linter.all false
set_option maxRecDepth 100000
namespace Go.Proofs.YthgejnjfikljcaaDoor
open Go.RowKit
def R3_ring_L1 (F : Nat) (rec : (Int) → (List (Int × Int × Int)) → (List Int) → (Int) → (Int) → (Int) → Option (Int × Int)) (v0 : Int) (v1 : List (Int × Int × Int)) (v2 : List Int) (v3 : Int) (v8 : Int) : Nat → (Int) → (Int) → (Int) → Option (Int × Int × Int)
  | 0, _, _, _ => none
  | g+1, v4, v5, v9 => if v9 < ((v1).length : Int) then ((ix v1 v9).bind fun y2 => if (y2.1 != v8) = true then R3_ring_L1 F rec v0 v1 v2 v3 v8 g (v4) (v5) ((wrap64 (v9 + 1))) else (ix v1 v9).bind fun y3 => ((ix v1 v9).bind fun y4 => (ix v2 0).bind fun y5 => if (y4.2.1 == y5) = true then ((if (v5 == 0) = true then some true else if (wrap64 ((wrap64 (v3 + y3.2.2)) * v5)) < (wrap64 (v4 * ((v2).length : Int))) then some true else some false).bind fun b6 => if b6 = true then R3_ring_L1 F rec v0 v1 v2 v3 v8 g ((wrap64 (v3 + y3.2.2))) (((v2).length : Int)) ((wrap64 (v9 + 1))) else R3_ring_L1 F rec v0 v1 v2 v3 v8 g (v4) (v5) ((wrap64 (v9 + 1)))) else (((ix v1 v9).bind fun y8 => (R1_Has F (v2) (y8.2.1)).bind fun y9 => if y9 = true then some false else (ix v1 v9).bind fun y10 => (ix v2 0).bind fun y11 => if y11 < y10.2.1 then some true else some false).bind fun b7 => if b7 = true then (ix v1 v9).bind fun y12 => (R1_Behind F (v2) (y12.2.1)).bind fun y13 => (rec (v0) (v1) (y13) ((wrap64 (v3 + y3.2.2))) (v4) (v5)).bind fun y14 => R3_ring_L1 F rec v0 v1 v2 v3 v8 g (y14.1) (y14.2) ((wrap64 (v9 + 1))) else R3_ring_L1 F rec v0 v1 v2 v3 v8 g (v4) (v5) ((wrap64 (v9 + 1)))))) else some (v4, v5, v9)
theorem R3_ring_L1_0 (F : Nat) (rec : (Int) → (List (Int × Int × Int)) → (List Int) → (Int) → (Int) → (Int) → Option (Int × Int)) (v0 : Int) (v1 : List (Int × Int × Int)) (v2 : List Int) (v3 : Int) (v8 : Int) (v4 : Int) (v5 : Int) (v9 : Int) : R3_ring_L1 F rec v0 v1 v2 v3 v8 0 v4 v5 v9 = none := by rw [R3_ring_L1]
theorem R3_ring_L1_s (F g : Nat) (rec : (Int) → (List (Int × Int × Int)) → (List Int) → (Int) → (Int) → (Int) → Option (Int × Int)) (v0 : Int) (v1 : List (Int × Int × Int)) (v2 : List Int) (v3 : Int) (v8 : Int) (v4 : Int) (v5 : Int) (v9 : Int) : R3_ring_L1 F rec v0 v1 v2 v3 v8 (g+1) v4 v5 v9 = (if v9 < ((v1).length : Int) then ((ix v1 v9).bind fun y2 => if (y2.1 != v8) = true then R3_ring_L1 F rec v0 v1 v2 v3 v8 g (v4) (v5) ((wrap64 (v9 + 1))) else (ix v1 v9).bind fun y3 => ((ix v1 v9).bind fun y4 => (ix v2 0).bind fun y5 => if (y4.2.1 == y5) = true then ((if (v5 == 0) = true then some true else if (wrap64 ((wrap64 (v3 + y3.2.2)) * v5)) < (wrap64 (v4 * ((v2).length : Int))) then some true else some false).bind fun b6 => if b6 = true then R3_ring_L1 F rec v0 v1 v2 v3 v8 g ((wrap64 (v3 + y3.2.2))) (((v2).length : Int)) ((wrap64 (v9 + 1))) else R3_ring_L1 F rec v0 v1 v2 v3 v8 g (v4) (v5) ((wrap64 (v9 + 1)))) else (((ix v1 v9).bind fun y8 => (R1_Has F (v2) (y8.2.1)).bind fun y9 => if y9 = true then some false else (ix v1 v9).bind fun y10 => (ix v2 0).bind fun y11 => if y11 < y10.2.1 then some true else some false).bind fun b7 => if b7 = true then (ix v1 v9).bind fun y12 => (R1_Behind F (v2) (y12.2.1)).bind fun y13 => (rec (v0) (v1) (y13) ((wrap64 (v3 + y3.2.2))) (v4) (v5)).bind fun y14 => R3_ring_L1 F rec v0 v1 v2 v3 v8 g (y14.1) (y14.2) ((wrap64 (v9 + 1))) else R3_ring_L1 F rec v0 v1 v2 v3 v8 g (v4) (v5) ((wrap64 (v9 + 1)))))) else some (v4, v5, v9)) := by rw [R3_ring_L1]
def R3_ring (F : Nat) : Nat → (Int) → (List (Int × Int × Int)) → (List Int) → (Int) → (Int) → (Int) → Option (Int × Int)
  | 0, _, _, _, _, _, _ => none
  | d+1, v0, v1, v2, v3, v4, v5 => (ix v2 (wrap64 (((v2).length : Int) - 1))).bind fun y1 => (R3_ring_L1 F (R3_ring F d) (v0) (v1) (v2) (v3) (y1) F (v4) (v5) (0)).bind fun o15 => some ((o15.1, o15.2.1))
theorem R3_ring_s (F d : Nat) (v0 : Int) (v1 : List (Int × Int × Int)) (v2 : List Int) (v3 : Int) (v4 : Int) (v5 : Int) : R3_ring F (d+1) v0 v1 v2 v3 v4 v5 = ((ix v2 (wrap64 (((v2).length : Int) - 1))).bind fun y1 => (R3_ring_L1 F (R3_ring F d) (v0) (v1) (v2) (v3) (y1) F (v4) (v5) (0)).bind fun o15 => some ((o15.1, o15.2.1))) := by rw [R3_ring]
theorem R3_ring_0 (F : Nat) (v0 : Int) (v1 : List (Int × Int × Int)) (v2 : List Int) (v3 : Int) (v4 : Int) (v5 : Int) : R3_ring F 0 v0 v1 v2 v3 v4 v5 = none := by rw [R3_ring]
set_option maxRecDepth 100000 in
set_option maxHeartbeats 4000000 in
theorem R3_ring_ok {F : Nat} : ∀ (d : Nat) {v0 : Int} {v1 : List (Int × Int × Int)} {A1 : Option Addr} {v2 : List Int} {A2 : Option Addr} {v3 : Int} {v4 : Int} {v5 : Int} {r : Int × Int} (w : World) (cap1 : Nat) (hr1 : ReadsC w w.heap.size A1 v1) (cap2 : Nat) (hr2 : ReadsI w w.heap.size A2 v2) (h : R3_ring F d v0 v1 v2 v3 v4 v5 = some r),
    Calls Tryd.prog 9 #[.int .i64 v0, .slice A1 v1.length cap1, .slice A2 v2.length cap2, .int .i64 v3, .int .i64 v4, .int .i64 v5] w fun e w' => e = .returned (.tuple #[(.int .i64 r.1), (.int .i64 r.2)]) ∧ Below w.heap.size w w' := by
  intro d
  induction d with
  | zero =>
    intro v0 v1 A1 v2 A2 v3 v4 v5 r w cap1 hr1 cap2 hr2 h
    rw [R3_ring_0] at h; cases h
  | succ d ih =>
    intro v0 v1 A1 v2 A2 v3 v4 v5 r w cap1 hr1 cap2 hr2 h
    have HR1 := Lib.hid hr1; clear hr1
    have HR2 := Lib.hid hr2; clear hr2
    have HD := Lib.hid (Below.refl w.heap.size w)
    have HOA := Lib.hid (HP.nil (W := w) (B := w.heap.size))
    rw [R3_ring_s] at h
    have HM := Lib.hid h; clear h
    go_enter Tryd.func9, Tryd.ntmps9
    obtain ⟨y1, hy2, hm⟩ := obind HM.out
    replace HM := Lib.hid hm; clear hm
    obtain ⟨b3, o4, ea5, _, f6, f7, f8⟩ := ReadsI.ix (rdI HD.out HR2.out) hy2
    cases ea5
    try simp only [Nat.zero_add, Nat.add_zero, Int.toNat_natCast, Int.toNat_zero, Int.toNat_one] at f8
    have HY10 := Lib.hid hy2; clear hy2
    go_wp2_with fail
    try clear f6 f7 f8
    obtain ⟨o11, ho, hm⟩ := obind HM.out
    replace HM := Lib.hid hm; have HL1 := Lib.hid ho; clear hm ho
    go_loopg [4, 5, 15] F (fun gg ux15 ux16 ux17 wr => ∃ (x12 : Int) (x13 : Int) (x14 : Int), ux15 = .int .i64 x12 ∧ ux16 = .int .i64 x13 ∧ ux17 = .int .i64 x14 ∧ Hid (Below w.heap.size w wr) ∧ Hid (R3_ring_L1 F (R3_ring F d) (v0) (v1) (v2) (v3) (y1) gg x12 x13 x14 = some o11))
    case atStart => exact ⟨v4, v5, 0, rfl, rfl, rfl, (Lib.hid (Below.refl _ _)), HL1⟩
    case round =>
      obtain ⟨x12, x13, x14, rfl, rfl, rfl, HW1, HL1⟩ := hrel
      rename World => W18
      have hd := HW1.out
      replace HOA := Lib.hid (HOA.out.below hd)
      replace HD := Lib.hid (HD.out.trans (hd.mono HD.out.size))
      clear hd
      cases gk with
      | zero => exact absurd ((R3_ring_L1_0 ..).symm.trans HL1.out) (by intro h; cases h)
      | succ g1 =>
        replace HL1 := Lib.hid ((R3_ring_L1_s ..).symm.trans HL1.out)
        by_cases hc19 : x14 < ((v1).length : Int)
        · replace HL1 := Lib.hid (ifT hc19 HL1.out)
          have HK20 := Lib.hid hc19
          obtain ⟨y21, hy22, hm⟩ := obind HL1.out
          replace HL1 := Lib.hid hm; clear hm
          obtain ⟨b23, o24, ea25, _, f26, f27, f28, f29, f30⟩ := ReadsC.ix (rdC HD.out HR1.out) hy22
          cases ea25
          try simp only [Nat.zero_add, Nat.add_zero, Int.toNat_natCast, Int.toNat_zero, Int.toNat_one] at f28 f29 f30
          have HY31 := Lib.hid hy22; clear hy22
          rcases Bool.eq_false_or_eq_true (y21.1 != y1) with hc32 | hc32
          · replace HL1 := Lib.hid (ifT hc32 HL1.out)
            have HK33 := Lib.hid hc32
            go_wp2_with fail
            try clear hc19 f26 f27 f28 f29 f30 hc32
            go_roundg g1
            case measure => omega
            case rel => exact ⟨x12, x13, (wrap64 (x14 + 1)), rfl, rfl, rfl, HW1, HL1⟩
          · replace HL1 := Lib.hid (ifF (bF hc32) HL1.out)
            have HK33 := Lib.hid hc32
            obtain ⟨y34, hy35, hm⟩ := obind HL1.out
            replace HL1 := Lib.hid hm; clear hm
            obtain rfl := Option.some.inj (HY31.out.symm.trans hy35)
            clear hy35
            try go_wp2_with fail
            try clear hc19 f26 f27 f28 f29 f30 hc32
            obtain ⟨y36, hy37, hm⟩ := obind HL1.out
            replace HL1 := Lib.hid hm; clear hm
            obtain ⟨b38, o39, ea40, _, f41, f42, f43, f44, f45⟩ := ReadsC.ix (rdC HD.out HR1.out) hy37
            cases ea40
            try simp only [Nat.zero_add, Nat.add_zero, Int.toNat_natCast, Int.toNat_zero, Int.toNat_one] at f43 f44 f45
            have HY46 := Lib.hid hy37; clear hy37
            obtain ⟨y47, hy48, hm⟩ := obind HL1.out
            replace HL1 := Lib.hid hm; clear hm
            obtain ⟨b49, o50, ea51, _, f52, f53, f54⟩ := ReadsI.ix (rdI HD.out HR2.out) hy48
            cases ea51
            try simp only [Nat.zero_add, Nat.add_zero, Int.toNat_natCast, Int.toNat_zero, Int.toNat_one] at f54
            have HY56 := Lib.hid hy48; clear hy48
            rcases Bool.eq_false_or_eq_true (y36.2.1 == y47) with hc57 | hc57
            · replace HL1 := Lib.hid (ifT hc57 HL1.out)
              have HK58 := Lib.hid hc57
              go_quiet (fail)
              generalize hW : World.drewN W18 _ = W59
              have hd : Dr W18 W59 := ⟨_, hW.symm⟩
              clear hW
              try clear f41 f42 f43 f44 f45 f52 f53 f54 hc57
              replace HOA := Lib.hid (HOA.out.below (hd.below _))
              replace HD := Lib.hid (HD.out.trans ((hd.below _).mono HD.out.size))
              replace HW1 := Lib.hid (HW1.out.trans ((hd.below _).mono HW1.out.size))
              clear hd
              obtain ⟨b60, hb, hm⟩ := obind HL1.out
              replace HL1 := Lib.hid hm; have HB61 := Lib.hid hb; clear hm hb
              rcases Bool.eq_false_or_eq_true (x13 == 0) with hc62 | hc62
              · replace HB61 := Lib.hid (ifT hc62 HB61.out)
                have HK63 := Lib.hid hc62
                obtain rfl := Option.some.inj HB61.out
                replace HL1 := Lib.hid (ifT (by first | rfl | trivial) HL1.out)
                go_wp2_with fail
                try clear hc62
                go_roundg g1
                case measure => omega
                case rel => exact ⟨(wrap64 (v3 + y21.2.2)), ((v2).length : Int), (wrap64 (x14 + 1)), rfl, rfl, rfl, HW1, HL1⟩
              · replace HB61 := Lib.hid (ifF (bF hc62) HB61.out)
                have HK63 := Lib.hid hc62
                by_cases hc64 : (wrap64 ((wrap64 (v3 + y21.2.2)) * x13)) < (wrap64 (x12 * ((v2).length : Int)))
                · replace HB61 := Lib.hid (ifT hc64 HB61.out)
                  have HK65 := Lib.hid hc64
                  obtain rfl := Option.some.inj HB61.out
                  replace HL1 := Lib.hid (ifT (by first | rfl | trivial) HL1.out)
                  go_wp2_with fail
                  try clear hc62 hc64
                  go_roundg g1
                  case measure => omega
                  case rel => exact ⟨(wrap64 (v3 + y21.2.2)), ((v2).length : Int), (wrap64 (x14 + 1)), rfl, rfl, rfl, HW1, HL1⟩
                · replace HB61 := Lib.hid (ifF hc64 HB61.out)
                  have hc64d := decide_eq_false hc64
                  have HK65 := Lib.hid hc64
                  obtain rfl := Option.some.inj HB61.out
                  replace HL1 := Lib.hid (ifF (by first | exact Bool.false_ne_true | exact not_false) HL1.out)
                  go_wp2_with fail
                  try clear hc62 hc64 hc64d
                  go_roundg g1
                  case measure => omega
                  case rel => exact ⟨x12, x13, (wrap64 (x14 + 1)), rfl, rfl, rfl, HW1, HL1⟩
            · replace HL1 := Lib.hid (ifF (bF hc57) HL1.out)
              have HK58 := Lib.hid hc57
              go_quiet (fail)
              generalize hW : World.drewN W18 _ = W66
              have hd : Dr W18 W66 := ⟨_, hW.symm⟩
              clear hW
              try clear f41 f42 f43 f44 f45 f52 f53 f54 hc57
              replace HOA := Lib.hid (HOA.out.below (hd.below _))
              replace HD := Lib.hid (HD.out.trans ((hd.below _).mono HD.out.size))
              replace HW1 := Lib.hid (HW1.out.trans ((hd.below _).mono HW1.out.size))
              clear hd
              try go_wp2_with fail
              obtain ⟨b67, hb, hm⟩ := obind HL1.out
              replace HL1 := Lib.hid hm; have HB68 := Lib.hid hb; clear hm hb
              obtain ⟨y69, hy70, hm⟩ := obind HB68.out
              replace HB68 := Lib.hid hm; clear hm
              obtain ⟨b71, o72, ea73, _, f74, f75, f76, f77, f78⟩ := ReadsC.ix (rdC HD.out HR1.out) hy70
              cases ea73
              try simp only [Nat.zero_add, Nat.add_zero, Int.toNat_natCast, Int.toNat_zero, Int.toNat_one] at f76 f77 f78
              have HY79 := Lib.hid hy70; clear hy70
              obtain ⟨y82, hy80, hm⟩ := obind HB68.out
              replace HB68 := Lib.hid hm; clear hm
              have HC81 := Lib.hid (fun m => R1_Has_ok (W66.drewN m) cap2 (ReadsI.drewN' (rdI HD.out HR2.out) m) hy80)
              clear hy80
              cases y82
              · replace HB68 := Lib.hid (ifF Bool.false_ne_true HB68.out)
                obtain ⟨y83, hy84, hm⟩ := obind HB68.out
                replace HB68 := Lib.hid hm; clear hm
                obtain rfl := Option.some.inj (HY79.out.symm.trans hy84)
                clear hy84
                obtain ⟨y85, hy86, hm⟩ := obind HB68.out
                replace HB68 := Lib.hid hm; clear hm
                obtain ⟨b87, o88, ea89, _, f90, f91, f92⟩ := ReadsI.ix (rdI HD.out HR2.out) hy86
                cases ea89
                try simp only [Nat.zero_add, Nat.add_zero, Int.toNat_natCast, Int.toNat_zero, Int.toNat_one] at f92
                have HY94 := Lib.hid hy86; clear hy86
                by_cases hc95 : y85 < y69.2.1
                · replace HB68 := Lib.hid (ifT hc95 HB68.out)
                  have HK96 := Lib.hid hc95
                  obtain rfl := Option.some.inj HB68.out
                  replace HL1 := Lib.hid (ifT (by first | rfl | trivial) HL1.out)
                  go_quiet (first | (go_at_call 14; exact quiet_left (HC81.out _)))
                  generalize hW : World.drewN W66 _ = W97
                  have hd : Dr W66 W97 := ⟨_, hW.symm⟩
                  clear hW
                  try clear f74 f75 f76 f77 f78 f90 f91 f92 hc95
                  replace HOA := Lib.hid (HOA.out.below (hd.below _))
                  replace HD := Lib.hid (HD.out.trans ((hd.below _).mono HD.out.size))
                  replace HW1 := Lib.hid (HW1.out.trans ((hd.below _).mono HW1.out.size))
                  clear hd
                  obtain ⟨y98, hy99, hm⟩ := obind HL1.out
                  replace HL1 := Lib.hid hm; clear hm
                  obtain ⟨b100, o101, ea102, _, f103, f104, f105, f106, f107⟩ := ReadsC.ix (rdC HD.out HR1.out) hy99
                  cases ea102
                  try simp only [Nat.zero_add, Nat.add_zero, Int.toNat_natCast, Int.toNat_zero, Int.toNat_one] at f105 f106 f107
                  have HY108 := Lib.hid hy99; clear hy99
                  obtain ⟨y111, hy109, hm⟩ := obind HL1.out
                  replace HL1 := Lib.hid hm; clear hm
                  have HC110 := R1_Behind_ok W97 cap2 (rdI HD.out HR2.out) hy109
                  clear hy109
                  replace HC110 := Lib.hid HC110
                  go_wp2_with fail
                  refine HC110.out.mono ?_; rintro e W112 ⟨V113, rfl, ho, hd⟩
                  try clear f103 f104 f105 f106 f107
                  replace HOA := Lib.hid (HOA.out.call hd HD.out.size ho); clear ho
                  replace HD := Lib.hid (HD.out.trans (hd.mono HD.out.size))
                  replace HW1 := Lib.hid (HW1.out.trans (hd.mono HW1.out.size))
                  clear hd
                  obtain ⟨⟨y117, y118⟩, hy115, hm⟩ := obind HL1.out
                  dsimp only at hm
                  replace HL1 := Lib.hid hm; clear hm
                  obtain ⟨A119, cap120, he, _⟩ := HP.open_I HOA.out (List.Mem.head _)
                  subst he
                  have HC116 := ih W112 cap1 (rdC HD.out HR1.out) cap120 (HP.rd_I HOA.out (List.Mem.head _)) hy115
                  clear hy115
                  replace HC116 := Lib.hid HC116
                  go_wp2_with fail
                  refine HC116.out.mono ?_; rintro e W121 ⟨rfl, hd⟩
                  replace HOA := Lib.hid (HOA.out.below hd)
                  replace HD := Lib.hid (HD.out.trans (hd.mono HD.out.size))
                  replace HW1 := Lib.hid (HW1.out.trans (hd.mono HW1.out.size))
                  clear hd
                  go_wp2_with fail
                  go_roundg g1
                  case measure => omega
                  case rel => exact ⟨y117, y118, (wrap64 (x14 + 1)), rfl, rfl, rfl, HW1, HL1⟩
                · replace HB68 := Lib.hid (ifF hc95 HB68.out)
                  have hc95d := decide_eq_false hc95
                  have HK96 := Lib.hid hc95
                  obtain rfl := Option.some.inj HB68.out
                  replace HL1 := Lib.hid (ifF (by first | exact Bool.false_ne_true | exact not_false) HL1.out)
                  go_quiet (first | (go_at_call 14; exact quiet_left (HC81.out _)))
                  generalize hW : World.drewN W66 _ = W122
                  have hd : Dr W66 W122 := ⟨_, hW.symm⟩
                  clear hW
                  try clear f74 f75 f76 f77 f78 f90 f91 f92 hc95 hc95d
                  replace HOA := Lib.hid (HOA.out.below (hd.below _))
                  replace HD := Lib.hid (HD.out.trans ((hd.below _).mono HD.out.size))
                  replace HW1 := Lib.hid (HW1.out.trans ((hd.below _).mono HW1.out.size))
                  clear hd
                  go_wp2_with fail
                  go_roundg g1
                  case measure => omega
                  case rel => exact ⟨x12, x13, (wrap64 (x14 + 1)), rfl, rfl, rfl, HW1, HL1⟩
              · replace HB68 := Lib.hid (ifT rfl HB68.out)
                obtain rfl := Option.some.inj HB68.out
                replace HL1 := Lib.hid (ifF (by first | exact Bool.false_ne_true | exact not_false) HL1.out)
                go_quiet (first | (go_at_call 14; exact quiet_left (HC81.out _)))
                generalize hW : World.drewN W66 _ = W123
                have hd : Dr W66 W123 := ⟨_, hW.symm⟩
                clear hW
                try clear f74 f75 f76 f77 f78
                replace HOA := Lib.hid (HOA.out.below (hd.below _))
                replace HD := Lib.hid (HD.out.trans ((hd.below _).mono HD.out.size))
                replace HW1 := Lib.hid (HW1.out.trans ((hd.below _).mono HW1.out.size))
                clear hd
                go_wp2_with fail
                go_roundg g1
                case measure => omega
                case rel => exact ⟨x12, x13, (wrap64 (x14 + 1)), rfl, rfl, rfl, HW1, HL1⟩
        · replace HL1 := Lib.hid (ifF hc19 HL1.out)
          have hc19d := decide_eq_false hc19
          have HK20 := Lib.hid hc19
          obtain rfl := Option.some.inj HL1.out
          have hm := HM.out; try dsimp only at hm
          replace HM := Lib.hid hm; clear hm
          obtain rfl := Option.some.inj HM.out
          go_wp2_with fail
          try clear hc19 hc19d
          go_ret2
          exact ⟨rfl, HD.out⟩
def R3_Mean_L1 (F : Nat) (v0 : Int) (v1 : List (Int × Int × Int)) : Nat → (Int) → (Int) → (Int) → Option (Int × Int × Int)
  | 0, _, _, _ => none
  | g+1, v4, v5, v6 => if v6 < v0 then (R3_ring F F (v0) (v1) ([v6]) (0) (v4) (v5)).bind fun y1 => R3_Mean_L1 F v0 v1 g (y1.1) (y1.2) ((wrap64 (v6 + 1))) else some (v4, v5, v6)
theorem R3_Mean_L1_0 (F : Nat) (v0 : Int) (v1 : List (Int × Int × Int)) (v4 : Int) (v5 : Int) (v6 : Int) : R3_Mean_L1 F v0 v1 0 v4 v5 v6 = none := by rw [R3_Mean_L1]
theorem R3_Mean_L1_s (F g : Nat) (v0 : Int) (v1 : List (Int × Int × Int)) (v4 : Int) (v5 : Int) (v6 : Int) : R3_Mean_L1 F v0 v1 (g+1) v4 v5 v6 = (if v6 < v0 then (R3_ring F F (v0) (v1) ([v6]) (0) (v4) (v5)).bind fun y1 => R3_Mean_L1 F v0 v1 g (y1.1) (y1.2) ((wrap64 (v6 + 1))) else some (v4, v5, v6)) := by rw [R3_Mean_L1]
def R3_Mean_L2 (F : Nat)  : Nat → (Int) → (Int) → (Int) → Option (Int × Int × Int)
  | 0, _, _, _ => none
  | g+1, v4, v5, v7 => if 1 < v7 then (((md v4 v7).bind fun y4 => if (y4 == 0) = true then (md v5 v7).bind fun y5 => if (y5 == 0) = true then some true else some false else some false).bind fun b3 => if b3 = true then (dv v4 v7).bind fun y6 => (dv v5 v7).bind fun y7 => R3_Mean_L2 F  g (y6) (y7) ((wrap64 (v7 - 1))) else R3_Mean_L2 F  g (v4) (v5) ((wrap64 (v7 - 1)))) else some (v4, v5, v7)
theorem R3_Mean_L2_0 (F : Nat) (v4 : Int) (v5 : Int) (v7 : Int) : R3_Mean_L2 F  0 v4 v5 v7 = none := by rw [R3_Mean_L2]
theorem R3_Mean_L2_s (F g : Nat) (v4 : Int) (v5 : Int) (v7 : Int) : R3_Mean_L2 F  (g+1) v4 v5 v7 = (if 1 < v7 then (((md v4 v7).bind fun y4 => if (y4 == 0) = true then (md v5 v7).bind fun y5 => if (y5 == 0) = true then some true else some false else some false).bind fun b3 => if b3 = true then (dv v4 v7).bind fun y6 => (dv v5 v7).bind fun y7 => R3_Mean_L2 F  g (y6) (y7) ((wrap64 (v7 - 1))) else R3_Mean_L2 F  g (v4) (v5) ((wrap64 (v7 - 1)))) else some (v4, v5, v7)) := by rw [R3_Mean_L2]
def R3_Mean (F : Nat) (v0 : Int) (v1 : List (Int × Int × Int)) : Option (Int × Int) := (R3_Mean_L1 F (v0) (v1) F (0) (0) (0)).bind fun o2 => (if (o2.2.1 == 0) = true then some ((0, 0)) else (R3_Mean_L2 F  F (o2.1) (o2.2.1) (o2.2.1)).bind fun o8 => some ((o8.1, o8.2.1)))
set_option maxRecDepth 100000 in
set_option maxHeartbeats 4000000 in
theorem R3_Mean_ok {F : Nat} {v0 : Int} {v1 : List (Int × Int × Int)} {A1 : Option Addr} {r : Int × Int} (w : World) (cap1 : Nat) (hr1 : ReadsC w w.heap.size A1 v1) (h : R3_Mean F v0 v1 = some r) :
    Calls Tryd.prog 5 #[.int .i64 v0, .slice A1 v1.length cap1] w fun e w' => e = .returned (.tuple #[(.int .i64 r.1), (.int .i64 r.2)]) ∧ Below w.heap.size w w' := by
  have HR1 := Lib.hid hr1; clear hr1
  have HD := Lib.hid (Below.refl w.heap.size w)
  have HOA := Lib.hid (HP.nil (W := w) (B := w.heap.size))
  unfold R3_Mean at h
  have HM := Lib.hid h; clear h
  go_enter Tryd.func5, Tryd.ntmps5
  go_wp2_with fail
  obtain ⟨o1, ho, hm⟩ := obind HM.out
  replace HM := Lib.hid hm; have HL1 := Lib.hid ho; clear hm ho
  go_loopg [6, 7, 8] F (fun gg ux5 ux6 ux7 wr => ∃ (x2 : Int) (x3 : Int) (x4 : Int), ux5 = .int .i64 x2 ∧ ux6 = .int .i64 x3 ∧ ux7 = .int .i64 x4 ∧ Hid (Below w.heap.size w wr) ∧ Hid (R3_Mean_L1 F (v0) (v1) gg x2 x3 x4 = some o1))
  case atStart => exact ⟨0, 0, 0, rfl, rfl, rfl, (Lib.hid (Below.refl _ _)), HL1⟩
  case round =>
    obtain ⟨x2, x3, x4, rfl, rfl, rfl, HW1, HL1⟩ := hrel
    rename World => W8
    have hd := HW1.out
    replace HOA := Lib.hid (HOA.out.below hd)
    replace HD := Lib.hid (HD.out.trans (hd.mono HD.out.size))
    clear hd
    cases gk with
    | zero => exact absurd ((R3_Mean_L1_0 ..).symm.trans HL1.out) (by intro h; cases h)
    | succ g1 =>
      replace HL1 := Lib.hid ((R3_Mean_L1_s ..).symm.trans HL1.out)
      by_cases hc9 : x4 < v0
      · replace HL1 := Lib.hid (ifT hc9 HL1.out)
        have HK10 := Lib.hid hc9
        have hd : Below W8.heap.size W8 (World.alloc W8 (.cells #[Value.int .i64 (x4)] 3)) := (Below.refl _ _).alloc (Nat.le_refl _) _
        have ho : (owI (.slice (some ⟨W8.heap.size, 0, none⟩) 1 1) [x4]).ok (World.alloc W8 (.cells #[Value.int .i64 (x4)] 3)) W8.heap.size := litI_ok W8 [x4] (by unfold maxLen; simp)
        replace HOA := Lib.hid (HOA.out.call hd HD.out.size ho); clear ho
        replace HD := Lib.hid (HD.out.trans (hd.mono HD.out.size))
        replace HW1 := Lib.hid (HW1.out.trans (hd.mono HW1.out.size))
        clear hd
        obtain ⟨⟨y15, y16⟩, hy13, hm⟩ := obind HL1.out
        dsimp only at hm
        replace HL1 := Lib.hid hm; clear hm
        have HC14 := R3_ring_ok _ (World.alloc W8 (.cells #[Value.int .i64 (x4)] 3)) cap1 (rdC HD.out HR1.out) 1 (HP.rd_I HOA.out (List.Mem.head _)) hy13
        clear hy13
        replace HC14 := Lib.hid HC14
        go_wp2_with fail
        refine HC14.out.mono ?_; rintro e W17 ⟨rfl, hd⟩
        try clear hc9
        replace HOA := Lib.hid (HOA.out.below hd)
        replace HD := Lib.hid (HD.out.trans (hd.mono HD.out.size))
        replace HW1 := Lib.hid (HW1.out.trans (hd.mono HW1.out.size))
        clear hd
        go_wp2_with fail
        go_roundg g1
        case measure => omega
        case rel => exact ⟨y15, y16, (wrap64 (x4 + 1)), rfl, rfl, rfl, HW1, HL1⟩
      · replace HL1 := Lib.hid (ifF hc9 HL1.out)
        have hc9d := decide_eq_false hc9
        have HK10 := Lib.hid hc9
        obtain rfl := Option.some.inj HL1.out
        have hm := HM.out; try dsimp only at hm
        replace HM := Lib.hid hm; clear hm
        rcases Bool.eq_false_or_eq_true (x3 == 0) with hc18 | hc18
        · replace HM := Lib.hid (ifT hc18 HM.out)
          have HK19 := Lib.hid hc18
          obtain rfl := Option.some.inj HM.out
          go_wp2_with fail
          try clear hc9 hc9d hc18
          go_ret2
          exact ⟨rfl, HD.out⟩
        · replace HM := Lib.hid (ifF (bF hc18) HM.out)
          have HK19 := Lib.hid hc18
          go_wp2_with fail
          try clear hc9 hc9d hc18
          obtain ⟨o20, ho, hm⟩ := obind HM.out
          replace HM := Lib.hid hm; have HL2 := Lib.hid ho; clear hm ho
          go_loopg [6, 7, 9] F (fun gg ux24 ux25 ux26 wr => ∃ (x21 : Int) (x22 : Int) (x23 : Int), ux24 = .int .i64 x21 ∧ ux25 = .int .i64 x22 ∧ ux26 = .int .i64 x23 ∧ Hid (Below W8.heap.size W8 wr) ∧ Hid (R3_Mean_L2 F  gg x21 x22 x23 = some o20))
          case atStart => exact ⟨x2, x3, x3, rfl, rfl, rfl, (Lib.hid (Below.refl _ _)), HL2⟩
          case round =>
            obtain ⟨x21, x22, x23, rfl, rfl, rfl, HW2, HL2⟩ := hrel
            rename World => W27
            have hd := HW2.out
            replace HOA := Lib.hid (HOA.out.below hd)
            replace HD := Lib.hid (HD.out.trans (hd.mono HD.out.size))
            clear hd
            cases gk with
            | zero => exact absurd ((R3_Mean_L2_0 ..).symm.trans HL2.out) (by intro h; cases h)
            | succ g2 =>
              replace HL2 := Lib.hid ((R3_Mean_L2_s ..).symm.trans HL2.out)
              by_cases hc28 : 1 < x23
              · replace HL2 := Lib.hid (ifT hc28 HL2.out)
                have HK29 := Lib.hid hc28
                obtain ⟨b30, hb, hm⟩ := obind HL2.out
                replace HL2 := Lib.hid hm; have HB31 := Lib.hid hb; clear hm hb
                obtain ⟨y32, hy33, hm⟩ := obind HB31.out
                replace HB31 := Lib.hid hm; clear hm
                obtain ⟨f34, hy33⟩ := md_some hy33; subst hy33
                rcases Bool.eq_false_or_eq_true (((x21 : Int).tmod x23) == 0) with hc35 | hc35
                · replace HB31 := Lib.hid (ifT hc35 HB31.out)
                  have HK36 := Lib.hid hc35
                  obtain ⟨y37, hy38, hm⟩ := obind HB31.out
                  replace HB31 := Lib.hid hm; clear hm
                  obtain ⟨f39, hy38⟩ := md_some hy38; subst hy38
                  rcases Bool.eq_false_or_eq_true (((x22 : Int).tmod x23) == 0) with hc40 | hc40
                  · replace HB31 := Lib.hid (ifT hc40 HB31.out)
                    have HK41 := Lib.hid hc40
                    obtain rfl := Option.some.inj HB31.out
                    replace HL2 := Lib.hid (ifT (by first | rfl | trivial) HL2.out)
                    obtain ⟨y42, hy43, hm⟩ := obind HL2.out
                    replace HL2 := Lib.hid hm; clear hm
                    obtain ⟨f44, hy43⟩ := dv_some hy43; subst hy43
                    obtain ⟨y45, hy46, hm⟩ := obind HL2.out
                    replace HL2 := Lib.hid hm; clear hm
                    obtain ⟨f47, hy46⟩ := dv_some hy46; subst hy46
                    go_wp2_with fail
                    try clear hc28 f34 hc35 f39 hc40 f44 f47
                    go_roundg g2
                    case measure => omega
                    case rel => exact ⟨(wrap64 (Int.tdiv x21 x23)), (wrap64 (Int.tdiv x22 x23)), (wrap64 (x23 - 1)), rfl, rfl, rfl, HW2, HL2⟩
                  · replace HB31 := Lib.hid (ifF (bF hc40) HB31.out)
                    have HK41 := Lib.hid hc40
                    obtain rfl := Option.some.inj HB31.out
                    replace HL2 := Lib.hid (ifF (by first | exact Bool.false_ne_true | exact not_false) HL2.out)
                    go_wp2_with fail
                    try clear hc28 f34 hc35 f39 hc40
                    go_roundg g2
                    case measure => omega
                    case rel => exact ⟨x21, x22, (wrap64 (x23 - 1)), rfl, rfl, rfl, HW2, HL2⟩
                · replace HB31 := Lib.hid (ifF (bF hc35) HB31.out)
                  have HK36 := Lib.hid hc35
                  obtain rfl := Option.some.inj HB31.out
                  replace HL2 := Lib.hid (ifF (by first | exact Bool.false_ne_true | exact not_false) HL2.out)
                  go_wp2_with fail
                  try clear hc28 f34 hc35
                  go_roundg g2
                  case measure => omega
                  case rel => exact ⟨x21, x22, (wrap64 (x23 - 1)), rfl, rfl, rfl, HW2, HL2⟩
              · replace HL2 := Lib.hid (ifF hc28 HL2.out)
                have hc28d := decide_eq_false hc28
                have HK29 := Lib.hid hc28
                obtain rfl := Option.some.inj HL2.out
                have hm := HM.out; try dsimp only at hm
                replace HM := Lib.hid hm; clear hm
                obtain rfl := Option.some.inj HM.out
                go_wp2_with fail
                try clear hc28 hc28d
                go_ret2
                exact ⟨rfl, HD.out⟩
def L3_MeanSays (F : Nat) (v0 : Int) (v1 : List (Int × Int × Int)) : Option (Bool) := (R3_Costs F (v0) (v1)).bind fun y1 => ((if (y1 == 0) = true then some true else some false).bind fun b3 => if b3 = true then (R3_Mean F (v0) (v1)).bind fun y4 => (if (y4.2 == 0) = true then some (5, y4.1, y4.2) else some (y1, y4.1, y4.2)) else some (y1, 0, 0)).bind fun o2 => (mean_Least F (v0) (v1)).bind fun y5 => (((mErr (y5.2.2) (o2.1)).bind fun y8 => if y8 = true then if (y5.1 == o2.2.1) = true then some true else some false else some false).bind fun b7 => if b7 = true then if (y5.2.1 == o2.2.2) = true then some true else some false else some false).bind fun b6 => some (b6)
set_option maxRecDepth 100000 in
set_option maxHeartbeats 4000000 in
theorem L3_MeanSays_ok {F : Nat} {v0 : Int} {v1 : List (Int × Int × Int)} {A1 : Option Addr} {r : Bool} (w : World) (htc : TyCell w) (cap1 : Nat) (hr1 : ReadsC w w.heap.size A1 v1) (h : L3_MeanSays F v0 v1 = some r) :
    Calls Tryd.prog 3 #[.int .i64 v0, .slice A1 v1.length cap1] w fun e w' => e = .returned (.bool r) ∧ Below w.heap.size w w' := by
  have HTC := Lib.hid htc; clear htc
  have HR1 := Lib.hid hr1; clear hr1
  have HD := Lib.hid (Below.refl w.heap.size w)
  have HOA := Lib.hid (HP.nil (W := w) (B := w.heap.size))
  unfold L3_MeanSays at h
  have HM := Lib.hid h; clear h
  go_enter Tryd.func3, Tryd.ntmps3
  obtain ⟨y3, hy1, hm⟩ := obind HM.out
  replace HM := Lib.hid hm; clear hm
  have HC2 := R3_Costs_ok w cap1 (rdC HD.out HR1.out) hy1
  clear hy1
  replace HC2 := Lib.hid HC2
  go_wp2_with fail
  refine HC2.out.mono ?_; rintro e W4 ⟨rfl, hd⟩
  replace HOA := Lib.hid (HOA.out.below (hd.below _))
  replace HD := Lib.hid (HD.out.trans ((hd.below _).mono HD.out.size))
  clear hd
  go_upto_region 4 with (fail)
  obtain ⟨⟨x5, x6, x7⟩, ho, hm⟩ := obind HM.out
  try simp only [] at hm
  replace HM := Lib.hid hm; have HJ8 := Lib.hid ho; clear hm ho
  obtain ⟨b9, hb, hm⟩ := obind HJ8.out
  replace HJ8 := Lib.hid hm; have HB10 := Lib.hid hb; clear hm hb
  go_cut [15] (fun uq wr => uq = .bool b9 ∧ Hid (Below W4.heap.size W4 wr))
  case first =>
    have HWC11 := Lib.hid (Below.refl W4.heap.size W4)
    rcases Bool.eq_false_or_eq_true (y3 == 0) with hc12 | hc12
    · replace HB10 := Lib.hid (ifT hc12 HB10.out)
      have HK13 := Lib.hid hc12
      cases Option.some.inj HB10.out
      try go_wp2_with fail
      go_meet
      case rel => exact ⟨rfl, HWC11⟩
    · replace HB10 := Lib.hid (ifF (bF hc12) HB10.out)
      have HK13 := Lib.hid hc12
      cases Option.some.inj HB10.out
      try go_wp2_with fail
      go_meet
      case rel => exact ⟨rfl, HWC11⟩
  case rest =>
    obtain ⟨rfl, HWC11⟩ := hcut
    rename World => W14
    have hd := HWC11.out
    replace HOA := Lib.hid (HOA.out.below hd)
    replace HD := Lib.hid (HD.out.trans (hd.mono HD.out.size))
    clear hd
    go_upto_if 15 with (fail)
    go_cut [5, 6, 7] (fun q15 q16 q17 wr => q15 = .int .i64 x5 ∧ q16 = .int .i64 x6 ∧ q17 = .int .i64 x7 ∧ Hid (Below W14.heap.size W14 wr))
    case first =>
      have HWC19 := Lib.hid (Below.refl W14.heap.size W14)
      cases b9
      · replace HJ8 := Lib.hid (ifF Bool.false_ne_true HJ8.out)
        try go_wp2_with fail
        cases Option.some.inj HJ8.out
        go_meet
        case rel => exact ⟨rfl, rfl, rfl, HWC19⟩
      · replace HJ8 := Lib.hid (ifT rfl HJ8.out)
        obtain ⟨⟨y22, y23⟩, hy20, hm⟩ := obind HJ8.out
        dsimp only at hm
        replace HJ8 := Lib.hid hm; clear hm
        have HC21 := R3_Mean_ok W14 cap1 (rdC HD.out HR1.out) hy20
        clear hy20
        replace HC21 := Lib.hid HC21
        go_wp2_with fail
        refine HC21.out.mono ?_; rintro e W24 ⟨rfl, hd⟩
        replace HOA := Lib.hid (HOA.out.below hd)
        replace HD := Lib.hid (HD.out.trans (hd.mono HD.out.size))
        replace HWC19 := Lib.hid (HWC19.out.trans (hd.mono HWC19.out.size))
        clear hd
        rcases Bool.eq_false_or_eq_true (y23 == 0) with hc25 | hc25
        · replace HJ8 := Lib.hid (ifT hc25 HJ8.out)
          have HK26 := Lib.hid hc25
          try go_wp2_with fail
          try clear hc25
          cases Option.some.inj HJ8.out
          go_meet
          case rel => exact ⟨rfl, rfl, rfl, HWC19⟩
        · replace HJ8 := Lib.hid (ifF (bF hc25) HJ8.out)
          have HK26 := Lib.hid hc25
          try go_wp2_with fail
          try clear hc25
          cases Option.some.inj HJ8.out
          go_meet
          case rel => exact ⟨rfl, rfl, rfl, HWC19⟩
    case rest =>
      obtain ⟨rfl, rfl, rfl, HWC19⟩ := hcut
      rename World => W27
      have hd := HWC19.out
      replace HOA := Lib.hid (HOA.out.below hd)
      replace HD := Lib.hid (HD.out.trans (hd.mono HD.out.size))
      clear hd
      obtain ⟨⟨y30, y31, y32⟩, hy28, hm⟩ := obind HM.out
      dsimp only at hm
      replace HM := Lib.hid hm; clear hm
      have HC29 := mean_Least_ok W27 cap1 (rdC HD.out HR1.out) hy28
      clear hy28
      replace HC29 := Lib.hid HC29
      go_wp2_with fail
      refine HC29.out.mono ?_; rintro e W33 ⟨rfl, hd⟩
      replace HOA := Lib.hid (HOA.out.below hd)
      replace HD := Lib.hid (HD.out.trans (hd.mono HD.out.size))
      clear hd
      obtain ⟨b34, hb, hm⟩ := obind HM.out
      replace HM := Lib.hid hm; have HB35 := Lib.hid hb; clear hm hb
      obtain ⟨b36, hb, hm⟩ := obind HB35.out
      replace HB35 := Lib.hid hm; have HB37 := Lib.hid hb; clear hm hb
      obtain ⟨y40, hy38, hm⟩ := obind HB37.out
      replace HB37 := Lib.hid hm; clear hm
      have HC39 := mErr_ok W33 (HTC.out.go HD.out)  hy38
      clear hy38
      replace HC39 := Lib.hid HC39
      go_wp2_with fail
      refine HC39.out.mono ?_; rintro e W41 ⟨rfl, hd⟩
      replace HOA := Lib.hid (HOA.out.below hd)
      replace HD := Lib.hid (HD.out.trans (hd.mono HD.out.size))
      clear hd
      cases y40
      · replace HB37 := Lib.hid (ifF Bool.false_ne_true HB37.out)
        obtain rfl := Option.some.inj HB37.out
        replace HB35 := Lib.hid (ifF (by first | exact Bool.false_ne_true | exact not_false) HB35.out)
        obtain rfl := Option.some.inj HB35.out
        obtain rfl := Option.some.inj HM.out
        go_wp2_with fail
        go_ret
        exact ⟨rfl, HD.out⟩
      · replace HB37 := Lib.hid (ifT rfl HB37.out)
        rcases Bool.eq_false_or_eq_true (y30 == x6) with hc42 | hc42
        · replace HB37 := Lib.hid (ifT hc42 HB37.out)
          have HK43 := Lib.hid hc42
          obtain rfl := Option.some.inj HB37.out
          replace HB35 := Lib.hid (ifT (by first | rfl | trivial) HB35.out)
          rcases Bool.eq_false_or_eq_true (y31 == x7) with hc44 | hc44
          · replace HB35 := Lib.hid (ifT hc44 HB35.out)
            have HK45 := Lib.hid hc44
            obtain rfl := Option.some.inj HB35.out
            obtain rfl := Option.some.inj HM.out
            go_wp2_with fail
            go_ret
            exact ⟨(by first | rfl | (refine congrArg (fun b => Ending.returned (Value.bool b)) ?_; first | (exact decide_eq_true (by omega)) | (exact decide_eq_false (by omega)))), HD.out⟩
          · replace HB35 := Lib.hid (ifF (bF hc44) HB35.out)
            have HK45 := Lib.hid hc44
            obtain rfl := Option.some.inj HB35.out
            obtain rfl := Option.some.inj HM.out
            go_wp2_with fail
            go_ret
            exact ⟨(by first | rfl | (refine congrArg (fun b => Ending.returned (Value.bool b)) ?_; first | (exact decide_eq_true (by omega)) | (exact decide_eq_false (by omega)))), HD.out⟩
        · replace HB37 := Lib.hid (ifF (bF hc42) HB37.out)
          have HK43 := Lib.hid hc42
          obtain rfl := Option.some.inj HB37.out
          replace HB35 := Lib.hid (ifF (by first | exact Bool.false_ne_true | exact not_false) HB35.out)
          obtain rfl := Option.some.inj HB35.out
          obtain rfl := Option.some.inj HM.out
          go_wp2_with fail
          go_ret
          exact ⟨(by first | rfl | (refine congrArg (fun b => Ending.returned (Value.bool b)) ?_; first | (exact decide_eq_true (by omega)) | (exact decide_eq_false (by omega)))), HD.out⟩
end Go.Proofs.YthgejnjfikljcaaDoor
