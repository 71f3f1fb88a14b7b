import Derived.Test.YtpcmofhmhggcoaaDoorHP2
set_option linter.all false
set_option maxRecDepth 100000
namespace Go.Proofs.YtpcmofhmhggcoaaDoor
open Go.RowKit
def color_can_L2 (F : Nat) (rec : (List Nat) → (List Int) → (Int) → Option (Bool)) (v0 : List Nat) (v1 : List Int) (v4 : Int) (v5 : Int) : Nat → (Int) → (Bool) → Option (Bool)
  | 0, _, _ => none
  | g+1, j, v6 => if j < ((v1).length : Int) then (ix v1 j).bind fun y => (if v6 = true then if (y != v5) = true then some true else (ix v0 v4).bind fun y2 => (sHas (y2) (j)).bind fun y3 => if y3 = true then some false else some true else some false).bind fun b1 => color_can_L2 F rec v0 v1 v4 v5 g (wrap64 (j + 1)) (b1) else some (v6)
theorem color_can_L2_0 (F : Nat) (rec : (List Nat) → (List Int) → (Int) → Option (Bool)) (v0 : List Nat) (v1 : List Int) (v4 : Int) (v5 : Int) (v6 : Bool) (j : Int) : color_can_L2 F rec v0 v1 v4 v5 0 j v6 = none := by rw [color_can_L2]
theorem color_can_L2_s (F g : Nat) (rec : (List Nat) → (List Int) → (Int) → Option (Bool)) (v0 : List Nat) (v1 : List Int) (v4 : Int) (v5 : Int) (v6 : Bool) (j : Int) : color_can_L2 F rec v0 v1 v4 v5 (g+1) j v6 = (if j < ((v1).length : Int) then (ix v1 j).bind fun y => (if v6 = true then if (y != v5) = true then some true else (ix v0 v4).bind fun y2 => (sHas (y2) (j)).bind fun y3 => if y3 = true then some false else some true else some false).bind fun b1 => color_can_L2 F rec v0 v1 v4 v5 g (wrap64 (j + 1)) (b1) else some (v6)) := by rw [color_can_L2]
def color_can_L1 (F : Nat) (rec : (List Nat) → (List Int) → (Int) → Option (Bool)) (v0 : List Nat) (v1 : List Int) (v2 : Int) (v4 : Int) : Nat → (Int) → Option ((Unit) ⊕ (Bool))
  | 0, _ => none
  | g+1, j => if j < v2 then (color_can_L2 F rec (v0) (v1) (v4) (j) F (0) (true)).bind fun o4 => ((if o4 = true then (apF v1 v4 j).bind fun y6 => (rec (v0) (y6) (v2)).bind fun y7 => if y7 = true then some true else some false else some false).bind fun b5 => if b5 = true then some (.inr (true)) else color_can_L1 F rec v0 v1 v2 v4 g (wrap64 (j + 1))) else some (.inl ())
theorem color_can_L1_0 (F : Nat) (rec : (List Nat) → (List Int) → (Int) → Option (Bool)) (v0 : List Nat) (v1 : List Int) (v2 : Int) (v4 : Int) (j : Int) : color_can_L1 F rec v0 v1 v2 v4 0 j = none := by rw [color_can_L1]
theorem color_can_L1_s (F g : Nat) (rec : (List Nat) → (List Int) → (Int) → Option (Bool)) (v0 : List Nat) (v1 : List Int) (v2 : Int) (v4 : Int) (j : Int) : color_can_L1 F rec v0 v1 v2 v4 (g+1) j = (if j < v2 then (color_can_L2 F rec (v0) (v1) (v4) (j) F (0) (true)).bind fun o4 => ((if o4 = true then (apF v1 v4 j).bind fun y6 => (rec (v0) (y6) (v2)).bind fun y7 => if y7 = true then some true else some false else some false).bind fun b5 => if b5 = true then some (.inr (true)) else color_can_L1 F rec v0 v1 v2 v4 g (wrap64 (j + 1))) else some (.inl ())) := by rw [color_can_L1]
def color_can (F : Nat) : Nat → (List Nat) → (List Int) → (Int) → Option (Bool)
  | 0, _, _, _ => none
  | d+1, v0, v1, v2 => (if (((v1).length : Int) == ((v0).length : Int)) = true then some (true) else (color_can_L1 F (color_can F d) (v0) (v1) (v2) (((v1).length : Int)) F (0)).bind fun o8 => match o8 with | .inr r => some (r) | .inl o8 => some (false))
theorem color_can_s (F d : Nat) (v0 : List Nat) (v1 : List Int) (v2 : Int) : color_can F (d+1) v0 v1 v2 = ((if (((v1).length : Int) == ((v0).length : Int)) = true then some (true) else (color_can_L1 F (color_can F d) (v0) (v1) (v2) (((v1).length : Int)) F (0)).bind fun o8 => match o8 with | .inr r => some (r) | .inl o8 => some (false))) := by rw [color_can]
theorem color_can_0 (F : Nat) (v0 : List Nat) (v1 : List Int) (v2 : Int) : color_can F 0 v0 v1 v2 = none := by rw [color_can]
set_option maxRecDepth 100000 in
set_option maxHeartbeats 1000000 in
theorem color_can_ok {F : Nat} : ∀ (d : Nat) {v0 : List Nat} {A0 : Option Addr} {v1 : List Int} {A1 : Option Addr} {v2 : Int} {r : Bool} (w : World) (cap0 : Nat) (hr0 : ReadsM w w.heap.size A0 v0) (cap1 : Nat) (hr1 : ReadsI w w.heap.size A1 v1) (hcap1 : v1.length ≤ cap1) (h : color_can F d v0 v1 v2 = some r),
    Calls Tryd.prog 35 #[.slice A0 v0.length cap0, .slice A1 v1.length cap1, .int .i64 v2] w fun e w' => e = .returned (.bool r) ∧ Below w.heap.size w w' := by
  intro d
  induction d with
  | zero =>
    intro v0 A0 v1 A1 v2 r w cap0 hr0 cap1 hr1 hcap1 h
    rw [color_can_0] at h; cases h
  | succ d ih =>
    intro v0 A0 v1 A1 v2 r w cap0 hr0 cap1 hr1 hcap1 h
    have HR0 := Lib.hid hr0; clear hr0
    have HR1 := Lib.hid hr1; clear hr1
    have HCAP1 := Lib.hid hcap1; clear hcap1
    have HD := Lib.hid (Below.refl w.heap.size w)
    have HOA := Lib.hid (HP.nil (W := w) (B := w.heap.size))
    rw [color_can_s] at h
    have HM := Lib.hid h; clear h
    go_enter Tryd.func35, Tryd.ntmps35
    rcases Bool.eq_false_or_eq_true (((v1).length : Int) == ((v0).length : Int)) with hc1 | hc1
    · replace HM := Lib.hid (ifT hc1 HM.out)
      obtain rfl := Option.some.inj HM.out
      go_wp2_with fail
      try clear hc1
      go_ret
      exact ⟨rfl, HD.out⟩
    · replace HM := Lib.hid (ifF (bF hc1) HM.out)
      go_wp2_with fail
      try clear hc1
      obtain ⟨o2, ho, hm⟩ := obind HM.out
      replace HM := Lib.hid hm; have HL1 := Lib.hid ho; clear hm ho
      go_loopg [19] F (fun gg uj wr => ∃ (j3 : Int), uj = .int .i64 j3 ∧ Hid (Below w.heap.size w wr) ∧ Hid (HP wr w.heap.size []) ∧ Hid (color_can_L1 F (color_can F d) (v0) (v1) (v2) (((v1).length : Int)) gg j3 = some o2))
      case atStart => exact ⟨0, rfl, HD, HOA, HL1⟩
      case round =>
        obtain ⟨j3, rfl, HD, HOA, HL1⟩ := hrel
        rename World => W4
        cases gk with
        | zero => exact absurd ((color_can_L1_0 ..).symm.trans HL1.out) (by intro h; cases h)
        | succ g1 =>
          replace HL1 := Lib.hid ((color_can_L1_s ..).symm.trans HL1.out)
          by_cases hc5 : j3 < v2
          · replace HL1 := Lib.hid (ifT hc5 HL1.out)
            go_wp2_with fail
            try clear hc5
            obtain ⟨o6, ho, hm⟩ := obind HL1.out
            replace HL1 := Lib.hid hm; have HL2 := Lib.hid ho; clear hm ho
            go_loopg [24, 9] F (fun gg uj u8 wr => ∃ (j9 : Int) (x7 : Bool), uj = .int .i64 j9 ∧ u8 = .bool x7 ∧ Hid (Below W4.heap.size W4 wr) ∧ Hid (color_can_L2 F (color_can F d) (v0) (v1) (((v1).length : Int)) (j3) gg j9 x7 = some o6))
            case atStart => exact ⟨0, true, rfl, rfl, (Lib.hid (Below.refl _ _)), HL2⟩
            case round =>
              obtain ⟨j9, x7, rfl, rfl, HW2, HL2⟩ := hrel
              rename World => W10
              have hd := HW2.out
              replace HOA := Lib.hid (HOA.out.below hd)
              replace HD := Lib.hid (HD.out.trans (hd.mono HD.out.size))
              clear hd
              cases gk with
              | zero => exact absurd ((color_can_L2_0 ..).symm.trans HL2.out) (by intro h; cases h)
              | succ g2 =>
                replace HL2 := Lib.hid ((color_can_L2_s ..).symm.trans HL2.out)
                by_cases hc11 : j9 < ((v1).length : Int)
                · replace HL2 := Lib.hid (ifT hc11 HL2.out)
                  obtain ⟨y12, hy13, hm⟩ := obind HL2.out
                  replace HL2 := Lib.hid hm; clear hm
                  obtain ⟨b14, o15, ea16, _, f17, f18, f19⟩ := ReadsI.ix (rdI HD.out HR1.out) hy13
                  cases ea16
                  try simp only [Nat.zero_add, Int.toNat_natCast] at f19
                  have HY21 := Lib.hid hy13; clear hy13
                  obtain ⟨b22, hb, hm⟩ := obind HL2.out
                  replace HL2 := Lib.hid hm; have HB23 := Lib.hid hb; clear hm hb
                  cases x7
                  · replace HB23 := Lib.hid (ifF Bool.false_ne_true HB23.out)
                    obtain rfl := Option.some.inj HB23.out
                    go_wp2_with fail
                    try clear hc11 f17 f18 f19
                    go_roundg g2
                    case measure => omega
                    case rel => exact ⟨(wrap64 (j9 + 1)), false, rfl, rfl, HW2, HL2⟩
                  · replace HB23 := Lib.hid (ifT rfl HB23.out)
                    rcases Bool.eq_false_or_eq_true (y12 != j3) with hc24 | hc24
                    · replace HB23 := Lib.hid (ifT hc24 HB23.out)
                      obtain rfl := Option.some.inj HB23.out
                      go_wp2_with fail
                      try clear hc11 f17 f18 f19 hc24
                      go_roundg g2
                      case measure => omega
                      case rel => exact ⟨(wrap64 (j9 + 1)), true, rfl, rfl, HW2, HL2⟩
                    · replace HB23 := Lib.hid (ifF (bF hc24) HB23.out)
                      obtain ⟨y25, hy26, hm⟩ := obind HB23.out
                      replace HB23 := Lib.hid hm; clear hm
                      obtain ⟨b27, o28, ea29, _, f30, f31, f32⟩ := ReadsM.ix (rdM HD.out HR0.out) hy26
                      cases ea29
                      try simp only [Nat.zero_add, Int.toNat_natCast] at f32
                      have HY34 := Lib.hid hy26; clear hy26
                      obtain ⟨y37, hy35, hm⟩ := obind HB23.out
                      replace HB23 := Lib.hid hm; clear hm
                      have HC36 := sHas_ok W10  hy35
                      clear hy35
                      replace HC36 := Lib.hid HC36
                      cases y37
                      · replace HB23 := Lib.hid (ifF Bool.false_ne_true HB23.out)
                        obtain rfl := Option.some.inj HB23.out
                        go_wp2_with fail
                        refine HC36.out.mono ?_; rintro e w' ⟨rfl, rfl⟩
                        go_wp2_with fail
                        try clear hc11 f17 f18 f19 hc24 f30 f31 f32
                        go_roundg g2
                        case measure => omega
                        case rel => exact ⟨(wrap64 (j9 + 1)), true, rfl, rfl, HW2, HL2⟩
                      · replace HB23 := Lib.hid (ifT rfl HB23.out)
                        obtain rfl := Option.some.inj HB23.out
                        go_wp2_with fail
                        refine HC36.out.mono ?_; rintro e w' ⟨rfl, rfl⟩
                        go_wp2_with fail
                        try clear hc11 f17 f18 f19 hc24 f30 f31 f32
                        go_roundg g2
                        case measure => omega
                        case rel => exact ⟨(wrap64 (j9 + 1)), false, rfl, rfl, HW2, HL2⟩
                · replace HL2 := Lib.hid (ifF hc11 HL2.out)
                  obtain rfl := Option.some.inj HL2.out
                  have hm := HL1.out; try dsimp only at hm
                  replace HL1 := Lib.hid hm; clear hm
                  obtain ⟨b38, hb, hm⟩ := obind HL1.out
                  replace HL1 := Lib.hid hm; have HB39 := Lib.hid hb; clear hm hb
                  cases x7
                  · replace HB39 := Lib.hid (ifF Bool.false_ne_true HB39.out)
                    obtain rfl := Option.some.inj HB39.out
                    replace HL1 := Lib.hid (ifF Bool.false_ne_true HL1.out)
                    go_wp2_with fail
                    try clear hc11
                    go_roundg g1
                    case measure => omega
                    case rel => exact ⟨(wrap64 (j3 + 1)), rfl, HD, HOA, HL1⟩
                  · replace HB39 := Lib.hid (ifT rfl HB39.out)
                    obtain ⟨y40, hy41, hm⟩ := obind HB39.out
                    replace HB39 := Lib.hid hm; clear hm
                    obtain ⟨f42, hy41⟩ := apF_some hy41; subst hy41
                    have hsl43 := fun X : World => run_sliceF (W := X) (cap := cap1) (rdI HD.out HR1.out) HCAP1.out
                    skip
                    have hrd := Lib.hid (rdI HD.out HR1.out)
                    have HF := Lib.hid f42.2; clear f42
                    go_wp2_with (at_builtin; refine hp_apF _ (.tmp 51) (.tmp 53) 43 Tryd.underlying43 (by first | rfl | simp [Region.wanted, yielded]) rfl HOA.out hrd.out rfl rfl HF.out HD.out.size ?_; intro V44 W45 hoa hd)
                    clear hrd HF hsl43
                    try clear hc11
                    replace HOA := Lib.hid hoa; clear hoa
                    replace HD := Lib.hid (HD.out.trans (hd.mono HD.out.size))
                    clear hd
                    obtain ⟨y49, hy47, hm⟩ := obind HB39.out
                    replace HB39 := Lib.hid hm; clear hm
                    obtain ⟨A50, cap51, he, _⟩ := HP.open_I HOA.out (List.Mem.head _)
                    subst he
                    have HC48 := ih W45 cap0 (rdM HD.out HR0.out) cap51 (HP.rd_I HOA.out (List.Mem.head _)) (HP.cap_I HOA.out (List.Mem.head _)) hy47
                    clear hy47
                    replace HC48 := Lib.hid HC48
                    go_wp2_with fail
                    refine HC48.out.mono ?_; rintro e W52 ⟨rfl, hd⟩
                    replace HOA := Lib.hid (HOA.out.below hd)
                    replace HD := Lib.hid (HD.out.trans (hd.mono HD.out.size))
                    clear hd
                    cases y49
                    · replace HB39 := Lib.hid (ifF Bool.false_ne_true HB39.out)
                      obtain rfl := Option.some.inj HB39.out
                      replace HL1 := Lib.hid (ifF Bool.false_ne_true HL1.out)
                      go_wp2_with fail
                      replace HOA := Lib.hid (HOA.out.sub (.cons _ .slnil))
                      go_roundg g1
                      case measure => omega
                      case rel => exact ⟨(wrap64 (j3 + 1)), rfl, HD, HOA, HL1⟩
                    · replace HB39 := Lib.hid (ifT rfl HB39.out)
                      obtain rfl := Option.some.inj HB39.out
                      replace HL1 := Lib.hid (ifT rfl HL1.out)
                      obtain rfl := Option.some.inj HL1.out
                      have hm := HM.out; try dsimp only at hm
                      replace HM := Lib.hid hm; clear hm
                      obtain rfl := Option.some.inj HM.out
                      go_wp2_with fail
                      go_ret
                      exact ⟨rfl, HD.out⟩
          · replace HL1 := Lib.hid (ifF hc5 HL1.out)
            obtain rfl := Option.some.inj HL1.out
            have hm := HM.out; try dsimp only at hm
            replace HM := Lib.hid hm; clear hm
            obtain rfl := Option.some.inj HM.out
            go_wp2_with fail
            try clear hc5
            go_ret
            exact ⟨rfl, HD.out⟩
def color_Least_L1 (F : Nat) (v5 : List Nat) : Nat → (Int) → Option (Int)
  | 0, _ => none
  | g+1, v6 => (color_can F F (v5) ([]) (v6)).bind fun y3 => if y3 = true then some (v6) else color_Least_L1 F v5 g ((wrap64 (v6 + 1)))
theorem color_Least_L1_0 (F : Nat) (v5 : List Nat) (v6 : Int) : color_Least_L1 F v5 0 v6 = none := by rw [color_Least_L1]
theorem color_Least_L1_s (F g : Nat) (v5 : List Nat) (v6 : Int) : color_Least_L1 F v5 (g+1) v6 = ((color_can F F (v5) ([]) (v6)).bind fun y3 => if y3 = true then some (v6) else color_Least_L1 F v5 g ((wrap64 (v6 + 1)))) := by rw [color_Least_L1]
def color_Least (F : Nat) (v0 : Int) (v1 : List (Int × Int)) : Option (Int × Int) := (mCheck (v0) (v1)).bind fun y1 => (if (y1 != 0) = true then some ((0, y1)) else (mBeside (v0) (v1)).bind fun y2 => (color_Least_L1 F (y2) F (1)).bind fun o4 => some ((o4, 0)))
set_option maxRecDepth 100000 in
set_option maxHeartbeats 1000000 in
theorem color_Least_ok {F : Nat} {v0 : Int} {v1 : List (Int × Int)} {A1 : Option Addr} {r : Int × Int} (w : World) (cap1 : Nat) (hr1 : ReadsL w w.heap.size A1 v1) (h : color_Least F v0 v1 = some r) :
    Calls Tryd.prog 14 #[.int .i64 v0, .slice A1 v1.length cap1] w fun e w' => e = .returned (.tuple #[(.int .i64 r.1), (errV 59 r.2)]) ∧ Below w.heap.size w w' := by
  have HR1 := Lib.hid hr1; clear hr1
  have HD := Lib.hid (Below.refl w.heap.size w)
  have HOA := Lib.hid (HP.nil (W := w) (B := w.heap.size))
  unfold color_Least at h
  have HM := Lib.hid h; clear h
  go_enter Tryd.func14, Tryd.ntmps14
  obtain ⟨y3, hy1, hm⟩ := obind HM.out
  replace HM := Lib.hid hm; clear hm
  have HC2 := mCheck_ok w cap1 (rdL HD.out HR1.out) hy1
  clear hy1
  by_cases hz4 : y3 = 0
  · subst hz4
    rw [errV_zero] at HC2; replace HC2 := Lib.hid HC2
    go_wp2_with fail
    refine HC2.out.mono ?_; rintro e W5 ⟨rfl, hd⟩
    replace HOA := Lib.hid (HOA.out.below hd)
    replace HD := Lib.hid (HD.out.trans (hd.mono HD.out.size))
    clear hd
    replace HM := Lib.hid (ifF (by decide) HM.out)
    obtain ⟨y10, hy8, hm⟩ := obind HM.out
    replace HM := Lib.hid hm; clear hm
    have HC9 := mBeside_ok W5 cap1 (rdL HD.out HR1.out) hy8
    clear hy8
    replace HC9 := Lib.hid HC9
    go_wp2_with fail
    refine HC9.out.mono ?_; rintro e W11 ⟨V12, rfl, ho, hd⟩
    replace HOA := Lib.hid (HOA.out.call hd HD.out.size ho); clear ho
    replace HD := Lib.hid (HD.out.trans (hd.mono HD.out.size))
    clear hd
    go_wp2_with fail
    obtain ⟨o14, ho, hm⟩ := obind HM.out
    replace HM := Lib.hid hm; have HL1 := Lib.hid ho; clear hm ho
    go_loopg [8] F (fun gg u16 wr => ∃ (x15 : Int), u16 = .int .i64 x15 ∧ Hid (Below W11.heap.size W11 wr) ∧ Hid (color_Least_L1 F (y10) gg x15 = some o14))
    case atStart => exact ⟨1, rfl, (Lib.hid (Below.refl _ _)), HL1⟩
    case round =>
      obtain ⟨x15, rfl, HW1, HL1⟩ := hrel
      rename World => W17
      have hd := HW1.out
      replace HOA := Lib.hid (HOA.out.below hd)
      replace HD := Lib.hid (HD.out.trans (hd.mono HD.out.size))
      clear hd
      cases gk with
      | zero => exact absurd ((color_Least_L1_0 ..).symm.trans HL1.out) (by intro h; cases h)
      | succ g1 =>
        replace HL1 := Lib.hid ((color_Least_L1_s ..).symm.trans HL1.out)
        obtain ⟨y20, hy18, hm⟩ := obind HL1.out
        replace HL1 := Lib.hid hm; clear hm
        obtain ⟨A21, cap22, he, _⟩ := HP.open_M HOA.out (List.Mem.head _)
        subst he
        have HC19 := color_can_ok _ W17 cap22 (HP.rd_M HOA.out (List.Mem.head _)) 0 (readsI_nil (A := none)) (Nat.le_refl 0) hy18
        clear hy18
        replace HC19 := Lib.hid HC19
        go_wp2_with fail
        refine HC19.out.mono ?_; rintro e W23 ⟨rfl, hd⟩
        replace HOA := Lib.hid (HOA.out.below hd)
        replace HD := Lib.hid (HD.out.trans (hd.mono HD.out.size))
        replace HW1 := Lib.hid (HW1.out.trans (hd.mono HW1.out.size))
        clear hd
        cases y20
        · replace HL1 := Lib.hid (ifF Bool.false_ne_true HL1.out)
          go_wp2_with fail
          go_roundg g1
          case measure => omega
          case rel => exact ⟨(wrap64 (x15 + 1)), rfl, HW1, HL1⟩
        · replace HL1 := Lib.hid (ifT rfl HL1.out)
          obtain rfl := Option.some.inj HL1.out
          have hm := HM.out; try dsimp only at hm
          replace HM := Lib.hid hm; clear hm
          obtain rfl := Option.some.inj HM.out
          go_wp2_with fail
          go_ret2
          exact ⟨rfl, HD.out⟩
  · rw [errV_pos _ hz4] at HC2; replace HC2 := Lib.hid HC2
    go_wp2_with fail
    refine HC2.out.mono ?_; rintro e W6 ⟨rfl, hd⟩
    replace HOA := Lib.hid (HOA.out.below hd)
    replace HD := Lib.hid (HD.out.trans (hd.mono HD.out.size))
    clear hd
    have HZ7 := Lib.hid hz4; clear hz4
    replace HM := Lib.hid (ifT (bne_iff_ne.2 HZ7.out) HM.out)
    obtain rfl := Option.some.inj HM.out
    go_wp2_with fail
    go_ret2
    exact ⟨(by first | (rw [errV_pos _ HZ7.out]; rfl) | rw [errV_pos _ HZ7.out]), HD.out⟩
end Go.Proofs.YtpcmofhmhggcoaaDoor
