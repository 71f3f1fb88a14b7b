import Derived.Test.YtfokhmkimckdnaaGR
import Derived.Test.YtfokhmkimckdnaaBox
import Derived.Test.YtfokhmkimckdnaaTCk
set_option linter.all false
set_option maxRecDepth 100000
namespace Go.Proofs.Ytfokhmkimckdnaa
open Go.RowKit
attribute [local go_sem] Oper.semAt_some
def common_Ups_L1 (F : Nat) (v1 : List (Int × Int)) (v6 : List Int) : Nat → (Int) → (List Int) → Option (List Int)
  | 0, _, _ => none
  | g+1, j, v8 => if j < ((v1).length : Int) then (ix v1 j).bind fun y => ((ix v6 y.1).bind fun y6 => (ix v6 y.2).bind fun y7 => if y6 < y7 then (st v8 y.2 y.1).bind fun y8 => common_Ups_L1 F v1 v6 g (wrap64 (j + 1)) (y8) else (st v8 y.1 y.2).bind fun y9 => common_Ups_L1 F v1 v6 g (wrap64 (j + 1)) (y9)) else some (v8)
theorem common_Ups_L1_0 (F : Nat) (v1 : List (Int × Int)) (v6 : List Int) (v8 : List Int) (j : Int) : common_Ups_L1 F v1 v6 0 j v8 = none := by rw [common_Ups_L1]
theorem common_Ups_L1_s (F g : Nat) (v1 : List (Int × Int)) (v6 : List Int) (v8 : List Int) (j : Int) : common_Ups_L1 F v1 v6 (g+1) j v8 = (if j < ((v1).length : Int) then (ix v1 j).bind fun y => ((ix v6 y.1).bind fun y6 => (ix v6 y.2).bind fun y7 => if y6 < y7 then (st v8 y.2 y.1).bind fun y8 => common_Ups_L1 F v1 v6 g (wrap64 (j + 1)) (y8) else (st v8 y.1 y.2).bind fun y9 => common_Ups_L1 F v1 v6 g (wrap64 (j + 1)) (y9)) else some (v8)) := by rw [common_Ups_L1]
def common_Ups (F : Nat) (v0 : Int) (v1 : List (Int × Int)) (v2 : Int) : Option (List Int × Int) := (tree_Check F (v0) (v1)).bind fun y1 => (if (y1 != 0) = true then some (([], y1)) else ((core_Within F (v2) (0) ((wrap64 (v0 - 1)))).bind fun y2 => if y2 = true then (walk_From F (v0) (v1) (v2)).bind fun y3 => (if (y3.2 != 0) = true then some (([], y3.2)) else (mkI v0).bind fun y4 => (st y4 v2 (-1)).bind fun y5 => (common_Ups_L1 F (v1) (y3.1) F (0) (y5)).bind fun o10 => some ((o10, 0))) else some (([], 1))))
set_option maxRecDepth 100000 in
set_option maxHeartbeats 4000000 in
theorem common_Ups_ok {F : Nat} {v0 : Int} {v1 : List (Int × Int)} {A1 : Option Addr} {v2 : Int} {r : List Int × Int} (w : World) (cap1 : Nat) (hr1 : ReadsL w w.heap.size A1 v1) (h : common_Ups F v0 v1 v2 = some r) :
    Calls Try.prog 14 #[.int .i64 v0, .slice A1 v1.length cap1, .int .i64 v2] w (PostG (fun v => (.tuple #[v, (errV 42 r.2)])) (fun v => owI v r.1) w.heap.size w) := by
  have HR1 := Lib.hid hr1; clear hr1
  have HD := Lib.hid (Below.refl w.heap.size w)
  have HOA := Lib.hid (HP.nil (W := w) (B := w.heap.size))
  unfold common_Ups at h
  have HM := Lib.hid h; clear h
  go_enter Try.func14, Try.ntmps14
  obtain ⟨y3, hy1, hm⟩ := obind HM.out
  replace HM := Lib.hid hm; clear hm
  have HC2 := tree_Check_ok w cap1 (rdL HD.out HR1.out) hy1
  clear hy1
  by_cases hz4 : y3 = 0
  · subst hz4
    rw [errV_zero] at HC2; replace HC2 := Lib.hid HC2
    go_wp2_with fail
    refine HC2.out.mono ?_; rintro e W5 ⟨rfl, hd⟩
    replace HOA := Lib.hid (HOA.out.below hd)
    replace HD := Lib.hid (HD.out.trans (hd.mono HD.out.size))
    clear hd
    replace HM := Lib.hid (ifF (by decide) HM.out)
    obtain ⟨y10, hy8, hm⟩ := obind HM.out
    replace HM := Lib.hid hm; clear hm
    have HC9 := core_Within_ok W5  hy8
    clear hy8
    replace HC9 := Lib.hid HC9
    cases y10
    · replace HM := Lib.hid (ifF Bool.false_ne_true HM.out)
      obtain rfl := Option.some.inj HM.out
      go_wp2_with fail
      refine HC9.out.mono ?_; rintro e w' ⟨rfl, rfl⟩
      go_wp2_with fail
      go_ret2
      exact ⟨_, rfl, World.ownsRow_nil _ _ _ _, HD.out⟩
    · replace HM := Lib.hid (ifT rfl HM.out)
      obtain ⟨⟨y13, y14⟩, hy11, hm⟩ := obind HM.out
      dsimp only at hm
      replace HM := Lib.hid hm; clear hm
      have HC12 := walk_From_ok W5 cap1 (rdL HD.out HR1.out) hy11
      clear hy11
      by_cases hz15 : y14 = 0
      · subst hz15
        rw [errV_zero] at HC12; replace HC12 := Lib.hid HC12
        go_wp2_with fail
        refine HC9.out.mono ?_; rintro e w' ⟨rfl, rfl⟩
        go_wp2_with fail
        refine HC12.out.mono ?_; rintro e W16 ⟨V17, rfl, ho, hd⟩
        replace HOA := Lib.hid (HOA.out.call hd HD.out.size ho); clear ho
        replace HD := Lib.hid (HD.out.trans (hd.mono HD.out.size))
        clear hd
        replace HM := Lib.hid (ifF (by decide) HM.out)
        obtain ⟨y23, hy24, hm⟩ := obind HM.out
        replace HM := Lib.hid hm; clear hm
        obtain ⟨f25, hy24⟩ := mkI_some hy24
        obtain ⟨N29, hN30⟩ : ∃ N, Int.toNat v0 = N := ⟨_, rfl⟩
        rw [hN30] at hy24; subst hy24
        have hmk26 := run_makeI f25; simp only [hN30] at hmk26
        have hd : Below W16.heap.size W16 (W16.alloc (.cells (Array.replicate N29 (Value.int .i64 0)) 3)) := (Below.refl _ _).alloc (Nat.le_refl _) _
        have ho := mkI_ok W16 f25; rw [hN30] at ho; clear hN30
        go_upto_region 10 with (fail)
        generalize hW : World.alloc W16 _ = W27 at *
        clear hW hmk26 f25
        replace HOA := Lib.hid (HOA.out.call hd HD.out.size ho); clear ho
        replace HD := Lib.hid (HD.out.trans (hd.mono HD.out.size))
        clear hd
        obtain ⟨y33, hy32, hm⟩ := obind HM.out
        replace HM := Lib.hid hm; clear hm
        obtain ⟨f34, hy32⟩ := st_some hy32; subst hy32
        obtain ⟨g40, ea, f37, ⟨ux39, f38⟩, hp, hb⟩ := HP.setI (x := (-1)) (its1 := []) HOA.out f34
        cases ea
        obtain ⟨q0, q1⟩ := f34
        try rw [← HP.len_I HOA.out (List.Mem.head _)] at q1
        have HP_ := Lib.hid hp; have HB_ := Lib.hid hb; clear hp hb
        go_upto_region 11 with (fail)
        have hp := HP_.out; have hb := HB_.out; clear HP_ HB_
        generalize hW : World.setCell W27 _ _ = W31 at *
        clear hW
        try clear f37 f38 q0 q1
        replace HOA := Lib.hid (show HP W31 w.heap.size [.fl (owI (.slice (some ⟨W16.heap.size, 0, none⟩) N29 N29) ((List.set (List.replicate N29 0) (Int.toNat v2) (-1)))), .fl (owI V17 (y13))] from hp); clear hp
        replace HD := Lib.hid (HD.out.trans hb); clear hb
        go_wp2_with fail
        obtain ⟨o44, ho, hm⟩ := obind HM.out
        replace HM := Lib.hid hm; have HL1 := Lib.hid ho; clear hm ho
        go_loopg [43] F (fun gg uj wr => ∃ (j46 : Int) (x45 : List Int), uj = .int .i64 j46 ∧ Hid (Below w.heap.size w wr) ∧ Hid (HP wr w.heap.size [.fl (owI (.slice (some ⟨W16.heap.size, 0, none⟩) N29 N29) (x45)), .fl (owI V17 (y13))]) ∧ Hid (common_Ups_L1 F (v1) (y13) gg j46 x45 = some o44))
        case atStart => exact ⟨0, (List.set (List.replicate N29 0) (Int.toNat v2) (-1)), rfl, HD, HOA, HL1⟩
        case round =>
          obtain ⟨j46, x45, rfl, HD, HOA, HL1⟩ := hrel
          rename World => W47
          cases gk with
          | zero => exact absurd ((common_Ups_L1_0 ..).symm.trans HL1.out) (by intro h; cases h)
          | succ g1 =>
            replace HL1 := Lib.hid ((common_Ups_L1_s ..).symm.trans HL1.out)
            by_cases hc48 : j46 < ((v1).length : Int)
            · replace HL1 := Lib.hid (ifT hc48 HL1.out)
              have HK49 := Lib.hid hc48
              obtain ⟨y50, hy51, hm⟩ := obind HL1.out
              replace HL1 := Lib.hid hm; clear hm
              obtain ⟨b52, o53, ea54, _, f55, f56, f57, f58⟩ := ReadsL.ix (rdL HD.out HR1.out) hy51
              cases ea54
              try simp only [Nat.zero_add, Nat.add_zero, Int.toNat_natCast, Int.toNat_zero, Int.toNat_one] at f57 f58
              have HY59 := Lib.hid hy51; clear hy51
              go_upto_region 14 with (fail)
              have hd : Below W47.heap.size W47 (W47.alloc (.cells #[Value.int .i64 y50.1, Value.int .i64 y50.2] 40)) := (Below.refl _ _).alloc (Nat.le_refl _) _
              have ho := boxRL W47 y50
              generalize hW : World.alloc W47 _ = W60 at *
              clear hW
              try clear hc48 f55 f56 f57 f58
              replace HOA := Lib.hid (HOA.out.call hd HD.out.size ho); clear ho
              replace HD := Lib.hid (HD.out.trans (hd.mono HD.out.size))
              clear hd
              try go_wp2_with fail
              obtain ⟨f63, f64⟩ := boxL (HP.rd_L HOA.out (List.Mem.head _))
              obtain ⟨A67, cap68, he, _⟩ := HP.open_I HOA.out (List.Mem.tail _ (List.Mem.tail _ (List.Mem.head _)))
              subst he
              obtain ⟨y65, hy66, hm⟩ := obind HL1.out
              replace HL1 := Lib.hid hm; clear hm
              obtain ⟨b69, o70, ea71, _, f72, f73, f74⟩ := ReadsI.ix (HP.rd_I HOA.out (List.Mem.tail _ (List.Mem.tail _ (List.Mem.head _)))) hy66
              cases ea71
              try simp only [Nat.zero_add, Nat.add_zero, Int.toNat_natCast, Int.toNat_zero, Int.toNat_one] at f74
              try rw [← HP.len_I HOA.out (List.Mem.tail _ (List.Mem.tail _ (List.Mem.head _)))] at f73
              have HY76 := Lib.hid hy66; clear hy66
              obtain ⟨y77, hy78, hm⟩ := obind HL1.out
              replace HL1 := Lib.hid hm; clear hm
              obtain ⟨b79, o80, ea81, _, f82, f83, f84⟩ := ReadsI.ix (HP.rd_I HOA.out (List.Mem.tail _ (List.Mem.tail _ (List.Mem.head _)))) hy78
              cases ea81
              try simp only [Nat.zero_add, Nat.add_zero, Int.toNat_natCast, Int.toNat_zero, Int.toNat_one] at f84
              try rw [← HP.len_I HOA.out (List.Mem.tail _ (List.Mem.tail _ (List.Mem.head _)))] at f83
              have HY86 := Lib.hid hy78; clear hy78
              by_cases hc87 : y65 < y77
              · replace HL1 := Lib.hid (ifT hc87 HL1.out)
                have HK88 := Lib.hid hc87
                go_quiet (fail)
                generalize hW : World.drewN W60 _ = W89
                have hd : Dr W60 W89 := ⟨_, hW.symm⟩
                clear hW
                try clear f63 f64 f72 f73 f74 f82 f83 f84 hc87
                replace HOA := Lib.hid (HOA.out.below (hd.below _))
                replace HD := Lib.hid (HD.out.trans ((hd.below _).mono HD.out.size))
                clear hd
                obtain ⟨f90, f91⟩ := boxL (HP.rd_L HOA.out (List.Mem.head _))
                obtain ⟨y94, hy93, hm⟩ := obind HL1.out
                replace HL1 := Lib.hid hm; clear hm
                obtain ⟨f95, hy93⟩ := st_some hy93; subst hy93
                obtain ⟨g101, ea, f98, ⟨ux100, f99⟩, hp, hb⟩ := HP.setI (x := y50.1) (its1 := [_]) HOA.out f95
                cases ea
                obtain ⟨q0, q1⟩ := f95
                try rw [← HP.len_I HOA.out (List.Mem.tail _ (List.Mem.head _))] at q1
                have HP_ := Lib.hid hp; have HB_ := Lib.hid hb; clear hp hb
                go_wp2_with fail
                have hp := HP_.out; have hb := HB_.out; clear HP_ HB_
                generalize hW : World.setCell W89 _ _ = W92 at *
                clear hW
                try clear f98 f99 q0 q1 f90 f91
                replace HOA := Lib.hid (show HP W92 w.heap.size [.fl (owL (.slice (some ⟨W47.heap.size, 0, none⟩) 1 1) ([y50])), .fl (owI (.slice (some ⟨W16.heap.size, 0, none⟩) N29 N29) ((List.set x45 (Int.toNat y50.2) y50.1))), .fl (owI (.slice (some ⟨b69, o70, none⟩) (y13).length cap68) (y13))] from hp); clear hp
                replace HD := Lib.hid (HD.out.trans hb); clear hb
                go_wp2_with fail
                replace HOA := Lib.hid (HOA.out.sub (.cons _ (.cons₂ _ (.cons₂ _ .slnil))))
                go_roundg g1
                case measure => omega
                case rel => exact ⟨(wrap64 (j46 + 1)), (List.set x45 (Int.toNat y50.2) y50.1), rfl, HD, HOA, HL1⟩
              · replace HL1 := Lib.hid (ifF hc87 HL1.out)
                have hc87d := decide_eq_false hc87
                have HK88 := Lib.hid hc87
                go_quiet (fail)
                generalize hW : World.drewN W60 _ = W105
                have hd : Dr W60 W105 := ⟨_, hW.symm⟩
                clear hW
                try clear f63 f64 f72 f73 f74 f82 f83 f84 hc87 hc87d
                replace HOA := Lib.hid (HOA.out.below (hd.below _))
                replace HD := Lib.hid (HD.out.trans ((hd.below _).mono HD.out.size))
                clear hd
                obtain ⟨f106, f107⟩ := boxL (HP.rd_L HOA.out (List.Mem.head _))
                obtain ⟨y110, hy109, hm⟩ := obind HL1.out
                replace HL1 := Lib.hid hm; clear hm
                obtain ⟨f111, hy109⟩ := st_some hy109; subst hy109
                obtain ⟨g117, ea, f114, ⟨ux116, f115⟩, hp, hb⟩ := HP.setI (x := y50.2) (its1 := [_]) HOA.out f111
                cases ea
                obtain ⟨q0, q1⟩ := f111
                try rw [← HP.len_I HOA.out (List.Mem.tail _ (List.Mem.head _))] at q1
                have HP_ := Lib.hid hp; have HB_ := Lib.hid hb; clear hp hb
                go_wp2_with fail
                have hp := HP_.out; have hb := HB_.out; clear HP_ HB_
                generalize hW : World.setCell W105 _ _ = W108 at *
                clear hW
                try clear f114 f115 q0 q1 f106 f107
                replace HOA := Lib.hid (show HP W108 w.heap.size [.fl (owL (.slice (some ⟨W47.heap.size, 0, none⟩) 1 1) ([y50])), .fl (owI (.slice (some ⟨W16.heap.size, 0, none⟩) N29 N29) ((List.set x45 (Int.toNat y50.1) y50.2))), .fl (owI (.slice (some ⟨b69, o70, none⟩) (y13).length cap68) (y13))] from hp); clear hp
                replace HD := Lib.hid (HD.out.trans hb); clear hb
                go_wp2_with fail
                replace HOA := Lib.hid (HOA.out.sub (.cons _ (.cons₂ _ (.cons₂ _ .slnil))))
                go_roundg g1
                case measure => omega
                case rel => exact ⟨(wrap64 (j46 + 1)), (List.set x45 (Int.toNat y50.1) y50.2), rfl, HD, HOA, HL1⟩
            · replace HL1 := Lib.hid (ifF hc48 HL1.out)
              have hc48d := decide_eq_false hc48
              have HK49 := Lib.hid hc48
              obtain rfl := Option.some.inj HL1.out
              have hm := HM.out; try dsimp only at hm
              replace HM := Lib.hid hm; clear hm
              obtain rfl := Option.some.inj HM.out
              go_wp2_with fail
              try clear hc48 hc48d
              go_ret2
              exact ⟨_, rfl, HOA.out.get (List.Mem.head _), HD.out⟩
      · rw [errV_pos _ hz15] at HC12; replace HC12 := Lib.hid HC12
        go_wp2_with fail
        refine HC9.out.mono ?_; rintro e w' ⟨rfl, rfl⟩
        go_wp2_with fail
        refine HC12.out.mono ?_; rintro e W19 ⟨V20, rfl, ho, hd⟩
        replace HOA := Lib.hid (HOA.out.call hd HD.out.size ho); clear ho
        replace HD := Lib.hid (HD.out.trans (hd.mono HD.out.size))
        clear hd
        have HZ22 := Lib.hid hz15; clear hz15
        replace HM := Lib.hid (ifT (bne_iff_ne.2 HZ22.out) HM.out)
        obtain rfl := Option.some.inj HM.out
        go_wp2_with fail
        go_ret2
        exact ⟨_, (by first | (rw [errV_pos _ HZ22.out]; rfl) | rw [errV_pos _ HZ22.out]), World.ownsRow_nil _ _ _ _, HD.out⟩
  · rw [errV_pos _ hz4] at HC2; replace HC2 := Lib.hid HC2
    go_wp2_with fail
    refine HC2.out.mono ?_; rintro e W6 ⟨rfl, hd⟩
    replace HOA := Lib.hid (HOA.out.below hd)
    replace HD := Lib.hid (HD.out.trans (hd.mono HD.out.size))
    clear hd
    have HZ7 := Lib.hid hz4; clear hz4
    replace HM := Lib.hid (ifT (bne_iff_ne.2 HZ7.out) HM.out)
    obtain rfl := Option.some.inj HM.out
    go_wp2_with fail
    go_ret2
    exact ⟨_, (by first | (rw [errV_pos _ HZ7.out]; rfl) | rw [errV_pos _ HZ7.out]), World.ownsRow_nil _ _ _ _, HD.out⟩
def common_Of_L1 (F : Nat) (v7 : List Int) : Nat → (Nat) → (Int) → Option (Nat × Int)
  | 0, _, _ => none
  | g+1, v9, v10 => if 0 ≤ v10 then (sWith (v9) (v10)).bind fun y3 => (ix v7 v10).bind fun y4 => common_Of_L1 F v7 g (y3) (y4) else some (v9, v10)
theorem common_Of_L1_0 (F : Nat) (v7 : List Int) (v9 : Nat) (v10 : Int) : common_Of_L1 F v7 0 v9 v10 = none := by rw [common_Of_L1]
theorem common_Of_L1_s (F g : Nat) (v7 : List Int) (v9 : Nat) (v10 : Int) : common_Of_L1 F v7 (g+1) v9 v10 = (if 0 ≤ v10 then (sWith (v9) (v10)).bind fun y3 => (ix v7 v10).bind fun y4 => common_Of_L1 F v7 g (y3) (y4) else some (v9, v10)) := by rw [common_Of_L1]
def common_Of_L2 (F : Nat) (v7 : List Int) (v9 : Nat) : Nat → (Int) → Option (Int)
  | 0, _ => none
  | g+1, v4 => (sHas (v9) (v4)).bind fun y6 => if y6 = true then some (v4) else (ix v7 v4).bind fun y7 => common_Of_L2 F v7 v9 g (y7)
theorem common_Of_L2_0 (F : Nat) (v7 : List Int) (v9 : Nat) (v4 : Int) : common_Of_L2 F v7 v9 0 v4 = none := by rw [common_Of_L2]
theorem common_Of_L2_s (F g : Nat) (v7 : List Int) (v9 : Nat) (v4 : Int) : common_Of_L2 F v7 v9 (g+1) v4 = ((sHas (v9) (v4)).bind fun y6 => if y6 = true then some (v4) else (ix v7 v4).bind fun y7 => common_Of_L2 F v7 v9 g (y7)) := by rw [common_Of_L2]
def common_Of (F : Nat) (v0 : Int) (v1 : List (Int × Int)) (v2 : Int) (v3 : Int) (v4 : Int) : Option (Int × Int) := (common_Ups F (v0) (v1) (v2)).bind fun y1 => (if (y1.2 != 0) = true then some ((0, y1.2)) else ((core_All F ([v3, v4]) (0) ((wrap64 (v0 - 1)))).bind fun y2 => if y2 = true then (common_Of_L1 F (y1.1) F (0) (v3)).bind fun o5 => (common_Of_L2 F (y1.1) (o5.1) F (v4)).bind fun o8 => some ((o8, 0)) else some ((0, 1))))
set_option maxRecDepth 100000 in
set_option maxHeartbeats 4000000 in
theorem common_Of_ok {F : Nat} {v0 : Int} {v1 : List (Int × Int)} {A1 : Option Addr} {v2 : Int} {v3 : Int} {v4 : Int} {r : Int × Int} (w : World) (cap1 : Nat) (hr1 : ReadsL w w.heap.size A1 v1) (h : common_Of F v0 v1 v2 v3 v4 = some r) :
    Calls Try.prog 7 #[.int .i64 v0, .slice A1 v1.length cap1, .int .i64 v2, .int .i64 v3, .int .i64 v4] w fun e w' => e = .returned (.tuple #[(.int .i64 r.1), (errV 42 r.2)]) ∧ Below w.heap.size w w' := by
  have HR1 := Lib.hid hr1; clear hr1
  have HD := Lib.hid (Below.refl w.heap.size w)
  have HOA := Lib.hid (HP.nil (W := w) (B := w.heap.size))
  unfold common_Of at h
  have HM := Lib.hid h; clear h
  go_enter Try.func7, Try.ntmps7
  obtain ⟨⟨y3, y4⟩, hy1, hm⟩ := obind HM.out
  dsimp only at hm
  replace HM := Lib.hid hm; clear hm
  have HC2 := common_Ups_ok w cap1 (rdL HD.out HR1.out) hy1
  clear hy1
  by_cases hz5 : y4 = 0
  · subst hz5
    rw [errV_zero] at HC2; replace HC2 := Lib.hid HC2
    go_wp2_with fail
    refine HC2.out.mono ?_; rintro e W6 ⟨V7, rfl, ho, hd⟩
    replace HOA := Lib.hid (HOA.out.call hd HD.out.size ho); clear ho
    replace HD := Lib.hid (HD.out.trans (hd.mono HD.out.size))
    clear hd
    replace HM := Lib.hid (ifF (by decide) HM.out)
    have hd : Below W6.heap.size W6 (World.alloc W6 (.cells #[Value.int .i64 (v3), Value.int .i64 (v4)] 3)) := (Below.refl _ _).alloc (Nat.le_refl _) _
    have ho : (owI (.slice (some ⟨W6.heap.size, 0, none⟩) 2 2) [v3, v4]).ok (World.alloc W6 (.cells #[Value.int .i64 (v3), Value.int .i64 (v4)] 3)) W6.heap.size := litI_ok W6 [v3, v4] (by unfold maxLen; simp)
    replace HOA := Lib.hid (HOA.out.call hd HD.out.size ho); clear ho
    replace HD := Lib.hid (HD.out.trans (hd.mono HD.out.size))
    clear hd
    obtain ⟨y17, hy15, hm⟩ := obind HM.out
    replace HM := Lib.hid hm; clear hm
    have HC16 := core_All_ok (World.alloc W6 (.cells #[Value.int .i64 (v3), Value.int .i64 (v4)] 3)) 2 (HP.rd_I HOA.out (List.Mem.head _)) hy15
    clear hy15
    replace HC16 := Lib.hid HC16
    go_wp2_with fail
    refine HC16.out.mono ?_; rintro e w' ⟨rfl, rfl⟩
    generalize hW : World.alloc W6 _ = W13 at *
    clear hW
    cases y17
    · replace HM := Lib.hid (ifF Bool.false_ne_true HM.out)
      obtain rfl := Option.some.inj HM.out
      go_wp2_with fail
      go_ret2
      exact ⟨rfl, HD.out⟩
    · replace HM := Lib.hid (ifT rfl HM.out)
      go_wp2_with fail
      obtain ⟨o18, ho, hm⟩ := obind HM.out
      replace HM := Lib.hid hm; have HL1 := Lib.hid ho; clear hm ho
      go_loopg [14, 15] F (fun gg ux21 ux22 wr => ∃ (x19 : Nat) (x20 : Int), ux21 = .int .u64 ((x19 : Nat) : Int) ∧ ux22 = .int .i64 x20 ∧ Hid (Below W13.heap.size W13 wr) ∧ Hid (common_Of_L1 F (y3) gg x19 x20 = some o18))
      case atStart => exact ⟨0, v3, rfl, rfl, (Lib.hid (Below.refl _ _)), HL1⟩
      case round =>
        obtain ⟨x19, x20, rfl, rfl, HW1, HL1⟩ := hrel
        rename World => W23
        have hd := HW1.out
        replace HOA := Lib.hid (HOA.out.below hd)
        replace HD := Lib.hid (HD.out.trans (hd.mono HD.out.size))
        clear hd
        cases gk with
        | zero => exact absurd ((common_Of_L1_0 ..).symm.trans HL1.out) (by intro h; cases h)
        | succ g1 =>
          replace HL1 := Lib.hid ((common_Of_L1_s ..).symm.trans HL1.out)
          by_cases hc24 : 0 ≤ x20
          · replace HL1 := Lib.hid (ifT hc24 HL1.out)
            have HK25 := Lib.hid hc24
            obtain ⟨y28, hy26, hm⟩ := obind HL1.out
            replace HL1 := Lib.hid hm; clear hm
            have HC27 := sWith_ok W23  hy26
            clear hy26
            replace HC27 := Lib.hid HC27
            obtain ⟨A31, cap32, he, _⟩ := HP.open_I HOA.out (List.Mem.tail _ (List.Mem.head _))
            subst he
            obtain ⟨y29, hy30, hm⟩ := obind HL1.out
            replace HL1 := Lib.hid hm; clear hm
            obtain ⟨b33, o34, ea35, _, f36, f37, f38⟩ := ReadsI.ix (HP.rd_I HOA.out (List.Mem.tail _ (List.Mem.head _))) hy30
            cases ea35
            try simp only [Nat.zero_add, Nat.add_zero, Int.toNat_natCast, Int.toNat_zero, Int.toNat_one] at f38
            try rw [← HP.len_I HOA.out (List.Mem.tail _ (List.Mem.head _))] at f37
            have HY40 := Lib.hid hy30; clear hy30
            go_wp2_with fail
            refine HC27.out.mono ?_; rintro e w' ⟨rfl, rfl⟩
            go_wp2_with fail
            try clear hc24 f36 f37 f38
            go_roundg g1
            case measure => omega
            case rel => exact ⟨y28, y29, rfl, rfl, HW1, HL1⟩
          · replace HL1 := Lib.hid (ifF hc24 HL1.out)
            have hc24d := decide_eq_false hc24
            have HK25 := Lib.hid hc24
            obtain rfl := Option.some.inj HL1.out
            have hm := HM.out; try dsimp only at hm
            replace HM := Lib.hid hm; clear hm
            go_wp2_with fail
            try clear hc24 hc24d
            obtain ⟨o41, ho, hm⟩ := obind HM.out
            replace HM := Lib.hid hm; have HL2 := Lib.hid ho; clear hm ho
            go_loopg [4] F (fun gg ux43 wr => ∃ (x42 : Int), ux43 = .int .i64 x42 ∧ Hid (Below W23.heap.size W23 wr) ∧ Hid (common_Of_L2 F (y3) (x19) gg x42 = some o41))
            case atStart => exact ⟨v4, rfl, (Lib.hid (Below.refl _ _)), HL2⟩
            case round =>
              obtain ⟨x42, rfl, HW2, HL2⟩ := hrel
              rename World => W44
              have hd := HW2.out
              replace HOA := Lib.hid (HOA.out.below hd)
              replace HD := Lib.hid (HD.out.trans (hd.mono HD.out.size))
              clear hd
              cases gk with
              | zero => exact absurd ((common_Of_L2_0 ..).symm.trans HL2.out) (by intro h; cases h)
              | succ g2 =>
                replace HL2 := Lib.hid ((common_Of_L2_s ..).symm.trans HL2.out)
                obtain ⟨y47, hy45, hm⟩ := obind HL2.out
                replace HL2 := Lib.hid hm; clear hm
                have HC46 := sHas_ok W44  hy45
                clear hy45
                replace HC46 := Lib.hid HC46
                cases y47
                · replace HL2 := Lib.hid (ifF Bool.false_ne_true HL2.out)
                  obtain ⟨A50, cap51, he, _⟩ := HP.open_I HOA.out (List.Mem.tail _ (List.Mem.head _))
                  subst he
                  obtain ⟨y48, hy49, hm⟩ := obind HL2.out
                  replace HL2 := Lib.hid hm; clear hm
                  obtain ⟨b52, o53, ea54, _, f55, f56, f57⟩ := ReadsI.ix (HP.rd_I HOA.out (List.Mem.tail _ (List.Mem.head _))) hy49
                  cases ea54
                  try simp only [Nat.zero_add, Nat.add_zero, Int.toNat_natCast, Int.toNat_zero, Int.toNat_one] at f57
                  try rw [← HP.len_I HOA.out (List.Mem.tail _ (List.Mem.head _))] at f56
                  have HY59 := Lib.hid hy49; clear hy49
                  go_wp2_with fail
                  refine HC46.out.mono ?_; rintro e w' ⟨rfl, rfl⟩
                  go_wp2_with fail
                  try clear f55 f56 f57
                  go_roundg g2
                  case measure => omega
                  case rel => exact ⟨y48, rfl, HW2, HL2⟩
                · replace HL2 := Lib.hid (ifT rfl HL2.out)
                  obtain rfl := Option.some.inj HL2.out
                  have hm := HM.out; try dsimp only at hm
                  replace HM := Lib.hid hm; clear hm
                  obtain rfl := Option.some.inj HM.out
                  go_wp2_with fail
                  refine HC46.out.mono ?_; rintro e w' ⟨rfl, rfl⟩
                  go_wp2_with fail
                  go_ret2
                  exact ⟨rfl, HD.out⟩
  · rw [errV_pos _ hz5] at HC2; replace HC2 := Lib.hid HC2
    go_wp2_with fail
    refine HC2.out.mono ?_; rintro e W9 ⟨V10, rfl, ho, hd⟩
    replace HOA := Lib.hid (HOA.out.call hd HD.out.size ho); clear ho
    replace HD := Lib.hid (HD.out.trans (hd.mono HD.out.size))
    clear hd
    have HZ12 := Lib.hid hz5; clear hz5
    replace HM := Lib.hid (ifT (bne_iff_ne.2 HZ12.out) HM.out)
    obtain rfl := Option.some.inj HM.out
    go_wp2_with fail
    go_ret2
    exact ⟨(by first | (rw [errV_pos _ HZ12.out]; rfl) | rw [errV_pos _ HZ12.out]), HD.out⟩
def common_Way_L1 (F : Nat) (v7 : List Int) : Nat → (List Int) → (Int) → Option (List Int × Int)
  | 0, _, _ => none
  | g+1, v9, v10 => if 0 ≤ v10 then (app v9 v10).bind fun y4 => (ix v7 v10).bind fun y5 => common_Way_L1 F v7 g (y4) (y5) else some (v9, v10)
theorem common_Way_L1_0 (F : Nat) (v7 : List Int) (v9 : List Int) (v10 : Int) : common_Way_L1 F v7 0 v9 v10 = none := by rw [common_Way_L1]
theorem common_Way_L1_s (F g : Nat) (v7 : List Int) (v9 : List Int) (v10 : Int) : common_Way_L1 F v7 (g+1) v9 v10 = (if 0 ≤ v10 then (app v9 v10).bind fun y4 => (ix v7 v10).bind fun y5 => common_Way_L1 F v7 g (y4) (y5) else some (v9, v10)) := by rw [common_Way_L1]
def common_Way (F : Nat) (v0 : Int) (v1 : List (Int × Int)) (v2 : Int) (v3 : Int) : Option (List Int × Int) := (tree_Check F (v0) (v1)).bind fun y1 => (if (y1 != 0) = true then some (([], y1)) else ((core_All F ([v2, v3]) (0) ((wrap64 (v0 - 1)))).bind fun y2 => if y2 = true then (common_Ups F (v0) (v1) (v3)).bind fun y3 => (if (y3.2 != 0) = true then some (([], y3.2)) else (common_Way_L1 F (y3.1) F ([]) (v2)).bind fun o6 => some ((o6.1, 0))) else some (([], 1))))
set_option maxRecDepth 100000 in
set_option maxHeartbeats 4000000 in
theorem common_Way_ok {F : Nat} {v0 : Int} {v1 : List (Int × Int)} {A1 : Option Addr} {v2 : Int} {v3 : Int} {r : List Int × Int} (w : World) (cap1 : Nat) (hr1 : ReadsL w w.heap.size A1 v1) (h : common_Way F v0 v1 v2 v3 = some r) :
    Calls Try.prog 8 #[.int .i64 v0, .slice A1 v1.length cap1, .int .i64 v2, .int .i64 v3] w (PostG (fun v => (.tuple #[v, (errV 42 r.2)])) (fun v => owI v r.1) w.heap.size w) := by
  have HR1 := Lib.hid hr1; clear hr1
  have HD := Lib.hid (Below.refl w.heap.size w)
  have HOA := Lib.hid (HP.nil (W := w) (B := w.heap.size))
  unfold common_Way at h
  have HM := Lib.hid h; clear h
  go_enter Try.func8, Try.ntmps8
  obtain ⟨y3, hy1, hm⟩ := obind HM.out
  replace HM := Lib.hid hm; clear hm
  have HC2 := tree_Check_ok w cap1 (rdL HD.out HR1.out) hy1
  clear hy1
  by_cases hz4 : y3 = 0
  · subst hz4
    rw [errV_zero] at HC2; replace HC2 := Lib.hid HC2
    go_wp2_with fail
    refine HC2.out.mono ?_; rintro e W5 ⟨rfl, hd⟩
    replace HOA := Lib.hid (HOA.out.below hd)
    replace HD := Lib.hid (HD.out.trans (hd.mono HD.out.size))
    clear hd
    replace HM := Lib.hid (ifF (by decide) HM.out)
    have hd : Below W5.heap.size W5 (World.alloc W5 (.cells #[Value.int .i64 (v2), Value.int .i64 (v3)] 3)) := (Below.refl _ _).alloc (Nat.le_refl _) _
    have ho : (owI (.slice (some ⟨W5.heap.size, 0, none⟩) 2 2) [v2, v3]).ok (World.alloc W5 (.cells #[Value.int .i64 (v2), Value.int .i64 (v3)] 3)) W5.heap.size := litI_ok W5 [v2, v3] (by unfold maxLen; simp)
    replace HOA := Lib.hid (HOA.out.call hd HD.out.size ho); clear ho
    replace HD := Lib.hid (HD.out.trans (hd.mono HD.out.size))
    clear hd
    obtain ⟨y12, hy10, hm⟩ := obind HM.out
    replace HM := Lib.hid hm; clear hm
    have HC11 := core_All_ok (World.alloc W5 (.cells #[Value.int .i64 (v2), Value.int .i64 (v3)] 3)) 2 (HP.rd_I HOA.out (List.Mem.head _)) hy10
    clear hy10
    replace HC11 := Lib.hid HC11
    go_wp2_with fail
    refine HC11.out.mono ?_; rintro e w' ⟨rfl, rfl⟩
    generalize hW : World.alloc W5 _ = W8 at *
    clear hW
    cases y12
    · replace HM := Lib.hid (ifF Bool.false_ne_true HM.out)
      obtain rfl := Option.some.inj HM.out
      go_wp2_with fail
      go_ret2
      exact ⟨_, rfl, World.ownsRow_nil _ _ _ _, HD.out⟩
    · replace HM := Lib.hid (ifT rfl HM.out)
      obtain ⟨⟨y15, y16⟩, hy13, hm⟩ := obind HM.out
      dsimp only at hm
      replace HM := Lib.hid hm; clear hm
      have HC14 := common_Ups_ok W8 cap1 (rdL HD.out HR1.out) hy13
      clear hy13
      by_cases hz17 : y16 = 0
      · subst hz17
        rw [errV_zero] at HC14; replace HC14 := Lib.hid HC14
        go_wp2_with fail
        refine HC14.out.mono ?_; rintro e W18 ⟨V19, rfl, ho, hd⟩
        replace HOA := Lib.hid (HOA.out.call hd HD.out.size ho); clear ho
        replace HD := Lib.hid (HD.out.trans (hd.mono HD.out.size))
        clear hd
        replace HM := Lib.hid (ifF (by decide) HM.out)
        replace HOA := Lib.hid (show HP _ _ (.fl (owI (.slice none 0 0) ([])) :: _) from HOA.out.pushNil _ _)
        go_wp2_with fail
        obtain ⟨o26, ho, hm⟩ := obind HM.out
        replace HM := Lib.hid hm; have HL1 := Lib.hid ho; clear hm ho
        replace HOA := Lib.hid (HOA.out.sub (.cons₂ _ (.cons₂ _ (.cons _ .slnil))))
        go_loopg [13, 14] F (fun gg ux29 ux30 wr => ∃ (x27 : List Int) (x28 : Int) (V31 : Value), V31 = ux29 ∧ ux30 = .int .i64 x28 ∧ Hid (Below w.heap.size w wr) ∧ Hid (HP wr w.heap.size [.fl (owI V31 (x27)), .fl (owI V19 (y15))]) ∧ Hid (common_Way_L1 F (y15) gg x27 x28 = some o26))
        case atStart => exact ⟨[], v2, (.slice none 0 0), rfl, rfl, HD, HOA, HL1⟩
        case round =>
          obtain ⟨x27, x28, V31, rfl, rfl, HD, HOA, HL1⟩ := hrel
          rename World => W32
          cases gk with
          | zero => exact absurd ((common_Way_L1_0 ..).symm.trans HL1.out) (by intro h; cases h)
          | succ g1 =>
            replace HL1 := Lib.hid ((common_Way_L1_s ..).symm.trans HL1.out)
            by_cases hc33 : 0 ≤ x28
            · replace HL1 := Lib.hid (ifT hc33 HL1.out)
              have HK34 := Lib.hid hc33
              obtain ⟨y35, hy36, hm⟩ := obind HL1.out
              replace HL1 := Lib.hid hm; clear hm
              obtain ⟨f37, hy36⟩ := app_some hy36; subst hy36
              have HF40 := Lib.hid f37; clear f37
              go_upto_region 12 with (at_builtin; refine hp_appI _ (.tmp 46) (.tmp 48) 28 Try.underlying28 rfl rfl (L1 := []) HOA.out rfl rfl HF40.out HD.out.size ?_; intro V38 W39 hoa hd)
              try clear hc33
              replace HOA := Lib.hid (show HP W39 w.heap.size [.fl (owI V38 ((x27 ++ [x28]))), .fl (owI V19 (y15))] from hoa); clear hoa
              replace HD := Lib.hid (HD.out.trans hd); clear hd
              obtain ⟨A43, cap44, he, _⟩ := HP.open_I HOA.out (List.Mem.tail _ (List.Mem.head _))
              subst he
              obtain ⟨y41, hy42, hm⟩ := obind HL1.out
              replace HL1 := Lib.hid hm; clear hm
              obtain ⟨b45, o46, ea47, _, f48, f49, f50⟩ := ReadsI.ix (HP.rd_I HOA.out (List.Mem.tail _ (List.Mem.head _))) hy42
              cases ea47
              try simp only [Nat.zero_add, Nat.add_zero, Int.toNat_natCast, Int.toNat_zero, Int.toNat_one] at f50
              try rw [← HP.len_I HOA.out (List.Mem.tail _ (List.Mem.head _))] at f49
              have HY52 := Lib.hid hy42; clear hy42
              go_wp2_with fail
              try clear f48 f49 f50
              go_roundg g1
              case measure => omega
              case rel => exact ⟨(x27 ++ [x28]), y41, V38, rfl, rfl, HD, HOA, HL1⟩
            · replace HL1 := Lib.hid (ifF hc33 HL1.out)
              have hc33d := decide_eq_false hc33
              have HK34 := Lib.hid hc33
              obtain rfl := Option.some.inj HL1.out
              have hm := HM.out; try dsimp only at hm
              replace HM := Lib.hid hm; clear hm
              obtain rfl := Option.some.inj HM.out
              go_wp2_with fail
              try clear hc33 hc33d
              go_ret2
              exact ⟨_, rfl, HOA.out.get (List.Mem.head _), HD.out⟩
      · rw [errV_pos _ hz17] at HC14; replace HC14 := Lib.hid HC14
        go_wp2_with fail
        refine HC14.out.mono ?_; rintro e W21 ⟨V22, rfl, ho, hd⟩
        replace HOA := Lib.hid (HOA.out.call hd HD.out.size ho); clear ho
        replace HD := Lib.hid (HD.out.trans (hd.mono HD.out.size))
        clear hd
        have HZ24 := Lib.hid hz17; clear hz17
        replace HM := Lib.hid (ifT (bne_iff_ne.2 HZ24.out) HM.out)
        obtain rfl := Option.some.inj HM.out
        go_wp2_with fail
        go_ret2
        exact ⟨_, (by first | (rw [errV_pos _ HZ24.out]; rfl) | rw [errV_pos _ HZ24.out]), World.ownsRow_nil _ _ _ _, HD.out⟩
  · rw [errV_pos _ hz4] at HC2; replace HC2 := Lib.hid HC2
    go_wp2_with fail
    refine HC2.out.mono ?_; rintro e W6 ⟨rfl, hd⟩
    replace HOA := Lib.hid (HOA.out.below hd)
    replace HD := Lib.hid (HD.out.trans (hd.mono HD.out.size))
    clear hd
    have HZ7 := Lib.hid hz4; clear hz4
    replace HM := Lib.hid (ifT (bne_iff_ne.2 HZ7.out) HM.out)
    obtain rfl := Option.some.inj HM.out
    go_wp2_with fail
    go_ret2
    exact ⟨_, (by first | (rw [errV_pos _ HZ7.out]; rfl) | rw [errV_pos _ HZ7.out]), World.ownsRow_nil _ _ _ _, HD.out⟩
end Go.Proofs.Ytfokhmkimckdnaa
