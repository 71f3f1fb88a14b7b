import Derived.Test.YtpbkepajgdmbpaaDoorTCk
import Derived.Test.YtpbkepajgdmbpaaDoorMSt
set_option linter.all false
set_option maxRecDepth 100000
namespace Go.Proofs.YtpbkepajgdmbpaaDoor
open Go.RowKit
def prufer_Write_L2 (F : Nat) (nl : Int) : Nat → (Int) → (List Nat) → (List Int) → Option (List Nat × List Int)
  | 0, _, _, _ => none
  | g+1, j, v5, v6 => if j < nl then ((ix v5 j).bind fun y3 => (sLen (y3)).bind fun y4 => if (y4 == 1) = true then (ix v5 j).bind fun y5 => (sList (y5)).bind fun y6 => (ix y6 0).bind fun y7 => (ix v5 y7).bind fun y8 => (sWithout (y8) (j)).bind fun y9 => (st v5 j 0).bind fun y10 => (st y10 y7 y9).bind fun y11 => (app v6 y7).bind fun y12 => some (y11, y12) else prufer_Write_L2 F nl g (wrap64 (j + 1)) (v5) (v6)) else some (v5, v6)
theorem prufer_Write_L2_0 (F : Nat) (nl : Int) (v5 : List Nat) (v6 : List Int) (j : Int) : prufer_Write_L2 F nl 0 j v5 v6 = none := by rw [prufer_Write_L2]
theorem prufer_Write_L2_s (F g : Nat) (nl : Int) (v5 : List Nat) (v6 : List Int) (j : Int) : prufer_Write_L2 F nl (g+1) j v5 v6 = (if j < nl then ((ix v5 j).bind fun y3 => (sLen (y3)).bind fun y4 => if (y4 == 1) = true then (ix v5 j).bind fun y5 => (sList (y5)).bind fun y6 => (ix y6 0).bind fun y7 => (ix v5 y7).bind fun y8 => (sWithout (y8) (j)).bind fun y9 => (st v5 j 0).bind fun y10 => (st y10 y7 y9).bind fun y11 => (app v6 y7).bind fun y12 => some (y11, y12) else prufer_Write_L2 F nl g (wrap64 (j + 1)) (v5) (v6)) else some (v5, v6)) := by rw [prufer_Write_L2]
def prufer_Write_L1 (F : Nat) (v0 : Int) : Nat → (Int) → (List Nat) → (List Int) → Option (List Nat × List Int)
  | 0, _, _, _ => none
  | g+1, j, v5, v6 => if j < (wrap64 (v0 - 2)) then (prufer_Write_L2 F (((v5).length : Int)) F (0) (v5) (v6)).bind fun o13 => prufer_Write_L1 F v0 g (wrap64 (j + 1)) (o13.1) (o13.2) else some (v5, v6)
theorem prufer_Write_L1_0 (F : Nat) (v0 : Int) (v5 : List Nat) (v6 : List Int) (j : Int) : prufer_Write_L1 F v0 0 j v5 v6 = none := by rw [prufer_Write_L1]
theorem prufer_Write_L1_s (F g : Nat) (v0 : Int) (v5 : List Nat) (v6 : List Int) (j : Int) : prufer_Write_L1 F v0 (g+1) j v5 v6 = (if j < (wrap64 (v0 - 2)) then (prufer_Write_L2 F (((v5).length : Int)) F (0) (v5) (v6)).bind fun o13 => prufer_Write_L1 F v0 g (wrap64 (j + 1)) (o13.1) (o13.2) else some (v5, v6)) := by rw [prufer_Write_L1]
def prufer_Write (F : Nat) (v0 : Int) (v1 : List (Int × Int)) : Option (List Int × Int) := (tree_Check F (v0) (v1)).bind fun y1 => (if (y1 != 0) = true then some (([], y1)) else (if v0 < 2 then some (([], 5)) else (mBeside (v0) (v1)).bind fun y2 => (prufer_Write_L1 F (v0) F (0) (y2) ([])).bind fun o14 => some ((o14.2, 0))))
set_option maxRecDepth 100000 in
set_option maxHeartbeats 4000000 in
theorem prufer_Write_ok {F : Nat} {v0 : Int} {v1 : List (Int × Int)} {A1 : Option Addr} {r : List Int × Int} (w : World) (cap1 : Nat) (hr1 : ReadsL w w.heap.size A1 v1) (h : prufer_Write F v0 v1 = some r) :
    Calls Tryd.prog 6 #[.int .i64 v0, .slice A1 v1.length cap1] w (PostG (fun v => (.tuple #[v, (errV 44 r.2)])) (fun v => owI v r.1) w.heap.size w) := by
  have HR1 := Lib.hid hr1; clear hr1
  have HD := Lib.hid (Below.refl w.heap.size w)
  have HOA := Lib.hid (HP.nil (W := w) (B := w.heap.size))
  unfold prufer_Write at h
  have HM := Lib.hid h; clear h
  go_enter Tryd.func6, Tryd.ntmps6
  obtain ⟨y3, hy1, hm⟩ := obind HM.out
  replace HM := Lib.hid hm; clear hm
  have HC2 := tree_Check_ok w cap1 (rdL HD.out HR1.out) hy1
  clear hy1
  by_cases hz4 : y3 = 0
  · subst hz4
    rw [errV_zero] at HC2; replace HC2 := Lib.hid HC2
    go_wp2_with fail
    refine HC2.out.mono ?_; rintro e W5 ⟨rfl, hd⟩
    replace HOA := Lib.hid (HOA.out.below hd)
    replace HD := Lib.hid (HD.out.trans (hd.mono HD.out.size))
    clear hd
    replace HM := Lib.hid (ifF (by decide) HM.out)
    by_cases hc8 : v0 < 2
    · replace HM := Lib.hid (ifT hc8 HM.out)
      have HK9 := Lib.hid hc8
      obtain rfl := Option.some.inj HM.out
      go_wp2_with fail
      try clear hc8
      go_ret2
      exact ⟨_, rfl, World.ownsRow_nil _ _ _ _, HD.out⟩
    · replace HM := Lib.hid (ifF hc8 HM.out)
      have hc8d := decide_eq_false hc8
      have HK9 := Lib.hid hc8
      obtain ⟨y12, hy10, hm⟩ := obind HM.out
      replace HM := Lib.hid hm; clear hm
      have HC11 := mBeside_ok W5 cap1 (rdL HD.out HR1.out) hy10
      clear hy10
      replace HC11 := Lib.hid HC11
      go_wp2_with fail
      refine HC11.out.mono ?_; rintro e W13 ⟨V14, rfl, ho, hd⟩
      try clear hc8 hc8d
      replace HOA := Lib.hid (HOA.out.call hd HD.out.size ho); clear ho
      replace HD := Lib.hid (HD.out.trans (hd.mono HD.out.size))
      clear hd
      replace HOA := Lib.hid (show HP _ _ (.fl (owI (.slice none 0 0) ([])) :: _) from HOA.out.pushNil _ _)
      go_wp2_with fail
      obtain ⟨o17, ho, hm⟩ := obind HM.out
      replace HM := Lib.hid hm; have HL1 := Lib.hid ho; clear hm ho
      obtain ⟨A18, cap19, he, _⟩ := HP.open_M HOA.out (List.Mem.tail _ (List.Mem.head _))
      subst he
      go_loopg [25, 8] F (fun gg uj ux22 wr => ∃ (j24 : Int) (x20 : List Nat) (x21 : List Int) (V23 : Value), uj = .int .i64 j24 ∧ V23 = ux22 ∧ Hid (Below w.heap.size w wr) ∧ Hid (HP wr w.heap.size [.fl (owI V23 (x21)), .fl (owM (.slice A18 (y12).length cap19) (x20))]) ∧ Hid (prufer_Write_L1 F (v0) gg j24 x20 x21 = some o17))
      case atStart => exact ⟨0, y12, [], (.slice none 0 0), rfl, rfl, HD, HOA, HL1⟩
      case round =>
        obtain ⟨j24, x20, x21, V23, rfl, rfl, HD, HOA, HL1⟩ := hrel
        rename World => W25
        cases gk with
        | zero => exact absurd ((prufer_Write_L1_0 ..).symm.trans HL1.out) (by intro h; cases h)
        | succ g1 =>
          replace HL1 := Lib.hid ((prufer_Write_L1_s ..).symm.trans HL1.out)
          by_cases hc26 : j24 < (wrap64 (v0 - 2))
          · replace HL1 := Lib.hid (ifT hc26 HL1.out)
            have HK27 := Lib.hid hc26
            go_wp2_with fail
            try clear hc26
            obtain ⟨o28, ho, hm⟩ := obind HL1.out
            rw [← HP.len_M HOA.out (List.Mem.tail _ (List.Mem.head _))] at ho
            try rw [List.length_replicate] at ho
            replace HL1 := Lib.hid hm; have HL2 := Lib.hid ho; clear hm ho
            go_loopg [29, 8] F (fun gg uj ux31 wr => ∃ (j33 : Int) (x29 : List Nat) (x30 : List Int) (V32 : Value), uj = .int .i64 j33 ∧ V32 = ux31 ∧ Hid (Below w.heap.size w wr) ∧ Hid (HP wr w.heap.size [.fl (owI V32 (x30)), .fl (owM (.slice A18 (y12).length cap19) (x29))]) ∧ Hid (prufer_Write_L2 F (((y12).length : Int)) gg j33 x29 x30 = some o28))
            case atStart => exact ⟨0, x20, x21, V23, rfl, rfl, HD, HOA, HL2⟩
            case round =>
              obtain ⟨j33, x29, x30, V32, rfl, rfl, HD, HOA, HL2⟩ := hrel
              rename World => W34
              cases gk with
              | zero => exact absurd ((prufer_Write_L2_0 ..).symm.trans HL2.out) (by intro h; cases h)
              | succ g2 =>
                replace HL2 := Lib.hid ((prufer_Write_L2_s ..).symm.trans HL2.out)
                by_cases hc35 : j33 < ((y12).length : Int)
                · replace HL2 := Lib.hid (ifT hc35 HL2.out)
                  have HK36 := Lib.hid hc35
                  obtain ⟨y37, hy38, hm⟩ := obind HL2.out
                  replace HL2 := Lib.hid hm; clear hm
                  obtain ⟨b39, o40, ea41, _, f42, f43, f44⟩ := ReadsM.ix (HP.rd_M HOA.out (List.Mem.tail _ (List.Mem.head _))) hy38
                  cases ea41
                  try simp only [Nat.zero_add, Nat.add_zero, Int.toNat_natCast, Int.toNat_zero, Int.toNat_one] at f44
                  try rw [← HP.len_M HOA.out (List.Mem.tail _ (List.Mem.head _))] at f43
                  have HY46 := Lib.hid hy38; clear hy38
                  obtain ⟨y49, hy47, hm⟩ := obind HL2.out
                  replace HL2 := Lib.hid hm; clear hm
                  have HC48 := sLen_ok W34  hy47
                  clear hy47
                  replace HC48 := Lib.hid HC48
                  go_wp2_with fail
                  refine HC48.out.mono ?_; rintro e W50 ⟨rfl, hd⟩
                  try clear hc35 f42 f43 f44
                  replace HOA := Lib.hid (HOA.out.below hd)
                  replace HD := Lib.hid (HD.out.trans (hd.mono HD.out.size))
                  clear hd
                  rcases Bool.eq_false_or_eq_true (y49 == 1) with hc51 | hc51
                  · replace HL2 := Lib.hid (ifT hc51 HL2.out)
                    have HK52 := Lib.hid hc51
                    obtain ⟨y53, hy54, hm⟩ := obind HL2.out
                    replace HL2 := Lib.hid hm; clear hm
                    obtain ⟨b55, o56, ea57, _, f58, f59, f60⟩ := ReadsM.ix (HP.rd_M HOA.out (List.Mem.tail _ (List.Mem.head _))) hy54
                    cases ea57
                    try simp only [Nat.zero_add, Nat.add_zero, Int.toNat_natCast, Int.toNat_zero, Int.toNat_one] at f60
                    try rw [← HP.len_M HOA.out (List.Mem.tail _ (List.Mem.head _))] at f59
                    have HY62 := Lib.hid hy54; clear hy54
                    obtain ⟨y65, hy63, hm⟩ := obind HL2.out
                    replace HL2 := Lib.hid hm; clear hm
                    have HC64 := sList_ok W50  hy63
                    clear hy63
                    replace HC64 := Lib.hid HC64
                    go_wp2_with fail
                    refine HC64.out.mono ?_; rintro e W66 ⟨V67, rfl, ho, hd⟩
                    try clear hc51 f58 f59 f60
                    replace HOA := Lib.hid (HOA.out.call hd HD.out.size ho); clear ho
                    replace HD := Lib.hid (HD.out.trans (hd.mono HD.out.size))
                    clear hd
                    obtain ⟨A71, cap72, he, _⟩ := HP.open_I HOA.out (List.Mem.head _)
                    subst he
                    obtain ⟨y69, hy70, hm⟩ := obind HL2.out
                    replace HL2 := Lib.hid hm; clear hm
                    obtain ⟨b73, o74, ea75, _, f76, f77, f78⟩ := ReadsI.ix (HP.rd_I HOA.out (List.Mem.head _)) hy70
                    cases ea75
                    try simp only [Nat.zero_add, Nat.add_zero, Int.toNat_natCast, Int.toNat_zero, Int.toNat_one] at f78
                    have f77n := f77; try norm_cast at f77n
                    try rw [← HP.len_I HOA.out (List.Mem.head _)] at f77
                    have HY80 := Lib.hid hy70; clear hy70
                    obtain ⟨y81, hy82, hm⟩ := obind HL2.out
                    replace HL2 := Lib.hid hm; clear hm
                    obtain ⟨b83, o84, ea85, _, f86, f87, f88⟩ := ReadsM.ix (HP.rd_M HOA.out (List.Mem.tail _ (List.Mem.tail _ (List.Mem.head _)))) hy82
                    cases ea85
                    try simp only [Nat.zero_add, Nat.add_zero, Int.toNat_natCast, Int.toNat_zero, Int.toNat_one] at f88
                    try rw [← HP.len_M HOA.out (List.Mem.tail _ (List.Mem.tail _ (List.Mem.head _)))] at f87
                    have HY90 := Lib.hid hy82; clear hy82
                    obtain ⟨y93, hy91, hm⟩ := obind HL2.out
                    replace HL2 := Lib.hid hm; clear hm
                    have HC92 := sWithout_ok W66  hy91
                    clear hy91
                    replace HC92 := Lib.hid HC92
                    obtain ⟨y95, hy96, hm⟩ := obind HL2.out
                    replace HL2 := Lib.hid hm; clear hm
                    obtain ⟨f97, hy96⟩ := st_some hy96; subst hy96
                    obtain ⟨g98, ea, f99, ⟨ux100, f101⟩, hp0, hb0⟩ := HP.setM (x := 0) (its1 := [_, _]) HOA.out f97
                    cases ea
                    obtain ⟨q0, q1⟩ := f97
                    try rw [← HP.len_M HOA.out (List.Mem.tail _ (List.Mem.tail _ (List.Mem.head _)))] at q1
                    obtain ⟨y102, hy103, hm⟩ := obind HL2.out
                    replace HL2 := Lib.hid hm; clear hm
                    obtain ⟨f104, hy103⟩ := st_some hy103; subst hy103
                    obtain ⟨g105, ea, f106, ⟨ux107, f108⟩, hp1, hb1⟩ := HP.setM (x := y93) (its1 := [_, _]) hp0 f104
                    cases ea
                    have f104b := f104; rw [List.length_set] at f104b
                    obtain ⟨g109, ea, f110, ⟨ux111, f112⟩, _, _⟩ := HP.setM (x := y93) (its1 := [_, _]) HOA.out f104b
                    cases ea
                    obtain ⟨p0, p1⟩ := f104b
                    try rw [← HP.len_M HOA.out (List.Mem.tail _ (List.Mem.tail _ (List.Mem.head _)))] at p1
                    clear f112
                    try simp only [Nat.zero_add] at f76
                    try simp only [Nat.zero_add] at f77
                    try simp only [Nat.zero_add] at f78
                    try simp only [Nat.zero_add] at f86
                    try simp only [Nat.zero_add] at f87
                    try simp only [Nat.zero_add] at f88
                    go_wp2_with fail
                    refine HC92.out.mono ?_; rintro e w' ⟨rfl, rfl⟩
                    try simp only [Int.cast_ofNat_Int] at f99 f101 f106 f108 f110 f104 hp1 hb0 hb1
                    have HP_ := Lib.hid hp1; have HB_ := Lib.hid (hb0.trans hb1); clear hp0 hp1 hb0 hb1
                    go_upto_region 16 with (fail)
                    have hp := HP_.out; have hb := HB_.out; clear HP_ HB_
                    generalize hW : World.setCell (World.setCell W66 _ _) _ _ = W94 at *
                    clear hW
                    try clear f99
                    try clear f101
                    try clear q0
                    try clear q1
                    try clear f106
                    try clear f108
                    try clear f110
                    try clear p0
                    try clear p1
                    try clear f104
                    try clear f76
                    try clear f77
                    try clear f78
                    try clear f77n
                    try clear f86
                    try clear f87
                    try clear f88
                    replace HOA := Lib.hid (show HP W94 w.heap.size [.fl (owI (.slice (some ⟨b73, o74, none⟩) (y65).length cap72) (y65)), .fl (owI V32 (x30)), .fl (owM (.slice (some ⟨b39, 0, none⟩) (y12).length cap19) ((List.set (List.set x29 (Int.toNat j33) 0) (Int.toNat y69) y93)))] from hp); clear hp
                    replace HD := Lib.hid (HD.out.trans hb); clear hb
                    obtain ⟨y113, hy114, hm⟩ := obind HL2.out
                    replace HL2 := Lib.hid hm; clear hm
                    obtain ⟨f115, hy114⟩ := app_some hy114; subst hy114
                    have HF118 := Lib.hid f115; clear f115
                    go_wp2_with (at_builtin; refine hp_appI _ (.tmp 57) (.tmp 59) 23 Tryd.underlying23 rfl rfl (L1 := [_]) HOA.out rfl rfl HF118.out HD.out.size ?_; intro V116 W117 hoa hd)
                    replace HOA := Lib.hid (show HP W117 w.heap.size [.fl (owI (.slice (some ⟨b73, o74, none⟩) (y65).length cap72) (y65)), .fl (owI V116 ((x30 ++ [y69]))), .fl (owM (.slice (some ⟨b39, 0, none⟩) (y12).length cap19) ((List.set (List.set x29 (Int.toNat j33) 0) (Int.toNat y69) y93)))] from hoa); clear hoa
                    replace HD := Lib.hid (HD.out.trans hd); clear hd
                    obtain rfl := Option.some.inj HL2.out
                    have hm := HL1.out; try dsimp only at hm
                    replace HL1 := Lib.hid hm; clear hm
                    go_wp2_with fail
                    replace HOA := Lib.hid (HOA.out.sub (.cons _ (.cons₂ _ (.cons₂ _ .slnil))))
                    go_roundg g1
                    case measure => omega
                    case rel => exact ⟨(wrap64 (j24 + 1)), (List.set (List.set x29 (Int.toNat j33) 0) (Int.toNat y69) y93), (x30 ++ [y69]), V116, rfl, rfl, HD, HOA, HL1⟩
                  · replace HL2 := Lib.hid (ifF (bF hc51) HL2.out)
                    have HK52 := Lib.hid hc51
                    go_wp2_with fail
                    try clear hc51
                    go_roundg g2
                    case measure => omega
                    case rel => exact ⟨(wrap64 (j33 + 1)), x29, x30, V32, rfl, rfl, HD, HOA, HL2⟩
                · replace HL2 := Lib.hid (ifF hc35 HL2.out)
                  have hc35d := decide_eq_false hc35
                  have HK36 := Lib.hid hc35
                  obtain rfl := Option.some.inj HL2.out
                  have hm := HL1.out; try dsimp only at hm
                  replace HL1 := Lib.hid hm; clear hm
                  go_wp2_with fail
                  try clear hc35 hc35d
                  go_roundg g1
                  case measure => omega
                  case rel => exact ⟨(wrap64 (j24 + 1)), x29, x30, V32, rfl, rfl, HD, HOA, HL1⟩
          · replace HL1 := Lib.hid (ifF hc26 HL1.out)
            have hc26d := decide_eq_false hc26
            have HK27 := Lib.hid hc26
            obtain rfl := Option.some.inj HL1.out
            have hm := HM.out; try dsimp only at hm
            replace HM := Lib.hid hm; clear hm
            obtain rfl := Option.some.inj HM.out
            go_wp2_with fail
            try clear hc26 hc26d
            go_ret2
            exact ⟨_, rfl, HOA.out.get (List.Mem.head _), HD.out⟩
  · rw [errV_pos _ hz4] at HC2; replace HC2 := Lib.hid HC2
    go_wp2_with fail
    refine HC2.out.mono ?_; rintro e W6 ⟨rfl, hd⟩
    replace HOA := Lib.hid (HOA.out.below hd)
    replace HD := Lib.hid (HD.out.trans (hd.mono HD.out.size))
    clear hd
    have HZ7 := Lib.hid hz4; clear hz4
    replace HM := Lib.hid (ifT (bne_iff_ne.2 HZ7.out) HM.out)
    obtain rfl := Option.some.inj HM.out
    go_wp2_with fail
    go_ret2
    exact ⟨_, (by first | (rw [errV_pos _ HZ7.out]; rfl) | rw [errV_pos _ HZ7.out]), World.ownsRow_nil _ _ _ _, HD.out⟩
end Go.Proofs.YtpbkepajgdmbpaaDoor
