import Derived.Test.YtgnbholhgcbhfaaT2
import Derived.Test.YtgnbholhgcbhfaaGR
import Derived.Test.YtgnbholhgcbhfaaAst
set_option linter.all false
set_option maxRecDepth 100000
namespace Go.Proofs.Ytgnbholhgcbhfaa
open Go.RowKit
def tree_Name_L1 (F : Nat) (v4 : List Int) (v7 : List Nat) : Nat → (Int) → (List ByteArray) → Option (List ByteArray)
  | 0, _, _ => none
  | g+1, j, v8 => if j < ((v4).length : Int) then (ix v4 j).bind fun y => (tree_name F F (v7) (y) ((-1))).bind fun y4 => (app v8 y4).bind fun y3 => tree_Name_L1 F v4 v7 g (wrap64 (j + 1)) (y3) else some (v8)
theorem tree_Name_L1_0 (F : Nat) (v4 : List Int) (v7 : List Nat) (v8 : List ByteArray) (j : Int) : tree_Name_L1 F v4 v7 0 j v8 = none := by rw [tree_Name_L1]
theorem tree_Name_L1_s (F g : Nat) (v4 : List Int) (v7 : List Nat) (v8 : List ByteArray) (j : Int) : tree_Name_L1 F v4 v7 (g+1) j v8 = (if j < ((v4).length : Int) then (ix v4 j).bind fun y => (tree_name F F (v7) (y) ((-1))).bind fun y4 => (app v8 y4).bind fun y3 => tree_Name_L1 F v4 v7 g (wrap64 (j + 1)) (y3) else some (v8)) := by rw [tree_Name_L1]
def tree_Name (F : Nat) (v0 : Int) (v1 : List (Int × Int)) : Option (ByteArray × Int) := (tree_Middle F (v0) (v1)).bind fun y1 => (if (y1.2.2 != 0) = true then some (((⟨#[]⟩ : ByteArray), y1.2.2)) else (mBeside (v0) (v1)).bind fun y2 => (tree_Name_L1 F (y1.1) (y2) F (0) ([])).bind fun o5 => (slices_MinFunc_string_string F (o5) ((fun z6 z7 => brambleweir_tree_Name_1 F  z6 z7))).bind fun y8 => some ((y8, 0)))
set_option maxRecDepth 100000 in
set_option maxHeartbeats 4000000 in
theorem tree_Name_ok {F : Nat} {v0 : Int} {v1 : List (Int × Int)} {A1 : Option Addr} {r : ByteArray × Int} (w : World) (cap1 : Nat) (hr1 : ReadsL w w.heap.size A1 v1) (h : tree_Name F v0 v1 = some r) :
    Calls Try.prog 8 #[.int .i64 v0, .slice A1 v1.length cap1] w fun e w' => e = .returned (.tuple #[(.string r.1), (errV 66 r.2)]) ∧ Below w.heap.size w w' := by
  have HR1 := Lib.hid hr1; clear hr1
  have HD := Lib.hid (Below.refl w.heap.size w)
  have HOA := Lib.hid (HP.nil (W := w) (B := w.heap.size))
  unfold tree_Name at h
  have HM := Lib.hid h; clear h
  go_enter Try.func8, Try.ntmps8
  obtain ⟨⟨y3, y4, y5⟩, hy1, hm⟩ := obind HM.out
  dsimp only at hm
  replace HM := Lib.hid hm; clear hm
  have HC2 := tree_Middle_ok w cap1 (rdL HD.out HR1.out) hy1
  clear hy1
  replace HC2 := Lib.hid HC2
  go_wp2_with fail
  refine HC2.out.mono ?_; rintro e W6 ⟨V7, rfl, ho, hd⟩
  replace HOA := Lib.hid (HOA.out.call hd HD.out.size ho); clear ho
  replace HD := Lib.hid (HD.out.trans (hd.mono HD.out.size))
  clear hd
  by_cases hz9 : y5 = 0
  · subst hz9
    try simp only [errV_zero]
    replace HM := Lib.hid (ifF (by decide) HM.out)
    obtain ⟨y13, hy11, hm⟩ := obind HM.out
    replace HM := Lib.hid hm; clear hm
    have HC12 := mBeside_ok W6 cap1 (rdL HD.out HR1.out) hy11
    clear hy11
    replace HC12 := Lib.hid HC12
    go_wp2_with fail
    refine HC12.out.mono ?_; rintro e W14 ⟨V15, rfl, ho, hd⟩
    replace HOA := Lib.hid (HOA.out.call hd HD.out.size ho); clear ho
    replace HD := Lib.hid (HD.out.trans (hd.mono HD.out.size))
    clear hd
    replace HOA := Lib.hid (show HP _ _ (.fl (owS (.slice none 0 0) ([])) :: _) from HOA.out.pushNil _ _)
    obtain ⟨A18, cap19, he, _⟩ := HP.open_I HOA.out (List.Mem.tail _ (List.Mem.tail _ (List.Mem.head _)))
    subst he
    go_wp2_with fail
    obtain ⟨o20, ho, hm⟩ := obind HM.out
    replace HM := Lib.hid hm; have HL1 := Lib.hid ho; clear hm ho
    go_loopg [28, 10] F (fun gg uj ux22 wr => ∃ (j24 : Int) (x21 : List ByteArray) (V23 : Value), uj = .int .i64 j24 ∧ V23 = ux22 ∧ Hid (Below w.heap.size w wr) ∧ Hid (HP wr w.heap.size [.fl (owS V23 (x21)), .fl (owM V15 (y13)), .fl (owI (.slice A18 (y3).length cap19) (y3))]) ∧ Hid (tree_Name_L1 F (y3) (y13) gg j24 x21 = some o20))
    case atStart => exact ⟨0, [], (.slice none 0 0), rfl, rfl, HD, HOA, HL1⟩
    case round =>
      obtain ⟨j24, x21, V23, rfl, rfl, HD, HOA, HL1⟩ := hrel
      rename World => W25
      cases gk with
      | zero => exact absurd ((tree_Name_L1_0 ..).symm.trans HL1.out) (by intro h; cases h)
      | succ g1 =>
        replace HL1 := Lib.hid ((tree_Name_L1_s ..).symm.trans HL1.out)
        by_cases hc26 : j24 < ((y3).length : Int)
        · replace HL1 := Lib.hid (ifT hc26 HL1.out)
          have HK27 := Lib.hid hc26
          try rw [← HP.len_I HOA.out (List.Mem.tail _ (List.Mem.tail _ (List.Mem.head _)))] at hc26
          obtain ⟨y28, hy29, hm⟩ := obind HL1.out
          replace HL1 := Lib.hid hm; clear hm
          obtain ⟨b30, o31, ea32, _, f33, f34, f35⟩ := ReadsI.ix (HP.rd_I HOA.out (List.Mem.tail _ (List.Mem.tail _ (List.Mem.head _)))) hy29
          cases ea32
          try simp only [Nat.zero_add, Nat.add_zero, Int.toNat_natCast, Int.toNat_zero, Int.toNat_one] at f35
          try rw [← HP.len_I HOA.out (List.Mem.tail _ (List.Mem.tail _ (List.Mem.head _)))] at f34
          have HY37 := Lib.hid hy29; clear hy29
          obtain ⟨y40, hy38, hm⟩ := obind HL1.out
          replace HL1 := Lib.hid hm; clear hm
          obtain ⟨A41, cap42, he, _⟩ := HP.open_M HOA.out (List.Mem.tail _ (List.Mem.head _))
          subst he
          have HC39 := tree_name_ok _ W25 cap42 (HP.rd_M HOA.out (List.Mem.tail _ (List.Mem.head _))) hy38
          clear hy38
          replace HC39 := Lib.hid HC39
          go_wp2_with fail
          refine HC39.out.mono ?_; rintro e W43 ⟨rfl, hd⟩
          try clear hc26 f33 f34 f35
          replace HOA := Lib.hid (HOA.out.below hd)
          replace HD := Lib.hid (HD.out.trans (hd.mono HD.out.size))
          clear hd
          obtain ⟨y44, hy45, hm⟩ := obind HL1.out
          replace HL1 := Lib.hid hm; clear hm
          obtain ⟨f46, hy45⟩ := app_some hy45; subst hy45
          have HF49 := Lib.hid f46; clear f46
          go_wp2_with (at_builtin; refine hp_appS _ (.tmp 32) (.tmp 36) 52 Try.underlying52 rfl rfl (L1 := []) HOA.out rfl rfl HF49.out HD.out.size ?_; intro V47 W48 hoa hd)
          replace HOA := Lib.hid (show HP W48 w.heap.size [.fl (owS V47 ((x21 ++ [y40]))), .fl (owM (.slice A41 (y13).length cap42) (y13)), .fl (owI (.slice (some ⟨b30, o31, none⟩) (y3).length cap19) (y3))] from hoa); clear hoa
          replace HD := Lib.hid (HD.out.trans hd); clear hd
          go_wp2_with fail
          go_roundg g1
          case measure => omega
          case rel => exact ⟨(wrap64 (j24 + 1)), (x21 ++ [y40]), V47, rfl, rfl, HD, HOA, HL1⟩
        · replace HL1 := Lib.hid (ifF hc26 HL1.out)
          have hc26d := decide_eq_false hc26
          have HK27 := Lib.hid hc26
          try rw [← HP.len_I HOA.out (List.Mem.tail _ (List.Mem.tail _ (List.Mem.head _)))] at hc26
          obtain rfl := Option.some.inj HL1.out
          have hm := HM.out; try dsimp only at hm
          replace HM := Lib.hid hm; clear hm
          obtain ⟨y52, hy50, hm⟩ := obind HM.out
          replace HM := Lib.hid hm; clear hm
          obtain ⟨A53, cap54, he, _⟩ := HP.open_S HOA.out (List.Mem.head _)
          subst he
          have HC51 := slices_MinFunc_string_string_ok W25 cap54 (HP.rd_S HOA.out (List.Mem.head _)) 24 #[] (enters_of Try.func24 (by kernel_rfl) rfl) (fun W_ x_ y_ b_ hB_ hq_ => (brambleweir_tree_Name_1_ok W_  hq_).mono fun e_ w_ h_ => ⟨h_.1, h_.2 ▸ Below.refl _ _⟩) hy50
          clear hy50
          replace HC51 := Lib.hid HC51
          go_wp2_with fail
          refine HC51.out.mono ?_; rintro e W55 ⟨rfl, hd⟩
          try clear hc26 hc26d
          replace HOA := Lib.hid (HOA.out.below hd)
          replace HD := Lib.hid (HD.out.trans (hd.mono HD.out.size))
          clear hd
          obtain rfl := Option.some.inj HM.out
          go_wp2_with fail
          go_ret2
          exact ⟨rfl, HD.out⟩
  · try rw [errV_pos _ hz9]
    have HZ10 := Lib.hid hz9; clear hz9
    replace HM := Lib.hid (ifT (bne_iff_ne.2 HZ10.out) HM.out)
    obtain rfl := Option.some.inj HM.out
    go_wp2_with fail
    go_ret2
    exact ⟨(by first | (rw [errV_pos _ HZ10.out]; rfl) | rw [errV_pos _ HZ10.out]), HD.out⟩
def L3_treeFact (F : Nat)  : Option (Bool) := (tree_Middle F (3) ([(0, 1), (1, 2)])).bind fun y1 => (tree_Name F (3) ([(0, 1), (1, 2)])).bind fun y2 => ((((if (y1.2.2 == 0) = true then if (y2.2 == 0) = true then some true else some false else some false).bind fun b6 => if b6 = true then if (y1.2.1 == 1) = true then some true else some false else some false).bind fun b5 => if b5 = true then (SE_Ints F (y1.1) ([1])).bind fun y7 => if y7 = true then some true else some false else some false).bind fun b4 => if b4 = true then if ((y2.1).toList == ([40, 40, 41, 40, 41, 41] : List UInt8)) = true then some true else some false else some false).bind fun b3 => some (b3)
set_option maxRecDepth 100000 in
set_option maxHeartbeats 4000000 in
theorem L3_treeFact_ok {F : Nat}  {r : Bool} (w : World)  (h : L3_treeFact F  = some r) :
    Calls Try.prog 7 #[] w fun e w' => e = .returned (.bool r) ∧ Below w.heap.size w w' := by
  have HD := Lib.hid (Below.refl w.heap.size w)
  have HOA := Lib.hid (HP.nil (W := w) (B := w.heap.size))
  unfold L3_treeFact at h
  have HM := Lib.hid h; clear h
  go_enter Try.func7, Try.ntmps7
  have hd : Below w.heap.size w (World.alloc w (.cells #[Value.int .i64 (0), Value.int .i64 (1), Value.int .i64 (1), Value.int .i64 (2)] 32)) := (Below.refl _ _).alloc (Nat.le_refl _) _
  have ho : (owL (.slice (some ⟨w.heap.size, 0, none⟩) 2 2) [(0, 1), (1, 2)]).ok (World.alloc w (.cells #[Value.int .i64 (0), Value.int .i64 (1), Value.int .i64 (1), Value.int .i64 (2)] 32)) w.heap.size := litL_ok w [(0, 1), (1, 2)] (by unfold maxLen; simp)
  replace HOA := Lib.hid (HOA.out.call hd HD.out.size ho); clear ho
  replace HD := Lib.hid (HD.out.trans (hd.mono HD.out.size))
  clear hd
  go_upto_region 2 with (fail)
  generalize hW : World.alloc w _ = W1 at *
  clear hW
  obtain ⟨⟨y5, y6, y7⟩, hy3, hm⟩ := obind HM.out
  dsimp only at hm
  replace HM := Lib.hid hm; clear hm
  have HC4 := tree_Middle_ok W1 2 (HP.rd_L HOA.out (List.Mem.head _)) hy3
  clear hy3
  try rw [← HP.len_L HOA.out (List.Mem.head _)] at HC4
  replace HC4 := Lib.hid HC4
  go_wp2_with fail
  refine HC4.out.mono ?_; rintro e W8 ⟨V9, rfl, ho, hd⟩
  replace HOA := Lib.hid (HOA.out.call hd HD.out.size ho); clear ho
  replace HD := Lib.hid (HD.out.trans (hd.mono HD.out.size))
  clear hd
  obtain ⟨⟨y13, y14⟩, hy11, hm⟩ := obind HM.out
  dsimp only at hm
  replace HM := Lib.hid hm; clear hm
  have HC12 := tree_Name_ok W8 2 (HP.rd_L HOA.out (List.Mem.tail _ (List.Mem.head _))) hy11
  clear hy11
  try rw [← HP.len_L HOA.out (List.Mem.tail _ (List.Mem.head _))] at HC12
  replace HC12 := Lib.hid HC12
  go_wp2_with fail
  refine HC12.out.mono ?_; rintro e W15 ⟨rfl, hd⟩
  replace HOA := Lib.hid (HOA.out.below hd)
  replace HD := Lib.hid (HD.out.trans (hd.mono HD.out.size))
  clear hd
  obtain ⟨b16, hb, hm⟩ := obind HM.out
  replace HM := Lib.hid hm; have HB17 := Lib.hid hb; clear hm hb
  obtain ⟨b18, hb, hm⟩ := obind HB17.out
  replace HB17 := Lib.hid hm; have HB19 := Lib.hid hb; clear hm hb
  obtain ⟨b20, hb, hm⟩ := obind HB19.out
  replace HB19 := Lib.hid hm; have HB21 := Lib.hid hb; clear hm hb
  obtain ⟨b22, hb, hm⟩ := obind HB21.out
  replace HB21 := Lib.hid hm; have HB23 := Lib.hid hb; clear hm hb
  by_cases hz24 : y7 = 0
  · subst hz24
    try simp only [errV_zero]
    replace HB23 := Lib.hid (ifT (by decide) HB23.out)
    by_cases hz26 : y14 = 0
    · subst hz26
      try simp only [errV_zero]
      replace HB23 := Lib.hid (ifT (by decide) HB23.out)
      obtain rfl := Option.some.inj HB23.out
      replace HB21 := Lib.hid (ifT (by first | rfl | trivial) HB21.out)
      rcases Bool.eq_false_or_eq_true (y6 == 1) with hc28 | hc28
      · replace HB21 := Lib.hid (ifT hc28 HB21.out)
        have HK29 := Lib.hid hc28
        obtain rfl := Option.some.inj HB21.out
        replace HB19 := Lib.hid (ifT (by first | rfl | trivial) HB19.out)
        have hd : Below W15.heap.size W15 (World.alloc W15 (.cells #[Value.int .i64 (1)] 3)) := (Below.refl _ _).alloc (Nat.le_refl _) _
        have ho : (owI (.slice (some ⟨W15.heap.size, 0, none⟩) 1 1) [1]).ok (World.alloc W15 (.cells #[Value.int .i64 (1)] 3)) W15.heap.size := litI_ok W15 [1] (by unfold maxLen; simp)
        replace HOA := Lib.hid (HOA.out.call hd HD.out.size ho); clear ho
        replace HD := Lib.hid (HD.out.trans (hd.mono HD.out.size))
        clear hd
        obtain ⟨y34, hy32, hm⟩ := obind HB19.out
        replace HB19 := Lib.hid hm; clear hm
        obtain ⟨A35, cap36, he, _⟩ := HP.open_I HOA.out (List.Mem.tail _ (List.Mem.head _))
        subst he
        have HC33 := SE_Ints_ok (World.alloc W15 (.cells #[Value.int .i64 (1)] 3)) cap36 (HP.rd_I HOA.out (List.Mem.tail _ (List.Mem.head _))) 1 (HP.rd_I HOA.out (List.Mem.head _)) hy32
        clear hy32
        try rw [← HP.len_I HOA.out (List.Mem.head _)] at HC33
        replace HC33 := Lib.hid HC33
        go_wp2_with fail
        refine HC33.out.mono ?_; rintro e W37 ⟨rfl, hd⟩
        try clear hc28
        replace HOA := Lib.hid (HOA.out.below (hd.below _))
        replace HD := Lib.hid (HD.out.trans ((hd.below _).mono HD.out.size))
        clear hd
        cases y34
        · replace HB19 := Lib.hid (ifF Bool.false_ne_true HB19.out)
          obtain rfl := Option.some.inj HB19.out
          replace HB17 := Lib.hid (ifF (by first | exact Bool.false_ne_true | exact not_false) HB17.out)
          obtain rfl := Option.some.inj HB17.out
          obtain rfl := Option.some.inj HM.out
          go_wp2_with fail
          go_ret
          exact ⟨rfl, HD.out⟩
        · replace HB19 := Lib.hid (ifT rfl HB19.out)
          obtain rfl := Option.some.inj HB19.out
          replace HB17 := Lib.hid (ifT (by first | rfl | trivial) HB17.out)
          rcases Bool.eq_false_or_eq_true (((y13).toList == ([40, 40, 41, 40, 41, 41] : List UInt8))) with hc38 | hc38
          · replace HB17 := Lib.hid (ifT hc38 HB17.out)
            have HK39 := Lib.hid hc38
            obtain rfl := Option.some.inj HB17.out
            obtain rfl := Option.some.inj HM.out
            go_wp2_with fail
            go_ret
            exact ⟨(by first | rfl | (refine congrArg (fun b => Ending.returned (Value.bool b)) ?_; first | (exact decide_eq_true (by omega)) | (exact decide_eq_false (by omega)) | (have q := hc38; rw [bne_iff_ne] at q ⊢; omega) | (have q := hc38; rw [bne_eq_false_iff_eq] at q ⊢; omega) | (have q := hc38; rw [beq_iff_eq] at q ⊢; omega) | (have q := hc38; rw [beq_eq_false_iff_ne] at q ⊢; omega) | exact hc38 | (rw [hc38]; rfl))), HD.out⟩
          · replace HB17 := Lib.hid (ifF (bF hc38) HB17.out)
            have HK39 := Lib.hid hc38
            obtain rfl := Option.some.inj HB17.out
            obtain rfl := Option.some.inj HM.out
            go_wp2_with fail
            go_ret
            exact ⟨(by first | rfl | (refine congrArg (fun b => Ending.returned (Value.bool b)) ?_; first | (exact decide_eq_true (by omega)) | (exact decide_eq_false (by omega)) | (have q := hc38; rw [bne_iff_ne] at q ⊢; omega) | (have q := hc38; rw [bne_eq_false_iff_eq] at q ⊢; omega) | (have q := hc38; rw [beq_iff_eq] at q ⊢; omega) | (have q := hc38; rw [beq_eq_false_iff_ne] at q ⊢; omega) | exact hc38 | (rw [hc38]; rfl))), HD.out⟩
      · replace HB21 := Lib.hid (ifF (bF hc28) HB21.out)
        have HK29 := Lib.hid hc28
        obtain rfl := Option.some.inj HB21.out
        replace HB19 := Lib.hid (ifF (by first | exact Bool.false_ne_true | exact not_false) HB19.out)
        obtain rfl := Option.some.inj HB19.out
        replace HB17 := Lib.hid (ifF (by first | exact Bool.false_ne_true | exact not_false) HB17.out)
        obtain rfl := Option.some.inj HB17.out
        obtain rfl := Option.some.inj HM.out
        go_wp2_with fail
        go_ret
        exact ⟨(by first | rfl | (refine congrArg (fun b => Ending.returned (Value.bool b)) ?_; first | (exact decide_eq_true (by omega)) | (exact decide_eq_false (by omega)) | (have q := hc28; rw [bne_iff_ne] at q ⊢; omega) | (have q := hc28; rw [bne_eq_false_iff_eq] at q ⊢; omega) | (have q := hc28; rw [beq_iff_eq] at q ⊢; omega) | (have q := hc28; rw [beq_eq_false_iff_ne] at q ⊢; omega) | exact hc28 | (rw [hc28]; rfl))), HD.out⟩
    · try rw [errV_pos _ hz26]
      have HZ27 := Lib.hid hz26; clear hz26
      replace HB23 := Lib.hid (ifF (fun h => HZ27.out (eq_of_beq h)) HB23.out)
      obtain rfl := Option.some.inj HB23.out
      replace HB21 := Lib.hid (ifF (by first | exact Bool.false_ne_true | exact not_false) HB21.out)
      obtain rfl := Option.some.inj HB21.out
      replace HB19 := Lib.hid (ifF (by first | exact Bool.false_ne_true | exact not_false) HB19.out)
      obtain rfl := Option.some.inj HB19.out
      replace HB17 := Lib.hid (ifF (by first | exact Bool.false_ne_true | exact not_false) HB17.out)
      obtain rfl := Option.some.inj HB17.out
      obtain rfl := Option.some.inj HM.out
      go_wp2_with fail
      go_ret
      exact ⟨rfl, HD.out⟩
  · try rw [errV_pos _ hz24]
    have HZ25 := Lib.hid hz24; clear hz24
    replace HB23 := Lib.hid (ifF (fun h => HZ25.out (eq_of_beq h)) HB23.out)
    obtain rfl := Option.some.inj HB23.out
    replace HB21 := Lib.hid (ifF (by first | exact Bool.false_ne_true | exact not_false) HB21.out)
    obtain rfl := Option.some.inj HB21.out
    replace HB19 := Lib.hid (ifF (by first | exact Bool.false_ne_true | exact not_false) HB19.out)
    obtain rfl := Option.some.inj HB19.out
    replace HB17 := Lib.hid (ifF (by first | exact Bool.false_ne_true | exact not_false) HB17.out)
    obtain rfl := Option.some.inj HB17.out
    obtain rfl := Option.some.inj HM.out
    go_wp2_with fail
    go_ret
    exact ⟨rfl, HD.out⟩
def L3_TreeName_L1 (F : Nat) (v5 : ByteArray) : Nat → (Int) → (Int) → Option (Int × Int)
  | 0, _, _ => none
  | g+1, v7, v8 => if v8 < ((v5).size : Int) then ((sIx v5 v8).bind fun y4 => if (y4 == 40) = true then L3_TreeName_L1 F v5 g ((wrap64 (v7 + 1))) ((wrap64 (v8 + 1))) else L3_TreeName_L1 F v5 g (v7) ((wrap64 (v8 + 1)))) else some (v7, v8)
theorem L3_TreeName_L1_0 (F : Nat) (v5 : ByteArray) (v7 : Int) (v8 : Int) : L3_TreeName_L1 F v5 0 v7 v8 = none := by rw [L3_TreeName_L1]
theorem L3_TreeName_L1_s (F g : Nat) (v5 : ByteArray) (v7 : Int) (v8 : Int) : L3_TreeName_L1 F v5 (g+1) v7 v8 = (if v8 < ((v5).size : Int) then ((sIx v5 v8).bind fun y4 => if (y4 == 40) = true then L3_TreeName_L1 F v5 g ((wrap64 (v7 + 1))) ((wrap64 (v8 + 1))) else L3_TreeName_L1 F v5 g (v7) ((wrap64 (v8 + 1)))) else some (v7, v8)) := by rw [L3_TreeName_L1]
def L3_TreeName_L2 (F : Nat) (v1 : List (Int × Int)) (v2 : List Int) : Nat → (List (Int × Int)) → (Int) → Option (List (Int × Int) × Int)
  | 0, _, _ => none
  | g+1, v9, v10 => if 0 ≤ v10 then (ix v1 v10).bind fun y12 => (ix v2 y12.2).bind fun y13 => (ix v1 v10).bind fun y14 => (ix v2 y14.1).bind fun y15 => (app v9 (y13, y15)).bind fun y11 => L3_TreeName_L2 F v1 v2 g (y11) ((wrap64 (v10 - 1))) else some (v9, v10)
theorem L3_TreeName_L2_0 (F : Nat) (v1 : List (Int × Int)) (v2 : List Int) (v9 : List (Int × Int)) (v10 : Int) : L3_TreeName_L2 F v1 v2 0 v9 v10 = none := by rw [L3_TreeName_L2]
theorem L3_TreeName_L2_s (F g : Nat) (v1 : List (Int × Int)) (v2 : List Int) (v9 : List (Int × Int)) (v10 : Int) : L3_TreeName_L2 F v1 v2 (g+1) v9 v10 = (if 0 ≤ v10 then (ix v1 v10).bind fun y12 => (ix v2 y12.2).bind fun y13 => (ix v1 v10).bind fun y14 => (ix v2 y14.1).bind fun y15 => (app v9 (y13, y15)).bind fun y11 => L3_TreeName_L2 F v1 v2 g (y11) ((wrap64 (v10 - 1))) else some (v9, v10)) := by rw [L3_TreeName_L2]
def L3_TreeName (F : Nat) (v0 : Int) (v1 : List (Int × Int)) (v2 : List Int) : Option (Bool) := (L3_treeFact F ).bind fun y1 => (if y1 = true then (tree_Name F (v0) (v1)).bind fun y2 => (if (y2.2 != 0) = true then (if ((y2.1).toList.isEmpty) = true then some true else some false).bind fun b3 => some (b3) else (L3_TreeName_L1 F (y2.1) F (0) (0)).bind fun o5 => ((if (((y2.1).size : Int) != (wrap64 (2 * v0))) = true then some true else if (o5.1 != v0) = true then some true else some false).bind fun b6 => if b6 = true then some (false) else (((if (((v2).length : Int) != v0) = true then some true else (R1_All F (v2) (0) ((wrap64 (v0 - 1)))).bind fun y9 => if y9 = true then some false else some true).bind fun b8 => if b8 = true then some true else (R1_Twice F (v2)).bind fun y10 => if y10 = true then some true else some false).bind fun b7 => if b7 = true then some (true) else (L3_TreeName_L2 F (v1) (v2) F ([]) ((wrap64 (((v1).length : Int) - 1)))).bind fun o16 => (tree_Name F (v0) (o16.1)).bind fun y17 => (if (y17.2 == 0) = true then if ((y17.1).toList == (y2.1).toList) = true then some true else some false else some false).bind fun b18 => some (b18)))) else some (false))
set_option maxRecDepth 100000 in
set_option maxHeartbeats 4000000 in
theorem L3_TreeName_ok {F : Nat} {v0 : Int} {v1 : List (Int × Int)} {A1 : Option Addr} {v2 : List Int} {A2 : Option Addr} {r : Bool} (w : World) (cap1 : Nat) (hr1 : ReadsL w w.heap.size A1 v1) (cap2 : Nat) (hr2 : ReadsI w w.heap.size A2 v2) (hcap2 : v2.length ≤ cap2) (h : L3_TreeName F v0 v1 v2 = some r) :
    Calls Try.prog 3 #[.int .i64 v0, .slice A1 v1.length cap1, .slice A2 v2.length cap2] w fun e w' => e = .returned (.bool r) ∧ Below w.heap.size w w' := by
  have HR1 := Lib.hid hr1; clear hr1
  have HR2 := Lib.hid hr2; clear hr2
  have HCAP2 := Lib.hid hcap2; clear hcap2
  have HD := Lib.hid (Below.refl w.heap.size w)
  have HOA := Lib.hid (HP.nil (W := w) (B := w.heap.size))
  unfold L3_TreeName at h
  have HM := Lib.hid h; clear h
  go_enter Try.func3, Try.ntmps3
  obtain ⟨y3, hy1, hm⟩ := obind HM.out
  replace HM := Lib.hid hm; clear hm
  have HC2 := L3_treeFact_ok w  hy1
  clear hy1
  replace HC2 := Lib.hid HC2
  go_wp2_with fail
  refine HC2.out.mono ?_; rintro e W4 ⟨rfl, hd⟩
  replace HOA := Lib.hid (HOA.out.below hd)
  replace HD := Lib.hid (HD.out.trans (hd.mono HD.out.size))
  clear hd
  cases y3
  · replace HM := Lib.hid (ifF Bool.false_ne_true HM.out)
    obtain rfl := Option.some.inj HM.out
    go_wp2_with fail
    go_ret
    exact ⟨rfl, HD.out⟩
  · replace HM := Lib.hid (ifT rfl HM.out)
    obtain ⟨⟨y7, y8⟩, hy5, hm⟩ := obind HM.out
    dsimp only at hm
    replace HM := Lib.hid hm; clear hm
    have HC6 := tree_Name_ok W4 cap1 (rdL HD.out HR1.out) hy5
    clear hy5
    replace HC6 := Lib.hid HC6
    go_wp2_with fail
    refine HC6.out.mono ?_; rintro e W9 ⟨rfl, hd⟩
    replace HOA := Lib.hid (HOA.out.below hd)
    replace HD := Lib.hid (HD.out.trans (hd.mono HD.out.size))
    clear hd
    by_cases hz10 : y8 = 0
    · subst hz10
      try simp only [errV_zero]
      replace HM := Lib.hid (ifF (by decide) HM.out)
      go_wp2_with fail
      obtain ⟨o12, ho, hm⟩ := obind HM.out
      replace HM := Lib.hid hm; have HL1 := Lib.hid ho; clear hm ho
      go_loopg [10, 11] F (fun gg ux15 ux16 wr => ∃ (x13 : Int) (x14 : Int), ux15 = .int .i64 x13 ∧ ux16 = .int .i64 x14 ∧ Hid (Below W9.heap.size W9 wr) ∧ Hid (L3_TreeName_L1 F (y7) gg x13 x14 = some o12))
      case atStart => exact ⟨0, 0, rfl, rfl, (Lib.hid (Below.refl _ _)), HL1⟩
      case round =>
        obtain ⟨x13, x14, rfl, rfl, HW1, HL1⟩ := hrel
        rename World => W17
        have hd := HW1.out
        replace HOA := Lib.hid (HOA.out.below hd)
        replace HD := Lib.hid (HD.out.trans (hd.mono HD.out.size))
        clear hd
        cases gk with
        | zero => exact absurd ((L3_TreeName_L1_0 ..).symm.trans HL1.out) (by intro h; cases h)
        | succ g1 =>
          replace HL1 := Lib.hid ((L3_TreeName_L1_s ..).symm.trans HL1.out)
          by_cases hc18 : x14 < ((y7).size : Int)
          · replace HL1 := Lib.hid (ifT hc18 HL1.out)
            have HK19 := Lib.hid hc18
            obtain ⟨y20, hy21, hm⟩ := obind HL1.out
            replace HL1 := Lib.hid hm; clear hm
            have HY25 := Lib.hid hy21
            obtain ⟨b24, f22, f23, f26, f27, hy21⟩ := sIx_some hy21; subst hy21
            rcases Bool.eq_false_or_eq_true (((b24.toNat : Nat) : Int) == 40) with hc28 | hc28
            · replace HL1 := Lib.hid (ifT hc28 HL1.out)
              have HK29 := Lib.hid hc28
              go_wp2_with fail
              try clear hc18 f22 f23 f26 f27 hc28
              go_roundg g1
              case measure => omega
              case rel => exact ⟨(wrap64 (x13 + 1)), (wrap64 (x14 + 1)), rfl, rfl, HW1, HL1⟩
            · replace HL1 := Lib.hid (ifF (bF hc28) HL1.out)
              have HK29 := Lib.hid hc28
              go_wp2_with fail
              try clear hc18 f22 f23 f26 f27 hc28
              go_roundg g1
              case measure => omega
              case rel => exact ⟨x13, (wrap64 (x14 + 1)), rfl, rfl, HW1, HL1⟩
          · replace HL1 := Lib.hid (ifF hc18 HL1.out)
            have hc18d := decide_eq_false hc18
            have HK19 := Lib.hid hc18
            obtain rfl := Option.some.inj HL1.out
            have hm := HM.out; try dsimp only at hm
            replace HM := Lib.hid hm; clear hm
            go_upto_region 13 with (fail)
            try clear hc18 hc18d
            obtain ⟨b30, hb, hm⟩ := obind HM.out
            replace HM := Lib.hid hm; have HB31 := Lib.hid hb; clear hm hb
            go_cut [49] (fun uq wr => uq = .bool b30 ∧ Hid (Below W17.heap.size W17 wr))
            case first =>
              have HWC32 := Lib.hid (Below.refl W17.heap.size W17)
              rcases Bool.eq_false_or_eq_true (((y7).size : Int) != (wrap64 (2 * v0))) with hc33 | hc33
              · replace HB31 := Lib.hid (ifT hc33 HB31.out)
                have HK34 := Lib.hid hc33
                cases Option.some.inj HB31.out
                try go_wp2_with fail
                go_meet
                case rel => exact ⟨rfl, HWC32⟩
              · replace HB31 := Lib.hid (ifF (bF hc33) HB31.out)
                have HK34 := Lib.hid hc33
                rcases Bool.eq_false_or_eq_true (x13 != v0) with hc35 | hc35
                · replace HB31 := Lib.hid (ifT hc35 HB31.out)
                  have HK36 := Lib.hid hc35
                  cases Option.some.inj HB31.out
                  try go_wp2_with fail
                  go_meet
                  case rel => exact ⟨rfl, HWC32⟩
                · replace HB31 := Lib.hid (ifF (bF hc35) HB31.out)
                  have HK36 := Lib.hid hc35
                  cases Option.some.inj HB31.out
                  try go_wp2_with fail
                  go_meet
                  case rel => exact ⟨rfl, HWC32⟩
            case rest =>
              obtain ⟨rfl, HWC32⟩ := hcut
              rename World => W37
              have hd := HWC32.out
              replace HOA := Lib.hid (HOA.out.below hd)
              replace HD := Lib.hid (HD.out.trans (hd.mono HD.out.size))
              clear hd
              cases b30
              · replace HM := Lib.hid (ifF Bool.false_ne_true HM.out)
                go_upto_region 15 with (fail)
                obtain ⟨b38, hb, hm⟩ := obind HM.out
                replace HM := Lib.hid hm; have HB39 := Lib.hid hb; clear hm hb
                go_cut [64] (fun uq wr => uq = .bool b38 ∧ Hid (Below W37.heap.size W37 wr))
                case first =>
                  have HWC40 := Lib.hid (Below.refl W37.heap.size W37)
                  obtain ⟨b41, hb, hm⟩ := obind HB39.out
                  replace HB39 := Lib.hid hm; have HB42 := Lib.hid hb; clear hm hb
                  rcases Bool.eq_false_or_eq_true (((v2).length : Int) != v0) with hc43 | hc43
                  · replace HB42 := Lib.hid (ifT hc43 HB42.out)
                    have HK44 := Lib.hid hc43
                    obtain rfl := Option.some.inj HB42.out
                    replace HB39 := Lib.hid (ifT (by first | rfl | trivial) HB39.out)
                    cases Option.some.inj HB39.out
                    try go_wp2_with fail
                    go_meet
                    case rel => exact ⟨rfl, HWC40⟩
                  · replace HB42 := Lib.hid (ifF (bF hc43) HB42.out)
                    have HK44 := Lib.hid hc43
                    obtain ⟨y47, hy45, hm⟩ := obind HB42.out
                    replace HB42 := Lib.hid hm; clear hm
                    have HC46 := R1_All_ok W37 cap2 (rdI HD.out HR2.out) hy45
                    clear hy45
                    replace HC46 := Lib.hid HC46
                    cases y47
                    · replace HB42 := Lib.hid (ifF Bool.false_ne_true HB42.out)
                      obtain rfl := Option.some.inj HB42.out
                      replace HB39 := Lib.hid (ifT (by first | rfl | trivial) HB39.out)
                      cases Option.some.inj HB39.out
                      go_wp2_with fail
                      refine HC46.out.mono ?_; rintro e w' ⟨rfl, rfl⟩
                      try go_wp2_with fail
                      go_meet
                      case rel => exact ⟨rfl, HWC40⟩
                    · replace HB42 := Lib.hid (ifT rfl HB42.out)
                      obtain rfl := Option.some.inj HB42.out
                      replace HB39 := Lib.hid (ifF (by first | exact Bool.false_ne_true | exact not_false) HB39.out)
                      obtain ⟨y50, hy48, hm⟩ := obind HB39.out
                      replace HB39 := Lib.hid hm; clear hm
                      have HC49 := R1_Twice_ok W37 cap2 (rdI HD.out HR2.out) HCAP2.out hy48
                      clear hy48
                      replace HC49 := Lib.hid HC49
                      go_wp2_with fail
                      refine HC46.out.mono ?_; rintro e w' ⟨rfl, rfl⟩
                      go_wp2_with fail
                      refine HC49.out.mono ?_; rintro e W51 ⟨rfl, hd⟩
                      try clear hc43
                      replace HOA := Lib.hid (HOA.out.below (hd.below _))
                      replace HD := Lib.hid (HD.out.trans ((hd.below _).mono HD.out.size))
                      replace HWC40 := Lib.hid (HWC40.out.trans ((hd.below _).mono HWC40.out.size))
                      clear hd
                      cases y50
                      · replace HB39 := Lib.hid (ifF Bool.false_ne_true HB39.out)
                        cases Option.some.inj HB39.out
                        try go_wp2_with fail
                        go_meet
                        case rel => exact ⟨rfl, HWC40⟩
                      · replace HB39 := Lib.hid (ifT rfl HB39.out)
                        cases Option.some.inj HB39.out
                        try go_wp2_with fail
                        go_meet
                        case rel => exact ⟨rfl, HWC40⟩
                case rest =>
                  obtain ⟨rfl, HWC40⟩ := hcut
                  rename World => W52
                  have hd := HWC40.out
                  replace HOA := Lib.hid (HOA.out.below hd)
                  replace HD := Lib.hid (HD.out.trans (hd.mono HD.out.size))
                  clear hd
                  cases b38
                  · replace HM := Lib.hid (ifF Bool.false_ne_true HM.out)
                    replace HOA := Lib.hid (show HP _ _ (.fl (owL (.slice none 0 0) ([])) :: _) from HOA.out.pushNil _ _)
                    go_wp2_with fail
                    obtain ⟨o54, ho, hm⟩ := obind HM.out
                    replace HM := Lib.hid hm; have HL2 := Lib.hid ho; clear hm ho
                    go_loopg [12, 13] F (fun gg ux57 ux58 wr => ∃ (x55 : List (Int × Int)) (x56 : Int) (V59 : Value), V59 = ux57 ∧ ux58 = .int .i64 x56 ∧ Hid (Below w.heap.size w wr) ∧ Hid (HP wr w.heap.size [.fl (owL V59 (x55))]) ∧ Hid (L3_TreeName_L2 F (v1) (v2) gg x55 x56 = some o54))
                    case atStart => exact ⟨[], (wrap64 (((v1).length : Int) - 1)), (.slice none 0 0), rfl, rfl, HD, HOA, HL2⟩
                    case round =>
                      obtain ⟨x55, x56, V59, rfl, rfl, HD, HOA, HL2⟩ := hrel
                      rename World => W60
                      cases gk with
                      | zero => exact absurd ((L3_TreeName_L2_0 ..).symm.trans HL2.out) (by intro h; cases h)
                      | succ g2 =>
                        replace HL2 := Lib.hid ((L3_TreeName_L2_s ..).symm.trans HL2.out)
                        by_cases hc61 : 0 ≤ x56
                        · replace HL2 := Lib.hid (ifT hc61 HL2.out)
                          have HK62 := Lib.hid hc61
                          try go_wp2_with fail
                          try clear hc61
                          obtain ⟨y63, hy64, hm⟩ := obind HL2.out
                          replace HL2 := Lib.hid hm; clear hm
                          obtain ⟨b65, o66, ea67, _, f68, f69, f70, f71⟩ := ReadsL.ix (rdL HD.out HR1.out) hy64
                          cases ea67
                          try simp only [Nat.zero_add, Nat.add_zero, Int.toNat_natCast, Int.toNat_zero, Int.toNat_one] at f70 f71
                          have HY72 := Lib.hid hy64; clear hy64
                          obtain ⟨y73, hy74, hm⟩ := obind HL2.out
                          replace HL2 := Lib.hid hm; clear hm
                          obtain ⟨b75, o76, ea77, _, f78, f79, f80⟩ := ReadsI.ix (rdI HD.out HR2.out) hy74
                          cases ea77
                          try simp only [Nat.zero_add, Nat.add_zero, Int.toNat_natCast, Int.toNat_zero, Int.toNat_one] at f80
                          have HY82 := Lib.hid hy74; clear hy74
                          obtain ⟨y83, hy84, hm⟩ := obind HL2.out
                          replace HL2 := Lib.hid hm; clear hm
                          obtain rfl := Option.some.inj (HY72.out.symm.trans hy84)
                          clear hy84
                          obtain ⟨y85, hy86, hm⟩ := obind HL2.out
                          replace HL2 := Lib.hid hm; clear hm
                          obtain ⟨b87, o88, ea89, _, f90, f91, f92⟩ := ReadsI.ix (rdI HD.out HR2.out) hy86
                          cases ea89
                          try simp only [Nat.zero_add, Nat.add_zero, Int.toNat_natCast, Int.toNat_zero, Int.toNat_one] at f92
                          have HY94 := Lib.hid hy86; clear hy86
                          obtain ⟨y95, hy96, hm⟩ := obind HL2.out
                          replace HL2 := Lib.hid hm; clear hm
                          obtain ⟨f97, hy96⟩ := app_some hy96; subst hy96
                          have HF100 := Lib.hid f97; clear f97
                          have hd1 := Dr.one W60
                          replace HOA := Lib.hid (HOA.out.dr hd1)
                          replace HD := Lib.hid (HD.out.trans (hd1.below _))
                          clear hd1
                          go_region_law (first | (refine hp_appL_st (World.drew W60) (.tmp 72) (.tmp 90) 22 Try.underlying22 rfl rfl (L1 := []) HOA.out (by simp [Act.eval, Act.put]) (by simp [Act.eval, Act.put]) HF100.out HD.out.size ?_; intro g101 cap102 W99 hoa hd; have HOA2 := Lib.hid hoa; have HD2 := Lib.hid hd; clear hoa hd))
                          all_goals
                            try clear f68 f69 f70 f71 f78 f79 f80 f90 f91 f92
                            replace HOA := Lib.hid (show HP W99 w.heap.size [.fl (owL (.slice (some ⟨g101, 0, none⟩) ((x55).length + 1) cap102) ((x55 ++ [(y73, y85)])))] from by have q := HOA2.out; (try simp only [i64w] at q); exact q); clear HOA2
                            replace HD := Lib.hid (HD.out.trans HD2.out); clear HD2
                            go_wp2_with fail
                            go_roundg g2
                            case measure => omega
                            case rel => exact ⟨(x55 ++ [(y73, y85)]), (wrap64 (x56 - 1)), (.slice (some ⟨g101, 0, none⟩) ((x55).length + 1) cap102), rfl, rfl, HD, HOA, HL2⟩
                        · replace HL2 := Lib.hid (ifF hc61 HL2.out)
                          have hc61d := decide_eq_false hc61
                          have HK62 := Lib.hid hc61
                          obtain rfl := Option.some.inj HL2.out
                          have hm := HM.out; try dsimp only at hm
                          replace HM := Lib.hid hm; clear hm
                          obtain ⟨⟨y105, y106⟩, hy103, hm⟩ := obind HM.out
                          dsimp only at hm
                          replace HM := Lib.hid hm; clear hm
                          obtain ⟨A107, cap108, he, _⟩ := HP.open_L HOA.out (List.Mem.head _)
                          subst he
                          have HC104 := tree_Name_ok W60 cap108 (HP.rd_L HOA.out (List.Mem.head _)) hy103
                          clear hy103
                          replace HC104 := Lib.hid HC104
                          go_wp2_with fail
                          refine HC104.out.mono ?_; rintro e W109 ⟨rfl, hd⟩
                          try clear hc61 hc61d
                          replace HOA := Lib.hid (HOA.out.below hd)
                          replace HD := Lib.hid (HD.out.trans (hd.mono HD.out.size))
                          clear hd
                          obtain ⟨b110, hb, hm⟩ := obind HM.out
                          replace HM := Lib.hid hm; have HB111 := Lib.hid hb; clear hm hb
                          by_cases hz112 : y106 = 0
                          · subst hz112
                            try simp only [errV_zero]
                            replace HB111 := Lib.hid (ifT (by decide) HB111.out)
                            rcases Bool.eq_false_or_eq_true (((y105).toList == (y7).toList)) with hc114 | hc114
                            · replace HB111 := Lib.hid (ifT hc114 HB111.out)
                              have HK115 := Lib.hid hc114
                              obtain rfl := Option.some.inj HB111.out
                              obtain rfl := Option.some.inj HM.out
                              go_wp2_with fail
                              go_ret
                              exact ⟨(by first | rfl | (refine congrArg (fun b => Ending.returned (Value.bool b)) ?_; first | (exact decide_eq_true (by omega)) | (exact decide_eq_false (by omega)) | (have q := hc114; rw [bne_iff_ne] at q ⊢; omega) | (have q := hc114; rw [bne_eq_false_iff_eq] at q ⊢; omega) | (have q := hc114; rw [beq_iff_eq] at q ⊢; omega) | (have q := hc114; rw [beq_eq_false_iff_ne] at q ⊢; omega) | exact hc114 | (rw [hc114]; rfl))), HD.out⟩
                            · replace HB111 := Lib.hid (ifF (bF hc114) HB111.out)
                              have HK115 := Lib.hid hc114
                              obtain rfl := Option.some.inj HB111.out
                              obtain rfl := Option.some.inj HM.out
                              go_wp2_with fail
                              go_ret
                              exact ⟨(by first | rfl | (refine congrArg (fun b => Ending.returned (Value.bool b)) ?_; first | (exact decide_eq_true (by omega)) | (exact decide_eq_false (by omega)) | (have q := hc114; rw [bne_iff_ne] at q ⊢; omega) | (have q := hc114; rw [bne_eq_false_iff_eq] at q ⊢; omega) | (have q := hc114; rw [beq_iff_eq] at q ⊢; omega) | (have q := hc114; rw [beq_eq_false_iff_ne] at q ⊢; omega) | exact hc114 | (rw [hc114]; rfl))), HD.out⟩
                          · try rw [errV_pos _ hz112]
                            have HZ113 := Lib.hid hz112; clear hz112
                            replace HB111 := Lib.hid (ifF (fun h => HZ113.out (eq_of_beq h)) HB111.out)
                            obtain rfl := Option.some.inj HB111.out
                            obtain rfl := Option.some.inj HM.out
                            go_wp2_with fail
                            go_ret
                            exact ⟨rfl, HD.out⟩
                  · replace HM := Lib.hid (ifT rfl HM.out)
                    obtain rfl := Option.some.inj HM.out
                    go_wp2_with fail
                    go_ret
                    exact ⟨rfl, HD.out⟩
              · replace HM := Lib.hid (ifT rfl HM.out)
                obtain rfl := Option.some.inj HM.out
                go_wp2_with fail
                go_ret
                exact ⟨rfl, HD.out⟩
    · try rw [errV_pos _ hz10]
      have HZ11 := Lib.hid hz10; clear hz10
      replace HM := Lib.hid (ifT (bne_iff_ne.2 HZ11.out) HM.out)
      obtain ⟨b116, hb, hm⟩ := obind HM.out
      replace HM := Lib.hid hm; have HB117 := Lib.hid hb; clear hm hb
      rcases Bool.eq_false_or_eq_true (((y7).toList.isEmpty)) with hc118 | hc118
      · replace HB117 := Lib.hid (ifT hc118 HB117.out)
        have HK119 := Lib.hid hc118
        obtain rfl := Option.some.inj HB117.out
        obtain rfl := Option.some.inj HM.out
        go_wp2_with fail
        go_ret
        exact ⟨(by first | rfl | (refine congrArg (fun b => Ending.returned (Value.bool b)) ?_; first | (exact decide_eq_true (by omega)) | (exact decide_eq_false (by omega)) | (have q := hc118; rw [bne_iff_ne] at q ⊢; omega) | (have q := hc118; rw [bne_eq_false_iff_eq] at q ⊢; omega) | (have q := hc118; rw [beq_iff_eq] at q ⊢; omega) | (have q := hc118; rw [beq_eq_false_iff_ne] at q ⊢; omega) | exact hc118 | (rw [hc118]; rfl))), HD.out⟩
      · replace HB117 := Lib.hid (ifF (bF hc118) HB117.out)
        have HK119 := Lib.hid hc118
        obtain rfl := Option.some.inj HB117.out
        obtain rfl := Option.some.inj HM.out
        go_wp2_with fail
        go_ret
        exact ⟨(by first | rfl | (refine congrArg (fun b => Ending.returned (Value.bool b)) ?_; first | (exact decide_eq_true (by omega)) | (exact decide_eq_false (by omega)) | (have q := hc118; rw [bne_iff_ne] at q ⊢; omega) | (have q := hc118; rw [bne_eq_false_iff_eq] at q ⊢; omega) | (have q := hc118; rw [beq_iff_eq] at q ⊢; omega) | (have q := hc118; rw [beq_eq_false_iff_ne] at q ⊢; omega) | exact hc118 | (rw [hc118]; rfl))), HD.out⟩
end Go.Proofs.Ytgnbholhgcbhfaa
